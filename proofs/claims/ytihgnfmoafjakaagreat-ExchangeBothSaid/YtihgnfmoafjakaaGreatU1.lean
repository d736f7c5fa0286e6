/- What the laws of this claim rest on: the abstract executor, its soundness, and what the functions compute on pure data. No condition. -/
import Derived.Orders
import Derived.WalkKit
import Derived.Test.YtihgnfmoafjakaaGreatProg
import Derived.Deep.MidRow
import Derived.Deep.AppendSrc
noncomputable section
set_option linter.unusedVariables false
set_option linter.unusedSimpArgs false
namespace Go.bo
inductive A where
 |any
 |int (k:IntKind) (n:Int)
 |bool (b:Bool)
 |str (s:List UInt8)
 |agg (cs:List A)
 |ab (es:List A)
 |clip (es:List A)
 |dK (cs:List A)
 |bT
 |uV
 |ref (n off:Nat)
 |h_ (n i off:Nat)
 |row (n off k len:Nat) (c:Bool)
 |fn (f:FuncId) (jW:List A)
 |cD (cs:List A)
 |emp (c:Bool)
instance:Inhabited A:=⟨.any⟩
inductive dj where
 |free
 |nil
 |loc (b k:Nat)
def A.cells:A->List A
 | .agg cs=>cs
 |x=>[x]
def cd:List A->Nat
 | []=>0
 |e::_=>e.cells.length
def A.mem(n:Nat):A->Bool
 | .ref m _=>m==n
 | .h_ m _ _=>m==n
 | .row m _ _ _ _=>m==n
 | .agg cs=>gm n cs
 | .fn _ cs=>gm n cs
 | .cD cs=>gm n cs
 |_=>false
where gm (n:Nat):List A->Bool
 | []=>false
 |c::cs=>c.mem n||gm n cs
def A.pure:A->Bool
 | .ref _ _=>false
 | .h_ _ _ _=>false
 | .row _ _ _ _ _=>false
 | .agg cs=>a_ cs
 | .fn _ cs=>a_ cs
 | .cD cs=>a_ cs
 |_=>true
where a_:List A->Bool
 | []=>true
 |c::cs=>c.pure&&a_ cs
mutual
theorem A.mN(n:Nat): ∀x:A,x.pure=true->x.mem n=false
 | .any,_=>rfl
 | .int _ _,_=>rfl
 | .bool _,_=>rfl
 | .str _,_=>rfl
 | .ab _,_=>rfl
 | .clip _,_=>rfl
 | .dK _,_=>rfl
 | .bT,_=>rfl
 | .uV,_=>rfl
 | .emp _,_=>rfl
 | .ref _ _,h=>by simp[A.pure]at h
 | .h_ _ _ _,h=>by simp[A.pure]at h
 | .row _ _ _ _ _,h=>by simp[A.pure]at h
 | .agg cs,h=>by simp only[A.mem];exact A.fH n cs (by simpa only[A.pure]using h)
 | .fn _ cs,h=>by simp only[A.mem];exact A.fH n cs (by simpa only[A.pure]using h)
 | .cD cs,h=>by simp only[A.mem];exact A.fH n cs (by simpa only[A.pure]using h)
theorem A.fH(n:Nat): ∀cs:List A,A.pure.a_ cs=true->A.mem.gm n cs=false
 | [],_=>rfl
 |c::cs,h=>by simp only[A.pure.a_,Bool.and_eq_true]at h;simp only[A.mem.gm,A.mN n c h.1,A.fH n cs h.2,Bool.or_self]
end
structure Env where
 N:Nat->Prop
 φ:List dj
 w:World
mutual
def aJ(E:Env):A->Value->Prop
 | .any,_=>True
 | .int k n,v=>v= .int k n
 | .bool b,v=>v= .bool b
 | .str s,v=>v= .string ⟨s.toArray⟩
 | .agg cs,v=> ∃vs:List Value,v= .agg vs.toArray/\aQ E cs vs/\ ∀u∈vs,u.oneCell'=true
 | .ab es,v=>A.pure.a_ es=true/\ ∃a cap,v= .slice a es.length cap/\es.length<=cap/\
  (es≠ []-> ∃b off,a=some ⟨b,off,none⟩/\b<E.w.heap.size/\ ¬E.N b/\eJ E (cd es) b off es)
 | .clip es,v=>A.pure.a_ es=true/\ ∃a,v= .slice a es.length es.length/\
  (es≠ []-> ∃b off,a=some ⟨b,off,none⟩/\b<E.w.heap.size/\ ¬E.N b/\eJ E (cd es) b off es)
 | .dK cs,v=>A.pure.a_ cs=true/\ ∃b off,v= .pointer (some ⟨b,off,none⟩)/\b<E.w.heap.size/\ ¬E.N b/\gn E b off cs
 | .bT,v=>v= .slice none 0 0
 | .uV,v=>v= .pointer none
 | .emp c,v=> ∃a cap,v= .slice a 0 cap/\a.isNone=c
 | .ref n off,v=> ∃b k,E.φ[n]? =some (.loc b k)/\v= .pointer (some ⟨b,off,none⟩)
 | .h_ n i off,v=> ∃b k,E.φ[n]? =some (.loc b k)/\v= .pointer (some ⟨b,i*k+off,none⟩)
 | .row n off k len cl,v=>
  (∃o,E.φ[n]? =some o/\o≠ .free/\len=0/\(o= .nil->off=0)/\ ∃a,v= .slice a 0 0)\/
  (∃b cap c e fr,E.φ[n]? =some (.loc b k)/\v= .slice (some ⟨b,off*k,none⟩) len cap/\len<=cap/\(cl=true->cap=len)/\
   E.w.heap[b]? =some (.cells c e fr)/\off*k+k*cap<=c.size)
 | .fn f jW,v=> ∃vs:List Value,v= .func (.func f) #[] vs.toArray/\aQ E jW vs
 | .cD cs,v=> ∃vs:List Value,v= .tuple vs.toArray/\aQ E cs vs
def aQ(E:Env):List A->List Value->Prop
 | [],vs=>vs=[]
 |c::cs,vs=> ∃v lB,vs=v::lB/\aJ E c v/\aQ E cs lB
def gn(E:Env)(b:Nat)(off:Nat):List A->Prop
 | []=>True
 |c::cs=>(∃v,E.w.cell? ⟨b,off,none⟩=some v/\v.oneCell'=true/\aJ E c v)/\gn E b (off+1) cs
def eJ(E:Env)(k:Nat)(b:Nat)(off:Nat):List A->Prop
 | []=>True
 | .agg cs::es=>(cs.length=k/\gn E b off cs)/\eJ E k b (off+k) es
 |e::es=>(k=1/\ ∃v,E.w.cell? ⟨b,off,none⟩=some v/\v.oneCell'=true/\aJ E e v)/\eJ E k b (off+k) es
end
theorem MH{E:Env}{k b off:Nat}{cs es:List A}:eJ E k b off (.agg cs::es)=((cs.length=k/\gn E b off cs)/\eJ E k b (off+k) es):=by simp[eJ]
structure Ext(K:Nat->Prop)(E E':Env):Prop where
 size:E.w.heap.size<=E'.w.heap.size
 MI: ∀b,b<E.w.heap.size-> ¬E.N b-> ¬E'.N b/\E'.w.heap[b]? =E.w.heap[b]?
 refs: ∀n o,K n->E.φ[n]? =some o->o≠ .free->E'.φ[n]? =some o
 own: ∀n b k c e fr,K n->E.φ[n]? =some (.loc b k)->E.w.heap[b]? =some (.cells c e fr)-> ∃c' Qj,E'.w.heap[b]? =some (.cells c' e Qj)/\c'.size=c.size
theorem Ext.cell{K:Nat->Prop}{E E':Env}(h:Ext K E E'){b off:Nat}(hb:b<E.w.heap.size)(hn: ¬E.N b):
 E'.w.cell? ⟨b,off,none⟩=E.w.cell? ⟨b,off,none⟩:=by
 simp only[World.cell?,(h.MI b hb hn).2]
mutual
theorem aJ.mono{K:Nat->Prop}{E E':Env}(h:Ext K E E'): ∀(x:A) (v:Value),aJ E x v->(∀n,x.mem n=true->K n)->aJ E' x v
 | .any,_,_,_=>by simp only[aJ]
 | .int _ _,v,hr,_=>by simpa only[aJ]using hr
 | .bool _,v,hr,_=>by simpa only[aJ]using hr
 | .str _,v,hr,_=>by simpa only[aJ]using hr
 | .bT,v,hr,_=>by simpa only[aJ]using hr
 | .uV,v,hr,_=>by simpa only[aJ]using hr
 | .emp _,v,hr,_=>by simpa only[aJ]using hr
 | .agg cs,v,hr,hk=>by simp only[aJ]at hr⊢;obtain⟨vs,hv,hl,h1⟩:=hr;exact⟨vs,hv,aQ.mono h cs vs hl (fun n hn=>hk n (by simpa only[A.mem]using hn)),h1⟩
 | .fn f cs,v,hr,hk=>by simp only[aJ]at hr⊢;obtain⟨vs,hv,hl⟩:=hr;exact⟨vs,hv,aQ.mono h cs vs hl (fun n hn=>hk n (by simpa only[A.mem]using hn))⟩
 | .cD cs,v,hr,hk=>by simp only[aJ]at hr⊢;obtain⟨vs,hv,hl⟩:=hr;exact⟨vs,hv,aQ.mono h cs vs hl (fun n hn=>hk n (by simpa only[A.mem]using hn))⟩
 | .ab es,v,hr,_=>by
  simp only[aJ]at hr⊢;obtain⟨hp,a,cap,hv,hc,hl⟩:=hr;refine⟨hp,a,cap,hv,hc,fun cg=> ?_⟩
  obtain⟨b,off,ha,hb,hn,he⟩:=hl cg;exact⟨b,off,ha,Nat.lt_of_lt_of_le hb h.size,(h.MI b hb hn).1,eJ.mono h (cd es) b off es hb hn he (fun n hn=>by rw[A.fH n es hp]at hn;cases hn)⟩
 | .clip es,v,hr,_=>by
  simp only[aJ]at hr⊢;obtain⟨hp,a,hv,hl⟩:=hr;refine⟨hp,a,hv,fun cg=> ?_⟩
  obtain⟨b,off,ha,hb,hn,he⟩:=hl cg;exact⟨b,off,ha,Nat.lt_of_lt_of_le hb h.size,(h.MI b hb hn).1,eJ.mono h (cd es) b off es hb hn he (fun n hn=>by rw[A.fH n es hp]at hn;cases hn)⟩
 | .dK cs,v,hr,_=>by simp only[aJ]at hr⊢;obtain⟨hp,b,off,hv,hb,hn,he⟩:=hr;exact⟨hp,b,off,hv,Nat.lt_of_lt_of_le hb h.size,(h.MI b hb hn).1,gn.mono h b off cs hb hn he (fun n hn=>by rw[A.fH n cs hp]at hn;cases hn)⟩
 | .ref n off,v,hr,hk=>by simp only[aJ]at hr⊢;obtain⟨b,k,hb,hv⟩:=hr;exact⟨b,k,h.refs n _ (hk n (by simp[A.mem])) hb (by simp),hv⟩
 | .h_ n i off,v,hr,hk=>by simp only[aJ]at hr⊢;obtain⟨b,k,hb,hv⟩:=hr;exact⟨b,k,h.refs n _ (hk n (by simp[A.mem])) hb (by simp),hv⟩
 | .row n off k len cl,v,hr,hk=>by
  simp only[aJ]at hr⊢;rcases hr with⟨o,hb,hf,r⟩|⟨b,cap,c,e,fr,hb,hv,rQ,jV,hc,hs⟩
  · exact .inl ⟨o,h.refs n _ (hk n (by simp[A.mem])) hb hf,hf,r⟩
  · obtain⟨c',Qj,wQ,Qk⟩:=h.own n b k c e fr (hk n (by simp[A.mem])) hb hc
    exact .inr ⟨b,cap,c',e,Qj,h.refs n _ (hk n (by simp[A.mem])) hb (by simp),hv,rQ,jV,wQ,by omega⟩
theorem aQ.mono{K:Nat->Prop}{E E':Env}(h:Ext K E E'): ∀(cs:List A) (vs:List Value),aQ E cs vs->(∀n,A.mem.gm n cs=true->K n)->aQ E' cs vs
 | [],_,hr,_=>by simpa only[aQ]using hr
 |c::cs,vs,hr,hk=>by simp only[aQ]at hr⊢;obtain⟨v,lB,hv,hc,hl⟩:=hr;exact⟨v,lB,hv,aJ.mono h c v hc (fun n hn=>hk n (by simp[A.mem.gm,hn])),aQ.mono h cs lB hl (fun n hn=>hk n (by simp[A.mem.gm,hn]))⟩
theorem gn.mono{K:Nat->Prop}{E E':Env}(h:Ext K E E'): ∀(b off:Nat) (cs:List A),b<E.w.heap.size-> ¬E.N b->gn E b off cs->(∀n,A.mem.gm n cs=true->K n)->gn E' b off cs
 |_,_,[],_,_,_,_=>by simp only[gn]
 |b,off,c::cs,hb,hn,hr,hk=>by simp only[gn]at hr⊢;obtain⟨⟨v,hv,h1,hc⟩,hl⟩:=hr;exact⟨⟨v,by rw[h.cell hb hn];exact hv,h1,aJ.mono h c v hc (fun n hn=>hk n (by simp[A.mem.gm,hn]))⟩,gn.mono h b (off+1) cs hb hn hl (fun n hn=>hk n (by simp[A.mem.gm,hn]))⟩
theorem eJ.mono{K:Nat->Prop}{E E':Env}(h:Ext K E E'): ∀(k b off:Nat) (es:List A),b<E.w.heap.size-> ¬E.N b->eJ E k b off es->(∀n,A.mem.gm n es=true->K n)->eJ E' k b off es
 |_,_,_,[],_,_,_,_=>by simp only[eJ]
 |k,b,off,e::es,hb,hn,hr,hk=>by
  cases e
  case agg cs=>
   rw[MH]at hr⊢;obtain⟨⟨hlen,hm⟩,hl⟩:=hr;exact⟨⟨hlen,gn.mono h b off cs hb hn hm (fun n hn=>hk n (by simp[A.mem.gm,A.mem,hn]))⟩,eJ.mono h k b (off+k) es hb hn hl (fun n hn=>hk n (by simp[A.mem.gm,hn]))⟩
  all_goals
   simp only[eJ]at hr⊢;obtain⟨⟨lC,v,hv,h1,hc⟩,hl⟩:=hr;exact⟨⟨lC,v,by rw[h.cell hb hn];exact hv,h1,aJ.mono h _ v hc (fun n hn=>hk n (by simp[A.mem.gm,hn]))⟩,eJ.mono h k b (off+k) es hb hn hl (fun n hn=>hk n (by simp[A.mem.gm,hn]))⟩
end
inductive Obj where
 |box (cs:List A)
 |row (k:Nat) (es:List A)
instance:Inhabited Obj:=⟨.row 0 []⟩
structure St where
 s:List (Nat×A)
 H:List Obj
def toA1:Value->A
 | .int k n=> .int k n
 | .bool b=> .bool b
 | .string s=> .str s.data.toList
 | .slice none 0 0=> .bT
 | .pointer none=> .uV
 | .func (.func f) ⟨[]⟩ ⟨[]⟩=> .fn f []
 | .tuple ⟨[]⟩=> .cD []
 |_=> .any
def toA:Value->A
 | .agg ⟨cs⟩=>if cs.all (·.oneCell')then .agg (cs.map toA1)else .any
 |v=>toA1 v
def look:List (Nat×A)->Nat->A
 | [],_=> .any
 |(d,v)::r,t=>if d=t then v else look r t
def cC:List A->Nat->A->List A
 | [],_,_=>[]
 |_::xs,0,v=>v::xs
 |x::xs,n+1,v=>x::cC xs n v
def cn:List Obj->Nat->Option Obj
 | [],_=>none
 |x::_,0=>some x
 |_::xs,n+1=>cn xs n
def kQ:List Obj->Nat->Obj->List Obj
 | [],_,_=>[]
 |_::xs,0,v=>v::xs
 |x::xs,n+1,v=>x::kQ xs n v
def St.ev(σ:St):Operand->A
 | .tmp t=>look σ.s t
 | .const v=>toA v
 | .func f=> .fn f []
 | .global _=> .any
def St.put(σ:St)(d:Option Tmp)(v:A):St:=
 match d with
 |some d=>{σ with s:=(d,v)::σ.s}
 |none=>σ
def St.dc(σ:St)(n:Nat)(o:Obj):St:={σ with H:=kQ σ.H n o}
def bF(P:Program)(t:TypeId):Option Bool:=
 match P.underlying t with
 |some (.struct _)=>some true
 |some (.array _ _)=>some true
 |some _=>some false
 |none=>none
def ba(P:Program)(t:TypeId):Option Nat:=(P.info? t).map (·.size)
def fk(P:Program)(t:TypeId):Nat:=P.bytesOf t
def aX(P:Program)(t:TypeId):Option TypeId:=
 match P.underlying t with
 |some (.slice e)=>some e
 |_=>none
def fi(P:Program)(t:TypeId):Option (Nat×TypeId):=
 match P.underlying t with
 |some (.array n e)=>some (n,e)
 |_=>none
def fieldInfo(P:Program)(s:TypeId)(f:Nat):Option (Nat×TypeId):=
 match P.underlying s with
 |some (.struct fs)=>(fs[f]?).bind fun x=>if ba P x.type=some 0 then none else if(ba P x.type).isNone then none else some (x.offset,x.type)
 |_=>none
def dQ(P:Program)(t:TypeId):Option A:=(P.info? t).bind fun i=>i.zero.map toA
def fO(P:Program)(t:TypeId):Bool:=
 match P.underlying t with
 |some .string=>true
 |_=>false
def gp(P:Program)(t:TypeId):Bool:=
 match P.underlying t with
 |some .bool=>true
 |_=>false
def jB(P:Program)(t:TypeId):Bool:=
 match P.underlying t with
 |some (.pointer _)=>true
 |_=>false
def ph(P:Program)(t:TypeId):Option IntKind:=
 match P.underlying t with
 |some (.int k)=>some k
 |_=>none
def j0(P:Program)(t:TypeId)(cs:List A):Option A:=
 match bF P t with
 |some true=>
  match ba P t with
  |some n=>if n<=cs.length then some (.agg (cs.take n))else none
  |none=>none
 |some false=>cs.head?
 |none=>none
def A.val:A->Bool
 | .any=>false
 | .cD _=>false
 |_=>true
def A.flat:A->Bool
 | .int _ _=>true
 | .bool _=>true
 | .str _=>true
 | .bT=>true
 | .uV=>true
 | .agg cs=>s7 cs
 | .cD cs=>s7 cs
 |_=>false
where s7:List A->Bool
 | []=>true
 |c::cs=>c.flat&&s7 cs
def iM(c:UInt8):A:= .int .u8 c.toNat
def dC(s:List UInt8):List A:=s.map iM
def uW:A->Option UInt8
 | .int .u8 n=>some (UInt8.ofNat n.toNat)
 |_=>none
def fP:List A->Option (List UInt8)
 | []=>some []
 |x::xs=>(uW x).bind fun b=>(fP xs).map (b:: ·)
def Vj:A->A->Option Bool
 | .int k a,.int k' b=>if k=k' then some (a==b)else none
 | .bool a,.bool b=>some (a==b)
 | .str a,.str b=>some (a==b)
 |_,_=>none
def wV:List A->List A->Option Bool
 | [],[]=>some true
 |x::xs,y::ys=>(Vj x y).bind fun a=>(wV xs ys).map (a&& ·)
 |_,_=>none
inductive CK where
 |int (k:IntKind)
 |bool
 |str
 deriving DecidableEq
def CK.has:CK->A->Bool
 | .int k,.int k' _=>k==k'
 | .bool,.bool _=>true
 | .str,.str _=>true
 |_,_=>false
def eR:List CK->List A->Bool
 | [],[]=>true
 |c::cs,x::xs=>c.has x&&eR cs xs
 |_,_=>false
def A.MJ:A->Bool
 | .ref _ _=>true
 | .h_ _ _ _=>true
 | .dK _=>true
 |_=>false
def tC(op:BinOp)(k:IntKind)(a b:Int):Option A:=
 match op with
 | .add=>some (.int k (k.wrap (a+b)))
 | .sub=>some (.int k (k.wrap (a-b)))
 | .mul=>some (.int k (k.wrap (a*b)))
 | .quo=>if b=0 then none else some (.int k (k.wrap (a.tdiv b)))
 | .rem=>if b=0 then none else some (.int k (a.tmod b))
 | .and=>some (.int k (k.wrap ((BitVec.ofInt k.bits a&&&BitVec.ofInt k.bits b).toNat)))
 | .or=>some (.int k (k.wrap ((BitVec.ofInt k.bits a|||BitVec.ofInt k.bits b).toNat)))
 | .xor=>some (.int k (k.wrap ((BitVec.ofInt k.bits a^^^BitVec.ofInt k.bits b).toNat)))
 | .andNot=>some (.int k (k.wrap ((BitVec.ofInt k.bits a&&&~~~ BitVec.ofInt k.bits b).toNat)))
 | .eql=>some (.bool (a==b))
 | .neq=>some (.bool (a !=b))
 | .lss=>some (.bool (decide (a<b)))
 | .leq=>some (.bool (decide (a<=b)))
 | .gtr=>some (.bool (decide (b<a)))
 | .geq=>some (.bool (decide (b<=a)))
 |_=>none
def binS(op:BinOp)(a b:List UInt8):Option A:=
 match op with
 | .add=>if a.length+b.length<=9223372036854775807 then some (.str (a++b))else none
 | .eql=>some (.bool (a==b))
 | .neq=>some (.bool (a !=b))
 | .lss=>some (.bool (Op.bytesLess a b))
 | .leq=>some (.bool (Op.bytesLess a b||a==b))
 | .gtr=>some (.bool !(Op.bytesLess a b||a==b))
 | .geq=>some (.bool !(Op.bytesLess a b))
 |_=>none
def Tv(sl:Bool)(op:BinOp)(c:Bool):Option A:=
 if sl=true then
  match op with
  | .eql=>some (.bool c)
  | .neq=>some (.bool !c)
  |_=>none
 else none
def fQ(ks:Option (List CK))(bl ptr sl:Bool)(op:BinOp):A->A->Option A
 | .int k a,.int k' b=>
  match op with
  | .shl=>if b<0 then none else some (.int k (k.wrap (a*2^(min b.toNat k.bits))))
  | .shr=>if b<0 then none else some (.int k (a.fdiv (2^(min b.toNat k.bits))))
  |_=>if k=k' then tC op k a b else none
 | .bool a,.bool b=>
  if bl=true then
   match op with
   | .eql=>some (.bool (a==b))
   | .neq=>some (.bool (a !=b))
   |_=>none
  else none
 | .str a,.str b=>binS op a b
 | .agg xs,.agg ys=>
  match ks with
  |some l=>
   if eR l xs=true/\eR l ys=true then
    match op with
    | .eql=>(wV xs ys).map .bool
    | .neq=>(wV xs ys).map fun b=> .bool !b
    |_=>none
   else none
  |none=>none
 | .uV,y=>
  if ptr then
   match op with
   | .eql=>match y with| .uV=>some (.bool true)|_=>if y.MJ then some (.bool false)else none
   | .neq=>match y with| .uV=>some (.bool false)|_=>if y.MJ then some (.bool true)else none
   |_=>none
  else none
 |x,.uV=>
  if ptr&&x.MJ then
   match op with
   | .eql=>some (.bool false)
   | .neq=>some (.bool true)
   |_=>none
  else none
 | .emp c,.bT=>Tv sl op c
 | .ab (_::_),.bT=>Tv sl op false
 |_,_=>none
def unA(op:UnOp):A->Option A
 | .bool b=>match op with| .not=>some (.bool !b)|_=>none
 | .int k n=>match op with| .neg=>some (.int k (k.wrap (0-n)))|_=>none
 |_=>none
def Vk(rec:TypeId->Option (List CK))(size:TypeId->Option Nat):List Field->Nat->Option (List CK)
 | [],_=>some []
 |f::fs,off=>
  if f.name= "_" \/f.offset≠off then none else
  match rec f.type,size f.type with
  |some ks,some n=>if ks.length=n then(Vk rec size fs (off+n)).map (ks++ ·)else none
  |_,_=>none
def Vl(P:Program):Nat->TypeId->Option (List CK)
 |0,_=>none
 |d+1,t=>
  match P.underlying t with
  |some .bool=>some [.bool]
  |some (.int k)=>some [.int k]
  |some .string=>some [.str]
  |some (.struct fs)=>if P.stoodInHeld t=true then none else Vk (Vl P d) (ba P) fs.toList 0
  |_=>none
def pF(P:Program)(t:TypeId):Option (List CK):=if P.eqGuardType P.depth t=true\/bF P t≠some true then none else Vl P 10 t
def jj:A->A
 | .bT=> .ab []
 | .emp _=> .ab []
 | .clip es=> .ab es
 |x=>x
def A.norm:A->A
 | .agg cs=> .agg (cs.map jj)
 |x=>jj x
def gO(H:List Obj)(n off k len:Nat):Option A:=
 match cn H n with
 |some (.row k' es)=>if k'=k/\off+len<=es.length/\k≠0 then some (.ab ((es.drop off).take len))else none
 |_=>none
def j4(H:List Obj):A->Option A
 | .row n off k len _=>gO H n off k len
 | .ref _ _=>none
 | .h_ _ _ _=>none
 | .agg _=>none
 | .cD _=>none
 | .fn _ _=>none
 | .bT=>some (.ab [])
 | .emp _=>some (.ab [])
 | .clip es=>some (.ab es)
 |x=>some x
def eK(H:List Obj):List A->Option (List A)
 | []=>some []
 |x::xs=>(j4 H x).bind fun y=>(eK H xs).map (y:: ·)
def l6(H:List Obj):A->Option A
 | .ref n off=>
  match cn H n with
  |some (.box cs)=>(eK H (cs.drop off)).map .dK
  |_=>none
 | .h_ n i off=>
  match cn H n with
  |some (.row _ es)=>(es[i]?).map fun e=> .dK (e.cells.drop off)
  |_=>none
 | .agg cs=>(eK H cs).map .agg
 |x=>j4 H x
def iY(H:List Obj):List A->Option (List A)
 | []=>some []
 |x::xs=>(l6 H x).bind fun y=>(iY H xs).map (y:: ·)
def view(H:List Obj):A->Option A
 | .fn f cs=>(iY H cs).map (.fn f ·)
 |x=>l6 H x
def iG(H:List Obj):List A->Option (List A)
 | []=>some []
 |x::xs=>(view H x).bind fun y=>(iG H xs).map (y:: ·)
def dm(i:Int)(es:List A):Option A:=if 0<=i then es[i.toNat]? else none
inductive Bd where
 |none
 |some (n:Int)
 |bad
def XQ:A->Bd
 | .int _ n=> .some n
 |_=> .bad
def St.bd(σ:St):Option Operand->Bd
 |Option.none=> .none
 |Option.some x=>XQ (σ.ev x)
def Bd.get(d:Int):Bd->Int
 | .some n=>n
 |_=>d
def Bd.ok:Bd->Bool
 | .bad=>false
 |_=>true
def Bd.ok3:Bd->Bool
 | .some _=>true
 |_=>false
def lj(k:Nat)(es:List A):Bool:=es.isEmpty||cd es==k
def Jl(s:List UInt8)(lo hi mx:Bd):Option A:=
 match mx with
 | .none=>if 0<=lo.get 0/\lo.get 0<=hi.get s.length/\hi.get s.length<=s.length then some (.str ((s.take (hi.get s.length).toNat).drop (lo.get 0).toNat))else none
 |_=>none
def wW(k:Nat)(es:List A)(lo hi mx:Bd):Option A:=
 match mx with
 | .none=>if lj k es=true/\0<=lo.get 0/\lo.get 0<=hi.get es.length/\hi.get es.length<=es.length then some (.ab ((es.take (hi.get es.length).toNat).drop (lo.get 0).toNat))else none
 | .some m=>if lj k es=true/\0<=lo.get 0/\lo.get 0<=hi.get es.length/\hi.get es.length<=es.length/\m=hi.get es.length/\hi.ok3=true then some (.clip ((es.take (hi.get es.length).toNat).drop (lo.get 0).toNat))else none
 | .bad=>none
def Jm(n off k len:Nat)(lo hi mx:Bd):Option A:=
 match mx with
 | .none=>if 0<=lo.get 0/\lo.get 0<=hi.get len/\hi.get len<=len then some (.row n (off+(lo.get 0).toNat) k (hi.get len-lo.get 0).toNat false)else none
 | .some m=>if 0<=lo.get 0/\lo.get 0<=hi.get len/\hi.get len<=len/\m=hi.get len/\hi.ok3=true then some (.row n (off+(lo.get 0).toNat) k (hi.get len-lo.get 0).toNat true)else none
 | .bad=>none
def tD(st:Bool)(sz:Option Nat)(x:A)(lo hi mx:Bd):Option A:=
 match x with
 | .str s=>if st=true then Jl s lo hi mx else none
 | .ab es=>match sz with|some k=>wW k es lo hi mx|none=>none
 | .clip es=>match sz with|some k=>wW k es lo hi mx|none=>none
 | .row n off k' len _=>match sz with|some k=>if k=k' then Jm n off k len lo hi mx else none|none=>none
 |_=>none
def tE(P:Program)(t:TypeId):Option Nat:=
 match aX P t with
 |some e=>ba P e
 |none=>none
def MK(c a b:A):Option A:=
 match c with
 | .bool t=>some (if t then a else b)
 |_=>none
def uX(size:Option Nat)(off:Nat)(x:A)(zs:List A):Option (List A):=
 match size with
 |some n=>if x.cells.length=n/\off+n<=zs.length/\x.val=true then some (zs.take off++x.cells++zs.drop (off+n))else none
 |none=>none
def kB(P:Program)(t:TypeId)(σ:St):List (Nat×Operand)->List A->Option (List A)
 | [],zs=>some zs
 |(i,x)::ps,zs=>
  match fieldInfo P t i with
  |some (o,ft)=>(uX (ba P ft) o (σ.ev x) zs).bind (kB P t σ ps)
  |none=>none
def kC(P:Program)(e:TypeId)(σ:St):List (Nat×Operand)->List A->Option (List A)
 | [],zs=>some zs
 |(i,x)::ps,zs=>
  match ba P e with
  |some n=>(uX (some n) (i*n) (σ.ev x) zs).bind (kC P e σ ps)
  |none=>none
def jk(k:Nat)(σ:St):List (Nat×Operand)->List A->Option (List A)
 | [],zs=>some zs
 |(i,x)::ps,zs=>if(σ.ev x).cells.length=k/\i<zs.length/\(σ.ev x).val=true/\(σ.ev x).pure=true then jk k σ ps (cC zs i (σ.ev x).norm)else none
def iN(P:Program)(t:TypeId):Bool:=
 match P.underlying t with
 |some (.struct fs)=>fs.toList.all fun f=>(ba P f.type).isSome
 |_=>false
def pX(P:Program)(t:TypeId)(σ:St)(parts:List (Nat×Operand)):Option A:=
 match dQ P t with
 |some (.agg zs)=>
  match fi P t with
  |some (_,e)=>if(ba P e).isSome=true then(kC P e σ parts zs).map .agg else none
  |none=>if iN P t=true then(kB P t σ parts zs).map .agg else none
 |_=>none
def fD(P:Program)(t:TypeId)(len:Nat)(σ:St)(parts:List (Nat×Operand)):Option A:=
 match aX P t with
 |some e=>
  match ba P e,dQ P e with
  |some k,some z=>if len*k<=16777216/\k≠0/\z.pure=true/\z.val=true/\z.cells.length=k then(jk k σ parts (List.replicate len z.norm)).map .clip else none
  |_,_=>none
 |none=>none
def s8(P:Program)(t:TypeId)(H:List Obj)(a:A):Option A:=
 match a with
 | .dK cs=>j0 P t cs
 | .ref n off=>match cn H n with|some (.box cs)=>j0 P t (cs.drop off)|_=>none
 | .h_ n i off=>match cn H n with|some (.row _ es)=>(es[i]?).bind fun e=>j0 P t (e.cells.drop off)|_=>none
 |_=>none
def wX(x:A):Option A:=
 match x with
 | .dK cs=>some (.dK cs)
 | .ref n off=>some (.ref n off)
 | .h_ n i off=>some (.h_ n i off)
 | .fn f cs=>some (.fn f cs)
 |_=>none
def uY(P:Program)(src dst:TypeId):Bool:=(aX P src).any (fun e=>ph P e=some .u8)&&fO P dst
def l7(b:Bool)(x:Option A):Option A:=
 if b=true then
  match x with
  |some (.ab es)=>(fP es).map .str
  |_=>none
 else none
def nz(P:Program)(src dst:TypeId)(H:List Obj)(x:A):Option A:=
 match x with
 | .int _ n=>match ph P dst with|some k=>if(bF P src).isSome=true then some (.int k (k.wrap n))else none|none=>none
 | .str s=>if fO P src&&fO P dst then some (.str s)else none
 | .ab es=>l7 (uY P src dst) (view H (.ab es))
 | .clip es=>l7 (uY P src dst) (view H (.clip es))
 | .bT=>l7 (uY P src dst) (view H .bT)
 | .row n off k len c=>l7 (uY P src dst) (view H (.row n off k len c))
 |_=>none
def j7(o:Nat)(x:A):Option A:=
 match x with
 | .dK cs=>some (.dK (cs.drop o))
 | .ref n off=>some (.ref n (off+o))
 | .h_ n i off=>some (.h_ n i (off+o))
 |_=>none
def j8(i:Option (Nat×TypeId))(x:A):Option A:=
 match i with
 |some (o,_)=>j7 o x
 |none=>none
def Ql(P:Program)(i:Option (Nat×TypeId))(x:A):Option A:=
 match i,x with
 |some (o,t),.agg cs=>j0 P t (cs.drop o)
 |_,_=>none
def Vm(k:Nat)(i:Int)(es:List A):Option A:=(dm i es).bind fun y=>if k=y.cells.length then some (.dK y.cells)else none
def l8(k:Nat)(i:Int)(x:A):Option A:=
 match x with
 | .ab es=>Vm k i es
 | .clip es=>Vm k i es
 | .row n off k' len _=>if k=k'/\0<=i/\i<len then some (.h_ n (off+i.toNat) 0)else none
 |_=>none
def oe(n k:Nat)(i:Int)(x:A):Option A:=
 match x with
 | .ref m off=>if 0<=i/\i<n then some (.ref m (off+i.toNat*k))else none
 | .dK cs=>if 0<=i/\i<n then some (.dK (cs.drop (i.toNat*k)))else none
 |_=>none
def l9(P:Program)(t:TypeId)(x ix:A):Option A:=
 match ix with
 | .int _ i=>
  match aX P t with
  |some e=>match ba P e with|some k=>l8 k i x|none=>none
  |none=>
   match fi P t with
   |some (n,e)=>match ba P e with|some k=>oe n k i x|none=>none
   |none=>none
 |_=>none
def wY(P:Program)(t:TypeId)(x ix:A):Option A:=
 match ix,x with
 | .int _ i,.str s=>if fO P t=true/\0<=i then(s[i.toNat]?).map iM else none
 | .int _ i,.agg cs=>
  match fi P t with
  |some (n,e)=>match ba P e with|some k=>if 0<=i/\i<n then j0 P e (cs.drop (i.toNat*k))else none|none=>none
  |none=>none
 |_,_=>none
def pY(x:A)(ix:Nat):Option A:=
 match x with
 | .cD cs=>cs[ix]?
 |_=>none
def Qm(P:Program)(t:TypeId)(x:A):Option A:=
 match x with
 | .str s=>if fO P t=true then some (.int .i64 s.length)else none
 | .ab es=>if(aX P t).isSome=true then some (.int .i64 es.length)else none
 | .clip es=>if(aX P t).isSome=true then some (.int .i64 es.length)else none
 | .row _ _ _ len _=>if(aX P t).isSome=true then some (.int .i64 len)else none
 | .bT=>if(aX P t).isSome=true then some (.int .i64 0)else none
 |_=>match fi P t with|some (n,_)=>some (.int .i64 n)|none=>none
def XR:List A->Option A
 | [.int k a,.int _ b]=>some (.int k (if b<a then b else a))
 |_=>none
def XS:List A->Option A
 | [.int k a,.int _ b]=>some (.int k (if b>a then b else a))
 |_=>none
def nA(fn:Fn)(first captured:List A):Option A:=
 match fn,first with
 | .func f,[]=>some (.fn f captured)
 |_,_=>none
def St.mF(σ:St):List Operand->List A
 | []=>[]
 |x::xs=>σ.ev x::σ.mF xs
def pk(P:Program)(σ:St):Op->Option A
 | .move x=>some (σ.ev x)
 | .assign x=>some (σ.ev x)
 | .pick c a b=>MK (σ.ev c) (σ.ev a) (σ.ev b)
 | .build t parts=>pX P t σ parts.toList
 | .buildSlice t len parts=>fD P t len σ parts.toList
 | .load t a=>s8 P t σ.H (σ.ev a)
 | .nilCheck x=>wX (σ.ev x)
 | .binOp op t x y _=>fQ (pF P t) (gp P t) (jB P t) (aX P t).isSome op (σ.ev x) (σ.ev y)
 | .unOp op _ x=>unA op (σ.ev x)
 | .convert src dst x=>nz P src dst σ.H (σ.ev x)
 | .makeFunc fn first captured=>nA fn (σ.mF first.toList) (σ.mF captured.toList)
 | .slice t x lo hi mx=>if(fi P t).isNone=true/\(σ.bd lo).ok=true/\(σ.bd hi).ok=true then tD (fO P t) (tE P t) (σ.ev x) (σ.bd lo) (σ.bd hi) (σ.bd mx)else none
 | .fieldAddr s x f=>j8 (fieldInfo P s f) (σ.ev x)
 | .field s x f=>Ql P (fieldInfo P s f) (σ.ev x)
 | .indexAddr t x ix=>l9 P t (σ.ev x) (σ.ev ix)
 | .index t x ix=>wY P t (σ.ev x) (σ.ev ix)
 | .extract t ix=>pY (σ.ev t) ix
 | .call ⟨.builtin .len,⟨[x]⟩,⟨[t]⟩⟩=>Qm P t (σ.ev x)
 | .call ⟨.builtin .min,⟨xs⟩,_⟩=>XR (σ.mF xs)
 | .call ⟨.builtin .max,⟨xs⟩,_⟩=>XS (σ.mF xs)
 |_=>none
def zY(P:Program)(σ:St)(e tx:TypeId)(k:Nat)(x:A):Option (List A):=
 match x with
 | .ab es=>if lj k es=true/\(aX P tx).isSome=true then some es else none
 | .clip es=>if lj k es=true/\(aX P tx).isSome=true then some es else none
 | .bT=>if(aX P tx).isSome=true then some []else none
 | .emp _=>if(aX P tx).isSome=true then some []else none
 | .row n off k' len _=>if k'=k/\(aX P tx).isSome=true then(match gO σ.H n off k len with|some (.ab es)=>some es|_=>none)else none
 | .str s=>if ph P e=some .u8/\k=1/\fO P tx=true then some (dC s)else none
 |_=>none
def eo(n:Nat)(x:A):A:=if x.mem n then .any else x
def og(n:Nat):Obj->Obj
 | .box cs=> .box (cs.map (eo n))
 |o=>o
def St.fR(σ:St)(n:Nat):St:={s:=σ.s.map (fun p=>(p.1,eo n p.2)),H:=σ.H.map (og n)}
def oh(fx:Nat->Bool)(σ:St)(name:Nat)(d:Option Tmp)(k bytes:Nat)(base:A)(src:List A):Option St:=
 match base with
 | .bT=>if src.length*bytes<=140737488355328 then some ((σ.dc name (.row k src)).put d (.row name 0 k src.length false))else none
 | .clip es=>if lj k es=true/\(es=[]\/src≠ [])/\(es.length+src.length)*bytes<=140737488355328 then
  some ((σ.dc name (.row k (es++src))).put d (.row name 0 k (es.length+src.length) false))else none
 | .row n 0 k' len c=>
  match cn σ.H n with
  |some (.row FP es)=>
   if k'=k/\FP=k/\len<=es.length/\(len+src.length)*bytes<=140737488355328 then
    if c then(if src=[]then none else some ((σ.dc name (.row k (es.take len++src))).put d (.row name 0 k (len+src.length) false)))
    else(if fx n=true then none else some (((σ.fR n).dc n (.row k (es.take len++src))).put d (.row n 0 k (len+src.length) false)))
   else none
  |_=>none
 |_=>none
structure an where
 f:FuncId->List A->Option A
 hp:FuncId->List A->List Obj->Option (A×List Obj×List Nat)
 mH:FuncId->Bool
 pZ:FuncId->Bool
 Vn:Bool
 fix:Nat->Bool
 nf:Nat
 c6:Nat->List (List Nat)
def BW(Γ:an):Operand->Bool
 | .func g=>Γ.mH g
 | .tmp _=>Γ.Vn
 |_=>false
def uZ(P:Program)(src dst:TypeId):Bool:=fO P src&&(aX P dst).any (fun e=>ph P e=some .u8)
def bW(P:Program):Op->Bool
 | .alloc _=>true
 | .box _ _=>true
 | .convert src dst _=>uZ P src dst
 | .call ⟨.builtin .append,_,_⟩=>true
 |_=>false
def eB(cs:List A)(off:Nat)(ys:List A):List A:=cs.take off++ys++cs.drop (off+ys.length)
def wZ(σ:St)(name:Nat)(d:Option Tmp)(x:A):Option St:=
 if x.val=true then some ((σ.dc name (.box x.cells)).put d (.ref name 0))else none
def om(σ:St)(name:Nat)(d:Option Tmp)(z:Option A):Option St:=
 match z with
 |some z=>wZ σ name d z
 |none=>none
def l_(e:A)(off:Nat)(v:A):A:=
 match e with
 | .agg cs=> .agg (eB cs off v.norm.cells)
 |_=>v.norm
def oo(σ:St)(d:Option Tmp)(size:Option Nat)(a v:A):Option St:=
 match a with
 | .ref n off=>
  match cn σ.H n with
  |some (.box cs)=>if size=some v.cells.length/\off+v.cells.length<=cs.length/\v.val=true then some ((σ.dc n (.box (eB cs off v.cells))).put d (.cD []))else none
  |_=>none
 | .h_ n i off=>
  match cn σ.H n with
  |some (.row k es)=>(es[i]?).bind fun e=>if size=some v.cells.length/\off+v.cells.length<=e.cells.length/\v.cells.length≠0/\v.val=true/\v.pure=true then some ((σ.dc n (.row k (cC es i (l_ e off v)))).put d (.cD []))else none
  |_=>none
 |_=>none
def yV(P:Program)(σ:St)(name:Nat)(d:Option Tmp)(src dst:TypeId)(x:A):Option St:=
 if uZ P src dst=true then
  match x with
  | .str s=>some ((σ.dc name (.row 1 (dC s))).put d (.row name 0 1 s.length false))
  |_=>none
 else(nz P src dst σ.H x).map (σ.put d ·)
def jC(P:Program)(e:TypeId)(k:Nat):Bool:=
 match dQ P e with
 |some z=>z.val&&z.cells.length==k
 |none=>false
def rR(P:Program)(fx:Nat->Bool)(σ:St)(name:Nat)(d:Option Tmp)(t tx:TypeId)(b x:A):Option St:=
 match aX P t with
 |some e=>
  match ba P e with
  |some k=>if k=0\/fk P e=0\/jC P e k=false then none else(zY P σ e tx k x).bind fun src=>oh fx σ name d k (fk P e) b src
  |none=>none
 |none=>none
def ML(Γ:an)(σ:St)(d:Option Tmp)(g:FuncId)(aq:List A):Option St:=
 (iG σ.H aq).bind fun bs=>(Γ.f g bs).bind fun r=>if(A.pure.a_ aq||r.flat)=true then some (σ.put d r)else none
def BX(Γ:an)(σ:St)(d:Option Tmp)(f:A)(aq:List A):Option St:=
 match f with
 | .fn g jW=>ML Γ σ d g (aq++jW)
 |_=>none
def w3(P:Program)(σ:St)(d:Option Tmp)(t:TypeId)(x:A):Option St:=
 match x with
 | .row n off k len _=>
  match aX P t with
  |some e=>
   match cn σ.H n with
   |some (.row k' es)=>
    match dQ P e with
    |some z=>if k'=k/\z.cells.length=k/\k≠0/\z.val=true/\z.pure=true/\off+len<=es.length then some ((σ.dc n (.row k (es.take off++List.replicate len z.norm++es.drop (off+len)))).put d (.cD []))else none
    |none=>none
   |_=>none
  |none=>none
 |_=>none
def A.names:A->List Nat
 | .ref n _=>[n]
 | .h_ n _ _=>[n]
 | .row n _ _ _ _=>[n]
 | .agg cs=>gq cs
 | .fn _ cs=>gq cs
 | .cD cs=>gq cs
 |_=>[]
where gq:List A->List Nat
 | []=>[]
 |c::cs=>c.names++gq cs
def Obj.names:Obj->List Nat
 | .box cs=>A.names.gq cs
 | .row _ _=>[]
def tF:Option Obj->List Nat
 |some o=>o.names
 |none=>[]
def reach(H:List Obj):Nat->List Nat->List Nat->List Nat
 |0,_,acc=>acc
 |_+1,[],acc=>acc
 |fuel+1,n::todo,acc=>if acc.contains n=true then reach H fuel todo acc else reach H fuel (tF (cn H n)++todo) (acc++[n])
def idx(ρ:List Nat)(n:Nat):Option Nat:=
 match ρ with
 | []=>none
 |m::ms=>if m=n then some 0 else(idx ms n).map (· +1)
def A.jD(ρ:List Nat):A->Option A
 | .ref n o=>(idx ρ n).map (.ref · o)
 | .h_ n i o=>(idx ρ n).map (.h_ · i o)
 | .row n o k l c=>(idx ρ n).map (.row · o k l c)
 | .agg cs=>(pG ρ cs).map .agg
 | .fn f cs=>(pG ρ cs).map (.fn f ·)
 | .cD cs=>(pG ρ cs).map .cD
 |x=>some x
where pG (ρ:List Nat):List A->Option (List A)
 | []=>some []
 |c::cs=>(c.jD ρ).bind fun x=>(pG ρ cs).map (x:: ·)
def Obj.jD(ρ:List Nat):Obj->Option Obj
 | .box cs=>(A.jD.pG ρ cs).map .box
 | .row k es=>some (.row k es)
def XT(ρ:List Nat):Option Obj->Option Obj
 |some o=>o.jD ρ
 |none=>none
def pH(ρ:List Nat)(H:List Obj):List Nat->Option (List Obj)
 | []=>some []
 |n::ns=>(XT ρ (cn H n)).bind fun o=>(pH ρ H ns).map (o:: ·)
def ia:List Nat->Nat->Nat->Nat
 | [],base,i=>base+i
 |n::_,_,0=>n
 |_::ns,base,i+1=>ia ns base i
def A.back(ρ:List Nat)(m:Nat):A->A
 | .ref n o=> .ref (ia ρ m n) o
 | .h_ n i o=> .h_ (ia ρ m n) i o
 | .row n o k l c=> .row (ia ρ m n) o k l c
 | .agg cs=> .agg (mO ρ m cs)
 | .fn f cs=> .fn f (mO ρ m cs)
 | .cD cs=> .cD (mO ρ m cs)
 |x=>x
where mO (ρ:List Nat) (m:Nat):List A->List A
 | []=>[]
 |c::cs=>c.back ρ m::mO ρ m cs
def Obj.back(ρ:List Nat)(m:Nat):Obj->Obj
 | .box cs=> .box (A.back.mO ρ m cs)
 | .row k es=> .row k es
def dp(ρ:List Nat)(m:Nat)(σ:St):List Nat->St
 | []=>σ
 |i::is=>dp ρ m (σ.fR (ia ρ m i)) is
def mP(ρ:List Nat)(m:Nat):List Nat->List Obj->List Obj->List Obj
 | [],os,H=>H++os.map (Obj.back ρ m)
 |n::ns,o::os,H=>mP ρ m ns os (kQ H n (o.back ρ m))
 |_::_,[],H=>H
def BY(σ:St)(d:Option Tmp)(ρ:List Nat):A×List Obj×List Nat->St
 |(r,H',S)=>St.put ⟨(dp ρ σ.H.length σ S).s,mP ρ σ.H.length ρ H' (dp ρ σ.H.length σ S).H⟩ d (r.back ρ σ.H.length)
def oq(Γ:an)(ρ:List Nat)(m:Nat):List Nat->Bool
 | []=>true
 |i::is=> !Γ.fix (ia ρ m i)&&oq Γ ρ m is
def A.meets(ρ:List Nat)(x:A):Bool:=ρ.any fun n=>x.mem n
def mI(ρ:List Nat)(cr:List Obj)(x:A):A:=
 if x.meets ρ=true then(match x.jD ρ with|some x'=>(view cr x').getD .any|none=> .any)else x
def Jn(ρ:List Nat)(cr:List Obj):Obj->Obj
 | .box cs=> .box (cs.map (mI ρ cr))
 | .row k es=> .row k es
def nB(ρ:List Nat):List Nat->List Obj->List Obj
 | [],H=>H
 |n::ns,H=>nB ρ ns (kQ H n (.row 0 []))
def Jo(σ:St)(d:Option Tmp)(ρ:List Nat)(cr:List Obj)(r:A):St:=
 St.put ⟨σ.s.map (fun p=>(p.1,mI ρ cr p.2)),nB ρ ρ (σ.H.map (Jn ρ cr))⟩ d r
def tG(Γ:an)(σ:St)(d:Option Tmp)(g:FuncId)(aq:List A)(ρ:List Nat):Option St:=
 (A.jD.pG ρ aq).bind fun as'=>(pH ρ σ.H ρ).bind fun cr=>
  if Γ.pZ g=true then(if ρ.all (fun n=> !Γ.fix n)=true then(iG cr as').bind fun bs=>(Γ.f g bs).map (Jo σ d ρ cr)else none)
  else(Γ.hp g as' cr).bind fun x=>if oq Γ ρ σ.H.length x.2.2=true then some (BY σ d ρ x)else none
def MM(Γ:an)(σ:St)(d:Option Tmp)(g:FuncId)(aq:List A):Option St:=tG Γ σ d g aq (reach σ.H 64 (A.names.gq aq) [])
def p_(Γ:an)(σ:St)(d:Option Tmp)(f:A)(aq:List A):Option St:=
 match f with
 | .fn g jW=>MM Γ σ d g (aq++jW)
 |_=>none
def execOp(P:Program)(Γ:an)(name:Nat)(d:Option Tmp)(op:Op)(σ:St):Option St:=
 match op with
 | .alloc t=>om σ name d (dQ P t)
 | .box _ x=>wZ σ name d (σ.ev x)
 | .store t a x=>oo σ d (ba P t) (σ.ev a) (σ.ev x)
 | .convert src dst x=>yV P σ name d src dst (σ.ev x)
 | .call ⟨.builtin .append,⟨[b,x]⟩,⟨[t,tx]⟩⟩=>rR P Γ.fix σ name d t tx (σ.ev b) (σ.ev x)
 | .call ⟨.builtin .clear,⟨[x]⟩,⟨[t]⟩⟩=>w3 P σ d t (σ.ev x)
 | .call ⟨.value f,⟨xs⟩,_⟩=>if BW Γ f=true then p_ Γ σ d (σ.ev f) (σ.mF xs)else BX Γ σ d (σ.ev f) (σ.mF xs)
 |op=>(pk P σ op).map (σ.put d ·)
def BZ:List (Option Tmp)->Nat->Option Tmp
 | [],_=>none
 |x::_,0=>x
 |_::xs,n+1=>BZ xs n
def jE(ds:List (Option Tmp))(σ:St)(g:Option (Nat×Bool)):Option Bool:=
 match g with
 |none=>some true
 |some (j,want)=>
  match BZ ds j with
  |none=>some false
  |some t=>
   match look σ.s t with
   | .bool b=>some (b==want)
   | .any=>none
   |_=>some false
def bS(P:Program)(Γ:an)(ds:List (Option Tmp))(name:Nat)(o:Oper)(σ:St):Option St:=
 match jE ds σ o.guard with
 |none=>none
 |some b=>if b then execOp P Γ name o.dst o.op σ else some (σ.put o.dst (.cD []))
def grow(P:Program)(op:Op)(σ:St):St:=if bW P op=true then{σ with H:=σ.H++[.row 0 []]}else σ
def dP(P:Program)(op:Op)(n:Nat):Nat:=if bW P op=true then n+1 else n
def pre(P:Program):List Oper->St->St
 | [],σ=>σ
 |o::os,σ=>pre P os (grow P o.op σ)
def jF(P:Program)(Γ:an)(ds:List (Option Tmp)):List Oper->Nat->St->Option St
 | [],_,σ=>some σ
 |o::os,n,σ=>(bS P Γ ds n o σ).bind (jF P Γ ds os (dP P o.op n))
def dstsOf:List Oper->List (Option Tmp)
 | []=>[]
 |o::os=>o.dst::dstsOf os
inductive Ex where
 |normal
 |exit (id:Nat)
 |ret
def A.under(m:Nat):A->Bool
 | .ref n _=>n<m
 | .h_ n _ _=>n<m
 | .row n _ _ _ _=>n<m
 | .agg cs=>ib m cs
 | .fn _ cs=>ib m cs
 | .cD cs=>ib m cs
 |_=>true
where ib (m:Nat):List A->Bool
 | []=>true
 |c::cs=>c.under m&&ib m cs
def leS(m:Nat)(s:List (Nat×A)):List (Nat×A)->Prop
 | []=>True
 |(d,y)::r=>(look s d=y/\y.under m=true)/\leS m s r
def Mx(m:Nat):List A->List A->Prop
 | [],[]=>True
 |x::xs,y::ys=>(y= .any\/(x=y/\y.under m=true))/\Mx m xs ys
 |_,_=>False
def Tw(m:Nat):Obj->Obj->Prop
 | .box xs,.box ys=>Mx m xs ys
 | .row k xs,.row k' ys=>k=k'/\xs=ys
 |_,_=>False
def s9(m:Nat):List Obj->List Obj->Prop
 | [],[]=>True
 |_::_,[]=>True
 |x::xs,y::ys=>Tw m x y/\s9 m xs ys
 | [],_::_=>False
def St.le(σ τ:St):Prop:=leS τ.H.length σ.s τ.s/\s9 τ.H.length σ.H τ.H
def MN(ρ:List Nat)(cr:List Obj)(σ:St):St:=⟨σ.s.map (fun p=>(p.1,mI ρ cr p.2)),nB ρ ρ (σ.H.map (Jn ρ cr))⟩
def B0(ρ:List Nat)(σ:St):St:=⟨σ.s.map (fun p=>(p.1,p.2.back ρ σ.H.length)),mP ρ σ.H.length ρ σ.H σ.H⟩
inductive St.to(nf:Nat):St->St->Prop where
 |le {σ τ:St}:nf<=τ.H.length->σ.le τ->St.to nf σ τ
 |nil {σ τ:St} (d k:Nat):look σ.s d= .bT->St.to nf ⟨(d,.row σ.H.length 0 k 0 false)::σ.s,σ.H++[.row k []]⟩ τ->St.to nf σ τ
 |nilb {σ τ:St} (m i k:Nat) (cs:List A):cn σ.H m=some (.box cs)->cs[i]? =some .bT->
  St.to nf ⟨σ.s,kQ σ.H m (.box (cC cs i (.row σ.H.length 0 k 0 false)))++[.row k []]⟩ τ->St.to nf σ τ
 |wk {σ τ:St} (d:Nat) (es:List A):look σ.s d= .clip es->St.to nf ⟨(d,.ab es)::σ.s,σ.H⟩ τ->St.to nf σ τ
 |wkb {σ τ:St} (m:Nat) (cs:List A):cn σ.H m=some (.box cs)->St.to nf ⟨σ.s,kQ σ.H m (.box (cs.map jj))⟩ τ->St.to nf σ τ
 |perm {σ τ:St} (ρ:List Nat):σ.H.length=ρ.length->ρ.Nodup->(∀n∈ρ,n<ρ.length)->(∀n,n<ρ.length->n∈ρ)->(∀i,i<nf->ia ρ ρ.length i=i)->St.to nf (B0 ρ σ) τ->St.to nf σ τ
 |pZ {σ τ:St} (ρ:List Nat) (cr:List Obj):ρ.Nodup->pH ρ σ.H ρ=some cr->(∀n∈ρ,nf<=n)->St.to nf (MN ρ cr σ) τ->St.to nf σ τ
def K? {α:Type}(o:Option α)(q:α->Prop):Prop:= ∃x,o=some x/\q x
def j9(P:Program):Nat->List Oper->List (Nat×Oper)
 |_,[]=>[]
 |n,o::os=>(n,o)::j9 P (dP P o.op n) os
def e_:List (Nat×Oper)->Nat->Option (Nat×Oper)
 | [],_=>none
 |x::_,0=>some x
 |_::xs,i+1=>e_ xs i
def pI(P:Program)(Γ:an)(ds:List (Option Tmp))(B:List (Nat×Oper)):List Nat->St->Option St
 | [],σ=>some σ
 |i::is,σ=>(e_ B i).bind fun x=>(bS P Γ ds x.1 x.2 σ).bind (pI P Γ ds B is)
def pn(P:Program)(Γ:an)(ds:List (Option Tmp))(B:List (Nat×Oper))(σ:St)(q:St->Prop):List (List Nat)->Prop
 | []=>True
 |o::os=>K? (pI P Γ ds B o σ) q/\pn P Γ ds B σ q os
def Jp(P:Program)(Γ:an)(os:List (List Nat))(ops:Array Oper)(Q:Ex->St->Prop)(σ:St):Prop:=
 match os with
 | []=>K? (jF P Γ (dstsOf ops.toList) ops.toList σ.H.length (pre P ops.toList σ)) (Q .normal)
 |o::os=>pn P Γ (dstsOf ops.toList) (j9 P σ.H.length ops.toList) (pre P ops.toList σ) (Q .normal) (o::os)
def H6:List (List Nat)->Option (List Nat)
 |(t::ρ)::_=>if t=999999 then some ρ else none
 |_=>none
def B4:List (List Nat)->List (List Nat)
 |(t::ρ)::os=>if t=999999 then os else(t::ρ)::os
 |os=>os
def p'(m:Nat)(ρ:List Nat):List Nat:=ρ.filter fun n=>decide (n<m)
def w4(P:Program)(Γ:an)(os:List (List Nat))(ops:Array Oper)(Q:Ex->St->Prop)(σ:St):Prop:=
 match H6 os with
 |none=>Jp P Γ (B4 os) ops Q σ
 |some ρ=>K? (pH (p' σ.H.length ρ) σ.H (p' σ.H.length ρ)) fun cr=>Jp P Γ (B4 os) ops Q (MN (p' σ.H.length ρ) cr σ)
def Qn(W:(Ex->St->Prop)->St->Prop)(Q:Ex->St->Prop)(e:Ex)(τ:St):Prop:=
 match e with
 | .normal=>W Q τ
 | .exit i=>Q (.exit i) τ
 | .ret=>Q .ret τ
def ow(id:Nat)(Q:Ex->St->Prop)(e:Ex)(τ:St):Prop:=
 match e with
 | .normal=>Q .normal τ
 | .exit i=>if i=id then Q .normal τ else Q (.exit i) τ
 | .ret=>Q .ret τ
def u0(N:St->Prop)(Q:Ex->St->Prop)(e:Ex)(τ:St):Prop:=
 match e with
 | .normal=>N τ
 | .exit i=>Q (.exit i) τ
 | .ret=>Q .ret τ
def lk(c:A)(p q:Prop):Prop:= ∃t,c= .bool t/\(t=true->p)/\(t=false->q)
def gQ(P:Program)(Γ:an):Code->(Ex->St->Prop)->St->Prop
 | .skip,Q,σ=>Q .normal σ
 | .label _,Q,σ=>Q .normal σ
 | .seq a b,Q,σ=>gQ P Γ a (Qn (gQ P Γ b) Q) σ
 | .cond c a b,Q,σ=>lk (σ.ev c) (gQ P Γ a Q σ) (gQ P Γ b Q σ)
 | .block id c,Q,σ=>gQ P Γ c (ow id Q) σ
 | .loop c,Q,σ=> ∃(ι:Type) (inv:ι->St) (μ:ι->Nat),(∃i,St.to Γ.nf σ (inv i))/\
  ∀i,gQ P Γ c (u0 (fun τ=> ∃j,St.to Γ.nf τ (inv j)/\μ j<μ i) Q) (inv i)
 | .exit id,Q,σ=>Q (.exit id) σ
 | .ret,Q,σ=>Q .ret σ
 | .region id ops _,Q,σ=>w4 P Γ (Γ.c6 id) ops Q σ
 |_,_,_=>False
def resC(P:Program)(σ:St)(t:TypeId)(a:A):Option A:=
 match a with
 | .ref n off=>match cn σ.H n with|some (.box cs)=>(j0 P t (cs.drop off)).bind (view σ.H)|_=>none
 |_=>none
def MO(P:Program)(σ:St):ResultVar->Option A
 | .tmp t=>view σ.H (look σ.s t)
 | .cell a t=>resC P σ t (look σ.s a)
def w5(P:Program)(σ:St):List ResultVar->Option (List A)
 | []=>some []
 |r::rs=>(MO P σ r).bind fun x=>(w5 P σ rs).map (x:: ·)
def jG:List A->A
 | [x]=>x
 |xs=> .cD xs
def XU(P:Program)(fn:Func)(pJ:A->Prop)(e:Ex)(σ:St):Prop:=
 match e with
 | .exit _=>False
 |_=>K? (w5 P σ fn.results.toList) (fun rs=>pJ (jG rs))
def rawC(P:Program)(σ:St)(t:TypeId)(a:A):Option A:=
 match a with
 | .ref n off=>match cn σ.H n with|some (.box cs)=>j0 P t (cs.drop off)|_=>none
 |_=>none
def Vo(P:Program)(σ:St):ResultVar->Option A
 | .tmp t=>some (look σ.s t)
 | .cell a t=>rawC P σ t (look σ.s a)
def zZ(P:Program)(σ:St):List ResultVar->Option (List A)
 | []=>some []
 |r::rs=>(Vo P σ r).bind fun x=>(zZ P σ rs).map (x:: ·)
def XV(P:Program)(fn:Func)(r:A)(H':List Obj)(e:Ex)(σ:St):Prop:=
 match e with
 | .exit _=>False
 |_=>K? (zZ P σ fn.results.toList) (fun rs=>jG rs=r/\r.under H'.length=true/\s9 H'.length σ.H H')
def number:Nat->List A->List (Nat×A)
 |_,[]=>[]
 |n,x::xs=>(n,x)::number (n+1) xs
def B5(args:List A):St:={s:=number 0 args,H:=[]}
def Jq(args:List A)(H:List Obj):St:={s:=number 0 args,H:=H}
end Go.bo
namespace Go.bo
theorem B6{P:Program}{Γ:an}: ∀{c:Code} {Q Q':Ex->St->Prop} {σ:St},(∀e τ,Q e τ->Q' e τ)->gQ P Γ c Q σ->gQ P Γ c Q' σ:=by
 intro c;induction c with
 |skip=>intro Q Q' σ h hw;simp only[gQ]at hw⊢;exact h _ _ hw
 |label l=>intro Q Q' σ h hw;simp only[gQ]at hw⊢;exact h _ _ hw
 |exit id=>intro Q Q' σ h hw;simp only[gQ]at hw⊢;exact h _ _ hw
 |ret=>intro Q Q' σ h hw;simp only[gQ]at hw⊢;exact h _ _ hw
 |seq x y ihx ihy=>
  intro Q Q' σ h hw;simp only[gQ]at hw⊢;refine ihx (fun e τ hq=> ?_) hw;cases e with
  |normal=>exact ihy h hq
  |exit i=>exact h _ _ hq
  |ret=>exact h _ _ hq
 |cond c x y ihx ihy=>
  intro Q Q' σ h hw;simp only[gQ,lk]at hw⊢;obtain⟨t,ht,h1,h2⟩:=hw;exact⟨t,ht,fun e=>ihx h (h1 e),fun e=>ihy h (h2 e)⟩
 |block id x ih=>
  intro Q Q' σ h hw;simp only[gQ]at hw⊢;refine ih (fun e τ hq=> ?_) hw;cases e with
  |normal=>exact h _ _ hq
  |exit i=>
   simp only[ow]at hq⊢;split at hq
   · rename_i e;rw[if_pos e];exact h _ _ hq
   · rename_i e;rw[if_neg e];exact h _ _ hq
  |ret=>exact h _ _ hq
 |loop x ih=>
  intro Q Q' σ h hw;simp only[gQ]at hw⊢;obtain⟨ι,inv,μ,h0,hs⟩:=hw;refine⟨ι,inv,μ,h0,fun i=>ih (fun e τ hq=> ?_) (hs i)⟩
  cases e with
  |normal=>exact hq
  |exit i=>exact h _ _ hq
  |ret=>exact h _ _ hq
 |region id ops d=>
  intro Q Q' σ h hw;simp only[gQ]at hw⊢
  have key: ∀(os:List (List Nat)) (σ:St),Jp P Γ os ops Q σ->Jp P Γ os ops Q' σ:=fun os σ=>by
   cases os with
   |nil=>
    rintro⟨τ,hr,hq⟩
    exact⟨τ,hr,h _ _ hq⟩
   |cons o os=>
    have key: ∀os:List (List Nat),pn P Γ (dstsOf ops.toList) (j9 P σ.H.length ops.toList) (pre P ops.toList σ) (Q .normal) os->pn P Γ (dstsOf ops.toList) (j9 P σ.H.length ops.toList) (pre P ops.toList σ) (Q' .normal) os:=by
     intro os;induction os with
     |nil=>exact fun h=>h
     |cons o os ih=>rintro⟨⟨τ,hr,hq⟩,h2⟩;exact⟨⟨τ,hr,h _ _ hq⟩,ih h2⟩
    exact key _
  unfold w4 at hw⊢;cases hf:H6 (Γ.c6 id)with
  |none=>rw[hf]at hw;exact key _ _ hw
  |some ρ=>
   rw[hf]at hw;obtain⟨cr,h1,h2⟩:=hw;exact⟨cr,h1,key _ _ h2⟩
 |_=>intro Q Q' σ _ hw;simp only[gQ]at hw
section
variable{P:Program}{Γ:an}{Q:Ex->St->Prop}{σ:St}
@[go_sem] theorem wpA_skip:gQ P Γ .skip Q σ=Q .normal σ:=by simp only[gQ]
@[go_sem] theorem wpA_seq{a b:Code}:gQ P Γ (.seq a b) Q σ=gQ P Γ a (Qn (gQ P Γ b) Q) σ:=by simp only[gQ]
@[go_sem] theorem wpA_cond{c:Operand}{a b:Code}:gQ P Γ (.cond c a b) Q σ=lk (σ.ev c) (gQ P Γ a Q σ) (gQ P Γ b Q σ):=by simp only[gQ]
@[go_sem] theorem wpA_block{id:Nat}{c:Code}:gQ P Γ (.block id c) Q σ=gQ P Γ c (ow id Q) σ:=by simp only[gQ]
@[go_sem] theorem wpA_exit{id:Nat}:gQ P Γ (.exit id) Q σ=Q (.exit id) σ:=by simp only[gQ]
@[go_sem] theorem wpA_ret:gQ P Γ .ret Q σ=Q .ret σ:=by simp only[gQ]
@[go_sem] theorem wpA_region{σs:List (Nat×A)}{cU:List Obj}{i:Nat}{ops:Array Oper}{d:Bool}:gQ P Γ (.region i ops d) Q (St.mk σs cU)=w4 P Γ (Γ.c6 i) ops Q (St.mk σs cU):=by simp only[gQ]
@[congr] theorem regW_congr{os os':List (List Nat)}{ops:Array Oper}(h:os=os'):w4 P Γ os ops Q σ=w4 P Γ os' ops Q σ:=by rw[h]
@[go_sem] theorem regW_nil{σs:List (Nat×A)}{cU:List Obj}{ops:Array Oper}:w4 P Γ [] ops Q (St.mk σs cU)=K? (jF P Γ (dstsOf ops.toList) ops.toList cU.length (pre P ops.toList (St.mk σs cU))) (Q .normal):=rfl
@[go_sem] theorem regW_cons{σs:List (Nat×A)}{cU:List Obj}{ops:Array Oper}{t:Nat}{o:List Nat}{os:List (List Nat)}(h:t≠999999):w4 P Γ ((t::o)::os) ops Q (St.mk σs cU)=pn P Γ (dstsOf ops.toList) (j9 P cU.length ops.toList) (pre P ops.toList (St.mk σs cU)) (Q .normal) ((t::o)::os):=by unfold w4 H6 B4;simp only[if_neg h];rfl
@[go_sem] theorem regW_frz'{σs:List (Nat×A)}{cU:List Obj}{ops:Array Oper}{t:Nat}{ρ:List Nat}{os:List (List Nat)}(h:t=999999):w4 P Γ ((t::ρ)::os) ops Q (St.mk σs cU)=K? (pH (p' cU.length ρ) cU (p' cU.length ρ)) fun cr=>Jp P Γ os ops Q (MN (p' cU.length ρ) cr (St.mk σs cU)):=by subst h;rfl
@[go_sem] theorem keepN_nil{m:Nat}:p' m []=[]:=rfl
@[go_sem] theorem keepN_cons{m n:Nat}{ρ:List Nat}:p' m (n::ρ)=if n<m then n::p' m ρ else p' m ρ:=by unfold p';rw[List.filter_cons];simp
@[go_sem] theorem regO_nil{σs:List (Nat×A)}{cU:List Obj}{ops:Array Oper}:Jp P Γ [] ops Q (St.mk σs cU)=K? (jF P Γ (dstsOf ops.toList) ops.toList cU.length (pre P ops.toList (St.mk σs cU))) (Q .normal):=rfl
@[go_sem] theorem ordsW_nil{ds:List (Option Tmp)}{B:List (Nat×Oper)}{q:St->Prop}:pn P Γ ds B σ q []=True:=rfl
@[go_sem] theorem ordsW_cons{ds:List (Option Tmp)}{B:List (Nat×Oper)}{q:St->Prop}{o:List Nat}{os:List (List Nat)}:pn P Γ ds B σ q (o::os)=(K? (pI P Γ ds B o σ) q/\pn P Γ ds B σ q os):=rfl
@[go_sem] theorem annS_nil{n:Nat}:j9 P n []=[]:=rfl
@[go_sem] theorem annS_cons{n:Nat}{o:Oper}{os:List Oper}:j9 P n (o::os)=(n,o)::j9 P (dP P o.op n) os:=rfl
@[go_sem] theorem nthA_zero{x:Nat×Oper}{xs:List (Nat×Oper)}:e_ (x::xs) 0=some x:=rfl
@[go_sem] theorem nthA_succ{x:Nat×Oper}{xs:List (Nat×Oper)}{i:Nat}:e_ (x::xs) (i+1)=e_ xs i:=rfl
@[congr] theorem runO_congr{ds:List (Option Tmp)}{B B':List (Nat×Oper)}{is:List Nat}{eF:St}(hB:B=B')(h:σ=eF):pI P Γ ds B is σ=pI P Γ ds B' is eF:=by rw[hB,h]
@[congr] theorem wpA_congr{c:Code}{eF:St}(h:σ=eF):gQ P Γ c Q σ=gQ P Γ c Q eF:=by rw[h]
@[go_sem] theorem seqQ_normal{W:(Ex->St->Prop)->St->Prop}:Qn W Q .normal σ=W Q σ:=rfl
@[go_sem] theorem seqQ_exit{W:(Ex->St->Prop)->St->Prop}{i:Nat}:Qn W Q (.exit i) σ=Q (.exit i) σ:=rfl
@[go_sem] theorem seqQ_ret{W:(Ex->St->Prop)->St->Prop}:Qn W Q .ret σ=Q .ret σ:=rfl
@[go_sem] theorem blockQ_normal{id:Nat}:ow id Q .normal σ=Q .normal σ:=rfl
@[go_sem] theorem blockQ_exit{id i:Nat}:ow id Q (.exit i) σ=if i=id then Q .normal σ else Q (.exit i) σ:=rfl
@[go_sem] theorem blockQ_ret{id:Nat}:ow id Q .ret σ=Q .ret σ:=rfl
@[go_sem] theorem loopQ_normal{N:St->Prop}:u0 N Q .normal σ=N σ:=rfl
@[go_sem] theorem loopQ_exit{N:St->Prop}{i:Nat}:u0 N Q (.exit i) σ=Q (.exit i) σ:=rfl
@[go_sem] theorem loopQ_ret{N:St->Prop}:u0 N Q .ret σ=Q .ret σ:=rfl
@[congr] theorem seqQ_congr{W:(Ex->St->Prop)->St->Prop}{e e':Ex}{eF:St}(h:e=e')(h':σ=eF):Qn W Q e σ=Qn W Q e' eF:=by rw[h,h']
@[congr] theorem blockQ_congr{id:Nat}{e e':Ex}{eF:St}(h:e=e')(h':σ=eF):ow id Q e σ=ow id Q e' eF:=by rw[h,h']
@[congr] theorem loopQ_congr{N:St->Prop}{e e':Ex}{eF:St}(h:e=e')(h':σ=eF):u0 N Q e σ=u0 N Q e' eF:=by rw[h,h']
@[go_sem high] theorem condA_true{p q:Prop}:lk (.bool true) p q=p:=by simp[lk]
@[go_sem high] theorem condA_false{p q:Prop}:lk (.bool false) p q=q:=by simp[lk]
@[go_sem] theorem condA_bool{b:Bool}{p q:Prop}:lk (.bool b) p q=((b=true->p)/\(b=false->q)):=by simp[lk]
@[go_sem ↓ high] theorem condA_true'{p q:Prop}:lk (.bool true) p q=p:=by simp[lk]
@[go_sem ↓ high] theorem condA_false'{p q:Prop}:lk (.bool false) p q=q:=by simp[lk]
@[congr] theorem condA_congr{c c':A}{p q:Prop}(h:c=c'):lk c p q=lk c' p q:=by rw[h]
end
section
variable{α β:Type}
@[go_sem high] theorem K_some{x:α}{q:α->Prop}:K? (some x) q=q x:=by simp[K?]
@[go_sem] theorem XW{o:Option α}{f:α->Option β}{q:β->Prop}:K? (o.bind f) q=K? o (fun x=>K? (f x) q):=by cases o<;>simp[K?]
@[go_sem] theorem K_map{o:Option α}{f:α->β}{q:β->Prop}:K? (o.map f) q=K? o (fun x=>q (f x)):=by cases o<;>simp[K?]
@[go_sem high] theorem K_ite_none{c:Prop} [Decidable c]{a:Option α}{q:α->Prop}:K? (if c then a else none) q=(c/\K? a q):=by split<;>simp_all[K?]
@[go_sem ↓ high] theorem K_some'{x:α}{q:α->Prop}:K? (some x) q=q x:=by simp[K?]
@[congr] theorem K_congr{o o':Option α}{q:α->Prop}(h:o=o'):K? o q=K? o' q:=by rw[h]
@[go_sem] theorem K_getElem{l:List α}{i:Nat}{q:α->Prop}(h:i<l.length):K? l[i]? q=q l[i]:=by simp[K?,h]
end
section
variable{P:Program}{Γ:an}{σ:St}{n:Nat}{d:Option Tmp}{ds:List (Option Tmp)}{q:St->Prop}
@[go_sem] theorem K_runSeq_nil{n:Nat}:K? (jF P Γ ds [] n σ) q=q σ:=by simp[jF,K?]
@[go_sem] theorem K_runSeq_cons{o:Oper}{os:List Oper}{n:Nat}:K? (jF P Γ ds (o::os) n σ) q=K? (bS P Γ ds n o σ) (fun τ=>K? (jF P Γ ds os (dP P o.op n) τ) q):=by simp only[jF,XW]
@[go_sem] theorem K_runO_nil{B:List (Nat×Oper)}:K? (pI P Γ ds B [] σ) q=q σ:=by simp[pI,K?]
@[go_sem] theorem K_runO_cons{B:List (Nat×Oper)}{i:Nat}{is:List Nat}:K? (pI P Γ ds B (i::is) σ) q=K? (e_ B i) (fun x=>K? (bS P Γ ds x.1 x.2 σ) (fun τ=>K? (pI P Γ ds B is τ) q)):=by simp only[pI,XW]
@[go_sem] theorem pre_nil:pre P [] σ=σ:=rfl
@[go_sem] theorem pre_cons{o:Oper}{os:List Oper}:pre P (o::os) σ=pre P os (grow P o.op σ):=rfl
@[congr] theorem pre_congr{os:List Oper}{eF:St}(h:σ=eF):pre P os σ=pre P os eF:=by rw[h]
@[congr] theorem runSeq_congr{os:List Oper}{eF:St}{n n':Nat}(h:σ=eF)(h':n=n'):jF P Γ ds os n σ=jF P Γ ds os n' eF:=by rw[h,h']
@[congr] theorem exec1_congr{o:Oper}{n':Nat}{eF:St}(hn:n=n')(h:σ=eF):bS P Γ ds n o σ=bS P Γ ds n' o eF:=by rw[h,hn]
@[go_sem] theorem exec1_plain{op:Op}{t:TypeId}{p:String}{af:Array Edge}:bS P Γ ds n ⟨d,op,t,p,af,none⟩ σ=execOp P Γ n d op σ:=by simp[bS,jE]
def Jr(b:A)(want:Bool)(x y:Option St):Option St:=
 match b with
 | .bool b=>if(b==want)=true then x else y
 | .any=>none
 |_=>y
@[go_sem] theorem exec1_guard{σs:List (Nat×A)}{cU:List Obj}{op:Op}{t:TypeId}{p:String}{af:Array Edge}{j:Nat}{w:Bool}:
 bS P Γ ds n ⟨d,op,t,p,af,some (j,w)⟩ (St.mk σs cU)=(match BZ ds j with|some t=>Jr (look σs t) w (execOp P Γ n d op (St.mk σs cU)) (some ((St.mk σs cU).put d (.cD [])))|none=>some ((St.mk σs cU).put d (.cD []))):=by
 simp only[bS,jE]
 cases BZ ds j with
 |none=>simp
 |some t=>simp only[];cases look σs t<;>simp[Jr]
@[go_sem] theorem guardA_bool{b w:Bool}{x y:Option St}:Jr (.bool b) w x y=if(b==w)=true then x else y:=rfl
@[go_sem] theorem guardA_undef{w:Bool}{x y:Option St}:Jr (.cD []) w x y=y:=rfl
@[go_sem] theorem nthD_zero{x:Option Tmp}{xs:List (Option Tmp)}:BZ (x::xs) 0=x:=rfl
@[go_sem] theorem nthD_succ{x:Option Tmp}{xs:List (Option Tmp)}{m:Nat}:BZ (x::xs) (m+1)=BZ xs m:=rfl
@[go_sem] theorem dstsOf_nil:dstsOf []=[]:=rfl
@[go_sem] theorem dstsOf_cons{o:Oper}{os:List Oper}:dstsOf (o::os)=o.dst::dstsOf os:=rfl
variable{x y z:Operand}{t u:TypeId}{k:Nat}
@[go_sem] theorem grow_move:grow P (.move x) σ=σ:=rfl
@[go_sem] theorem nxt_move{n:Nat}:dP P (.move x) n=n:=rfl
@[go_sem] theorem grow_assign:grow P (.assign x) σ=σ:=rfl
@[go_sem] theorem nxt_assign{n:Nat}:dP P (.assign x) n=n:=rfl
@[go_sem] theorem grow_pick:grow P (.pick x y z) σ=σ:=rfl
@[go_sem] theorem nxt_pick{n:Nat}:dP P (.pick x y z) n=n:=rfl
@[go_sem] theorem grow_build{ps:Array (Nat×Operand)}:grow P (.build t ps) σ=σ:=rfl
@[go_sem] theorem nxt_build{ps:Array (Nat×Operand)}{n:Nat}:dP P (.build t ps) n=n:=rfl
@[go_sem] theorem Xv{ps:Array (Nat×Operand)}:grow P (.buildSlice t k ps) σ=σ:=rfl
@[go_sem] theorem XX{ps:Array (Nat×Operand)}{n:Nat}:dP P (.buildSlice t k ps) n=n:=rfl
@[go_sem] theorem grow_load:grow P (.load t x) σ=σ:=rfl
@[go_sem] theorem nxt_load{n:Nat}:dP P (.load t x) n=n:=rfl
@[go_sem] theorem grow_store:grow P (.store t x y) σ=σ:=rfl
@[go_sem] theorem nxt_store{n:Nat}:dP P (.store t x y) n=n:=rfl
@[go_sem] theorem grow_binOp{o:BinOp}:grow P (.binOp o t x y u) σ=σ:=rfl
@[go_sem] theorem nxt_binOp{o:BinOp}{n:Nat}:dP P (.binOp o t x y u) n=n:=rfl
@[go_sem] theorem grow_unOp{o:UnOp}:grow P (.unOp o t x) σ=σ:=rfl
@[go_sem] theorem nxt_unOp{o:UnOp}{n:Nat}:dP P (.unOp o t x) n=n:=rfl
@[go_sem] theorem grow_makeFunc{f:Fn}{xs ys:Array Operand}:grow P (.makeFunc f xs ys) σ=σ:=rfl
@[go_sem] theorem nxt_makeFunc{f:Fn}{xs ys:Array Operand}{n:Nat}:dP P (.makeFunc f xs ys) n=n:=rfl
@[go_sem] theorem grow_slice{l h m:Option Operand}:grow P (.slice t x l h m) σ=σ:=rfl
@[go_sem] theorem nxt_slice{l h m:Option Operand}{n:Nat}:dP P (.slice t x l h m) n=n:=rfl
@[go_sem] theorem XY:grow P (.fieldAddr t x k) σ=σ:=rfl
@[go_sem] theorem nxt_fieldAddr{n:Nat}:dP P (.fieldAddr t x k) n=n:=rfl
@[go_sem] theorem XZ:grow P (.indexAddr t x y) σ=σ:=rfl
@[go_sem] theorem nxt_indexAddr{n:Nat}:dP P (.indexAddr t x y) n=n:=rfl
@[go_sem] theorem grow_index:grow P (.index t x y) σ=σ:=rfl
@[go_sem] theorem nxt_index{n:Nat}:dP P (.index t x y) n=n:=rfl
@[go_sem] theorem grow_extract:grow P (.extract x k) σ=σ:=rfl
@[go_sem] theorem nxt_extract{n:Nat}:dP P (.extract x k) n=n:=rfl
@[go_sem] theorem grow_alloc{σs:List (Nat×A)}{cU:List Obj}:grow P (.alloc t) (St.mk σs cU)=⟨σs,cU++[.row 0 []]⟩:=rfl
@[go_sem] theorem nxt_alloc{n:Nat}:dP P (.alloc t) n=n+1:=rfl
@[go_sem] theorem grow_box{σs:List (Nat×A)}{cU:List Obj}:grow P (.box t x) (St.mk σs cU)=⟨σs,cU++[.row 0 []]⟩:=rfl
@[go_sem] theorem nxt_box{n:Nat}:dP P (.box t x) n=n+1:=rfl
@[go_sem] theorem grow_convert{σs:List (Nat×A)}{cU:List Obj}:grow P (.convert t u x) (St.mk σs cU)=if uZ P t u=true then⟨σs,cU++[.row 0 []]⟩else(St.mk σs cU):=rfl
@[go_sem] theorem nxt_convert{n:Nat}:dP P (.convert t u x) n=if uZ P t u=true then n+1 else n:=rfl
@[go_sem] theorem grow_len{xs:Array Operand}{ts:Array TypeId}:grow P (.call ⟨.builtin .len,xs,ts⟩) σ=σ:=rfl
@[go_sem] theorem nxt_len{xs:Array Operand}{ts:Array TypeId}{n:Nat}:dP P (.call ⟨.builtin .len,xs,ts⟩) n=n:=rfl
@[go_sem] theorem grow_min{xs:Array Operand}{ts:Array TypeId}:grow P (.call ⟨.builtin .min,xs,ts⟩) σ=σ:=rfl
@[go_sem] theorem nxt_min{xs:Array Operand}{ts:Array TypeId}{n:Nat}:dP P (.call ⟨.builtin .min,xs,ts⟩) n=n:=rfl
@[go_sem] theorem grow_max{xs:Array Operand}{ts:Array TypeId}:grow P (.call ⟨.builtin .max,xs,ts⟩) σ=σ:=rfl
@[go_sem] theorem nxt_max{xs:Array Operand}{ts:Array TypeId}{n:Nat}:dP P (.call ⟨.builtin .max,xs,ts⟩) n=n:=rfl
@[go_sem] theorem grow_append{σs:List (Nat×A)}{cU:List Obj}{xs:Array Operand}{ts:Array TypeId}:grow P (.call ⟨.builtin .append,xs,ts⟩) (St.mk σs cU)=⟨σs,cU++[.row 0 []]⟩:=rfl
@[go_sem] theorem nxt_append{xs:Array Operand}{ts:Array TypeId}{n:Nat}:dP P (.call ⟨.builtin .append,xs,ts⟩) n=n+1:=rfl
@[go_sem] theorem grow_clear{xs:Array Operand}{ts:Array TypeId}:grow P (.call ⟨.builtin .clear,xs,ts⟩) σ=σ:=rfl
@[go_sem] theorem nxt_clear{xs:Array Operand}{ts:Array TypeId}{n:Nat}:dP P (.call ⟨.builtin .clear,xs,ts⟩) n=n:=rfl
@[go_sem] theorem grow_call{xs:Array Operand}{ts:Array TypeId}:grow P (.call ⟨.value x,xs,ts⟩) σ=σ:=rfl
@[go_sem] theorem nxt_call{xs:Array Operand}{ts:Array TypeId}{n:Nat}:dP P (.call ⟨.value x,xs,ts⟩) n=n:=rfl
@[go_sem] theorem ex_move:execOp P Γ n d (.move x) σ=some (σ.put d (σ.ev x)):=rfl
@[go_sem] theorem ex_assign:execOp P Γ n d (.assign x) σ=some (σ.put d (σ.ev x)):=rfl
@[go_sem] theorem ex_pick:execOp P Γ n d (.pick x y z) σ=(MK (σ.ev x) (σ.ev y) (σ.ev z)).map (σ.put d ·):=rfl
@[go_sem] theorem ex_build{ps:List (Nat×Operand)}:execOp P Γ n d (.build t ⟨ps⟩) σ=(pX P t σ ps).map (σ.put d ·):=rfl
@[go_sem] theorem ex_buildSlice{ps:List (Nat×Operand)}:execOp P Γ n d (.buildSlice t k ⟨ps⟩) σ=(fD P t k σ ps).map (σ.put d ·):=rfl
@[go_sem] theorem ex_load{σs:List (Nat×A)}{cU:List Obj}:execOp P Γ n d (.load t x) (St.mk σs cU)=(s8 P t cU ((St.mk σs cU).ev x)).map ((St.mk σs cU).put d ·):=rfl
@[go_sem] theorem ex_binOp{o:BinOp}:execOp P Γ n d (.binOp o t x y u) σ=(fQ (pF P t) (gp P t) (jB P t) (aX P t).isSome o (σ.ev x) (σ.ev y)).map (σ.put d ·):=rfl
@[go_sem] theorem ex_unOp{o:UnOp}:execOp P Γ n d (.unOp o t x) σ=(unA o (σ.ev x)).map (σ.put d ·):=rfl
@[go_sem] theorem ex_makeFunc{f:Fn}{xs ys:List Operand}:execOp P Γ n d (.makeFunc f ⟨xs⟩ ⟨ys⟩) σ=(nA f (σ.mF xs) (σ.mF ys)).map (σ.put d ·):=rfl
@[go_sem] theorem ex_slice{l h m:Option Operand}:execOp P Γ n d (.slice t x l h m) σ=(if(fi P t).isNone=true/\(σ.bd l).ok=true/\(σ.bd h).ok=true then tD (fO P t) (tE P t) (σ.ev x) (σ.bd l) (σ.bd h) (σ.bd m)else none).map (σ.put d ·):=rfl
@[go_sem] theorem ex_fieldAddr:execOp P Γ n d (.fieldAddr t x k) σ=(j8 (fieldInfo P t k) (σ.ev x)).map (σ.put d ·):=rfl
@[go_sem] theorem ex_indexAddr:execOp P Γ n d (.indexAddr t x y) σ=(l9 P t (σ.ev x) (σ.ev y)).map (σ.put d ·):=rfl
@[go_sem] theorem ex_index:execOp P Γ n d (.index t x y) σ=(wY P t (σ.ev x) (σ.ev y)).map (σ.put d ·):=rfl
@[go_sem] theorem ex_extract:execOp P Γ n d (.extract x k) σ=(pY (σ.ev x) k).map (σ.put d ·):=rfl
@[go_sem] theorem ex_alloc:execOp P Γ n d (.alloc t) σ=om σ n d (dQ P t):=rfl
@[go_sem] theorem ex_box:execOp P Γ n d (.box t x) σ=wZ σ n d (σ.ev x):=rfl
@[go_sem] theorem ex_store:execOp P Γ n d (.store t x y) σ=oo σ d (ba P t) (σ.ev x) (σ.ev y):=rfl
@[go_sem] theorem ex_convert:execOp P Γ n d (.convert t u x) σ=yV P σ n d t u (σ.ev x):=rfl
@[go_sem] theorem ex_len:execOp P Γ n d (.call ⟨.builtin .len,⟨[x]⟩,⟨[t]⟩⟩) σ=(Qm P t (σ.ev x)).map (σ.put d ·):=rfl
@[go_sem] theorem ex_min{xs:List Operand}{ts:Array TypeId}:execOp P Γ n d (.call ⟨.builtin .min,⟨xs⟩,ts⟩) σ=(XR (σ.mF xs)).map (σ.put d ·):=rfl
@[go_sem] theorem ex_max{xs:List Operand}{ts:Array TypeId}:execOp P Γ n d (.call ⟨.builtin .max,⟨xs⟩,ts⟩) σ=(XS (σ.mF xs)).map (σ.put d ·):=rfl
@[go_sem] theorem ex_append:execOp P Γ n d (.call ⟨.builtin .append,⟨[x,y]⟩,⟨[t,u]⟩⟩) σ=rR P Γ.fix σ n d t u (σ.ev x) (σ.ev y):=rfl
@[go_sem] theorem ex_clear:execOp P Γ n d (.call ⟨.builtin .clear,⟨[x]⟩,⟨[t]⟩⟩) σ=w3 P σ d t (σ.ev x):=rfl
@[go_sem] theorem ex_call{xs:List Operand}{ts:Array TypeId}:execOp P Γ n d (.call ⟨.value x,⟨xs⟩,ts⟩) σ=if BW Γ x=true then p_ Γ σ d (σ.ev x) (σ.mF xs)else BX Γ σ d (σ.ev x) (σ.mF xs):=rfl
@[go_sem] theorem isEff_func{f:FuncId}:BW Γ (.func f)=Γ.mH f:=rfl
@[go_sem] theorem isEff_tmp{i:Nat}:BW Γ (.tmp i)=Γ.Vn:=rfl
@[go_sem] theorem ev_tmp{σs:List (Nat×A)}{cU:List Obj}{i:Nat}:(St.mk σs cU).ev (.tmp i)=look σs i:=rfl
@[go_sem] theorem ev_const{v:Value}:σ.ev (.const v)=toA v:=rfl
@[go_sem] theorem ev_func{f:FuncId}:σ.ev (.func f)= .fn f []:=rfl
@[go_sem] theorem evL_nil:σ.mF []=[]:=rfl
@[go_sem] theorem evL_cons{xs:List Operand}:σ.mF (x::xs)=σ.ev x::σ.mF xs:=rfl
@[go_sem] theorem put_some{σs:List (Nat×A)}{cU:List Obj}{v:A}{i:Nat}:(St.mk σs cU).put (some i) v=⟨(i,v)::σs,cU⟩:=rfl
@[go_sem] theorem put_none{v:A}:σ.put none v=σ:=rfl
@[go_sem] theorem bd_none:σ.bd none= .none:=rfl
@[go_sem] theorem bd_some:σ.bd (some x)=XQ (σ.ev x):=rfl
@[go_sem] theorem bdOf_int{i:IntKind}{m:Int}:XQ (.int i m)= .some m:=rfl
@[go_sem] theorem Bd_get_none{m:Int}:Bd.get m .none=m:=rfl
@[go_sem] theorem Bd_get_some{m r:Int}:Bd.get m (.some r)=r:=rfl
@[go_sem] theorem Bd_ok_none:Bd.ok .none=true:=rfl
@[go_sem] theorem Bd_ok_some{r:Int}:Bd.ok (.some r)=true:=rfl
@[go_sem] theorem look_cons{i j:Nat}{v:A}{r:List (Nat×A)}:look ((i,v)::r) j=if i=j then v else look r j:=rfl
@[go_sem] theorem setH_eq{σs:List (Nat×A)}{cU:List Obj}{o:Obj}:(St.mk σs cU).dc n o=⟨σs,kQ cU n o⟩:=rfl
@[go_sem] theorem setO_zero{a b:Obj}{r:List Obj}:kQ (a::r) 0 b=b::r:=rfl
@[go_sem] theorem setO_succ{a b:Obj}{r:List Obj}:kQ (a::r) (n+1) b=a::kQ r n b:=rfl
@[go_sem] theorem nthO_zero{a:Obj}{r:List Obj}:cn (a::r) 0=some a:=rfl
@[go_sem] theorem nthO_succ{a:Obj}{r:List Obj}:cn (a::r) (n+1)=cn r n:=rfl
@[go_sem] theorem setNth_zero{a b:A}{r:List A}:cC (a::r) 0 b=b::r:=rfl
@[go_sem] theorem setNth_succ{a b:A}{r:List A}:cC (a::r) (n+1) b=a::cC r n b:=rfl
end
section
variable{a b c:A}{cs ds es:List A}{k n i:Nat}{q:IntKind}{m r:Int}{s s':List UInt8}{H:List Obj}{P:Program}{t u:TypeId}{p e:Bool}{σ:St}{d:Option Tmp}{kl:List CK}{ko:Option (List CK)}{sl k0:Bool}
@[go_sem] theorem toA_int:toA (.int q m)= .int q m:=rfl
@[go_sem] theorem toA_bool:toA (.bool p)= .bool p:=rfl
@[go_sem] theorem toA_str{l:List UInt8}:toA (.string ⟨⟨l⟩⟩)= .str l:=rfl
@[go_sem] theorem toA_nils:toA (.slice none 0 0)= .bT:=rfl
@[go_sem] theorem pick_bool:MK (.bool p) a b=some (if p then a else b):=rfl
@[go_sem] theorem load_dptr:s8 P t H (.dK cs)=j0 P t cs:=rfl
@[go_sem] theorem load_ref:s8 P t H (.ref n i)=(match cn H n with|some (.box cs)=>j0 P t (cs.drop i)|_=>none):=rfl
@[go_sem] theorem load_eref:s8 P t H (.h_ n i k)=(match cn H n with|some (.row _ es)=>(es[i]?).bind fun e=>j0 P t (e.cells.drop k)|_=>none):=rfl
@[go_sem] theorem loadC_eq:j0 P t cs=(match bF P t with|some true=>(match ba P t with|some n=>if n<=cs.length then some (.agg (cs.take n))else none|none=>none)|some false=>cs.head? |none=>none):=rfl
@[go_sem] theorem fieldI_some{f:Nat×TypeId}:j8 (some f) a=j7 f.1 a:=rfl
@[go_sem] theorem field_dptr:j7 n (.dK cs)=some (.dK (cs.drop n)):=rfl
@[go_sem] theorem field_ref:j7 n (.ref i k)=some (.ref i (k+n)):=rfl
@[go_sem] theorem field_eref{j:Nat}:j7 n (.h_ i j k)=some (.h_ i j (k+n)):=rfl
@[go_sem] theorem index_str:wY P t (.str s) (.int q m)=(if fO P t=true/\0<=m then(s[m.toNat]?).map iM else none):=rfl
@[go_sem] theorem index_agg:wY P t (.agg cs) (.int q m)=(match fi P t with|some (n,e)=>(match ba P e with|some k=>if 0<=m/\m<n then j0 P e (cs.drop (m.toNat*k))else none|none=>none)|none=>none):=rfl
@[go_sem] theorem indexAddr_int:l9 P t a (.int q m)=(match aX P t with|some e=>(match ba P e with|some k=>l8 k m a|none=>none)|none=>(match fi P t with|some (n,e)=>(match ba P e with|some k=>oe n k m a|none=>none)|none=>none)):=rfl
@[go_sem] theorem indexE_slc:l8 k m (.ab es)=Vm k m es:=rfl
@[go_sem] theorem indexE_row{j l:Nat}:l8 k m (.row n i j l p)=(if k=j/\0<=m/\m<l then some (.h_ n (i+m.toNat) 0)else none):=rfl
@[go_sem] theorem indexR_ref{j:Nat}:oe n k m (.ref i j)=(if 0<=m/\m<n then some (.ref i (j+m.toNat*k))else none):=rfl
@[go_sem] theorem getE_eq:Vm k m es=(if 0<=m then es[m.toNat]? else none).bind fun y=>if k=y.cells.length then some (.dK y.cells)else none:=rfl
@[go_sem] theorem extract_tup:pY (.cD cs) n=cs[n]? :=rfl
@[go_sem] theorem len_str:Qm P t (.str s)=if fO P t=true then some (.int .i64 s.length)else none:=rfl
@[go_sem] theorem len_slc:Qm P t (.ab es)=if(aX P t).isSome=true then some (.int .i64 es.length)else none:=rfl
@[go_sem] theorem len_row{j:Nat}:Qm P t (.row n i j k p)=if(aX P t).isSome=true then some (.int .i64 k)else none:=rfl
@[go_sem] theorem min_int{q':IntKind}:XR [.int q m,.int q' r]=some (.int q (if r<m then r else m)):=rfl
@[go_sem] theorem max_int{q':IntKind}:XS [.int q m,.int q' r]=some (.int q (if r>m then r else m)):=rfl
@[go_sem] theorem makeFunc_eq:nA (.func n) [] cs=some (.fn n cs):=rfl
@[go_sem] theorem un_not:unA .not (.bool p)=some (.bool !p):=rfl
@[go_sem] theorem bin_add:fQ ko p e sl .add (.int q m) (.int q r)=some (.int q (q.wrap (m+r))):=by simp[fQ,tC]
@[go_sem] theorem bin_sub:fQ ko p e sl .sub (.int q m) (.int q r)=some (.int q (q.wrap (m-r))):=by simp[fQ,tC]
@[go_sem] theorem bin_mul:fQ ko p e sl .mul (.int q m) (.int q r)=some (.int q (q.wrap (m*r))):=by simp[fQ,tC]
@[go_sem] theorem bin_quo:fQ ko p e sl .quo (.int q m) (.int q r)=if r=0 then none else some (.int q (q.wrap (m.tdiv r))):=by simp[fQ,tC]
@[go_sem] theorem bin_rem:fQ ko p e sl .rem (.int q m) (.int q r)=if r=0 then none else some (.int q (m.tmod r)):=by simp[fQ,tC]
@[go_sem] theorem bin_and:fQ ko p e sl .and (.int q m) (.int q r)=some (.int q (q.wrap ((BitVec.ofInt q.bits m&&&BitVec.ofInt q.bits r).toNat))):=by simp[fQ,tC]
@[go_sem] theorem bin_eql:fQ ko p e sl .eql (.int q m) (.int q r)=some (.bool (m==r)):=by simp[fQ,tC]
@[go_sem] theorem bin_neq:fQ ko p e sl .neq (.int q m) (.int q r)=some (.bool (m !=r)):=by simp[fQ,tC]
@[go_sem] theorem bin_lss:fQ ko p e sl .lss (.int q m) (.int q r)=some (.bool (decide (m<r))):=by simp[fQ,tC]
@[go_sem] theorem bin_leq:fQ ko p e sl .leq (.int q m) (.int q r)=some (.bool (decide (m<=r))):=by simp[fQ,tC]
@[go_sem] theorem bin_gtr:fQ ko p e sl .gtr (.int q m) (.int q r)=some (.bool (decide (r<m))):=by simp[fQ,tC]
@[go_sem] theorem bin_geq:fQ ko p e sl .geq (.int q m) (.int q r)=some (.bool (decide (r<=m))):=by simp[fQ,tC]
@[go_sem] theorem bin_shr{q':IntKind}:fQ ko p e sl .shr (.int q m) (.int q' r)=if r<0 then none else some (.int q (m.fdiv (2^(min r.toNat q.bits)))):=rfl
@[go_sem] theorem bin_beql{x y:Bool}:fQ ko true e sl .eql (.bool x) (.bool y)=some (.bool (x==y)):=rfl
@[go_sem] theorem bin_bneq{x y:Bool}:fQ ko true e sl .neq (.bool x) (.bool y)=some (.bool (x !=y)):=rfl
@[go_sem] theorem bin_sadd:fQ ko p e sl .add (.str s) (.str s')=if s.length+s'.length<=9223372036854775807 then some (.str (s++s'))else none:=rfl
@[go_sem] theorem bin_seql:fQ ko p e sl .eql (.str s) (.str s')=some (.bool (s==s')):=rfl
@[go_sem] theorem bin_sneq:fQ ko p e sl .neq (.str s) (.str s')=some (.bool (s !=s')):=rfl
@[go_sem] theorem bin_aeql:fQ (some kl) p e sl .eql (.agg cs) (.agg ds)=if eR kl cs=true/\eR kl ds=true then(wV cs ds).map .bool else none:=rfl
@[go_sem] theorem bin_aneq:fQ (some kl) p e sl .neq (.agg cs) (.agg ds)=if eR kl cs=true/\eR kl ds=true then(wV cs ds).map (fun b=> .bool !b)else none:=rfl
@[go_sem] theorem bin_empnil:fQ ko p e true .eql (.emp k0) .bT=some (.bool k0):=rfl
@[go_sem] theorem bin_slcnil:fQ ko p e true .eql (.ab (a::cs)) .bT=some (.bool false):=rfl
@[go_sem] theorem hasL_nil:eR [] []=true:=rfl
@[go_sem] theorem hasL_cons{c:CK}:eR (c::kl) (a::cs)=(c.has a&&eR kl cs):=rfl
@[go_sem] theorem has_int:CK.has (.int q) (.int q m)=true:=by simp[CK.has]
@[go_sem] theorem has_bool:CK.has .bool (.bool p)=true:=rfl
@[go_sem] theorem has_str:CK.has .str (.str s)=true:=rfl
@[go_sem] theorem eqL_nil:wV [] []=some true:=rfl
@[go_sem] theorem eqL_cons:wV (a::cs) (b::ds)=(Vj a b).bind fun x=>(wV cs ds).map (x&& ·):=rfl
@[go_sem] theorem eqA_int:Vj (.int q m) (.int q r)=some (m==r):=by simp[Vj]
@[go_sem] theorem eqA_bool{x y:Bool}:Vj (.bool x) (.bool y)=some (x==y):=rfl
@[go_sem] theorem eqA_str:Vj (.str s) (.str s')=some (s==s'):=rfl
@[go_sem] theorem cells_agg:A.cells (.agg cs)=cs:=rfl
@[go_sem] theorem cells_int:A.cells (.int q m)=[.int q m]:=rfl
@[go_sem] theorem cells_bool:A.cells (.bool p)=[.bool p]:=rfl
@[go_sem] theorem cells_str:A.cells (.str s)=[.str s]:=rfl
@[go_sem] theorem cells_slc:A.cells (.ab es)=[.ab es]:=rfl
@[go_sem] theorem cells_clip:A.cells (.clip es)=[.clip es]:=rfl
@[go_sem] theorem cells_nils:A.cells .bT=[.bT]:=rfl
@[go_sem] theorem cells_row{j:Nat}:A.cells (.row n i k j p)=[.row n i k j p]:=rfl
@[go_sem] theorem val_agg:A.val (.agg cs)=true:=rfl
@[go_sem] theorem val_int:A.val (.int q m)=true:=rfl
@[go_sem] theorem val_bool:A.val (.bool p)=true:=rfl
@[go_sem] theorem val_str:A.val (.str s)=true:=rfl
@[go_sem] theorem val_slc:A.val (.ab es)=true:=rfl
@[go_sem] theorem val_clip:A.val (.clip es)=true:=rfl
@[go_sem] theorem val_nils:A.val .bT=true:=rfl
@[go_sem] theorem val_row{j:Nat}:A.val (.row n i k j p)=true:=rfl
@[go_sem] theorem norm_agg:A.norm (.agg cs)= .agg (cs.map jj):=rfl
@[go_sem] theorem norm_int:A.norm (.int q m)= .int q m:=rfl
@[go_sem] theorem norm_bool:A.norm (.bool p)= .bool p:=rfl
@[go_sem] theorem norm_str:A.norm (.str s)= .str s:=rfl
@[go_sem] theorem norm_slc:A.norm (.ab es)= .ab es:=rfl
@[go_sem] theorem norm_clip:A.norm (.clip es)= .ab es:=rfl
@[go_sem] theorem norm_nils:A.norm .bT= .ab []:=rfl
@[go_sem] theorem norm0_int:jj (.int q m)= .int q m:=rfl
@[go_sem] theorem norm0_bool:jj (.bool p)= .bool p:=rfl
@[go_sem] theorem norm0_str:jj (.str s)= .str s:=rfl
@[go_sem] theorem norm0_slc:jj (.ab es)= .ab es:=rfl
@[go_sem] theorem norm0_clip:jj (.clip es)= .ab es:=rfl
@[go_sem] theorem norm0_nils:jj .bT= .ab []:=rfl
@[go_sem] theorem viewL_nil:iG H []=some []:=rfl
@[go_sem] theorem viewL_cons:iG H (a::cs)=(view H a).bind fun y=>(iG H cs).map (y:: ·):=rfl
@[go_sem] theorem view1L_nil:iY H []=some []:=rfl
@[go_sem] theorem view1L_cons:iY H (a::cs)=(l6 H a).bind fun y=>(iY H cs).map (y:: ·):=rfl
@[go_sem] theorem view0L_nil:eK H []=some []:=rfl
@[go_sem] theorem view0L_cons:eK H (a::cs)=(j4 H a).bind fun y=>(eK H cs).map (y:: ·):=rfl
@[go_sem] theorem view_fn:view H (.fn n cs)=(iY H cs).map (.fn n ·):=rfl
@[go_sem] theorem view_agg:view H (.agg cs)=(eK H cs).map .agg:=rfl
@[go_sem] theorem view_ref:view H (.ref n i)=(match cn H n with|some (.box cs)=>(eK H (cs.drop i)).map .dK|_=>none):=rfl
@[go_sem] theorem view_row{j:Nat}:view H (.row n i k j p)=gO H n i k j:=rfl
@[go_sem] theorem view_int:view H (.int q m)=some (.int q m):=rfl
@[go_sem] theorem view_bool:view H (.bool p)=some (.bool p):=rfl
@[go_sem] theorem view_str:view H (.str s)=some (.str s):=rfl
@[go_sem] theorem view_slc:view H (.ab es)=some (.ab es):=rfl
@[go_sem] theorem view_clip:view H (.clip es)=some (.ab es):=rfl
@[go_sem] theorem view_nils:view H .bT=some (.ab []):=rfl
@[go_sem] theorem view1_ref:l6 H (.ref n i)=(match cn H n with|some (.box cs)=>(eK H (cs.drop i)).map .dK|_=>none):=rfl
@[go_sem] theorem view0_row{j:Nat}:j4 H (.row n i k j p)=gO H n i k j:=rfl
@[go_sem] theorem view0_int:j4 H (.int q m)=some (.int q m):=rfl
@[go_sem] theorem view0_bool:j4 H (.bool p)=some (.bool p):=rfl
@[go_sem] theorem view0_str:j4 H (.str s)=some (.str s):=rfl
@[go_sem] theorem view0_slc:j4 H (.ab es)=some (.ab es):=rfl
@[go_sem] theorem view0_clip:j4 H (.clip es)=some (.ab es):=rfl
@[go_sem] theorem view0_nils:j4 H .bT=some (.ab []):=rfl
@[go_sem] theorem viewRow_eq{j:Nat}:gO H n i k j=(match cn H n with|some (.row k' es)=>if k'=k/\i+j<=es.length/\k≠0 then some (.ab ((es.drop i).take j))else none|_=>none):=rfl
@[go_sem] theorem pureL_nil:A.pure.a_ []=true:=rfl
@[go_sem] theorem pureL_cons:A.pure.a_ (a::cs)=(a.pure&&A.pure.a_ cs):=rfl
@[go_sem] theorem pure_agg:A.pure (.agg cs)=A.pure.a_ cs:=by simp[A.pure]
@[go_sem] theorem pure_fn:A.pure (.fn n cs)=A.pure.a_ cs:=by simp[A.pure]
@[go_sem] theorem pure_int:A.pure (.int q m)=true:=by simp[A.pure]
@[go_sem] theorem pure_bool:A.pure (.bool p)=true:=by simp[A.pure]
@[go_sem] theorem pure_str:A.pure (.str s)=true:=by simp[A.pure]
@[go_sem] theorem pure_slc:A.pure (.ab es)=true:=by simp[A.pure]
@[go_sem] theorem pure_clip:A.pure (.clip es)=true:=by simp[A.pure]
@[go_sem] theorem pure_nils:A.pure .bT=true:=by simp[A.pure]
@[go_sem] theorem flatL_nil:A.flat.s7 []=true:=rfl
@[go_sem] theorem flatL_cons:A.flat.s7 (a::cs)=(a.flat&&A.flat.s7 cs):=rfl
@[go_sem] theorem flat_agg:A.flat (.agg cs)=A.flat.s7 cs:=by simp[A.flat]
@[go_sem] theorem flat_tup:A.flat (.cD cs)=A.flat.s7 cs:=by simp[A.flat]
@[go_sem] theorem flat_int:A.flat (.int q m)=true:=by simp[A.flat]
@[go_sem] theorem flat_bool:A.flat (.bool p)=true:=by simp[A.flat]
@[go_sem] theorem flat_slc:A.flat (.ab es)=false:=by simp[A.flat]
@[go_sem] theorem clear_row{σs:List (Nat×A)}{cU:List Obj}{l:Nat}:w3 P (St.mk σs cU) d t (.row n i k l p)=(match aX P t with|some e=>(match cn cU n with|some (.row k' es)=>(match dQ P e with|some z=>if k'=k/\z.cells.length=k/\k≠0/\z.val=true/\z.pure=true/\i+l<=es.length then some (((St.mk σs cU).dc n (.row k (es.take i++List.replicate l z.norm++es.drop (i+l)))).put d (.cD []))else none|none=>none)|_=>none)|none=>none):=rfl
@[go_sem] theorem callHV_fn{Γ:an}:p_ Γ σ d (.fn n cs) ds=MM Γ σ d n (ds++cs):=rfl
@[go_sem] theorem callH_eq{Γ:an}{σs:List (Nat×A)}{cU:List Obj}:MM Γ (St.mk σs cU) d n ds=tG Γ (St.mk σs cU) d n ds (reach cU 64 (A.names.gq ds) []):=rfl
@[go_sem] theorem callH1_eq{Γ:an}{σs:List (Nat×A)}{cU:List Obj}{ρ:List Nat}:tG Γ (St.mk σs cU) d n ds ρ=(A.jD.pG ρ ds).bind fun as'=>(pH ρ cU ρ).bind fun cr=>
 if Γ.pZ n=true then(if ρ.all (fun n=> !Γ.fix n)=true then(iG cr as').bind fun bs=>(Γ.f n bs).map (Jo (St.mk σs cU) d ρ cr)else none)
 else(Γ.hp n as' cr).bind fun x=>if oq Γ ρ cU.length x.2.2=true then some (BY (St.mk σs cU) d ρ x)else none:=rfl
@[congr] theorem callH1_congr{Γ:an}{ρ ρ':List Nat}(h:ρ=ρ'):tG Γ σ d n ds ρ=tG Γ σ d n ds ρ':=by rw[h]
@[go_sem] theorem callH2_eq{σs:List (Nat×A)}{cU:List Obj}{ρ:List Nat}{S:List Nat}:BY (St.mk σs cU) d ρ (a,H,S)=St.put ⟨(dp ρ cU.length (St.mk σs cU) S).s,mP ρ cU.length ρ H (dp ρ cU.length (St.mk σs cU) S).H⟩ d (a.back ρ cU.length):=rfl
@[go_sem] theorem callF2_eq{σs:List (Nat×A)}{cU:List Obj}{ρ:List Nat}:Jo (St.mk σs cU) d ρ H a=St.put ⟨σs.map (fun p=>(p.1,mI ρ H p.2)),nB ρ ρ (cU.map (Jn ρ H))⟩ d a:=rfl
@[go_sem] theorem scrubs_nil{ρ:List Nat}:dp ρ n σ []=σ:=rfl
@[go_sem] theorem backH_nil{ρ:List Nat}{os:List Obj}:mP ρ n [] os H=H++os.map (Obj.back ρ n):=rfl
@[go_sem] theorem backH_cons{ρ ns:List Nat}{o:Obj}{os:List Obj}:mP ρ n (i::ns) (o::os) H=mP ρ n ns os (kQ H i (o.back ρ n)):=rfl
@[go_sem] theorem mayMove_nil{Γ:an}{ρ:List Nat}:oq Γ ρ n []=true:=rfl
@[go_sem] theorem reach_nil{ρ:List Nat}:reach H (n+1) [] ρ=ρ:=rfl
@[go_sem] theorem reach_cons{ρ ns:List Nat}:reach H (n+1) (i::ns) ρ=if ρ.contains i=true then reach H n ns ρ else reach H n (tF (cn H i)++ns) (ρ++[i]):=rfl
@[go_sem] theorem namesO_some{o:Obj}:tF (some o)=o.names:=rfl
@[go_sem] theorem names_box:Obj.names (.box cs)=A.names.gq cs:=rfl
@[go_sem] theorem names_rowO:Obj.names (.row k cs)=[]:=rfl
@[go_sem] theorem namesL_nil:A.names.gq []=[]:=rfl
@[go_sem] theorem namesL_cons:A.names.gq (a::cs)=a.names++A.names.gq cs:=rfl
@[go_sem] theorem names_ref:A.names (.ref n i)=[n]:=by simp[A.names]
@[go_sem] theorem names_row{j:Nat}:A.names (.row n i j k p)=[n]:=by simp[A.names]
@[go_sem] theorem names_fn:A.names (.fn n cs)=A.names.gq cs:=by simp[A.names]
@[go_sem] theorem names_int:A.names (.int q m)=[]:=by simp[A.names]
@[go_sem] theorem names_slc:A.names (.ab es)=[]:=by simp[A.names]
@[go_sem] theorem names_clip:A.names (.clip es)=[]:=by simp[A.names]
@[go_sem] theorem idx_cons{ρ:List Nat}:idx (i::ρ) n=if i=n then some 0 else(idx ρ n).map (· +1):=rfl
@[go_sem] theorem renL_nil{ρ:List Nat}:A.jD.pG ρ []=some []:=rfl
@[go_sem] theorem renL_cons{ρ:List Nat}:A.jD.pG ρ (a::cs)=(a.jD ρ).bind fun x=>(A.jD.pG ρ cs).map (x:: ·):=rfl
@[go_sem] theorem ren_ref{ρ:List Nat}:A.jD ρ (.ref n i)=(idx ρ n).map (.ref · i):=by simp[A.jD]
@[go_sem] theorem ren_row{ρ:List Nat}{j:Nat}:A.jD ρ (.row n i j k p)=(idx ρ n).map (.row · i j k p):=by simp[A.jD]
@[go_sem] theorem ren_fn{ρ:List Nat}:A.jD ρ (.fn n cs)=(A.jD.pG ρ cs).map (.fn n ·):=by simp[A.jD]
@[go_sem] theorem ren_int{ρ:List Nat}:A.jD ρ (.int q m)=some (.int q m):=by simp[A.jD]
@[go_sem] theorem ren_slc{ρ:List Nat}:A.jD ρ (.ab es)=some (.ab es):=by simp[A.jD]
@[go_sem] theorem ren_clip{ρ:List Nat}:A.jD ρ (.clip es)=some (.clip es):=by simp[A.jD]
@[go_sem] theorem renH_nil{ρ:List Nat}:pH ρ H []=some []:=rfl
@[go_sem] theorem renH_cons{ρ ns:List Nat}:pH ρ H (i::ns)=(XT ρ (cn H i)).bind fun o=>(pH ρ H ns).map (o:: ·):=rfl
@[go_sem] theorem renO_some{ρ:List Nat}{o:Obj}:XT ρ (some o)=o.jD ρ:=rfl
@[go_sem] theorem renO_box{ρ:List Nat}:Obj.jD ρ (.box cs)=(A.jD.pG ρ cs).map .box:=rfl
@[go_sem] theorem renO_row{ρ:List Nat}:Obj.jD ρ (.row k cs)=some (.row k cs):=rfl
@[go_sem] theorem nthN_nil:ia [] n i=n+i:=rfl
@[go_sem] theorem nthN_zero{ρ:List Nat}:ia (i::ρ) n 0=i:=rfl
@[go_sem] theorem back_row{ρ:List Nat}{j l:Nat}:A.back ρ k (.row n i j l p)= .row (ia ρ k n) i j l p:=by simp[A.back]
@[go_sem] theorem back_tup{ρ:List Nat}:A.back ρ k (.cD cs)= .cD (A.back.mO ρ k cs):=by simp[A.back]
@[go_sem] theorem back_slc{ρ:List Nat}:A.back ρ k (.ab es)= .ab es:=by simp[A.back]
@[go_sem] theorem backL_nil{ρ:List Nat}:A.back.mO ρ k []=[]:=rfl
@[go_sem] theorem backO_row{ρ:List Nat}:Obj.back ρ k (.row n cs)= .row n cs:=rfl
@[go_sem] theorem frzA_eq{ρ:List Nat}:mI ρ H a=if a.meets ρ=true then(match a.jD ρ with|some x'=>(view H x').getD .any|none=> .any)else a:=rfl
@[go_sem] theorem meets_eq{ρ:List Nat}:A.meets ρ a=ρ.any fun n=>a.mem n:=rfl
@[go_sem] theorem frzO_box{ρ:List Nat}:Jn ρ H (.box cs)= .box (cs.map (mI ρ H)):=rfl
@[go_sem] theorem frzO_row{ρ:List Nat}:Jn ρ H (.row k cs)= .row k cs:=rfl
@[go_sem] theorem dropO_nil{ρ:List Nat}:nB ρ [] H=H:=rfl
@[go_sem] theorem dropO_cons{ρ ns:List Nat}:nB ρ (i::ns) H=nB ρ ns (kQ H i (.row 0 [])):=rfl
@[go_sem] theorem startH_eq:Jq cs H={s:=number 0 cs,H:=H}:=rfl
@[go_sem] theorem bodyH_ret{fn:Func}:XV P fn a H .ret σ=K? (zZ P σ fn.results.toList) (fun rs=>jG rs=a/\a.under H.length=true/\s9 H.length σ.H H):=rfl
@[go_sem] theorem bodyH_normal{fn:Func}:XV P fn a H .normal σ=K? (zZ P σ fn.results.toList) (fun rs=>jG rs=a/\a.under H.length=true/\s9 H.length σ.H H):=rfl
@[go_sem] theorem rawL_nil:zZ P σ []=some []:=rfl
@[go_sem] theorem rawL_cons{v:ResultVar}{vs:List ResultVar}:zZ P σ (v::vs)=(Vo P σ v).bind fun x=>(zZ P σ vs).map (x:: ·):=rfl
@[go_sem] theorem raw_tmp{σs:List (Nat×A)}{cU:List Obj}:Vo P (St.mk σs cU) (.tmp i)=some (look σs i):=rfl
@[go_sem] theorem resOf_nil:jG []= .cD []:=rfl
@[go_sem] theorem callV_fn{Γ:an}:BX Γ σ d (.fn n cs) ds=ML Γ σ d n (ds++cs):=rfl
@[go_sem] theorem callX_eq{σs:List (Nat×A)}{cU:List Obj}{Γ:an}:ML Γ (St.mk σs cU) d n ds=(iG cU ds).bind fun bs=>(Γ.f n bs).bind fun r=>if(A.pure.a_ ds||r.flat)=true then some ((St.mk σs cU).put d r)else none:=rfl
@[go_sem] theorem box_eq{σs:List (Nat×A)}{cU:List Obj}:wZ (St.mk σs cU) n d a=if a.val=true then some (((St.mk σs cU).dc n (.box a.cells)).put d (.ref n 0))else none:=rfl
@[go_sem] theorem alloc_some:om σ n d (some a)=wZ σ n d a:=rfl
@[go_sem] theorem store_ref{σs:List (Nat×A)}{cU:List Obj}{z:Option Nat}:oo (St.mk σs cU) d z (.ref n i) a=(match cn cU n with|some (.box cs)=>if z=some a.cells.length/\i+a.cells.length<=cs.length/\a.val=true then some (((St.mk σs cU).dc n (.box (eB cs i a.cells))).put d (.cD []))else none|_=>none):=rfl
@[go_sem] theorem store_eref{σs:List (Nat×A)}{cU:List Obj}{z:Option Nat}{j:Nat}:oo (St.mk σs cU) d z (.h_ n j i) a=(match cn cU n with|some (.row k es)=>(es[j]?).bind fun e=>if z=some a.cells.length/\i+a.cells.length<=e.cells.length/\a.cells.length≠0/\a.val=true/\a.pure=true then some (((St.mk σs cU).dc n (.row k (cC es j (l_ e i a)))).put d (.cD []))else none|_=>none):=rfl
@[go_sem] theorem storeE_agg:l_ (.agg cs) i a= .agg (eB cs i a.norm.cells):=rfl
@[go_sem] theorem storeE_int:l_ (.int q m) i a=a.norm:=rfl
@[go_sem] theorem storeE_str:l_ (.str s) i a=a.norm:=rfl
@[go_sem] theorem splice_eq:eB cs i ds=cs.take i++ds++cs.drop (i+ds.length):=rfl
@[go_sem] theorem build_eq{ps:List (Nat×Operand)}:pX P t σ ps=(match dQ P t with|some (.agg zs)=>(match fi P t with|some (_,e)=>(if(ba P e).isSome=true then(kC P e σ ps zs).map .agg else none)|none=>if iN P t=true then(kB P t σ ps zs).map .agg else none)|_=>none):=rfl
@[go_sem] theorem fillS_nil:kB P t σ [] cs=some cs:=rfl
@[go_sem] theorem fillS_cons{x:Operand}{ps:List (Nat×Operand)}:kB P t σ ((i,x)::ps) cs=(match fieldInfo P t i with|some (o,ft)=>(uX (ba P ft) o (σ.ev x) cs).bind (kB P t σ ps)|none=>none):=rfl
@[go_sem] theorem fillA_nil:kC P t σ [] cs=some cs:=rfl
@[go_sem] theorem fillA_cons{x:Operand}{ps:List (Nat×Operand)}:kC P t σ ((i,x)::ps) cs=(match ba P t with|some n=>(uX (some n) (i*n) (σ.ev x) cs).bind (kC P t σ ps)|none=>none):=rfl
@[go_sem] theorem fillC_some:uX (some n) i a cs=if a.cells.length=n/\i+n<=cs.length/\a.val=true then some (cs.take i++a.cells++cs.drop (i+n))else none:=rfl
@[go_sem] theorem buildSlice_eq{ps:List (Nat×Operand)}:fD P t n σ ps=(match aX P t with|some e=>(match ba P e,dQ P e with|some k,some z=>if n*k<=16777216/\k≠0/\z.pure=true/\z.val=true/\z.cells.length=k then(jk k σ ps (List.replicate n z.norm)).map .clip else none|_,_=>none)|none=>none):=rfl
@[go_sem] theorem fillE_nil:jk k σ [] cs=some cs:=rfl
@[go_sem] theorem fillE_cons{x:Operand}{ps:List (Nat×Operand)}:jk k σ ((i,x)::ps) cs=if(σ.ev x).cells.length=k/\i<cs.length/\(σ.ev x).val=true/\(σ.ev x).pure=true then jk k σ ps (cC cs i (σ.ev x).norm)else none:=rfl
@[go_sem] theorem appendX_eq{fx:Nat->Bool}{x:A}:rR P fx σ n d t u a x=(match aX P t with|some e=>(match ba P e with|some k=>if k=0\/fk P e=0\/jC P e k=false then none else(zY P σ e u k x).bind fun src=>oh fx σ n d k (fk P e) a src|none=>none)|none=>none):=rfl
@[go_sem] theorem src_slc:zY P σ t u k (.ab es)=if lj k es=true/\(aX P u).isSome=true then some es else none:=rfl
@[go_sem] theorem src_clip:zY P σ t u k (.clip es)=if lj k es=true/\(aX P u).isSome=true then some es else none:=rfl
@[go_sem] theorem src_emp:zY P σ t u k (.emp p)=if(aX P u).isSome=true then some []else none:=rfl
@[go_sem] theorem strOK_eq:lj k es=(es.isEmpty||cd es==k):=rfl
@[go_sem] theorem stride_cons:cd (a::es)=a.cells.length:=rfl
@[go_sem] theorem append_nils{fx:Nat->Bool}{σs:List (Nat×A)}{cU:List Obj}:oh fx (St.mk σs cU) n d k i .bT es=if es.length*i<=140737488355328 then some (((St.mk σs cU).dc n (.row k es)).put d (.row n 0 k es.length false))else none:=rfl
@[go_sem] theorem append_clip{fx:Nat->Bool}{σs:List (Nat×A)}{cU:List Obj}:oh fx (St.mk σs cU) n d k i (.clip cs) es=if lj k cs=true/\(cs=[]\/es≠ [])/\(cs.length+es.length)*i<=140737488355328 then some (((St.mk σs cU).dc n (.row k (cs++es))).put d (.row n 0 k (cs.length+es.length) false))else none:=rfl
@[go_sem] theorem append_row{fx:Nat->Bool}{σs:List (Nat×A)}{cU:List Obj}{m j l:Nat}:oh fx (St.mk σs cU) n d k i (.row m 0 j l p) es=(match cn cU m with|some (.row FP xs)=>if j=k/\FP=k/\l<=xs.length/\(l+es.length)*i<=140737488355328 then(if p then(if es=[]then none else some (((St.mk σs cU).dc n (.row k (xs.take l++es))).put d (.row n 0 k (l+es.length) false)))else(if fx m=true then none else some ((((St.mk σs cU).fR m).dc m (.row k (xs.take l++es))).put d (.row m 0 k (l+es.length) false))))else none|_=>none):=rfl
@[go_sem] theorem convX_eq{σs:List (Nat×A)}{cU:List Obj}:yV P (St.mk σs cU) n d t u a=if uZ P t u=true then(match a with| .str s=>some (((St.mk σs cU).dc n (.row 1 (dC s))).put d (.row n 0 1 s.length false))|_=>none)else(nz P t u cU a).map ((St.mk σs cU).put d ·):=rfl
@[go_sem] theorem conv_int:nz P t u H (.int q m)=(match ph P u with|some k=>if(bF P t).isSome=true then some (.int k (k.wrap m))else none|none=>none):=rfl
@[go_sem] theorem conv_row{j:Nat}:nz P t u H (.row n i k j p)=l7 (uY P t u) (gO H n i k j):=rfl
@[go_sem] theorem conv_clip:nz P t u H (.clip es)=l7 (uY P t u) (some (.ab es)):=rfl
@[go_sem] theorem convB_some:l7 true (some (.ab es))=(fP es).map .str:=rfl
@[go_sem] theorem slice_str{l h b:Bd}{z:Option Nat}:tD true z (.str s) l h b=Jl s l h b:=rfl
@[go_sem] theorem slice_slc{l h b:Bd}:tD p (some k) (.ab es) l h b=wW k es l h b:=rfl
@[go_sem] theorem slice_row{l h b:Bd}{j f:Nat}{x:Bool}:tD p (some f) (.row n i k j x) l h b=if f=k then Jm n i f j l h b else none:=rfl
@[go_sem] theorem sliceS_eq{l h:Bd}:Jl s l h .none=if 0<=l.get 0/\l.get 0<=h.get s.length/\h.get s.length<=s.length then some (.str ((s.take (h.get s.length).toNat).drop (l.get 0).toNat))else none:=rfl
@[go_sem] theorem sliceE_eq{l h:Bd}:wW k es l h .none=if lj k es=true/\0<=l.get 0/\l.get 0<=h.get es.length/\h.get es.length<=es.length then some (.ab ((es.take (h.get es.length).toNat).drop (l.get 0).toNat))else none:=rfl
@[go_sem] theorem sliceR_eq{j:Nat}{l h:Bd}:Jm n i k j l h .none=if 0<=l.get 0/\l.get 0<=h.get j/\h.get j<=j then some (.row n (i+(l.get 0).toNat) k (h.get j-l.get 0).toNat false)else none:=rfl
@[go_sem] theorem elSize_eq:tE P t=(match aX P t with|some e=>ba P e|none=>none):=rfl
@[go_sem] theorem scrub_eq{σs:List (Nat×A)}{cU:List Obj}:(St.mk σs cU).fR n={s:=σs.map (fun p=>(p.1,eo n p.2)),H:=cU.map (og n)}:=rfl
@[go_sem] theorem scrubA_eq:eo n a=if a.mem n=true then .any else a:=rfl
@[go_sem] theorem scrubO_box:og n (.box cs)= .box (cs.map (eo n)):=rfl
@[go_sem] theorem scrubO_row:og n (.row k cs)= .row k cs:=rfl
@[go_sem] theorem memL_nil:A.mem.gm n []=false:=rfl
@[go_sem] theorem memL_cons:A.mem.gm n (a::cs)=(a.mem n||A.mem.gm n cs):=rfl
@[go_sem] theorem mem_agg:A.mem n (.agg cs)=A.mem.gm n cs:=by simp[A.mem]
@[go_sem] theorem mem_fn:A.mem n (.fn i cs)=A.mem.gm n cs:=by simp[A.mem]
@[go_sem] theorem mem_tup:A.mem n (.cD cs)=A.mem.gm n cs:=by simp[A.mem]
@[go_sem] theorem mem_int:A.mem n (.int q m)=false:=by simp[A.mem]
@[go_sem] theorem mem_bool:A.mem n (.bool p)=false:=by simp[A.mem]
@[go_sem] theorem mem_str:A.mem n (.str s)=false:=by simp[A.mem]
@[go_sem] theorem mem_slc:A.mem n (.ab es)=false:=by simp[A.mem]
@[go_sem] theorem mem_clip:A.mem n (.clip es)=false:=by simp[A.mem]
@[go_sem] theorem mem_dptr:A.mem n (.dK es)=false:=by simp[A.mem]
@[go_sem] theorem mem_nils:A.mem n .bT=false:=by simp[A.mem]
@[go_sem] theorem mem_any:A.mem n .any=false:=by simp[A.mem]
@[go_sem] theorem mem_ref:A.mem n (.ref i k)=(i==n):=by simp[A.mem]
@[go_sem] theorem mem_eref{j:Nat}:A.mem n (.h_ i j k)=(i==n):=by simp[A.mem]
@[go_sem] theorem mem_row{j l:Nat}:A.mem n (.row i j k l p)=(i==n):=by simp[A.mem]
@[go_sem] theorem under_agg:A.under n (.agg cs)=A.under.ib n cs:=by simp[A.under]
@[go_sem] theorem under_fn:A.under n (.fn i cs)=A.under.ib n cs:=by simp[A.under]
@[go_sem] theorem under_tup:A.under n (.cD cs)=A.under.ib n cs:=by simp[A.under]
@[go_sem] theorem underL_nil:A.under.ib n []=true:=rfl
@[go_sem] theorem underL_cons:A.under.ib n (a::cs)=(a.under n&&A.under.ib n cs):=rfl
@[go_sem] theorem under_int:A.under n (.int q m)=true:=by simp[A.under]
@[go_sem] theorem under_bool:A.under n (.bool p)=true:=by simp[A.under]
@[go_sem] theorem under_str:A.under n (.str s)=true:=by simp[A.under]
@[go_sem] theorem under_slc:A.under n (.ab es)=true:=by simp[A.under]
@[go_sem] theorem under_clip:A.under n (.clip es)=true:=by simp[A.under]
@[go_sem] theorem under_nils:A.under n .bT=true:=by simp[A.under]
@[go_sem] theorem under_any:A.under n .any=true:=by simp[A.under]
@[go_sem] theorem under_ref:A.under n (.ref i k)=decide (i<n):=by simp[A.under]
@[go_sem] theorem under_row{j l:Nat}:A.under n (.row i j k l p)=decide (i<n):=by simp[A.under]
@[go_sem] theorem B7:w5 P σ []=some []:=rfl
@[go_sem] theorem resL_cons{v:ResultVar}{vs:List ResultVar}:w5 P σ (v::vs)=(MO P σ v).bind fun x=>(w5 P σ vs).map (x:: ·):=rfl
@[go_sem] theorem res_tmp{σs:List (Nat×A)}{cU:List Obj}:MO P (St.mk σs cU) (.tmp i)=view cU (look σs i):=rfl
@[go_sem] theorem res_cell{σs:List (Nat×A)}{cU:List Obj}:MO P (St.mk σs cU) (.cell i t)=resC P (St.mk σs cU) t (look σs i):=rfl
@[go_sem] theorem resC_ref{σs:List (Nat×A)}{cU:List Obj}:resC P (St.mk σs cU) t (.ref n i)=(match cn cU n with|some (.box cs)=>(j0 P t (cs.drop i)).bind (view cU)|_=>none):=rfl
@[go_sem] theorem resOf_one:jG [a]=a:=rfl
@[go_sem] theorem resOf_two:jG (a::b::cs)= .cD (a::b::cs):=rfl
@[go_sem] theorem body_ret{fn:Func}{pJ:A->Prop}:XU P fn pJ .ret σ=K? (w5 P σ fn.results.toList) (fun rs=>pJ (jG rs)):=rfl
@[go_sem] theorem body_normal{fn:Func}{pJ:A->Prop}:XU P fn pJ .normal σ=K? (w5 P σ fn.results.toList) (fun rs=>pJ (jG rs)):=rfl
@[go_sem] theorem start_eq:B5 cs={s:=number 0 cs,H:=[]}:=rfl
@[go_sem] theorem number_nil:number n []=[]:=rfl
@[go_sem] theorem number_cons:number n (a::cs)=(n,a)::number (n+1) cs:=rfl
end
attribute [go_sem] List.map_cons List.map_nil List.cons_append List.nil_append List.append_nil List.length_cons List.length_nil List.replicate_succ List.replicate_zero
 List.take_succ_cons List.drop_succ_cons List.take_zero List.drop_zero List.take_nil List.drop_nil List.head?_cons List.getElem?_cons_zero List.getElem?_cons_succ List.isEmpty_cons List.isEmpty_nil List.any_cons List.any_nil List.all_cons List.all_nil
 Option.map_some Option.map_none Option.bind_some Option.bind_none Option.getD_some Option.getD_none Option.isSome_some Option.isSome_none Option.isNone_some Option.isNone_none
 ite_true ite_false Bool.false_eq_true Bool.and_true Bool.true_and Bool.and_false Bool.false_and Bool.or_true Bool.true_or Bool.or_false Bool.false_or Bool.not_true Bool.not_false
 beq_self_eq_true and_true true_and and_false false_and or_true true_or or_false false_or and_self
def s_(s:List (Nat×A)):List Nat->List (Nat×A)
 | []=>[]
 |d::ds=>(d,look s d)::s_ s ds
def ta:List Obj->List (Nat×Obj)->List Obj
 |s,[]=>s
 |s,(d,v)::ds=>ta (kQ s d v) ds
def kR(σ:St)(ks:List Nat)(u:List (Nat×A))(h:List (Nat×Obj)):St:={s:=u++s_ σ.s ks,H:=ta σ.H h}
theorem w6: ∀(hs:List (Nat×Obj)) (H:List Obj),(ta H hs).length=H.length
 | [],H=>rfl
 |(d,v)::ds,H=>by
  simp only[ta]
  rw[w6 ds]
  clear ds;induction H generalizing d with
  |nil=>rfl
  |cons x xs ih=>cases d<;>simp[kQ,ih]
theorem ar{P:Program}{Γ:an}{c:Code}{Q:Ex->St->Prop}{σ:St}{ι:Type}(ks:List Nat)(u:ι->List (Nat×A))(h:ι->List (Nat×Obj))(μ:ι->Nat)(sI:ι)(hn:Γ.nf<=σ.H.length)
 (h0:σ.le (kR σ ks (u sI) (h sI)))
 (hs: ∀i,gQ P Γ c (u0 (fun τ=> ∃j,τ.le (kR σ ks (u j) (h j))/\μ j<μ i) Q) (kR σ ks (u i) (h i))):gQ P Γ (.loop c) Q σ:=by
 have hl: ∀i,Γ.nf<=(kR σ ks (u i) (h i)).H.length:=fun i=>by show Γ.nf<=(ta σ.H (h i)).length;rw[w6];exact hn
 simp only[gQ]
 refine⟨ι,fun i=>kR σ ks (u i) (h i),μ,⟨sI,.le (hl sI) h0⟩,fun i=> ?_⟩
 refine B6 (fun e τ hq=> ?_) (hs i)
 cases e with
 |normal=>obtain⟨j,h1,h2⟩:=hq;exact⟨j,.le (hl j) h1,h2⟩
 |exit id=>exact hq
 |ret=>exact hq
theorem FQ{P:Program}{Γ:an}{c:Code}{Q:Ex->St->Prop}{σ:St}(d:Nat)(es:List A)(hd:look σ.s d= .clip es)
 (hw:gQ P Γ (.loop c) Q ⟨(d,.ab es)::σ.s,σ.H⟩):gQ P Γ (.loop c) Q σ:=by
 simp only[gQ]at hw⊢;obtain⟨ι,inv,μ,⟨i,hi⟩,hs⟩:=hw;exact⟨ι,inv,μ,⟨i,.wk d es hd hi⟩,hs⟩
theorem Vp{P:Program}{Γ:an}{c:Code}{Q:Ex->St->Prop}{σ:St}{ι:Type}(ρ:List Nat)(tH:ρ.Nodup)(hf: ∀n∈ρ,Γ.nf<=n)(ks:List Nat)(u:ι->List (Nat×A))(h:ι->List (Nat×Obj))(μ:ι->Nat)(sI:ι)(hn:Γ.nf<=σ.H.length)
 (h0:σ.le (kR σ ks (u sI) (h sI)))
 (hs: ∀i,gQ P Γ c (u0 (fun τ=> ∃j,(τ.le (kR σ ks (u j) (h j))\/K? (pH ρ τ.H ρ) fun cr=>(MN ρ cr τ).le (kR σ ks (u j) (h j)))/\μ j<μ i) Q) (kR σ ks (u i) (h i))):gQ P Γ (.loop c) Q σ:=by
 have hl: ∀i,Γ.nf<=(kR σ ks (u i) (h i)).H.length:=fun i=>by show Γ.nf<=(ta σ.H (h i)).length;rw[w6];exact hn
 simp only[gQ]
 refine⟨ι,fun i=>kR σ ks (u i) (h i),μ,⟨sI,.le (hl sI) h0⟩,fun i=> ?_⟩
 refine B6 (fun e τ hq=> ?_) (hs i)
 cases e with
 |normal=>
  obtain⟨j,h1,h2⟩:=hq;rcases h1 with h1|⟨cr,hH,h1⟩
  · exact⟨j,.le (hl j) h1,h2⟩
  · exact⟨j,.pZ ρ cr tH hH hf (.le (hl j) h1),h2⟩
 |exit id=>exact hq
 |ret=>exact hq
@[go_sem] theorem frzSt_eq{ρ:List Nat}{cr:List Obj}{s:List (Nat×A)}{H:List Obj}:MN ρ cr (St.mk s H)=⟨s.map (fun p=>(p.1,mI ρ cr p.2)),nB ρ ρ (H.map (Jn ρ cr))⟩:=rfl
theorem rS{P:Program}{Γ:an}{c:Code}{Q:Ex->St->Prop}{σ:St}{ι:Type}(ks:List Nat)(u:ι->List (Nat×A))(h:ι->List Obj)(μ:ι->Nat)(sI:ι)(hn: ∀i,Γ.nf<=(h i).length)
 (h0:σ.le ⟨u sI++s_ σ.s ks,h sI⟩)
 (hs: ∀i,gQ P Γ c (u0 (fun τ=> ∃j,τ.le ⟨u j++s_ σ.s ks,h j⟩/\μ j<μ i) Q) ⟨u i++s_ σ.s ks,h i⟩):gQ P Γ (.loop c) Q σ:=by
 simp only[gQ]
 refine⟨ι,fun i=>⟨u i++s_ σ.s ks,h i⟩,μ,⟨sI,.le (hn sI) h0⟩,fun i=> ?_⟩
 refine B6 (fun e τ hq=> ?_) (hs i)
 cases e with
 |normal=>obtain⟨j,h1,h2⟩:=hq;exact⟨j,.le (hn j) h1,h2⟩
 |exit id=>exact hq
 |ret=>exact hq
theorem aW{P:Program}{Γ:an}{c:Code}{Q:Ex->St->Prop}{σ:St}(d k:Nat)(hd:look σ.s d= .bT)
 (hw:gQ P Γ (.loop c) Q ⟨(d,.row σ.H.length 0 k 0 false)::σ.s,σ.H++[.row k []]⟩):gQ P Γ (.loop c) Q σ:=by
 simp only[gQ]at hw⊢;obtain⟨ι,inv,μ,⟨i,hi⟩,hs⟩:=hw;exact⟨ι,inv,μ,⟨i,.nil d k hd hi⟩,hs⟩
theorem FR{P:Program}{Γ:an}{c:Code}{Q:Ex->St->Prop}{σ:St}(m:Nat)(cs:List A)(hm:cn σ.H m=some (.box cs))
 (hw:gQ P Γ (.loop c) Q ⟨σ.s,kQ σ.H m (.box (cs.map jj))⟩):gQ P Γ (.loop c) Q σ:=by
 simp only[gQ]at hw⊢;obtain⟨ι,inv,μ,⟨j,hj⟩,hs⟩:=hw;exact⟨ι,inv,μ,⟨j,.wkb m cs hm hj⟩,hs⟩
theorem FT{P:Program}{Γ:an}{c:Code}{Q:Ex->St->Prop}{σ:St}(m i k:Nat)(cs:List A)(hm:cn σ.H m=some (.box cs))(hi:cs[i]? =some .bT)
 (hw:gQ P Γ (.loop c) Q ⟨σ.s,kQ σ.H m (.box (cC cs i (.row σ.H.length 0 k 0 false)))++[.row k []]⟩):gQ P Γ (.loop c) Q σ:=by
 simp only[gQ]at hw⊢;obtain⟨ι,inv,μ,⟨j,hj⟩,hs⟩:=hw;exact⟨ι,inv,μ,⟨j,.nilb m i k cs hm hi hj⟩,hs⟩
section
variable{σ τ:St}{s:List (Nat×A)}{ks:List Nat}{H G:List Obj}{d n k:Nat}{v a b:A}{o p:Obj}{cs ds:List A}
@[go_sem] theorem keepS_nil:s_ s []=[]:=rfl
@[go_sem] theorem keepS_cons:s_ s (d::ks)=(d,look s d)::s_ s ks:=rfl
@[go_sem] theorem updsH_nil:ta H []=H:=rfl
@[go_sem] theorem updsH_cons{hs:List (Nat×Obj)}:ta H ((n,o)::hs)=ta (kQ H n o) hs:=rfl
@[go_sem] theorem head_eq{σs:List (Nat×A)}{cU:List Obj}{u:List (Nat×A)}{hs:List (Nat×Obj)}:kR (St.mk σs cU) ks u hs={s:=u++s_ σs ks,H:=ta cU hs}:=rfl
@[go_sem] theorem le_eq{s r:List (Nat×A)}{H G:List Obj}:(St.mk s H).le ⟨r,G⟩=(leS G.length s r/\s9 G.length H G):=rfl
@[go_sem] theorem leS_nil:leS n s []=True:=rfl
@[go_sem] theorem leS_cons{r:List (Nat×A)}:leS n s ((d,v)::r)=((look s d=v/\v.under n=true)/\leS n s r):=rfl
@[go_sem] theorem leH_nil:s9 n [] []=True:=by simp[s9]
@[go_sem] theorem leH_nil':s9 n (o::H) []=True:=by simp[s9]
@[go_sem] theorem leH_cons:s9 n (o::H) (p::G)=(Tw n o p/\s9 n H G):=by simp[s9]
@[go_sem] theorem leO_box:Tw n (.box cs) (.box ds)=Mx n cs ds:=by simp[Tw]
@[go_sem] theorem leO_row{j:Nat}:Tw n (.row k cs) (.row j ds)=(k=j/\cs=ds):=by simp[Tw]
@[go_sem] theorem leL_nil:Mx n [] []=True:=by simp[Mx]
@[go_sem] theorem leL_cons:Mx n (a::cs) (b::ds)=((b= .any\/(a=b/\b.under n=true))/\Mx n cs ds):=by simp[Mx]
end
attribute [go_sem] A.int.injEq A.bool.injEq A.str.injEq A.ab.injEq A.agg.injEq A.ref.injEq A.row.injEq A.cD.injEq A.fn.injEq
end Go.bo
namespace Go.Proofs.YtihgnfmoafjakaaGreat
open Go.bo
theorem mixed:Tryz.prog.follows .mixedOrders=true:=by kernel_rfl
@[go_sem] theorem tyStr3:fO Tryz.prog 3=false:=by kernel_rfl
@[go_sem] theorem tyBool3:gp Tryz.prog 3=false:=by kernel_rfl
@[go_sem] theorem tyPtr3:jB Tryz.prog 3=false:=by kernel_rfl
@[go_sem] theorem tyElem3:aX Tryz.prog 3=none:=by kernel_rfl
@[go_sem] theorem tySize3:ba Tryz.prog 3=some 1:=by kernel_rfl
@[go_sem] theorem tyAgg3:bF Tryz.prog 3=some false:=by kernel_rfl
@[go_sem] theorem tyInt3:ph Tryz.prog 3=some .i64:=by kernel_rfl
@[go_sem] theorem tyBytes3:fk Tryz.prog 3=8:=by kernel_rfl
@[go_sem] theorem zeroA3:dQ Tryz.prog 3=some (.int .i64 0):=by kernel_rfl
@[go_sem] theorem eqTy3:pF Tryz.prog 3=none:=by kernel_rfl
@[go_sem] theorem tyBool4:gp Tryz.prog 4=true:=by kernel_rfl
@[go_sem] theorem tyPtr4:jB Tryz.prog 4=false:=by kernel_rfl
@[go_sem] theorem tyElem4:aX Tryz.prog 4=none:=by kernel_rfl
@[go_sem] theorem tySize4:ba Tryz.prog 4=some 1:=by kernel_rfl
@[go_sem] theorem tyAgg4:bF Tryz.prog 4=some false:=by kernel_rfl
@[go_sem] theorem eqTy4:pF Tryz.prog 4=none:=by kernel_rfl
@[go_sem] theorem tyStr5:fO Tryz.prog 5=false:=by kernel_rfl
@[go_sem] theorem tyBool5:gp Tryz.prog 5=false:=by kernel_rfl
@[go_sem] theorem tyPtr5:jB Tryz.prog 5=false:=by kernel_rfl
@[go_sem] theorem tyElem5:aX Tryz.prog 5=none:=by kernel_rfl
@[go_sem] theorem tySize5:ba Tryz.prog 5=some 1:=by kernel_rfl
@[go_sem] theorem tyAgg5:bF Tryz.prog 5=some false:=by kernel_rfl
@[go_sem] theorem tyInt5:ph Tryz.prog 5=some .u8:=by kernel_rfl
@[go_sem] theorem zeroA5:dQ Tryz.prog 5=some (.int .u8 0):=by kernel_rfl
@[go_sem] theorem eqTy5:pF Tryz.prog 5=none:=by kernel_rfl
@[go_sem] theorem tyStr9:fO Tryz.prog 9=true:=by kernel_rfl
@[go_sem] theorem tyBool9:gp Tryz.prog 9=false:=by kernel_rfl
@[go_sem] theorem tyPtr9:jB Tryz.prog 9=false:=by kernel_rfl
@[go_sem] theorem tyElem9:aX Tryz.prog 9=none:=by kernel_rfl
@[go_sem] theorem tyArr9:fi Tryz.prog 9=none:=by kernel_rfl
@[go_sem] theorem tySize9:ba Tryz.prog 9=some 1:=by kernel_rfl
@[go_sem] theorem tyAgg9:bF Tryz.prog 9=some false:=by kernel_rfl
@[go_sem] theorem tyBytes9:fk Tryz.prog 9=16:=by kernel_rfl
@[go_sem] theorem zeroA9:dQ Tryz.prog 9=some (.str []):=by kernel_rfl
@[go_sem] theorem eqTy9:pF Tryz.prog 9=none:=by kernel_rfl
@[go_sem] theorem tyBool22:gp Tryz.prog 22=false:=by kernel_rfl
@[go_sem] theorem tyPtr22:jB Tryz.prog 22=false:=by kernel_rfl
@[go_sem] theorem tyElem22:aX Tryz.prog 22=some 85:=by kernel_rfl
@[go_sem] theorem tySize22:ba Tryz.prog 22=some 1:=by kernel_rfl
@[go_sem] theorem tyAgg22:bF Tryz.prog 22=some false:=by kernel_rfl
@[go_sem] theorem zeroA22:dQ Tryz.prog 22=some .bT:=by kernel_rfl
@[go_sem] theorem eqTy22:pF Tryz.prog 22=none:=by kernel_rfl
@[go_sem] theorem tyElem23:aX Tryz.prog 23=some 50:=by kernel_rfl
@[go_sem] theorem tySize23:ba Tryz.prog 23=some 1:=by kernel_rfl
@[go_sem] theorem tyAgg23:bF Tryz.prog 23=some false:=by kernel_rfl
@[go_sem] theorem zeroA23:dQ Tryz.prog 23=some .bT:=by kernel_rfl
@[go_sem] theorem tyElem24:aX Tryz.prog 24=some 98:=by kernel_rfl
@[go_sem] theorem tySize24:ba Tryz.prog 24=some 1:=by kernel_rfl
@[go_sem] theorem tyAgg24:bF Tryz.prog 24=some false:=by kernel_rfl
@[go_sem] theorem zeroA24:dQ Tryz.prog 24=some .bT:=by kernel_rfl
@[go_sem] theorem tyArr26:fi Tryz.prog 26=none:=by kernel_rfl
@[go_sem] theorem tySize26:ba Tryz.prog 26=some 5:=by kernel_rfl
@[go_sem] theorem tyAgg26:bF Tryz.prog 26=some true:=by kernel_rfl
@[go_sem] theorem allSized26:iN Tryz.prog 26=true:=by kernel_rfl
@[go_sem] theorem zeroA26:dQ Tryz.prog 26=some (.agg [.int .i64 0,.bT,.bT,.bT,.int .i64 0]):=by kernel_rfl
@[go_sem] theorem fi26_0:fieldInfo Tryz.prog 26 0=some (0,3):=by kernel_rfl
@[go_sem] theorem fi26_1:fieldInfo Tryz.prog 26 1=some (1,22):=by kernel_rfl
@[go_sem] theorem fi26_2:fieldInfo Tryz.prog 26 2=some (2,23):=by kernel_rfl
@[go_sem] theorem fi26_3:fieldInfo Tryz.prog 26 3=some (3,24):=by kernel_rfl
@[go_sem] theorem fi26_4:fieldInfo Tryz.prog 26 4=some (4,3):=by kernel_rfl
@[go_sem] theorem tyBool30:gp Tryz.prog 30=false:=by kernel_rfl
@[go_sem] theorem tyPtr30:jB Tryz.prog 30=false:=by kernel_rfl
@[go_sem] theorem tyElem30:aX Tryz.prog 30=none:=by kernel_rfl
@[go_sem] theorem eqTy30:pF Tryz.prog 30=none:=by kernel_rfl
@[go_sem] theorem tyBool46:gp Tryz.prog 46=false:=by kernel_rfl
@[go_sem] theorem tyPtr46:jB Tryz.prog 46=false:=by kernel_rfl
@[go_sem] theorem tyElem46:aX Tryz.prog 46=none:=by kernel_rfl
@[go_sem] theorem eqTy46:pF Tryz.prog 46=none:=by kernel_rfl
@[go_sem] theorem tyBool48:gp Tryz.prog 48=false:=by kernel_rfl
@[go_sem] theorem tyPtr48:jB Tryz.prog 48=false:=by kernel_rfl
@[go_sem] theorem tyElem48:aX Tryz.prog 48=none:=by kernel_rfl
@[go_sem] theorem tyArr48:fi Tryz.prog 48=none:=by kernel_rfl
@[go_sem] theorem tySize48:ba Tryz.prog 48=some 2:=by kernel_rfl
@[go_sem] theorem tyAgg48:bF Tryz.prog 48=some true:=by kernel_rfl
@[go_sem] theorem tyBytes48:fk Tryz.prog 48=16:=by kernel_rfl
@[go_sem] theorem allSized48:iN Tryz.prog 48=true:=by kernel_rfl
@[go_sem] theorem zeroA48:dQ Tryz.prog 48=some (.agg [.int .i64 0,.int .i64 0]):=by kernel_rfl
@[go_sem] theorem eqTy48:pF Tryz.prog 48=some [.int .i64,.int .i64]:=by kernel_rfl
@[go_sem] theorem fi48_0:fieldInfo Tryz.prog 48 0=some (0,3):=by kernel_rfl
@[go_sem] theorem fi48_1:fieldInfo Tryz.prog 48 1=some (1,3):=by kernel_rfl
@[go_sem] theorem tyBool50:gp Tryz.prog 50=false:=by kernel_rfl
@[go_sem] theorem tyPtr50:jB Tryz.prog 50=false:=by kernel_rfl
@[go_sem] theorem tyElem50:aX Tryz.prog 50=none:=by kernel_rfl
@[go_sem] theorem tyArr50:fi Tryz.prog 50=none:=by kernel_rfl
@[go_sem] theorem tySize50:ba Tryz.prog 50=some 7:=by kernel_rfl
@[go_sem] theorem tyAgg50:bF Tryz.prog 50=some true:=by kernel_rfl
@[go_sem] theorem tyBytes50:fk Tryz.prog 50=72:=by kernel_rfl
@[go_sem] theorem allSized50:iN Tryz.prog 50=true:=by kernel_rfl
@[go_sem] theorem zeroA50:dQ Tryz.prog 50=some (.agg [.str [],.int .i64 0,.int .i64 0,.int .i64 0,.int .i64 0,.bool false,.str []]):=by kernel_rfl
@[go_sem] theorem eqTy50:pF Tryz.prog 50=some [.str,.int .i64,.int .i64,.int .i64,.int .i64,.bool,.str]:=by kernel_rfl
@[go_sem] theorem fi50_0:fieldInfo Tryz.prog 50 0=some (0,9):=by kernel_rfl
@[go_sem] theorem fi50_1:fieldInfo Tryz.prog 50 1=some (1,48):=by kernel_rfl
@[go_sem] theorem fi50_2:fieldInfo Tryz.prog 50 2=some (3,3):=by kernel_rfl
@[go_sem] theorem fi50_3:fieldInfo Tryz.prog 50 3=some (4,3):=by kernel_rfl
@[go_sem] theorem fi50_4:fieldInfo Tryz.prog 50 4=some (5,4):=by kernel_rfl
@[go_sem] theorem fi50_5:fieldInfo Tryz.prog 50 5=some (6,9):=by kernel_rfl
@[go_sem] theorem tyBool85:gp Tryz.prog 85=false:=by kernel_rfl
@[go_sem] theorem tyPtr85:jB Tryz.prog 85=false:=by kernel_rfl
@[go_sem] theorem tyElem85:aX Tryz.prog 85=none:=by kernel_rfl
@[go_sem] theorem tyArr85:fi Tryz.prog 85=none:=by kernel_rfl
@[go_sem] theorem tySize85:ba Tryz.prog 85=some 3:=by kernel_rfl
@[go_sem] theorem tyAgg85:bF Tryz.prog 85=some true:=by kernel_rfl
@[go_sem] theorem tyBytes85:fk Tryz.prog 85=40:=by kernel_rfl
@[go_sem] theorem allSized85:iN Tryz.prog 85=true:=by kernel_rfl
@[go_sem] theorem zeroA85:dQ Tryz.prog 85=some (.agg [.str [],.str [],.bool false]):=by kernel_rfl
@[go_sem] theorem eqTy85:pF Tryz.prog 85=some [.str,.str,.bool]:=by kernel_rfl
@[go_sem] theorem fi85_0:fieldInfo Tryz.prog 85 0=some (0,9):=by kernel_rfl
@[go_sem] theorem fi85_1:fieldInfo Tryz.prog 85 1=some (1,9):=by kernel_rfl
@[go_sem] theorem fi85_2:fieldInfo Tryz.prog 85 2=some (2,4):=by kernel_rfl
@[go_sem] theorem tyElem96:aX Tryz.prog 96=some 127:=by kernel_rfl
@[go_sem] theorem tySize96:ba Tryz.prog 96=some 1:=by kernel_rfl
@[go_sem] theorem tyAgg96:bF Tryz.prog 96=some false:=by kernel_rfl
@[go_sem] theorem tyArr98:fi Tryz.prog 98=none:=by kernel_rfl
@[go_sem] theorem tySize98:ba Tryz.prog 98=some 4:=by kernel_rfl
@[go_sem] theorem tyAgg98:bF Tryz.prog 98=some true:=by kernel_rfl
@[go_sem] theorem tyBytes98:fk Tryz.prog 98=64:=by kernel_rfl
@[go_sem] theorem allSized98:iN Tryz.prog 98=true:=by kernel_rfl
@[go_sem] theorem zeroA98:dQ Tryz.prog 98=some (.agg [.str [],.str [],.bool false,.bT]):=by kernel_rfl
@[go_sem] theorem fi98_0:fieldInfo Tryz.prog 98 0=some (0,85):=by kernel_rfl
@[go_sem] theorem fi98_1:fieldInfo Tryz.prog 98 1=some (3,96):=by kernel_rfl
@[go_sem] theorem tyStr107:fO Tryz.prog 107=false:=by kernel_rfl
@[go_sem] theorem tyElem107:aX Tryz.prog 107=some 48:=by kernel_rfl
@[go_sem] theorem tyArr107:fi Tryz.prog 107=none:=by kernel_rfl
@[go_sem] theorem tyStr121:fO Tryz.prog 121=false:=by kernel_rfl
@[go_sem] theorem tyElem121:aX Tryz.prog 121=some 9:=by kernel_rfl
@[go_sem] theorem tyArr121:fi Tryz.prog 121=none:=by kernel_rfl
@[go_sem] theorem tyBool125:gp Tryz.prog 125=false:=by kernel_rfl
@[go_sem] theorem tyPtr125:jB Tryz.prog 125=false:=by kernel_rfl
@[go_sem] theorem tyElem125:aX Tryz.prog 125=some 130:=by kernel_rfl
@[go_sem] theorem tySize125:ba Tryz.prog 125=some 1:=by kernel_rfl
@[go_sem] theorem tyAgg125:bF Tryz.prog 125=some false:=by kernel_rfl
@[go_sem] theorem eqTy125:pF Tryz.prog 125=none:=by kernel_rfl
@[go_sem] theorem tyArr127:fi Tryz.prog 127=none:=by kernel_rfl
@[go_sem] theorem tySize127:ba Tryz.prog 127=some 2:=by kernel_rfl
@[go_sem] theorem tyAgg127:bF Tryz.prog 127=some true:=by kernel_rfl
@[go_sem] theorem tyBytes127:fk Tryz.prog 127=32:=by kernel_rfl
@[go_sem] theorem allSized127:iN Tryz.prog 127=true:=by kernel_rfl
@[go_sem] theorem zeroA127:dQ Tryz.prog 127=some (.agg [.int .i64 0,.bT]):=by kernel_rfl
@[go_sem] theorem fi127_0:fieldInfo Tryz.prog 127 0=some (0,3):=by kernel_rfl
@[go_sem] theorem fi127_1:fieldInfo Tryz.prog 127 1=some (1,125):=by kernel_rfl
@[go_sem] theorem tyBool130:gp Tryz.prog 130=false:=by kernel_rfl
@[go_sem] theorem tyPtr130:jB Tryz.prog 130=false:=by kernel_rfl
@[go_sem] theorem tyElem130:aX Tryz.prog 130=none:=by kernel_rfl
@[go_sem] theorem tyArr130:fi Tryz.prog 130=none:=by kernel_rfl
@[go_sem] theorem tySize130:ba Tryz.prog 130=some 2:=by kernel_rfl
@[go_sem] theorem tyAgg130:bF Tryz.prog 130=some true:=by kernel_rfl
@[go_sem] theorem tyBytes130:fk Tryz.prog 130=16:=by kernel_rfl
@[go_sem] theorem allSized130:iN Tryz.prog 130=true:=by kernel_rfl
@[go_sem] theorem zeroA130:dQ Tryz.prog 130=some (.agg [.int .i64 0,.int .i64 0]):=by kernel_rfl
@[go_sem] theorem eqTy130:pF Tryz.prog 130=some [.int .i64,.int .i64]:=by kernel_rfl
@[go_sem] theorem fi130_0:fieldInfo Tryz.prog 130 0=some (0,3):=by kernel_rfl
@[go_sem] theorem fi130_1:fieldInfo Tryz.prog 130 1=some (1,3):=by kernel_rfl
@[go_sem] theorem tyElem152:aX Tryz.prog 152=some 23:=by kernel_rfl
@[go_sem] theorem tyElem155:aX Tryz.prog 155=some 24:=by kernel_rfl
@[go_sem] theorem tyElem182:aX Tryz.prog 182=none:=by kernel_rfl
@[go_sem] theorem tyArr182:fi Tryz.prog 182=some (16,125):=by kernel_rfl
@[go_sem] theorem tySize182:ba Tryz.prog 182=some 16:=by kernel_rfl
@[go_sem] theorem tyAgg182:bF Tryz.prog 182=some true:=by kernel_rfl
@[go_sem] theorem zeroA182:dQ Tryz.prog 182=some (.agg [.bT,.bT,.bT,.bT,.bT,.bT,.bT,.bT,.bT,.bT,.bT,.bT,.bT,.bT,.bT,.bT]):=by kernel_rfl
@[go_sem] theorem tyStr189:fO Tryz.prog 189=false:=by kernel_rfl
@[go_sem] theorem tyElem189:aX Tryz.prog 189=some 5:=by kernel_rfl
@[go_sem] theorem tyStr199:fO Tryz.prog 199=false:=by kernel_rfl
@[go_sem] theorem tyBool199:gp Tryz.prog 199=false:=by kernel_rfl
@[go_sem] theorem tyPtr199:jB Tryz.prog 199=false:=by kernel_rfl
@[go_sem] theorem tyElem199:aX Tryz.prog 199=none:=by kernel_rfl
@[go_sem] theorem tyAgg199:bF Tryz.prog 199=some false:=by kernel_rfl
@[go_sem] theorem tyInt199:ph Tryz.prog 199=some .u64:=by kernel_rfl
@[go_sem] theorem eqTy199:pF Tryz.prog 199=none:=by kernel_rfl
@[go_sem] theorem tyStr206:fO Tryz.prog 206=false:=by kernel_rfl
@[go_sem] theorem tyElem206:aX Tryz.prog 206=some 3:=by kernel_rfl
@[go_sem] theorem tyArr206:fi Tryz.prog 206=none:=by kernel_rfl
@[go_sem] theorem tyStr220:fO Tryz.prog 220=false:=by kernel_rfl
@[go_sem] theorem tyBool220:gp Tryz.prog 220=false:=by kernel_rfl
@[go_sem] theorem tyPtr220:jB Tryz.prog 220=false:=by kernel_rfl
@[go_sem] theorem tyElem220:aX Tryz.prog 220=none:=by kernel_rfl
@[go_sem] theorem tyAgg220:bF Tryz.prog 220=some false:=by kernel_rfl
@[go_sem] theorem eqTy220:pF Tryz.prog 220=none:=by kernel_rfl
@[go_sem] theorem tyArr245:fi Tryz.prog 245=some (2,22):=by kernel_rfl
@[go_sem] theorem zeroA245:dQ Tryz.prog 245=some (.agg [.bT,.bT]):=by kernel_rfl
@[go_sem] theorem zeroOK3:jC Tryz.prog 3 1=true:=by kernel_rfl
@[go_sem] theorem zeroOK9:jC Tryz.prog 9 1=true:=by kernel_rfl
@[go_sem] theorem zeroOK48:jC Tryz.prog 48 2=true:=by kernel_rfl
@[go_sem] theorem zeroOK50:jC Tryz.prog 50 7=true:=by kernel_rfl
@[go_sem] theorem zeroOK85:jC Tryz.prog 85 3=true:=by kernel_rfl
@[go_sem] theorem zeroOK98:jC Tryz.prog 98 4=true:=by kernel_rfl
@[go_sem] theorem zeroOK127:jC Tryz.prog 127 2=true:=by kernel_rfl
@[go_sem] theorem zeroOK130:jC Tryz.prog 130 2=true:=by kernel_rfl
end Go.Proofs.YtihgnfmoafjakaaGreat
namespace Go.bo
open Go.RowKit
theorem bf{E:Env}: ∀{cs:List A} {vs:List Value},aQ E cs vs ↔ cs.length=vs.length/\ ∀(i:Nat) (x:A) (v:Value),cs[i]? =some x->vs[i]? =some v->aJ E x v
 | [],vs=>by
  simp only[aQ]
  constructor
  · rintro rfl;exact⟨rfl,fun i x v h=>by simp at h⟩
  · rintro⟨h,_⟩;exact List.length_eq_zero_iff.1 h.symm
 |c::cs,vs=>by
  simp only[aQ]
  constructor
  · rintro⟨v,lB,rfl,hc,hl⟩
    obtain⟨h1,h2⟩:=bf.1 hl;refine⟨by simp[h1],fun i x u hx hu=> ?_⟩
    cases i with
    |zero=>simp at hx hu;subst hx;subst hu;exact hc
    |succ i=>exact h2 i x u (by simpa using hx) (by simpa using hu)
  · rintro⟨h1,h2⟩
    cases vs with
    |nil=>simp at h1
    |cons v vs=>exact⟨v,vs,rfl,h2 0 c v rfl rfl,bf.2 ⟨by simpa using h1,fun i x u hx hu=>h2 (i+1) x u (by simpa using hx) (by simpa using hu)⟩⟩
theorem bg{E:Env}{b:Nat}: ∀{cs:List A} {off:Nat},gn E b off cs ↔∀(i:Nat) (x:A),cs[i]? =some x-> ∃v,E.w.cell? ⟨b,off+i,none⟩=some v/\v.oneCell'=true/\aJ E x v
 | [],off=>by simp[gn]
 |c::cs,off=>by
  simp only[gn]
  constructor
  · rintro⟨h1,h2⟩ i x hx
    cases i with
    |zero=>simp at hx;subst hx;simpa using h1
    |succ i=>
     have:=bg.1 h2 i x (by simpa using hx)
     rwa [show off+1+i=off+(i+1) by omega]at this
  · intro h
    refine⟨by simpa using h 0 c rfl,bg.2 fun i x hx=> ?_⟩
    have:=h (i+1) x (by simpa using hx)
    rwa [show off+(i+1)=off+1+i by omega]at this
theorem MP{E:Env}{b off:Nat}{x:A}:gn E b off [x] ↔∃v,E.w.cell? ⟨b,off,none⟩=some v/\v.oneCell'=true/\aJ E x v:=by simp[gn]
theorem nC{E:Env}{k b off:Nat}{e:A}{es:List A}:eJ E k b off (e::es) ↔ (e.cells.length=k/\gn E b off e.cells)/\eJ E k b (off+k) es:=by
 cases e
 case agg cs=>rw[MH];simp[A.cells]
 all_goals
  simp only[eJ,A.cells,gn,List.length_cons,List.length_nil,Nat.zero_add,and_true]
  constructor
  · rintro⟨⟨h1,h2⟩,h3⟩;exact⟨⟨h1.symm,h2⟩,h3⟩
  · rintro⟨⟨h1,h2⟩,h3⟩;exact⟨⟨h1.symm,h2⟩,h3⟩
theorem dd{E:Env}{k b:Nat}: ∀{es:List A} {off:Nat},eJ E k b off es ↔∀(i:Nat) (e:A),es[i]? =some e->e.cells.length=k/\gn E b (off+i*k) e.cells
 | [],off=>by simp[eJ]
 |e::es,off=>by
  rw[nC]
  constructor
  · rintro⟨h1,h2⟩ i x hx
    cases i with
    |zero=>simp at hx;subst hx;simpa using h1
    |succ i=>
     have:=dd.1 h2 i x (by simpa using hx)
     rwa [show off+k+i*k=off+(i+1)*k by rw[Nat.add_mul];omega]at this
  · intro h
    refine⟨by simpa using h 0 e rfl,dd.2 fun i x hx=> ?_⟩
    have:=h (i+1) x (by simpa using hx)
    rwa [show off+(i+1)*k=off+k+i*k by rw[Nat.add_mul];omega]at this
theorem jl{E:Env}{b off n:Nat}{cs:List A}(h:gn E b off cs):gn E b (off+n) (cs.drop n):=
 bg.2 fun i x hx=>by
  have:=bg.1 h (n+i) x (by simpa[List.getElem?_drop]using hx)
  rwa [show off+(n+i)=off+n+i by omega]at this
theorem Vq{E:Env}{b off n:Nat}{cs:List A}(h:gn E b off cs):gn E b off (cs.take n):=
 bg.2 fun i x hx=>bg.1 h i x (by
  rw[List.getElem?_take]at hx;split at hx
  · exact hx
  · simp at hx)
theorem w7{E:Env}{k b off n:Nat}{es:List A}(h:eJ E k b off es):eJ E k b (off+n*k) (es.drop n):=
 dd.2 fun i x hx=>by
  have:=dd.1 h (n+i) x (by simpa[List.getElem?_drop]using hx)
  rwa [show off+(n+i)*k=off+n*k+i*k by rw[Nat.add_mul];omega]at this
theorem nD{E:Env}{k b off n:Nat}{es:List A}(h:eJ E k b off es):eJ E k b off (es.take n):=
 dd.2 fun i x hx=>dd.1 h i x (by
  rw[List.getElem?_take]at hx;split at hx
  · exact hx
  · simp at hx)
theorem rT{E:Env}{b:Nat}: ∀{cs:List A} {off:Nat},gn E b off cs-> ∃vs:List Value,E.w.rangeAt b off vs/\aQ E cs vs/\ ∀u∈vs,u.oneCell'=true
 | [],off,_=>⟨[],fun j v h=>by simp at h,by simp[aQ],by simp⟩
 |c::cs,off,h=>by
  simp only[gn]at h;obtain⟨⟨v,hv,h1,hc⟩,hl⟩:=h;obtain⟨vs,hr,hL,da⟩:=rT hl;refine⟨v::vs,fun j u hu=> ?_,by simp only[aQ];exact⟨v,vs,rfl,hc,hL⟩, ?_⟩
  · cases j with
    |zero=>simp at hu;subst hu;simpa using hv
    |succ j=>
     have:=hr j u (by simpa using hu)
     rwa [show off+1+j=off+(j+1) by omega]at this
  · intro u hu
    rcases List.mem_cons.1 hu with rfl|hu
    · exact h1
    · exact da u hu
theorem oz{E:Env}{b:Nat}: ∀{cs:List A} {off:Nat} {vs:List Value},E.w.rangeAt b off vs->aQ E cs vs->(∀u∈vs,u.oneCell'=true)->gn E b off cs:=by
 intro cs off vs hr hL h1;obtain⟨hlen,cS⟩:=bf.1 hL;refine bg.2 fun i x hx=> ?_;have hi:i<vs.length:=by rw[<-hlen];exact(List.getElem?_eq_some_iff.1 hx).1
 have hv:vs[i]? =some vs[i]:=List.getElem?_eq_getElem hi;exact⟨vs[i],hr i _ hv,h1 _ (List.getElem_mem hi),cS i x _ hx hv⟩
theorem w9{E:Env}{n:Nat}: ∀{cs:List A} {vs:List Value},aQ E cs vs->aQ E (cs.take n) (vs.take n):=by
 intro cs vs h;obtain⟨h1,h2⟩:=bf.1 h;refine bf.2 ⟨by simp[h1],fun i x v hx hv=> ?_⟩
 rw[List.getElem?_take]at hx hv;split at hx
 · rename_i hi;rw[if_pos hi]at hv;exact h2 i x v hx hv
 · simp at hx
theorem w_{E:Env}{n:Nat}: ∀{cs:List A} {vs:List Value},aQ E cs vs->aQ E (cs.drop n) (vs.drop n):=by
 intro cs vs h;obtain⟨h1,h2⟩:=bf.1 h;refine bf.2 ⟨by simp[h1],fun i x v hx hv=> ?_⟩
 rw[List.getElem?_drop]at hx hv;exact h2 _ x v hx hv
theorem jm{E:Env}: ∀{cs ds:List A} {vs us:List Value},aQ E cs vs->aQ E ds us->aQ E (cs++ds) (vs++us)
 | [],ds,vs,us,h,h'=>by simp only[aQ]at h;subst h;simpa using h'
 |c::cs,ds,vs,us,h,h'=>by
  simp only[aQ]at h;obtain⟨v,lB,rfl,hc,hl⟩:=h;simp only[List.cons_append,aQ]
  exact⟨v,lB++us,rfl,hc,jm hl h'⟩
theorem jn{E:Env}{x:A}{v:Value}(h:aJ E x v)(hv:x.val=true):aQ E x.cells v.cells.toList/\(∀u∈v.cells.toList,u.oneCell'=true)/\v.cells.size=x.cells.length:=by
 cases x
 case any=>simp[A.val]at hv
 case cD=>simp[A.val]at hv
 case agg cs=>
  simp only[aJ]at h;obtain⟨vs,rfl,hl,h1⟩:=h;simp only[Value.cells,A.cells]
  exact⟨by simpa using hl,by simpa using h1,by simpa using(bf.1 hl).1.symm⟩
 case ab es=>
  have h0:=h;simp only[aJ]at h;obtain⟨_,a,cap,rfl,_⟩:=h;simp only[Value.cells,A.cells,aQ]
  exact⟨⟨_,[],rfl,h0,rfl⟩,by simp[Value.oneCell'],rfl⟩
 case clip es=>
  have h0:=h;simp only[aJ]at h;obtain⟨_,a,rfl,_⟩:=h;simp only[Value.cells,A.cells,aQ]
  exact⟨⟨_,[],rfl,h0,rfl⟩,by simp[Value.oneCell'],rfl⟩
 case dK es=>
  have h0:=h;simp only[aJ]at h;obtain⟨_,a,off,rfl,_⟩:=h;simp only[Value.cells,A.cells,aQ]
  exact⟨⟨_,[],rfl,h0,rfl⟩,by simp[Value.oneCell'],rfl⟩
 case emp c=>
  have h0:=h;simp only[aJ]at h;obtain⟨q,cap,rfl,_⟩:=h;simp only[Value.cells,A.cells,aQ]
  exact⟨⟨_,[],rfl,h0,rfl⟩,by simp[Value.oneCell'],rfl⟩
 case ref n off=>
  have h0:=h;simp only[aJ]at h;obtain⟨b,k,_,rfl⟩:=h;simp only[Value.cells,A.cells,aQ]
  exact⟨⟨_,[],rfl,h0,rfl⟩,by simp[Value.oneCell'],rfl⟩
 case h_ n i off=>
  have h0:=h;simp only[aJ]at h;obtain⟨b,k,_,rfl⟩:=h;simp only[Value.cells,A.cells,aQ]
  exact⟨⟨_,[],rfl,h0,rfl⟩,by simp[Value.oneCell'],rfl⟩
 case row n off k len c=>
  have h0:=h;simp only[aJ]at h;rcases h with⟨o,_,_,_,_,a,rfl⟩|⟨b,cap,c,e,fr,_,rfl,_⟩
  all_goals
   simp only[Value.cells,A.cells,aQ]
   exact⟨⟨_,[],rfl,h0,rfl⟩,by simp[Value.oneCell'],rfl⟩
 case fn f cs=>
  have h0:=h;simp only[aJ]at h;obtain⟨vs,rfl,_⟩:=h;simp only[Value.cells,A.cells,aQ]
  exact⟨⟨_,[],rfl,h0,rfl⟩,by simp[Value.oneCell'],rfl⟩
 all_goals
  have h0:=h;simp only[aJ]at h;subst h;simp only[Value.cells,A.cells,aQ]
  exact⟨⟨_,[],rfl,h0,rfl⟩,by simp[Value.oneCell'],rfl⟩
def nE(c:Array Value)(fr:Nat×Nat):Prop:= ∀j,j<c.size-> ¬(fr.1<=j/\j<fr.2)
def aL(E:Env):Obj->dj->Prop
 | .box cs,.loc b _=>(∃c e fr,E.w.heap[b]? =some (.cells c e fr)/\nE c fr)/\gn E b 0 cs
 | .row k es,.loc b k'=>k=k'/\A.pure.a_ es=true/\(∃c e fr,E.w.heap[b]? =some (.cells c e fr)/\nE c fr)/\eJ E k b 0 es
 | .row _ es,.nil=>es=[]
 | .row k es,.free=>k=0/\es=[]
 | .box _,_=>False
def aB(N0:Nat->Prop)(φ:List dj)(w:World):Env:=⟨fun b=>N0 b\/ ∃n k:Nat,φ[n]? =some (dj.loc b k),φ,w⟩
structure kD extends World where
 M:Nat->Prop
 fix:Nat->Bool
 Vr:List dj
structure Kept(w0:kD)(w:World):Prop where
 os:w.os=w0.os
 tape:w.tape=w0.tape
 output:w.output=w0.output
 drawn:w0.drawn<=w.drawn
 size:w0.heap.size<=w.heap.size
 block: ∀b,b<w0.heap.size-> ¬w0.M b->w.heap[b]? =w0.heap[b]?
 shape: ∀(b:Nat) (c:Array Value) (e:TypeId) (fr:Nat×Nat),w0.heap[b]? =some (.cells c e fr)-> ∃c' Qj,w.heap[b]? =some (.cells c' e Qj)/\c'.size=c.size
structure aO(N0:Nat->Prop)(w0:kD)(nt:Nat)(σ:St)(φ:List dj)(a:Act)(w:World):Prop where
 cW: ∀d,aJ (aB N0 φ w) (look σ.s d) (a.tmps.getD d undef)
 size:a.tmps.size=nt
 defers:a.defers=[]
 len:φ.length=σ.H.length
 c7: ∀(n:Nat) (o:Obj) (p:dj),cn σ.H n=some o->φ[n]? =some p->aL (aB N0 φ w) o p
 own: ∀n b k:Nat,φ[n]? =some (dj.loc b k)->(w0.heap.size<=b\/w0.M b)/\b<w.heap.size
 inj: ∀n m b k k':Nat,φ[n]? =some (dj.loc b k)->φ[m]? =some (dj.loc b k')->n=m
 n0: ∀b,N0 b->b<w0.heap.size/\ ¬w0.M b
 lD: ∀(n:Nat) (p:dj),w0.fix n=true->w0.Vr[n]? =some p->p≠ .free->φ[n]? =some p
 below:Kept w0 w
theorem bH: ∀(H:List Obj) (n:Nat),cn H n=H[n]?
 | [],n=>by simp[cn]
 |x::xs,0=>by simp[cn]
 |x::xs,n+1=>by simp[cn,bH xs n]
theorem dU: ∀(H:List Obj) (n:Nat) (o:Obj),kQ H n o=H.set n o
 | [],n,o=>by simp[kQ]
 |x::xs,0,o=>by simp[kQ]
 |x::xs,n+1,o=>by simp[kQ,dU xs n o]
theorem ga: ∀(H:List A) (n:Nat) (o:A),cC H n o=H.set n o
 | [],n,o=>by simp[cC]
 |x::xs,0,o=>by simp[cC]
 |x::xs,n+1,o=>by simp[cC,ga xs n o]
section
variable{N0:Nat->Prop}{w0:kD}{nt:Nat}{σ:St}{φ:List dj}{a:Act}{w:World}
theorem aL.mono{K:Nat->Prop}{E E':Env}(h:Ext K E E'){o:Obj}{p:dj}(hr:aL E o p)(hp: ∀b k,p=dj.loc b k-> ∀c e fr,E.w.heap[b]? =some (.cells c e fr)->E'.w.heap[b]? =some (.cells c e fr))
 (hk: ∀cs,o= .box cs-> ∀n,A.mem.gm n cs=true->K n):aL E' o p:=by
 cases o with
 |box cs=>
  cases p with
  |loc b k=>
   simp only[aL]at hr⊢;obtain⟨⟨c,e,fr,hc,hf⟩,hm⟩:=hr;have wQ:=hp b k rfl c e fr hc;refine⟨⟨c,e,fr,wQ,hf⟩,bg.2 fun i x hx=> ?_⟩
   obtain⟨v,hv,h1,cS⟩:=bg.1 hm i x hx;refine⟨v,by simpa only[World.cell?,hc,wQ]using hv,h1,aJ.mono h x v cS fun n hn=>hk cs rfl n ?_⟩
   have j_:=List.mem_of_getElem? hx;clear hx hm hk;induction cs with
   |nil=>simp at j_
   |cons y ys ih=>
    rcases List.mem_cons.1 j_ with rfl|jz
    · simp[A.mem.gm,hn]
    · simp[A.mem.gm,ih jz]
  |_=>simp[aL]at hr
 |row k es=>
  cases p with
  |loc b k'=>
   simp only[aL]at hr⊢;obtain⟨Vs,tb,⟨c,e,fr,hc,hf⟩,hm⟩:=hr;have wQ:=hp b k' rfl c e fr hc;refine⟨Vs,tb,⟨c,e,fr,wQ,hf⟩,dd.2 fun i x hx=> ?_⟩
   obtain⟨hl,hmm⟩:=dd.1 hm i x hx;refine⟨hl,bg.2 fun j y hy=> ?_⟩
   obtain⟨v,hv,h1,cS⟩:=bg.1 hmm j y hy;refine⟨v,by simpa only[World.cell?,hc,wQ]using hv,h1,aJ.mono h y v cS fun n hn=> ?_⟩
   exfalso
   have hpx:x.pure=true:=by
    have j_:=List.mem_of_getElem? hx;clear hx hm hk;induction es with
    |nil=>simp at j_
    |cons z zs ih=>
     simp only[A.pure.a_,Bool.and_eq_true]at tb;rcases List.mem_cons.1 j_ with rfl|jz
     · exact tb.1
     · exact ih tb.2 jz
   have hpy:y.pure=true:=by
    have j_:=List.mem_of_getElem? hy;cases x
    case agg cs=>
     simp only[A.pure]at hpx;simp only[A.cells]at j_;clear hy hmm hl hx;induction cs with
     |nil=>simp at j_
     |cons z zs ih=>
      simp only[A.pure.a_,Bool.and_eq_true]at hpx;rcases List.mem_cons.1 j_ with rfl|jz
      · exact hpx.1
      · exact ih hpx.2 jz
    all_goals
     simp only[A.cells,List.mem_singleton]at j_;subst j_;exact hpx
   rw[A.mN n y hpy]at hn;cases hn
  |nil=>simpa only[aL]using hr
  |free=>simpa only[aL]using hr
structure eL(w w':World):Prop where
 size:w.heap.size<=w'.heap.size
 block: ∀b,b<w.heap.size->w'.heap[b]? =w.heap[b]?
 os:w'.os=w.os
 tape:w'.tape=w.tape
 output:w'.output=w.output
 drawn:w.drawn<=w'.drawn
theorem eL.refl(w:World):eL w w:=⟨Nat.le_refl _,fun _ _=>rfl,rfl,rfl,rfl,Nat.le_refl _⟩
theorem eL.trans{w w' w'':World}(h:eL w w')(h':eL w' w''):eL w w'':=
 ⟨Nat.le_trans h.size h'.size,fun b hb=>(h'.block b (Nat.lt_of_lt_of_le hb h.size)).trans (h.block b hb),h'.os.trans h.os,h'.tape.trans h.tape,h'.output.trans h.output,Nat.le_trans h.drawn h'.drawn⟩
theorem eL.alloc(w:World)(o:Go.Obj):eL w (w.alloc o):=⟨by simp,fun b hb=>Below.heap_alloc w o b hb,rfl,rfl,rfl,Nat.le_refl _⟩
theorem eL.drew(w:World):eL w w.drew:=⟨Nat.le_refl _,fun _ _=>rfl,rfl,rfl,rfl,Nat.le_succ _⟩
theorem eL.toBelow{w w':World}(g:eL w w'):Below w.heap.size w w':=⟨g.os,g.tape,g.output,g.size,g.block⟩
theorem Kept.refl(w0:kD):Kept w0 w0.toWorld:=⟨rfl,rfl,rfl,Nat.le_refl _,Nat.le_refl _,fun _ _ _=>rfl,fun _ c _ fr h=>⟨c,fr,h,rfl⟩⟩
theorem eL.below{w0:kD}{w w':World}(h:Kept w0 w)(g:eL w w'):Kept w0 w' where
 os:=g.os.trans h.os
 tape:=g.tape.trans h.tape
 output:=g.output.trans h.output
 drawn:=Nat.le_trans h.drawn g.drawn
 size:=Nat.le_trans h.size g.size
 block:=fun b hb hM=>(g.block b (Nat.lt_of_lt_of_le hb h.size)).trans (h.block b hb hM)
 shape:=fun b c e fr hc=>by obtain⟨c',Qj,h1,h2⟩:=h.shape b c e fr hc;have hb:b<w.heap.size:=(Array.getElem?_eq_some_iff.1 h1).1;exact⟨c',Qj,by rw[g.block b hb];exact h1,h2⟩
theorem aO.B8(h:aO N0 w0 nt σ φ a w){w':World}(g:eL w w'):Ext (fun _=>True) (aB N0 φ w) (aB N0 φ w') where
 size:=g.size
 MI:=fun b hb hn=>⟨hn,g.block b hb⟩
 refs:=fun n o _ ho _=>ho
 own:=fun n b k c e fr _ ho hc=>⟨c,fr,by have:=(h.own n b k ho).2;show w'.heap[b]? =_;rw[g.block b this];exact hc,rfl⟩
theorem aO.Vt(h:aO N0 w0 nt σ φ a w){w':World}(g:eL w w'):aO N0 w0 nt σ φ a w' where
 cW:=fun d=>aJ.mono (h.B8 g) _ _ (h.cW d) (fun _ _=>trivial)
 size:=h.size
 defers:=h.defers
 len:=h.len
 c7:=fun n o p ho hp=>aL.mono (h.B8 g) (h.c7 n o p ho hp) (fun b k hb c e fr hc=>by subst hb;show w'.heap[b]? =_;rw[g.block b (h.own n b k hp).2];exact hc) (fun _ _ _ _=>trivial)
 own:=fun n b k hb=>⟨(h.own n b k hb).1,Nat.lt_of_lt_of_le (h.own n b k hb).2 g.size⟩
 inj:=h.inj
 n0:=h.n0
 lD:=h.lD
 below:=g.below h.below
theorem aO.X0(h:aO N0 w0 nt σ φ a w){w':World}(g:eL w w'){x:A}{v:Value}(hr:aJ (aB N0 φ w) x v):aJ (aB N0 φ w') x v:=
 aJ.mono (h.B8 g) x v hr (fun _ _=>trivial)
theorem X3{a:Act}{d:Nat}{v:Value}(hd:d<a.tmps.size)(t:Nat):(a.put (some d) v).tmps.getD t undef=if d=t then v else a.tmps.getD t undef:=by
 simp only[Act.put]
 by_cases ht:d=t
 · subst ht;simp[Array.getD,hd]
 · rw[if_neg ht]
   simp only[Array.getD_eq_getD_getElem?,Array.getElem?_setIfInBounds]
   rw[if_neg ht]
theorem aO.put(h:aO N0 w0 nt σ φ a w){d:Option Tmp}(hd: ∀t,d=some t->t<nt){x:A}{v:Value}(hr:aJ (aB N0 φ w) x v):
 aO N0 w0 nt (σ.put d x) φ (a.put d v) w:=by
 cases d with
 |none=>exact h
 |some d=>
  have hd':d<a.tmps.size:=by rw[h.size];exact hd d rfl
  exact{h with
   cW:=fun t=>by
    rw[X3 hd' t]
    show aJ _ (look ((d,x)::σ.s) t) _;simp only[look]
    split
    · exact hr
    · exact h.cW t
   size:=by simp only[Act.put,Array.size_setIfInBounds];exact h.size
   defers:=h.defers}
theorem xa(E:Env):aJ E (.cD []) undef:=by simp[aJ,aQ,undef]
theorem MQ(E:Env)(v:Value):aJ E (toA1 v) v:=by
 unfold toA1
 split<;>first
  |(simp only[aJ];done)
  |(simp[aJ,aQ];done)
  |(simp only[aJ];exact⟨[],rfl,by simp[aQ]⟩)
theorem Js(E:Env)(v:Value):aJ E (toA v) v:=by
 unfold toA;split
 · rename_i cs
   split
   · rename_i iO
     simp only[aJ]
     refine⟨cs,rfl,bf.2 ⟨by simp,fun i x u hx hu=> ?_⟩,fun u hu=>List.all_eq_true.1 iO u hu⟩
     rw[List.getElem?_map,hu]at hx;simp at hx;subst hx;exact MQ E u
   · simp only[aJ]
 · exact MQ E v
theorem aO.ev(h:aO N0 w0 nt σ φ a w)(x:Operand):aJ (aB N0 φ w) (σ.ev x) (a.eval x):=by
 match x with
 | .tmp t=>exact h.cW t
 | .const v=>exact Js _ v
 | .func f=>simp only[St.ev,Act.eval,aJ];exact⟨[],rfl,by simp[aQ]⟩
 | .global g=>simp only[St.ev,aJ]
end
end Go.bo
namespace Go.bo
open Go.RowKit
section
variable{P:Program}{w:World}
theorem B9{t:TypeId}(h:bF P t=some true): ∃d,P.underlying t=some d/\d.isRow=true:=by
 unfold bF at h
 split at h<;>first
  |(rename_i hu;exact⟨_,hu,rfl⟩)
  |simp at h
theorem MR{t:TypeId}(h:bF P t=some false): ∃d,P.underlying t=some d/\d.isRow=false:=by
 unfold bF at h;split at h
 · simp at h
 · simp at h
 · rename_i d h1 h2 hu
   refine⟨d,hu, ?_⟩
   cases d<;>first|rfl|(exact(h1 _ rfl).elim)|(exact(h2 _ _ rfl).elim)
 · simp at h
theorem ma{t:TypeId}(h:bF P t=some true):(isAgg t).run P w= .ok true w:=by
 obtain⟨d,hu,hd⟩:=B9 h;unfold isAgg;rw[Sem.run_bind,run_underlying hu w]
 cases d<;>simp_all
theorem iW{t:TypeId}(h:bF P t=some false):(isAgg t).run P w= .ok false w:=by
 obtain⟨d,hu,hd⟩:=MR h;unfold isAgg;rw[Sem.run_bind,run_underlying hu w]
 cases d<;>simp_all
theorem run_sizeOf{t n:Nat}(h:ba P t=some n):(sizeOf t).run P w= .ok n w:=by
 unfold ba at h;cases hq:P.info? t with
 |none=>simp[hq]at h
 |some i=>simp[hq]at h;simp[sizeOf,typeInfo,hq,h]
theorem dI{t e:Nat}(h:aX P t=some e):P.underlying t=some (.slice e):=by
 unfold aX at h;split at h
 · rename_i hu;simp at h;subst h;exact hu
 · simp at h
theorem u3{t n e:Nat}(h:fi P t=some (n,e)):P.underlying t=some (.array n e):=by
 unfold fi at h;split at h
 · rename_i hu;simp at h;obtain⟨rfl,rfl⟩:=h;exact hu
 · simp at h
theorem jH{t:Nat}(h:fO P t=true):P.underlying t=some .string:=by
 unfold fO at h;split at h
 · assumption
 · simp at h
theorem B_{t:Nat}{k:IntKind}(h:ph P t=some k):P.underlying t=some (.int k):=by
 unfold ph at h;split at h
 · rename_i hu;simp at h;subst h;exact hu
 · simp at h
theorem MS{t:Nat}(h:jB P t=true): ∃e,P.underlying t=some (.pointer e):=by
 unfold jB at h;split at h
 · rename_i e hu;exact⟨e,hu⟩
 · simp at h
theorem oA{s f o t:Nat}(h:fieldInfo P s f=some (o,t)):
 ∃fs x n,P.underlying s=some (.struct fs)/\fs[f]? =some x/\x.offset=o/\x.type=t/\ba P t=some n/\n≠0:=by
 unfold fieldInfo at h;split at h
 · rename_i fs hu
   cases hx:fs[f]? with
   |none=>simp[hx]at h
   |some x=>
    simp only[hx,Option.bind_some]at h;split at h
    · simp at h
    · rename_i h0
      split at h
      · simp at h
      · rename_i h1
        simp at h;obtain⟨rfl,rfl⟩:=h;cases hs:ba P x.type with
        |none=>simp[hs]at h1
        |some n=>exact⟨fs,x,n,hu,hx,rfl,rfl,rfl,fun hn=>h0 (by rw[hs,hn])⟩
 · simp at h
theorem yW{s:Sem Value}{v:Value}{w':World}(h:s.run P w= .ok v w'):(do pure (Next.value (<-s)):Sem Next).run P w= .ok (.value v) w':=by simp[h]
theorem run_u{s:Sem Unit}{w':World}(h:s.run P w= .ok () w'):(do s;pure Next.skip:Sem Next).run P w= .ok .skip w':=by simp[h]
end
def Good(P:Program)(o:Oper)(a:Act)(w:World)(N0:Nat->Prop)(φ:List dj)(x:A):Prop:=
 ∃v w',(Go.execOp a.eval o).run P w= .ok (.value v) w'/\eL w w'/\aJ (aB N0 φ w') x v
section
variable{P:Program}{N0:Nat->Prop}{w0:kD}{nt:Nat}{σ:St}{φ:List dj}{a:Act}{w:World}
theorem bR{o:Oper}{s:Sem Value}{x:A}{v:Value}(ho:Go.execOp a.eval o=(do pure (Next.value (<-s))))(hr:s.run P w= .ok v w)(h:aJ (aB N0 φ w) x v):Good P o a w N0 φ x:=
 ⟨v,w,by rw[ho];exact yW hr,eL.refl w,h⟩
theorem qa{b:Builtin}{xs:List Operand}{us:Array TypeId}{d:Option Tmp}{t:TypeId}{p:String}{af:Array Edge}{g:Option (Nat×Bool)}:
 ∃cs,(Go.execOp a.eval ⟨d,.call ⟨.builtin b,⟨xs⟩,us⟩,t,p,af,g⟩).run P w=(builtin b us t cs (xs.map a.eval).toArray).run P w:=by
 refine⟨xs.toArray.map fun| .const _=>true|_=>false, ?_⟩
 simp only[Go.execOp,resolve,invoke,Sem.run_bind,Sem.run_pure,Result.andThen_ok]
 rw[<-List.map_toArray]
 rfl
theorem eS{b:Builtin}{xs:List Operand}{us:Array TypeId}{d:Option Tmp}{t:TypeId}{p:String}{af:Array Edge}{g:Option (Nat×Bool)}{s:Sem Value}{x:A}{v:Value}
 (ho: ∀cs,builtin b us t cs (xs.map a.eval).toArray=(do pure (Next.value (<-s)))) (hr:s.run P w= .ok v w) (h:aJ (aB N0 φ w) x v):Good P ⟨d,.call ⟨.builtin b,⟨xs⟩,us⟩,t,p,af,g⟩ a w N0 φ x:=by
 obtain⟨cs,Bv⟩:=qa (P:=P) (a:=a) (w:=w) (b:=b) (xs:=xs) (us:=us) (d:=d) (t:=t) (p:=p) (af:=af) (g:=g)
 exact⟨v,w,by rw[Bv,ho];exact yW hr,eL.refl w,h⟩
theorem oB(s:List UInt8):(⟨s.toArray⟩:ByteArray).size=s.length:=rfl
theorem iX{E:Env}{k:IntKind}{n:Int}{v:Value}(h:aJ E (.int k n) v):v= .int k n:=by simpa only[aJ]using h
theorem u4{E:Env}{b:Bool}{v:Value}(h:aJ E (.bool b) v):v= .bool b:=by simpa only[aJ]using h
theorem rU{E:Env}{s:List UInt8}{v:Value}(h:aJ E (.str s) v):v= .string ⟨s.toArray⟩:=by simpa only[aJ]using h
theorem Vu(h:aO N0 w0 nt σ φ a w){d:Option Tmp}{x:Operand}{t:TypeId}{p:String}{af:Array Edge}{g:Option (Nat×Bool)}:Good P ⟨d,.move x,t,p,af,g⟩ a w N0 φ (σ.ev x):=
 ⟨a.eval x,w,rfl,eL.refl w,h.ev x⟩
theorem MT(h:aO N0 w0 nt σ φ a w){d:Option Tmp}{x:Operand}{t:TypeId}{p:String}{af:Array Edge}{g:Option (Nat×Bool)}:Good P ⟨d,.assign x,t,p,af,g⟩ a w N0 φ (σ.ev x):=
 ⟨a.eval x,w,rfl,eL.refl w,h.ev x⟩
theorem Vv(h:aO N0 w0 nt σ φ a w){d:Option Tmp}{x y z:Operand}{t:TypeId}{p:String}{af:Array Edge}{g:Option (Nat×Bool)}{r:A}
 (hr:MK (σ.ev x) (σ.ev y) (σ.ev z)=some r):Good P ⟨d,.pick x y z,t,p,af,g⟩ a w N0 φ r:=by
 cases hc:σ.ev x<;>simp only[hc,MK]at hr<;>try(simp at hr;done)
 rename_i b;have hx:=h.ev x;rw[hc]at hx;have Qo:=u4 hx;refine⟨if b then a.eval y else a.eval z,w, ?_,eL.refl w, ?_⟩
 · simp[Go.execOp,Qo,asBool]
 · simp at hr
   subst hr;cases b
   · simpa using h.ev z
   · simpa using h.ev y
theorem Ca(h:aO N0 w0 nt σ φ a w){d:Option Tmp}{x:Operand}{s f:Nat}{t:TypeId}{p:String}{af:Array Edge}{g:Option (Nat×Bool)}{r:A}
 (hr:j8 (fieldInfo P s f) (σ.ev x)=some r):Good P ⟨d,.fieldAddr s x f,t,p,af,g⟩ a w N0 φ r:=by
 cases hf:fieldInfo P s f with
 |none=>simp[hf,j8]at hr
 |some q=>
  obtain⟨o,ft⟩:=q;rw[hf]at hr;simp only[j8]at hr;obtain⟨fs,fx,n,hu,uT,rfl,rfl,hn,hn0⟩:=oA hf;have key: ∀b off:Nat,a.eval x= .pointer (some ⟨b,off,none⟩)->(Instr.fieldAt s (a.eval x) f).run P w= .ok (.pointer (some ⟨b,off+fx.offset,none⟩)) w:=by intro b off hx;have hz:(sizeOf fx.type).run P w= .ok n w:=run_sizeOf hn;simp[Instr.fieldAt,run_underlying hu,uT,hx,Instr.sureAddr,fieldPlace,hz,hn0,Addr.add_mid]
  have hx:=h.ev x;cases hc:σ.ev x<;>simp only[hc,j7]at hr<;>try(simp at hr;done)
  · rename_i cs
    simp at hr;subst hr;rw[hc]at hx;simp only[aJ]at hx;obtain⟨hp,b,off,hv,hb,hnb,hm⟩:=hx;refine bR rfl (key b off hv) ?_;simp only[aJ]
    refine⟨?_,b,off+fx.offset,rfl,hb,hnb,jl hm⟩
    clear hm hc hv;generalize fx.offset=m;induction cs generalizing m with
    |nil=>simp[A.pure.a_]
    |cons y ys ih=>
     simp only[A.pure.a_,Bool.and_eq_true]at hp;cases m with
     |zero=>simp[A.pure.a_,hp]
     |succ m=>simpa using ih hp.2 m
  · rename_i n' off
    simp at hr;subst hr;rw[hc]at hx;simp only[aJ]at hx;obtain⟨b,k,hb,hv⟩:=hx;refine bR rfl (key b off hv) ?_;simp only[aJ]
    exact⟨b,k,hb,rfl⟩
  · rename_i n' i off
    simp at hr;subst hr;rw[hc]at hx;simp only[aJ]at hx;obtain⟨b,k,hb,hv⟩:=hx;refine bR rfl (key b (i*k+off) hv) ?_;simp only[aJ]
    exact⟨b,k,hb,by rw[Nat.add_assoc]⟩
theorem qb{E:Env}{t:TypeId}{cs:List A}{x:A}{b off:Nat}(hm:gn E b off cs)(hl:j0 P t cs=some x): ∃v,(loadVar t ⟨b,off,none⟩).run P E.w= .ok v E.w/\aJ E x v/\(x.val=true\/v.oneCell'=true):=by
 unfold j0 at hl;split at hl
 · rename_i ny
   split at hl
   · rename_i n hn
     split at hl
     · rename_i hle
       simp at hl;subst hl;obtain⟨vs,hr,hL,h1⟩:=rT (Vq (n:=n) hm)
       obtain⟨d,hu,hd⟩:=B9 ny;have hlen:vs.length=n:=by rw[<-(bf.1 hL).1];simp;omega
       refine⟨.agg vs.toArray,run_loadVar_mid E.w b off t vs d hr hu hd (by unfold ba at hn;rw[hn,hlen]), ?_,.inl rfl⟩
       simp only[aJ]
       exact⟨vs,rfl,hL,h1⟩
     · simp at hl
   · simp at hl
 · rename_i ny
   cases cs with
   |nil=>simp at hl
   |cons c cs=>
    simp at hl;subst hl;simp only[gn]at hm;obtain⟨⟨v,hv,h1,cS⟩,_⟩:=hm;exact⟨v,by simp[loadVar,iW ny,hv],cS,.inr h1⟩
 · simp at hl
theorem aM{es:List A}(h:A.pure.a_ es=true){i:Nat}{e:A}(hi:es[i]? =some e):e.pure=true:=by
 induction es generalizing i with
 |nil=>simp at hi
 |cons z zs ih=>
  simp only[A.pure.a_,Bool.and_eq_true]at h;cases i with
  |zero=>simp at hi;subst hi;exact h.1
  |succ i=>exact ih h.2 (by simpa using hi)
theorem de{es:List A}(h: ∀(i:Nat) (e:A),es[i]? =some e->e.pure=true):A.pure.a_ es=true:=by
 induction es with
 |nil=>rfl
 |cons z zs ih=>
  simp only[A.pure.a_,Bool.and_eq_true]
  exact⟨h 0 z rfl,ih fun i e he=>h (i+1) e (by simpa using he)⟩
theorem mb{es:List A}{n:Nat}(h:A.pure.a_ es=true):A.pure.a_ (es.drop n)=true:=
 de fun i e he=>aM h (i:=n+i) (by simpa[List.getElem?_drop]using he)
theorem mc{es:List A}{n:Nat}(h:A.pure.a_ es=true):A.pure.a_ (es.take n)=true:=
 de fun i e he=>aM h (i:=i) (by
  rw[List.getElem?_take]at he;split at he
  · exact he
  · simp at he)
theorem me{e:A}(h:e.pure=true):A.pure.a_ e.cells=true:=by cases e<;>simp_all[A.pure,A.cells,A.pure.a_]
theorem Vw(h:aO N0 w0 nt σ φ a w){d:Option Tmp}{x:Operand}{s:Nat}{t:TypeId}{p:String}{af:Array Edge}{g:Option (Nat×Bool)}{r:A}
 (hr:s8 P s σ.H (σ.ev x)=some r):Good P ⟨d,.load s x,t,p,af,g⟩ a w N0 φ r:=by
 have hx:=h.ev x;cases hc:σ.ev x<;>simp only[hc,s8]at hr<;>try(simp at hr;done)
 · rw[hc]at hx
   simp only[aJ]at hx;obtain⟨hp,b,off,hv,hb,hnb,hm⟩:=hx;obtain⟨v,xb,cS,_⟩:=qb hm hr;replace xb:(loadVar s ⟨b,off,none⟩).run P w= .ok v w:=xb;exact bR rfl (by rw[hv];simpa[Instr.loadAt,Instr.sureAddr]using xb) cS
 · rename_i n off
   rw[hc]at hx;simp only[aJ]at hx;obtain⟨b,k,hb,hv⟩:=hx;split at hr
   · rename_i cs Bv
     have ho:=h.c7 n _ _ Bv hb;simp only[aL]at ho;have hm:=jl (n:=off) ho.2;obtain⟨v,xb,cS,_⟩:=qb hm hr;replace xb:(loadVar s ⟨b,0+off,none⟩).run P w= .ok v w:=xb;rw[Nat.zero_add]at xb;exact bR rfl (by rw[hv];simpa[Instr.loadAt,Instr.sureAddr]using xb) cS
   · simp at hr
 · rename_i n i off
   rw[hc]at hx;simp only[aJ]at hx;obtain⟨b,k,hb,hv⟩:=hx;split at hr
   · rename_i k' es Bv
     have ho:=h.c7 n _ _ Bv hb;simp only[aL]at ho;obtain⟨rfl,hpu,hblk,he⟩:=ho;cases hi:es[i]? with
     |none=>simp[hi]at hr
     |some e=>
      simp only[hi,Option.bind_some]at hr;obtain⟨hl,hm⟩:=dd.1 he i e hi;have jz:=jl (n:=off) hm;obtain⟨v,xb,cS,_⟩:=qb jz hr;replace xb:(loadVar s ⟨b,0+i*k'+off,none⟩).run P w= .ok v w:=xb;rw[Nat.zero_add]at xb;exact bR rfl (by rw[hv];simpa[Instr.loadAt,Instr.sureAddr]using xb) cS
   · simp at hr
theorem FU(h:aO N0 w0 nt σ φ a w){d:Option Tmp}{x:Operand}{t:TypeId}{p:String}{af:Array Edge}{g:Option (Nat×Bool)}{r:A}
 (hr:wX (σ.ev x)=some r):Good P ⟨d,.nilCheck x,t,p,af,g⟩ a w N0 φ r:=by
 have hx:=h.ev x;cases hc:σ.ev x<;>simp only[hc,wX]at hr<;>try(simp at hr;done)
 all_goals
  simp at hr;subst hr;rw[hc]at hx;refine⟨a.eval x,w, ?_,eL.refl w,hx⟩
  simp only[aJ]at hx
 · obtain⟨hp,b,off,hv,hb,hnb,hm⟩:=hx
   simp[Go.execOp,hv]
 · obtain⟨b,k,hb,hv⟩:=hx
   simp[Go.execOp,hv]
 · obtain⟨b,k,hb,hv⟩:=hx
   simp[Go.execOp,hv]
 · obtain⟨vs,hv,_⟩:=hx
   simp[Go.execOp,hv]
theorem FV(h:aO N0 w0 nt σ φ a w){d:Option Tmp}{f:Fn}{xs ys:Array Operand}{t:TypeId}{p:String}{af:Array Edge}{g:Option (Nat×Bool)}{r:A}
 (hr:nA f (σ.mF xs.toList) (σ.mF ys.toList)=some r):Good P ⟨d,.makeFunc f xs ys,t,p,af,g⟩ a w N0 φ r:=by
 cases f<;>simp only[nA]at hr<;>try(simp at hr;done)
 rename_i f;cases Tx:σ.mF xs.toList with
 |cons _ _=>simp[Tx]at hr
 |nil=>
  simp only[Tx]at hr;simp at hr;subst hr
  have hx0:xs= #[]:=by
   cases hl:xs.toList with
   |nil=>exact Array.toList_eq_nil_iff.1 hl
   |cons _ _=>simp[hl,St.mF]at Tx
  subst hx0;refine⟨.func (.func f) #[] (ys.map a.eval),w, ?_,eL.refl w, ?_⟩
  · simp[Go.execOp,Instr.makeFunc]
  · simp only[aJ]
    refine⟨(ys.map a.eval).toList,rfl, ?_⟩
    simp only[Array.toList_map]
    generalize ys.toList=l;induction l with
    |nil=>simp[St.mF,aQ]
    |cons y l ih=>simp only[St.mF,List.map_cons,aQ];exact⟨_,_,rfl,h.ev y,ih⟩
theorem Jt(h:aO N0 w0 nt σ φ a w){d:Option Tmp}{x:Operand}{i:Nat}{t:TypeId}{p:String}{af:Array Edge}{g:Option (Nat×Bool)}{r:A}
 (hr:pY (σ.ev x) i=some r):Good P ⟨d,.extract x i,t,p,af,g⟩ a w N0 φ r:=by
 have hx:=h.ev x;cases hc:σ.ev x<;>simp only[hc,pY]at hr<;>try(simp at hr;done)
 rename_i cs;rw[hc]at hx;simp only[aJ]at hx;obtain⟨vs,hv,hl⟩:=hx;obtain⟨h1,h2⟩:=bf.1 hl;have hi:i<vs.length:=by rw[<-h1];exact(List.getElem?_eq_some_iff.1 hr).1
 refine bR rfl (v:=vs[i]) (by rw[hv];simp[Instr.extract,hi]) (h2 i _ _ hr (List.getElem?_eq_getElem hi))
theorem X4(h:aO N0 w0 nt σ φ a w){d:Option Tmp}{x:Operand}{u:TypeId}{t:TypeId}{p:String}{af:Array Edge}{g:Option (Nat×Bool)}{r:A}
 (hr:Qm P u (σ.ev x)=some r):Good P ⟨d,.call ⟨.builtin .len,⟨[x]⟩,⟨[u]⟩⟩,t,p,af,g⟩ a w N0 φ r:=by
 have hx:=h.ev x;have ho: ∀cs,builtin .len #[u] t cs ([x].map a.eval).toArray=(do pure (Next.value (<-Builtin.len_ #[u] t #[a.eval x]))):=fun cs=>rfl
 have arr: ∀n e,fi P u=some (n,e)->r= .int .i64 n->Good P ⟨d,.call ⟨.builtin .len,⟨[x]⟩,⟨[u]⟩⟩,t,p,af,g⟩ a w N0 φ r:=by
  rintro n e hn rfl;refine eS ho (v:= .int .i64 n) ?_ (by simp only[aJ])
  simp[Builtin.len_,run_underlying (u3 hn),goInt]
 cases hc:σ.ev x<;>simp only[hc,Qm]at hr
 case str s=>
  split at hr
  · rename_i hs
    simp at hr;subst hr;rw[hc]at hx;refine eS ho (v:= .int .i64 s.length) ?_ (by simp only[aJ])
    rw[rU hx]
    simp[Builtin.len_,run_underlying (jH hs),goInt,oB]
  · simp at hr
 case ab es=>
  split at hr
  · rename_i hs
    simp at hr;subst hr;rw[hc]at hx;simp only[aJ]at hx;obtain⟨_,b,cap,hv,_⟩:=hx;obtain⟨e,he⟩:=Option.isSome_iff_exists.1 hs;refine eS ho (v:= .int .i64 es.length) ?_ (by simp only[aJ])
    rw[hv]
    simp[Builtin.len_,run_underlying (dI he),goInt]
  · simp at hr
 case clip es=>
  split at hr
  · rename_i hs
    simp at hr;subst hr;rw[hc]at hx;simp only[aJ]at hx;obtain⟨_,b,hv,_⟩:=hx;obtain⟨e,he⟩:=Option.isSome_iff_exists.1 hs;refine eS ho (v:= .int .i64 es.length) ?_ (by simp only[aJ])
    rw[hv]
    simp[Builtin.len_,run_underlying (dI he),goInt]
  · simp at hr
 case bT=>
  split at hr
  · rename_i hs
    simp at hr;subst hr;rw[hc]at hx;simp only[aJ]at hx;obtain⟨e,he⟩:=Option.isSome_iff_exists.1 hs;refine eS ho (v:= .int .i64 0) ?_ (by simp only[aJ])
    rw[hx]
    simp[Builtin.len_,run_underlying (dI he),goInt]
  · simp at hr
 case row n off k len c=>
  split at hr
  · rename_i hs
    simp at hr;subst hr;rw[hc]at hx;simp only[aJ]at hx;obtain⟨e,he⟩:=Option.isSome_iff_exists.1 hs;refine eS ho (v:= .int .i64 len) ?_ (by simp only[aJ])
    rcases hx with⟨_,_,_,rfl,_,b,hv⟩|⟨b,cap,c,e',fr,_,hv,_⟩
    all_goals
     rw[hv]
     simp[Builtin.len_,run_underlying (dI he),goInt]
  · simp at hr
 all_goals
  split at hr
  · rename_i n e hn
    simp at hr;exact arr n e hn hr.symm
  · simp at hr
theorem X5(h:aO N0 w0 nt σ φ a w){xs:List Operand}{k k':IntKind}{m n:Int}(he:σ.mF xs=[.int k m,.int k' n]):xs.map a.eval=[.int k m,.int k' n]:=by
 match xs,he with
 | [x,y],he=>
  simp only[St.mF,List.cons.injEq,and_true]at he;have h1:=h.ev x;have h2:=h.ev y;rw[he.1]at h1;rw[he.2]at h2;simp[iX h1,iX h2]
 | [],he=>simp[St.mF]at he
 | [_],he=>simp[St.mF]at he
 |_::_::_::_,he=>simp[St.mF]at he
theorem X6(h:aO N0 w0 nt σ φ a w){d:Option Tmp}{xs:List Operand}{us:Array TypeId}{t:TypeId}{p:String}{af:Array Edge}{g:Option (Nat×Bool)}{r:A}
 (hr:XR (σ.mF xs)=some r):Good P ⟨d,.call ⟨.builtin .min,⟨xs⟩,us⟩,t,p,af,g⟩ a w N0 φ r:=by
 unfold XR at hr;split at hr
 · rename_i k m k' n he
   simp at hr;subst hr;have hm:=X5 h he;refine eS (s:=Builtin.min_ us t (xs.map a.eval).toArray) (fun _=>rfl) (v:= .int k (if n<m then n else m)) ?_ (by simp only[aJ])
   simp[Builtin.min_,hm,Builtin.min2]
 · simp at hr
theorem X7(h:aO N0 w0 nt σ φ a w){d:Option Tmp}{xs:List Operand}{us:Array TypeId}{t:TypeId}{p:String}{af:Array Edge}{g:Option (Nat×Bool)}{r:A}
 (hr:XS (σ.mF xs)=some r):Good P ⟨d,.call ⟨.builtin .max,⟨xs⟩,us⟩,t,p,af,g⟩ a w N0 φ r:=by
 unfold XS at hr;split at hr
 · rename_i k m k' n he
   simp at hr;subst hr;have hm:=X5 h he;refine eS (s:=Builtin.max_ us t (xs.map a.eval).toArray) (fun _=>rfl) (v:= .int k (if n>m then n else m)) ?_ (by simp only[aJ])
   simp[Builtin.max_,hm,Builtin.max2]
 · simp at hr
end
end Go.bo
