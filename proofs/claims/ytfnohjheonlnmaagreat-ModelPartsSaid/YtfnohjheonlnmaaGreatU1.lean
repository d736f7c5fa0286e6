/- What the laws of this claim rest on: the abstract executor, its soundness, and what the functions compute on pure data. No condition. -/
import Derived.Orders
import Derived.WalkKit
import Derived.Test.YtfnohjheonlnmaaGreatProg
import Derived.Deep.MidRow
import Derived.Deep.AppendSrc
noncomputable section
set_option linter.defProp false
def aa:=@List.length_map
def ab:=@Nat.le_of_ble_eq_true
def ad:=@List.take_of_length_le
def ae:=@List.getElem?_eq_getElem
def ag:=@Prod.ext_iff
def ai:=@Nat.le_refl
def aj:=@List.length_append
def ak:=@Bool.and_eq_true
def an:=@Option.some.inj
def ao:=@List.getElem_mem
def ar:=@List.take_append_getElem
def ax:=@List.drop_eq_getElem_cons
def aw:=@Nat.zero_le
def aA:=@List.getElem?_eq_some_iff
def az:=@Bool.false_eq_true
def aC:=@List.drop_of_length_le
def aB:=@Bool.true_and
def aD:=@List.mem_cons
def aG:=@List.length_cons
def aI:=@Bool.false_and
def aK:=@List.length_take
def aJ:=@List.mem_append
def aM:=@Option.map_eq_some_iff
def aL:=@Nat.le_trans
def aO:=@List.length_filter_le
def aP:=@List.mem_filter
def aR:=@List.pairwise_cons
def aT:=@List.getElem?_map
def aS:=@List.map_cons
def aV:=@List.length_eq_zero_iff
def aY:=@Option.bind_some
def ba:=@List.append_assoc
def bc:=@List.mem_singleton
def bf:=@Option.some.injEq
def bg:=@Int.toNat_natCast
def bj:=@List.append_nil
def bm:=@Bool.not_false
def br:=@List.take_append_drop
def bu:=@Bool.false_or
def bx:=@List.nil_append
def bz:=@List.map_append
def bC:=@List.length_nil
def bE:=@Bool.or_eq_true
def bD:=@List.map_nil
def bF:=@List.cons_append
def bG:=@Bool.not_true
def bL:=@Option.bind_eq_some_iff
def bO:=@List.getElem?_of_mem
def bP:=@List.filter_append
def bN:=@Bool.and_false
def bR:=@Array.getElem?_eq_some_iff
def bS:=@Bool.eq_iff_iff
def bT:=@Bool.not_eq_true'
def bV:=@List.filter_cons_of_pos
def bX:=@List.getElem?_append_right
def bW:=@List.getElem_of_mem
def b9:=@List.pairwise_iff_getElem
def b_:=@List.mem_of_mem_take
def bY:=@Nat.zero_add
def bZ:=@List.mem_map
def ca:=@List.take_length
def cg:=@List.foldl_cons
def ck:=@List.getElem?_append_left
def cj:=@List.length_drop
def cr:=@List.contains_cons
def cp:=@List.foldl_append
def cu:=@List.mem_of_getElem?
def cx:=@List.contains_nil
def cw:=@List.all_eq_true
def cv:=@Bool.and_true
def cy:=@List.filter_eq_nil_iff
def cB:=@Nat.mul_le_mul_right
def cC:=@List.getElem?_set_ne
def cG:=@Nat.lt_of_lt_of_le
def cO:=@List.take_append_of_le_length
def cI:=@List.any_cons
def cN:=@List.not_mem_nil
def cJ:=@Nat.add_mul
def cM:=@Bool.true_or
def cS:=@List.sum_cons
def cT:=@Int.le_refl
def cZ:=@List.pairwise_append
def cY:=@List.getElem?_set
def c_:=@Classical.choose_spec
def df:=@List.filter_cons_of_neg
def dd:=@List.length_set
def dj:=@List.mem_of_mem_drop
def dm:=@Bool.or_eq_false_iff
def dh:=@Nat.add_zero
def di:=@Nat.le_of_eq
def dr:=@List.cons.injEq
def dw:=@List.length_singleton
def dv:=@List.filter_eq_self
def dD:=@List.mem_of_find?_eq_some
def dM:=@Option.isSome_iff_exists
def dI:=@Bool.not_eq_true
def dU:=@Nat.add_sub_cancel_left
def dO:=@Bool.and_self
def dT:=@Option.map_some
def dZ:=@List.mem_iff_getElem
def ep:=@List.drop_append_of_le_length
def er:=@List.length_reverse
def ez:=@List.getElem?_eq_none
def eB:=@List.getElem?_drop
def eC:=@List.getElem?_take
def eF:=@List.mem_cons_of_mem
def eD:=@List.map_map
def eI:=@Bool.and_assoc
def eJ:=@List.drop_drop
def eQ:=@Option.map_none
def fo:=@List.getElem?_append
def fp:=@List.mem_erase_of_ne
def fz:=@List.getElem_take
def fI:=@Array.getElem?_append_left
def fL:=@Int.fdiv_eq_ediv_of_nonneg
def fw:=@Ne.symm
def fK:=@List.mem_range
def fP:=@List.mem_of_mem_erase
def fN:=@Nat.lt_or_eq_of_le
def fO:=@Nat.one_mul
def fT:=@Nat.lt_or_ge
def fZ:=@Nat.min_eq_left
def gi:=@Bool.or_false
def gW:=@Array.length_toList
def ib:=@Option.getD_some
def iy:=@List.nodup_cons
def iz:=@List.filter_nil
def iw:=@List.map_take
def iJ:=@List.flatten_cons
def iL:=@List.any_eq_false
def iV:=@List.extract_eq_take_drop
def iX:=@Array.getElem?_eq_getElem
def ja:=@List.sum_nil
def jg:=@List.replicate_succ
def jh:=@List.take_succ_cons
def jF:=@List.takeWhile_append_dropWhile
def jJ:=@List.mem_filterMap
def jL:=@Nat.add_sub_cancel
def jH:=@List.find?_some
def jm:=@Prod.ext
def j0:=@List.ext_getElem?
def j6:=@Nat.lt_trichotomy
def j7:=@List.pairwise_map
def j8:=@List.take_sublist
def j_:=@List.flatMap_cons
def kc:=@List.filter_congr
def ki:=@Nat.div_lt_iff_lt_mul
def jX:=@List.map_set
def kr:=@List.set_append_right
def kO:=@List.take_sublist_take_left
def kC:=@Nat.lt_succ_self
def kD:=@List.mem_reverse
def kE:=@Nat.add_assoc
def kF:=@List.map_drop
def kT:=@List.getD_eq_getElem?_getD
def k9:=@List.drop_succ_cons
def k_:=@List.map_congr_left
def lq:=@List.flatten_append
def lF:=@Array.mapM_eq_mapM_toList
def lg:=@UInt8.toNat_inj
def lx:=@List.append_inj
def lD:=@Bool.or_true
def lE:=@Nat.mul_comm
def l5:=@List.map_replicate
def mf:=@List.Nodup.not_mem_erase
def mg:=@List.length_erase_of_mem
def l7:=@Nat.eq_zero_or_pos
def lM:=@Nat.succ_mul
def l_:=@Bool.true_eq_false
def mc:=@List.take_zero
def me:=@List.drop_zero
def mz:=@List.isEmpty_cons
def mB:=@List.reverse_cons
def mI:=@List.getElem_drop
def mY:=@List.drop_eq_nil_of_le
def mZ:=@Array.getElem?_eq_none
def mG:=@Nat.mul_one
def nh:=@List.set_eq_take_append_cons_drop
def ni:=@List.findIdx?_eq_some_iff_getElem
def na:=@List.filter_cons
def nb:=@List.isEmpty_nil
def nc:=@Option.getD_none
def ng:=@List.mem_flatten
def nj:=@List.nil_sublist
def nq:=@Array.getElem?_modify
def np:=@Array.ext'
def nD:=@Nat.zero_mul
def oe:=@List.eq_nil_iff_forall_not_mem
def oG:=@List.take_set_of_le
def oH:=@List.drop_set_of_lt
def oF:=@List.foldl_nil
def oW:=@Nat.mul_le_mul
def pe:=@Option.isNone_some
def pf:=@Option.isNone_none
def pg:=@Go.Obj.cells.injEq
def pJ:=@List.attach_map_subtype_val
def pn:=@List.filter_filter
def po:=@List.find?_eq_none
def px:=@List.all_cons
def qk:=@List.getLast?_eq_getElem?
def ql:=@List.findIdx?_eq_none_iff
def qt:=@Array.toList_map
def qu:=@Nat.mod_eq_of_lt
def qF:=@List.eq_of_mem_replicate
def qv:=@List.any_eq_true
def qy:=@List.mem_flatMap
def qV:=@List.Pairwise.imp_of_mem
def qW:=@List.getElem?_take_of_lt
def rF:=@List.getElem?_cons_succ
def rW:=@List.sum_append
def rG:=@Nat.le_succ
def si:=@List.sum_replicate_nat
def so:=@List.length_pos_of_mem
def sq:=@List.length_eq_one_iff
def sy:=@List.drop_take
def sA:=@List.mapM_cons
def sZ:=@Array.mem_of_getElem?
def s0:=@Array.getElem?_append
def s7:=@List.pairwise_reverse
def s9:=@List.eq_nil_or_concat
def s_:=@List.concat_eq_append
def td:=@List.Pairwise.sublist
def tw:=@ByteArray.ext
def tK:=@Bool.or_assoc
def tY:=@Int.ofNat_inj
def uq:=@Nat.mul_le_mul_left
def uu:=@List.getElem?_range
def uv:=@List.length_flatten
def uM:=@List.reverse_append
def uQ:=@List.perm_replicate
def u4:=@List.filter_sublist
def u':=@List.any_nil
def vi:=@Nat.sub_self
def wF:=@Subtype.ext
set_option linter.unusedVariables false
set_option linter.unusedSimpArgs false
namespace Go.dF
inductive A where
 |any
 |int (k:IntKind) (n:Int)
 |bool (b:Bool)
 |str (s:List UInt8)
 |agg (cs:List A)
 |ay (es:List A)
 |clip (es:List A)
 |iU (cs:List A)
 |d_
 |Ab
 |ref (n off:Nat)
 |mu (n i off:Nat)
 |row (n off k len:Nat) (c:Bool)
 |fn (f:FuncId) (o7:List A)
 |fq (cs:List A)
 |emp (c:Bool)
instance:Inhabited A:=⟨.any⟩
inductive ia where
 |free
 |nil
 |loc (b k:Nat)
def A.cells:A->List A
 | .agg cs=>cs
 |x=>[x]
def eV:List A->Nat
 | []=>0
 |e::_=>e.cells.length
def A.mem(n:Nat):A->Bool
 | .ref m _=>m==n
 | .mu m _ _=>m==n
 | .row m _ _ _ _=>m==n
 | .agg cs=>lW n cs
 | .fn _ cs=>lW n cs
 | .fq cs=>lW n cs
 |_=>false
where lW (n:Nat):List A->Bool
 | []=>false
 |c::cs=>c.mem n||lW n cs
def A.pure:A->Bool
 | .ref _ _=>false
 | .mu _ _ _=>false
 | .row _ _ _ _ _=>false
 | .agg cs=>cX cs
 | .fn _ cs=>cX cs
 | .fq cs=>cX cs
 |_=>true
where cX:List A->Bool
 | []=>true
 |c::cs=>c.pure&&cX cs
mutual
theorem A.su(n:Nat): ∀x:A,x.pure=true->x.mem n=false
 | .any,_=>rfl
 | .int _ _,_=>rfl
 | .bool _,_=>rfl
 | .str _,_=>rfl
 | .ay _,_=>rfl
 | .clip _,_=>rfl
 | .iU _,_=>rfl
 | .d_,_=>rfl
 | .Ab,_=>rfl
 | .emp _,_=>rfl
 | .ref _ _,h=>by simp[A.pure]at h
 | .mu _ _ _,h=>by simp[A.pure]at h
 | .row _ _ _ _ _,h=>by simp[A.pure]at h
 | .agg cs,h=>by simp only[A.mem];exact A.kZ n cs (by simpa only[A.pure]using h)
 | .fn _ cs,h=>by simp only[A.mem];exact A.kZ n cs (by simpa only[A.pure]using h)
 | .fq cs,h=>by simp only[A.mem];exact A.kZ n cs (by simpa only[A.pure]using h)
theorem A.kZ(n:Nat): ∀cs:List A,A.pure.cX cs=true->A.mem.lW n cs=false
 | [],_=>rfl
 |c::cs,h=>by simp only[A.pure.cX,ak]at h;simp only[A.mem.lW,A.su n c h.1,A.kZ n cs h.2,Bool.or_self]
end
structure Env where
 N:Nat->Prop
 φ:List ia
 w:World
mutual
def bU(E:Env):A->Value->Prop
 | .any,_=>True
 | .int k n,v=>v= .int k n
 | .bool b,v=>v= .bool b
 | .str s,v=>v= .string ⟨s.toArray⟩
 | .agg cs,v=> ∃vs:List Value,v= .agg vs.toArray/\cH E cs vs/\ ∀u∈vs,u.oneCell'=true
 | .ay es,v=>A.pure.cX es=true/\ ∃a cap,v= .slice a es.length cap/\es.length<=cap/\
  (es≠ []-> ∃b off,a=some ⟨b,off,none⟩/\b<E.w.heap.size/\ ¬E.N b/\jR E (eV es) b off es)
 | .clip es,v=>A.pure.cX es=true/\ ∃a,v= .slice a es.length es.length/\
  (es≠ []-> ∃b off,a=some ⟨b,off,none⟩/\b<E.w.heap.size/\ ¬E.N b/\jR E (eV es) b off es)
 | .iU cs,v=>A.pure.cX cs=true/\ ∃b off,v= .pointer (some ⟨b,off,none⟩)/\b<E.w.heap.size/\ ¬E.N b/\lX E b off cs
 | .d_,v=>v= .slice none 0 0
 | .Ab,v=>v= .pointer none
 | .emp c,v=> ∃a cap,v= .slice a 0 cap/\a.isNone=c
 | .ref n off,v=> ∃b k,E.φ[n]? =some (.loc b k)/\v= .pointer (some ⟨b,off,none⟩)
 | .mu n i off,v=> ∃b k,E.φ[n]? =some (.loc b k)/\v= .pointer (some ⟨b,i*k+off,none⟩)
 | .row n off k len cl,v=>
  (∃o,E.φ[n]? =some o/\o≠ .free/\len=0/\(o= .nil->off=0)/\ ∃a,v= .slice a 0 0)\/
  (∃b cap c e fr,E.φ[n]? =some (.loc b k)/\v= .slice (some ⟨b,off*k,none⟩) len cap/\len<=cap/\(cl=true->cap=len)/\
   E.w.heap[b]? =some (.cells c e fr)/\off*k+k*cap<=c.size)
 | .fn f o7,v=> ∃vs:List Value,v= .func (.func f) #[] vs.toArray/\cH E o7 vs
 | .fq cs,v=> ∃vs:List Value,v= .tuple vs.toArray/\cH E cs vs
def cH(E:Env):List A->List Value->Prop
 | [],vs=>vs=[]
 |c::cs,vs=> ∃v qC,vs=v::qC/\bU E c v/\cH E cs qC
def lX(E:Env)(b:Nat)(off:Nat):List A->Prop
 | []=>True
 |c::cs=>(∃v,E.w.cell? ⟨b,off,none⟩=some v/\v.oneCell'=true/\bU E c v)/\lX E b (off+1) cs
def jR(E:Env)(k:Nat)(b:Nat)(off:Nat):List A->Prop
 | []=>True
 | .agg cs::es=>(cs.length=k/\lX E b off cs)/\jR E k b (off+k) es
 |e::es=>(k=1/\ ∃v,E.w.cell? ⟨b,off,none⟩=some v/\v.oneCell'=true/\bU E e v)/\jR E k b (off+k) es
end
theorem RW{E:Env}{k b off:Nat}{cs es:List A}:jR E k b off (.agg cs::es)=((cs.length=k/\lX E b off cs)/\jR E k b (off+k) es):=by simp[jR]
structure Ext(K:Nat->Prop)(E E':Env):Prop where
 size:E.w.heap.size<=E'.w.heap.size
 RX: ∀b,b<E.w.heap.size-> ¬E.N b-> ¬E'.N b/\E'.w.heap[b]? =E.w.heap[b]?
 refs: ∀n o,K n->E.φ[n]? =some o->o≠ .free->E'.φ[n]? =some o
 own: ∀n b k c e fr,K n->E.φ[n]? =some (.loc b k)->E.w.heap[b]? =some (.cells c e fr)-> ∃c' VR,E'.w.heap[b]? =some (.cells c' e VR)/\c'.size=c.size
theorem Ext.cell{K:Nat->Prop}{E E':Env}(h:Ext K E E'){b off:Nat}(hb:b<E.w.heap.size)(hn: ¬E.N b):
 E'.w.cell? ⟨b,off,none⟩=E.w.cell? ⟨b,off,none⟩:=by
 simp only[World.cell?,(h.RX b hb hn).2]
mutual
theorem bU.mono{K:Nat->Prop}{E E':Env}(h:Ext K E E'): ∀(x:A) (v:Value),bU E x v->(∀n,x.mem n=true->K n)->bU E' x v
 | .any,_,_,_=>by simp only[bU]
 | .int _ _,v,hr,_=>by simpa only[bU]using hr
 | .bool _,v,hr,_=>by simpa only[bU]using hr
 | .str _,v,hr,_=>by simpa only[bU]using hr
 | .d_,v,hr,_=>by simpa only[bU]using hr
 | .Ab,v,hr,_=>by simpa only[bU]using hr
 | .emp _,v,hr,_=>by simpa only[bU]using hr
 | .agg cs,v,hr,hk=>by simp only[bU]at hr⊢;obtain⟨vs,hv,hl,h1⟩:=hr;exact⟨vs,hv,cH.mono h cs vs hl (fun n hn=>hk n (by simpa only[A.mem]using hn)),h1⟩
 | .fn f cs,v,hr,hk=>by simp only[bU]at hr⊢;obtain⟨vs,hv,hl⟩:=hr;exact⟨vs,hv,cH.mono h cs vs hl (fun n hn=>hk n (by simpa only[A.mem]using hn))⟩
 | .fq cs,v,hr,hk=>by simp only[bU]at hr⊢;obtain⟨vs,hv,hl⟩:=hr;exact⟨vs,hv,cH.mono h cs vs hl (fun n hn=>hk n (by simpa only[A.mem]using hn))⟩
 | .ay es,v,hr,_=>by
  simp only[bU]at hr⊢;obtain⟨hp,a,cap,hv,hc,hl⟩:=hr;refine⟨hp,a,cap,hv,hc,fun eH=> ?_⟩
  obtain⟨b,off,ha,hb,hn,he⟩:=hl eH;exact⟨b,off,ha,cG hb h.size,(h.RX b hb hn).1,jR.mono h (eV es) b off es hb hn he (fun n hn=>by rw[A.kZ n es hp]at hn;cases hn)⟩
 | .clip es,v,hr,_=>by
  simp only[bU]at hr⊢;obtain⟨hp,a,hv,hl⟩:=hr;refine⟨hp,a,hv,fun eH=> ?_⟩
  obtain⟨b,off,ha,hb,hn,he⟩:=hl eH;exact⟨b,off,ha,cG hb h.size,(h.RX b hb hn).1,jR.mono h (eV es) b off es hb hn he (fun n hn=>by rw[A.kZ n es hp]at hn;cases hn)⟩
 | .iU cs,v,hr,_=>by simp only[bU]at hr⊢;obtain⟨hp,b,off,hv,hb,hn,he⟩:=hr;exact⟨hp,b,off,hv,cG hb h.size,(h.RX b hb hn).1,lX.mono h b off cs hb hn he (fun n hn=>by rw[A.kZ n cs hp]at hn;cases hn)⟩
 | .ref n off,v,hr,hk=>by simp only[bU]at hr⊢;obtain⟨b,k,hb,hv⟩:=hr;exact⟨b,k,h.refs n _ (hk n (by simp[A.mem])) hb (by simp),hv⟩
 | .mu n i off,v,hr,hk=>by simp only[bU]at hr⊢;obtain⟨b,k,hb,hv⟩:=hr;exact⟨b,k,h.refs n _ (hk n (by simp[A.mem])) hb (by simp),hv⟩
 | .row n off k len cl,v,hr,hk=>by
  simp only[bU]at hr⊢;rcases hr with⟨o,hb,hf,r⟩|⟨b,cap,c,e,fr,hb,hv,xj,o6,hc,hs⟩
  · exact .inl ⟨o,h.refs n _ (hk n (by simp[A.mem])) hb hf,hf,r⟩
  · obtain⟨c',VR,BK,hs'⟩:=h.own n b k c e fr (hk n (by simp[A.mem])) hb hc
    exact .inr ⟨b,cap,c',e,VR,h.refs n _ (hk n (by simp[A.mem])) hb (by simp),hv,xj,o6,BK,by omega⟩
theorem cH.mono{K:Nat->Prop}{E E':Env}(h:Ext K E E'): ∀(cs:List A) (vs:List Value),cH E cs vs->(∀n,A.mem.lW n cs=true->K n)->cH E' cs vs
 | [],_,hr,_=>by simpa only[cH]using hr
 |c::cs,vs,hr,hk=>by simp only[cH]at hr⊢;obtain⟨v,qC,hv,hc,hl⟩:=hr;exact⟨v,qC,hv,bU.mono h c v hc (fun n hn=>hk n (by simp[A.mem.lW,hn])),cH.mono h cs qC hl (fun n hn=>hk n (by simp[A.mem.lW,hn]))⟩
theorem lX.mono{K:Nat->Prop}{E E':Env}(h:Ext K E E'): ∀(b off:Nat) (cs:List A),b<E.w.heap.size-> ¬E.N b->lX E b off cs->(∀n,A.mem.lW n cs=true->K n)->lX E' b off cs
 |_,_,[],_,_,_,_=>by simp only[lX]
 |b,off,c::cs,hb,hn,hr,hk=>by simp only[lX]at hr⊢;obtain⟨⟨v,hv,h1,hc⟩,hl⟩:=hr;exact⟨⟨v,by rw[h.cell hb hn];exact hv,h1,bU.mono h c v hc (fun n hn=>hk n (by simp[A.mem.lW,hn]))⟩,lX.mono h b (off+1) cs hb hn hl (fun n hn=>hk n (by simp[A.mem.lW,hn]))⟩
theorem jR.mono{K:Nat->Prop}{E E':Env}(h:Ext K E E'): ∀(k b off:Nat) (es:List A),b<E.w.heap.size-> ¬E.N b->jR E k b off es->(∀n,A.mem.lW n es=true->K n)->jR E' k b off es
 |_,_,_,[],_,_,_,_=>by simp only[jR]
 |k,b,off,e::es,hb,hn,hr,hk=>by
  cases e
  case agg cs=>
   rw[RW]at hr⊢;obtain⟨⟨hlen,hm⟩,hl⟩:=hr;exact⟨⟨hlen,lX.mono h b off cs hb hn hm (fun n hn=>hk n (by simp[A.mem.lW,A.mem,hn]))⟩,jR.mono h k b (off+k) es hb hn hl (fun n hn=>hk n (by simp[A.mem.lW,hn]))⟩
  all_goals
   simp only[jR]at hr⊢;obtain⟨⟨qD,v,hv,h1,hc⟩,hl⟩:=hr;exact⟨⟨qD,v,by rw[h.cell hb hn];exact hv,h1,bU.mono h _ v hc (fun n hn=>hk n (by simp[A.mem.lW,hn]))⟩,jR.mono h k b (off+k) es hb hn hl (fun n hn=>hk n (by simp[A.mem.lW,hn]))⟩
end
inductive Obj where
 |box (cs:List A)
 |row (k:Nat) (es:List A)
instance:Inhabited Obj:=⟨.row 0 []⟩
structure St where
 s:List (Nat×A)
 H:List Obj
def toA1:Value->A
 | .int k n=> .int k n
 | .bool b=> .bool b
 | .string s=> .str s.data.toList
 | .slice none 0 0=> .d_
 | .pointer none=> .Ab
 | .func (.func f) ⟨[]⟩ ⟨[]⟩=> .fn f []
 | .tuple ⟨[]⟩=> .fq []
 |_=> .any
def toA:Value->A
 | .agg ⟨cs⟩=>if cs.all (·.oneCell')then .agg (cs.map toA1)else .any
 |v=>toA1 v
def look:List (Nat×A)->Nat->A
 | [],_=> .any
 |(d,v)::r,t=>if d=t then v else look r t
def fE:List A->Nat->A->List A
 | [],_,_=>[]
 |_::xs,0,v=>v::xs
 |x::xs,n+1,v=>x::fE xs n v
def ff:List Obj->Nat->Option Obj
 | [],_=>none
 |x::_,0=>some x
 |_::xs,n+1=>ff xs n
def qe:List Obj->Nat->Obj->List Obj
 | [],_,_=>[]
 |_::xs,0,v=>v::xs
 |x::xs,n+1,v=>x::qe xs n v
def St.ev(σ:St):Operand->A
 | .tmp t=>look σ.s t
 | .const v=>toA v
 | .func f=> .fn f []
 | .global _=> .any
def St.put(σ:St)(d:Option Tmp)(v:A):St:=
 match d with
 |some d=>{σ with s:=(d,v)::σ.s}
 |none=>σ
def St.gD(σ:St)(n:Nat)(o:Obj):St:={σ with H:=qe σ.H n o}
def dS(P:Program)(t:TypeId):Option Bool:=
 match P.underlying t with
 |some (.struct _)=>some true
 |some (.array _ _)=>some true
 |some _=>some false
 |none=>none
def cW(P:Program)(t:TypeId):Option Nat:=(P.info? t).map (·.size)
def kB(P:Program)(t:TypeId):Nat:=P.bytesOf t
def cP(P:Program)(t:TypeId):Option TypeId:=
 match P.underlying t with
 |some (.slice e)=>some e
 |_=>none
def jQ(P:Program)(t:TypeId):Option (Nat×TypeId):=
 match P.underlying t with
 |some (.array n e)=>some (n,e)
 |_=>none
def fieldInfo(P:Program)(s:TypeId)(f:Nat):Option (Nat×TypeId):=
 match P.underlying s with
 |some (.struct fs)=>(fs[f]?).bind fun x=>if cW P x.type=some 0 then none else if(cW P x.type).isNone then none else some (x.offset,x.type)
 |_=>none
def iR(P:Program)(t:TypeId):Option A:=(P.info? t).bind fun i=>i.zero.map toA
def lA(P:Program)(t:TypeId):Bool:=
 match P.underlying t with
 |some .string=>true
 |_=>false
def lY(P:Program)(t:TypeId):Bool:=
 match P.underlying t with
 |some .bool=>true
 |_=>false
def ow(P:Program)(t:TypeId):Bool:=
 match P.underlying t with
 |some (.pointer _)=>true
 |_=>false
def u9(P:Program)(t:TypeId):Option IntKind:=
 match P.underlying t with
 |some (.int k)=>some k
 |_=>none
def pc(P:Program)(t:TypeId)(cs:List A):Option A:=
 match dS P t with
 |some true=>
  match cW P t with
  |some n=>if n<=cs.length then some (.agg (cs.take n))else none
  |none=>none
 |some false=>cs.head?
 |none=>none
def A.val:A->Bool
 | .any=>false
 | .fq _=>false
 |_=>true
def A.flat:A->Bool
 | .int _ _=>true
 | .bool _=>true
 | .str _=>true
 | .d_=>true
 | .Ab=>true
 | .agg cs=>RY cs
 | .fq cs=>RY cs
 |_=>false
where RY:List A->Bool
 | []=>true
 |c::cs=>c.flat&&RY cs
def nk(c:UInt8):A:= .int .u8 c.toNat
def iH(s:List UInt8):List A:=s.map nk
def Ac:A->Option UInt8
 | .int .u8 n=>some (UInt8.ofNat n.toNat)
 |_=>none
def lB:List A->Option (List UInt8)
 | []=>some []
 |x::xs=>(Ac x).bind fun b=>(lB xs).map (b:: ·)
def eqA:A->A->Option Bool
 | .int k a,.int k' b=>if k=k' then some (a==b)else none
 | .bool a,.bool b=>some (a==b)
 | .str a,.str b=>some (a==b)
 |_,_=>none
def BP:List A->List A->Option Bool
 | [],[]=>some true
 |x::xs,y::ys=>(eqA x y).bind fun a=>(BP xs ys).map (a&& ·)
 |_,_=>none
inductive CK where
 |int (k:IntKind)
 |bool
 |str
 deriving DecidableEq
def CK.has:CK->A->Bool
 | .int k,.int k' _=>k==k'
 | .bool,.bool _=>true
 | .str,.str _=>true
 |_,_=>false
def eW:List CK->List A->Bool
 | [],[]=>true
 |c::cs,x::xs=>c.has x&&eW cs xs
 |_,_=>false
def A.RZ:A->Bool
 | .ref _ _=>true
 | .mu _ _ _=>true
 | .iU _=>true
 |_=>false
def yM(op:BinOp)(k:IntKind)(a b:Int):Option A:=
 match op with
 | .add=>some (.int k (k.wrap (a+b)))
 | .sub=>some (.int k (k.wrap (a-b)))
 | .mul=>some (.int k (k.wrap (a*b)))
 | .quo=>if b=0 then none else some (.int k (k.wrap (a.tdiv b)))
 | .rem=>if b=0 then none else some (.int k (a.tmod b))
 | .and=>some (.int k (k.wrap ((BitVec.ofInt k.bits a&&&BitVec.ofInt k.bits b).toNat)))
 | .or=>some (.int k (k.wrap ((BitVec.ofInt k.bits a|||BitVec.ofInt k.bits b).toNat)))
 | .xor=>some (.int k (k.wrap ((BitVec.ofInt k.bits a^^^BitVec.ofInt k.bits b).toNat)))
 | .andNot=>some (.int k (k.wrap ((BitVec.ofInt k.bits a&&&~~~ BitVec.ofInt k.bits b).toNat)))
 | .eql=>some (.bool (a==b))
 | .neq=>some (.bool (a !=b))
 | .lss=>some (.bool (decide (a<b)))
 | .leq=>some (.bool (decide (a<=b)))
 | .gtr=>some (.bool (decide (b<a)))
 | .geq=>some (.bool (decide (b<=a)))
 |_=>none
def binS(op:BinOp)(a b:List UInt8):Option A:=
 match op with
 | .add=>if a.length+b.length<=9223372036854775807 then some (.str (a++b))else none
 | .eql=>some (.bool (a==b))
 | .neq=>some (.bool (a !=b))
 | .lss=>some (.bool (Op.bytesLess a b))
 | .leq=>some (.bool (Op.bytesLess a b||a==b))
 | .gtr=>some (.bool !(Op.bytesLess a b||a==b))
 | .geq=>some (.bool !(Op.bytesLess a b))
 |_=>none
def Y3(sl:Bool)(op:BinOp)(c:Bool):Option A:=
 if sl=true then
  match op with
  | .eql=>some (.bool c)
  | .neq=>some (.bool !c)
  |_=>none
 else none
def lZ(ks:Option (List CK))(bl ptr sl:Bool)(op:BinOp):A->A->Option A
 | .int k a,.int k' b=>
  match op with
  | .shl=>if b<0 then none else some (.int k (k.wrap (a*2^(min b.toNat k.bits))))
  | .shr=>if b<0 then none else some (.int k (a.fdiv (2^(min b.toNat k.bits))))
  |_=>if k=k' then yM op k a b else none
 | .bool a,.bool b=>
  if bl=true then
   match op with
   | .eql=>some (.bool (a==b))
   | .neq=>some (.bool (a !=b))
   |_=>none
  else none
 | .str a,.str b=>binS op a b
 | .agg xs,.agg ys=>
  match ks with
  |some l=>
   if eW l xs=true/\eW l ys=true then
    match op with
    | .eql=>(BP xs ys).map .bool
    | .neq=>(BP xs ys).map fun b=> .bool !b
    |_=>none
   else none
  |none=>none
 | .Ab,y=>
  if ptr then
   match op with
   | .eql=>match y with| .Ab=>some (.bool true)|_=>if y.RZ then some (.bool false)else none
   | .neq=>match y with| .Ab=>some (.bool false)|_=>if y.RZ then some (.bool true)else none
   |_=>none
  else none
 |x,.Ab=>
  if ptr&&x.RZ then
   match op with
   | .eql=>some (.bool false)
   | .neq=>some (.bool true)
   |_=>none
  else none
 | .emp c,.d_=>Y3 sl op c
 | .ay (_::_),.d_=>Y3 sl op false
 |_,_=>none
def unA(op:UnOp):A->Option A
 | .bool b=>match op with| .not=>some (.bool !b)|_=>none
 | .int k n=>match op with| .neg=>some (.int k (k.wrap (0-n)))|_=>none
 |_=>none
def ckGo(rec:TypeId->Option (List CK))(size:TypeId->Option Nat):List Field->Nat->Option (List CK)
 | [],_=>some []
 |f::fs,off=>
  if f.name= "_" \/f.offset≠off then none else
  match rec f.type,size f.type with
  |some ks,some n=>if ks.length=n then(ckGo rec size fs (off+n)).map (ks++ ·)else none
  |_,_=>none
def ckOf(P:Program):Nat->TypeId->Option (List CK)
 |0,_=>none
 |d+1,t=>
  match P.underlying t with
  |some .bool=>some [.bool]
  |some (.int k)=>some [.int k]
  |some .string=>some [.str]
  |some (.struct fs)=>if P.stoodInHeld t=true then none else ckGo (ckOf P d) (cW P) fs.toList 0
  |_=>none
def vl(P:Program)(t:TypeId):Option (List CK):=if P.eqGuardType P.depth t=true\/dS P t≠some true then none else ckOf P 10 t
def nQ:A->A
 | .d_=> .ay []
 | .emp _=> .ay []
 | .clip es=> .ay es
 |x=>x
def A.norm:A->A
 | .agg cs=> .agg (cs.map nQ)
 |x=>nQ x
def mb(H:List Obj)(n off k len:Nat):Option A:=
 match ff H n with
 |some (.row k' es)=>if k'=k/\off+len<=es.length/\k≠0 then some (.ay ((es.drop off).take len))else none
 |_=>none
def pd(H:List Obj):A->Option A
 | .row n off k len _=>mb H n off k len
 | .ref _ _=>none
 | .mu _ _ _=>none
 | .agg _=>none
 | .fq _=>none
 | .fn _ _=>none
 | .d_=>some (.ay [])
 | .emp _=>some (.ay [])
 | .clip es=>some (.ay es)
 |x=>some x
def jS(H:List Obj):List A->Option (List A)
 | []=>some []
 |x::xs=>(pd H x).bind fun y=>(jS H xs).map (y:: ·)
def ry(H:List Obj):A->Option A
 | .ref n off=>
  match ff H n with
  |some (.box cs)=>(jS H (cs.drop off)).map .iU
  |_=>none
 | .mu n i off=>
  match ff H n with
  |some (.row _ es)=>(es[i]?).map fun e=> .iU (e.cells.drop off)
  |_=>none
 | .agg cs=>(jS H cs).map .agg
 |x=>pd H x
def nE(H:List Obj):List A->Option (List A)
 | []=>some []
 |x::xs=>(ry H x).bind fun y=>(nE H xs).map (y:: ·)
def view(H:List Obj):A->Option A
 | .fn f cs=>(nE H cs).map (.fn f ·)
 |x=>ry H x
def mX(H:List Obj):List A->Option (List A)
 | []=>some []
 |x::xs=>(view H x).bind fun y=>(mX H xs).map (y:: ·)
def iu(i:Int)(es:List A):Option A:=if 0<=i then es[i.toNat]? else none
inductive Bd where
 |none
 |some (n:Int)
 |bad
def bdOf:A->Bd
 | .int _ n=> .some n
 |_=> .bad
def St.bd(σ:St):Option Operand->Bd
 |Option.none=> .none
 |Option.some x=>bdOf (σ.ev x)
def Bd.get(d:Int):Bd->Int
 | .some n=>n
 |_=>d
def Bd.ok:Bd->Bool
 | .bad=>false
 |_=>true
def Bd.ok3:Bd->Bool
 | .some _=>true
 |_=>false
def qo(k:Nat)(es:List A):Bool:=es.isEmpty||eV es==k
def Ou(s:List UInt8)(lo hi mx:Bd):Option A:=
 match mx with
 | .none=>if 0<=lo.get 0/\lo.get 0<=hi.get s.length/\hi.get s.length<=s.length then some (.str ((s.take (hi.get s.length).toNat).drop (lo.get 0).toNat))else none
 |_=>none
def BQ(k:Nat)(es:List A)(lo hi mx:Bd):Option A:=
 match mx with
 | .none=>if qo k es=true/\0<=lo.get 0/\lo.get 0<=hi.get es.length/\hi.get es.length<=es.length then some (.ay ((es.take (hi.get es.length).toNat).drop (lo.get 0).toNat))else none
 | .some m=>if qo k es=true/\0<=lo.get 0/\lo.get 0<=hi.get es.length/\hi.get es.length<=es.length/\m=hi.get es.length/\hi.ok3=true then some (.clip ((es.take (hi.get es.length).toNat).drop (lo.get 0).toNat))else none
 | .bad=>none
def Ov(n off k len:Nat)(lo hi mx:Bd):Option A:=
 match mx with
 | .none=>if 0<=lo.get 0/\lo.get 0<=hi.get len/\hi.get len<=len then some (.row n (off+(lo.get 0).toNat) k (hi.get len-lo.get 0).toNat false)else none
 | .some m=>if 0<=lo.get 0/\lo.get 0<=hi.get len/\hi.get len<=len/\m=hi.get len/\hi.ok3=true then some (.row n (off+(lo.get 0).toNat) k (hi.get len-lo.get 0).toNat true)else none
 | .bad=>none
def yN(st:Bool)(sz:Option Nat)(x:A)(lo hi mx:Bd):Option A:=
 match x with
 | .str s=>if st=true then Ou s lo hi mx else none
 | .ay es=>match sz with|some k=>BQ k es lo hi mx|none=>none
 | .clip es=>match sz with|some k=>BQ k es lo hi mx|none=>none
 | .row n off k' len _=>match sz with|some k=>if k=k' then Ov n off k len lo hi mx else none|none=>none
 |_=>none
def yO(P:Program)(t:TypeId):Option Nat:=
 match cP P t with
 |some e=>cW P e
 |none=>none
def R3(c a b:A):Option A:=
 match c with
 | .bool t=>some (if t then a else b)
 |_=>none
def Ad(size:Option Nat)(off:Nat)(x:A)(zs:List A):Option (List A):=
 match size with
 |some n=>if x.cells.length=n/\off+n<=zs.length/\x.val=true then some (zs.take off++x.cells++zs.drop (off+n))else none
 |none=>none
def pS(P:Program)(t:TypeId)(σ:St):List (Nat×Operand)->List A->Option (List A)
 | [],zs=>some zs
 |(i,x)::ps,zs=>
  match fieldInfo P t i with
  |some (o,ft)=>(Ad (cW P ft) o (σ.ev x) zs).bind (pS P t σ ps)
  |none=>none
def pT(P:Program)(e:TypeId)(σ:St):List (Nat×Operand)->List A->Option (List A)
 | [],zs=>some zs
 |(i,x)::ps,zs=>
  match cW P e with
  |some n=>(Ad (some n) (i*n) (σ.ev x) zs).bind (pT P e σ ps)
  |none=>none
def nR(k:Nat)(σ:St):List (Nat×Operand)->List A->Option (List A)
 | [],zs=>some zs
 |(i,x)::ps,zs=>if(σ.ev x).cells.length=k/\i<zs.length/\(σ.ev x).val=true/\(σ.ev x).pure=true then nR k σ ps (fE zs i (σ.ev x).norm)else none
def mv(P:Program)(t:TypeId):Bool:=
 match P.underlying t with
 |some (.struct fs)=>fs.toList.all fun f=>(cW P f.type).isSome
 |_=>false
def vA(P:Program)(t:TypeId)(σ:St)(parts:List (Nat×Operand)):Option A:=
 match iR P t with
 |some (.agg zs)=>
  match jQ P t with
  |some (_,e)=>if(cW P e).isSome=true then(pT P e σ parts zs).map .agg else none
  |none=>if mv P t=true then(pS P t σ parts zs).map .agg else none
 |_=>none
def kR(P:Program)(t:TypeId)(len:Nat)(σ:St)(parts:List (Nat×Operand)):Option A:=
 match cP P t with
 |some e=>
  match cW P e,iR P e with
  |some k,some z=>if len*k<=16777216/\k≠0/\z.pure=true/\z.val=true/\z.cells.length=k then(nR k σ parts (List.replicate len z.norm)).map .clip else none
  |_,_=>none
 |none=>none
def yo(P:Program)(t:TypeId)(H:List Obj)(a:A):Option A:=
 match a with
 | .iU cs=>pc P t cs
 | .ref n off=>match ff H n with|some (.box cs)=>pc P t (cs.drop off)|_=>none
 | .mu n i off=>match ff H n with|some (.row _ es)=>(es[i]?).bind fun e=>pc P t (e.cells.drop off)|_=>none
 |_=>none
def BR(x:A):Option A:=
 match x with
 | .iU cs=>some (.iU cs)
 | .ref n off=>some (.ref n off)
 | .mu n i off=>some (.mu n i off)
 | .fn f cs=>some (.fn f cs)
 |_=>none
def Ae(P:Program)(src dst:TypeId):Bool:=(cP P src).any (fun e=>u9 P e=some .u8)&&lA P dst
def rz(b:Bool)(x:Option A):Option A:=
 if b=true then
  match x with
  |some (.ay es)=>(lB es).map .str
  |_=>none
 else none
def tn(P:Program)(src dst:TypeId)(H:List Obj)(x:A):Option A:=
 match x with
 | .int _ n=>match u9 P dst with|some k=>if(dS P src).isSome=true then some (.int k (k.wrap n))else none|none=>none
 | .str s=>if lA P src&&lA P dst then some (.str s)else none
 | .ay es=>rz (Ae P src dst) (view H (.ay es))
 | .clip es=>rz (Ae P src dst) (view H (.clip es))
 | .d_=>rz (Ae P src dst) (view H .d_)
 | .row n off k len c=>rz (Ae P src dst) (view H (.row n off k len c))
 |_=>none
def pv(o:Nat)(x:A):Option A:=
 match x with
 | .iU cs=>some (.iU (cs.drop o))
 | .ref n off=>some (.ref n (off+o))
 | .mu n i off=>some (.mu n i (off+o))
 |_=>none
def pw(i:Option (Nat×TypeId))(x:A):Option A:=
 match i with
 |some (o,_)=>pv o x
 |none=>none
def VS(P:Program)(i:Option (Nat×TypeId))(x:A):Option A:=
 match i,x with
 |some (o,t),.agg cs=>pc P t (cs.drop o)
 |_,_=>none
def getE(k:Nat)(i:Int)(es:List A):Option A:=(iu i es).bind fun y=>if k=y.cells.length then some (.iU y.cells)else none
def rC(k:Nat)(i:Int)(x:A):Option A:=
 match x with
 | .ay es=>getE k i es
 | .clip es=>getE k i es
 | .row n off k' len _=>if k=k'/\0<=i/\i<len then some (.mu n (off+i.toNat) 0)else none
 |_=>none
def ua(n k:Nat)(i:Int)(x:A):Option A:=
 match x with
 | .ref m off=>if 0<=i/\i<n then some (.ref m (off+i.toNat*k))else none
 | .iU cs=>if 0<=i/\i<n then some (.iU (cs.drop (i.toNat*k)))else none
 |_=>none
def rD(P:Program)(t:TypeId)(x ix:A):Option A:=
 match ix with
 | .int _ i=>
  match cP P t with
  |some e=>match cW P e with|some k=>rC k i x|none=>none
  |none=>
   match jQ P t with
   |some (n,e)=>match cW P e with|some k=>ua n k i x|none=>none
   |none=>none
 |_=>none
def BS(P:Program)(t:TypeId)(x ix:A):Option A:=
 match ix,x with
 | .int _ i,.str s=>if lA P t=true/\0<=i then(s[i.toNat]?).map nk else none
 | .int _ i,.agg cs=>
  match jQ P t with
  |some (n,e)=>match cW P e with|some k=>if 0<=i/\i<n then pc P e (cs.drop (i.toNat*k))else none|none=>none
  |none=>none
 |_,_=>none
def vB(x:A)(ix:Nat):Option A:=
 match x with
 | .fq cs=>cs[ix]?
 |_=>none
def VT(P:Program)(t:TypeId)(x:A):Option A:=
 match x with
 | .str s=>if lA P t=true then some (.int .i64 s.length)else none
 | .ay es=>if(cP P t).isSome=true then some (.int .i64 es.length)else none
 | .clip es=>if(cP P t).isSome=true then some (.int .i64 es.length)else none
 | .row _ _ _ len _=>if(cP P t).isSome=true then some (.int .i64 len)else none
 | .d_=>if(cP P t).isSome=true then some (.int .i64 0)else none
 |_=>match jQ P t with|some (n,_)=>some (.int .i64 n)|none=>none
def minA:List A->Option A
 | [.int k a,.int _ b]=>some (.int k (if b<a then b else a))
 |_=>none
def maxA:List A->Option A
 | [.int k a,.int _ b]=>some (.int k (if b>a then b else a))
 |_=>none
def tp(fn:Fn)(first captured:List A):Option A:=
 match fn,first with
 | .func f,[]=>some (.fn f captured)
 |_,_=>none
def St.se(σ:St):List Operand->List A
 | []=>[]
 |x::xs=>σ.ev x::σ.se xs
def u_(P:Program)(σ:St):Op->Option A
 | .move x=>some (σ.ev x)
 | .assign x=>some (σ.ev x)
 | .pick c a b=>R3 (σ.ev c) (σ.ev a) (σ.ev b)
 | .build t parts=>vA P t σ parts.toList
 | .buildSlice t len parts=>kR P t len σ parts.toList
 | .load t a=>yo P t σ.H (σ.ev a)
 | .nilCheck x=>BR (σ.ev x)
 | .binOp op t x y _=>lZ (vl P t) (lY P t) (ow P t) (cP P t).isSome op (σ.ev x) (σ.ev y)
 | .unOp op _ x=>unA op (σ.ev x)
 | .convert src dst x=>tn P src dst σ.H (σ.ev x)
 | .makeFunc fn first captured=>tp fn (σ.se first.toList) (σ.se captured.toList)
 | .slice t x lo hi mx=>if(jQ P t).isNone=true/\(σ.bd lo).ok=true/\(σ.bd hi).ok=true then yN (lA P t) (yO P t) (σ.ev x) (σ.bd lo) (σ.bd hi) (σ.bd mx)else none
 | .fieldAddr s x f=>pw (fieldInfo P s f) (σ.ev x)
 | .field s x f=>VS P (fieldInfo P s f) (σ.ev x)
 | .indexAddr t x ix=>rD P t (σ.ev x) (σ.ev ix)
 | .index t x ix=>BS P t (σ.ev x) (σ.ev ix)
 | .extract t ix=>vB (σ.ev t) ix
 | .call ⟨.builtin .len,⟨[x]⟩,⟨[t]⟩⟩=>VT P t (σ.ev x)
 | .call ⟨.builtin .min,⟨xs⟩,_⟩=>minA (σ.se xs)
 | .call ⟨.builtin .max,⟨xs⟩,_⟩=>maxA (σ.se xs)
 |_=>none
def Es(P:Program)(σ:St)(e tx:TypeId)(k:Nat)(x:A):Option (List A):=
 match x with
 | .ay es=>if qo k es=true/\(cP P tx).isSome=true then some es else none
 | .clip es=>if qo k es=true/\(cP P tx).isSome=true then some es else none
 | .d_=>if(cP P tx).isSome=true then some []else none
 | .emp _=>if(cP P tx).isSome=true then some []else none
 | .row n off k' len _=>if k'=k/\(cP P tx).isSome=true then(match mb σ.H n off k len with|some (.ay es)=>some es|_=>none)else none
 | .str s=>if u9 P e=some .u8/\k=1/\lA P tx=true then some (iH s)else none
 |_=>none
def jA(n:Nat)(x:A):A:=if x.mem n then .any else x
def ub(n:Nat):Obj->Obj
 | .box cs=> .box (cs.map (jA n))
 |o=>o
def St.lC(σ:St)(n:Nat):St:={s:=σ.s.map (fun p=>(p.1,jA n p.2)),H:=σ.H.map (ub n)}
def uc(fx:Nat->Bool)(σ:St)(name:Nat)(d:Option Tmp)(k bytes:Nat)(base:A)(src:List A):Option St:=
 match base with
 | .d_=>if src.length*bytes<=140737488355328 then some ((σ.gD name (.row k src)).put d (.row name 0 k src.length false))else none
 | .clip es=>if qo k es=true/\(es=[]\/src≠ [])/\(es.length+src.length)*bytes<=140737488355328 then
  some ((σ.gD name (.row k (es++src))).put d (.row name 0 k (es.length+src.length) false))else none
 | .row n 0 k' len c=>
  match ff σ.H n with
  |some (.row Ky es)=>
   if k'=k/\Ky=k/\len<=es.length/\(len+src.length)*bytes<=140737488355328 then
    if c then(if src=[]then none else some ((σ.gD name (.row k (es.take len++src))).put d (.row name 0 k (len+src.length) false)))
    else(if fx n=true then none else some (((σ.lC n).gD n (.row k (es.take len++src))).put d (.row n 0 k (len+src.length) false)))
   else none
  |_=>none
 |_=>none
structure aW where
 f:FuncId->List A->Option A
 hp:FuncId->List A->List Obj->Option (A×List Obj×List Nat)
 sg:FuncId->Bool
 xk:FuncId->Bool
 effT:Bool
 fix:Nat->Bool
 nf:Nat
 fS:Nat->List (List Nat)
def GD(Γ:aW):Operand->Bool
 | .func g=>Γ.sg g
 | .tmp _=>Γ.effT
 |_=>false
def Af(P:Program)(src dst:TypeId):Bool:=lA P src&&(cP P dst).any (fun e=>u9 P e=some .u8)
def eL(P:Program):Op->Bool
 | .alloc _=>true
 | .box _ _=>true
 | .convert src dst _=>Af P src dst
 | .call ⟨.builtin .append,_,_⟩=>true
 |_=>false
def jI(cs:List A)(off:Nat)(ys:List A):List A:=cs.take off++ys++cs.drop (off+ys.length)
def BT(σ:St)(name:Nat)(d:Option Tmp)(x:A):Option St:=
 if x.val=true then some ((σ.gD name (.box x.cells)).put d (.ref name 0))else none
def ud(σ:St)(name:Nat)(d:Option Tmp)(z:Option A):Option St:=
 match z with
 |some z=>BT σ name d z
 |none=>none
def rE(e:A)(off:Nat)(v:A):A:=
 match e with
 | .agg cs=> .agg (jI cs off v.norm.cells)
 |_=>v.norm
def ue(σ:St)(d:Option Tmp)(size:Option Nat)(a v:A):Option St:=
 match a with
 | .ref n off=>
  match ff σ.H n with
  |some (.box cs)=>if size=some v.cells.length/\off+v.cells.length<=cs.length/\v.val=true then some ((σ.gD n (.box (jI cs off v.cells))).put d (.fq []))else none
  |_=>none
 | .mu n i off=>
  match ff σ.H n with
  |some (.row k es)=>(es[i]?).bind fun e=>if size=some v.cells.length/\off+v.cells.length<=e.cells.length/\v.cells.length≠0/\v.val=true/\v.pure=true then some ((σ.gD n (.row k (fE es i (rE e off v)))).put d (.fq []))else none
  |_=>none
 |_=>none
def DC(P:Program)(σ:St)(name:Nat)(d:Option Tmp)(src dst:TypeId)(x:A):Option St:=
 if Af P src dst=true then
  match x with
  | .str s=>some ((σ.gD name (.row 1 (iH s))).put d (.row name 0 1 s.length false))
  |_=>none
 else(tn P src dst σ.H x).map (σ.put d ·)
def oz(P:Program)(e:TypeId)(k:Nat):Bool:=
 match iR P e with
 |some z=>z.val&&z.cells.length==k
 |none=>false
def xm(P:Program)(fx:Nat->Bool)(σ:St)(name:Nat)(d:Option Tmp)(t tx:TypeId)(b x:A):Option St:=
 match cP P t with
 |some e=>
  match cW P e with
  |some k=>if k=0\/kB P e=0\/oz P e k=false then none else(Es P σ e tx k x).bind fun src=>uc fx σ name d k (kB P e) b src
  |none=>none
 |none=>none
def R4(Γ:aW)(σ:St)(d:Option Tmp)(g:FuncId)(aq:List A):Option St:=
 (mX σ.H aq).bind fun bs=>(Γ.f g bs).bind fun r=>if(A.pure.cX aq||r.flat)=true then some (σ.put d r)else none
def GF(Γ:aW)(σ:St)(d:Option Tmp)(f:A)(aq:List A):Option St:=
 match f with
 | .fn g o7=>R4 Γ σ d g (aq++o7)
 |_=>none
def BU(P:Program)(σ:St)(d:Option Tmp)(t:TypeId)(x:A):Option St:=
 match x with
 | .row n off k len _=>
  match cP P t with
  |some e=>
   match ff σ.H n with
   |some (.row k' es)=>
    match iR P e with
    |some z=>if k'=k/\z.cells.length=k/\k≠0/\z.val=true/\z.pure=true/\off+len<=es.length then some ((σ.gD n (.row k (es.take off++List.replicate len z.norm++es.drop (off+len)))).put d (.fq []))else none
    |none=>none
   |_=>none
  |none=>none
 |_=>none
def A.names:A->List Nat
 | .ref n _=>[n]
 | .mu n _ _=>[n]
 | .row n _ _ _ _=>[n]
 | .agg cs=>l4 cs
 | .fn _ cs=>l4 cs
 | .fq cs=>l4 cs
 |_=>[]
where l4:List A->List Nat
 | []=>[]
 |c::cs=>c.names++l4 cs
def Obj.names:Obj->List Nat
 | .box cs=>A.names.l4 cs
 | .row _ _=>[]
def yP:Option Obj->List Nat
 |some o=>o.names
 |none=>[]
def reach(H:List Obj):Nat->List Nat->List Nat->List Nat
 |0,_,acc=>acc
 |_+1,[],acc=>acc
 |fuel+1,n::todo,acc=>if acc.contains n=true then reach H fuel todo acc else reach H fuel (yP (ff H n)++todo) (acc++[n])
def idx(ρ:List Nat)(n:Nat):Option Nat:=
 match ρ with
 | []=>none
 |m::ms=>if m=n then some 0 else(idx ms n).map (· +1)
def A.oA(ρ:List Nat):A->Option A
 | .ref n o=>(idx ρ n).map (.ref · o)
 | .mu n i o=>(idx ρ n).map (.mu · i o)
 | .row n o k l c=>(idx ρ n).map (.row · o k l c)
 | .agg cs=>(vm ρ cs).map .agg
 | .fn f cs=>(vm ρ cs).map (.fn f ·)
 | .fq cs=>(vm ρ cs).map .fq
 |x=>some x
where vm (ρ:List Nat):List A->Option (List A)
 | []=>some []
 |c::cs=>(c.oA ρ).bind fun x=>(vm ρ cs).map (x:: ·)
def Obj.oA(ρ:List Nat):Obj->Option Obj
 | .box cs=>(A.oA.vm ρ cs).map .box
 | .row k es=>some (.row k es)
def renO(ρ:List Nat):Option Obj->Option Obj
 |some o=>o.oA ρ
 |none=>none
def uf(ρ:List Nat)(H:List Obj):List Nat->Option (List Obj)
 | []=>some []
 |n::ns=>(renO ρ (ff H n)).bind fun o=>(uf ρ H ns).map (o:: ·)
def mw:List Nat->Nat->Nat->Nat
 | [],base,i=>base+i
 |n::_,_,0=>n
 |_::ns,base,i+1=>mw ns base i
def A.back(ρ:List Nat)(m:Nat):A->A
 | .ref n o=> .ref (mw ρ m n) o
 | .mu n i o=> .mu (mw ρ m n) i o
 | .row n o k l c=> .row (mw ρ m n) o k l c
 | .agg cs=> .agg (sw ρ m cs)
 | .fn f cs=> .fn f (sw ρ m cs)
 | .fq cs=> .fq (sw ρ m cs)
 |x=>x
where sw (ρ:List Nat) (m:Nat):List A->List A
 | []=>[]
 |c::cs=>c.back ρ m::sw ρ m cs
def Obj.back(ρ:List Nat)(m:Nat):Obj->Obj
 | .box cs=> .box (A.back.sw ρ m cs)
 | .row k es=> .row k es
def ij(ρ:List Nat)(m:Nat)(σ:St):List Nat->St
 | []=>σ
 |i::is=>ij ρ m (σ.lC (mw ρ m i)) is
def sx(ρ:List Nat)(m:Nat):List Nat->List Obj->List Obj->List Obj
 | [],os,H=>H++os.map (Obj.back ρ m)
 |n::ns,o::os,H=>sx ρ m ns os (qe H n (o.back ρ m))
 |_::_,[],H=>H
def GG(σ:St)(d:Option Tmp)(ρ:List Nat):A×List Obj×List Nat->St
 |(r,H',S)=>St.put ⟨(ij ρ σ.H.length σ S).s,sx ρ σ.H.length ρ H' (ij ρ σ.H.length σ S).H⟩ d (r.back ρ σ.H.length)
def ug(Γ:aW)(ρ:List Nat)(m:Nat):List Nat->Bool
 | []=>true
 |i::is=> !Γ.fix (mw ρ m i)&&ug Γ ρ m is
def A.meets(ρ:List Nat)(x:A):Bool:=ρ.any fun n=>x.mem n
def sh(ρ:List Nat)(fc:List Obj)(x:A):A:=
 if x.meets ρ=true then(match x.oA ρ with|some x'=>(view fc x').getD .any|none=> .any)else x
def Ow(ρ:List Nat)(fc:List Obj):Obj->Obj
 | .box cs=> .box (cs.map (sh ρ fc))
 | .row k es=> .row k es
def tq(ρ:List Nat):List Nat->List Obj->List Obj
 | [],H=>H
 |n::ns,H=>tq ρ ns (qe H n (.row 0 []))
def Ox(σ:St)(d:Option Tmp)(ρ:List Nat)(fc:List Obj)(r:A):St:=
 St.put ⟨σ.s.map (fun p=>(p.1,sh ρ fc p.2)),tq ρ ρ (σ.H.map (Ow ρ fc))⟩ d r
def yQ(Γ:aW)(σ:St)(d:Option Tmp)(g:FuncId)(aq:List A)(ρ:List Nat):Option St:=
 (A.oA.vm ρ aq).bind fun as'=>(uf ρ σ.H ρ).bind fun fc=>
  if Γ.xk g=true then(if ρ.all (fun n=> !Γ.fix n)=true then(mX fc as').bind fun bs=>(Γ.f g bs).map (Ox σ d ρ fc)else none)
  else(Γ.hp g as' fc).bind fun x=>if ug Γ ρ σ.H.length x.2.2=true then some (GG σ d ρ x)else none
def R5(Γ:aW)(σ:St)(d:Option Tmp)(g:FuncId)(aq:List A):Option St:=yQ Γ σ d g aq (reach σ.H 64 (A.names.l4 aq) [])
def vC(Γ:aW)(σ:St)(d:Option Tmp)(f:A)(aq:List A):Option St:=
 match f with
 | .fn g o7=>R5 Γ σ d g (aq++o7)
 |_=>none
def execOp(P:Program)(Γ:aW)(name:Nat)(d:Option Tmp)(op:Op)(σ:St):Option St:=
 match op with
 | .alloc t=>ud σ name d (iR P t)
 | .box _ x=>BT σ name d (σ.ev x)
 | .store t a x=>ue σ d (cW P t) (σ.ev a) (σ.ev x)
 | .convert src dst x=>DC P σ name d src dst (σ.ev x)
 | .call ⟨.builtin .append,⟨[b,x]⟩,⟨[t,tx]⟩⟩=>xm P Γ.fix σ name d t tx (σ.ev b) (σ.ev x)
 | .call ⟨.builtin .clear,⟨[x]⟩,⟨[t]⟩⟩=>BU P σ d t (σ.ev x)
 | .call ⟨.value f,⟨xs⟩,_⟩=>if GD Γ f=true then vC Γ σ d (σ.ev f) (σ.se xs)else GF Γ σ d (σ.ev f) (σ.se xs)
 |op=>(u_ P σ op).map (σ.put d ·)
def GH:List (Option Tmp)->Nat->Option Tmp
 | [],_=>none
 |x::_,0=>x
 |_::xs,n+1=>GH xs n
def oB(ds:List (Option Tmp))(σ:St)(g:Option (Nat×Bool)):Option Bool:=
 match g with
 |none=>some true
 |some (j,want)=>
  match GH ds j with
  |none=>some false
  |some t=>
   match look σ.s t with
   | .bool b=>some (b==want)
   | .any=>none
   |_=>some false
def ew(P:Program)(Γ:aW)(ds:List (Option Tmp))(name:Nat)(o:Oper)(σ:St):Option St:=
 match oB ds σ o.guard with
 |none=>none
 |some b=>if b then execOp P Γ name o.dst o.op σ else some (σ.put o.dst (.fq []))
def grow(P:Program)(op:Op)(σ:St):St:=if eL P op=true then{σ with H:=σ.H++[.row 0 []]}else σ
def gI(P:Program)(op:Op)(n:Nat):Nat:=if eL P op=true then n+1 else n
def pre(P:Program):List Oper->St->St
 | [],σ=>σ
 |o::os,σ=>pre P os (grow P o.op σ)
def oC(P:Program)(Γ:aW)(ds:List (Option Tmp)):List Oper->Nat->St->Option St
 | [],_,σ=>some σ
 |o::os,n,σ=>(ew P Γ ds n o σ).bind (oC P Γ ds os (gI P o.op n))
def dstsOf:List Oper->List (Option Tmp)
 | []=>[]
 |o::os=>o.dst::dstsOf os
inductive Ex where
 |normal
 |exit (id:Nat)
 |ret
def A.under(m:Nat):A->Bool
 | .ref n _=>n<m
 | .mu n _ _=>n<m
 | .row n _ _ _ _=>n<m
 | .agg cs=>my m cs
 | .fn _ cs=>my m cs
 | .fq cs=>my m cs
 |_=>true
where my (m:Nat):List A->Bool
 | []=>true
 |c::cs=>c.under m&&my m cs
def leS(m:Nat)(s:List (Nat×A)):List (Nat×A)->Prop
 | []=>True
 |(d,y)::r=>(look s d=y/\y.under m=true)/\leS m s r
def RI(m:Nat):List A->List A->Prop
 | [],[]=>True
 |x::xs,y::ys=>(y= .any\/(x=y/\y.under m=true))/\RI m xs ys
 |_,_=>False
def Y4(m:Nat):Obj->Obj->Prop
 | .box xs,.box ys=>RI m xs ys
 | .row k xs,.row k' ys=>k=k'/\xs=ys
 |_,_=>False
def yp(m:Nat):List Obj->List Obj->Prop
 | [],[]=>True
 |_::_,[]=>True
 |x::xs,y::ys=>Y4 m x y/\yp m xs ys
 | [],_::_=>False
def St.le(σ τ:St):Prop:=leS τ.H.length σ.s τ.s/\yp τ.H.length σ.H τ.H
def M6(ρ:List Nat)(fc:List Obj)(σ:St):St:=⟨σ.s.map (fun p=>(p.1,sh ρ fc p.2)),tq ρ ρ (σ.H.map (Ow ρ fc))⟩
def GI(ρ:List Nat)(σ:St):St:=⟨σ.s.map (fun p=>(p.1,p.2.back ρ σ.H.length)),sx ρ σ.H.length ρ σ.H σ.H⟩
inductive St.to(nf:Nat):St->St->Prop where
 |le {σ τ:St}:nf<=τ.H.length->σ.le τ->St.to nf σ τ
 |nil {σ τ:St} (d k:Nat):look σ.s d= .d_->St.to nf ⟨(d,.row σ.H.length 0 k 0 false)::σ.s,σ.H++[.row k []]⟩ τ->St.to nf σ τ
 |nilb {σ τ:St} (m i k:Nat) (cs:List A):ff σ.H m=some (.box cs)->cs[i]? =some .d_->
  St.to nf ⟨σ.s,qe σ.H m (.box (fE cs i (.row σ.H.length 0 k 0 false)))++[.row k []]⟩ τ->St.to nf σ τ
 |wk {σ τ:St} (d:Nat) (es:List A):look σ.s d= .clip es->St.to nf ⟨(d,.ay es)::σ.s,σ.H⟩ τ->St.to nf σ τ
 |wkb {σ τ:St} (m:Nat) (cs:List A):ff σ.H m=some (.box cs)->St.to nf ⟨σ.s,qe σ.H m (.box (cs.map nQ))⟩ τ->St.to nf σ τ
 |perm {σ τ:St} (ρ:List Nat):σ.H.length=ρ.length->ρ.Nodup->(∀n∈ρ,n<ρ.length)->(∀n,n<ρ.length->n∈ρ)->(∀i,i<nf->mw ρ ρ.length i=i)->St.to nf (GI ρ σ) τ->St.to nf σ τ
 |xk {σ τ:St} (ρ:List Nat) (fc:List Obj):ρ.Nodup->uf ρ σ.H ρ=some fc->(∀n∈ρ,nf<=n)->St.to nf (M6 ρ fc σ) τ->St.to nf σ τ
def K? {α:Type}(o:Option α)(q:α->Prop):Prop:= ∃x,o=some x/\q x
def qf(P:Program):Nat->List Oper->List (Nat×Oper)
 |_,[]=>[]
 |n,o::os=>(n,o)::qf P (gI P o.op n) os
def kg:List (Nat×Oper)->Nat->Option (Nat×Oper)
 | [],_=>none
 |x::_,0=>some x
 |_::xs,i+1=>kg xs i
def vn(P:Program)(Γ:aW)(ds:List (Option Tmp))(B:List (Nat×Oper)):List Nat->St->Option St
 | [],σ=>some σ
 |i::is,σ=>(kg B i).bind fun x=>(ew P Γ ds x.1 x.2 σ).bind (vn P Γ ds B is)
def yq(P:Program)(Γ:aW)(ds:List (Option Tmp))(B:List (Nat×Oper))(σ:St)(q:St->Prop):List (List Nat)->Prop
 | []=>True
 |o::os=>K? (vn P Γ ds B o σ) q/\yq P Γ ds B σ q os
def VU(P:Program)(Γ:aW)(os:List (List Nat))(ops:Array Oper)(Q:Ex->St->Prop)(σ:St):Prop:=
 match os with
 | []=>K? (oC P Γ (dstsOf ops.toList) ops.toList σ.H.length (pre P ops.toList σ)) (Q .normal)
 |o::os=>yq P Γ (dstsOf ops.toList) (qf P σ.H.length ops.toList) (pre P ops.toList σ) (Q .normal) (o::os)
def R6:List (List Nat)->Option (List Nat)
 |(t::ρ)::_=>if t=999999 then some ρ else none
 |_=>none
def GJ:List (List Nat)->List (List Nat)
 |(t::ρ)::os=>if t=999999 then os else(t::ρ)::os
 |os=>os
def vD(m:Nat)(ρ:List Nat):List Nat:=ρ.filter fun n=>decide (n<m)
def Kz(P:Program)(Γ:aW)(os:List (List Nat))(ops:Array Oper)(Q:Ex->St->Prop)(σ:St):Prop:=
 match R6 os with
 |none=>VU P Γ (GJ os) ops Q σ
 |some ρ=>K? (uf (vD σ.H.length ρ) σ.H (vD σ.H.length ρ)) fun fc=>VU P Γ (GJ os) ops Q (M6 (vD σ.H.length ρ) fc σ)
def VV(W:(Ex->St->Prop)->St->Prop)(Q:Ex->St->Prop)(e:Ex)(τ:St):Prop:=
 match e with
 | .normal=>W Q τ
 | .exit i=>Q (.exit i) τ
 | .ret=>Q .ret τ
def uh(id:Nat)(Q:Ex->St->Prop)(e:Ex)(τ:St):Prop:=
 match e with
 | .normal=>Q .normal τ
 | .exit i=>if i=id then Q .normal τ else Q (.exit i) τ
 | .ret=>Q .ret τ
def Ag(N:St->Prop)(Q:Ex->St->Prop)(e:Ex)(τ:St):Prop:=
 match e with
 | .normal=>N τ
 | .exit i=>Q (.exit i) τ
 | .ret=>Q .ret τ
def qp(c:A)(p q:Prop):Prop:= ∃t,c= .bool t/\(t=true->p)/\(t=false->q)
def lS(P:Program)(Γ:aW):Code->(Ex->St->Prop)->St->Prop
 | .skip,Q,σ=>Q .normal σ
 | .label _,Q,σ=>Q .normal σ
 | .seq a b,Q,σ=>lS P Γ a (VV (lS P Γ b) Q) σ
 | .cond c a b,Q,σ=>qp (σ.ev c) (lS P Γ a Q σ) (lS P Γ b Q σ)
 | .block id c,Q,σ=>lS P Γ c (uh id Q) σ
 | .loop c,Q,σ=> ∃(ι:Type) (inv:ι->St) (μ:ι->Nat),(∃i,St.to Γ.nf σ (inv i))/\
  ∀i,lS P Γ c (Ag (fun τ=> ∃j,St.to Γ.nf τ (inv j)/\μ j<μ i) Q) (inv i)
 | .exit id,Q,σ=>Q (.exit id) σ
 | .ret,Q,σ=>Q .ret σ
 | .region id ops _,Q,σ=>Kz P Γ (Γ.fS id) ops Q σ
 |_,_,_=>False
def resC(P:Program)(σ:St)(t:TypeId)(a:A):Option A:=
 match a with
 | .ref n off=>match ff σ.H n with|some (.box cs)=>(pc P t (cs.drop off)).bind (view σ.H)|_=>none
 |_=>none
def R7(P:Program)(σ:St):ResultVar->Option A
 | .tmp t=>view σ.H (look σ.s t)
 | .cell a t=>resC P σ t (look σ.s a)
def BV(P:Program)(σ:St):List ResultVar->Option (List A)
 | []=>some []
 |r::rs=>(R7 P σ r).bind fun x=>(BV P σ rs).map (x:: ·)
def oD:List A->A
 | [x]=>x
 |xs=> .fq xs
def bodyA(P:Program)(fn:Func)(vo:A->Prop)(e:Ex)(σ:St):Prop:=
 match e with
 | .exit _=>False
 |_=>K? (BV P σ fn.results.toList) (fun rs=>vo (oD rs))
def rawC(P:Program)(σ:St)(t:TypeId)(a:A):Option A:=
 match a with
 | .ref n off=>match ff σ.H n with|some (.box cs)=>pc P t (cs.drop off)|_=>none
 |_=>none
def rawA(P:Program)(σ:St):ResultVar->Option A
 | .tmp t=>some (look σ.s t)
 | .cell a t=>rawC P σ t (look σ.s a)
def Et(P:Program)(σ:St):List ResultVar->Option (List A)
 | []=>some []
 |r::rs=>(rawA P σ r).bind fun x=>(Et P σ rs).map (x:: ·)
def bodyH(P:Program)(fn:Func)(r:A)(H':List Obj)(e:Ex)(σ:St):Prop:=
 match e with
 | .exit _=>False
 |_=>K? (Et P σ fn.results.toList) (fun rs=>oD rs=r/\r.under H'.length=true/\yp H'.length σ.H H')
def number:Nat->List A->List (Nat×A)
 |_,[]=>[]
 |n,x::xs=>(n,x)::number (n+1) xs
def GK(args:List A):St:={s:=number 0 args,H:=[]}
def Oy(args:List A)(H:List Obj):St:={s:=number 0 args,H:=H}
end Go.dF
namespace Go.dF
theorem GL{P:Program}{Γ:aW}: ∀{c:Code} {Q Q':Ex->St->Prop} {σ:St},(∀e τ,Q e τ->Q' e τ)->lS P Γ c Q σ->lS P Γ c Q' σ:=by
 intro c;induction c with
 |skip=>intro Q Q' σ h hw;simp only[lS]at hw⊢;exact h _ _ hw
 |label l=>intro Q Q' σ h hw;simp only[lS]at hw⊢;exact h _ _ hw
 |exit id=>intro Q Q' σ h hw;simp only[lS]at hw⊢;exact h _ _ hw
 |ret=>intro Q Q' σ h hw;simp only[lS]at hw⊢;exact h _ _ hw
 |seq x y ihx ihy=>
  intro Q Q' σ h hw;simp only[lS]at hw⊢;refine ihx (fun e τ hq=> ?_) hw;cases e with
  |normal=>exact ihy h hq
  |exit i=>exact h _ _ hq
  |ret=>exact h _ _ hq
 |cond c x y ihx ihy=>
  intro Q Q' σ h hw;simp only[lS,qp]at hw⊢;obtain⟨t,ht,h1,h2⟩:=hw;exact⟨t,ht,fun e=>ihx h (h1 e),fun e=>ihy h (h2 e)⟩
 |block id x ih=>
  intro Q Q' σ h hw;simp only[lS]at hw⊢;refine ih (fun e τ hq=> ?_) hw;cases e with
  |normal=>exact h _ _ hq
  |exit i=>
   simp only[uh]at hq⊢;split at hq
   · rename_i e;rw[if_pos e];exact h _ _ hq
   · rename_i e;rw[if_neg e];exact h _ _ hq
  |ret=>exact h _ _ hq
 |loop x ih=>
  intro Q Q' σ h hw;simp only[lS]at hw⊢;obtain⟨ι,inv,μ,h0,hs⟩:=hw;refine⟨ι,inv,μ,h0,fun i=>ih (fun e τ hq=> ?_) (hs i)⟩
  cases e with
  |normal=>exact hq
  |exit i=>exact h _ _ hq
  |ret=>exact h _ _ hq
 |region id ops d=>
  intro Q Q' σ h hw;simp only[lS]at hw⊢
  have key: ∀(os:List (List Nat)) (σ:St),VU P Γ os ops Q σ->VU P Γ os ops Q' σ:=fun os σ=>by
   cases os with
   |nil=>
    rintro⟨τ,hr,hq⟩
    exact⟨τ,hr,h _ _ hq⟩
   |cons o os=>
    have key: ∀os:List (List Nat),yq P Γ (dstsOf ops.toList) (qf P σ.H.length ops.toList) (pre P ops.toList σ) (Q .normal) os->yq P Γ (dstsOf ops.toList) (qf P σ.H.length ops.toList) (pre P ops.toList σ) (Q' .normal) os:=by
     intro os;induction os with
     |nil=>exact fun h=>h
     |cons o os ih=>rintro⟨⟨τ,hr,hq⟩,h2⟩;exact⟨⟨τ,hr,h _ _ hq⟩,ih h2⟩
    exact key _
  unfold Kz at hw⊢;cases hf:R6 (Γ.fS id)with
  |none=>rw[hf]at hw;exact key _ _ hw
  |some ρ=>
   rw[hf]at hw;obtain⟨fc,h1,h2⟩:=hw;exact⟨fc,h1,key _ _ h2⟩
 |_=>intro Q Q' σ _ hw;simp only[lS]at hw
section
variable{P:Program}{Γ:aW}{Q:Ex->St->Prop}{σ:St}
@[go_sem] theorem wpA_skip:lS P Γ .skip Q σ=Q .normal σ:=by simp only[lS]
@[go_sem] theorem wpA_seq{a b:Code}:lS P Γ (.seq a b) Q σ=lS P Γ a (VV (lS P Γ b) Q) σ:=by simp only[lS]
@[go_sem] theorem wpA_cond{c:Operand}{a b:Code}:lS P Γ (.cond c a b) Q σ=qp (σ.ev c) (lS P Γ a Q σ) (lS P Γ b Q σ):=by simp only[lS]
@[go_sem] theorem wpA_block{id:Nat}{c:Code}:lS P Γ (.block id c) Q σ=lS P Γ c (uh id Q) σ:=by simp only[lS]
@[go_sem] theorem wpA_exit{id:Nat}:lS P Γ (.exit id) Q σ=Q (.exit id) σ:=by simp only[lS]
@[go_sem] theorem wpA_ret:lS P Γ .ret Q σ=Q .ret σ:=by simp only[lS]
@[go_sem] theorem wpA_region{σs:List (Nat×A)}{gh:List Obj}{i:Nat}{ops:Array Oper}{d:Bool}:lS P Γ (.region i ops d) Q (St.mk σs gh)=Kz P Γ (Γ.fS i) ops Q (St.mk σs gh):=by simp only[lS]
@[congr] theorem regW_congr{os os':List (List Nat)}{ops:Array Oper}(h:os=os'):Kz P Γ os ops Q σ=Kz P Γ os' ops Q σ:=by rw[h]
@[go_sem] theorem regW_nil{σs:List (Nat×A)}{gh:List Obj}{ops:Array Oper}:Kz P Γ [] ops Q (St.mk σs gh)=K? (oC P Γ (dstsOf ops.toList) ops.toList gh.length (pre P ops.toList (St.mk σs gh))) (Q .normal):=rfl
@[go_sem] theorem regW_cons{σs:List (Nat×A)}{gh:List Obj}{ops:Array Oper}{t:Nat}{o:List Nat}{os:List (List Nat)}(h:t≠999999):Kz P Γ ((t::o)::os) ops Q (St.mk σs gh)=yq P Γ (dstsOf ops.toList) (qf P gh.length ops.toList) (pre P ops.toList (St.mk σs gh)) (Q .normal) ((t::o)::os):=by unfold Kz R6 GJ;simp only[if_neg h];rfl
@[go_sem] theorem regW_frz'{σs:List (Nat×A)}{gh:List Obj}{ops:Array Oper}{t:Nat}{ρ:List Nat}{os:List (List Nat)}(h:t=999999):Kz P Γ ((t::ρ)::os) ops Q (St.mk σs gh)=K? (uf (vD gh.length ρ) gh (vD gh.length ρ)) fun fc=>VU P Γ os ops Q (M6 (vD gh.length ρ) fc (St.mk σs gh)):=by subst h;rfl
@[go_sem] theorem keepN_nil{m:Nat}:vD m []=[]:=rfl
@[go_sem] theorem keepN_cons{m n:Nat}{ρ:List Nat}:vD m (n::ρ)=if n<m then n::vD m ρ else vD m ρ:=by unfold vD;rw[na];simp
@[go_sem] theorem regO_nil{σs:List (Nat×A)}{gh:List Obj}{ops:Array Oper}:VU P Γ [] ops Q (St.mk σs gh)=K? (oC P Γ (dstsOf ops.toList) ops.toList gh.length (pre P ops.toList (St.mk σs gh))) (Q .normal):=rfl
@[go_sem] theorem ordsW_nil{ds:List (Option Tmp)}{B:List (Nat×Oper)}{q:St->Prop}:yq P Γ ds B σ q []=True:=rfl
@[go_sem] theorem ordsW_cons{ds:List (Option Tmp)}{B:List (Nat×Oper)}{q:St->Prop}{o:List Nat}{os:List (List Nat)}:yq P Γ ds B σ q (o::os)=(K? (vn P Γ ds B o σ) q/\yq P Γ ds B σ q os):=rfl
@[go_sem] theorem annS_nil{n:Nat}:qf P n []=[]:=rfl
@[go_sem] theorem annS_cons{n:Nat}{o:Oper}{os:List Oper}:qf P n (o::os)=(n,o)::qf P (gI P o.op n) os:=rfl
@[go_sem] theorem nthA_zero{x:Nat×Oper}{xs:List (Nat×Oper)}:kg (x::xs) 0=some x:=rfl
@[go_sem] theorem nthA_succ{x:Nat×Oper}{xs:List (Nat×Oper)}{i:Nat}:kg (x::xs) (i+1)=kg xs i:=rfl
@[congr] theorem runO_congr{ds:List (Option Tmp)}{B B':List (Nat×Oper)}{is:List Nat}{jO:St}(hB:B=B')(h:σ=jO):vn P Γ ds B is σ=vn P Γ ds B' is jO:=by rw[hB,h]
@[congr] theorem wpA_congr{c:Code}{jO:St}(h:σ=jO):lS P Γ c Q σ=lS P Γ c Q jO:=by rw[h]
@[go_sem] theorem seqQ_normal{W:(Ex->St->Prop)->St->Prop}:VV W Q .normal σ=W Q σ:=rfl
@[go_sem] theorem seqQ_exit{W:(Ex->St->Prop)->St->Prop}{i:Nat}:VV W Q (.exit i) σ=Q (.exit i) σ:=rfl
@[go_sem] theorem seqQ_ret{W:(Ex->St->Prop)->St->Prop}:VV W Q .ret σ=Q .ret σ:=rfl
@[go_sem] theorem blockQ_normal{id:Nat}:uh id Q .normal σ=Q .normal σ:=rfl
@[go_sem] theorem blockQ_exit{id i:Nat}:uh id Q (.exit i) σ=if i=id then Q .normal σ else Q (.exit i) σ:=rfl
@[go_sem] theorem blockQ_ret{id:Nat}:uh id Q .ret σ=Q .ret σ:=rfl
@[go_sem] theorem loopQ_normal{N:St->Prop}:Ag N Q .normal σ=N σ:=rfl
@[go_sem] theorem loopQ_exit{N:St->Prop}{i:Nat}:Ag N Q (.exit i) σ=Q (.exit i) σ:=rfl
@[go_sem] theorem loopQ_ret{N:St->Prop}:Ag N Q .ret σ=Q .ret σ:=rfl
@[congr] theorem seqQ_congr{W:(Ex->St->Prop)->St->Prop}{e e':Ex}{jO:St}(h:e=e')(h':σ=jO):VV W Q e σ=VV W Q e' jO:=by rw[h,h']
@[congr] theorem blockQ_congr{id:Nat}{e e':Ex}{jO:St}(h:e=e')(h':σ=jO):uh id Q e σ=uh id Q e' jO:=by rw[h,h']
@[congr] theorem loopQ_congr{N:St->Prop}{e e':Ex}{jO:St}(h:e=e')(h':σ=jO):Ag N Q e σ=Ag N Q e' jO:=by rw[h,h']
@[go_sem high] theorem condA_true{p q:Prop}:qp (.bool true) p q=p:=by simp[qp]
@[go_sem high] theorem condA_false{p q:Prop}:qp (.bool false) p q=q:=by simp[qp]
@[go_sem] theorem condA_bool{b:Bool}{p q:Prop}:qp (.bool b) p q=((b=true->p)/\(b=false->q)):=by simp[qp]
@[go_sem ↓ high] theorem condA_true'{p q:Prop}:qp (.bool true) p q=p:=by simp[qp]
@[go_sem ↓ high] theorem condA_false'{p q:Prop}:qp (.bool false) p q=q:=by simp[qp]
@[congr] theorem condA_congr{c c':A}{p q:Prop}(h:c=c'):qp c p q=qp c' p q:=by rw[h]
end
section
variable{α β:Type}
@[go_sem high] theorem K_some{x:α}{q:α->Prop}:K? (some x) q=q x:=by simp[K?]
@[go_sem] theorem K_bind{o:Option α}{f:α->Option β}{q:β->Prop}:K? (o.bind f) q=K? o (fun x=>K? (f x) q):=by cases o<;>simp[K?]
@[go_sem] theorem K_map{o:Option α}{f:α->β}{q:β->Prop}:K? (o.map f) q=K? o (fun x=>q (f x)):=by cases o<;>simp[K?]
@[go_sem high] theorem K_ite_none{c:Prop} [Decidable c]{a:Option α}{q:α->Prop}:K? (if c then a else none) q=(c/\K? a q):=by split<;>simp_all[K?]
@[go_sem ↓ high] theorem K_some'{x:α}{q:α->Prop}:K? (some x) q=q x:=by simp[K?]
@[congr] theorem K_congr{o o':Option α}{q:α->Prop}(h:o=o'):K? o q=K? o' q:=by rw[h]
@[go_sem] theorem K_getElem{l:List α}{i:Nat}{q:α->Prop}(h:i<l.length):K? l[i]? q=q l[i]:=by simp[K?,h]
end
section
variable{P:Program}{Γ:aW}{σ:St}{n:Nat}{d:Option Tmp}{ds:List (Option Tmp)}{q:St->Prop}
@[go_sem] theorem K_runSeq_nil{n:Nat}:K? (oC P Γ ds [] n σ) q=q σ:=by simp[oC,K?]
@[go_sem] theorem K_runSeq_cons{o:Oper}{os:List Oper}{n:Nat}:K? (oC P Γ ds (o::os) n σ) q=K? (ew P Γ ds n o σ) (fun τ=>K? (oC P Γ ds os (gI P o.op n) τ) q):=by simp only[oC,K_bind]
@[go_sem] theorem K_runO_nil{B:List (Nat×Oper)}:K? (vn P Γ ds B [] σ) q=q σ:=by simp[vn,K?]
@[go_sem] theorem K_runO_cons{B:List (Nat×Oper)}{i:Nat}{is:List Nat}:K? (vn P Γ ds B (i::is) σ) q=K? (kg B i) (fun x=>K? (ew P Γ ds x.1 x.2 σ) (fun τ=>K? (vn P Γ ds B is τ) q)):=by simp only[vn,K_bind]
@[go_sem] theorem pre_nil:pre P [] σ=σ:=rfl
@[go_sem] theorem pre_cons{o:Oper}{os:List Oper}:pre P (o::os) σ=pre P os (grow P o.op σ):=rfl
@[congr] theorem pre_congr{os:List Oper}{jO:St}(h:σ=jO):pre P os σ=pre P os jO:=by rw[h]
@[congr] theorem runSeq_congr{os:List Oper}{jO:St}{n n':Nat}(h:σ=jO)(h':n=n'):oC P Γ ds os n σ=oC P Γ ds os n' jO:=by rw[h,h']
@[congr] theorem exec1_congr{o:Oper}{n':Nat}{jO:St}(hn:n=n')(h:σ=jO):ew P Γ ds n o σ=ew P Γ ds n' o jO:=by rw[h,hn]
@[go_sem] theorem exec1_plain{op:Op}{t:TypeId}{p:String}{af:Array Edge}:ew P Γ ds n ⟨d,op,t,p,af,none⟩ σ=execOp P Γ n d op σ:=by simp[ew,oB]
def Oz(b:A)(want:Bool)(x y:Option St):Option St:=
 match b with
 | .bool b=>if(b==want)=true then x else y
 | .any=>none
 |_=>y
@[go_sem] theorem exec1_guard{σs:List (Nat×A)}{gh:List Obj}{op:Op}{t:TypeId}{p:String}{af:Array Edge}{j:Nat}{w:Bool}:
 ew P Γ ds n ⟨d,op,t,p,af,some (j,w)⟩ (St.mk σs gh)=(match GH ds j with|some t=>Oz (look σs t) w (execOp P Γ n d op (St.mk σs gh)) (some ((St.mk σs gh).put d (.fq [])))|none=>some ((St.mk σs gh).put d (.fq []))):=by
 simp only[ew,oB]
 cases GH ds j with
 |none=>simp
 |some t=>simp only[];cases look σs t<;>simp[Oz]
@[go_sem] theorem guardA_bool{b w:Bool}{x y:Option St}:Oz (.bool b) w x y=if(b==w)=true then x else y:=rfl
@[go_sem] theorem guardA_undef{w:Bool}{x y:Option St}:Oz (.fq []) w x y=y:=rfl
@[go_sem] theorem nthD_zero{x:Option Tmp}{xs:List (Option Tmp)}:GH (x::xs) 0=x:=rfl
@[go_sem] theorem nthD_succ{x:Option Tmp}{xs:List (Option Tmp)}{m:Nat}:GH (x::xs) (m+1)=GH xs m:=rfl
@[go_sem] theorem dstsOf_nil:dstsOf []=[]:=rfl
@[go_sem] theorem dstsOf_cons{o:Oper}{os:List Oper}:dstsOf (o::os)=o.dst::dstsOf os:=rfl
variable{x y z:Operand}{t u:TypeId}{k:Nat}
@[go_sem] theorem grow_move:grow P (.move x) σ=σ:=rfl
@[go_sem] theorem nxt_move{n:Nat}:gI P (.move x) n=n:=rfl
@[go_sem] theorem grow_assign:grow P (.assign x) σ=σ:=rfl
@[go_sem] theorem nxt_assign{n:Nat}:gI P (.assign x) n=n:=rfl
@[go_sem] theorem grow_pick:grow P (.pick x y z) σ=σ:=rfl
@[go_sem] theorem nxt_pick{n:Nat}:gI P (.pick x y z) n=n:=rfl
@[go_sem] theorem grow_build{ps:Array (Nat×Operand)}:grow P (.build t ps) σ=σ:=rfl
@[go_sem] theorem nxt_build{ps:Array (Nat×Operand)}{n:Nat}:gI P (.build t ps) n=n:=rfl
@[go_sem] theorem grow_buildSlice{ps:Array (Nat×Operand)}:grow P (.buildSlice t k ps) σ=σ:=rfl
@[go_sem] theorem nxt_buildSlice{ps:Array (Nat×Operand)}{n:Nat}:gI P (.buildSlice t k ps) n=n:=rfl
@[go_sem] theorem grow_load:grow P (.load t x) σ=σ:=rfl
@[go_sem] theorem nxt_load{n:Nat}:gI P (.load t x) n=n:=rfl
@[go_sem] theorem grow_store:grow P (.store t x y) σ=σ:=rfl
@[go_sem] theorem nxt_store{n:Nat}:gI P (.store t x y) n=n:=rfl
@[go_sem] theorem grow_binOp{o:BinOp}:grow P (.binOp o t x y u) σ=σ:=rfl
@[go_sem] theorem nxt_binOp{o:BinOp}{n:Nat}:gI P (.binOp o t x y u) n=n:=rfl
@[go_sem] theorem grow_unOp{o:UnOp}:grow P (.unOp o t x) σ=σ:=rfl
@[go_sem] theorem nxt_unOp{o:UnOp}{n:Nat}:gI P (.unOp o t x) n=n:=rfl
@[go_sem] theorem grow_makeFunc{f:Fn}{xs ys:Array Operand}:grow P (.makeFunc f xs ys) σ=σ:=rfl
@[go_sem] theorem nxt_makeFunc{f:Fn}{xs ys:Array Operand}{n:Nat}:gI P (.makeFunc f xs ys) n=n:=rfl
@[go_sem] theorem grow_slice{l h m:Option Operand}:grow P (.slice t x l h m) σ=σ:=rfl
@[go_sem] theorem nxt_slice{l h m:Option Operand}{n:Nat}:gI P (.slice t x l h m) n=n:=rfl
@[go_sem] theorem grow_fieldAddr:grow P (.fieldAddr t x k) σ=σ:=rfl
@[go_sem] theorem nxt_fieldAddr{n:Nat}:gI P (.fieldAddr t x k) n=n:=rfl
@[go_sem] theorem grow_indexAddr:grow P (.indexAddr t x y) σ=σ:=rfl
@[go_sem] theorem nxt_indexAddr{n:Nat}:gI P (.indexAddr t x y) n=n:=rfl
@[go_sem] theorem grow_index:grow P (.index t x y) σ=σ:=rfl
@[go_sem] theorem nxt_index{n:Nat}:gI P (.index t x y) n=n:=rfl
@[go_sem] theorem grow_extract:grow P (.extract x k) σ=σ:=rfl
@[go_sem] theorem nxt_extract{n:Nat}:gI P (.extract x k) n=n:=rfl
@[go_sem] theorem grow_alloc{σs:List (Nat×A)}{gh:List Obj}:grow P (.alloc t) (St.mk σs gh)=⟨σs,gh++[.row 0 []]⟩:=rfl
@[go_sem] theorem nxt_alloc{n:Nat}:gI P (.alloc t) n=n+1:=rfl
@[go_sem] theorem grow_box{σs:List (Nat×A)}{gh:List Obj}:grow P (.box t x) (St.mk σs gh)=⟨σs,gh++[.row 0 []]⟩:=rfl
@[go_sem] theorem nxt_box{n:Nat}:gI P (.box t x) n=n+1:=rfl
@[go_sem] theorem grow_convert{σs:List (Nat×A)}{gh:List Obj}:grow P (.convert t u x) (St.mk σs gh)=if Af P t u=true then⟨σs,gh++[.row 0 []]⟩else(St.mk σs gh):=rfl
@[go_sem] theorem nxt_convert{n:Nat}:gI P (.convert t u x) n=if Af P t u=true then n+1 else n:=rfl
@[go_sem] theorem grow_len{xs:Array Operand}{ts:Array TypeId}:grow P (.call ⟨.builtin .len,xs,ts⟩) σ=σ:=rfl
@[go_sem] theorem nxt_len{xs:Array Operand}{ts:Array TypeId}{n:Nat}:gI P (.call ⟨.builtin .len,xs,ts⟩) n=n:=rfl
@[go_sem] theorem grow_min{xs:Array Operand}{ts:Array TypeId}:grow P (.call ⟨.builtin .min,xs,ts⟩) σ=σ:=rfl
@[go_sem] theorem nxt_min{xs:Array Operand}{ts:Array TypeId}{n:Nat}:gI P (.call ⟨.builtin .min,xs,ts⟩) n=n:=rfl
@[go_sem] theorem grow_max{xs:Array Operand}{ts:Array TypeId}:grow P (.call ⟨.builtin .max,xs,ts⟩) σ=σ:=rfl
@[go_sem] theorem nxt_max{xs:Array Operand}{ts:Array TypeId}{n:Nat}:gI P (.call ⟨.builtin .max,xs,ts⟩) n=n:=rfl
@[go_sem] theorem grow_append{σs:List (Nat×A)}{gh:List Obj}{xs:Array Operand}{ts:Array TypeId}:grow P (.call ⟨.builtin .append,xs,ts⟩) (St.mk σs gh)=⟨σs,gh++[.row 0 []]⟩:=rfl
@[go_sem] theorem nxt_append{xs:Array Operand}{ts:Array TypeId}{n:Nat}:gI P (.call ⟨.builtin .append,xs,ts⟩) n=n+1:=rfl
@[go_sem] theorem grow_clear{xs:Array Operand}{ts:Array TypeId}:grow P (.call ⟨.builtin .clear,xs,ts⟩) σ=σ:=rfl
@[go_sem] theorem nxt_clear{xs:Array Operand}{ts:Array TypeId}{n:Nat}:gI P (.call ⟨.builtin .clear,xs,ts⟩) n=n:=rfl
@[go_sem] theorem grow_call{xs:Array Operand}{ts:Array TypeId}:grow P (.call ⟨.value x,xs,ts⟩) σ=σ:=rfl
@[go_sem] theorem nxt_call{xs:Array Operand}{ts:Array TypeId}{n:Nat}:gI P (.call ⟨.value x,xs,ts⟩) n=n:=rfl
@[go_sem] theorem ex_move:execOp P Γ n d (.move x) σ=some (σ.put d (σ.ev x)):=rfl
@[go_sem] theorem ex_assign:execOp P Γ n d (.assign x) σ=some (σ.put d (σ.ev x)):=rfl
@[go_sem] theorem ex_pick:execOp P Γ n d (.pick x y z) σ=(R3 (σ.ev x) (σ.ev y) (σ.ev z)).map (σ.put d ·):=rfl
@[go_sem] theorem ex_build{ps:List (Nat×Operand)}:execOp P Γ n d (.build t ⟨ps⟩) σ=(vA P t σ ps).map (σ.put d ·):=rfl
@[go_sem] theorem ex_buildSlice{ps:List (Nat×Operand)}:execOp P Γ n d (.buildSlice t k ⟨ps⟩) σ=(kR P t k σ ps).map (σ.put d ·):=rfl
@[go_sem] theorem ex_load{σs:List (Nat×A)}{gh:List Obj}:execOp P Γ n d (.load t x) (St.mk σs gh)=(yo P t gh ((St.mk σs gh).ev x)).map ((St.mk σs gh).put d ·):=rfl
@[go_sem] theorem ex_binOp{o:BinOp}:execOp P Γ n d (.binOp o t x y u) σ=(lZ (vl P t) (lY P t) (ow P t) (cP P t).isSome o (σ.ev x) (σ.ev y)).map (σ.put d ·):=rfl
@[go_sem] theorem ex_unOp{o:UnOp}:execOp P Γ n d (.unOp o t x) σ=(unA o (σ.ev x)).map (σ.put d ·):=rfl
@[go_sem] theorem ex_makeFunc{f:Fn}{xs ys:List Operand}:execOp P Γ n d (.makeFunc f ⟨xs⟩ ⟨ys⟩) σ=(tp f (σ.se xs) (σ.se ys)).map (σ.put d ·):=rfl
@[go_sem] theorem ex_slice{l h m:Option Operand}:execOp P Γ n d (.slice t x l h m) σ=(if(jQ P t).isNone=true/\(σ.bd l).ok=true/\(σ.bd h).ok=true then yN (lA P t) (yO P t) (σ.ev x) (σ.bd l) (σ.bd h) (σ.bd m)else none).map (σ.put d ·):=rfl
@[go_sem] theorem ex_fieldAddr:execOp P Γ n d (.fieldAddr t x k) σ=(pw (fieldInfo P t k) (σ.ev x)).map (σ.put d ·):=rfl
@[go_sem] theorem ex_indexAddr:execOp P Γ n d (.indexAddr t x y) σ=(rD P t (σ.ev x) (σ.ev y)).map (σ.put d ·):=rfl
@[go_sem] theorem ex_index:execOp P Γ n d (.index t x y) σ=(BS P t (σ.ev x) (σ.ev y)).map (σ.put d ·):=rfl
@[go_sem] theorem ex_extract:execOp P Γ n d (.extract x k) σ=(vB (σ.ev x) k).map (σ.put d ·):=rfl
@[go_sem] theorem ex_alloc:execOp P Γ n d (.alloc t) σ=ud σ n d (iR P t):=rfl
@[go_sem] theorem ex_box:execOp P Γ n d (.box t x) σ=BT σ n d (σ.ev x):=rfl
@[go_sem] theorem ex_store:execOp P Γ n d (.store t x y) σ=ue σ d (cW P t) (σ.ev x) (σ.ev y):=rfl
@[go_sem] theorem ex_convert:execOp P Γ n d (.convert t u x) σ=DC P σ n d t u (σ.ev x):=rfl
@[go_sem] theorem ex_len:execOp P Γ n d (.call ⟨.builtin .len,⟨[x]⟩,⟨[t]⟩⟩) σ=(VT P t (σ.ev x)).map (σ.put d ·):=rfl
@[go_sem] theorem ex_min{xs:List Operand}{ts:Array TypeId}:execOp P Γ n d (.call ⟨.builtin .min,⟨xs⟩,ts⟩) σ=(minA (σ.se xs)).map (σ.put d ·):=rfl
@[go_sem] theorem ex_max{xs:List Operand}{ts:Array TypeId}:execOp P Γ n d (.call ⟨.builtin .max,⟨xs⟩,ts⟩) σ=(maxA (σ.se xs)).map (σ.put d ·):=rfl
@[go_sem] theorem ex_append:execOp P Γ n d (.call ⟨.builtin .append,⟨[x,y]⟩,⟨[t,u]⟩⟩) σ=xm P Γ.fix σ n d t u (σ.ev x) (σ.ev y):=rfl
@[go_sem] theorem ex_clear:execOp P Γ n d (.call ⟨.builtin .clear,⟨[x]⟩,⟨[t]⟩⟩) σ=BU P σ d t (σ.ev x):=rfl
@[go_sem] theorem ex_call{xs:List Operand}{ts:Array TypeId}:execOp P Γ n d (.call ⟨.value x,⟨xs⟩,ts⟩) σ=if GD Γ x=true then vC Γ σ d (σ.ev x) (σ.se xs)else GF Γ σ d (σ.ev x) (σ.se xs):=rfl
@[go_sem] theorem isEff_func{f:FuncId}:GD Γ (.func f)=Γ.sg f:=rfl
@[go_sem] theorem isEff_tmp{i:Nat}:GD Γ (.tmp i)=Γ.effT:=rfl
@[go_sem] theorem ev_tmp{σs:List (Nat×A)}{gh:List Obj}{i:Nat}:(St.mk σs gh).ev (.tmp i)=look σs i:=rfl
@[go_sem] theorem ev_const{v:Value}:σ.ev (.const v)=toA v:=rfl
@[go_sem] theorem ev_func{f:FuncId}:σ.ev (.func f)= .fn f []:=rfl
@[go_sem] theorem evL_nil:σ.se []=[]:=rfl
@[go_sem] theorem evL_cons{xs:List Operand}:σ.se (x::xs)=σ.ev x::σ.se xs:=rfl
@[go_sem] theorem put_some{σs:List (Nat×A)}{gh:List Obj}{v:A}{i:Nat}:(St.mk σs gh).put (some i) v=⟨(i,v)::σs,gh⟩:=rfl
@[go_sem] theorem put_none{v:A}:σ.put none v=σ:=rfl
@[go_sem] theorem bd_none:σ.bd none= .none:=rfl
@[go_sem] theorem bd_some:σ.bd (some x)=bdOf (σ.ev x):=rfl
@[go_sem] theorem bdOf_int{i:IntKind}{m:Int}:bdOf (.int i m)= .some m:=rfl
@[go_sem] theorem Bd_get_none{m:Int}:Bd.get m .none=m:=rfl
@[go_sem] theorem Bd_get_some{m r:Int}:Bd.get m (.some r)=r:=rfl
@[go_sem] theorem Bd_ok_none:Bd.ok .none=true:=rfl
@[go_sem] theorem Bd_ok_some{r:Int}:Bd.ok (.some r)=true:=rfl
@[go_sem] theorem look_cons{i j:Nat}{v:A}{r:List (Nat×A)}:look ((i,v)::r) j=if i=j then v else look r j:=rfl
@[go_sem] theorem setH_eq{σs:List (Nat×A)}{gh:List Obj}{o:Obj}:(St.mk σs gh).gD n o=⟨σs,qe gh n o⟩:=rfl
@[go_sem] theorem setO_zero{a b:Obj}{r:List Obj}:qe (a::r) 0 b=b::r:=rfl
@[go_sem] theorem setO_succ{a b:Obj}{r:List Obj}:qe (a::r) (n+1) b=a::qe r n b:=rfl
@[go_sem] theorem nthO_zero{a:Obj}{r:List Obj}:ff (a::r) 0=some a:=rfl
@[go_sem] theorem nthO_succ{a:Obj}{r:List Obj}:ff (a::r) (n+1)=ff r n:=rfl
@[go_sem] theorem setNth_zero{a b:A}{r:List A}:fE (a::r) 0 b=b::r:=rfl
@[go_sem] theorem setNth_succ{a b:A}{r:List A}:fE (a::r) (n+1) b=a::fE r n b:=rfl
end
section
variable{a b c:A}{cs ds es:List A}{k n i:Nat}{q:IntKind}{m r:Int}{s s':List UInt8}{H:List Obj}{P:Program}{t u:TypeId}{p e:Bool}{σ:St}{d:Option Tmp}{kl:List CK}{ko:Option (List CK)}{sl k0:Bool}
@[go_sem] theorem toA_int:toA (.int q m)= .int q m:=rfl
@[go_sem] theorem toA_bool:toA (.bool p)= .bool p:=rfl
@[go_sem] theorem toA_str{l:List UInt8}:toA (.string ⟨⟨l⟩⟩)= .str l:=rfl
@[go_sem] theorem toA_nils:toA (.slice none 0 0)= .d_:=rfl
@[go_sem] theorem pick_bool:R3 (.bool p) a b=some (if p then a else b):=rfl
@[go_sem] theorem load_dptr:yo P t H (.iU cs)=pc P t cs:=rfl
@[go_sem] theorem load_ref:yo P t H (.ref n i)=(match ff H n with|some (.box cs)=>pc P t (cs.drop i)|_=>none):=rfl
@[go_sem] theorem load_eref:yo P t H (.mu n i k)=(match ff H n with|some (.row _ es)=>(es[i]?).bind fun e=>pc P t (e.cells.drop k)|_=>none):=rfl
@[go_sem] theorem loadC_eq:pc P t cs=(match dS P t with|some true=>(match cW P t with|some n=>if n<=cs.length then some (.agg (cs.take n))else none|none=>none)|some false=>cs.head? |none=>none):=rfl
@[go_sem] theorem fieldI_some{f:Nat×TypeId}:pw (some f) a=pv f.1 a:=rfl
@[go_sem] theorem field_dptr:pv n (.iU cs)=some (.iU (cs.drop n)):=rfl
@[go_sem] theorem field_ref:pv n (.ref i k)=some (.ref i (k+n)):=rfl
@[go_sem] theorem field_eref{j:Nat}:pv n (.mu i j k)=some (.mu i j (k+n)):=rfl
@[go_sem] theorem index_str:BS P t (.str s) (.int q m)=(if lA P t=true/\0<=m then(s[m.toNat]?).map nk else none):=rfl
@[go_sem] theorem index_agg:BS P t (.agg cs) (.int q m)=(match jQ P t with|some (n,e)=>(match cW P e with|some k=>if 0<=m/\m<n then pc P e (cs.drop (m.toNat*k))else none|none=>none)|none=>none):=rfl
@[go_sem] theorem indexAddr_int:rD P t a (.int q m)=(match cP P t with|some e=>(match cW P e with|some k=>rC k m a|none=>none)|none=>(match jQ P t with|some (n,e)=>(match cW P e with|some k=>ua n k m a|none=>none)|none=>none)):=rfl
@[go_sem] theorem indexE_slc:rC k m (.ay es)=getE k m es:=rfl
@[go_sem] theorem indexE_row{j l:Nat}:rC k m (.row n i j l p)=(if k=j/\0<=m/\m<l then some (.mu n (i+m.toNat) 0)else none):=rfl
@[go_sem] theorem indexR_ref{j:Nat}:ua n k m (.ref i j)=(if 0<=m/\m<n then some (.ref i (j+m.toNat*k))else none):=rfl
@[go_sem] theorem getE_eq:getE k m es=(if 0<=m then es[m.toNat]? else none).bind fun y=>if k=y.cells.length then some (.iU y.cells)else none:=rfl
@[go_sem] theorem extract_tup:vB (.fq cs) n=cs[n]? :=rfl
@[go_sem] theorem len_str:VT P t (.str s)=if lA P t=true then some (.int .i64 s.length)else none:=rfl
@[go_sem] theorem len_slc:VT P t (.ay es)=if(cP P t).isSome=true then some (.int .i64 es.length)else none:=rfl
@[go_sem] theorem len_row{j:Nat}:VT P t (.row n i j k p)=if(cP P t).isSome=true then some (.int .i64 k)else none:=rfl
@[go_sem] theorem min_int{q':IntKind}:minA [.int q m,.int q' r]=some (.int q (if r<m then r else m)):=rfl
@[go_sem] theorem max_int{q':IntKind}:maxA [.int q m,.int q' r]=some (.int q (if r>m then r else m)):=rfl
@[go_sem] theorem makeFunc_eq:tp (.func n) [] cs=some (.fn n cs):=rfl
@[go_sem] theorem un_not:unA .not (.bool p)=some (.bool !p):=rfl
@[go_sem] theorem bin_add:lZ ko p e sl .add (.int q m) (.int q r)=some (.int q (q.wrap (m+r))):=by simp[lZ,yM]
@[go_sem] theorem bin_sub:lZ ko p e sl .sub (.int q m) (.int q r)=some (.int q (q.wrap (m-r))):=by simp[lZ,yM]
@[go_sem] theorem bin_mul:lZ ko p e sl .mul (.int q m) (.int q r)=some (.int q (q.wrap (m*r))):=by simp[lZ,yM]
@[go_sem] theorem bin_quo:lZ ko p e sl .quo (.int q m) (.int q r)=if r=0 then none else some (.int q (q.wrap (m.tdiv r))):=by simp[lZ,yM]
@[go_sem] theorem bin_rem:lZ ko p e sl .rem (.int q m) (.int q r)=if r=0 then none else some (.int q (m.tmod r)):=by simp[lZ,yM]
@[go_sem] theorem bin_and:lZ ko p e sl .and (.int q m) (.int q r)=some (.int q (q.wrap ((BitVec.ofInt q.bits m&&&BitVec.ofInt q.bits r).toNat))):=by simp[lZ,yM]
@[go_sem] theorem bin_eql:lZ ko p e sl .eql (.int q m) (.int q r)=some (.bool (m==r)):=by simp[lZ,yM]
@[go_sem] theorem bin_neq:lZ ko p e sl .neq (.int q m) (.int q r)=some (.bool (m !=r)):=by simp[lZ,yM]
@[go_sem] theorem bin_lss:lZ ko p e sl .lss (.int q m) (.int q r)=some (.bool (decide (m<r))):=by simp[lZ,yM]
@[go_sem] theorem bin_leq:lZ ko p e sl .leq (.int q m) (.int q r)=some (.bool (decide (m<=r))):=by simp[lZ,yM]
@[go_sem] theorem bin_gtr:lZ ko p e sl .gtr (.int q m) (.int q r)=some (.bool (decide (r<m))):=by simp[lZ,yM]
@[go_sem] theorem bin_geq:lZ ko p e sl .geq (.int q m) (.int q r)=some (.bool (decide (r<=m))):=by simp[lZ,yM]
@[go_sem] theorem bin_shr{q':IntKind}:lZ ko p e sl .shr (.int q m) (.int q' r)=if r<0 then none else some (.int q (m.fdiv (2^(min r.toNat q.bits)))):=rfl
@[go_sem] theorem bin_bneq{x y:Bool}:lZ ko true e sl .neq (.bool x) (.bool y)=some (.bool (x !=y)):=rfl
@[go_sem] theorem bin_sadd:lZ ko p e sl .add (.str s) (.str s')=if s.length+s'.length<=9223372036854775807 then some (.str (s++s'))else none:=rfl
@[go_sem] theorem bin_seql:lZ ko p e sl .eql (.str s) (.str s')=some (.bool (s==s')):=rfl
@[go_sem] theorem bin_sneq:lZ ko p e sl .neq (.str s) (.str s')=some (.bool (s !=s')):=rfl
@[go_sem] theorem bin_aeql:lZ (some kl) p e sl .eql (.agg cs) (.agg ds)=if eW kl cs=true/\eW kl ds=true then(BP cs ds).map .bool else none:=rfl
@[go_sem] theorem bin_aneq:lZ (some kl) p e sl .neq (.agg cs) (.agg ds)=if eW kl cs=true/\eW kl ds=true then(BP cs ds).map (fun b=> .bool !b)else none:=rfl
@[go_sem] theorem bin_empnil:lZ ko p e true .eql (.emp k0) .d_=some (.bool k0):=rfl
@[go_sem] theorem bin_slcnil:lZ ko p e true .eql (.ay (a::cs)) .d_=some (.bool false):=rfl
@[go_sem] theorem hasL_nil:eW [] []=true:=rfl
@[go_sem] theorem hasL_cons{c:CK}:eW (c::kl) (a::cs)=(c.has a&&eW kl cs):=rfl
@[go_sem] theorem has_int:CK.has (.int q) (.int q m)=true:=by simp[CK.has]
@[go_sem] theorem has_bool:CK.has .bool (.bool p)=true:=rfl
@[go_sem] theorem has_str:CK.has .str (.str s)=true:=rfl
@[go_sem] theorem eqL_nil:BP [] []=some true:=rfl
@[go_sem] theorem eqL_cons:BP (a::cs) (b::ds)=(eqA a b).bind fun x=>(BP cs ds).map (x&& ·):=rfl
@[go_sem] theorem eqA_int:eqA (.int q m) (.int q r)=some (m==r):=by simp[eqA]
@[go_sem] theorem eqA_bool{x y:Bool}:eqA (.bool x) (.bool y)=some (x==y):=rfl
@[go_sem] theorem eqA_str:eqA (.str s) (.str s')=some (s==s'):=rfl
@[go_sem] theorem cells_agg:A.cells (.agg cs)=cs:=rfl
@[go_sem] theorem cells_int:A.cells (.int q m)=[.int q m]:=rfl
@[go_sem] theorem cells_bool:A.cells (.bool p)=[.bool p]:=rfl
@[go_sem] theorem cells_str:A.cells (.str s)=[.str s]:=rfl
@[go_sem] theorem cells_slc:A.cells (.ay es)=[.ay es]:=rfl
@[go_sem] theorem cells_clip:A.cells (.clip es)=[.clip es]:=rfl
@[go_sem] theorem cells_nils:A.cells .d_=[.d_]:=rfl
@[go_sem] theorem cells_row{j:Nat}:A.cells (.row n i k j p)=[.row n i k j p]:=rfl
@[go_sem] theorem val_agg:A.val (.agg cs)=true:=rfl
@[go_sem] theorem val_int:A.val (.int q m)=true:=rfl
@[go_sem] theorem val_bool:A.val (.bool p)=true:=rfl
@[go_sem] theorem val_str:A.val (.str s)=true:=rfl
@[go_sem] theorem val_slc:A.val (.ay es)=true:=rfl
@[go_sem] theorem val_clip:A.val (.clip es)=true:=rfl
@[go_sem] theorem val_nils:A.val .d_=true:=rfl
@[go_sem] theorem val_row{j:Nat}:A.val (.row n i k j p)=true:=rfl
@[go_sem] theorem norm_agg:A.norm (.agg cs)= .agg (cs.map nQ):=rfl
@[go_sem] theorem norm_int:A.norm (.int q m)= .int q m:=rfl
@[go_sem] theorem norm_bool:A.norm (.bool p)= .bool p:=rfl
@[go_sem] theorem norm_str:A.norm (.str s)= .str s:=rfl
@[go_sem] theorem norm_slc:A.norm (.ay es)= .ay es:=rfl
@[go_sem] theorem norm_clip:A.norm (.clip es)= .ay es:=rfl
@[go_sem] theorem norm_nils:A.norm .d_= .ay []:=rfl
@[go_sem] theorem norm0_int:nQ (.int q m)= .int q m:=rfl
@[go_sem] theorem norm0_bool:nQ (.bool p)= .bool p:=rfl
@[go_sem] theorem norm0_str:nQ (.str s)= .str s:=rfl
@[go_sem] theorem norm0_slc:nQ (.ay es)= .ay es:=rfl
@[go_sem] theorem norm0_clip:nQ (.clip es)= .ay es:=rfl
@[go_sem] theorem norm0_nils:nQ .d_= .ay []:=rfl
@[go_sem] theorem viewL_nil:mX H []=some []:=rfl
@[go_sem] theorem viewL_cons:mX H (a::cs)=(view H a).bind fun y=>(mX H cs).map (y:: ·):=rfl
@[go_sem] theorem view1L_nil:nE H []=some []:=rfl
@[go_sem] theorem view1L_cons:nE H (a::cs)=(ry H a).bind fun y=>(nE H cs).map (y:: ·):=rfl
@[go_sem] theorem view0L_nil:jS H []=some []:=rfl
@[go_sem] theorem view0L_cons:jS H (a::cs)=(pd H a).bind fun y=>(jS H cs).map (y:: ·):=rfl
@[go_sem] theorem view_fn:view H (.fn n cs)=(nE H cs).map (.fn n ·):=rfl
@[go_sem] theorem view_agg:view H (.agg cs)=(jS H cs).map .agg:=rfl
@[go_sem] theorem view_ref:view H (.ref n i)=(match ff H n with|some (.box cs)=>(jS H (cs.drop i)).map .iU|_=>none):=rfl
@[go_sem] theorem view_row{j:Nat}:view H (.row n i k j p)=mb H n i k j:=rfl
@[go_sem] theorem view_int:view H (.int q m)=some (.int q m):=rfl
@[go_sem] theorem view_bool:view H (.bool p)=some (.bool p):=rfl
@[go_sem] theorem view_str:view H (.str s)=some (.str s):=rfl
@[go_sem] theorem view_slc:view H (.ay es)=some (.ay es):=rfl
@[go_sem] theorem view_clip:view H (.clip es)=some (.ay es):=rfl
@[go_sem] theorem view_nils:view H .d_=some (.ay []):=rfl
@[go_sem] theorem view1_ref:ry H (.ref n i)=(match ff H n with|some (.box cs)=>(jS H (cs.drop i)).map .iU|_=>none):=rfl
@[go_sem] theorem view0_row{j:Nat}:pd H (.row n i k j p)=mb H n i k j:=rfl
@[go_sem] theorem view0_int:pd H (.int q m)=some (.int q m):=rfl
@[go_sem] theorem view0_bool:pd H (.bool p)=some (.bool p):=rfl
@[go_sem] theorem view0_str:pd H (.str s)=some (.str s):=rfl
@[go_sem] theorem view0_slc:pd H (.ay es)=some (.ay es):=rfl
@[go_sem] theorem view0_clip:pd H (.clip es)=some (.ay es):=rfl
@[go_sem] theorem view0_nils:pd H .d_=some (.ay []):=rfl
@[go_sem] theorem viewRow_eq{j:Nat}:mb H n i k j=(match ff H n with|some (.row k' es)=>if k'=k/\i+j<=es.length/\k≠0 then some (.ay ((es.drop i).take j))else none|_=>none):=rfl
@[go_sem] theorem pureL_nil:A.pure.cX []=true:=rfl
@[go_sem] theorem pureL_cons:A.pure.cX (a::cs)=(a.pure&&A.pure.cX cs):=rfl
@[go_sem] theorem pure_agg:A.pure (.agg cs)=A.pure.cX cs:=by simp[A.pure]
@[go_sem] theorem pure_fn:A.pure (.fn n cs)=A.pure.cX cs:=by simp[A.pure]
@[go_sem] theorem pure_int:A.pure (.int q m)=true:=by simp[A.pure]
@[go_sem] theorem pure_bool:A.pure (.bool p)=true:=by simp[A.pure]
@[go_sem] theorem pure_str:A.pure (.str s)=true:=by simp[A.pure]
@[go_sem] theorem pure_slc:A.pure (.ay es)=true:=by simp[A.pure]
@[go_sem] theorem pure_clip:A.pure (.clip es)=true:=by simp[A.pure]
@[go_sem] theorem pure_nils:A.pure .d_=true:=by simp[A.pure]
@[go_sem] theorem flat_bool:A.flat (.bool p)=true:=by simp[A.flat]
@[go_sem] theorem flat_slc:A.flat (.ay es)=false:=by simp[A.flat]
@[go_sem] theorem clear_row{σs:List (Nat×A)}{gh:List Obj}{l:Nat}:BU P (St.mk σs gh) d t (.row n i k l p)=(match cP P t with|some e=>(match ff gh n with|some (.row k' es)=>(match iR P e with|some z=>if k'=k/\z.cells.length=k/\k≠0/\z.val=true/\z.pure=true/\i+l<=es.length then some (((St.mk σs gh).gD n (.row k (es.take i++List.replicate l z.norm++es.drop (i+l)))).put d (.fq []))else none|none=>none)|_=>none)|none=>none):=rfl
@[go_sem] theorem callHV_fn{Γ:aW}:vC Γ σ d (.fn n cs) ds=R5 Γ σ d n (ds++cs):=rfl
@[go_sem] theorem callH_eq{Γ:aW}{σs:List (Nat×A)}{gh:List Obj}:R5 Γ (St.mk σs gh) d n ds=yQ Γ (St.mk σs gh) d n ds (reach gh 64 (A.names.l4 ds) []):=rfl
@[go_sem] theorem callH1_eq{Γ:aW}{σs:List (Nat×A)}{gh:List Obj}{ρ:List Nat}:yQ Γ (St.mk σs gh) d n ds ρ=(A.oA.vm ρ ds).bind fun as'=>(uf ρ gh ρ).bind fun fc=>
 if Γ.xk n=true then(if ρ.all (fun n=> !Γ.fix n)=true then(mX fc as').bind fun bs=>(Γ.f n bs).map (Ox (St.mk σs gh) d ρ fc)else none)
 else(Γ.hp n as' fc).bind fun x=>if ug Γ ρ gh.length x.2.2=true then some (GG (St.mk σs gh) d ρ x)else none:=rfl
@[congr] theorem callH1_congr{Γ:aW}{ρ ρ':List Nat}(h:ρ=ρ'):yQ Γ σ d n ds ρ=yQ Γ σ d n ds ρ':=by rw[h]
@[go_sem] theorem callH2_eq{σs:List (Nat×A)}{gh:List Obj}{ρ:List Nat}{S:List Nat}:GG (St.mk σs gh) d ρ (a,H,S)=St.put ⟨(ij ρ gh.length (St.mk σs gh) S).s,sx ρ gh.length ρ H (ij ρ gh.length (St.mk σs gh) S).H⟩ d (a.back ρ gh.length):=rfl
@[go_sem] theorem callF2_eq{σs:List (Nat×A)}{gh:List Obj}{ρ:List Nat}:Ox (St.mk σs gh) d ρ H a=St.put ⟨σs.map (fun p=>(p.1,sh ρ H p.2)),tq ρ ρ (gh.map (Ow ρ H))⟩ d a:=rfl
@[go_sem] theorem scrubs_nil{ρ:List Nat}:ij ρ n σ []=σ:=rfl
@[go_sem] theorem backH_nil{ρ:List Nat}{os:List Obj}:sx ρ n [] os H=H++os.map (Obj.back ρ n):=rfl
@[go_sem] theorem backH_cons{ρ ns:List Nat}{o:Obj}{os:List Obj}:sx ρ n (i::ns) (o::os) H=sx ρ n ns os (qe H i (o.back ρ n)):=rfl
@[go_sem] theorem mayMove_nil{Γ:aW}{ρ:List Nat}:ug Γ ρ n []=true:=rfl
@[go_sem] theorem reach_nil{ρ:List Nat}:reach H (n+1) [] ρ=ρ:=rfl
@[go_sem] theorem reach_cons{ρ ns:List Nat}:reach H (n+1) (i::ns) ρ=if ρ.contains i=true then reach H n ns ρ else reach H n (yP (ff H i)++ns) (ρ++[i]):=rfl
@[go_sem] theorem namesO_some{o:Obj}:yP (some o)=o.names:=rfl
@[go_sem] theorem names_box:Obj.names (.box cs)=A.names.l4 cs:=rfl
@[go_sem] theorem names_rowO:Obj.names (.row k cs)=[]:=rfl
@[go_sem] theorem namesL_nil:A.names.l4 []=[]:=rfl
@[go_sem] theorem namesL_cons:A.names.l4 (a::cs)=a.names++A.names.l4 cs:=rfl
@[go_sem] theorem names_ref:A.names (.ref n i)=[n]:=by simp[A.names]
@[go_sem] theorem names_row{j:Nat}:A.names (.row n i j k p)=[n]:=by simp[A.names]
@[go_sem] theorem names_fn:A.names (.fn n cs)=A.names.l4 cs:=by simp[A.names]
@[go_sem] theorem names_int:A.names (.int q m)=[]:=by simp[A.names]
@[go_sem] theorem names_slc:A.names (.ay es)=[]:=by simp[A.names]
@[go_sem] theorem names_clip:A.names (.clip es)=[]:=by simp[A.names]
@[go_sem] theorem idx_cons{ρ:List Nat}:idx (i::ρ) n=if i=n then some 0 else(idx ρ n).map (· +1):=rfl
@[go_sem] theorem renL_nil{ρ:List Nat}:A.oA.vm ρ []=some []:=rfl
@[go_sem] theorem renL_cons{ρ:List Nat}:A.oA.vm ρ (a::cs)=(a.oA ρ).bind fun x=>(A.oA.vm ρ cs).map (x:: ·):=rfl
@[go_sem] theorem ren_ref{ρ:List Nat}:A.oA ρ (.ref n i)=(idx ρ n).map (.ref · i):=by simp[A.oA]
@[go_sem] theorem ren_row{ρ:List Nat}{j:Nat}:A.oA ρ (.row n i j k p)=(idx ρ n).map (.row · i j k p):=by simp[A.oA]
@[go_sem] theorem ren_fn{ρ:List Nat}:A.oA ρ (.fn n cs)=(A.oA.vm ρ cs).map (.fn n ·):=by simp[A.oA]
@[go_sem] theorem ren_int{ρ:List Nat}:A.oA ρ (.int q m)=some (.int q m):=by simp[A.oA]
@[go_sem] theorem ren_slc{ρ:List Nat}:A.oA ρ (.ay es)=some (.ay es):=by simp[A.oA]
@[go_sem] theorem ren_clip{ρ:List Nat}:A.oA ρ (.clip es)=some (.clip es):=by simp[A.oA]
@[go_sem] theorem renH_nil{ρ:List Nat}:uf ρ H []=some []:=rfl
@[go_sem] theorem renH_cons{ρ ns:List Nat}:uf ρ H (i::ns)=(renO ρ (ff H i)).bind fun o=>(uf ρ H ns).map (o:: ·):=rfl
@[go_sem] theorem renO_some{ρ:List Nat}{o:Obj}:renO ρ (some o)=o.oA ρ:=rfl
@[go_sem] theorem renO_box{ρ:List Nat}:Obj.oA ρ (.box cs)=(A.oA.vm ρ cs).map .box:=rfl
@[go_sem] theorem renO_row{ρ:List Nat}:Obj.oA ρ (.row k cs)=some (.row k cs):=rfl
@[go_sem] theorem nthN_nil:mw [] n i=n+i:=rfl
@[go_sem] theorem nthN_zero{ρ:List Nat}:mw (i::ρ) n 0=i:=rfl
@[go_sem] theorem back_row{ρ:List Nat}{j l:Nat}:A.back ρ k (.row n i j l p)= .row (mw ρ k n) i j l p:=by simp[A.back]
@[go_sem] theorem back_tup{ρ:List Nat}:A.back ρ k (.fq cs)= .fq (A.back.sw ρ k cs):=by simp[A.back]
@[go_sem] theorem back_slc{ρ:List Nat}:A.back ρ k (.ay es)= .ay es:=by simp[A.back]
@[go_sem] theorem backL_nil{ρ:List Nat}:A.back.sw ρ k []=[]:=rfl
@[go_sem] theorem backO_row{ρ:List Nat}:Obj.back ρ k (.row n cs)= .row n cs:=rfl
@[go_sem] theorem frzA_eq{ρ:List Nat}:sh ρ H a=if a.meets ρ=true then(match a.oA ρ with|some x'=>(view H x').getD .any|none=> .any)else a:=rfl
@[go_sem] theorem meets_eq{ρ:List Nat}:A.meets ρ a=ρ.any fun n=>a.mem n:=rfl
@[go_sem] theorem frzO_box{ρ:List Nat}:Ow ρ H (.box cs)= .box (cs.map (sh ρ H)):=rfl
@[go_sem] theorem frzO_row{ρ:List Nat}:Ow ρ H (.row k cs)= .row k cs:=rfl
@[go_sem] theorem dropO_nil{ρ:List Nat}:tq ρ [] H=H:=rfl
@[go_sem] theorem dropO_cons{ρ ns:List Nat}:tq ρ (i::ns) H=tq ρ ns (qe H i (.row 0 [])):=rfl
@[go_sem] theorem startH_eq:Oy cs H={s:=number 0 cs,H:=H}:=rfl
@[go_sem] theorem bodyH_ret{fn:Func}:bodyH P fn a H .ret σ=K? (Et P σ fn.results.toList) (fun rs=>oD rs=a/\a.under H.length=true/\yp H.length σ.H H):=rfl
@[go_sem] theorem bodyH_normal{fn:Func}:bodyH P fn a H .normal σ=K? (Et P σ fn.results.toList) (fun rs=>oD rs=a/\a.under H.length=true/\yp H.length σ.H H):=rfl
@[go_sem] theorem rawL_nil:Et P σ []=some []:=rfl
@[go_sem] theorem rawL_cons{v:ResultVar}{vs:List ResultVar}:Et P σ (v::vs)=(rawA P σ v).bind fun x=>(Et P σ vs).map (x:: ·):=rfl
@[go_sem] theorem raw_tmp{σs:List (Nat×A)}{gh:List Obj}:rawA P (St.mk σs gh) (.tmp i)=some (look σs i):=rfl
@[go_sem] theorem resOf_nil:oD []= .fq []:=rfl
@[go_sem] theorem callV_fn{Γ:aW}:GF Γ σ d (.fn n cs) ds=R4 Γ σ d n (ds++cs):=rfl
@[go_sem] theorem callX_eq{σs:List (Nat×A)}{gh:List Obj}{Γ:aW}:R4 Γ (St.mk σs gh) d n ds=(mX gh ds).bind fun bs=>(Γ.f n bs).bind fun r=>if(A.pure.cX ds||r.flat)=true then some ((St.mk σs gh).put d r)else none:=rfl
@[go_sem] theorem box_eq{σs:List (Nat×A)}{gh:List Obj}:BT (St.mk σs gh) n d a=if a.val=true then some (((St.mk σs gh).gD n (.box a.cells)).put d (.ref n 0))else none:=rfl
@[go_sem] theorem alloc_some:ud σ n d (some a)=BT σ n d a:=rfl
@[go_sem] theorem store_ref{σs:List (Nat×A)}{gh:List Obj}{z:Option Nat}:ue (St.mk σs gh) d z (.ref n i) a=(match ff gh n with|some (.box cs)=>if z=some a.cells.length/\i+a.cells.length<=cs.length/\a.val=true then some (((St.mk σs gh).gD n (.box (jI cs i a.cells))).put d (.fq []))else none|_=>none):=rfl
@[go_sem] theorem store_eref{σs:List (Nat×A)}{gh:List Obj}{z:Option Nat}{j:Nat}:ue (St.mk σs gh) d z (.mu n j i) a=(match ff gh n with|some (.row k es)=>(es[j]?).bind fun e=>if z=some a.cells.length/\i+a.cells.length<=e.cells.length/\a.cells.length≠0/\a.val=true/\a.pure=true then some (((St.mk σs gh).gD n (.row k (fE es j (rE e i a)))).put d (.fq []))else none|_=>none):=rfl
@[go_sem] theorem storeE_agg:rE (.agg cs) i a= .agg (jI cs i a.norm.cells):=rfl
@[go_sem] theorem storeE_int:rE (.int q m) i a=a.norm:=rfl
@[go_sem] theorem storeE_str:rE (.str s) i a=a.norm:=rfl
@[go_sem] theorem splice_eq:jI cs i ds=cs.take i++ds++cs.drop (i+ds.length):=rfl
@[go_sem] theorem build_eq{ps:List (Nat×Operand)}:vA P t σ ps=(match iR P t with|some (.agg zs)=>(match jQ P t with|some (_,e)=>(if(cW P e).isSome=true then(pT P e σ ps zs).map .agg else none)|none=>if mv P t=true then(pS P t σ ps zs).map .agg else none)|_=>none):=rfl
@[go_sem] theorem fillS_nil:pS P t σ [] cs=some cs:=rfl
@[go_sem] theorem fillS_cons{x:Operand}{ps:List (Nat×Operand)}:pS P t σ ((i,x)::ps) cs=(match fieldInfo P t i with|some (o,ft)=>(Ad (cW P ft) o (σ.ev x) cs).bind (pS P t σ ps)|none=>none):=rfl
@[go_sem] theorem fillA_nil:pT P t σ [] cs=some cs:=rfl
@[go_sem] theorem fillA_cons{x:Operand}{ps:List (Nat×Operand)}:pT P t σ ((i,x)::ps) cs=(match cW P t with|some n=>(Ad (some n) (i*n) (σ.ev x) cs).bind (pT P t σ ps)|none=>none):=rfl
@[go_sem] theorem fillC_some:Ad (some n) i a cs=if a.cells.length=n/\i+n<=cs.length/\a.val=true then some (cs.take i++a.cells++cs.drop (i+n))else none:=rfl
@[go_sem] theorem buildSlice_eq{ps:List (Nat×Operand)}:kR P t n σ ps=(match cP P t with|some e=>(match cW P e,iR P e with|some k,some z=>if n*k<=16777216/\k≠0/\z.pure=true/\z.val=true/\z.cells.length=k then(nR k σ ps (List.replicate n z.norm)).map .clip else none|_,_=>none)|none=>none):=rfl
@[go_sem] theorem fillE_nil:nR k σ [] cs=some cs:=rfl
@[go_sem] theorem fillE_cons{x:Operand}{ps:List (Nat×Operand)}:nR k σ ((i,x)::ps) cs=if(σ.ev x).cells.length=k/\i<cs.length/\(σ.ev x).val=true/\(σ.ev x).pure=true then nR k σ ps (fE cs i (σ.ev x).norm)else none:=rfl
@[go_sem] theorem appendX_eq{fx:Nat->Bool}{x:A}:xm P fx σ n d t u a x=(match cP P t with|some e=>(match cW P e with|some k=>if k=0\/kB P e=0\/oz P e k=false then none else(Es P σ e u k x).bind fun src=>uc fx σ n d k (kB P e) a src|none=>none)|none=>none):=rfl
@[go_sem] theorem src_slc:Es P σ t u k (.ay es)=if qo k es=true/\(cP P u).isSome=true then some es else none:=rfl
@[go_sem] theorem src_clip:Es P σ t u k (.clip es)=if qo k es=true/\(cP P u).isSome=true then some es else none:=rfl
@[go_sem] theorem src_emp:Es P σ t u k (.emp p)=if(cP P u).isSome=true then some []else none:=rfl
@[go_sem] theorem strOK_eq:qo k es=(es.isEmpty||eV es==k):=rfl
@[go_sem] theorem stride_cons:eV (a::es)=a.cells.length:=rfl
@[go_sem] theorem append_nils{fx:Nat->Bool}{σs:List (Nat×A)}{gh:List Obj}:uc fx (St.mk σs gh) n d k i .d_ es=if es.length*i<=140737488355328 then some (((St.mk σs gh).gD n (.row k es)).put d (.row n 0 k es.length false))else none:=rfl
@[go_sem] theorem append_clip{fx:Nat->Bool}{σs:List (Nat×A)}{gh:List Obj}:uc fx (St.mk σs gh) n d k i (.clip cs) es=if qo k cs=true/\(cs=[]\/es≠ [])/\(cs.length+es.length)*i<=140737488355328 then some (((St.mk σs gh).gD n (.row k (cs++es))).put d (.row n 0 k (cs.length+es.length) false))else none:=rfl
@[go_sem] theorem append_row{fx:Nat->Bool}{σs:List (Nat×A)}{gh:List Obj}{m j l:Nat}:uc fx (St.mk σs gh) n d k i (.row m 0 j l p) es=(match ff gh m with|some (.row Ky xs)=>if j=k/\Ky=k/\l<=xs.length/\(l+es.length)*i<=140737488355328 then(if p then(if es=[]then none else some (((St.mk σs gh).gD n (.row k (xs.take l++es))).put d (.row n 0 k (l+es.length) false)))else(if fx m=true then none else some ((((St.mk σs gh).lC m).gD m (.row k (xs.take l++es))).put d (.row m 0 k (l+es.length) false))))else none|_=>none):=rfl
@[go_sem] theorem convX_eq{σs:List (Nat×A)}{gh:List Obj}:DC P (St.mk σs gh) n d t u a=if Af P t u=true then(match a with| .str s=>some (((St.mk σs gh).gD n (.row 1 (iH s))).put d (.row n 0 1 s.length false))|_=>none)else(tn P t u gh a).map ((St.mk σs gh).put d ·):=rfl
@[go_sem] theorem conv_int:tn P t u H (.int q m)=(match u9 P u with|some k=>if(dS P t).isSome=true then some (.int k (k.wrap m))else none|none=>none):=rfl
@[go_sem] theorem conv_row{j:Nat}:tn P t u H (.row n i k j p)=rz (Ae P t u) (mb H n i k j):=rfl
@[go_sem] theorem conv_clip:tn P t u H (.clip es)=rz (Ae P t u) (some (.ay es)):=rfl
@[go_sem] theorem convB_some:rz true (some (.ay es))=(lB es).map .str:=rfl
@[go_sem] theorem slice_str{l h b:Bd}{z:Option Nat}:yN true z (.str s) l h b=Ou s l h b:=rfl
@[go_sem] theorem slice_slc{l h b:Bd}:yN p (some k) (.ay es) l h b=BQ k es l h b:=rfl
@[go_sem] theorem slice_row{l h b:Bd}{j f:Nat}{x:Bool}:yN p (some f) (.row n i k j x) l h b=if f=k then Ov n i f j l h b else none:=rfl
@[go_sem] theorem sliceS_eq{l h:Bd}:Ou s l h .none=if 0<=l.get 0/\l.get 0<=h.get s.length/\h.get s.length<=s.length then some (.str ((s.take (h.get s.length).toNat).drop (l.get 0).toNat))else none:=rfl
@[go_sem] theorem sliceE_eq{l h:Bd}:BQ k es l h .none=if qo k es=true/\0<=l.get 0/\l.get 0<=h.get es.length/\h.get es.length<=es.length then some (.ay ((es.take (h.get es.length).toNat).drop (l.get 0).toNat))else none:=rfl
@[go_sem] theorem sliceR_eq{j:Nat}{l h:Bd}:Ov n i k j l h .none=if 0<=l.get 0/\l.get 0<=h.get j/\h.get j<=j then some (.row n (i+(l.get 0).toNat) k (h.get j-l.get 0).toNat false)else none:=rfl
@[go_sem] theorem elSize_eq:yO P t=(match cP P t with|some e=>cW P e|none=>none):=rfl
@[go_sem] theorem scrub_eq{σs:List (Nat×A)}{gh:List Obj}:(St.mk σs gh).lC n={s:=σs.map (fun p=>(p.1,jA n p.2)),H:=gh.map (ub n)}:=rfl
@[go_sem] theorem scrubA_eq:jA n a=if a.mem n=true then .any else a:=rfl
@[go_sem] theorem scrubO_box:ub n (.box cs)= .box (cs.map (jA n)):=rfl
@[go_sem] theorem scrubO_row:ub n (.row k cs)= .row k cs:=rfl
@[go_sem] theorem memL_nil:A.mem.lW n []=false:=rfl
@[go_sem] theorem memL_cons:A.mem.lW n (a::cs)=(a.mem n||A.mem.lW n cs):=rfl
@[go_sem] theorem mem_agg:A.mem n (.agg cs)=A.mem.lW n cs:=by simp[A.mem]
@[go_sem] theorem mem_fn:A.mem n (.fn i cs)=A.mem.lW n cs:=by simp[A.mem]
@[go_sem] theorem mem_tup:A.mem n (.fq cs)=A.mem.lW n cs:=by simp[A.mem]
@[go_sem] theorem mem_int:A.mem n (.int q m)=false:=by simp[A.mem]
@[go_sem] theorem mem_bool:A.mem n (.bool p)=false:=by simp[A.mem]
@[go_sem] theorem mem_str:A.mem n (.str s)=false:=by simp[A.mem]
@[go_sem] theorem mem_slc:A.mem n (.ay es)=false:=by simp[A.mem]
@[go_sem] theorem mem_clip:A.mem n (.clip es)=false:=by simp[A.mem]
@[go_sem] theorem mem_dptr:A.mem n (.iU es)=false:=by simp[A.mem]
@[go_sem] theorem mem_nils:A.mem n .d_=false:=by simp[A.mem]
@[go_sem] theorem mem_any:A.mem n .any=false:=by simp[A.mem]
@[go_sem] theorem mem_ref:A.mem n (.ref i k)=(i==n):=by simp[A.mem]
@[go_sem] theorem mem_eref{j:Nat}:A.mem n (.mu i j k)=(i==n):=by simp[A.mem]
@[go_sem] theorem mem_row{j l:Nat}:A.mem n (.row i j k l p)=(i==n):=by simp[A.mem]
@[go_sem] theorem under_agg:A.under n (.agg cs)=A.under.my n cs:=by simp[A.under]
@[go_sem] theorem under_fn:A.under n (.fn i cs)=A.under.my n cs:=by simp[A.under]
@[go_sem] theorem under_tup:A.under n (.fq cs)=A.under.my n cs:=by simp[A.under]
@[go_sem] theorem underL_nil:A.under.my n []=true:=rfl
@[go_sem] theorem underL_cons:A.under.my n (a::cs)=(a.under n&&A.under.my n cs):=rfl
@[go_sem] theorem under_int:A.under n (.int q m)=true:=by simp[A.under]
@[go_sem] theorem under_bool:A.under n (.bool p)=true:=by simp[A.under]
@[go_sem] theorem under_str:A.under n (.str s)=true:=by simp[A.under]
@[go_sem] theorem under_slc:A.under n (.ay es)=true:=by simp[A.under]
@[go_sem] theorem under_clip:A.under n (.clip es)=true:=by simp[A.under]
@[go_sem] theorem under_nils:A.under n .d_=true:=by simp[A.under]
@[go_sem] theorem under_any:A.under n .any=true:=by simp[A.under]
@[go_sem] theorem under_ref:A.under n (.ref i k)=decide (i<n):=by simp[A.under]
@[go_sem] theorem under_row{j l:Nat}:A.under n (.row i j k l p)=decide (i<n):=by simp[A.under]
@[go_sem] theorem GM:BV P σ []=some []:=rfl
@[go_sem] theorem resL_cons{v:ResultVar}{vs:List ResultVar}:BV P σ (v::vs)=(R7 P σ v).bind fun x=>(BV P σ vs).map (x:: ·):=rfl
@[go_sem] theorem res_tmp{σs:List (Nat×A)}{gh:List Obj}:R7 P (St.mk σs gh) (.tmp i)=view gh (look σs i):=rfl
@[go_sem] theorem res_cell{σs:List (Nat×A)}{gh:List Obj}:R7 P (St.mk σs gh) (.cell i t)=resC P (St.mk σs gh) t (look σs i):=rfl
@[go_sem] theorem resC_ref{σs:List (Nat×A)}{gh:List Obj}:resC P (St.mk σs gh) t (.ref n i)=(match ff gh n with|some (.box cs)=>(pc P t (cs.drop i)).bind (view gh)|_=>none):=rfl
@[go_sem] theorem resOf_one:oD [a]=a:=rfl
@[go_sem] theorem resOf_two:oD (a::b::cs)= .fq (a::b::cs):=rfl
@[go_sem] theorem body_ret{fn:Func}{vo:A->Prop}:bodyA P fn vo .ret σ=K? (BV P σ fn.results.toList) (fun rs=>vo (oD rs)):=rfl
@[go_sem] theorem body_normal{fn:Func}{vo:A->Prop}:bodyA P fn vo .normal σ=K? (BV P σ fn.results.toList) (fun rs=>vo (oD rs)):=rfl
@[go_sem] theorem start_eq:GK cs={s:=number 0 cs,H:=[]}:=rfl
@[go_sem] theorem number_nil:number n []=[]:=rfl
@[go_sem] theorem number_cons:number n (a::cs)=(n,a)::number (n+1) cs:=rfl
end
attribute [go_sem] aS bD bF bx bj aG bC jg List.replicate_zero
 jh k9 mc me List.take_nil List.drop_nil List.head?_cons List.getElem?_cons_zero rF mz nb cI u' px List.all_nil
 dT eQ aY Option.bind_none ib nc Option.isSome_some Option.isSome_none pe pf
 ite_true ite_false az cv aB bN aI lD cM gi bu bG bm
 beq_self_eq_true and_true true_and and_false false_and or_true true_or or_false false_or and_self
def yr(s:List (Nat×A)):List Nat->List (Nat×A)
 | []=>[]
 |d::ds=>(d,look s d)::yr s ds
def yt:List Obj->List (Nat×Obj)->List Obj
 |s,[]=>s
 |s,(d,v)::ds=>yt (qe s d v) ds
def qg(σ:St)(ks:List Nat)(u:List (Nat×A))(h:List (Nat×Obj)):St:={s:=u++yr σ.s ks,H:=yt σ.H h}
theorem BW: ∀(hs:List (Nat×Obj)) (H:List Obj),(yt H hs).length=H.length
 | [],H=>rfl
 |(d,v)::ds,H=>by
  simp only[yt]
  rw[BW ds]
  clear ds;induction H generalizing d with
  |nil=>rfl
  |cons x xs ih=>cases d<;>simp[qe,ih]
theorem a_{P:Program}{Γ:aW}{c:Code}{Q:Ex->St->Prop}{σ:St}{ι:Type}(ks:List Nat)(u:ι->List (Nat×A))(h:ι->List (Nat×Obj))(μ:ι->Nat)(xW:ι)(hn:Γ.nf<=σ.H.length)
 (h0:σ.le (qg σ ks (u xW) (h xW)))
 (hs: ∀i,lS P Γ c (Ag (fun τ=> ∃j,τ.le (qg σ ks (u j) (h j))/\μ j<μ i) Q) (qg σ ks (u i) (h i))):lS P Γ (.loop c) Q σ:=by
 have hl: ∀i,Γ.nf<=(qg σ ks (u i) (h i)).H.length:=fun i=>by show Γ.nf<=(yt σ.H (h i)).length;rw[BW];exact hn
 simp only[lS]
 refine⟨ι,fun i=>qg σ ks (u i) (h i),μ,⟨xW,.le (hl xW) h0⟩,fun i=> ?_⟩
 refine GL (fun e τ hq=> ?_) (hs i)
 cases e with
 |normal=>obtain⟨j,h1,h2⟩:=hq;exact⟨j,.le (hl j) h1,h2⟩
 |exit id=>exact hq
 |ret=>exact hq
theorem KA{P:Program}{Γ:aW}{c:Code}{Q:Ex->St->Prop}{σ:St}(d:Nat)(es:List A)(hd:look σ.s d= .clip es)
 (hw:lS P Γ (.loop c) Q ⟨(d,.ay es)::σ.s,σ.H⟩):lS P Γ (.loop c) Q σ:=by
 simp only[lS]at hw⊢;obtain⟨ι,inv,μ,⟨i,hi⟩,hs⟩:=hw;exact⟨ι,inv,μ,⟨i,.wk d es hd hi⟩,hs⟩
theorem ui{P:Program}{Γ:aW}{c:Code}{Q:Ex->St->Prop}{σ:St}(ρ:List Nat)(hn:ρ.Nodup)(hf: ∀n∈ρ,Γ.nf<=n)
 (hw:K? (uf ρ σ.H ρ) fun fc=>lS P Γ (.loop c) Q (M6 ρ fc σ)):lS P Γ (.loop c) Q σ:=by
 obtain⟨fc,hH,hw⟩:=hw;simp only[lS]at hw⊢;obtain⟨ι,inv,μ,⟨i,hi⟩,hs⟩:=hw;exact⟨ι,inv,μ,⟨i,.xk ρ fc hn hH hf hi⟩,hs⟩
theorem wpA_loopF{P:Program}{Γ:aW}{c:Code}{Q:Ex->St->Prop}{σ:St}{ι:Type}(ρ:List Nat)(yR:ρ.Nodup)(hf: ∀n∈ρ,Γ.nf<=n)(ks:List Nat)(u:ι->List (Nat×A))(h:ι->List (Nat×Obj))(μ:ι->Nat)(xW:ι)(hn:Γ.nf<=σ.H.length)
 (h0:σ.le (qg σ ks (u xW) (h xW)))
 (hs: ∀i,lS P Γ c (Ag (fun τ=> ∃j,(τ.le (qg σ ks (u j) (h j))\/K? (uf ρ τ.H ρ) fun fc=>(M6 ρ fc τ).le (qg σ ks (u j) (h j)))/\μ j<μ i) Q) (qg σ ks (u i) (h i))):lS P Γ (.loop c) Q σ:=by
 have hl: ∀i,Γ.nf<=(qg σ ks (u i) (h i)).H.length:=fun i=>by show Γ.nf<=(yt σ.H (h i)).length;rw[BW];exact hn
 simp only[lS]
 refine⟨ι,fun i=>qg σ ks (u i) (h i),μ,⟨xW,.le (hl xW) h0⟩,fun i=> ?_⟩
 refine GL (fun e τ hq=> ?_) (hs i)
 cases e with
 |normal=>
  obtain⟨j,h1,h2⟩:=hq;rcases h1 with h1|⟨fc,hH,h1⟩
  · exact⟨j,.le (hl j) h1,h2⟩
  · exact⟨j,.xk ρ fc yR hH hf (.le (hl j) h1),h2⟩
 |exit id=>exact hq
 |ret=>exact hq
@[go_sem] theorem frzSt_eq{ρ:List Nat}{fc:List Obj}{s:List (Nat×A)}{H:List Obj}:M6 ρ fc (St.mk s H)=⟨s.map (fun p=>(p.1,sh ρ fc p.2)),tq ρ ρ (H.map (Ow ρ fc))⟩:=rfl
theorem xo{P:Program}{Γ:aW}{c:Code}{Q:Ex->St->Prop}{σ:St}{ι:Type}(ks:List Nat)(u:ι->List (Nat×A))(h:ι->List Obj)(μ:ι->Nat)(xW:ι)(hn: ∀i,Γ.nf<=(h i).length)
 (h0:σ.le ⟨u xW++yr σ.s ks,h xW⟩)
 (hs: ∀i,lS P Γ c (Ag (fun τ=> ∃j,τ.le ⟨u j++yr σ.s ks,h j⟩/\μ j<μ i) Q) ⟨u i++yr σ.s ks,h i⟩):lS P Γ (.loop c) Q σ:=by
 simp only[lS]
 refine⟨ι,fun i=>⟨u i++yr σ.s ks,h i⟩,μ,⟨xW,.le (hn xW) h0⟩,fun i=> ?_⟩
 refine GL (fun e τ hq=> ?_) (hs i)
 cases e with
 |normal=>obtain⟨j,h1,h2⟩:=hq;exact⟨j,.le (hn j) h1,h2⟩
 |exit id=>exact hq
 |ret=>exact hq
theorem ch{P:Program}{Γ:aW}{c:Code}{Q:Ex->St->Prop}{σ:St}(d k:Nat)(hd:look σ.s d= .d_)
 (hw:lS P Γ (.loop c) Q ⟨(d,.row σ.H.length 0 k 0 false)::σ.s,σ.H++[.row k []]⟩):lS P Γ (.loop c) Q σ:=by
 simp only[lS]at hw⊢;obtain⟨ι,inv,μ,⟨i,hi⟩,hs⟩:=hw;exact⟨ι,inv,μ,⟨i,.nil d k hd hi⟩,hs⟩
theorem KB{P:Program}{Γ:aW}{c:Code}{Q:Ex->St->Prop}{σ:St}(m:Nat)(cs:List A)(hm:ff σ.H m=some (.box cs))
 (hw:lS P Γ (.loop c) Q ⟨σ.s,qe σ.H m (.box (cs.map nQ))⟩):lS P Γ (.loop c) Q σ:=by
 simp only[lS]at hw⊢;obtain⟨ι,inv,μ,⟨j,hj⟩,hs⟩:=hw;exact⟨ι,inv,μ,⟨j,.wkb m cs hm hj⟩,hs⟩
theorem KC{P:Program}{Γ:aW}{c:Code}{Q:Ex->St->Prop}{σ:St}(m i k:Nat)(cs:List A)(hm:ff σ.H m=some (.box cs))(hi:cs[i]? =some .d_)
 (hw:lS P Γ (.loop c) Q ⟨σ.s,qe σ.H m (.box (fE cs i (.row σ.H.length 0 k 0 false)))++[.row k []]⟩):lS P Γ (.loop c) Q σ:=by
 simp only[lS]at hw⊢;obtain⟨ι,inv,μ,⟨j,hj⟩,hs⟩:=hw;exact⟨ι,inv,μ,⟨j,.nilb m i k cs hm hi hj⟩,hs⟩
section
variable{σ τ:St}{s:List (Nat×A)}{ks:List Nat}{H G:List Obj}{d n k:Nat}{v a b:A}{o p:Obj}{cs ds:List A}
@[go_sem] theorem keepS_nil:yr s []=[]:=rfl
@[go_sem] theorem keepS_cons:yr s (d::ks)=(d,look s d)::yr s ks:=rfl
@[go_sem] theorem updsH_nil:yt H []=H:=rfl
@[go_sem] theorem updsH_cons{hs:List (Nat×Obj)}:yt H ((n,o)::hs)=yt (qe H n o) hs:=rfl
@[go_sem] theorem head_eq{σs:List (Nat×A)}{gh:List Obj}{u:List (Nat×A)}{hs:List (Nat×Obj)}:qg (St.mk σs gh) ks u hs={s:=u++yr σs ks,H:=yt gh hs}:=rfl
@[go_sem] theorem le_eq{s r:List (Nat×A)}{H G:List Obj}:(St.mk s H).le ⟨r,G⟩=(leS G.length s r/\yp G.length H G):=rfl
@[go_sem] theorem leS_nil:leS n s []=True:=rfl
@[go_sem] theorem leS_cons{r:List (Nat×A)}:leS n s ((d,v)::r)=((look s d=v/\v.under n=true)/\leS n s r):=rfl
@[go_sem] theorem leH_nil:yp n [] []=True:=by simp[yp]
@[go_sem] theorem leH_nil':yp n (o::H) []=True:=by simp[yp]
@[go_sem] theorem leH_cons:yp n (o::H) (p::G)=(Y4 n o p/\yp n H G):=by simp[yp]
@[go_sem] theorem leO_box:Y4 n (.box cs) (.box ds)=RI n cs ds:=by simp[Y4]
@[go_sem] theorem leO_row{j:Nat}:Y4 n (.row k cs) (.row j ds)=(k=j/\cs=ds):=by simp[Y4]
@[go_sem] theorem leL_nil:RI n [] []=True:=by simp[RI]
@[go_sem] theorem leL_cons:RI n (a::cs) (b::ds)=((b= .any\/(a=b/\b.under n=true))/\RI n cs ds):=by simp[RI]
end
attribute [go_sem] A.int.injEq A.bool.injEq A.str.injEq A.ay.injEq A.agg.injEq A.ref.injEq A.row.injEq A.fq.injEq A.fn.injEq
end Go.dF
namespace Go.Proofs.YtfnohjheonlnmaaGreat
open Go.dF
theorem mixed:Tryz.prog.follows .mixedOrders=true:=by kernel_rfl
@[go_sem] theorem tyStr3:lA Tryz.prog 3=false:=by kernel_rfl
@[go_sem] theorem tyBool3:lY Tryz.prog 3=false:=by kernel_rfl
@[go_sem] theorem tyPtr3:ow Tryz.prog 3=false:=by kernel_rfl
@[go_sem] theorem tyElem3:cP Tryz.prog 3=none:=by kernel_rfl
@[go_sem] theorem tySize3:cW Tryz.prog 3=some 1:=by kernel_rfl
@[go_sem] theorem tyAgg3:dS Tryz.prog 3=some false:=by kernel_rfl
@[go_sem] theorem tyInt3:u9 Tryz.prog 3=some .i64:=by kernel_rfl
@[go_sem] theorem tyBytes3:kB Tryz.prog 3=8:=by kernel_rfl
@[go_sem] theorem zeroA3:iR Tryz.prog 3=some (.int .i64 0):=by kernel_rfl
@[go_sem] theorem eqTy3:vl Tryz.prog 3=none:=by kernel_rfl
@[go_sem] theorem tyBool4:lY Tryz.prog 4=true:=by kernel_rfl
@[go_sem] theorem tyPtr4:ow Tryz.prog 4=false:=by kernel_rfl
@[go_sem] theorem tyElem4:cP Tryz.prog 4=none:=by kernel_rfl
@[go_sem] theorem tySize4:cW Tryz.prog 4=some 1:=by kernel_rfl
@[go_sem] theorem tyAgg4:dS Tryz.prog 4=some false:=by kernel_rfl
@[go_sem] theorem eqTy4:vl Tryz.prog 4=none:=by kernel_rfl
@[go_sem] theorem tyStr5:lA Tryz.prog 5=false:=by kernel_rfl
@[go_sem] theorem tyBool5:lY Tryz.prog 5=false:=by kernel_rfl
@[go_sem] theorem tyPtr5:ow Tryz.prog 5=false:=by kernel_rfl
@[go_sem] theorem tyElem5:cP Tryz.prog 5=none:=by kernel_rfl
@[go_sem] theorem tySize5:cW Tryz.prog 5=some 1:=by kernel_rfl
@[go_sem] theorem tyAgg5:dS Tryz.prog 5=some false:=by kernel_rfl
@[go_sem] theorem tyInt5:u9 Tryz.prog 5=some .u8:=by kernel_rfl
@[go_sem] theorem zeroA5:iR Tryz.prog 5=some (.int .u8 0):=by kernel_rfl
@[go_sem] theorem eqTy5:vl Tryz.prog 5=none:=by kernel_rfl
@[go_sem] theorem tyStr9:lA Tryz.prog 9=true:=by kernel_rfl
@[go_sem] theorem tyBool9:lY Tryz.prog 9=false:=by kernel_rfl
@[go_sem] theorem tyPtr9:ow Tryz.prog 9=false:=by kernel_rfl
@[go_sem] theorem tyElem9:cP Tryz.prog 9=none:=by kernel_rfl
@[go_sem] theorem tyArr9:jQ Tryz.prog 9=none:=by kernel_rfl
@[go_sem] theorem tySize9:cW Tryz.prog 9=some 1:=by kernel_rfl
@[go_sem] theorem tyAgg9:dS Tryz.prog 9=some false:=by kernel_rfl
@[go_sem] theorem tyBytes9:kB Tryz.prog 9=16:=by kernel_rfl
@[go_sem] theorem zeroA9:iR Tryz.prog 9=some (.str []):=by kernel_rfl
@[go_sem] theorem eqTy9:vl Tryz.prog 9=none:=by kernel_rfl
@[go_sem] theorem tyElem23:cP Tryz.prog 23=some 70:=by kernel_rfl
@[go_sem] theorem tySize23:cW Tryz.prog 23=some 1:=by kernel_rfl
@[go_sem] theorem tyAgg23:dS Tryz.prog 23=some false:=by kernel_rfl
@[go_sem] theorem zeroA23:iR Tryz.prog 23=some .d_:=by kernel_rfl
@[go_sem] theorem tyBool26:lY Tryz.prog 26=false:=by kernel_rfl
@[go_sem] theorem tyPtr26:ow Tryz.prog 26=false:=by kernel_rfl
@[go_sem] theorem tyElem26:cP Tryz.prog 26=some 50:=by kernel_rfl
@[go_sem] theorem tySize26:cW Tryz.prog 26=some 1:=by kernel_rfl
@[go_sem] theorem tyAgg26:dS Tryz.prog 26=some false:=by kernel_rfl
@[go_sem] theorem zeroA26:iR Tryz.prog 26=some .d_:=by kernel_rfl
@[go_sem] theorem eqTy26:vl Tryz.prog 26=none:=by kernel_rfl
@[go_sem] theorem tyElem27:cP Tryz.prog 27=some 139:=by kernel_rfl
@[go_sem] theorem tySize27:cW Tryz.prog 27=some 1:=by kernel_rfl
@[go_sem] theorem tyAgg27:dS Tryz.prog 27=some false:=by kernel_rfl
@[go_sem] theorem zeroA27:iR Tryz.prog 27=some .d_:=by kernel_rfl
@[go_sem] theorem tyArr29:jQ Tryz.prog 29=none:=by kernel_rfl
@[go_sem] theorem tySize29:cW Tryz.prog 29=some 5:=by kernel_rfl
@[go_sem] theorem tyAgg29:dS Tryz.prog 29=some true:=by kernel_rfl
@[go_sem] theorem allSized29:mv Tryz.prog 29=true:=by kernel_rfl
@[go_sem] theorem zeroA29:iR Tryz.prog 29=some (.agg [.int .i64 0,.d_,.d_,.d_,.int .i64 0]):=by kernel_rfl
@[go_sem] theorem fi29_0:fieldInfo Tryz.prog 29 0=some (0,3):=by kernel_rfl
@[go_sem] theorem fi29_1:fieldInfo Tryz.prog 29 1=some (1,26):=by kernel_rfl
@[go_sem] theorem fi29_2:fieldInfo Tryz.prog 29 2=some (2,23):=by kernel_rfl
@[go_sem] theorem fi29_3:fieldInfo Tryz.prog 29 3=some (3,27):=by kernel_rfl
@[go_sem] theorem fi29_4:fieldInfo Tryz.prog 29 4=some (4,3):=by kernel_rfl
@[go_sem] theorem tyBool32:lY Tryz.prog 32=false:=by kernel_rfl
@[go_sem] theorem tyPtr32:ow Tryz.prog 32=false:=by kernel_rfl
@[go_sem] theorem tyElem32:cP Tryz.prog 32=none:=by kernel_rfl
@[go_sem] theorem eqTy32:vl Tryz.prog 32=none:=by kernel_rfl
@[go_sem] theorem tyBool50:lY Tryz.prog 50=false:=by kernel_rfl
@[go_sem] theorem tyPtr50:ow Tryz.prog 50=false:=by kernel_rfl
@[go_sem] theorem tyElem50:cP Tryz.prog 50=none:=by kernel_rfl
@[go_sem] theorem tyArr50:jQ Tryz.prog 50=none:=by kernel_rfl
@[go_sem] theorem tySize50:cW Tryz.prog 50=some 3:=by kernel_rfl
@[go_sem] theorem tyAgg50:dS Tryz.prog 50=some true:=by kernel_rfl
@[go_sem] theorem tyBytes50:kB Tryz.prog 50=40:=by kernel_rfl
@[go_sem] theorem allSized50:mv Tryz.prog 50=true:=by kernel_rfl
@[go_sem] theorem zeroA50:iR Tryz.prog 50=some (.agg [.str [],.str [],.bool false]):=by kernel_rfl
@[go_sem] theorem eqTy50:vl Tryz.prog 50=some [.str,.str,.bool]:=by kernel_rfl
@[go_sem] theorem fi50_0:fieldInfo Tryz.prog 50 0=some (0,9):=by kernel_rfl
@[go_sem] theorem fi50_1:fieldInfo Tryz.prog 50 1=some (1,9):=by kernel_rfl
@[go_sem] theorem fi50_2:fieldInfo Tryz.prog 50 2=some (2,4):=by kernel_rfl
@[go_sem] theorem tyBool62:lY Tryz.prog 62=false:=by kernel_rfl
@[go_sem] theorem tyPtr62:ow Tryz.prog 62=false:=by kernel_rfl
@[go_sem] theorem tyElem62:cP Tryz.prog 62=none:=by kernel_rfl
@[go_sem] theorem tySize62:cW Tryz.prog 62=some 1:=by kernel_rfl
@[go_sem] theorem tyAgg62:dS Tryz.prog 62=some false:=by kernel_rfl
@[go_sem] theorem eqTy62:vl Tryz.prog 62=none:=by kernel_rfl
@[go_sem] theorem tyElem63:cP Tryz.prog 63=none:=by kernel_rfl
@[go_sem] theorem tyArr63:jQ Tryz.prog 63=some (2,62):=by kernel_rfl
@[go_sem] theorem tyBool68:lY Tryz.prog 68=false:=by kernel_rfl
@[go_sem] theorem tyPtr68:ow Tryz.prog 68=false:=by kernel_rfl
@[go_sem] theorem tyElem68:cP Tryz.prog 68=none:=by kernel_rfl
@[go_sem] theorem tyArr68:jQ Tryz.prog 68=none:=by kernel_rfl
@[go_sem] theorem tySize68:cW Tryz.prog 68=some 2:=by kernel_rfl
@[go_sem] theorem tyAgg68:dS Tryz.prog 68=some true:=by kernel_rfl
@[go_sem] theorem tyBytes68:kB Tryz.prog 68=16:=by kernel_rfl
@[go_sem] theorem allSized68:mv Tryz.prog 68=true:=by kernel_rfl
@[go_sem] theorem zeroA68:iR Tryz.prog 68=some (.agg [.int .i64 0,.int .i64 0]):=by kernel_rfl
@[go_sem] theorem eqTy68:vl Tryz.prog 68=some [.int .i64,.int .i64]:=by kernel_rfl
@[go_sem] theorem fi68_0:fieldInfo Tryz.prog 68 0=some (0,3):=by kernel_rfl
@[go_sem] theorem fi68_1:fieldInfo Tryz.prog 68 1=some (1,3):=by kernel_rfl
@[go_sem] theorem tyBool70:lY Tryz.prog 70=false:=by kernel_rfl
@[go_sem] theorem tyPtr70:ow Tryz.prog 70=false:=by kernel_rfl
@[go_sem] theorem tyElem70:cP Tryz.prog 70=none:=by kernel_rfl
@[go_sem] theorem tyArr70:jQ Tryz.prog 70=none:=by kernel_rfl
@[go_sem] theorem tySize70:cW Tryz.prog 70=some 7:=by kernel_rfl
@[go_sem] theorem tyAgg70:dS Tryz.prog 70=some true:=by kernel_rfl
@[go_sem] theorem tyBytes70:kB Tryz.prog 70=72:=by kernel_rfl
@[go_sem] theorem allSized70:mv Tryz.prog 70=true:=by kernel_rfl
@[go_sem] theorem zeroA70:iR Tryz.prog 70=some (.agg [.str [],.int .i64 0,.int .i64 0,.int .i64 0,.int .i64 0,.bool false,.str []]):=by kernel_rfl
@[go_sem] theorem eqTy70:vl Tryz.prog 70=some [.str,.int .i64,.int .i64,.int .i64,.int .i64,.bool,.str]:=by kernel_rfl
@[go_sem] theorem fi70_0:fieldInfo Tryz.prog 70 0=some (0,9):=by kernel_rfl
@[go_sem] theorem fi70_1:fieldInfo Tryz.prog 70 1=some (1,68):=by kernel_rfl
@[go_sem] theorem fi70_2:fieldInfo Tryz.prog 70 2=some (3,3):=by kernel_rfl
@[go_sem] theorem fi70_3:fieldInfo Tryz.prog 70 3=some (4,3):=by kernel_rfl
@[go_sem] theorem fi70_4:fieldInfo Tryz.prog 70 4=some (5,4):=by kernel_rfl
@[go_sem] theorem fi70_5:fieldInfo Tryz.prog 70 5=some (6,9):=by kernel_rfl
@[go_sem] theorem tyStr113:lA Tryz.prog 113=false:=by kernel_rfl
@[go_sem] theorem tyElem113:cP Tryz.prog 113=some 9:=by kernel_rfl
@[go_sem] theorem tyArr113:jQ Tryz.prog 113=none:=by kernel_rfl
@[go_sem] theorem tyArr119:jQ Tryz.prog 119=none:=by kernel_rfl
@[go_sem] theorem allSized119:mv Tryz.prog 119=true:=by kernel_rfl
@[go_sem] theorem zeroA119:iR Tryz.prog 119=some (.agg [.int .i64 0,.d_,.d_,.d_,.int .i64 0,.int .i64 0,.d_,.d_,.d_,.int .i64 0]):=by kernel_rfl
@[go_sem] theorem fi119_0:fieldInfo Tryz.prog 119 0=some (0,29):=by kernel_rfl
@[go_sem] theorem fi119_1:fieldInfo Tryz.prog 119 1=some (5,29):=by kernel_rfl
@[go_sem] theorem tyStr134:lA Tryz.prog 134=false:=by kernel_rfl
@[go_sem] theorem tyElem134:cP Tryz.prog 134=some 68:=by kernel_rfl
@[go_sem] theorem tyArr134:jQ Tryz.prog 134=none:=by kernel_rfl
@[go_sem] theorem tyElem137:cP Tryz.prog 137=some 143:=by kernel_rfl
@[go_sem] theorem tySize137:cW Tryz.prog 137=some 1:=by kernel_rfl
@[go_sem] theorem tyAgg137:dS Tryz.prog 137=some false:=by kernel_rfl
@[go_sem] theorem tyArr139:jQ Tryz.prog 139=none:=by kernel_rfl
@[go_sem] theorem tySize139:cW Tryz.prog 139=some 4:=by kernel_rfl
@[go_sem] theorem tyAgg139:dS Tryz.prog 139=some true:=by kernel_rfl
@[go_sem] theorem tyBytes139:kB Tryz.prog 139=64:=by kernel_rfl
@[go_sem] theorem allSized139:mv Tryz.prog 139=true:=by kernel_rfl
@[go_sem] theorem zeroA139:iR Tryz.prog 139=some (.agg [.str [],.str [],.bool false,.d_]):=by kernel_rfl
@[go_sem] theorem fi139_0:fieldInfo Tryz.prog 139 0=some (0,50):=by kernel_rfl
@[go_sem] theorem fi139_1:fieldInfo Tryz.prog 139 1=some (3,137):=by kernel_rfl
@[go_sem] theorem tyBool141:lY Tryz.prog 141=false:=by kernel_rfl
@[go_sem] theorem tyPtr141:ow Tryz.prog 141=false:=by kernel_rfl
@[go_sem] theorem tyElem141:cP Tryz.prog 141=some 146:=by kernel_rfl
@[go_sem] theorem tySize141:cW Tryz.prog 141=some 1:=by kernel_rfl
@[go_sem] theorem tyAgg141:dS Tryz.prog 141=some false:=by kernel_rfl
@[go_sem] theorem eqTy141:vl Tryz.prog 141=none:=by kernel_rfl
@[go_sem] theorem tyArr143:jQ Tryz.prog 143=none:=by kernel_rfl
@[go_sem] theorem tySize143:cW Tryz.prog 143=some 2:=by kernel_rfl
@[go_sem] theorem tyAgg143:dS Tryz.prog 143=some true:=by kernel_rfl
@[go_sem] theorem tyBytes143:kB Tryz.prog 143=32:=by kernel_rfl
@[go_sem] theorem allSized143:mv Tryz.prog 143=true:=by kernel_rfl
@[go_sem] theorem zeroA143:iR Tryz.prog 143=some (.agg [.int .i64 0,.d_]):=by kernel_rfl
@[go_sem] theorem fi143_0:fieldInfo Tryz.prog 143 0=some (0,3):=by kernel_rfl
@[go_sem] theorem fi143_1:fieldInfo Tryz.prog 143 1=some (1,141):=by kernel_rfl
@[go_sem] theorem tyBool146:lY Tryz.prog 146=false:=by kernel_rfl
@[go_sem] theorem tyPtr146:ow Tryz.prog 146=false:=by kernel_rfl
@[go_sem] theorem tyElem146:cP Tryz.prog 146=none:=by kernel_rfl
@[go_sem] theorem tyArr146:jQ Tryz.prog 146=none:=by kernel_rfl
@[go_sem] theorem tySize146:cW Tryz.prog 146=some 2:=by kernel_rfl
@[go_sem] theorem tyAgg146:dS Tryz.prog 146=some true:=by kernel_rfl
@[go_sem] theorem tyBytes146:kB Tryz.prog 146=16:=by kernel_rfl
@[go_sem] theorem allSized146:mv Tryz.prog 146=true:=by kernel_rfl
@[go_sem] theorem zeroA146:iR Tryz.prog 146=some (.agg [.int .i64 0,.int .i64 0]):=by kernel_rfl
@[go_sem] theorem eqTy146:vl Tryz.prog 146=some [.int .i64,.int .i64]:=by kernel_rfl
@[go_sem] theorem fi146_0:fieldInfo Tryz.prog 146 0=some (0,3):=by kernel_rfl
@[go_sem] theorem fi146_1:fieldInfo Tryz.prog 146 1=some (1,3):=by kernel_rfl
@[go_sem] theorem tyElem193:cP Tryz.prog 193=some 23:=by kernel_rfl
@[go_sem] theorem tyElem195:cP Tryz.prog 195=some 27:=by kernel_rfl
@[go_sem] theorem tyStr198:lA Tryz.prog 198=false:=by kernel_rfl
@[go_sem] theorem tyElem198:cP Tryz.prog 198=some 5:=by kernel_rfl
@[go_sem] theorem tyElem200:cP Tryz.prog 200=none:=by kernel_rfl
@[go_sem] theorem tyArr200:jQ Tryz.prog 200=some (16,141):=by kernel_rfl
@[go_sem] theorem tySize200:cW Tryz.prog 200=some 16:=by kernel_rfl
@[go_sem] theorem tyAgg200:dS Tryz.prog 200=some true:=by kernel_rfl
@[go_sem] theorem zeroA200:iR Tryz.prog 200=some (.agg [.d_,.d_,.d_,.d_,.d_,.d_,.d_,.d_,.d_,.d_,.d_,.d_,.d_,.d_,.d_,.d_]):=by kernel_rfl
@[go_sem] theorem tyStr224:lA Tryz.prog 224=false:=by kernel_rfl
@[go_sem] theorem tyElem224:cP Tryz.prog 224=some 3:=by kernel_rfl
@[go_sem] theorem tyArr224:jQ Tryz.prog 224=none:=by kernel_rfl
@[go_sem] theorem tyStr228:lA Tryz.prog 228=false:=by kernel_rfl
@[go_sem] theorem tyBool228:lY Tryz.prog 228=false:=by kernel_rfl
@[go_sem] theorem tyPtr228:ow Tryz.prog 228=false:=by kernel_rfl
@[go_sem] theorem tyElem228:cP Tryz.prog 228=none:=by kernel_rfl
@[go_sem] theorem tyAgg228:dS Tryz.prog 228=some false:=by kernel_rfl
@[go_sem] theorem tyInt228:u9 Tryz.prog 228=some .u64:=by kernel_rfl
@[go_sem] theorem eqTy228:vl Tryz.prog 228=none:=by kernel_rfl
@[go_sem] theorem tyStr248:lA Tryz.prog 248=false:=by kernel_rfl
@[go_sem] theorem tyBool248:lY Tryz.prog 248=false:=by kernel_rfl
@[go_sem] theorem tyPtr248:ow Tryz.prog 248=false:=by kernel_rfl
@[go_sem] theorem tyElem248:cP Tryz.prog 248=none:=by kernel_rfl
@[go_sem] theorem tyAgg248:dS Tryz.prog 248=some false:=by kernel_rfl
@[go_sem] theorem eqTy248:vl Tryz.prog 248=none:=by kernel_rfl
@[go_sem] theorem tyArr270:jQ Tryz.prog 270=some (2,26):=by kernel_rfl
@[go_sem] theorem zeroA270:iR Tryz.prog 270=some (.agg [.d_,.d_]):=by kernel_rfl
@[go_sem] theorem zeroOK3:oz Tryz.prog 3 1=true:=by kernel_rfl
@[go_sem] theorem zeroOK9:oz Tryz.prog 9 1=true:=by kernel_rfl
@[go_sem] theorem zeroOK50:oz Tryz.prog 50 3=true:=by kernel_rfl
@[go_sem] theorem zeroOK68:oz Tryz.prog 68 2=true:=by kernel_rfl
@[go_sem] theorem zeroOK70:oz Tryz.prog 70 7=true:=by kernel_rfl
@[go_sem] theorem zeroOK139:oz Tryz.prog 139 4=true:=by kernel_rfl
@[go_sem] theorem zeroOK143:oz Tryz.prog 143 2=true:=by kernel_rfl
@[go_sem] theorem zeroOK146:oz Tryz.prog 146 2=true:=by kernel_rfl
end Go.Proofs.YtfnohjheonlnmaaGreat
namespace Go.dF
open Go.RowKit
theorem db{E:Env}: ∀{cs:List A} {vs:List Value},cH E cs vs ↔ cs.length=vs.length/\ ∀(i:Nat) (x:A) (v:Value),cs[i]? =some x->vs[i]? =some v->bU E x v
 | [],vs=>by
  simp only[cH]
  constructor
  · rintro rfl;exact⟨rfl,fun i x v h=>by simp at h⟩
  · rintro⟨h,_⟩;exact aV.1 h.symm
 |c::cs,vs=>by
  simp only[cH]
  constructor
  · rintro⟨v,qC,rfl,hc,hl⟩
    obtain⟨h1,h2⟩:=db.1 hl;refine⟨by simp[h1],fun i x u hx hu=> ?_⟩
    cases i with
    |zero=>simp at hx hu;subst hx;subst hu;exact hc
    |succ i=>exact h2 i x u (by simpa using hx) (by simpa using hu)
  · rintro⟨h1,h2⟩
    cases vs with
    |nil=>simp at h1
    |cons v vs=>exact⟨v,vs,rfl,h2 0 c v rfl rfl,db.2 ⟨by simpa using h1,fun i x u hx hu=>h2 (i+1) x u (by simpa using hx) (by simpa using hu)⟩⟩
theorem dc{E:Env}{b:Nat}: ∀{cs:List A} {off:Nat},lX E b off cs ↔∀(i:Nat) (x:A),cs[i]? =some x-> ∃v,E.w.cell? ⟨b,off+i,none⟩=some v/\v.oneCell'=true/\bU E x v
 | [],off=>by simp[lX]
 |c::cs,off=>by
  simp only[lX]
  constructor
  · rintro⟨h1,h2⟩ i x hx
    cases i with
    |zero=>simp at hx;subst hx;simpa using h1
    |succ i=>
     have:=dc.1 h2 i x (by simpa using hx)
     rwa [show off+1+i=off+(i+1) by omega]at this
  · intro h
    refine⟨by simpa using h 0 c rfl,dc.2 fun i x hx=> ?_⟩
    have:=h (i+1) x (by simpa using hx)
    rwa [show off+(i+1)=off+1+i by omega]at this
theorem R9{E:Env}{b off:Nat}{x:A}:lX E b off [x] ↔∃v,E.w.cell? ⟨b,off,none⟩=some v/\v.oneCell'=true/\bU E x v:=by simp[lX]
theorem tt{E:Env}{k b off:Nat}{e:A}{es:List A}:jR E k b off (e::es) ↔ (e.cells.length=k/\lX E b off e.cells)/\jR E k b (off+k) es:=by
 cases e
 case agg cs=>rw[RW];simp[A.cells]
 all_goals
  simp only[jR,A.cells,lX,aG,bC,bY,and_true]
  constructor
  · rintro⟨⟨h1,h2⟩,h3⟩;exact⟨⟨h1.symm,h2⟩,h3⟩
  · rintro⟨⟨h1,h2⟩,h3⟩;exact⟨⟨h1.symm,h2⟩,h3⟩
theorem gO{E:Env}{k b:Nat}: ∀{es:List A} {off:Nat},jR E k b off es ↔∀(i:Nat) (e:A),es[i]? =some e->e.cells.length=k/\lX E b (off+i*k) e.cells
 | [],off=>by simp[jR]
 |e::es,off=>by
  rw[tt]
  constructor
  · rintro⟨h1,h2⟩ i x hx
    cases i with
    |zero=>simp at hx;subst hx;simpa using h1
    |succ i=>
     have:=gO.1 h2 i x (by simpa using hx)
     rwa [show off+k+i*k=off+(i+1)*k by rw[cJ];omega]at this
  · intro h
    refine⟨by simpa using h 0 e rfl,gO.2 fun i x hx=> ?_⟩
    have:=h (i+1) x (by simpa using hx)
    rwa [show off+(i+1)*k=off+k+i*k by rw[cJ];omega]at this
theorem nS{E:Env}{b off n:Nat}{cs:List A}(h:lX E b off cs):lX E b (off+n) (cs.drop n):=
 dc.2 fun i x hx=>by
  have:=dc.1 h (n+i) x (by simpa[eB]using hx)
  rwa [show off+(n+i)=off+n+i by omega]at this
theorem RepM_take{E:Env}{b off n:Nat}{cs:List A}(h:lX E b off cs):lX E b off (cs.take n):=
 dc.2 fun i x hx=>dc.1 h i x (by
  rw[eC]at hx;split at hx
  · exact hx
  · simp at hx)
theorem BX{E:Env}{k b off n:Nat}{es:List A}(h:jR E k b off es):jR E k b (off+n*k) (es.drop n):=
 gO.2 fun i x hx=>by
  have:=gO.1 h (n+i) x (by simpa[eB]using hx)
  rwa [show off+(n+i)*k=off+n*k+i*k by rw[cJ];omega]at this
theorem tu{E:Env}{k b off n:Nat}{es:List A}(h:jR E k b off es):jR E k b off (es.take n):=
 gO.2 fun i x hx=>gO.1 h i x (by
  rw[eC]at hx;split at hx
  · exact hx
  · simp at hx)
theorem xp{E:Env}{b:Nat}: ∀{cs:List A} {off:Nat},lX E b off cs-> ∃vs:List Value,E.w.rangeAt b off vs/\cH E cs vs/\ ∀u∈vs,u.oneCell'=true
 | [],off,_=>⟨[],fun j v h=>by simp at h,by simp[cH],by simp⟩
 |c::cs,off,h=>by
  simp only[lX]at h;obtain⟨⟨v,hv,h1,hc⟩,hl⟩:=h;obtain⟨vs,hr,hL,gw⟩:=xp hl;refine⟨v::vs,fun j u hu=> ?_,by simp only[cH];exact⟨v,vs,rfl,hc,hL⟩, ?_⟩
  · cases j with
    |zero=>simp at hu;subst hu;simpa using hv
    |succ j=>
     have:=hr j u (by simpa using hu)
     rwa [show off+1+j=off+(j+1) by omega]at this
  · intro u hu
    rcases aD.1 hu with rfl|hu
    · exact h1
    · exact gw u hu
theorem uj{E:Env}{b:Nat}: ∀{cs:List A} {off:Nat} {vs:List Value},E.w.rangeAt b off vs->cH E cs vs->(∀u∈vs,u.oneCell'=true)->lX E b off cs:=by
 intro cs off vs hr hL h1;obtain⟨hlen,fY⟩:=db.1 hL;refine dc.2 fun i x hx=> ?_;have hi:i<vs.length:=by rw[<-hlen];exact(aA.1 hx).1
 have hv:vs[i]? =some vs[i]:=ae hi;exact⟨vs[i],hr i _ hv,h1 _ (ao hi),fY i x _ hx hv⟩
theorem BY{E:Env}{n:Nat}: ∀{cs:List A} {vs:List Value},cH E cs vs->cH E (cs.take n) (vs.take n):=by
 intro cs vs h;obtain⟨h1,h2⟩:=db.1 h;refine db.2 ⟨by simp[h1],fun i x v hx hv=> ?_⟩
 rw[eC]at hx hv;split at hx
 · rename_i hi;rw[if_pos hi]at hv;exact h2 i x v hx hv
 · simp at hx
theorem BZ{E:Env}{n:Nat}: ∀{cs:List A} {vs:List Value},cH E cs vs->cH E (cs.drop n) (vs.drop n):=by
 intro cs vs h;obtain⟨h1,h2⟩:=db.1 h;refine db.2 ⟨by simp[h1],fun i x v hx hv=> ?_⟩
 rw[eB]at hx hv;exact h2 _ x v hx hv
theorem nT{E:Env}: ∀{cs ds:List A} {vs us:List Value},cH E cs vs->cH E ds us->cH E (cs++ds) (vs++us)
 | [],ds,vs,us,h,h'=>by simp only[cH]at h;subst h;simpa using h'
 |c::cs,ds,vs,us,h,h'=>by
  simp only[cH]at h;obtain⟨v,qC,rfl,hc,hl⟩:=h;simp only[bF,cH]
  exact⟨v,qC++us,rfl,hc,nT hl h'⟩
theorem nU{E:Env}{x:A}{v:Value}(h:bU E x v)(hv:x.val=true):cH E x.cells v.cells.toList/\(∀u∈v.cells.toList,u.oneCell'=true)/\v.cells.size=x.cells.length:=by
 cases x
 case any=>simp[A.val]at hv
 case fq=>simp[A.val]at hv
 case agg cs=>
  simp only[bU]at h;obtain⟨vs,rfl,hl,h1⟩:=h;simp only[Value.cells,A.cells]
  exact⟨by simpa using hl,by simpa using h1,by simpa using(db.1 hl).1.symm⟩
 case ay es=>
  have h0:=h;simp only[bU]at h;obtain⟨_,a,cap,rfl,_⟩:=h;simp only[Value.cells,A.cells,cH]
  exact⟨⟨_,[],rfl,h0,rfl⟩,by simp[Value.oneCell'],rfl⟩
 case clip es=>
  have h0:=h;simp only[bU]at h;obtain⟨_,a,rfl,_⟩:=h;simp only[Value.cells,A.cells,cH]
  exact⟨⟨_,[],rfl,h0,rfl⟩,by simp[Value.oneCell'],rfl⟩
 case iU es=>
  have h0:=h;simp only[bU]at h;obtain⟨_,a,off,rfl,_⟩:=h;simp only[Value.cells,A.cells,cH]
  exact⟨⟨_,[],rfl,h0,rfl⟩,by simp[Value.oneCell'],rfl⟩
 case emp c=>
  have h0:=h;simp only[bU]at h;obtain⟨q,cap,rfl,_⟩:=h;simp only[Value.cells,A.cells,cH]
  exact⟨⟨_,[],rfl,h0,rfl⟩,by simp[Value.oneCell'],rfl⟩
 case ref n off=>
  have h0:=h;simp only[bU]at h;obtain⟨b,k,_,rfl⟩:=h;simp only[Value.cells,A.cells,cH]
  exact⟨⟨_,[],rfl,h0,rfl⟩,by simp[Value.oneCell'],rfl⟩
 case mu n i off=>
  have h0:=h;simp only[bU]at h;obtain⟨b,k,_,rfl⟩:=h;simp only[Value.cells,A.cells,cH]
  exact⟨⟨_,[],rfl,h0,rfl⟩,by simp[Value.oneCell'],rfl⟩
 case row n off k len c=>
  have h0:=h;simp only[bU]at h;rcases h with⟨o,_,_,_,_,a,rfl⟩|⟨b,cap,c,e,fr,_,rfl,_⟩
  all_goals
   simp only[Value.cells,A.cells,cH]
   exact⟨⟨_,[],rfl,h0,rfl⟩,by simp[Value.oneCell'],rfl⟩
 case fn f cs=>
  have h0:=h;simp only[bU]at h;obtain⟨vs,rfl,_⟩:=h;simp only[Value.cells,A.cells,cH]
  exact⟨⟨_,[],rfl,h0,rfl⟩,by simp[Value.oneCell'],rfl⟩
 all_goals
  have h0:=h;simp only[bU]at h;subst h;simp only[Value.cells,A.cells,cH]
  exact⟨⟨_,[],rfl,h0,rfl⟩,by simp[Value.oneCell'],rfl⟩
def tv(c:Array Value)(fr:Nat×Nat):Prop:= ∀j,j<c.size-> ¬(fr.1<=j/\j<fr.2)
def cb(E:Env):Obj->ia->Prop
 | .box cs,.loc b _=>(∃c e fr,E.w.heap[b]? =some (.cells c e fr)/\tv c fr)/\lX E b 0 cs
 | .row k es,.loc b k'=>k=k'/\A.pure.cX es=true/\(∃c e fr,E.w.heap[b]? =some (.cells c e fr)/\tv c fr)/\jR E k b 0 es
 | .row _ es,.nil=>es=[]
 | .row k es,.free=>k=0/\es=[]
 | .box _,_=>False
def bB(N0:Nat->Prop)(φ:List ia)(w:World):Env:=⟨fun b=>N0 b\/ ∃n k:Nat,φ[n]? =some (ia.loc b k),φ,w⟩
structure pU extends World where
 M:Nat->Prop
 fix:Nat->Bool
 φ0:List ia
structure Kept(w0:pU)(w:World):Prop where
 os:w.os=w0.os
 tape:w.tape=w0.tape
 output:w.output=w0.output
 drawn:w0.drawn<=w.drawn
 size:w0.heap.size<=w.heap.size
 block: ∀b,b<w0.heap.size-> ¬w0.M b->w.heap[b]? =w0.heap[b]?
 shape: ∀(b:Nat) (c:Array Value) (e:TypeId) (fr:Nat×Nat),w0.heap[b]? =some (.cells c e fr)-> ∃c' VR,w.heap[b]? =some (.cells c' e VR)/\c'.size=c.size
structure cn(N0:Nat->Prop)(w0:pU)(nt:Nat)(σ:St)(φ:List ia)(a:Act)(w:World):Prop where
 gj: ∀d,bU (bB N0 φ w) (look σ.s d) (a.tmps.getD d undef)
 size:a.tmps.size=nt
 defers:a.defers=[]
 len:φ.length=σ.H.length
 gp: ∀(n:Nat) (o:Obj) (p:ia),ff σ.H n=some o->φ[n]? =some p->cb (bB N0 φ w) o p
 own: ∀n b k:Nat,φ[n]? =some (ia.loc b k)->(w0.heap.size<=b\/w0.M b)/\b<w.heap.size
 inj: ∀n m b k k':Nat,φ[n]? =some (ia.loc b k)->φ[m]? =some (ia.loc b k')->n=m
 n0: ∀b,N0 b->b<w0.heap.size/\ ¬w0.M b
 qE: ∀(n:Nat) (p:ia),w0.fix n=true->w0.φ0[n]? =some p->p≠ .free->φ[n]? =some p
 below:Kept w0 w
theorem dQ: ∀(H:List Obj) (n:Nat),ff H n=H[n]?
 | [],n=>by simp[ff]
 |x::xs,0=>by simp[ff]
 |x::xs,n+1=>by simp[ff,dQ xs n]
theorem ji: ∀(H:List Obj) (n:Nat) (o:Obj),qe H n o=H.set n o
 | [],n,o=>by simp[qe]
 |x::xs,0,o=>by simp[qe]
 |x::xs,n+1,o=>by simp[qe,ji xs n o]
theorem lT: ∀(H:List A) (n:Nat) (o:A),fE H n o=H.set n o
 | [],n,o=>by simp[fE]
 |x::xs,0,o=>by simp[fE]
 |x::xs,n+1,o=>by simp[fE,lT xs n o]
section
variable{N0:Nat->Prop}{w0:pU}{nt:Nat}{σ:St}{φ:List ia}{a:Act}{w:World}
theorem cb.mono{K:Nat->Prop}{E E':Env}(h:Ext K E E'){o:Obj}{p:ia}(hr:cb E o p)(hp: ∀b k,p=ia.loc b k-> ∀c e fr,E.w.heap[b]? =some (.cells c e fr)->E'.w.heap[b]? =some (.cells c e fr))
 (hk: ∀cs,o= .box cs-> ∀n,A.mem.lW n cs=true->K n):cb E' o p:=by
 cases o with
 |box cs=>
  cases p with
  |loc b k=>
   simp only[cb]at hr⊢;obtain⟨⟨c,e,fr,hc,hf⟩,hm⟩:=hr;have BK:=hp b k rfl c e fr hc;refine⟨⟨c,e,fr,BK,hf⟩,dc.2 fun i x hx=> ?_⟩
   obtain⟨v,hv,h1,fY⟩:=dc.1 hm i x hx;refine⟨v,by simpa only[World.cell?,hc,BK]using hv,h1,bU.mono h x v fY fun n hn=>hk cs rfl n ?_⟩
   have py:=cu hx;clear hx hm hk;induction cs with
   |nil=>simp at py
   |cons y ys ih=>
    rcases aD.1 py with rfl|oo
    · simp[A.mem.lW,hn]
    · simp[A.mem.lW,ih oo]
  |_=>simp[cb]at hr
 |row k es=>
  cases p with
  |loc b k'=>
   simp only[cb]at hr⊢;obtain⟨hkk,yu,⟨c,e,fr,hc,hf⟩,hm⟩:=hr;have BK:=hp b k' rfl c e fr hc;refine⟨hkk,yu,⟨c,e,fr,BK,hf⟩,gO.2 fun i x hx=> ?_⟩
   obtain⟨hl,hmm⟩:=gO.1 hm i x hx;refine⟨hl,dc.2 fun j y hy=> ?_⟩
   obtain⟨v,hv,h1,fY⟩:=dc.1 hmm j y hy;refine⟨v,by simpa only[World.cell?,hc,BK]using hv,h1,bU.mono h y v fY fun n hn=> ?_⟩
   exfalso
   have hpx:x.pure=true:=by
    have py:=cu hx;clear hx hm hk;induction es with
    |nil=>simp at py
    |cons z zs ih=>
     simp only[A.pure.cX,ak]at yu;rcases aD.1 py with rfl|oo
     · exact yu.1
     · exact ih yu.2 oo
   have hpy:y.pure=true:=by
    have py:=cu hy;cases x
    case agg cs=>
     simp only[A.pure]at hpx;simp only[A.cells]at py;clear hy hmm hl hx;induction cs with
     |nil=>simp at py
     |cons z zs ih=>
      simp only[A.pure.cX,ak]at hpx;rcases aD.1 py with rfl|oo
      · exact hpx.1
      · exact ih hpx.2 oo
    all_goals
     simp only[A.cells,bc]at py;subst py;exact hpx
   rw[A.su n y hpy]at hn;cases hn
  |nil=>simpa only[cb]using hr
  |free=>simpa only[cb]using hr
structure jT(w w':World):Prop where
 size:w.heap.size<=w'.heap.size
 block: ∀b,b<w.heap.size->w'.heap[b]? =w.heap[b]?
 os:w'.os=w.os
 tape:w'.tape=w.tape
 output:w'.output=w.output
 drawn:w.drawn<=w'.drawn
theorem jT.refl(w:World):jT w w:=⟨ai _,fun _ _=>rfl,rfl,rfl,rfl,ai _⟩
theorem jT.trans{w w' w'':World}(h:jT w w')(h':jT w' w''):jT w w'':=
 ⟨aL h.size h'.size,fun b hb=>(h'.block b (cG hb h.size)).trans (h.block b hb),h'.os.trans h.os,h'.tape.trans h.tape,h'.output.trans h.output,aL h.drawn h'.drawn⟩
theorem jT.alloc(w:World)(o:Go.Obj):jT w (w.alloc o):=⟨by simp,fun b hb=>Below.heap_alloc w o b hb,rfl,rfl,rfl,ai _⟩
theorem jT.drew(w:World):jT w w.drew:=⟨ai _,fun _ _=>rfl,rfl,rfl,rfl,rG _⟩
theorem jT.toBelow{w w':World}(g:jT w w'):Below w.heap.size w w':=⟨g.os,g.tape,g.output,g.size,g.block⟩
theorem Kept.refl(w0:pU):Kept w0 w0.toWorld:=⟨rfl,rfl,rfl,ai _,ai _,fun _ _ _=>rfl,fun _ c _ fr h=>⟨c,fr,h,rfl⟩⟩
theorem jT.below{w0:pU}{w w':World}(h:Kept w0 w)(g:jT w w'):Kept w0 w' where
 os:=g.os.trans h.os
 tape:=g.tape.trans h.tape
 output:=g.output.trans h.output
 drawn:=aL h.drawn g.drawn
 size:=aL h.size g.size
 block:=fun b hb hM=>(g.block b (cG hb h.size)).trans (h.block b hb hM)
 shape:=fun b c e fr hc=>by obtain⟨c',VR,h1,h2⟩:=h.shape b c e fr hc;have hb:b<w.heap.size:=(bR.1 h1).1;exact⟨c',VR,by rw[g.block b hb];exact h1,h2⟩
theorem cn.GN(h:cn N0 w0 nt σ φ a w){w':World}(g:jT w w'):Ext (fun _=>True) (bB N0 φ w) (bB N0 φ w') where
 size:=g.size
 RX:=fun b hb hn=>⟨hn,g.block b hb⟩
 refs:=fun n o _ ho _=>ho
 own:=fun n b k c e fr _ ho hc=>⟨c,fr,by have:=(h.own n b k ho).2;show w'.heap[b]? =_;rw[g.block b this];exact hc,rfl⟩
theorem cn.grew(h:cn N0 w0 nt σ φ a w){w':World}(g:jT w w'):cn N0 w0 nt σ φ a w' where
 gj:=fun d=>bU.mono (h.GN g) _ _ (h.gj d) (fun _ _=>trivial)
 size:=h.size
 defers:=h.defers
 len:=h.len
 gp:=fun n o p ho hp=>cb.mono (h.GN g) (h.gp n o p ho hp) (fun b k hb c e fr hc=>by subst hb;show w'.heap[b]? =_;rw[g.block b (h.own n b k hp).2];exact hc) (fun _ _ _ _=>trivial)
 own:=fun n b k hb=>⟨(h.own n b k hb).1,cG (h.own n b k hb).2 g.size⟩
 inj:=h.inj
 n0:=h.n0
 qE:=h.qE
 below:=g.below h.below
theorem cn.rep_grew(h:cn N0 w0 nt σ φ a w){w':World}(g:jT w w'){x:A}{v:Value}(hr:bU (bB N0 φ w) x v):bU (bB N0 φ w') x v:=
 bU.mono (h.GN g) x v hr (fun _ _=>trivial)
theorem getD_put{a:Act}{d:Nat}{v:Value}(hd:d<a.tmps.size)(t:Nat):(a.put (some d) v).tmps.getD t undef=if d=t then v else a.tmps.getD t undef:=by
 simp only[Act.put]
 by_cases ht:d=t
 · subst ht;simp[Array.getD,hd]
 · rw[if_neg ht]
   simp only[Array.getD_eq_getD_getElem?,Array.getElem?_setIfInBounds]
   rw[if_neg ht]
theorem cn.put(h:cn N0 w0 nt σ φ a w){d:Option Tmp}(hd: ∀t,d=some t->t<nt){x:A}{v:Value}(hr:bU (bB N0 φ w) x v):
 cn N0 w0 nt (σ.put d x) φ (a.put d v) w:=by
 cases d with
 |none=>exact h
 |some d=>
  have hd':d<a.tmps.size:=by rw[h.size];exact hd d rfl
  exact{h with
   gj:=fun t=>by
    rw[getD_put hd' t]
    show bU _ (look ((d,x)::σ.s) t) _;simp only[look]
    split
    · exact hr
    · exact h.gj t
   size:=by simp only[Act.put,Array.size_setIfInBounds];exact h.size
   defers:=h.defers}
theorem B0(E:Env):bU E (.fq []) undef:=by simp[bU,cH,undef]
theorem R_(E:Env)(v:Value):bU E (toA1 v) v:=by
 unfold toA1
 split<;>first
  |(simp only[bU];done)
  |(simp[bU,cH];done)
  |(simp only[bU];exact⟨[],rfl,by simp[cH]⟩)
theorem OA(E:Env)(v:Value):bU E (toA v) v:=by
 unfold toA;split
 · rename_i cs
   split
   · rename_i nn
     simp only[bU]
     refine⟨cs,rfl,db.2 ⟨by simp,fun i x u hx hu=> ?_⟩,fun u hu=>cw.1 nn u hu⟩
     rw[aT,hu]at hx;simp at hx;subst hx;exact R_ E u
   · simp only[bU]
 · exact R_ E v
theorem cn.ev(h:cn N0 w0 nt σ φ a w)(x:Operand):bU (bB N0 φ w) (σ.ev x) (a.eval x):=by
 match x with
 | .tmp t=>exact h.gj t
 | .const v=>exact OA _ v
 | .func f=>simp only[St.ev,Act.eval,bU];exact⟨[],rfl,by simp[cH]⟩
 | .global g=>simp only[St.ev,bU]
end
end Go.dF
namespace Go.dF
open Go.RowKit
section
variable{P:Program}{w:World}
theorem GO{t:TypeId}(h:dS P t=some true): ∃d,P.underlying t=some d/\d.isRow=true:=by
 unfold dS at h
 split at h<;>first
  |(rename_i hu;exact⟨_,hu,rfl⟩)
  |simp at h
theorem Sa{t:TypeId}(h:dS P t=some false): ∃d,P.underlying t=some d/\d.isRow=false:=by
 unfold dS at h;split at h
 · simp at h
 · simp at h
 · rename_i d h1 h2 hu
   refine⟨d,hu, ?_⟩
   cases d<;>first|rfl|(exact(h1 _ rfl).elim)|(exact(h2 _ _ rfl).elim)
 · simp at h
theorem rH{t:TypeId}(h:dS P t=some true):(isAgg t).run P w= .ok true w:=by
 obtain⟨d,hu,hd⟩:=GO h;unfold isAgg;rw[Sem.run_bind,run_underlying hu w]
 cases d<;>simp_all
theorem nB{t:TypeId}(h:dS P t=some false):(isAgg t).run P w= .ok false w:=by
 obtain⟨d,hu,hd⟩:=Sa h;unfold isAgg;rw[Sem.run_bind,run_underlying hu w]
 cases d<;>simp_all
theorem run_sizeOf{t n:Nat}(h:cW P t=some n):(sizeOf t).run P w= .ok n w:=by
 unfold cW at h;cases hq:P.info? t with
 |none=>simp[hq]at h
 |some i=>simp[hq]at h;simp[sizeOf,typeInfo,hq,h]
theorem iS{t e:Nat}(h:cP P t=some e):P.underlying t=some (.slice e):=by
 unfold cP at h;split at h
 · rename_i hu;simp at h;subst h;exact hu
 · simp at h
theorem Ah{t n e:Nat}(h:jQ P t=some (n,e)):P.underlying t=some (.array n e):=by
 unfold jQ at h;split at h
 · rename_i hu;simp at h;obtain⟨rfl,rfl⟩:=h;exact hu
 · simp at h
theorem oE{t:Nat}(h:lA P t=true):P.underlying t=some .string:=by
 unfold lA at h;split at h
 · assumption
 · simp at h
theorem GP{t:Nat}{k:IntKind}(h:u9 P t=some k):P.underlying t=some (.int k):=by
 unfold u9 at h;split at h
 · rename_i hu;simp at h;subst h;exact hu
 · simp at h
theorem Sb{t:Nat}(h:ow P t=true): ∃e,P.underlying t=some (.pointer e):=by
 unfold ow at h;split at h
 · rename_i e hu;exact⟨e,hu⟩
 · simp at h
theorem uk{s f o t:Nat}(h:fieldInfo P s f=some (o,t)):
 ∃fs x n,P.underlying s=some (.struct fs)/\fs[f]? =some x/\x.offset=o/\x.type=t/\cW P t=some n/\n≠0:=by
 unfold fieldInfo at h;split at h
 · rename_i fs hu
   cases hx:fs[f]? with
   |none=>simp[hx]at h
   |some x=>
    simp only[hx,aY]at h;split at h
    · simp at h
    · rename_i h0
      split at h
      · simp at h
      · rename_i h1
        simp at h;obtain⟨rfl,rfl⟩:=h;cases hs:cW P x.type with
        |none=>simp[hs]at h1
        |some n=>exact⟨fs,x,n,hu,hx,rfl,rfl,rfl,fun hn=>h0 (by rw[hs,hn])⟩
 · simp at h
theorem DD{s:Sem Value}{v:Value}{w':World}(h:s.run P w= .ok v w'):(do pure (Next.value (<-s)):Sem Next).run P w= .ok (.value v) w':=by simp[h]
theorem run_u{s:Sem Unit}{w':World}(h:s.run P w= .ok () w'):(do s;pure Next.skip:Sem Next).run P w= .ok .skip w':=by simp[h]
end
def Good(P:Program)(o:Oper)(a:Act)(w:World)(N0:Nat->Prop)(φ:List ia)(x:A):Prop:=
 ∃v w',(Go.execOp a.eval o).run P w= .ok (.value v) w'/\jT w w'/\bU (bB N0 φ w') x v
section
variable{P:Program}{N0:Nat->Prop}{w0:pU}{nt:Nat}{σ:St}{φ:List ia}{a:Act}{w:World}
theorem en{o:Oper}{s:Sem Value}{x:A}{v:Value}(ho:Go.execOp a.eval o=(do pure (Next.value (<-s))))(hr:s.run P w= .ok v w)(h:bU (bB N0 φ w) x v):Good P o a w N0 φ x:=
 ⟨v,w,by rw[ho];exact DD hr,jT.refl w,h⟩
theorem vE{b:Builtin}{xs:List Operand}{us:Array TypeId}{d:Option Tmp}{t:TypeId}{p:String}{af:Array Edge}{g:Option (Nat×Bool)}:
 ∃cs,(Go.execOp a.eval ⟨d,.call ⟨.builtin b,⟨xs⟩,us⟩,t,p,af,g⟩).run P w=(builtin b us t cs (xs.map a.eval).toArray).run P w:=by
 refine⟨xs.toArray.map fun| .const _=>true|_=>false, ?_⟩
 simp only[Go.execOp,resolve,invoke,Sem.run_bind,Sem.run_pure,Result.andThen_ok]
 rw[<-List.map_toArray]
 rfl
theorem jZ{b:Builtin}{xs:List Operand}{us:Array TypeId}{d:Option Tmp}{t:TypeId}{p:String}{af:Array Edge}{g:Option (Nat×Bool)}{s:Sem Value}{x:A}{v:Value}
 (ho: ∀cs,builtin b us t cs (xs.map a.eval).toArray=(do pure (Next.value (<-s)))) (hr:s.run P w= .ok v w) (h:bU (bB N0 φ w) x v):Good P ⟨d,.call ⟨.builtin b,⟨xs⟩,us⟩,t,p,af,g⟩ a w N0 φ x:=by
 obtain⟨cs,F'⟩:=vE (P:=P) (a:=a) (w:=w) (b:=b) (xs:=xs) (us:=us) (d:=d) (t:=t) (p:=p) (af:=af) (g:=g)
 exact⟨v,w,by rw[F',ho];exact DD hr,jT.refl w,h⟩
theorem um(s:List UInt8):(⟨s.toArray⟩:ByteArray).size=s.length:=rfl
theorem nC{E:Env}{k:IntKind}{n:Int}{v:Value}(h:bU E (.int k n) v):v= .int k n:=by simpa only[bU]using h
theorem Ai{E:Env}{b:Bool}{v:Value}(h:bU E (.bool b) v):v= .bool b:=by simpa only[bU]using h
theorem xq{E:Env}{s:List UInt8}{v:Value}(h:bU E (.str s) v):v= .string ⟨s.toArray⟩:=by simpa only[bU]using h
theorem good_move(h:cn N0 w0 nt σ φ a w){d:Option Tmp}{x:Operand}{t:TypeId}{p:String}{af:Array Edge}{g:Option (Nat×Bool)}:Good P ⟨d,.move x,t,p,af,g⟩ a w N0 φ (σ.ev x):=
 ⟨a.eval x,w,rfl,jT.refl w,h.ev x⟩
theorem Sc(h:cn N0 w0 nt σ φ a w){d:Option Tmp}{x:Operand}{t:TypeId}{p:String}{af:Array Edge}{g:Option (Nat×Bool)}:Good P ⟨d,.assign x,t,p,af,g⟩ a w N0 φ (σ.ev x):=
 ⟨a.eval x,w,rfl,jT.refl w,h.ev x⟩
theorem good_pick(h:cn N0 w0 nt σ φ a w){d:Option Tmp}{x y z:Operand}{t:TypeId}{p:String}{af:Array Edge}{g:Option (Nat×Bool)}{r:A}
 (hr:R3 (σ.ev x) (σ.ev y) (σ.ev z)=some r):Good P ⟨d,.pick x y z,t,p,af,g⟩ a w N0 φ r:=by
 cases hc:σ.ev x<;>simp only[hc,R3]at hr<;>try(simp at hr;done)
 rename_i b;have hx:=h.ev x;rw[hc]at hx;have OB:=Ai hx;refine⟨if b then a.eval y else a.eval z,w, ?_,jT.refl w, ?_⟩
 · simp[Go.execOp,OB,asBool]
 · simp at hr
   subst hr;cases b
   · simpa using h.ev z
   · simpa using h.ev y
theorem GQ(h:cn N0 w0 nt σ φ a w){d:Option Tmp}{x:Operand}{s f:Nat}{t:TypeId}{p:String}{af:Array Edge}{g:Option (Nat×Bool)}{r:A}
 (hr:pw (fieldInfo P s f) (σ.ev x)=some r):Good P ⟨d,.fieldAddr s x f,t,p,af,g⟩ a w N0 φ r:=by
 cases hf:fieldInfo P s f with
 |none=>simp[hf,pw]at hr
 |some q=>
  obtain⟨o,ft⟩:=q;rw[hf]at hr;simp only[pw]at hr;obtain⟨fs,fx,n,hu,z_,rfl,rfl,hn,hn0⟩:=uk hf;have key: ∀b off:Nat,a.eval x= .pointer (some ⟨b,off,none⟩)->(Instr.fieldAt s (a.eval x) f).run P w= .ok (.pointer (some ⟨b,off+fx.offset,none⟩)) w:=by intro b off hx;have hz:(sizeOf fx.type).run P w= .ok n w:=run_sizeOf hn;simp[Instr.fieldAt,run_underlying hu,z_,hx,Instr.sureAddr,fieldPlace,hz,hn0,Addr.add_mid]
  have hx:=h.ev x;cases hc:σ.ev x<;>simp only[hc,pv]at hr<;>try(simp at hr;done)
  · rename_i cs
    simp at hr;subst hr;rw[hc]at hx;simp only[bU]at hx;obtain⟨hp,b,off,hv,hb,hnb,hm⟩:=hx;refine en rfl (key b off hv) ?_;simp only[bU]
    refine⟨?_,b,off+fx.offset,rfl,hb,hnb,nS hm⟩
    clear hm hc hv;generalize fx.offset=m;induction cs generalizing m with
    |nil=>simp[A.pure.cX]
    |cons y ys ih=>
     simp only[A.pure.cX,ak]at hp;cases m with
     |zero=>simp[A.pure.cX,hp]
     |succ m=>simpa using ih hp.2 m
  · rename_i n' off
    simp at hr;subst hr;rw[hc]at hx;simp only[bU]at hx;obtain⟨b,k,hb,hv⟩:=hx;refine en rfl (key b off hv) ?_;simp only[bU]
    exact⟨b,k,hb,rfl⟩
  · rename_i n' i off
    simp at hr;subst hr;rw[hc]at hx;simp only[bU]at hx;obtain⟨b,k,hb,hv⟩:=hx;refine en rfl (key b (i*k+off) hv) ?_;simp only[bU]
    exact⟨b,k,hb,by rw[kE]⟩
theorem vF{E:Env}{t:TypeId}{cs:List A}{x:A}{b off:Nat}(hm:lX E b off cs)(hl:pc P t cs=some x): ∃v,(loadVar t ⟨b,off,none⟩).run P E.w= .ok v E.w/\bU E x v/\(x.val=true\/v.oneCell'=true):=by
 unfold pc at hl;split at hl
 · rename_i tg
   split at hl
   · rename_i n hn
     split at hl
     · rename_i hle
       simp at hl;subst hl;obtain⟨vs,hr,hL,h1⟩:=xp (RepM_take (n:=n) hm)
       obtain⟨d,hu,hd⟩:=GO tg;have hlen:vs.length=n:=by rw[<-(db.1 hL).1];simp;omega
       refine⟨.agg vs.toArray,run_loadVar_mid E.w b off t vs d hr hu hd (by unfold cW at hn;rw[hn,hlen]), ?_,.inl rfl⟩
       simp only[bU]
       exact⟨vs,rfl,hL,h1⟩
     · simp at hl
   · simp at hl
 · rename_i tg
   cases cs with
   |nil=>simp at hl
   |cons c cs=>
    simp at hl;subst hl;simp only[lX]at hm;obtain⟨⟨v,hv,h1,fY⟩,_⟩:=hm;exact⟨v,by simp[loadVar,nB tg,hv],fY,.inr h1⟩
 · simp at hl
theorem cd{es:List A}(h:A.pure.cX es=true){i:Nat}{e:A}(hi:es[i]? =some e):e.pure=true:=by
 induction es generalizing i with
 |nil=>simp at hi
 |cons z zs ih=>
  simp only[A.pure.cX,ak]at h;cases i with
  |zero=>simp at hi;subst hi;exact h.1
  |succ i=>exact ih h.2 (by simpa using hi)
theorem gQ{es:List A}(h: ∀(i:Nat) (e:A),es[i]? =some e->e.pure=true):A.pure.cX es=true:=by
 induction es with
 |nil=>rfl
 |cons z zs ih=>
  simp only[A.pure.cX,ak]
  exact⟨h 0 z rfl,ih fun i e he=>h (i+1) e (by simpa using he)⟩
theorem rI{es:List A}{n:Nat}(h:A.pure.cX es=true):A.pure.cX (es.drop n)=true:=
 gQ fun i e he=>cd h (i:=n+i) (by simpa[eB]using he)
theorem rJ{es:List A}{n:Nat}(h:A.pure.cX es=true):A.pure.cX (es.take n)=true:=
 gQ fun i e he=>cd h (i:=i) (by
  rw[eC]at he;split at he
  · exact he
  · simp at he)
theorem rK{e:A}(h:e.pure=true):A.pure.cX e.cells=true:=by cases e<;>simp_all[A.pure,A.cells,A.pure.cX]
theorem good_load(h:cn N0 w0 nt σ φ a w){d:Option Tmp}{x:Operand}{s:Nat}{t:TypeId}{p:String}{af:Array Edge}{g:Option (Nat×Bool)}{r:A}
 (hr:yo P s σ.H (σ.ev x)=some r):Good P ⟨d,.load s x,t,p,af,g⟩ a w N0 φ r:=by
 have hx:=h.ev x;cases hc:σ.ev x<;>simp only[hc,yo]at hr<;>try(simp at hr;done)
 · rw[hc]at hx
   simp only[bU]at hx;obtain⟨hp,b,off,hv,hb,hnb,hm⟩:=hx;obtain⟨v,B4,fY,_⟩:=vF hm hr;replace B4:(loadVar s ⟨b,off,none⟩).run P w= .ok v w:=B4;exact en rfl (by rw[hv];simpa[Instr.loadAt,Instr.sureAddr]using B4) fY
 · rename_i n off
   rw[hc]at hx;simp only[bU]at hx;obtain⟨b,k,hb,hv⟩:=hx;split at hr
   · rename_i cs F'
     have ho:=h.gp n _ _ F' hb;simp only[cb]at ho;have hm:=nS (n:=off) ho.2;obtain⟨v,B4,fY,_⟩:=vF hm hr;replace B4:(loadVar s ⟨b,0+off,none⟩).run P w= .ok v w:=B4;rw[bY]at B4;exact en rfl (by rw[hv];simpa[Instr.loadAt,Instr.sureAddr]using B4) fY
   · simp at hr
 · rename_i n i off
   rw[hc]at hx;simp only[bU]at hx;obtain⟨b,k,hb,hv⟩:=hx;split at hr
   · rename_i k' es F'
     have ho:=h.gp n _ _ F' hb;simp only[cb]at ho;obtain⟨rfl,hpu,hblk,he⟩:=ho;cases hi:es[i]? with
     |none=>simp[hi]at hr
     |some e=>
      simp only[hi,aY]at hr;obtain⟨hl,hm⟩:=gO.1 he i e hi;have oo:=nS (n:=off) hm;obtain⟨v,B4,fY,_⟩:=vF oo hr;replace B4:(loadVar s ⟨b,0+i*k'+off,none⟩).run P w= .ok v w:=B4;rw[bY]at B4;exact en rfl (by rw[hv];simpa[Instr.loadAt,Instr.sureAddr]using B4) fY
   · simp at hr
theorem KD(h:cn N0 w0 nt σ φ a w){d:Option Tmp}{x:Operand}{t:TypeId}{p:String}{af:Array Edge}{g:Option (Nat×Bool)}{r:A}
 (hr:BR (σ.ev x)=some r):Good P ⟨d,.nilCheck x,t,p,af,g⟩ a w N0 φ r:=by
 have hx:=h.ev x;cases hc:σ.ev x<;>simp only[hc,BR]at hr<;>try(simp at hr;done)
 all_goals
  simp at hr;subst hr;rw[hc]at hx;refine⟨a.eval x,w, ?_,jT.refl w,hx⟩
  simp only[bU]at hx
 · obtain⟨hp,b,off,hv,hb,hnb,hm⟩:=hx
   simp[Go.execOp,hv]
 · obtain⟨b,k,hb,hv⟩:=hx
   simp[Go.execOp,hv]
 · obtain⟨b,k,hb,hv⟩:=hx
   simp[Go.execOp,hv]
 · obtain⟨vs,hv,_⟩:=hx
   simp[Go.execOp,hv]
theorem KE(h:cn N0 w0 nt σ φ a w){d:Option Tmp}{f:Fn}{xs ys:Array Operand}{t:TypeId}{p:String}{af:Array Edge}{g:Option (Nat×Bool)}{r:A}
 (hr:tp f (σ.se xs.toList) (σ.se ys.toList)=some r):Good P ⟨d,.makeFunc f xs ys,t,p,af,g⟩ a w N0 φ r:=by
 cases f<;>simp only[tp]at hr<;>try(simp at hr;done)
 rename_i f;cases Y5:σ.se xs.toList with
 |cons _ _=>simp[Y5]at hr
 |nil=>
  simp only[Y5]at hr;simp at hr;subst hr
  have hx0:xs= #[]:=by
   cases hl:xs.toList with
   |nil=>exact Array.toList_eq_nil_iff.1 hl
   |cons _ _=>simp[hl,St.se]at Y5
  subst hx0;refine⟨.func (.func f) #[] (ys.map a.eval),w, ?_,jT.refl w, ?_⟩
  · simp[Go.execOp,Instr.makeFunc]
  · simp only[bU]
    refine⟨(ys.map a.eval).toList,rfl, ?_⟩
    simp only[qt]
    generalize ys.toList=l;induction l with
    |nil=>simp[St.se,cH]
    |cons y l ih=>simp only[St.se,aS,cH];exact⟨_,_,rfl,h.ev y,ih⟩
theorem OC(h:cn N0 w0 nt σ φ a w){d:Option Tmp}{x:Operand}{i:Nat}{t:TypeId}{p:String}{af:Array Edge}{g:Option (Nat×Bool)}{r:A}
 (hr:vB (σ.ev x) i=some r):Good P ⟨d,.extract x i,t,p,af,g⟩ a w N0 φ r:=by
 have hx:=h.ev x;cases hc:σ.ev x<;>simp only[hc,vB]at hr<;>try(simp at hr;done)
 rename_i cs;rw[hc]at hx;simp only[bU]at hx;obtain⟨vs,hv,hl⟩:=hx;obtain⟨h1,h2⟩:=db.1 hl;have hi:i<vs.length:=by rw[<-h1];exact(aA.1 hr).1
 refine en rfl (v:=vs[i]) (by rw[hv];simp[Instr.extract,hi]) (h2 i _ _ hr (ae hi))
theorem good_len(h:cn N0 w0 nt σ φ a w){d:Option Tmp}{x:Operand}{u:TypeId}{t:TypeId}{p:String}{af:Array Edge}{g:Option (Nat×Bool)}{r:A}
 (hr:VT P u (σ.ev x)=some r):Good P ⟨d,.call ⟨.builtin .len,⟨[x]⟩,⟨[u]⟩⟩,t,p,af,g⟩ a w N0 φ r:=by
 have hx:=h.ev x;have ho: ∀cs,builtin .len #[u] t cs ([x].map a.eval).toArray=(do pure (Next.value (<-Builtin.len_ #[u] t #[a.eval x]))):=fun cs=>rfl
 have arr: ∀n e,jQ P u=some (n,e)->r= .int .i64 n->Good P ⟨d,.call ⟨.builtin .len,⟨[x]⟩,⟨[u]⟩⟩,t,p,af,g⟩ a w N0 φ r:=by
  rintro n e hn rfl;refine jZ ho (v:= .int .i64 n) ?_ (by simp only[bU])
  simp[Builtin.len_,run_underlying (Ah hn),goInt]
 cases hc:σ.ev x<;>simp only[hc,VT]at hr
 case str s=>
  split at hr
  · rename_i hs
    simp at hr;subst hr;rw[hc]at hx;refine jZ ho (v:= .int .i64 s.length) ?_ (by simp only[bU])
    rw[xq hx]
    simp[Builtin.len_,run_underlying (oE hs),goInt,um]
  · simp at hr
 case ay es=>
  split at hr
  · rename_i hs
    simp at hr;subst hr;rw[hc]at hx;simp only[bU]at hx;obtain⟨_,b,cap,hv,_⟩:=hx;obtain⟨e,he⟩:=dM.1 hs;refine jZ ho (v:= .int .i64 es.length) ?_ (by simp only[bU])
    rw[hv]
    simp[Builtin.len_,run_underlying (iS he),goInt]
  · simp at hr
 case clip es=>
  split at hr
  · rename_i hs
    simp at hr;subst hr;rw[hc]at hx;simp only[bU]at hx;obtain⟨_,b,hv,_⟩:=hx;obtain⟨e,he⟩:=dM.1 hs;refine jZ ho (v:= .int .i64 es.length) ?_ (by simp only[bU])
    rw[hv]
    simp[Builtin.len_,run_underlying (iS he),goInt]
  · simp at hr
 case d_=>
  split at hr
  · rename_i hs
    simp at hr;subst hr;rw[hc]at hx;simp only[bU]at hx;obtain⟨e,he⟩:=dM.1 hs;refine jZ ho (v:= .int .i64 0) ?_ (by simp only[bU])
    rw[hx]
    simp[Builtin.len_,run_underlying (iS he),goInt]
  · simp at hr
 case row n off k len c=>
  split at hr
  · rename_i hs
    simp at hr;subst hr;rw[hc]at hx;simp only[bU]at hx;obtain⟨e,he⟩:=dM.1 hs;refine jZ ho (v:= .int .i64 len) ?_ (by simp only[bU])
    rcases hx with⟨_,_,_,rfl,_,b,hv⟩|⟨b,cap,c,e',fr,_,hv,_⟩
    all_goals
     rw[hv]
     simp[Builtin.len_,run_underlying (iS he),goInt]
  · simp at hr
 all_goals
  split at hr
  · rename_i n e hn
    simp at hr;exact arr n e hn hr.symm
  · simp at hr
theorem evalL2(h:cn N0 w0 nt σ φ a w){xs:List Operand}{k k':IntKind}{m n:Int}(he:σ.se xs=[.int k m,.int k' n]):xs.map a.eval=[.int k m,.int k' n]:=by
 match xs,he with
 | [x,y],he=>
  simp only[St.se,dr,and_true]at he;have h1:=h.ev x;have h2:=h.ev y;rw[he.1]at h1;rw[he.2]at h2;simp[nC h1,nC h2]
 | [],he=>simp[St.se]at he
 | [_],he=>simp[St.se]at he
 |_::_::_::_,he=>simp[St.se]at he
theorem good_min(h:cn N0 w0 nt σ φ a w){d:Option Tmp}{xs:List Operand}{us:Array TypeId}{t:TypeId}{p:String}{af:Array Edge}{g:Option (Nat×Bool)}{r:A}
 (hr:minA (σ.se xs)=some r):Good P ⟨d,.call ⟨.builtin .min,⟨xs⟩,us⟩,t,p,af,g⟩ a w N0 φ r:=by
 unfold minA at hr;split at hr
 · rename_i k m k' n he
   simp at hr;subst hr;have hm:=evalL2 h he;refine jZ (s:=Builtin.min_ us t (xs.map a.eval).toArray) (fun _=>rfl) (v:= .int k (if n<m then n else m)) ?_ (by simp only[bU])
   simp[Builtin.min_,hm,Builtin.min2]
 · simp at hr
theorem good_max(h:cn N0 w0 nt σ φ a w){d:Option Tmp}{xs:List Operand}{us:Array TypeId}{t:TypeId}{p:String}{af:Array Edge}{g:Option (Nat×Bool)}{r:A}
 (hr:maxA (σ.se xs)=some r):Good P ⟨d,.call ⟨.builtin .max,⟨xs⟩,us⟩,t,p,af,g⟩ a w N0 φ r:=by
 unfold maxA at hr;split at hr
 · rename_i k m k' n he
   simp at hr;subst hr;have hm:=evalL2 h he;refine jZ (s:=Builtin.max_ us t (xs.map a.eval).toArray) (fun _=>rfl) (v:= .int k (if n>m then n else m)) ?_ (by simp only[bU])
   simp[Builtin.max_,hm,Builtin.max2]
 · simp at hr
end
end Go.dF
