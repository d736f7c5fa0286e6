/- What the laws of this claim rest on: the abstract executor, its soundness, and what the functions compute on pure data. No condition. -/
import Derived.Orders
import Derived.WalkKit
import Derived.Test.YtfnohjheonlnmaaGreatProg
import Derived.Deep.MidRow
import Derived.Deep.AppendSrc
noncomputable section
theorem aa:type_of% @List.length_map:=@List.length_map
theorem ab:type_of% @List.take_of_length_le:=@List.take_of_length_le
theorem ad:type_of% @List.getElem?_eq_getElem:=@List.getElem?_eq_getElem
theorem ag:type_of% @Bool.and_eq_true:=@Bool.and_eq_true
theorem ae:type_of% @Nat.le_refl:=@Nat.le_refl
theorem ah:type_of% @Option.some.inj:=@Option.some.inj
theorem ai:type_of% @List.length_append:=@List.length_append
theorem aj:type_of% @List.getElem_mem:=@List.getElem_mem
theorem ak:type_of% @Nat.zero_le:=@Nat.zero_le
theorem an:type_of% @List.take_append_getElem:=@List.take_append_getElem
theorem ao:type_of% @List.drop_eq_getElem_cons:=@List.drop_eq_getElem_cons
theorem ar:type_of% @List.getElem?_eq_some_iff:=@List.getElem?_eq_some_iff
theorem aw:type_of% @List.length_cons:=@List.length_cons
theorem ay:type_of% @List.drop_of_length_le:=@List.drop_of_length_le
theorem az:type_of% @List.mem_append:=@List.mem_append
theorem aC:type_of% @Bool.false_eq_true:=@Bool.false_eq_true
theorem aB:type_of% @List.length_take:=@List.length_take
theorem aA:type_of% @List.mem_cons:=@List.mem_cons
theorem aG:type_of% @Bool.true_and:=@Bool.true_and
theorem aJ:type_of% @List.mem_singleton:=@List.mem_singleton
theorem aL:type_of% @List.getElem?_map:=@List.getElem?_map
theorem aM:type_of% @Option.map_eq_some_iff:=@Option.map_eq_some_iff
theorem aO:type_of% @Bool.false_and:=@Bool.false_and
theorem aR:type_of% @List.length_eq_zero_iff:=@List.length_eq_zero_iff
theorem aP:type_of% @List.map_cons:=@List.map_cons
theorem aU:type_of% @List.pairwise_cons:=@List.pairwise_cons
theorem aT:type_of% @List.mem_filter:=@List.mem_filter
theorem aV:type_of% @List.append_assoc:=@List.append_assoc
theorem aW:type_of% @Option.bind_some:=@Option.bind_some
theorem aY:type_of% @Nat.le_of_ble_eq_true:=@Nat.le_of_ble_eq_true
theorem aZ:type_of% @List.append_nil:=@List.append_nil
theorem bc:type_of% @Option.some.injEq:=@Option.some.injEq
theorem a_:type_of% @Nat.le_trans:=@Nat.le_trans
theorem bj:type_of% @Bool.false_or:=@Bool.false_or
theorem bk:type_of% @List.map_append:=@List.map_append
theorem bm:type_of% @List.length_nil:=@List.length_nil
theorem bn:type_of% @List.take_append_drop:=@List.take_append_drop
theorem bo:type_of% @Int.toNat_natCast:=@Int.toNat_natCast
theorem bp:type_of% @Bool.not_false:=@Bool.not_false
theorem bu:type_of% @List.getElem?_of_mem:=@List.getElem?_of_mem
theorem bw:type_of% @List.nil_append:=@List.nil_append
theorem bz:type_of% @List.take_length:=@List.take_length
theorem bA:type_of% @Bool.or_eq_true:=@Bool.or_eq_true
theorem bB:type_of% @List.cons_append:=@List.cons_append
theorem bC:type_of% @List.all_eq_true:=@List.all_eq_true
theorem bD:type_of% @List.mem_of_getElem?:=@List.mem_of_getElem?
theorem bH:type_of% @Option.bind_eq_some_iff:=@Option.bind_eq_some_iff
theorem bI:type_of% @Bool.eq_iff_iff:=@Bool.eq_iff_iff
theorem bJ:type_of% @List.map_nil:=@List.map_nil
theorem bL:type_of% @List.filter_append:=@List.filter_append
theorem bK:type_of% @Bool.not_true:=@Bool.not_true
theorem bP:type_of% @Array.getElem?_eq_some_iff:=@Array.getElem?_eq_some_iff
theorem bM:type_of% @List.foldl_cons:=@List.foldl_cons
theorem bN:type_of% @List.length_set:=@List.length_set
theorem bR:type_of% @List.mem_of_mem_take:=@List.mem_of_mem_take
theorem bS:type_of% @Bool.not_eq_true':=@Bool.not_eq_true'
theorem bQ:type_of% @List.mem_map:=@List.mem_map
theorem bT:type_of% @List.length_drop:=@List.length_drop
theorem bX:type_of% @List.getElem?_append_right:=@List.getElem?_append_right
theorem bU:type_of% @Nat.zero_add:=@Nat.zero_add
theorem bW:type_of% @List.getElem?_set_ne:=@List.getElem?_set_ne
theorem bZ:type_of% @List.length_filter_le:=@List.length_filter_le
theorem bY:type_of% @Bool.and_false:=@Bool.and_false
theorem b_:type_of% @List.contains_cons:=@List.contains_cons
theorem b9:type_of% @Bool.and_true:=@Bool.and_true
theorem ck:type_of% @List.getElem?_append_left:=@List.getElem?_append_left
theorem cm:type_of% @List.pairwise_iff_getElem:=@List.pairwise_iff_getElem
theorem cg:type_of% @List.contains_nil:=@List.contains_nil
theorem cj:type_of% @List.getElem_of_mem:=@List.getElem_of_mem
theorem cr:type_of% @Nat.mul_le_mul_right:=@Nat.mul_le_mul_right
theorem cu:type_of% @List.mem_cons_of_mem:=@List.mem_cons_of_mem
theorem cv:type_of% @List.filter_cons_of_pos:=@List.filter_cons_of_pos
theorem cx:type_of% @List.take_append_of_le_length:=@List.take_append_of_le_length
theorem cw:type_of% @List.any_cons:=@List.any_cons
theorem cB:type_of% @List.mem_of_mem_drop:=@List.mem_of_mem_drop
theorem cA:type_of% @Bool.true_or:=@Bool.true_or
theorem cG:type_of% @List.foldl_append:=@List.foldl_append
theorem cF:type_of% @List.not_mem_nil:=@List.not_mem_nil
theorem cH:type_of% @Nat.lt_of_lt_of_le:=@Nat.lt_of_lt_of_le
theorem cM:type_of% @List.length_reverse:=@List.length_reverse
theorem cP:type_of% @List.getD_eq_getElem?_getD:=@List.getD_eq_getElem?_getD
theorem cN:type_of% @Nat.add_mul:=@Nat.add_mul
theorem cO:type_of% @Int.le_refl:=@Int.le_refl
theorem cV:type_of% @List.length_singleton:=@List.length_singleton
theorem cU:type_of% @List.sum_cons:=@List.sum_cons
theorem c_:type_of% @Bool.or_eq_false_iff:=@Bool.or_eq_false_iff
theorem da:type_of% @List.pairwise_append:=@List.pairwise_append
theorem cZ:type_of% @List.getElem?_set:=@List.getElem?_set
theorem dd:type_of% @Classical.choose_spec:=@Classical.choose_spec
theorem dm:type_of% @List.mem_or_eq_of_mem_set:=@List.mem_or_eq_of_mem_set
theorem dr:type_of% @Option.isSome_iff_exists:=@Option.isSome_iff_exists
theorem dj:type_of% @Nat.le_of_eq:=@Nat.le_of_eq
theorem dt:type_of% @List.cons.injEq:=@List.cons.injEq
theorem dv:type_of% @Bool.not_eq_true:=@Bool.not_eq_true
theorem dA:type_of% @Nat.add_sub_cancel_left:=@Nat.add_sub_cancel_left
theorem du:type_of% @Nat.add_zero:=@Nat.add_zero
theorem dE:type_of% @List.mem_of_find?_eq_some:=@List.mem_of_find?_eq_some
theorem dP:type_of% @List.filter_cons_of_neg:=@List.filter_cons_of_neg
theorem dN:type_of% @List.mem_range:=@List.mem_range
theorem dO:type_of% @Option.map_some:=@Option.map_some
theorem dS:type_of% @List.getElem?_take:=@List.getElem?_take
theorem dL:type_of% @List.map_map:=@List.map_map
theorem dU:type_of% @List.mem_iff_getElem:=@List.mem_iff_getElem
theorem dZ:type_of% @List.filter_eq_nil_iff:=@List.filter_eq_nil_iff
theorem eB:type_of% @List.drop_append_of_le_length:=@List.drop_append_of_le_length
theorem eC:type_of% @List.filter_eq_self:=@List.filter_eq_self
theorem eA:type_of% @Bool.and_assoc:=@Bool.and_assoc
theorem eF:type_of% @List.getElem?_eq_none:=@List.getElem?_eq_none
theorem eH:type_of% @List.getElem?_drop:=@List.getElem?_drop
theorem eQ:type_of% @List.take_succ_eq_append_getElem:=@List.take_succ_eq_append_getElem
theorem eO:type_of% @List.reverse_reverse:=@List.reverse_reverse
theorem eL:type_of% @Bool.or_false:=@Bool.or_false
theorem eP:type_of% @List.drop_drop:=@List.drop_drop
theorem eW:type_of% @Option.map_none:=@Option.map_none
theorem e9:type_of% @Option.getD_some:=@Option.getD_some
theorem fk:type_of% @List.getElem?_append:=@List.getElem?_append
theorem fm:type_of% @List.mem_erase_of_ne:=@List.mem_erase_of_ne
theorem fB:type_of% @List.getElem_take:=@List.getElem_take
theorem fw:type_of% @Nat.min_eq_left:=@Nat.min_eq_left
theorem fM:type_of% @Array.getElem?_append_left:=@Array.getElem?_append_left
theorem fO:type_of% @Int.fdiv_eq_ediv_of_nonneg:=@Int.fdiv_eq_ediv_of_nonneg
theorem fy:type_of% @Ne.symm:=@Ne.symm
theorem fU:type_of% @List.mem_of_mem_erase:=@List.mem_of_mem_erase
theorem fR:type_of% @Nat.lt_or_eq_of_le:=@Nat.lt_or_eq_of_le
theorem fT:type_of% @Nat.one_mul:=@Nat.one_mul
theorem fZ:type_of% @Nat.lt_or_ge:=@Nat.lt_or_ge
theorem gq:type_of% @List.filter_nil:=@List.filter_nil
theorem gT:type_of% @List.reverse_cons:=@List.reverse_cons
theorem gS:type_of% @List.map_take:=@List.map_take
theorem gW:type_of% @Bool.and_self:=@Bool.and_self
theorem ic:type_of% @List.take_succ_cons:=@List.take_succ_cons
theorem ij:type_of% @Array.length_toList:=@Array.length_toList
theorem iq:type_of% @List.any_eq_true:=@List.any_eq_true
theorem iu:type_of% @List.mem_flatMap:=@List.mem_flatMap
theorem iB:type_of% @List.length_eq_one_iff:=@List.length_eq_one_iff
theorem iv:type_of% @Nat.succ_mul:=@Nat.succ_mul
theorem iI:type_of% @UInt8.toNat_inj:=@UInt8.toNat_inj
theorem iK:type_of% @List.find?_some:=@List.find?_some
theorem iH:type_of% @List.all_cons:=@List.all_cons
theorem iR:type_of% @List.flatten_cons:=@List.flatten_cons
theorem iS:type_of% @List.any_eq_false:=@List.any_eq_false
theorem jd:type_of% @List.extract_eq_take_drop:=@List.extract_eq_take_drop
theorem jf:type_of% @Array.getElem?_eq_getElem:=@Array.getElem?_eq_getElem
theorem iX:type_of% @List.take_zero:=@List.take_zero
theorem jg:type_of% @List.map_set:=@List.map_set
theorem jn:type_of% @List.replicate_succ:=@List.replicate_succ
theorem jq:type_of% @List.map_congr_left:=@List.map_congr_left
theorem jD:type_of% @List.map_drop:=@List.map_drop
theorem jP:type_of% @List.mem_filterMap:=@List.mem_filterMap
theorem jQ:type_of% @Nat.add_sub_cancel:=@Nat.add_sub_cancel
theorem jY:type_of% @List.getElem?_set_self:=@List.getElem?_set_self
theorem j_:type_of% @List.ext_getElem?:=@List.ext_getElem?
theorem ke:type_of% @List.pairwise_map:=@List.pairwise_map
theorem kg:type_of% @List.flatMap_cons:=@List.flatMap_cons
theorem j6:type_of% @Nat.mul_comm:=@Nat.mul_comm
theorem kq:type_of% @Nat.div_lt_iff_lt_mul:=@Nat.div_lt_iff_lt_mul
theorem j7:type_of% @Prod.ext_iff:=@Prod.ext_iff
theorem kv:type_of% @List.set_append_right:=@List.set_append_right
theorem kC:type_of% @Nat.lt_succ_self:=@Nat.lt_succ_self
theorem kD:type_of% @List.mem_reverse:=@List.mem_reverse
theorem kF:type_of% @Nat.add_assoc:=@Nat.add_assoc
theorem ly:type_of% @List.nodup_cons:=@List.nodup_cons
theorem lE:type_of% @List.append_inj:=@List.append_inj
theorem lI:type_of% @Bool.or_true:=@Bool.or_true
theorem lJ:type_of% @Nat.zero_mul:=@Nat.zero_mul
theorem lj:type_of% @Prod.ext:=@Prod.ext
theorem lP:type_of% @List.sum_nil:=@List.sum_nil
set_option linter.unusedVariables false
set_option linter.unusedSimpArgs false
namespace Go.ez
inductive A where|any|int (k:IntKind) (n:Int)|bool (b:Bool)|str (s:List UInt8)|agg (cs:List A)|aD (es:List A)|clip (es:List A)|jC (cs:List A)|ec|yX|ref (n off:Nat)|mg (n i off:Nat)|row (n off k len:Nat) (c:Bool)|fn (f:FuncId) (oh:List A)|eU (cs:List A)|emp (c:Bool)
instance:Inhabited A:=⟨.any⟩
inductive im where|free|nil|loc (b k:Nat)
def A.cells:A->List A| .agg cs=>cs|x=>[x]
def eK:List A->Nat| []=>0|e::_=>e.cells.length
def A.mem(n:Nat):A->Bool| .ref m _=>m==n| .mg m _ _=>m==n| .row m _ _ _ _=>m==n| .agg cs=>lY n cs| .fn _ cs=>lY n cs| .eU cs=>lY n cs|_=>false where lY (n:Nat):List A->Bool| []=>false|c::cs=>c.mem n||lY n cs
def A.pure:A->Bool| .ref _ _=>false| .mg _ _ _=>false| .row _ _ _ _ _=>false| .agg cs=>cY cs| .fn _ cs=>cY cs| .eU cs=>cY cs|_=>true where cY:List A->Bool| []=>true|c::cs=>c.pure&&cY cs
mutual theorem A.re(n:Nat): ∀x:A,x.pure=true->x.mem n=false| .any,_=>rfl| .int _ _,_=>rfl| .bool _,_=>rfl| .str _,_=>rfl| .aD _,_=>rfl| .clip _,_=>rfl| .jC _,_=>rfl| .ec,_=>rfl| .yX,_=>rfl| .emp _,_=>rfl| .ref _ _,h=>by simp[A.pure]at h| .mg _ _ _,h=>by simp[A.pure]at h| .row _ _ _ _ _,h=>by simp[A.pure]at h| .agg cs,h=>by simp only[A.mem];exact A.lp n cs (by simpa only[A.pure]using h)| .fn _ cs,h=>by simp only[A.mem];exact A.lp n cs (by simpa only[A.pure]using h)| .eU cs,h=>by simp only[A.mem];exact A.lp n cs (by simpa only[A.pure]using h) theorem A.lp(n:Nat): ∀cs:List A,A.pure.cY cs=true->A.mem.lY n cs=false| [],_=>rfl|c::cs,h=>by simp only[A.pure.cY,ag]at h;simp only[A.mem.lY,A.re n c h.1,A.lp n cs h.2,Bool.or_self] end
structure Env where
 N:Nat->Prop
 φ:List im
 w:World
mutual def bV(E:Env):A->Value->Prop| .any,_=>True| .int k n,v=>v= .int k n| .bool b,v=>v= .bool b| .str s,v=>v= .string ⟨s.toArray⟩| .agg cs,v=> ∃vs:List Value,v= .agg vs.toArray/\cL E cs vs/\ ∀u∈vs,u.oneCell'=true| .aD es,v=>A.pure.cY es=true/\ ∃a cap,v= .slice a es.length cap/\es.length<=cap/\ (es≠ []-> ∃b off,a=some ⟨b,off,none⟩/\b<E.w.heap.size/\ ¬E.N b/\jT E (eK es) b off es)| .clip es,v=>A.pure.cY es=true/\ ∃a,v= .slice a es.length es.length/\ (es≠ []-> ∃b off,a=some ⟨b,off,none⟩/\b<E.w.heap.size/\ ¬E.N b/\jT E (eK es) b off es)| .jC cs,v=>A.pure.cY cs=true/\ ∃b off,v= .pointer (some ⟨b,off,none⟩)/\b<E.w.heap.size/\ ¬E.N b/\lZ E b off cs| .ec,v=>v= .slice none 0 0| .yX,v=>v= .pointer none| .emp c,v=> ∃a cap,v= .slice a 0 cap/\a.isNone=c| .ref n off,v=> ∃b k,E.φ[n]? =some (.loc b k)/\v= .pointer (some ⟨b,off,none⟩)| .mg n i off,v=> ∃b k,E.φ[n]? =some (.loc b k)/\v= .pointer (some ⟨b,i*k+off,none⟩)| .row n off k len cl,v=> (∃o,E.φ[n]? =some o/\o≠ .free/\len=0/\(o= .nil->off=0)/\ ∃a,v= .slice a 0 0)\/ (∃b cap c e fr,E.φ[n]? =some (.loc b k)/\v= .slice (some ⟨b,off*k,none⟩) len cap/\len<=cap/\(cl=true->cap=len)/\E.w.heap[b]? =some (.cells c e fr)/\off*k+k*cap<=c.size)| .fn f oh,v=> ∃vs:List Value,v= .func (.func f) #[] vs.toArray/\cL E oh vs| .eU cs,v=> ∃vs:List Value,v= .tuple vs.toArray/\cL E cs vs def cL(E:Env):List A->List Value->Prop| [],vs=>vs=[]|c::cs,vs=> ∃v pH,vs=v::pH/\bV E c v/\cL E cs pH def lZ(E:Env)(b:Nat)(off:Nat):List A->Prop| []=>True|c::cs=>(∃v,E.w.cell? ⟨b,off,none⟩=some v/\v.oneCell'=true/\bV E c v)/\lZ E b (off+1) cs def jT(E:Env)(k:Nat)(b:Nat)(off:Nat):List A->Prop| []=>True| .agg cs::es=>(cs.length=k/\lZ E b off cs)/\jT E k b (off+k) es|e::es=>(k=1/\ ∃v,E.w.cell? ⟨b,off,none⟩=some v/\v.oneCell'=true/\bV E e v)/\jT E k b (off+k) es end
theorem M_{E:Env}{k b off:Nat}{cs es:List A}:jT E k b off (.agg cs::es)=((cs.length=k/\lZ E b off cs)/\jT E k b (off+k) es):=by simp[jT]
structure Ext(K:Nat->Prop)(E E':Env):Prop where
 size:E.w.heap.size<=E'.w.heap.size
 M': ∀b,b<E.w.heap.size-> ¬E.N b-> ¬E'.N b/\E'.w.heap[b]? =E.w.heap[b]?
 refs: ∀n o,K n->E.φ[n]? =some o->o≠ .free->E'.φ[n]? =some o
 own: ∀n b k c e fr,K n->E.φ[n]? =some (.loc b k)->E.w.heap[b]? =some (.cells c e fr)-> ∃c' Q3,E'.w.heap[b]? =some (.cells c' e Q3)/\c'.size=c.size
theorem Ext.cell{K:Nat->Prop}{E E':Env}(h:Ext K E E'){b off:Nat}(hb:b<E.w.heap.size)(hn: ¬E.N b):E'.w.cell? ⟨b,off,none⟩=E.w.cell? ⟨b,off,none⟩:=by simp only[World.cell?,(h.M' b hb hn).2]
mutual theorem bV.mono{K:Nat->Prop}{E E':Env}(h:Ext K E E'): ∀(x:A) (v:Value),bV E x v->(∀n,x.mem n=true->K n)->bV E' x v| .any,_,_,_=>by simp only[bV]| .int _ _,v,hr,_=>by simpa only[bV]using hr| .bool _,v,hr,_=>by simpa only[bV]using hr| .str _,v,hr,_=>by simpa only[bV]using hr| .ec,v,hr,_=>by simpa only[bV]using hr| .yX,v,hr,_=>by simpa only[bV]using hr| .emp _,v,hr,_=>by simpa only[bV]using hr| .agg cs,v,hr,hk=>by simp only[bV]at hr⊢;obtain⟨vs,hv,hl,h1⟩:=hr;exact⟨vs,hv,cL.mono h cs vs hl (fun n hn=>hk n (by simpa only[A.mem]using hn)),h1⟩| .fn f cs,v,hr,hk=>by simp only[bV]at hr⊢;obtain⟨vs,hv,hl⟩:=hr;exact⟨vs,hv,cL.mono h cs vs hl (fun n hn=>hk n (by simpa only[A.mem]using hn))⟩| .eU cs,v,hr,hk=>by simp only[bV]at hr⊢;obtain⟨vs,hv,hl⟩:=hr;exact⟨vs,hv,cL.mono h cs vs hl (fun n hn=>hk n (by simpa only[A.mem]using hn))⟩| .aD es,v,hr,_=>by simp only[bV]at hr⊢;obtain⟨hp,a,cap,hv,hc,hl⟩:=hr;refine⟨hp,a,cap,hv,hc,fun eG=> ?_⟩;obtain⟨b,off,ha,hb,hn,he⟩:=hl eG;exact⟨b,off,ha,cH hb h.size,(h.M' b hb hn).1,jT.mono h (eK es) b off es hb hn he (fun n hn=>by rw[A.lp n es hp]at hn;cases hn)⟩| .clip es,v,hr,_=>by simp only[bV]at hr⊢;obtain⟨hp,a,hv,hl⟩:=hr;refine⟨hp,a,hv,fun eG=> ?_⟩;obtain⟨b,off,ha,hb,hn,he⟩:=hl eG;exact⟨b,off,ha,cH hb h.size,(h.M' b hb hn).1,jT.mono h (eK es) b off es hb hn he (fun n hn=>by rw[A.lp n es hp]at hn;cases hn)⟩| .jC cs,v,hr,_=>by simp only[bV]at hr⊢;obtain⟨hp,b,off,hv,hb,hn,he⟩:=hr;exact⟨hp,b,off,hv,cH hb h.size,(h.M' b hb hn).1,lZ.mono h b off cs hb hn he (fun n hn=>by rw[A.lp n cs hp]at hn;cases hn)⟩| .ref n off,v,hr,hk=>by simp only[bV]at hr⊢;obtain⟨b,k,hb,hv⟩:=hr;exact⟨b,k,h.refs n _ (hk n (by simp[A.mem])) hb (by simp),hv⟩| .mg n i off,v,hr,hk=>by simp only[bV]at hr⊢;obtain⟨b,k,hb,hv⟩:=hr;exact⟨b,k,h.refs n _ (hk n (by simp[A.mem])) hb (by simp),hv⟩| .row n off k len cl,v,hr,hk=>by simp only[bV]at hr⊢;rcases hr with⟨o,hb,hf,r⟩|⟨b,cap,c,e,fr,hb,hv,wi,nJ,hc,hs⟩;{exact .inl ⟨o,h.refs n _ (hk n (by simp[A.mem])) hb hf,hf,r⟩};{obtain⟨c',Q3,xQ,hs'⟩:=h.own n b k c e fr (hk n (by simp[A.mem])) hb hc;exact .inr ⟨b,cap,c',e,Q3,h.refs n _ (hk n (by simp[A.mem])) hb (by simp),hv,wi,nJ,xQ,by omega⟩}theorem cL.mono{K:Nat->Prop}{E E':Env}(h:Ext K E E'): ∀(cs:List A) (vs:List Value),cL E cs vs->(∀n,A.mem.lY n cs=true->K n)->cL E' cs vs| [],_,hr,_=>by simpa only[cL]using hr|c::cs,vs,hr,hk=>by simp only[cL]at hr⊢;obtain⟨v,pH,hv,hc,hl⟩:=hr;exact⟨v,pH,hv,bV.mono h c v hc (fun n hn=>hk n (by simp[A.mem.lY,hn])),cL.mono h cs pH hl (fun n hn=>hk n (by simp[A.mem.lY,hn]))⟩ theorem lZ.mono{K:Nat->Prop}{E E':Env}(h:Ext K E E'): ∀(b off:Nat) (cs:List A),b<E.w.heap.size-> ¬E.N b->lZ E b off cs->(∀n,A.mem.lY n cs=true->K n)->lZ E' b off cs|_,_,[],_,_,_,_=>by simp only[lZ]|b,off,c::cs,hb,hn,hr,hk=>by simp only[lZ]at hr⊢;obtain⟨⟨v,hv,h1,hc⟩,hl⟩:=hr;exact⟨⟨v,by rw[h.cell hb hn];exact hv,h1,bV.mono h c v hc (fun n hn=>hk n (by simp[A.mem.lY,hn]))⟩,lZ.mono h b (off+1) cs hb hn hl (fun n hn=>hk n (by simp[A.mem.lY,hn]))⟩ theorem jT.mono{K:Nat->Prop}{E E':Env}(h:Ext K E E'): ∀(k b off:Nat) (es:List A),b<E.w.heap.size-> ¬E.N b->jT E k b off es->(∀n,A.mem.lY n es=true->K n)->jT E' k b off es|_,_,_,[],_,_,_,_=>by simp only[jT]|k,b,off,e::es,hb,hn,hr,hk=>by cases e;(case agg cs=>rw[M_]at hr⊢;obtain⟨⟨hlen,hm⟩,hl⟩:=hr;exact⟨⟨hlen,lZ.mono h b off cs hb hn hm (fun n hn=>hk n (by simp[A.mem.lY,A.mem,hn]))⟩,jT.mono h k b (off+k) es hb hn hl (fun n hn=>hk n (by simp[A.mem.lY,hn]))⟩);all_goals simp only[jT]at hr⊢;obtain⟨⟨mW,v,hv,h1,hc⟩,hl⟩:=hr;exact⟨⟨mW,v,by rw[h.cell hb hn];exact hv,h1,bV.mono h _ v hc (fun n hn=>hk n (by simp[A.mem.lY,hn]))⟩,jT.mono h k b (off+k) es hb hn hl (fun n hn=>hk n (by simp[A.mem.lY,hn]))⟩ end
inductive Obj where|box (cs:List A)|row (k:Nat) (es:List A)
instance:Inhabited Obj:=⟨.row 0 []⟩
structure St where
 s:List (Nat×A)
 H:List Obj
def toA1:Value->A| .int k n=> .int k n| .bool b=> .bool b| .string s=> .str s.data.toList| .slice none 0 0=> .ec| .pointer none=> .yX| .func (.func f) ⟨[]⟩ ⟨[]⟩=> .fn f []| .tuple ⟨[]⟩=> .eU []|_=> .any
def toA:Value->A| .agg ⟨cs⟩=>if cs.all (·.oneCell')then .agg (cs.map toA1)else .any|v=>toA1 v
def look:List (Nat×A)->Nat->A| [],_=> .any|(d,v)::r,t=>if d=t then v else look r t
def fF:List A->Nat->A->List A| [],_,_=>[]|_::xs,0,v=>v::xs|x::xs,n+1,v=>x::fF xs n v
def fc:List Obj->Nat->Option Obj| [],_=>none|x::_,0=>some x|_::xs,n+1=>fc xs n
def po:List Obj->Nat->Obj->List Obj| [],_,_=>[]|_::xs,0,v=>v::xs|x::xs,n+1,v=>x::po xs n v
def St.ev(σ:St):Operand->A| .tmp t=>look σ.s t| .const v=>toA v| .func f=> .fn f []| .global _=> .any
def St.put(σ:St)(d:Option Tmp)(v:A):St:=match d with|some d=>{σ with s:=(d,v)::σ.s}|none=>σ
def St.ib(σ:St)(n:Nat)(o:Obj):St:={σ with H:=po σ.H n o}
def d_(P:Program)(t:TypeId):Option Bool:=match P.underlying t with|some (.struct _)=>some true|some (.array _ _)=>some true|some _=>some false|none=>none
def cQ(P:Program)(t:TypeId):Option Nat:=(P.info? t).map (·.size)
def jN(P:Program)(t:TypeId):Nat:=P.bytesOf t
def cJ(P:Program)(t:TypeId):Option TypeId:=match P.underlying t with|some (.slice e)=>some e|_=>none
def jv(P:Program)(t:TypeId):Option (Nat×TypeId):=match P.underlying t with|some (.array n e)=>some (n,e)|_=>none
def fieldInfo(P:Program)(s:TypeId)(f:Nat):Option (Nat×TypeId):=match P.underlying s with|some (.struct fs)=>(fs[f]?).bind fun x=>if cQ P x.type=some 0 then none else if(cQ P x.type).isNone then none else some (x.offset,x.type)|_=>none
def iC(P:Program)(t:TypeId):Option A:=(P.info? t).bind fun i=>i.zero.map toA
def lg(P:Program)(t:TypeId):Bool:=match P.underlying t with|some .string=>true|_=>false
def lq(P:Program)(t:TypeId):Bool:=match P.underlying t with|some .bool=>true|_=>false
def nj(P:Program)(t:TypeId):Bool:=match P.underlying t with|some (.pointer _)=>true|_=>false
def uk(P:Program)(t:TypeId):Option IntKind:=match P.underlying t with|some (.int k)=>some k|_=>none
def oq(P:Program)(t:TypeId)(cs:List A):Option A:=
 match d_ P t with
 |some true=>
  match cQ P t with
  |some n=>if n<=cs.length then some (.agg (cs.take n))else none
  |none=>none
 |some false=>cs.head?
 |none=>none
def A.val:A->Bool| .any=>false| .eU _=>false|_=>true
def A.flat:A->Bool| .int _ _=>true| .bool _=>true| .str _=>true| .ec=>true| .yX=>true| .agg cs=>Na cs| .eU cs=>Na cs|_=>false where Na:List A->Bool| []=>true|c::cs=>c.flat&&Na cs
def mM(c:UInt8):A:= .int .u8 c.toNat
def iP(s:List UInt8):List A:=s.map mM
def yY:A->Option UInt8| .int .u8 n=>some (UInt8.ofNat n.toNat)|_=>none
def lF:List A->Option (List UInt8)| []=>some []|x::xs=>(yY x).bind fun b=>(lF xs).map (b:: ·)
def Wz:A->A->Option Bool| .int k a,.int k' b=>if k=k' then some (a==b)else none| .bool a,.bool b=>some (a==b)| .str a,.str b=>some (a==b)|_,_=>none
def AZ:List A->List A->Option Bool| [],[]=>some true|x::xs,y::ys=>(Wz x y).bind fun a=>(AZ xs ys).map (a&& ·)|_,_=>none
inductive CK where|int (k:IntKind)|bool|str deriving DecidableEq
def CK.has:CK->A->Bool| .int k,.int k' _=>k==k'| .bool,.bool _=>true| .str,.str _=>true|_,_=>false
def jU:List CK->List A->Bool| [],[]=>true|c::cs,x::xs=>c.has x&&jU cs xs|_,_=>false
def A.Nb:A->Bool| .ref _ _=>true| .mg _ _ _=>true| .jC _=>true|_=>false
def yZ(op:BinOp)(k:IntKind)(a b:Int):Option A:=match op with| .add=>some (.int k (k.wrap (a+b)))| .sub=>some (.int k (k.wrap (a-b)))| .mul=>some (.int k (k.wrap (a*b)))| .quo=>if b=0 then none else some (.int k (k.wrap (a.tdiv b)))| .rem=>if b=0 then none else some (.int k (a.tmod b))| .and=>some (.int k (k.wrap ((BitVec.ofInt k.bits a&&&BitVec.ofInt k.bits b).toNat)))| .or=>some (.int k (k.wrap ((BitVec.ofInt k.bits a|||BitVec.ofInt k.bits b).toNat)))| .xor=>some (.int k (k.wrap ((BitVec.ofInt k.bits a^^^BitVec.ofInt k.bits b).toNat)))| .andNot=>some (.int k (k.wrap ((BitVec.ofInt k.bits a&&&~~~ BitVec.ofInt k.bits b).toNat)))| .eql=>some (.bool (a==b))| .neq=>some (.bool (a !=b))| .lss=>some (.bool (decide (a<b)))| .leq=>some (.bool (decide (a<=b)))| .gtr=>some (.bool (decide (b<a)))| .geq=>some (.bool (decide (b<=a)))|_=>none
def binS(op:BinOp)(a b:List UInt8):Option A:=match op with| .add=>if a.length+b.length<=9223372036854775807 then some (.str (a++b))else none| .eql=>some (.bool (a==b))| .neq=>some (.bool (a !=b))| .lss=>some (.bool (Op.bytesLess a b))| .leq=>some (.bool (Op.bytesLess a b||a==b))| .gtr=>some (.bool !(Op.bytesLess a b||a==b))| .geq=>some (.bool !(Op.bytesLess a b))|_=>none
def Uh(sl:Bool)(op:BinOp)(c:Bool):Option A:=if sl=true then match op with| .eql=>some (.bool c)| .neq=>some (.bool !c)|_=>none else none
def mh(ks:Option (List CK))(bl ptr sl:Bool)(op:BinOp):A->A->Option A
 | .int k a,.int k' b=>
  match op with
  | .shl=>if b<0 then none else some (.int k (k.wrap (a*2^(min b.toNat k.bits))))
  | .shr=>if b<0 then none else some (.int k (a.fdiv (2^(min b.toNat k.bits))))
  |_=>if k=k' then yZ op k a b else none
 | .bool a,.bool b=>
  if bl=true then
   match op with
   | .eql=>some (.bool (a==b))
   | .neq=>some (.bool (a !=b))
   |_=>none
  else none
 | .str a,.str b=>binS op a b
 | .agg xs,.agg ys=>
  match ks with
  |some l=>
   if jU l xs=true/\jU l ys=true then
    match op with
    | .eql=>(AZ xs ys).map .bool
    | .neq=>(AZ xs ys).map fun b=> .bool !b
    |_=>none
   else none
  |none=>none
 | .yX,y=>
  if ptr then
   match op with
   | .eql=>match y with| .yX=>some (.bool true)|_=>if y.Nb then some (.bool false)else none
   | .neq=>match y with| .yX=>some (.bool false)|_=>if y.Nb then some (.bool true)else none
   |_=>none
  else none
 |x,.yX=>
  if ptr&&x.Nb then
   match op with
   | .eql=>some (.bool false)
   | .neq=>some (.bool true)
   |_=>none
  else none
 | .emp c,.ec=>Uh sl op c
 | .aD (_::_),.ec=>Uh sl op false
 |_,_=>none
def unA(op:UnOp):A->Option A
 | .bool b=>match op with| .not=>some (.bool !b)|_=>none
 | .int k n=>match op with| .neg=>some (.int k (k.wrap (0-n)))|_=>none
 |_=>none
def WA(rec:TypeId->Option (List CK))(size:TypeId->Option Nat):List Field->Nat->Option (List CK)| [],_=>some []|f::fs,off=>if f.name= "_" \/f.offset≠off then none else match rec f.type,size f.type with|some ks,some n=>if ks.length=n then(WA rec size fs (off+n)).map (ks++ ·)else none|_,_=>none
def WB(P:Program):Nat->TypeId->Option (List CK)|0,_=>none|d+1,t=>match P.underlying t with|some .bool=>some [.bool]|some (.int k)=>some [.int k]|some .string=>some [.str]|some (.struct fs)=>if P.stoodInHeld t=true then none else WA (WB P d) (cQ P) fs.toList 0|_=>none
def s7(P:Program)(t:TypeId):Option (List CK):=if P.eqGuardType P.depth t=true\/d_ P t≠some true then none else WB P 10 t
def nk:A->A| .ec=> .aD []| .emp _=> .aD []| .clip es=> .aD es|x=>x
def A.norm:A->A| .agg cs=> .agg (cs.map nk)|x=>nk x
def ma(H:List Obj)(n off k len:Nat):Option A:=match fc H n with|some (.row k' es)=>if k'=k/\off+len<=es.length/\k≠0 then some (.aD ((es.drop off).take len))else none|_=>none
def oU(H:List Obj):A->Option A| .row n off k len _=>ma H n off k len| .ref _ _=>none| .mg _ _ _=>none| .agg _=>none| .eU _=>none| .fn _ _=>none| .ec=>some (.aD [])| .emp _=>some (.aD [])| .clip es=>some (.aD es)|x=>some x
def jV(H:List Obj):List A->Option (List A)| []=>some []|x::xs=>(oU H x).bind fun y=>(jV H xs).map (y:: ·)
def qo(H:List Obj):A->Option A
 | .ref n off=>
  match fc H n with
  |some (.box cs)=>(jV H (cs.drop off)).map .jC
  |_=>none
 | .mg n i off=>
  match fc H n with
  |some (.row _ es)=>(es[i]?).map fun e=> .jC (e.cells.drop off)
  |_=>none
 | .agg cs=>(jV H cs).map .agg
 |x=>oU H x
def m_(H:List Obj):List A->Option (List A)| []=>some []|x::xs=>(qo H x).bind fun y=>(m_ H xs).map (y:: ·)
def view(H:List Obj):A->Option A| .fn f cs=>(m_ H cs).map (.fn f ·)|x=>qo H x
def mF(H:List Obj):List A->Option (List A)| []=>some []|x::xs=>(view H x).bind fun y=>(mF H xs).map (y:: ·)
def gI(i:Int)(es:List A):Option A:=if 0<=i then es[i.toNat]? else none
inductive Bd where|none|some (n:Int)|bad
def bdOf:A->Bd| .int _ n=> .some n|_=> .bad
def St.bd(σ:St):Option Operand->Bd|Option.none=> .none|Option.some x=>bdOf (σ.ev x)
def Bd.get(d:Int):Bd->Int| .some n=>n|_=>d
def Bd.ok:Bd->Bool| .bad=>false|_=>true
def Bd.ok3:Bd->Bool| .some _=>true|_=>false
def oV(k:Nat)(es:List A):Bool:=es.isEmpty||eK es==k
def Ki(s:List UInt8)(lo hi mx:Bd):Option A:=match mx with| .none=>if 0<=lo.get 0/\lo.get 0<=hi.get s.length/\hi.get s.length<=s.length then some (.str ((s.take (hi.get s.length).toNat).drop (lo.get 0).toNat))else none|_=>none
def xR(k:Nat)(es:List A)(lo hi mx:Bd):Option A:=match mx with| .none=>if oV k es=true/\0<=lo.get 0/\lo.get 0<=hi.get es.length/\hi.get es.length<=es.length then some (.aD ((es.take (hi.get es.length).toNat).drop (lo.get 0).toNat))else none| .some m=>if oV k es=true/\0<=lo.get 0/\lo.get 0<=hi.get es.length/\hi.get es.length<=es.length/\m=hi.get es.length/\hi.ok3=true then some (.clip ((es.take (hi.get es.length).toNat).drop (lo.get 0).toNat))else none| .bad=>none
def Kj(n off k len:Nat)(lo hi mx:Bd):Option A:=match mx with| .none=>if 0<=lo.get 0/\lo.get 0<=hi.get len/\hi.get len<=len then some (.row n (off+(lo.get 0).toNat) k (hi.get len-lo.get 0).toNat false)else none| .some m=>if 0<=lo.get 0/\lo.get 0<=hi.get len/\hi.get len<=len/\m=hi.get len/\hi.ok3=true then some (.row n (off+(lo.get 0).toNat) k (hi.get len-lo.get 0).toNat true)else none| .bad=>none
def xS(st:Bool)(sz:Option Nat)(x:A)(lo hi mx:Bd):Option A:=
 match x with
 | .str s=>if st=true then Ki s lo hi mx else none
 | .aD es=>match sz with|some k=>xR k es lo hi mx|none=>none
 | .clip es=>match sz with|some k=>xR k es lo hi mx|none=>none
 | .row n off k' len _=>match sz with|some k=>if k=k' then Kj n off k len lo hi mx else none|none=>none
 |_=>none
def xT(P:Program)(t:TypeId):Option Nat:=match cJ P t with|some e=>cQ P e|none=>none
def Nc(c a b:A):Option A:=match c with| .bool t=>some (if t then a else b)|_=>none
def y8(size:Option Nat)(off:Nat)(x:A)(zs:List A):Option (List A):=match size with|some n=>if x.cells.length=n/\off+n<=zs.length/\x.val=true then some (zs.take off++x.cells++zs.drop (off+n))else none|none=>none
def oW(P:Program)(t:TypeId)(σ:St):List (Nat×Operand)->List A->Option (List A)| [],zs=>some zs|(i,x)::ps,zs=>match fieldInfo P t i with|some (o,ft)=>(y8 (cQ P ft) o (σ.ev x) zs).bind (oW P t σ ps)|none=>none
def oZ(P:Program)(e:TypeId)(σ:St):List (Nat×Operand)->List A->Option (List A)| [],zs=>some zs|(i,x)::ps,zs=>match cQ P e with|some n=>(y8 (some n) (i*n) (σ.ev x) zs).bind (oZ P e σ ps)|none=>none
def nn(k:Nat)(σ:St):List (Nat×Operand)->List A->Option (List A)| [],zs=>some zs|(i,x)::ps,zs=>if(σ.ev x).cells.length=k/\i<zs.length/\(σ.ev x).val=true/\(σ.ev x).pure=true then nn k σ ps (fF zs i (σ.ev x).norm)else none
def kE(P:Program)(t:TypeId):Bool:=match P.underlying t with|some (.struct fs)=>fs.toList.all fun f=>(cQ P f.type).isSome|_=>false
def uT(P:Program)(t:TypeId)(σ:St)(parts:List (Nat×Operand)):Option A:=
 match iC P t with
 |some (.agg zs)=>
  match jv P t with
  |some (_,e)=>if(cQ P e).isSome=true then(oZ P e σ parts zs).map .agg else none
  |none=>if kE P t=true then(oW P t σ parts zs).map .agg else none
 |_=>none
def lh(P:Program)(t:TypeId)(len:Nat)(σ:St)(parts:List (Nat×Operand)):Option A:=
 match cJ P t with
 |some e=>
  match cQ P e,iC P e with
  |some k,some z=>if len*k<=16777216/\k≠0/\z.pure=true/\z.val=true/\z.cells.length=k then(nn k σ parts (List.replicate len z.norm)).map .clip else none
  |_,_=>none
 |none=>none
def xk(P:Program)(t:TypeId)(H:List Obj)(a:A):Option A:=
 match a with
 | .jC cs=>oq P t cs
 | .ref n off=>match fc H n with|some (.box cs)=>oq P t (cs.drop off)|_=>none
 | .mg n i off=>match fc H n with|some (.row _ es)=>(es[i]?).bind fun e=>oq P t (e.cells.drop off)|_=>none
 |_=>none
def A0(x:A):Option A:=match x with| .jC cs=>some (.jC cs)| .ref n off=>some (.ref n off)| .mg n i off=>some (.mg n i off)| .fn f cs=>some (.fn f cs)|_=>none
def y9(P:Program)(src dst:TypeId):Bool:=(cJ P src).any (fun e=>uk P e=some .u8)&&lg P dst
def qp(b:Bool)(x:Option A):Option A:=if b=true then match x with|some (.aD es)=>(lF es).map .str|_=>none else none
def rY(P:Program)(src dst:TypeId)(H:List Obj)(x:A):Option A:=
 match x with
 | .int _ n=>match uk P dst with|some k=>if(d_ P src).isSome=true then some (.int k (k.wrap n))else none|none=>none
 | .str s=>if lg P src&&lg P dst then some (.str s)else none
 | .aD es=>qp (y9 P src dst) (view H (.aD es))
 | .clip es=>qp (y9 P src dst) (view H (.clip es))
 | .ec=>qp (y9 P src dst) (view H .ec)
 | .row n off k len c=>qp (y9 P src dst) (view H (.row n off k len c))
 |_=>none
def oA(o:Nat)(x:A):Option A:=match x with| .jC cs=>some (.jC (cs.drop o))| .ref n off=>some (.ref n (off+o))| .mg n i off=>some (.mg n i (off+o))|_=>none
def oB(i:Option (Nat×TypeId))(x:A):Option A:=match i with|some (o,_)=>oA o x|none=>none
def Q4(P:Program)(i:Option (Nat×TypeId))(x:A):Option A:=match i,x with|some (o,t),.agg cs=>oq P t (cs.drop o)|_,_=>none
def WC(k:Nat)(i:Int)(es:List A):Option A:=(gI i es).bind fun y=>if k=y.cells.length then some (.jC y.cells)else none
def qt(k:Nat)(i:Int)(x:A):Option A:=match x with| .aD es=>WC k i es| .clip es=>WC k i es| .row n off k' len _=>if k=k'/\0<=i/\i<len then some (.mg n (off+i.toNat) 0)else none|_=>none
def s8(n k:Nat)(i:Int)(x:A):Option A:=match x with| .ref m off=>if 0<=i/\i<n then some (.ref m (off+i.toNat*k))else none| .jC cs=>if 0<=i/\i<n then some (.jC (cs.drop (i.toNat*k)))else none|_=>none
def qu(P:Program)(t:TypeId)(x ix:A):Option A:=
 match ix with
 | .int _ i=>
  match cJ P t with
  |some e=>match cQ P e with|some k=>qt k i x|none=>none
  |none=>
   match jv P t with
   |some (n,e)=>match cQ P e with|some k=>s8 n k i x|none=>none
   |none=>none
 |_=>none
def A2(P:Program)(t:TypeId)(x ix:A):Option A:=
 match ix,x with
 | .int _ i,.str s=>if lg P t=true/\0<=i then(s[i.toNat]?).map mM else none
 | .int _ i,.agg cs=>
  match jv P t with
  |some (n,e)=>match cQ P e with|some k=>if 0<=i/\i<n then oq P e (cs.drop (i.toNat*k))else none|none=>none
  |none=>none
 |_,_=>none
def uU(x:A)(ix:Nat):Option A:=match x with| .eU cs=>cs[ix]?|_=>none
def Q5(P:Program)(t:TypeId)(x:A):Option A:=match x with| .str s=>if lg P t=true then some (.int .i64 s.length)else none| .aD es=>if(cJ P t).isSome=true then some (.int .i64 es.length)else none| .clip es=>if(cJ P t).isSome=true then some (.int .i64 es.length)else none| .row _ _ _ len _=>if(cJ P t).isSome=true then some (.int .i64 len)else none| .ec=>if(cJ P t).isSome=true then some (.int .i64 0)else none|_=>match jv P t with|some (n,_)=>some (.int .i64 n)|none=>none
def minA:List A->Option A| [.int k a,.int _ b]=>some (.int k (if b<a then b else a))|_=>none
def maxA:List A->Option A| [.int k a,.int _ b]=>some (.int k (if b>a then b else a))|_=>none
def rZ(fn:Fn)(first captured:List A):Option A:=match fn,first with| .func f,[]=>some (.fn f captured)|_,_=>none
def St.qU(σ:St):List Operand->List A| []=>[]|x::xs=>σ.ev x::σ.qU xs
def um(P:Program)(σ:St):Op->Option A| .move x=>some (σ.ev x)| .assign x=>some (σ.ev x)| .pick c a b=>Nc (σ.ev c) (σ.ev a) (σ.ev b)| .build t parts=>uT P t σ parts.toList| .buildSlice t len parts=>lh P t len σ parts.toList| .load t a=>xk P t σ.H (σ.ev a)| .nilCheck x=>A0 (σ.ev x)| .binOp op t x y _=>mh (s7 P t) (lq P t) (nj P t) (cJ P t).isSome op (σ.ev x) (σ.ev y)| .unOp op _ x=>unA op (σ.ev x)| .convert src dst x=>rY P src dst σ.H (σ.ev x)| .makeFunc fn first captured=>rZ fn (σ.qU first.toList) (σ.qU captured.toList)| .slice t x lo hi mx=>if(jv P t).isNone=true/\(σ.bd lo).ok=true/\(σ.bd hi).ok=true then xS (lg P t) (xT P t) (σ.ev x) (σ.bd lo) (σ.bd hi) (σ.bd mx)else none| .fieldAddr s x f=>oB (fieldInfo P s f) (σ.ev x)| .field s x f=>Q4 P (fieldInfo P s f) (σ.ev x)| .indexAddr t x ix=>qu P t (σ.ev x) (σ.ev ix)| .index t x ix=>A2 P t (σ.ev x) (σ.ev ix)| .extract t ix=>uU (σ.ev t) ix| .call ⟨.builtin .len,⟨[x]⟩,⟨[t]⟩⟩=>Q5 P t (σ.ev x)| .call ⟨.builtin .min,⟨xs⟩,_⟩=>minA (σ.qU xs)| .call ⟨.builtin .max,⟨xs⟩,_⟩=>maxA (σ.qU xs)|_=>none
def Da(P:Program)(σ:St)(e tx:TypeId)(k:Nat)(x:A):Option (List A):=match x with| .aD es=>if oV k es=true/\(cJ P tx).isSome=true then some es else none| .clip es=>if oV k es=true/\(cJ P tx).isSome=true then some es else none| .ec=>if(cJ P tx).isSome=true then some []else none| .emp _=>if(cJ P tx).isSome=true then some []else none| .row n off k' len _=>if k'=k/\(cJ P tx).isSome=true then(match ma σ.H n off k len with|some (.aD es)=>some es|_=>none)else none| .str s=>if uk P e=some .u8/\k=1/\lg P tx=true then some (iP s)else none|_=>none
def jH(n:Nat)(x:A):A:=if x.mem n then .any else x
def s9(n:Nat):Obj->Obj| .box cs=> .box (cs.map (jH n))|o=>o
def St.lG(σ:St)(n:Nat):St:={s:=σ.s.map (fun p=>(p.1,jH n p.2)),H:=σ.H.map (s9 n)}
def s_(fx:Nat->Bool)(σ:St)(name:Nat)(d:Option Tmp)(k bytes:Nat)(base:A)(src:List A):Option St:=
 match base with
 | .ec=>if src.length*bytes<=140737488355328 then some ((σ.ib name (.row k src)).put d (.row name 0 k src.length false))else none
 | .clip es=>if oV k es=true/\(es=[]\/src≠ [])/\(es.length+src.length)*bytes<=140737488355328 then
  some ((σ.ib name (.row k (es++src))).put d (.row name 0 k (es.length+src.length) false))else none
 | .row n 0 k' len c=>
  match fc σ.H n with
  |some (.row HD es)=>
   if k'=k/\HD=k/\len<=es.length/\(len+src.length)*bytes<=140737488355328 then
    if c then(if src=[]then none else some ((σ.ib name (.row k (es.take len++src))).put d (.row name 0 k (len+src.length) false)))
    else(if fx n=true then none else some (((σ.lG n).ib n (.row k (es.take len++src))).put d (.row n 0 k (len+src.length) false)))
   else none
  |_=>none
 |_=>none
structure aN where
 f:FuncId->List A->Option A
 hp:FuncId->List A->List Obj->Option (A×List Obj×List Nat)
 py:FuncId->Bool
 uQ:FuncId->Bool
 WD:Bool
 fix:Nat->Bool
 nf:Nat
 fS:Nat->List (List Nat)
def Ek(Γ:aN):Operand->Bool| .func g=>Γ.py g| .tmp _=>Γ.WD|_=>false
def y_(P:Program)(src dst:TypeId):Bool:=lg P src&&(cJ P dst).any (fun e=>uk P e=some .u8)
def eR(P:Program):Op->Bool| .alloc _=>true| .box _ _=>true| .convert src dst _=>y_ P src dst| .call ⟨.builtin .append,_,_⟩=>true|_=>false
def jO(cs:List A)(off:Nat)(ys:List A):List A:=cs.take off++ys++cs.drop (off+ys.length)
def A3(σ:St)(name:Nat)(d:Option Tmp)(x:A):Option St:=if x.val=true then some ((σ.ib name (.box x.cells)).put d (.ref name 0))else none
def ta(σ:St)(name:Nat)(d:Option Tmp)(z:Option A):Option St:=match z with|some z=>A3 σ name d z|none=>none
def qv(e:A)(off:Nat)(v:A):A:=match e with| .agg cs=> .agg (jO cs off v.norm.cells)|_=>v.norm
def tb(σ:St)(d:Option Tmp)(size:Option Nat)(a v:A):Option St:=
 match a with
 | .ref n off=>
  match fc σ.H n with
  |some (.box cs)=>if size=some v.cells.length/\off+v.cells.length<=cs.length/\v.val=true then some ((σ.ib n (.box (jO cs off v.cells))).put d (.eU []))else none
  |_=>none
 | .mg n i off=>
  match fc σ.H n with
  |some (.row k es)=>(es[i]?).bind fun e=>if size=some v.cells.length/\off+v.cells.length<=e.cells.length/\v.cells.length≠0/\v.val=true/\v.pure=true then some ((σ.ib n (.row k (fF es i (qv e off v)))).put d (.eU []))else none
  |_=>none
 |_=>none
def Cm(P:Program)(σ:St)(name:Nat)(d:Option Tmp)(src dst:TypeId)(x:A):Option St:=if y_ P src dst=true then match x with| .str s=>some ((σ.ib name (.row 1 (iP s))).put d (.row name 0 1 s.length false))|_=>none else(rY P src dst σ.H x).map (σ.put d ·)
def mH(P:Program)(e:TypeId)(k:Nat):Bool:=match iC P e with|some z=>z.val&&z.cells.length==k|none=>false
def wj(P:Program)(fx:Nat->Bool)(σ:St)(name:Nat)(d:Option Tmp)(t tx:TypeId)(b x:A):Option St:=
 match cJ P t with
 |some e=>
  match cQ P e with
  |some k=>if k=0\/jN P e=0\/mH P e k=false then none else(Da P σ e tx k x).bind fun src=>s_ fx σ name d k (jN P e) b src
  |none=>none
 |none=>none
def Nf(Γ:aN)(σ:St)(d:Option Tmp)(g:FuncId)(aq:List A):Option St:= (mF σ.H aq).bind fun bs=>(Γ.f g bs).bind fun r=>if(A.pure.cY aq||r.flat)=true then some (σ.put d r)else none
def Em(Γ:aN)(σ:St)(d:Option Tmp)(f:A)(aq:List A):Option St:=match f with| .fn g oh=>Nf Γ σ d g (aq++oh)|_=>none
def A4(P:Program)(σ:St)(d:Option Tmp)(t:TypeId)(x:A):Option St:=
 match x with
 | .row n off k len _=>
  match cJ P t with
  |some e=>
   match fc σ.H n with
   |some (.row k' es)=>
    match iC P e with
    |some z=>if k'=k/\z.cells.length=k/\k≠0/\z.val=true/\z.pure=true/\off+len<=es.length then some ((σ.ib n (.row k (es.take off++List.replicate len z.norm++es.drop (off+len)))).put d (.eU []))else none
    |none=>none
   |_=>none
  |none=>none
 |_=>none
def A.names:A->List Nat| .ref n _=>[n]| .mg n _ _=>[n]| .row n _ _ _ _=>[n]| .agg cs=>l4 cs| .fn _ cs=>l4 cs| .eU cs=>l4 cs|_=>[] where l4:List A->List Nat| []=>[]|c::cs=>c.names++l4 cs
def Obj.names:Obj->List Nat| .box cs=>A.names.l4 cs| .row _ _=>[]
def xU:Option Obj->List Nat|some o=>o.names|none=>[]
def reach(H:List Obj):Nat->List Nat->List Nat->List Nat|0,_,acc=>acc|_+1,[],acc=>acc|fuel+1,n::todo,acc=>if acc.contains n=true then reach H fuel todo acc else reach H fuel (xU (fc H n)++todo) (acc++[n])
def idx(ρ:List Nat)(n:Nat):Option Nat:=match ρ with| []=>none|m::ms=>if m=n then some 0 else(idx ms n).map (· +1)
def A.nK(ρ:List Nat):A->Option A| .ref n o=>(idx ρ n).map (.ref · o)| .mg n i o=>(idx ρ n).map (.mg · i o)| .row n o k l c=>(idx ρ n).map (.row · o k l c)| .agg cs=>(uE ρ cs).map .agg| .fn f cs=>(uE ρ cs).map (.fn f ·)| .eU cs=>(uE ρ cs).map .eU|x=>some x where uE (ρ:List Nat):List A->Option (List A)| []=>some []|c::cs=>(c.nK ρ).bind fun x=>(uE ρ cs).map (x:: ·)
def Obj.nK(ρ:List Nat):Obj->Option Obj| .box cs=>(A.nK.uE ρ cs).map .box| .row k es=>some (.row k es)
def renO(ρ:List Nat):Option Obj->Option Obj|some o=>o.nK ρ|none=>none
def uF(ρ:List Nat)(H:List Obj):List Nat->Option (List Obj)| []=>some []|n::ns=>(renO ρ (fc H n)).bind fun o=>(uF ρ H ns).map (o:: ·)
def lx:List Nat->Nat->Nat->Nat| [],base,i=>base+i|n::_,_,0=>n|_::ns,base,i+1=>lx ns base i
def A.back(ρ:List Nat)(m:Nat):A->A| .ref n o=> .ref (lx ρ m n) o| .mg n i o=> .mg (lx ρ m n) i o| .row n o k l c=> .row (lx ρ m n) o k l c| .agg cs=> .agg (ot ρ m cs)| .fn f cs=> .fn f (ot ρ m cs)| .eU cs=> .eU (ot ρ m cs)|x=>x where ot (ρ:List Nat) (m:Nat):List A->List A| []=>[]|c::cs=>c.back ρ m::ot ρ m cs
def Obj.back(ρ:List Nat)(m:Nat):Obj->Obj| .box cs=> .box (A.back.ot ρ m cs)| .row k es=> .row k es
def iw(ρ:List Nat)(m:Nat)(σ:St):List Nat->St| []=>σ|i::is=>iw ρ m (σ.lG (lx ρ m i)) is
def qw(ρ:List Nat)(m:Nat):List Nat->List Obj->List Obj->List Obj| [],os,H=>H++os.map (Obj.back ρ m)|n::ns,o::os,H=>qw ρ m ns os (po H n (o.back ρ m))|_::_,[],H=>H
def En(σ:St)(d:Option Tmp)(ρ:List Nat):A×List Obj×List Nat->St|(r,H',S)=>St.put ⟨(iw ρ σ.H.length σ S).s,qw ρ σ.H.length ρ H' (iw ρ σ.H.length σ S).H⟩ d (r.back ρ σ.H.length)
def tc(Γ:aN)(ρ:List Nat)(m:Nat):List Nat->Bool| []=>true|i::is=> !Γ.fix (lx ρ m i)&&tc Γ ρ m is
def A.meets(ρ:List Nat)(x:A):Bool:=ρ.any fun n=>x.mem n
def qX(ρ:List Nat)(fq:List Obj)(x:A):A:=if x.meets ρ=true then(match x.nK ρ with|some x'=>(view fq x').getD .any|none=> .any)else x
def Kk(ρ:List Nat)(fq:List Obj):Obj->Obj| .box cs=> .box (cs.map (qX ρ fq))| .row k es=> .row k es
def r_(ρ:List Nat):List Nat->List Obj->List Obj| [],H=>H|n::ns,H=>r_ ρ ns (po H n (.row 0 []))
def Kl(σ:St)(d:Option Tmp)(ρ:List Nat)(fq:List Obj)(r:A):St:=St.put ⟨σ.s.map (fun p=>(p.1,qX ρ fq p.2)),r_ ρ ρ (σ.H.map (Kk ρ fq))⟩ d r
def xV(Γ:aN)(σ:St)(d:Option Tmp)(g:FuncId)(aq:List A)(ρ:List Nat):Option St:= (A.nK.uE ρ aq).bind fun as'=>(uF ρ σ.H ρ).bind fun fq=>if Γ.uQ g=true then(if ρ.all (fun n=> !Γ.fix n)=true then(mF fq as').bind fun bs=>(Γ.f g bs).map (Kl σ d ρ fq)else none) else(Γ.hp g as' fq).bind fun x=>if tc Γ ρ σ.H.length x.2.2=true then some (En σ d ρ x)else none
def Ng(Γ:aN)(σ:St)(d:Option Tmp)(g:FuncId)(aq:List A):Option St:=xV Γ σ d g aq (reach σ.H 64 (A.names.l4 aq) [])
def uV(Γ:aN)(σ:St)(d:Option Tmp)(f:A)(aq:List A):Option St:=match f with| .fn g oh=>Ng Γ σ d g (aq++oh)|_=>none
def execOp(P:Program)(Γ:aN)(name:Nat)(d:Option Tmp)(op:Op)(σ:St):Option St:=match op with| .alloc t=>ta σ name d (iC P t)| .box _ x=>A3 σ name d (σ.ev x)| .store t a x=>tb σ d (cQ P t) (σ.ev a) (σ.ev x)| .convert src dst x=>Cm P σ name d src dst (σ.ev x)| .call ⟨.builtin .append,⟨[b,x]⟩,⟨[t,tx]⟩⟩=>wj P Γ.fix σ name d t tx (σ.ev b) (σ.ev x)| .call ⟨.builtin .clear,⟨[x]⟩,⟨[t]⟩⟩=>A4 P σ d t (σ.ev x)| .call ⟨.value f,⟨xs⟩,_⟩=>if Ek Γ f=true then uV Γ σ d (σ.ev f) (σ.qU xs)else Em Γ σ d (σ.ev f) (σ.qU xs)|op=>(um P σ op).map (σ.put d ·)
def Eo:List (Option Tmp)->Nat->Option Tmp| [],_=>none|x::_,0=>x|_::xs,n+1=>Eo xs n
def nL(ds:List (Option Tmp))(σ:St)(g:Option (Nat×Bool)):Option Bool:=match g with|none=>some true|some (j,want)=>match Eo ds j with|none=>some false|some t=>match look σ.s t with| .bool b=>some (b==want)| .any=>none|_=>some false
def eE(P:Program)(Γ:aN)(ds:List (Option Tmp))(name:Nat)(o:Oper)(σ:St):Option St:=match nL ds σ o.guard with|none=>none|some b=>if b then execOp P Γ name o.dst o.op σ else some (σ.put o.dst (.eU []))
def grow(P:Program)(op:Op)(σ:St):St:=if eR P op=true then{σ with H:=σ.H++[.row 0 []]}else σ
def fD(P:Program)(op:Op)(n:Nat):Nat:=if eR P op=true then n+1 else n
def pre(P:Program):List Oper->St->St| [],σ=>σ|o::os,σ=>pre P os (grow P o.op σ)
def nM(P:Program)(Γ:aN)(ds:List (Option Tmp)):List Oper->Nat->St->Option St| [],_,σ=>some σ|o::os,n,σ=>(eE P Γ ds n o σ).bind (nM P Γ ds os (fD P o.op n))
def dstsOf:List Oper->List (Option Tmp)| []=>[]|o::os=>o.dst::dstsOf os
inductive Ex where|normal|exit (id:Nat)|ret
def A.under(m:Nat):A->Bool| .ref n _=>n<m| .mg n _ _=>n<m| .row n _ _ _ _=>n<m| .agg cs=>mi m cs| .fn _ cs=>mi m cs| .eU cs=>mi m cs|_=>true where mi (m:Nat):List A->Bool| []=>true|c::cs=>c.under m&&mi m cs
def leS(m:Nat)(s:List (Nat×A)):List (Nat×A)->Prop| []=>True|(d,y)::r=>(look s d=y/\y.under m=true)/\leS m s r
def MV(m:Nat):List A->List A->Prop| [],[]=>True|x::xs,y::ys=>(y= .any\/(x=y/\y.under m=true))/\MV m xs ys|_,_=>False
def Ui(m:Nat):Obj->Obj->Prop| .box xs,.box ys=>MV m xs ys| .row k xs,.row k' ys=>k=k'/\xs=ys|_,_=>False
def xm(m:Nat):List Obj->List Obj->Prop| [],[]=>True|_::_,[]=>True|x::xs,y::ys=>Ui m x y/\xm m xs ys| [],_::_=>False
def St.le(σ τ:St):Prop:=leS τ.H.length σ.s τ.s/\xm τ.H.length σ.H τ.H
def Nh(ρ:List Nat)(fq:List Obj)(σ:St):St:=⟨σ.s.map (fun p=>(p.1,qX ρ fq p.2)),r_ ρ ρ (σ.H.map (Kk ρ fq))⟩
def xW(ρ:List Nat)(σ:St):St:=⟨σ.s.map (fun p=>(p.1,p.2.back ρ σ.H.length)),qw ρ σ.H.length ρ σ.H σ.H⟩
inductive St.to(nf:Nat):St->St->Prop where|le {σ τ:St}:nf<=τ.H.length->σ.le τ->St.to nf σ τ|nil {σ τ:St} (d k:Nat):look σ.s d= .ec->St.to nf ⟨(d,.row σ.H.length 0 k 0 false)::σ.s,σ.H++[.row k []]⟩ τ->St.to nf σ τ|nilb {σ τ:St} (m i k:Nat) (cs:List A):fc σ.H m=some (.box cs)->cs[i]? =some .ec->St.to nf ⟨σ.s,po σ.H m (.box (fF cs i (.row σ.H.length 0 k 0 false)))++[.row k []]⟩ τ->St.to nf σ τ|wk {σ τ:St} (d:Nat) (es:List A):look σ.s d= .clip es->St.to nf ⟨(d,.aD es)::σ.s,σ.H⟩ τ->St.to nf σ τ|wkb {σ τ:St} (m:Nat) (cs:List A):fc σ.H m=some (.box cs)->St.to nf ⟨σ.s,po σ.H m (.box (cs.map nk))⟩ τ->St.to nf σ τ|perm {σ τ:St} (ρ:List Nat):σ.H.length=ρ.length->ρ.Nodup->(∀n∈ρ,n<ρ.length)->(∀n,n<ρ.length->n∈ρ)->(∀i,i<nf->lx ρ ρ.length i=i)->St.to nf (xW ρ σ) τ->St.to nf σ τ|uQ {σ τ:St} (ρ:List Nat) (fq:List Obj):ρ.Nodup->uF ρ σ.H ρ=some fq->(∀n∈ρ,nf<=n)->St.to nf (Nh ρ fq σ) τ->St.to nf σ τ
def K? {α:Type}(o:Option α)(q:α->Prop):Prop:= ∃x,o=some x/\q x
def pq(P:Program):Nat->List Oper->List (Nat×Oper)|_,[]=>[]|n,o::os=>(n,o)::pq P (fD P o.op n) os
def kj:List (Nat×Oper)->Nat->Option (Nat×Oper)| [],_=>none|x::_,0=>some x|_::xs,i+1=>kj xs i
def uG(P:Program)(Γ:aN)(ds:List (Option Tmp))(B:List (Nat×Oper)):List Nat->St->Option St| [],σ=>some σ|i::is,σ=>(kj B i).bind fun x=>(eE P Γ ds x.1 x.2 σ).bind (uG P Γ ds B is)
def xo(P:Program)(Γ:aN)(ds:List (Option Tmp))(B:List (Nat×Oper))(σ:St)(q:St->Prop):List (List Nat)->Prop| []=>True|o::os=>K? (uG P Γ ds B o σ) q/\xo P Γ ds B σ q os
def Q6(P:Program)(Γ:aN)(os:List (List Nat))(ops:Array Oper)(Q:Ex->St->Prop)(σ:St):Prop:=match os with| []=>K? (nM P Γ (dstsOf ops.toList) ops.toList σ.H.length (pre P ops.toList σ)) (Q .normal)|o::os=>xo P Γ (dstsOf ops.toList) (pq P σ.H.length ops.toList) (pre P ops.toList σ) (Q .normal) (o::os)
def Ni:List (List Nat)->Option (List Nat)|(t::ρ)::_=>if t=999999 then some ρ else none|_=>none
def Ep:List (List Nat)->List (List Nat)|(t::ρ)::os=>if t=999999 then os else(t::ρ)::os|os=>os
def uW(m:Nat)(ρ:List Nat):List Nat:=ρ.filter fun n=>decide (n<m)
def HE(P:Program)(Γ:aN)(os:List (List Nat))(ops:Array Oper)(Q:Ex->St->Prop)(σ:St):Prop:=match Ni os with|none=>Q6 P Γ (Ep os) ops Q σ|some ρ=>K? (uF (uW σ.H.length ρ) σ.H (uW σ.H.length ρ)) fun fq=>Q6 P Γ (Ep os) ops Q (Nh (uW σ.H.length ρ) fq σ)
def Q7(W:(Ex->St->Prop)->St->Prop)(Q:Ex->St->Prop)(e:Ex)(τ:St):Prop:=match e with| .normal=>W Q τ| .exit i=>Q (.exit i) τ| .ret=>Q .ret τ
def td(id:Nat)(Q:Ex->St->Prop)(e:Ex)(τ:St):Prop:=match e with| .normal=>Q .normal τ| .exit i=>if i=id then Q .normal τ else Q (.exit i) τ| .ret=>Q .ret τ
def xp(N:St->Prop)(Q:Ex->St->Prop)(e:Ex)(τ:St):Prop:=match e with| .normal=>N τ| .exit i=>Q (.exit i) τ| .ret=>Q .ret τ
def pz(c:A)(p q:Prop):Prop:= ∃t,c= .bool t/\(t=true->p)/\(t=false->q)
def lH(P:Program)(Γ:aN):Code->(Ex->St->Prop)->St->Prop| .skip,Q,σ=>Q .normal σ| .label _,Q,σ=>Q .normal σ| .seq a b,Q,σ=>lH P Γ a (Q7 (lH P Γ b) Q) σ| .cond c a b,Q,σ=>pz (σ.ev c) (lH P Γ a Q σ) (lH P Γ b Q σ)| .block id c,Q,σ=>lH P Γ c (td id Q) σ| .loop c,Q,σ=> ∃(ι:Type) (inv:ι->St) (μ:ι->Nat),(∃i,St.to Γ.nf σ (inv i))/\∀i,lH P Γ c (xp (fun τ=> ∃j,St.to Γ.nf τ (inv j)/\μ j<μ i) Q) (inv i)| .exit id,Q,σ=>Q (.exit id) σ| .ret,Q,σ=>Q .ret σ| .region id ops _,Q,σ=>HE P Γ (Γ.fS id) ops Q σ|_,_,_=>False
def resC(P:Program)(σ:St)(t:TypeId)(a:A):Option A:=
 match a with
 | .ref n off=>match fc σ.H n with|some (.box cs)=>(oq P t (cs.drop off)).bind (view σ.H)|_=>none
 |_=>none
def Nj(P:Program)(σ:St):ResultVar->Option A| .tmp t=>view σ.H (look σ.s t)| .cell a t=>resC P σ t (look σ.s a)
def A5(P:Program)(σ:St):List ResultVar->Option (List A)| []=>some []|r::rs=>(Nj P σ r).bind fun x=>(A5 P σ rs).map (x:: ·)
def nN:List A->A| [x]=>x|xs=> .eU xs
def Uj(P:Program)(fn:Func)(rI:A->Prop)(e:Ex)(σ:St):Prop:=match e with| .exit _=>False|_=>K? (A5 P σ fn.results.toList) (fun rs=>rI (nN rs))
def rawC(P:Program)(σ:St)(t:TypeId)(a:A):Option A:=
 match a with
 | .ref n off=>match fc σ.H n with|some (.box cs)=>oq P t (cs.drop off)|_=>none
 |_=>none
def WE(P:Program)(σ:St):ResultVar->Option A| .tmp t=>some (look σ.s t)| .cell a t=>rawC P σ t (look σ.s a)
def Db(P:Program)(σ:St):List ResultVar->Option (List A)| []=>some []|r::rs=>(WE P σ r).bind fun x=>(Db P σ rs).map (x:: ·)
def bodyH(P:Program)(fn:Func)(r:A)(H':List Obj)(e:Ex)(σ:St):Prop:=match e with| .exit _=>False|_=>K? (Db P σ fn.results.toList) (fun rs=>nN rs=r/\r.under H'.length=true/\xm H'.length σ.H H')
def number:Nat->List A->List (Nat×A)|_,[]=>[]|n,x::xs=>(n,x)::number (n+1) xs
def A6(args:List A):St:={s:=number 0 args,H:=[]}
def Km(args:List A)(H:List Obj):St:={s:=number 0 args,H:=H}
end Go.ez
namespace Go.ez
theorem za{P:Program}{Γ:aN}: ∀{c:Code} {Q Q':Ex->St->Prop} {σ:St},(∀e τ,Q e τ->Q' e τ)->lH P Γ c Q σ->lH P Γ c Q' σ:=by intro c;induction c with|skip=>(intro Q Q' σ h hw;simp only[lH]at hw⊢;exact h _ _ hw)|label l=>(intro Q Q' σ h hw;simp only[lH]at hw⊢;exact h _ _ hw)|exit id=>(intro Q Q' σ h hw;simp only[lH]at hw⊢;exact h _ _ hw)|ret=>(intro Q Q' σ h hw;simp only[lH]at hw⊢;exact h _ _ hw)|seq x y ihx ihy=>(intro Q Q' σ h hw;simp only[lH]at hw⊢;refine ihx (fun e τ hq=> ?_) hw;cases e with|normal=>(exact ihy h hq)|exit i=>(exact h _ _ hq)|ret=>(exact h _ _ hq))|cond c x y ihx ihy=>(intro Q Q' σ h hw;simp only[lH,pz]at hw⊢;obtain⟨t,ht,h1,h2⟩:=hw;exact⟨t,ht,fun e=>ihx h (h1 e),fun e=>ihy h (h2 e)⟩)|block id x ih=>(intro Q Q' σ h hw;simp only[lH]at hw⊢;refine ih (fun e τ hq=> ?_) hw;cases e with|normal=>(exact h _ _ hq)|exit i=>(simp only[td]at hq⊢;split at hq;{rename_i e;rw[if_pos e];exact h _ _ hq};{rename_i e;rw[if_neg e];exact h _ _ hq})|ret=>(exact h _ _ hq))|loop x ih=>(intro Q Q' σ h hw;simp only[lH]at hw⊢;obtain⟨ι,inv,μ,h0,hs⟩:=hw;refine⟨ι,inv,μ,h0,fun i=>ih (fun e τ hq=> ?_) (hs i)⟩;cases e with|normal=>(exact hq)|exit i=>(exact h _ _ hq)|ret=>(exact h _ _ hq))|region id ops d=>(intro Q Q' σ h hw;simp only[lH]at hw⊢;(have key: ∀(os:List (List Nat)) (σ:St),Q6 P Γ os ops Q σ->Q6 P Γ os ops Q' σ:=fun os σ=>by cases os with|nil=>(rintro⟨τ,hr,hq⟩;exact⟨τ,hr,h _ _ hq⟩)|cons o os=>((have key: ∀os:List (List Nat),xo P Γ (dstsOf ops.toList) (pq P σ.H.length ops.toList) (pre P ops.toList σ) (Q .normal) os->xo P Γ (dstsOf ops.toList) (pq P σ.H.length ops.toList) (pre P ops.toList σ) (Q' .normal) os:=by intro os;induction os with|nil=>(exact fun h=>h)|cons o os ih=>(rintro⟨⟨τ,hr,hq⟩,h2⟩;exact⟨⟨τ,hr,h _ _ hq⟩,ih h2⟩));exact key _));unfold HE at hw⊢;cases hf:Ni (Γ.fS id)with|none=>(rw[hf]at hw;exact key _ _ hw)|some ρ=>(rw[hf]at hw;obtain⟨fq,h1,h2⟩:=hw;exact⟨fq,h1,key _ _ h2⟩))|_=>(intro Q Q' σ _ hw;simp only[lH]at hw)
section
variable{P:Program}{Γ:aN}{Q:Ex->St->Prop}{σ:St}
@[go_sem] theorem wpA_skip:lH P Γ .skip Q σ=Q .normal σ:=by simp only[lH]
@[go_sem] theorem wpA_seq{a b:Code}:lH P Γ (.seq a b) Q σ=lH P Γ a (Q7 (lH P Γ b) Q) σ:=by simp only[lH]
@[go_sem] theorem wpA_cond{c:Operand}{a b:Code}:lH P Γ (.cond c a b) Q σ=pz (σ.ev c) (lH P Γ a Q σ) (lH P Γ b Q σ):=by simp only[lH]
@[go_sem] theorem wpA_block{id:Nat}{c:Code}:lH P Γ (.block id c) Q σ=lH P Γ c (td id Q) σ:=by simp only[lH]
@[go_sem] theorem wpA_exit{id:Nat}:lH P Γ (.exit id) Q σ=Q (.exit id) σ:=by simp only[lH]
@[go_sem] theorem wpA_ret:lH P Γ .ret Q σ=Q .ret σ:=by simp only[lH]
@[go_sem] theorem wpA_region{σs:List (Nat×A)}{gD:List Obj}{i:Nat}{ops:Array Oper}{d:Bool}:lH P Γ (.region i ops d) Q (St.mk σs gD)=HE P Γ (Γ.fS i) ops Q (St.mk σs gD):=by simp only[lH]
@[congr] theorem regW_congr{os os':List (List Nat)}{ops:Array Oper}(h:os=os'):HE P Γ os ops Q σ=HE P Γ os' ops Q σ:=by rw[h]
@[go_sem] theorem regW_nil{σs:List (Nat×A)}{gD:List Obj}{ops:Array Oper}:HE P Γ [] ops Q (St.mk σs gD)=K? (nM P Γ (dstsOf ops.toList) ops.toList gD.length (pre P ops.toList (St.mk σs gD))) (Q .normal):=rfl
@[go_sem] theorem regW_cons{σs:List (Nat×A)}{gD:List Obj}{ops:Array Oper}{t:Nat}{o:List Nat}{os:List (List Nat)}(h:t≠999999):HE P Γ ((t::o)::os) ops Q (St.mk σs gD)=xo P Γ (dstsOf ops.toList) (pq P gD.length ops.toList) (pre P ops.toList (St.mk σs gD)) (Q .normal) ((t::o)::os):=by unfold HE Ni Ep;simp only[if_neg h];rfl
@[go_sem] theorem regW_frz'{σs:List (Nat×A)}{gD:List Obj}{ops:Array Oper}{t:Nat}{ρ:List Nat}{os:List (List Nat)}(h:t=999999):HE P Γ ((t::ρ)::os) ops Q (St.mk σs gD)=K? (uF (uW gD.length ρ) gD (uW gD.length ρ)) fun fq=>Q6 P Γ os ops Q (Nh (uW gD.length ρ) fq (St.mk σs gD)):=by subst h;rfl
@[go_sem] theorem keepN_nil{m:Nat}:uW m []=[]:=rfl
@[go_sem] theorem keepN_cons{m n:Nat}{ρ:List Nat}:uW m (n::ρ)=if n<m then n::uW m ρ else uW m ρ:=by unfold uW;rw[List.filter_cons];simp
@[go_sem] theorem regO_nil{σs:List (Nat×A)}{gD:List Obj}{ops:Array Oper}:Q6 P Γ [] ops Q (St.mk σs gD)=K? (nM P Γ (dstsOf ops.toList) ops.toList gD.length (pre P ops.toList (St.mk σs gD))) (Q .normal):=rfl
@[go_sem] theorem ordsW_nil{ds:List (Option Tmp)}{B:List (Nat×Oper)}{q:St->Prop}:xo P Γ ds B σ q []=True:=rfl
@[go_sem] theorem ordsW_cons{ds:List (Option Tmp)}{B:List (Nat×Oper)}{q:St->Prop}{o:List Nat}{os:List (List Nat)}:xo P Γ ds B σ q (o::os)=(K? (uG P Γ ds B o σ) q/\xo P Γ ds B σ q os):=rfl
@[go_sem] theorem annS_nil{n:Nat}:pq P n []=[]:=rfl
@[go_sem] theorem annS_cons{n:Nat}{o:Oper}{os:List Oper}:pq P n (o::os)=(n,o)::pq P (fD P o.op n) os:=rfl
@[go_sem] theorem nthA_zero{x:Nat×Oper}{xs:List (Nat×Oper)}:kj (x::xs) 0=some x:=rfl
@[go_sem] theorem nthA_succ{x:Nat×Oper}{xs:List (Nat×Oper)}{i:Nat}:kj (x::xs) (i+1)=kj xs i:=rfl
@[congr] theorem runO_congr{ds:List (Option Tmp)}{B B':List (Nat×Oper)}{is:List Nat}{jR:St}(hB:B=B')(h:σ=jR):uG P Γ ds B is σ=uG P Γ ds B' is jR:=by rw[hB,h]
@[congr] theorem wpA_congr{c:Code}{jR:St}(h:σ=jR):lH P Γ c Q σ=lH P Γ c Q jR:=by rw[h]
@[go_sem] theorem seqQ_normal{W:(Ex->St->Prop)->St->Prop}:Q7 W Q .normal σ=W Q σ:=rfl
@[go_sem] theorem seqQ_exit{W:(Ex->St->Prop)->St->Prop}{i:Nat}:Q7 W Q (.exit i) σ=Q (.exit i) σ:=rfl
@[go_sem] theorem seqQ_ret{W:(Ex->St->Prop)->St->Prop}:Q7 W Q .ret σ=Q .ret σ:=rfl
@[go_sem] theorem blockQ_normal{id:Nat}:td id Q .normal σ=Q .normal σ:=rfl
@[go_sem] theorem blockQ_exit{id i:Nat}:td id Q (.exit i) σ=if i=id then Q .normal σ else Q (.exit i) σ:=rfl
@[go_sem] theorem blockQ_ret{id:Nat}:td id Q .ret σ=Q .ret σ:=rfl
@[go_sem] theorem loopQ_normal{N:St->Prop}:xp N Q .normal σ=N σ:=rfl
@[go_sem] theorem loopQ_exit{N:St->Prop}{i:Nat}:xp N Q (.exit i) σ=Q (.exit i) σ:=rfl
@[go_sem] theorem loopQ_ret{N:St->Prop}:xp N Q .ret σ=Q .ret σ:=rfl
@[congr] theorem seqQ_congr{W:(Ex->St->Prop)->St->Prop}{e e':Ex}{jR:St}(h:e=e')(h':σ=jR):Q7 W Q e σ=Q7 W Q e' jR:=by rw[h,h']
@[congr] theorem blockQ_congr{id:Nat}{e e':Ex}{jR:St}(h:e=e')(h':σ=jR):td id Q e σ=td id Q e' jR:=by rw[h,h']
@[congr] theorem loopQ_congr{N:St->Prop}{e e':Ex}{jR:St}(h:e=e')(h':σ=jR):xp N Q e σ=xp N Q e' jR:=by rw[h,h']
@[go_sem high] theorem condA_true{p q:Prop}:pz (.bool true) p q=p:=by simp[pz]
@[go_sem high] theorem condA_false{p q:Prop}:pz (.bool false) p q=q:=by simp[pz]
@[go_sem] theorem condA_bool{b:Bool}{p q:Prop}:pz (.bool b) p q=((b=true->p)/\(b=false->q)):=by simp[pz]
@[go_sem ↓ high] theorem condA_true'{p q:Prop}:pz (.bool true) p q=p:=by simp[pz]
@[go_sem ↓ high] theorem condA_false'{p q:Prop}:pz (.bool false) p q=q:=by simp[pz]
@[congr] theorem condA_congr{c c':A}{p q:Prop}(h:c=c'):pz c p q=pz c' p q:=by rw[h]
end
section
variable{α β:Type}
@[go_sem high] theorem K_some{x:α}{q:α->Prop}:K? (some x) q=q x:=by simp[K?]
@[go_sem] theorem K_bind{o:Option α}{f:α->Option β}{q:β->Prop}:K? (o.bind f) q=K? o (fun x=>K? (f x) q):=by cases o<;>simp[K?]
@[go_sem] theorem K_map{o:Option α}{f:α->β}{q:β->Prop}:K? (o.map f) q=K? o (fun x=>q (f x)):=by cases o<;>simp[K?]
@[go_sem high] theorem K_ite_none{c:Prop} [Decidable c]{a:Option α}{q:α->Prop}:K? (if c then a else none) q=(c/\K? a q):=by split<;>simp_all[K?]
@[go_sem ↓ high] theorem K_some'{x:α}{q:α->Prop}:K? (some x) q=q x:=by simp[K?]
@[congr] theorem K_congr{o o':Option α}{q:α->Prop}(h:o=o'):K? o q=K? o' q:=by rw[h]
@[go_sem] theorem K_getElem{l:List α}{i:Nat}{q:α->Prop}(h:i<l.length):K? l[i]? q=q l[i]:=by simp[K?,h]
end
section
variable{P:Program}{Γ:aN}{σ:St}{n:Nat}{d:Option Tmp}{ds:List (Option Tmp)}{q:St->Prop}
@[go_sem] theorem K_runSeq_nil{n:Nat}:K? (nM P Γ ds [] n σ) q=q σ:=by simp[nM,K?]
@[go_sem] theorem K_runSeq_cons{o:Oper}{os:List Oper}{n:Nat}:K? (nM P Γ ds (o::os) n σ) q=K? (eE P Γ ds n o σ) (fun τ=>K? (nM P Γ ds os (fD P o.op n) τ) q):=by simp only[nM,K_bind]
@[go_sem] theorem K_runO_nil{B:List (Nat×Oper)}:K? (uG P Γ ds B [] σ) q=q σ:=by simp[uG,K?]
@[go_sem] theorem K_runO_cons{B:List (Nat×Oper)}{i:Nat}{is:List Nat}:K? (uG P Γ ds B (i::is) σ) q=K? (kj B i) (fun x=>K? (eE P Γ ds x.1 x.2 σ) (fun τ=>K? (uG P Γ ds B is τ) q)):=by simp only[uG,K_bind]
@[go_sem] theorem pre_nil:pre P [] σ=σ:=rfl
@[go_sem] theorem pre_cons{o:Oper}{os:List Oper}:pre P (o::os) σ=pre P os (grow P o.op σ):=rfl
@[congr] theorem pre_congr{os:List Oper}{jR:St}(h:σ=jR):pre P os σ=pre P os jR:=by rw[h]
@[congr] theorem runSeq_congr{os:List Oper}{jR:St}{n n':Nat}(h:σ=jR)(h':n=n'):nM P Γ ds os n σ=nM P Γ ds os n' jR:=by rw[h,h']
@[congr] theorem exec1_congr{o:Oper}{n':Nat}{jR:St}(hn:n=n')(h:σ=jR):eE P Γ ds n o σ=eE P Γ ds n' o jR:=by rw[h,hn]
@[go_sem] theorem exec1_plain{op:Op}{t:TypeId}{p:String}{af:Array Edge}:eE P Γ ds n ⟨d,op,t,p,af,none⟩ σ=execOp P Γ n d op σ:=by simp[eE,nL]
def Kn(b:A)(want:Bool)(x y:Option St):Option St:=match b with| .bool b=>if(b==want)=true then x else y| .any=>none|_=>y
@[go_sem] theorem exec1_guard{σs:List (Nat×A)}{gD:List Obj}{op:Op}{t:TypeId}{p:String}{af:Array Edge}{j:Nat}{w:Bool}:eE P Γ ds n ⟨d,op,t,p,af,some (j,w)⟩ (St.mk σs gD)=(match Eo ds j with|some t=>Kn (look σs t) w (execOp P Γ n d op (St.mk σs gD)) (some ((St.mk σs gD).put d (.eU [])))|none=>some ((St.mk σs gD).put d (.eU []))):=by simp only[eE,nL];cases Eo ds j with|none=>(simp)|some t=>(simp only[];cases look σs t<;>simp[Kn])
@[go_sem] theorem guardA_bool{b w:Bool}{x y:Option St}:Kn (.bool b) w x y=if(b==w)=true then x else y:=rfl
@[go_sem] theorem guardA_undef{w:Bool}{x y:Option St}:Kn (.eU []) w x y=y:=rfl
@[go_sem] theorem nthD_zero{x:Option Tmp}{xs:List (Option Tmp)}:Eo (x::xs) 0=x:=rfl
@[go_sem] theorem nthD_succ{x:Option Tmp}{xs:List (Option Tmp)}{m:Nat}:Eo (x::xs) (m+1)=Eo xs m:=rfl
@[go_sem] theorem dstsOf_nil:dstsOf []=[]:=rfl
@[go_sem] theorem dstsOf_cons{o:Oper}{os:List Oper}:dstsOf (o::os)=o.dst::dstsOf os:=rfl
variable{x y z:Operand}{t u:TypeId}{k:Nat}
@[go_sem] theorem grow_move:grow P (.move x) σ=σ:=rfl
@[go_sem] theorem nxt_move{n:Nat}:fD P (.move x) n=n:=rfl
@[go_sem] theorem grow_assign:grow P (.assign x) σ=σ:=rfl
@[go_sem] theorem nxt_assign{n:Nat}:fD P (.assign x) n=n:=rfl
@[go_sem] theorem grow_pick:grow P (.pick x y z) σ=σ:=rfl
@[go_sem] theorem nxt_pick{n:Nat}:fD P (.pick x y z) n=n:=rfl
@[go_sem] theorem grow_build{ps:Array (Nat×Operand)}:grow P (.build t ps) σ=σ:=rfl
@[go_sem] theorem nxt_build{ps:Array (Nat×Operand)}{n:Nat}:fD P (.build t ps) n=n:=rfl
@[go_sem] theorem aan{ps:Array (Nat×Operand)}:grow P (.buildSlice t k ps) σ=σ:=rfl
@[go_sem] theorem nxt_buildSlice{ps:Array (Nat×Operand)}{n:Nat}:fD P (.buildSlice t k ps) n=n:=rfl
@[go_sem] theorem grow_load:grow P (.load t x) σ=σ:=rfl
@[go_sem] theorem nxt_load{n:Nat}:fD P (.load t x) n=n:=rfl
@[go_sem] theorem grow_store:grow P (.store t x y) σ=σ:=rfl
@[go_sem] theorem nxt_store{n:Nat}:fD P (.store t x y) n=n:=rfl
@[go_sem] theorem grow_binOp{o:BinOp}:grow P (.binOp o t x y u) σ=σ:=rfl
@[go_sem] theorem nxt_binOp{o:BinOp}{n:Nat}:fD P (.binOp o t x y u) n=n:=rfl
@[go_sem] theorem grow_unOp{o:UnOp}:grow P (.unOp o t x) σ=σ:=rfl
@[go_sem] theorem nxt_unOp{o:UnOp}{n:Nat}:fD P (.unOp o t x) n=n:=rfl
@[go_sem] theorem grow_makeFunc{f:Fn}{xs ys:Array Operand}:grow P (.makeFunc f xs ys) σ=σ:=rfl
@[go_sem] theorem nxt_makeFunc{f:Fn}{xs ys:Array Operand}{n:Nat}:fD P (.makeFunc f xs ys) n=n:=rfl
@[go_sem] theorem grow_slice{l h m:Option Operand}:grow P (.slice t x l h m) σ=σ:=rfl
@[go_sem] theorem nxt_slice{l h m:Option Operand}{n:Nat}:fD P (.slice t x l h m) n=n:=rfl
@[go_sem] theorem grow_fieldAddr:grow P (.fieldAddr t x k) σ=σ:=rfl
@[go_sem] theorem nxt_fieldAddr{n:Nat}:fD P (.fieldAddr t x k) n=n:=rfl
@[go_sem] theorem grow_indexAddr:grow P (.indexAddr t x y) σ=σ:=rfl
@[go_sem] theorem nxt_indexAddr{n:Nat}:fD P (.indexAddr t x y) n=n:=rfl
@[go_sem] theorem grow_index:grow P (.index t x y) σ=σ:=rfl
@[go_sem] theorem nxt_index{n:Nat}:fD P (.index t x y) n=n:=rfl
@[go_sem] theorem grow_extract:grow P (.extract x k) σ=σ:=rfl
@[go_sem] theorem nxt_extract{n:Nat}:fD P (.extract x k) n=n:=rfl
@[go_sem] theorem grow_alloc{σs:List (Nat×A)}{gD:List Obj}:grow P (.alloc t) (St.mk σs gD)=⟨σs,gD++[.row 0 []]⟩:=rfl
@[go_sem] theorem nxt_alloc{n:Nat}:fD P (.alloc t) n=n+1:=rfl
@[go_sem] theorem grow_box{σs:List (Nat×A)}{gD:List Obj}:grow P (.box t x) (St.mk σs gD)=⟨σs,gD++[.row 0 []]⟩:=rfl
@[go_sem] theorem nxt_box{n:Nat}:fD P (.box t x) n=n+1:=rfl
@[go_sem] theorem grow_convert{σs:List (Nat×A)}{gD:List Obj}:grow P (.convert t u x) (St.mk σs gD)=if y_ P t u=true then⟨σs,gD++[.row 0 []]⟩else(St.mk σs gD):=rfl
@[go_sem] theorem nxt_convert{n:Nat}:fD P (.convert t u x) n=if y_ P t u=true then n+1 else n:=rfl
@[go_sem] theorem grow_len{xs:Array Operand}{ts:Array TypeId}:grow P (.call ⟨.builtin .len,xs,ts⟩) σ=σ:=rfl
@[go_sem] theorem nxt_len{xs:Array Operand}{ts:Array TypeId}{n:Nat}:fD P (.call ⟨.builtin .len,xs,ts⟩) n=n:=rfl
@[go_sem] theorem grow_min{xs:Array Operand}{ts:Array TypeId}:grow P (.call ⟨.builtin .min,xs,ts⟩) σ=σ:=rfl
@[go_sem] theorem nxt_min{xs:Array Operand}{ts:Array TypeId}{n:Nat}:fD P (.call ⟨.builtin .min,xs,ts⟩) n=n:=rfl
@[go_sem] theorem grow_max{xs:Array Operand}{ts:Array TypeId}:grow P (.call ⟨.builtin .max,xs,ts⟩) σ=σ:=rfl
@[go_sem] theorem nxt_max{xs:Array Operand}{ts:Array TypeId}{n:Nat}:fD P (.call ⟨.builtin .max,xs,ts⟩) n=n:=rfl
@[go_sem] theorem grow_append{σs:List (Nat×A)}{gD:List Obj}{xs:Array Operand}{ts:Array TypeId}:grow P (.call ⟨.builtin .append,xs,ts⟩) (St.mk σs gD)=⟨σs,gD++[.row 0 []]⟩:=rfl
@[go_sem] theorem nxt_append{xs:Array Operand}{ts:Array TypeId}{n:Nat}:fD P (.call ⟨.builtin .append,xs,ts⟩) n=n+1:=rfl
@[go_sem] theorem grow_clear{xs:Array Operand}{ts:Array TypeId}:grow P (.call ⟨.builtin .clear,xs,ts⟩) σ=σ:=rfl
@[go_sem] theorem nxt_clear{xs:Array Operand}{ts:Array TypeId}{n:Nat}:fD P (.call ⟨.builtin .clear,xs,ts⟩) n=n:=rfl
@[go_sem] theorem grow_call{xs:Array Operand}{ts:Array TypeId}:grow P (.call ⟨.value x,xs,ts⟩) σ=σ:=rfl
@[go_sem] theorem nxt_call{xs:Array Operand}{ts:Array TypeId}{n:Nat}:fD P (.call ⟨.value x,xs,ts⟩) n=n:=rfl
@[go_sem] theorem ex_move:execOp P Γ n d (.move x) σ=some (σ.put d (σ.ev x)):=rfl
@[go_sem] theorem ex_assign:execOp P Γ n d (.assign x) σ=some (σ.put d (σ.ev x)):=rfl
@[go_sem] theorem ex_pick:execOp P Γ n d (.pick x y z) σ=(Nc (σ.ev x) (σ.ev y) (σ.ev z)).map (σ.put d ·):=rfl
@[go_sem] theorem ex_build{ps:List (Nat×Operand)}:execOp P Γ n d (.build t ⟨ps⟩) σ=(uT P t σ ps).map (σ.put d ·):=rfl
@[go_sem] theorem ex_buildSlice{ps:List (Nat×Operand)}:execOp P Γ n d (.buildSlice t k ⟨ps⟩) σ=(lh P t k σ ps).map (σ.put d ·):=rfl
@[go_sem] theorem ex_load{σs:List (Nat×A)}{gD:List Obj}:execOp P Γ n d (.load t x) (St.mk σs gD)=(xk P t gD ((St.mk σs gD).ev x)).map ((St.mk σs gD).put d ·):=rfl
@[go_sem] theorem ex_binOp{o:BinOp}:execOp P Γ n d (.binOp o t x y u) σ=(mh (s7 P t) (lq P t) (nj P t) (cJ P t).isSome o (σ.ev x) (σ.ev y)).map (σ.put d ·):=rfl
@[go_sem] theorem ex_unOp{o:UnOp}:execOp P Γ n d (.unOp o t x) σ=(unA o (σ.ev x)).map (σ.put d ·):=rfl
@[go_sem] theorem ex_makeFunc{f:Fn}{xs ys:List Operand}:execOp P Γ n d (.makeFunc f ⟨xs⟩ ⟨ys⟩) σ=(rZ f (σ.qU xs) (σ.qU ys)).map (σ.put d ·):=rfl
@[go_sem] theorem ex_slice{l h m:Option Operand}:execOp P Γ n d (.slice t x l h m) σ=(if(jv P t).isNone=true/\(σ.bd l).ok=true/\(σ.bd h).ok=true then xS (lg P t) (xT P t) (σ.ev x) (σ.bd l) (σ.bd h) (σ.bd m)else none).map (σ.put d ·):=rfl
@[go_sem] theorem ex_fieldAddr:execOp P Γ n d (.fieldAddr t x k) σ=(oB (fieldInfo P t k) (σ.ev x)).map (σ.put d ·):=rfl
@[go_sem] theorem ex_indexAddr:execOp P Γ n d (.indexAddr t x y) σ=(qu P t (σ.ev x) (σ.ev y)).map (σ.put d ·):=rfl
@[go_sem] theorem ex_index:execOp P Γ n d (.index t x y) σ=(A2 P t (σ.ev x) (σ.ev y)).map (σ.put d ·):=rfl
@[go_sem] theorem ex_extract:execOp P Γ n d (.extract x k) σ=(uU (σ.ev x) k).map (σ.put d ·):=rfl
@[go_sem] theorem ex_alloc:execOp P Γ n d (.alloc t) σ=ta σ n d (iC P t):=rfl
@[go_sem] theorem ex_box:execOp P Γ n d (.box t x) σ=A3 σ n d (σ.ev x):=rfl
@[go_sem] theorem ex_store:execOp P Γ n d (.store t x y) σ=tb σ d (cQ P t) (σ.ev x) (σ.ev y):=rfl
@[go_sem] theorem ex_convert:execOp P Γ n d (.convert t u x) σ=Cm P σ n d t u (σ.ev x):=rfl
@[go_sem] theorem ex_len:execOp P Γ n d (.call ⟨.builtin .len,⟨[x]⟩,⟨[t]⟩⟩) σ=(Q5 P t (σ.ev x)).map (σ.put d ·):=rfl
@[go_sem] theorem ex_min{xs:List Operand}{ts:Array TypeId}:execOp P Γ n d (.call ⟨.builtin .min,⟨xs⟩,ts⟩) σ=(minA (σ.qU xs)).map (σ.put d ·):=rfl
@[go_sem] theorem ex_max{xs:List Operand}{ts:Array TypeId}:execOp P Γ n d (.call ⟨.builtin .max,⟨xs⟩,ts⟩) σ=(maxA (σ.qU xs)).map (σ.put d ·):=rfl
@[go_sem] theorem ex_append:execOp P Γ n d (.call ⟨.builtin .append,⟨[x,y]⟩,⟨[t,u]⟩⟩) σ=wj P Γ.fix σ n d t u (σ.ev x) (σ.ev y):=rfl
@[go_sem] theorem ex_clear:execOp P Γ n d (.call ⟨.builtin .clear,⟨[x]⟩,⟨[t]⟩⟩) σ=A4 P σ d t (σ.ev x):=rfl
@[go_sem] theorem ex_call{xs:List Operand}{ts:Array TypeId}:execOp P Γ n d (.call ⟨.value x,⟨xs⟩,ts⟩) σ=if Ek Γ x=true then uV Γ σ d (σ.ev x) (σ.qU xs)else Em Γ σ d (σ.ev x) (σ.qU xs):=rfl
@[go_sem] theorem isEff_func{f:FuncId}:Ek Γ (.func f)=Γ.py f:=rfl
@[go_sem] theorem isEff_tmp{i:Nat}:Ek Γ (.tmp i)=Γ.WD:=rfl
@[go_sem] theorem ev_tmp{σs:List (Nat×A)}{gD:List Obj}{i:Nat}:(St.mk σs gD).ev (.tmp i)=look σs i:=rfl
@[go_sem] theorem ev_const{v:Value}:σ.ev (.const v)=toA v:=rfl
@[go_sem] theorem ev_func{f:FuncId}:σ.ev (.func f)= .fn f []:=rfl
@[go_sem] theorem evL_nil:σ.qU []=[]:=rfl
@[go_sem] theorem evL_cons{xs:List Operand}:σ.qU (x::xs)=σ.ev x::σ.qU xs:=rfl
@[go_sem] theorem put_some{σs:List (Nat×A)}{gD:List Obj}{v:A}{i:Nat}:(St.mk σs gD).put (some i) v=⟨(i,v)::σs,gD⟩:=rfl
@[go_sem] theorem put_none{v:A}:σ.put none v=σ:=rfl
@[go_sem] theorem bd_none:σ.bd none= .none:=rfl
@[go_sem] theorem bd_some:σ.bd (some x)=bdOf (σ.ev x):=rfl
@[go_sem] theorem bdOf_int{i:IntKind}{m:Int}:bdOf (.int i m)= .some m:=rfl
@[go_sem] theorem Bd_get_none{m:Int}:Bd.get m .none=m:=rfl
@[go_sem] theorem Bd_get_some{m r:Int}:Bd.get m (.some r)=r:=rfl
@[go_sem] theorem Bd_ok_none:Bd.ok .none=true:=rfl
@[go_sem] theorem Bd_ok_some{r:Int}:Bd.ok (.some r)=true:=rfl
@[go_sem] theorem look_cons{i j:Nat}{v:A}{r:List (Nat×A)}:look ((i,v)::r) j=if i=j then v else look r j:=rfl
@[go_sem] theorem setH_eq{σs:List (Nat×A)}{gD:List Obj}{o:Obj}:(St.mk σs gD).ib n o=⟨σs,po gD n o⟩:=rfl
@[go_sem] theorem setO_zero{a b:Obj}{r:List Obj}:po (a::r) 0 b=b::r:=rfl
@[go_sem] theorem setO_succ{a b:Obj}{r:List Obj}:po (a::r) (n+1) b=a::po r n b:=rfl
@[go_sem] theorem nthO_zero{a:Obj}{r:List Obj}:fc (a::r) 0=some a:=rfl
@[go_sem] theorem nthO_succ{a:Obj}{r:List Obj}:fc (a::r) (n+1)=fc r n:=rfl
@[go_sem] theorem setNth_zero{a b:A}{r:List A}:fF (a::r) 0 b=b::r:=rfl
@[go_sem] theorem setNth_succ{a b:A}{r:List A}:fF (a::r) (n+1) b=a::fF r n b:=rfl
end
section
variable{a b c:A}{cs ds es:List A}{k n i:Nat}{q:IntKind}{m r:Int}{s s':List UInt8}{H:List Obj}{P:Program}{t u:TypeId}{p e:Bool}{σ:St}{d:Option Tmp}{kl:List CK}{ko:Option (List CK)}{sl k0:Bool}
@[go_sem] theorem toA_int:toA (.int q m)= .int q m:=rfl
@[go_sem] theorem toA_bool:toA (.bool p)= .bool p:=rfl
@[go_sem] theorem toA_str{l:List UInt8}:toA (.string ⟨⟨l⟩⟩)= .str l:=rfl
@[go_sem] theorem toA_nils:toA (.slice none 0 0)= .ec:=rfl
@[go_sem] theorem pick_bool:Nc (.bool p) a b=some (if p then a else b):=rfl
@[go_sem] theorem load_dptr:xk P t H (.jC cs)=oq P t cs:=rfl
@[go_sem] theorem load_ref:xk P t H (.ref n i)=(match fc H n with|some (.box cs)=>oq P t (cs.drop i)|_=>none):=rfl
@[go_sem] theorem load_eref:xk P t H (.mg n i k)=(match fc H n with|some (.row _ es)=>(es[i]?).bind fun e=>oq P t (e.cells.drop k)|_=>none):=rfl
@[go_sem] theorem loadC_eq:oq P t cs=(match d_ P t with|some true=>(match cQ P t with|some n=>if n<=cs.length then some (.agg (cs.take n))else none|none=>none)|some false=>cs.head? |none=>none):=rfl
@[go_sem] theorem fieldI_some{f:Nat×TypeId}:oB (some f) a=oA f.1 a:=rfl
@[go_sem] theorem field_dptr:oA n (.jC cs)=some (.jC (cs.drop n)):=rfl
@[go_sem] theorem field_ref:oA n (.ref i k)=some (.ref i (k+n)):=rfl
@[go_sem] theorem field_eref{j:Nat}:oA n (.mg i j k)=some (.mg i j (k+n)):=rfl
@[go_sem] theorem index_str:A2 P t (.str s) (.int q m)=(if lg P t=true/\0<=m then(s[m.toNat]?).map mM else none):=rfl
@[go_sem] theorem index_agg:A2 P t (.agg cs) (.int q m)=(match jv P t with|some (n,e)=>(match cQ P e with|some k=>if 0<=m/\m<n then oq P e (cs.drop (m.toNat*k))else none|none=>none)|none=>none):=rfl
@[go_sem] theorem indexAddr_int:qu P t a (.int q m)=(match cJ P t with|some e=>(match cQ P e with|some k=>qt k m a|none=>none)|none=>(match jv P t with|some (n,e)=>(match cQ P e with|some k=>s8 n k m a|none=>none)|none=>none)):=rfl
@[go_sem] theorem indexE_slc:qt k m (.aD es)=WC k m es:=rfl
@[go_sem] theorem indexE_row{j l:Nat}:qt k m (.row n i j l p)=(if k=j/\0<=m/\m<l then some (.mg n (i+m.toNat) 0)else none):=rfl
@[go_sem] theorem indexR_ref{j:Nat}:s8 n k m (.ref i j)=(if 0<=m/\m<n then some (.ref i (j+m.toNat*k))else none):=rfl
@[go_sem] theorem getE_eq:WC k m es=(if 0<=m then es[m.toNat]? else none).bind fun y=>if k=y.cells.length then some (.jC y.cells)else none:=rfl
@[go_sem] theorem extract_tup:uU (.eU cs) n=cs[n]? :=rfl
@[go_sem] theorem len_str:Q5 P t (.str s)=if lg P t=true then some (.int .i64 s.length)else none:=rfl
@[go_sem] theorem len_slc:Q5 P t (.aD es)=if(cJ P t).isSome=true then some (.int .i64 es.length)else none:=rfl
@[go_sem] theorem len_row{j:Nat}:Q5 P t (.row n i j k p)=if(cJ P t).isSome=true then some (.int .i64 k)else none:=rfl
@[go_sem] theorem min_int{q':IntKind}:minA [.int q m,.int q' r]=some (.int q (if r<m then r else m)):=rfl
@[go_sem] theorem max_int{q':IntKind}:maxA [.int q m,.int q' r]=some (.int q (if r>m then r else m)):=rfl
@[go_sem] theorem makeFunc_eq:rZ (.func n) [] cs=some (.fn n cs):=rfl
@[go_sem] theorem un_not:unA .not (.bool p)=some (.bool !p):=rfl
@[go_sem] theorem bin_add:mh ko p e sl .add (.int q m) (.int q r)=some (.int q (q.wrap (m+r))):=by simp[mh,yZ]
@[go_sem] theorem bin_sub:mh ko p e sl .sub (.int q m) (.int q r)=some (.int q (q.wrap (m-r))):=by simp[mh,yZ]
@[go_sem] theorem bin_mul:mh ko p e sl .mul (.int q m) (.int q r)=some (.int q (q.wrap (m*r))):=by simp[mh,yZ]
@[go_sem] theorem bin_quo:mh ko p e sl .quo (.int q m) (.int q r)=if r=0 then none else some (.int q (q.wrap (m.tdiv r))):=by simp[mh,yZ]
@[go_sem] theorem bin_rem:mh ko p e sl .rem (.int q m) (.int q r)=if r=0 then none else some (.int q (m.tmod r)):=by simp[mh,yZ]
@[go_sem] theorem bin_eql:mh ko p e sl .eql (.int q m) (.int q r)=some (.bool (m==r)):=by simp[mh,yZ]
@[go_sem] theorem bin_neq:mh ko p e sl .neq (.int q m) (.int q r)=some (.bool (m !=r)):=by simp[mh,yZ]
@[go_sem] theorem bin_lss:mh ko p e sl .lss (.int q m) (.int q r)=some (.bool (decide (m<r))):=by simp[mh,yZ]
@[go_sem] theorem bin_leq:mh ko p e sl .leq (.int q m) (.int q r)=some (.bool (decide (m<=r))):=by simp[mh,yZ]
@[go_sem] theorem bin_gtr:mh ko p e sl .gtr (.int q m) (.int q r)=some (.bool (decide (r<m))):=by simp[mh,yZ]
@[go_sem] theorem bin_geq:mh ko p e sl .geq (.int q m) (.int q r)=some (.bool (decide (r<=m))):=by simp[mh,yZ]
@[go_sem] theorem bin_shr{q':IntKind}:mh ko p e sl .shr (.int q m) (.int q' r)=if r<0 then none else some (.int q (m.fdiv (2^(min r.toNat q.bits)))):=rfl
@[go_sem] theorem bin_bneq{x y:Bool}:mh ko true e sl .neq (.bool x) (.bool y)=some (.bool (x !=y)):=rfl
@[go_sem] theorem bin_sadd:mh ko p e sl .add (.str s) (.str s')=if s.length+s'.length<=9223372036854775807 then some (.str (s++s'))else none:=rfl
@[go_sem] theorem bin_seql:mh ko p e sl .eql (.str s) (.str s')=some (.bool (s==s')):=rfl
@[go_sem] theorem bin_sneq:mh ko p e sl .neq (.str s) (.str s')=some (.bool (s !=s')):=rfl
@[go_sem] theorem bin_aeql:mh (some kl) p e sl .eql (.agg cs) (.agg ds)=if jU kl cs=true/\jU kl ds=true then(AZ cs ds).map .bool else none:=rfl
@[go_sem] theorem bin_aneq:mh (some kl) p e sl .neq (.agg cs) (.agg ds)=if jU kl cs=true/\jU kl ds=true then(AZ cs ds).map (fun b=> .bool !b)else none:=rfl
@[go_sem] theorem bin_empnil:mh ko p e true .eql (.emp k0) .ec=some (.bool k0):=rfl
@[go_sem] theorem bin_slcnil:mh ko p e true .eql (.aD (a::cs)) .ec=some (.bool false):=rfl
@[go_sem] theorem hasL_nil:jU [] []=true:=rfl
@[go_sem] theorem hasL_cons{c:CK}:jU (c::kl) (a::cs)=(c.has a&&jU kl cs):=rfl
@[go_sem] theorem has_int:CK.has (.int q) (.int q m)=true:=by simp[CK.has]
@[go_sem] theorem has_bool:CK.has .bool (.bool p)=true:=rfl
@[go_sem] theorem has_str:CK.has .str (.str s)=true:=rfl
@[go_sem] theorem eqL_nil:AZ [] []=some true:=rfl
@[go_sem] theorem eqL_cons:AZ (a::cs) (b::ds)=(Wz a b).bind fun x=>(AZ cs ds).map (x&& ·):=rfl
@[go_sem] theorem eqA_int:Wz (.int q m) (.int q r)=some (m==r):=by simp[Wz]
@[go_sem] theorem eqA_bool{x y:Bool}:Wz (.bool x) (.bool y)=some (x==y):=rfl
@[go_sem] theorem eqA_str:Wz (.str s) (.str s')=some (s==s'):=rfl
@[go_sem] theorem cells_agg:A.cells (.agg cs)=cs:=rfl
@[go_sem] theorem cells_int:A.cells (.int q m)=[.int q m]:=rfl
@[go_sem] theorem cells_bool:A.cells (.bool p)=[.bool p]:=rfl
@[go_sem] theorem cells_str:A.cells (.str s)=[.str s]:=rfl
@[go_sem] theorem cells_slc:A.cells (.aD es)=[.aD es]:=rfl
@[go_sem] theorem cells_clip:A.cells (.clip es)=[.clip es]:=rfl
@[go_sem] theorem cells_nils:A.cells .ec=[.ec]:=rfl
@[go_sem] theorem cells_row{j:Nat}:A.cells (.row n i k j p)=[.row n i k j p]:=rfl
@[go_sem] theorem val_agg:A.val (.agg cs)=true:=rfl
@[go_sem] theorem val_int:A.val (.int q m)=true:=rfl
@[go_sem] theorem val_bool:A.val (.bool p)=true:=rfl
@[go_sem] theorem val_str:A.val (.str s)=true:=rfl
@[go_sem] theorem val_slc:A.val (.aD es)=true:=rfl
@[go_sem] theorem val_clip:A.val (.clip es)=true:=rfl
@[go_sem] theorem val_nils:A.val .ec=true:=rfl
@[go_sem] theorem val_row{j:Nat}:A.val (.row n i k j p)=true:=rfl
@[go_sem] theorem norm_agg:A.norm (.agg cs)= .agg (cs.map nk):=rfl
@[go_sem] theorem norm_int:A.norm (.int q m)= .int q m:=rfl
@[go_sem] theorem norm_bool:A.norm (.bool p)= .bool p:=rfl
@[go_sem] theorem norm_str:A.norm (.str s)= .str s:=rfl
@[go_sem] theorem norm_slc:A.norm (.aD es)= .aD es:=rfl
@[go_sem] theorem norm_clip:A.norm (.clip es)= .aD es:=rfl
@[go_sem] theorem norm_nils:A.norm .ec= .aD []:=rfl
@[go_sem] theorem norm0_int:nk (.int q m)= .int q m:=rfl
@[go_sem] theorem norm0_bool:nk (.bool p)= .bool p:=rfl
@[go_sem] theorem norm0_str:nk (.str s)= .str s:=rfl
@[go_sem] theorem norm0_slc:nk (.aD es)= .aD es:=rfl
@[go_sem] theorem norm0_clip:nk (.clip es)= .aD es:=rfl
@[go_sem] theorem norm0_nils:nk .ec= .aD []:=rfl
@[go_sem] theorem viewL_nil:mF H []=some []:=rfl
@[go_sem] theorem viewL_cons:mF H (a::cs)=(view H a).bind fun y=>(mF H cs).map (y:: ·):=rfl
@[go_sem] theorem view1L_nil:m_ H []=some []:=rfl
@[go_sem] theorem view1L_cons:m_ H (a::cs)=(qo H a).bind fun y=>(m_ H cs).map (y:: ·):=rfl
@[go_sem] theorem view0L_nil:jV H []=some []:=rfl
@[go_sem] theorem view0L_cons:jV H (a::cs)=(oU H a).bind fun y=>(jV H cs).map (y:: ·):=rfl
@[go_sem] theorem view_fn:view H (.fn n cs)=(m_ H cs).map (.fn n ·):=rfl
@[go_sem] theorem view_agg:view H (.agg cs)=(jV H cs).map .agg:=rfl
@[go_sem] theorem view_ref:view H (.ref n i)=(match fc H n with|some (.box cs)=>(jV H (cs.drop i)).map .jC|_=>none):=rfl
@[go_sem] theorem view_row{j:Nat}:view H (.row n i k j p)=ma H n i k j:=rfl
@[go_sem] theorem view_int:view H (.int q m)=some (.int q m):=rfl
@[go_sem] theorem view_bool:view H (.bool p)=some (.bool p):=rfl
@[go_sem] theorem view_str:view H (.str s)=some (.str s):=rfl
@[go_sem] theorem view_slc:view H (.aD es)=some (.aD es):=rfl
@[go_sem] theorem view_clip:view H (.clip es)=some (.aD es):=rfl
@[go_sem] theorem view_nils:view H .ec=some (.aD []):=rfl
@[go_sem] theorem view1_ref:qo H (.ref n i)=(match fc H n with|some (.box cs)=>(jV H (cs.drop i)).map .jC|_=>none):=rfl
@[go_sem] theorem view0_row{j:Nat}:oU H (.row n i k j p)=ma H n i k j:=rfl
@[go_sem] theorem view0_int:oU H (.int q m)=some (.int q m):=rfl
@[go_sem] theorem view0_bool:oU H (.bool p)=some (.bool p):=rfl
@[go_sem] theorem view0_str:oU H (.str s)=some (.str s):=rfl
@[go_sem] theorem view0_slc:oU H (.aD es)=some (.aD es):=rfl
@[go_sem] theorem view0_nils:oU H .ec=some (.aD []):=rfl
@[go_sem] theorem viewRow_eq{j:Nat}:ma H n i k j=(match fc H n with|some (.row k' es)=>if k'=k/\i+j<=es.length/\k≠0 then some (.aD ((es.drop i).take j))else none|_=>none):=rfl
@[go_sem] theorem pureL_nil:A.pure.cY []=true:=rfl
@[go_sem] theorem pureL_cons:A.pure.cY (a::cs)=(a.pure&&A.pure.cY cs):=rfl
@[go_sem] theorem pure_agg:A.pure (.agg cs)=A.pure.cY cs:=by simp[A.pure]
@[go_sem] theorem pure_fn:A.pure (.fn n cs)=A.pure.cY cs:=by simp[A.pure]
@[go_sem] theorem pure_int:A.pure (.int q m)=true:=by simp[A.pure]
@[go_sem] theorem pure_bool:A.pure (.bool p)=true:=by simp[A.pure]
@[go_sem] theorem pure_str:A.pure (.str s)=true:=by simp[A.pure]
@[go_sem] theorem pure_slc:A.pure (.aD es)=true:=by simp[A.pure]
@[go_sem] theorem pure_clip:A.pure (.clip es)=true:=by simp[A.pure]
@[go_sem] theorem pure_nils:A.pure .ec=true:=by simp[A.pure]
@[go_sem] theorem pure_row{j:Nat}:A.pure (.row n i k j p)=false:=by simp[A.pure]
@[go_sem] theorem flat_bool:A.flat (.bool p)=true:=by simp[A.flat]
@[go_sem] theorem flat_slc:A.flat (.aD es)=false:=by simp[A.flat]
@[go_sem] theorem clear_row{σs:List (Nat×A)}{gD:List Obj}{l:Nat}:A4 P (St.mk σs gD) d t (.row n i k l p)=(match cJ P t with|some e=>(match fc gD n with|some (.row k' es)=>(match iC P e with|some z=>if k'=k/\z.cells.length=k/\k≠0/\z.val=true/\z.pure=true/\i+l<=es.length then some (((St.mk σs gD).ib n (.row k (es.take i++List.replicate l z.norm++es.drop (i+l)))).put d (.eU []))else none|none=>none)|_=>none)|none=>none):=rfl
@[go_sem] theorem callHV_fn{Γ:aN}:uV Γ σ d (.fn n cs) ds=Ng Γ σ d n (ds++cs):=rfl
@[go_sem] theorem callH_eq{Γ:aN}{σs:List (Nat×A)}{gD:List Obj}:Ng Γ (St.mk σs gD) d n ds=xV Γ (St.mk σs gD) d n ds (reach gD 64 (A.names.l4 ds) []):=rfl
@[go_sem] theorem callH1_eq{Γ:aN}{σs:List (Nat×A)}{gD:List Obj}{ρ:List Nat}:xV Γ (St.mk σs gD) d n ds ρ=(A.nK.uE ρ ds).bind fun as'=>(uF ρ gD ρ).bind fun fq=>if Γ.uQ n=true then(if ρ.all (fun n=> !Γ.fix n)=true then(mF fq as').bind fun bs=>(Γ.f n bs).map (Kl (St.mk σs gD) d ρ fq)else none) else(Γ.hp n as' fq).bind fun x=>if tc Γ ρ gD.length x.2.2=true then some (En (St.mk σs gD) d ρ x)else none:=rfl
@[congr] theorem callH1_congr{Γ:aN}{ρ ρ':List Nat}(h:ρ=ρ'):xV Γ σ d n ds ρ=xV Γ σ d n ds ρ':=by rw[h]
@[go_sem] theorem callH2_eq{σs:List (Nat×A)}{gD:List Obj}{ρ:List Nat}{S:List Nat}:En (St.mk σs gD) d ρ (a,H,S)=St.put ⟨(iw ρ gD.length (St.mk σs gD) S).s,qw ρ gD.length ρ H (iw ρ gD.length (St.mk σs gD) S).H⟩ d (a.back ρ gD.length):=rfl
@[go_sem] theorem callF2_eq{σs:List (Nat×A)}{gD:List Obj}{ρ:List Nat}:Kl (St.mk σs gD) d ρ H a=St.put ⟨σs.map (fun p=>(p.1,qX ρ H p.2)),r_ ρ ρ (gD.map (Kk ρ H))⟩ d a:=rfl
@[go_sem] theorem scrubs_nil{ρ:List Nat}:iw ρ n σ []=σ:=rfl
@[go_sem] theorem backH_nil{ρ:List Nat}{os:List Obj}:qw ρ n [] os H=H++os.map (Obj.back ρ n):=rfl
@[go_sem] theorem backH_cons{ρ ns:List Nat}{o:Obj}{os:List Obj}:qw ρ n (i::ns) (o::os) H=qw ρ n ns os (po H i (o.back ρ n)):=rfl
@[go_sem] theorem mayMove_nil{Γ:aN}{ρ:List Nat}:tc Γ ρ n []=true:=rfl
@[go_sem] theorem reach_nil{ρ:List Nat}:reach H (n+1) [] ρ=ρ:=rfl
@[go_sem] theorem reach_cons{ρ ns:List Nat}:reach H (n+1) (i::ns) ρ=if ρ.contains i=true then reach H n ns ρ else reach H n (xU (fc H i)++ns) (ρ++[i]):=rfl
@[go_sem] theorem namesO_some{o:Obj}:xU (some o)=o.names:=rfl
@[go_sem] theorem names_box:Obj.names (.box cs)=A.names.l4 cs:=rfl
@[go_sem] theorem names_rowO:Obj.names (.row k cs)=[]:=rfl
@[go_sem] theorem namesL_nil:A.names.l4 []=[]:=rfl
@[go_sem] theorem namesL_cons:A.names.l4 (a::cs)=a.names++A.names.l4 cs:=rfl
@[go_sem] theorem names_ref:A.names (.ref n i)=[n]:=by simp[A.names]
@[go_sem] theorem names_row{j:Nat}:A.names (.row n i j k p)=[n]:=by simp[A.names]
@[go_sem] theorem names_fn:A.names (.fn n cs)=A.names.l4 cs:=by simp[A.names]
@[go_sem] theorem names_int:A.names (.int q m)=[]:=by simp[A.names]
@[go_sem] theorem names_slc:A.names (.aD es)=[]:=by simp[A.names]
@[go_sem] theorem names_clip:A.names (.clip es)=[]:=by simp[A.names]
@[go_sem] theorem idx_cons{ρ:List Nat}:idx (i::ρ) n=if i=n then some 0 else(idx ρ n).map (· +1):=rfl
@[go_sem] theorem renL_nil{ρ:List Nat}:A.nK.uE ρ []=some []:=rfl
@[go_sem] theorem renL_cons{ρ:List Nat}:A.nK.uE ρ (a::cs)=(a.nK ρ).bind fun x=>(A.nK.uE ρ cs).map (x:: ·):=rfl
@[go_sem] theorem ren_ref{ρ:List Nat}:A.nK ρ (.ref n i)=(idx ρ n).map (.ref · i):=by simp[A.nK]
@[go_sem] theorem ren_row{ρ:List Nat}{j:Nat}:A.nK ρ (.row n i j k p)=(idx ρ n).map (.row · i j k p):=by simp[A.nK]
@[go_sem] theorem ren_fn{ρ:List Nat}:A.nK ρ (.fn n cs)=(A.nK.uE ρ cs).map (.fn n ·):=by simp[A.nK]
@[go_sem] theorem ren_int{ρ:List Nat}:A.nK ρ (.int q m)=some (.int q m):=by simp[A.nK]
@[go_sem] theorem ren_slc{ρ:List Nat}:A.nK ρ (.aD es)=some (.aD es):=by simp[A.nK]
@[go_sem] theorem ren_clip{ρ:List Nat}:A.nK ρ (.clip es)=some (.clip es):=by simp[A.nK]
@[go_sem] theorem renH_nil{ρ:List Nat}:uF ρ H []=some []:=rfl
@[go_sem] theorem renH_cons{ρ ns:List Nat}:uF ρ H (i::ns)=(renO ρ (fc H i)).bind fun o=>(uF ρ H ns).map (o:: ·):=rfl
@[go_sem] theorem renO_some{ρ:List Nat}{o:Obj}:renO ρ (some o)=o.nK ρ:=rfl
@[go_sem] theorem renO_box{ρ:List Nat}:Obj.nK ρ (.box cs)=(A.nK.uE ρ cs).map .box:=rfl
@[go_sem] theorem renO_row{ρ:List Nat}:Obj.nK ρ (.row k cs)=some (.row k cs):=rfl
@[go_sem] theorem nthN_nil:lx [] n i=n+i:=rfl
@[go_sem] theorem nthN_zero{ρ:List Nat}:lx (i::ρ) n 0=i:=rfl
@[go_sem] theorem nthN_succ{ρ:List Nat}:lx (i::ρ) n (k+1)=lx ρ n k:=rfl
@[go_sem] theorem back_ref{ρ:List Nat}:A.back ρ k (.ref n i)= .ref (lx ρ k n) i:=by simp[A.back]
@[go_sem] theorem back_row{ρ:List Nat}{j l:Nat}:A.back ρ k (.row n i j l p)= .row (lx ρ k n) i j l p:=by simp[A.back]
@[go_sem] theorem back_agg{ρ:List Nat}:A.back ρ k (.agg cs)= .agg (A.back.ot ρ k cs):=by simp[A.back]
@[go_sem] theorem back_tup{ρ:List Nat}:A.back ρ k (.eU cs)= .eU (A.back.ot ρ k cs):=by simp[A.back]
@[go_sem] theorem back_int{ρ:List Nat}:A.back ρ k (.int q m)= .int q m:=by simp[A.back]
@[go_sem] theorem back_bool{ρ:List Nat}:A.back ρ k (.bool p)= .bool p:=by simp[A.back]
@[go_sem] theorem back_str{ρ:List Nat}:A.back ρ k (.str s)= .str s:=by simp[A.back]
@[go_sem] theorem back_slc{ρ:List Nat}:A.back ρ k (.aD es)= .aD es:=by simp[A.back]
@[go_sem] theorem back_clip{ρ:List Nat}:A.back ρ k (.clip es)= .clip es:=by simp[A.back]
@[go_sem] theorem back_dptr{ρ:List Nat}:A.back ρ k (.jC es)= .jC es:=by simp[A.back]
@[go_sem] theorem back_nils{ρ:List Nat}:A.back ρ k .ec= .ec:=by simp[A.back]
@[go_sem] theorem back_any{ρ:List Nat}:A.back ρ k .any= .any:=by simp[A.back]
@[go_sem] theorem backL_nil{ρ:List Nat}:A.back.ot ρ k []=[]:=rfl
@[go_sem] theorem backL_cons{ρ:List Nat}:A.back.ot ρ k (a::cs)=a.back ρ k::A.back.ot ρ k cs:=rfl
@[go_sem] theorem backO_box{ρ:List Nat}:Obj.back ρ k (.box cs)= .box (A.back.ot ρ k cs):=rfl
@[go_sem] theorem backO_row{ρ:List Nat}:Obj.back ρ k (.row n cs)= .row n cs:=rfl
@[go_sem] theorem frzA_eq{ρ:List Nat}:qX ρ H a=if a.meets ρ=true then(match a.nK ρ with|some x'=>(view H x').getD .any|none=> .any)else a:=rfl
@[go_sem] theorem meets_eq{ρ:List Nat}:A.meets ρ a=ρ.any fun n=>a.mem n:=rfl
@[go_sem] theorem frzO_box{ρ:List Nat}:Kk ρ H (.box cs)= .box (cs.map (qX ρ H)):=rfl
@[go_sem] theorem frzO_row{ρ:List Nat}:Kk ρ H (.row k cs)= .row k cs:=rfl
@[go_sem] theorem dropO_nil{ρ:List Nat}:r_ ρ [] H=H:=rfl
@[go_sem] theorem dropO_cons{ρ ns:List Nat}:r_ ρ (i::ns) H=r_ ρ ns (po H i (.row 0 [])):=rfl
@[go_sem] theorem startH_eq:Km cs H={s:=number 0 cs,H:=H}:=rfl
@[go_sem] theorem bodyH_ret{fn:Func}:bodyH P fn a H .ret σ=K? (Db P σ fn.results.toList) (fun rs=>nN rs=a/\a.under H.length=true/\xm H.length σ.H H):=rfl
@[go_sem] theorem bodyH_normal{fn:Func}:bodyH P fn a H .normal σ=K? (Db P σ fn.results.toList) (fun rs=>nN rs=a/\a.under H.length=true/\xm H.length σ.H H):=rfl
@[go_sem] theorem rawL_nil:Db P σ []=some []:=rfl
@[go_sem] theorem rawL_cons{v:ResultVar}{vs:List ResultVar}:Db P σ (v::vs)=(WE P σ v).bind fun x=>(Db P σ vs).map (x:: ·):=rfl
@[go_sem] theorem raw_tmp{σs:List (Nat×A)}{gD:List Obj}:WE P (St.mk σs gD) (.tmp i)=some (look σs i):=rfl
@[go_sem] theorem resOf_nil:nN []= .eU []:=rfl
@[go_sem] theorem callV_fn{Γ:aN}:Em Γ σ d (.fn n cs) ds=Nf Γ σ d n (ds++cs):=rfl
@[go_sem] theorem callX_eq{σs:List (Nat×A)}{gD:List Obj}{Γ:aN}:Nf Γ (St.mk σs gD) d n ds=(mF gD ds).bind fun bs=>(Γ.f n bs).bind fun r=>if(A.pure.cY ds||r.flat)=true then some ((St.mk σs gD).put d r)else none:=rfl
@[go_sem] theorem box_eq{σs:List (Nat×A)}{gD:List Obj}:A3 (St.mk σs gD) n d a=if a.val=true then some (((St.mk σs gD).ib n (.box a.cells)).put d (.ref n 0))else none:=rfl
@[go_sem] theorem alloc_some:ta σ n d (some a)=A3 σ n d a:=rfl
@[go_sem] theorem store_ref{σs:List (Nat×A)}{gD:List Obj}{z:Option Nat}:tb (St.mk σs gD) d z (.ref n i) a=(match fc gD n with|some (.box cs)=>if z=some a.cells.length/\i+a.cells.length<=cs.length/\a.val=true then some (((St.mk σs gD).ib n (.box (jO cs i a.cells))).put d (.eU []))else none|_=>none):=rfl
@[go_sem] theorem store_eref{σs:List (Nat×A)}{gD:List Obj}{z:Option Nat}{j:Nat}:tb (St.mk σs gD) d z (.mg n j i) a=(match fc gD n with|some (.row k es)=>(es[j]?).bind fun e=>if z=some a.cells.length/\i+a.cells.length<=e.cells.length/\a.cells.length≠0/\a.val=true/\a.pure=true then some (((St.mk σs gD).ib n (.row k (fF es j (qv e i a)))).put d (.eU []))else none|_=>none):=rfl
@[go_sem] theorem storeE_agg:qv (.agg cs) i a= .agg (jO cs i a.norm.cells):=rfl
@[go_sem] theorem storeE_int:qv (.int q m) i a=a.norm:=rfl
@[go_sem] theorem storeE_str:qv (.str s) i a=a.norm:=rfl
@[go_sem] theorem splice_eq:jO cs i ds=cs.take i++ds++cs.drop (i+ds.length):=rfl
@[go_sem] theorem build_eq{ps:List (Nat×Operand)}:uT P t σ ps=(match iC P t with|some (.agg zs)=>(match jv P t with|some (_,e)=>(if(cQ P e).isSome=true then(oZ P e σ ps zs).map .agg else none)|none=>if kE P t=true then(oW P t σ ps zs).map .agg else none)|_=>none):=rfl
@[go_sem] theorem fillS_nil:oW P t σ [] cs=some cs:=rfl
@[go_sem] theorem fillS_cons{x:Operand}{ps:List (Nat×Operand)}:oW P t σ ((i,x)::ps) cs=(match fieldInfo P t i with|some (o,ft)=>(y8 (cQ P ft) o (σ.ev x) cs).bind (oW P t σ ps)|none=>none):=rfl
@[go_sem] theorem fillA_nil:oZ P t σ [] cs=some cs:=rfl
@[go_sem] theorem fillA_cons{x:Operand}{ps:List (Nat×Operand)}:oZ P t σ ((i,x)::ps) cs=(match cQ P t with|some n=>(y8 (some n) (i*n) (σ.ev x) cs).bind (oZ P t σ ps)|none=>none):=rfl
@[go_sem] theorem fillC_some:y8 (some n) i a cs=if a.cells.length=n/\i+n<=cs.length/\a.val=true then some (cs.take i++a.cells++cs.drop (i+n))else none:=rfl
@[go_sem] theorem buildSlice_eq{ps:List (Nat×Operand)}:lh P t n σ ps=(match cJ P t with|some e=>(match cQ P e,iC P e with|some k,some z=>if n*k<=16777216/\k≠0/\z.pure=true/\z.val=true/\z.cells.length=k then(nn k σ ps (List.replicate n z.norm)).map .clip else none|_,_=>none)|none=>none):=rfl
@[go_sem] theorem fillE_nil:nn k σ [] cs=some cs:=rfl
@[go_sem] theorem fillE_cons{x:Operand}{ps:List (Nat×Operand)}:nn k σ ((i,x)::ps) cs=if(σ.ev x).cells.length=k/\i<cs.length/\(σ.ev x).val=true/\(σ.ev x).pure=true then nn k σ ps (fF cs i (σ.ev x).norm)else none:=rfl
@[go_sem] theorem appendX_eq{fx:Nat->Bool}{x:A}:wj P fx σ n d t u a x=(match cJ P t with|some e=>(match cQ P e with|some k=>if k=0\/jN P e=0\/mH P e k=false then none else(Da P σ e u k x).bind fun src=>s_ fx σ n d k (jN P e) a src|none=>none)|none=>none):=rfl
@[go_sem] theorem src_slc:Da P σ t u k (.aD es)=if oV k es=true/\(cJ P u).isSome=true then some es else none:=rfl
@[go_sem] theorem src_clip:Da P σ t u k (.clip es)=if oV k es=true/\(cJ P u).isSome=true then some es else none:=rfl
@[go_sem] theorem src_emp:Da P σ t u k (.emp p)=if(cJ P u).isSome=true then some []else none:=rfl
@[go_sem] theorem strOK_eq:oV k es=(es.isEmpty||eK es==k):=rfl
@[go_sem] theorem stride_cons:eK (a::es)=a.cells.length:=rfl
@[go_sem] theorem append_nils{fx:Nat->Bool}{σs:List (Nat×A)}{gD:List Obj}:s_ fx (St.mk σs gD) n d k i .ec es=if es.length*i<=140737488355328 then some (((St.mk σs gD).ib n (.row k es)).put d (.row n 0 k es.length false))else none:=rfl
@[go_sem] theorem append_clip{fx:Nat->Bool}{σs:List (Nat×A)}{gD:List Obj}:s_ fx (St.mk σs gD) n d k i (.clip cs) es=if oV k cs=true/\(cs=[]\/es≠ [])/\(cs.length+es.length)*i<=140737488355328 then some (((St.mk σs gD).ib n (.row k (cs++es))).put d (.row n 0 k (cs.length+es.length) false))else none:=rfl
@[go_sem] theorem append_row{fx:Nat->Bool}{σs:List (Nat×A)}{gD:List Obj}{m j l:Nat}:s_ fx (St.mk σs gD) n d k i (.row m 0 j l p) es=(match fc gD m with|some (.row HD xs)=>if j=k/\HD=k/\l<=xs.length/\(l+es.length)*i<=140737488355328 then(if p then(if es=[]then none else some (((St.mk σs gD).ib n (.row k (xs.take l++es))).put d (.row n 0 k (l+es.length) false)))else(if fx m=true then none else some ((((St.mk σs gD).lG m).ib m (.row k (xs.take l++es))).put d (.row m 0 k (l+es.length) false))))else none|_=>none):=rfl
@[go_sem] theorem convX_eq{σs:List (Nat×A)}{gD:List Obj}:Cm P (St.mk σs gD) n d t u a=if y_ P t u=true then(match a with| .str s=>some (((St.mk σs gD).ib n (.row 1 (iP s))).put d (.row n 0 1 s.length false))|_=>none)else(rY P t u gD a).map ((St.mk σs gD).put d ·):=rfl
@[go_sem] theorem conv_int:rY P t u H (.int q m)=(match uk P u with|some k=>if(d_ P t).isSome=true then some (.int k (k.wrap m))else none|none=>none):=rfl
@[go_sem] theorem conv_row{j:Nat}:rY P t u H (.row n i k j p)=qp (y9 P t u) (ma H n i k j):=rfl
@[go_sem] theorem conv_clip:rY P t u H (.clip es)=qp (y9 P t u) (some (.aD es)):=rfl
@[go_sem] theorem convB_some:qp true (some (.aD es))=(lF es).map .str:=rfl
@[go_sem] theorem slice_str{l h b:Bd}{z:Option Nat}:xS true z (.str s) l h b=Ki s l h b:=rfl
@[go_sem] theorem slice_slc{l h b:Bd}:xS p (some k) (.aD es) l h b=xR k es l h b:=rfl
@[go_sem] theorem slice_row{l h b:Bd}{j f:Nat}{x:Bool}:xS p (some f) (.row n i k j x) l h b=if f=k then Kj n i f j l h b else none:=rfl
@[go_sem] theorem sliceS_eq{l h:Bd}:Ki s l h .none=if 0<=l.get 0/\l.get 0<=h.get s.length/\h.get s.length<=s.length then some (.str ((s.take (h.get s.length).toNat).drop (l.get 0).toNat))else none:=rfl
@[go_sem] theorem sliceE_eq{l h:Bd}:xR k es l h .none=if oV k es=true/\0<=l.get 0/\l.get 0<=h.get es.length/\h.get es.length<=es.length then some (.aD ((es.take (h.get es.length).toNat).drop (l.get 0).toNat))else none:=rfl
@[go_sem] theorem sliceE_eq3{l h:Bd}:xR k es l h (.some m)=if oV k es=true/\0<=l.get 0/\l.get 0<=h.get es.length/\h.get es.length<=es.length/\m=h.get es.length/\h.ok3=true then some (.clip ((es.take (h.get es.length).toNat).drop (l.get 0).toNat))else none:=rfl
@[go_sem] theorem sliceR_eq{j:Nat}{l h:Bd}:Kj n i k j l h .none=if 0<=l.get 0/\l.get 0<=h.get j/\h.get j<=j then some (.row n (i+(l.get 0).toNat) k (h.get j-l.get 0).toNat false)else none:=rfl
@[go_sem] theorem ok3_some:Bd.ok3 (.some m)=true:=rfl
@[go_sem] theorem elSize_eq:xT P t=(match cJ P t with|some e=>cQ P e|none=>none):=rfl
@[go_sem] theorem scrub_eq{σs:List (Nat×A)}{gD:List Obj}:(St.mk σs gD).lG n={s:=σs.map (fun p=>(p.1,jH n p.2)),H:=gD.map (s9 n)}:=rfl
@[go_sem] theorem scrubA_eq:jH n a=if a.mem n=true then .any else a:=rfl
@[go_sem] theorem scrubO_box:s9 n (.box cs)= .box (cs.map (jH n)):=rfl
@[go_sem] theorem scrubO_row:s9 n (.row k cs)= .row k cs:=rfl
@[go_sem] theorem memL_nil:A.mem.lY n []=false:=rfl
@[go_sem] theorem memL_cons:A.mem.lY n (a::cs)=(a.mem n||A.mem.lY n cs):=rfl
@[go_sem] theorem mem_agg:A.mem n (.agg cs)=A.mem.lY n cs:=by simp[A.mem]
@[go_sem] theorem mem_fn:A.mem n (.fn i cs)=A.mem.lY n cs:=by simp[A.mem]
@[go_sem] theorem mem_tup:A.mem n (.eU cs)=A.mem.lY n cs:=by simp[A.mem]
@[go_sem] theorem mem_int:A.mem n (.int q m)=false:=by simp[A.mem]
@[go_sem] theorem mem_bool:A.mem n (.bool p)=false:=by simp[A.mem]
@[go_sem] theorem mem_str:A.mem n (.str s)=false:=by simp[A.mem]
@[go_sem] theorem mem_slc:A.mem n (.aD es)=false:=by simp[A.mem]
@[go_sem] theorem mem_clip:A.mem n (.clip es)=false:=by simp[A.mem]
@[go_sem] theorem mem_dptr:A.mem n (.jC es)=false:=by simp[A.mem]
@[go_sem] theorem mem_nils:A.mem n .ec=false:=by simp[A.mem]
@[go_sem] theorem mem_any:A.mem n .any=false:=by simp[A.mem]
@[go_sem] theorem mem_ref:A.mem n (.ref i k)=(i==n):=by simp[A.mem]
@[go_sem] theorem mem_eref{j:Nat}:A.mem n (.mg i j k)=(i==n):=by simp[A.mem]
@[go_sem] theorem mem_row{j l:Nat}:A.mem n (.row i j k l p)=(i==n):=by simp[A.mem]
@[go_sem] theorem under_agg:A.under n (.agg cs)=A.under.mi n cs:=by simp[A.under]
@[go_sem] theorem under_fn:A.under n (.fn i cs)=A.under.mi n cs:=by simp[A.under]
@[go_sem] theorem under_tup:A.under n (.eU cs)=A.under.mi n cs:=by simp[A.under]
@[go_sem] theorem underL_nil:A.under.mi n []=true:=rfl
@[go_sem] theorem underL_cons:A.under.mi n (a::cs)=(a.under n&&A.under.mi n cs):=rfl
@[go_sem] theorem under_int:A.under n (.int q m)=true:=by simp[A.under]
@[go_sem] theorem under_bool:A.under n (.bool p)=true:=by simp[A.under]
@[go_sem] theorem under_str:A.under n (.str s)=true:=by simp[A.under]
@[go_sem] theorem under_slc:A.under n (.aD es)=true:=by simp[A.under]
@[go_sem] theorem under_clip:A.under n (.clip es)=true:=by simp[A.under]
@[go_sem] theorem under_nils:A.under n .ec=true:=by simp[A.under]
@[go_sem] theorem under_any:A.under n .any=true:=by simp[A.under]
@[go_sem] theorem under_ref:A.under n (.ref i k)=decide (i<n):=by simp[A.under]
@[go_sem] theorem under_row{j l:Nat}:A.under n (.row i j k l p)=decide (i<n):=by simp[A.under]
@[go_sem] theorem Er:A5 P σ []=some []:=rfl
@[go_sem] theorem resL_cons{v:ResultVar}{vs:List ResultVar}:A5 P σ (v::vs)=(Nj P σ v).bind fun x=>(A5 P σ vs).map (x:: ·):=rfl
@[go_sem] theorem res_tmp{σs:List (Nat×A)}{gD:List Obj}:Nj P (St.mk σs gD) (.tmp i)=view gD (look σs i):=rfl
@[go_sem] theorem res_cell{σs:List (Nat×A)}{gD:List Obj}:Nj P (St.mk σs gD) (.cell i t)=resC P (St.mk σs gD) t (look σs i):=rfl
@[go_sem] theorem resC_ref{σs:List (Nat×A)}{gD:List Obj}:resC P (St.mk σs gD) t (.ref n i)=(match fc gD n with|some (.box cs)=>(oq P t (cs.drop i)).bind (view gD)|_=>none):=rfl
@[go_sem] theorem resOf_one:nN [a]=a:=rfl
@[go_sem] theorem resOf_two:nN (a::b::cs)= .eU (a::b::cs):=rfl
@[go_sem] theorem body_ret{fn:Func}{rI:A->Prop}:Uj P fn rI .ret σ=K? (A5 P σ fn.results.toList) (fun rs=>rI (nN rs)):=rfl
@[go_sem] theorem body_normal{fn:Func}{rI:A->Prop}:Uj P fn rI .normal σ=K? (A5 P σ fn.results.toList) (fun rs=>rI (nN rs)):=rfl
@[go_sem] theorem start_eq:A6 cs={s:=number 0 cs,H:=[]}:=rfl
@[go_sem] theorem number_nil:number n []=[]:=rfl
@[go_sem] theorem number_cons:number n (a::cs)=(n,a)::number (n+1) cs:=rfl
end
attribute [go_sem] aP bJ bB bw aZ aw bm jn List.replicate_zero ic List.drop_succ_cons iX List.drop_zero List.take_nil List.drop_nil List.head?_cons List.getElem?_cons_zero List.getElem?_cons_succ List.isEmpty_cons List.isEmpty_nil cw List.any_nil iH List.all_nil dO eW aW Option.bind_none e9 Option.getD_none Option.isSome_some Option.isSome_none Option.isNone_some Option.isNone_none ite_true ite_false aC b9 aG bY aO lI cA eL bj bK bp beq_self_eq_true and_true true_and and_false false_and or_true true_or or_false false_or and_self
def xq(s:List (Nat×A)):List Nat->List (Nat×A)| []=>[]|d::ds=>(d,look s d)::xq s ds
def uX:List Obj->List (Nat×Obj)->List Obj|s,[]=>s|s,(d,v)::ds=>uX (po s d v) ds
def l5(σ:St)(ks:List Nat)(u:List (Nat×A))(h:List (Nat×Obj)):St:={s:=u++xq σ.s ks,H:=uX σ.H h}
theorem wm: ∀(hs:List (Nat×Obj)) (H:List Obj),(uX H hs).length=H.length| [],H=>rfl|(d,v)::ds,H=>by simp only[uX];rw[wm ds];clear ds;induction H generalizing d with|nil=>(rfl)|cons x xs ih=>(cases d<;>simp[po,ih])
theorem aQ{P:Program}{Γ:aN}{c:Code}{Q:Ex->St->Prop}{σ:St}{ι:Type}(ks:List Nat)(u:ι->List (Nat×A))(h:ι->List (Nat×Obj))(μ:ι->Nat)(rJ:ι)(hn:Γ.nf<=σ.H.length)(h0:σ.le (l5 σ ks (u rJ) (h rJ)))(hs: ∀i,lH P Γ c (xp (fun τ=> ∃j,τ.le (l5 σ ks (u j) (h j))/\μ j<μ i) Q) (l5 σ ks (u i) (h i))):lH P Γ (.loop c) Q σ:=by (have hl: ∀i,Γ.nf<=(l5 σ ks (u i) (h i)).H.length:=fun i=>by show Γ.nf<=(uX σ.H (h i)).length;rw[wm];exact hn);simp only[lH];refine⟨ι,fun i=>l5 σ ks (u i) (h i),μ,⟨rJ,.le (hl rJ) h0⟩,fun i=> ?_⟩;refine za (fun e τ hq=> ?_) (hs i);cases e with|normal=>(obtain⟨j,h1,h2⟩:=hq;exact⟨j,.le (hl j) h1,h2⟩)|exit id=>(exact hq)|ret=>(exact hq)
theorem HF{P:Program}{Γ:aN}{c:Code}{Q:Ex->St->Prop}{σ:St}(d:Nat)(es:List A)(hd:look σ.s d= .clip es)(hw:lH P Γ (.loop c) Q ⟨(d,.aD es)::σ.s,σ.H⟩):lH P Γ (.loop c) Q σ:=by simp only[lH]at hw⊢;obtain⟨ι,inv,μ,⟨i,hi⟩,hs⟩:=hw;exact⟨ι,inv,μ,⟨i,.wk d es hd hi⟩,hs⟩
theorem WG{P:Program}{Γ:aN}{c:Code}{Q:Ex->St->Prop}{σ:St}{ι:Type}(ρ:List Nat)(w7:ρ.Nodup)(hf: ∀n∈ρ,Γ.nf<=n)(ks:List Nat)(u:ι->List (Nat×A))(h:ι->List (Nat×Obj))(μ:ι->Nat)(rJ:ι)(hn:Γ.nf<=σ.H.length)(h0:σ.le (l5 σ ks (u rJ) (h rJ)))(hs: ∀i,lH P Γ c (xp (fun τ=> ∃j,(τ.le (l5 σ ks (u j) (h j))\/K? (uF ρ τ.H ρ) fun fq=>(Nh ρ fq τ).le (l5 σ ks (u j) (h j)))/\μ j<μ i) Q) (l5 σ ks (u i) (h i))):lH P Γ (.loop c) Q σ:=by (have hl: ∀i,Γ.nf<=(l5 σ ks (u i) (h i)).H.length:=fun i=>by show Γ.nf<=(uX σ.H (h i)).length;rw[wm];exact hn);simp only[lH];refine⟨ι,fun i=>l5 σ ks (u i) (h i),μ,⟨rJ,.le (hl rJ) h0⟩,fun i=> ?_⟩;refine za (fun e τ hq=> ?_) (hs i);cases e with|normal=>(obtain⟨j,h1,h2⟩:=hq;rcases h1 with h1|⟨fq,hH,h1⟩;{exact⟨j,.le (hl j) h1,h2⟩};{exact⟨j,.uQ ρ fq w7 hH hf (.le (hl j) h1),h2⟩})|exit id=>(exact hq)|ret=>(exact hq)
@[go_sem] theorem frzSt_eq{ρ:List Nat}{fq:List Obj}{s:List (Nat×A)}{H:List Obj}:Nh ρ fq (St.mk s H)=⟨s.map (fun p=>(p.1,qX ρ fq p.2)),r_ ρ ρ (H.map (Kk ρ fq))⟩:=rfl
@[go_sem] theorem permSt_eq{ρ:List Nat}{s:List (Nat×A)}{H:List Obj}:xW ρ (St.mk s H)=⟨s.map (fun p=>(p.1,p.2.back ρ H.length)),qw ρ H.length ρ H H⟩:=rfl
theorem WH{P:Program}{Γ:aN}{c:Code}{Q:Ex->St->Prop}{σ:St}{ι:Type}(ρ:List Nat)(w7:ρ.Nodup)(bf: ∀n∈ρ,n<ρ.length)(hon: ∀n,n<ρ.length->n∈ρ)(hk: ∀i,i<Γ.nf->lx ρ ρ.length i=i)(ks:List Nat)(u:ι->List (Nat×A))(h:ι->List (Nat×Obj))(μ:ι->Nat)(rJ:ι)(hn:Γ.nf<=σ.H.length)(h0:σ.le (l5 σ ks (u rJ) (h rJ)))(hs: ∀i,lH P Γ c (xp (fun τ=> ∃j,(τ.le (l5 σ ks (u j) (h j))\/(τ.H.length=ρ.length/\(xW ρ τ).le (l5 σ ks (u j) (h j))))/\μ j<μ i) Q) (l5 σ ks (u i) (h i))):lH P Γ (.loop c) Q σ:=by (have hl: ∀i,Γ.nf<=(l5 σ ks (u i) (h i)).H.length:=fun i=>by show Γ.nf<=(uX σ.H (h i)).length;rw[wm];exact hn);simp only[lH];refine⟨ι,fun i=>l5 σ ks (u i) (h i),μ,⟨rJ,.le (hl rJ) h0⟩,fun i=> ?_⟩;refine za (fun e τ hq=> ?_) (hs i);cases e with|normal=>(obtain⟨j,h1,h2⟩:=hq;rcases h1 with h1|⟨hH,h1⟩;{exact⟨j,.le (hl j) h1,h2⟩};{exact⟨j,.perm ρ hH w7 bf hon hk (.le (hl j) h1),h2⟩})|exit id=>(exact hq)|ret=>(exact hq)
theorem wo{P:Program}{Γ:aN}{c:Code}{Q:Ex->St->Prop}{σ:St}{ι:Type}(ks:List Nat)(u:ι->List (Nat×A))(h:ι->List Obj)(μ:ι->Nat)(rJ:ι)(hn: ∀i,Γ.nf<=(h i).length)(h0:σ.le ⟨u rJ++xq σ.s ks,h rJ⟩)(hs: ∀i,lH P Γ c (xp (fun τ=> ∃j,τ.le ⟨u j++xq σ.s ks,h j⟩/\μ j<μ i) Q) ⟨u i++xq σ.s ks,h i⟩):lH P Γ (.loop c) Q σ:=by simp only[lH];refine⟨ι,fun i=>⟨u i++xq σ.s ks,h i⟩,μ,⟨rJ,.le (hn rJ) h0⟩,fun i=> ?_⟩;refine za (fun e τ hq=> ?_) (hs i);cases e with|normal=>(obtain⟨j,h1,h2⟩:=hq;exact⟨j,.le (hn j) h1,h2⟩)|exit id=>(exact hq)|ret=>(exact hq)
theorem ch{P:Program}{Γ:aN}{c:Code}{Q:Ex->St->Prop}{σ:St}(d k:Nat)(hd:look σ.s d= .ec)(hw:lH P Γ (.loop c) Q ⟨(d,.row σ.H.length 0 k 0 false)::σ.s,σ.H++[.row k []]⟩):lH P Γ (.loop c) Q σ:=by simp only[lH]at hw⊢;obtain⟨ι,inv,μ,⟨i,hi⟩,hs⟩:=hw;exact⟨ι,inv,μ,⟨i,.nil d k hd hi⟩,hs⟩
theorem HG{P:Program}{Γ:aN}{c:Code}{Q:Ex->St->Prop}{σ:St}(m:Nat)(cs:List A)(hm:fc σ.H m=some (.box cs))(hw:lH P Γ (.loop c) Q ⟨σ.s,po σ.H m (.box (cs.map nk))⟩):lH P Γ (.loop c) Q σ:=by simp only[lH]at hw⊢;obtain⟨ι,inv,μ,⟨j,hj⟩,hs⟩:=hw;exact⟨ι,inv,μ,⟨j,.wkb m cs hm hj⟩,hs⟩
theorem HH{P:Program}{Γ:aN}{c:Code}{Q:Ex->St->Prop}{σ:St}(m i k:Nat)(cs:List A)(hm:fc σ.H m=some (.box cs))(hi:cs[i]? =some .ec)(hw:lH P Γ (.loop c) Q ⟨σ.s,po σ.H m (.box (fF cs i (.row σ.H.length 0 k 0 false)))++[.row k []]⟩):lH P Γ (.loop c) Q σ:=by simp only[lH]at hw⊢;obtain⟨ι,inv,μ,⟨j,hj⟩,hs⟩:=hw;exact⟨ι,inv,μ,⟨j,.nilb m i k cs hm hi hj⟩,hs⟩
section
variable{σ τ:St}{s:List (Nat×A)}{ks:List Nat}{H G:List Obj}{d n k:Nat}{v a b:A}{o p:Obj}{cs ds:List A}
@[go_sem] theorem keepS_nil:xq s []=[]:=rfl
@[go_sem] theorem keepS_cons:xq s (d::ks)=(d,look s d)::xq s ks:=rfl
@[go_sem] theorem updsH_nil:uX H []=H:=rfl
@[go_sem] theorem updsH_cons{hs:List (Nat×Obj)}:uX H ((n,o)::hs)=uX (po H n o) hs:=rfl
@[go_sem] theorem head_eq{σs:List (Nat×A)}{gD:List Obj}{u:List (Nat×A)}{hs:List (Nat×Obj)}:l5 (St.mk σs gD) ks u hs={s:=u++xq σs ks,H:=uX gD hs}:=rfl
@[go_sem] theorem le_eq{s r:List (Nat×A)}{H G:List Obj}:(St.mk s H).le ⟨r,G⟩=(leS G.length s r/\xm G.length H G):=rfl
@[go_sem] theorem leS_nil:leS n s []=True:=rfl
@[go_sem] theorem leS_cons{r:List (Nat×A)}:leS n s ((d,v)::r)=((look s d=v/\v.under n=true)/\leS n s r):=rfl
@[go_sem] theorem leH_nil:xm n [] []=True:=by simp[xm]
@[go_sem] theorem leH_nil':xm n (o::H) []=True:=by simp[xm]
@[go_sem] theorem leH_cons:xm n (o::H) (p::G)=(Ui n o p/\xm n H G):=by simp[xm]
@[go_sem] theorem leO_box:Ui n (.box cs) (.box ds)=MV n cs ds:=by simp[Ui]
@[go_sem] theorem leO_row{j:Nat}:Ui n (.row k cs) (.row j ds)=(k=j/\cs=ds):=by simp[Ui]
@[go_sem] theorem leL_nil:MV n [] []=True:=by simp[MV]
@[go_sem] theorem leL_cons:MV n (a::cs) (b::ds)=((b= .any\/(a=b/\b.under n=true))/\MV n cs ds):=by simp[MV]
end
attribute [go_sem] A.int.injEq A.bool.injEq A.str.injEq A.aD.injEq A.agg.injEq A.ref.injEq A.row.injEq A.eU.injEq A.fn.injEq
end Go.ez
namespace Go.Proofs.YtfnohjheonlnmaaGreat
open Go.ez
theorem mixed:Tryz.prog.follows .mixedOrders=true:=by kernel_rfl
@[go_sem] theorem ty0:lg Tryz.prog 3=false/\lq Tryz.prog 3=false/\nj Tryz.prog 3=false/\cJ Tryz.prog 3=none/\cQ Tryz.prog 3=some 1/\d_ Tryz.prog 3=some false/\uk Tryz.prog 3=some .i64/\jN Tryz.prog 3=8/\iC Tryz.prog 3=some (.int .i64 0)/\s7 Tryz.prog 3=none/\lq Tryz.prog 4=true/\nj Tryz.prog 4=false/\cJ Tryz.prog 4=none/\cQ Tryz.prog 4=some 1/\d_ Tryz.prog 4=some false/\s7 Tryz.prog 4=none/\lg Tryz.prog 5=false/\lq Tryz.prog 5=false/\nj Tryz.prog 5=false/\cJ Tryz.prog 5=none/\cQ Tryz.prog 5=some 1/\d_ Tryz.prog 5=some false/\uk Tryz.prog 5=some .u8/\iC Tryz.prog 5=some (.int .u8 0)/\s7 Tryz.prog 5=none/\lg Tryz.prog 9=true/\lq Tryz.prog 9=false/\nj Tryz.prog 9=false/\cJ Tryz.prog 9=none/\jv Tryz.prog 9=none/\cQ Tryz.prog 9=some 1/\d_ Tryz.prog 9=some false/\jN Tryz.prog 9=16/\iC Tryz.prog 9=some (.str [])/\s7 Tryz.prog 9=none/\lq Tryz.prog 22=false/\nj Tryz.prog 22=false/\cJ Tryz.prog 22=some 29/\s7 Tryz.prog 22=none/\cJ Tryz.prog 23=some 70:=by and_intros<;>kernel_rfl
@[go_sem] theorem ty1:cQ Tryz.prog 23=some 1/\d_ Tryz.prog 23=some false/\iC Tryz.prog 23=some .ec/\lq Tryz.prog 26=false/\nj Tryz.prog 26=false/\cJ Tryz.prog 26=some 50/\cQ Tryz.prog 26=some 1/\d_ Tryz.prog 26=some false/\jN Tryz.prog 26=24/\iC Tryz.prog 26=some .ec/\s7 Tryz.prog 26=none/\cJ Tryz.prog 27=some 139/\cQ Tryz.prog 27=some 1/\d_ Tryz.prog 27=some false/\iC Tryz.prog 27=some .ec/\jv Tryz.prog 29=none/\cQ Tryz.prog 29=some 5/\d_ Tryz.prog 29=some true/\jN Tryz.prog 29=88/\kE Tryz.prog 29=true/\iC Tryz.prog 29=some (.agg [.int .i64 0,.ec,.ec,.ec,.int .i64 0])/\fieldInfo Tryz.prog 29 0=some (0,3)/\fieldInfo Tryz.prog 29 1=some (1,26)/\fieldInfo Tryz.prog 29 2=some (2,23)/\fieldInfo Tryz.prog 29 3=some (3,27)/\fieldInfo Tryz.prog 29 4=some (4,3)/\lq Tryz.prog 32=false/\nj Tryz.prog 32=false/\cJ Tryz.prog 32=none/\s7 Tryz.prog 32=none/\cJ Tryz.prog 41=some 45/\cJ Tryz.prog 42=some 97/\cJ Tryz.prog 45=some 104/\cQ Tryz.prog 45=some 1/\d_ Tryz.prog 45=some false/\iC Tryz.prog 45=some .ec/\lq Tryz.prog 50=false/\nj Tryz.prog 50=false/\cJ Tryz.prog 50=none/\jv Tryz.prog 50=none:=by and_intros<;>kernel_rfl
@[go_sem] theorem ty2:cQ Tryz.prog 50=some 3/\d_ Tryz.prog 50=some true/\jN Tryz.prog 50=40/\kE Tryz.prog 50=true/\iC Tryz.prog 50=some (.agg [.str [],.str [],.bool false])/\s7 Tryz.prog 50=some [.str,.str,.bool]/\fieldInfo Tryz.prog 50 0=some (0,9)/\fieldInfo Tryz.prog 50 1=some (1,9)/\fieldInfo Tryz.prog 50 2=some (2,4)/\lq Tryz.prog 68=false/\nj Tryz.prog 68=false/\cJ Tryz.prog 68=none/\jv Tryz.prog 68=none/\cQ Tryz.prog 68=some 2/\d_ Tryz.prog 68=some true/\jN Tryz.prog 68=16/\kE Tryz.prog 68=true/\iC Tryz.prog 68=some (.agg [.int .i64 0,.int .i64 0])/\s7 Tryz.prog 68=some [.int .i64,.int .i64]/\fieldInfo Tryz.prog 68 0=some (0,3)/\fieldInfo Tryz.prog 68 1=some (1,3)/\lq Tryz.prog 70=false/\nj Tryz.prog 70=false/\cJ Tryz.prog 70=none/\jv Tryz.prog 70=none/\cQ Tryz.prog 70=some 7/\d_ Tryz.prog 70=some true/\jN Tryz.prog 70=72/\kE Tryz.prog 70=true/\iC Tryz.prog 70=some (.agg [.str [],.int .i64 0,.int .i64 0,.int .i64 0,.int .i64 0,.bool false,.str []])/\s7 Tryz.prog 70=some [.str,.int .i64,.int .i64,.int .i64,.int .i64,.bool,.str]/\fieldInfo Tryz.prog 70 0=some (0,9)/\fieldInfo Tryz.prog 70 1=some (1,68)/\fieldInfo Tryz.prog 70 2=some (3,3)/\fieldInfo Tryz.prog 70 3=some (4,3)/\fieldInfo Tryz.prog 70 4=some (5,4)/\fieldInfo Tryz.prog 70 5=some (6,9)/\jv Tryz.prog 97=none/\cQ Tryz.prog 97=some 6/\d_ Tryz.prog 97=some true:=by and_intros<;>kernel_rfl
@[go_sem] theorem ty3:kE Tryz.prog 97=true/\iC Tryz.prog 97=some (.agg [.int .i64 0,.int .i64 0,.int .i64 0,.str [],.int .i64 0,.str []])/\fieldInfo Tryz.prog 97 0=some (0,3)/\fieldInfo Tryz.prog 97 1=some (1,3)/\fieldInfo Tryz.prog 97 2=some (2,3)/\fieldInfo Tryz.prog 97 3=some (3,9)/\fieldInfo Tryz.prog 97 4=some (4,3)/\fieldInfo Tryz.prog 97 5=some (5,9)/\jv Tryz.prog 99=none/\cQ Tryz.prog 99=some 6/\d_ Tryz.prog 99=some true/\kE Tryz.prog 99=true/\iC Tryz.prog 99=some (.agg [.int .i64 0,.int .i64 0,.int .i64 0,.str [],.int .i64 0,.str []])/\fieldInfo Tryz.prog 99 0=some (0,3)/\fieldInfo Tryz.prog 99 1=some (1,3)/\fieldInfo Tryz.prog 99 2=some (2,3)/\fieldInfo Tryz.prog 99 3=some (3,9)/\fieldInfo Tryz.prog 99 4=some (4,3)/\fieldInfo Tryz.prog 99 5=some (5,9)/\lq Tryz.prog 104=false/\nj Tryz.prog 104=false/\cJ Tryz.prog 104=none/\jv Tryz.prog 104=none/\cQ Tryz.prog 104=some 4/\d_ Tryz.prog 104=some true/\kE Tryz.prog 104=true/\iC Tryz.prog 104=some (.agg [.int .i64 0,.int .i64 0,.str [],.str []])/\s7 Tryz.prog 104=some [.int .i64,.int .i64,.str,.str]/\fieldInfo Tryz.prog 104 0=some (0,3)/\fieldInfo Tryz.prog 104 1=some (1,3)/\fieldInfo Tryz.prog 104 2=some (2,9)/\fieldInfo Tryz.prog 104 3=some (3,9)/\lg Tryz.prog 113=false/\cJ Tryz.prog 113=some 9/\jv Tryz.prog 113=none/\lg Tryz.prog 134=false/\cJ Tryz.prog 134=some 68/\jv Tryz.prog 134=none/\cJ Tryz.prog 137=some 143/\cQ Tryz.prog 137=some 1:=by and_intros<;>kernel_rfl
@[go_sem] theorem ty4:d_ Tryz.prog 137=some false/\jv Tryz.prog 139=none/\cQ Tryz.prog 139=some 4/\d_ Tryz.prog 139=some true/\jN Tryz.prog 139=64/\kE Tryz.prog 139=true/\iC Tryz.prog 139=some (.agg [.str [],.str [],.bool false,.ec])/\fieldInfo Tryz.prog 139 0=some (0,50)/\fieldInfo Tryz.prog 139 1=some (3,137)/\lq Tryz.prog 141=false/\nj Tryz.prog 141=false/\cJ Tryz.prog 141=some 146/\cQ Tryz.prog 141=some 1/\d_ Tryz.prog 141=some false/\s7 Tryz.prog 141=none/\jv Tryz.prog 143=none/\cQ Tryz.prog 143=some 2/\d_ Tryz.prog 143=some true/\jN Tryz.prog 143=32/\kE Tryz.prog 143=true/\iC Tryz.prog 143=some (.agg [.int .i64 0,.ec])/\fieldInfo Tryz.prog 143 0=some (0,3)/\fieldInfo Tryz.prog 143 1=some (1,141)/\lq Tryz.prog 146=false/\nj Tryz.prog 146=false/\cJ Tryz.prog 146=none/\jv Tryz.prog 146=none/\cQ Tryz.prog 146=some 2/\d_ Tryz.prog 146=some true/\jN Tryz.prog 146=16/\kE Tryz.prog 146=true/\iC Tryz.prog 146=some (.agg [.int .i64 0,.int .i64 0])/\s7 Tryz.prog 146=some [.int .i64,.int .i64]/\fieldInfo Tryz.prog 146 0=some (0,3)/\fieldInfo Tryz.prog 146 1=some (1,3)/\lg Tryz.prog 182=false/\cJ Tryz.prog 182=some 26/\jv Tryz.prog 182=none/\cJ Tryz.prog 193=some 23/\cJ Tryz.prog 195=some 27:=by and_intros<;>kernel_rfl
@[go_sem] theorem ty5:lg Tryz.prog 198=false/\cJ Tryz.prog 198=some 5/\cJ Tryz.prog 200=none/\jv Tryz.prog 200=some (16,141)/\cQ Tryz.prog 200=some 16/\d_ Tryz.prog 200=some true/\iC Tryz.prog 200=some (.agg [.ec,.ec,.ec,.ec,.ec,.ec,.ec,.ec,.ec,.ec,.ec,.ec,.ec,.ec,.ec,.ec])/\lg Tryz.prog 224=false/\cJ Tryz.prog 224=some 3/\jv Tryz.prog 224=none/\lg Tryz.prog 228=false/\lq Tryz.prog 228=false/\nj Tryz.prog 228=false/\cJ Tryz.prog 228=none/\d_ Tryz.prog 228=some false/\uk Tryz.prog 228=some .u64/\s7 Tryz.prog 228=none/\lg Tryz.prog 248=false/\lq Tryz.prog 248=false/\nj Tryz.prog 248=false/\cJ Tryz.prog 248=none/\d_ Tryz.prog 248=some false/\s7 Tryz.prog 248=none/\jv Tryz.prog 270=some (2,26)/\iC Tryz.prog 270=some (.agg [.ec,.ec])/\mH Tryz.prog 3 1=true/\mH Tryz.prog 9 1=true/\mH Tryz.prog 26 1=true/\mH Tryz.prog 29 5=true/\mH Tryz.prog 50 3=true/\mH Tryz.prog 68 2=true/\mH Tryz.prog 70 7=true/\mH Tryz.prog 139 4=true/\mH Tryz.prog 143 2=true/\mH Tryz.prog 146 2=true:=by and_intros<;>kernel_rfl
end Go.Proofs.YtfnohjheonlnmaaGreat
namespace Go.ez
open Go.RowKit
theorem df{E:Env}: ∀{cs:List A} {vs:List Value},cL E cs vs ↔ cs.length=vs.length/\ ∀(i:Nat) (x:A) (v:Value),cs[i]? =some x->vs[i]? =some v->bV E x v| [],vs=>by simp only[cL];constructor;{rintro rfl;exact⟨rfl,fun i x v h=>by simp at h⟩};{rintro⟨h,_⟩;exact aR.1 h.symm}|c::cs,vs=>by simp only[cL];constructor;{rintro⟨v,pH,rfl,hc,hl⟩;obtain⟨h1,h2⟩:=df.1 hl;refine⟨by simp[h1],fun i x u hx hu=> ?_⟩;cases i with|zero=>(simp at hx hu;subst hx;subst hu;exact hc)|succ i=>(exact h2 i x u (by simpa using hx) (by simpa using hu))};{rintro⟨h1,h2⟩;cases vs with|nil=>(simp at h1)|cons v vs=>(exact⟨v,vs,rfl,h2 0 c v rfl rfl,df.2 ⟨by simpa using h1,fun i x u hx hu=>h2 (i+1) x u (by simpa using hx) (by simpa using hu)⟩⟩)}
theorem dg{E:Env}{b:Nat}: ∀{cs:List A} {off:Nat},lZ E b off cs ↔∀(i:Nat) (x:A),cs[i]? =some x-> ∃v,E.w.cell? ⟨b,off+i,none⟩=some v/\v.oneCell'=true/\bV E x v| [],off=>by simp[lZ]|c::cs,off=>by simp only[lZ];constructor;{rintro⟨h1,h2⟩ i x hx;cases i with|zero=>(simp at hx;subst hx;simpa using h1)|succ i=>(have:=dg.1 h2 i x (by simpa using hx);rwa [show off+1+i=off+(i+1) by omega]at this)};{intro h;refine⟨by simpa using h 0 c rfl,dg.2 fun i x hx=> ?_⟩;have:=h (i+1) x (by simpa using hx);rwa [show off+(i+1)=off+1+i by omega]at this}
theorem Nk{E:Env}{b off:Nat}{x:A}:lZ E b off [x] ↔∃v,E.w.cell? ⟨b,off,none⟩=some v/\v.oneCell'=true/\bV E x v:=by simp[lZ]
theorem sc{E:Env}{k b off:Nat}{e:A}{es:List A}:jT E k b off (e::es) ↔ (e.cells.length=k/\lZ E b off e.cells)/\jT E k b (off+k) es:=by cases e;(case agg cs=>rw[M_];simp[A.cells]);all_goals simp only[jT,A.cells,lZ,aw,bm,bU,and_true];constructor;{rintro⟨⟨h1,h2⟩,h3⟩;exact⟨⟨h1.symm,h2⟩,h3⟩};{rintro⟨⟨h1,h2⟩,h3⟩;exact⟨⟨h1.symm,h2⟩,h3⟩}
theorem ie{E:Env}{k b:Nat}: ∀{es:List A} {off:Nat},jT E k b off es ↔∀(i:Nat) (e:A),es[i]? =some e->e.cells.length=k/\lZ E b (off+i*k) e.cells| [],off=>by simp[jT]|e::es,off=>by rw[sc];constructor;{rintro⟨h1,h2⟩ i x hx;cases i with|zero=>(simp at hx;subst hx;simpa using h1)|succ i=>(have:=ie.1 h2 i x (by simpa using hx);rwa [show off+k+i*k=off+(i+1)*k by rw[cN];omega]at this)};{intro h;refine⟨by simpa using h 0 e rfl,ie.2 fun i x hx=> ?_⟩;have:=h (i+1) x (by simpa using hx);rwa [show off+(i+1)*k=off+k+i*k by rw[cN];omega]at this}
theorem np{E:Env}{b off n:Nat}{cs:List A}(h:lZ E b off cs):lZ E b (off+n) (cs.drop n):=dg.2 fun i x hx=>by have:=dg.1 h (n+i) x (by simpa[eH]using hx);rwa [show off+(n+i)=off+n+i by omega]at this
theorem WI{E:Env}{b off n:Nat}{cs:List A}(h:lZ E b off cs):lZ E b off (cs.take n):=dg.2 fun i x hx=>dg.1 h i x (by rw[dS]at hx;split at hx;{exact hx};{simp at hx})
theorem A7{E:Env}{k b off n:Nat}{es:List A}(h:jT E k b off es):jT E k b (off+n*k) (es.drop n):=ie.2 fun i x hx=>by have:=ie.1 h (n+i) x (by simpa[eH]using hx);rwa [show off+(n+i)*k=off+n*k+i*k by rw[cN];omega]at this
theorem sd{E:Env}{k b off n:Nat}{es:List A}(h:jT E k b off es):jT E k b off (es.take n):=ie.2 fun i x hx=>ie.1 h i x (by rw[dS]at hx;split at hx;{exact hx};{simp at hx})
theorem wq{E:Env}{b:Nat}: ∀{cs:List A} {off:Nat},lZ E b off cs-> ∃vs:List Value,E.w.rangeAt b off vs/\cL E cs vs/\ ∀u∈vs,u.oneCell'=true| [],off,_=>⟨[],fun j v h=>by simp at h,by simp[cL],by simp⟩|c::cs,off,h=>by simp only[lZ]at h;obtain⟨⟨v,hv,h1,hc⟩,hl⟩:=h;obtain⟨vs,hr,hL,gO⟩:=wq hl;refine⟨v::vs,fun j u hu=> ?_,by simp only[cL];exact⟨v,vs,rfl,hc,hL⟩, ?_⟩;{cases j with|zero=>(simp at hu;subst hu;simpa using hv)|succ j=>(have:=hr j u (by simpa using hu);rwa [show off+1+j=off+(j+1) by omega]at this)};{intro u hu;rcases aA.1 hu with rfl|hu;{exact h1};{exact gO u hu}}
theorem te{E:Env}{b:Nat}: ∀{cs:List A} {off:Nat} {vs:List Value},E.w.rangeAt b off vs->cL E cs vs->(∀u∈vs,u.oneCell'=true)->lZ E b off cs:=by
 intro cs off vs hr hL h1;obtain⟨hlen,gn⟩:=df.1 hL;refine dg.2 fun i x hx=> ?_;have hi:i<vs.length:=by rw[<-hlen];exact(ar.1 hx).1
 have hv:vs[i]? =some vs[i]:=ad hi;exact⟨vs[i],hr i _ hv,h1 _ (aj hi),gn i x _ hx hv⟩
theorem A8{E:Env}{n:Nat}: ∀{cs:List A} {vs:List Value},cL E cs vs->cL E (cs.take n) (vs.take n):=by intro cs vs h;obtain⟨h1,h2⟩:=df.1 h;refine df.2 ⟨by simp[h1],fun i x v hx hv=> ?_⟩;rw[dS]at hx hv;split at hx;{rename_i hi;rw[if_pos hi]at hv;exact h2 i x v hx hv};{simp at hx}
theorem A9{E:Env}{n:Nat}: ∀{cs:List A} {vs:List Value},cL E cs vs->cL E (cs.drop n) (vs.drop n):=by intro cs vs h;obtain⟨h1,h2⟩:=df.1 h;refine df.2 ⟨by simp[h1],fun i x v hx hv=> ?_⟩;rw[eH]at hx hv;exact h2 _ x v hx hv
theorem nq{E:Env}: ∀{cs ds:List A} {vs us:List Value},cL E cs vs->cL E ds us->cL E (cs++ds) (vs++us)| [],ds,vs,us,h,h'=>by simp only[cL]at h;subst h;simpa using h'|c::cs,ds,vs,us,h,h'=>by simp only[cL]at h;obtain⟨v,pH,rfl,hc,hl⟩:=h;simp only[bB,cL];exact⟨v,pH++us,rfl,hc,nq hl h'⟩
theorem nr{E:Env}{x:A}{v:Value}(h:bV E x v)(hv:x.val=true):cL E x.cells v.cells.toList/\(∀u∈v.cells.toList,u.oneCell'=true)/\v.cells.size=x.cells.length:=by cases x;(case any=>simp[A.val]at hv);(case eU=>simp[A.val]at hv);(case agg cs=>simp only[bV]at h;obtain⟨vs,rfl,hl,h1⟩:=h;simp only[Value.cells,A.cells];exact⟨by simpa using hl,by simpa using h1,by simpa using(df.1 hl).1.symm⟩);(case aD es=>have h0:=h;simp only[bV]at h;obtain⟨_,a,cap,rfl,_⟩:=h;simp only[Value.cells,A.cells,cL];exact⟨⟨_,[],rfl,h0,rfl⟩,by simp[Value.oneCell'],rfl⟩);(case clip es=>have h0:=h;simp only[bV]at h;obtain⟨_,a,rfl,_⟩:=h;simp only[Value.cells,A.cells,cL];exact⟨⟨_,[],rfl,h0,rfl⟩,by simp[Value.oneCell'],rfl⟩);(case jC es=>have h0:=h;simp only[bV]at h;obtain⟨_,a,off,rfl,_⟩:=h;simp only[Value.cells,A.cells,cL];exact⟨⟨_,[],rfl,h0,rfl⟩,by simp[Value.oneCell'],rfl⟩);(case emp c=>have h0:=h;simp only[bV]at h;obtain⟨q,cap,rfl,_⟩:=h;simp only[Value.cells,A.cells,cL];exact⟨⟨_,[],rfl,h0,rfl⟩,by simp[Value.oneCell'],rfl⟩);(case ref n off=>have h0:=h;simp only[bV]at h;obtain⟨b,k,_,rfl⟩:=h;simp only[Value.cells,A.cells,cL];exact⟨⟨_,[],rfl,h0,rfl⟩,by simp[Value.oneCell'],rfl⟩);(case mg n i off=>have h0:=h;simp only[bV]at h;obtain⟨b,k,_,rfl⟩:=h;simp only[Value.cells,A.cells,cL];exact⟨⟨_,[],rfl,h0,rfl⟩,by simp[Value.oneCell'],rfl⟩);(case row n off k len c=>have h0:=h;simp only[bV]at h;rcases h with⟨o,_,_,_,_,a,rfl⟩|⟨b,cap,c,e,fr,_,rfl,_⟩;all_goals simp only[Value.cells,A.cells,cL];exact⟨⟨_,[],rfl,h0,rfl⟩,by simp[Value.oneCell'],rfl⟩);(case fn f cs=>have h0:=h;simp only[bV]at h;obtain⟨vs,rfl,_⟩:=h;simp only[Value.cells,A.cells,cL];exact⟨⟨_,[],rfl,h0,rfl⟩,by simp[Value.oneCell'],rfl⟩);all_goals have h0:=h;simp only[bV]at h;subst h;simp only[Value.cells,A.cells,cL];exact⟨⟨_,[],rfl,h0,rfl⟩,by simp[Value.oneCell'],rfl⟩
def se(c:Array Value)(fr:Nat×Nat):Prop:= ∀j,j<c.size-> ¬(fr.1<=j/\j<fr.2)
def cb(E:Env):Obj->im->Prop| .box cs,.loc b _=>(∃c e fr,E.w.heap[b]? =some (.cells c e fr)/\se c fr)/\lZ E b 0 cs| .row k es,.loc b k'=>k=k'/\A.pure.cY es=true/\(∃c e fr,E.w.heap[b]? =some (.cells c e fr)/\se c fr)/\jT E k b 0 es| .row _ es,.nil=>es=[]| .row k es,.free=>k=0/\es=[]| .box _,_=>False
def bx(N0:Nat->Prop)(φ:List im)(w:World):Env:=⟨fun b=>N0 b\/ ∃n k:Nat,φ[n]? =some (im.loc b k),φ,w⟩
structure o0 extends World where
 M:Nat->Prop
 fix:Nat->Bool
 WJ:List im
structure Kept(w0:o0)(w:World):Prop where
 os:w.os=w0.os
 tape:w.tape=w0.tape
 output:w.output=w0.output
 drawn:w0.drawn<=w.drawn
 size:w0.heap.size<=w.heap.size
 block: ∀b,b<w0.heap.size-> ¬w0.M b->w.heap[b]? =w0.heap[b]?
 shape: ∀(b:Nat) (c:Array Value) (e:TypeId) (fr:Nat×Nat),w0.heap[b]? =some (.cells c e fr)-> ∃c' Q3,w.heap[b]? =some (.cells c' e Q3)/\c'.size=c.size
structure cp(N0:Nat->Prop)(w0:o0)(nt:Nat)(σ:St)(φ:List im)(a:Act)(w:World):Prop where
 gQ: ∀d,bV (bx N0 φ w) (look σ.s d) (a.tmps.getD d undef)
 size:a.tmps.size=nt
 defers:a.defers=[]
 len:φ.length=σ.H.length
 gZ: ∀(n:Nat) (o:Obj) (p:im),fc σ.H n=some o->φ[n]? =some p->cb (bx N0 φ w) o p
 own: ∀n b k:Nat,φ[n]? =some (im.loc b k)->(w0.heap.size<=b\/w0.M b)/\b<w.heap.size
 inj: ∀n m b k k':Nat,φ[n]? =some (im.loc b k)->φ[m]? =some (im.loc b k')->n=m
 n0: ∀b,N0 b->b<w0.heap.size/\ ¬w0.M b
 pI: ∀(n:Nat) (p:im),w0.fix n=true->w0.WJ[n]? =some p->p≠ .free->φ[n]? =some p
 below:Kept w0 w
theorem dK: ∀(H:List Obj) (n:Nat),fc H n=H[n]?| [],n=>by simp[fc]|x::xs,0=>by simp[fc]|x::xs,n+1=>by simp[fc,dK xs n]
theorem jo: ∀(H:List Obj) (n:Nat) (o:Obj),po H n o=H.set n o| [],n,o=>by simp[po]|x::xs,0,o=>by simp[po]|x::xs,n+1,o=>by simp[po,jo xs n o]
theorem j0: ∀(H:List A) (n:Nat) (o:A),fF H n o=H.set n o| [],n,o=>by simp[fF]|x::xs,0,o=>by simp[fF]|x::xs,n+1,o=>by simp[fF,j0 xs n o]
section
variable{N0:Nat->Prop}{w0:o0}{nt:Nat}{σ:St}{φ:List im}{a:Act}{w:World}
theorem cb.mono{K:Nat->Prop}{E E':Env}(h:Ext K E E'){o:Obj}{p:im}(hr:cb E o p)(hp: ∀b k,p=im.loc b k-> ∀c e fr,E.w.heap[b]? =some (.cells c e fr)->E'.w.heap[b]? =some (.cells c e fr))(hk: ∀cs,o= .box cs-> ∀n,A.mem.lY n cs=true->K n):cb E' o p:=by cases o with|box cs=>(cases p with|loc b k=>(simp only[cb]at hr⊢;obtain⟨⟨c,e,fr,hc,hf⟩,hm⟩:=hr;have xQ:=hp b k rfl c e fr hc;refine⟨⟨c,e,fr,xQ,hf⟩,dg.2 fun i x hx=> ?_⟩;obtain⟨v,hv,h1,gn⟩:=dg.1 hm i x hx;refine⟨v,by simpa only[World.cell?,hc,xQ]using hv,h1,bV.mono h x v gn fun n hn=>hk cs rfl n ?_⟩;have mb:=bD hx;clear hx hm hk;induction cs with|nil=>(simp at mb)|cons y ys ih=>(rcases aA.1 mb with rfl|og;{simp[A.mem.lY,hn]};{simp[A.mem.lY,ih og]}))|_=>(simp[cb]at hr))|row k es=>(cases p with|loc b k'=>(simp only[cb]at hr⊢;obtain⟨WK,tf,⟨c,e,fr,hc,hf⟩,hm⟩:=hr;have xQ:=hp b k' rfl c e fr hc;refine⟨WK,tf,⟨c,e,fr,xQ,hf⟩,ie.2 fun i x hx=> ?_⟩;obtain⟨hl,hmm⟩:=ie.1 hm i x hx;refine⟨hl,dg.2 fun j y hy=> ?_⟩;obtain⟨v,hv,h1,gn⟩:=dg.1 hmm j y hy;refine⟨v,by simpa only[World.cell?,hc,xQ]using hv,h1,bV.mono h y v gn fun n hn=> ?_⟩;exfalso;(have hpx:x.pure=true:=by have mb:=bD hx;clear hx hm hk;induction es with|nil=>(simp at mb)|cons z zs ih=>(simp only[A.pure.cY,ag]at tf;rcases aA.1 mb with rfl|og;{exact tf.1};{exact ih tf.2 og}));(have hpy:y.pure=true:=by have mb:=bD hy;cases x;(case agg cs=>simp only[A.pure]at hpx;simp only[A.cells]at mb;clear hy hmm hl hx;induction cs with|nil=>(simp at mb)|cons z zs ih=>(simp only[A.pure.cY,ag]at hpx;rcases aA.1 mb with rfl|og;{exact hpx.1};{exact ih hpx.2 og}));all_goals simp only[A.cells,aJ]at mb;subst mb;exact hpx);rw[A.re n y hpy]at hn;cases hn)|nil=>(simpa only[cb]using hr)|free=>(simpa only[cb]using hr))
structure jW(w w':World):Prop where
 size:w.heap.size<=w'.heap.size
 block: ∀b,b<w.heap.size->w'.heap[b]? =w.heap[b]?
 os:w'.os=w.os
 tape:w'.tape=w.tape
 output:w'.output=w.output
 drawn:w.drawn<=w'.drawn
theorem jW.refl(w:World):jW w w:=⟨ae _,fun _ _=>rfl,rfl,rfl,rfl,ae _⟩
theorem jW.trans{w w' w'':World}(h:jW w w')(h':jW w' w''):jW w w'':=⟨a_ h.size h'.size,fun b hb=>(h'.block b (cH hb h.size)).trans (h.block b hb),h'.os.trans h.os,h'.tape.trans h.tape,h'.output.trans h.output,a_ h.drawn h'.drawn⟩
theorem jW.alloc(w:World)(o:Go.Obj):jW w (w.alloc o):=⟨by simp,fun b hb=>Below.heap_alloc w o b hb,rfl,rfl,rfl,ae _⟩
theorem jW.drew(w:World):jW w w.drew:=⟨ae _,fun _ _=>rfl,rfl,rfl,rfl,Nat.le_succ _⟩
theorem jW.toBelow{w w':World}(g:jW w w'):Below w.heap.size w w':=⟨g.os,g.tape,g.output,g.size,g.block⟩
theorem Kept.refl(w0:o0):Kept w0 w0.toWorld:=⟨rfl,rfl,rfl,ae _,ae _,fun _ _ _=>rfl,fun _ c _ fr h=>⟨c,fr,h,rfl⟩⟩
theorem jW.below{w0:o0}{w w':World}(h:Kept w0 w)(g:jW w w'):Kept w0 w' where
 os:=g.os.trans h.os
 tape:=g.tape.trans h.tape
 output:=g.output.trans h.output
 drawn:=a_ h.drawn g.drawn
 size:=a_ h.size g.size
 block:=fun b hb hM=>(g.block b (cH hb h.size)).trans (h.block b hb hM)
 shape:=fun b c e fr hc=>by obtain⟨c',Q3,h1,h2⟩:=h.shape b c e fr hc;have hb:b<w.heap.size:=(bP.1 h1).1;exact⟨c',Q3,by rw[g.block b hb];exact h1,h2⟩
theorem cp.Es(h:cp N0 w0 nt σ φ a w){w':World}(g:jW w w'):Ext (fun _=>True) (bx N0 φ w) (bx N0 φ w') where
 size:=g.size
 M':=fun b hb hn=>⟨hn,g.block b hb⟩
 refs:=fun n o _ ho _=>ho
 own:=fun n b k c e fr _ ho hc=>⟨c,fr,by have:=(h.own n b k ho).2;show w'.heap[b]? =_;rw[g.block b this];exact hc,rfl⟩
theorem cp.WL(h:cp N0 w0 nt σ φ a w){w':World}(g:jW w w'):cp N0 w0 nt σ φ a w' where
 gQ:=fun d=>bV.mono (h.Es g) _ _ (h.gQ d) (fun _ _=>trivial)
 size:=h.size
 defers:=h.defers
 len:=h.len
 gZ:=fun n o p ho hp=>cb.mono (h.Es g) (h.gZ n o p ho hp) (fun b k hb c e fr hc=>by subst hb;show w'.heap[b]? =_;rw[g.block b (h.own n b k hp).2];exact hc) (fun _ _ _ _=>trivial)
 own:=fun n b k hb=>⟨(h.own n b k hb).1,cH (h.own n b k hb).2 g.size⟩
 inj:=h.inj
 n0:=h.n0
 pI:=h.pI
 below:=g.below h.below
theorem cp.rep_grew(h:cp N0 w0 nt σ φ a w){w':World}(g:jW w w'){x:A}{v:Value}(hr:bV (bx N0 φ w) x v):bV (bx N0 φ w') x v:=bV.mono (h.Es g) x v hr (fun _ _=>trivial)
theorem getD_put{a:Act}{d:Nat}{v:Value}(hd:d<a.tmps.size)(t:Nat):(a.put (some d) v).tmps.getD t undef=if d=t then v else a.tmps.getD t undef:=by simp only[Act.put];by_cases ht:d=t;{subst ht;simp[Array.getD,hd]};{rw[if_neg ht];simp only[Array.getD_eq_getD_getElem?,Array.getElem?_setIfInBounds];rw[if_neg ht]}
theorem cp.put(h:cp N0 w0 nt σ φ a w){d:Option Tmp}(hd: ∀t,d=some t->t<nt){x:A}{v:Value}(hr:bV (bx N0 φ w) x v):cp N0 w0 nt (σ.put d x) φ (a.put d v) w:=by cases d with|none=>(exact h)|some d=>((have hd':d<a.tmps.size:=by rw[h.size];exact hd d rfl);exact{h with gQ:=fun t=>by rw[getD_put hd' t];show bV _ (look ((d,x)::σ.s) t) _;simp only[look];split;{exact hr};{exact h.gQ t},size:=by simp only[Act.put,Array.size_setIfInBounds];exact h.size,defers:=h.defers})
theorem A_(E:Env):bV E (.eU []) undef:=by simp[bV,cL,undef]
theorem Nl(E:Env)(v:Value):bV E (toA1 v) v:=by unfold toA1;split<;>first|(simp only[bV];done)|(simp[bV,cL];done)|(simp only[bV];exact⟨[],rfl,by simp[cL]⟩)
theorem Ko(E:Env)(v:Value):bV E (toA v) v:=by unfold toA;split;{rename_i cs;split;{rename_i mN;simp only[bV];refine⟨cs,rfl,df.2 ⟨by simp,fun i x u hx hu=> ?_⟩,fun u hu=>bC.1 mN u hu⟩;rw[aL,hu]at hx;simp at hx;subst hx;exact Nl E u};{simp only[bV]}};{exact Nl E v}
theorem cp.ev(h:cp N0 w0 nt σ φ a w)(x:Operand):bV (bx N0 φ w) (σ.ev x) (a.eval x):=by match x with| .tmp t=>exact h.gQ t| .const v=>exact Ko _ v| .func f=>simp only[St.ev,Act.eval,bV];exact⟨[],rfl,by simp[cL]⟩| .global g=>simp only[St.ev,bV]
end
end Go.ez
namespace Go.ez
open Go.RowKit
section
variable{P:Program}{w:World}
theorem Et{t:TypeId}(h:d_ P t=some true): ∃d,P.underlying t=some d/\d.isRow=true:=by unfold d_ at h;split at h<;>first|(rename_i hu;exact⟨_,hu,rfl⟩)|simp at h
theorem Nn{t:TypeId}(h:d_ P t=some false): ∃d,P.underlying t=some d/\d.isRow=false:=by unfold d_ at h;split at h;{simp at h};{simp at h};{rename_i d h1 h2 hu;refine⟨d,hu, ?_⟩;cases d<;>first|rfl|(exact(h1 _ rfl).elim)|(exact(h2 _ _ rfl).elim)};{simp at h}
theorem qx{t:TypeId}(h:d_ P t=some true):(isAgg t).run P w= .ok true w:=by obtain⟨d,hu,hd⟩:=Et h;unfold isAgg;rw[Sem.run_bind,run_underlying hu w];cases d<;>simp_all
theorem mX{t:TypeId}(h:d_ P t=some false):(isAgg t).run P w= .ok false w:=by obtain⟨d,hu,hd⟩:=Nn h;unfold isAgg;rw[Sem.run_bind,run_underlying hu w];cases d<;>simp_all
theorem run_sizeOf{t n:Nat}(h:cQ P t=some n):(sizeOf t).run P w= .ok n w:=by unfold cQ at h;cases hq:P.info? t with|none=>(simp[hq]at h)|some i=>(simp[hq]at h;simp[sizeOf,typeInfo,hq,h])
theorem iY{t e:Nat}(h:cJ P t=some e):P.underlying t=some (.slice e):=by unfold cJ at h;split at h;{rename_i hu;simp at h;subst h;exact hu};{simp at h}
theorem zb{t n e:Nat}(h:jv P t=some (n,e)):P.underlying t=some (.array n e):=by unfold jv at h;split at h;{rename_i hu;simp at h;obtain⟨rfl,rfl⟩:=h;exact hu};{simp at h}
theorem nO{t:Nat}(h:lg P t=true):P.underlying t=some .string:=by unfold lg at h;split at h;{assumption};{simp at h}
theorem Eu{t:Nat}{k:IntKind}(h:uk P t=some k):P.underlying t=some (.int k):=by unfold uk at h;split at h;{rename_i hu;simp at h;subst h;exact hu};{simp at h}
theorem No{t:Nat}(h:nj P t=true): ∃e,P.underlying t=some (.pointer e):=by unfold nj at h;split at h;{rename_i e hu;exact⟨e,hu⟩};{simp at h}
theorem tg{s f o t:Nat}(h:fieldInfo P s f=some (o,t)):∃fs x n,P.underlying s=some (.struct fs)/\fs[f]? =some x/\x.offset=o/\x.type=t/\cQ P t=some n/\n≠0:=by unfold fieldInfo at h;split at h;{rename_i fs hu;cases hx:fs[f]? with|none=>(simp[hx]at h)|some x=>(simp only[hx,aW]at h;split at h;{simp at h};{rename_i h0;split at h;{simp at h};{rename_i h1;simp at h;obtain⟨rfl,rfl⟩:=h;cases hs:cQ P x.type with|none=>(simp[hs]at h1)|some n=>(exact⟨fs,x,n,hu,hx,rfl,rfl,rfl,fun hn=>h0 (by rw[hs,hn])⟩)}})};{simp at h}
theorem Cn{s:Sem Value}{v:Value}{w':World}(h:s.run P w= .ok v w'):(do pure (Next.value (<-s)):Sem Next).run P w= .ok (.value v) w':=by simp[h]
theorem run_u{s:Sem Unit}{w':World}(h:s.run P w= .ok () w'):(do s;pure Next.skip:Sem Next).run P w= .ok .skip w':=by simp[h]
end
def Good(P:Program)(o:Oper)(a:Act)(w:World)(N0:Nat->Prop)(φ:List im)(x:A):Prop:=∃v w',(Go.execOp a.eval o).run P w= .ok (.value v) w'/\jW w w'/\bV (bx N0 φ w') x v
section
variable{P:Program}{N0:Nat->Prop}{w0:o0}{nt:Nat}{σ:St}{φ:List im}{a:Act}{w:World}
theorem ed{o:Oper}{s:Sem Value}{x:A}{v:Value}(ho:Go.execOp a.eval o=(do pure (Next.value (<-s))))(hr:s.run P w= .ok v w)(h:bV (bx N0 φ w) x v):Good P o a w N0 φ x:=⟨v,w,by rw[ho];exact Cn hr,jW.refl w,h⟩
theorem uY{b:Builtin}{xs:List Operand}{us:Array TypeId}{d:Option Tmp}{t:TypeId}{p:String}{af:Array Edge}{g:Option (Nat×Bool)}:∃cs,(Go.execOp a.eval ⟨d,.call ⟨.builtin b,⟨xs⟩,us⟩,t,p,af,g⟩).run P w=(builtin b us t cs (xs.map a.eval).toArray).run P w:=by refine⟨xs.toArray.map fun| .const _=>true|_=>false, ?_⟩;simp only[Go.execOp,resolve,invoke,Sem.run_bind,Sem.run_pure,Result.andThen_ok];rw[<-List.map_toArray];rfl
theorem j9{b:Builtin}{xs:List Operand}{us:Array TypeId}{d:Option Tmp}{t:TypeId}{p:String}{af:Array Edge}{g:Option (Nat×Bool)}{s:Sem Value}{x:A}{v:Value}(ho: ∀cs,builtin b us t cs (xs.map a.eval).toArray=(do pure (Next.value (<-s)))) (hr:s.run P w= .ok v w) (h:bV (bx N0 φ w) x v):Good P ⟨d,.call ⟨.builtin b,⟨xs⟩,us⟩,t,p,af,g⟩ a w N0 φ x:=by obtain⟨cs,DQ⟩:=uY (P:=P) (a:=a) (w:=w) (b:=b) (xs:=xs) (us:=us) (d:=d) (t:=t) (p:=p) (af:=af) (g:=g);exact⟨v,w,by rw[DQ,ho];exact Cn hr,jW.refl w,h⟩
theorem th(s:List UInt8):(⟨s.toArray⟩:ByteArray).size=s.length:=rfl
theorem mY{E:Env}{k:IntKind}{n:Int}{v:Value}(h:bV E (.int k n) v):v= .int k n:=by simpa only[bV]using h
theorem zc{E:Env}{b:Bool}{v:Value}(h:bV E (.bool b) v):v= .bool b:=by simpa only[bV]using h
theorem wx{E:Env}{s:List UInt8}{v:Value}(h:bV E (.str s) v):v= .string ⟨s.toArray⟩:=by simpa only[bV]using h
theorem WM(h:cp N0 w0 nt σ φ a w){d:Option Tmp}{x:Operand}{t:TypeId}{p:String}{af:Array Edge}{g:Option (Nat×Bool)}:Good P ⟨d,.move x,t,p,af,g⟩ a w N0 φ (σ.ev x):=⟨a.eval x,w,rfl,jW.refl w,h.ev x⟩
theorem Np(h:cp N0 w0 nt σ φ a w){d:Option Tmp}{x:Operand}{t:TypeId}{p:String}{af:Array Edge}{g:Option (Nat×Bool)}:Good P ⟨d,.assign x,t,p,af,g⟩ a w N0 φ (σ.ev x):=⟨a.eval x,w,rfl,jW.refl w,h.ev x⟩
theorem WN(h:cp N0 w0 nt σ φ a w){d:Option Tmp}{x y z:Operand}{t:TypeId}{p:String}{af:Array Edge}{g:Option (Nat×Bool)}{r:A}(hr:Nc (σ.ev x) (σ.ev y) (σ.ev z)=some r):Good P ⟨d,.pick x y z,t,p,af,g⟩ a w N0 φ r:=by (cases hc:σ.ev x<;>simp only[hc,Nc]at hr<;>try(simp at hr;done));rename_i b;have hx:=h.ev x;rw[hc]at hx;have WO:=zc hx;refine⟨if b then a.eval y else a.eval z,w, ?_,jW.refl w, ?_⟩;{simp[Go.execOp,WO,asBool]};{simp at hr;subst hr;cases b;{simpa using h.ev z};{simpa using h.ev y}}
theorem Ev(h:cp N0 w0 nt σ φ a w){d:Option Tmp}{x:Operand}{s f:Nat}{t:TypeId}{p:String}{af:Array Edge}{g:Option (Nat×Bool)}{r:A}(hr:oB (fieldInfo P s f) (σ.ev x)=some r):Good P ⟨d,.fieldAddr s x f,t,p,af,g⟩ a w N0 φ r:=by cases hf:fieldInfo P s f with|none=>(simp[hf,oB]at hr)|some q=>(obtain⟨o,ft⟩:=q;rw[hf]at hr;simp only[oB]at hr;obtain⟨fs,fx,n,hu,yT,rfl,rfl,hn,Uk⟩:=tg hf;(have key: ∀b off:Nat,a.eval x= .pointer (some ⟨b,off,none⟩)->(Instr.fieldAt s (a.eval x) f).run P w= .ok (.pointer (some ⟨b,off+fx.offset,none⟩)) w:=by intro b off hx;have hz:(sizeOf fx.type).run P w= .ok n w:=run_sizeOf hn;simp[Instr.fieldAt,run_underlying hu,yT,hx,Instr.sureAddr,fieldPlace,hz,Uk,Addr.add_mid]);have hx:=h.ev x;(cases hc:σ.ev x<;>simp only[hc,oA]at hr<;>try(simp at hr;done));{rename_i cs;simp at hr;subst hr;rw[hc]at hx;simp only[bV]at hx;obtain⟨hp,b,off,hv,hb,hnb,hm⟩:=hx;refine ed rfl (key b off hv) ?_;simp only[bV];refine⟨?_,b,off+fx.offset,rfl,hb,hnb,np hm⟩;clear hm hc hv;generalize fx.offset=m;induction cs generalizing m with|nil=>(simp[A.pure.cY])|cons y ys ih=>(simp only[A.pure.cY,ag]at hp;cases m with|zero=>(simp[A.pure.cY,hp])|succ m=>(simpa using ih hp.2 m))};{rename_i n' off;simp at hr;subst hr;rw[hc]at hx;simp only[bV]at hx;obtain⟨b,k,hb,hv⟩:=hx;refine ed rfl (key b off hv) ?_;simp only[bV];exact⟨b,k,hb,rfl⟩};{rename_i n' i off;simp at hr;subst hr;rw[hc]at hx;simp only[bV]at hx;obtain⟨b,k,hb,hv⟩:=hx;refine ed rfl (key b (i*k+off) hv) ?_;simp only[bV];exact⟨b,k,hb,by rw[kF]⟩})
theorem uZ{E:Env}{t:TypeId}{cs:List A}{x:A}{b off:Nat}(hm:lZ E b off cs)(hl:oq P t cs=some x): ∃v,(loadVar t ⟨b,off,none⟩).run P E.w= .ok v E.w/\bV E x v/\(x.val=true\/v.oneCell'=true):=by unfold oq at hl;split at hl;{rename_i rX;split at hl;{rename_i n hn;split at hl;{rename_i hle;simp at hl;subst hl;obtain⟨vs,hr,hL,h1⟩:=wq (WI (n:=n) hm);obtain⟨d,hu,hd⟩:=Et rX;(have hlen:vs.length=n:=by rw[<-(df.1 hL).1];simp;omega);refine⟨.agg vs.toArray,run_loadVar_mid E.w b off t vs d hr hu hd (by unfold cQ at hn;rw[hn,hlen]), ?_,.inl rfl⟩;simp only[bV];exact⟨vs,rfl,hL,h1⟩};{simp at hl}};{simp at hl}};{rename_i rX;cases cs with|nil=>(simp at hl)|cons c cs=>(simp at hl;subst hl;simp only[lZ]at hm;obtain⟨⟨v,hv,h1,gn⟩,_⟩:=hm;exact⟨v,by simp[loadVar,mX rX,hv],gn,.inr h1⟩)};{simp at hl}
theorem cd{es:List A}(h:A.pure.cY es=true){i:Nat}{e:A}(hi:es[i]? =some e):e.pure=true:=by induction es generalizing i with|nil=>(simp at hi)|cons z zs ih=>(simp only[A.pure.cY,ag]at h;cases i with|zero=>(simp at hi;subst hi;exact h.1)|succ i=>(exact ih h.2 (by simpa using hi)))
theorem ig{es:List A}(h: ∀(i:Nat) (e:A),es[i]? =some e->e.pure=true):A.pure.cY es=true:=by induction es with|nil=>(rfl)|cons z zs ih=>(simp only[A.pure.cY,ag];exact⟨h 0 z rfl,ih fun i e he=>h (i+1) e (by simpa using he)⟩)
theorem qy{es:List A}{n:Nat}(h:A.pure.cY es=true):A.pure.cY (es.drop n)=true:=ig fun i e he=>cd h (i:=n+i) (by simpa[eH]using he)
theorem qz{es:List A}{n:Nat}(h:A.pure.cY es=true):A.pure.cY (es.take n)=true:=ig fun i e he=>cd h (i:=i) (by rw[dS]at he;split at he;{exact he};{simp at he})
theorem qA{e:A}(h:e.pure=true):A.pure.cY e.cells=true:=by cases e<;>simp_all[A.pure,A.cells,A.pure.cY]
theorem WQ(h:cp N0 w0 nt σ φ a w){d:Option Tmp}{x:Operand}{s:Nat}{t:TypeId}{p:String}{af:Array Edge}{g:Option (Nat×Bool)}{r:A}(hr:xk P s σ.H (σ.ev x)=some r):Good P ⟨d,.load s x,t,p,af,g⟩ a w N0 φ r:=by have hx:=h.ev x;(cases hc:σ.ev x<;>simp only[hc,xk]at hr<;>try(simp at hr;done));{rw[hc]at hx;simp only[bV]at hx;obtain⟨hp,b,off,hv,hb,hnb,hm⟩:=hx;obtain⟨v,A',gn,_⟩:=uZ hm hr;replace A':(loadVar s ⟨b,off,none⟩).run P w= .ok v w:=A';exact ed rfl (by rw[hv];simpa[Instr.loadAt,Instr.sureAddr]using A') gn};{rename_i n off;rw[hc]at hx;simp only[bV]at hx;obtain⟨b,k,hb,hv⟩:=hx;split at hr;{rename_i cs DQ;have ho:=h.gZ n _ _ DQ hb;simp only[cb]at ho;have hm:=np (n:=off) ho.2;obtain⟨v,A',gn,_⟩:=uZ hm hr;replace A':(loadVar s ⟨b,0+off,none⟩).run P w= .ok v w:=A';rw[bU]at A';exact ed rfl (by rw[hv];simpa[Instr.loadAt,Instr.sureAddr]using A') gn};{simp at hr}};{rename_i n i off;rw[hc]at hx;simp only[bV]at hx;obtain⟨b,k,hb,hv⟩:=hx;split at hr;{rename_i k' es DQ;have ho:=h.gZ n _ _ DQ hb;simp only[cb]at ho;obtain⟨rfl,hpu,hblk,he⟩:=ho;cases hi:es[i]? with|none=>(simp[hi]at hr)|some e=>(simp only[hi,aW]at hr;obtain⟨hl,hm⟩:=ie.1 he i e hi;have og:=np (n:=off) hm;obtain⟨v,A',gn,_⟩:=uZ og hr;replace A':(loadVar s ⟨b,0+i*k'+off,none⟩).run P w= .ok v w:=A';rw[bU]at A';exact ed rfl (by rw[hv];simpa[Instr.loadAt,Instr.sureAddr]using A') gn)};{simp at hr}}
theorem HI(h:cp N0 w0 nt σ φ a w){d:Option Tmp}{x:Operand}{t:TypeId}{p:String}{af:Array Edge}{g:Option (Nat×Bool)}{r:A}(hr:A0 (σ.ev x)=some r):Good P ⟨d,.nilCheck x,t,p,af,g⟩ a w N0 φ r:=by have hx:=h.ev x;(cases hc:σ.ev x<;>simp only[hc,A0]at hr<;>try(simp at hr;done));(all_goals simp at hr;subst hr;rw[hc]at hx;refine⟨a.eval x,w, ?_,jW.refl w,hx⟩;simp only[bV]at hx);{obtain⟨hp,b,off,hv,hb,hnb,hm⟩:=hx;simp[Go.execOp,hv]};{obtain⟨b,k,hb,hv⟩:=hx;simp[Go.execOp,hv]};{obtain⟨b,k,hb,hv⟩:=hx;simp[Go.execOp,hv]};{obtain⟨vs,hv,_⟩:=hx;simp[Go.execOp,hv]}
theorem HJ(h:cp N0 w0 nt σ φ a w){d:Option Tmp}{f:Fn}{xs ys:Array Operand}{t:TypeId}{p:String}{af:Array Edge}{g:Option (Nat×Bool)}{r:A}(hr:rZ f (σ.qU xs.toList) (σ.qU ys.toList)=some r):Good P ⟨d,.makeFunc f xs ys,t,p,af,g⟩ a w N0 φ r:=by (cases f<;>simp only[rZ]at hr<;>try(simp at hr;done));rename_i f;cases Ul:σ.qU xs.toList with|cons _ _=>(simp[Ul]at hr)|nil=>(simp only[Ul]at hr;simp at hr;subst hr;(have hx0:xs= #[]:=by cases hl:xs.toList with|nil=>(exact Array.toList_eq_nil_iff.1 hl)|cons _ _=>(simp[hl,St.qU]at Ul));subst hx0;refine⟨.func (.func f) #[] (ys.map a.eval),w, ?_,jW.refl w, ?_⟩;{simp[Go.execOp,Instr.makeFunc]};{simp only[bV];refine⟨(ys.map a.eval).toList,rfl, ?_⟩;simp only[Array.toList_map];generalize ys.toList=l;induction l with|nil=>(simp[St.qU,cL])|cons y l ih=>(simp only[St.qU,aP,cL];exact⟨_,_,rfl,h.ev y,ih⟩)})
theorem Kp(h:cp N0 w0 nt σ φ a w){d:Option Tmp}{x:Operand}{i:Nat}{t:TypeId}{p:String}{af:Array Edge}{g:Option (Nat×Bool)}{r:A}(hr:uU (σ.ev x) i=some r):Good P ⟨d,.extract x i,t,p,af,g⟩ a w N0 φ r:=by have hx:=h.ev x;(cases hc:σ.ev x<;>simp only[hc,uU]at hr<;>try(simp at hr;done));rename_i cs;rw[hc]at hx;simp only[bV]at hx;obtain⟨vs,hv,hl⟩:=hx;obtain⟨h1,h2⟩:=df.1 hl;(have hi:i<vs.length:=by rw[<-h1];exact(ar.1 hr).1);refine ed rfl (v:=vs[i]) (by rw[hv];simp[Instr.extract,hi]) (h2 i _ _ hr (ad hi))
theorem good_len(h:cp N0 w0 nt σ φ a w){d:Option Tmp}{x:Operand}{u:TypeId}{t:TypeId}{p:String}{af:Array Edge}{g:Option (Nat×Bool)}{r:A}(hr:Q5 P u (σ.ev x)=some r):Good P ⟨d,.call ⟨.builtin .len,⟨[x]⟩,⟨[u]⟩⟩,t,p,af,g⟩ a w N0 φ r:=by have hx:=h.ev x;have ho: ∀cs,builtin .len #[u] t cs ([x].map a.eval).toArray=(do pure (Next.value (<-Builtin.len_ #[u] t #[a.eval x]))):=fun cs=>rfl;(have arr: ∀n e,jv P u=some (n,e)->r= .int .i64 n->Good P ⟨d,.call ⟨.builtin .len,⟨[x]⟩,⟨[u]⟩⟩,t,p,af,g⟩ a w N0 φ r:=by rintro n e hn rfl;refine j9 ho (v:= .int .i64 n) ?_ (by simp only[bV]);simp[Builtin.len_,run_underlying (zb hn),goInt]);cases hc:σ.ev x<;>simp only[hc,Q5]at hr;(case str s=>split at hr;{rename_i hs;simp at hr;subst hr;rw[hc]at hx;refine j9 ho (v:= .int .i64 s.length) ?_ (by simp only[bV]);rw[wx hx];simp[Builtin.len_,run_underlying (nO hs),goInt,th]};{simp at hr});(case aD es=>split at hr;{rename_i hs;simp at hr;subst hr;rw[hc]at hx;simp only[bV]at hx;obtain⟨_,b,cap,hv,_⟩:=hx;obtain⟨e,he⟩:=dr.1 hs;refine j9 ho (v:= .int .i64 es.length) ?_ (by simp only[bV]);rw[hv];simp[Builtin.len_,run_underlying (iY he),goInt]};{simp at hr});(case clip es=>split at hr;{rename_i hs;simp at hr;subst hr;rw[hc]at hx;simp only[bV]at hx;obtain⟨_,b,hv,_⟩:=hx;obtain⟨e,he⟩:=dr.1 hs;refine j9 ho (v:= .int .i64 es.length) ?_ (by simp only[bV]);rw[hv];simp[Builtin.len_,run_underlying (iY he),goInt]};{simp at hr});(case ec=>split at hr;{rename_i hs;simp at hr;subst hr;rw[hc]at hx;simp only[bV]at hx;obtain⟨e,he⟩:=dr.1 hs;refine j9 ho (v:= .int .i64 0) ?_ (by simp only[bV]);rw[hx];simp[Builtin.len_,run_underlying (iY he),goInt]};{simp at hr});(case row n off k len c=>split at hr;{rename_i hs;simp at hr;subst hr;rw[hc]at hx;simp only[bV]at hx;obtain⟨e,he⟩:=dr.1 hs;refine j9 ho (v:= .int .i64 len) ?_ (by simp only[bV]);rcases hx with⟨_,_,_,rfl,_,b,hv⟩|⟨b,cap,c,e',fr,_,hv,_⟩;all_goals rw[hv];simp[Builtin.len_,run_underlying (iY he),goInt]};{simp at hr});all_goals split at hr;{rename_i n e hn;simp at hr;exact arr n e hn hr.symm};{simp at hr}
theorem evalL2(h:cp N0 w0 nt σ φ a w){xs:List Operand}{k k':IntKind}{m n:Int}(he:σ.qU xs=[.int k m,.int k' n]):xs.map a.eval=[.int k m,.int k' n]:=by match xs,he with| [x,y],he=>simp only[St.qU,dt,and_true]at he;have h1:=h.ev x;have h2:=h.ev y;rw[he.1]at h1;rw[he.2]at h2;simp[mY h1,mY h2]| [],he=>simp[St.qU]at he| [_],he=>simp[St.qU]at he|_::_::_::_,he=>simp[St.qU]at he
theorem good_min(h:cp N0 w0 nt σ φ a w){d:Option Tmp}{xs:List Operand}{us:Array TypeId}{t:TypeId}{p:String}{af:Array Edge}{g:Option (Nat×Bool)}{r:A}(hr:minA (σ.qU xs)=some r):Good P ⟨d,.call ⟨.builtin .min,⟨xs⟩,us⟩,t,p,af,g⟩ a w N0 φ r:=by unfold minA at hr;split at hr;{rename_i k m k' n he;simp at hr;subst hr;have hm:=evalL2 h he;refine j9 (s:=Builtin.min_ us t (xs.map a.eval).toArray) (fun _=>rfl) (v:= .int k (if n<m then n else m)) ?_ (by simp only[bV]);simp[Builtin.min_,hm,Builtin.min2]};{simp at hr}
theorem good_max(h:cp N0 w0 nt σ φ a w){d:Option Tmp}{xs:List Operand}{us:Array TypeId}{t:TypeId}{p:String}{af:Array Edge}{g:Option (Nat×Bool)}{r:A}(hr:maxA (σ.qU xs)=some r):Good P ⟨d,.call ⟨.builtin .max,⟨xs⟩,us⟩,t,p,af,g⟩ a w N0 φ r:=by unfold maxA at hr;split at hr;{rename_i k m k' n he;simp at hr;subst hr;have hm:=evalL2 h he;refine j9 (s:=Builtin.max_ us t (xs.map a.eval).toArray) (fun _=>rfl) (v:= .int k (if n>m then n else m)) ?_ (by simp only[bV]);simp[Builtin.max_,hm,Builtin.max2]};{simp at hr}
end
end Go.ez
