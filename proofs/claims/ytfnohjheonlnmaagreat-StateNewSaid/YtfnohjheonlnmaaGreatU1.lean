/- What the laws of this claim rest on: the abstract executor, its soundness, and what the functions compute on pure data. No condition. -/
import Derived.Orders
import Derived.WalkKit
import Derived.Test.YtfnohjheonlnmaaGreatProg
import Derived.Deep.MidRow
import Derived.Deep.AppendSrc
noncomputable section
theorem aa:type_of% @List.length_map:=@List.length_map
theorem ab:type_of% @List.take_of_length_le:=@List.take_of_length_le
theorem ad:type_of% @List.getElem?_eq_getElem:=@List.getElem?_eq_getElem
theorem ag:type_of% @List.length_append:=@List.length_append
theorem ae:type_of% @Nat.le_refl:=@Nat.le_refl
theorem ah:type_of% @Option.some.inj:=@Option.some.inj
theorem ai:type_of% @List.getElem_mem:=@List.getElem_mem
theorem aj:type_of% @Bool.and_eq_true:=@Bool.and_eq_true
theorem ak:type_of% @Nat.zero_le:=@Nat.zero_le
theorem an:type_of% @List.take_append_getElem:=@List.take_append_getElem
theorem ao:type_of% @List.drop_eq_getElem_cons:=@List.drop_eq_getElem_cons
theorem ar:type_of% @Bool.false_eq_true:=@Bool.false_eq_true
theorem ax:type_of% @List.getElem?_eq_some_iff:=@List.getElem?_eq_some_iff
theorem ay:type_of% @List.length_cons:=@List.length_cons
theorem az:type_of% @List.length_take:=@List.length_take
theorem aC:type_of% @List.drop_of_length_le:=@List.drop_of_length_le
theorem aB:type_of% @List.mem_cons:=@List.mem_cons
theorem aD:type_of% @Bool.true_and:=@Bool.true_and
theorem aG:type_of% @List.mem_append:=@List.mem_append
theorem aJ:type_of% @Bool.false_and:=@Bool.false_and
theorem aK:type_of% @Nat.le_trans:=@Nat.le_trans
theorem aL:type_of% @Option.map_eq_some_iff:=@Option.map_eq_some_iff
theorem aM:type_of% @List.length_filter_le:=@List.length_filter_le
theorem aP:type_of% @List.mem_singleton:=@List.mem_singleton
theorem aQ:type_of% @List.getElem?_map:=@List.getElem?_map
theorem aU:type_of% @List.length_eq_zero_iff:=@List.length_eq_zero_iff
theorem aR:type_of% @List.map_cons:=@List.map_cons
theorem aS:type_of% @List.mem_filter:=@List.mem_filter
theorem aT:type_of% @List.pairwise_cons:=@List.pairwise_cons
theorem aX:type_of% @List.append_assoc:=@List.append_assoc
theorem aY:type_of% @Int.toNat_natCast:=@Int.toNat_natCast
theorem aZ:type_of% @Option.bind_some:=@Option.bind_some
theorem ba:type_of% @List.append_nil:=@List.append_nil
theorem bf:type_of% @Option.some.injEq:=@Option.some.injEq
theorem bm:type_of% @Bool.not_false:=@Bool.not_false
theorem bk:type_of% @Bool.false_or:=@Bool.false_or
theorem bo:type_of% @List.length_nil:=@List.length_nil
theorem bp:type_of% @List.take_append_drop:=@List.take_append_drop
theorem bq:type_of% @Nat.le_of_ble_eq_true:=@Nat.le_of_ble_eq_true
theorem br:type_of% @List.map_append:=@List.map_append
theorem bw:type_of% @List.nil_append:=@List.nil_append
theorem bx:type_of% @Bool.eq_iff_iff:=@Bool.eq_iff_iff
theorem bA:type_of% @List.cons_append:=@List.cons_append
theorem bD:type_of% @List.take_length:=@List.take_length
theorem bC:type_of% @List.map_nil:=@List.map_nil
theorem bE:type_of% @Bool.or_eq_true:=@Bool.or_eq_true
theorem bF:type_of% @Bool.not_true:=@Bool.not_true
theorem bK:type_of% @Option.bind_eq_some_iff:=@Option.bind_eq_some_iff
theorem bM:type_of% @List.mem_of_mem_take:=@List.mem_of_mem_take
theorem bN:type_of% @List.getElem?_of_mem:=@List.getElem?_of_mem
theorem bO:type_of% @List.filter_append:=@List.filter_append
theorem bL:type_of% @Bool.and_false:=@Bool.and_false
theorem bQ:type_of% @Array.getElem?_eq_some_iff:=@Array.getElem?_eq_some_iff
theorem bP:type_of% @List.not_mem_nil:=@List.not_mem_nil
theorem bT:type_of% @Bool.not_eq_true':=@Bool.not_eq_true'
theorem bR:type_of% @Nat.zero_add:=@Nat.zero_add
theorem bU:type_of% @List.length_drop:=@List.length_drop
theorem bY:type_of% @List.filter_cons_of_pos:=@List.filter_cons_of_pos
theorem b_:type_of% @List.getElem?_append_right:=@List.getElem?_append_right
theorem b9:type_of% @List.getElem_of_mem:=@List.getElem_of_mem
theorem bV:type_of% @List.mem_map:=@List.mem_map
theorem ca:type_of% @List.all_eq_true:=@List.all_eq_true
theorem cb:type_of% @List.pairwise_iff_getElem:=@List.pairwise_iff_getElem
theorem cd:type_of% @List.contains_cons:=@List.contains_cons
theorem cj:type_of% @List.foldl_cons:=@List.foldl_cons
theorem ck:type_of% @Bool.and_true:=@Bool.and_true
theorem cn:type_of% @List.getElem?_append_left:=@List.getElem?_append_left
theorem cm:type_of% @List.contains_nil:=@List.contains_nil
theorem cu:type_of% @List.foldl_append:=@List.foldl_append
theorem cr:type_of% @Bool.true_or:=@Bool.true_or
theorem cx:type_of% @List.mem_of_getElem?:=@List.mem_of_getElem?
theorem cy:type_of% @Bool.or_eq_false_iff:=@Bool.or_eq_false_iff
theorem cw:type_of% @List.any_cons:=@List.any_cons
theorem cB:type_of% @List.take_append_of_le_length:=@List.take_append_of_le_length
theorem cA:type_of% @Bool.and_self:=@Bool.and_self
theorem cD:type_of% @List.filter_eq_nil_iff:=@List.filter_eq_nil_iff
theorem cF:type_of% @List.mem_of_mem_drop:=@List.mem_of_mem_drop
theorem cG:type_of% @Nat.mul_le_mul_right:=@Nat.mul_le_mul_right
theorem cH:type_of% @List.getElem?_set_ne:=@List.getElem?_set_ne
theorem cL:type_of% @Nat.lt_of_lt_of_le:=@Nat.lt_of_lt_of_le
theorem cO:type_of% @List.length_reverse:=@List.length_reverse
theorem cP:type_of% @Nat.add_mul:=@Nat.add_mul
theorem cQ:type_of% @Int.le_refl:=@Int.le_refl
theorem cT:type_of% @List.sum_cons:=@List.sum_cons
theorem c_:type_of% @List.pairwise_append:=@List.pairwise_append
theorem cZ:type_of% @List.getElem?_set:=@List.getElem?_set
theorem db:type_of% @Classical.choose_spec:=@Classical.choose_spec
theorem dg:type_of% @List.filter_cons_of_neg:=@List.filter_cons_of_neg
theorem da:type_of% @Nat.add_zero:=@Nat.add_zero
theorem de:type_of% @List.length_set:=@List.length_set
theorem dv:type_of% @Option.isSome_iff_exists:=@Option.isSome_iff_exists
theorem dq:type_of% @Nat.le_of_eq:=@Nat.le_of_eq
theorem dw:type_of% @List.cons.injEq:=@List.cons.injEq
theorem dF:type_of% @List.length_singleton:=@List.length_singleton
theorem dE:type_of% @List.filter_eq_self:=@List.filter_eq_self
theorem dD:type_of% @Bool.not_eq_true:=@Bool.not_eq_true
theorem dH:type_of% @Nat.add_sub_cancel_left:=@Nat.add_sub_cancel_left
theorem dI:type_of% @List.mem_cons_of_mem:=@List.mem_cons_of_mem
theorem dK:type_of% @List.mem_of_find?_eq_some:=@List.mem_of_find?_eq_some
theorem dY:type_of% @Option.map_some:=@Option.map_some
theorem dZ:type_of% @List.getElem?_take:=@List.getElem?_take
theorem dV:type_of% @List.map_map:=@List.map_map
theorem ec:type_of% @List.mem_iff_getElem:=@List.mem_iff_getElem
theorem er:type_of% @List.drop_append_of_le_length:=@List.drop_append_of_le_length
theorem ep:type_of% @Bool.and_assoc:=@Bool.and_assoc
theorem ez:type_of% @List.getElem?_eq_none:=@List.getElem?_eq_none
theorem eD:type_of% @List.getElem?_drop:=@List.getElem?_drop
theorem eK:type_of% @List.take_succ_eq_append_getElem:=@List.take_succ_eq_append_getElem
theorem eI:type_of% @List.reverse_reverse:=@List.reverse_reverse
theorem eG:type_of% @Bool.or_false:=@Bool.or_false
theorem eJ:type_of% @List.drop_drop:=@List.drop_drop
theorem eT:type_of% @Option.map_none:=@Option.map_none
theorem fa:type_of% @Option.getD_some:=@Option.getD_some
theorem fm:type_of% @List.getElem?_append:=@List.getElem?_append
theorem fo:type_of% @List.mem_erase_of_ne:=@List.mem_erase_of_ne
theorem fy:type_of% @List.getElem_take:=@List.getElem_take
theorem fK:type_of% @Array.getElem?_append_left:=@Array.getElem?_append_left
theorem fO:type_of% @Int.fdiv_eq_ediv_of_nonneg:=@Int.fdiv_eq_ediv_of_nonneg
theorem fq:type_of% @Ne.symm:=@Ne.symm
theorem fM:type_of% @List.mem_range:=@List.mem_range
theorem fR:type_of% @List.mem_of_mem_erase:=@List.mem_of_mem_erase
theorem fP:type_of% @Nat.lt_or_eq_of_le:=@Nat.lt_or_eq_of_le
theorem fQ:type_of% @Nat.one_mul:=@Nat.one_mul
theorem fU:type_of% @Nat.lt_or_ge:=@Nat.lt_or_ge
theorem gi:type_of% @Nat.min_eq_left:=@Nat.min_eq_left
theorem fW:type_of% @Prod.ext_iff:=@Prod.ext_iff
theorem fN:type_of% @Prod.ext:=@Prod.ext
theorem gD:type_of% @List.reverse_cons:=@List.reverse_cons
theorem gI:type_of% @List.any_eq_false:=@List.any_eq_false
theorem gq:type_of% @List.map_take:=@List.map_take
theorem ie:type_of% @List.take_succ_cons:=@List.take_succ_cons
theorem ik:type_of% @Array.length_toList:=@Array.length_toList
theorem iv:type_of% @List.any_eq_true:=@List.any_eq_true
theorem iG:type_of% @List.length_eq_one_iff:=@List.length_eq_one_iff
theorem iJ:type_of% @List.nodup_cons:=@List.nodup_cons
theorem iK:type_of% @UInt8.toNat_inj:=@UInt8.toNat_inj
theorem iM:type_of% @List.filter_nil:=@List.filter_nil
theorem iW:type_of% @List.flatten_cons:=@List.flatten_cons
theorem je:type_of% @List.extract_eq_take_drop:=@List.extract_eq_take_drop
theorem jg:type_of% @Array.getElem?_eq_getElem:=@Array.getElem?_eq_getElem
theorem i_:type_of% @List.take_zero:=@List.take_zero
theorem jk:type_of% @List.sum_nil:=@List.sum_nil
theorem jq:type_of% @List.replicate_succ:=@List.replicate_succ
theorem jt:type_of% @List.map_congr_left:=@List.map_congr_left
theorem jE:type_of% @List.all_cons:=@List.all_cons
theorem jF:type_of% @List.map_drop:=@List.map_drop
theorem jU:type_of% @Option.isNone_some:=@Option.isNone_some
theorem jV:type_of% @List.mem_filterMap:=@List.mem_filterMap
theorem jX:type_of% @Nat.add_sub_cancel:=@Nat.add_sub_cancel
theorem jR:type_of% @List.find?_some:=@List.find?_some
theorem kg:type_of% @List.ext_getElem?:=@List.ext_getElem?
theorem kj:type_of% @Nat.lt_trichotomy:=@Nat.lt_trichotomy
theorem km:type_of% @List.pairwise_map:=@List.pairwise_map
theorem kq:type_of% @List.take_sublist:=@List.take_sublist
theorem kt:type_of% @List.flatMap_cons:=@List.flatMap_cons
theorem ku:type_of% @List.filter_congr:=@List.filter_congr
theorem j8:type_of% @Bool.or_true:=@Bool.or_true
theorem kC:type_of% @Nat.div_lt_iff_lt_mul:=@Nat.div_lt_iff_lt_mul
theorem j_:type_of% @List.map_set:=@List.map_set
theorem kH:type_of% @List.set_append_right:=@List.set_append_right
theorem kP:type_of% @Nat.lt_succ_self:=@Nat.lt_succ_self
theorem kQ:type_of% @List.mem_reverse:=@List.mem_reverse
theorem kT:type_of% @Nat.add_assoc:=@Nat.add_assoc
theorem lL:type_of% @List.append_inj:=@List.append_inj
theorem lR:type_of% @Nat.mul_comm:=@Nat.mul_comm
theorem lW:type_of% @Nat.succ_mul:=@Nat.succ_mul
set_option linter.unusedVariables false
set_option linter.unusedSimpArgs false
namespace Go.du
inductive A where|any|int (k:IntKind) (n:Int)|bool (b:Bool)|str (s:List UInt8)|agg (cs:List A)|aw (es:List A)|clip (es:List A)|jD (cs:List A)|dX|zi|ref (n off:Nat)|mz (n i off:Nat)|row (n off k len:Nat) (c:Bool)|fn (f:FuncId) (oI:List A)|eV (cs:List A)|emp (c:Bool)
instance:Inhabited A:=⟨.any⟩
inductive iu where|free|nil|loc (b k:Nat)
def A.cells:A->List A| .agg cs=>cs|x=>[x]
def eR:List A->Nat| []=>0|e::_=>e.cells.length
def A.mem(n:Nat):A->Bool| .ref m _=>m==n| .mz m _ _=>m==n| .row m _ _ _ _=>m==n| .agg cs=>me n cs| .fn _ cs=>me n cs| .eV cs=>me n cs|_=>false where me (n:Nat):List A->Bool| []=>false|c::cs=>c.mem n||me n cs
def A.pure:A->Bool| .ref _ _=>false| .mz _ _ _=>false| .row _ _ _ _ _=>false| .agg cs=>cY cs| .fn _ cs=>cY cs| .eV cs=>cY cs|_=>true where cY:List A->Bool| []=>true|c::cs=>c.pure&&cY cs
mutual theorem A.rF(n:Nat): ∀x:A,x.pure=true->x.mem n=false| .any,_=>rfl| .int _ _,_=>rfl| .bool _,_=>rfl| .str _,_=>rfl| .aw _,_=>rfl| .clip _,_=>rfl| .jD _,_=>rfl| .dX,_=>rfl| .zi,_=>rfl| .emp _,_=>rfl| .ref _ _,h=>by simp[A.pure]at h| .mz _ _ _,h=>by simp[A.pure]at h| .row _ _ _ _ _,h=>by simp[A.pure]at h| .agg cs,h=>by simp only[A.mem];exact A.lB n cs (by simpa only[A.pure]using h)| .fn _ cs,h=>by simp only[A.mem];exact A.lB n cs (by simpa only[A.pure]using h)| .eV cs,h=>by simp only[A.mem];exact A.lB n cs (by simpa only[A.pure]using h) theorem A.lB(n:Nat): ∀cs:List A,A.pure.cY cs=true->A.mem.me n cs=false| [],_=>rfl|c::cs,h=>by simp only[A.pure.cY,aj]at h;simp only[A.mem.me,A.rF n c h.1,A.lB n cs h.2,Bool.or_self] end
structure Env where
 N:Nat->Prop
 φ:List iu
 w:World
mutual def bW(E:Env):A->Value->Prop| .any,_=>True| .int k n,v=>v= .int k n| .bool b,v=>v= .bool b| .str s,v=>v= .string ⟨s.toArray⟩| .agg cs,v=> ∃vs:List Value,v= .agg vs.toArray/\cJ E cs vs/\ ∀u∈vs,u.oneCell'=true| .aw es,v=>A.pure.cY es=true/\ ∃a cap,v= .slice a es.length cap/\es.length<=cap/\ (es≠ []-> ∃b off,a=some ⟨b,off,none⟩/\b<E.w.heap.size/\ ¬E.N b/\j0 E (eR es) b off es)| .clip es,v=>A.pure.cY es=true/\ ∃a,v= .slice a es.length es.length/\ (es≠ []-> ∃b off,a=some ⟨b,off,none⟩/\b<E.w.heap.size/\ ¬E.N b/\j0 E (eR es) b off es)| .jD cs,v=>A.pure.cY cs=true/\ ∃b off,v= .pointer (some ⟨b,off,none⟩)/\b<E.w.heap.size/\ ¬E.N b/\mf E b off cs| .dX,v=>v= .slice none 0 0| .zi,v=>v= .pointer none| .emp c,v=> ∃a cap,v= .slice a 0 cap/\a.isNone=c| .ref n off,v=> ∃b k,E.φ[n]? =some (.loc b k)/\v= .pointer (some ⟨b,off,none⟩)| .mz n i off,v=> ∃b k,E.φ[n]? =some (.loc b k)/\v= .pointer (some ⟨b,i*k+off,none⟩)| .row n off k len cl,v=> (∃o,E.φ[n]? =some o/\o≠ .free/\len=0/\(o= .nil->off=0)/\ ∃a,v= .slice a 0 0)\/ (∃b cap c e fr,E.φ[n]? =some (.loc b k)/\v= .slice (some ⟨b,off*k,none⟩) len cap/\len<=cap/\(cl=true->cap=len)/\E.w.heap[b]? =some (.cells c e fr)/\off*k+k*cap<=c.size)| .fn f oI,v=> ∃vs:List Value,v= .func (.func f) #[] vs.toArray/\cJ E oI vs| .eV cs,v=> ∃vs:List Value,v= .tuple vs.toArray/\cJ E cs vs def cJ(E:Env):List A->List Value->Prop| [],vs=>vs=[]|c::cs,vs=> ∃v qa,vs=v::qa/\bW E c v/\cJ E cs qa def mf(E:Env)(b:Nat)(off:Nat):List A->Prop| []=>True|c::cs=>(∃v,E.w.cell? ⟨b,off,none⟩=some v/\v.oneCell'=true/\bW E c v)/\mf E b (off+1) cs def j0(E:Env)(k:Nat)(b:Nat)(off:Nat):List A->Prop| []=>True| .agg cs::es=>(cs.length=k/\mf E b off cs)/\j0 E k b (off+k) es|e::es=>(k=1/\ ∃v,E.w.cell? ⟨b,off,none⟩=some v/\v.oneCell'=true/\bW E e v)/\j0 E k b (off+k) es end
theorem Nr{E:Env}{k b off:Nat}{cs es:List A}:j0 E k b off (.agg cs::es)=((cs.length=k/\mf E b off cs)/\j0 E k b (off+k) es):=by simp[j0]
structure Ext(K:Nat->Prop)(E E':Env):Prop where
 size:E.w.heap.size<=E'.w.heap.size
 Ns: ∀b,b<E.w.heap.size-> ¬E.N b-> ¬E'.N b/\E'.w.heap[b]? =E.w.heap[b]?
 refs: ∀n o,K n->E.φ[n]? =some o->o≠ .free->E'.φ[n]? =some o
 own: ∀n b k c e fr,K n->E.φ[n]? =some (.loc b k)->E.w.heap[b]? =some (.cells c e fr)-> ∃c' Q6,E'.w.heap[b]? =some (.cells c' e Q6)/\c'.size=c.size
theorem Ext.cell{K:Nat->Prop}{E E':Env}(h:Ext K E E'){b off:Nat}(hb:b<E.w.heap.size)(hn: ¬E.N b):E'.w.cell? ⟨b,off,none⟩=E.w.cell? ⟨b,off,none⟩:=by simp only[World.cell?,(h.Ns b hb hn).2]
mutual theorem bW.mono{K:Nat->Prop}{E E':Env}(h:Ext K E E'): ∀(x:A) (v:Value),bW E x v->(∀n,x.mem n=true->K n)->bW E' x v| .any,_,_,_=>by simp only[bW]| .int _ _,v,hr,_=>by simpa only[bW]using hr| .bool _,v,hr,_=>by simpa only[bW]using hr| .str _,v,hr,_=>by simpa only[bW]using hr| .dX,v,hr,_=>by simpa only[bW]using hr| .zi,v,hr,_=>by simpa only[bW]using hr| .emp _,v,hr,_=>by simpa only[bW]using hr| .agg cs,v,hr,hk=>by simp only[bW]at hr⊢;obtain⟨vs,hv,hl,h1⟩:=hr;exact⟨vs,hv,cJ.mono h cs vs hl (fun n hn=>hk n (by simpa only[A.mem]using hn)),h1⟩| .fn f cs,v,hr,hk=>by simp only[bW]at hr⊢;obtain⟨vs,hv,hl⟩:=hr;exact⟨vs,hv,cJ.mono h cs vs hl (fun n hn=>hk n (by simpa only[A.mem]using hn))⟩| .eV cs,v,hr,hk=>by simp only[bW]at hr⊢;obtain⟨vs,hv,hl⟩:=hr;exact⟨vs,hv,cJ.mono h cs vs hl (fun n hn=>hk n (by simpa only[A.mem]using hn))⟩| .aw es,v,hr,_=>by simp only[bW]at hr⊢;obtain⟨hp,a,cap,hv,hc,hl⟩:=hr;refine⟨hp,a,cap,hv,hc,fun eF=> ?_⟩;obtain⟨b,off,ha,hb,hn,he⟩:=hl eF;exact⟨b,off,ha,cL hb h.size,(h.Ns b hb hn).1,j0.mono h (eR es) b off es hb hn he (fun n hn=>by rw[A.lB n es hp]at hn;cases hn)⟩| .clip es,v,hr,_=>by simp only[bW]at hr⊢;obtain⟨hp,a,hv,hl⟩:=hr;refine⟨hp,a,hv,fun eF=> ?_⟩;obtain⟨b,off,ha,hb,hn,he⟩:=hl eF;exact⟨b,off,ha,cL hb h.size,(h.Ns b hb hn).1,j0.mono h (eR es) b off es hb hn he (fun n hn=>by rw[A.lB n es hp]at hn;cases hn)⟩| .jD cs,v,hr,_=>by simp only[bW]at hr⊢;obtain⟨hp,b,off,hv,hb,hn,he⟩:=hr;exact⟨hp,b,off,hv,cL hb h.size,(h.Ns b hb hn).1,mf.mono h b off cs hb hn he (fun n hn=>by rw[A.lB n cs hp]at hn;cases hn)⟩| .ref n off,v,hr,hk=>by simp only[bW]at hr⊢;obtain⟨b,k,hb,hv⟩:=hr;exact⟨b,k,h.refs n _ (hk n (by simp[A.mem])) hb (by simp),hv⟩| .mz n i off,v,hr,hk=>by simp only[bW]at hr⊢;obtain⟨b,k,hb,hv⟩:=hr;exact⟨b,k,h.refs n _ (hk n (by simp[A.mem])) hb (by simp),hv⟩| .row n off k len cl,v,hr,hk=>by simp only[bW]at hr⊢;rcases hr with⟨o,hb,hf,r⟩|⟨b,cap,c,e,fr,hb,hv,wA,nT,hc,hs⟩;{exact .inl ⟨o,h.refs n _ (hk n (by simp[A.mem])) hb hf,hf,r⟩};{obtain⟨c',Q6,A4,hs'⟩:=h.own n b k c e fr (hk n (by simp[A.mem])) hb hc;exact .inr ⟨b,cap,c',e,Q6,h.refs n _ (hk n (by simp[A.mem])) hb (by simp),hv,wA,nT,A4,by omega⟩}theorem cJ.mono{K:Nat->Prop}{E E':Env}(h:Ext K E E'): ∀(cs:List A) (vs:List Value),cJ E cs vs->(∀n,A.mem.me n cs=true->K n)->cJ E' cs vs| [],_,hr,_=>by simpa only[cJ]using hr|c::cs,vs,hr,hk=>by simp only[cJ]at hr⊢;obtain⟨v,qa,hv,hc,hl⟩:=hr;exact⟨v,qa,hv,bW.mono h c v hc (fun n hn=>hk n (by simp[A.mem.me,hn])),cJ.mono h cs qa hl (fun n hn=>hk n (by simp[A.mem.me,hn]))⟩ theorem mf.mono{K:Nat->Prop}{E E':Env}(h:Ext K E E'): ∀(b off:Nat) (cs:List A),b<E.w.heap.size-> ¬E.N b->mf E b off cs->(∀n,A.mem.me n cs=true->K n)->mf E' b off cs|_,_,[],_,_,_,_=>by simp only[mf]|b,off,c::cs,hb,hn,hr,hk=>by simp only[mf]at hr⊢;obtain⟨⟨v,hv,h1,hc⟩,hl⟩:=hr;exact⟨⟨v,by rw[h.cell hb hn];exact hv,h1,bW.mono h c v hc (fun n hn=>hk n (by simp[A.mem.me,hn]))⟩,mf.mono h b (off+1) cs hb hn hl (fun n hn=>hk n (by simp[A.mem.me,hn]))⟩ theorem j0.mono{K:Nat->Prop}{E E':Env}(h:Ext K E E'): ∀(k b off:Nat) (es:List A),b<E.w.heap.size-> ¬E.N b->j0 E k b off es->(∀n,A.mem.me n es=true->K n)->j0 E' k b off es|_,_,_,[],_,_,_,_=>by simp only[j0]|k,b,off,e::es,hb,hn,hr,hk=>by cases e;(case agg cs=>rw[Nr]at hr⊢;obtain⟨⟨hlen,hm⟩,hl⟩:=hr;exact⟨⟨hlen,mf.mono h b off cs hb hn hm (fun n hn=>hk n (by simp[A.mem.me,A.mem,hn]))⟩,j0.mono h k b (off+k) es hb hn hl (fun n hn=>hk n (by simp[A.mem.me,hn]))⟩);all_goals simp only[j0]at hr⊢;obtain⟨⟨pP,v,hv,h1,hc⟩,hl⟩:=hr;exact⟨⟨pP,v,by rw[h.cell hb hn];exact hv,h1,bW.mono h _ v hc (fun n hn=>hk n (by simp[A.mem.me,hn]))⟩,j0.mono h k b (off+k) es hb hn hl (fun n hn=>hk n (by simp[A.mem.me,hn]))⟩ end
inductive Obj where|box (cs:List A)|row (k:Nat) (es:List A)
instance:Inhabited Obj:=⟨.row 0 []⟩
structure St where
 s:List (Nat×A)
 H:List Obj
def toA1:Value->A| .int k n=> .int k n| .bool b=> .bool b| .string s=> .str s.data.toList| .slice none 0 0=> .dX| .pointer none=> .zi| .func (.func f) ⟨[]⟩ ⟨[]⟩=> .fn f []| .tuple ⟨[]⟩=> .eV []|_=> .any
def toA:Value->A| .agg ⟨cs⟩=>if cs.all (·.oneCell')then .agg (cs.map toA1)else .any|v=>toA1 v
def look:List (Nat×A)->Nat->A| [],_=> .any|(d,v)::r,t=>if d=t then v else look r t
def fE:List A->Nat->A->List A| [],_,_=>[]|_::xs,0,v=>v::xs|x::xs,n+1,v=>x::fE xs n v
def fe:List Obj->Nat->Option Obj| [],_=>none|x::_,0=>some x|_::xs,n+1=>fe xs n
def pQ:List Obj->Nat->Obj->List Obj| [],_,_=>[]|_::xs,0,v=>v::xs|x::xs,n+1,v=>x::pQ xs n v
def St.ev(σ:St):Operand->A| .tmp t=>look σ.s t| .const v=>toA v| .func f=> .fn f []| .global _=> .any
def St.put(σ:St)(d:Option Tmp)(v:A):St:=match d with|some d=>{σ with s:=(d,v)::σ.s}|none=>σ
def St.ib(σ:St)(n:Nat)(o:Obj):St:={σ with H:=pQ σ.H n o}
def dM(P:Program)(t:TypeId):Option Bool:=match P.underlying t with|some (.struct _)=>some true|some (.array _ _)=>some true|some _=>some false|none=>none
def cW(P:Program)(t:TypeId):Option Nat:=(P.info? t).map (·.size)
def ke(P:Program)(t:TypeId):Nat:=P.bytesOf t
def cM(P:Program)(t:TypeId):Option TypeId:=match P.underlying t with|some (.slice e)=>some e|_=>none
def jl(P:Program)(t:TypeId):Option (Nat×TypeId):=match P.underlying t with|some (.array n e)=>some (n,e)|_=>none
def fieldInfo(P:Program)(s:TypeId)(f:Nat):Option (Nat×TypeId):=match P.underlying s with|some (.struct fs)=>(fs[f]?).bind fun x=>if cW P x.type=some 0 then none else if(cW P x.type).isNone then none else some (x.offset,x.type)|_=>none
def iT(P:Program)(t:TypeId):Option A:=(P.info? t).bind fun i=>i.zero.map toA
def lx(P:Program)(t:TypeId):Bool:=match P.underlying t with|some .string=>true|_=>false
def lC(P:Program)(t:TypeId):Bool:=match P.underlying t with|some .bool=>true|_=>false
def nB(P:Program)(t:TypeId):Bool:=match P.underlying t with|some (.pointer _)=>true|_=>false
def ur(P:Program)(t:TypeId):Option IntKind:=match P.underlying t with|some (.int k)=>some k|_=>none
def oL(P:Program)(t:TypeId)(cs:List A):Option A:=
 match dM P t with
 |some true=>
  match cW P t with
  |some n=>if n<=cs.length then some (.agg (cs.take n))else none
  |none=>none
 |some false=>cs.head?
 |none=>none
def A.val:A->Bool| .any=>false| .eV _=>false|_=>true
def A.flat:A->Bool| .int _ _=>true| .bool _=>true| .str _=>true| .dX=>true| .zi=>true| .agg cs=>Nt cs| .eV cs=>Nt cs|_=>false where Nt:List A->Bool| []=>true|c::cs=>c.flat&&Nt cs
def mX(c:UInt8):A:= .int .u8 c.toNat
def iU(s:List UInt8):List A:=s.map mX
def zj:A->Option UInt8| .int .u8 n=>some (UInt8.ofNat n.toNat)|_=>none
def lO:List A->Option (List UInt8)| []=>some []|x::xs=>(zj x).bind fun b=>(lO xs).map (b:: ·)
def WK:A->A->Option Bool| .int k a,.int k' b=>if k=k' then some (a==b)else none| .bool a,.bool b=>some (a==b)| .str a,.str b=>some (a==b)|_,_=>none
def A9:List A->List A->Option Bool| [],[]=>some true|x::xs,y::ys=>(WK x y).bind fun a=>(A9 xs ys).map (a&& ·)|_,_=>none
inductive CK where|int (k:IntKind)|bool|str deriving DecidableEq
def CK.has:CK->A->Bool| .int k,.int k' _=>k==k'| .bool,.bool _=>true| .str,.str _=>true|_,_=>false
def eW:List CK->List A->Bool| [],[]=>true|c::cs,x::xs=>c.has x&&eW cs xs|_,_=>false
def A.Nu:A->Bool| .ref _ _=>true| .mz _ _ _=>true| .jD _=>true|_=>false
def ye(op:BinOp)(k:IntKind)(a b:Int):Option A:=match op with| .add=>some (.int k (k.wrap (a+b)))| .sub=>some (.int k (k.wrap (a-b)))| .mul=>some (.int k (k.wrap (a*b)))| .quo=>if b=0 then none else some (.int k (k.wrap (a.tdiv b)))| .rem=>if b=0 then none else some (.int k (a.tmod b))| .and=>some (.int k (k.wrap ((BitVec.ofInt k.bits a&&&BitVec.ofInt k.bits b).toNat)))| .or=>some (.int k (k.wrap ((BitVec.ofInt k.bits a|||BitVec.ofInt k.bits b).toNat)))| .xor=>some (.int k (k.wrap ((BitVec.ofInt k.bits a^^^BitVec.ofInt k.bits b).toNat)))| .andNot=>some (.int k (k.wrap ((BitVec.ofInt k.bits a&&&~~~ BitVec.ofInt k.bits b).toNat)))| .eql=>some (.bool (a==b))| .neq=>some (.bool (a !=b))| .lss=>some (.bool (decide (a<b)))| .leq=>some (.bool (decide (a<=b)))| .gtr=>some (.bool (decide (b<a)))| .geq=>some (.bool (decide (b<=a)))|_=>none
def binS(op:BinOp)(a b:List UInt8):Option A:=match op with| .add=>if a.length+b.length<=9223372036854775807 then some (.str (a++b))else none| .eql=>some (.bool (a==b))| .neq=>some (.bool (a !=b))| .lss=>some (.bool (Op.bytesLess a b))| .leq=>some (.bool (Op.bytesLess a b||a==b))| .gtr=>some (.bool !(Op.bytesLess a b||a==b))| .geq=>some (.bool !(Op.bytesLess a b))|_=>none
def UA(sl:Bool)(op:BinOp)(c:Bool):Option A:=if sl=true then match op with| .eql=>some (.bool c)| .neq=>some (.bool !c)|_=>none else none
def mg(ks:Option (List CK))(bl ptr sl:Bool)(op:BinOp):A->A->Option A
 | .int k a,.int k' b=>
  match op with
  | .shl=>if b<0 then none else some (.int k (k.wrap (a*2^(min b.toNat k.bits))))
  | .shr=>if b<0 then none else some (.int k (a.fdiv (2^(min b.toNat k.bits))))
  |_=>if k=k' then ye op k a b else none
 | .bool a,.bool b=>
  if bl=true then
   match op with
   | .eql=>some (.bool (a==b))
   | .neq=>some (.bool (a !=b))
   |_=>none
  else none
 | .str a,.str b=>binS op a b
 | .agg xs,.agg ys=>
  match ks with
  |some l=>
   if eW l xs=true/\eW l ys=true then
    match op with
    | .eql=>(A9 xs ys).map .bool
    | .neq=>(A9 xs ys).map fun b=> .bool !b
    |_=>none
   else none
  |none=>none
 | .zi,y=>
  if ptr then
   match op with
   | .eql=>match y with| .zi=>some (.bool true)|_=>if y.Nu then some (.bool false)else none
   | .neq=>match y with| .zi=>some (.bool false)|_=>if y.Nu then some (.bool true)else none
   |_=>none
  else none
 |x,.zi=>
  if ptr&&x.Nu then
   match op with
   | .eql=>some (.bool false)
   | .neq=>some (.bool true)
   |_=>none
  else none
 | .emp c,.dX=>UA sl op c
 | .aw (_::_),.dX=>UA sl op false
 |_,_=>none
def unA(op:UnOp):A->Option A
 | .bool b=>match op with| .not=>some (.bool !b)|_=>none
 | .int k n=>match op with| .neg=>some (.int k (k.wrap (0-n)))|_=>none
 |_=>none
def WL(rec:TypeId->Option (List CK))(size:TypeId->Option Nat):List Field->Nat->Option (List CK)| [],_=>some []|f::fs,off=>if f.name= "_" \/f.offset≠off then none else match rec f.type,size f.type with|some ks,some n=>if ks.length=n then(WL rec size fs (off+n)).map (ks++ ·)else none|_,_=>none
def WM(P:Program):Nat->TypeId->Option (List CK)|0,_=>none|d+1,t=>match P.underlying t with|some .bool=>some [.bool]|some (.int k)=>some [.int k]|some .string=>some [.str]|some (.struct fs)=>if P.stoodInHeld t=true then none else WL (WM P d) (cW P) fs.toList 0|_=>none
def ta(P:Program)(t:TypeId):Option (List CK):=if P.eqGuardType P.depth t=true\/dM P t≠some true then none else WM P 10 t
def nC:A->A| .dX=> .aw []| .emp _=> .aw []| .clip es=> .aw es|x=>x
def A.norm:A->A| .agg cs=> .agg (cs.map nC)|x=>nC x
def mr(H:List Obj)(n off k len:Nat):Option A:=match fe H n with|some (.row k' es)=>if k'=k/\off+len<=es.length/\k≠0 then some (.aw ((es.drop off).take len))else none|_=>none
def oN(H:List Obj):A->Option A| .row n off k len _=>mr H n off k len| .ref _ _=>none| .mz _ _ _=>none| .agg _=>none| .eV _=>none| .fn _ _=>none| .dX=>some (.aw [])| .emp _=>some (.aw [])| .clip es=>some (.aw es)|x=>some x
def j4(H:List Obj):List A->Option (List A)| []=>some []|x::xs=>(oN H x).bind fun y=>(j4 H xs).map (y:: ·)
def qG(H:List Obj):A->Option A
 | .ref n off=>
  match fe H n with
  |some (.box cs)=>(j4 H (cs.drop off)).map .jD
  |_=>none
 | .mz n i off=>
  match fe H n with
  |some (.row _ es)=>(es[i]?).map fun e=> .jD (e.cells.drop off)
  |_=>none
 | .agg cs=>(j4 H cs).map .agg
 |x=>oN H x
def np(H:List Obj):List A->Option (List A)| []=>some []|x::xs=>(qG H x).bind fun y=>(np H xs).map (y:: ·)
def view(H:List Obj):A->Option A| .fn f cs=>(np H cs).map (.fn f ·)|x=>qG H x
def mT(H:List Obj):List A->Option (List A)| []=>some []|x::xs=>(view H x).bind fun y=>(mT H xs).map (y:: ·)
def iH(i:Int)(es:List A):Option A:=if 0<=i then es[i.toNat]? else none
inductive Bd where|none|some (n:Int)|bad
def bdOf:A->Bd| .int _ n=> .some n|_=> .bad
def St.bd(σ:St):Option Operand->Bd|Option.none=> .none|Option.some x=>bdOf (σ.ev x)
def Bd.get(d:Int):Bd->Int| .some n=>n|_=>d
def Bd.ok:Bd->Bool| .bad=>false|_=>true
def Bd.ok3:Bd->Bool| .some _=>true|_=>false
def py(k:Nat)(es:List A):Bool:=es.isEmpty||eR es==k
def Ku(s:List UInt8)(lo hi mx:Bd):Option A:=match mx with| .none=>if 0<=lo.get 0/\lo.get 0<=hi.get s.length/\hi.get s.length<=s.length then some (.str ((s.take (hi.get s.length).toNat).drop (lo.get 0).toNat))else none|_=>none
def yf(k:Nat)(es:List A)(lo hi mx:Bd):Option A:=match mx with| .none=>if py k es=true/\0<=lo.get 0/\lo.get 0<=hi.get es.length/\hi.get es.length<=es.length then some (.aw ((es.take (hi.get es.length).toNat).drop (lo.get 0).toNat))else none| .some m=>if py k es=true/\0<=lo.get 0/\lo.get 0<=hi.get es.length/\hi.get es.length<=es.length/\m=hi.get es.length/\hi.ok3=true then some (.clip ((es.take (hi.get es.length).toNat).drop (lo.get 0).toNat))else none| .bad=>none
def Kv(n off k len:Nat)(lo hi mx:Bd):Option A:=match mx with| .none=>if 0<=lo.get 0/\lo.get 0<=hi.get len/\hi.get len<=len then some (.row n (off+(lo.get 0).toNat) k (hi.get len-lo.get 0).toNat false)else none| .some m=>if 0<=lo.get 0/\lo.get 0<=hi.get len/\hi.get len<=len/\m=hi.get len/\hi.ok3=true then some (.row n (off+(lo.get 0).toNat) k (hi.get len-lo.get 0).toNat true)else none| .bad=>none
def yg(st:Bool)(sz:Option Nat)(x:A)(lo hi mx:Bd):Option A:=
 match x with
 | .str s=>if st=true then Ku s lo hi mx else none
 | .aw es=>match sz with|some k=>yf k es lo hi mx|none=>none
 | .clip es=>match sz with|some k=>yf k es lo hi mx|none=>none
 | .row n off k' len _=>match sz with|some k=>if k=k' then Kv n off k len lo hi mx else none|none=>none
 |_=>none
def yh(P:Program)(t:TypeId):Option Nat:=match cM P t with|some e=>cW P e|none=>none
def Nv(c a b:A):Option A:=match c with| .bool t=>some (if t then a else b)|_=>none
def zk(size:Option Nat)(off:Nat)(x:A)(zs:List A):Option (List A):=match size with|some n=>if x.cells.length=n/\off+n<=zs.length/\x.val=true then some (zs.take off++x.cells++zs.drop (off+n))else none|none=>none
def pz(P:Program)(t:TypeId)(σ:St):List (Nat×Operand)->List A->Option (List A)| [],zs=>some zs|(i,x)::ps,zs=>match fieldInfo P t i with|some (o,ft)=>(zk (cW P ft) o (σ.ev x) zs).bind (pz P t σ ps)|none=>none
def pC(P:Program)(e:TypeId)(σ:St):List (Nat×Operand)->List A->Option (List A)| [],zs=>some zs|(i,x)::ps,zs=>match cW P e with|some n=>(zk (some n) (i*n) (σ.ev x) zs).bind (pC P e σ ps)|none=>none
def nD(k:Nat)(σ:St):List (Nat×Operand)->List A->Option (List A)| [],zs=>some zs|(i,x)::ps,zs=>if(σ.ev x).cells.length=k/\i<zs.length/\(σ.ev x).val=true/\(σ.ev x).pure=true then nD k σ ps (fE zs i (σ.ev x).norm)else none
def lP(P:Program)(t:TypeId):Bool:=match P.underlying t with|some (.struct fs)=>fs.toList.all fun f=>(cW P f.type).isSome|_=>false
def uP(P:Program)(t:TypeId)(σ:St)(parts:List (Nat×Operand)):Option A:=
 match iT P t with
 |some (.agg zs)=>
  match jl P t with
  |some (_,e)=>if(cW P e).isSome=true then(pC P e σ parts zs).map .agg else none
  |none=>if lP P t=true then(pz P t σ parts zs).map .agg else none
 |_=>none
def ly(P:Program)(t:TypeId)(len:Nat)(σ:St)(parts:List (Nat×Operand)):Option A:=
 match cM P t with
 |some e=>
  match cW P e,iT P e with
  |some k,some z=>if len*k<=16777216/\k≠0/\z.pure=true/\z.val=true/\z.cells.length=k then(nD k σ parts (List.replicate len z.norm)).map .clip else none
  |_,_=>none
 |none=>none
def xx(P:Program)(t:TypeId)(H:List Obj)(a:A):Option A:=
 match a with
 | .jD cs=>oL P t cs
 | .ref n off=>match fe H n with|some (.box cs)=>oL P t (cs.drop off)|_=>none
 | .mz n i off=>match fe H n with|some (.row _ es)=>(es[i]?).bind fun e=>oL P t (e.cells.drop off)|_=>none
 |_=>none
def A_(x:A):Option A:=match x with| .jD cs=>some (.jD cs)| .ref n off=>some (.ref n off)| .mz n i off=>some (.mz n i off)| .fn f cs=>some (.fn f cs)|_=>none
def zl(P:Program)(src dst:TypeId):Bool:=(cM P src).any (fun e=>ur P e=some .u8)&&lx P dst
def qH(b:Bool)(x:Option A):Option A:=if b=true then match x with|some (.aw es)=>(lO es).map .str|_=>none else none
def sm(P:Program)(src dst:TypeId)(H:List Obj)(x:A):Option A:=
 match x with
 | .int _ n=>match ur P dst with|some k=>if(dM P src).isSome=true then some (.int k (k.wrap n))else none|none=>none
 | .str s=>if lx P src&&lx P dst then some (.str s)else none
 | .aw es=>qH (zl P src dst) (view H (.aw es))
 | .clip es=>qH (zl P src dst) (view H (.clip es))
 | .dX=>qH (zl P src dst) (view H .dX)
 | .row n off k len c=>qH (zl P src dst) (view H (.row n off k len c))
 |_=>none
def oT(o:Nat)(x:A):Option A:=match x with| .jD cs=>some (.jD (cs.drop o))| .ref n off=>some (.ref n (off+o))| .mz n i off=>some (.mz n i (off+o))|_=>none
def oU(i:Option (Nat×TypeId))(x:A):Option A:=match i with|some (o,_)=>oT o x|none=>none
def Q7(P:Program)(i:Option (Nat×TypeId))(x:A):Option A:=match i,x with|some (o,t),.agg cs=>oL P t (cs.drop o)|_,_=>none
def WN(k:Nat)(i:Int)(es:List A):Option A:=(iH i es).bind fun y=>if k=y.cells.length then some (.jD y.cells)else none
def qI(k:Nat)(i:Int)(x:A):Option A:=match x with| .aw es=>WN k i es| .clip es=>WN k i es| .row n off k' len _=>if k=k'/\0<=i/\i<len then some (.mz n (off+i.toNat) 0)else none|_=>none
def tb(n k:Nat)(i:Int)(x:A):Option A:=match x with| .ref m off=>if 0<=i/\i<n then some (.ref m (off+i.toNat*k))else none| .jD cs=>if 0<=i/\i<n then some (.jD (cs.drop (i.toNat*k)))else none|_=>none
def qJ(P:Program)(t:TypeId)(x ix:A):Option A:=
 match ix with
 | .int _ i=>
  match cM P t with
  |some e=>match cW P e with|some k=>qI k i x|none=>none
  |none=>
   match jl P t with
   |some (n,e)=>match cW P e with|some k=>tb n k i x|none=>none
   |none=>none
 |_=>none
def A'(P:Program)(t:TypeId)(x ix:A):Option A:=
 match ix,x with
 | .int _ i,.str s=>if lx P t=true/\0<=i then(s[i.toNat]?).map mX else none
 | .int _ i,.agg cs=>
  match jl P t with
  |some (n,e)=>match cW P e with|some k=>if 0<=i/\i<n then oL P e (cs.drop (i.toNat*k))else none|none=>none
  |none=>none
 |_,_=>none
def uQ(x:A)(ix:Nat):Option A:=match x with| .eV cs=>cs[ix]?|_=>none
def Q8(P:Program)(t:TypeId)(x:A):Option A:=match x with| .str s=>if lx P t=true then some (.int .i64 s.length)else none| .aw es=>if(cM P t).isSome=true then some (.int .i64 es.length)else none| .clip es=>if(cM P t).isSome=true then some (.int .i64 es.length)else none| .row _ _ _ len _=>if(cM P t).isSome=true then some (.int .i64 len)else none| .dX=>if(cM P t).isSome=true then some (.int .i64 0)else none|_=>match jl P t with|some (n,_)=>some (.int .i64 n)|none=>none
def minA:List A->Option A| [.int k a,.int _ b]=>some (.int k (if b<a then b else a))|_=>none
def maxA:List A->Option A| [.int k a,.int _ b]=>some (.int k (if b>a then b else a))|_=>none
def sn(fn:Fn)(first captured:List A):Option A:=match fn,first with| .func f,[]=>some (.fn f captured)|_,_=>none
def St.rn(σ:St):List Operand->List A| []=>[]|x::xs=>σ.ev x::σ.rn xs
def uu(P:Program)(σ:St):Op->Option A| .move x=>some (σ.ev x)| .assign x=>some (σ.ev x)| .pick c a b=>Nv (σ.ev c) (σ.ev a) (σ.ev b)| .build t parts=>uP P t σ parts.toList| .buildSlice t len parts=>ly P t len σ parts.toList| .load t a=>xx P t σ.H (σ.ev a)| .nilCheck x=>A_ (σ.ev x)| .binOp op t x y _=>mg (ta P t) (lC P t) (nB P t) (cM P t).isSome op (σ.ev x) (σ.ev y)| .unOp op _ x=>unA op (σ.ev x)| .convert src dst x=>sm P src dst σ.H (σ.ev x)| .makeFunc fn first captured=>sn fn (σ.rn first.toList) (σ.rn captured.toList)| .slice t x lo hi mx=>if(jl P t).isNone=true/\(σ.bd lo).ok=true/\(σ.bd hi).ok=true then yg (lx P t) (yh P t) (σ.ev x) (σ.bd lo) (σ.bd hi) (σ.bd mx)else none| .fieldAddr s x f=>oU (fieldInfo P s f) (σ.ev x)| .field s x f=>Q7 P (fieldInfo P s f) (σ.ev x)| .indexAddr t x ix=>qJ P t (σ.ev x) (σ.ev ix)| .index t x ix=>A' P t (σ.ev x) (σ.ev ix)| .extract t ix=>uQ (σ.ev t) ix| .call ⟨.builtin .len,⟨[x]⟩,⟨[t]⟩⟩=>Q8 P t (σ.ev x)| .call ⟨.builtin .min,⟨xs⟩,_⟩=>minA (σ.rn xs)| .call ⟨.builtin .max,⟨xs⟩,_⟩=>maxA (σ.rn xs)|_=>none
def Dr(P:Program)(σ:St)(e tx:TypeId)(k:Nat)(x:A):Option (List A):=match x with| .aw es=>if py k es=true/\(cM P tx).isSome=true then some es else none| .clip es=>if py k es=true/\(cM P tx).isSome=true then some es else none| .dX=>if(cM P tx).isSome=true then some []else none| .emp _=>if(cM P tx).isSome=true then some []else none| .row n off k' len _=>if k'=k/\(cM P tx).isSome=true then(match mr σ.H n off k len with|some (.aw es)=>some es|_=>none)else none| .str s=>if ur P e=some .u8/\k=1/\lx P tx=true then some (iU s)else none|_=>none
def jL(n:Nat)(x:A):A:=if x.mem n then .any else x
def tc(n:Nat):Obj->Obj| .box cs=> .box (cs.map (jL n))|o=>o
def St.lQ(σ:St)(n:Nat):St:={s:=σ.s.map (fun p=>(p.1,jL n p.2)),H:=σ.H.map (tc n)}
def td(fx:Nat->Bool)(σ:St)(name:Nat)(d:Option Tmp)(k bytes:Nat)(base:A)(src:List A):Option St:=
 match base with
 | .dX=>if src.length*bytes<=140737488355328 then some ((σ.ib name (.row k src)).put d (.row name 0 k src.length false))else none
 | .clip es=>if py k es=true/\(es=[]\/src≠ [])/\(es.length+src.length)*bytes<=140737488355328 then
  some ((σ.ib name (.row k (es++src))).put d (.row name 0 k (es.length+src.length) false))else none
 | .row n 0 k' len c=>
  match fe σ.H n with
  |some (.row HV es)=>
   if k'=k/\HV=k/\len<=es.length/\(len+src.length)*bytes<=140737488355328 then
    if c then(if src=[]then none else some ((σ.ib name (.row k (es.take len++src))).put d (.row name 0 k (len+src.length) false)))
    else(if fx n=true then none else some (((σ.lQ n).ib n (.row k (es.take len++src))).put d (.row n 0 k (len+src.length) false)))
   else none
  |_=>none
 |_=>none
structure aN where
 f:FuncId->List A->Option A
 hp:FuncId->List A->List Obj->Option (A×List Obj×List Nat)
 pV:FuncId->Bool
 uO:FuncId->Bool
 WO:Bool
 fix:Nat->Bool
 nf:Nat
 fB:Nat->List (List Nat)
def EF(Γ:aN):Operand->Bool| .func g=>Γ.pV g| .tmp _=>Γ.WO|_=>false
def zm(P:Program)(src dst:TypeId):Bool:=lx P src&&(cM P dst).any (fun e=>ur P e=some .u8)
def eO(P:Program):Op->Bool| .alloc _=>true| .box _ _=>true| .convert src dst _=>zm P src dst| .call ⟨.builtin .append,_,_⟩=>true|_=>false
def jT(cs:List A)(off:Nat)(ys:List A):List A:=cs.take off++ys++cs.drop (off+ys.length)
def Ba(σ:St)(name:Nat)(d:Option Tmp)(x:A):Option St:=if x.val=true then some ((σ.ib name (.box x.cells)).put d (.ref name 0))else none
def te(σ:St)(name:Nat)(d:Option Tmp)(z:Option A):Option St:=match z with|some z=>Ba σ name d z|none=>none
def qK(e:A)(off:Nat)(v:A):A:=match e with| .agg cs=> .agg (jT cs off v.norm.cells)|_=>v.norm
def tf(σ:St)(d:Option Tmp)(size:Option Nat)(a v:A):Option St:=
 match a with
 | .ref n off=>
  match fe σ.H n with
  |some (.box cs)=>if size=some v.cells.length/\off+v.cells.length<=cs.length/\v.val=true then some ((σ.ib n (.box (jT cs off v.cells))).put d (.eV []))else none
  |_=>none
 | .mz n i off=>
  match fe σ.H n with
  |some (.row k es)=>(es[i]?).bind fun e=>if size=some v.cells.length/\off+v.cells.length<=e.cells.length/\v.cells.length≠0/\v.val=true/\v.pure=true then some ((σ.ib n (.row k (fE es i (qK e off v)))).put d (.eV []))else none
  |_=>none
 |_=>none
def CB(P:Program)(σ:St)(name:Nat)(d:Option Tmp)(src dst:TypeId)(x:A):Option St:=if zm P src dst=true then match x with| .str s=>some ((σ.ib name (.row 1 (iU s))).put d (.row name 0 1 s.length false))|_=>none else(sm P src dst σ.H x).map (σ.put d ·)
def nq(P:Program)(e:TypeId)(k:Nat):Bool:=match iT P e with|some z=>z.val&&z.cells.length==k|none=>false
def wB(P:Program)(fx:Nat->Bool)(σ:St)(name:Nat)(d:Option Tmp)(t tx:TypeId)(b x:A):Option St:=
 match cM P t with
 |some e=>
  match cW P e with
  |some k=>if k=0\/ke P e=0\/nq P e k=false then none else(Dr P σ e tx k x).bind fun src=>td fx σ name d k (ke P e) b src
  |none=>none
 |none=>none
def Nw(Γ:aN)(σ:St)(d:Option Tmp)(g:FuncId)(aq:List A):Option St:= (mT σ.H aq).bind fun bs=>(Γ.f g bs).bind fun r=>if(A.pure.cY aq||r.flat)=true then some (σ.put d r)else none
def EG(Γ:aN)(σ:St)(d:Option Tmp)(f:A)(aq:List A):Option St:=match f with| .fn g oI=>Nw Γ σ d g (aq++oI)|_=>none
def Bb(P:Program)(σ:St)(d:Option Tmp)(t:TypeId)(x:A):Option St:=
 match x with
 | .row n off k len _=>
  match cM P t with
  |some e=>
   match fe σ.H n with
   |some (.row k' es)=>
    match iT P e with
    |some z=>if k'=k/\z.cells.length=k/\k≠0/\z.val=true/\z.pure=true/\off+len<=es.length then some ((σ.ib n (.row k (es.take off++List.replicate len z.norm++es.drop (off+len)))).put d (.eV []))else none
    |none=>none
   |_=>none
  |none=>none
 |_=>none
def A.names:A->List Nat| .ref n _=>[n]| .mz n _ _=>[n]| .row n _ _ _ _=>[n]| .agg cs=>mh cs| .fn _ cs=>mh cs| .eV cs=>mh cs|_=>[] where mh:List A->List Nat| []=>[]|c::cs=>c.names++mh cs
def Obj.names:Obj->List Nat| .box cs=>A.names.mh cs| .row _ _=>[]
def yi:Option Obj->List Nat|some o=>o.names|none=>[]
def reach(H:List Obj):Nat->List Nat->List Nat->List Nat|0,_,acc=>acc|_+1,[],acc=>acc|fuel+1,n::todo,acc=>if acc.contains n=true then reach H fuel todo acc else reach H fuel (yi (fe H n)++todo) (acc++[n])
def idx(ρ:List Nat)(n:Nat):Option Nat:=match ρ with| []=>none|m::ms=>if m=n then some 0 else(idx ms n).map (· +1)
def A.nU(ρ:List Nat):A->Option A| .ref n o=>(idx ρ n).map (.ref · o)| .mz n i o=>(idx ρ n).map (.mz · i o)| .row n o k l c=>(idx ρ n).map (.row · o k l c)| .agg cs=>(uG ρ cs).map .agg| .fn f cs=>(uG ρ cs).map (.fn f ·)| .eV cs=>(uG ρ cs).map .eV|x=>some x where uG (ρ:List Nat):List A->Option (List A)| []=>some []|c::cs=>(c.nU ρ).bind fun x=>(uG ρ cs).map (x:: ·)
def Obj.nU(ρ:List Nat):Obj->Option Obj| .box cs=>(A.nU.uG ρ cs).map .box| .row k es=>some (.row k es)
def renO(ρ:List Nat):Option Obj->Option Obj|some o=>o.nU ρ|none=>none
def tg(ρ:List Nat)(H:List Obj):List Nat->Option (List Obj)| []=>some []|n::ns=>(renO ρ (fe H n)).bind fun o=>(tg ρ H ns).map (o:: ·)
def lD:List Nat->Nat->Nat->Nat| [],base,i=>base+i|n::_,_,0=>n|_::ns,base,i+1=>lD ns base i
def A.back(ρ:List Nat)(m:Nat):A->A| .ref n o=> .ref (lD ρ m n) o| .mz n i o=> .mz (lD ρ m n) i o| .row n o k l c=> .row (lD ρ m n) o k l c| .agg cs=> .agg (oO ρ m cs)| .fn f cs=> .fn f (oO ρ m cs)| .eV cs=> .eV (oO ρ m cs)|x=>x where oO (ρ:List Nat) (m:Nat):List A->List A| []=>[]|c::cs=>c.back ρ m::oO ρ m cs
def Obj.back(ρ:List Nat)(m:Nat):Obj->Obj| .box cs=> .box (A.back.oO ρ m cs)| .row k es=> .row k es
def iB(ρ:List Nat)(m:Nat)(σ:St):List Nat->St| []=>σ|i::is=>iB ρ m (σ.lQ (lD ρ m i)) is
def qL(ρ:List Nat)(m:Nat):List Nat->List Obj->List Obj->List Obj| [],os,H=>H++os.map (Obj.back ρ m)|n::ns,o::os,H=>qL ρ m ns os (pQ H n (o.back ρ m))|_::_,[],H=>H
def EH(σ:St)(d:Option Tmp)(ρ:List Nat):A×List Obj×List Nat->St|(r,H',S)=>St.put ⟨(iB ρ σ.H.length σ S).s,qL ρ σ.H.length ρ H' (iB ρ σ.H.length σ S).H⟩ d (r.back ρ σ.H.length)
def th(Γ:aN)(ρ:List Nat)(m:Nat):List Nat->Bool| []=>true|i::is=> !Γ.fix (lD ρ m i)&&th Γ ρ m is
def A.meets(ρ:List Nat)(x:A):Bool:=ρ.any fun n=>x.mem n
def rq(ρ:List Nat)(fc:List Obj)(x:A):A:=if x.meets ρ=true then(match x.nU ρ with|some x'=>(view fc x').getD .any|none=> .any)else x
def Kw(ρ:List Nat)(fc:List Obj):Obj->Obj| .box cs=> .box (cs.map (rq ρ fc))| .row k es=> .row k es
def so(ρ:List Nat):List Nat->List Obj->List Obj| [],H=>H|n::ns,H=>so ρ ns (pQ H n (.row 0 []))
def Kx(σ:St)(d:Option Tmp)(ρ:List Nat)(fc:List Obj)(r:A):St:=St.put ⟨σ.s.map (fun p=>(p.1,rq ρ fc p.2)),so ρ ρ (σ.H.map (Kw ρ fc))⟩ d r
def yj(Γ:aN)(σ:St)(d:Option Tmp)(g:FuncId)(aq:List A)(ρ:List Nat):Option St:= (A.nU.uG ρ aq).bind fun as'=>(tg ρ σ.H ρ).bind fun fc=>if Γ.uO g=true then(if ρ.all (fun n=> !Γ.fix n)=true then(mT fc as').bind fun bs=>(Γ.f g bs).map (Kx σ d ρ fc)else none) else(Γ.hp g as' fc).bind fun x=>if th Γ ρ σ.H.length x.2.2=true then some (EH σ d ρ x)else none
def Nx(Γ:aN)(σ:St)(d:Option Tmp)(g:FuncId)(aq:List A):Option St:=yj Γ σ d g aq (reach σ.H 64 (A.names.mh aq) [])
def uR(Γ:aN)(σ:St)(d:Option Tmp)(f:A)(aq:List A):Option St:=match f with| .fn g oI=>Nx Γ σ d g (aq++oI)|_=>none
def execOp(P:Program)(Γ:aN)(name:Nat)(d:Option Tmp)(op:Op)(σ:St):Option St:=match op with| .alloc t=>te σ name d (iT P t)| .box _ x=>Ba σ name d (σ.ev x)| .store t a x=>tf σ d (cW P t) (σ.ev a) (σ.ev x)| .convert src dst x=>CB P σ name d src dst (σ.ev x)| .call ⟨.builtin .append,⟨[b,x]⟩,⟨[t,tx]⟩⟩=>wB P Γ.fix σ name d t tx (σ.ev b) (σ.ev x)| .call ⟨.builtin .clear,⟨[x]⟩,⟨[t]⟩⟩=>Bb P σ d t (σ.ev x)| .call ⟨.value f,⟨xs⟩,_⟩=>if EF Γ f=true then uR Γ σ d (σ.ev f) (σ.rn xs)else EG Γ σ d (σ.ev f) (σ.rn xs)|op=>(uu P σ op).map (σ.put d ·)
def EI:List (Option Tmp)->Nat->Option Tmp| [],_=>none|x::_,0=>x|_::xs,n+1=>EI xs n
def nV(ds:List (Option Tmp))(σ:St)(g:Option (Nat×Bool)):Option Bool:=match g with|none=>some true|some (j,want)=>match EI ds j with|none=>some false|some t=>match look σ.s t with| .bool b=>some (b==want)| .any=>none|_=>some false
def ew(P:Program)(Γ:aN)(ds:List (Option Tmp))(name:Nat)(o:Oper)(σ:St):Option St:=match nV ds σ o.guard with|none=>none|some b=>if b then execOp P Γ name o.dst o.op σ else some (σ.put o.dst (.eV []))
def grow(P:Program)(op:Op)(σ:St):St:=if eO P op=true then{σ with H:=σ.H++[.row 0 []]}else σ
def ic(P:Program)(op:Op)(n:Nat):Nat:=if eO P op=true then n+1 else n
def pre(P:Program):List Oper->St->St| [],σ=>σ|o::os,σ=>pre P os (grow P o.op σ)
def nW(P:Program)(Γ:aN)(ds:List (Option Tmp)):List Oper->Nat->St->Option St| [],_,σ=>some σ|o::os,n,σ=>(ew P Γ ds n o σ).bind (nW P Γ ds os (ic P o.op n))
def dstsOf:List Oper->List (Option Tmp)| []=>[]|o::os=>o.dst::dstsOf os
inductive Ex where|normal|exit (id:Nat)|ret
def A.under(m:Nat):A->Bool| .ref n _=>n<m| .mz n _ _=>n<m| .row n _ _ _ _=>n<m| .agg cs=>mA m cs| .fn _ cs=>mA m cs| .eV cs=>mA m cs|_=>true where mA (m:Nat):List A->Bool| []=>true|c::cs=>c.under m&&mA m cs
def leS(m:Nat)(s:List (Nat×A)):List (Nat×A)->Prop| []=>True|(d,y)::r=>(look s d=y/\y.under m=true)/\leS m s r
def Nb(m:Nat):List A->List A->Prop| [],[]=>True|x::xs,y::ys=>(y= .any\/(x=y/\y.under m=true))/\Nb m xs ys|_,_=>False
def UB(m:Nat):Obj->Obj->Prop| .box xs,.box ys=>Nb m xs ys| .row k xs,.row k' ys=>k=k'/\xs=ys|_,_=>False
def xy(m:Nat):List Obj->List Obj->Prop| [],[]=>True|_::_,[]=>True|x::xs,y::ys=>UB m x y/\xy m xs ys| [],_::_=>False
def St.le(σ τ:St):Prop:=leS τ.H.length σ.s τ.s/\xy τ.H.length σ.H τ.H
def Jb(ρ:List Nat)(fc:List Obj)(σ:St):St:=⟨σ.s.map (fun p=>(p.1,rq ρ fc p.2)),so ρ ρ (σ.H.map (Kw ρ fc))⟩
def yk(ρ:List Nat)(σ:St):St:=⟨σ.s.map (fun p=>(p.1,p.2.back ρ σ.H.length)),qL ρ σ.H.length ρ σ.H σ.H⟩
inductive St.to(nf:Nat):St->St->Prop where|le {σ τ:St}:nf<=τ.H.length->σ.le τ->St.to nf σ τ|nil {σ τ:St} (d k:Nat):look σ.s d= .dX->St.to nf ⟨(d,.row σ.H.length 0 k 0 false)::σ.s,σ.H++[.row k []]⟩ τ->St.to nf σ τ|nilb {σ τ:St} (m i k:Nat) (cs:List A):fe σ.H m=some (.box cs)->cs[i]? =some .dX->St.to nf ⟨σ.s,pQ σ.H m (.box (fE cs i (.row σ.H.length 0 k 0 false)))++[.row k []]⟩ τ->St.to nf σ τ|wk {σ τ:St} (d:Nat) (es:List A):look σ.s d= .clip es->St.to nf ⟨(d,.aw es)::σ.s,σ.H⟩ τ->St.to nf σ τ|wkb {σ τ:St} (m:Nat) (cs:List A):fe σ.H m=some (.box cs)->St.to nf ⟨σ.s,pQ σ.H m (.box (cs.map nC))⟩ τ->St.to nf σ τ|perm {σ τ:St} (ρ:List Nat):σ.H.length=ρ.length->ρ.Nodup->(∀n∈ρ,n<ρ.length)->(∀n,n<ρ.length->n∈ρ)->(∀i,i<nf->lD ρ ρ.length i=i)->St.to nf (yk ρ σ) τ->St.to nf σ τ|uO {σ τ:St} (ρ:List Nat) (fc:List Obj):ρ.Nodup->tg ρ σ.H ρ=some fc->(∀n∈ρ,nf<=n)->St.to nf (Jb ρ fc σ) τ->St.to nf σ τ
def K? {α:Type}(o:Option α)(q:α->Prop):Prop:= ∃x,o=some x/\q x
def pR(P:Program):Nat->List Oper->List (Nat×Oper)|_,[]=>[]|n,o::os=>(n,o)::pR P (ic P o.op n) os
def kA:List (Nat×Oper)->Nat->Option (Nat×Oper)| [],_=>none|x::_,0=>some x|_::xs,i+1=>kA xs i
def uH(P:Program)(Γ:aN)(ds:List (Option Tmp))(B:List (Nat×Oper)):List Nat->St->Option St| [],σ=>some σ|i::is,σ=>(kA B i).bind fun x=>(ew P Γ ds x.1 x.2 σ).bind (uH P Γ ds B is)
def xz(P:Program)(Γ:aN)(ds:List (Option Tmp))(B:List (Nat×Oper))(σ:St)(q:St->Prop):List (List Nat)->Prop| []=>True|o::os=>K? (uH P Γ ds B o σ) q/\xz P Γ ds B σ q os
def Q9(P:Program)(Γ:aN)(os:List (List Nat))(ops:Array Oper)(Q:Ex->St->Prop)(σ:St):Prop:=match os with| []=>K? (nW P Γ (dstsOf ops.toList) ops.toList σ.H.length (pre P ops.toList σ)) (Q .normal)|o::os=>xz P Γ (dstsOf ops.toList) (pR P σ.H.length ops.toList) (pre P ops.toList σ) (Q .normal) (o::os)
def Ny:List (List Nat)->Option (List Nat)|(t::ρ)::_=>if t=999999 then some ρ else none|_=>none
def EJ:List (List Nat)->List (List Nat)|(t::ρ)::os=>if t=999999 then os else(t::ρ)::os|os=>os
def uS(m:Nat)(ρ:List Nat):List Nat:=ρ.filter fun n=>decide (n<m)
def HW(P:Program)(Γ:aN)(os:List (List Nat))(ops:Array Oper)(Q:Ex->St->Prop)(σ:St):Prop:=match Ny os with|none=>Q9 P Γ (EJ os) ops Q σ|some ρ=>K? (tg (uS σ.H.length ρ) σ.H (uS σ.H.length ρ)) fun fc=>Q9 P Γ (EJ os) ops Q (Jb (uS σ.H.length ρ) fc σ)
def Q_(W:(Ex->St->Prop)->St->Prop)(Q:Ex->St->Prop)(e:Ex)(τ:St):Prop:=match e with| .normal=>W Q τ| .exit i=>Q (.exit i) τ| .ret=>Q .ret τ
def ti(id:Nat)(Q:Ex->St->Prop)(e:Ex)(τ:St):Prop:=match e with| .normal=>Q .normal τ| .exit i=>if i=id then Q .normal τ else Q (.exit i) τ| .ret=>Q .ret τ
def xA(N:St->Prop)(Q:Ex->St->Prop)(e:Ex)(τ:St):Prop:=match e with| .normal=>N τ| .exit i=>Q (.exit i) τ| .ret=>Q .ret τ
def pW(c:A)(p q:Prop):Prop:= ∃t,c= .bool t/\(t=true->p)/\(t=false->q)
def lz(P:Program)(Γ:aN):Code->(Ex->St->Prop)->St->Prop| .skip,Q,σ=>Q .normal σ| .label _,Q,σ=>Q .normal σ| .seq a b,Q,σ=>lz P Γ a (Q_ (lz P Γ b) Q) σ| .cond c a b,Q,σ=>pW (σ.ev c) (lz P Γ a Q σ) (lz P Γ b Q σ)| .block id c,Q,σ=>lz P Γ c (ti id Q) σ| .loop c,Q,σ=> ∃(ι:Type) (inv:ι->St) (μ:ι->Nat),(∃i,St.to Γ.nf σ (inv i))/\∀i,lz P Γ c (xA (fun τ=> ∃j,St.to Γ.nf τ (inv j)/\μ j<μ i) Q) (inv i)| .exit id,Q,σ=>Q (.exit id) σ| .ret,Q,σ=>Q .ret σ| .region id ops _,Q,σ=>HW P Γ (Γ.fB id) ops Q σ|_,_,_=>False
def resC(P:Program)(σ:St)(t:TypeId)(a:A):Option A:=
 match a with
 | .ref n off=>match fe σ.H n with|some (.box cs)=>(oL P t (cs.drop off)).bind (view σ.H)|_=>none
 |_=>none
def Nz(P:Program)(σ:St):ResultVar->Option A| .tmp t=>view σ.H (look σ.s t)| .cell a t=>resC P σ t (look σ.s a)
def Bc(P:Program)(σ:St):List ResultVar->Option (List A)| []=>some []|r::rs=>(Nz P σ r).bind fun x=>(Bc P σ rs).map (x:: ·)
def nX:List A->A| [x]=>x|xs=> .eV xs
def UC(P:Program)(fn:Func)(rX:A->Prop)(e:Ex)(σ:St):Prop:=match e with| .exit _=>False|_=>K? (Bc P σ fn.results.toList) (fun rs=>rX (nX rs))
def rawC(P:Program)(σ:St)(t:TypeId)(a:A):Option A:=
 match a with
 | .ref n off=>match fe σ.H n with|some (.box cs)=>oL P t (cs.drop off)|_=>none
 |_=>none
def WQ(P:Program)(σ:St):ResultVar->Option A| .tmp t=>some (look σ.s t)| .cell a t=>rawC P σ t (look σ.s a)
def Ds(P:Program)(σ:St):List ResultVar->Option (List A)| []=>some []|r::rs=>(WQ P σ r).bind fun x=>(Ds P σ rs).map (x:: ·)
def bodyH(P:Program)(fn:Func)(r:A)(H':List Obj)(e:Ex)(σ:St):Prop:=match e with| .exit _=>False|_=>K? (Ds P σ fn.results.toList) (fun rs=>nX rs=r/\r.under H'.length=true/\xy H'.length σ.H H')
def number:Nat->List A->List (Nat×A)|_,[]=>[]|n,x::xs=>(n,x)::number (n+1) xs
def Be(args:List A):St:={s:=number 0 args,H:=[]}
def Ky(args:List A)(H:List Obj):St:={s:=number 0 args,H:=H}
end Go.du
namespace Go.du
theorem zn{P:Program}{Γ:aN}: ∀{c:Code} {Q Q':Ex->St->Prop} {σ:St},(∀e τ,Q e τ->Q' e τ)->lz P Γ c Q σ->lz P Γ c Q' σ:=by intro c;induction c with|skip=>(intro Q Q' σ h hw;simp only[lz]at hw⊢;exact h _ _ hw)|label l=>(intro Q Q' σ h hw;simp only[lz]at hw⊢;exact h _ _ hw)|exit id=>(intro Q Q' σ h hw;simp only[lz]at hw⊢;exact h _ _ hw)|ret=>(intro Q Q' σ h hw;simp only[lz]at hw⊢;exact h _ _ hw)|seq x y ihx ihy=>(intro Q Q' σ h hw;simp only[lz]at hw⊢;refine ihx (fun e τ hq=> ?_) hw;cases e with|normal=>(exact ihy h hq)|exit i=>(exact h _ _ hq)|ret=>(exact h _ _ hq))|cond c x y ihx ihy=>(intro Q Q' σ h hw;simp only[lz,pW]at hw⊢;obtain⟨t,ht,h1,h2⟩:=hw;exact⟨t,ht,fun e=>ihx h (h1 e),fun e=>ihy h (h2 e)⟩)|block id x ih=>(intro Q Q' σ h hw;simp only[lz]at hw⊢;refine ih (fun e τ hq=> ?_) hw;cases e with|normal=>(exact h _ _ hq)|exit i=>(simp only[ti]at hq⊢;split at hq;{rename_i e;rw[if_pos e];exact h _ _ hq};{rename_i e;rw[if_neg e];exact h _ _ hq})|ret=>(exact h _ _ hq))|loop x ih=>(intro Q Q' σ h hw;simp only[lz]at hw⊢;obtain⟨ι,inv,μ,h0,hs⟩:=hw;refine⟨ι,inv,μ,h0,fun i=>ih (fun e τ hq=> ?_) (hs i)⟩;cases e with|normal=>(exact hq)|exit i=>(exact h _ _ hq)|ret=>(exact h _ _ hq))|region id ops d=>(intro Q Q' σ h hw;simp only[lz]at hw⊢;(have key: ∀(os:List (List Nat)) (σ:St),Q9 P Γ os ops Q σ->Q9 P Γ os ops Q' σ:=fun os σ=>by cases os with|nil=>(rintro⟨τ,hr,hq⟩;exact⟨τ,hr,h _ _ hq⟩)|cons o os=>((have key: ∀os:List (List Nat),xz P Γ (dstsOf ops.toList) (pR P σ.H.length ops.toList) (pre P ops.toList σ) (Q .normal) os->xz P Γ (dstsOf ops.toList) (pR P σ.H.length ops.toList) (pre P ops.toList σ) (Q' .normal) os:=by intro os;induction os with|nil=>(exact fun h=>h)|cons o os ih=>(rintro⟨⟨τ,hr,hq⟩,h2⟩;exact⟨⟨τ,hr,h _ _ hq⟩,ih h2⟩));exact key _));unfold HW at hw⊢;cases hf:Ny (Γ.fB id)with|none=>(rw[hf]at hw;exact key _ _ hw)|some ρ=>(rw[hf]at hw;obtain⟨fc,h1,h2⟩:=hw;exact⟨fc,h1,key _ _ h2⟩))|_=>(intro Q Q' σ _ hw;simp only[lz]at hw)
section
variable{P:Program}{Γ:aN}{Q:Ex->St->Prop}{σ:St}
@[go_sem] theorem wpA_skip:lz P Γ .skip Q σ=Q .normal σ:=by simp only[lz]
@[go_sem] theorem wpA_seq{a b:Code}:lz P Γ (.seq a b) Q σ=lz P Γ a (Q_ (lz P Γ b) Q) σ:=by simp only[lz]
@[go_sem] theorem wpA_cond{c:Operand}{a b:Code}:lz P Γ (.cond c a b) Q σ=pW (σ.ev c) (lz P Γ a Q σ) (lz P Γ b Q σ):=by simp only[lz]
@[go_sem] theorem wpA_block{id:Nat}{c:Code}:lz P Γ (.block id c) Q σ=lz P Γ c (ti id Q) σ:=by simp only[lz]
@[go_sem] theorem wpA_exit{id:Nat}:lz P Γ (.exit id) Q σ=Q (.exit id) σ:=by simp only[lz]
@[go_sem] theorem wpA_ret:lz P Γ .ret Q σ=Q .ret σ:=by simp only[lz]
@[go_sem] theorem wpA_region{σs:List (Nat×A)}{gj:List Obj}{i:Nat}{ops:Array Oper}{d:Bool}:lz P Γ (.region i ops d) Q (St.mk σs gj)=HW P Γ (Γ.fB i) ops Q (St.mk σs gj):=by simp only[lz]
@[congr] theorem regW_congr{os os':List (List Nat)}{ops:Array Oper}(h:os=os'):HW P Γ os ops Q σ=HW P Γ os' ops Q σ:=by rw[h]
@[go_sem] theorem regW_nil{σs:List (Nat×A)}{gj:List Obj}{ops:Array Oper}:HW P Γ [] ops Q (St.mk σs gj)=K? (nW P Γ (dstsOf ops.toList) ops.toList gj.length (pre P ops.toList (St.mk σs gj))) (Q .normal):=rfl
@[go_sem] theorem regW_cons{σs:List (Nat×A)}{gj:List Obj}{ops:Array Oper}{t:Nat}{o:List Nat}{os:List (List Nat)}(h:t≠999999):HW P Γ ((t::o)::os) ops Q (St.mk σs gj)=xz P Γ (dstsOf ops.toList) (pR P gj.length ops.toList) (pre P ops.toList (St.mk σs gj)) (Q .normal) ((t::o)::os):=by unfold HW Ny EJ;simp only[if_neg h];rfl
@[go_sem] theorem regW_frz'{σs:List (Nat×A)}{gj:List Obj}{ops:Array Oper}{t:Nat}{ρ:List Nat}{os:List (List Nat)}(h:t=999999):HW P Γ ((t::ρ)::os) ops Q (St.mk σs gj)=K? (tg (uS gj.length ρ) gj (uS gj.length ρ)) fun fc=>Q9 P Γ os ops Q (Jb (uS gj.length ρ) fc (St.mk σs gj)):=by subst h;rfl
@[go_sem] theorem keepN_nil{m:Nat}:uS m []=[]:=rfl
@[go_sem] theorem keepN_cons{m n:Nat}{ρ:List Nat}:uS m (n::ρ)=if n<m then n::uS m ρ else uS m ρ:=by unfold uS;rw[List.filter_cons];simp
@[go_sem] theorem regO_nil{σs:List (Nat×A)}{gj:List Obj}{ops:Array Oper}:Q9 P Γ [] ops Q (St.mk σs gj)=K? (nW P Γ (dstsOf ops.toList) ops.toList gj.length (pre P ops.toList (St.mk σs gj))) (Q .normal):=rfl
@[go_sem] theorem ordsW_nil{ds:List (Option Tmp)}{B:List (Nat×Oper)}{q:St->Prop}:xz P Γ ds B σ q []=True:=rfl
@[go_sem] theorem ordsW_cons{ds:List (Option Tmp)}{B:List (Nat×Oper)}{q:St->Prop}{o:List Nat}{os:List (List Nat)}:xz P Γ ds B σ q (o::os)=(K? (uH P Γ ds B o σ) q/\xz P Γ ds B σ q os):=rfl
@[go_sem] theorem annS_nil{n:Nat}:pR P n []=[]:=rfl
@[go_sem] theorem annS_cons{n:Nat}{o:Oper}{os:List Oper}:pR P n (o::os)=(n,o)::pR P (ic P o.op n) os:=rfl
@[go_sem] theorem nthA_zero{x:Nat×Oper}{xs:List (Nat×Oper)}:kA (x::xs) 0=some x:=rfl
@[go_sem] theorem nthA_succ{x:Nat×Oper}{xs:List (Nat×Oper)}{i:Nat}:kA (x::xs) (i+1)=kA xs i:=rfl
@[congr] theorem runO_congr{ds:List (Option Tmp)}{B B':List (Nat×Oper)}{is:List Nat}{jZ:St}(hB:B=B')(h:σ=jZ):uH P Γ ds B is σ=uH P Γ ds B' is jZ:=by rw[hB,h]
@[congr] theorem wpA_congr{c:Code}{jZ:St}(h:σ=jZ):lz P Γ c Q σ=lz P Γ c Q jZ:=by rw[h]
@[go_sem] theorem seqQ_normal{W:(Ex->St->Prop)->St->Prop}:Q_ W Q .normal σ=W Q σ:=rfl
@[go_sem] theorem seqQ_exit{W:(Ex->St->Prop)->St->Prop}{i:Nat}:Q_ W Q (.exit i) σ=Q (.exit i) σ:=rfl
@[go_sem] theorem seqQ_ret{W:(Ex->St->Prop)->St->Prop}:Q_ W Q .ret σ=Q .ret σ:=rfl
@[go_sem] theorem blockQ_normal{id:Nat}:ti id Q .normal σ=Q .normal σ:=rfl
@[go_sem] theorem blockQ_exit{id i:Nat}:ti id Q (.exit i) σ=if i=id then Q .normal σ else Q (.exit i) σ:=rfl
@[go_sem] theorem blockQ_ret{id:Nat}:ti id Q .ret σ=Q .ret σ:=rfl
@[go_sem] theorem loopQ_normal{N:St->Prop}:xA N Q .normal σ=N σ:=rfl
@[go_sem] theorem loopQ_exit{N:St->Prop}{i:Nat}:xA N Q (.exit i) σ=Q (.exit i) σ:=rfl
@[go_sem] theorem loopQ_ret{N:St->Prop}:xA N Q .ret σ=Q .ret σ:=rfl
@[congr] theorem seqQ_congr{W:(Ex->St->Prop)->St->Prop}{e e':Ex}{jZ:St}(h:e=e')(h':σ=jZ):Q_ W Q e σ=Q_ W Q e' jZ:=by rw[h,h']
@[congr] theorem blockQ_congr{id:Nat}{e e':Ex}{jZ:St}(h:e=e')(h':σ=jZ):ti id Q e σ=ti id Q e' jZ:=by rw[h,h']
@[congr] theorem loopQ_congr{N:St->Prop}{e e':Ex}{jZ:St}(h:e=e')(h':σ=jZ):xA N Q e σ=xA N Q e' jZ:=by rw[h,h']
@[go_sem high] theorem condA_true{p q:Prop}:pW (.bool true) p q=p:=by simp[pW]
@[go_sem high] theorem condA_false{p q:Prop}:pW (.bool false) p q=q:=by simp[pW]
@[go_sem] theorem condA_bool{b:Bool}{p q:Prop}:pW (.bool b) p q=((b=true->p)/\(b=false->q)):=by simp[pW]
@[go_sem ↓ high] theorem condA_true'{p q:Prop}:pW (.bool true) p q=p:=by simp[pW]
@[go_sem ↓ high] theorem condA_false'{p q:Prop}:pW (.bool false) p q=q:=by simp[pW]
@[congr] theorem condA_congr{c c':A}{p q:Prop}(h:c=c'):pW c p q=pW c' p q:=by rw[h]
end
section
variable{α β:Type}
@[go_sem high] theorem K_some{x:α}{q:α->Prop}:K? (some x) q=q x:=by simp[K?]
@[go_sem] theorem K_bind{o:Option α}{f:α->Option β}{q:β->Prop}:K? (o.bind f) q=K? o (fun x=>K? (f x) q):=by cases o<;>simp[K?]
@[go_sem] theorem K_map{o:Option α}{f:α->β}{q:β->Prop}:K? (o.map f) q=K? o (fun x=>q (f x)):=by cases o<;>simp[K?]
@[go_sem high] theorem K_ite_none{c:Prop} [Decidable c]{a:Option α}{q:α->Prop}:K? (if c then a else none) q=(c/\K? a q):=by split<;>simp_all[K?]
@[go_sem ↓ high] theorem K_some'{x:α}{q:α->Prop}:K? (some x) q=q x:=by simp[K?]
@[congr] theorem K_congr{o o':Option α}{q:α->Prop}(h:o=o'):K? o q=K? o' q:=by rw[h]
@[go_sem] theorem K_getElem{l:List α}{i:Nat}{q:α->Prop}(h:i<l.length):K? l[i]? q=q l[i]:=by simp[K?,h]
end
section
variable{P:Program}{Γ:aN}{σ:St}{n:Nat}{d:Option Tmp}{ds:List (Option Tmp)}{q:St->Prop}
@[go_sem] theorem K_runSeq_nil{n:Nat}:K? (nW P Γ ds [] n σ) q=q σ:=by simp[nW,K?]
@[go_sem] theorem K_runSeq_cons{o:Oper}{os:List Oper}{n:Nat}:K? (nW P Γ ds (o::os) n σ) q=K? (ew P Γ ds n o σ) (fun τ=>K? (nW P Γ ds os (ic P o.op n) τ) q):=by simp only[nW,K_bind]
@[go_sem] theorem K_runO_nil{B:List (Nat×Oper)}:K? (uH P Γ ds B [] σ) q=q σ:=by simp[uH,K?]
@[go_sem] theorem K_runO_cons{B:List (Nat×Oper)}{i:Nat}{is:List Nat}:K? (uH P Γ ds B (i::is) σ) q=K? (kA B i) (fun x=>K? (ew P Γ ds x.1 x.2 σ) (fun τ=>K? (uH P Γ ds B is τ) q)):=by simp only[uH,K_bind]
@[go_sem] theorem pre_nil:pre P [] σ=σ:=rfl
@[go_sem] theorem pre_cons{o:Oper}{os:List Oper}:pre P (o::os) σ=pre P os (grow P o.op σ):=rfl
@[congr] theorem pre_congr{os:List Oper}{jZ:St}(h:σ=jZ):pre P os σ=pre P os jZ:=by rw[h]
@[congr] theorem runSeq_congr{os:List Oper}{jZ:St}{n n':Nat}(h:σ=jZ)(h':n=n'):nW P Γ ds os n σ=nW P Γ ds os n' jZ:=by rw[h,h']
@[congr] theorem exec1_congr{o:Oper}{n':Nat}{jZ:St}(hn:n=n')(h:σ=jZ):ew P Γ ds n o σ=ew P Γ ds n' o jZ:=by rw[h,hn]
@[go_sem] theorem exec1_plain{op:Op}{t:TypeId}{p:String}{af:Array Edge}:ew P Γ ds n ⟨d,op,t,p,af,none⟩ σ=execOp P Γ n d op σ:=by simp[ew,nV]
def Kz(b:A)(want:Bool)(x y:Option St):Option St:=match b with| .bool b=>if(b==want)=true then x else y| .any=>none|_=>y
@[go_sem] theorem exec1_guard{σs:List (Nat×A)}{gj:List Obj}{op:Op}{t:TypeId}{p:String}{af:Array Edge}{j:Nat}{w:Bool}:ew P Γ ds n ⟨d,op,t,p,af,some (j,w)⟩ (St.mk σs gj)=(match EI ds j with|some t=>Kz (look σs t) w (execOp P Γ n d op (St.mk σs gj)) (some ((St.mk σs gj).put d (.eV [])))|none=>some ((St.mk σs gj).put d (.eV []))):=by simp only[ew,nV];cases EI ds j with|none=>(simp)|some t=>(simp only[];cases look σs t<;>simp[Kz])
@[go_sem] theorem guardA_bool{b w:Bool}{x y:Option St}:Kz (.bool b) w x y=if(b==w)=true then x else y:=rfl
@[go_sem] theorem guardA_undef{w:Bool}{x y:Option St}:Kz (.eV []) w x y=y:=rfl
@[go_sem] theorem nthD_zero{x:Option Tmp}{xs:List (Option Tmp)}:EI (x::xs) 0=x:=rfl
@[go_sem] theorem nthD_succ{x:Option Tmp}{xs:List (Option Tmp)}{m:Nat}:EI (x::xs) (m+1)=EI xs m:=rfl
@[go_sem] theorem dstsOf_nil:dstsOf []=[]:=rfl
@[go_sem] theorem dstsOf_cons{o:Oper}{os:List Oper}:dstsOf (o::os)=o.dst::dstsOf os:=rfl
variable{x y z:Operand}{t u:TypeId}{k:Nat}
@[go_sem] theorem grow_move:grow P (.move x) σ=σ:=rfl
@[go_sem] theorem nxt_move{n:Nat}:ic P (.move x) n=n:=rfl
@[go_sem] theorem grow_assign:grow P (.assign x) σ=σ:=rfl
@[go_sem] theorem nxt_assign{n:Nat}:ic P (.assign x) n=n:=rfl
@[go_sem] theorem grow_pick:grow P (.pick x y z) σ=σ:=rfl
@[go_sem] theorem nxt_pick{n:Nat}:ic P (.pick x y z) n=n:=rfl
@[go_sem] theorem grow_build{ps:Array (Nat×Operand)}:grow P (.build t ps) σ=σ:=rfl
@[go_sem] theorem nxt_build{ps:Array (Nat×Operand)}{n:Nat}:ic P (.build t ps) n=n:=rfl
@[go_sem] theorem aal{ps:Array (Nat×Operand)}:grow P (.buildSlice t k ps) σ=σ:=rfl
@[go_sem] theorem nxt_buildSlice{ps:Array (Nat×Operand)}{n:Nat}:ic P (.buildSlice t k ps) n=n:=rfl
@[go_sem] theorem grow_load:grow P (.load t x) σ=σ:=rfl
@[go_sem] theorem nxt_load{n:Nat}:ic P (.load t x) n=n:=rfl
@[go_sem] theorem grow_store:grow P (.store t x y) σ=σ:=rfl
@[go_sem] theorem nxt_store{n:Nat}:ic P (.store t x y) n=n:=rfl
@[go_sem] theorem grow_binOp{o:BinOp}:grow P (.binOp o t x y u) σ=σ:=rfl
@[go_sem] theorem nxt_binOp{o:BinOp}{n:Nat}:ic P (.binOp o t x y u) n=n:=rfl
@[go_sem] theorem grow_unOp{o:UnOp}:grow P (.unOp o t x) σ=σ:=rfl
@[go_sem] theorem nxt_unOp{o:UnOp}{n:Nat}:ic P (.unOp o t x) n=n:=rfl
@[go_sem] theorem grow_makeFunc{f:Fn}{xs ys:Array Operand}:grow P (.makeFunc f xs ys) σ=σ:=rfl
@[go_sem] theorem nxt_makeFunc{f:Fn}{xs ys:Array Operand}{n:Nat}:ic P (.makeFunc f xs ys) n=n:=rfl
@[go_sem] theorem grow_slice{l h m:Option Operand}:grow P (.slice t x l h m) σ=σ:=rfl
@[go_sem] theorem nxt_slice{l h m:Option Operand}{n:Nat}:ic P (.slice t x l h m) n=n:=rfl
@[go_sem] theorem grow_fieldAddr:grow P (.fieldAddr t x k) σ=σ:=rfl
@[go_sem] theorem nxt_fieldAddr{n:Nat}:ic P (.fieldAddr t x k) n=n:=rfl
@[go_sem] theorem grow_indexAddr:grow P (.indexAddr t x y) σ=σ:=rfl
@[go_sem] theorem nxt_indexAddr{n:Nat}:ic P (.indexAddr t x y) n=n:=rfl
@[go_sem] theorem grow_index:grow P (.index t x y) σ=σ:=rfl
@[go_sem] theorem nxt_index{n:Nat}:ic P (.index t x y) n=n:=rfl
@[go_sem] theorem grow_extract:grow P (.extract x k) σ=σ:=rfl
@[go_sem] theorem nxt_extract{n:Nat}:ic P (.extract x k) n=n:=rfl
@[go_sem] theorem grow_alloc{σs:List (Nat×A)}{gj:List Obj}:grow P (.alloc t) (St.mk σs gj)=⟨σs,gj++[.row 0 []]⟩:=rfl
@[go_sem] theorem nxt_alloc{n:Nat}:ic P (.alloc t) n=n+1:=rfl
@[go_sem] theorem grow_box{σs:List (Nat×A)}{gj:List Obj}:grow P (.box t x) (St.mk σs gj)=⟨σs,gj++[.row 0 []]⟩:=rfl
@[go_sem] theorem nxt_box{n:Nat}:ic P (.box t x) n=n+1:=rfl
@[go_sem] theorem grow_convert{σs:List (Nat×A)}{gj:List Obj}:grow P (.convert t u x) (St.mk σs gj)=if zm P t u=true then⟨σs,gj++[.row 0 []]⟩else(St.mk σs gj):=rfl
@[go_sem] theorem nxt_convert{n:Nat}:ic P (.convert t u x) n=if zm P t u=true then n+1 else n:=rfl
@[go_sem] theorem grow_len{xs:Array Operand}{ts:Array TypeId}:grow P (.call ⟨.builtin .len,xs,ts⟩) σ=σ:=rfl
@[go_sem] theorem nxt_len{xs:Array Operand}{ts:Array TypeId}{n:Nat}:ic P (.call ⟨.builtin .len,xs,ts⟩) n=n:=rfl
@[go_sem] theorem grow_min{xs:Array Operand}{ts:Array TypeId}:grow P (.call ⟨.builtin .min,xs,ts⟩) σ=σ:=rfl
@[go_sem] theorem nxt_min{xs:Array Operand}{ts:Array TypeId}{n:Nat}:ic P (.call ⟨.builtin .min,xs,ts⟩) n=n:=rfl
@[go_sem] theorem grow_max{xs:Array Operand}{ts:Array TypeId}:grow P (.call ⟨.builtin .max,xs,ts⟩) σ=σ:=rfl
@[go_sem] theorem nxt_max{xs:Array Operand}{ts:Array TypeId}{n:Nat}:ic P (.call ⟨.builtin .max,xs,ts⟩) n=n:=rfl
@[go_sem] theorem grow_append{σs:List (Nat×A)}{gj:List Obj}{xs:Array Operand}{ts:Array TypeId}:grow P (.call ⟨.builtin .append,xs,ts⟩) (St.mk σs gj)=⟨σs,gj++[.row 0 []]⟩:=rfl
@[go_sem] theorem nxt_append{xs:Array Operand}{ts:Array TypeId}{n:Nat}:ic P (.call ⟨.builtin .append,xs,ts⟩) n=n+1:=rfl
@[go_sem] theorem grow_clear{xs:Array Operand}{ts:Array TypeId}:grow P (.call ⟨.builtin .clear,xs,ts⟩) σ=σ:=rfl
@[go_sem] theorem nxt_clear{xs:Array Operand}{ts:Array TypeId}{n:Nat}:ic P (.call ⟨.builtin .clear,xs,ts⟩) n=n:=rfl
@[go_sem] theorem grow_call{xs:Array Operand}{ts:Array TypeId}:grow P (.call ⟨.value x,xs,ts⟩) σ=σ:=rfl
@[go_sem] theorem nxt_call{xs:Array Operand}{ts:Array TypeId}{n:Nat}:ic P (.call ⟨.value x,xs,ts⟩) n=n:=rfl
@[go_sem] theorem ex_move:execOp P Γ n d (.move x) σ=some (σ.put d (σ.ev x)):=rfl
@[go_sem] theorem ex_assign:execOp P Γ n d (.assign x) σ=some (σ.put d (σ.ev x)):=rfl
@[go_sem] theorem ex_pick:execOp P Γ n d (.pick x y z) σ=(Nv (σ.ev x) (σ.ev y) (σ.ev z)).map (σ.put d ·):=rfl
@[go_sem] theorem ex_build{ps:List (Nat×Operand)}:execOp P Γ n d (.build t ⟨ps⟩) σ=(uP P t σ ps).map (σ.put d ·):=rfl
@[go_sem] theorem ex_buildSlice{ps:List (Nat×Operand)}:execOp P Γ n d (.buildSlice t k ⟨ps⟩) σ=(ly P t k σ ps).map (σ.put d ·):=rfl
@[go_sem] theorem ex_load{σs:List (Nat×A)}{gj:List Obj}:execOp P Γ n d (.load t x) (St.mk σs gj)=(xx P t gj ((St.mk σs gj).ev x)).map ((St.mk σs gj).put d ·):=rfl
@[go_sem] theorem ex_binOp{o:BinOp}:execOp P Γ n d (.binOp o t x y u) σ=(mg (ta P t) (lC P t) (nB P t) (cM P t).isSome o (σ.ev x) (σ.ev y)).map (σ.put d ·):=rfl
@[go_sem] theorem ex_unOp{o:UnOp}:execOp P Γ n d (.unOp o t x) σ=(unA o (σ.ev x)).map (σ.put d ·):=rfl
@[go_sem] theorem ex_makeFunc{f:Fn}{xs ys:List Operand}:execOp P Γ n d (.makeFunc f ⟨xs⟩ ⟨ys⟩) σ=(sn f (σ.rn xs) (σ.rn ys)).map (σ.put d ·):=rfl
@[go_sem] theorem ex_slice{l h m:Option Operand}:execOp P Γ n d (.slice t x l h m) σ=(if(jl P t).isNone=true/\(σ.bd l).ok=true/\(σ.bd h).ok=true then yg (lx P t) (yh P t) (σ.ev x) (σ.bd l) (σ.bd h) (σ.bd m)else none).map (σ.put d ·):=rfl
@[go_sem] theorem ex_fieldAddr:execOp P Γ n d (.fieldAddr t x k) σ=(oU (fieldInfo P t k) (σ.ev x)).map (σ.put d ·):=rfl
@[go_sem] theorem ex_indexAddr:execOp P Γ n d (.indexAddr t x y) σ=(qJ P t (σ.ev x) (σ.ev y)).map (σ.put d ·):=rfl
@[go_sem] theorem ex_index:execOp P Γ n d (.index t x y) σ=(A' P t (σ.ev x) (σ.ev y)).map (σ.put d ·):=rfl
@[go_sem] theorem ex_extract:execOp P Γ n d (.extract x k) σ=(uQ (σ.ev x) k).map (σ.put d ·):=rfl
@[go_sem] theorem ex_alloc:execOp P Γ n d (.alloc t) σ=te σ n d (iT P t):=rfl
@[go_sem] theorem ex_box:execOp P Γ n d (.box t x) σ=Ba σ n d (σ.ev x):=rfl
@[go_sem] theorem ex_store:execOp P Γ n d (.store t x y) σ=tf σ d (cW P t) (σ.ev x) (σ.ev y):=rfl
@[go_sem] theorem ex_convert:execOp P Γ n d (.convert t u x) σ=CB P σ n d t u (σ.ev x):=rfl
@[go_sem] theorem ex_len:execOp P Γ n d (.call ⟨.builtin .len,⟨[x]⟩,⟨[t]⟩⟩) σ=(Q8 P t (σ.ev x)).map (σ.put d ·):=rfl
@[go_sem] theorem ex_min{xs:List Operand}{ts:Array TypeId}:execOp P Γ n d (.call ⟨.builtin .min,⟨xs⟩,ts⟩) σ=(minA (σ.rn xs)).map (σ.put d ·):=rfl
@[go_sem] theorem ex_max{xs:List Operand}{ts:Array TypeId}:execOp P Γ n d (.call ⟨.builtin .max,⟨xs⟩,ts⟩) σ=(maxA (σ.rn xs)).map (σ.put d ·):=rfl
@[go_sem] theorem ex_append:execOp P Γ n d (.call ⟨.builtin .append,⟨[x,y]⟩,⟨[t,u]⟩⟩) σ=wB P Γ.fix σ n d t u (σ.ev x) (σ.ev y):=rfl
@[go_sem] theorem ex_clear:execOp P Γ n d (.call ⟨.builtin .clear,⟨[x]⟩,⟨[t]⟩⟩) σ=Bb P σ d t (σ.ev x):=rfl
@[go_sem] theorem ex_call{xs:List Operand}{ts:Array TypeId}:execOp P Γ n d (.call ⟨.value x,⟨xs⟩,ts⟩) σ=if EF Γ x=true then uR Γ σ d (σ.ev x) (σ.rn xs)else EG Γ σ d (σ.ev x) (σ.rn xs):=rfl
@[go_sem] theorem isEff_func{f:FuncId}:EF Γ (.func f)=Γ.pV f:=rfl
@[go_sem] theorem isEff_tmp{i:Nat}:EF Γ (.tmp i)=Γ.WO:=rfl
@[go_sem] theorem ev_tmp{σs:List (Nat×A)}{gj:List Obj}{i:Nat}:(St.mk σs gj).ev (.tmp i)=look σs i:=rfl
@[go_sem] theorem ev_const{v:Value}:σ.ev (.const v)=toA v:=rfl
@[go_sem] theorem ev_func{f:FuncId}:σ.ev (.func f)= .fn f []:=rfl
@[go_sem] theorem evL_nil:σ.rn []=[]:=rfl
@[go_sem] theorem evL_cons{xs:List Operand}:σ.rn (x::xs)=σ.ev x::σ.rn xs:=rfl
@[go_sem] theorem put_some{σs:List (Nat×A)}{gj:List Obj}{v:A}{i:Nat}:(St.mk σs gj).put (some i) v=⟨(i,v)::σs,gj⟩:=rfl
@[go_sem] theorem put_none{v:A}:σ.put none v=σ:=rfl
@[go_sem] theorem bd_none:σ.bd none= .none:=rfl
@[go_sem] theorem bd_some:σ.bd (some x)=bdOf (σ.ev x):=rfl
@[go_sem] theorem bdOf_int{i:IntKind}{m:Int}:bdOf (.int i m)= .some m:=rfl
@[go_sem] theorem Bd_get_none{m:Int}:Bd.get m .none=m:=rfl
@[go_sem] theorem Bd_get_some{m r:Int}:Bd.get m (.some r)=r:=rfl
@[go_sem] theorem Bd_ok_none:Bd.ok .none=true:=rfl
@[go_sem] theorem Bd_ok_some{r:Int}:Bd.ok (.some r)=true:=rfl
@[go_sem] theorem look_cons{i j:Nat}{v:A}{r:List (Nat×A)}:look ((i,v)::r) j=if i=j then v else look r j:=rfl
@[go_sem] theorem setH_eq{σs:List (Nat×A)}{gj:List Obj}{o:Obj}:(St.mk σs gj).ib n o=⟨σs,pQ gj n o⟩:=rfl
@[go_sem] theorem setO_zero{a b:Obj}{r:List Obj}:pQ (a::r) 0 b=b::r:=rfl
@[go_sem] theorem setO_succ{a b:Obj}{r:List Obj}:pQ (a::r) (n+1) b=a::pQ r n b:=rfl
@[go_sem] theorem nthO_zero{a:Obj}{r:List Obj}:fe (a::r) 0=some a:=rfl
@[go_sem] theorem nthO_succ{a:Obj}{r:List Obj}:fe (a::r) (n+1)=fe r n:=rfl
@[go_sem] theorem setNth_zero{a b:A}{r:List A}:fE (a::r) 0 b=b::r:=rfl
@[go_sem] theorem setNth_succ{a b:A}{r:List A}:fE (a::r) (n+1) b=a::fE r n b:=rfl
end
section
variable{a b c:A}{cs ds es:List A}{k n i:Nat}{q:IntKind}{m r:Int}{s s':List UInt8}{H:List Obj}{P:Program}{t u:TypeId}{p e:Bool}{σ:St}{d:Option Tmp}{kl:List CK}{ko:Option (List CK)}{sl k0:Bool}
@[go_sem] theorem toA_int:toA (.int q m)= .int q m:=rfl
@[go_sem] theorem toA_bool:toA (.bool p)= .bool p:=rfl
@[go_sem] theorem toA_str{l:List UInt8}:toA (.string ⟨⟨l⟩⟩)= .str l:=rfl
@[go_sem] theorem toA_nils:toA (.slice none 0 0)= .dX:=rfl
@[go_sem] theorem pick_bool:Nv (.bool p) a b=some (if p then a else b):=rfl
@[go_sem] theorem load_dptr:xx P t H (.jD cs)=oL P t cs:=rfl
@[go_sem] theorem load_ref:xx P t H (.ref n i)=(match fe H n with|some (.box cs)=>oL P t (cs.drop i)|_=>none):=rfl
@[go_sem] theorem load_eref:xx P t H (.mz n i k)=(match fe H n with|some (.row _ es)=>(es[i]?).bind fun e=>oL P t (e.cells.drop k)|_=>none):=rfl
@[go_sem] theorem loadC_eq:oL P t cs=(match dM P t with|some true=>(match cW P t with|some n=>if n<=cs.length then some (.agg (cs.take n))else none|none=>none)|some false=>cs.head? |none=>none):=rfl
@[go_sem] theorem fieldI_some{f:Nat×TypeId}:oU (some f) a=oT f.1 a:=rfl
@[go_sem] theorem field_dptr:oT n (.jD cs)=some (.jD (cs.drop n)):=rfl
@[go_sem] theorem field_ref:oT n (.ref i k)=some (.ref i (k+n)):=rfl
@[go_sem] theorem field_eref{j:Nat}:oT n (.mz i j k)=some (.mz i j (k+n)):=rfl
@[go_sem] theorem index_str:A' P t (.str s) (.int q m)=(if lx P t=true/\0<=m then(s[m.toNat]?).map mX else none):=rfl
@[go_sem] theorem index_agg:A' P t (.agg cs) (.int q m)=(match jl P t with|some (n,e)=>(match cW P e with|some k=>if 0<=m/\m<n then oL P e (cs.drop (m.toNat*k))else none|none=>none)|none=>none):=rfl
@[go_sem] theorem indexAddr_int:qJ P t a (.int q m)=(match cM P t with|some e=>(match cW P e with|some k=>qI k m a|none=>none)|none=>(match jl P t with|some (n,e)=>(match cW P e with|some k=>tb n k m a|none=>none)|none=>none)):=rfl
@[go_sem] theorem indexE_slc:qI k m (.aw es)=WN k m es:=rfl
@[go_sem] theorem indexE_row{j l:Nat}:qI k m (.row n i j l p)=(if k=j/\0<=m/\m<l then some (.mz n (i+m.toNat) 0)else none):=rfl
@[go_sem] theorem indexR_ref{j:Nat}:tb n k m (.ref i j)=(if 0<=m/\m<n then some (.ref i (j+m.toNat*k))else none):=rfl
@[go_sem] theorem getE_eq:WN k m es=(if 0<=m then es[m.toNat]? else none).bind fun y=>if k=y.cells.length then some (.jD y.cells)else none:=rfl
@[go_sem] theorem extract_tup:uQ (.eV cs) n=cs[n]? :=rfl
@[go_sem] theorem len_str:Q8 P t (.str s)=if lx P t=true then some (.int .i64 s.length)else none:=rfl
@[go_sem] theorem len_slc:Q8 P t (.aw es)=if(cM P t).isSome=true then some (.int .i64 es.length)else none:=rfl
@[go_sem] theorem len_row{j:Nat}:Q8 P t (.row n i j k p)=if(cM P t).isSome=true then some (.int .i64 k)else none:=rfl
@[go_sem] theorem min_int{q':IntKind}:minA [.int q m,.int q' r]=some (.int q (if r<m then r else m)):=rfl
@[go_sem] theorem max_int{q':IntKind}:maxA [.int q m,.int q' r]=some (.int q (if r>m then r else m)):=rfl
@[go_sem] theorem makeFunc_eq:sn (.func n) [] cs=some (.fn n cs):=rfl
@[go_sem] theorem un_not:unA .not (.bool p)=some (.bool !p):=rfl
@[go_sem] theorem bin_add:mg ko p e sl .add (.int q m) (.int q r)=some (.int q (q.wrap (m+r))):=by simp[mg,ye]
@[go_sem] theorem bin_sub:mg ko p e sl .sub (.int q m) (.int q r)=some (.int q (q.wrap (m-r))):=by simp[mg,ye]
@[go_sem] theorem bin_mul:mg ko p e sl .mul (.int q m) (.int q r)=some (.int q (q.wrap (m*r))):=by simp[mg,ye]
@[go_sem] theorem bin_quo:mg ko p e sl .quo (.int q m) (.int q r)=if r=0 then none else some (.int q (q.wrap (m.tdiv r))):=by simp[mg,ye]
@[go_sem] theorem bin_rem:mg ko p e sl .rem (.int q m) (.int q r)=if r=0 then none else some (.int q (m.tmod r)):=by simp[mg,ye]
@[go_sem] theorem bin_and:mg ko p e sl .and (.int q m) (.int q r)=some (.int q (q.wrap ((BitVec.ofInt q.bits m&&&BitVec.ofInt q.bits r).toNat))):=by simp[mg,ye]
@[go_sem] theorem bin_eql:mg ko p e sl .eql (.int q m) (.int q r)=some (.bool (m==r)):=by simp[mg,ye]
@[go_sem] theorem bin_neq:mg ko p e sl .neq (.int q m) (.int q r)=some (.bool (m !=r)):=by simp[mg,ye]
@[go_sem] theorem bin_lss:mg ko p e sl .lss (.int q m) (.int q r)=some (.bool (decide (m<r))):=by simp[mg,ye]
@[go_sem] theorem bin_leq:mg ko p e sl .leq (.int q m) (.int q r)=some (.bool (decide (m<=r))):=by simp[mg,ye]
@[go_sem] theorem bin_gtr:mg ko p e sl .gtr (.int q m) (.int q r)=some (.bool (decide (r<m))):=by simp[mg,ye]
@[go_sem] theorem bin_geq:mg ko p e sl .geq (.int q m) (.int q r)=some (.bool (decide (r<=m))):=by simp[mg,ye]
@[go_sem] theorem bin_shr{q':IntKind}:mg ko p e sl .shr (.int q m) (.int q' r)=if r<0 then none else some (.int q (m.fdiv (2^(min r.toNat q.bits)))):=rfl
@[go_sem] theorem bin_bneq{x y:Bool}:mg ko true e sl .neq (.bool x) (.bool y)=some (.bool (x !=y)):=rfl
@[go_sem] theorem bin_sadd:mg ko p e sl .add (.str s) (.str s')=if s.length+s'.length<=9223372036854775807 then some (.str (s++s'))else none:=rfl
@[go_sem] theorem bin_seql:mg ko p e sl .eql (.str s) (.str s')=some (.bool (s==s')):=rfl
@[go_sem] theorem bin_sneq:mg ko p e sl .neq (.str s) (.str s')=some (.bool (s !=s')):=rfl
@[go_sem] theorem bin_aeql:mg (some kl) p e sl .eql (.agg cs) (.agg ds)=if eW kl cs=true/\eW kl ds=true then(A9 cs ds).map .bool else none:=rfl
@[go_sem] theorem bin_aneq:mg (some kl) p e sl .neq (.agg cs) (.agg ds)=if eW kl cs=true/\eW kl ds=true then(A9 cs ds).map (fun b=> .bool !b)else none:=rfl
@[go_sem] theorem bin_empnil:mg ko p e true .eql (.emp k0) .dX=some (.bool k0):=rfl
@[go_sem] theorem bin_slcnil:mg ko p e true .eql (.aw (a::cs)) .dX=some (.bool false):=rfl
@[go_sem] theorem hasL_nil:eW [] []=true:=rfl
@[go_sem] theorem hasL_cons{c:CK}:eW (c::kl) (a::cs)=(c.has a&&eW kl cs):=rfl
@[go_sem] theorem has_int:CK.has (.int q) (.int q m)=true:=by simp[CK.has]
@[go_sem] theorem has_bool:CK.has .bool (.bool p)=true:=rfl
@[go_sem] theorem has_str:CK.has .str (.str s)=true:=rfl
@[go_sem] theorem eqL_nil:A9 [] []=some true:=rfl
@[go_sem] theorem eqL_cons:A9 (a::cs) (b::ds)=(WK a b).bind fun x=>(A9 cs ds).map (x&& ·):=rfl
@[go_sem] theorem eqA_int:WK (.int q m) (.int q r)=some (m==r):=by simp[WK]
@[go_sem] theorem eqA_bool{x y:Bool}:WK (.bool x) (.bool y)=some (x==y):=rfl
@[go_sem] theorem eqA_str:WK (.str s) (.str s')=some (s==s'):=rfl
@[go_sem] theorem cells_agg:A.cells (.agg cs)=cs:=rfl
@[go_sem] theorem cells_int:A.cells (.int q m)=[.int q m]:=rfl
@[go_sem] theorem cells_bool:A.cells (.bool p)=[.bool p]:=rfl
@[go_sem] theorem cells_str:A.cells (.str s)=[.str s]:=rfl
@[go_sem] theorem cells_slc:A.cells (.aw es)=[.aw es]:=rfl
@[go_sem] theorem cells_clip:A.cells (.clip es)=[.clip es]:=rfl
@[go_sem] theorem cells_nils:A.cells .dX=[.dX]:=rfl
@[go_sem] theorem cells_row{j:Nat}:A.cells (.row n i k j p)=[.row n i k j p]:=rfl
@[go_sem] theorem val_agg:A.val (.agg cs)=true:=rfl
@[go_sem] theorem val_int:A.val (.int q m)=true:=rfl
@[go_sem] theorem val_bool:A.val (.bool p)=true:=rfl
@[go_sem] theorem val_str:A.val (.str s)=true:=rfl
@[go_sem] theorem val_slc:A.val (.aw es)=true:=rfl
@[go_sem] theorem val_clip:A.val (.clip es)=true:=rfl
@[go_sem] theorem val_nils:A.val .dX=true:=rfl
@[go_sem] theorem val_row{j:Nat}:A.val (.row n i k j p)=true:=rfl
@[go_sem] theorem norm_agg:A.norm (.agg cs)= .agg (cs.map nC):=rfl
@[go_sem] theorem norm_int:A.norm (.int q m)= .int q m:=rfl
@[go_sem] theorem norm_bool:A.norm (.bool p)= .bool p:=rfl
@[go_sem] theorem norm_str:A.norm (.str s)= .str s:=rfl
@[go_sem] theorem norm_slc:A.norm (.aw es)= .aw es:=rfl
@[go_sem] theorem norm_clip:A.norm (.clip es)= .aw es:=rfl
@[go_sem] theorem norm_nils:A.norm .dX= .aw []:=rfl
@[go_sem] theorem norm0_int:nC (.int q m)= .int q m:=rfl
@[go_sem] theorem norm0_bool:nC (.bool p)= .bool p:=rfl
@[go_sem] theorem norm0_str:nC (.str s)= .str s:=rfl
@[go_sem] theorem norm0_slc:nC (.aw es)= .aw es:=rfl
@[go_sem] theorem norm0_clip:nC (.clip es)= .aw es:=rfl
@[go_sem] theorem norm0_nils:nC .dX= .aw []:=rfl
@[go_sem] theorem viewL_nil:mT H []=some []:=rfl
@[go_sem] theorem viewL_cons:mT H (a::cs)=(view H a).bind fun y=>(mT H cs).map (y:: ·):=rfl
@[go_sem] theorem view1L_nil:np H []=some []:=rfl
@[go_sem] theorem view1L_cons:np H (a::cs)=(qG H a).bind fun y=>(np H cs).map (y:: ·):=rfl
@[go_sem] theorem view0L_nil:j4 H []=some []:=rfl
@[go_sem] theorem view0L_cons:j4 H (a::cs)=(oN H a).bind fun y=>(j4 H cs).map (y:: ·):=rfl
@[go_sem] theorem view_fn:view H (.fn n cs)=(np H cs).map (.fn n ·):=rfl
@[go_sem] theorem view_agg:view H (.agg cs)=(j4 H cs).map .agg:=rfl
@[go_sem] theorem view_ref:view H (.ref n i)=(match fe H n with|some (.box cs)=>(j4 H (cs.drop i)).map .jD|_=>none):=rfl
@[go_sem] theorem view_row{j:Nat}:view H (.row n i k j p)=mr H n i k j:=rfl
@[go_sem] theorem view_int:view H (.int q m)=some (.int q m):=rfl
@[go_sem] theorem view_bool:view H (.bool p)=some (.bool p):=rfl
@[go_sem] theorem view_str:view H (.str s)=some (.str s):=rfl
@[go_sem] theorem view_slc:view H (.aw es)=some (.aw es):=rfl
@[go_sem] theorem view_clip:view H (.clip es)=some (.aw es):=rfl
@[go_sem] theorem view_nils:view H .dX=some (.aw []):=rfl
@[go_sem] theorem view1_ref:qG H (.ref n i)=(match fe H n with|some (.box cs)=>(j4 H (cs.drop i)).map .jD|_=>none):=rfl
@[go_sem] theorem view0_row{j:Nat}:oN H (.row n i k j p)=mr H n i k j:=rfl
@[go_sem] theorem view0_int:oN H (.int q m)=some (.int q m):=rfl
@[go_sem] theorem view0_bool:oN H (.bool p)=some (.bool p):=rfl
@[go_sem] theorem view0_str:oN H (.str s)=some (.str s):=rfl
@[go_sem] theorem view0_slc:oN H (.aw es)=some (.aw es):=rfl
@[go_sem] theorem view0_clip:oN H (.clip es)=some (.aw es):=rfl
@[go_sem] theorem view0_nils:oN H .dX=some (.aw []):=rfl
@[go_sem] theorem viewRow_eq{j:Nat}:mr H n i k j=(match fe H n with|some (.row k' es)=>if k'=k/\i+j<=es.length/\k≠0 then some (.aw ((es.drop i).take j))else none|_=>none):=rfl
@[go_sem] theorem pureL_nil:A.pure.cY []=true:=rfl
@[go_sem] theorem pureL_cons:A.pure.cY (a::cs)=(a.pure&&A.pure.cY cs):=rfl
@[go_sem] theorem pure_agg:A.pure (.agg cs)=A.pure.cY cs:=by simp[A.pure]
@[go_sem] theorem pure_fn:A.pure (.fn n cs)=A.pure.cY cs:=by simp[A.pure]
@[go_sem] theorem pure_int:A.pure (.int q m)=true:=by simp[A.pure]
@[go_sem] theorem pure_bool:A.pure (.bool p)=true:=by simp[A.pure]
@[go_sem] theorem pure_str:A.pure (.str s)=true:=by simp[A.pure]
@[go_sem] theorem pure_slc:A.pure (.aw es)=true:=by simp[A.pure]
@[go_sem] theorem pure_clip:A.pure (.clip es)=true:=by simp[A.pure]
@[go_sem] theorem pure_nils:A.pure .dX=true:=by simp[A.pure]
@[go_sem] theorem flat_bool:A.flat (.bool p)=true:=by simp[A.flat]
@[go_sem] theorem flat_slc:A.flat (.aw es)=false:=by simp[A.flat]
@[go_sem] theorem clear_row{σs:List (Nat×A)}{gj:List Obj}{l:Nat}:Bb P (St.mk σs gj) d t (.row n i k l p)=(match cM P t with|some e=>(match fe gj n with|some (.row k' es)=>(match iT P e with|some z=>if k'=k/\z.cells.length=k/\k≠0/\z.val=true/\z.pure=true/\i+l<=es.length then some (((St.mk σs gj).ib n (.row k (es.take i++List.replicate l z.norm++es.drop (i+l)))).put d (.eV []))else none|none=>none)|_=>none)|none=>none):=rfl
@[go_sem] theorem callHV_fn{Γ:aN}:uR Γ σ d (.fn n cs) ds=Nx Γ σ d n (ds++cs):=rfl
@[go_sem] theorem callH_eq{Γ:aN}{σs:List (Nat×A)}{gj:List Obj}:Nx Γ (St.mk σs gj) d n ds=yj Γ (St.mk σs gj) d n ds (reach gj 64 (A.names.mh ds) []):=rfl
@[go_sem] theorem callH1_eq{Γ:aN}{σs:List (Nat×A)}{gj:List Obj}{ρ:List Nat}:yj Γ (St.mk σs gj) d n ds ρ=(A.nU.uG ρ ds).bind fun as'=>(tg ρ gj ρ).bind fun fc=>if Γ.uO n=true then(if ρ.all (fun n=> !Γ.fix n)=true then(mT fc as').bind fun bs=>(Γ.f n bs).map (Kx (St.mk σs gj) d ρ fc)else none) else(Γ.hp n as' fc).bind fun x=>if th Γ ρ gj.length x.2.2=true then some (EH (St.mk σs gj) d ρ x)else none:=rfl
@[congr] theorem callH1_congr{Γ:aN}{ρ ρ':List Nat}(h:ρ=ρ'):yj Γ σ d n ds ρ=yj Γ σ d n ds ρ':=by rw[h]
@[go_sem] theorem callH2_eq{σs:List (Nat×A)}{gj:List Obj}{ρ:List Nat}{S:List Nat}:EH (St.mk σs gj) d ρ (a,H,S)=St.put ⟨(iB ρ gj.length (St.mk σs gj) S).s,qL ρ gj.length ρ H (iB ρ gj.length (St.mk σs gj) S).H⟩ d (a.back ρ gj.length):=rfl
@[go_sem] theorem callF2_eq{σs:List (Nat×A)}{gj:List Obj}{ρ:List Nat}:Kx (St.mk σs gj) d ρ H a=St.put ⟨σs.map (fun p=>(p.1,rq ρ H p.2)),so ρ ρ (gj.map (Kw ρ H))⟩ d a:=rfl
@[go_sem] theorem scrubs_nil{ρ:List Nat}:iB ρ n σ []=σ:=rfl
@[go_sem] theorem backH_nil{ρ:List Nat}{os:List Obj}:qL ρ n [] os H=H++os.map (Obj.back ρ n):=rfl
@[go_sem] theorem backH_cons{ρ ns:List Nat}{o:Obj}{os:List Obj}:qL ρ n (i::ns) (o::os) H=qL ρ n ns os (pQ H i (o.back ρ n)):=rfl
@[go_sem] theorem mayMove_nil{Γ:aN}{ρ:List Nat}:th Γ ρ n []=true:=rfl
@[go_sem] theorem reach_nil{ρ:List Nat}:reach H (n+1) [] ρ=ρ:=rfl
@[go_sem] theorem reach_cons{ρ ns:List Nat}:reach H (n+1) (i::ns) ρ=if ρ.contains i=true then reach H n ns ρ else reach H n (yi (fe H i)++ns) (ρ++[i]):=rfl
@[go_sem] theorem namesO_some{o:Obj}:yi (some o)=o.names:=rfl
@[go_sem] theorem names_box:Obj.names (.box cs)=A.names.mh cs:=rfl
@[go_sem] theorem names_rowO:Obj.names (.row k cs)=[]:=rfl
@[go_sem] theorem namesL_nil:A.names.mh []=[]:=rfl
@[go_sem] theorem namesL_cons:A.names.mh (a::cs)=a.names++A.names.mh cs:=rfl
@[go_sem] theorem names_ref:A.names (.ref n i)=[n]:=by simp[A.names]
@[go_sem] theorem names_row{j:Nat}:A.names (.row n i j k p)=[n]:=by simp[A.names]
@[go_sem] theorem names_fn:A.names (.fn n cs)=A.names.mh cs:=by simp[A.names]
@[go_sem] theorem names_int:A.names (.int q m)=[]:=by simp[A.names]
@[go_sem] theorem names_slc:A.names (.aw es)=[]:=by simp[A.names]
@[go_sem] theorem names_clip:A.names (.clip es)=[]:=by simp[A.names]
@[go_sem] theorem idx_cons{ρ:List Nat}:idx (i::ρ) n=if i=n then some 0 else(idx ρ n).map (· +1):=rfl
@[go_sem] theorem renL_nil{ρ:List Nat}:A.nU.uG ρ []=some []:=rfl
@[go_sem] theorem renL_cons{ρ:List Nat}:A.nU.uG ρ (a::cs)=(a.nU ρ).bind fun x=>(A.nU.uG ρ cs).map (x:: ·):=rfl
@[go_sem] theorem ren_ref{ρ:List Nat}:A.nU ρ (.ref n i)=(idx ρ n).map (.ref · i):=by simp[A.nU]
@[go_sem] theorem ren_row{ρ:List Nat}{j:Nat}:A.nU ρ (.row n i j k p)=(idx ρ n).map (.row · i j k p):=by simp[A.nU]
@[go_sem] theorem ren_fn{ρ:List Nat}:A.nU ρ (.fn n cs)=(A.nU.uG ρ cs).map (.fn n ·):=by simp[A.nU]
@[go_sem] theorem ren_int{ρ:List Nat}:A.nU ρ (.int q m)=some (.int q m):=by simp[A.nU]
@[go_sem] theorem ren_slc{ρ:List Nat}:A.nU ρ (.aw es)=some (.aw es):=by simp[A.nU]
@[go_sem] theorem ren_clip{ρ:List Nat}:A.nU ρ (.clip es)=some (.clip es):=by simp[A.nU]
@[go_sem] theorem renH_nil{ρ:List Nat}:tg ρ H []=some []:=rfl
@[go_sem] theorem renH_cons{ρ ns:List Nat}:tg ρ H (i::ns)=(renO ρ (fe H i)).bind fun o=>(tg ρ H ns).map (o:: ·):=rfl
@[go_sem] theorem renO_some{ρ:List Nat}{o:Obj}:renO ρ (some o)=o.nU ρ:=rfl
@[go_sem] theorem renO_box{ρ:List Nat}:Obj.nU ρ (.box cs)=(A.nU.uG ρ cs).map .box:=rfl
@[go_sem] theorem renO_row{ρ:List Nat}:Obj.nU ρ (.row k cs)=some (.row k cs):=rfl
@[go_sem] theorem nthN_nil:lD [] n i=n+i:=rfl
@[go_sem] theorem nthN_zero{ρ:List Nat}:lD (i::ρ) n 0=i:=rfl
@[go_sem] theorem nthN_succ{ρ:List Nat}:lD (i::ρ) n (k+1)=lD ρ n k:=rfl
@[go_sem] theorem back_ref{ρ:List Nat}:A.back ρ k (.ref n i)= .ref (lD ρ k n) i:=by simp[A.back]
@[go_sem] theorem back_row{ρ:List Nat}{j l:Nat}:A.back ρ k (.row n i j l p)= .row (lD ρ k n) i j l p:=by simp[A.back]
@[go_sem] theorem back_agg{ρ:List Nat}:A.back ρ k (.agg cs)= .agg (A.back.oO ρ k cs):=by simp[A.back]
@[go_sem] theorem back_tup{ρ:List Nat}:A.back ρ k (.eV cs)= .eV (A.back.oO ρ k cs):=by simp[A.back]
@[go_sem] theorem back_int{ρ:List Nat}:A.back ρ k (.int q m)= .int q m:=by simp[A.back]
@[go_sem] theorem back_bool{ρ:List Nat}:A.back ρ k (.bool p)= .bool p:=by simp[A.back]
@[go_sem] theorem back_str{ρ:List Nat}:A.back ρ k (.str s)= .str s:=by simp[A.back]
@[go_sem] theorem back_slc{ρ:List Nat}:A.back ρ k (.aw es)= .aw es:=by simp[A.back]
@[go_sem] theorem back_clip{ρ:List Nat}:A.back ρ k (.clip es)= .clip es:=by simp[A.back]
@[go_sem] theorem back_dptr{ρ:List Nat}:A.back ρ k (.jD es)= .jD es:=by simp[A.back]
@[go_sem] theorem back_nils{ρ:List Nat}:A.back ρ k .dX= .dX:=by simp[A.back]
@[go_sem] theorem back_any{ρ:List Nat}:A.back ρ k .any= .any:=by simp[A.back]
@[go_sem] theorem backL_nil{ρ:List Nat}:A.back.oO ρ k []=[]:=rfl
@[go_sem] theorem backL_cons{ρ:List Nat}:A.back.oO ρ k (a::cs)=a.back ρ k::A.back.oO ρ k cs:=rfl
@[go_sem] theorem backO_box{ρ:List Nat}:Obj.back ρ k (.box cs)= .box (A.back.oO ρ k cs):=rfl
@[go_sem] theorem backO_row{ρ:List Nat}:Obj.back ρ k (.row n cs)= .row n cs:=rfl
@[go_sem] theorem frzA_eq{ρ:List Nat}:rq ρ H a=if a.meets ρ=true then(match a.nU ρ with|some x'=>(view H x').getD .any|none=> .any)else a:=rfl
@[go_sem] theorem meets_eq{ρ:List Nat}:A.meets ρ a=ρ.any fun n=>a.mem n:=rfl
@[go_sem] theorem frzO_box{ρ:List Nat}:Kw ρ H (.box cs)= .box (cs.map (rq ρ H)):=rfl
@[go_sem] theorem frzO_row{ρ:List Nat}:Kw ρ H (.row k cs)= .row k cs:=rfl
@[go_sem] theorem dropO_nil{ρ:List Nat}:so ρ [] H=H:=rfl
@[go_sem] theorem dropO_cons{ρ ns:List Nat}:so ρ (i::ns) H=so ρ ns (pQ H i (.row 0 [])):=rfl
@[go_sem] theorem startH_eq:Ky cs H={s:=number 0 cs,H:=H}:=rfl
@[go_sem] theorem bodyH_ret{fn:Func}:bodyH P fn a H .ret σ=K? (Ds P σ fn.results.toList) (fun rs=>nX rs=a/\a.under H.length=true/\xy H.length σ.H H):=rfl
@[go_sem] theorem bodyH_normal{fn:Func}:bodyH P fn a H .normal σ=K? (Ds P σ fn.results.toList) (fun rs=>nX rs=a/\a.under H.length=true/\xy H.length σ.H H):=rfl
@[go_sem] theorem rawL_nil:Ds P σ []=some []:=rfl
@[go_sem] theorem rawL_cons{v:ResultVar}{vs:List ResultVar}:Ds P σ (v::vs)=(WQ P σ v).bind fun x=>(Ds P σ vs).map (x:: ·):=rfl
@[go_sem] theorem raw_tmp{σs:List (Nat×A)}{gj:List Obj}:WQ P (St.mk σs gj) (.tmp i)=some (look σs i):=rfl
@[go_sem] theorem resOf_nil:nX []= .eV []:=rfl
@[go_sem] theorem callV_fn{Γ:aN}:EG Γ σ d (.fn n cs) ds=Nw Γ σ d n (ds++cs):=rfl
@[go_sem] theorem callX_eq{σs:List (Nat×A)}{gj:List Obj}{Γ:aN}:Nw Γ (St.mk σs gj) d n ds=(mT gj ds).bind fun bs=>(Γ.f n bs).bind fun r=>if(A.pure.cY ds||r.flat)=true then some ((St.mk σs gj).put d r)else none:=rfl
@[go_sem] theorem box_eq{σs:List (Nat×A)}{gj:List Obj}:Ba (St.mk σs gj) n d a=if a.val=true then some (((St.mk σs gj).ib n (.box a.cells)).put d (.ref n 0))else none:=rfl
@[go_sem] theorem alloc_some:te σ n d (some a)=Ba σ n d a:=rfl
@[go_sem] theorem store_ref{σs:List (Nat×A)}{gj:List Obj}{z:Option Nat}:tf (St.mk σs gj) d z (.ref n i) a=(match fe gj n with|some (.box cs)=>if z=some a.cells.length/\i+a.cells.length<=cs.length/\a.val=true then some (((St.mk σs gj).ib n (.box (jT cs i a.cells))).put d (.eV []))else none|_=>none):=rfl
@[go_sem] theorem store_eref{σs:List (Nat×A)}{gj:List Obj}{z:Option Nat}{j:Nat}:tf (St.mk σs gj) d z (.mz n j i) a=(match fe gj n with|some (.row k es)=>(es[j]?).bind fun e=>if z=some a.cells.length/\i+a.cells.length<=e.cells.length/\a.cells.length≠0/\a.val=true/\a.pure=true then some (((St.mk σs gj).ib n (.row k (fE es j (qK e i a)))).put d (.eV []))else none|_=>none):=rfl
@[go_sem] theorem storeE_agg:qK (.agg cs) i a= .agg (jT cs i a.norm.cells):=rfl
@[go_sem] theorem storeE_int:qK (.int q m) i a=a.norm:=rfl
@[go_sem] theorem storeE_str:qK (.str s) i a=a.norm:=rfl
@[go_sem] theorem splice_eq:jT cs i ds=cs.take i++ds++cs.drop (i+ds.length):=rfl
@[go_sem] theorem build_eq{ps:List (Nat×Operand)}:uP P t σ ps=(match iT P t with|some (.agg zs)=>(match jl P t with|some (_,e)=>(if(cW P e).isSome=true then(pC P e σ ps zs).map .agg else none)|none=>if lP P t=true then(pz P t σ ps zs).map .agg else none)|_=>none):=rfl
@[go_sem] theorem fillS_nil:pz P t σ [] cs=some cs:=rfl
@[go_sem] theorem fillS_cons{x:Operand}{ps:List (Nat×Operand)}:pz P t σ ((i,x)::ps) cs=(match fieldInfo P t i with|some (o,ft)=>(zk (cW P ft) o (σ.ev x) cs).bind (pz P t σ ps)|none=>none):=rfl
@[go_sem] theorem fillA_nil:pC P t σ [] cs=some cs:=rfl
@[go_sem] theorem fillA_cons{x:Operand}{ps:List (Nat×Operand)}:pC P t σ ((i,x)::ps) cs=(match cW P t with|some n=>(zk (some n) (i*n) (σ.ev x) cs).bind (pC P t σ ps)|none=>none):=rfl
@[go_sem] theorem fillC_some:zk (some n) i a cs=if a.cells.length=n/\i+n<=cs.length/\a.val=true then some (cs.take i++a.cells++cs.drop (i+n))else none:=rfl
@[go_sem] theorem buildSlice_eq{ps:List (Nat×Operand)}:ly P t n σ ps=(match cM P t with|some e=>(match cW P e,iT P e with|some k,some z=>if n*k<=16777216/\k≠0/\z.pure=true/\z.val=true/\z.cells.length=k then(nD k σ ps (List.replicate n z.norm)).map .clip else none|_,_=>none)|none=>none):=rfl
@[go_sem] theorem fillE_nil:nD k σ [] cs=some cs:=rfl
@[go_sem] theorem fillE_cons{x:Operand}{ps:List (Nat×Operand)}:nD k σ ((i,x)::ps) cs=if(σ.ev x).cells.length=k/\i<cs.length/\(σ.ev x).val=true/\(σ.ev x).pure=true then nD k σ ps (fE cs i (σ.ev x).norm)else none:=rfl
@[go_sem] theorem appendX_eq{fx:Nat->Bool}{x:A}:wB P fx σ n d t u a x=(match cM P t with|some e=>(match cW P e with|some k=>if k=0\/ke P e=0\/nq P e k=false then none else(Dr P σ e u k x).bind fun src=>td fx σ n d k (ke P e) a src|none=>none)|none=>none):=rfl
@[go_sem] theorem src_slc:Dr P σ t u k (.aw es)=if py k es=true/\(cM P u).isSome=true then some es else none:=rfl
@[go_sem] theorem src_clip:Dr P σ t u k (.clip es)=if py k es=true/\(cM P u).isSome=true then some es else none:=rfl
@[go_sem] theorem src_emp:Dr P σ t u k (.emp p)=if(cM P u).isSome=true then some []else none:=rfl
@[go_sem] theorem strOK_eq:py k es=(es.isEmpty||eR es==k):=rfl
@[go_sem] theorem stride_cons:eR (a::es)=a.cells.length:=rfl
@[go_sem] theorem append_nils{fx:Nat->Bool}{σs:List (Nat×A)}{gj:List Obj}:td fx (St.mk σs gj) n d k i .dX es=if es.length*i<=140737488355328 then some (((St.mk σs gj).ib n (.row k es)).put d (.row n 0 k es.length false))else none:=rfl
@[go_sem] theorem append_clip{fx:Nat->Bool}{σs:List (Nat×A)}{gj:List Obj}:td fx (St.mk σs gj) n d k i (.clip cs) es=if py k cs=true/\(cs=[]\/es≠ [])/\(cs.length+es.length)*i<=140737488355328 then some (((St.mk σs gj).ib n (.row k (cs++es))).put d (.row n 0 k (cs.length+es.length) false))else none:=rfl
@[go_sem] theorem append_row{fx:Nat->Bool}{σs:List (Nat×A)}{gj:List Obj}{m j l:Nat}:td fx (St.mk σs gj) n d k i (.row m 0 j l p) es=(match fe gj m with|some (.row HV xs)=>if j=k/\HV=k/\l<=xs.length/\(l+es.length)*i<=140737488355328 then(if p then(if es=[]then none else some (((St.mk σs gj).ib n (.row k (xs.take l++es))).put d (.row n 0 k (l+es.length) false)))else(if fx m=true then none else some ((((St.mk σs gj).lQ m).ib m (.row k (xs.take l++es))).put d (.row m 0 k (l+es.length) false))))else none|_=>none):=rfl
@[go_sem] theorem convX_eq{σs:List (Nat×A)}{gj:List Obj}:CB P (St.mk σs gj) n d t u a=if zm P t u=true then(match a with| .str s=>some (((St.mk σs gj).ib n (.row 1 (iU s))).put d (.row n 0 1 s.length false))|_=>none)else(sm P t u gj a).map ((St.mk σs gj).put d ·):=rfl
@[go_sem] theorem conv_int:sm P t u H (.int q m)=(match ur P u with|some k=>if(dM P t).isSome=true then some (.int k (k.wrap m))else none|none=>none):=rfl
@[go_sem] theorem conv_row{j:Nat}:sm P t u H (.row n i k j p)=qH (zl P t u) (mr H n i k j):=rfl
@[go_sem] theorem conv_clip:sm P t u H (.clip es)=qH (zl P t u) (some (.aw es)):=rfl
@[go_sem] theorem convB_some:qH true (some (.aw es))=(lO es).map .str:=rfl
@[go_sem] theorem slice_str{l h b:Bd}{z:Option Nat}:yg true z (.str s) l h b=Ku s l h b:=rfl
@[go_sem] theorem slice_slc{l h b:Bd}:yg p (some k) (.aw es) l h b=yf k es l h b:=rfl
@[go_sem] theorem slice_row{l h b:Bd}{j f:Nat}{x:Bool}:yg p (some f) (.row n i k j x) l h b=if f=k then Kv n i f j l h b else none:=rfl
@[go_sem] theorem sliceS_eq{l h:Bd}:Ku s l h .none=if 0<=l.get 0/\l.get 0<=h.get s.length/\h.get s.length<=s.length then some (.str ((s.take (h.get s.length).toNat).drop (l.get 0).toNat))else none:=rfl
@[go_sem] theorem sliceE_eq{l h:Bd}:yf k es l h .none=if py k es=true/\0<=l.get 0/\l.get 0<=h.get es.length/\h.get es.length<=es.length then some (.aw ((es.take (h.get es.length).toNat).drop (l.get 0).toNat))else none:=rfl
@[go_sem] theorem sliceE_eq3{l h:Bd}:yf k es l h (.some m)=if py k es=true/\0<=l.get 0/\l.get 0<=h.get es.length/\h.get es.length<=es.length/\m=h.get es.length/\h.ok3=true then some (.clip ((es.take (h.get es.length).toNat).drop (l.get 0).toNat))else none:=rfl
@[go_sem] theorem sliceR_eq{j:Nat}{l h:Bd}:Kv n i k j l h .none=if 0<=l.get 0/\l.get 0<=h.get j/\h.get j<=j then some (.row n (i+(l.get 0).toNat) k (h.get j-l.get 0).toNat false)else none:=rfl
@[go_sem] theorem ok3_some:Bd.ok3 (.some m)=true:=rfl
@[go_sem] theorem elSize_eq:yh P t=(match cM P t with|some e=>cW P e|none=>none):=rfl
@[go_sem] theorem scrub_eq{σs:List (Nat×A)}{gj:List Obj}:(St.mk σs gj).lQ n={s:=σs.map (fun p=>(p.1,jL n p.2)),H:=gj.map (tc n)}:=rfl
@[go_sem] theorem scrubA_eq:jL n a=if a.mem n=true then .any else a:=rfl
@[go_sem] theorem scrubO_box:tc n (.box cs)= .box (cs.map (jL n)):=rfl
@[go_sem] theorem scrubO_row:tc n (.row k cs)= .row k cs:=rfl
@[go_sem] theorem memL_nil:A.mem.me n []=false:=rfl
@[go_sem] theorem memL_cons:A.mem.me n (a::cs)=(a.mem n||A.mem.me n cs):=rfl
@[go_sem] theorem mem_agg:A.mem n (.agg cs)=A.mem.me n cs:=by simp[A.mem]
@[go_sem] theorem mem_fn:A.mem n (.fn i cs)=A.mem.me n cs:=by simp[A.mem]
@[go_sem] theorem mem_tup:A.mem n (.eV cs)=A.mem.me n cs:=by simp[A.mem]
@[go_sem] theorem mem_int:A.mem n (.int q m)=false:=by simp[A.mem]
@[go_sem] theorem mem_bool:A.mem n (.bool p)=false:=by simp[A.mem]
@[go_sem] theorem mem_str:A.mem n (.str s)=false:=by simp[A.mem]
@[go_sem] theorem mem_slc:A.mem n (.aw es)=false:=by simp[A.mem]
@[go_sem] theorem mem_clip:A.mem n (.clip es)=false:=by simp[A.mem]
@[go_sem] theorem mem_dptr:A.mem n (.jD es)=false:=by simp[A.mem]
@[go_sem] theorem mem_nils:A.mem n .dX=false:=by simp[A.mem]
@[go_sem] theorem mem_any:A.mem n .any=false:=by simp[A.mem]
@[go_sem] theorem mem_ref:A.mem n (.ref i k)=(i==n):=by simp[A.mem]
@[go_sem] theorem mem_eref{j:Nat}:A.mem n (.mz i j k)=(i==n):=by simp[A.mem]
@[go_sem] theorem mem_row{j l:Nat}:A.mem n (.row i j k l p)=(i==n):=by simp[A.mem]
@[go_sem] theorem under_agg:A.under n (.agg cs)=A.under.mA n cs:=by simp[A.under]
@[go_sem] theorem under_fn:A.under n (.fn i cs)=A.under.mA n cs:=by simp[A.under]
@[go_sem] theorem under_tup:A.under n (.eV cs)=A.under.mA n cs:=by simp[A.under]
@[go_sem] theorem underL_nil:A.under.mA n []=true:=rfl
@[go_sem] theorem underL_cons:A.under.mA n (a::cs)=(a.under n&&A.under.mA n cs):=rfl
@[go_sem] theorem under_int:A.under n (.int q m)=true:=by simp[A.under]
@[go_sem] theorem under_bool:A.under n (.bool p)=true:=by simp[A.under]
@[go_sem] theorem under_str:A.under n (.str s)=true:=by simp[A.under]
@[go_sem] theorem under_slc:A.under n (.aw es)=true:=by simp[A.under]
@[go_sem] theorem under_clip:A.under n (.clip es)=true:=by simp[A.under]
@[go_sem] theorem under_nils:A.under n .dX=true:=by simp[A.under]
@[go_sem] theorem under_any:A.under n .any=true:=by simp[A.under]
@[go_sem] theorem under_ref:A.under n (.ref i k)=decide (i<n):=by simp[A.under]
@[go_sem] theorem under_row{j l:Nat}:A.under n (.row i j k l p)=decide (i<n):=by simp[A.under]
@[go_sem] theorem EK:Bc P σ []=some []:=rfl
@[go_sem] theorem resL_cons{v:ResultVar}{vs:List ResultVar}:Bc P σ (v::vs)=(Nz P σ v).bind fun x=>(Bc P σ vs).map (x:: ·):=rfl
@[go_sem] theorem res_tmp{σs:List (Nat×A)}{gj:List Obj}:Nz P (St.mk σs gj) (.tmp i)=view gj (look σs i):=rfl
@[go_sem] theorem res_cell{σs:List (Nat×A)}{gj:List Obj}:Nz P (St.mk σs gj) (.cell i t)=resC P (St.mk σs gj) t (look σs i):=rfl
@[go_sem] theorem resC_ref{σs:List (Nat×A)}{gj:List Obj}:resC P (St.mk σs gj) t (.ref n i)=(match fe gj n with|some (.box cs)=>(oL P t (cs.drop i)).bind (view gj)|_=>none):=rfl
@[go_sem] theorem resOf_one:nX [a]=a:=rfl
@[go_sem] theorem resOf_two:nX (a::b::cs)= .eV (a::b::cs):=rfl
@[go_sem] theorem body_ret{fn:Func}{rX:A->Prop}:UC P fn rX .ret σ=K? (Bc P σ fn.results.toList) (fun rs=>rX (nX rs)):=rfl
@[go_sem] theorem body_normal{fn:Func}{rX:A->Prop}:UC P fn rX .normal σ=K? (Bc P σ fn.results.toList) (fun rs=>rX (nX rs)):=rfl
@[go_sem] theorem start_eq:Be cs={s:=number 0 cs,H:=[]}:=rfl
@[go_sem] theorem number_nil:number n []=[]:=rfl
@[go_sem] theorem number_cons:number n (a::cs)=(n,a)::number (n+1) cs:=rfl
end
attribute [go_sem] aR bC bA bw ba ay bo jq List.replicate_zero ie List.drop_succ_cons i_ List.drop_zero List.take_nil List.drop_nil List.head?_cons List.getElem?_cons_zero List.getElem?_cons_succ List.isEmpty_cons List.isEmpty_nil cw List.any_nil jE List.all_nil dY eT aZ Option.bind_none fa Option.getD_none Option.isSome_some Option.isSome_none jU Option.isNone_none ite_true ite_false ar ck aD bL aJ j8 cr eG bk bF bm beq_self_eq_true and_true true_and and_false false_and or_true true_or or_false false_or and_self
def xB(s:List (Nat×A)):List Nat->List (Nat×A)| []=>[]|d::ds=>(d,look s d)::xB s ds
def uT:List Obj->List (Nat×Obj)->List Obj|s,[]=>s|s,(d,v)::ds=>uT (pQ s d v) ds
def mi(σ:St)(ks:List Nat)(u:List (Nat×A))(h:List (Nat×Obj)):St:={s:=u++xB σ.s ks,H:=uT σ.H h}
theorem wC: ∀(hs:List (Nat×Obj)) (H:List Obj),(uT H hs).length=H.length| [],H=>rfl|(d,v)::ds,H=>by simp only[uT];rw[wC ds];clear ds;induction H generalizing d with|nil=>(rfl)|cons x xs ih=>(cases d<;>simp[pQ,ih])
theorem aW{P:Program}{Γ:aN}{c:Code}{Q:Ex->St->Prop}{σ:St}{ι:Type}(ks:List Nat)(u:ι->List (Nat×A))(h:ι->List (Nat×Obj))(μ:ι->Nat)(rY:ι)(hn:Γ.nf<=σ.H.length)(h0:σ.le (mi σ ks (u rY) (h rY)))(hs: ∀i,lz P Γ c (xA (fun τ=> ∃j,τ.le (mi σ ks (u j) (h j))/\μ j<μ i) Q) (mi σ ks (u i) (h i))):lz P Γ (.loop c) Q σ:=by (have hl: ∀i,Γ.nf<=(mi σ ks (u i) (h i)).H.length:=fun i=>by show Γ.nf<=(uT σ.H (h i)).length;rw[wC];exact hn);simp only[lz];refine⟨ι,fun i=>mi σ ks (u i) (h i),μ,⟨rY,.le (hl rY) h0⟩,fun i=> ?_⟩;refine zn (fun e τ hq=> ?_) (hs i);cases e with|normal=>(obtain⟨j,h1,h2⟩:=hq;exact⟨j,.le (hl j) h1,h2⟩)|exit id=>(exact hq)|ret=>(exact hq)
theorem HX{P:Program}{Γ:aN}{c:Code}{Q:Ex->St->Prop}{σ:St}(d:Nat)(es:List A)(hd:look σ.s d= .clip es)(hw:lz P Γ (.loop c) Q ⟨(d,.aw es)::σ.s,σ.H⟩):lz P Γ (.loop c) Q σ:=by simp only[lz]at hw⊢;obtain⟨ι,inv,μ,⟨i,hi⟩,hs⟩:=hw;exact⟨ι,inv,μ,⟨i,.wk d es hd hi⟩,hs⟩
theorem tn{P:Program}{Γ:aN}{c:Code}{Q:Ex->St->Prop}{σ:St}(ρ:List Nat)(hn:ρ.Nodup)(hf: ∀n∈ρ,Γ.nf<=n)(hw:K? (tg ρ σ.H ρ) fun fc=>lz P Γ (.loop c) Q (Jb ρ fc σ)):lz P Γ (.loop c) Q σ:=by obtain⟨fc,hH,hw⟩:=hw;simp only[lz]at hw⊢;obtain⟨ι,inv,μ,⟨i,hi⟩,hs⟩:=hw;exact⟨ι,inv,μ,⟨i,.uO ρ fc hn hH hf hi⟩,hs⟩
theorem WR{P:Program}{Γ:aN}{c:Code}{Q:Ex->St->Prop}{σ:St}{ι:Type}(ρ:List Nat)(xh:ρ.Nodup)(hf: ∀n∈ρ,Γ.nf<=n)(ks:List Nat)(u:ι->List (Nat×A))(h:ι->List (Nat×Obj))(μ:ι->Nat)(rY:ι)(hn:Γ.nf<=σ.H.length)(h0:σ.le (mi σ ks (u rY) (h rY)))(hs: ∀i,lz P Γ c (xA (fun τ=> ∃j,(τ.le (mi σ ks (u j) (h j))\/K? (tg ρ τ.H ρ) fun fc=>(Jb ρ fc τ).le (mi σ ks (u j) (h j)))/\μ j<μ i) Q) (mi σ ks (u i) (h i))):lz P Γ (.loop c) Q σ:=by (have hl: ∀i,Γ.nf<=(mi σ ks (u i) (h i)).H.length:=fun i=>by show Γ.nf<=(uT σ.H (h i)).length;rw[wC];exact hn);simp only[lz];refine⟨ι,fun i=>mi σ ks (u i) (h i),μ,⟨rY,.le (hl rY) h0⟩,fun i=> ?_⟩;refine zn (fun e τ hq=> ?_) (hs i);cases e with|normal=>(obtain⟨j,h1,h2⟩:=hq;rcases h1 with h1|⟨fc,hH,h1⟩;{exact⟨j,.le (hl j) h1,h2⟩};{exact⟨j,.uO ρ fc xh hH hf (.le (hl j) h1),h2⟩})|exit id=>(exact hq)|ret=>(exact hq)
@[go_sem] theorem frzSt_eq{ρ:List Nat}{fc:List Obj}{s:List (Nat×A)}{H:List Obj}:Jb ρ fc (St.mk s H)=⟨s.map (fun p=>(p.1,rq ρ fc p.2)),so ρ ρ (H.map (Kw ρ fc))⟩:=rfl
@[go_sem] theorem permSt_eq{ρ:List Nat}{s:List (Nat×A)}{H:List Obj}:yk ρ (St.mk s H)=⟨s.map (fun p=>(p.1,p.2.back ρ H.length)),qL ρ H.length ρ H H⟩:=rfl
theorem WS{P:Program}{Γ:aN}{c:Code}{Q:Ex->St->Prop}{σ:St}{ι:Type}(ρ:List Nat)(xh:ρ.Nodup)(bh: ∀n∈ρ,n<ρ.length)(hon: ∀n,n<ρ.length->n∈ρ)(hk: ∀i,i<Γ.nf->lD ρ ρ.length i=i)(ks:List Nat)(u:ι->List (Nat×A))(h:ι->List (Nat×Obj))(μ:ι->Nat)(rY:ι)(hn:Γ.nf<=σ.H.length)(h0:σ.le (mi σ ks (u rY) (h rY)))(hs: ∀i,lz P Γ c (xA (fun τ=> ∃j,(τ.le (mi σ ks (u j) (h j))\/(τ.H.length=ρ.length/\(yk ρ τ).le (mi σ ks (u j) (h j))))/\μ j<μ i) Q) (mi σ ks (u i) (h i))):lz P Γ (.loop c) Q σ:=by (have hl: ∀i,Γ.nf<=(mi σ ks (u i) (h i)).H.length:=fun i=>by show Γ.nf<=(uT σ.H (h i)).length;rw[wC];exact hn);simp only[lz];refine⟨ι,fun i=>mi σ ks (u i) (h i),μ,⟨rY,.le (hl rY) h0⟩,fun i=> ?_⟩;refine zn (fun e τ hq=> ?_) (hs i);cases e with|normal=>(obtain⟨j,h1,h2⟩:=hq;rcases h1 with h1|⟨hH,h1⟩;{exact⟨j,.le (hl j) h1,h2⟩};{exact⟨j,.perm ρ hH xh bh hon hk (.le (hl j) h1),h2⟩})|exit id=>(exact hq)|ret=>(exact hq)
theorem wD{P:Program}{Γ:aN}{c:Code}{Q:Ex->St->Prop}{σ:St}{ι:Type}(ks:List Nat)(u:ι->List (Nat×A))(h:ι->List Obj)(μ:ι->Nat)(rY:ι)(hn: ∀i,Γ.nf<=(h i).length)(h0:σ.le ⟨u rY++xB σ.s ks,h rY⟩)(hs: ∀i,lz P Γ c (xA (fun τ=> ∃j,τ.le ⟨u j++xB σ.s ks,h j⟩/\μ j<μ i) Q) ⟨u i++xB σ.s ks,h i⟩):lz P Γ (.loop c) Q σ:=by simp only[lz];refine⟨ι,fun i=>⟨u i++xB σ.s ks,h i⟩,μ,⟨rY,.le (hn rY) h0⟩,fun i=> ?_⟩;refine zn (fun e τ hq=> ?_) (hs i);cases e with|normal=>(obtain⟨j,h1,h2⟩:=hq;exact⟨j,.le (hn j) h1,h2⟩)|exit id=>(exact hq)|ret=>(exact hq)
theorem bZ{P:Program}{Γ:aN}{c:Code}{Q:Ex->St->Prop}{σ:St}(d k:Nat)(hd:look σ.s d= .dX)(hw:lz P Γ (.loop c) Q ⟨(d,.row σ.H.length 0 k 0 false)::σ.s,σ.H++[.row k []]⟩):lz P Γ (.loop c) Q σ:=by simp only[lz]at hw⊢;obtain⟨ι,inv,μ,⟨i,hi⟩,hs⟩:=hw;exact⟨ι,inv,μ,⟨i,.nil d k hd hi⟩,hs⟩
theorem HY{P:Program}{Γ:aN}{c:Code}{Q:Ex->St->Prop}{σ:St}(m:Nat)(cs:List A)(hm:fe σ.H m=some (.box cs))(hw:lz P Γ (.loop c) Q ⟨σ.s,pQ σ.H m (.box (cs.map nC))⟩):lz P Γ (.loop c) Q σ:=by simp only[lz]at hw⊢;obtain⟨ι,inv,μ,⟨j,hj⟩,hs⟩:=hw;exact⟨ι,inv,μ,⟨j,.wkb m cs hm hj⟩,hs⟩
theorem HZ{P:Program}{Γ:aN}{c:Code}{Q:Ex->St->Prop}{σ:St}(m i k:Nat)(cs:List A)(hm:fe σ.H m=some (.box cs))(hi:cs[i]? =some .dX)(hw:lz P Γ (.loop c) Q ⟨σ.s,pQ σ.H m (.box (fE cs i (.row σ.H.length 0 k 0 false)))++[.row k []]⟩):lz P Γ (.loop c) Q σ:=by simp only[lz]at hw⊢;obtain⟨ι,inv,μ,⟨j,hj⟩,hs⟩:=hw;exact⟨ι,inv,μ,⟨j,.nilb m i k cs hm hi hj⟩,hs⟩
section
variable{σ τ:St}{s:List (Nat×A)}{ks:List Nat}{H G:List Obj}{d n k:Nat}{v a b:A}{o p:Obj}{cs ds:List A}
@[go_sem] theorem keepS_nil:xB s []=[]:=rfl
@[go_sem] theorem keepS_cons:xB s (d::ks)=(d,look s d)::xB s ks:=rfl
@[go_sem] theorem updsH_nil:uT H []=H:=rfl
@[go_sem] theorem updsH_cons{hs:List (Nat×Obj)}:uT H ((n,o)::hs)=uT (pQ H n o) hs:=rfl
@[go_sem] theorem head_eq{σs:List (Nat×A)}{gj:List Obj}{u:List (Nat×A)}{hs:List (Nat×Obj)}:mi (St.mk σs gj) ks u hs={s:=u++xB σs ks,H:=uT gj hs}:=rfl
@[go_sem] theorem le_eq{s r:List (Nat×A)}{H G:List Obj}:(St.mk s H).le ⟨r,G⟩=(leS G.length s r/\xy G.length H G):=rfl
@[go_sem] theorem leS_nil:leS n s []=True:=rfl
@[go_sem] theorem leS_cons{r:List (Nat×A)}:leS n s ((d,v)::r)=((look s d=v/\v.under n=true)/\leS n s r):=rfl
@[go_sem] theorem leH_nil:xy n [] []=True:=by simp[xy]
@[go_sem] theorem leH_nil':xy n (o::H) []=True:=by simp[xy]
@[go_sem] theorem leH_cons:xy n (o::H) (p::G)=(UB n o p/\xy n H G):=by simp[xy]
@[go_sem] theorem leO_box:UB n (.box cs) (.box ds)=Nb n cs ds:=by simp[UB]
@[go_sem] theorem leO_row{j:Nat}:UB n (.row k cs) (.row j ds)=(k=j/\cs=ds):=by simp[UB]
@[go_sem] theorem leL_nil:Nb n [] []=True:=by simp[Nb]
@[go_sem] theorem leL_cons:Nb n (a::cs) (b::ds)=((b= .any\/(a=b/\b.under n=true))/\Nb n cs ds):=by simp[Nb]
end
attribute [go_sem] A.int.injEq A.bool.injEq A.str.injEq A.aw.injEq A.agg.injEq A.ref.injEq A.row.injEq A.eV.injEq A.fn.injEq
end Go.du
namespace Go.Proofs.YtfnohjheonlnmaaGreat
open Go.du
theorem mixed:Tryz.prog.follows .mixedOrders=true:=by kernel_rfl
@[go_sem] theorem ty0:lx Tryz.prog 3=false/\lC Tryz.prog 3=false/\nB Tryz.prog 3=false/\cM Tryz.prog 3=none/\cW Tryz.prog 3=some 1/\dM Tryz.prog 3=some false/\ur Tryz.prog 3=some .i64/\ke Tryz.prog 3=8/\iT Tryz.prog 3=some (.int .i64 0)/\ta Tryz.prog 3=none/\lC Tryz.prog 4=true/\nB Tryz.prog 4=false/\cM Tryz.prog 4=none/\cW Tryz.prog 4=some 1/\dM Tryz.prog 4=some false/\ta Tryz.prog 4=none/\lx Tryz.prog 5=false/\lC Tryz.prog 5=false/\nB Tryz.prog 5=false/\cM Tryz.prog 5=none/\cW Tryz.prog 5=some 1/\dM Tryz.prog 5=some false/\ur Tryz.prog 5=some .u8/\iT Tryz.prog 5=some (.int .u8 0)/\ta Tryz.prog 5=none/\lx Tryz.prog 9=true/\lC Tryz.prog 9=false/\nB Tryz.prog 9=false/\cM Tryz.prog 9=none/\jl Tryz.prog 9=none/\cW Tryz.prog 9=some 1/\dM Tryz.prog 9=some false/\ke Tryz.prog 9=16/\iT Tryz.prog 9=some (.str [])/\ta Tryz.prog 9=none/\cM Tryz.prog 23=some 70/\cW Tryz.prog 23=some 1/\dM Tryz.prog 23=some false/\iT Tryz.prog 23=some .dX/\lC Tryz.prog 26=false:=by and_intros<;>kernel_rfl
@[go_sem] theorem ty1:nB Tryz.prog 26=false/\cM Tryz.prog 26=some 50/\cW Tryz.prog 26=some 1/\dM Tryz.prog 26=some false/\ke Tryz.prog 26=24/\iT Tryz.prog 26=some .dX/\ta Tryz.prog 26=none/\cM Tryz.prog 27=some 139/\cW Tryz.prog 27=some 1/\dM Tryz.prog 27=some false/\iT Tryz.prog 27=some .dX/\jl Tryz.prog 29=none/\cW Tryz.prog 29=some 5/\dM Tryz.prog 29=some true/\lP Tryz.prog 29=true/\iT Tryz.prog 29=some (.agg [.int .i64 0,.dX,.dX,.dX,.int .i64 0])/\fieldInfo Tryz.prog 29 0=some (0,3)/\fieldInfo Tryz.prog 29 1=some (1,26)/\fieldInfo Tryz.prog 29 2=some (2,23)/\fieldInfo Tryz.prog 29 3=some (3,27)/\fieldInfo Tryz.prog 29 4=some (4,3)/\lC Tryz.prog 32=false/\nB Tryz.prog 32=false/\cM Tryz.prog 32=none/\ta Tryz.prog 32=none/\cM Tryz.prog 45=some 104/\lC Tryz.prog 50=false/\nB Tryz.prog 50=false/\cM Tryz.prog 50=none/\jl Tryz.prog 50=none/\cW Tryz.prog 50=some 3/\dM Tryz.prog 50=some true/\ke Tryz.prog 50=40/\lP Tryz.prog 50=true/\iT Tryz.prog 50=some (.agg [.str [],.str [],.bool false])/\ta Tryz.prog 50=some [.str,.str,.bool]/\fieldInfo Tryz.prog 50 0=some (0,9)/\fieldInfo Tryz.prog 50 1=some (1,9)/\fieldInfo Tryz.prog 50 2=some (2,4)/\lC Tryz.prog 62=false:=by and_intros<;>kernel_rfl
@[go_sem] theorem ty2:nB Tryz.prog 62=false/\cM Tryz.prog 62=none/\cW Tryz.prog 62=some 1/\dM Tryz.prog 62=some false/\ta Tryz.prog 62=none/\cM Tryz.prog 63=none/\jl Tryz.prog 63=some (2,62)/\lC Tryz.prog 68=false/\nB Tryz.prog 68=false/\cM Tryz.prog 68=none/\jl Tryz.prog 68=none/\cW Tryz.prog 68=some 2/\dM Tryz.prog 68=some true/\ke Tryz.prog 68=16/\lP Tryz.prog 68=true/\iT Tryz.prog 68=some (.agg [.int .i64 0,.int .i64 0])/\ta Tryz.prog 68=some [.int .i64,.int .i64]/\fieldInfo Tryz.prog 68 0=some (0,3)/\fieldInfo Tryz.prog 68 1=some (1,3)/\lC Tryz.prog 70=false/\nB Tryz.prog 70=false/\cM Tryz.prog 70=none/\jl Tryz.prog 70=none/\cW Tryz.prog 70=some 7/\dM Tryz.prog 70=some true/\ke Tryz.prog 70=72/\lP Tryz.prog 70=true/\iT Tryz.prog 70=some (.agg [.str [],.int .i64 0,.int .i64 0,.int .i64 0,.int .i64 0,.bool false,.str []])/\ta Tryz.prog 70=some [.str,.int .i64,.int .i64,.int .i64,.int .i64,.bool,.str]/\fieldInfo Tryz.prog 70 0=some (0,9)/\fieldInfo Tryz.prog 70 1=some (1,68)/\fieldInfo Tryz.prog 70 2=some (3,3)/\fieldInfo Tryz.prog 70 3=some (4,3)/\fieldInfo Tryz.prog 70 4=some (5,4)/\fieldInfo Tryz.prog 70 5=some (6,9)/\cM Tryz.prog 78=none/\jl Tryz.prog 78=some (2,29)/\lC Tryz.prog 104=false/\nB Tryz.prog 104=false/\cM Tryz.prog 104=none:=by and_intros<;>kernel_rfl
@[go_sem] theorem ty3:jl Tryz.prog 104=none/\cW Tryz.prog 104=some 4/\dM Tryz.prog 104=some true/\lP Tryz.prog 104=true/\iT Tryz.prog 104=some (.agg [.int .i64 0,.int .i64 0,.str [],.str []])/\ta Tryz.prog 104=some [.int .i64,.int .i64,.str,.str]/\fieldInfo Tryz.prog 104 0=some (0,3)/\fieldInfo Tryz.prog 104 1=some (1,3)/\fieldInfo Tryz.prog 104 2=some (2,9)/\fieldInfo Tryz.prog 104 3=some (3,9)/\lx Tryz.prog 113=false/\cM Tryz.prog 113=some 9/\jl Tryz.prog 113=none/\jl Tryz.prog 119=none/\lP Tryz.prog 119=true/\iT Tryz.prog 119=some (.agg [.int .i64 0,.dX,.dX,.dX,.int .i64 0,.int .i64 0,.dX,.dX,.dX,.int .i64 0])/\fieldInfo Tryz.prog 119 0=some (0,29)/\fieldInfo Tryz.prog 119 1=some (5,29)/\lx Tryz.prog 134=false/\cM Tryz.prog 134=some 68/\jl Tryz.prog 134=none/\cM Tryz.prog 137=some 143/\cW Tryz.prog 137=some 1/\dM Tryz.prog 137=some false/\jl Tryz.prog 139=none/\cW Tryz.prog 139=some 4/\dM Tryz.prog 139=some true/\ke Tryz.prog 139=64/\lP Tryz.prog 139=true/\iT Tryz.prog 139=some (.agg [.str [],.str [],.bool false,.dX])/\fieldInfo Tryz.prog 139 0=some (0,50)/\fieldInfo Tryz.prog 139 1=some (3,137)/\lC Tryz.prog 141=false/\nB Tryz.prog 141=false/\cM Tryz.prog 141=some 146/\cW Tryz.prog 141=some 1/\dM Tryz.prog 141=some false/\ta Tryz.prog 141=none/\jl Tryz.prog 143=none/\cW Tryz.prog 143=some 2:=by and_intros<;>kernel_rfl
@[go_sem] theorem ty4:dM Tryz.prog 143=some true/\ke Tryz.prog 143=32/\lP Tryz.prog 143=true/\iT Tryz.prog 143=some (.agg [.int .i64 0,.dX])/\fieldInfo Tryz.prog 143 0=some (0,3)/\fieldInfo Tryz.prog 143 1=some (1,141)/\lC Tryz.prog 146=false/\nB Tryz.prog 146=false/\cM Tryz.prog 146=none/\jl Tryz.prog 146=none/\cW Tryz.prog 146=some 2/\dM Tryz.prog 146=some true/\ke Tryz.prog 146=16/\lP Tryz.prog 146=true/\iT Tryz.prog 146=some (.agg [.int .i64 0,.int .i64 0])/\ta Tryz.prog 146=some [.int .i64,.int .i64]/\fieldInfo Tryz.prog 146 0=some (0,3)/\fieldInfo Tryz.prog 146 1=some (1,3)/\lx Tryz.prog 182=false/\cM Tryz.prog 182=some 26/\jl Tryz.prog 182=none/\cM Tryz.prog 193=some 23/\cM Tryz.prog 195=some 27/\lx Tryz.prog 198=false/\cM Tryz.prog 198=some 5/\cM Tryz.prog 200=none/\jl Tryz.prog 200=some (16,141)/\cW Tryz.prog 200=some 16/\dM Tryz.prog 200=some true/\iT Tryz.prog 200=some (.agg [.dX,.dX,.dX,.dX,.dX,.dX,.dX,.dX,.dX,.dX,.dX,.dX,.dX,.dX,.dX,.dX])/\lx Tryz.prog 224=false/\cM Tryz.prog 224=some 3/\jl Tryz.prog 224=none/\lx Tryz.prog 228=false/\lC Tryz.prog 228=false/\nB Tryz.prog 228=false/\cM Tryz.prog 228=none/\dM Tryz.prog 228=some false/\ur Tryz.prog 228=some .u64/\ta Tryz.prog 228=none:=by and_intros<;>kernel_rfl
@[go_sem] theorem ty5:lx Tryz.prog 248=false/\lC Tryz.prog 248=false/\nB Tryz.prog 248=false/\cM Tryz.prog 248=none/\dM Tryz.prog 248=some false/\ta Tryz.prog 248=none/\jl Tryz.prog 270=some (2,26)/\iT Tryz.prog 270=some (.agg [.dX,.dX])/\nq Tryz.prog 3 1=true/\nq Tryz.prog 9 1=true/\nq Tryz.prog 26 1=true/\nq Tryz.prog 50 3=true/\nq Tryz.prog 68 2=true/\nq Tryz.prog 70 7=true/\nq Tryz.prog 139 4=true/\nq Tryz.prog 143 2=true/\nq Tryz.prog 146 2=true:=by and_intros<;>kernel_rfl
end Go.Proofs.YtfnohjheonlnmaaGreat
namespace Go.du
open Go.RowKit
theorem dc{E:Env}: ∀{cs:List A} {vs:List Value},cJ E cs vs ↔ cs.length=vs.length/\ ∀(i:Nat) (x:A) (v:Value),cs[i]? =some x->vs[i]? =some v->bW E x v| [],vs=>by simp only[cJ];constructor;{rintro rfl;exact⟨rfl,fun i x v h=>by simp at h⟩};{rintro⟨h,_⟩;exact aU.1 h.symm}|c::cs,vs=>by simp only[cJ];constructor;{rintro⟨v,qa,rfl,hc,hl⟩;obtain⟨h1,h2⟩:=dc.1 hl;refine⟨by simp[h1],fun i x u hx hu=> ?_⟩;cases i with|zero=>(simp at hx hu;subst hx;subst hu;exact hc)|succ i=>(exact h2 i x u (by simpa using hx) (by simpa using hu))};{rintro⟨h1,h2⟩;cases vs with|nil=>(simp at h1)|cons v vs=>(exact⟨v,vs,rfl,h2 0 c v rfl rfl,dc.2 ⟨by simpa using h1,fun i x u hx hu=>h2 (i+1) x u (by simpa using hx) (by simpa using hu)⟩⟩)}
theorem dd{E:Env}{b:Nat}: ∀{cs:List A} {off:Nat},mf E b off cs ↔∀(i:Nat) (x:A),cs[i]? =some x-> ∃v,E.w.cell? ⟨b,off+i,none⟩=some v/\v.oneCell'=true/\bW E x v| [],off=>by simp[mf]|c::cs,off=>by simp only[mf];constructor;{rintro⟨h1,h2⟩ i x hx;cases i with|zero=>(simp at hx;subst hx;simpa using h1)|succ i=>(have:=dd.1 h2 i x (by simpa using hx);rwa [show off+1+i=off+(i+1) by omega]at this)};{intro h;refine⟨by simpa using h 0 c rfl,dd.2 fun i x hx=> ?_⟩;have:=h (i+1) x (by simpa using hx);rwa [show off+(i+1)=off+1+i by omega]at this}
theorem NA{E:Env}{b off:Nat}{x:A}:mf E b off [x] ↔∃v,E.w.cell? ⟨b,off,none⟩=some v/\v.oneCell'=true/\bW E x v:=by simp[mf]
theorem sq{E:Env}{k b off:Nat}{e:A}{es:List A}:j0 E k b off (e::es) ↔ (e.cells.length=k/\mf E b off e.cells)/\j0 E k b (off+k) es:=by cases e;(case agg cs=>rw[Nr];simp[A.cells]);all_goals simp only[j0,A.cells,mf,ay,bo,bR,and_true];constructor;{rintro⟨⟨h1,h2⟩,h3⟩;exact⟨⟨h1.symm,h2⟩,h3⟩};{rintro⟨⟨h1,h2⟩,h3⟩;exact⟨⟨h1.symm,h2⟩,h3⟩}
theorem ig{E:Env}{k b:Nat}: ∀{es:List A} {off:Nat},j0 E k b off es ↔∀(i:Nat) (e:A),es[i]? =some e->e.cells.length=k/\mf E b (off+i*k) e.cells| [],off=>by simp[j0]|e::es,off=>by rw[sq];constructor;{rintro⟨h1,h2⟩ i x hx;cases i with|zero=>(simp at hx;subst hx;simpa using h1)|succ i=>(have:=ig.1 h2 i x (by simpa using hx);rwa [show off+k+i*k=off+(i+1)*k by rw[cP];omega]at this)};{intro h;refine⟨by simpa using h 0 e rfl,ig.2 fun i x hx=> ?_⟩;have:=h (i+1) x (by simpa using hx);rwa [show off+(i+1)*k=off+k+i*k by rw[cP];omega]at this}
theorem nE{E:Env}{b off n:Nat}{cs:List A}(h:mf E b off cs):mf E b (off+n) (cs.drop n):=dd.2 fun i x hx=>by have:=dd.1 h (n+i) x (by simpa[eD]using hx);rwa [show off+(n+i)=off+n+i by omega]at this
theorem WT{E:Env}{b off n:Nat}{cs:List A}(h:mf E b off cs):mf E b off (cs.take n):=dd.2 fun i x hx=>dd.1 h i x (by rw[dZ]at hx;split at hx;{exact hx};{simp at hx})
theorem Bf{E:Env}{k b off n:Nat}{es:List A}(h:j0 E k b off es):j0 E k b (off+n*k) (es.drop n):=ig.2 fun i x hx=>by have:=ig.1 h (n+i) x (by simpa[eD]using hx);rwa [show off+(n+i)*k=off+n*k+i*k by rw[cP];omega]at this
theorem sr{E:Env}{k b off n:Nat}{es:List A}(h:j0 E k b off es):j0 E k b off (es.take n):=ig.2 fun i x hx=>ig.1 h i x (by rw[dZ]at hx;split at hx;{exact hx};{simp at hx})
theorem wE{E:Env}{b:Nat}: ∀{cs:List A} {off:Nat},mf E b off cs-> ∃vs:List Value,E.w.rangeAt b off vs/\cJ E cs vs/\ ∀u∈vs,u.oneCell'=true| [],off,_=>⟨[],fun j v h=>by simp at h,by simp[cJ],by simp⟩|c::cs,off,h=>by simp only[mf]at h;obtain⟨⟨v,hv,h1,hc⟩,hl⟩:=h;obtain⟨vs,hr,hL,gm⟩:=wE hl;refine⟨v::vs,fun j u hu=> ?_,by simp only[cJ];exact⟨v,vs,rfl,hc,hL⟩, ?_⟩;{cases j with|zero=>(simp at hu;subst hu;simpa using hv)|succ j=>(have:=hr j u (by simpa using hu);rwa [show off+1+j=off+(j+1) by omega]at this)};{intro u hu;rcases aB.1 hu with rfl|hu;{exact h1};{exact gm u hu}}
theorem tp{E:Env}{b:Nat}: ∀{cs:List A} {off:Nat} {vs:List Value},E.w.rangeAt b off vs->cJ E cs vs->(∀u∈vs,u.oneCell'=true)->mf E b off cs:=by
 intro cs off vs hr hL h1;obtain⟨hlen,gh⟩:=dc.1 hL;refine dd.2 fun i x hx=> ?_;have hi:i<vs.length:=by rw[<-hlen];exact(ax.1 hx).1
 have hv:vs[i]? =some vs[i]:=ad hi;exact⟨vs[i],hr i _ hv,h1 _ (ai hi),gh i x _ hx hv⟩
theorem Bg{E:Env}{n:Nat}: ∀{cs:List A} {vs:List Value},cJ E cs vs->cJ E (cs.take n) (vs.take n):=by intro cs vs h;obtain⟨h1,h2⟩:=dc.1 h;refine dc.2 ⟨by simp[h1],fun i x v hx hv=> ?_⟩;rw[dZ]at hx hv;split at hx;{rename_i hi;rw[if_pos hi]at hv;exact h2 i x v hx hv};{simp at hx}
theorem Bh{E:Env}{n:Nat}: ∀{cs:List A} {vs:List Value},cJ E cs vs->cJ E (cs.drop n) (vs.drop n):=by intro cs vs h;obtain⟨h1,h2⟩:=dc.1 h;refine dc.2 ⟨by simp[h1],fun i x v hx hv=> ?_⟩;rw[eD]at hx hv;exact h2 _ x v hx hv
theorem nF{E:Env}: ∀{cs ds:List A} {vs us:List Value},cJ E cs vs->cJ E ds us->cJ E (cs++ds) (vs++us)| [],ds,vs,us,h,h'=>by simp only[cJ]at h;subst h;simpa using h'|c::cs,ds,vs,us,h,h'=>by simp only[cJ]at h;obtain⟨v,qa,rfl,hc,hl⟩:=h;simp only[bA,cJ];exact⟨v,qa++us,rfl,hc,nF hl h'⟩
theorem nG{E:Env}{x:A}{v:Value}(h:bW E x v)(hv:x.val=true):cJ E x.cells v.cells.toList/\(∀u∈v.cells.toList,u.oneCell'=true)/\v.cells.size=x.cells.length:=by cases x;(case any=>simp[A.val]at hv);(case eV=>simp[A.val]at hv);(case agg cs=>simp only[bW]at h;obtain⟨vs,rfl,hl,h1⟩:=h;simp only[Value.cells,A.cells];exact⟨by simpa using hl,by simpa using h1,by simpa using(dc.1 hl).1.symm⟩);(case aw es=>have h0:=h;simp only[bW]at h;obtain⟨_,a,cap,rfl,_⟩:=h;simp only[Value.cells,A.cells,cJ];exact⟨⟨_,[],rfl,h0,rfl⟩,by simp[Value.oneCell'],rfl⟩);(case clip es=>have h0:=h;simp only[bW]at h;obtain⟨_,a,rfl,_⟩:=h;simp only[Value.cells,A.cells,cJ];exact⟨⟨_,[],rfl,h0,rfl⟩,by simp[Value.oneCell'],rfl⟩);(case jD es=>have h0:=h;simp only[bW]at h;obtain⟨_,a,off,rfl,_⟩:=h;simp only[Value.cells,A.cells,cJ];exact⟨⟨_,[],rfl,h0,rfl⟩,by simp[Value.oneCell'],rfl⟩);(case emp c=>have h0:=h;simp only[bW]at h;obtain⟨q,cap,rfl,_⟩:=h;simp only[Value.cells,A.cells,cJ];exact⟨⟨_,[],rfl,h0,rfl⟩,by simp[Value.oneCell'],rfl⟩);(case ref n off=>have h0:=h;simp only[bW]at h;obtain⟨b,k,_,rfl⟩:=h;simp only[Value.cells,A.cells,cJ];exact⟨⟨_,[],rfl,h0,rfl⟩,by simp[Value.oneCell'],rfl⟩);(case mz n i off=>have h0:=h;simp only[bW]at h;obtain⟨b,k,_,rfl⟩:=h;simp only[Value.cells,A.cells,cJ];exact⟨⟨_,[],rfl,h0,rfl⟩,by simp[Value.oneCell'],rfl⟩);(case row n off k len c=>have h0:=h;simp only[bW]at h;rcases h with⟨o,_,_,_,_,a,rfl⟩|⟨b,cap,c,e,fr,_,rfl,_⟩;all_goals simp only[Value.cells,A.cells,cJ];exact⟨⟨_,[],rfl,h0,rfl⟩,by simp[Value.oneCell'],rfl⟩);(case fn f cs=>have h0:=h;simp only[bW]at h;obtain⟨vs,rfl,_⟩:=h;simp only[Value.cells,A.cells,cJ];exact⟨⟨_,[],rfl,h0,rfl⟩,by simp[Value.oneCell'],rfl⟩);all_goals have h0:=h;simp only[bW]at h;subst h;simp only[Value.cells,A.cells,cJ];exact⟨⟨_,[],rfl,h0,rfl⟩,by simp[Value.oneCell'],rfl⟩
def ss(c:Array Value)(fr:Nat×Nat):Prop:= ∀j,j<c.size-> ¬(fr.1<=j/\j<fr.2)
def cg(E:Env):Obj->iu->Prop| .box cs,.loc b _=>(∃c e fr,E.w.heap[b]? =some (.cells c e fr)/\ss c fr)/\mf E b 0 cs| .row k es,.loc b k'=>k=k'/\A.pure.cY es=true/\(∃c e fr,E.w.heap[b]? =some (.cells c e fr)/\ss c fr)/\j0 E k b 0 es| .row _ es,.nil=>es=[]| .row k es,.free=>k=0/\es=[]| .box _,_=>False
def bz(N0:Nat->Prop)(φ:List iu)(w:World):Env:=⟨fun b=>N0 b\/ ∃n k:Nat,φ[n]? =some (iu.loc b k),φ,w⟩
structure pD extends World where
 M:Nat->Prop
 fix:Nat->Bool
 WU:List iu
structure Kept(w0:pD)(w:World):Prop where
 os:w.os=w0.os
 tape:w.tape=w0.tape
 output:w.output=w0.output
 drawn:w0.drawn<=w.drawn
 size:w0.heap.size<=w.heap.size
 block: ∀b,b<w0.heap.size-> ¬w0.M b->w.heap[b]? =w0.heap[b]?
 shape: ∀(b:Nat) (c:Array Value) (e:TypeId) (fr:Nat×Nat),w0.heap[b]? =some (.cells c e fr)-> ∃c' Q6,w.heap[b]? =some (.cells c' e Q6)/\c'.size=c.size
structure cp(N0:Nat->Prop)(w0:pD)(nt:Nat)(σ:St)(φ:List iu)(a:Act)(w:World):Prop where
 gn: ∀d,bW (bz N0 φ w) (look σ.s d) (a.tmps.getD d undef)
 size:a.tmps.size=nt
 defers:a.defers=[]
 len:φ.length=σ.H.length
 gO: ∀(n:Nat) (o:Obj) (p:iu),fe σ.H n=some o->φ[n]? =some p->cg (bz N0 φ w) o p
 own: ∀n b k:Nat,φ[n]? =some (iu.loc b k)->(w0.heap.size<=b\/w0.M b)/\b<w.heap.size
 inj: ∀n m b k k':Nat,φ[n]? =some (iu.loc b k)->φ[m]? =some (iu.loc b k')->n=m
 n0: ∀b,N0 b->b<w0.heap.size/\ ¬w0.M b
 qb: ∀(n:Nat) (p:iu),w0.fix n=true->w0.WU[n]? =some p->p≠ .free->φ[n]? =some p
 below:Kept w0 w
theorem dU: ∀(H:List Obj) (n:Nat),fe H n=H[n]?| [],n=>by simp[fe]|x::xs,0=>by simp[fe]|x::xs,n+1=>by simp[fe,dU xs n]
theorem jr: ∀(H:List Obj) (n:Nat) (o:Obj),pQ H n o=H.set n o| [],n,o=>by simp[pQ]|x::xs,0,o=>by simp[pQ]|x::xs,n+1,o=>by simp[pQ,jr xs n o]
theorem l9: ∀(H:List A) (n:Nat) (o:A),fE H n o=H.set n o| [],n,o=>by simp[fE]|x::xs,0,o=>by simp[fE]|x::xs,n+1,o=>by simp[fE,l9 xs n o]
section
variable{N0:Nat->Prop}{w0:pD}{nt:Nat}{σ:St}{φ:List iu}{a:Act}{w:World}
theorem cg.mono{K:Nat->Prop}{E E':Env}(h:Ext K E E'){o:Obj}{p:iu}(hr:cg E o p)(hp: ∀b k,p=iu.loc b k-> ∀c e fr,E.w.heap[b]? =some (.cells c e fr)->E'.w.heap[b]? =some (.cells c e fr))(hk: ∀cs,o= .box cs-> ∀n,A.mem.me n cs=true->K n):cg E' o p:=by cases o with|box cs=>(cases p with|loc b k=>(simp only[cg]at hr⊢;obtain⟨⟨c,e,fr,hc,hf⟩,hm⟩:=hr;have A4:=hp b k rfl c e fr hc;refine⟨⟨c,e,fr,A4,hf⟩,dd.2 fun i x hx=> ?_⟩;obtain⟨v,hv,h1,gh⟩:=dd.1 hm i x hx;refine⟨v,by simpa only[World.cell?,hc,A4]using hv,h1,bW.mono h x v gh fun n hn=>hk cs rfl n ?_⟩;have oV:=cx hx;clear hx hm hk;induction cs with|nil=>(simp at oV)|cons y ys ih=>(rcases aB.1 oV with rfl|nQ;{simp[A.mem.me,hn]};{simp[A.mem.me,ih nQ]}))|_=>(simp[cg]at hr))|row k es=>(cases p with|loc b k'=>(simp only[cg]at hr⊢;obtain⟨WV,xC,⟨c,e,fr,hc,hf⟩,hm⟩:=hr;have A4:=hp b k' rfl c e fr hc;refine⟨WV,xC,⟨c,e,fr,A4,hf⟩,ig.2 fun i x hx=> ?_⟩;obtain⟨hl,hmm⟩:=ig.1 hm i x hx;refine⟨hl,dd.2 fun j y hy=> ?_⟩;obtain⟨v,hv,h1,gh⟩:=dd.1 hmm j y hy;refine⟨v,by simpa only[World.cell?,hc,A4]using hv,h1,bW.mono h y v gh fun n hn=> ?_⟩;exfalso;(have hpx:x.pure=true:=by have oV:=cx hx;clear hx hm hk;induction es with|nil=>(simp at oV)|cons z zs ih=>(simp only[A.pure.cY,aj]at xC;rcases aB.1 oV with rfl|nQ;{exact xC.1};{exact ih xC.2 nQ}));(have hpy:y.pure=true:=by have oV:=cx hy;cases x;(case agg cs=>simp only[A.pure]at hpx;simp only[A.cells]at oV;clear hy hmm hl hx;induction cs with|nil=>(simp at oV)|cons z zs ih=>(simp only[A.pure.cY,aj]at hpx;rcases aB.1 oV with rfl|nQ;{exact hpx.1};{exact ih hpx.2 nQ}));all_goals simp only[A.cells,aP]at oV;subst oV;exact hpx);rw[A.rF n y hpy]at hn;cases hn)|nil=>(simpa only[cg]using hr)|free=>(simpa only[cg]using hr))
structure j5(w w':World):Prop where
 size:w.heap.size<=w'.heap.size
 block: ∀b,b<w.heap.size->w'.heap[b]? =w.heap[b]?
 os:w'.os=w.os
 tape:w'.tape=w.tape
 output:w'.output=w.output
 drawn:w.drawn<=w'.drawn
theorem j5.refl(w:World):j5 w w:=⟨ae _,fun _ _=>rfl,rfl,rfl,rfl,ae _⟩
theorem j5.trans{w w' w'':World}(h:j5 w w')(h':j5 w' w''):j5 w w'':=⟨aK h.size h'.size,fun b hb=>(h'.block b (cL hb h.size)).trans (h.block b hb),h'.os.trans h.os,h'.tape.trans h.tape,h'.output.trans h.output,aK h.drawn h'.drawn⟩
theorem j5.alloc(w:World)(o:Go.Obj):j5 w (w.alloc o):=⟨by simp,fun b hb=>Below.heap_alloc w o b hb,rfl,rfl,rfl,ae _⟩
theorem j5.drew(w:World):j5 w w.drew:=⟨ae _,fun _ _=>rfl,rfl,rfl,rfl,Nat.le_succ _⟩
theorem j5.toBelow{w w':World}(g:j5 w w'):Below w.heap.size w w':=⟨g.os,g.tape,g.output,g.size,g.block⟩
theorem Kept.refl(w0:pD):Kept w0 w0.toWorld:=⟨rfl,rfl,rfl,ae _,ae _,fun _ _ _=>rfl,fun _ c _ fr h=>⟨c,fr,h,rfl⟩⟩
theorem j5.below{w0:pD}{w w':World}(h:Kept w0 w)(g:j5 w w'):Kept w0 w' where
 os:=g.os.trans h.os
 tape:=g.tape.trans h.tape
 output:=g.output.trans h.output
 drawn:=aK h.drawn g.drawn
 size:=aK h.size g.size
 block:=fun b hb hM=>(g.block b (cL hb h.size)).trans (h.block b hb hM)
 shape:=fun b c e fr hc=>by obtain⟨c',Q6,h1,h2⟩:=h.shape b c e fr hc;have hb:b<w.heap.size:=(bQ.1 h1).1;exact⟨c',Q6,by rw[g.block b hb];exact h1,h2⟩
theorem cp.EL(h:cp N0 w0 nt σ φ a w){w':World}(g:j5 w w'):Ext (fun _=>True) (bz N0 φ w) (bz N0 φ w') where
 size:=g.size
 Ns:=fun b hb hn=>⟨hn,g.block b hb⟩
 refs:=fun n o _ ho _=>ho
 own:=fun n b k c e fr _ ho hc=>⟨c,fr,by have:=(h.own n b k ho).2;show w'.heap[b]? =_;rw[g.block b this];exact hc,rfl⟩
theorem cp.WW(h:cp N0 w0 nt σ φ a w){w':World}(g:j5 w w'):cp N0 w0 nt σ φ a w' where
 gn:=fun d=>bW.mono (h.EL g) _ _ (h.gn d) (fun _ _=>trivial)
 size:=h.size
 defers:=h.defers
 len:=h.len
 gO:=fun n o p ho hp=>cg.mono (h.EL g) (h.gO n o p ho hp) (fun b k hb c e fr hc=>by subst hb;show w'.heap[b]? =_;rw[g.block b (h.own n b k hp).2];exact hc) (fun _ _ _ _=>trivial)
 own:=fun n b k hb=>⟨(h.own n b k hb).1,cL (h.own n b k hb).2 g.size⟩
 inj:=h.inj
 n0:=h.n0
 qb:=h.qb
 below:=g.below h.below
theorem cp.rep_grew(h:cp N0 w0 nt σ φ a w){w':World}(g:j5 w w'){x:A}{v:Value}(hr:bW (bz N0 φ w) x v):bW (bz N0 φ w') x v:=bW.mono (h.EL g) x v hr (fun _ _=>trivial)
theorem getD_put{a:Act}{d:Nat}{v:Value}(hd:d<a.tmps.size)(t:Nat):(a.put (some d) v).tmps.getD t undef=if d=t then v else a.tmps.getD t undef:=by simp only[Act.put];by_cases ht:d=t;{subst ht;simp[Array.getD,hd]};{rw[if_neg ht];simp only[Array.getD_eq_getD_getElem?,Array.getElem?_setIfInBounds];rw[if_neg ht]}
theorem cp.put(h:cp N0 w0 nt σ φ a w){d:Option Tmp}(hd: ∀t,d=some t->t<nt){x:A}{v:Value}(hr:bW (bz N0 φ w) x v):cp N0 w0 nt (σ.put d x) φ (a.put d v) w:=by cases d with|none=>(exact h)|some d=>((have hd':d<a.tmps.size:=by rw[h.size];exact hd d rfl);exact{h with gn:=fun t=>by rw[getD_put hd' t];show bW _ (look ((d,x)::σ.s) t) _;simp only[look];split;{exact hr};{exact h.gn t},size:=by simp only[Act.put,Array.size_setIfInBounds];exact h.size,defers:=h.defers})
theorem Bi(E:Env):bW E (.eV []) undef:=by simp[bW,cJ,undef]
theorem NB(E:Env)(v:Value):bW E (toA1 v) v:=by unfold toA1;split<;>first|(simp only[bW];done)|(simp[bW,cJ];done)|(simp only[bW];exact⟨[],rfl,by simp[cJ]⟩)
theorem KA(E:Env)(v:Value):bW E (toA v) v:=by unfold toA;split;{rename_i cs;split;{rename_i mY;simp only[bW];refine⟨cs,rfl,dc.2 ⟨by simp,fun i x u hx hu=> ?_⟩,fun u hu=>ca.1 mY u hu⟩;rw[aQ,hu]at hx;simp at hx;subst hx;exact NB E u};{simp only[bW]}};{exact NB E v}
theorem cp.ev(h:cp N0 w0 nt σ φ a w)(x:Operand):bW (bz N0 φ w) (σ.ev x) (a.eval x):=by match x with| .tmp t=>exact h.gn t| .const v=>exact KA _ v| .func f=>simp only[St.ev,Act.eval,bW];exact⟨[],rfl,by simp[cJ]⟩| .global g=>simp only[St.ev,bW]
end
end Go.du
namespace Go.du
open Go.RowKit
section
variable{P:Program}{w:World}
theorem EM{t:TypeId}(h:dM P t=some true): ∃d,P.underlying t=some d/\d.isRow=true:=by unfold dM at h;split at h<;>first|(rename_i hu;exact⟨_,hu,rfl⟩)|simp at h
theorem NC{t:TypeId}(h:dM P t=some false): ∃d,P.underlying t=some d/\d.isRow=false:=by unfold dM at h;split at h;{simp at h};{simp at h};{rename_i d h1 h2 hu;refine⟨d,hu, ?_⟩;cases d<;>first|rfl|(exact(h1 _ rfl).elim)|(exact(h2 _ _ rfl).elim)};{simp at h}
theorem qM{t:TypeId}(h:dM P t=some true):(isAgg t).run P w= .ok true w:=by obtain⟨d,hu,hd⟩:=EM h;unfold isAgg;rw[Sem.run_bind,run_underlying hu w];cases d<;>simp_all
theorem nk{t:TypeId}(h:dM P t=some false):(isAgg t).run P w= .ok false w:=by obtain⟨d,hu,hd⟩:=NC h;unfold isAgg;rw[Sem.run_bind,run_underlying hu w];cases d<;>simp_all
theorem run_sizeOf{t n:Nat}(h:cW P t=some n):(sizeOf t).run P w= .ok n w:=by unfold cW at h;cases hq:P.info? t with|none=>(simp[hq]at h)|some i=>(simp[hq]at h;simp[sizeOf,typeInfo,hq,h])
theorem ja{t e:Nat}(h:cM P t=some e):P.underlying t=some (.slice e):=by unfold cM at h;split at h;{rename_i hu;simp at h;subst h;exact hu};{simp at h}
theorem zo{t n e:Nat}(h:jl P t=some (n,e)):P.underlying t=some (.array n e):=by unfold jl at h;split at h;{rename_i hu;simp at h;obtain⟨rfl,rfl⟩:=h;exact hu};{simp at h}
theorem nY{t:Nat}(h:lx P t=true):P.underlying t=some .string:=by unfold lx at h;split at h;{assumption};{simp at h}
theorem EN{t:Nat}{k:IntKind}(h:ur P t=some k):P.underlying t=some (.int k):=by unfold ur at h;split at h;{rename_i hu;simp at h;subst h;exact hu};{simp at h}
theorem ND{t:Nat}(h:nB P t=true): ∃e,P.underlying t=some (.pointer e):=by unfold nB at h;split at h;{rename_i e hu;exact⟨e,hu⟩};{simp at h}
theorem tq{s f o t:Nat}(h:fieldInfo P s f=some (o,t)):∃fs x n,P.underlying s=some (.struct fs)/\fs[f]? =some x/\x.offset=o/\x.type=t/\cW P t=some n/\n≠0:=by unfold fieldInfo at h;split at h;{rename_i fs hu;cases hx:fs[f]? with|none=>(simp[hx]at h)|some x=>(simp only[hx,aZ]at h;split at h;{simp at h};{rename_i h0;split at h;{simp at h};{rename_i h1;simp at h;obtain⟨rfl,rfl⟩:=h;cases hs:cW P x.type with|none=>(simp[hs]at h1)|some n=>(exact⟨fs,x,n,hu,hx,rfl,rfl,rfl,fun hn=>h0 (by rw[hs,hn])⟩)}})};{simp at h}
theorem CC{s:Sem Value}{v:Value}{w':World}(h:s.run P w= .ok v w'):(do pure (Next.value (<-s)):Sem Next).run P w= .ok (.value v) w':=by simp[h]
theorem run_u{s:Sem Unit}{w':World}(h:s.run P w= .ok () w'):(do s;pure Next.skip:Sem Next).run P w= .ok .skip w':=by simp[h]
end
def Good(P:Program)(o:Oper)(a:Act)(w:World)(N0:Nat->Prop)(φ:List iu)(x:A):Prop:=∃v w',(Go.execOp a.eval o).run P w= .ok (.value v) w'/\j5 w w'/\bW (bz N0 φ w') x v
section
variable{P:Program}{N0:Nat->Prop}{w0:pD}{nt:Nat}{σ:St}{φ:List iu}{a:Act}{w:World}
theorem eh{o:Oper}{s:Sem Value}{x:A}{v:Value}(ho:Go.execOp a.eval o=(do pure (Next.value (<-s))))(hr:s.run P w= .ok v w)(h:bW (bz N0 φ w) x v):Good P o a w N0 φ x:=⟨v,w,by rw[ho];exact CC hr,j5.refl w,h⟩
theorem uU{b:Builtin}{xs:List Operand}{us:Array TypeId}{d:Option Tmp}{t:TypeId}{p:String}{af:Array Edge}{g:Option (Nat×Bool)}:∃cs,(Go.execOp a.eval ⟨d,.call ⟨.builtin b,⟨xs⟩,us⟩,t,p,af,g⟩).run P w=(builtin b us t cs (xs.map a.eval).toArray).run P w:=by refine⟨xs.toArray.map fun| .const _=>true|_=>false, ?_⟩;simp only[Go.execOp,resolve,invoke,Sem.run_bind,Sem.run_pure,Result.andThen_ok];rw[<-List.map_toArray];rfl
theorem kf{b:Builtin}{xs:List Operand}{us:Array TypeId}{d:Option Tmp}{t:TypeId}{p:String}{af:Array Edge}{g:Option (Nat×Bool)}{s:Sem Value}{x:A}{v:Value}(ho: ∀cs,builtin b us t cs (xs.map a.eval).toArray=(do pure (Next.value (<-s)))) (hr:s.run P w= .ok v w) (h:bW (bz N0 φ w) x v):Good P ⟨d,.call ⟨.builtin b,⟨xs⟩,us⟩,t,p,af,g⟩ a w N0 φ x:=by obtain⟨cs,D6⟩:=uU (P:=P) (a:=a) (w:=w) (b:=b) (xs:=xs) (us:=us) (d:=d) (t:=t) (p:=p) (af:=af) (g:=g);exact⟨v,w,by rw[D6,ho];exact CC hr,j5.refl w,h⟩
theorem tt(s:List UInt8):(⟨s.toArray⟩:ByteArray).size=s.length:=rfl
theorem nn{E:Env}{k:IntKind}{n:Int}{v:Value}(h:bW E (.int k n) v):v= .int k n:=by simpa only[bW]using h
theorem zp{E:Env}{b:Bool}{v:Value}(h:bW E (.bool b) v):v= .bool b:=by simpa only[bW]using h
theorem wF{E:Env}{s:List UInt8}{v:Value}(h:bW E (.str s) v):v= .string ⟨s.toArray⟩:=by simpa only[bW]using h
theorem WX(h:cp N0 w0 nt σ φ a w){d:Option Tmp}{x:Operand}{t:TypeId}{p:String}{af:Array Edge}{g:Option (Nat×Bool)}:Good P ⟨d,.move x,t,p,af,g⟩ a w N0 φ (σ.ev x):=⟨a.eval x,w,rfl,j5.refl w,h.ev x⟩
theorem NF(h:cp N0 w0 nt σ φ a w){d:Option Tmp}{x:Operand}{t:TypeId}{p:String}{af:Array Edge}{g:Option (Nat×Bool)}:Good P ⟨d,.assign x,t,p,af,g⟩ a w N0 φ (σ.ev x):=⟨a.eval x,w,rfl,j5.refl w,h.ev x⟩
theorem WY(h:cp N0 w0 nt σ φ a w){d:Option Tmp}{x y z:Operand}{t:TypeId}{p:String}{af:Array Edge}{g:Option (Nat×Bool)}{r:A}(hr:Nv (σ.ev x) (σ.ev y) (σ.ev z)=some r):Good P ⟨d,.pick x y z,t,p,af,g⟩ a w N0 φ r:=by (cases hc:σ.ev x<;>simp only[hc,Nv]at hr<;>try(simp at hr;done));rename_i b;have hx:=h.ev x;rw[hc]at hx;have KB:=zp hx;refine⟨if b then a.eval y else a.eval z,w, ?_,j5.refl w, ?_⟩;{simp[Go.execOp,KB,asBool]};{simp at hr;subst hr;cases b;{simpa using h.ev z};{simpa using h.ev y}}
theorem EO(h:cp N0 w0 nt σ φ a w){d:Option Tmp}{x:Operand}{s f:Nat}{t:TypeId}{p:String}{af:Array Edge}{g:Option (Nat×Bool)}{r:A}(hr:oU (fieldInfo P s f) (σ.ev x)=some r):Good P ⟨d,.fieldAddr s x f,t,p,af,g⟩ a w N0 φ r:=by cases hf:fieldInfo P s f with|none=>(simp[hf,oU]at hr)|some q=>(obtain⟨o,ft⟩:=q;rw[hf]at hr;simp only[oU]at hr;obtain⟨fs,fx,n,hu,zg,rfl,rfl,hn,hn0⟩:=tq hf;(have key: ∀b off:Nat,a.eval x= .pointer (some ⟨b,off,none⟩)->(Instr.fieldAt s (a.eval x) f).run P w= .ok (.pointer (some ⟨b,off+fx.offset,none⟩)) w:=by intro b off hx;have hz:(sizeOf fx.type).run P w= .ok n w:=run_sizeOf hn;simp[Instr.fieldAt,run_underlying hu,zg,hx,Instr.sureAddr,fieldPlace,hz,hn0,Addr.add_mid]);have hx:=h.ev x;(cases hc:σ.ev x<;>simp only[hc,oT]at hr<;>try(simp at hr;done));{rename_i cs;simp at hr;subst hr;rw[hc]at hx;simp only[bW]at hx;obtain⟨hp,b,off,hv,hb,hnb,hm⟩:=hx;refine eh rfl (key b off hv) ?_;simp only[bW];refine⟨?_,b,off+fx.offset,rfl,hb,hnb,nE hm⟩;clear hm hc hv;generalize fx.offset=m;induction cs generalizing m with|nil=>(simp[A.pure.cY])|cons y ys ih=>(simp only[A.pure.cY,aj]at hp;cases m with|zero=>(simp[A.pure.cY,hp])|succ m=>(simpa using ih hp.2 m))};{rename_i n' off;simp at hr;subst hr;rw[hc]at hx;simp only[bW]at hx;obtain⟨b,k,hb,hv⟩:=hx;refine eh rfl (key b off hv) ?_;simp only[bW];exact⟨b,k,hb,rfl⟩};{rename_i n' i off;simp at hr;subst hr;rw[hc]at hx;simp only[bW]at hx;obtain⟨b,k,hb,hv⟩:=hx;refine eh rfl (key b (i*k+off) hv) ?_;simp only[bW];exact⟨b,k,hb,by rw[kT]⟩})
theorem uV{E:Env}{t:TypeId}{cs:List A}{x:A}{b off:Nat}(hm:mf E b off cs)(hl:oL P t cs=some x): ∃v,(loadVar t ⟨b,off,none⟩).run P E.w= .ok v E.w/\bW E x v/\(x.val=true\/v.oneCell'=true):=by unfold oL at hl;split at hl;{rename_i sj;split at hl;{rename_i n hn;split at hl;{rename_i hle;simp at hl;subst hl;obtain⟨vs,hr,hL,h1⟩:=wE (WT (n:=n) hm);obtain⟨d,hu,hd⟩:=EM sj;(have hlen:vs.length=n:=by rw[<-(dc.1 hL).1];simp;omega);refine⟨.agg vs.toArray,run_loadVar_mid E.w b off t vs d hr hu hd (by unfold cW at hn;rw[hn,hlen]), ?_,.inl rfl⟩;simp only[bW];exact⟨vs,rfl,hL,h1⟩};{simp at hl}};{simp at hl}};{rename_i sj;cases cs with|nil=>(simp at hl)|cons c cs=>(simp at hl;subst hl;simp only[mf]at hm;obtain⟨⟨v,hv,h1,gh⟩,_⟩:=hm;exact⟨v,by simp[loadVar,nk sj,hv],gh,.inr h1⟩)};{simp at hl}
theorem ch{es:List A}(h:A.pure.cY es=true){i:Nat}{e:A}(hi:es[i]? =some e):e.pure=true:=by induction es generalizing i with|nil=>(simp at hi)|cons z zs ih=>(simp only[A.pure.cY,aj]at h;cases i with|zero=>(simp at hi;subst hi;exact h.1)|succ i=>(exact ih h.2 (by simpa using hi)))
theorem ij{es:List A}(h: ∀(i:Nat) (e:A),es[i]? =some e->e.pure=true):A.pure.cY es=true:=by induction es with|nil=>(rfl)|cons z zs ih=>(simp only[A.pure.cY,aj];exact⟨h 0 z rfl,ih fun i e he=>h (i+1) e (by simpa using he)⟩)
theorem qN{es:List A}{n:Nat}(h:A.pure.cY es=true):A.pure.cY (es.drop n)=true:=ij fun i e he=>ch h (i:=n+i) (by simpa[eD]using he)
theorem qO{es:List A}{n:Nat}(h:A.pure.cY es=true):A.pure.cY (es.take n)=true:=ij fun i e he=>ch h (i:=i) (by rw[dZ]at he;split at he;{exact he};{simp at he})
theorem qP{e:A}(h:e.pure=true):A.pure.cY e.cells=true:=by cases e<;>simp_all[A.pure,A.cells,A.pure.cY]
theorem WZ(h:cp N0 w0 nt σ φ a w){d:Option Tmp}{x:Operand}{s:Nat}{t:TypeId}{p:String}{af:Array Edge}{g:Option (Nat×Bool)}{r:A}(hr:xx P s σ.H (σ.ev x)=some r):Good P ⟨d,.load s x,t,p,af,g⟩ a w N0 φ r:=by have hx:=h.ev x;(cases hc:σ.ev x<;>simp only[hc,xx]at hr<;>try(simp at hr;done));{rw[hc]at hx;simp only[bW]at hx;obtain⟨hp,b,off,hv,hb,hnb,hm⟩:=hx;obtain⟨v,Bj,gh,_⟩:=uV hm hr;replace Bj:(loadVar s ⟨b,off,none⟩).run P w= .ok v w:=Bj;exact eh rfl (by rw[hv];simpa[Instr.loadAt,Instr.sureAddr]using Bj) gh};{rename_i n off;rw[hc]at hx;simp only[bW]at hx;obtain⟨b,k,hb,hv⟩:=hx;split at hr;{rename_i cs D6;have ho:=h.gO n _ _ D6 hb;simp only[cg]at ho;have hm:=nE (n:=off) ho.2;obtain⟨v,Bj,gh,_⟩:=uV hm hr;replace Bj:(loadVar s ⟨b,0+off,none⟩).run P w= .ok v w:=Bj;rw[bR]at Bj;exact eh rfl (by rw[hv];simpa[Instr.loadAt,Instr.sureAddr]using Bj) gh};{simp at hr}};{rename_i n i off;rw[hc]at hx;simp only[bW]at hx;obtain⟨b,k,hb,hv⟩:=hx;split at hr;{rename_i k' es D6;have ho:=h.gO n _ _ D6 hb;simp only[cg]at ho;obtain⟨rfl,hpu,hblk,he⟩:=ho;cases hi:es[i]? with|none=>(simp[hi]at hr)|some e=>(simp only[hi,aZ]at hr;obtain⟨hl,hm⟩:=ig.1 he i e hi;have nQ:=nE (n:=off) hm;obtain⟨v,Bj,gh,_⟩:=uV nQ hr;replace Bj:(loadVar s ⟨b,0+i*k'+off,none⟩).run P w= .ok v w:=Bj;rw[bR]at Bj;exact eh rfl (by rw[hv];simpa[Instr.loadAt,Instr.sureAddr]using Bj) gh)};{simp at hr}}
theorem H0(h:cp N0 w0 nt σ φ a w){d:Option Tmp}{x:Operand}{t:TypeId}{p:String}{af:Array Edge}{g:Option (Nat×Bool)}{r:A}(hr:A_ (σ.ev x)=some r):Good P ⟨d,.nilCheck x,t,p,af,g⟩ a w N0 φ r:=by have hx:=h.ev x;(cases hc:σ.ev x<;>simp only[hc,A_]at hr<;>try(simp at hr;done));(all_goals simp at hr;subst hr;rw[hc]at hx;refine⟨a.eval x,w, ?_,j5.refl w,hx⟩;simp only[bW]at hx);{obtain⟨hp,b,off,hv,hb,hnb,hm⟩:=hx;simp[Go.execOp,hv]};{obtain⟨b,k,hb,hv⟩:=hx;simp[Go.execOp,hv]};{obtain⟨b,k,hb,hv⟩:=hx;simp[Go.execOp,hv]};{obtain⟨vs,hv,_⟩:=hx;simp[Go.execOp,hv]}
theorem H3(h:cp N0 w0 nt σ φ a w){d:Option Tmp}{f:Fn}{xs ys:Array Operand}{t:TypeId}{p:String}{af:Array Edge}{g:Option (Nat×Bool)}{r:A}(hr:sn f (σ.rn xs.toList) (σ.rn ys.toList)=some r):Good P ⟨d,.makeFunc f xs ys,t,p,af,g⟩ a w N0 φ r:=by (cases f<;>simp only[sn]at hr<;>try(simp at hr;done));rename_i f;cases UD:σ.rn xs.toList with|cons _ _=>(simp[UD]at hr)|nil=>(simp only[UD]at hr;simp at hr;subst hr;(have hx0:xs= #[]:=by cases hl:xs.toList with|nil=>(exact Array.toList_eq_nil_iff.1 hl)|cons _ _=>(simp[hl,St.rn]at UD));subst hx0;refine⟨.func (.func f) #[] (ys.map a.eval),w, ?_,j5.refl w, ?_⟩;{simp[Go.execOp,Instr.makeFunc]};{simp only[bW];refine⟨(ys.map a.eval).toList,rfl, ?_⟩;simp only[Array.toList_map];generalize ys.toList=l;induction l with|nil=>(simp[St.rn,cJ])|cons y l ih=>(simp only[St.rn,aR,cJ];exact⟨_,_,rfl,h.ev y,ih⟩)})
theorem KC(h:cp N0 w0 nt σ φ a w){d:Option Tmp}{x:Operand}{i:Nat}{t:TypeId}{p:String}{af:Array Edge}{g:Option (Nat×Bool)}{r:A}(hr:uQ (σ.ev x) i=some r):Good P ⟨d,.extract x i,t,p,af,g⟩ a w N0 φ r:=by have hx:=h.ev x;(cases hc:σ.ev x<;>simp only[hc,uQ]at hr<;>try(simp at hr;done));rename_i cs;rw[hc]at hx;simp only[bW]at hx;obtain⟨vs,hv,hl⟩:=hx;obtain⟨h1,h2⟩:=dc.1 hl;(have hi:i<vs.length:=by rw[<-h1];exact(ax.1 hr).1);refine eh rfl (v:=vs[i]) (by rw[hv];simp[Instr.extract,hi]) (h2 i _ _ hr (ad hi))
theorem good_len(h:cp N0 w0 nt σ φ a w){d:Option Tmp}{x:Operand}{u:TypeId}{t:TypeId}{p:String}{af:Array Edge}{g:Option (Nat×Bool)}{r:A}(hr:Q8 P u (σ.ev x)=some r):Good P ⟨d,.call ⟨.builtin .len,⟨[x]⟩,⟨[u]⟩⟩,t,p,af,g⟩ a w N0 φ r:=by have hx:=h.ev x;have ho: ∀cs,builtin .len #[u] t cs ([x].map a.eval).toArray=(do pure (Next.value (<-Builtin.len_ #[u] t #[a.eval x]))):=fun cs=>rfl;(have arr: ∀n e,jl P u=some (n,e)->r= .int .i64 n->Good P ⟨d,.call ⟨.builtin .len,⟨[x]⟩,⟨[u]⟩⟩,t,p,af,g⟩ a w N0 φ r:=by rintro n e hn rfl;refine kf ho (v:= .int .i64 n) ?_ (by simp only[bW]);simp[Builtin.len_,run_underlying (zo hn),goInt]);cases hc:σ.ev x<;>simp only[hc,Q8]at hr;(case str s=>split at hr;{rename_i hs;simp at hr;subst hr;rw[hc]at hx;refine kf ho (v:= .int .i64 s.length) ?_ (by simp only[bW]);rw[wF hx];simp[Builtin.len_,run_underlying (nY hs),goInt,tt]};{simp at hr});(case aw es=>split at hr;{rename_i hs;simp at hr;subst hr;rw[hc]at hx;simp only[bW]at hx;obtain⟨_,b,cap,hv,_⟩:=hx;obtain⟨e,he⟩:=dv.1 hs;refine kf ho (v:= .int .i64 es.length) ?_ (by simp only[bW]);rw[hv];simp[Builtin.len_,run_underlying (ja he),goInt]};{simp at hr});(case clip es=>split at hr;{rename_i hs;simp at hr;subst hr;rw[hc]at hx;simp only[bW]at hx;obtain⟨_,b,hv,_⟩:=hx;obtain⟨e,he⟩:=dv.1 hs;refine kf ho (v:= .int .i64 es.length) ?_ (by simp only[bW]);rw[hv];simp[Builtin.len_,run_underlying (ja he),goInt]};{simp at hr});(case dX=>split at hr;{rename_i hs;simp at hr;subst hr;rw[hc]at hx;simp only[bW]at hx;obtain⟨e,he⟩:=dv.1 hs;refine kf ho (v:= .int .i64 0) ?_ (by simp only[bW]);rw[hx];simp[Builtin.len_,run_underlying (ja he),goInt]};{simp at hr});(case row n off k len c=>split at hr;{rename_i hs;simp at hr;subst hr;rw[hc]at hx;simp only[bW]at hx;obtain⟨e,he⟩:=dv.1 hs;refine kf ho (v:= .int .i64 len) ?_ (by simp only[bW]);rcases hx with⟨_,_,_,rfl,_,b,hv⟩|⟨b,cap,c,e',fr,_,hv,_⟩;all_goals rw[hv];simp[Builtin.len_,run_underlying (ja he),goInt]};{simp at hr});all_goals split at hr;{rename_i n e hn;simp at hr;exact arr n e hn hr.symm};{simp at hr}
theorem evalL2(h:cp N0 w0 nt σ φ a w){xs:List Operand}{k k':IntKind}{m n:Int}(he:σ.rn xs=[.int k m,.int k' n]):xs.map a.eval=[.int k m,.int k' n]:=by match xs,he with| [x,y],he=>simp only[St.rn,dw,and_true]at he;have h1:=h.ev x;have h2:=h.ev y;rw[he.1]at h1;rw[he.2]at h2;simp[nn h1,nn h2]| [],he=>simp[St.rn]at he| [_],he=>simp[St.rn]at he|_::_::_::_,he=>simp[St.rn]at he
theorem good_min(h:cp N0 w0 nt σ φ a w){d:Option Tmp}{xs:List Operand}{us:Array TypeId}{t:TypeId}{p:String}{af:Array Edge}{g:Option (Nat×Bool)}{r:A}(hr:minA (σ.rn xs)=some r):Good P ⟨d,.call ⟨.builtin .min,⟨xs⟩,us⟩,t,p,af,g⟩ a w N0 φ r:=by unfold minA at hr;split at hr;{rename_i k m k' n he;simp at hr;subst hr;have hm:=evalL2 h he;refine kf (s:=Builtin.min_ us t (xs.map a.eval).toArray) (fun _=>rfl) (v:= .int k (if n<m then n else m)) ?_ (by simp only[bW]);simp[Builtin.min_,hm,Builtin.min2]};{simp at hr}
theorem good_max(h:cp N0 w0 nt σ φ a w){d:Option Tmp}{xs:List Operand}{us:Array TypeId}{t:TypeId}{p:String}{af:Array Edge}{g:Option (Nat×Bool)}{r:A}(hr:maxA (σ.rn xs)=some r):Good P ⟨d,.call ⟨.builtin .max,⟨xs⟩,us⟩,t,p,af,g⟩ a w N0 φ r:=by unfold maxA at hr;split at hr;{rename_i k m k' n he;simp at hr;subst hr;have hm:=evalL2 h he;refine kf (s:=Builtin.max_ us t (xs.map a.eval).toArray) (fun _=>rfl) (v:= .int k (if n>m then n else m)) ?_ (by simp only[bW]);simp[Builtin.max_,hm,Builtin.max2]};{simp at hr}
end
end Go.du
