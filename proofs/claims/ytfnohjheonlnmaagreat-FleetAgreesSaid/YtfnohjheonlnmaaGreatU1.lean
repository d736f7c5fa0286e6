/- What the laws of this claim rest on: the abstract executor, its soundness, and what the functions compute on pure data. No condition. -/
import Derived.Orders
import Derived.WalkKit
import Derived.Test.YtfnohjheonlnmaaGreatProg
import Derived.Deep.MidRow
import Derived.Deep.AppendSrc
noncomputable section
theorem aa:type_of% @List.length_map:=@List.length_map
theorem ab:type_of% @List.take_of_length_le:=@List.take_of_length_le
theorem ad:type_of% @List.getElem?_eq_getElem:=@List.getElem?_eq_getElem
theorem ae:type_of% @Bool.and_eq_true:=@Bool.and_eq_true
theorem ag:type_of% @Option.some.inj:=@Option.some.inj
theorem ai:type_of% @List.length_append:=@List.length_append
theorem ah:type_of% @Nat.le_refl:=@Nat.le_refl
theorem aj:type_of% @List.getElem_mem:=@List.getElem_mem
theorem ak:type_of% @Nat.zero_le:=@Nat.zero_le
theorem an:type_of% @List.getElem?_eq_some_iff:=@List.getElem?_eq_some_iff
theorem ao:type_of% @List.take_append_getElem:=@List.take_append_getElem
theorem ar:type_of% @List.drop_eq_getElem_cons:=@List.drop_eq_getElem_cons
theorem ax:type_of% @List.drop_of_length_le:=@List.drop_of_length_le
theorem aw:type_of% @List.length_cons:=@List.length_cons
theorem az:type_of% @List.mem_append:=@List.mem_append
theorem aA:type_of% @List.mem_cons:=@List.mem_cons
theorem aB:type_of% @Bool.false_eq_true:=@Bool.false_eq_true
theorem aD:type_of% @List.length_take:=@List.length_take
theorem aG:type_of% @Bool.true_and:=@Bool.true_and
theorem aI:type_of% @List.mem_singleton:=@List.mem_singleton
theorem aL:type_of% @List.getElem?_map:=@List.getElem?_map
theorem aM:type_of% @Option.map_eq_some_iff:=@Option.map_eq_some_iff
theorem aO:type_of% @Bool.false_and:=@Bool.false_and
theorem aR:type_of% @List.length_eq_zero_iff:=@List.length_eq_zero_iff
theorem aP:type_of% @List.map_cons:=@List.map_cons
theorem aT:type_of% @List.mem_filter:=@List.mem_filter
theorem aU:type_of% @List.append_assoc:=@List.append_assoc
theorem aV:type_of% @List.pairwise_cons:=@List.pairwise_cons
theorem aW:type_of% @Option.bind_some:=@Option.bind_some
theorem aZ:type_of% @Nat.le_of_ble_eq_true:=@Nat.le_of_ble_eq_true
theorem ba:type_of% @Option.some.injEq:=@Option.some.injEq
theorem bc:type_of% @List.append_nil:=@List.append_nil
theorem bf:type_of% @Nat.le_trans:=@Nat.le_trans
theorem bg:type_of% @Bool.false_or:=@Bool.false_or
theorem bk:type_of% @List.map_append:=@List.map_append
theorem bm:type_of% @List.length_nil:=@List.length_nil
theorem bn:type_of% @List.take_append_drop:=@List.take_append_drop
theorem bo:type_of% @Int.toNat_natCast:=@Int.toNat_natCast
theorem bp:type_of% @List.getElem?_of_mem:=@List.getElem?_of_mem
theorem bq:type_of% @Bool.not_false:=@Bool.not_false
theorem bu:type_of% @List.getElem?_set_ne:=@List.getElem?_set_ne
theorem bw:type_of% @Bool.or_eq_true:=@Bool.or_eq_true
theorem bx:type_of% @List.nil_append:=@List.nil_append
theorem bA:type_of% @List.all_eq_true:=@List.all_eq_true
theorem bC:type_of% @List.take_length:=@List.take_length
theorem bE:type_of% @List.mem_of_getElem?:=@List.mem_of_getElem?
theorem bD:type_of% @List.foldl_cons:=@List.foldl_cons
theorem bF:type_of% @List.cons_append:=@List.cons_append
theorem bG:type_of% @Bool.eq_iff_iff:=@Bool.eq_iff_iff
theorem bJ:type_of% @Option.bind_eq_some_iff:=@Option.bind_eq_some_iff
theorem bL:type_of% @List.map_nil:=@List.map_nil
theorem bM:type_of% @Nat.zero_add:=@Nat.zero_add
theorem bO:type_of% @List.filter_append:=@List.filter_append
theorem bN:type_of% @Bool.not_true:=@Bool.not_true
theorem bR:type_of% @Array.getElem?_eq_some_iff:=@Array.getElem?_eq_some_iff
theorem bP:type_of% @List.length_set:=@List.length_set
theorem bT:type_of% @Bool.not_eq_true':=@Bool.not_eq_true'
theorem bS:type_of% @List.mem_map:=@List.mem_map
theorem bU:type_of% @List.length_drop:=@List.length_drop
theorem bY:type_of% @List.getElem?_append_right:=@List.getElem?_append_right
theorem bW:type_of% @List.getElem_of_mem:=@List.getElem_of_mem
theorem bX:type_of% @List.mem_of_mem_take:=@List.mem_of_mem_take
theorem b9:type_of% @List.length_filter_le:=@List.length_filter_le
theorem bZ:type_of% @Bool.and_false:=@Bool.and_false
theorem ca:type_of% @List.pairwise_iff_getElem:=@List.pairwise_iff_getElem
theorem cb:type_of% @List.contains_cons:=@List.contains_cons
theorem b_:type_of% @Bool.and_true:=@Bool.and_true
theorem cm:type_of% @List.getElem?_append_left:=@List.getElem?_append_left
theorem cj:type_of% @List.contains_nil:=@List.contains_nil
theorem cp:type_of% @List.filter_cons_of_pos:=@List.filter_cons_of_pos
theorem ck:type_of% @Bool.true_or:=@Bool.true_or
theorem cv:type_of% @List.not_mem_nil:=@List.not_mem_nil
theorem cx:type_of% @List.mem_cons_of_mem:=@List.mem_cons_of_mem
theorem cw:type_of% @List.any_cons:=@List.any_cons
theorem cA:type_of% @List.take_append_of_le_length:=@List.take_append_of_le_length
theorem cB:type_of% @List.getD_eq_getElem?_getD:=@List.getD_eq_getElem?_getD
theorem cC:type_of% @List.mem_of_mem_drop:=@List.mem_of_mem_drop
theorem cG:type_of% @List.foldl_append:=@List.foldl_append
theorem cH:type_of% @Nat.lt_of_lt_of_le:=@Nat.lt_of_lt_of_le
theorem cM:type_of% @List.length_reverse:=@List.length_reverse
theorem cP:type_of% @Nat.mul_le_mul_right:=@Nat.mul_le_mul_right
theorem cN:type_of% @Nat.add_mul:=@Nat.add_mul
theorem cO:type_of% @Int.le_refl:=@Int.le_refl
theorem cU:type_of% @List.length_singleton:=@List.length_singleton
theorem cZ:type_of% @List.pairwise_append:=@List.pairwise_append
theorem cY:type_of% @List.getElem?_set:=@List.getElem?_set
theorem dc:type_of% @Classical.choose_spec:=@Classical.choose_spec
theorem dp:type_of% @List.mem_or_eq_of_mem_set:=@List.mem_or_eq_of_mem_set
theorem dg:type_of% @List.sum_cons:=@List.sum_cons
theorem dr:type_of% @Option.isSome_iff_exists:=@Option.isSome_iff_exists
theorem dj:type_of% @Nat.add_zero:=@Nat.add_zero
theorem dm:type_of% @Nat.le_of_eq:=@Nat.le_of_eq
theorem dt:type_of% @List.cons.injEq:=@List.cons.injEq
theorem dv:type_of% @Nat.add_sub_cancel_left:=@Nat.add_sub_cancel_left
theorem dw:type_of% @List.filter_cons_of_neg:=@List.filter_cons_of_neg
theorem dC:type_of% @List.mem_of_find?_eq_some:=@List.mem_of_find?_eq_some
theorem dF:type_of% @Bool.not_eq_true:=@Bool.not_eq_true
theorem dA:type_of% @Ne.symm:=@Ne.symm
theorem dQ:type_of% @List.mem_range:=@List.mem_range
theorem dR:type_of% @Option.map_some:=@Option.map_some
theorem dS:type_of% @List.getElem?_take:=@List.getElem?_take
theorem dO:type_of% @List.map_map:=@List.map_map
theorem dU:type_of% @List.mem_iff_getElem:=@List.mem_iff_getElem
theorem d_:type_of% @List.filter_eq_nil_iff:=@List.filter_eq_nil_iff
theorem ec:type_of% @List.getElem?_set_self:=@List.getElem?_set_self
theorem eE:type_of% @List.drop_append_of_le_length:=@List.drop_append_of_le_length
theorem eF:type_of% @List.filter_eq_self:=@List.filter_eq_self
theorem ez:type_of% @Bool.or_false:=@Bool.or_false
theorem eD:type_of% @Bool.and_assoc:=@Bool.and_assoc
theorem eJ:type_of% @List.getElem?_eq_none:=@List.getElem?_eq_none
theorem eL:type_of% @List.getElem?_drop:=@List.getElem?_drop
theorem eR:type_of% @List.take_succ_eq_append_getElem:=@List.take_succ_eq_append_getElem
theorem eP:type_of% @List.reverse_reverse:=@List.reverse_reverse
theorem eQ:type_of% @List.drop_drop:=@List.drop_drop
theorem eZ:type_of% @Option.map_none:=@Option.map_none
theorem fc:type_of% @Option.getD_some:=@Option.getD_some
theorem fq:type_of% @List.getElem?_append:=@List.getElem?_append
theorem fw:type_of% @List.mem_erase_of_ne:=@List.mem_erase_of_ne
theorem fD:type_of% @List.getElem_take:=@List.getElem_take
theorem fA:type_of% @Nat.min_eq_left:=@Nat.min_eq_left
theorem fz:type_of% @Nat.one_mul:=@Nat.one_mul
theorem fP:type_of% @Array.getElem?_append_left:=@Array.getElem?_append_left
theorem fR:type_of% @Int.fdiv_eq_ediv_of_nonneg:=@Int.fdiv_eq_ediv_of_nonneg
theorem fW:type_of% @List.mem_of_mem_erase:=@List.mem_of_mem_erase
theorem fU:type_of% @Nat.lt_or_eq_of_le:=@Nat.lt_or_eq_of_le
theorem f_:type_of% @Nat.lt_or_ge:=@Nat.lt_or_ge
theorem gO:type_of% @List.filter_nil:=@List.filter_nil
theorem g_:type_of% @List.reverse_cons:=@List.reverse_cons
theorem gZ:type_of% @List.map_take:=@List.map_take
theorem h_:type_of% @Bool.and_self:=@Bool.and_self
theorem ig:type_of% @List.take_succ_cons:=@List.take_succ_cons
theorem il:type_of% @Array.length_toList:=@Array.length_toList
theorem iw:type_of% @List.any_eq_true:=@List.any_eq_true
theorem iy:type_of% @List.mem_flatMap:=@List.mem_flatMap
theorem iD:type_of% @List.length_eq_one_iff:=@List.length_eq_one_iff
theorem iJ:type_of% @UInt8.toNat_inj:=@UInt8.toNat_inj
theorem iL:type_of% @List.find?_some:=@List.find?_some
theorem iI:type_of% @List.all_cons:=@List.all_cons
theorem iS:type_of% @List.flatten_cons:=@List.flatten_cons
theorem jg:type_of% @List.extract_eq_take_drop:=@List.extract_eq_take_drop
theorem jb:type_of% @Bool.or_eq_false_iff:=@Bool.or_eq_false_iff
theorem jk:type_of% @Array.getElem?_eq_getElem:=@Array.getElem?_eq_getElem
theorem iZ:type_of% @List.take_zero:=@List.take_zero
theorem jh:type_of% @Nat.mul_comm:=@Nat.mul_comm
theorem jl:type_of% @List.map_set:=@List.map_set
theorem ju:type_of% @List.replicate_succ:=@List.replicate_succ
theorem jw:type_of% @List.map_congr_left:=@List.map_congr_left
theorem jM:type_of% @List.map_drop:=@List.map_drop
theorem jT:type_of% @List.nodup_cons:=@List.nodup_cons
theorem jZ:type_of% @List.mem_filterMap:=@List.mem_filterMap
theorem j0:type_of% @Nat.add_sub_cancel:=@Nat.add_sub_cancel
theorem km:type_of% @List.ext_getElem?:=@List.ext_getElem?
theorem ku:type_of% @Nat.lt_trichotomy:=@Nat.lt_trichotomy
theorem kv:type_of% @List.pairwise_map:=@List.pairwise_map
theorem kA:type_of% @List.flatMap_cons:=@List.flatMap_cons
theorem kb:type_of% @Bool.or_true:=@Bool.or_true
theorem kf:type_of% @Nat.zero_mul:=@Nat.zero_mul
theorem kE:type_of% @Nat.div_lt_iff_lt_mul:=@Nat.div_lt_iff_lt_mul
theorem kg:type_of% @Prod.ext_iff:=@Prod.ext_iff
theorem ki:type_of% @Nat.succ_mul:=@Nat.succ_mul
theorem kH:type_of% @List.set_append_right:=@List.set_append_right
theorem kL:type_of% @Nat.mod_eq_of_lt:=@Nat.mod_eq_of_lt
theorem kM:type_of% @Nat.lt_succ_self:=@Nat.lt_succ_self
theorem kO:type_of% @List.mem_reverse:=@List.mem_reverse
theorem kR:type_of% @Nat.add_assoc:=@Nat.add_assoc
theorem lP:type_of% @List.append_inj:=@List.append_inj
theorem lE:type_of% @Prod.ext:=@Prod.ext
theorem l6:type_of% @Nat.mod_lt:=@Nat.mod_lt
set_option linter.unusedVariables false
set_option linter.unusedSimpArgs false
namespace Go.eC
inductive A where|any|int (k:IntKind) (n:Int)|bool (b:Bool)|str (s:List UInt8)|agg (cs:List A)|aC (es:List A)|clip (es:List A)|jL (cs:List A)|eo|zi|ref (n off:Nat)|mr (n i off:Nat)|row (n off k len:Nat) (c:Bool)|fn (f:FuncId) (oC:List A)|eU (cs:List A)|emp (c:Bool)
instance:Inhabited A:=⟨.any⟩
inductive iv where|free|nil|loc (b k:Nat)
def A.cells:A->List A| .agg cs=>cs|x=>[x]
def eN:List A->Nat| []=>0|e::_=>e.cells.length
def A.mem(n:Nat):A->Bool| .ref m _=>m==n| .mr m _ _=>m==n| .row m _ _ _ _=>m==n| .agg cs=>l_ n cs| .fn _ cs=>l_ n cs| .eU cs=>l_ n cs|_=>false where l_ (n:Nat):List A->Bool| []=>false|c::cs=>c.mem n||l_ n cs
def A.pure:A->Bool| .ref _ _=>false| .mr _ _ _=>false| .row _ _ _ _ _=>false| .agg cs=>cX cs| .fn _ cs=>cX cs| .eU cs=>cX cs|_=>true where cX:List A->Bool| []=>true|c::cs=>c.pure&&cX cs
mutual theorem A.ry(n:Nat): ∀x:A,x.pure=true->x.mem n=false| .any,_=>rfl| .int _ _,_=>rfl| .bool _,_=>rfl| .str _,_=>rfl| .aC _,_=>rfl| .clip _,_=>rfl| .jL _,_=>rfl| .eo,_=>rfl| .zi,_=>rfl| .emp _,_=>rfl| .ref _ _,h=>by simp[A.pure]at h| .mr _ _ _,h=>by simp[A.pure]at h| .row _ _ _ _ _,h=>by simp[A.pure]at h| .agg cs,h=>by simp only[A.mem];exact A.lJ n cs (by simpa only[A.pure]using h)| .fn _ cs,h=>by simp only[A.mem];exact A.lJ n cs (by simpa only[A.pure]using h)| .eU cs,h=>by simp only[A.mem];exact A.lJ n cs (by simpa only[A.pure]using h) theorem A.lJ(n:Nat): ∀cs:List A,A.pure.cX cs=true->A.mem.l_ n cs=false| [],_=>rfl|c::cs,h=>by simp only[A.pure.cX,ae]at h;simp only[A.mem.l_,A.ry n c h.1,A.lJ n cs h.2,Bool.or_self] end
structure Env where
 N:Nat->Prop
 φ:List iv
 w:World
mutual def bV(E:Env):A->Value->Prop| .any,_=>True| .int k n,v=>v= .int k n| .bool b,v=>v= .bool b| .str s,v=>v= .string ⟨s.toArray⟩| .agg cs,v=> ∃vs:List Value,v= .agg vs.toArray/\cJ E cs vs/\ ∀u∈vs,u.oneCell'=true| .aC es,v=>A.pure.cX es=true/\ ∃a cap,v= .slice a es.length cap/\es.length<=cap/\ (es≠ []-> ∃b off,a=some ⟨b,off,none⟩/\b<E.w.heap.size/\ ¬E.N b/\j7 E (eN es) b off es)| .clip es,v=>A.pure.cX es=true/\ ∃a,v= .slice a es.length es.length/\ (es≠ []-> ∃b off,a=some ⟨b,off,none⟩/\b<E.w.heap.size/\ ¬E.N b/\j7 E (eN es) b off es)| .jL cs,v=>A.pure.cX cs=true/\ ∃b off,v= .pointer (some ⟨b,off,none⟩)/\b<E.w.heap.size/\ ¬E.N b/\ma E b off cs| .eo,v=>v= .slice none 0 0| .zi,v=>v= .pointer none| .emp c,v=> ∃a cap,v= .slice a 0 cap/\a.isNone=c| .ref n off,v=> ∃b k,E.φ[n]? =some (.loc b k)/\v= .pointer (some ⟨b,off,none⟩)| .mr n i off,v=> ∃b k,E.φ[n]? =some (.loc b k)/\v= .pointer (some ⟨b,i*k+off,none⟩)| .row n off k len cl,v=> (∃o,E.φ[n]? =some o/\o≠ .free/\len=0/\(o= .nil->off=0)/\ ∃a,v= .slice a 0 0)\/ (∃b cap c e fr,E.φ[n]? =some (.loc b k)/\v= .slice (some ⟨b,off*k,none⟩) len cap/\len<=cap/\(cl=true->cap=len)/\E.w.heap[b]? =some (.cells c e fr)/\off*k+k*cap<=c.size)| .fn f oC,v=> ∃vs:List Value,v= .func (.func f) #[] vs.toArray/\cJ E oC vs| .eU cs,v=> ∃vs:List Value,v= .tuple vs.toArray/\cJ E cs vs def cJ(E:Env):List A->List Value->Prop| [],vs=>vs=[]|c::cs,vs=> ∃v pU,vs=v::pU/\bV E c v/\cJ E cs pU def ma(E:Env)(b:Nat)(off:Nat):List A->Prop| []=>True|c::cs=>(∃v,E.w.cell? ⟨b,off,none⟩=some v/\v.oneCell'=true/\bV E c v)/\ma E b (off+1) cs def j7(E:Env)(k:Nat)(b:Nat)(off:Nat):List A->Prop| []=>True| .agg cs::es=>(cs.length=k/\ma E b off cs)/\j7 E k b (off+k) es|e::es=>(k=1/\ ∃v,E.w.cell? ⟨b,off,none⟩=some v/\v.oneCell'=true/\bV E e v)/\j7 E k b (off+k) es end
theorem Nu{E:Env}{k b off:Nat}{cs es:List A}:j7 E k b off (.agg cs::es)=((cs.length=k/\ma E b off cs)/\j7 E k b (off+k) es):=by simp[j7]
structure Ext(K:Nat->Prop)(E E':Env):Prop where
 size:E.w.heap.size<=E'.w.heap.size
 Nv: ∀b,b<E.w.heap.size-> ¬E.N b-> ¬E'.N b/\E'.w.heap[b]? =E.w.heap[b]?
 refs: ∀n o,K n->E.φ[n]? =some o->o≠ .free->E'.φ[n]? =some o
 own: ∀n b k c e fr,K n->E.φ[n]? =some (.loc b k)->E.w.heap[b]? =some (.cells c e fr)-> ∃c' Rt,E'.w.heap[b]? =some (.cells c' e Rt)/\c'.size=c.size
theorem Ext.cell{K:Nat->Prop}{E E':Env}(h:Ext K E E'){b off:Nat}(hb:b<E.w.heap.size)(hn: ¬E.N b):E'.w.cell? ⟨b,off,none⟩=E.w.cell? ⟨b,off,none⟩:=by simp only[World.cell?,(h.Nv b hb hn).2]
mutual theorem bV.mono{K:Nat->Prop}{E E':Env}(h:Ext K E E'): ∀(x:A) (v:Value),bV E x v->(∀n,x.mem n=true->K n)->bV E' x v| .any,_,_,_=>by simp only[bV]| .int _ _,v,hr,_=>by simpa only[bV]using hr| .bool _,v,hr,_=>by simpa only[bV]using hr| .str _,v,hr,_=>by simpa only[bV]using hr| .eo,v,hr,_=>by simpa only[bV]using hr| .zi,v,hr,_=>by simpa only[bV]using hr| .emp _,v,hr,_=>by simpa only[bV]using hr| .agg cs,v,hr,hk=>by simp only[bV]at hr⊢;obtain⟨vs,hv,hl,h1⟩:=hr;exact⟨vs,hv,cJ.mono h cs vs hl (fun n hn=>hk n (by simpa only[A.mem]using hn)),h1⟩| .fn f cs,v,hr,hk=>by simp only[bV]at hr⊢;obtain⟨vs,hv,hl⟩:=hr;exact⟨vs,hv,cJ.mono h cs vs hl (fun n hn=>hk n (by simpa only[A.mem]using hn))⟩| .eU cs,v,hr,hk=>by simp only[bV]at hr⊢;obtain⟨vs,hv,hl⟩:=hr;exact⟨vs,hv,cJ.mono h cs vs hl (fun n hn=>hk n (by simpa only[A.mem]using hn))⟩| .aC es,v,hr,_=>by simp only[bV]at hr⊢;obtain⟨hp,a,cap,hv,hc,hl⟩:=hr;refine⟨hp,a,cap,hv,hc,fun dL=> ?_⟩;obtain⟨b,off,ha,hb,hn,he⟩:=hl dL;exact⟨b,off,ha,cH hb h.size,(h.Nv b hb hn).1,j7.mono h (eN es) b off es hb hn he (fun n hn=>by rw[A.lJ n es hp]at hn;cases hn)⟩| .clip es,v,hr,_=>by simp only[bV]at hr⊢;obtain⟨hp,a,hv,hl⟩:=hr;refine⟨hp,a,hv,fun dL=> ?_⟩;obtain⟨b,off,ha,hb,hn,he⟩:=hl dL;exact⟨b,off,ha,cH hb h.size,(h.Nv b hb hn).1,j7.mono h (eN es) b off es hb hn he (fun n hn=>by rw[A.lJ n es hp]at hn;cases hn)⟩| .jL cs,v,hr,_=>by simp only[bV]at hr⊢;obtain⟨hp,b,off,hv,hb,hn,he⟩:=hr;exact⟨hp,b,off,hv,cH hb h.size,(h.Nv b hb hn).1,ma.mono h b off cs hb hn he (fun n hn=>by rw[A.lJ n cs hp]at hn;cases hn)⟩| .ref n off,v,hr,hk=>by simp only[bV]at hr⊢;obtain⟨b,k,hb,hv⟩:=hr;exact⟨b,k,h.refs n _ (hk n (by simp[A.mem])) hb (by simp),hv⟩| .mr n i off,v,hr,hk=>by simp only[bV]at hr⊢;obtain⟨b,k,hb,hv⟩:=hr;exact⟨b,k,h.refs n _ (hk n (by simp[A.mem])) hb (by simp),hv⟩| .row n off k len cl,v,hr,hk=>by simp only[bV]at hr⊢;rcases hr with⟨o,hb,hf,r⟩|⟨b,cap,c,e,fr,hb,hv,wF,nS,hc,hs⟩;{exact .inl ⟨o,h.refs n _ (hk n (by simp[A.mem])) hb hf,hf,r⟩};{obtain⟨c',Rt,yg,hs'⟩:=h.own n b k c e fr (hk n (by simp[A.mem])) hb hc;exact .inr ⟨b,cap,c',e,Rt,h.refs n _ (hk n (by simp[A.mem])) hb (by simp),hv,wF,nS,yg,by omega⟩}theorem cJ.mono{K:Nat->Prop}{E E':Env}(h:Ext K E E'): ∀(cs:List A) (vs:List Value),cJ E cs vs->(∀n,A.mem.l_ n cs=true->K n)->cJ E' cs vs| [],_,hr,_=>by simpa only[cJ]using hr|c::cs,vs,hr,hk=>by simp only[cJ]at hr⊢;obtain⟨v,pU,hv,hc,hl⟩:=hr;exact⟨v,pU,hv,bV.mono h c v hc (fun n hn=>hk n (by simp[A.mem.l_,hn])),cJ.mono h cs pU hl (fun n hn=>hk n (by simp[A.mem.l_,hn]))⟩ theorem ma.mono{K:Nat->Prop}{E E':Env}(h:Ext K E E'): ∀(b off:Nat) (cs:List A),b<E.w.heap.size-> ¬E.N b->ma E b off cs->(∀n,A.mem.l_ n cs=true->K n)->ma E' b off cs|_,_,[],_,_,_,_=>by simp only[ma]|b,off,c::cs,hb,hn,hr,hk=>by simp only[ma]at hr⊢;obtain⟨⟨v,hv,h1,hc⟩,hl⟩:=hr;exact⟨⟨v,by rw[h.cell hb hn];exact hv,h1,bV.mono h c v hc (fun n hn=>hk n (by simp[A.mem.l_,hn]))⟩,ma.mono h b (off+1) cs hb hn hl (fun n hn=>hk n (by simp[A.mem.l_,hn]))⟩ theorem j7.mono{K:Nat->Prop}{E E':Env}(h:Ext K E E'): ∀(k b off:Nat) (es:List A),b<E.w.heap.size-> ¬E.N b->j7 E k b off es->(∀n,A.mem.l_ n es=true->K n)->j7 E' k b off es|_,_,_,[],_,_,_,_=>by simp only[j7]|k,b,off,e::es,hb,hn,hr,hk=>by cases e;(case agg cs=>rw[Nu]at hr⊢;obtain⟨⟨hlen,hm⟩,hl⟩:=hr;exact⟨⟨hlen,ma.mono h b off cs hb hn hm (fun n hn=>hk n (by simp[A.mem.l_,A.mem,hn]))⟩,j7.mono h k b (off+k) es hb hn hl (fun n hn=>hk n (by simp[A.mem.l_,hn]))⟩);all_goals simp only[j7]at hr⊢;obtain⟨⟨mP,v,hv,h1,hc⟩,hl⟩:=hr;exact⟨⟨mP,v,by rw[h.cell hb hn];exact hv,h1,bV.mono h _ v hc (fun n hn=>hk n (by simp[A.mem.l_,hn]))⟩,j7.mono h k b (off+k) es hb hn hl (fun n hn=>hk n (by simp[A.mem.l_,hn]))⟩ end
inductive Obj where|box (cs:List A)|row (k:Nat) (es:List A)
instance:Inhabited Obj:=⟨.row 0 []⟩
structure St where
 s:List (Nat×A)
 H:List Obj
def toA1:Value->A| .int k n=> .int k n| .bool b=> .bool b| .string s=> .str s.data.toList| .slice none 0 0=> .eo| .pointer none=> .zi| .func (.func f) ⟨[]⟩ ⟨[]⟩=> .fn f []| .tuple ⟨[]⟩=> .eU []|_=> .any
def toA:Value->A| .agg ⟨cs⟩=>if cs.all (·.oneCell')then .agg (cs.map toA1)else .any|v=>toA1 v
def look:List (Nat×A)->Nat->A| [],_=> .any|(d,v)::r,t=>if d=t then v else look r t
def fG:List A->Nat->A->List A| [],_,_=>[]|_::xs,0,v=>v::xs|x::xs,n+1,v=>x::fG xs n v
def fj:List Obj->Nat->Option Obj| [],_=>none|x::_,0=>some x|_::xs,n+1=>fj xs n
def pH:List Obj->Nat->Obj->List Obj| [],_,_=>[]|_::xs,0,v=>v::xs|x::xs,n+1,v=>x::pH xs n v
def St.ev(σ:St):Operand->A| .tmp t=>look σ.s t| .const v=>toA v| .func f=> .fn f []| .global _=> .any
def St.put(σ:St)(d:Option Tmp)(v:A):St:=match d with|some d=>{σ with s:=(d,v)::σ.s}|none=>σ
def St.ie(σ:St)(n:Nat)(o:Obj):St:={σ with H:=pH σ.H n o}
def ed(P:Program)(t:TypeId):Option Bool:=match P.underlying t with|some (.struct _)=>some true|some (.array _ _)=>some true|some _=>some false|none=>none
def cQ(P:Program)(t:TypeId):Option Nat:=(P.info? t).map (·.size)
def jX(P:Program)(t:TypeId):Nat:=P.bytesOf t
def cL(P:Program)(t:TypeId):Option TypeId:=match P.underlying t with|some (.slice e)=>some e|_=>none
def jD(P:Program)(t:TypeId):Option (Nat×TypeId):=match P.underlying t with|some (.array n e)=>some (n,e)|_=>none
def fieldInfo(P:Program)(s:TypeId)(f:Nat):Option (Nat×TypeId):=match P.underlying s with|some (.struct fs)=>(fs[f]?).bind fun x=>if cQ P x.type=some 0 then none else if(cQ P x.type).isNone then none else some (x.offset,x.type)|_=>none
def iE(P:Program)(t:TypeId):Option A:=(P.info? t).bind fun i=>i.zero.map toA
def lB(P:Program)(t:TypeId):Bool:=match P.underlying t with|some .string=>true|_=>false
def mb(P:Program)(t:TypeId):Bool:=match P.underlying t with|some .bool=>true|_=>false
def nT(P:Program)(t:TypeId):Bool:=match P.underlying t with|some (.pointer _)=>true|_=>false
def uw(P:Program)(t:TypeId):Option IntKind:=match P.underlying t with|some (.int k)=>some k|_=>none
def oF(P:Program)(t:TypeId)(cs:List A):Option A:=
 match ed P t with
 |some true=>
  match cQ P t with
  |some n=>if n<=cs.length then some (.agg (cs.take n))else none
  |none=>none
 |some false=>cs.head?
 |none=>none
def A.val:A->Bool| .any=>false| .eU _=>false|_=>true
def A.flat:A->Bool| .int _ _=>true| .bool _=>true| .str _=>true| .eo=>true| .zi=>true| .agg cs=>Nw cs| .eU cs=>Nw cs|_=>false where Nw:List A->Bool| []=>true|c::cs=>c.flat&&Nw cs
def mZ(c:UInt8):A:= .int .u8 c.toNat
def iQ(s:List UInt8):List A:=s.map mZ
def zj:A->Option UInt8| .int .u8 n=>some (UInt8.ofNat n.toNat)|_=>none
def lQ:List A->Option (List UInt8)| []=>some []|x::xs=>(zj x).bind fun b=>(lQ xs).map (b:: ·)
def WT:A->A->Option Bool| .int k a,.int k' b=>if k=k' then some (a==b)else none| .bool a,.bool b=>some (a==b)| .str a,.str b=>some (a==b)|_,_=>none
def Bh:List A->List A->Option Bool| [],[]=>some true|x::xs,y::ys=>(WT x y).bind fun a=>(Bh xs ys).map (a&& ·)|_,_=>none
inductive CK where|int (k:IntKind)|bool|str deriving DecidableEq
def CK.has:CK->A->Bool| .int k,.int k' _=>k==k'| .bool,.bool _=>true| .str,.str _=>true|_,_=>false
def j8:List CK->List A->Bool| [],[]=>true|c::cs,x::xs=>c.has x&&j8 cs xs|_,_=>false
def A.Nx:A->Bool| .ref _ _=>true| .mr _ _ _=>true| .jL _=>true|_=>false
def zk(op:BinOp)(k:IntKind)(a b:Int):Option A:=match op with| .add=>some (.int k (k.wrap (a+b)))| .sub=>some (.int k (k.wrap (a-b)))| .mul=>some (.int k (k.wrap (a*b)))| .quo=>if b=0 then none else some (.int k (k.wrap (a.tdiv b)))| .rem=>if b=0 then none else some (.int k (a.tmod b))| .and=>some (.int k (k.wrap ((BitVec.ofInt k.bits a&&&BitVec.ofInt k.bits b).toNat)))| .or=>some (.int k (k.wrap ((BitVec.ofInt k.bits a|||BitVec.ofInt k.bits b).toNat)))| .xor=>some (.int k (k.wrap ((BitVec.ofInt k.bits a^^^BitVec.ofInt k.bits b).toNat)))| .andNot=>some (.int k (k.wrap ((BitVec.ofInt k.bits a&&&~~~ BitVec.ofInt k.bits b).toNat)))| .eql=>some (.bool (a==b))| .neq=>some (.bool (a !=b))| .lss=>some (.bool (decide (a<b)))| .leq=>some (.bool (decide (a<=b)))| .gtr=>some (.bool (decide (b<a)))| .geq=>some (.bool (decide (b<=a)))|_=>none
def binS(op:BinOp)(a b:List UInt8):Option A:=match op with| .add=>if a.length+b.length<=9223372036854775807 then some (.str (a++b))else none| .eql=>some (.bool (a==b))| .neq=>some (.bool (a !=b))| .lss=>some (.bool (Op.bytesLess a b))| .leq=>some (.bool (Op.bytesLess a b||a==b))| .gtr=>some (.bool !(Op.bytesLess a b||a==b))| .geq=>some (.bool !(Op.bytesLess a b))|_=>none
def UD(sl:Bool)(op:BinOp)(c:Bool):Option A:=if sl=true then match op with| .eql=>some (.bool c)| .neq=>some (.bool !c)|_=>none else none
def mK(ks:Option (List CK))(bl ptr sl:Bool)(op:BinOp):A->A->Option A
 | .int k a,.int k' b=>
  match op with
  | .shl=>if b<0 then none else some (.int k (k.wrap (a*2^(min b.toNat k.bits))))
  | .shr=>if b<0 then none else some (.int k (a.fdiv (2^(min b.toNat k.bits))))
  |_=>if k=k' then zk op k a b else none
 | .bool a,.bool b=>
  if bl=true then
   match op with
   | .eql=>some (.bool (a==b))
   | .neq=>some (.bool (a !=b))
   |_=>none
  else none
 | .str a,.str b=>binS op a b
 | .agg xs,.agg ys=>
  match ks with
  |some l=>
   if j8 l xs=true/\j8 l ys=true then
    match op with
    | .eql=>(Bh xs ys).map .bool
    | .neq=>(Bh xs ys).map fun b=> .bool !b
    |_=>none
   else none
  |none=>none
 | .zi,y=>
  if ptr then
   match op with
   | .eql=>match y with| .zi=>some (.bool true)|_=>if y.Nx then some (.bool false)else none
   | .neq=>match y with| .zi=>some (.bool false)|_=>if y.Nx then some (.bool true)else none
   |_=>none
  else none
 |x,.zi=>
  if ptr&&x.Nx then
   match op with
   | .eql=>some (.bool false)
   | .neq=>some (.bool true)
   |_=>none
  else none
 | .emp c,.eo=>UD sl op c
 | .aC (_::_),.eo=>UD sl op false
 |_,_=>none
def unA(op:UnOp):A->Option A
 | .bool b=>match op with| .not=>some (.bool !b)|_=>none
 | .int k n=>match op with| .neg=>some (.int k (k.wrap (0-n)))|_=>none
 |_=>none
def WU(rec:TypeId->Option (List CK))(size:TypeId->Option Nat):List Field->Nat->Option (List CK)| [],_=>some []|f::fs,off=>if f.name= "_" \/f.offset≠off then none else match rec f.type,size f.type with|some ks,some n=>if ks.length=n then(WU rec size fs (off+n)).map (ks++ ·)else none|_,_=>none
def WV(P:Program):Nat->TypeId->Option (List CK)|0,_=>none|d+1,t=>match P.underlying t with|some .bool=>some [.bool]|some (.int k)=>some [.int k]|some .string=>some [.str]|some (.struct fs)=>if P.stoodInHeld t=true then none else WU (WV P d) (cQ P) fs.toList 0|_=>none
def uN(P:Program)(t:TypeId):Option (List CK):=if P.eqGuardType P.depth t=true\/ed P t≠some true then none else WV P 10 t
def ny:A->A| .eo=> .aC []| .emp _=> .aC []| .clip es=> .aC es|x=>x
def A.norm:A->A| .agg cs=> .agg (cs.map ny)|x=>ny x
def mj(H:List Obj)(n off k len:Nat):Option A:=match fj H n with|some (.row k' es)=>if k'=k/\off+len<=es.length/\k≠0 then some (.aC ((es.drop off).take len))else none|_=>none
def pf(H:List Obj):A->Option A| .row n off k len _=>mj H n off k len| .ref _ _=>none| .mr _ _ _=>none| .agg _=>none| .eU _=>none| .fn _ _=>none| .eo=>some (.aC [])| .emp _=>some (.aC [])| .clip es=>some (.aC es)|x=>some x
def j9(H:List Obj):List A->Option (List A)| []=>some []|x::xs=>(pf H x).bind fun y=>(j9 H xs).map (y:: ·)
def qB(H:List Obj):A->Option A
 | .ref n off=>
  match fj H n with
  |some (.box cs)=>(j9 H (cs.drop off)).map .jL
  |_=>none
 | .mr n i off=>
  match fj H n with
  |some (.row _ es)=>(es[i]?).map fun e=> .jL (e.cells.drop off)
  |_=>none
 | .agg cs=>(j9 H cs).map .agg
 |x=>pf H x
def nq(H:List Obj):List A->Option (List A)| []=>some []|x::xs=>(qB H x).bind fun y=>(nq H xs).map (y:: ·)
def view(H:List Obj):A->Option A| .fn f cs=>(nq H cs).map (.fn f ·)|x=>qB H x
def mQ(H:List Obj):List A->Option (List A)| []=>some []|x::xs=>(view H x).bind fun y=>(mQ H xs).map (y:: ·)
def gS(i:Int)(es:List A):Option A:=if 0<=i then es[i.toNat]? else none
inductive Bd where|none|some (n:Int)|bad
def bdOf:A->Bd| .int _ n=> .some n|_=> .bad
def St.bd(σ:St):Option Operand->Bd|Option.none=> .none|Option.some x=>bdOf (σ.ev x)
def Bd.get(d:Int):Bd->Int| .some n=>n|_=>d
def Bd.ok:Bd->Bool| .bad=>false|_=>true
def Bd.ok3:Bd->Bool| .some _=>true|_=>false
def pg(k:Nat)(es:List A):Bool:=es.isEmpty||eN es==k
def Kw(s:List UInt8)(lo hi mx:Bd):Option A:=match mx with| .none=>if 0<=lo.get 0/\lo.get 0<=hi.get s.length/\hi.get s.length<=s.length then some (.str ((s.take (hi.get s.length).toNat).drop (lo.get 0).toNat))else none|_=>none
def yh(k:Nat)(es:List A)(lo hi mx:Bd):Option A:=match mx with| .none=>if pg k es=true/\0<=lo.get 0/\lo.get 0<=hi.get es.length/\hi.get es.length<=es.length then some (.aC ((es.take (hi.get es.length).toNat).drop (lo.get 0).toNat))else none| .some m=>if pg k es=true/\0<=lo.get 0/\lo.get 0<=hi.get es.length/\hi.get es.length<=es.length/\m=hi.get es.length/\hi.ok3=true then some (.clip ((es.take (hi.get es.length).toNat).drop (lo.get 0).toNat))else none| .bad=>none
def Kx(n off k len:Nat)(lo hi mx:Bd):Option A:=match mx with| .none=>if 0<=lo.get 0/\lo.get 0<=hi.get len/\hi.get len<=len then some (.row n (off+(lo.get 0).toNat) k (hi.get len-lo.get 0).toNat false)else none| .some m=>if 0<=lo.get 0/\lo.get 0<=hi.get len/\hi.get len<=len/\m=hi.get len/\hi.ok3=true then some (.row n (off+(lo.get 0).toNat) k (hi.get len-lo.get 0).toNat true)else none| .bad=>none
def yi(st:Bool)(sz:Option Nat)(x:A)(lo hi mx:Bd):Option A:=
 match x with
 | .str s=>if st=true then Kw s lo hi mx else none
 | .aC es=>match sz with|some k=>yh k es lo hi mx|none=>none
 | .clip es=>match sz with|some k=>yh k es lo hi mx|none=>none
 | .row n off k' len _=>match sz with|some k=>if k=k' then Kx n off k len lo hi mx else none|none=>none
 |_=>none
def yj(P:Program)(t:TypeId):Option Nat:=match cL P t with|some e=>cQ P e|none=>none
def Ny(c a b:A):Option A:=match c with| .bool t=>some (if t then a else b)|_=>none
def zl(size:Option Nat)(off:Nat)(x:A)(zs:List A):Option (List A):=match size with|some n=>if x.cells.length=n/\off+n<=zs.length/\x.val=true then some (zs.take off++x.cells++zs.drop (off+n))else none|none=>none
def ph(P:Program)(t:TypeId)(σ:St):List (Nat×Operand)->List A->Option (List A)| [],zs=>some zs|(i,x)::ps,zs=>match fieldInfo P t i with|some (o,ft)=>(zl (cQ P ft) o (σ.ev x) zs).bind (ph P t σ ps)|none=>none
def pk(P:Program)(e:TypeId)(σ:St):List (Nat×Operand)->List A->Option (List A)| [],zs=>some zs|(i,x)::ps,zs=>match cQ P e with|some n=>(zl (some n) (i*n) (σ.ev x) zs).bind (pk P e σ ps)|none=>none
def nz(k:Nat)(σ:St):List (Nat×Operand)->List A->Option (List A)| [],zs=>some zs|(i,x)::ps,zs=>if(σ.ev x).cells.length=k/\i<zs.length/\(σ.ev x).val=true/\(σ.ev x).pure=true then nz k σ ps (fG zs i (σ.ev x).norm)else none
def kQ(P:Program)(t:TypeId):Bool:=match P.underlying t with|some (.struct fs)=>fs.toList.all fun f=>(cQ P f.type).isSome|_=>false
def u5(P:Program)(t:TypeId)(σ:St)(parts:List (Nat×Operand)):Option A:=
 match iE P t with
 |some (.agg zs)=>
  match jD P t with
  |some (_,e)=>if(cQ P e).isSome=true then(pk P e σ parts zs).map .agg else none
  |none=>if kQ P t=true then(ph P t σ parts zs).map .agg else none
 |_=>none
def lC(P:Program)(t:TypeId)(len:Nat)(σ:St)(parts:List (Nat×Operand)):Option A:=
 match cL P t with
 |some e=>
  match cQ P e,iE P e with
  |some k,some z=>if len*k<=16777216/\k≠0/\z.pure=true/\z.val=true/\z.cells.length=k then(nz k σ parts (List.replicate len z.norm)).map .clip else none
  |_,_=>none
 |none=>none
def xF(P:Program)(t:TypeId)(H:List Obj)(a:A):Option A:=
 match a with
 | .jL cs=>oF P t cs
 | .ref n off=>match fj H n with|some (.box cs)=>oF P t (cs.drop off)|_=>none
 | .mr n i off=>match fj H n with|some (.row _ es)=>(es[i]?).bind fun e=>oF P t (e.cells.drop off)|_=>none
 |_=>none
def Bi(x:A):Option A:=match x with| .jL cs=>some (.jL cs)| .ref n off=>some (.ref n off)| .mr n i off=>some (.mr n i off)| .fn f cs=>some (.fn f cs)|_=>none
def zm(P:Program)(src dst:TypeId):Bool:=(cL P src).any (fun e=>uw P e=some .u8)&&lB P dst
def qC(b:Bool)(x:Option A):Option A:=if b=true then match x with|some (.aC es)=>(lQ es).map .str|_=>none else none
def sk(P:Program)(src dst:TypeId)(H:List Obj)(x:A):Option A:=
 match x with
 | .int _ n=>match uw P dst with|some k=>if(ed P src).isSome=true then some (.int k (k.wrap n))else none|none=>none
 | .str s=>if lB P src&&lB P dst then some (.str s)else none
 | .aC es=>qC (zm P src dst) (view H (.aC es))
 | .clip es=>qC (zm P src dst) (view H (.clip es))
 | .eo=>qC (zm P src dst) (view H .eo)
 | .row n off k len c=>qC (zm P src dst) (view H (.row n off k len c))
 |_=>none
def oO(o:Nat)(x:A):Option A:=match x with| .jL cs=>some (.jL (cs.drop o))| .ref n off=>some (.ref n (off+o))| .mr n i off=>some (.mr n i (off+o))|_=>none
def oP(i:Option (Nat×TypeId))(x:A):Option A:=match i with|some (o,_)=>oO o x|none=>none
def Ru(P:Program)(i:Option (Nat×TypeId))(x:A):Option A:=match i,x with|some (o,t),.agg cs=>oF P t (cs.drop o)|_,_=>none
def WW(k:Nat)(i:Int)(es:List A):Option A:=(gS i es).bind fun y=>if k=y.cells.length then some (.jL y.cells)else none
def qD(k:Nat)(i:Int)(x:A):Option A:=match x with| .aC es=>WW k i es| .clip es=>WW k i es| .row n off k' len _=>if k=k'/\0<=i/\i<len then some (.mr n (off+i.toNat) 0)else none|_=>none
def tf(n k:Nat)(i:Int)(x:A):Option A:=match x with| .ref m off=>if 0<=i/\i<n then some (.ref m (off+i.toNat*k))else none| .jL cs=>if 0<=i/\i<n then some (.jL (cs.drop (i.toNat*k)))else none|_=>none
def qE(P:Program)(t:TypeId)(x ix:A):Option A:=
 match ix with
 | .int _ i=>
  match cL P t with
  |some e=>match cQ P e with|some k=>qD k i x|none=>none
  |none=>
   match jD P t with
   |some (n,e)=>match cQ P e with|some k=>tf n k i x|none=>none
   |none=>none
 |_=>none
def Bj(P:Program)(t:TypeId)(x ix:A):Option A:=
 match ix,x with
 | .int _ i,.str s=>if lB P t=true/\0<=i then(s[i.toNat]?).map mZ else none
 | .int _ i,.agg cs=>
  match jD P t with
  |some (n,e)=>match cQ P e with|some k=>if 0<=i/\i<n then oF P e (cs.drop (i.toNat*k))else none|none=>none
  |none=>none
 |_,_=>none
def u6(x:A)(ix:Nat):Option A:=match x with| .eU cs=>cs[ix]?|_=>none
def Rv(P:Program)(t:TypeId)(x:A):Option A:=match x with| .str s=>if lB P t=true then some (.int .i64 s.length)else none| .aC es=>if(cL P t).isSome=true then some (.int .i64 es.length)else none| .clip es=>if(cL P t).isSome=true then some (.int .i64 es.length)else none| .row _ _ _ len _=>if(cL P t).isSome=true then some (.int .i64 len)else none| .eo=>if(cL P t).isSome=true then some (.int .i64 0)else none|_=>match jD P t with|some (n,_)=>some (.int .i64 n)|none=>none
def minA:List A->Option A| [.int k a,.int _ b]=>some (.int k (if b<a then b else a))|_=>none
def maxA:List A->Option A| [.int k a,.int _ b]=>some (.int k (if b>a then b else a))|_=>none
def sm(fn:Fn)(first captured:List A):Option A:=match fn,first with| .func f,[]=>some (.fn f captured)|_,_=>none
def St.rf(σ:St):List Operand->List A| []=>[]|x::xs=>σ.ev x::σ.rf xs
def ux(P:Program)(σ:St):Op->Option A| .move x=>some (σ.ev x)| .assign x=>some (σ.ev x)| .pick c a b=>Ny (σ.ev c) (σ.ev a) (σ.ev b)| .build t parts=>u5 P t σ parts.toList| .buildSlice t len parts=>lC P t len σ parts.toList| .load t a=>xF P t σ.H (σ.ev a)| .nilCheck x=>Bi (σ.ev x)| .binOp op t x y _=>mK (uN P t) (mb P t) (nT P t) (cL P t).isSome op (σ.ev x) (σ.ev y)| .unOp op _ x=>unA op (σ.ev x)| .convert src dst x=>sk P src dst σ.H (σ.ev x)| .makeFunc fn first captured=>sm fn (σ.rf first.toList) (σ.rf captured.toList)| .slice t x lo hi mx=>if(jD P t).isNone=true/\(σ.bd lo).ok=true/\(σ.bd hi).ok=true then yi (lB P t) (yj P t) (σ.ev x) (σ.bd lo) (σ.bd hi) (σ.bd mx)else none| .fieldAddr s x f=>oP (fieldInfo P s f) (σ.ev x)| .field s x f=>Ru P (fieldInfo P s f) (σ.ev x)| .indexAddr t x ix=>qE P t (σ.ev x) (σ.ev ix)| .index t x ix=>Bj P t (σ.ev x) (σ.ev ix)| .extract t ix=>u6 (σ.ev t) ix| .call ⟨.builtin .len,⟨[x]⟩,⟨[t]⟩⟩=>Rv P t (σ.ev x)| .call ⟨.builtin .min,⟨xs⟩,_⟩=>minA (σ.rf xs)| .call ⟨.builtin .max,⟨xs⟩,_⟩=>maxA (σ.rf xs)|_=>none
def Dq(P:Program)(σ:St)(e tx:TypeId)(k:Nat)(x:A):Option (List A):=match x with| .aC es=>if pg k es=true/\(cL P tx).isSome=true then some es else none| .clip es=>if pg k es=true/\(cL P tx).isSome=true then some es else none| .eo=>if(cL P tx).isSome=true then some []else none| .emp _=>if(cL P tx).isSome=true then some []else none| .row n off k' len _=>if k'=k/\(cL P tx).isSome=true then(match mj σ.H n off k len with|some (.aC es)=>some es|_=>none)else none| .str s=>if uw P e=some .u8/\k=1/\lB P tx=true then some (iQ s)else none|_=>none
def jQ(n:Nat)(x:A):A:=if x.mem n then .any else x
def tg(n:Nat):Obj->Obj| .box cs=> .box (cs.map (jQ n))|o=>o
def St.lR(σ:St)(n:Nat):St:={s:=σ.s.map (fun p=>(p.1,jQ n p.2)),H:=σ.H.map (tg n)}
def th(fx:Nat->Bool)(σ:St)(name:Nat)(d:Option Tmp)(k bytes:Nat)(base:A)(src:List A):Option St:=
 match base with
 | .eo=>if src.length*bytes<=140737488355328 then some ((σ.ie name (.row k src)).put d (.row name 0 k src.length false))else none
 | .clip es=>if pg k es=true/\(es=[]\/src≠ [])/\(es.length+src.length)*bytes<=140737488355328 then
  some ((σ.ie name (.row k (es++src))).put d (.row name 0 k (es.length+src.length) false))else none
 | .row n 0 k' len c=>
  match fj σ.H n with
  |some (.row HR es)=>
   if k'=k/\HR=k/\len<=es.length/\(len+src.length)*bytes<=140737488355328 then
    if c then(if src=[]then none else some ((σ.ie name (.row k (es.take len++src))).put d (.row name 0 k (len+src.length) false)))
    else(if fx n=true then none else some (((σ.lR n).ie n (.row k (es.take len++src))).put d (.row n 0 k (len+src.length) false)))
   else none
  |_=>none
 |_=>none
structure aN where
 f:FuncId->List A->Option A
 hp:FuncId->List A->List Obj->Option (A×List Obj×List Nat)
 pN:FuncId->Bool
 u3:FuncId->Bool
 WX:Bool
 fix:Nat->Bool
 nf:Nat
 fV:Nat->List (List Nat)
def ED(Γ:aN):Operand->Bool| .func g=>Γ.pN g| .tmp _=>Γ.WX|_=>false
def zn(P:Program)(src dst:TypeId):Bool:=lB P src&&(cL P dst).any (fun e=>uw P e=some .u8)
def eS(P:Program):Op->Bool| .alloc _=>true| .box _ _=>true| .convert src dst _=>zn P src dst| .call ⟨.builtin .append,_,_⟩=>true|_=>false
def jY(cs:List A)(off:Nat)(ys:List A):List A:=cs.take off++ys++cs.drop (off+ys.length)
def Bk(σ:St)(name:Nat)(d:Option Tmp)(x:A):Option St:=if x.val=true then some ((σ.ie name (.box x.cells)).put d (.ref name 0))else none
def ti(σ:St)(name:Nat)(d:Option Tmp)(z:Option A):Option St:=match z with|some z=>Bk σ name d z|none=>none
def qF(e:A)(off:Nat)(v:A):A:=match e with| .agg cs=> .agg (jY cs off v.norm.cells)|_=>v.norm
def tn(σ:St)(d:Option Tmp)(size:Option Nat)(a v:A):Option St:=
 match a with
 | .ref n off=>
  match fj σ.H n with
  |some (.box cs)=>if size=some v.cells.length/\off+v.cells.length<=cs.length/\v.val=true then some ((σ.ie n (.box (jY cs off v.cells))).put d (.eU []))else none
  |_=>none
 | .mr n i off=>
  match fj σ.H n with
  |some (.row k es)=>(es[i]?).bind fun e=>if size=some v.cells.length/\off+v.cells.length<=e.cells.length/\v.cells.length≠0/\v.val=true/\v.pure=true then some ((σ.ie n (.row k (fG es i (qF e off v)))).put d (.eU []))else none
  |_=>none
 |_=>none
def CA(P:Program)(σ:St)(name:Nat)(d:Option Tmp)(src dst:TypeId)(x:A):Option St:=if zn P src dst=true then match x with| .str s=>some ((σ.ie name (.row 1 (iQ s))).put d (.row name 0 1 s.length false))|_=>none else(sk P src dst σ.H x).map (σ.put d ·)
def mS(P:Program)(e:TypeId)(k:Nat):Bool:=match iE P e with|some z=>z.val&&z.cells.length==k|none=>false
def wG(P:Program)(fx:Nat->Bool)(σ:St)(name:Nat)(d:Option Tmp)(t tx:TypeId)(b x:A):Option St:=
 match cL P t with
 |some e=>
  match cQ P e with
  |some k=>if k=0\/jX P e=0\/mS P e k=false then none else(Dq P σ e tx k x).bind fun src=>th fx σ name d k (jX P e) b src
  |none=>none
 |none=>none
def Nz(Γ:aN)(σ:St)(d:Option Tmp)(g:FuncId)(aq:List A):Option St:= (mQ σ.H aq).bind fun bs=>(Γ.f g bs).bind fun r=>if(A.pure.cX aq||r.flat)=true then some (σ.put d r)else none
def EE(Γ:aN)(σ:St)(d:Option Tmp)(f:A)(aq:List A):Option St:=match f with| .fn g oC=>Nz Γ σ d g (aq++oC)|_=>none
def Bl(P:Program)(σ:St)(d:Option Tmp)(t:TypeId)(x:A):Option St:=
 match x with
 | .row n off k len _=>
  match cL P t with
  |some e=>
   match fj σ.H n with
   |some (.row k' es)=>
    match iE P e with
    |some z=>if k'=k/\z.cells.length=k/\k≠0/\z.val=true/\z.pure=true/\off+len<=es.length then some ((σ.ie n (.row k (es.take off++List.replicate len z.norm++es.drop (off+len)))).put d (.eU []))else none
    |none=>none
   |_=>none
  |none=>none
 |_=>none
def A.names:A->List Nat| .ref n _=>[n]| .mr n _ _=>[n]| .row n _ _ _ _=>[n]| .agg cs=>mc cs| .fn _ cs=>mc cs| .eU cs=>mc cs|_=>[] where mc:List A->List Nat| []=>[]|c::cs=>c.names++mc cs
def Obj.names:Obj->List Nat| .box cs=>A.names.mc cs| .row _ _=>[]
def ym:Option Obj->List Nat|some o=>o.names|none=>[]
def reach(H:List Obj):Nat->List Nat->List Nat->List Nat|0,_,acc=>acc|_+1,[],acc=>acc|fuel+1,n::todo,acc=>if acc.contains n=true then reach H fuel todo acc else reach H fuel (ym (fj H n)++todo) (acc++[n])
def idx(ρ:List Nat)(n:Nat):Option Nat:=match ρ with| []=>none|m::ms=>if m=n then some 0 else(idx ms n).map (· +1)
def A.nU(ρ:List Nat):A->Option A| .ref n o=>(idx ρ n).map (.ref · o)| .mr n i o=>(idx ρ n).map (.mr · i o)| .row n o k l c=>(idx ρ n).map (.row · o k l c)| .agg cs=>(uO ρ cs).map .agg| .fn f cs=>(uO ρ cs).map (.fn f ·)| .eU cs=>(uO ρ cs).map .eU|x=>some x where uO (ρ:List Nat):List A->Option (List A)| []=>some []|c::cs=>(c.nU ρ).bind fun x=>(uO ρ cs).map (x:: ·)
def Obj.nU(ρ:List Nat):Obj->Option Obj| .box cs=>(A.nU.uO ρ cs).map .box| .row k es=>some (.row k es)
def renO(ρ:List Nat):Option Obj->Option Obj|some o=>o.nU ρ|none=>none
def uP(ρ:List Nat)(H:List Obj):List Nat->Option (List Obj)| []=>some []|n::ns=>(renO ρ (fj H n)).bind fun o=>(uP ρ H ns).map (o:: ·)
def lK:List Nat->Nat->Nat->Nat| [],base,i=>base+i|n::_,_,0=>n|_::ns,base,i+1=>lK ns base i
def A.back(ρ:List Nat)(m:Nat):A->A| .ref n o=> .ref (lK ρ m n) o| .mr n i o=> .mr (lK ρ m n) i o| .row n o k l c=> .row (lK ρ m n) o k l c| .agg cs=> .agg (oG ρ m cs)| .fn f cs=> .fn f (oG ρ m cs)| .eU cs=> .eU (oG ρ m cs)|x=>x where oG (ρ:List Nat) (m:Nat):List A->List A| []=>[]|c::cs=>c.back ρ m::oG ρ m cs
def Obj.back(ρ:List Nat)(m:Nat):Obj->Obj| .box cs=> .box (A.back.oG ρ m cs)| .row k es=> .row k es
def iz(ρ:List Nat)(m:Nat)(σ:St):List Nat->St| []=>σ|i::is=>iz ρ m (σ.lR (lK ρ m i)) is
def qG(ρ:List Nat)(m:Nat):List Nat->List Obj->List Obj->List Obj| [],os,H=>H++os.map (Obj.back ρ m)|n::ns,o::os,H=>qG ρ m ns os (pH H n (o.back ρ m))|_::_,[],H=>H
def EF(σ:St)(d:Option Tmp)(ρ:List Nat):A×List Obj×List Nat->St|(r,H',S)=>St.put ⟨(iz ρ σ.H.length σ S).s,qG ρ σ.H.length ρ H' (iz ρ σ.H.length σ S).H⟩ d (r.back ρ σ.H.length)
def tp(Γ:aN)(ρ:List Nat)(m:Nat):List Nat->Bool| []=>true|i::is=> !Γ.fix (lK ρ m i)&&tp Γ ρ m is
def A.meets(ρ:List Nat)(x:A):Bool:=ρ.any fun n=>x.mem n
def ri(ρ:List Nat)(fy:List Obj)(x:A):A:=if x.meets ρ=true then(match x.nU ρ with|some x'=>(view fy x').getD .any|none=> .any)else x
def Ky(ρ:List Nat)(fy:List Obj):Obj->Obj| .box cs=> .box (cs.map (ri ρ fy))| .row k es=> .row k es
def sn(ρ:List Nat):List Nat->List Obj->List Obj| [],H=>H|n::ns,H=>sn ρ ns (pH H n (.row 0 []))
def Kz(σ:St)(d:Option Tmp)(ρ:List Nat)(fy:List Obj)(r:A):St:=St.put ⟨σ.s.map (fun p=>(p.1,ri ρ fy p.2)),sn ρ ρ (σ.H.map (Ky ρ fy))⟩ d r
def yn(Γ:aN)(σ:St)(d:Option Tmp)(g:FuncId)(aq:List A)(ρ:List Nat):Option St:= (A.nU.uO ρ aq).bind fun as'=>(uP ρ σ.H ρ).bind fun fy=>if Γ.u3 g=true then(if ρ.all (fun n=> !Γ.fix n)=true then(mQ fy as').bind fun bs=>(Γ.f g bs).map (Kz σ d ρ fy)else none) else(Γ.hp g as' fy).bind fun x=>if tp Γ ρ σ.H.length x.2.2=true then some (EF σ d ρ x)else none
def NA(Γ:aN)(σ:St)(d:Option Tmp)(g:FuncId)(aq:List A):Option St:=yn Γ σ d g aq (reach σ.H 64 (A.names.mc aq) [])
def u7(Γ:aN)(σ:St)(d:Option Tmp)(f:A)(aq:List A):Option St:=match f with| .fn g oC=>NA Γ σ d g (aq++oC)|_=>none
def execOp(P:Program)(Γ:aN)(name:Nat)(d:Option Tmp)(op:Op)(σ:St):Option St:=match op with| .alloc t=>ti σ name d (iE P t)| .box _ x=>Bk σ name d (σ.ev x)| .store t a x=>tn σ d (cQ P t) (σ.ev a) (σ.ev x)| .convert src dst x=>CA P σ name d src dst (σ.ev x)| .call ⟨.builtin .append,⟨[b,x]⟩,⟨[t,tx]⟩⟩=>wG P Γ.fix σ name d t tx (σ.ev b) (σ.ev x)| .call ⟨.builtin .clear,⟨[x]⟩,⟨[t]⟩⟩=>Bl P σ d t (σ.ev x)| .call ⟨.value f,⟨xs⟩,_⟩=>if ED Γ f=true then u7 Γ σ d (σ.ev f) (σ.rf xs)else EE Γ σ d (σ.ev f) (σ.rf xs)|op=>(ux P σ op).map (σ.put d ·)
def EG:List (Option Tmp)->Nat->Option Tmp| [],_=>none|x::_,0=>x|_::xs,n+1=>EG xs n
def nV(ds:List (Option Tmp))(σ:St)(g:Option (Nat×Bool)):Option Bool:=match g with|none=>some true|some (j,want)=>match EG ds j with|none=>some false|some t=>match look σ.s t with| .bool b=>some (b==want)| .any=>none|_=>some false
def eI(P:Program)(Γ:aN)(ds:List (Option Tmp))(name:Nat)(o:Oper)(σ:St):Option St:=match nV ds σ o.guard with|none=>none|some b=>if b then execOp P Γ name o.dst o.op σ else some (σ.put o.dst (.eU []))
def grow(P:Program)(op:Op)(σ:St):St:=if eS P op=true then{σ with H:=σ.H++[.row 0 []]}else σ
def gp(P:Program)(op:Op)(n:Nat):Nat:=if eS P op=true then n+1 else n
def pre(P:Program):List Oper->St->St| [],σ=>σ|o::os,σ=>pre P os (grow P o.op σ)
def nW(P:Program)(Γ:aN)(ds:List (Option Tmp)):List Oper->Nat->St->Option St| [],_,σ=>some σ|o::os,n,σ=>(eI P Γ ds n o σ).bind (nW P Γ ds os (gp P o.op n))
def dstsOf:List Oper->List (Option Tmp)| []=>[]|o::os=>o.dst::dstsOf os
inductive Ex where|normal|exit (id:Nat)|ret
def A.under(m:Nat):A->Bool| .ref n _=>n<m| .mr n _ _=>n<m| .row n _ _ _ _=>n<m| .agg cs=>mu m cs| .fn _ cs=>mu m cs| .eU cs=>mu m cs|_=>true where mu (m:Nat):List A->Bool| []=>true|c::cs=>c.under m&&mu m cs
def leS(m:Nat)(s:List (Nat×A)):List (Nat×A)->Prop| []=>True|(d,y)::r=>(look s d=y/\y.under m=true)/\leS m s r
def Nc(m:Nat):List A->List A->Prop| [],[]=>True|x::xs,y::ys=>(y= .any\/(x=y/\y.under m=true))/\Nc m xs ys|_,_=>False
def UE(m:Nat):Obj->Obj->Prop| .box xs,.box ys=>Nc m xs ys| .row k xs,.row k' ys=>k=k'/\xs=ys|_,_=>False
def xG(m:Nat):List Obj->List Obj->Prop| [],[]=>True|_::_,[]=>True|x::xs,y::ys=>UE m x y/\xG m xs ys| [],_::_=>False
def St.le(σ τ:St):Prop:=leS τ.H.length σ.s τ.s/\xG τ.H.length σ.H τ.H
def NB(ρ:List Nat)(fy:List Obj)(σ:St):St:=⟨σ.s.map (fun p=>(p.1,ri ρ fy p.2)),sn ρ ρ (σ.H.map (Ky ρ fy))⟩
def yo(ρ:List Nat)(σ:St):St:=⟨σ.s.map (fun p=>(p.1,p.2.back ρ σ.H.length)),qG ρ σ.H.length ρ σ.H σ.H⟩
inductive St.to(nf:Nat):St->St->Prop where|le {σ τ:St}:nf<=τ.H.length->σ.le τ->St.to nf σ τ|nil {σ τ:St} (d k:Nat):look σ.s d= .eo->St.to nf ⟨(d,.row σ.H.length 0 k 0 false)::σ.s,σ.H++[.row k []]⟩ τ->St.to nf σ τ|nilb {σ τ:St} (m i k:Nat) (cs:List A):fj σ.H m=some (.box cs)->cs[i]? =some .eo->St.to nf ⟨σ.s,pH σ.H m (.box (fG cs i (.row σ.H.length 0 k 0 false)))++[.row k []]⟩ τ->St.to nf σ τ|wk {σ τ:St} (d:Nat) (es:List A):look σ.s d= .clip es->St.to nf ⟨(d,.aC es)::σ.s,σ.H⟩ τ->St.to nf σ τ|wkb {σ τ:St} (m:Nat) (cs:List A):fj σ.H m=some (.box cs)->St.to nf ⟨σ.s,pH σ.H m (.box (cs.map ny))⟩ τ->St.to nf σ τ|perm {σ τ:St} (ρ:List Nat):σ.H.length=ρ.length->ρ.Nodup->(∀n∈ρ,n<ρ.length)->(∀n,n<ρ.length->n∈ρ)->(∀i,i<nf->lK ρ ρ.length i=i)->St.to nf (yo ρ σ) τ->St.to nf σ τ|u3 {σ τ:St} (ρ:List Nat) (fy:List Obj):ρ.Nodup->uP ρ σ.H ρ=some fy->(∀n∈ρ,nf<=n)->St.to nf (NB ρ fy σ) τ->St.to nf σ τ
def K? {α:Type}(o:Option α)(q:α->Prop):Prop:= ∃x,o=some x/\q x
def pI(P:Program):Nat->List Oper->List (Nat×Oper)|_,[]=>[]|n,o::os=>(n,o)::pI P (gp P o.op n) os
def kC:List (Nat×Oper)->Nat->Option (Nat×Oper)| [],_=>none|x::_,0=>some x|_::xs,i+1=>kC xs i
def uQ(P:Program)(Γ:aN)(ds:List (Option Tmp))(B:List (Nat×Oper)):List Nat->St->Option St| [],σ=>some σ|i::is,σ=>(kC B i).bind fun x=>(eI P Γ ds x.1 x.2 σ).bind (uQ P Γ ds B is)
def xH(P:Program)(Γ:aN)(ds:List (Option Tmp))(B:List (Nat×Oper))(σ:St)(q:St->Prop):List (List Nat)->Prop| []=>True|o::os=>K? (uQ P Γ ds B o σ) q/\xH P Γ ds B σ q os
def Rw(P:Program)(Γ:aN)(os:List (List Nat))(ops:Array Oper)(Q:Ex->St->Prop)(σ:St):Prop:=match os with| []=>K? (nW P Γ (dstsOf ops.toList) ops.toList σ.H.length (pre P ops.toList σ)) (Q .normal)|o::os=>xH P Γ (dstsOf ops.toList) (pI P σ.H.length ops.toList) (pre P ops.toList σ) (Q .normal) (o::os)
def NC:List (List Nat)->Option (List Nat)|(t::ρ)::_=>if t=999999 then some ρ else none|_=>none
def EH:List (List Nat)->List (List Nat)|(t::ρ)::os=>if t=999999 then os else(t::ρ)::os|os=>os
def u9(m:Nat)(ρ:List Nat):List Nat:=ρ.filter fun n=>decide (n<m)
def HS(P:Program)(Γ:aN)(os:List (List Nat))(ops:Array Oper)(Q:Ex->St->Prop)(σ:St):Prop:=match NC os with|none=>Rw P Γ (EH os) ops Q σ|some ρ=>K? (uP (u9 σ.H.length ρ) σ.H (u9 σ.H.length ρ)) fun fy=>Rw P Γ (EH os) ops Q (NB (u9 σ.H.length ρ) fy σ)
def Rx(W:(Ex->St->Prop)->St->Prop)(Q:Ex->St->Prop)(e:Ex)(τ:St):Prop:=match e with| .normal=>W Q τ| .exit i=>Q (.exit i) τ| .ret=>Q .ret τ
def tq(id:Nat)(Q:Ex->St->Prop)(e:Ex)(τ:St):Prop:=match e with| .normal=>Q .normal τ| .exit i=>if i=id then Q .normal τ else Q (.exit i) τ| .ret=>Q .ret τ
def xI(N:St->Prop)(Q:Ex->St->Prop)(e:Ex)(τ:St):Prop:=match e with| .normal=>N τ| .exit i=>Q (.exit i) τ| .ret=>Q .ret τ
def pO(c:A)(p q:Prop):Prop:= ∃t,c= .bool t/\(t=true->p)/\(t=false->q)
def lS(P:Program)(Γ:aN):Code->(Ex->St->Prop)->St->Prop| .skip,Q,σ=>Q .normal σ| .label _,Q,σ=>Q .normal σ| .seq a b,Q,σ=>lS P Γ a (Rx (lS P Γ b) Q) σ| .cond c a b,Q,σ=>pO (σ.ev c) (lS P Γ a Q σ) (lS P Γ b Q σ)| .block id c,Q,σ=>lS P Γ c (tq id Q) σ| .loop c,Q,σ=> ∃(ι:Type) (inv:ι->St) (μ:ι->Nat),(∃i,St.to Γ.nf σ (inv i))/\∀i,lS P Γ c (xI (fun τ=> ∃j,St.to Γ.nf τ (inv j)/\μ j<μ i) Q) (inv i)| .exit id,Q,σ=>Q (.exit id) σ| .ret,Q,σ=>Q .ret σ| .region id ops _,Q,σ=>HS P Γ (Γ.fV id) ops Q σ|_,_,_=>False
def resC(P:Program)(σ:St)(t:TypeId)(a:A):Option A:=
 match a with
 | .ref n off=>match fj σ.H n with|some (.box cs)=>(oF P t (cs.drop off)).bind (view σ.H)|_=>none
 |_=>none
def ND(P:Program)(σ:St):ResultVar->Option A| .tmp t=>view σ.H (look σ.s t)| .cell a t=>resC P σ t (look σ.s a)
def Bm(P:Program)(σ:St):List ResultVar->Option (List A)| []=>some []|r::rs=>(ND P σ r).bind fun x=>(Bm P σ rs).map (x:: ·)
def nX:List A->A| [x]=>x|xs=> .eU xs
def UF(P:Program)(fn:Func)(rT:A->Prop)(e:Ex)(σ:St):Prop:=match e with| .exit _=>False|_=>K? (Bm P σ fn.results.toList) (fun rs=>rT (nX rs))
def rawC(P:Program)(σ:St)(t:TypeId)(a:A):Option A:=
 match a with
 | .ref n off=>match fj σ.H n with|some (.box cs)=>oF P t (cs.drop off)|_=>none
 |_=>none
def WY(P:Program)(σ:St):ResultVar->Option A| .tmp t=>some (look σ.s t)| .cell a t=>rawC P σ t (look σ.s a)
def Dr(P:Program)(σ:St):List ResultVar->Option (List A)| []=>some []|r::rs=>(WY P σ r).bind fun x=>(Dr P σ rs).map (x:: ·)
def bodyH(P:Program)(fn:Func)(r:A)(H':List Obj)(e:Ex)(σ:St):Prop:=match e with| .exit _=>False|_=>K? (Dr P σ fn.results.toList) (fun rs=>nX rs=r/\r.under H'.length=true/\xG H'.length σ.H H')
def number:Nat->List A->List (Nat×A)|_,[]=>[]|n,x::xs=>(n,x)::number (n+1) xs
def Bn(args:List A):St:={s:=number 0 args,H:=[]}
def KA(args:List A)(H:List Obj):St:={s:=number 0 args,H:=H}
end Go.eC
namespace Go.eC
theorem zo{P:Program}{Γ:aN}: ∀{c:Code} {Q Q':Ex->St->Prop} {σ:St},(∀e τ,Q e τ->Q' e τ)->lS P Γ c Q σ->lS P Γ c Q' σ:=by intro c;induction c with|skip=>(intro Q Q' σ h hw;simp only[lS]at hw⊢;exact h _ _ hw)|label l=>(intro Q Q' σ h hw;simp only[lS]at hw⊢;exact h _ _ hw)|exit id=>(intro Q Q' σ h hw;simp only[lS]at hw⊢;exact h _ _ hw)|ret=>(intro Q Q' σ h hw;simp only[lS]at hw⊢;exact h _ _ hw)|seq x y ihx ihy=>(intro Q Q' σ h hw;simp only[lS]at hw⊢;refine ihx (fun e τ hq=> ?_) hw;cases e with|normal=>(exact ihy h hq)|exit i=>(exact h _ _ hq)|ret=>(exact h _ _ hq))|cond c x y ihx ihy=>(intro Q Q' σ h hw;simp only[lS,pO]at hw⊢;obtain⟨t,ht,h1,h2⟩:=hw;exact⟨t,ht,fun e=>ihx h (h1 e),fun e=>ihy h (h2 e)⟩)|block id x ih=>(intro Q Q' σ h hw;simp only[lS]at hw⊢;refine ih (fun e τ hq=> ?_) hw;cases e with|normal=>(exact h _ _ hq)|exit i=>(simp only[tq]at hq⊢;split at hq;{rename_i e;rw[if_pos e];exact h _ _ hq};{rename_i e;rw[if_neg e];exact h _ _ hq})|ret=>(exact h _ _ hq))|loop x ih=>(intro Q Q' σ h hw;simp only[lS]at hw⊢;obtain⟨ι,inv,μ,h0,hs⟩:=hw;refine⟨ι,inv,μ,h0,fun i=>ih (fun e τ hq=> ?_) (hs i)⟩;cases e with|normal=>(exact hq)|exit i=>(exact h _ _ hq)|ret=>(exact h _ _ hq))|region id ops d=>(intro Q Q' σ h hw;simp only[lS]at hw⊢;(have key: ∀(os:List (List Nat)) (σ:St),Rw P Γ os ops Q σ->Rw P Γ os ops Q' σ:=fun os σ=>by cases os with|nil=>(rintro⟨τ,hr,hq⟩;exact⟨τ,hr,h _ _ hq⟩)|cons o os=>((have key: ∀os:List (List Nat),xH P Γ (dstsOf ops.toList) (pI P σ.H.length ops.toList) (pre P ops.toList σ) (Q .normal) os->xH P Γ (dstsOf ops.toList) (pI P σ.H.length ops.toList) (pre P ops.toList σ) (Q' .normal) os:=by intro os;induction os with|nil=>(exact fun h=>h)|cons o os ih=>(rintro⟨⟨τ,hr,hq⟩,h2⟩;exact⟨⟨τ,hr,h _ _ hq⟩,ih h2⟩));exact key _));unfold HS at hw⊢;cases hf:NC (Γ.fV id)with|none=>(rw[hf]at hw;exact key _ _ hw)|some ρ=>(rw[hf]at hw;obtain⟨fy,h1,h2⟩:=hw;exact⟨fy,h1,key _ _ h2⟩))|_=>(intro Q Q' σ _ hw;simp only[lS]at hw)
section
variable{P:Program}{Γ:aN}{Q:Ex->St->Prop}{σ:St}
@[go_sem] theorem wpA_skip:lS P Γ .skip Q σ=Q .normal σ:=by simp only[lS]
@[go_sem] theorem wpA_seq{a b:Code}:lS P Γ (.seq a b) Q σ=lS P Γ a (Rx (lS P Γ b) Q) σ:=by simp only[lS]
@[go_sem] theorem wpA_cond{c:Operand}{a b:Code}:lS P Γ (.cond c a b) Q σ=pO (σ.ev c) (lS P Γ a Q σ) (lS P Γ b Q σ):=by simp only[lS]
@[go_sem] theorem wpA_block{id:Nat}{c:Code}:lS P Γ (.block id c) Q σ=lS P Γ c (tq id Q) σ:=by simp only[lS]
@[go_sem] theorem wpA_exit{id:Nat}:lS P Γ (.exit id) Q σ=Q (.exit id) σ:=by simp only[lS]
@[go_sem] theorem wpA_ret:lS P Γ .ret Q σ=Q .ret σ:=by simp only[lS]
@[go_sem] theorem wpA_region{σs:List (Nat×A)}{gQ:List Obj}{i:Nat}{ops:Array Oper}{d:Bool}:lS P Γ (.region i ops d) Q (St.mk σs gQ)=HS P Γ (Γ.fV i) ops Q (St.mk σs gQ):=by simp only[lS]
@[congr] theorem regW_congr{os os':List (List Nat)}{ops:Array Oper}(h:os=os'):HS P Γ os ops Q σ=HS P Γ os' ops Q σ:=by rw[h]
@[go_sem] theorem regW_nil{σs:List (Nat×A)}{gQ:List Obj}{ops:Array Oper}:HS P Γ [] ops Q (St.mk σs gQ)=K? (nW P Γ (dstsOf ops.toList) ops.toList gQ.length (pre P ops.toList (St.mk σs gQ))) (Q .normal):=rfl
@[go_sem] theorem regW_cons{σs:List (Nat×A)}{gQ:List Obj}{ops:Array Oper}{t:Nat}{o:List Nat}{os:List (List Nat)}(h:t≠999999):HS P Γ ((t::o)::os) ops Q (St.mk σs gQ)=xH P Γ (dstsOf ops.toList) (pI P gQ.length ops.toList) (pre P ops.toList (St.mk σs gQ)) (Q .normal) ((t::o)::os):=by unfold HS NC EH;simp only[if_neg h];rfl
@[go_sem] theorem regW_frz'{σs:List (Nat×A)}{gQ:List Obj}{ops:Array Oper}{t:Nat}{ρ:List Nat}{os:List (List Nat)}(h:t=999999):HS P Γ ((t::ρ)::os) ops Q (St.mk σs gQ)=K? (uP (u9 gQ.length ρ) gQ (u9 gQ.length ρ)) fun fy=>Rw P Γ os ops Q (NB (u9 gQ.length ρ) fy (St.mk σs gQ)):=by subst h;rfl
@[go_sem] theorem keepN_nil{m:Nat}:u9 m []=[]:=rfl
@[go_sem] theorem keepN_cons{m n:Nat}{ρ:List Nat}:u9 m (n::ρ)=if n<m then n::u9 m ρ else u9 m ρ:=by unfold u9;rw[List.filter_cons];simp
@[go_sem] theorem regO_nil{σs:List (Nat×A)}{gQ:List Obj}{ops:Array Oper}:Rw P Γ [] ops Q (St.mk σs gQ)=K? (nW P Γ (dstsOf ops.toList) ops.toList gQ.length (pre P ops.toList (St.mk σs gQ))) (Q .normal):=rfl
@[go_sem] theorem ordsW_nil{ds:List (Option Tmp)}{B:List (Nat×Oper)}{q:St->Prop}:xH P Γ ds B σ q []=True:=rfl
@[go_sem] theorem ordsW_cons{ds:List (Option Tmp)}{B:List (Nat×Oper)}{q:St->Prop}{o:List Nat}{os:List (List Nat)}:xH P Γ ds B σ q (o::os)=(K? (uQ P Γ ds B o σ) q/\xH P Γ ds B σ q os):=rfl
@[go_sem] theorem annS_nil{n:Nat}:pI P n []=[]:=rfl
@[go_sem] theorem annS_cons{n:Nat}{o:Oper}{os:List Oper}:pI P n (o::os)=(n,o)::pI P (gp P o.op n) os:=rfl
@[go_sem] theorem nthA_zero{x:Nat×Oper}{xs:List (Nat×Oper)}:kC (x::xs) 0=some x:=rfl
@[go_sem] theorem nthA_succ{x:Nat×Oper}{xs:List (Nat×Oper)}{i:Nat}:kC (x::xs) (i+1)=kC xs i:=rfl
@[congr] theorem runO_congr{ds:List (Option Tmp)}{B B':List (Nat×Oper)}{is:List Nat}{j5:St}(hB:B=B')(h:σ=j5):uQ P Γ ds B is σ=uQ P Γ ds B' is j5:=by rw[hB,h]
@[congr] theorem wpA_congr{c:Code}{j5:St}(h:σ=j5):lS P Γ c Q σ=lS P Γ c Q j5:=by rw[h]
@[go_sem] theorem seqQ_normal{W:(Ex->St->Prop)->St->Prop}:Rx W Q .normal σ=W Q σ:=rfl
@[go_sem] theorem seqQ_exit{W:(Ex->St->Prop)->St->Prop}{i:Nat}:Rx W Q (.exit i) σ=Q (.exit i) σ:=rfl
@[go_sem] theorem seqQ_ret{W:(Ex->St->Prop)->St->Prop}:Rx W Q .ret σ=Q .ret σ:=rfl
@[go_sem] theorem blockQ_normal{id:Nat}:tq id Q .normal σ=Q .normal σ:=rfl
@[go_sem] theorem blockQ_exit{id i:Nat}:tq id Q (.exit i) σ=if i=id then Q .normal σ else Q (.exit i) σ:=rfl
@[go_sem] theorem blockQ_ret{id:Nat}:tq id Q .ret σ=Q .ret σ:=rfl
@[go_sem] theorem loopQ_normal{N:St->Prop}:xI N Q .normal σ=N σ:=rfl
@[go_sem] theorem loopQ_exit{N:St->Prop}{i:Nat}:xI N Q (.exit i) σ=Q (.exit i) σ:=rfl
@[go_sem] theorem loopQ_ret{N:St->Prop}:xI N Q .ret σ=Q .ret σ:=rfl
@[congr] theorem seqQ_congr{W:(Ex->St->Prop)->St->Prop}{e e':Ex}{j5:St}(h:e=e')(h':σ=j5):Rx W Q e σ=Rx W Q e' j5:=by rw[h,h']
@[congr] theorem blockQ_congr{id:Nat}{e e':Ex}{j5:St}(h:e=e')(h':σ=j5):tq id Q e σ=tq id Q e' j5:=by rw[h,h']
@[congr] theorem loopQ_congr{N:St->Prop}{e e':Ex}{j5:St}(h:e=e')(h':σ=j5):xI N Q e σ=xI N Q e' j5:=by rw[h,h']
@[go_sem high] theorem condA_true{p q:Prop}:pO (.bool true) p q=p:=by simp[pO]
@[go_sem high] theorem condA_false{p q:Prop}:pO (.bool false) p q=q:=by simp[pO]
@[go_sem] theorem condA_bool{b:Bool}{p q:Prop}:pO (.bool b) p q=((b=true->p)/\(b=false->q)):=by simp[pO]
@[go_sem ↓ high] theorem condA_true'{p q:Prop}:pO (.bool true) p q=p:=by simp[pO]
@[go_sem ↓ high] theorem condA_false'{p q:Prop}:pO (.bool false) p q=q:=by simp[pO]
@[congr] theorem condA_congr{c c':A}{p q:Prop}(h:c=c'):pO c p q=pO c' p q:=by rw[h]
end
section
variable{α β:Type}
@[go_sem high] theorem K_some{x:α}{q:α->Prop}:K? (some x) q=q x:=by simp[K?]
@[go_sem] theorem K_bind{o:Option α}{f:α->Option β}{q:β->Prop}:K? (o.bind f) q=K? o (fun x=>K? (f x) q):=by cases o<;>simp[K?]
@[go_sem] theorem K_map{o:Option α}{f:α->β}{q:β->Prop}:K? (o.map f) q=K? o (fun x=>q (f x)):=by cases o<;>simp[K?]
@[go_sem high] theorem K_ite_none{c:Prop} [Decidable c]{a:Option α}{q:α->Prop}:K? (if c then a else none) q=(c/\K? a q):=by split<;>simp_all[K?]
@[go_sem ↓ high] theorem K_some'{x:α}{q:α->Prop}:K? (some x) q=q x:=by simp[K?]
@[congr] theorem K_congr{o o':Option α}{q:α->Prop}(h:o=o'):K? o q=K? o' q:=by rw[h]
@[go_sem] theorem K_getElem{l:List α}{i:Nat}{q:α->Prop}(h:i<l.length):K? l[i]? q=q l[i]:=by simp[K?,h]
end
section
variable{P:Program}{Γ:aN}{σ:St}{n:Nat}{d:Option Tmp}{ds:List (Option Tmp)}{q:St->Prop}
@[go_sem] theorem K_runSeq_nil{n:Nat}:K? (nW P Γ ds [] n σ) q=q σ:=by simp[nW,K?]
@[go_sem] theorem K_runSeq_cons{o:Oper}{os:List Oper}{n:Nat}:K? (nW P Γ ds (o::os) n σ) q=K? (eI P Γ ds n o σ) (fun τ=>K? (nW P Γ ds os (gp P o.op n) τ) q):=by simp only[nW,K_bind]
@[go_sem] theorem K_runO_nil{B:List (Nat×Oper)}:K? (uQ P Γ ds B [] σ) q=q σ:=by simp[uQ,K?]
@[go_sem] theorem K_runO_cons{B:List (Nat×Oper)}{i:Nat}{is:List Nat}:K? (uQ P Γ ds B (i::is) σ) q=K? (kC B i) (fun x=>K? (eI P Γ ds x.1 x.2 σ) (fun τ=>K? (uQ P Γ ds B is τ) q)):=by simp only[uQ,K_bind]
@[go_sem] theorem pre_nil:pre P [] σ=σ:=rfl
@[go_sem] theorem pre_cons{o:Oper}{os:List Oper}:pre P (o::os) σ=pre P os (grow P o.op σ):=rfl
@[congr] theorem pre_congr{os:List Oper}{j5:St}(h:σ=j5):pre P os σ=pre P os j5:=by rw[h]
@[congr] theorem runSeq_congr{os:List Oper}{j5:St}{n n':Nat}(h:σ=j5)(h':n=n'):nW P Γ ds os n σ=nW P Γ ds os n' j5:=by rw[h,h']
@[congr] theorem exec1_congr{o:Oper}{n':Nat}{j5:St}(hn:n=n')(h:σ=j5):eI P Γ ds n o σ=eI P Γ ds n' o j5:=by rw[h,hn]
@[go_sem] theorem exec1_plain{op:Op}{t:TypeId}{p:String}{af:Array Edge}:eI P Γ ds n ⟨d,op,t,p,af,none⟩ σ=execOp P Γ n d op σ:=by simp[eI,nV]
def KB(b:A)(want:Bool)(x y:Option St):Option St:=match b with| .bool b=>if(b==want)=true then x else y| .any=>none|_=>y
@[go_sem] theorem exec1_guard{σs:List (Nat×A)}{gQ:List Obj}{op:Op}{t:TypeId}{p:String}{af:Array Edge}{j:Nat}{w:Bool}:eI P Γ ds n ⟨d,op,t,p,af,some (j,w)⟩ (St.mk σs gQ)=(match EG ds j with|some t=>KB (look σs t) w (execOp P Γ n d op (St.mk σs gQ)) (some ((St.mk σs gQ).put d (.eU [])))|none=>some ((St.mk σs gQ).put d (.eU []))):=by simp only[eI,nV];cases EG ds j with|none=>(simp)|some t=>(simp only[];cases look σs t<;>simp[KB])
@[go_sem] theorem guardA_bool{b w:Bool}{x y:Option St}:KB (.bool b) w x y=if(b==w)=true then x else y:=rfl
@[go_sem] theorem guardA_undef{w:Bool}{x y:Option St}:KB (.eU []) w x y=y:=rfl
@[go_sem] theorem nthD_zero{x:Option Tmp}{xs:List (Option Tmp)}:EG (x::xs) 0=x:=rfl
@[go_sem] theorem nthD_succ{x:Option Tmp}{xs:List (Option Tmp)}{m:Nat}:EG (x::xs) (m+1)=EG xs m:=rfl
@[go_sem] theorem dstsOf_nil:dstsOf []=[]:=rfl
@[go_sem] theorem dstsOf_cons{o:Oper}{os:List Oper}:dstsOf (o::os)=o.dst::dstsOf os:=rfl
variable{x y z:Operand}{t u:TypeId}{k:Nat}
@[go_sem] theorem grow_move:grow P (.move x) σ=σ:=rfl
@[go_sem] theorem nxt_move{n:Nat}:gp P (.move x) n=n:=rfl
@[go_sem] theorem grow_assign:grow P (.assign x) σ=σ:=rfl
@[go_sem] theorem nxt_assign{n:Nat}:gp P (.assign x) n=n:=rfl
@[go_sem] theorem grow_pick:grow P (.pick x y z) σ=σ:=rfl
@[go_sem] theorem nxt_pick{n:Nat}:gp P (.pick x y z) n=n:=rfl
@[go_sem] theorem grow_build{ps:Array (Nat×Operand)}:grow P (.build t ps) σ=σ:=rfl
@[go_sem] theorem nxt_build{ps:Array (Nat×Operand)}{n:Nat}:gp P (.build t ps) n=n:=rfl
@[go_sem] theorem grow_buildSlice{ps:Array (Nat×Operand)}:grow P (.buildSlice t k ps) σ=σ:=rfl
@[go_sem] theorem nxt_buildSlice{ps:Array (Nat×Operand)}{n:Nat}:gp P (.buildSlice t k ps) n=n:=rfl
@[go_sem] theorem grow_load:grow P (.load t x) σ=σ:=rfl
@[go_sem] theorem nxt_load{n:Nat}:gp P (.load t x) n=n:=rfl
@[go_sem] theorem grow_store:grow P (.store t x y) σ=σ:=rfl
@[go_sem] theorem nxt_store{n:Nat}:gp P (.store t x y) n=n:=rfl
@[go_sem] theorem grow_binOp{o:BinOp}:grow P (.binOp o t x y u) σ=σ:=rfl
@[go_sem] theorem nxt_binOp{o:BinOp}{n:Nat}:gp P (.binOp o t x y u) n=n:=rfl
@[go_sem] theorem grow_unOp{o:UnOp}:grow P (.unOp o t x) σ=σ:=rfl
@[go_sem] theorem nxt_unOp{o:UnOp}{n:Nat}:gp P (.unOp o t x) n=n:=rfl
@[go_sem] theorem grow_makeFunc{f:Fn}{xs ys:Array Operand}:grow P (.makeFunc f xs ys) σ=σ:=rfl
@[go_sem] theorem nxt_makeFunc{f:Fn}{xs ys:Array Operand}{n:Nat}:gp P (.makeFunc f xs ys) n=n:=rfl
@[go_sem] theorem grow_slice{l h m:Option Operand}:grow P (.slice t x l h m) σ=σ:=rfl
@[go_sem] theorem nxt_slice{l h m:Option Operand}{n:Nat}:gp P (.slice t x l h m) n=n:=rfl
@[go_sem] theorem grow_fieldAddr:grow P (.fieldAddr t x k) σ=σ:=rfl
@[go_sem] theorem nxt_fieldAddr{n:Nat}:gp P (.fieldAddr t x k) n=n:=rfl
@[go_sem] theorem grow_indexAddr:grow P (.indexAddr t x y) σ=σ:=rfl
@[go_sem] theorem nxt_indexAddr{n:Nat}:gp P (.indexAddr t x y) n=n:=rfl
@[go_sem] theorem grow_index:grow P (.index t x y) σ=σ:=rfl
@[go_sem] theorem nxt_index{n:Nat}:gp P (.index t x y) n=n:=rfl
@[go_sem] theorem grow_extract:grow P (.extract x k) σ=σ:=rfl
@[go_sem] theorem nxt_extract{n:Nat}:gp P (.extract x k) n=n:=rfl
@[go_sem] theorem grow_alloc{σs:List (Nat×A)}{gQ:List Obj}:grow P (.alloc t) (St.mk σs gQ)=⟨σs,gQ++[.row 0 []]⟩:=rfl
@[go_sem] theorem nxt_alloc{n:Nat}:gp P (.alloc t) n=n+1:=rfl
@[go_sem] theorem grow_box{σs:List (Nat×A)}{gQ:List Obj}:grow P (.box t x) (St.mk σs gQ)=⟨σs,gQ++[.row 0 []]⟩:=rfl
@[go_sem] theorem nxt_box{n:Nat}:gp P (.box t x) n=n+1:=rfl
@[go_sem] theorem grow_convert{σs:List (Nat×A)}{gQ:List Obj}:grow P (.convert t u x) (St.mk σs gQ)=if zn P t u=true then⟨σs,gQ++[.row 0 []]⟩else(St.mk σs gQ):=rfl
@[go_sem] theorem nxt_convert{n:Nat}:gp P (.convert t u x) n=if zn P t u=true then n+1 else n:=rfl
@[go_sem] theorem grow_len{xs:Array Operand}{ts:Array TypeId}:grow P (.call ⟨.builtin .len,xs,ts⟩) σ=σ:=rfl
@[go_sem] theorem nxt_len{xs:Array Operand}{ts:Array TypeId}{n:Nat}:gp P (.call ⟨.builtin .len,xs,ts⟩) n=n:=rfl
@[go_sem] theorem grow_min{xs:Array Operand}{ts:Array TypeId}:grow P (.call ⟨.builtin .min,xs,ts⟩) σ=σ:=rfl
@[go_sem] theorem nxt_min{xs:Array Operand}{ts:Array TypeId}{n:Nat}:gp P (.call ⟨.builtin .min,xs,ts⟩) n=n:=rfl
@[go_sem] theorem grow_max{xs:Array Operand}{ts:Array TypeId}:grow P (.call ⟨.builtin .max,xs,ts⟩) σ=σ:=rfl
@[go_sem] theorem nxt_max{xs:Array Operand}{ts:Array TypeId}{n:Nat}:gp P (.call ⟨.builtin .max,xs,ts⟩) n=n:=rfl
@[go_sem] theorem grow_append{σs:List (Nat×A)}{gQ:List Obj}{xs:Array Operand}{ts:Array TypeId}:grow P (.call ⟨.builtin .append,xs,ts⟩) (St.mk σs gQ)=⟨σs,gQ++[.row 0 []]⟩:=rfl
@[go_sem] theorem nxt_append{xs:Array Operand}{ts:Array TypeId}{n:Nat}:gp P (.call ⟨.builtin .append,xs,ts⟩) n=n+1:=rfl
@[go_sem] theorem grow_clear{xs:Array Operand}{ts:Array TypeId}:grow P (.call ⟨.builtin .clear,xs,ts⟩) σ=σ:=rfl
@[go_sem] theorem nxt_clear{xs:Array Operand}{ts:Array TypeId}{n:Nat}:gp P (.call ⟨.builtin .clear,xs,ts⟩) n=n:=rfl
@[go_sem] theorem grow_call{xs:Array Operand}{ts:Array TypeId}:grow P (.call ⟨.value x,xs,ts⟩) σ=σ:=rfl
@[go_sem] theorem nxt_call{xs:Array Operand}{ts:Array TypeId}{n:Nat}:gp P (.call ⟨.value x,xs,ts⟩) n=n:=rfl
@[go_sem] theorem ex_move:execOp P Γ n d (.move x) σ=some (σ.put d (σ.ev x)):=rfl
@[go_sem] theorem ex_assign:execOp P Γ n d (.assign x) σ=some (σ.put d (σ.ev x)):=rfl
@[go_sem] theorem ex_pick:execOp P Γ n d (.pick x y z) σ=(Ny (σ.ev x) (σ.ev y) (σ.ev z)).map (σ.put d ·):=rfl
@[go_sem] theorem ex_build{ps:List (Nat×Operand)}:execOp P Γ n d (.build t ⟨ps⟩) σ=(u5 P t σ ps).map (σ.put d ·):=rfl
@[go_sem] theorem ex_buildSlice{ps:List (Nat×Operand)}:execOp P Γ n d (.buildSlice t k ⟨ps⟩) σ=(lC P t k σ ps).map (σ.put d ·):=rfl
@[go_sem] theorem ex_load{σs:List (Nat×A)}{gQ:List Obj}:execOp P Γ n d (.load t x) (St.mk σs gQ)=(xF P t gQ ((St.mk σs gQ).ev x)).map ((St.mk σs gQ).put d ·):=rfl
@[go_sem] theorem ex_binOp{o:BinOp}:execOp P Γ n d (.binOp o t x y u) σ=(mK (uN P t) (mb P t) (nT P t) (cL P t).isSome o (σ.ev x) (σ.ev y)).map (σ.put d ·):=rfl
@[go_sem] theorem ex_unOp{o:UnOp}:execOp P Γ n d (.unOp o t x) σ=(unA o (σ.ev x)).map (σ.put d ·):=rfl
@[go_sem] theorem ex_makeFunc{f:Fn}{xs ys:List Operand}:execOp P Γ n d (.makeFunc f ⟨xs⟩ ⟨ys⟩) σ=(sm f (σ.rf xs) (σ.rf ys)).map (σ.put d ·):=rfl
@[go_sem] theorem ex_slice{l h m:Option Operand}:execOp P Γ n d (.slice t x l h m) σ=(if(jD P t).isNone=true/\(σ.bd l).ok=true/\(σ.bd h).ok=true then yi (lB P t) (yj P t) (σ.ev x) (σ.bd l) (σ.bd h) (σ.bd m)else none).map (σ.put d ·):=rfl
@[go_sem] theorem ex_fieldAddr:execOp P Γ n d (.fieldAddr t x k) σ=(oP (fieldInfo P t k) (σ.ev x)).map (σ.put d ·):=rfl
@[go_sem] theorem ex_indexAddr:execOp P Γ n d (.indexAddr t x y) σ=(qE P t (σ.ev x) (σ.ev y)).map (σ.put d ·):=rfl
@[go_sem] theorem ex_index:execOp P Γ n d (.index t x y) σ=(Bj P t (σ.ev x) (σ.ev y)).map (σ.put d ·):=rfl
@[go_sem] theorem ex_extract:execOp P Γ n d (.extract x k) σ=(u6 (σ.ev x) k).map (σ.put d ·):=rfl
@[go_sem] theorem ex_alloc:execOp P Γ n d (.alloc t) σ=ti σ n d (iE P t):=rfl
@[go_sem] theorem ex_box:execOp P Γ n d (.box t x) σ=Bk σ n d (σ.ev x):=rfl
@[go_sem] theorem ex_store:execOp P Γ n d (.store t x y) σ=tn σ d (cQ P t) (σ.ev x) (σ.ev y):=rfl
@[go_sem] theorem ex_convert:execOp P Γ n d (.convert t u x) σ=CA P σ n d t u (σ.ev x):=rfl
@[go_sem] theorem ex_len:execOp P Γ n d (.call ⟨.builtin .len,⟨[x]⟩,⟨[t]⟩⟩) σ=(Rv P t (σ.ev x)).map (σ.put d ·):=rfl
@[go_sem] theorem ex_min{xs:List Operand}{ts:Array TypeId}:execOp P Γ n d (.call ⟨.builtin .min,⟨xs⟩,ts⟩) σ=(minA (σ.rf xs)).map (σ.put d ·):=rfl
@[go_sem] theorem ex_max{xs:List Operand}{ts:Array TypeId}:execOp P Γ n d (.call ⟨.builtin .max,⟨xs⟩,ts⟩) σ=(maxA (σ.rf xs)).map (σ.put d ·):=rfl
@[go_sem] theorem ex_append:execOp P Γ n d (.call ⟨.builtin .append,⟨[x,y]⟩,⟨[t,u]⟩⟩) σ=wG P Γ.fix σ n d t u (σ.ev x) (σ.ev y):=rfl
@[go_sem] theorem ex_clear:execOp P Γ n d (.call ⟨.builtin .clear,⟨[x]⟩,⟨[t]⟩⟩) σ=Bl P σ d t (σ.ev x):=rfl
@[go_sem] theorem ex_call{xs:List Operand}{ts:Array TypeId}:execOp P Γ n d (.call ⟨.value x,⟨xs⟩,ts⟩) σ=if ED Γ x=true then u7 Γ σ d (σ.ev x) (σ.rf xs)else EE Γ σ d (σ.ev x) (σ.rf xs):=rfl
@[go_sem] theorem isEff_func{f:FuncId}:ED Γ (.func f)=Γ.pN f:=rfl
@[go_sem] theorem isEff_tmp{i:Nat}:ED Γ (.tmp i)=Γ.WX:=rfl
@[go_sem] theorem ev_tmp{σs:List (Nat×A)}{gQ:List Obj}{i:Nat}:(St.mk σs gQ).ev (.tmp i)=look σs i:=rfl
@[go_sem] theorem ev_const{v:Value}:σ.ev (.const v)=toA v:=rfl
@[go_sem] theorem ev_func{f:FuncId}:σ.ev (.func f)= .fn f []:=rfl
@[go_sem] theorem evL_nil:σ.rf []=[]:=rfl
@[go_sem] theorem evL_cons{xs:List Operand}:σ.rf (x::xs)=σ.ev x::σ.rf xs:=rfl
@[go_sem] theorem put_some{σs:List (Nat×A)}{gQ:List Obj}{v:A}{i:Nat}:(St.mk σs gQ).put (some i) v=⟨(i,v)::σs,gQ⟩:=rfl
@[go_sem] theorem put_none{v:A}:σ.put none v=σ:=rfl
@[go_sem] theorem bd_none:σ.bd none= .none:=rfl
@[go_sem] theorem bd_some:σ.bd (some x)=bdOf (σ.ev x):=rfl
@[go_sem] theorem bdOf_int{i:IntKind}{m:Int}:bdOf (.int i m)= .some m:=rfl
@[go_sem] theorem Bd_get_none{m:Int}:Bd.get m .none=m:=rfl
@[go_sem] theorem Bd_get_some{m r:Int}:Bd.get m (.some r)=r:=rfl
@[go_sem] theorem Bd_ok_none:Bd.ok .none=true:=rfl
@[go_sem] theorem Bd_ok_some{r:Int}:Bd.ok (.some r)=true:=rfl
@[go_sem] theorem look_cons{i j:Nat}{v:A}{r:List (Nat×A)}:look ((i,v)::r) j=if i=j then v else look r j:=rfl
@[go_sem] theorem setH_eq{σs:List (Nat×A)}{gQ:List Obj}{o:Obj}:(St.mk σs gQ).ie n o=⟨σs,pH gQ n o⟩:=rfl
@[go_sem] theorem setO_zero{a b:Obj}{r:List Obj}:pH (a::r) 0 b=b::r:=rfl
@[go_sem] theorem setO_succ{a b:Obj}{r:List Obj}:pH (a::r) (n+1) b=a::pH r n b:=rfl
@[go_sem] theorem nthO_zero{a:Obj}{r:List Obj}:fj (a::r) 0=some a:=rfl
@[go_sem] theorem nthO_succ{a:Obj}{r:List Obj}:fj (a::r) (n+1)=fj r n:=rfl
@[go_sem] theorem setNth_zero{a b:A}{r:List A}:fG (a::r) 0 b=b::r:=rfl
@[go_sem] theorem setNth_succ{a b:A}{r:List A}:fG (a::r) (n+1) b=a::fG r n b:=rfl
end
section
variable{a b c:A}{cs ds es:List A}{k n i:Nat}{q:IntKind}{m r:Int}{s s':List UInt8}{H:List Obj}{P:Program}{t u:TypeId}{p e:Bool}{σ:St}{d:Option Tmp}{kl:List CK}{ko:Option (List CK)}{sl k0:Bool}
@[go_sem] theorem toA_int:toA (.int q m)= .int q m:=rfl
@[go_sem] theorem toA_bool:toA (.bool p)= .bool p:=rfl
@[go_sem] theorem toA_str{l:List UInt8}:toA (.string ⟨⟨l⟩⟩)= .str l:=rfl
@[go_sem] theorem toA_nils:toA (.slice none 0 0)= .eo:=rfl
@[go_sem] theorem pick_bool:Ny (.bool p) a b=some (if p then a else b):=rfl
@[go_sem] theorem load_dptr:xF P t H (.jL cs)=oF P t cs:=rfl
@[go_sem] theorem load_ref:xF P t H (.ref n i)=(match fj H n with|some (.box cs)=>oF P t (cs.drop i)|_=>none):=rfl
@[go_sem] theorem load_eref:xF P t H (.mr n i k)=(match fj H n with|some (.row _ es)=>(es[i]?).bind fun e=>oF P t (e.cells.drop k)|_=>none):=rfl
@[go_sem] theorem loadC_eq:oF P t cs=(match ed P t with|some true=>(match cQ P t with|some n=>if n<=cs.length then some (.agg (cs.take n))else none|none=>none)|some false=>cs.head? |none=>none):=rfl
@[go_sem] theorem fieldI_some{f:Nat×TypeId}:oP (some f) a=oO f.1 a:=rfl
@[go_sem] theorem field_dptr:oO n (.jL cs)=some (.jL (cs.drop n)):=rfl
@[go_sem] theorem field_ref:oO n (.ref i k)=some (.ref i (k+n)):=rfl
@[go_sem] theorem field_eref{j:Nat}:oO n (.mr i j k)=some (.mr i j (k+n)):=rfl
@[go_sem] theorem index_str:Bj P t (.str s) (.int q m)=(if lB P t=true/\0<=m then(s[m.toNat]?).map mZ else none):=rfl
@[go_sem] theorem index_agg:Bj P t (.agg cs) (.int q m)=(match jD P t with|some (n,e)=>(match cQ P e with|some k=>if 0<=m/\m<n then oF P e (cs.drop (m.toNat*k))else none|none=>none)|none=>none):=rfl
@[go_sem] theorem indexAddr_int:qE P t a (.int q m)=(match cL P t with|some e=>(match cQ P e with|some k=>qD k m a|none=>none)|none=>(match jD P t with|some (n,e)=>(match cQ P e with|some k=>tf n k m a|none=>none)|none=>none)):=rfl
@[go_sem] theorem indexE_slc:qD k m (.aC es)=WW k m es:=rfl
@[go_sem] theorem indexE_row{j l:Nat}:qD k m (.row n i j l p)=(if k=j/\0<=m/\m<l then some (.mr n (i+m.toNat) 0)else none):=rfl
@[go_sem] theorem indexR_ref{j:Nat}:tf n k m (.ref i j)=(if 0<=m/\m<n then some (.ref i (j+m.toNat*k))else none):=rfl
@[go_sem] theorem getE_eq:WW k m es=(if 0<=m then es[m.toNat]? else none).bind fun y=>if k=y.cells.length then some (.jL y.cells)else none:=rfl
@[go_sem] theorem extract_tup:u6 (.eU cs) n=cs[n]? :=rfl
@[go_sem] theorem len_str:Rv P t (.str s)=if lB P t=true then some (.int .i64 s.length)else none:=rfl
@[go_sem] theorem len_slc:Rv P t (.aC es)=if(cL P t).isSome=true then some (.int .i64 es.length)else none:=rfl
@[go_sem] theorem len_row{j:Nat}:Rv P t (.row n i j k p)=if(cL P t).isSome=true then some (.int .i64 k)else none:=rfl
@[go_sem] theorem min_int{q':IntKind}:minA [.int q m,.int q' r]=some (.int q (if r<m then r else m)):=rfl
@[go_sem] theorem max_int{q':IntKind}:maxA [.int q m,.int q' r]=some (.int q (if r>m then r else m)):=rfl
@[go_sem] theorem makeFunc_eq:sm (.func n) [] cs=some (.fn n cs):=rfl
@[go_sem] theorem un_not:unA .not (.bool p)=some (.bool !p):=rfl
@[go_sem] theorem bin_add:mK ko p e sl .add (.int q m) (.int q r)=some (.int q (q.wrap (m+r))):=by simp[mK,zk]
@[go_sem] theorem bin_sub:mK ko p e sl .sub (.int q m) (.int q r)=some (.int q (q.wrap (m-r))):=by simp[mK,zk]
@[go_sem] theorem bin_mul:mK ko p e sl .mul (.int q m) (.int q r)=some (.int q (q.wrap (m*r))):=by simp[mK,zk]
@[go_sem] theorem bin_quo:mK ko p e sl .quo (.int q m) (.int q r)=if r=0 then none else some (.int q (q.wrap (m.tdiv r))):=by simp[mK,zk]
@[go_sem] theorem bin_rem:mK ko p e sl .rem (.int q m) (.int q r)=if r=0 then none else some (.int q (m.tmod r)):=by simp[mK,zk]
@[go_sem] theorem bin_eql:mK ko p e sl .eql (.int q m) (.int q r)=some (.bool (m==r)):=by simp[mK,zk]
@[go_sem] theorem bin_neq:mK ko p e sl .neq (.int q m) (.int q r)=some (.bool (m !=r)):=by simp[mK,zk]
@[go_sem] theorem bin_lss:mK ko p e sl .lss (.int q m) (.int q r)=some (.bool (decide (m<r))):=by simp[mK,zk]
@[go_sem] theorem bin_leq:mK ko p e sl .leq (.int q m) (.int q r)=some (.bool (decide (m<=r))):=by simp[mK,zk]
@[go_sem] theorem bin_gtr:mK ko p e sl .gtr (.int q m) (.int q r)=some (.bool (decide (r<m))):=by simp[mK,zk]
@[go_sem] theorem bin_geq:mK ko p e sl .geq (.int q m) (.int q r)=some (.bool (decide (r<=m))):=by simp[mK,zk]
@[go_sem] theorem bin_shr{q':IntKind}:mK ko p e sl .shr (.int q m) (.int q' r)=if r<0 then none else some (.int q (m.fdiv (2^(min r.toNat q.bits)))):=rfl
@[go_sem] theorem bin_sadd:mK ko p e sl .add (.str s) (.str s')=if s.length+s'.length<=9223372036854775807 then some (.str (s++s'))else none:=rfl
@[go_sem] theorem bin_seql:mK ko p e sl .eql (.str s) (.str s')=some (.bool (s==s')):=rfl
@[go_sem] theorem bin_sneq:mK ko p e sl .neq (.str s) (.str s')=some (.bool (s !=s')):=rfl
@[go_sem] theorem bin_aeql:mK (some kl) p e sl .eql (.agg cs) (.agg ds)=if j8 kl cs=true/\j8 kl ds=true then(Bh cs ds).map .bool else none:=rfl
@[go_sem] theorem bin_aneq:mK (some kl) p e sl .neq (.agg cs) (.agg ds)=if j8 kl cs=true/\j8 kl ds=true then(Bh cs ds).map (fun b=> .bool !b)else none:=rfl
@[go_sem] theorem bin_empnil:mK ko p e true .eql (.emp k0) .eo=some (.bool k0):=rfl
@[go_sem] theorem bin_slcnil:mK ko p e true .eql (.aC (a::cs)) .eo=some (.bool false):=rfl
@[go_sem] theorem hasL_nil:j8 [] []=true:=rfl
@[go_sem] theorem hasL_cons{c:CK}:j8 (c::kl) (a::cs)=(c.has a&&j8 kl cs):=rfl
@[go_sem] theorem has_int:CK.has (.int q) (.int q m)=true:=by simp[CK.has]
@[go_sem] theorem has_bool:CK.has .bool (.bool p)=true:=rfl
@[go_sem] theorem has_str:CK.has .str (.str s)=true:=rfl
@[go_sem] theorem eqL_nil:Bh [] []=some true:=rfl
@[go_sem] theorem eqL_cons:Bh (a::cs) (b::ds)=(WT a b).bind fun x=>(Bh cs ds).map (x&& ·):=rfl
@[go_sem] theorem eqA_int:WT (.int q m) (.int q r)=some (m==r):=by simp[WT]
@[go_sem] theorem eqA_bool{x y:Bool}:WT (.bool x) (.bool y)=some (x==y):=rfl
@[go_sem] theorem eqA_str:WT (.str s) (.str s')=some (s==s'):=rfl
@[go_sem] theorem cells_agg:A.cells (.agg cs)=cs:=rfl
@[go_sem] theorem cells_int:A.cells (.int q m)=[.int q m]:=rfl
@[go_sem] theorem cells_bool:A.cells (.bool p)=[.bool p]:=rfl
@[go_sem] theorem cells_str:A.cells (.str s)=[.str s]:=rfl
@[go_sem] theorem cells_slc:A.cells (.aC es)=[.aC es]:=rfl
@[go_sem] theorem cells_clip:A.cells (.clip es)=[.clip es]:=rfl
@[go_sem] theorem cells_nils:A.cells .eo=[.eo]:=rfl
@[go_sem] theorem cells_row{j:Nat}:A.cells (.row n i k j p)=[.row n i k j p]:=rfl
@[go_sem] theorem val_agg:A.val (.agg cs)=true:=rfl
@[go_sem] theorem val_int:A.val (.int q m)=true:=rfl
@[go_sem] theorem val_bool:A.val (.bool p)=true:=rfl
@[go_sem] theorem val_str:A.val (.str s)=true:=rfl
@[go_sem] theorem val_slc:A.val (.aC es)=true:=rfl
@[go_sem] theorem val_clip:A.val (.clip es)=true:=rfl
@[go_sem] theorem val_nils:A.val .eo=true:=rfl
@[go_sem] theorem val_row{j:Nat}:A.val (.row n i k j p)=true:=rfl
@[go_sem] theorem norm_agg:A.norm (.agg cs)= .agg (cs.map ny):=rfl
@[go_sem] theorem norm_int:A.norm (.int q m)= .int q m:=rfl
@[go_sem] theorem norm_bool:A.norm (.bool p)= .bool p:=rfl
@[go_sem] theorem norm_str:A.norm (.str s)= .str s:=rfl
@[go_sem] theorem norm_slc:A.norm (.aC es)= .aC es:=rfl
@[go_sem] theorem norm_clip:A.norm (.clip es)= .aC es:=rfl
@[go_sem] theorem norm_nils:A.norm .eo= .aC []:=rfl
@[go_sem] theorem norm0_int:ny (.int q m)= .int q m:=rfl
@[go_sem] theorem norm0_bool:ny (.bool p)= .bool p:=rfl
@[go_sem] theorem norm0_str:ny (.str s)= .str s:=rfl
@[go_sem] theorem norm0_slc:ny (.aC es)= .aC es:=rfl
@[go_sem] theorem norm0_clip:ny (.clip es)= .aC es:=rfl
@[go_sem] theorem norm0_nils:ny .eo= .aC []:=rfl
@[go_sem] theorem viewL_nil:mQ H []=some []:=rfl
@[go_sem] theorem viewL_cons:mQ H (a::cs)=(view H a).bind fun y=>(mQ H cs).map (y:: ·):=rfl
@[go_sem] theorem view1L_nil:nq H []=some []:=rfl
@[go_sem] theorem view1L_cons:nq H (a::cs)=(qB H a).bind fun y=>(nq H cs).map (y:: ·):=rfl
@[go_sem] theorem view0L_nil:j9 H []=some []:=rfl
@[go_sem] theorem view0L_cons:j9 H (a::cs)=(pf H a).bind fun y=>(j9 H cs).map (y:: ·):=rfl
@[go_sem] theorem view_fn:view H (.fn n cs)=(nq H cs).map (.fn n ·):=rfl
@[go_sem] theorem view_agg:view H (.agg cs)=(j9 H cs).map .agg:=rfl
@[go_sem] theorem view_ref:view H (.ref n i)=(match fj H n with|some (.box cs)=>(j9 H (cs.drop i)).map .jL|_=>none):=rfl
@[go_sem] theorem view_row{j:Nat}:view H (.row n i k j p)=mj H n i k j:=rfl
@[go_sem] theorem view_int:view H (.int q m)=some (.int q m):=rfl
@[go_sem] theorem view_bool:view H (.bool p)=some (.bool p):=rfl
@[go_sem] theorem view_str:view H (.str s)=some (.str s):=rfl
@[go_sem] theorem view_slc:view H (.aC es)=some (.aC es):=rfl
@[go_sem] theorem view_clip:view H (.clip es)=some (.aC es):=rfl
@[go_sem] theorem view_nils:view H .eo=some (.aC []):=rfl
@[go_sem] theorem view1_ref:qB H (.ref n i)=(match fj H n with|some (.box cs)=>(j9 H (cs.drop i)).map .jL|_=>none):=rfl
@[go_sem] theorem view0_row{j:Nat}:pf H (.row n i k j p)=mj H n i k j:=rfl
@[go_sem] theorem view0_int:pf H (.int q m)=some (.int q m):=rfl
@[go_sem] theorem view0_bool:pf H (.bool p)=some (.bool p):=rfl
@[go_sem] theorem view0_str:pf H (.str s)=some (.str s):=rfl
@[go_sem] theorem view0_slc:pf H (.aC es)=some (.aC es):=rfl
@[go_sem] theorem view0_nils:pf H .eo=some (.aC []):=rfl
@[go_sem] theorem viewRow_eq{j:Nat}:mj H n i k j=(match fj H n with|some (.row k' es)=>if k'=k/\i+j<=es.length/\k≠0 then some (.aC ((es.drop i).take j))else none|_=>none):=rfl
@[go_sem] theorem pureL_nil:A.pure.cX []=true:=rfl
@[go_sem] theorem pureL_cons:A.pure.cX (a::cs)=(a.pure&&A.pure.cX cs):=rfl
@[go_sem] theorem pure_agg:A.pure (.agg cs)=A.pure.cX cs:=by simp[A.pure]
@[go_sem] theorem pure_fn:A.pure (.fn n cs)=A.pure.cX cs:=by simp[A.pure]
@[go_sem] theorem pure_int:A.pure (.int q m)=true:=by simp[A.pure]
@[go_sem] theorem pure_bool:A.pure (.bool p)=true:=by simp[A.pure]
@[go_sem] theorem pure_str:A.pure (.str s)=true:=by simp[A.pure]
@[go_sem] theorem pure_slc:A.pure (.aC es)=true:=by simp[A.pure]
@[go_sem] theorem pure_clip:A.pure (.clip es)=true:=by simp[A.pure]
@[go_sem] theorem pure_nils:A.pure .eo=true:=by simp[A.pure]
@[go_sem] theorem flat_bool:A.flat (.bool p)=true:=by simp[A.flat]
@[go_sem] theorem flat_slc:A.flat (.aC es)=false:=by simp[A.flat]
@[go_sem] theorem clear_row{σs:List (Nat×A)}{gQ:List Obj}{l:Nat}:Bl P (St.mk σs gQ) d t (.row n i k l p)=(match cL P t with|some e=>(match fj gQ n with|some (.row k' es)=>(match iE P e with|some z=>if k'=k/\z.cells.length=k/\k≠0/\z.val=true/\z.pure=true/\i+l<=es.length then some (((St.mk σs gQ).ie n (.row k (es.take i++List.replicate l z.norm++es.drop (i+l)))).put d (.eU []))else none|none=>none)|_=>none)|none=>none):=rfl
@[go_sem] theorem callHV_fn{Γ:aN}:u7 Γ σ d (.fn n cs) ds=NA Γ σ d n (ds++cs):=rfl
@[go_sem] theorem callH_eq{Γ:aN}{σs:List (Nat×A)}{gQ:List Obj}:NA Γ (St.mk σs gQ) d n ds=yn Γ (St.mk σs gQ) d n ds (reach gQ 64 (A.names.mc ds) []):=rfl
@[go_sem] theorem callH1_eq{Γ:aN}{σs:List (Nat×A)}{gQ:List Obj}{ρ:List Nat}:yn Γ (St.mk σs gQ) d n ds ρ=(A.nU.uO ρ ds).bind fun as'=>(uP ρ gQ ρ).bind fun fy=>if Γ.u3 n=true then(if ρ.all (fun n=> !Γ.fix n)=true then(mQ fy as').bind fun bs=>(Γ.f n bs).map (Kz (St.mk σs gQ) d ρ fy)else none) else(Γ.hp n as' fy).bind fun x=>if tp Γ ρ gQ.length x.2.2=true then some (EF (St.mk σs gQ) d ρ x)else none:=rfl
@[congr] theorem callH1_congr{Γ:aN}{ρ ρ':List Nat}(h:ρ=ρ'):yn Γ σ d n ds ρ=yn Γ σ d n ds ρ':=by rw[h]
@[go_sem] theorem callH2_eq{σs:List (Nat×A)}{gQ:List Obj}{ρ:List Nat}{S:List Nat}:EF (St.mk σs gQ) d ρ (a,H,S)=St.put ⟨(iz ρ gQ.length (St.mk σs gQ) S).s,qG ρ gQ.length ρ H (iz ρ gQ.length (St.mk σs gQ) S).H⟩ d (a.back ρ gQ.length):=rfl
@[go_sem] theorem callF2_eq{σs:List (Nat×A)}{gQ:List Obj}{ρ:List Nat}:Kz (St.mk σs gQ) d ρ H a=St.put ⟨σs.map (fun p=>(p.1,ri ρ H p.2)),sn ρ ρ (gQ.map (Ky ρ H))⟩ d a:=rfl
@[go_sem] theorem scrubs_nil{ρ:List Nat}:iz ρ n σ []=σ:=rfl
@[go_sem] theorem backH_nil{ρ:List Nat}{os:List Obj}:qG ρ n [] os H=H++os.map (Obj.back ρ n):=rfl
@[go_sem] theorem backH_cons{ρ ns:List Nat}{o:Obj}{os:List Obj}:qG ρ n (i::ns) (o::os) H=qG ρ n ns os (pH H i (o.back ρ n)):=rfl
@[go_sem] theorem mayMove_nil{Γ:aN}{ρ:List Nat}:tp Γ ρ n []=true:=rfl
@[go_sem] theorem reach_nil{ρ:List Nat}:reach H (n+1) [] ρ=ρ:=rfl
@[go_sem] theorem reach_cons{ρ ns:List Nat}:reach H (n+1) (i::ns) ρ=if ρ.contains i=true then reach H n ns ρ else reach H n (ym (fj H i)++ns) (ρ++[i]):=rfl
@[go_sem] theorem namesO_some{o:Obj}:ym (some o)=o.names:=rfl
@[go_sem] theorem names_box:Obj.names (.box cs)=A.names.mc cs:=rfl
@[go_sem] theorem names_rowO:Obj.names (.row k cs)=[]:=rfl
@[go_sem] theorem namesL_nil:A.names.mc []=[]:=rfl
@[go_sem] theorem namesL_cons:A.names.mc (a::cs)=a.names++A.names.mc cs:=rfl
@[go_sem] theorem names_ref:A.names (.ref n i)=[n]:=by simp[A.names]
@[go_sem] theorem names_row{j:Nat}:A.names (.row n i j k p)=[n]:=by simp[A.names]
@[go_sem] theorem names_fn:A.names (.fn n cs)=A.names.mc cs:=by simp[A.names]
@[go_sem] theorem names_int:A.names (.int q m)=[]:=by simp[A.names]
@[go_sem] theorem names_slc:A.names (.aC es)=[]:=by simp[A.names]
@[go_sem] theorem names_clip:A.names (.clip es)=[]:=by simp[A.names]
@[go_sem] theorem idx_cons{ρ:List Nat}:idx (i::ρ) n=if i=n then some 0 else(idx ρ n).map (· +1):=rfl
@[go_sem] theorem renL_nil{ρ:List Nat}:A.nU.uO ρ []=some []:=rfl
@[go_sem] theorem renL_cons{ρ:List Nat}:A.nU.uO ρ (a::cs)=(a.nU ρ).bind fun x=>(A.nU.uO ρ cs).map (x:: ·):=rfl
@[go_sem] theorem ren_ref{ρ:List Nat}:A.nU ρ (.ref n i)=(idx ρ n).map (.ref · i):=by simp[A.nU]
@[go_sem] theorem ren_row{ρ:List Nat}{j:Nat}:A.nU ρ (.row n i j k p)=(idx ρ n).map (.row · i j k p):=by simp[A.nU]
@[go_sem] theorem ren_fn{ρ:List Nat}:A.nU ρ (.fn n cs)=(A.nU.uO ρ cs).map (.fn n ·):=by simp[A.nU]
@[go_sem] theorem ren_int{ρ:List Nat}:A.nU ρ (.int q m)=some (.int q m):=by simp[A.nU]
@[go_sem] theorem ren_slc{ρ:List Nat}:A.nU ρ (.aC es)=some (.aC es):=by simp[A.nU]
@[go_sem] theorem ren_clip{ρ:List Nat}:A.nU ρ (.clip es)=some (.clip es):=by simp[A.nU]
@[go_sem] theorem renH_nil{ρ:List Nat}:uP ρ H []=some []:=rfl
@[go_sem] theorem renH_cons{ρ ns:List Nat}:uP ρ H (i::ns)=(renO ρ (fj H i)).bind fun o=>(uP ρ H ns).map (o:: ·):=rfl
@[go_sem] theorem renO_some{ρ:List Nat}{o:Obj}:renO ρ (some o)=o.nU ρ:=rfl
@[go_sem] theorem renO_box{ρ:List Nat}:Obj.nU ρ (.box cs)=(A.nU.uO ρ cs).map .box:=rfl
@[go_sem] theorem renO_row{ρ:List Nat}:Obj.nU ρ (.row k cs)=some (.row k cs):=rfl
@[go_sem] theorem nthN_nil:lK [] n i=n+i:=rfl
@[go_sem] theorem nthN_zero{ρ:List Nat}:lK (i::ρ) n 0=i:=rfl
@[go_sem] theorem nthN_succ{ρ:List Nat}:lK (i::ρ) n (k+1)=lK ρ n k:=rfl
@[go_sem] theorem back_ref{ρ:List Nat}:A.back ρ k (.ref n i)= .ref (lK ρ k n) i:=by simp[A.back]
@[go_sem] theorem back_row{ρ:List Nat}{j l:Nat}:A.back ρ k (.row n i j l p)= .row (lK ρ k n) i j l p:=by simp[A.back]
@[go_sem] theorem back_agg{ρ:List Nat}:A.back ρ k (.agg cs)= .agg (A.back.oG ρ k cs):=by simp[A.back]
@[go_sem] theorem back_tup{ρ:List Nat}:A.back ρ k (.eU cs)= .eU (A.back.oG ρ k cs):=by simp[A.back]
@[go_sem] theorem back_int{ρ:List Nat}:A.back ρ k (.int q m)= .int q m:=by simp[A.back]
@[go_sem] theorem back_bool{ρ:List Nat}:A.back ρ k (.bool p)= .bool p:=by simp[A.back]
@[go_sem] theorem back_str{ρ:List Nat}:A.back ρ k (.str s)= .str s:=by simp[A.back]
@[go_sem] theorem back_slc{ρ:List Nat}:A.back ρ k (.aC es)= .aC es:=by simp[A.back]
@[go_sem] theorem back_clip{ρ:List Nat}:A.back ρ k (.clip es)= .clip es:=by simp[A.back]
@[go_sem] theorem back_dptr{ρ:List Nat}:A.back ρ k (.jL es)= .jL es:=by simp[A.back]
@[go_sem] theorem back_nils{ρ:List Nat}:A.back ρ k .eo= .eo:=by simp[A.back]
@[go_sem] theorem back_any{ρ:List Nat}:A.back ρ k .any= .any:=by simp[A.back]
@[go_sem] theorem backL_nil{ρ:List Nat}:A.back.oG ρ k []=[]:=rfl
@[go_sem] theorem backL_cons{ρ:List Nat}:A.back.oG ρ k (a::cs)=a.back ρ k::A.back.oG ρ k cs:=rfl
@[go_sem] theorem backO_box{ρ:List Nat}:Obj.back ρ k (.box cs)= .box (A.back.oG ρ k cs):=rfl
@[go_sem] theorem backO_row{ρ:List Nat}:Obj.back ρ k (.row n cs)= .row n cs:=rfl
@[go_sem] theorem frzA_eq{ρ:List Nat}:ri ρ H a=if a.meets ρ=true then(match a.nU ρ with|some x'=>(view H x').getD .any|none=> .any)else a:=rfl
@[go_sem] theorem meets_eq{ρ:List Nat}:A.meets ρ a=ρ.any fun n=>a.mem n:=rfl
@[go_sem] theorem frzO_box{ρ:List Nat}:Ky ρ H (.box cs)= .box (cs.map (ri ρ H)):=rfl
@[go_sem] theorem frzO_row{ρ:List Nat}:Ky ρ H (.row k cs)= .row k cs:=rfl
@[go_sem] theorem dropO_nil{ρ:List Nat}:sn ρ [] H=H:=rfl
@[go_sem] theorem dropO_cons{ρ ns:List Nat}:sn ρ (i::ns) H=sn ρ ns (pH H i (.row 0 [])):=rfl
@[go_sem] theorem startH_eq:KA cs H={s:=number 0 cs,H:=H}:=rfl
@[go_sem] theorem bodyH_ret{fn:Func}:bodyH P fn a H .ret σ=K? (Dr P σ fn.results.toList) (fun rs=>nX rs=a/\a.under H.length=true/\xG H.length σ.H H):=rfl
@[go_sem] theorem bodyH_normal{fn:Func}:bodyH P fn a H .normal σ=K? (Dr P σ fn.results.toList) (fun rs=>nX rs=a/\a.under H.length=true/\xG H.length σ.H H):=rfl
@[go_sem] theorem rawL_nil:Dr P σ []=some []:=rfl
@[go_sem] theorem rawL_cons{v:ResultVar}{vs:List ResultVar}:Dr P σ (v::vs)=(WY P σ v).bind fun x=>(Dr P σ vs).map (x:: ·):=rfl
@[go_sem] theorem raw_tmp{σs:List (Nat×A)}{gQ:List Obj}:WY P (St.mk σs gQ) (.tmp i)=some (look σs i):=rfl
@[go_sem] theorem resOf_nil:nX []= .eU []:=rfl
@[go_sem] theorem callV_fn{Γ:aN}:EE Γ σ d (.fn n cs) ds=Nz Γ σ d n (ds++cs):=rfl
@[go_sem] theorem callX_eq{σs:List (Nat×A)}{gQ:List Obj}{Γ:aN}:Nz Γ (St.mk σs gQ) d n ds=(mQ gQ ds).bind fun bs=>(Γ.f n bs).bind fun r=>if(A.pure.cX ds||r.flat)=true then some ((St.mk σs gQ).put d r)else none:=rfl
@[go_sem] theorem box_eq{σs:List (Nat×A)}{gQ:List Obj}:Bk (St.mk σs gQ) n d a=if a.val=true then some (((St.mk σs gQ).ie n (.box a.cells)).put d (.ref n 0))else none:=rfl
@[go_sem] theorem alloc_some:ti σ n d (some a)=Bk σ n d a:=rfl
@[go_sem] theorem store_ref{σs:List (Nat×A)}{gQ:List Obj}{z:Option Nat}:tn (St.mk σs gQ) d z (.ref n i) a=(match fj gQ n with|some (.box cs)=>if z=some a.cells.length/\i+a.cells.length<=cs.length/\a.val=true then some (((St.mk σs gQ).ie n (.box (jY cs i a.cells))).put d (.eU []))else none|_=>none):=rfl
@[go_sem] theorem store_eref{σs:List (Nat×A)}{gQ:List Obj}{z:Option Nat}{j:Nat}:tn (St.mk σs gQ) d z (.mr n j i) a=(match fj gQ n with|some (.row k es)=>(es[j]?).bind fun e=>if z=some a.cells.length/\i+a.cells.length<=e.cells.length/\a.cells.length≠0/\a.val=true/\a.pure=true then some (((St.mk σs gQ).ie n (.row k (fG es j (qF e i a)))).put d (.eU []))else none|_=>none):=rfl
@[go_sem] theorem storeE_agg:qF (.agg cs) i a= .agg (jY cs i a.norm.cells):=rfl
@[go_sem] theorem storeE_int:qF (.int q m) i a=a.norm:=rfl
@[go_sem] theorem storeE_str:qF (.str s) i a=a.norm:=rfl
@[go_sem] theorem splice_eq:jY cs i ds=cs.take i++ds++cs.drop (i+ds.length):=rfl
@[go_sem] theorem build_eq{ps:List (Nat×Operand)}:u5 P t σ ps=(match iE P t with|some (.agg zs)=>(match jD P t with|some (_,e)=>(if(cQ P e).isSome=true then(pk P e σ ps zs).map .agg else none)|none=>if kQ P t=true then(ph P t σ ps zs).map .agg else none)|_=>none):=rfl
@[go_sem] theorem fillS_nil:ph P t σ [] cs=some cs:=rfl
@[go_sem] theorem fillS_cons{x:Operand}{ps:List (Nat×Operand)}:ph P t σ ((i,x)::ps) cs=(match fieldInfo P t i with|some (o,ft)=>(zl (cQ P ft) o (σ.ev x) cs).bind (ph P t σ ps)|none=>none):=rfl
@[go_sem] theorem fillA_nil:pk P t σ [] cs=some cs:=rfl
@[go_sem] theorem fillA_cons{x:Operand}{ps:List (Nat×Operand)}:pk P t σ ((i,x)::ps) cs=(match cQ P t with|some n=>(zl (some n) (i*n) (σ.ev x) cs).bind (pk P t σ ps)|none=>none):=rfl
@[go_sem] theorem fillC_some:zl (some n) i a cs=if a.cells.length=n/\i+n<=cs.length/\a.val=true then some (cs.take i++a.cells++cs.drop (i+n))else none:=rfl
@[go_sem] theorem buildSlice_eq{ps:List (Nat×Operand)}:lC P t n σ ps=(match cL P t with|some e=>(match cQ P e,iE P e with|some k,some z=>if n*k<=16777216/\k≠0/\z.pure=true/\z.val=true/\z.cells.length=k then(nz k σ ps (List.replicate n z.norm)).map .clip else none|_,_=>none)|none=>none):=rfl
@[go_sem] theorem fillE_nil:nz k σ [] cs=some cs:=rfl
@[go_sem] theorem fillE_cons{x:Operand}{ps:List (Nat×Operand)}:nz k σ ((i,x)::ps) cs=if(σ.ev x).cells.length=k/\i<cs.length/\(σ.ev x).val=true/\(σ.ev x).pure=true then nz k σ ps (fG cs i (σ.ev x).norm)else none:=rfl
@[go_sem] theorem appendX_eq{fx:Nat->Bool}{x:A}:wG P fx σ n d t u a x=(match cL P t with|some e=>(match cQ P e with|some k=>if k=0\/jX P e=0\/mS P e k=false then none else(Dq P σ e u k x).bind fun src=>th fx σ n d k (jX P e) a src|none=>none)|none=>none):=rfl
@[go_sem] theorem src_slc:Dq P σ t u k (.aC es)=if pg k es=true/\(cL P u).isSome=true then some es else none:=rfl
@[go_sem] theorem src_clip:Dq P σ t u k (.clip es)=if pg k es=true/\(cL P u).isSome=true then some es else none:=rfl
@[go_sem] theorem src_emp:Dq P σ t u k (.emp p)=if(cL P u).isSome=true then some []else none:=rfl
@[go_sem] theorem strOK_eq:pg k es=(es.isEmpty||eN es==k):=rfl
@[go_sem] theorem stride_cons:eN (a::es)=a.cells.length:=rfl
@[go_sem] theorem append_nils{fx:Nat->Bool}{σs:List (Nat×A)}{gQ:List Obj}:th fx (St.mk σs gQ) n d k i .eo es=if es.length*i<=140737488355328 then some (((St.mk σs gQ).ie n (.row k es)).put d (.row n 0 k es.length false))else none:=rfl
@[go_sem] theorem append_clip{fx:Nat->Bool}{σs:List (Nat×A)}{gQ:List Obj}:th fx (St.mk σs gQ) n d k i (.clip cs) es=if pg k cs=true/\(cs=[]\/es≠ [])/\(cs.length+es.length)*i<=140737488355328 then some (((St.mk σs gQ).ie n (.row k (cs++es))).put d (.row n 0 k (cs.length+es.length) false))else none:=rfl
@[go_sem] theorem append_row{fx:Nat->Bool}{σs:List (Nat×A)}{gQ:List Obj}{m j l:Nat}:th fx (St.mk σs gQ) n d k i (.row m 0 j l p) es=(match fj gQ m with|some (.row HR xs)=>if j=k/\HR=k/\l<=xs.length/\(l+es.length)*i<=140737488355328 then(if p then(if es=[]then none else some (((St.mk σs gQ).ie n (.row k (xs.take l++es))).put d (.row n 0 k (l+es.length) false)))else(if fx m=true then none else some ((((St.mk σs gQ).lR m).ie m (.row k (xs.take l++es))).put d (.row m 0 k (l+es.length) false))))else none|_=>none):=rfl
@[go_sem] theorem convX_eq{σs:List (Nat×A)}{gQ:List Obj}:CA P (St.mk σs gQ) n d t u a=if zn P t u=true then(match a with| .str s=>some (((St.mk σs gQ).ie n (.row 1 (iQ s))).put d (.row n 0 1 s.length false))|_=>none)else(sk P t u gQ a).map ((St.mk σs gQ).put d ·):=rfl
@[go_sem] theorem conv_int:sk P t u H (.int q m)=(match uw P u with|some k=>if(ed P t).isSome=true then some (.int k (k.wrap m))else none|none=>none):=rfl
@[go_sem] theorem conv_row{j:Nat}:sk P t u H (.row n i k j p)=qC (zm P t u) (mj H n i k j):=rfl
@[go_sem] theorem conv_clip:sk P t u H (.clip es)=qC (zm P t u) (some (.aC es)):=rfl
@[go_sem] theorem convB_some:qC true (some (.aC es))=(lQ es).map .str:=rfl
@[go_sem] theorem slice_str{l h b:Bd}{z:Option Nat}:yi true z (.str s) l h b=Kw s l h b:=rfl
@[go_sem] theorem slice_slc{l h b:Bd}:yi p (some k) (.aC es) l h b=yh k es l h b:=rfl
@[go_sem] theorem slice_row{l h b:Bd}{j f:Nat}{x:Bool}:yi p (some f) (.row n i k j x) l h b=if f=k then Kx n i f j l h b else none:=rfl
@[go_sem] theorem sliceS_eq{l h:Bd}:Kw s l h .none=if 0<=l.get 0/\l.get 0<=h.get s.length/\h.get s.length<=s.length then some (.str ((s.take (h.get s.length).toNat).drop (l.get 0).toNat))else none:=rfl
@[go_sem] theorem sliceE_eq{l h:Bd}:yh k es l h .none=if pg k es=true/\0<=l.get 0/\l.get 0<=h.get es.length/\h.get es.length<=es.length then some (.aC ((es.take (h.get es.length).toNat).drop (l.get 0).toNat))else none:=rfl
@[go_sem] theorem sliceE_eq3{l h:Bd}:yh k es l h (.some m)=if pg k es=true/\0<=l.get 0/\l.get 0<=h.get es.length/\h.get es.length<=es.length/\m=h.get es.length/\h.ok3=true then some (.clip ((es.take (h.get es.length).toNat).drop (l.get 0).toNat))else none:=rfl
@[go_sem] theorem sliceR_eq{j:Nat}{l h:Bd}:Kx n i k j l h .none=if 0<=l.get 0/\l.get 0<=h.get j/\h.get j<=j then some (.row n (i+(l.get 0).toNat) k (h.get j-l.get 0).toNat false)else none:=rfl
@[go_sem] theorem ok3_some:Bd.ok3 (.some m)=true:=rfl
@[go_sem] theorem elSize_eq:yj P t=(match cL P t with|some e=>cQ P e|none=>none):=rfl
@[go_sem] theorem scrub_eq{σs:List (Nat×A)}{gQ:List Obj}:(St.mk σs gQ).lR n={s:=σs.map (fun p=>(p.1,jQ n p.2)),H:=gQ.map (tg n)}:=rfl
@[go_sem] theorem scrubA_eq:jQ n a=if a.mem n=true then .any else a:=rfl
@[go_sem] theorem scrubO_box:tg n (.box cs)= .box (cs.map (jQ n)):=rfl
@[go_sem] theorem scrubO_row:tg n (.row k cs)= .row k cs:=rfl
@[go_sem] theorem memL_nil:A.mem.l_ n []=false:=rfl
@[go_sem] theorem memL_cons:A.mem.l_ n (a::cs)=(a.mem n||A.mem.l_ n cs):=rfl
@[go_sem] theorem mem_agg:A.mem n (.agg cs)=A.mem.l_ n cs:=by simp[A.mem]
@[go_sem] theorem mem_fn:A.mem n (.fn i cs)=A.mem.l_ n cs:=by simp[A.mem]
@[go_sem] theorem mem_tup:A.mem n (.eU cs)=A.mem.l_ n cs:=by simp[A.mem]
@[go_sem] theorem mem_int:A.mem n (.int q m)=false:=by simp[A.mem]
@[go_sem] theorem mem_bool:A.mem n (.bool p)=false:=by simp[A.mem]
@[go_sem] theorem mem_str:A.mem n (.str s)=false:=by simp[A.mem]
@[go_sem] theorem mem_slc:A.mem n (.aC es)=false:=by simp[A.mem]
@[go_sem] theorem mem_clip:A.mem n (.clip es)=false:=by simp[A.mem]
@[go_sem] theorem mem_dptr:A.mem n (.jL es)=false:=by simp[A.mem]
@[go_sem] theorem mem_nils:A.mem n .eo=false:=by simp[A.mem]
@[go_sem] theorem mem_any:A.mem n .any=false:=by simp[A.mem]
@[go_sem] theorem mem_ref:A.mem n (.ref i k)=(i==n):=by simp[A.mem]
@[go_sem] theorem mem_eref{j:Nat}:A.mem n (.mr i j k)=(i==n):=by simp[A.mem]
@[go_sem] theorem mem_row{j l:Nat}:A.mem n (.row i j k l p)=(i==n):=by simp[A.mem]
@[go_sem] theorem under_agg:A.under n (.agg cs)=A.under.mu n cs:=by simp[A.under]
@[go_sem] theorem under_fn:A.under n (.fn i cs)=A.under.mu n cs:=by simp[A.under]
@[go_sem] theorem under_tup:A.under n (.eU cs)=A.under.mu n cs:=by simp[A.under]
@[go_sem] theorem underL_nil:A.under.mu n []=true:=rfl
@[go_sem] theorem underL_cons:A.under.mu n (a::cs)=(a.under n&&A.under.mu n cs):=rfl
@[go_sem] theorem under_int:A.under n (.int q m)=true:=by simp[A.under]
@[go_sem] theorem under_bool:A.under n (.bool p)=true:=by simp[A.under]
@[go_sem] theorem under_str:A.under n (.str s)=true:=by simp[A.under]
@[go_sem] theorem under_slc:A.under n (.aC es)=true:=by simp[A.under]
@[go_sem] theorem under_clip:A.under n (.clip es)=true:=by simp[A.under]
@[go_sem] theorem under_nils:A.under n .eo=true:=by simp[A.under]
@[go_sem] theorem under_any:A.under n .any=true:=by simp[A.under]
@[go_sem] theorem under_ref:A.under n (.ref i k)=decide (i<n):=by simp[A.under]
@[go_sem] theorem under_row{j l:Nat}:A.under n (.row i j k l p)=decide (i<n):=by simp[A.under]
@[go_sem] theorem EI:Bm P σ []=some []:=rfl
@[go_sem] theorem resL_cons{v:ResultVar}{vs:List ResultVar}:Bm P σ (v::vs)=(ND P σ v).bind fun x=>(Bm P σ vs).map (x:: ·):=rfl
@[go_sem] theorem res_tmp{σs:List (Nat×A)}{gQ:List Obj}:ND P (St.mk σs gQ) (.tmp i)=view gQ (look σs i):=rfl
@[go_sem] theorem res_cell{σs:List (Nat×A)}{gQ:List Obj}:ND P (St.mk σs gQ) (.cell i t)=resC P (St.mk σs gQ) t (look σs i):=rfl
@[go_sem] theorem resC_ref{σs:List (Nat×A)}{gQ:List Obj}:resC P (St.mk σs gQ) t (.ref n i)=(match fj gQ n with|some (.box cs)=>(oF P t (cs.drop i)).bind (view gQ)|_=>none):=rfl
@[go_sem] theorem resOf_one:nX [a]=a:=rfl
@[go_sem] theorem resOf_two:nX (a::b::cs)= .eU (a::b::cs):=rfl
@[go_sem] theorem body_ret{fn:Func}{rT:A->Prop}:UF P fn rT .ret σ=K? (Bm P σ fn.results.toList) (fun rs=>rT (nX rs)):=rfl
@[go_sem] theorem body_normal{fn:Func}{rT:A->Prop}:UF P fn rT .normal σ=K? (Bm P σ fn.results.toList) (fun rs=>rT (nX rs)):=rfl
@[go_sem] theorem start_eq:Bn cs={s:=number 0 cs,H:=[]}:=rfl
@[go_sem] theorem number_nil:number n []=[]:=rfl
@[go_sem] theorem number_cons:number n (a::cs)=(n,a)::number (n+1) cs:=rfl
end
attribute [go_sem] aP bL bF bx bc aw bm ju List.replicate_zero ig List.drop_succ_cons iZ List.drop_zero List.take_nil List.drop_nil List.head?_cons List.getElem?_cons_zero List.getElem?_cons_succ List.isEmpty_cons List.isEmpty_nil cw List.any_nil iI List.all_nil dR eZ aW Option.bind_none fc Option.getD_none Option.isSome_some Option.isSome_none Option.isNone_some Option.isNone_none ite_true ite_false aB b_ aG bZ aO kb ck ez bg bN bq beq_self_eq_true and_true true_and and_false false_and or_true true_or or_false false_or and_self
def xJ(s:List (Nat×A)):List Nat->List (Nat×A)| []=>[]|d::ds=>(d,look s d)::xJ s ds
def u_:List Obj->List (Nat×Obj)->List Obj|s,[]=>s|s,(d,v)::ds=>u_ (pH s d v) ds
def me(σ:St)(ks:List Nat)(u:List (Nat×A))(h:List (Nat×Obj)):St:={s:=u++xJ σ.s ks,H:=u_ σ.H h}
theorem wH: ∀(hs:List (Nat×Obj)) (H:List Obj),(u_ H hs).length=H.length| [],H=>rfl|(d,v)::ds,H=>by simp only[u_];rw[wH ds];clear ds;induction H generalizing d with|nil=>(rfl)|cons x xs ih=>(cases d<;>simp[pH,ih])
theorem aQ{P:Program}{Γ:aN}{c:Code}{Q:Ex->St->Prop}{σ:St}{ι:Type}(ks:List Nat)(u:ι->List (Nat×A))(h:ι->List (Nat×Obj))(μ:ι->Nat)(rU:ι)(hn:Γ.nf<=σ.H.length)(h0:σ.le (me σ ks (u rU) (h rU)))(hs: ∀i,lS P Γ c (xI (fun τ=> ∃j,τ.le (me σ ks (u j) (h j))/\μ j<μ i) Q) (me σ ks (u i) (h i))):lS P Γ (.loop c) Q σ:=by (have hl: ∀i,Γ.nf<=(me σ ks (u i) (h i)).H.length:=fun i=>by show Γ.nf<=(u_ σ.H (h i)).length;rw[wH];exact hn);simp only[lS];refine⟨ι,fun i=>me σ ks (u i) (h i),μ,⟨rU,.le (hl rU) h0⟩,fun i=> ?_⟩;refine zo (fun e τ hq=> ?_) (hs i);cases e with|normal=>(obtain⟨j,h1,h2⟩:=hq;exact⟨j,.le (hl j) h1,h2⟩)|exit id=>(exact hq)|ret=>(exact hq)
theorem HT{P:Program}{Γ:aN}{c:Code}{Q:Ex->St->Prop}{σ:St}(d:Nat)(es:List A)(hd:look σ.s d= .clip es)(hw:lS P Γ (.loop c) Q ⟨(d,.aC es)::σ.s,σ.H⟩):lS P Γ (.loop c) Q σ:=by simp only[lS]at hw⊢;obtain⟨ι,inv,μ,⟨i,hi⟩,hs⟩:=hw;exact⟨ι,inv,μ,⟨i,.wk d es hd hi⟩,hs⟩
theorem WZ{P:Program}{Γ:aN}{c:Code}{Q:Ex->St->Prop}{σ:St}{ι:Type}(ρ:List Nat)(xo:ρ.Nodup)(hf: ∀n∈ρ,Γ.nf<=n)(ks:List Nat)(u:ι->List (Nat×A))(h:ι->List (Nat×Obj))(μ:ι->Nat)(rU:ι)(hn:Γ.nf<=σ.H.length)(h0:σ.le (me σ ks (u rU) (h rU)))(hs: ∀i,lS P Γ c (xI (fun τ=> ∃j,(τ.le (me σ ks (u j) (h j))\/K? (uP ρ τ.H ρ) fun fy=>(NB ρ fy τ).le (me σ ks (u j) (h j)))/\μ j<μ i) Q) (me σ ks (u i) (h i))):lS P Γ (.loop c) Q σ:=by (have hl: ∀i,Γ.nf<=(me σ ks (u i) (h i)).H.length:=fun i=>by show Γ.nf<=(u_ σ.H (h i)).length;rw[wH];exact hn);simp only[lS];refine⟨ι,fun i=>me σ ks (u i) (h i),μ,⟨rU,.le (hl rU) h0⟩,fun i=> ?_⟩;refine zo (fun e τ hq=> ?_) (hs i);cases e with|normal=>(obtain⟨j,h1,h2⟩:=hq;rcases h1 with h1|⟨fy,hH,h1⟩;{exact⟨j,.le (hl j) h1,h2⟩};{exact⟨j,.u3 ρ fy xo hH hf (.le (hl j) h1),h2⟩})|exit id=>(exact hq)|ret=>(exact hq)
@[go_sem] theorem frzSt_eq{ρ:List Nat}{fy:List Obj}{s:List (Nat×A)}{H:List Obj}:NB ρ fy (St.mk s H)=⟨s.map (fun p=>(p.1,ri ρ fy p.2)),sn ρ ρ (H.map (Ky ρ fy))⟩:=rfl
@[go_sem] theorem permSt_eq{ρ:List Nat}{s:List (Nat×A)}{H:List Obj}:yo ρ (St.mk s H)=⟨s.map (fun p=>(p.1,p.2.back ρ H.length)),qG ρ H.length ρ H H⟩:=rfl
theorem W0{P:Program}{Γ:aN}{c:Code}{Q:Ex->St->Prop}{σ:St}{ι:Type}(ρ:List Nat)(xo:ρ.Nodup)(a_: ∀n∈ρ,n<ρ.length)(hon: ∀n,n<ρ.length->n∈ρ)(hk: ∀i,i<Γ.nf->lK ρ ρ.length i=i)(ks:List Nat)(u:ι->List (Nat×A))(h:ι->List (Nat×Obj))(μ:ι->Nat)(rU:ι)(hn:Γ.nf<=σ.H.length)(h0:σ.le (me σ ks (u rU) (h rU)))(hs: ∀i,lS P Γ c (xI (fun τ=> ∃j,(τ.le (me σ ks (u j) (h j))\/(τ.H.length=ρ.length/\(yo ρ τ).le (me σ ks (u j) (h j))))/\μ j<μ i) Q) (me σ ks (u i) (h i))):lS P Γ (.loop c) Q σ:=by (have hl: ∀i,Γ.nf<=(me σ ks (u i) (h i)).H.length:=fun i=>by show Γ.nf<=(u_ σ.H (h i)).length;rw[wH];exact hn);simp only[lS];refine⟨ι,fun i=>me σ ks (u i) (h i),μ,⟨rU,.le (hl rU) h0⟩,fun i=> ?_⟩;refine zo (fun e τ hq=> ?_) (hs i);cases e with|normal=>(obtain⟨j,h1,h2⟩:=hq;rcases h1 with h1|⟨hH,h1⟩;{exact⟨j,.le (hl j) h1,h2⟩};{exact⟨j,.perm ρ hH xo a_ hon hk (.le (hl j) h1),h2⟩})|exit id=>(exact hq)|ret=>(exact hq)
theorem wI{P:Program}{Γ:aN}{c:Code}{Q:Ex->St->Prop}{σ:St}{ι:Type}(ks:List Nat)(u:ι->List (Nat×A))(h:ι->List Obj)(μ:ι->Nat)(rU:ι)(hn: ∀i,Γ.nf<=(h i).length)(h0:σ.le ⟨u rU++xJ σ.s ks,h rU⟩)(hs: ∀i,lS P Γ c (xI (fun τ=> ∃j,τ.le ⟨u j++xJ σ.s ks,h j⟩/\μ j<μ i) Q) ⟨u i++xJ σ.s ks,h i⟩):lS P Γ (.loop c) Q σ:=by simp only[lS];refine⟨ι,fun i=>⟨u i++xJ σ.s ks,h i⟩,μ,⟨rU,.le (hn rU) h0⟩,fun i=> ?_⟩;refine zo (fun e τ hq=> ?_) (hs i);cases e with|normal=>(obtain⟨j,h1,h2⟩:=hq;exact⟨j,.le (hn j) h1,h2⟩)|exit id=>(exact hq)|ret=>(exact hq)
theorem cr{P:Program}{Γ:aN}{c:Code}{Q:Ex->St->Prop}{σ:St}(d k:Nat)(hd:look σ.s d= .eo)(hw:lS P Γ (.loop c) Q ⟨(d,.row σ.H.length 0 k 0 false)::σ.s,σ.H++[.row k []]⟩):lS P Γ (.loop c) Q σ:=by simp only[lS]at hw⊢;obtain⟨ι,inv,μ,⟨i,hi⟩,hs⟩:=hw;exact⟨ι,inv,μ,⟨i,.nil d k hd hi⟩,hs⟩
theorem HU{P:Program}{Γ:aN}{c:Code}{Q:Ex->St->Prop}{σ:St}(m:Nat)(cs:List A)(hm:fj σ.H m=some (.box cs))(hw:lS P Γ (.loop c) Q ⟨σ.s,pH σ.H m (.box (cs.map ny))⟩):lS P Γ (.loop c) Q σ:=by simp only[lS]at hw⊢;obtain⟨ι,inv,μ,⟨j,hj⟩,hs⟩:=hw;exact⟨ι,inv,μ,⟨j,.wkb m cs hm hj⟩,hs⟩
theorem HV{P:Program}{Γ:aN}{c:Code}{Q:Ex->St->Prop}{σ:St}(m i k:Nat)(cs:List A)(hm:fj σ.H m=some (.box cs))(hi:cs[i]? =some .eo)(hw:lS P Γ (.loop c) Q ⟨σ.s,pH σ.H m (.box (fG cs i (.row σ.H.length 0 k 0 false)))++[.row k []]⟩):lS P Γ (.loop c) Q σ:=by simp only[lS]at hw⊢;obtain⟨ι,inv,μ,⟨j,hj⟩,hs⟩:=hw;exact⟨ι,inv,μ,⟨j,.nilb m i k cs hm hi hj⟩,hs⟩
section
variable{σ τ:St}{s:List (Nat×A)}{ks:List Nat}{H G:List Obj}{d n k:Nat}{v a b:A}{o p:Obj}{cs ds:List A}
@[go_sem] theorem keepS_nil:xJ s []=[]:=rfl
@[go_sem] theorem keepS_cons:xJ s (d::ks)=(d,look s d)::xJ s ks:=rfl
@[go_sem] theorem updsH_nil:u_ H []=H:=rfl
@[go_sem] theorem updsH_cons{hs:List (Nat×Obj)}:u_ H ((n,o)::hs)=u_ (pH H n o) hs:=rfl
@[go_sem] theorem head_eq{σs:List (Nat×A)}{gQ:List Obj}{u:List (Nat×A)}{hs:List (Nat×Obj)}:me (St.mk σs gQ) ks u hs={s:=u++xJ σs ks,H:=u_ gQ hs}:=rfl
@[go_sem] theorem le_eq{s r:List (Nat×A)}{H G:List Obj}:(St.mk s H).le ⟨r,G⟩=(leS G.length s r/\xG G.length H G):=rfl
@[go_sem] theorem leS_nil:leS n s []=True:=rfl
@[go_sem] theorem leS_cons{r:List (Nat×A)}:leS n s ((d,v)::r)=((look s d=v/\v.under n=true)/\leS n s r):=rfl
@[go_sem] theorem leH_nil:xG n [] []=True:=by simp[xG]
@[go_sem] theorem leH_nil':xG n (o::H) []=True:=by simp[xG]
@[go_sem] theorem leH_cons:xG n (o::H) (p::G)=(UE n o p/\xG n H G):=by simp[xG]
@[go_sem] theorem leO_box:UE n (.box cs) (.box ds)=Nc n cs ds:=by simp[UE]
@[go_sem] theorem leO_row{j:Nat}:UE n (.row k cs) (.row j ds)=(k=j/\cs=ds):=by simp[UE]
@[go_sem] theorem leL_nil:Nc n [] []=True:=by simp[Nc]
@[go_sem] theorem leL_cons:Nc n (a::cs) (b::ds)=((b= .any\/(a=b/\b.under n=true))/\Nc n cs ds):=by simp[Nc]
end
attribute [go_sem] A.int.injEq A.bool.injEq A.str.injEq A.aC.injEq A.agg.injEq A.ref.injEq A.row.injEq A.eU.injEq A.fn.injEq
end Go.eC
namespace Go.Proofs.YtfnohjheonlnmaaGreat
open Go.eC
theorem mixed:Tryz.prog.follows .mixedOrders=true:=by kernel_rfl
@[go_sem] theorem ty0:lB Tryz.prog 3=false/\mb Tryz.prog 3=false/\nT Tryz.prog 3=false/\cL Tryz.prog 3=none/\cQ Tryz.prog 3=some 1/\ed Tryz.prog 3=some false/\uw Tryz.prog 3=some .i64/\jX Tryz.prog 3=8/\iE Tryz.prog 3=some (.int .i64 0)/\uN Tryz.prog 3=none/\cQ Tryz.prog 4=some 1/\ed Tryz.prog 4=some false/\lB Tryz.prog 5=false/\mb Tryz.prog 5=false/\nT Tryz.prog 5=false/\cL Tryz.prog 5=none/\cQ Tryz.prog 5=some 1/\ed Tryz.prog 5=some false/\uw Tryz.prog 5=some .u8/\iE Tryz.prog 5=some (.int .u8 0)/\uN Tryz.prog 5=none/\lB Tryz.prog 9=true/\mb Tryz.prog 9=false/\nT Tryz.prog 9=false/\cL Tryz.prog 9=none/\jD Tryz.prog 9=none/\cQ Tryz.prog 9=some 1/\ed Tryz.prog 9=some false/\jX Tryz.prog 9=16/\iE Tryz.prog 9=some (.str [])/\uN Tryz.prog 9=none/\mb Tryz.prog 22=false/\nT Tryz.prog 22=false/\cL Tryz.prog 22=some 29/\uN Tryz.prog 22=none/\cL Tryz.prog 23=some 70/\cQ Tryz.prog 23=some 1/\ed Tryz.prog 23=some false/\iE Tryz.prog 23=some .eo/\mb Tryz.prog 26=false:=by and_intros<;>kernel_rfl
@[go_sem] theorem ty1:nT Tryz.prog 26=false/\cL Tryz.prog 26=some 50/\cQ Tryz.prog 26=some 1/\ed Tryz.prog 26=some false/\jX Tryz.prog 26=24/\iE Tryz.prog 26=some .eo/\uN Tryz.prog 26=none/\cL Tryz.prog 27=some 139/\cQ Tryz.prog 27=some 1/\ed Tryz.prog 27=some false/\iE Tryz.prog 27=some .eo/\jD Tryz.prog 29=none/\cQ Tryz.prog 29=some 5/\ed Tryz.prog 29=some true/\jX Tryz.prog 29=88/\kQ Tryz.prog 29=true/\iE Tryz.prog 29=some (.agg [.int .i64 0,.eo,.eo,.eo,.int .i64 0])/\fieldInfo Tryz.prog 29 0=some (0,3)/\fieldInfo Tryz.prog 29 1=some (1,26)/\fieldInfo Tryz.prog 29 2=some (2,23)/\fieldInfo Tryz.prog 29 3=some (3,27)/\fieldInfo Tryz.prog 29 4=some (4,3)/\mb Tryz.prog 32=false/\nT Tryz.prog 32=false/\cL Tryz.prog 32=none/\uN Tryz.prog 32=none/\cL Tryz.prog 41=some 45/\cL Tryz.prog 42=some 97/\cL Tryz.prog 45=some 104/\cQ Tryz.prog 45=some 1/\ed Tryz.prog 45=some false/\iE Tryz.prog 45=some .eo/\mb Tryz.prog 50=false/\nT Tryz.prog 50=false/\cL Tryz.prog 50=none/\jD Tryz.prog 50=none/\cQ Tryz.prog 50=some 3/\ed Tryz.prog 50=some true/\jX Tryz.prog 50=40/\kQ Tryz.prog 50=true:=by and_intros<;>kernel_rfl
@[go_sem] theorem ty2:iE Tryz.prog 50=some (.agg [.str [],.str [],.bool false])/\uN Tryz.prog 50=some [.str,.str,.bool]/\fieldInfo Tryz.prog 50 0=some (0,9)/\fieldInfo Tryz.prog 50 1=some (1,9)/\fieldInfo Tryz.prog 50 2=some (2,4)/\mb Tryz.prog 68=false/\nT Tryz.prog 68=false/\cL Tryz.prog 68=none/\jD Tryz.prog 68=none/\cQ Tryz.prog 68=some 2/\ed Tryz.prog 68=some true/\jX Tryz.prog 68=16/\kQ Tryz.prog 68=true/\iE Tryz.prog 68=some (.agg [.int .i64 0,.int .i64 0])/\uN Tryz.prog 68=some [.int .i64,.int .i64]/\fieldInfo Tryz.prog 68 0=some (0,3)/\fieldInfo Tryz.prog 68 1=some (1,3)/\mb Tryz.prog 70=false/\nT Tryz.prog 70=false/\cL Tryz.prog 70=none/\jD Tryz.prog 70=none/\cQ Tryz.prog 70=some 7/\ed Tryz.prog 70=some true/\jX Tryz.prog 70=72/\kQ Tryz.prog 70=true/\iE Tryz.prog 70=some (.agg [.str [],.int .i64 0,.int .i64 0,.int .i64 0,.int .i64 0,.bool false,.str []])/\uN Tryz.prog 70=some [.str,.int .i64,.int .i64,.int .i64,.int .i64,.bool,.str]/\fieldInfo Tryz.prog 70 0=some (0,9)/\fieldInfo Tryz.prog 70 1=some (1,68)/\fieldInfo Tryz.prog 70 2=some (3,3)/\fieldInfo Tryz.prog 70 3=some (4,3)/\fieldInfo Tryz.prog 70 4=some (5,4)/\fieldInfo Tryz.prog 70 5=some (6,9)/\jD Tryz.prog 97=none/\cQ Tryz.prog 97=some 6/\ed Tryz.prog 97=some true/\kQ Tryz.prog 97=true/\iE Tryz.prog 97=some (.agg [.int .i64 0,.int .i64 0,.int .i64 0,.str [],.int .i64 0,.str []])/\fieldInfo Tryz.prog 97 0=some (0,3)/\fieldInfo Tryz.prog 97 1=some (1,3):=by and_intros<;>kernel_rfl
@[go_sem] theorem ty3:fieldInfo Tryz.prog 97 2=some (2,3)/\fieldInfo Tryz.prog 97 3=some (3,9)/\fieldInfo Tryz.prog 97 4=some (4,3)/\fieldInfo Tryz.prog 97 5=some (5,9)/\jD Tryz.prog 99=none/\cQ Tryz.prog 99=some 6/\ed Tryz.prog 99=some true/\kQ Tryz.prog 99=true/\iE Tryz.prog 99=some (.agg [.int .i64 0,.int .i64 0,.int .i64 0,.str [],.int .i64 0,.str []])/\fieldInfo Tryz.prog 99 0=some (0,3)/\fieldInfo Tryz.prog 99 1=some (1,3)/\fieldInfo Tryz.prog 99 2=some (2,3)/\fieldInfo Tryz.prog 99 3=some (3,9)/\fieldInfo Tryz.prog 99 4=some (4,3)/\fieldInfo Tryz.prog 99 5=some (5,9)/\mb Tryz.prog 104=false/\nT Tryz.prog 104=false/\cL Tryz.prog 104=none/\jD Tryz.prog 104=none/\cQ Tryz.prog 104=some 4/\ed Tryz.prog 104=some true/\kQ Tryz.prog 104=true/\iE Tryz.prog 104=some (.agg [.int .i64 0,.int .i64 0,.str [],.str []])/\uN Tryz.prog 104=some [.int .i64,.int .i64,.str,.str]/\fieldInfo Tryz.prog 104 0=some (0,3)/\fieldInfo Tryz.prog 104 1=some (1,3)/\fieldInfo Tryz.prog 104 2=some (2,9)/\fieldInfo Tryz.prog 104 3=some (3,9)/\lB Tryz.prog 113=false/\cL Tryz.prog 113=some 9/\jD Tryz.prog 113=none/\lB Tryz.prog 134=false/\cL Tryz.prog 134=some 68/\jD Tryz.prog 134=none/\cL Tryz.prog 137=some 143/\cQ Tryz.prog 137=some 1/\ed Tryz.prog 137=some false/\jD Tryz.prog 139=none/\cQ Tryz.prog 139=some 4/\ed Tryz.prog 139=some true:=by and_intros<;>kernel_rfl
@[go_sem] theorem ty4:jX Tryz.prog 139=64/\kQ Tryz.prog 139=true/\iE Tryz.prog 139=some (.agg [.str [],.str [],.bool false,.eo])/\fieldInfo Tryz.prog 139 0=some (0,50)/\fieldInfo Tryz.prog 139 1=some (3,137)/\mb Tryz.prog 141=false/\nT Tryz.prog 141=false/\cL Tryz.prog 141=some 146/\cQ Tryz.prog 141=some 1/\ed Tryz.prog 141=some false/\uN Tryz.prog 141=none/\jD Tryz.prog 143=none/\cQ Tryz.prog 143=some 2/\ed Tryz.prog 143=some true/\jX Tryz.prog 143=32/\kQ Tryz.prog 143=true/\iE Tryz.prog 143=some (.agg [.int .i64 0,.eo])/\fieldInfo Tryz.prog 143 0=some (0,3)/\fieldInfo Tryz.prog 143 1=some (1,141)/\mb Tryz.prog 146=false/\nT Tryz.prog 146=false/\cL Tryz.prog 146=none/\jD Tryz.prog 146=none/\cQ Tryz.prog 146=some 2/\ed Tryz.prog 146=some true/\jX Tryz.prog 146=16/\kQ Tryz.prog 146=true/\iE Tryz.prog 146=some (.agg [.int .i64 0,.int .i64 0])/\uN Tryz.prog 146=some [.int .i64,.int .i64]/\fieldInfo Tryz.prog 146 0=some (0,3)/\fieldInfo Tryz.prog 146 1=some (1,3)/\lB Tryz.prog 182=false/\cL Tryz.prog 182=some 26/\jD Tryz.prog 182=none/\cL Tryz.prog 193=some 23/\cL Tryz.prog 195=some 27/\lB Tryz.prog 198=false/\cL Tryz.prog 198=some 5/\cL Tryz.prog 200=none/\jD Tryz.prog 200=some (16,141):=by and_intros<;>kernel_rfl
@[go_sem] theorem ty5:cQ Tryz.prog 200=some 16/\ed Tryz.prog 200=some true/\iE Tryz.prog 200=some (.agg [.eo,.eo,.eo,.eo,.eo,.eo,.eo,.eo,.eo,.eo,.eo,.eo,.eo,.eo,.eo,.eo])/\lB Tryz.prog 224=false/\cL Tryz.prog 224=some 3/\jD Tryz.prog 224=none/\lB Tryz.prog 228=false/\mb Tryz.prog 228=false/\nT Tryz.prog 228=false/\cL Tryz.prog 228=none/\ed Tryz.prog 228=some false/\uw Tryz.prog 228=some .u64/\uN Tryz.prog 228=none/\lB Tryz.prog 248=false/\mb Tryz.prog 248=false/\nT Tryz.prog 248=false/\cL Tryz.prog 248=none/\ed Tryz.prog 248=some false/\uN Tryz.prog 248=none/\jD Tryz.prog 270=some (2,26)/\iE Tryz.prog 270=some (.agg [.eo,.eo])/\mS Tryz.prog 3 1=true/\mS Tryz.prog 9 1=true/\mS Tryz.prog 26 1=true/\mS Tryz.prog 29 5=true/\mS Tryz.prog 50 3=true/\mS Tryz.prog 68 2=true/\mS Tryz.prog 70 7=true/\mS Tryz.prog 139 4=true/\mS Tryz.prog 143 2=true/\mS Tryz.prog 146 2=true:=by and_intros<;>kernel_rfl
end Go.Proofs.YtfnohjheonlnmaaGreat
namespace Go.eC
open Go.RowKit
theorem dd{E:Env}: ∀{cs:List A} {vs:List Value},cJ E cs vs ↔ cs.length=vs.length/\ ∀(i:Nat) (x:A) (v:Value),cs[i]? =some x->vs[i]? =some v->bV E x v| [],vs=>by simp only[cJ];constructor;{rintro rfl;exact⟨rfl,fun i x v h=>by simp at h⟩};{rintro⟨h,_⟩;exact aR.1 h.symm}|c::cs,vs=>by simp only[cJ];constructor;{rintro⟨v,pU,rfl,hc,hl⟩;obtain⟨h1,h2⟩:=dd.1 hl;refine⟨by simp[h1],fun i x u hx hu=> ?_⟩;cases i with|zero=>(simp at hx hu;subst hx;subst hu;exact hc)|succ i=>(exact h2 i x u (by simpa using hx) (by simpa using hu))};{rintro⟨h1,h2⟩;cases vs with|nil=>(simp at h1)|cons v vs=>(exact⟨v,vs,rfl,h2 0 c v rfl rfl,dd.2 ⟨by simpa using h1,fun i x u hx hu=>h2 (i+1) x u (by simpa using hx) (by simpa using hu)⟩⟩)}
theorem de{E:Env}{b:Nat}: ∀{cs:List A} {off:Nat},ma E b off cs ↔∀(i:Nat) (x:A),cs[i]? =some x-> ∃v,E.w.cell? ⟨b,off+i,none⟩=some v/\v.oneCell'=true/\bV E x v| [],off=>by simp[ma]|c::cs,off=>by simp only[ma];constructor;{rintro⟨h1,h2⟩ i x hx;cases i with|zero=>(simp at hx;subst hx;simpa using h1)|succ i=>(have:=de.1 h2 i x (by simpa using hx);rwa [show off+1+i=off+(i+1) by omega]at this)};{intro h;refine⟨by simpa using h 0 c rfl,de.2 fun i x hx=> ?_⟩;have:=h (i+1) x (by simpa using hx);rwa [show off+(i+1)=off+1+i by omega]at this}
theorem NF{E:Env}{b off:Nat}{x:A}:ma E b off [x] ↔∃v,E.w.cell? ⟨b,off,none⟩=some v/\v.oneCell'=true/\bV E x v:=by simp[ma]
theorem so{E:Env}{k b off:Nat}{e:A}{es:List A}:j7 E k b off (e::es) ↔ (e.cells.length=k/\ma E b off e.cells)/\j7 E k b (off+k) es:=by cases e;(case agg cs=>rw[Nu];simp[A.cells]);all_goals simp only[j7,A.cells,ma,aw,bm,bM,and_true];constructor;{rintro⟨⟨h1,h2⟩,h3⟩;exact⟨⟨h1.symm,h2⟩,h3⟩};{rintro⟨⟨h1,h2⟩,h3⟩;exact⟨⟨h1.symm,h2⟩,h3⟩}
theorem ij{E:Env}{k b:Nat}: ∀{es:List A} {off:Nat},j7 E k b off es ↔∀(i:Nat) (e:A),es[i]? =some e->e.cells.length=k/\ma E b (off+i*k) e.cells| [],off=>by simp[j7]|e::es,off=>by rw[so];constructor;{rintro⟨h1,h2⟩ i x hx;cases i with|zero=>(simp at hx;subst hx;simpa using h1)|succ i=>(have:=ij.1 h2 i x (by simpa using hx);rwa [show off+k+i*k=off+(i+1)*k by rw[cN];omega]at this)};{intro h;refine⟨by simpa using h 0 e rfl,ij.2 fun i x hx=> ?_⟩;have:=h (i+1) x (by simpa using hx);rwa [show off+(i+1)*k=off+k+i*k by rw[cN];omega]at this}
theorem nA{E:Env}{b off n:Nat}{cs:List A}(h:ma E b off cs):ma E b (off+n) (cs.drop n):=de.2 fun i x hx=>by have:=de.1 h (n+i) x (by simpa[eL]using hx);rwa [show off+(n+i)=off+n+i by omega]at this
theorem W1{E:Env}{b off n:Nat}{cs:List A}(h:ma E b off cs):ma E b off (cs.take n):=de.2 fun i x hx=>de.1 h i x (by rw[dS]at hx;split at hx;{exact hx};{simp at hx})
theorem Bo{E:Env}{k b off n:Nat}{es:List A}(h:j7 E k b off es):j7 E k b (off+n*k) (es.drop n):=ij.2 fun i x hx=>by have:=ij.1 h (n+i) x (by simpa[eL]using hx);rwa [show off+(n+i)*k=off+n*k+i*k by rw[cN];omega]at this
theorem sq{E:Env}{k b off n:Nat}{es:List A}(h:j7 E k b off es):j7 E k b off (es.take n):=ij.2 fun i x hx=>ij.1 h i x (by rw[dS]at hx;split at hx;{exact hx};{simp at hx})
theorem wJ{E:Env}{b:Nat}: ∀{cs:List A} {off:Nat},ma E b off cs-> ∃vs:List Value,E.w.rangeAt b off vs/\cJ E cs vs/\ ∀u∈vs,u.oneCell'=true| [],off,_=>⟨[],fun j v h=>by simp at h,by simp[cJ],by simp⟩|c::cs,off,h=>by simp only[ma]at h;obtain⟨⟨v,hv,h1,hc⟩,hl⟩:=h;obtain⟨vs,hr,hL,gT⟩:=wJ hl;refine⟨v::vs,fun j u hu=> ?_,by simp only[cJ];exact⟨v,vs,rfl,hc,hL⟩, ?_⟩;{cases j with|zero=>(simp at hu;subst hu;simpa using hv)|succ j=>(have:=hr j u (by simpa using hu);rwa [show off+1+j=off+(j+1) by omega]at this)};{intro u hu;rcases aA.1 hu with rfl|hu;{exact h1};{exact gT u hu}}
theorem tt{E:Env}{b:Nat}: ∀{cs:List A} {off:Nat} {vs:List Value},E.w.rangeAt b off vs->cJ E cs vs->(∀u∈vs,u.oneCell'=true)->ma E b off cs:=by
 intro cs off vs hr hL h1;obtain⟨hlen,gq⟩:=dd.1 hL;refine de.2 fun i x hx=> ?_;have hi:i<vs.length:=by rw[<-hlen];exact(an.1 hx).1
 have hv:vs[i]? =some vs[i]:=ad hi;exact⟨vs[i],hr i _ hv,h1 _ (aj hi),gq i x _ hx hv⟩
theorem Bp{E:Env}{n:Nat}: ∀{cs:List A} {vs:List Value},cJ E cs vs->cJ E (cs.take n) (vs.take n):=by intro cs vs h;obtain⟨h1,h2⟩:=dd.1 h;refine dd.2 ⟨by simp[h1],fun i x v hx hv=> ?_⟩;rw[dS]at hx hv;split at hx;{rename_i hi;rw[if_pos hi]at hv;exact h2 i x v hx hv};{simp at hx}
theorem Bq{E:Env}{n:Nat}: ∀{cs:List A} {vs:List Value},cJ E cs vs->cJ E (cs.drop n) (vs.drop n):=by intro cs vs h;obtain⟨h1,h2⟩:=dd.1 h;refine dd.2 ⟨by simp[h1],fun i x v hx hv=> ?_⟩;rw[eL]at hx hv;exact h2 _ x v hx hv
theorem nB{E:Env}: ∀{cs ds:List A} {vs us:List Value},cJ E cs vs->cJ E ds us->cJ E (cs++ds) (vs++us)| [],ds,vs,us,h,h'=>by simp only[cJ]at h;subst h;simpa using h'|c::cs,ds,vs,us,h,h'=>by simp only[cJ]at h;obtain⟨v,pU,rfl,hc,hl⟩:=h;simp only[bF,cJ];exact⟨v,pU++us,rfl,hc,nB hl h'⟩
theorem nC{E:Env}{x:A}{v:Value}(h:bV E x v)(hv:x.val=true):cJ E x.cells v.cells.toList/\(∀u∈v.cells.toList,u.oneCell'=true)/\v.cells.size=x.cells.length:=by cases x;(case any=>simp[A.val]at hv);(case eU=>simp[A.val]at hv);(case agg cs=>simp only[bV]at h;obtain⟨vs,rfl,hl,h1⟩:=h;simp only[Value.cells,A.cells];exact⟨by simpa using hl,by simpa using h1,by simpa using(dd.1 hl).1.symm⟩);(case aC es=>have h0:=h;simp only[bV]at h;obtain⟨_,a,cap,rfl,_⟩:=h;simp only[Value.cells,A.cells,cJ];exact⟨⟨_,[],rfl,h0,rfl⟩,by simp[Value.oneCell'],rfl⟩);(case clip es=>have h0:=h;simp only[bV]at h;obtain⟨_,a,rfl,_⟩:=h;simp only[Value.cells,A.cells,cJ];exact⟨⟨_,[],rfl,h0,rfl⟩,by simp[Value.oneCell'],rfl⟩);(case jL es=>have h0:=h;simp only[bV]at h;obtain⟨_,a,off,rfl,_⟩:=h;simp only[Value.cells,A.cells,cJ];exact⟨⟨_,[],rfl,h0,rfl⟩,by simp[Value.oneCell'],rfl⟩);(case emp c=>have h0:=h;simp only[bV]at h;obtain⟨q,cap,rfl,_⟩:=h;simp only[Value.cells,A.cells,cJ];exact⟨⟨_,[],rfl,h0,rfl⟩,by simp[Value.oneCell'],rfl⟩);(case ref n off=>have h0:=h;simp only[bV]at h;obtain⟨b,k,_,rfl⟩:=h;simp only[Value.cells,A.cells,cJ];exact⟨⟨_,[],rfl,h0,rfl⟩,by simp[Value.oneCell'],rfl⟩);(case mr n i off=>have h0:=h;simp only[bV]at h;obtain⟨b,k,_,rfl⟩:=h;simp only[Value.cells,A.cells,cJ];exact⟨⟨_,[],rfl,h0,rfl⟩,by simp[Value.oneCell'],rfl⟩);(case row n off k len c=>have h0:=h;simp only[bV]at h;rcases h with⟨o,_,_,_,_,a,rfl⟩|⟨b,cap,c,e,fr,_,rfl,_⟩;all_goals simp only[Value.cells,A.cells,cJ];exact⟨⟨_,[],rfl,h0,rfl⟩,by simp[Value.oneCell'],rfl⟩);(case fn f cs=>have h0:=h;simp only[bV]at h;obtain⟨vs,rfl,_⟩:=h;simp only[Value.cells,A.cells,cJ];exact⟨⟨_,[],rfl,h0,rfl⟩,by simp[Value.oneCell'],rfl⟩);all_goals have h0:=h;simp only[bV]at h;subst h;simp only[Value.cells,A.cells,cJ];exact⟨⟨_,[],rfl,h0,rfl⟩,by simp[Value.oneCell'],rfl⟩
def sr(c:Array Value)(fr:Nat×Nat):Prop:= ∀j,j<c.size-> ¬(fr.1<=j/\j<fr.2)
def cg(E:Env):Obj->iv->Prop| .box cs,.loc b _=>(∃c e fr,E.w.heap[b]? =some (.cells c e fr)/\sr c fr)/\ma E b 0 cs| .row k es,.loc b k'=>k=k'/\A.pure.cX es=true/\(∃c e fr,E.w.heap[b]? =some (.cells c e fr)/\sr c fr)/\j7 E k b 0 es| .row _ es,.nil=>es=[]| .row k es,.free=>k=0/\es=[]| .box _,_=>False
def bB(N0:Nat->Prop)(φ:List iv)(w:World):Env:=⟨fun b=>N0 b\/ ∃n k:Nat,φ[n]? =some (iv.loc b k),φ,w⟩
structure pn extends World where
 M:Nat->Prop
 fix:Nat->Bool
 W3:List iv
structure Kept(w0:pn)(w:World):Prop where
 os:w.os=w0.os
 tape:w.tape=w0.tape
 output:w.output=w0.output
 drawn:w0.drawn<=w.drawn
 size:w0.heap.size<=w.heap.size
 block: ∀b,b<w0.heap.size-> ¬w0.M b->w.heap[b]? =w0.heap[b]?
 shape: ∀(b:Nat) (c:Array Value) (e:TypeId) (fr:Nat×Nat),w0.heap[b]? =some (.cells c e fr)-> ∃c' Rt,w.heap[b]? =some (.cells c' e Rt)/\c'.size=c.size
structure cq(N0:Nat->Prop)(w0:pn)(nt:Nat)(σ:St)(φ:List iv)(a:Act)(w:World):Prop where
 gW: ∀d,bV (bB N0 φ w) (look σ.s d) (a.tmps.getD d undef)
 size:a.tmps.size=nt
 defers:a.defers=[]
 len:φ.length=σ.H.length
 ia: ∀(n:Nat) (o:Obj) (p:iv),fj σ.H n=some o->φ[n]? =some p->cg (bB N0 φ w) o p
 own: ∀n b k:Nat,φ[n]? =some (iv.loc b k)->(w0.heap.size<=b\/w0.M b)/\b<w.heap.size
 inj: ∀n m b k k':Nat,φ[n]? =some (iv.loc b k)->φ[m]? =some (iv.loc b k')->n=m
 n0: ∀b,N0 b->b<w0.heap.size/\ ¬w0.M b
 pV: ∀(n:Nat) (p:iv),w0.fix n=true->w0.W3[n]? =some p->p≠ .free->φ[n]? =some p
 below:Kept w0 w
theorem dN: ∀(H:List Obj) (n:Nat),fj H n=H[n]?| [],n=>by simp[fj]|x::xs,0=>by simp[fj]|x::xs,n+1=>by simp[fj,dN xs n]
theorem jv: ∀(H:List Obj) (n:Nat) (o:Obj),pH H n o=H.set n o| [],n,o=>by simp[pH]|x::xs,0,o=>by simp[pH]|x::xs,n+1,o=>by simp[pH,jv xs n o]
theorem kc: ∀(H:List A) (n:Nat) (o:A),fG H n o=H.set n o| [],n,o=>by simp[fG]|x::xs,0,o=>by simp[fG]|x::xs,n+1,o=>by simp[fG,kc xs n o]
section
variable{N0:Nat->Prop}{w0:pn}{nt:Nat}{σ:St}{φ:List iv}{a:Act}{w:World}
theorem cg.mono{K:Nat->Prop}{E E':Env}(h:Ext K E E'){o:Obj}{p:iv}(hr:cg E o p)(hp: ∀b k,p=iv.loc b k-> ∀c e fr,E.w.heap[b]? =some (.cells c e fr)->E'.w.heap[b]? =some (.cells c e fr))(hk: ∀cs,o= .box cs-> ∀n,A.mem.l_ n cs=true->K n):cg E' o p:=by cases o with|box cs=>(cases p with|loc b k=>(simp only[cg]at hr⊢;obtain⟨⟨c,e,fr,hc,hf⟩,hm⟩:=hr;have yg:=hp b k rfl c e fr hc;refine⟨⟨c,e,fr,yg,hf⟩,de.2 fun i x hx=> ?_⟩;obtain⟨v,hv,h1,gq⟩:=de.1 hm i x hx;refine⟨v,by simpa only[World.cell?,hc,yg]using hv,h1,bV.mono h x v gq fun n hn=>hk cs rfl n ?_⟩;have kK:=bE hx;clear hx hm hk;induction cs with|nil=>(simp at kK)|cons y ys ih=>(rcases aA.1 kK with rfl|oB;{simp[A.mem.l_,hn]};{simp[A.mem.l_,ih oB]}))|_=>(simp[cg]at hr))|row k es=>(cases p with|loc b k'=>(simp only[cg]at hr⊢;obtain⟨W4,u',⟨c,e,fr,hc,hf⟩,hm⟩:=hr;have yg:=hp b k' rfl c e fr hc;refine⟨W4,u',⟨c,e,fr,yg,hf⟩,ij.2 fun i x hx=> ?_⟩;obtain⟨hl,hmm⟩:=ij.1 hm i x hx;refine⟨hl,de.2 fun j y hy=> ?_⟩;obtain⟨v,hv,h1,gq⟩:=de.1 hmm j y hy;refine⟨v,by simpa only[World.cell?,hc,yg]using hv,h1,bV.mono h y v gq fun n hn=> ?_⟩;exfalso;(have hpx:x.pure=true:=by have kK:=bE hx;clear hx hm hk;induction es with|nil=>(simp at kK)|cons z zs ih=>(simp only[A.pure.cX,ae]at u';rcases aA.1 kK with rfl|oB;{exact u'.1};{exact ih u'.2 oB}));(have hpy:y.pure=true:=by have kK:=bE hy;cases x;(case agg cs=>simp only[A.pure]at hpx;simp only[A.cells]at kK;clear hy hmm hl hx;induction cs with|nil=>(simp at kK)|cons z zs ih=>(simp only[A.pure.cX,ae]at hpx;rcases aA.1 kK with rfl|oB;{exact hpx.1};{exact ih hpx.2 oB}));all_goals simp only[A.cells,aI]at kK;subst kK;exact hpx);rw[A.ry n y hpy]at hn;cases hn)|nil=>(simpa only[cg]using hr)|free=>(simpa only[cg]using hr))
structure j_(w w':World):Prop where
 size:w.heap.size<=w'.heap.size
 block: ∀b,b<w.heap.size->w'.heap[b]? =w.heap[b]?
 os:w'.os=w.os
 tape:w'.tape=w.tape
 output:w'.output=w.output
 drawn:w.drawn<=w'.drawn
theorem j_.refl(w:World):j_ w w:=⟨ah _,fun _ _=>rfl,rfl,rfl,rfl,ah _⟩
theorem j_.trans{w w' w'':World}(h:j_ w w')(h':j_ w' w''):j_ w w'':=⟨bf h.size h'.size,fun b hb=>(h'.block b (cH hb h.size)).trans (h.block b hb),h'.os.trans h.os,h'.tape.trans h.tape,h'.output.trans h.output,bf h.drawn h'.drawn⟩
theorem j_.alloc(w:World)(o:Go.Obj):j_ w (w.alloc o):=⟨by simp,fun b hb=>Below.heap_alloc w o b hb,rfl,rfl,rfl,ah _⟩
theorem j_.drew(w:World):j_ w w.drew:=⟨ah _,fun _ _=>rfl,rfl,rfl,rfl,Nat.le_succ _⟩
theorem j_.toBelow{w w':World}(g:j_ w w'):Below w.heap.size w w':=⟨g.os,g.tape,g.output,g.size,g.block⟩
theorem Kept.refl(w0:pn):Kept w0 w0.toWorld:=⟨rfl,rfl,rfl,ah _,ah _,fun _ _ _=>rfl,fun _ c _ fr h=>⟨c,fr,h,rfl⟩⟩
theorem j_.below{w0:pn}{w w':World}(h:Kept w0 w)(g:j_ w w'):Kept w0 w' where
 os:=g.os.trans h.os
 tape:=g.tape.trans h.tape
 output:=g.output.trans h.output
 drawn:=bf h.drawn g.drawn
 size:=bf h.size g.size
 block:=fun b hb hM=>(g.block b (cH hb h.size)).trans (h.block b hb hM)
 shape:=fun b c e fr hc=>by obtain⟨c',Rt,h1,h2⟩:=h.shape b c e fr hc;have hb:b<w.heap.size:=(bR.1 h1).1;exact⟨c',Rt,by rw[g.block b hb];exact h1,h2⟩
theorem cq.EJ(h:cq N0 w0 nt σ φ a w){w':World}(g:j_ w w'):Ext (fun _=>True) (bB N0 φ w) (bB N0 φ w') where
 size:=g.size
 Nv:=fun b hb hn=>⟨hn,g.block b hb⟩
 refs:=fun n o _ ho _=>ho
 own:=fun n b k c e fr _ ho hc=>⟨c,fr,by have:=(h.own n b k ho).2;show w'.heap[b]? =_;rw[g.block b this];exact hc,rfl⟩
theorem cq.W5(h:cq N0 w0 nt σ φ a w){w':World}(g:j_ w w'):cq N0 w0 nt σ φ a w' where
 gW:=fun d=>bV.mono (h.EJ g) _ _ (h.gW d) (fun _ _=>trivial)
 size:=h.size
 defers:=h.defers
 len:=h.len
 ia:=fun n o p ho hp=>cg.mono (h.EJ g) (h.ia n o p ho hp) (fun b k hb c e fr hc=>by subst hb;show w'.heap[b]? =_;rw[g.block b (h.own n b k hp).2];exact hc) (fun _ _ _ _=>trivial)
 own:=fun n b k hb=>⟨(h.own n b k hb).1,cH (h.own n b k hb).2 g.size⟩
 inj:=h.inj
 n0:=h.n0
 pV:=h.pV
 below:=g.below h.below
theorem cq.rep_grew(h:cq N0 w0 nt σ φ a w){w':World}(g:j_ w w'){x:A}{v:Value}(hr:bV (bB N0 φ w) x v):bV (bB N0 φ w') x v:=bV.mono (h.EJ g) x v hr (fun _ _=>trivial)
theorem getD_put{a:Act}{d:Nat}{v:Value}(hd:d<a.tmps.size)(t:Nat):(a.put (some d) v).tmps.getD t undef=if d=t then v else a.tmps.getD t undef:=by simp only[Act.put];by_cases ht:d=t;{subst ht;simp[Array.getD,hd]};{rw[if_neg ht];simp only[Array.getD_eq_getD_getElem?,Array.getElem?_setIfInBounds];rw[if_neg ht]}
theorem cq.put(h:cq N0 w0 nt σ φ a w){d:Option Tmp}(hd: ∀t,d=some t->t<nt){x:A}{v:Value}(hr:bV (bB N0 φ w) x v):cq N0 w0 nt (σ.put d x) φ (a.put d v) w:=by cases d with|none=>(exact h)|some d=>((have hd':d<a.tmps.size:=by rw[h.size];exact hd d rfl);exact{h with gW:=fun t=>by rw[getD_put hd' t];show bV _ (look ((d,x)::σ.s) t) _;simp only[look];split;{exact hr};{exact h.gW t},size:=by simp only[Act.put,Array.size_setIfInBounds];exact h.size,defers:=h.defers})
theorem Br(E:Env):bV E (.eU []) undef:=by simp[bV,cJ,undef]
theorem NG(E:Env)(v:Value):bV E (toA1 v) v:=by unfold toA1;split<;>first|(simp only[bV];done)|(simp[bV,cJ];done)|(simp only[bV];exact⟨[],rfl,by simp[cJ]⟩)
theorem KC(E:Env)(v:Value):bV E (toA v) v:=by unfold toA;split;{rename_i cs;split;{rename_i m_;simp only[bV];refine⟨cs,rfl,dd.2 ⟨by simp,fun i x u hx hu=> ?_⟩,fun u hu=>bA.1 m_ u hu⟩;rw[aL,hu]at hx;simp at hx;subst hx;exact NG E u};{simp only[bV]}};{exact NG E v}
theorem cq.ev(h:cq N0 w0 nt σ φ a w)(x:Operand):bV (bB N0 φ w) (σ.ev x) (a.eval x):=by match x with| .tmp t=>exact h.gW t| .const v=>exact KC _ v| .func f=>simp only[St.ev,Act.eval,bV];exact⟨[],rfl,by simp[cJ]⟩| .global g=>simp only[St.ev,bV]
end
end Go.eC
namespace Go.eC
open Go.RowKit
section
variable{P:Program}{w:World}
theorem EK{t:TypeId}(h:ed P t=some true): ∃d,P.underlying t=some d/\d.isRow=true:=by unfold ed at h;split at h<;>first|(rename_i hu;exact⟨_,hu,rfl⟩)|simp at h
theorem NH{t:TypeId}(h:ed P t=some false): ∃d,P.underlying t=some d/\d.isRow=false:=by unfold ed at h;split at h;{simp at h};{simp at h};{rename_i d h1 h2 hu;refine⟨d,hu, ?_⟩;cases d<;>first|rfl|(exact(h1 _ rfl).elim)|(exact(h2 _ _ rfl).elim)};{simp at h}
theorem qH{t:TypeId}(h:ed P t=some true):(isAgg t).run P w= .ok true w:=by obtain⟨d,hu,hd⟩:=EK h;unfold isAgg;rw[Sem.run_bind,run_underlying hu w];cases d<;>simp_all
theorem nn{t:TypeId}(h:ed P t=some false):(isAgg t).run P w= .ok false w:=by obtain⟨d,hu,hd⟩:=NH h;unfold isAgg;rw[Sem.run_bind,run_underlying hu w];cases d<;>simp_all
theorem run_sizeOf{t n:Nat}(h:cQ P t=some n):(sizeOf t).run P w= .ok n w:=by unfold cQ at h;cases hq:P.info? t with|none=>(simp[hq]at h)|some i=>(simp[hq]at h;simp[sizeOf,typeInfo,hq,h])
theorem i_{t e:Nat}(h:cL P t=some e):P.underlying t=some (.slice e):=by unfold cL at h;split at h;{rename_i hu;simp at h;subst h;exact hu};{simp at h}
theorem zp{t n e:Nat}(h:jD P t=some (n,e)):P.underlying t=some (.array n e):=by unfold jD at h;split at h;{rename_i hu;simp at h;obtain⟨rfl,rfl⟩:=h;exact hu};{simp at h}
theorem nY{t:Nat}(h:lB P t=true):P.underlying t=some .string:=by unfold lB at h;split at h;{assumption};{simp at h}
theorem EL{t:Nat}{k:IntKind}(h:uw P t=some k):P.underlying t=some (.int k):=by unfold uw at h;split at h;{rename_i hu;simp at h;subst h;exact hu};{simp at h}
theorem NI{t:Nat}(h:nT P t=true): ∃e,P.underlying t=some (.pointer e):=by unfold nT at h;split at h;{rename_i e hu;exact⟨e,hu⟩};{simp at h}
theorem tu{s f o t:Nat}(h:fieldInfo P s f=some (o,t)):∃fs x n,P.underlying s=some (.struct fs)/\fs[f]? =some x/\x.offset=o/\x.type=t/\cQ P t=some n/\n≠0:=by unfold fieldInfo at h;split at h;{rename_i fs hu;cases hx:fs[f]? with|none=>(simp[hx]at h)|some x=>(simp only[hx,aW]at h;split at h;{simp at h};{rename_i h0;split at h;{simp at h};{rename_i h1;simp at h;obtain⟨rfl,rfl⟩:=h;cases hs:cQ P x.type with|none=>(simp[hs]at h1)|some n=>(exact⟨fs,x,n,hu,hx,rfl,rfl,rfl,fun hn=>h0 (by rw[hs,hn])⟩)}})};{simp at h}
theorem CB{s:Sem Value}{v:Value}{w':World}(h:s.run P w= .ok v w'):(do pure (Next.value (<-s)):Sem Next).run P w= .ok (.value v) w':=by simp[h]
theorem run_u{s:Sem Unit}{w':World}(h:s.run P w= .ok () w'):(do s;pure Next.skip:Sem Next).run P w= .ok .skip w':=by simp[h]
end
def Good(P:Program)(o:Oper)(a:Act)(w:World)(N0:Nat->Prop)(φ:List iv)(x:A):Prop:=∃v w',(Go.execOp a.eval o).run P w= .ok (.value v) w'/\j_ w w'/\bV (bB N0 φ w') x v
section
variable{P:Program}{N0:Nat->Prop}{w0:pn}{nt:Nat}{σ:St}{φ:List iv}{a:Act}{w:World}
theorem eA{o:Oper}{s:Sem Value}{x:A}{v:Value}(ho:Go.execOp a.eval o=(do pure (Next.value (<-s))))(hr:s.run P w= .ok v w)(h:bV (bB N0 φ w) x v):Good P o a w N0 φ x:=⟨v,w,by rw[ho];exact CB hr,j_.refl w,h⟩
theorem va{b:Builtin}{xs:List Operand}{us:Array TypeId}{d:Option Tmp}{t:TypeId}{p:String}{af:Array Edge}{g:Option (Nat×Bool)}:∃cs,(Go.execOp a.eval ⟨d,.call ⟨.builtin b,⟨xs⟩,us⟩,t,p,af,g⟩).run P w=(builtin b us t cs (xs.map a.eval).toArray).run P w:=by refine⟨xs.toArray.map fun| .const _=>true|_=>false, ?_⟩;simp only[Go.execOp,resolve,invoke,Sem.run_bind,Sem.run_pure,Result.andThen_ok];rw[<-List.map_toArray];rfl
theorem kj{b:Builtin}{xs:List Operand}{us:Array TypeId}{d:Option Tmp}{t:TypeId}{p:String}{af:Array Edge}{g:Option (Nat×Bool)}{s:Sem Value}{x:A}{v:Value}(ho: ∀cs,builtin b us t cs (xs.map a.eval).toArray=(do pure (Next.value (<-s)))) (hr:s.run P w= .ok v w) (h:bV (bB N0 φ w) x v):Good P ⟨d,.call ⟨.builtin b,⟨xs⟩,us⟩,t,p,af,g⟩ a w N0 φ x:=by obtain⟨cs,D4⟩:=va (P:=P) (a:=a) (w:=w) (b:=b) (xs:=xs) (us:=us) (d:=d) (t:=t) (p:=p) (af:=af) (g:=g);exact⟨v,w,by rw[D4,ho];exact CB hr,j_.refl w,h⟩
theorem tv(s:List UInt8):(⟨s.toArray⟩:ByteArray).size=s.length:=rfl
theorem np{E:Env}{k:IntKind}{n:Int}{v:Value}(h:bV E (.int k n) v):v= .int k n:=by simpa only[bV]using h
theorem zq{E:Env}{b:Bool}{v:Value}(h:bV E (.bool b) v):v= .bool b:=by simpa only[bV]using h
theorem wK{E:Env}{s:List UInt8}{v:Value}(h:bV E (.str s) v):v= .string ⟨s.toArray⟩:=by simpa only[bV]using h
theorem W6(h:cq N0 w0 nt σ φ a w){d:Option Tmp}{x:Operand}{t:TypeId}{p:String}{af:Array Edge}{g:Option (Nat×Bool)}:Good P ⟨d,.move x,t,p,af,g⟩ a w N0 φ (σ.ev x):=⟨a.eval x,w,rfl,j_.refl w,h.ev x⟩
theorem NJ(h:cq N0 w0 nt σ φ a w){d:Option Tmp}{x:Operand}{t:TypeId}{p:String}{af:Array Edge}{g:Option (Nat×Bool)}:Good P ⟨d,.assign x,t,p,af,g⟩ a w N0 φ (σ.ev x):=⟨a.eval x,w,rfl,j_.refl w,h.ev x⟩
theorem W7(h:cq N0 w0 nt σ φ a w){d:Option Tmp}{x y z:Operand}{t:TypeId}{p:String}{af:Array Edge}{g:Option (Nat×Bool)}{r:A}(hr:Ny (σ.ev x) (σ.ev y) (σ.ev z)=some r):Good P ⟨d,.pick x y z,t,p,af,g⟩ a w N0 φ r:=by (cases hc:σ.ev x<;>simp only[hc,Ny]at hr<;>try(simp at hr;done));rename_i b;have hx:=h.ev x;rw[hc]at hx;have W8:=zq hx;refine⟨if b then a.eval y else a.eval z,w, ?_,j_.refl w, ?_⟩;{simp[Go.execOp,W8,asBool]};{simp at hr;subst hr;cases b;{simpa using h.ev z};{simpa using h.ev y}}
theorem EM(h:cq N0 w0 nt σ φ a w){d:Option Tmp}{x:Operand}{s f:Nat}{t:TypeId}{p:String}{af:Array Edge}{g:Option (Nat×Bool)}{r:A}(hr:oP (fieldInfo P s f) (σ.ev x)=some r):Good P ⟨d,.fieldAddr s x f,t,p,af,g⟩ a w N0 φ r:=by cases hf:fieldInfo P s f with|none=>(simp[hf,oP]at hr)|some q=>(obtain⟨o,ft⟩:=q;rw[hf]at hr;simp only[oP]at hr;obtain⟨fs,fx,n,hu,zg,rfl,rfl,hn,UG⟩:=tu hf;(have key: ∀b off:Nat,a.eval x= .pointer (some ⟨b,off,none⟩)->(Instr.fieldAt s (a.eval x) f).run P w= .ok (.pointer (some ⟨b,off+fx.offset,none⟩)) w:=by intro b off hx;have hz:(sizeOf fx.type).run P w= .ok n w:=run_sizeOf hn;simp[Instr.fieldAt,run_underlying hu,zg,hx,Instr.sureAddr,fieldPlace,hz,UG,Addr.add_mid]);have hx:=h.ev x;(cases hc:σ.ev x<;>simp only[hc,oO]at hr<;>try(simp at hr;done));{rename_i cs;simp at hr;subst hr;rw[hc]at hx;simp only[bV]at hx;obtain⟨hp,b,off,hv,hb,hnb,hm⟩:=hx;refine eA rfl (key b off hv) ?_;simp only[bV];refine⟨?_,b,off+fx.offset,rfl,hb,hnb,nA hm⟩;clear hm hc hv;generalize fx.offset=m;induction cs generalizing m with|nil=>(simp[A.pure.cX])|cons y ys ih=>(simp only[A.pure.cX,ae]at hp;cases m with|zero=>(simp[A.pure.cX,hp])|succ m=>(simpa using ih hp.2 m))};{rename_i n' off;simp at hr;subst hr;rw[hc]at hx;simp only[bV]at hx;obtain⟨b,k,hb,hv⟩:=hx;refine eA rfl (key b off hv) ?_;simp only[bV];exact⟨b,k,hb,rfl⟩};{rename_i n' i off;simp at hr;subst hr;rw[hc]at hx;simp only[bV]at hx;obtain⟨b,k,hb,hv⟩:=hx;refine eA rfl (key b (i*k+off) hv) ?_;simp only[bV];exact⟨b,k,hb,by rw[kR]⟩})
theorem vb{E:Env}{t:TypeId}{cs:List A}{x:A}{b off:Nat}(hm:ma E b off cs)(hl:oF P t cs=some x): ∃v,(loadVar t ⟨b,off,none⟩).run P E.w= .ok v E.w/\bV E x v/\(x.val=true\/v.oneCell'=true):=by unfold oF at hl;split at hl;{rename_i rz;split at hl;{rename_i n hn;split at hl;{rename_i hle;simp at hl;subst hl;obtain⟨vs,hr,hL,h1⟩:=wJ (W1 (n:=n) hm);obtain⟨d,hu,hd⟩:=EK rz;(have hlen:vs.length=n:=by rw[<-(dd.1 hL).1];simp;omega);refine⟨.agg vs.toArray,run_loadVar_mid E.w b off t vs d hr hu hd (by unfold cQ at hn;rw[hn,hlen]), ?_,.inl rfl⟩;simp only[bV];exact⟨vs,rfl,hL,h1⟩};{simp at hl}};{simp at hl}};{rename_i rz;cases cs with|nil=>(simp at hl)|cons c cs=>(simp at hl;subst hl;simp only[ma]at hm;obtain⟨⟨v,hv,h1,gq⟩,_⟩:=hm;exact⟨v,by simp[loadVar,nn rz,hv],gq,.inr h1⟩)};{simp at hl}
theorem ch{es:List A}(h:A.pure.cX es=true){i:Nat}{e:A}(hi:es[i]? =some e):e.pure=true:=by induction es generalizing i with|nil=>(simp at hi)|cons z zs ih=>(simp only[A.pure.cX,ae]at h;cases i with|zero=>(simp at hi;subst hi;exact h.1)|succ i=>(exact ih h.2 (by simpa using hi)))
theorem ik{es:List A}(h: ∀(i:Nat) (e:A),es[i]? =some e->e.pure=true):A.pure.cX es=true:=by induction es with|nil=>(rfl)|cons z zs ih=>(simp only[A.pure.cX,ae];exact⟨h 0 z rfl,ih fun i e he=>h (i+1) e (by simpa using he)⟩)
theorem qI{es:List A}{n:Nat}(h:A.pure.cX es=true):A.pure.cX (es.drop n)=true:=ik fun i e he=>ch h (i:=n+i) (by simpa[eL]using he)
theorem qJ{es:List A}{n:Nat}(h:A.pure.cX es=true):A.pure.cX (es.take n)=true:=ik fun i e he=>ch h (i:=i) (by rw[dS]at he;split at he;{exact he};{simp at he})
theorem qK{e:A}(h:e.pure=true):A.pure.cX e.cells=true:=by cases e<;>simp_all[A.pure,A.cells,A.pure.cX]
theorem W9(h:cq N0 w0 nt σ φ a w){d:Option Tmp}{x:Operand}{s:Nat}{t:TypeId}{p:String}{af:Array Edge}{g:Option (Nat×Bool)}{r:A}(hr:xF P s σ.H (σ.ev x)=some r):Good P ⟨d,.load s x,t,p,af,g⟩ a w N0 φ r:=by have hx:=h.ev x;(cases hc:σ.ev x<;>simp only[hc,xF]at hr<;>try(simp at hr;done));{rw[hc]at hx;simp only[bV]at hx;obtain⟨hp,b,off,hv,hb,hnb,hm⟩:=hx;obtain⟨v,Bs,gq,_⟩:=vb hm hr;replace Bs:(loadVar s ⟨b,off,none⟩).run P w= .ok v w:=Bs;exact eA rfl (by rw[hv];simpa[Instr.loadAt,Instr.sureAddr]using Bs) gq};{rename_i n off;rw[hc]at hx;simp only[bV]at hx;obtain⟨b,k,hb,hv⟩:=hx;split at hr;{rename_i cs D4;have ho:=h.ia n _ _ D4 hb;simp only[cg]at ho;have hm:=nA (n:=off) ho.2;obtain⟨v,Bs,gq,_⟩:=vb hm hr;replace Bs:(loadVar s ⟨b,0+off,none⟩).run P w= .ok v w:=Bs;rw[bM]at Bs;exact eA rfl (by rw[hv];simpa[Instr.loadAt,Instr.sureAddr]using Bs) gq};{simp at hr}};{rename_i n i off;rw[hc]at hx;simp only[bV]at hx;obtain⟨b,k,hb,hv⟩:=hx;split at hr;{rename_i k' es D4;have ho:=h.ia n _ _ D4 hb;simp only[cg]at ho;obtain⟨rfl,hpu,hblk,he⟩:=ho;cases hi:es[i]? with|none=>(simp[hi]at hr)|some e=>(simp only[hi,aW]at hr;obtain⟨hl,hm⟩:=ij.1 he i e hi;have oB:=nA (n:=off) hm;obtain⟨v,Bs,gq,_⟩:=vb oB hr;replace Bs:(loadVar s ⟨b,0+i*k'+off,none⟩).run P w= .ok v w:=Bs;rw[bM]at Bs;exact eA rfl (by rw[hv];simpa[Instr.loadAt,Instr.sureAddr]using Bs) gq)};{simp at hr}}
theorem HW(h:cq N0 w0 nt σ φ a w){d:Option Tmp}{x:Operand}{t:TypeId}{p:String}{af:Array Edge}{g:Option (Nat×Bool)}{r:A}(hr:Bi (σ.ev x)=some r):Good P ⟨d,.nilCheck x,t,p,af,g⟩ a w N0 φ r:=by have hx:=h.ev x;(cases hc:σ.ev x<;>simp only[hc,Bi]at hr<;>try(simp at hr;done));(all_goals simp at hr;subst hr;rw[hc]at hx;refine⟨a.eval x,w, ?_,j_.refl w,hx⟩;simp only[bV]at hx);{obtain⟨hp,b,off,hv,hb,hnb,hm⟩:=hx;simp[Go.execOp,hv]};{obtain⟨b,k,hb,hv⟩:=hx;simp[Go.execOp,hv]};{obtain⟨b,k,hb,hv⟩:=hx;simp[Go.execOp,hv]};{obtain⟨vs,hv,_⟩:=hx;simp[Go.execOp,hv]}
theorem HX(h:cq N0 w0 nt σ φ a w){d:Option Tmp}{f:Fn}{xs ys:Array Operand}{t:TypeId}{p:String}{af:Array Edge}{g:Option (Nat×Bool)}{r:A}(hr:sm f (σ.rf xs.toList) (σ.rf ys.toList)=some r):Good P ⟨d,.makeFunc f xs ys,t,p,af,g⟩ a w N0 φ r:=by (cases f<;>simp only[sm]at hr<;>try(simp at hr;done));rename_i f;cases UH:σ.rf xs.toList with|cons _ _=>(simp[UH]at hr)|nil=>(simp only[UH]at hr;simp at hr;subst hr;(have hx0:xs= #[]:=by cases hl:xs.toList with|nil=>(exact Array.toList_eq_nil_iff.1 hl)|cons _ _=>(simp[hl,St.rf]at UH));subst hx0;refine⟨.func (.func f) #[] (ys.map a.eval),w, ?_,j_.refl w, ?_⟩;{simp[Go.execOp,Instr.makeFunc]};{simp only[bV];refine⟨(ys.map a.eval).toList,rfl, ?_⟩;simp only[Array.toList_map];generalize ys.toList=l;induction l with|nil=>(simp[St.rf,cJ])|cons y l ih=>(simp only[St.rf,aP,cJ];exact⟨_,_,rfl,h.ev y,ih⟩)})
theorem KD(h:cq N0 w0 nt σ φ a w){d:Option Tmp}{x:Operand}{i:Nat}{t:TypeId}{p:String}{af:Array Edge}{g:Option (Nat×Bool)}{r:A}(hr:u6 (σ.ev x) i=some r):Good P ⟨d,.extract x i,t,p,af,g⟩ a w N0 φ r:=by have hx:=h.ev x;(cases hc:σ.ev x<;>simp only[hc,u6]at hr<;>try(simp at hr;done));rename_i cs;rw[hc]at hx;simp only[bV]at hx;obtain⟨vs,hv,hl⟩:=hx;obtain⟨h1,h2⟩:=dd.1 hl;(have hi:i<vs.length:=by rw[<-h1];exact(an.1 hr).1);refine eA rfl (v:=vs[i]) (by rw[hv];simp[Instr.extract,hi]) (h2 i _ _ hr (ad hi))
theorem good_len(h:cq N0 w0 nt σ φ a w){d:Option Tmp}{x:Operand}{u:TypeId}{t:TypeId}{p:String}{af:Array Edge}{g:Option (Nat×Bool)}{r:A}(hr:Rv P u (σ.ev x)=some r):Good P ⟨d,.call ⟨.builtin .len,⟨[x]⟩,⟨[u]⟩⟩,t,p,af,g⟩ a w N0 φ r:=by have hx:=h.ev x;have ho: ∀cs,builtin .len #[u] t cs ([x].map a.eval).toArray=(do pure (Next.value (<-Builtin.len_ #[u] t #[a.eval x]))):=fun cs=>rfl;(have arr: ∀n e,jD P u=some (n,e)->r= .int .i64 n->Good P ⟨d,.call ⟨.builtin .len,⟨[x]⟩,⟨[u]⟩⟩,t,p,af,g⟩ a w N0 φ r:=by rintro n e hn rfl;refine kj ho (v:= .int .i64 n) ?_ (by simp only[bV]);simp[Builtin.len_,run_underlying (zp hn),goInt]);cases hc:σ.ev x<;>simp only[hc,Rv]at hr;(case str s=>split at hr;{rename_i hs;simp at hr;subst hr;rw[hc]at hx;refine kj ho (v:= .int .i64 s.length) ?_ (by simp only[bV]);rw[wK hx];simp[Builtin.len_,run_underlying (nY hs),goInt,tv]};{simp at hr});(case aC es=>split at hr;{rename_i hs;simp at hr;subst hr;rw[hc]at hx;simp only[bV]at hx;obtain⟨_,b,cap,hv,_⟩:=hx;obtain⟨e,he⟩:=dr.1 hs;refine kj ho (v:= .int .i64 es.length) ?_ (by simp only[bV]);rw[hv];simp[Builtin.len_,run_underlying (i_ he),goInt]};{simp at hr});(case clip es=>split at hr;{rename_i hs;simp at hr;subst hr;rw[hc]at hx;simp only[bV]at hx;obtain⟨_,b,hv,_⟩:=hx;obtain⟨e,he⟩:=dr.1 hs;refine kj ho (v:= .int .i64 es.length) ?_ (by simp only[bV]);rw[hv];simp[Builtin.len_,run_underlying (i_ he),goInt]};{simp at hr});(case eo=>split at hr;{rename_i hs;simp at hr;subst hr;rw[hc]at hx;simp only[bV]at hx;obtain⟨e,he⟩:=dr.1 hs;refine kj ho (v:= .int .i64 0) ?_ (by simp only[bV]);rw[hx];simp[Builtin.len_,run_underlying (i_ he),goInt]};{simp at hr});(case row n off k len c=>split at hr;{rename_i hs;simp at hr;subst hr;rw[hc]at hx;simp only[bV]at hx;obtain⟨e,he⟩:=dr.1 hs;refine kj ho (v:= .int .i64 len) ?_ (by simp only[bV]);rcases hx with⟨_,_,_,rfl,_,b,hv⟩|⟨b,cap,c,e',fr,_,hv,_⟩;all_goals rw[hv];simp[Builtin.len_,run_underlying (i_ he),goInt]};{simp at hr});all_goals split at hr;{rename_i n e hn;simp at hr;exact arr n e hn hr.symm};{simp at hr}
theorem evalL2(h:cq N0 w0 nt σ φ a w){xs:List Operand}{k k':IntKind}{m n:Int}(he:σ.rf xs=[.int k m,.int k' n]):xs.map a.eval=[.int k m,.int k' n]:=by match xs,he with| [x,y],he=>simp only[St.rf,dt,and_true]at he;have h1:=h.ev x;have h2:=h.ev y;rw[he.1]at h1;rw[he.2]at h2;simp[np h1,np h2]| [],he=>simp[St.rf]at he| [_],he=>simp[St.rf]at he|_::_::_::_,he=>simp[St.rf]at he
theorem good_min(h:cq N0 w0 nt σ φ a w){d:Option Tmp}{xs:List Operand}{us:Array TypeId}{t:TypeId}{p:String}{af:Array Edge}{g:Option (Nat×Bool)}{r:A}(hr:minA (σ.rf xs)=some r):Good P ⟨d,.call ⟨.builtin .min,⟨xs⟩,us⟩,t,p,af,g⟩ a w N0 φ r:=by unfold minA at hr;split at hr;{rename_i k m k' n he;simp at hr;subst hr;have hm:=evalL2 h he;refine kj (s:=Builtin.min_ us t (xs.map a.eval).toArray) (fun _=>rfl) (v:= .int k (if n<m then n else m)) ?_ (by simp only[bV]);simp[Builtin.min_,hm,Builtin.min2]};{simp at hr}
theorem good_max(h:cq N0 w0 nt σ φ a w){d:Option Tmp}{xs:List Operand}{us:Array TypeId}{t:TypeId}{p:String}{af:Array Edge}{g:Option (Nat×Bool)}{r:A}(hr:maxA (σ.rf xs)=some r):Good P ⟨d,.call ⟨.builtin .max,⟨xs⟩,us⟩,t,p,af,g⟩ a w N0 φ r:=by unfold maxA at hr;split at hr;{rename_i k m k' n he;simp at hr;subst hr;have hm:=evalL2 h he;refine kj (s:=Builtin.max_ us t (xs.map a.eval).toArray) (fun _=>rfl) (v:= .int k (if n>m then n else m)) ?_ (by simp only[bV]);simp[Builtin.max_,hm,Builtin.max2]};{simp at hr}
end
end Go.eC
