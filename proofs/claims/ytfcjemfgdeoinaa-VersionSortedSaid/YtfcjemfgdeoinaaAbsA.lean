/- The abstract domain 'A' (pure data, and references into objects that a call owns), and the relation 'Rep' between it and the model's values in a world. No program in sight. -/
import Derived.Orders
import Derived.WalkKit
namespace Go.Abs

/-- What is known of a value: data by value ('slc': a slice that is only read), references to owned objects ('ref', 'row'), or nothing ('any'). -/
inductive A where
  | any
  | int (k : IntKind) (n : Int)
  | bool (b : Bool)
  | str (s : List UInt8)
  | agg (cs : List A)
  | slc (es : List A)
  | clip (es : List A)
  | dptr (cs : List A)
  | nils
  | nilp
  | ref (n off : Nat)
  | eref (n i off : Nat)
  | row (n off k len : Nat) (c : Bool)
  | fn (f : FuncId) (caps : List A)
  | tup (cs : List A)

instance : Inhabited A := ⟨.any⟩

/-- Where an owned object lies: nowhere yet ('free': no reference to it), a nil row, or a block (k: how many cells an element has). -/
inductive Own where
  | free
  | nil
  | loc (b k : Nat)

/-- An element, or a value, as memory cells. -/
def A.cells : A → List A
  | .agg cs => cs
  | x => [x]

/-- How many cells an element of a slice has, by its first element. -/
def strideOf : List A → Nat
  | [] => 0
  | e :: _ => e.cells.length

/-- Does a reference to object 'n' occur? -/
def A.mem (n : Nat) : A → Bool
  | .ref m _ => m == n
  | .eref m _ _ => m == n
  | .row m _ _ _ _ => m == n
  | .agg cs => memL n cs
  | .fn _ cs => memL n cs
  | .tup cs => memL n cs
  | _ => false
where memL (n : Nat) : List A → Bool
  | [] => false
  | c :: cs => c.mem n || memL n cs

/-- No reference at all (what lies behind 'slc', 'clip', 'dptr' never has one: 'Rep' asks it). -/
def A.pure : A → Bool
  | .ref _ _ => false
  | .eref _ _ _ => false
  | .row _ _ _ _ _ => false
  | .agg cs => pureL cs
  | .fn _ cs => pureL cs
  | .tup cs => pureL cs
  | _ => true
where pureL : List A → Bool
  | [] => true
  | c :: cs => c.pure && pureL cs


mutual
theorem A.mem_of_pure (n : Nat) : ∀ x : A, x.pure = true → x.mem n = false
  | .any, _ => rfl
  | .int _ _, _ => rfl
  | .bool _, _ => rfl
  | .str _, _ => rfl
  | .slc _, _ => rfl
  | .clip _, _ => rfl
  | .dptr _, _ => rfl
  | .nils, _ => rfl
  | .nilp, _ => rfl
  | .ref _ _, h => by simp [A.pure] at h
  | .eref _ _ _, h => by simp [A.pure] at h
  | .row _ _ _ _ _, h => by simp [A.pure] at h
  | .agg cs, h => by simp only [A.mem]; exact A.memL_of_pure n cs (by simpa only [A.pure] using h)
  | .fn _ cs, h => by simp only [A.mem]; exact A.memL_of_pure n cs (by simpa only [A.pure] using h)
  | .tup cs, h => by simp only [A.mem]; exact A.memL_of_pure n cs (by simpa only [A.pure] using h)
theorem A.memL_of_pure (n : Nat) : ∀ cs : List A, A.pure.pureL cs = true → A.mem.memL n cs = false
  | [], _ => rfl
  | c :: cs, h => by
    simp only [A.pure.pureL, Bool.and_eq_true] at h
    simp only [A.mem.memL, A.mem_of_pure n c h.1, A.memL_of_pure n cs h.2, Bool.or_self]
end

structure Env where
  N : Nat → Prop
  φ : List Own
  w : World

mutual
def Rep (E : Env) : A → Value → Prop
  | .any, _ => True
  | .int k n, v => v = .int k n
  | .bool b, v => v = .bool b
  | .str s, v => v = .string ⟨s.toArray⟩
  | .agg cs, v => ∃ vs : List Value, v = .agg vs.toArray ∧ RepL E cs vs ∧ ∀ u ∈ vs, u.oneCell' = true
  | .slc es, v => A.pure.pureL es = true ∧ ∃ a cap, v = .slice a es.length cap ∧ es.length ≤ cap ∧
      (es ≠ [] → ∃ b off, a = some ⟨b, off, none⟩ ∧ b < E.w.heap.size ∧ ¬ E.N b ∧ RepE E (strideOf es) b off es)
  | .clip es, v => A.pure.pureL es = true ∧ ∃ a, v = .slice a es.length es.length ∧
      (es ≠ [] → ∃ b off, a = some ⟨b, off, none⟩ ∧ b < E.w.heap.size ∧ ¬ E.N b ∧ RepE E (strideOf es) b off es)
  | .dptr cs, v => A.pure.pureL cs = true ∧ ∃ b off, v = .pointer (some ⟨b, off, none⟩) ∧ b < E.w.heap.size ∧ ¬ E.N b ∧ RepM E b off cs
  | .nils, v => v = .slice none 0 0
  | .nilp, v => v = .pointer none
  | .ref n off, v => ∃ b k, E.φ[n]? = some (.loc b k) ∧ v = .pointer (some ⟨b, off, none⟩)
  | .eref n i off, v => ∃ b k, E.φ[n]? = some (.loc b k) ∧ v = .pointer (some ⟨b, i * k + off, none⟩)
  | .row n off k len cl, v =>
      (∃ o, E.φ[n]? = some o ∧ o ≠ .free ∧ len = 0 ∧ (o = .nil → off = 0) ∧ ∃ a, v = .slice a 0 0) ∨
      (∃ b cap c e fr, E.φ[n]? = some (.loc b k) ∧ v = .slice (some ⟨b, off * k, none⟩) len cap ∧ len ≤ cap ∧ (cl = true → cap = len) ∧
        E.w.heap[b]? = some (.cells c e fr) ∧ off * k + k * cap ≤ c.size)
  | .fn f caps, v => ∃ vs : List Value, v = .func (.func f) #[] vs.toArray ∧ RepL E caps vs
  | .tup cs, v => ∃ vs : List Value, v = .tuple vs.toArray ∧ RepL E cs vs
def RepL (E : Env) : List A → List Value → Prop
  | [], vs => vs = []
  | c :: cs, vs => ∃ v vs', vs = v :: vs' ∧ Rep E c v ∧ RepL E cs vs'
def RepM (E : Env) (b : Nat) (off : Nat) : List A → Prop
  | [] => True
  | c :: cs => (∃ v, E.w.cell? ⟨b, off, none⟩ = some v ∧ v.oneCell' = true ∧ Rep E c v) ∧ RepM E b (off + 1) cs
def RepE (E : Env) (k : Nat) (b : Nat) (off : Nat) : List A → Prop
  | [] => True
  | .agg cs :: es => (cs.length = k ∧ RepM E b off cs) ∧ RepE E k b (off + k) es
  | e :: es => (k = 1 ∧ ∃ v, E.w.cell? ⟨b, off, none⟩ = some v ∧ v.oneCell' = true ∧ Rep E e v) ∧ RepE E k b (off + k) es
end

theorem RepE_agg {E : Env} {k b off : Nat} {cs es : List A} : RepE E k b off (.agg cs :: es) = ((cs.length = k ∧ RepM E b off cs) ∧ RepE E k b (off + k) es) := by
  simp [RepE]

/-- From one environment to a later one: what is not owned stands as it stood; of the owned names that 'K' allows, the places are the same. -/
structure Ext (K : Nat → Prop) (E E' : Env) : Prop where
  size : E.w.heap.size ≤ E'.w.heap.size
  blk : ∀ b, b < E.w.heap.size → ¬ E.N b → ¬ E'.N b ∧ E'.w.heap[b]? = E.w.heap[b]?
  refs : ∀ n o, K n → E.φ[n]? = some o → o ≠ .free → E'.φ[n]? = some o
  own : ∀ n b k c e fr, K n → E.φ[n]? = some (.loc b k) → E.w.heap[b]? = some (.cells c e fr) → ∃ c' fr', E'.w.heap[b]? = some (.cells c' e fr') ∧ c'.size = c.size

theorem Ext.cell {K : Nat → Prop} {E E' : Env} (h : Ext K E E') {b off : Nat} (hb : b < E.w.heap.size) (hn : ¬ E.N b) :
    E'.w.cell? ⟨b, off, none⟩ = E.w.cell? ⟨b, off, none⟩ := by
  simp only [World.cell?, (h.blk b hb hn).2]

mutual
theorem Rep.mono {K : Nat → Prop} {E E' : Env} (h : Ext K E E') : ∀ (x : A) (v : Value), Rep E x v → (∀ n, x.mem n = true → K n) → Rep E' x v
  | .any, _, _, _ => by simp only [Rep]
  | .int _ _, v, hr, _ => by simpa only [Rep] using hr
  | .bool _, v, hr, _ => by simpa only [Rep] using hr
  | .str _, v, hr, _ => by simpa only [Rep] using hr
  | .nils, v, hr, _ => by simpa only [Rep] using hr
  | .nilp, v, hr, _ => by simpa only [Rep] using hr
  | .agg cs, v, hr, hk => by
    simp only [Rep] at hr ⊢
    obtain ⟨vs, hv, hl, h1⟩ := hr
    exact ⟨vs, hv, RepL.mono h cs vs hl (fun n hn => hk n (by simpa only [A.mem] using hn)), h1⟩
  | .fn f cs, v, hr, hk => by
    simp only [Rep] at hr ⊢
    obtain ⟨vs, hv, hl⟩ := hr
    exact ⟨vs, hv, RepL.mono h cs vs hl (fun n hn => hk n (by simpa only [A.mem] using hn))⟩
  | .tup cs, v, hr, hk => by
    simp only [Rep] at hr ⊢
    obtain ⟨vs, hv, hl⟩ := hr
    exact ⟨vs, hv, RepL.mono h cs vs hl (fun n hn => hk n (by simpa only [A.mem] using hn))⟩
  | .slc es, v, hr, _ => by
    simp only [Rep] at hr ⊢
    obtain ⟨hp, a, cap, hv, hc, hl⟩ := hr
    refine ⟨hp, a, cap, hv, hc, fun hne => ?_⟩
    obtain ⟨b, off, ha, hb, hn, he⟩ := hl hne
    exact ⟨b, off, ha, Nat.lt_of_lt_of_le hb h.size, (h.blk b hb hn).1, RepE.mono h (strideOf es) b off es hb hn he (fun n hn => by rw [A.memL_of_pure n es hp] at hn; cases hn)⟩
  | .clip es, v, hr, _ => by
    simp only [Rep] at hr ⊢
    obtain ⟨hp, a, hv, hl⟩ := hr
    refine ⟨hp, a, hv, fun hne => ?_⟩
    obtain ⟨b, off, ha, hb, hn, he⟩ := hl hne
    exact ⟨b, off, ha, Nat.lt_of_lt_of_le hb h.size, (h.blk b hb hn).1, RepE.mono h (strideOf es) b off es hb hn he (fun n hn => by rw [A.memL_of_pure n es hp] at hn; cases hn)⟩
  | .dptr cs, v, hr, _ => by
    simp only [Rep] at hr ⊢
    obtain ⟨hp, b, off, hv, hb, hn, he⟩ := hr
    exact ⟨hp, b, off, hv, Nat.lt_of_lt_of_le hb h.size, (h.blk b hb hn).1, RepM.mono h b off cs hb hn he (fun n hn => by rw [A.memL_of_pure n cs hp] at hn; cases hn)⟩
  | .ref n off, v, hr, hk => by
    simp only [Rep] at hr ⊢
    obtain ⟨b, k, hb, hv⟩ := hr
    exact ⟨b, k, h.refs n _ (hk n (by simp [A.mem])) hb (by simp), hv⟩
  | .eref n i off, v, hr, hk => by
    simp only [Rep] at hr ⊢
    obtain ⟨b, k, hb, hv⟩ := hr
    exact ⟨b, k, h.refs n _ (hk n (by simp [A.mem])) hb (by simp), hv⟩
  | .row n off k len cl, v, hr, hk => by
    simp only [Rep] at hr ⊢
    rcases hr with ⟨o, hb, hf, r⟩ | ⟨b, cap, c, e, fr, hb, hv, hlc, hcl, hc, hs⟩
    · exact .inl ⟨o, h.refs n _ (hk n (by simp [A.mem])) hb hf, hf, r⟩
    · obtain ⟨c', fr', hc', hs'⟩ := h.own n b k c e fr (hk n (by simp [A.mem])) hb hc
      exact .inr ⟨b, cap, c', e, fr', h.refs n _ (hk n (by simp [A.mem])) hb (by simp), hv, hlc, hcl, hc', by omega⟩
theorem RepL.mono {K : Nat → Prop} {E E' : Env} (h : Ext K E E') : ∀ (cs : List A) (vs : List Value), RepL E cs vs → (∀ n, A.mem.memL n cs = true → K n) → RepL E' cs vs
  | [], _, hr, _ => by simpa only [RepL] using hr
  | c :: cs, vs, hr, hk => by
    simp only [RepL] at hr ⊢
    obtain ⟨v, vs', hv, hc, hl⟩ := hr
    exact ⟨v, vs', hv, Rep.mono h c v hc (fun n hn => hk n (by simp [A.mem.memL, hn])), RepL.mono h cs vs' hl (fun n hn => hk n (by simp [A.mem.memL, hn]))⟩
theorem RepM.mono {K : Nat → Prop} {E E' : Env} (h : Ext K E E') : ∀ (b off : Nat) (cs : List A), b < E.w.heap.size → ¬ E.N b → RepM E b off cs → (∀ n, A.mem.memL n cs = true → K n) → RepM E' b off cs
  | _, _, [], _, _, _, _ => by simp only [RepM]
  | b, off, c :: cs, hb, hn, hr, hk => by
    simp only [RepM] at hr ⊢
    obtain ⟨⟨v, hv, h1, hc⟩, hl⟩ := hr
    exact ⟨⟨v, by rw [h.cell hb hn]; exact hv, h1, Rep.mono h c v hc (fun n hn => hk n (by simp [A.mem.memL, hn]))⟩, RepM.mono h b (off + 1) cs hb hn hl (fun n hn => hk n (by simp [A.mem.memL, hn]))⟩
theorem RepE.mono {K : Nat → Prop} {E E' : Env} (h : Ext K E E') : ∀ (k b off : Nat) (es : List A), b < E.w.heap.size → ¬ E.N b → RepE E k b off es → (∀ n, A.mem.memL n es = true → K n) → RepE E' k b off es
  | _, _, _, [], _, _, _, _ => by simp only [RepE]
  | k, b, off, e :: es, hb, hn, hr, hk => by
    cases e
    case agg cs =>
      rw [RepE_agg] at hr ⊢
      obtain ⟨⟨hlen, hm⟩, hl⟩ := hr
      exact ⟨⟨hlen, RepM.mono h b off cs hb hn hm (fun n hn => hk n (by simp [A.mem.memL, A.mem, hn]))⟩, RepE.mono h k b (off + k) es hb hn hl (fun n hn => hk n (by simp [A.mem.memL, hn]))⟩
    all_goals
      simp only [RepE] at hr ⊢
      obtain ⟨⟨hk1, v, hv, h1, hc⟩, hl⟩ := hr
      exact ⟨⟨hk1, v, by rw [h.cell hb hn]; exact hv, h1, Rep.mono h _ v hc (fun n hn => hk n (by simp [A.mem.memL, hn]))⟩, RepE.mono h k b (off + k) es hb hn hl (fun n hn => hk n (by simp [A.mem.memL, hn]))⟩
end

end Go.Abs
