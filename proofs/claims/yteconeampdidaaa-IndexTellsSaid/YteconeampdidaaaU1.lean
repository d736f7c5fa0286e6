/- What the laws of this claim rest on: the abstract executor, its soundness, and what the functions compute on pure data. No condition. -/
import Derived.Orders
import Derived.WalkKit
import Derived.Deep.MidRow
import Derived.Deep.AppendSrc
import Derived.Laws.StructEq
set_option linter.unusedVariables false
set_option linter.unusedSimpArgs false
namespace Go.Abs
def DR : Prop := True
inductive A where
  | any
  | int (k : IntKind) (n : Int)
  | bool (b : Bool)
  | str (s : List UInt8)
  | agg (cs : List A)
  | slc (es : List A)
  | clip (es : List A)
  | dptr (cs : List A)
  | nils
  | nilp
  | ref (n off : Nat)
  | eref (n i off : Nat)
  | row (n off k len : Nat) (c : Bool)
  | fn (f : FuncId) (caps : List A)
  | tup (cs : List A)
  | emp (c : Bool)
instance : Inhabited A := ⟨.any⟩
inductive Own where
  | free
  | nil
  | loc (b k : Nat)
def A.cells : A → List A
  | .agg cs => cs
  | x => [x]
def strideOf : List A → Nat
  | [] => 0
  | e :: _ => e.cells.length
def A.mem (n : Nat) : A → Bool
  | .ref m _ => m == n
  | .eref m _ _ => m == n
  | .row m _ _ _ _ => m == n
  | .agg cs => memL n cs
  | .fn _ cs => memL n cs
  | .tup cs => memL n cs
  | _ => false
where memL (n : Nat) : List A → Bool
  | [] => false
  | c :: cs => c.mem n || memL n cs
def A.pure : A → Bool
  | .ref _ _ => false
  | .eref _ _ _ => false
  | .row _ _ _ _ _ => false
  | .agg cs => pureL cs
  | .fn _ cs => pureL cs
  | .tup cs => pureL cs
  | _ => true
where pureL : List A → Bool
  | [] => true
  | c :: cs => c.pure && pureL cs
mutual
theorem A.mem_of_pure (n : Nat) : ∀ x : A, x.pure = true → x.mem n = false
  | .any, _ => rfl
  | .int _ _, _ => rfl
  | .bool _, _ => rfl
  | .str _, _ => rfl
  | .slc _, _ => rfl
  | .clip _, _ => rfl
  | .dptr _, _ => rfl
  | .nils, _ => rfl
  | .nilp, _ => rfl
  | .emp _, _ => rfl
  | .ref _ _, h => by simp [A.pure] at h
  | .eref _ _ _, h => by simp [A.pure] at h
  | .row _ _ _ _ _, h => by simp [A.pure] at h
  | .agg cs, h => by simp only [A.mem]; exact A.memL_of_pure n cs (by simpa only [A.pure] using h)
  | .fn _ cs, h => by simp only [A.mem]; exact A.memL_of_pure n cs (by simpa only [A.pure] using h)
  | .tup cs, h => by simp only [A.mem]; exact A.memL_of_pure n cs (by simpa only [A.pure] using h)
theorem A.memL_of_pure (n : Nat) : ∀ cs : List A, A.pure.pureL cs = true → A.mem.memL n cs = false
  | [], _ => rfl
  | c :: cs, h => by
    simp only [A.pure.pureL, Bool.and_eq_true] at h
    simp only [A.mem.memL, A.mem_of_pure n c h.1, A.memL_of_pure n cs h.2, Bool.or_self]
end
structure Env where
  N : Nat → Prop
  φ : List Own
  w : World
mutual
def Rep (E : Env) : A → Value → Prop
  | .any, _ => True
  | .int k n, v => v = .int k n
  | .bool b, v => v = .bool b
  | .str s, v => v = .string ⟨s.toArray⟩
  | .agg cs, v => ∃ vs : List Value, v = .agg vs.toArray ∧ RepL E cs vs ∧ ∀ u ∈ vs, u.oneCell' = true
  | .slc es, v => A.pure.pureL es = true ∧ ∃ a cap, v = .slice a es.length cap ∧ es.length ≤ cap ∧
      (es ≠ [] → ∃ b off, a = some ⟨b, off, none⟩ ∧ b < E.w.heap.size ∧ ¬ E.N b ∧ RepE E (strideOf es) b off es)
  | .clip es, v => A.pure.pureL es = true ∧ ∃ a, v = .slice a es.length es.length ∧
      (es ≠ [] → ∃ b off, a = some ⟨b, off, none⟩ ∧ b < E.w.heap.size ∧ ¬ E.N b ∧ RepE E (strideOf es) b off es)
  | .dptr cs, v => A.pure.pureL cs = true ∧ ∃ b off, v = .pointer (some ⟨b, off, none⟩) ∧ b < E.w.heap.size ∧ ¬ E.N b ∧ RepM E b off cs
  | .nils, v => v = .slice none 0 0
  | .nilp, v => v = .pointer none
  | .emp c, v => ∃ a cap, v = .slice a 0 cap ∧ a.isNone = c
  | .ref n off, v => ∃ b k, E.φ[n]? = some (.loc b k) ∧ v = .pointer (some ⟨b, off, none⟩)
  | .eref n i off, v => ∃ b k, E.φ[n]? = some (.loc b k) ∧ v = .pointer (some ⟨b, i * k + off, none⟩)
  | .row n off k len cl, v =>
      (∃ o, E.φ[n]? = some o ∧ o ≠ .free ∧ len = 0 ∧ (o = .nil → off = 0) ∧ ∃ a, v = .slice a 0 0) ∨
      (∃ b cap c e fr, E.φ[n]? = some (.loc b k) ∧ v = .slice (some ⟨b, off * k, none⟩) len cap ∧ len ≤ cap ∧ (cl = true → cap = len) ∧
        E.w.heap[b]? = some (.cells c e fr) ∧ off * k + k * cap ≤ c.size)
  | .fn f caps, v => ∃ vs : List Value, v = .func (.func f) #[] vs.toArray ∧ RepL E caps vs
  | .tup cs, v => ∃ vs : List Value, v = .tuple vs.toArray ∧ RepL E cs vs
def RepL (E : Env) : List A → List Value → Prop
  | [], vs => vs = []
  | c :: cs, vs => ∃ v vs', vs = v :: vs' ∧ Rep E c v ∧ RepL E cs vs'
def RepM (E : Env) (b : Nat) (off : Nat) : List A → Prop
  | [] => True
  | c :: cs => (∃ v, E.w.cell? ⟨b, off, none⟩ = some v ∧ v.oneCell' = true ∧ Rep E c v) ∧ RepM E b (off + 1) cs
def RepE (E : Env) (k : Nat) (b : Nat) (off : Nat) : List A → Prop
  | [] => True
  | .agg cs :: es => (cs.length = k ∧ RepM E b off cs) ∧ RepE E k b (off + k) es
  | e :: es => (k = 1 ∧ ∃ v, E.w.cell? ⟨b, off, none⟩ = some v ∧ v.oneCell' = true ∧ Rep E e v) ∧ RepE E k b (off + k) es
end
theorem RepE_agg {E : Env} {k b off : Nat} {cs es : List A} : RepE E k b off (.agg cs :: es) = ((cs.length = k ∧ RepM E b off cs) ∧ RepE E k b (off + k) es) := by
  simp [RepE]
structure Ext (K : Nat → Prop) (E E' : Env) : Prop where
  size : E.w.heap.size ≤ E'.w.heap.size
  blk : ∀ b, b < E.w.heap.size → ¬ E.N b → ¬ E'.N b ∧ E'.w.heap[b]? = E.w.heap[b]?
  refs : ∀ n o, K n → E.φ[n]? = some o → o ≠ .free → E'.φ[n]? = some o
  own : ∀ n b k c e fr, K n → E.φ[n]? = some (.loc b k) → E.w.heap[b]? = some (.cells c e fr) → ∃ c' fr', E'.w.heap[b]? = some (.cells c' e fr') ∧ c'.size = c.size
theorem Ext.cell {K : Nat → Prop} {E E' : Env} (h : Ext K E E') {b off : Nat} (hb : b < E.w.heap.size) (hn : ¬ E.N b) :
    E'.w.cell? ⟨b, off, none⟩ = E.w.cell? ⟨b, off, none⟩ := by
  simp only [World.cell?, (h.blk b hb hn).2]
mutual
theorem Rep.mono {K : Nat → Prop} {E E' : Env} (h : Ext K E E') : ∀ (x : A) (v : Value), Rep E x v → (∀ n, x.mem n = true → K n) → Rep E' x v
  | .any, _, _, _ => by simp only [Rep]
  | .int _ _, v, hr, _ => by simpa only [Rep] using hr
  | .bool _, v, hr, _ => by simpa only [Rep] using hr
  | .str _, v, hr, _ => by simpa only [Rep] using hr
  | .nils, v, hr, _ => by simpa only [Rep] using hr
  | .nilp, v, hr, _ => by simpa only [Rep] using hr
  | .emp _, v, hr, _ => by simpa only [Rep] using hr
  | .agg cs, v, hr, hk => by
    simp only [Rep] at hr ⊢
    obtain ⟨vs, hv, hl, h1⟩ := hr
    exact ⟨vs, hv, RepL.mono h cs vs hl (fun n hn => hk n (by simpa only [A.mem] using hn)), h1⟩
  | .fn f cs, v, hr, hk => by
    simp only [Rep] at hr ⊢
    obtain ⟨vs, hv, hl⟩ := hr
    exact ⟨vs, hv, RepL.mono h cs vs hl (fun n hn => hk n (by simpa only [A.mem] using hn))⟩
  | .tup cs, v, hr, hk => by
    simp only [Rep] at hr ⊢
    obtain ⟨vs, hv, hl⟩ := hr
    exact ⟨vs, hv, RepL.mono h cs vs hl (fun n hn => hk n (by simpa only [A.mem] using hn))⟩
  | .slc es, v, hr, _ => by
    simp only [Rep] at hr ⊢
    obtain ⟨hp, a, cap, hv, hc, hl⟩ := hr
    refine ⟨hp, a, cap, hv, hc, fun hne => ?_⟩
    obtain ⟨b, off, ha, hb, hn, he⟩ := hl hne
    exact ⟨b, off, ha, Nat.lt_of_lt_of_le hb h.size, (h.blk b hb hn).1, RepE.mono h (strideOf es) b off es hb hn he (fun n hn => by rw [A.memL_of_pure n es hp] at hn; cases hn)⟩
  | .clip es, v, hr, _ => by
    simp only [Rep] at hr ⊢
    obtain ⟨hp, a, hv, hl⟩ := hr
    refine ⟨hp, a, hv, fun hne => ?_⟩
    obtain ⟨b, off, ha, hb, hn, he⟩ := hl hne
    exact ⟨b, off, ha, Nat.lt_of_lt_of_le hb h.size, (h.blk b hb hn).1, RepE.mono h (strideOf es) b off es hb hn he (fun n hn => by rw [A.memL_of_pure n es hp] at hn; cases hn)⟩
  | .dptr cs, v, hr, _ => by
    simp only [Rep] at hr ⊢
    obtain ⟨hp, b, off, hv, hb, hn, he⟩ := hr
    exact ⟨hp, b, off, hv, Nat.lt_of_lt_of_le hb h.size, (h.blk b hb hn).1, RepM.mono h b off cs hb hn he (fun n hn => by rw [A.memL_of_pure n cs hp] at hn; cases hn)⟩
  | .ref n off, v, hr, hk => by
    simp only [Rep] at hr ⊢
    obtain ⟨b, k, hb, hv⟩ := hr
    exact ⟨b, k, h.refs n _ (hk n (by simp [A.mem])) hb (by simp), hv⟩
  | .eref n i off, v, hr, hk => by
    simp only [Rep] at hr ⊢
    obtain ⟨b, k, hb, hv⟩ := hr
    exact ⟨b, k, h.refs n _ (hk n (by simp [A.mem])) hb (by simp), hv⟩
  | .row n off k len cl, v, hr, hk => by
    simp only [Rep] at hr ⊢
    rcases hr with ⟨o, hb, hf, r⟩ | ⟨b, cap, c, e, fr, hb, hv, hlc, hcl, hc, hs⟩
    · exact .inl ⟨o, h.refs n _ (hk n (by simp [A.mem])) hb hf, hf, r⟩
    · obtain ⟨c', fr', hc', hs'⟩ := h.own n b k c e fr (hk n (by simp [A.mem])) hb hc
      exact .inr ⟨b, cap, c', e, fr', h.refs n _ (hk n (by simp [A.mem])) hb (by simp), hv, hlc, hcl, hc', by omega⟩
theorem RepL.mono {K : Nat → Prop} {E E' : Env} (h : Ext K E E') : ∀ (cs : List A) (vs : List Value), RepL E cs vs → (∀ n, A.mem.memL n cs = true → K n) → RepL E' cs vs
  | [], _, hr, _ => by simpa only [RepL] using hr
  | c :: cs, vs, hr, hk => by
    simp only [RepL] at hr ⊢
    obtain ⟨v, vs', hv, hc, hl⟩ := hr
    exact ⟨v, vs', hv, Rep.mono h c v hc (fun n hn => hk n (by simp [A.mem.memL, hn])), RepL.mono h cs vs' hl (fun n hn => hk n (by simp [A.mem.memL, hn]))⟩
theorem RepM.mono {K : Nat → Prop} {E E' : Env} (h : Ext K E E') : ∀ (b off : Nat) (cs : List A), b < E.w.heap.size → ¬ E.N b → RepM E b off cs → (∀ n, A.mem.memL n cs = true → K n) → RepM E' b off cs
  | _, _, [], _, _, _, _ => by simp only [RepM]
  | b, off, c :: cs, hb, hn, hr, hk => by
    simp only [RepM] at hr ⊢
    obtain ⟨⟨v, hv, h1, hc⟩, hl⟩ := hr
    exact ⟨⟨v, by rw [h.cell hb hn]; exact hv, h1, Rep.mono h c v hc (fun n hn => hk n (by simp [A.mem.memL, hn]))⟩, RepM.mono h b (off + 1) cs hb hn hl (fun n hn => hk n (by simp [A.mem.memL, hn]))⟩
theorem RepE.mono {K : Nat → Prop} {E E' : Env} (h : Ext K E E') : ∀ (k b off : Nat) (es : List A), b < E.w.heap.size → ¬ E.N b → RepE E k b off es → (∀ n, A.mem.memL n es = true → K n) → RepE E' k b off es
  | _, _, _, [], _, _, _, _ => by simp only [RepE]
  | k, b, off, e :: es, hb, hn, hr, hk => by
    cases e
    case agg cs =>
      rw [RepE_agg] at hr ⊢
      obtain ⟨⟨hlen, hm⟩, hl⟩ := hr
      exact ⟨⟨hlen, RepM.mono h b off cs hb hn hm (fun n hn => hk n (by simp [A.mem.memL, A.mem, hn]))⟩, RepE.mono h k b (off + k) es hb hn hl (fun n hn => hk n (by simp [A.mem.memL, hn]))⟩
    all_goals
      simp only [RepE] at hr ⊢
      obtain ⟨⟨hk1, v, hv, h1, hc⟩, hl⟩ := hr
      exact ⟨⟨hk1, v, by rw [h.cell hb hn]; exact hv, h1, Rep.mono h _ v hc (fun n hn => hk n (by simp [A.mem.memL, hn]))⟩, RepE.mono h k b (off + k) es hb hn hl (fun n hn => hk n (by simp [A.mem.memL, hn]))⟩
end
inductive Obj where
  | box (cs : List A)
  | row (k : Nat) (es : List A)
instance : Inhabited Obj := ⟨.row 0 []⟩
structure St where
  s : List (Nat × A)
  H : List Obj
def toA1 : Value → A
  | .int k n => .int k n
  | .bool b => .bool b
  | .string s => .str s.data.toList
  | .slice none 0 0 => .nils
  | .pointer none => .nilp
  | .func (.func f) ⟨[]⟩ ⟨[]⟩ => .fn f []
  | .tuple ⟨[]⟩ => .tup []
  | _ => .any
def toA : Value → A
  | .agg ⟨cs⟩ => if cs.all (·.oneCell') then .agg (cs.map toA1) else .any
  | v => toA1 v
def look : List (Nat × A) → Nat → A
  | [], _ => .any
  | (d, v) :: r, t => if d = t then v else look r t
def setNth : List A → Nat → A → List A
  | [], _, _ => []
  | _ :: xs, 0, v => v :: xs
  | x :: xs, n + 1, v => x :: setNth xs n v
def nthO : List Obj → Nat → Option Obj
  | [], _ => none
  | x :: _, 0 => some x
  | _ :: xs, n + 1 => nthO xs n
def setO : List Obj → Nat → Obj → List Obj
  | [], _, _ => []
  | _ :: xs, 0, v => v :: xs
  | x :: xs, n + 1, v => x :: setO xs n v
def St.ev (σ : St) : Operand → A
  | .tmp t => look σ.s t
  | .const v => toA v
  | .func f => .fn f []
  | .global _ => .any
def St.put (σ : St) (d : Option Tmp) (v : A) : St :=
  match d with
  | some d => { σ with s := (d, v) :: σ.s }
  | none => σ
def St.setH (σ : St) (n : Nat) (o : Obj) : St := { σ with H := setO σ.H n o }
def tyAgg (P : Program) (t : TypeId) : Option Bool :=
  match P.underlying t with
  | some (.struct _) => some true
  | some (.array _ _) => some true
  | some _ => some false
  | none => none
def tySize (P : Program) (t : TypeId) : Option Nat := (P.info? t).map (·.size)
def tyBytes (P : Program) (t : TypeId) : Nat := P.bytesOf t
def tyElem (P : Program) (t : TypeId) : Option TypeId :=
  match P.underlying t with
  | some (.slice e) => some e
  | _ => none
def tyArr (P : Program) (t : TypeId) : Option (Nat × TypeId) :=
  match P.underlying t with
  | some (.array n e) => some (n, e)
  | _ => none
def fieldInfo (P : Program) (s : TypeId) (f : Nat) : Option (Nat × TypeId) :=
  match P.underlying s with
  | some (.struct fs) => (fs[f]?).bind fun x => if tySize P x.type = some 0 then none else if (tySize P x.type).isNone then none else some (x.offset, x.type)
  | _ => none
def zeroA (P : Program) (t : TypeId) : Option A := (P.info? t).bind fun i => i.zero.map toA
def tyStr (P : Program) (t : TypeId) : Bool :=
  match P.underlying t with
  | some .string => true
  | _ => false
def tyBool (P : Program) (t : TypeId) : Bool :=
  match P.underlying t with
  | some .bool => true
  | _ => false
def tyPtr (P : Program) (t : TypeId) : Bool :=
  match P.underlying t with
  | some (.pointer _) => true
  | _ => false
def tyInt (P : Program) (t : TypeId) : Option IntKind :=
  match P.underlying t with
  | some (.int k) => some k
  | _ => none
def loadC (P : Program) (t : TypeId) (cs : List A) : Option A :=
  match tyAgg P t with
  | some true =>
    match tySize P t with
    | some n => if n ≤ cs.length then some (.agg (cs.take n)) else none
    | none => none
  | some false => cs.head?
  | none => none
def A.val : A → Bool
  | .any => false
  | .tup _ => false
  | _ => true
def A.flat : A → Bool
  | .int _ _ => true
  | .bool _ => true
  | .str _ => true
  | .nils => true
  | .nilp => true
  | .agg cs => flatL cs
  | .tup cs => flatL cs
  | _ => false
where flatL : List A → Bool
  | [] => true
  | c :: cs => c.flat && flatL cs
def encU8 (c : UInt8) : A := .int .u8 c.toNat
def bytesA (s : List UInt8) : List A := s.map encU8
def byteOfA : A → Option UInt8
  | .int .u8 n => some (UInt8.ofNat n.toNat)
  | _ => none
def bytesOfA : List A → Option (List UInt8)
  | [] => some []
  | x :: xs => (byteOfA x).bind fun b => (bytesOfA xs).map (b :: ·)
def eqA : A → A → Option Bool
  | .int k a, .int k' b => if k = k' then some (a == b) else none
  | .bool a, .bool b => some (a == b)
  | .str a, .str b => some (a == b)
  | _, _ => none
def eqL : List A → List A → Option Bool
  | [], [] => some true
  | x :: xs, y :: ys => (eqA x y).bind fun a => (eqL xs ys).map (a && ·)
  | _, _ => none
inductive CK where
  | int (k : IntKind)
  | bool
  | str
  deriving DecidableEq
def CK.has : CK → A → Bool
  | .int k, .int k' _ => k == k'
  | .bool, .bool _ => true
  | .str, .str _ => true
  | _, _ => false
def hasL : List CK → List A → Bool
  | [], [] => true
  | c :: cs, x :: xs => c.has x && hasL cs xs
  | _, _ => false
def A.isPtr : A → Bool
  | .ref _ _ => true
  | .eref _ _ _ => true
  | .dptr _ => true
  | _ => false
def binI (op : BinOp) (k : IntKind) (a b : Int) : Option A :=
  match op with
  | .add => some (.int k (k.wrap (a + b)))
  | .sub => some (.int k (k.wrap (a - b)))
  | .mul => some (.int k (k.wrap (a * b)))
  | .quo => if b = 0 then none else some (.int k (k.wrap (a.tdiv b)))
  | .rem => if b = 0 then none else some (.int k (a.tmod b))
  | .and => some (.int k (k.wrap ((BitVec.ofInt k.bits a &&& BitVec.ofInt k.bits b).toNat)))
  | .or => some (.int k (k.wrap ((BitVec.ofInt k.bits a ||| BitVec.ofInt k.bits b).toNat)))
  | .xor => some (.int k (k.wrap ((BitVec.ofInt k.bits a ^^^ BitVec.ofInt k.bits b).toNat)))
  | .andNot => some (.int k (k.wrap ((BitVec.ofInt k.bits a &&& ~~~ BitVec.ofInt k.bits b).toNat)))
  | .eql => some (.bool (a == b))
  | .neq => some (.bool (a != b))
  | .lss => some (.bool (decide (a < b)))
  | .leq => some (.bool (decide (a ≤ b)))
  | .gtr => some (.bool (decide (b < a)))
  | .geq => some (.bool (decide (b ≤ a)))
  | _ => none
def binS (op : BinOp) (a b : List UInt8) : Option A :=
  match op with
  | .add => if a.length + b.length ≤ 9223372036854775807 then some (.str (a ++ b)) else none
  | .eql => some (.bool (a == b))
  | .neq => some (.bool (a != b))
  | .lss => some (.bool (Op.bytesLess a b))
  | .leq => some (.bool (Op.bytesLess a b || a == b))
  | .gtr => some (.bool !(Op.bytesLess a b || a == b))
  | .geq => some (.bool !(Op.bytesLess a b))
  | _ => none
def nilEq (sl : Bool) (op : BinOp) (c : Bool) : Option A :=
  if sl = true then
    match op with
    | .eql => some (.bool c)
    | .neq => some (.bool !c)
    | _ => none
  else none
def binA (ks : Option (List CK)) (bl ptr sl : Bool) (op : BinOp) : A → A → Option A
  | .int k a, .int k' b =>
    match op with
    | .shl => if b < 0 then none else some (.int k (k.wrap (a * 2 ^ (min b.toNat k.bits))))
    | .shr => if b < 0 then none else some (.int k (a.fdiv (2 ^ (min b.toNat k.bits))))
    | _ => if k = k' then binI op k a b else none
  | .bool a, .bool b =>
    if bl = true then
      match op with
      | .eql => some (.bool (a == b))
      | .neq => some (.bool (a != b))
      | _ => none
    else none
  | .str a, .str b => binS op a b
  | .agg xs, .agg ys =>
    match ks with
    | some l =>
      if hasL l xs = true ∧ hasL l ys = true then
        match op with
        | .eql => (eqL xs ys).map .bool
        | .neq => (eqL xs ys).map fun b => .bool !b
        | _ => none
      else none
    | none => none
  | .nilp, y =>
    if ptr then
      match op with
      | .eql => match y with | .nilp => some (.bool true) | _ => if y.isPtr then some (.bool false) else none
      | .neq => match y with | .nilp => some (.bool false) | _ => if y.isPtr then some (.bool true) else none
      | _ => none
    else none
  | x, .nilp =>
    if ptr && x.isPtr then
      match op with
      | .eql => some (.bool false)
      | .neq => some (.bool true)
      | _ => none
    else none
  | .emp c, .nils => nilEq sl op c
  | .slc (_ :: _), .nils => nilEq sl op false
  | _, _ => none
def unA (op : UnOp) : A → Option A
  | .bool b => match op with | .not => some (.bool !b) | _ => none
  | .int k n => match op with | .neg => some (.int k (k.wrap (0 - n))) | _ => none
  | _ => none
def ckGo (rec : TypeId → Option (List CK)) (size : TypeId → Option Nat) : List Field → Nat → Option (List CK)
  | [], _ => some []
  | f :: fs, off =>
    if f.name = "_" ∨ f.offset ≠ off then none else
    match rec f.type, size f.type with
    | some ks, some n => if ks.length = n then (ckGo rec size fs (off + n)).map (ks ++ ·) else none
    | _, _ => none
def ckOf (P : Program) : Nat → TypeId → Option (List CK)
  | 0, _ => none
  | d + 1, t =>
    match P.underlying t with
    | some .bool => some [.bool]
    | some (.int k) => some [.int k]
    | some .string => some [.str]
    | some (.struct fs) => if P.stoodInHeld t = true then none else ckGo (ckOf P d) (tySize P) fs.toList 0
    | _ => none
def eqTy (P : Program) (t : TypeId) : Option (List CK) := if P.eqGuardType P.depth t = true ∨ tyAgg P t ≠ some true then none else ckOf P 10 t
def norm0 : A → A
  | .nils => .slc []
  | .emp _ => .slc []
  | .clip es => .slc es
  | x => x
def A.norm : A → A
  | .agg cs => .agg (cs.map norm0)
  | x => norm0 x
def viewRow (H : List Obj) (n off k len : Nat) : Option A :=
  match nthO H n with
  | some (.row k' es) => if k' = k ∧ off + len ≤ es.length ∧ k ≠ 0 then some (.slc ((es.drop off).take len)) else none
  | _ => none
def view0 (H : List Obj) : A → Option A
  | .row n off k len _ => viewRow H n off k len
  | .ref _ _ => none
  | .eref _ _ _ => none
  | .agg _ => none
  | .tup _ => none
  | .fn _ _ => none
  | .nils => some (.slc [])
  | .emp _ => some (.slc [])
  | .clip es => some (.slc es)
  | x => some x
def view0L (H : List Obj) : List A → Option (List A)
  | [] => some []
  | x :: xs => (view0 H x).bind fun y => (view0L H xs).map (y :: ·)
def view1 (H : List Obj) : A → Option A
  | .ref n off =>
    match nthO H n with
    | some (.box cs) => (view0L H (cs.drop off)).map .dptr
    | _ => none
  | .eref n i off =>
    match nthO H n with
    | some (.row _ es) => (es[i]?).map fun e => .dptr (e.cells.drop off)
    | _ => none
  | .agg cs => (view0L H cs).map .agg
  | x => view0 H x
def view1L (H : List Obj) : List A → Option (List A)
  | [] => some []
  | x :: xs => (view1 H x).bind fun y => (view1L H xs).map (y :: ·)
def view (H : List Obj) : A → Option A
  | .fn f cs => (view1L H cs).map (.fn f ·)
  | x => view1 H x
def viewL (H : List Obj) : List A → Option (List A)
  | [] => some []
  | x :: xs => (view H x).bind fun y => (viewL H xs).map (y :: ·)
def getI (i : Int) (es : List A) : Option A := if 0 ≤ i then es[i.toNat]? else none
inductive Bd where
  | none
  | some (n : Int)
  | bad
def bdOf : A → Bd
  | .int _ n => .some n
  | _ => .bad
def St.bd (σ : St) : Option Operand → Bd
  | Option.none => .none
  | Option.some x => bdOf (σ.ev x)
def Bd.get (d : Int) : Bd → Int
  | .some n => n
  | _ => d
def Bd.ok : Bd → Bool
  | .bad => false
  | _ => true
def Bd.ok3 : Bd → Bool
  | .some _ => true
  | _ => false
def strOK (k : Nat) (es : List A) : Bool := es.isEmpty || strideOf es == k
def sliceS (s : List UInt8) (lo hi mx : Bd) : Option A :=
  match mx with
  | .none => if 0 ≤ lo.get 0 ∧ lo.get 0 ≤ hi.get s.length ∧ hi.get s.length ≤ s.length then some (.str ((s.take (hi.get s.length).toNat).drop (lo.get 0).toNat)) else none
  | _ => none
def sliceE (k : Nat) (es : List A) (lo hi mx : Bd) : Option A :=
  match mx with
  | .none => if strOK k es = true ∧ 0 ≤ lo.get 0 ∧ lo.get 0 ≤ hi.get es.length ∧ hi.get es.length ≤ es.length then some (.slc ((es.take (hi.get es.length).toNat).drop (lo.get 0).toNat)) else none
  | .some m => if strOK k es = true ∧ 0 ≤ lo.get 0 ∧ lo.get 0 ≤ hi.get es.length ∧ hi.get es.length ≤ es.length ∧ m = hi.get es.length ∧ hi.ok3 = true then some (.clip ((es.take (hi.get es.length).toNat).drop (lo.get 0).toNat)) else none
  | .bad => none
def sliceR (n off k len : Nat) (lo hi mx : Bd) : Option A :=
  match mx with
  | .none => if 0 ≤ lo.get 0 ∧ lo.get 0 ≤ hi.get len ∧ hi.get len ≤ len then some (.row n (off + (lo.get 0).toNat) k (hi.get len - lo.get 0).toNat false) else none
  | .some m => if 0 ≤ lo.get 0 ∧ lo.get 0 ≤ hi.get len ∧ hi.get len ≤ len ∧ m = hi.get len ∧ hi.ok3 = true then some (.row n (off + (lo.get 0).toNat) k (hi.get len - lo.get 0).toNat true) else none
  | .bad => none
def sliceA (st : Bool) (sz : Option Nat) (x : A) (lo hi mx : Bd) : Option A :=
  match x with
  | .str s => if st = true then sliceS s lo hi mx else none
  | .slc es => match sz with | some k => sliceE k es lo hi mx | none => none
  | .clip es => match sz with | some k => sliceE k es lo hi mx | none => none
  | .row n off k' len _ => match sz with | some k => if k = k' then sliceR n off k len lo hi mx else none | none => none
  | _ => none
def elSize (P : Program) (t : TypeId) : Option Nat :=
  match tyElem P t with
  | some e => tySize P e
  | none => none
def pickA (c a b : A) : Option A :=
  match c with
  | .bool t => some (if t then a else b)
  | _ => none
def fillC (size : Option Nat) (off : Nat) (x : A) (zs : List A) : Option (List A) :=
  match size with
  | some n => if x.cells.length = n ∧ off + n ≤ zs.length ∧ x.val = true then some (zs.take off ++ x.cells ++ zs.drop (off + n)) else none
  | none => none
def fillS (P : Program) (t : TypeId) (σ : St) : List (Nat × Operand) → List A → Option (List A)
  | [], zs => some zs
  | (i, x) :: ps, zs =>
    match fieldInfo P t i with
    | some (o, ft) => (fillC (tySize P ft) o (σ.ev x) zs).bind (fillS P t σ ps)
    | none => none
def fillA (P : Program) (e : TypeId) (σ : St) : List (Nat × Operand) → List A → Option (List A)
  | [], zs => some zs
  | (i, x) :: ps, zs =>
    match tySize P e with
    | some n => (fillC (some n) (i * n) (σ.ev x) zs).bind (fillA P e σ ps)
    | none => none
def fillE (k : Nat) (σ : St) : List (Nat × Operand) → List A → Option (List A)
  | [], zs => some zs
  | (i, x) :: ps, zs => if (σ.ev x).cells.length = k ∧ i < zs.length ∧ (σ.ev x).val = true ∧ (σ.ev x).pure = true then fillE k σ ps (setNth zs i (σ.ev x).norm) else none
def allSized (P : Program) (t : TypeId) : Bool :=
  match P.underlying t with
  | some (.struct fs) => fs.toList.all fun f => (tySize P f.type).isSome
  | _ => false
def buildA (P : Program) (t : TypeId) (σ : St) (parts : List (Nat × Operand)) : Option A :=
  match zeroA P t with
  | some (.agg zs) =>
    match tyArr P t with
    | some (_, e) => if (tySize P e).isSome = true then (fillA P e σ parts zs).map .agg else none
    | none => if allSized P t = true then (fillS P t σ parts zs).map .agg else none
  | _ => none
def buildSliceA (P : Program) (t : TypeId) (len : Nat) (σ : St) (parts : List (Nat × Operand)) : Option A :=
  match tyElem P t with
  | some e =>
    match tySize P e, zeroA P e with
    | some k, some z => if len * k ≤ 16777216 ∧ k ≠ 0 ∧ z.pure = true ∧ z.val = true ∧ z.cells.length = k then (fillE k σ parts (List.replicate len z.norm)).map .clip else none
    | _, _ => none
  | none => none
def loadA (P : Program) (t : TypeId) (H : List Obj) (a : A) : Option A :=
  match a with
  | .dptr cs => loadC P t cs
  | .ref n off => match nthO H n with | some (.box cs) => loadC P t (cs.drop off) | _ => none
  | .eref n i off => match nthO H n with | some (.row _ es) => (es[i]?).bind fun e => loadC P t (e.cells.drop off) | _ => none
  | _ => none
def nilCheckA (x : A) : Option A :=
  match x with
  | .dptr cs => some (.dptr cs)
  | .ref n off => some (.ref n off)
  | .eref n i off => some (.eref n i off)
  | .fn f cs => some (.fn f cs)
  | _ => none
def isB2S (P : Program) (src dst : TypeId) : Bool := (tyElem P src).any (fun e => tyInt P e = some .u8) && tyStr P dst
def convB (b : Bool) (x : Option A) : Option A :=
  if b = true then
    match x with
    | some (.slc es) => (bytesOfA es).map .str
    | _ => none
  else none
def convA (P : Program) (src dst : TypeId) (H : List Obj) (x : A) : Option A :=
  match x with
  | .int _ n => match tyInt P dst with | some k => if (tyAgg P src).isSome = true then some (.int k (k.wrap n)) else none | none => none
  | .str s => if tyStr P src && tyStr P dst then some (.str s) else none
  | .slc es => convB (isB2S P src dst) (view H (.slc es))
  | .clip es => convB (isB2S P src dst) (view H (.clip es))
  | .nils => convB (isB2S P src dst) (view H .nils)
  | .row n off k len c => convB (isB2S P src dst) (view H (.row n off k len c))
  | _ => none
def fieldAddrA (o : Nat) (x : A) : Option A :=
  match x with
  | .dptr cs => some (.dptr (cs.drop o))
  | .ref n off => some (.ref n (off + o))
  | .eref n i off => some (.eref n i (off + o))
  | _ => none
def fieldAddrI (i : Option (Nat × TypeId)) (x : A) : Option A :=
  match i with
  | some (o, _) => fieldAddrA o x
  | none => none
def fieldA (P : Program) (i : Option (Nat × TypeId)) (x : A) : Option A :=
  match i, x with
  | some (o, t), .agg cs => loadC P t (cs.drop o)
  | _, _ => none
def getE (k : Nat) (i : Int) (es : List A) : Option A := (getI i es).bind fun y => if k = y.cells.length then some (.dptr y.cells) else none
def indexAddrE (k : Nat) (i : Int) (x : A) : Option A :=
  match x with
  | .slc es => getE k i es
  | .clip es => getE k i es
  | .row n off k' len _ => if k = k' ∧ 0 ≤ i ∧ i < len then some (.eref n (off + i.toNat) 0) else none
  | _ => none
def indexAddrR (n k : Nat) (i : Int) (x : A) : Option A :=
  match x with
  | .ref m off => if 0 ≤ i ∧ i < n then some (.ref m (off + i.toNat * k)) else none
  | .dptr cs => if 0 ≤ i ∧ i < n then some (.dptr (cs.drop (i.toNat * k))) else none
  | _ => none
def indexAddrA (P : Program) (t : TypeId) (x ix : A) : Option A :=
  match ix with
  | .int _ i =>
    match tyElem P t with
    | some e => match tySize P e with | some k => indexAddrE k i x | none => none
    | none =>
      match tyArr P t with
      | some (n, e) => match tySize P e with | some k => indexAddrR n k i x | none => none
      | none => none
  | _ => none
def indexA (P : Program) (t : TypeId) (x ix : A) : Option A :=
  match ix, x with
  | .int _ i, .str s => if tyStr P t = true ∧ 0 ≤ i then (s[i.toNat]?).map encU8 else none
  | .int _ i, .agg cs =>
    match tyArr P t with
    | some (n, e) => match tySize P e with | some k => if 0 ≤ i ∧ i < n then loadC P e (cs.drop (i.toNat * k)) else none | none => none
    | none => none
  | _, _ => none
def extractA (x : A) (ix : Nat) : Option A :=
  match x with
  | .tup cs => cs[ix]?
  | _ => none
def lenA (P : Program) (t : TypeId) (x : A) : Option A :=
  match x with
  | .str s => if tyStr P t = true then some (.int .i64 s.length) else none
  | .slc es => if (tyElem P t).isSome = true then some (.int .i64 es.length) else none
  | .clip es => if (tyElem P t).isSome = true then some (.int .i64 es.length) else none
  | .row _ _ _ len _ => if (tyElem P t).isSome = true then some (.int .i64 len) else none
  | .nils => if (tyElem P t).isSome = true then some (.int .i64 0) else none
  | _ => match tyArr P t with | some (n, _) => some (.int .i64 n) | none => none
def minA : List A → Option A
  | [.int k a, .int _ b] => some (.int k (if b < a then b else a))
  | _ => none
def maxA : List A → Option A
  | [.int k a, .int _ b] => some (.int k (if b > a then b else a))
  | _ => none
def makeFuncA (fn : Fn) (first captured : List A) : Option A :=
  match fn, first with
  | .func f, [] => some (.fn f captured)
  | _, _ => none
def St.evL (σ : St) : List Operand → List A
  | [] => []
  | x :: xs => σ.ev x :: σ.evL xs
def evalR (P : Program) (σ : St) : Op → Option A
  | .move x => some (σ.ev x)
  | .assign x => some (σ.ev x)
  | .pick c a b => pickA (σ.ev c) (σ.ev a) (σ.ev b)
  | .build t parts => buildA P t σ parts.toList
  | .buildSlice t len parts => buildSliceA P t len σ parts.toList
  | .load t a => loadA P t σ.H (σ.ev a)
  | .nilCheck x => nilCheckA (σ.ev x)
  | .binOp op t x y _ => binA (eqTy P t) (tyBool P t) (tyPtr P t) (tyElem P t).isSome op (σ.ev x) (σ.ev y)
  | .unOp op _ x => unA op (σ.ev x)
  | .convert src dst x => convA P src dst σ.H (σ.ev x)
  | .makeFunc fn first captured => makeFuncA fn (σ.evL first.toList) (σ.evL captured.toList)
  | .slice t x lo hi mx => if (tyArr P t).isNone = true ∧ (σ.bd lo).ok = true ∧ (σ.bd hi).ok = true then sliceA (tyStr P t) (elSize P t) (σ.ev x) (σ.bd lo) (σ.bd hi) (σ.bd mx) else none
  | .fieldAddr s x f => fieldAddrI (fieldInfo P s f) (σ.ev x)
  | .field s x f => fieldA P (fieldInfo P s f) (σ.ev x)
  | .indexAddr t x ix => indexAddrA P t (σ.ev x) (σ.ev ix)
  | .index t x ix => indexA P t (σ.ev x) (σ.ev ix)
  | .extract t ix => extractA (σ.ev t) ix
  | .call ⟨.builtin .len, ⟨[x]⟩, ⟨[t]⟩⟩ => lenA P t (σ.ev x)
  | .call ⟨.builtin .min, ⟨xs⟩, _⟩ => minA (σ.evL xs)
  | .call ⟨.builtin .max, ⟨xs⟩, _⟩ => maxA (σ.evL xs)
  | _ => none
def srcE (P : Program) (σ : St) (e tx : TypeId) (k : Nat) (x : A) : Option (List A) :=
  match x with
  | .slc es => if strOK k es = true ∧ (tyElem P tx).isSome = true then some es else none
  | .clip es => if strOK k es = true ∧ (tyElem P tx).isSome = true then some es else none
  | .nils => if (tyElem P tx).isSome = true then some [] else none
  | .emp _ => if (tyElem P tx).isSome = true then some [] else none
  | .row n off k' len _ => if k' = k ∧ (tyElem P tx).isSome = true then (match viewRow σ.H n off k len with | some (.slc es) => some es | _ => none) else none
  | .str s => if tyInt P e = some .u8 ∧ k = 1 ∧ tyStr P tx = true then some (bytesA s) else none
  | _ => none
def scrubA (n : Nat) (x : A) : A := if x.mem n then .any else x
def scrubO (n : Nat) : Obj → Obj
  | .box cs => .box (cs.map (scrubA n))
  | o => o
def St.scrub (σ : St) (n : Nat) : St := { s := σ.s.map (fun p => (p.1, scrubA n p.2)), H := σ.H.map (scrubO n) }
def appendA (fx : Nat → Bool) (σ : St) (name : Nat) (d : Option Tmp) (k bytes : Nat) (base : A) (src : List A) : Option St :=
  match base with
  | .nils => if src.length * bytes ≤ 140737488355328 then some ((σ.setH name (.row k src)).put d (.row name 0 k src.length false)) else none
  | .clip es => if strOK k es = true ∧ (es = [] ∨ src ≠ []) ∧ (es.length + src.length) * bytes ≤ 140737488355328 then
      some ((σ.setH name (.row k (es ++ src))).put d (.row name 0 k (es.length + src.length) false)) else none
  | .row n 0 k' len c =>
    match nthO σ.H n with
    | some (.row k'' es) =>
      if k' = k ∧ k'' = k ∧ len ≤ es.length ∧ (len + src.length) * bytes ≤ 140737488355328 then
        if c then (if src = [] then none else some ((σ.setH name (.row k (es.take len ++ src))).put d (.row name 0 k (len + src.length) false)))
        else (if fx n = true then none else some (((σ.scrub n).setH n (.row k (es.take len ++ src))).put d (.row n 0 k (len + src.length) false)))
      else none
    | _ => none
  | _ => none
structure Tab where
  f : FuncId → List A → Option A
  hp : FuncId → List A → List Obj → Option (A × List Obj × List Nat)
  eff : FuncId → Bool
  frz : FuncId → Bool
  effT : Bool
  fix : Nat → Bool
  nf : Nat
  ords : Nat → List (List Nat)
def isEff (Γ : Tab) : Operand → Bool
  | .func g => Γ.eff g
  | .tmp _ => Γ.effT
  | _ => false
def isS2B (P : Program) (src dst : TypeId) : Bool := tyStr P src && (tyElem P dst).any (fun e => tyInt P e = some .u8)
def allocs (P : Program) : Op → Bool
  | .alloc _ => true
  | .box _ _ => true
  | .convert src dst _ => isS2B P src dst
  | .call ⟨.builtin .append, _, _⟩ => true
  | _ => false
def spliceA (cs : List A) (off : Nat) (ys : List A) : List A := cs.take off ++ ys ++ cs.drop (off + ys.length)
def boxA (σ : St) (name : Nat) (d : Option Tmp) (x : A) : Option St :=
  if x.val = true then some ((σ.setH name (.box x.cells)).put d (.ref name 0)) else none
def allocA (σ : St) (name : Nat) (d : Option Tmp) (z : Option A) : Option St :=
  match z with
  | some z => boxA σ name d z
  | none => none
def storeE (e : A) (off : Nat) (v : A) : A :=
  match e with
  | .agg cs => .agg (spliceA cs off v.norm.cells)
  | _ => v.norm
def storeA (σ : St) (d : Option Tmp) (size : Option Nat) (a v : A) : Option St :=
  match a with
  | .ref n off =>
    match nthO σ.H n with
    | some (.box cs) => if size = some v.cells.length ∧ off + v.cells.length ≤ cs.length ∧ v.val = true then some ((σ.setH n (.box (spliceA cs off v.cells))).put d (.tup [])) else none
    | _ => none
  | .eref n i off =>
    match nthO σ.H n with
    | some (.row k es) => (es[i]?).bind fun e => if size = some v.cells.length ∧ off + v.cells.length ≤ e.cells.length ∧ v.cells.length ≠ 0 ∧ v.val = true ∧ v.pure = true then some ((σ.setH n (.row k (setNth es i (storeE e off v)))).put d (.tup [])) else none
    | _ => none
  | _ => none
def convX (P : Program) (σ : St) (name : Nat) (d : Option Tmp) (src dst : TypeId) (x : A) : Option St :=
  if isS2B P src dst = true then
    match x with
    | .str s => some ((σ.setH name (.row 1 (bytesA s))).put d (.row name 0 1 s.length false))
    | _ => none
  else (convA P src dst σ.H x).map (σ.put d ·)
def zeroOK (P : Program) (e : TypeId) (k : Nat) : Bool :=
  match zeroA P e with
  | some z => z.val && z.cells.length == k
  | none => false
def appendX (P : Program) (fx : Nat → Bool) (σ : St) (name : Nat) (d : Option Tmp) (t tx : TypeId) (b x : A) : Option St :=
  match tyElem P t with
  | some e =>
    match tySize P e with
    | some k => if k = 0 ∨ tyBytes P e = 0 ∨ zeroOK P e k = false then none else (srcE P σ e tx k x).bind fun src => appendA fx σ name d k (tyBytes P e) b src
    | none => none
  | none => none
def callX (Γ : Tab) (σ : St) (d : Option Tmp) (g : FuncId) (aq : List A) : Option St :=
  (viewL σ.H aq).bind fun bs => (Γ.f g bs).bind fun r => if (A.pure.pureL aq || r.flat) = true then some (σ.put d r) else none
def callV (Γ : Tab) (σ : St) (d : Option Tmp) (f : A) (aq : List A) : Option St :=
  match f with
  | .fn g caps => callX Γ σ d g (aq ++ caps)
  | _ => none
def clearA (P : Program) (σ : St) (d : Option Tmp) (t : TypeId) (x : A) : Option St :=
  match x with
  | .row n off k len _ =>
    match tyElem P t with
    | some e =>
      match nthO σ.H n with
      | some (.row k' es) =>
        match zeroA P e with
        | some z => if k' = k ∧ z.cells.length = k ∧ k ≠ 0 ∧ z.val = true ∧ z.pure = true ∧ off + len ≤ es.length then some ((σ.setH n (.row k (es.take off ++ List.replicate len z.norm ++ es.drop (off + len)))).put d (.tup [])) else none
        | none => none
      | _ => none
    | none => none
  | _ => none
def A.names : A → List Nat
  | .ref n _ => [n]
  | .eref n _ _ => [n]
  | .row n _ _ _ _ => [n]
  | .agg cs => namesL cs
  | .fn _ cs => namesL cs
  | .tup cs => namesL cs
  | _ => []
where namesL : List A → List Nat
  | [] => []
  | c :: cs => c.names ++ namesL cs
def Obj.names : Obj → List Nat
  | .box cs => A.names.namesL cs
  | .row _ _ => []
def namesO : Option Obj → List Nat
  | some o => o.names
  | none => []
def reach (H : List Obj) : Nat → List Nat → List Nat → List Nat
  | 0, _, acc => acc
  | _ + 1, [], acc => acc
  | fuel + 1, n :: todo, acc => if acc.contains n = true then reach H fuel todo acc else reach H fuel (namesO (nthO H n) ++ todo) (acc ++ [n])
def idx (ρ : List Nat) (n : Nat) : Option Nat :=
  match ρ with
  | [] => none
  | m :: ms => if m = n then some 0 else (idx ms n).map (· + 1)
def A.ren (ρ : List Nat) : A → Option A
  | .ref n o => (idx ρ n).map (.ref · o)
  | .eref n i o => (idx ρ n).map (.eref · i o)
  | .row n o k l c => (idx ρ n).map (.row · o k l c)
  | .agg cs => (renL ρ cs).map .agg
  | .fn f cs => (renL ρ cs).map (.fn f ·)
  | .tup cs => (renL ρ cs).map .tup
  | x => some x
where renL (ρ : List Nat) : List A → Option (List A)
  | [] => some []
  | c :: cs => (c.ren ρ).bind fun x => (renL ρ cs).map (x :: ·)
def Obj.ren (ρ : List Nat) : Obj → Option Obj
  | .box cs => (A.ren.renL ρ cs).map .box
  | .row k es => some (.row k es)
def renO (ρ : List Nat) : Option Obj → Option Obj
  | some o => o.ren ρ
  | none => none
def renH (ρ : List Nat) (H : List Obj) : List Nat → Option (List Obj)
  | [] => some []
  | n :: ns => (renO ρ (nthO H n)).bind fun o => (renH ρ H ns).map (o :: ·)
def nthN : List Nat → Nat → Nat → Nat
  | [], base, i => base + i
  | n :: _, _, 0 => n
  | _ :: ns, base, i + 1 => nthN ns base i
def A.back (ρ : List Nat) (m : Nat) : A → A
  | .ref n o => .ref (nthN ρ m n) o
  | .eref n i o => .eref (nthN ρ m n) i o
  | .row n o k l c => .row (nthN ρ m n) o k l c
  | .agg cs => .agg (backL ρ m cs)
  | .fn f cs => .fn f (backL ρ m cs)
  | .tup cs => .tup (backL ρ m cs)
  | x => x
where backL (ρ : List Nat) (m : Nat) : List A → List A
  | [] => []
  | c :: cs => c.back ρ m :: backL ρ m cs
def Obj.back (ρ : List Nat) (m : Nat) : Obj → Obj
  | .box cs => .box (A.back.backL ρ m cs)
  | .row k es => .row k es
def scrubs (ρ : List Nat) (m : Nat) (σ : St) : List Nat → St
  | [] => σ
  | i :: is => scrubs ρ m (σ.scrub (nthN ρ m i)) is
def backH (ρ : List Nat) (m : Nat) : List Nat → List Obj → List Obj → List Obj
  | [], os, H => H ++ os.map (Obj.back ρ m)
  | n :: ns, o :: os, H => backH ρ m ns os (setO H n (o.back ρ m))
  | _ :: _, [], H => H
def callH2 (σ : St) (d : Option Tmp) (ρ : List Nat) : A × List Obj × List Nat → St
  | (r, H', S) => St.put ⟨(scrubs ρ σ.H.length σ S).s, backH ρ σ.H.length ρ H' (scrubs ρ σ.H.length σ S).H⟩ d (r.back ρ σ.H.length)
def mayMove (Γ : Tab) (ρ : List Nat) (m : Nat) : List Nat → Bool
  | [] => true
  | i :: is => !Γ.fix (nthN ρ m i) && mayMove Γ ρ m is
def A.meets (ρ : List Nat) (x : A) : Bool := ρ.any fun n => x.mem n
def frzA (ρ : List Nat) (H₀ : List Obj) (x : A) : A :=
  if x.meets ρ = true then (match x.ren ρ with | some x' => (view H₀ x').getD .any | none => .any) else x
def frzO (ρ : List Nat) (H₀ : List Obj) : Obj → Obj
  | .box cs => .box (cs.map (frzA ρ H₀))
  | .row k es => .row k es
def dropO (ρ : List Nat) : List Nat → List Obj → List Obj
  | [], H => H
  | n :: ns, H => dropO ρ ns (setO H n (.row 0 []))
def callF2 (σ : St) (d : Option Tmp) (ρ : List Nat) (H₀ : List Obj) (r : A) : St :=
  St.put ⟨σ.s.map (fun p => (p.1, frzA ρ H₀ p.2)), dropO ρ ρ (σ.H.map (frzO ρ H₀))⟩ d r
def callH1 (Γ : Tab) (σ : St) (d : Option Tmp) (g : FuncId) (aq : List A) (ρ : List Nat) : Option St :=
  (A.ren.renL ρ aq).bind fun as' => (renH ρ σ.H ρ).bind fun H₀ =>
    if Γ.frz g = true then (if ρ.all (fun n => !Γ.fix n) = true then (viewL H₀ as').bind fun bs => (Γ.f g bs).map (callF2 σ d ρ H₀) else none)
    else (Γ.hp g as' H₀).bind fun x => if mayMove Γ ρ σ.H.length x.2.2 = true then some (callH2 σ d ρ x) else none
def callH (Γ : Tab) (σ : St) (d : Option Tmp) (g : FuncId) (aq : List A) : Option St := callH1 Γ σ d g aq (reach σ.H 64 (A.names.namesL aq) [])
def callHV (Γ : Tab) (σ : St) (d : Option Tmp) (f : A) (aq : List A) : Option St :=
  match f with
  | .fn g caps => callH Γ σ d g (aq ++ caps)
  | _ => none
def execOp (P : Program) (Γ : Tab) (name : Nat) (d : Option Tmp) (op : Op) (σ : St) : Option St :=
  match op with
  | .alloc t => allocA σ name d (zeroA P t)
  | .box _ x => boxA σ name d (σ.ev x)
  | .store t a x => storeA σ d (tySize P t) (σ.ev a) (σ.ev x)
  | .convert src dst x => convX P σ name d src dst (σ.ev x)
  | .call ⟨.builtin .append, ⟨[b, x]⟩, ⟨[t, tx]⟩⟩ => appendX P Γ.fix σ name d t tx (σ.ev b) (σ.ev x)
  | .call ⟨.builtin .clear, ⟨[x]⟩, ⟨[t]⟩⟩ => clearA P σ d t (σ.ev x)
  | .call ⟨.value f, ⟨xs⟩, _⟩ => if isEff Γ f = true then callHV Γ σ d (σ.ev f) (σ.evL xs) else callV Γ σ d (σ.ev f) (σ.evL xs)
  | op => (evalR P σ op).map (σ.put d ·)
def nthD : List (Option Tmp) → Nat → Option Tmp
  | [], _ => none
  | x :: _, 0 => x
  | _ :: xs, n + 1 => nthD xs n
def wantA (ds : List (Option Tmp)) (σ : St) (g : Option (Nat × Bool)) : Option Bool :=
  match g with
  | none => some true
  | some (j, want) =>
    match nthD ds j with
    | none => some false
    | some t =>
      match look σ.s t with
      | .bool b => some (b == want)
      | .any => none
      | _ => some false
def exec1 (P : Program) (Γ : Tab) (ds : List (Option Tmp)) (name : Nat) (o : Oper) (σ : St) : Option St :=
  match wantA ds σ o.guard with
  | none => none
  | some b => if b then execOp P Γ name o.dst o.op σ else some (σ.put o.dst (.tup []))
def grow (P : Program) (op : Op) (σ : St) : St := if allocs P op = true then { σ with H := σ.H ++ [.row 0 []] } else σ
def nxt (P : Program) (op : Op) (n : Nat) : Nat := if allocs P op = true then n + 1 else n
def pre (P : Program) : List Oper → St → St
  | [], σ => σ
  | o :: os, σ => pre P os (grow P o.op σ)
def runSeq (P : Program) (Γ : Tab) (ds : List (Option Tmp)) : List Oper → Nat → St → Option St
  | [], _, σ => some σ
  | o :: os, n, σ => (exec1 P Γ ds n o σ).bind (runSeq P Γ ds os (nxt P o.op n))
def dstsOf : List Oper → List (Option Tmp)
  | [] => []
  | o :: os => o.dst :: dstsOf os
inductive Ex where
  | normal
  | exit (id : Nat)
  | ret
def A.under (m : Nat) : A → Bool
  | .ref n _ => n < m
  | .eref n _ _ => n < m
  | .row n _ _ _ _ => n < m
  | .agg cs => underL m cs
  | .fn _ cs => underL m cs
  | .tup cs => underL m cs
  | _ => true
where underL (m : Nat) : List A → Bool
  | [] => true
  | c :: cs => c.under m && underL m cs
def leS (m : Nat) (s : List (Nat × A)) : List (Nat × A) → Prop
  | [] => True
  | (d, y) :: r => (look s d = y ∧ y.under m = true) ∧ leS m s r
def leL (m : Nat) : List A → List A → Prop
  | [], [] => True
  | x :: xs, y :: ys => (y = .any ∨ (x = y ∧ y.under m = true)) ∧ leL m xs ys
  | _, _ => False
def leO (m : Nat) : Obj → Obj → Prop
  | .box xs, .box ys => leL m xs ys
  | .row k xs, .row k' ys => k = k' ∧ xs = ys
  | _, _ => False
def leH (m : Nat) : List Obj → List Obj → Prop
  | [], [] => True
  | _ :: _, [] => True
  | x :: xs, y :: ys => leO m x y ∧ leH m xs ys
  | [], _ :: _ => False
def St.le (σ τ : St) : Prop := leS τ.H.length σ.s τ.s ∧ leH τ.H.length σ.H τ.H
def frzSt (ρ : List Nat) (H₀ : List Obj) (σ : St) : St := ⟨σ.s.map (fun p => (p.1, frzA ρ H₀ p.2)), dropO ρ ρ (σ.H.map (frzO ρ H₀))⟩
def permSt (ρ : List Nat) (σ : St) : St := ⟨σ.s.map (fun p => (p.1, p.2.back ρ σ.H.length)), backH ρ σ.H.length ρ σ.H σ.H⟩
inductive St.to (nf : Nat) : St → St → Prop where
  | le {σ τ : St} : nf ≤ τ.H.length → σ.le τ → St.to nf σ τ
  | nil {σ τ : St} (d k : Nat) : look σ.s d = .nils → St.to nf ⟨(d, .row σ.H.length 0 k 0 false) :: σ.s, σ.H ++ [.row k []]⟩ τ → St.to nf σ τ
  | nilb {σ τ : St} (m i k : Nat) (cs : List A) : nthO σ.H m = some (.box cs) → cs[i]? = some .nils →
      St.to nf ⟨σ.s, setO σ.H m (.box (setNth cs i (.row σ.H.length 0 k 0 false))) ++ [.row k []]⟩ τ → St.to nf σ τ
  | wk {σ τ : St} (d : Nat) (es : List A) : look σ.s d = .clip es → St.to nf ⟨(d, .slc es) :: σ.s, σ.H⟩ τ → St.to nf σ τ
  | wkb {σ τ : St} (m : Nat) (cs : List A) : nthO σ.H m = some (.box cs) → St.to nf ⟨σ.s, setO σ.H m (.box (cs.map norm0))⟩ τ → St.to nf σ τ
  | perm {σ τ : St} (ρ : List Nat) : σ.H.length = ρ.length → ρ.Nodup → (∀ n ∈ ρ, n < ρ.length) → (∀ n, n < ρ.length → n ∈ ρ) → (∀ i, i < nf → nthN ρ ρ.length i = i) → St.to nf (permSt ρ σ) τ → St.to nf σ τ
  | frz {σ τ : St} (ρ : List Nat) (H₀ : List Obj) : ρ.Nodup → renH ρ σ.H ρ = some H₀ → (∀ n ∈ ρ, nf ≤ n) → St.to nf (frzSt ρ H₀ σ) τ → St.to nf σ τ
def K? {α : Type} (o : Option α) (q : α → Prop) : Prop := ∃ x, o = some x ∧ q x
def annS (P : Program) : Nat → List Oper → List (Nat × Oper)
  | _, [] => []
  | n, o :: os => (n, o) :: annS P (nxt P o.op n) os
def nthA : List (Nat × Oper) → Nat → Option (Nat × Oper)
  | [], _ => none
  | x :: _, 0 => some x
  | _ :: xs, i + 1 => nthA xs i
def runO (P : Program) (Γ : Tab) (ds : List (Option Tmp)) (B : List (Nat × Oper)) : List Nat → St → Option St
  | [], σ => some σ
  | i :: is, σ => (nthA B i).bind fun x => (exec1 P Γ ds x.1 x.2 σ).bind (runO P Γ ds B is)
def ordsW (P : Program) (Γ : Tab) (ds : List (Option Tmp)) (B : List (Nat × Oper)) (σ : St) (q : St → Prop) : List (List Nat) → Prop
  | [] => True
  | o :: os => K? (runO P Γ ds B o σ) q ∧ ordsW P Γ ds B σ q os
def regO (P : Program) (Γ : Tab) (os : List (List Nat)) (ops : Array Oper) (Q : Ex → St → Prop) (σ : St) : Prop :=
  match os with
  | [] => K? (runSeq P Γ (dstsOf ops.toList) ops.toList σ.H.length (pre P ops.toList σ)) (Q .normal)
  | o :: os => ordsW P Γ (dstsOf ops.toList) (annS P σ.H.length ops.toList) (pre P ops.toList σ) (Q .normal) (o :: os)
def frzOf : List (List Nat) → Option (List Nat)
  | (t :: ρ) :: _ => if t = 999999 then some ρ else none
  | _ => none
def ordOf : List (List Nat) → List (List Nat)
  | (t :: ρ) :: os => if t = 999999 then os else (t :: ρ) :: os
  | os => os
def keepN (m : Nat) (ρ : List Nat) : List Nat := ρ.filter fun n => decide (n < m)
def regW (P : Program) (Γ : Tab) (os : List (List Nat)) (ops : Array Oper) (Q : Ex → St → Prop) (σ : St) : Prop :=
  match frzOf os with
  | none => regO P Γ (ordOf os) ops Q σ
  | some ρ => K? (renH (keepN σ.H.length ρ) σ.H (keepN σ.H.length ρ)) fun H₀ => regO P Γ (ordOf os) ops Q (frzSt (keepN σ.H.length ρ) H₀ σ)
def seqQ (W : (Ex → St → Prop) → St → Prop) (Q : Ex → St → Prop) (e : Ex) (τ : St) : Prop :=
  match e with
  | .normal => W Q τ
  | .exit i => Q (.exit i) τ
  | .ret => Q .ret τ
def blockQ (id : Nat) (Q : Ex → St → Prop) (e : Ex) (τ : St) : Prop :=
  match e with
  | .normal => Q .normal τ
  | .exit i => if i = id then Q .normal τ else Q (.exit i) τ
  | .ret => Q .ret τ
def loopQ (N : St → Prop) (Q : Ex → St → Prop) (e : Ex) (τ : St) : Prop :=
  match e with
  | .normal => N τ
  | .exit i => Q (.exit i) τ
  | .ret => Q .ret τ
def condA (c : A) (p q : Prop) : Prop := ∃ t, c = .bool t ∧ (t = true → p) ∧ (t = false → q)
def wpA (P : Program) (Γ : Tab) : Code → (Ex → St → Prop) → St → Prop
  | .skip, Q, σ => Q .normal σ
  | .label _, Q, σ => Q .normal σ
  | .seq a b, Q, σ => wpA P Γ a (seqQ (wpA P Γ b) Q) σ
  | .cond c a b, Q, σ => condA (σ.ev c) (wpA P Γ a Q σ) (wpA P Γ b Q σ)
  | .block id c, Q, σ => wpA P Γ c (blockQ id Q) σ
  | .loop c, Q, σ => ∃ (ι : Type) (inv : ι → St) (μ : ι → Nat), (∃ i, St.to Γ.nf σ (inv i)) ∧
      ∀ i, wpA P Γ c (loopQ (fun τ => ∃ j, St.to Γ.nf τ (inv j) ∧ μ j < μ i) Q) (inv i)
  | .exit id, Q, σ => Q (.exit id) σ
  | .ret, Q, σ => Q .ret σ
  | .region id ops _, Q, σ => regW P Γ (Γ.ords id) ops Q σ
  | _, _, _ => False
def resC (P : Program) (σ : St) (t : TypeId) (a : A) : Option A :=
  match a with
  | .ref n off => match nthO σ.H n with | some (.box cs) => (loadC P t (cs.drop off)).bind (view σ.H) | _ => none
  | _ => none
def resA (P : Program) (σ : St) : ResultVar → Option A
  | .tmp t => view σ.H (look σ.s t)
  | .cell a t => resC P σ t (look σ.s a)
def resL (P : Program) (σ : St) : List ResultVar → Option (List A)
  | [] => some []
  | r :: rs => (resA P σ r).bind fun x => (resL P σ rs).map (x :: ·)
def resOf : List A → A
  | [x] => x
  | xs => .tup xs
def bodyA (P : Program) (fn : Func) (Post : A → Prop) (e : Ex) (σ : St) : Prop :=
  match e with
  | .exit _ => False
  | _ => K? (resL P σ fn.results.toList) (fun rs => Post (resOf rs))
def rawC (P : Program) (σ : St) (t : TypeId) (a : A) : Option A :=
  match a with
  | .ref n off => match nthO σ.H n with | some (.box cs) => loadC P t (cs.drop off) | _ => none
  | _ => none
def rawA (P : Program) (σ : St) : ResultVar → Option A
  | .tmp t => some (look σ.s t)
  | .cell a t => rawC P σ t (look σ.s a)
def rawL (P : Program) (σ : St) : List ResultVar → Option (List A)
  | [] => some []
  | r :: rs => (rawA P σ r).bind fun x => (rawL P σ rs).map (x :: ·)
def bodyH (P : Program) (fn : Func) (r : A) (H' : List Obj) (e : Ex) (σ : St) : Prop :=
  match e with
  | .exit _ => False
  | _ => K? (rawL P σ fn.results.toList) (fun rs => resOf rs = r ∧ r.under H'.length = true ∧ leH H'.length σ.H H')
def number : Nat → List A → List (Nat × A)
  | _, [] => []
  | n, x :: xs => (n, x) :: number (n + 1) xs
def startA (args : List A) : St := { s := number 0 args, H := [] }
def startH (args : List A) (H : List Obj) : St := { s := number 0 args, H := H }
end Go.Abs
namespace Go.Abs
open Go.RowKit
theorem RepL_iff {E : Env} : ∀ {cs : List A} {vs : List Value}, RepL E cs vs ↔ cs.length = vs.length ∧ ∀ (i : Nat) (x : A) (v : Value), cs[i]? = some x → vs[i]? = some v → Rep E x v
  | [], vs => by
    simp only [RepL]
    constructor
    · rintro rfl; exact ⟨rfl, fun i x v h => by simp at h⟩
    · rintro ⟨h, _⟩; exact List.length_eq_zero_iff.1 h.symm
  | c :: cs, vs => by
    simp only [RepL]
    constructor
    · rintro ⟨v, vs', rfl, hc, hl⟩
      obtain ⟨h1, h2⟩ := RepL_iff.1 hl
      refine ⟨by simp [h1], fun i x u hx hu => ?_⟩
      cases i with
      | zero => simp at hx hu; subst hx; subst hu; exact hc
      | succ i => exact h2 i x u (by simpa using hx) (by simpa using hu)
    · rintro ⟨h1, h2⟩
      cases vs with
      | nil => simp at h1
      | cons v vs => exact ⟨v, vs, rfl, h2 0 c v rfl rfl, RepL_iff.2 ⟨by simpa using h1, fun i x u hx hu => h2 (i + 1) x u (by simpa using hx) (by simpa using hu)⟩⟩
theorem RepM_iff {E : Env} {b : Nat} : ∀ {cs : List A} {off : Nat}, RepM E b off cs ↔ ∀ (i : Nat) (x : A), cs[i]? = some x → ∃ v, E.w.cell? ⟨b, off + i, none⟩ = some v ∧ v.oneCell' = true ∧ Rep E x v
  | [], off => by simp [RepM]
  | c :: cs, off => by
    simp only [RepM]
    constructor
    · rintro ⟨h1, h2⟩ i x hx
      cases i with
      | zero => simp at hx; subst hx; simpa using h1
      | succ i =>
        have := RepM_iff.1 h2 i x (by simpa using hx)
        rwa [show off + 1 + i = off + (i + 1) by omega] at this
    · intro h
      refine ⟨by simpa using h 0 c rfl, RepM_iff.2 fun i x hx => ?_⟩
      have := h (i + 1) x (by simpa using hx)
      rwa [show off + (i + 1) = off + 1 + i by omega] at this
theorem RepM_one {E : Env} {b off : Nat} {x : A} : RepM E b off [x] ↔ ∃ v, E.w.cell? ⟨b, off, none⟩ = some v ∧ v.oneCell' = true ∧ Rep E x v := by
  simp [RepM]
theorem RepE_cons {E : Env} {k b off : Nat} {e : A} {es : List A} : RepE E k b off (e :: es) ↔ (e.cells.length = k ∧ RepM E b off e.cells) ∧ RepE E k b (off + k) es := by
  cases e
  case agg cs => rw [RepE_agg]; simp [A.cells]
  all_goals
    simp only [RepE, A.cells, RepM, List.length_cons, List.length_nil, Nat.zero_add, and_true]
    constructor
    · rintro ⟨⟨h1, h2⟩, h3⟩; exact ⟨⟨h1.symm, h2⟩, h3⟩
    · rintro ⟨⟨h1, h2⟩, h3⟩; exact ⟨⟨h1.symm, h2⟩, h3⟩
theorem RepE_iff {E : Env} {k b : Nat} : ∀ {es : List A} {off : Nat}, RepE E k b off es ↔ ∀ (i : Nat) (e : A), es[i]? = some e → e.cells.length = k ∧ RepM E b (off + i * k) e.cells
  | [], off => by simp [RepE]
  | e :: es, off => by
    rw [RepE_cons]
    constructor
    · rintro ⟨h1, h2⟩ i x hx
      cases i with
      | zero => simp at hx; subst hx; simpa using h1
      | succ i =>
        have := RepE_iff.1 h2 i x (by simpa using hx)
        rwa [show off + k + i * k = off + (i + 1) * k by rw [Nat.add_mul]; omega] at this
    · intro h
      refine ⟨by simpa using h 0 e rfl, RepE_iff.2 fun i x hx => ?_⟩
      have := h (i + 1) x (by simpa using hx)
      rwa [show off + (i + 1) * k = off + k + i * k by rw [Nat.add_mul]; omega] at this
theorem RepM_drop {E : Env} {b off n : Nat} {cs : List A} (h : RepM E b off cs) : RepM E b (off + n) (cs.drop n) :=
  RepM_iff.2 fun i x hx => by
    have := RepM_iff.1 h (n + i) x (by simpa [List.getElem?_drop] using hx)
    rwa [show off + (n + i) = off + n + i by omega] at this
theorem RepM_take {E : Env} {b off n : Nat} {cs : List A} (h : RepM E b off cs) : RepM E b off (cs.take n) :=
  RepM_iff.2 fun i x hx => RepM_iff.1 h i x (by
    rw [List.getElem?_take] at hx
    split at hx
    · exact hx
    · simp at hx)
theorem RepE_drop {E : Env} {k b off n : Nat} {es : List A} (h : RepE E k b off es) : RepE E k b (off + n * k) (es.drop n) :=
  RepE_iff.2 fun i x hx => by
    have := RepE_iff.1 h (n + i) x (by simpa [List.getElem?_drop] using hx)
    rwa [show off + (n + i) * k = off + n * k + i * k by rw [Nat.add_mul]; omega] at this
theorem RepE_take {E : Env} {k b off n : Nat} {es : List A} (h : RepE E k b off es) : RepE E k b off (es.take n) :=
  RepE_iff.2 fun i x hx => RepE_iff.1 h i x (by
    rw [List.getElem?_take] at hx
    split at hx
    · exact hx
    · simp at hx)
theorem RepM_vals {E : Env} {b : Nat} : ∀ {cs : List A} {off : Nat}, RepM E b off cs → ∃ vs : List Value, E.w.rangeAt b off vs ∧ RepL E cs vs ∧ ∀ u ∈ vs, u.oneCell' = true
  | [], off, _ => ⟨[], fun j v h => by simp at h, by simp [RepL], by simp⟩
  | c :: cs, off, h => by
    simp only [RepM] at h
    obtain ⟨⟨v, hv, h1, hc⟩, hl⟩ := h
    obtain ⟨vs, hr, hL, hone⟩ := RepM_vals hl
    refine ⟨v :: vs, fun j u hu => ?_, by simp only [RepL]; exact ⟨v, vs, rfl, hc, hL⟩, ?_⟩
    · cases j with
      | zero => simp at hu; subst hu; simpa using hv
      | succ j =>
        have := hr j u (by simpa using hu)
        rwa [show off + 1 + j = off + (j + 1) by omega] at this
    · intro u hu
      rcases List.mem_cons.1 hu with rfl | hu
      · exact h1
      · exact hone u hu
theorem RepM_of_vals {E : Env} {b : Nat} : ∀ {cs : List A} {off : Nat} {vs : List Value}, E.w.rangeAt b off vs → RepL E cs vs → (∀ u ∈ vs, u.oneCell' = true) → RepM E b off cs := by
  intro cs off vs hr hL h1
  obtain ⟨hlen, hrep⟩ := RepL_iff.1 hL
  refine RepM_iff.2 fun i x hx => ?_
  have hi : i < vs.length := by rw [← hlen]; exact (List.getElem?_eq_some_iff.1 hx).1
  have hv : vs[i]? = some vs[i] := List.getElem?_eq_getElem hi
  exact ⟨vs[i], hr i _ hv, h1 _ (List.getElem_mem hi), hrep i x _ hx hv⟩
theorem RepL_take {E : Env} {n : Nat} : ∀ {cs : List A} {vs : List Value}, RepL E cs vs → RepL E (cs.take n) (vs.take n) := by
  intro cs vs h
  obtain ⟨h1, h2⟩ := RepL_iff.1 h
  refine RepL_iff.2 ⟨by simp [h1], fun i x v hx hv => ?_⟩
  rw [List.getElem?_take] at hx hv
  split at hx
  · rename_i hi; rw [if_pos hi] at hv; exact h2 i x v hx hv
  · simp at hx
theorem RepL_drop {E : Env} {n : Nat} : ∀ {cs : List A} {vs : List Value}, RepL E cs vs → RepL E (cs.drop n) (vs.drop n) := by
  intro cs vs h
  obtain ⟨h1, h2⟩ := RepL_iff.1 h
  refine RepL_iff.2 ⟨by simp [h1], fun i x v hx hv => ?_⟩
  rw [List.getElem?_drop] at hx hv
  exact h2 _ x v hx hv
theorem RepL_append {E : Env} : ∀ {cs ds : List A} {vs us : List Value}, RepL E cs vs → RepL E ds us → RepL E (cs ++ ds) (vs ++ us)
  | [], ds, vs, us, h, h' => by simp only [RepL] at h; subst h; simpa using h'
  | c :: cs, ds, vs, us, h, h' => by
    simp only [RepL] at h
    obtain ⟨v, vs', rfl, hc, hl⟩ := h
    simp only [List.cons_append, RepL]
    exact ⟨v, vs' ++ us, rfl, hc, RepL_append hl h'⟩
theorem Rep_cells {E : Env} {x : A} {v : Value} (h : Rep E x v) (hv : x.val = true) : RepL E x.cells v.cells.toList ∧ (∀ u ∈ v.cells.toList, u.oneCell' = true) ∧ v.cells.size = x.cells.length := by
  cases x
  case any => simp [A.val] at hv
  case tup => simp [A.val] at hv
  case agg cs =>
    simp only [Rep] at h
    obtain ⟨vs, rfl, hl, h1⟩ := h
    simp only [Value.cells, A.cells]
    exact ⟨by simpa using hl, by simpa using h1, by simpa using (RepL_iff.1 hl).1.symm⟩
  case slc es => 
    have h0 := h
    simp only [Rep] at h
    obtain ⟨_, a, cap, rfl, _⟩ := h
    simp only [Value.cells, A.cells, RepL]
    exact ⟨⟨_, [], rfl, h0, rfl⟩, by simp [Value.oneCell'], rfl⟩
  case clip es => 
    have h0 := h
    simp only [Rep] at h
    obtain ⟨_, a, rfl, _⟩ := h
    simp only [Value.cells, A.cells, RepL]
    exact ⟨⟨_, [], rfl, h0, rfl⟩, by simp [Value.oneCell'], rfl⟩
  case dptr es => 
    have h0 := h
    simp only [Rep] at h
    obtain ⟨_, a, off, rfl, _⟩ := h
    simp only [Value.cells, A.cells, RepL]
    exact ⟨⟨_, [], rfl, h0, rfl⟩, by simp [Value.oneCell'], rfl⟩
  case emp c =>
    have h0 := h
    simp only [Rep] at h
    obtain ⟨q, cap, rfl, _⟩ := h
    simp only [Value.cells, A.cells, RepL]
    exact ⟨⟨_, [], rfl, h0, rfl⟩, by simp [Value.oneCell'], rfl⟩
  case ref n off => 
    have h0 := h
    simp only [Rep] at h
    obtain ⟨b, k, _, rfl⟩ := h
    simp only [Value.cells, A.cells, RepL]
    exact ⟨⟨_, [], rfl, h0, rfl⟩, by simp [Value.oneCell'], rfl⟩
  case eref n i off => 
    have h0 := h
    simp only [Rep] at h
    obtain ⟨b, k, _, rfl⟩ := h
    simp only [Value.cells, A.cells, RepL]
    exact ⟨⟨_, [], rfl, h0, rfl⟩, by simp [Value.oneCell'], rfl⟩
  case row n off k len c => 
    have h0 := h
    simp only [Rep] at h
    rcases h with ⟨o, _, _, _, _, a, rfl⟩ | ⟨b, cap, c, e, fr, _, rfl, _⟩
    all_goals
      simp only [Value.cells, A.cells, RepL]
      exact ⟨⟨_, [], rfl, h0, rfl⟩, by simp [Value.oneCell'], rfl⟩
  case fn f cs =>
    have h0 := h
    simp only [Rep] at h
    obtain ⟨vs, rfl, _⟩ := h
    simp only [Value.cells, A.cells, RepL]
    exact ⟨⟨_, [], rfl, h0, rfl⟩, by simp [Value.oneCell'], rfl⟩
  all_goals
    have h0 := h
    simp only [Rep] at h
    subst h
    simp only [Value.cells, A.cells, RepL]
    exact ⟨⟨_, [], rfl, h0, rfl⟩, by simp [Value.oneCell'], rfl⟩
def Unfrozen (k : Nat) (c : Array Value) (fr : Nat × Nat) : Prop := (∀ j, j < c.size → ¬ (fr.1 ≤ j ∧ j < fr.2)) ∧ (k ≠ 1 → ¬ (fr.1 ≤ c.size ∧ c.size < fr.2))
def ObjRel (E : Env) : Obj → Own → Prop
  | .box cs, .loc b _ => (∃ c e fr, E.w.heap[b]? = some (.cells c e fr) ∧ Unfrozen 0 c fr) ∧ RepM E b 0 cs
  | .row k es, .loc b k' => k = k' ∧ A.pure.pureL es = true ∧ (∃ c e fr, E.w.heap[b]? = some (.cells c e fr) ∧ Unfrozen k c fr) ∧ RepE E k b 0 es
  | .row _ es, .nil => es = []
  | .row k es, .free => k = 0 ∧ es = []
  | .box _, _ => False
def envOf (N0 : Nat → Prop) (φ : List Own) (w : World) : Env := ⟨fun b => N0 b ∨ ∃ n k : Nat, φ[n]? = some (Own.loc b k), φ, w⟩
structure Base extends World where
  M : Nat → Prop
  fix : Nat → Bool
  φ0 : List Own
structure Kept (w0 : Base) (w : World) : Prop where
  os : w.os = w0.os
  tape : w.tape = w0.tape
  output : w.output = w0.output
  drawn : DR → w0.drawn ≤ w.drawn
  size : w0.heap.size ≤ w.heap.size
  block : ∀ b, b < w0.heap.size → ¬ w0.M b → w.heap[b]? = w0.heap[b]?
  shape : ∀ (b : Nat) (c : Array Value) (e : TypeId) (fr : Nat × Nat), w0.heap[b]? = some (.cells c e fr) → ∃ c' fr', w.heap[b]? = some (.cells c' e fr') ∧ c'.size = c.size
structure Conc (N0 : Nat → Prop) (w0 : Base) (nt : Nat) (σ : St) (φ : List Own) (a : Act) (w : World) : Prop where
  slots : ∀ d, Rep (envOf N0 φ w) (look σ.s d) (a.tmps.getD d undef)
  size : a.tmps.size = nt
  defers : a.defers = []
  len : φ.length = σ.H.length
  objs : ∀ (n : Nat) (o : Obj) (p : Own), nthO σ.H n = some o → φ[n]? = some p → ObjRel (envOf N0 φ w) o p
  own : ∀ n b k : Nat, φ[n]? = some (Own.loc b k) → (w0.heap.size ≤ b ∨ w0.M b) ∧ b < w.heap.size
  inj : ∀ n m b k k' : Nat, φ[n]? = some (Own.loc b k) → φ[m]? = some (Own.loc b k') → n = m
  n0 : ∀ b, N0 b → b < w0.heap.size ∧ ¬ w0.M b
  fixd : ∀ (n : Nat) (p : Own), w0.fix n = true → w0.φ0[n]? = some p → p ≠ .free → φ[n]? = some p
  below : Kept w0 w
theorem nthO_eq : ∀ (H : List Obj) (n : Nat), nthO H n = H[n]?
  | [], n => by simp [nthO]
  | x :: xs, 0 => by simp [nthO]
  | x :: xs, n + 1 => by simp [nthO, nthO_eq xs n]
theorem setO_eq : ∀ (H : List Obj) (n : Nat) (o : Obj), setO H n o = H.set n o
  | [], n, o => by simp [setO]
  | x :: xs, 0, o => by simp [setO]
  | x :: xs, n + 1, o => by simp [setO, setO_eq xs n o]
theorem setNth_eq : ∀ (H : List A) (n : Nat) (o : A), setNth H n o = H.set n o
  | [], n, o => by simp [setNth]
  | x :: xs, 0, o => by simp [setNth]
  | x :: xs, n + 1, o => by simp [setNth, setNth_eq xs n o]
section
variable {N0 : Nat → Prop} {w0 : Base} {nt : Nat} {σ : St} {φ : List Own} {a : Act} {w : World}
theorem ObjRel.mono {K : Nat → Prop} {E E' : Env} (h : Ext K E E') {o : Obj} {p : Own} (hr : ObjRel E o p) (hp : ∀ b k, p = Own.loc b k → ∀ c e fr, E.w.heap[b]? = some (.cells c e fr) → E'.w.heap[b]? = some (.cells c e fr))
    (hk : ∀ cs, o = .box cs → ∀ n, A.mem.memL n cs = true → K n) : ObjRel E' o p := by
  cases o with
  | box cs =>
    cases p with
    | loc b k =>
      simp only [ObjRel] at hr ⊢
      obtain ⟨⟨c, e, fr, hc, hf⟩, hm⟩ := hr
      have hc' := hp b k rfl c e fr hc
      refine ⟨⟨c, e, fr, hc', hf⟩, RepM_iff.2 fun i x hx => ?_⟩
      obtain ⟨v, hv, h1, hrep⟩ := RepM_iff.1 hm i x hx
      refine ⟨v, by simpa only [World.cell?, hc, hc'] using hv, h1, Rep.mono h x v hrep fun n hn => hk cs rfl n ?_⟩
      have hmem := List.mem_of_getElem? hx
      clear hx hm hk
      induction cs with
      | nil => simp at hmem
      | cons y ys ih =>
        rcases List.mem_cons.1 hmem with rfl | hm'
        · simp [A.mem.memL, hn]
        · simp [A.mem.memL, ih hm']
    | _ => simp [ObjRel] at hr
  | row k es =>
    cases p with
    | loc b k' =>
      simp only [ObjRel] at hr ⊢
      obtain ⟨hkk, hp', ⟨c, e, fr, hc, hf⟩, hm⟩ := hr
      have hc' := hp b k' rfl c e fr hc
      refine ⟨hkk, hp', ⟨c, e, fr, hc', hf⟩, RepE_iff.2 fun i x hx => ?_⟩
      obtain ⟨hl, hmm⟩ := RepE_iff.1 hm i x hx
      refine ⟨hl, RepM_iff.2 fun j y hy => ?_⟩
      obtain ⟨v, hv, h1, hrep⟩ := RepM_iff.1 hmm j y hy
      refine ⟨v, by simpa only [World.cell?, hc, hc'] using hv, h1, Rep.mono h y v hrep fun n hn => ?_⟩
      exfalso
      have hpx : x.pure = true := by
        have hmem := List.mem_of_getElem? hx
        clear hx hm hk
        induction es with
        | nil => simp at hmem
        | cons z zs ih =>
          simp only [A.pure.pureL, Bool.and_eq_true] at hp'
          rcases List.mem_cons.1 hmem with rfl | hm'
          · exact hp'.1
          · exact ih hp'.2 hm'
      have hpy : y.pure = true := by
        have hmem := List.mem_of_getElem? hy
        cases x
        case agg cs =>
          simp only [A.pure] at hpx
          simp only [A.cells] at hmem
          clear hy hmm hl hx
          induction cs with
          | nil => simp at hmem
          | cons z zs ih =>
            simp only [A.pure.pureL, Bool.and_eq_true] at hpx
            rcases List.mem_cons.1 hmem with rfl | hm'
            · exact hpx.1
            · exact ih hpx.2 hm'
        all_goals
          simp only [A.cells, List.mem_singleton] at hmem
          subst hmem
          exact hpx
      rw [A.mem_of_pure n y hpy] at hn
      cases hn
    | nil => simpa only [ObjRel] using hr
    | free => simpa only [ObjRel] using hr
structure Grew (w w' : World) : Prop where
  size : w.heap.size ≤ w'.heap.size
  block : ∀ b, b < w.heap.size → w'.heap[b]? = w.heap[b]?
  os : w'.os = w.os
  tape : w'.tape = w.tape
  output : w'.output = w.output
  drawn : DR → w.drawn ≤ w'.drawn
theorem Grew.refl (w : World) : Grew w w := ⟨Nat.le_refl _, fun _ _ => rfl, rfl, rfl, rfl, fun _ => Nat.le_refl _⟩
theorem Grew.trans {w w' w'' : World} (h : Grew w w') (h' : Grew w' w'') : Grew w w'' :=
  ⟨Nat.le_trans h.size h'.size, fun b hb => (h'.block b (Nat.lt_of_lt_of_le hb h.size)).trans (h.block b hb), h'.os.trans h.os, h'.tape.trans h.tape, h'.output.trans h.output, fun hd => Nat.le_trans (h.drawn hd) (h'.drawn hd)⟩
theorem Grew.alloc (w : World) (o : Go.Obj) : Grew w (w.alloc o) := ⟨by simp, fun b hb => Below.heap_alloc w o b hb, rfl, rfl, rfl, fun _ => Nat.le_refl _⟩
theorem Grew.drew (w : World) : Grew w w.drew := ⟨Nat.le_refl _, fun _ _ => rfl, rfl, rfl, rfl, fun _ => Nat.le_succ _⟩
theorem Grew.toBelow {w w' : World} (g : Grew w w') : Below w.heap.size w w' := ⟨g.os, g.tape, g.output, g.size, g.block⟩
theorem Kept.refl (w0 : Base) : Kept w0 w0.toWorld := ⟨rfl, rfl, rfl, fun _ => Nat.le_refl _, Nat.le_refl _, fun _ _ _ => rfl, fun _ c _ fr h => ⟨c, fr, h, rfl⟩⟩
theorem Grew.below {w0 : Base} {w w' : World} (h : Kept w0 w) (g : Grew w w') : Kept w0 w' where
  os := g.os.trans h.os
  tape := g.tape.trans h.tape
  output := g.output.trans h.output
  drawn := fun hd => Nat.le_trans (h.drawn hd) (g.drawn hd)
  size := Nat.le_trans h.size g.size
  block := fun b hb hM => (g.block b (Nat.lt_of_lt_of_le hb h.size)).trans (h.block b hb hM)
  shape := fun b c e fr hc => by
    obtain ⟨c', fr', h1, h2⟩ := h.shape b c e fr hc
    have hb : b < w.heap.size := (Array.getElem?_eq_some_iff.1 h1).1
    exact ⟨c', fr', by rw [g.block b hb]; exact h1, h2⟩
theorem Conc.ext_grew (h : Conc N0 w0 nt σ φ a w) {w' : World} (g : Grew w w') : Ext (fun _ => True) (envOf N0 φ w) (envOf N0 φ w') where
  size := g.size
  blk := fun b hb hn => ⟨hn, g.block b hb⟩
  refs := fun n o _ ho _ => ho
  own := fun n b k c e fr _ ho hc => ⟨c, fr, by
    have := (h.own n b k ho).2
    show w'.heap[b]? = _
    rw [g.block b this]; exact hc, rfl⟩
theorem Conc.grew (h : Conc N0 w0 nt σ φ a w) {w' : World} (g : Grew w w') : Conc N0 w0 nt σ φ a w' where
  slots := fun d => Rep.mono (h.ext_grew g) _ _ (h.slots d) (fun _ _ => trivial)
  size := h.size
  defers := h.defers
  len := h.len
  objs := fun n o p ho hp => ObjRel.mono (h.ext_grew g) (h.objs n o p ho hp) (fun b k hb c e fr hc => by
    subst hb
    show w'.heap[b]? = _
    rw [g.block b (h.own n b k hp).2]; exact hc) (fun _ _ _ _ => trivial)
  own := fun n b k hb => ⟨(h.own n b k hb).1, Nat.lt_of_lt_of_le (h.own n b k hb).2 g.size⟩
  inj := h.inj
  n0 := h.n0
  fixd := h.fixd
  below := g.below h.below
theorem Conc.rep_grew (h : Conc N0 w0 nt σ φ a w) {w' : World} (g : Grew w w') {x : A} {v : Value} (hr : Rep (envOf N0 φ w) x v) : Rep (envOf N0 φ w') x v :=
  Rep.mono (h.ext_grew g) x v hr (fun _ _ => trivial)
theorem getD_put {a : Act} {d : Nat} {v : Value} (hd : d < a.tmps.size) (t : Nat) : (a.put (some d) v).tmps.getD t undef = if d = t then v else a.tmps.getD t undef := by
  simp only [Act.put]
  by_cases ht : d = t
  · subst ht; simp [Array.getD, hd]
  · rw [if_neg ht]
    simp only [Array.getD_eq_getD_getElem?, Array.getElem?_setIfInBounds]
    rw [if_neg ht]
theorem Conc.put (h : Conc N0 w0 nt σ φ a w) {d : Option Tmp} (hd : ∀ t, d = some t → t < nt) {x : A} {v : Value} (hr : Rep (envOf N0 φ w) x v) :
    Conc N0 w0 nt (σ.put d x) φ (a.put d v) w := by
  cases d with
  | none => exact h
  | some d =>
    have hd' : d < a.tmps.size := by rw [h.size]; exact hd d rfl
    exact { h with
      slots := fun t => by
        rw [getD_put hd' t]
        show Rep _ (look ((d, x) :: σ.s) t) _
        simp only [look]
        split
        · exact hr
        · exact h.slots t
      size := by simp only [Act.put, Array.size_setIfInBounds]; exact h.size
      defers := h.defers }
theorem rep_undef (E : Env) : Rep E (.tup []) undef := by simp [Rep, RepL, undef]
theorem Rep_toA1 (E : Env) (v : Value) : Rep E (toA1 v) v := by
  unfold toA1
  split <;> first
    | (simp only [Rep]; done)
    | (simp [Rep, RepL]; done)
    | (simp only [Rep]; exact ⟨[], rfl, by simp [RepL]⟩)
theorem Rep_toA (E : Env) (v : Value) : Rep E (toA v) v := by
  unfold toA
  split
  · rename_i cs
    split
    · rename_i hall
      simp only [Rep]
      refine ⟨cs, rfl, RepL_iff.2 ⟨by simp, fun i x u hx hu => ?_⟩, fun u hu => List.all_eq_true.1 hall u hu⟩
      rw [List.getElem?_map, hu] at hx
      simp at hx
      subst hx
      exact Rep_toA1 E u
    · simp only [Rep]
  · exact Rep_toA1 E v
theorem Conc.ev (h : Conc N0 w0 nt σ φ a w) (x : Operand) : Rep (envOf N0 φ w) (σ.ev x) (a.eval x) := by
  match x with
  | .tmp t => exact h.slots t
  | .const v => exact Rep_toA _ v
  | .func f => simp only [St.ev, Act.eval, Rep]; exact ⟨[], rfl, by simp [RepL]⟩
  | .global g => simp only [St.ev, Rep]
end
end Go.Abs
namespace Go.Abs
open Go.RowKit
section
variable {P : Program} {w : World}
theorem tyAgg_true {t : TypeId} (h : tyAgg P t = some true) : ∃ d, P.underlying t = some d ∧ d.isRow = true := by
  unfold tyAgg at h
  split at h <;> first
    | (rename_i hu; exact ⟨_, hu, rfl⟩)
    | simp at h
theorem tyAgg_false {t : TypeId} (h : tyAgg P t = some false) : ∃ d, P.underlying t = some d ∧ d.isRow = false := by
  unfold tyAgg at h
  split at h
  · simp at h
  · simp at h
  · rename_i d h1 h2 hu
    refine ⟨d, hu, ?_⟩
    cases d <;> first | rfl | (exact (h1 _ rfl).elim) | (exact (h2 _ _ rfl).elim)
  · simp at h
theorem run_isAgg_true {t : TypeId} (h : tyAgg P t = some true) : (isAgg t).run P w = .ok true w := by
  obtain ⟨d, hu, hd⟩ := tyAgg_true h
  unfold isAgg
  rw [Sem.run_bind, run_underlying hu w]
  cases d <;> simp_all
theorem run_isAgg_false {t : TypeId} (h : tyAgg P t = some false) : (isAgg t).run P w = .ok false w := by
  obtain ⟨d, hu, hd⟩ := tyAgg_false h
  unfold isAgg
  rw [Sem.run_bind, run_underlying hu w]
  cases d <;> simp_all
theorem run_sizeOf {t n : Nat} (h : tySize P t = some n) : (sizeOf t).run P w = .ok n w := by
  unfold tySize at h
  cases hq : P.info? t with
  | none => simp [hq] at h
  | some i => simp [hq] at h; simp [sizeOf, typeInfo, hq, h]
theorem tyElem_eq {t e : Nat} (h : tyElem P t = some e) : P.underlying t = some (.slice e) := by
  unfold tyElem at h
  split at h
  · rename_i hu; simp at h; subst h; exact hu
  · simp at h
theorem tyArr_eq {t n e : Nat} (h : tyArr P t = some (n, e)) : P.underlying t = some (.array n e) := by
  unfold tyArr at h
  split at h
  · rename_i hu; simp at h; obtain ⟨rfl, rfl⟩ := h; exact hu
  · simp at h
theorem tyStr_eq {t : Nat} (h : tyStr P t = true) : P.underlying t = some .string := by
  unfold tyStr at h
  split at h
  · assumption
  · simp at h
theorem tyInt_eq {t : Nat} {k : IntKind} (h : tyInt P t = some k) : P.underlying t = some (.int k) := by
  unfold tyInt at h
  split at h
  · rename_i hu; simp at h; subst h; exact hu
  · simp at h
theorem tyPtr_eq {t : Nat} (h : tyPtr P t = true) : ∃ e, P.underlying t = some (.pointer e) := by
  unfold tyPtr at h
  split at h
  · rename_i e hu; exact ⟨e, hu⟩
  · simp at h
theorem fieldInfo_eq {s f o t : Nat} (h : fieldInfo P s f = some (o, t)) :
    ∃ fs x n, P.underlying s = some (.struct fs) ∧ fs[f]? = some x ∧ x.offset = o ∧ x.type = t ∧ tySize P t = some n ∧ n ≠ 0 := by
  unfold fieldInfo at h
  split at h
  · rename_i fs hu
    cases hx : fs[f]? with
    | none => simp [hx] at h
    | some x =>
      simp only [hx, Option.bind_some] at h
      split at h
      · simp at h
      · rename_i h0
        split at h
        · simp at h
        · rename_i h1
          simp at h
          obtain ⟨rfl, rfl⟩ := h
          cases hs : tySize P x.type with
          | none => simp [hs] at h1
          | some n => exact ⟨fs, x, n, hu, hx, rfl, rfl, rfl, fun hn => h0 (by rw [hs, hn])⟩
  · simp at h
theorem run_v {s : Sem Value} {v : Value} {w' : World} (h : s.run P w = .ok v w') : (do pure (Next.value (← s)) : Sem Next).run P w = .ok (.value v) w' := by
  simp [h]
theorem run_u {s : Sem Unit} {w' : World} (h : s.run P w = .ok () w') : (do s; pure Next.skip : Sem Next).run P w = .ok .skip w' := by
  simp [h]
end
def Good (P : Program) (o : Oper) (a : Act) (w : World) (N0 : Nat → Prop) (φ : List Own) (x : A) : Prop :=
  ∃ v w', (Go.execOp a.eval o).run P w = .ok (.value v) w' ∧ Grew w w' ∧ Rep (envOf N0 φ w') x v
section
variable {P : Program} {N0 : Nat → Prop} {w0 : Base} {nt : Nat} {σ : St} {φ : List Own} {a : Act} {w : World}
theorem good_same {o : Oper} {s : Sem Value} {x : A} {v : Value} (ho : Go.execOp a.eval o = (do pure (Next.value (← s)))) (hr : s.run P w = .ok v w) (h : Rep (envOf N0 φ w) x v) : Good P o a w N0 φ x :=
  ⟨v, w, by rw [ho]; exact run_v hr, Grew.refl w, h⟩
theorem run_builtin {b : Builtin} {xs : List Operand} {us : Array TypeId} {d : Option Tmp} {t : TypeId} {p : String} {af : Array Edge} {g : Option (Nat × Bool)} :
    ∃ cs, (Go.execOp a.eval ⟨d, .call ⟨.builtin b, ⟨xs⟩, us⟩, t, p, af, g⟩).run P w = (builtin b us t cs (xs.map a.eval).toArray).run P w := by
  refine ⟨xs.toArray.map fun | .const _ => true | _ => false, ?_⟩
  simp only [Go.execOp, resolve, invoke, Sem.run_bind, Sem.run_pure, Result.andThen_ok]
  rw [← List.map_toArray]
  rfl
theorem good_builtin {b : Builtin} {xs : List Operand} {us : Array TypeId} {d : Option Tmp} {t : TypeId} {p : String} {af : Array Edge} {g : Option (Nat × Bool)} {s : Sem Value} {x : A} {v : Value}
    (ho : ∀ cs, builtin b us t cs (xs.map a.eval).toArray = (do pure (Next.value (← s)))) (hr : s.run P w = .ok v w) (h : Rep (envOf N0 φ w) x v) : Good P ⟨d, .call ⟨.builtin b, ⟨xs⟩, us⟩, t, p, af, g⟩ a w N0 φ x := by
  obtain ⟨cs, hcs⟩ := run_builtin (P := P) (a := a) (w := w) (b := b) (xs := xs) (us := us) (d := d) (t := t) (p := p) (af := af) (g := g)
  exact ⟨v, w, by rw [hcs, ho]; exact run_v hr, Grew.refl w, h⟩
theorem size_mk (s : List UInt8) : (⟨s.toArray⟩ : ByteArray).size = s.length := rfl
theorem rep_int {E : Env} {k : IntKind} {n : Int} {v : Value} (h : Rep E (.int k n) v) : v = .int k n := by simpa only [Rep] using h
theorem rep_bool {E : Env} {b : Bool} {v : Value} (h : Rep E (.bool b) v) : v = .bool b := by simpa only [Rep] using h
theorem rep_str {E : Env} {s : List UInt8} {v : Value} (h : Rep E (.str s) v) : v = .string ⟨s.toArray⟩ := by simpa only [Rep] using h
theorem good_move (h : Conc N0 w0 nt σ φ a w) {d : Option Tmp} {x : Operand} {t : TypeId} {p : String} {af : Array Edge} {g : Option (Nat × Bool)} : Good P ⟨d, .move x, t, p, af, g⟩ a w N0 φ (σ.ev x) :=
  ⟨a.eval x, w, rfl, Grew.refl w, h.ev x⟩
theorem good_assign (h : Conc N0 w0 nt σ φ a w) {d : Option Tmp} {x : Operand} {t : TypeId} {p : String} {af : Array Edge} {g : Option (Nat × Bool)} : Good P ⟨d, .assign x, t, p, af, g⟩ a w N0 φ (σ.ev x) :=
  ⟨a.eval x, w, rfl, Grew.refl w, h.ev x⟩
theorem good_pick (h : Conc N0 w0 nt σ φ a w) {d : Option Tmp} {x y z : Operand} {t : TypeId} {p : String} {af : Array Edge} {g : Option (Nat × Bool)} {r : A}
    (hr : pickA (σ.ev x) (σ.ev y) (σ.ev z) = some r) : Good P ⟨d, .pick x y z, t, p, af, g⟩ a w N0 φ r := by
  cases hc : σ.ev x <;> simp only [hc, pickA] at hr <;> try (simp at hr; done)
  rename_i b
  have hx := h.ev x
  rw [hc] at hx
  have hx' := rep_bool hx
  refine ⟨if b then a.eval y else a.eval z, w, ?_, Grew.refl w, ?_⟩
  · simp [Go.execOp, hx', asBool]
  · simp at hr
    subst hr
    cases b
    · simpa using h.ev z
    · simpa using h.ev y
theorem good_fieldAddr (h : Conc N0 w0 nt σ φ a w) {d : Option Tmp} {x : Operand} {s f : Nat} {t : TypeId} {p : String} {af : Array Edge} {g : Option (Nat × Bool)} {r : A}
    (hr : fieldAddrI (fieldInfo P s f) (σ.ev x) = some r) : Good P ⟨d, .fieldAddr s x f, t, p, af, g⟩ a w N0 φ r := by
  cases hf : fieldInfo P s f with
  | none => simp [hf, fieldAddrI] at hr
  | some q =>
    obtain ⟨o, ft⟩ := q
    rw [hf] at hr
    simp only [fieldAddrI] at hr
    obtain ⟨fs, fx, n, hu, hfx, rfl, rfl, hn, hn0⟩ := fieldInfo_eq hf
    have key : ∀ b off : Nat, a.eval x = .pointer (some ⟨b, off, none⟩) → (Instr.fieldAt s (a.eval x) f).run P w = .ok (.pointer (some ⟨b, off + fx.offset, none⟩)) w := by
      intro b off hx
      have hz : (sizeOf fx.type).run P w = .ok n w := run_sizeOf hn
      simp [Instr.fieldAt, run_underlying hu, hfx, hx, Instr.sureAddr, fieldPlace, hz, hn0, Addr.add_mid]
    have hx := h.ev x
    cases hc : σ.ev x <;> simp only [hc, fieldAddrA] at hr <;> try (simp at hr; done)
    · rename_i cs
      simp at hr
      subst hr
      rw [hc] at hx
      simp only [Rep] at hx
      obtain ⟨hp, b, off, hv, hb, hnb, hm⟩ := hx
      refine good_same rfl (key b off hv) ?_
      simp only [Rep]
      refine ⟨?_, b, off + fx.offset, rfl, hb, hnb, RepM_drop hm⟩
      clear hm hc hv
      generalize fx.offset = m
      induction cs generalizing m with
      | nil => simp [A.pure.pureL]
      | cons y ys ih =>
        simp only [A.pure.pureL, Bool.and_eq_true] at hp
        cases m with
        | zero => simp [A.pure.pureL, hp]
        | succ m => simpa using ih hp.2 m
    · rename_i n' off
      simp at hr
      subst hr
      rw [hc] at hx
      simp only [Rep] at hx
      obtain ⟨b, k, hb, hv⟩ := hx
      refine good_same rfl (key b off hv) ?_
      simp only [Rep]
      exact ⟨b, k, hb, rfl⟩
    · rename_i n' i off
      simp at hr
      subst hr
      rw [hc] at hx
      simp only [Rep] at hx
      obtain ⟨b, k, hb, hv⟩ := hx
      refine good_same rfl (key b (i * k + off) hv) ?_
      simp only [Rep]
      exact ⟨b, k, hb, by rw [Nat.add_assoc]⟩
theorem load_mem {E : Env} {t : TypeId} {cs : List A} {x : A} {b off : Nat} (hm : RepM E b off cs) (hl : loadC P t cs = some x) : ∃ v, (loadVar t ⟨b, off, none⟩).run P E.w = .ok v E.w ∧ Rep E x v ∧ (x.val = true ∨ v.oneCell' = true) := by
  unfold loadC at hl
  split at hl
  · rename_i hag
    split at hl
    · rename_i n hn
      split at hl
      · rename_i hle
        simp at hl
        subst hl
        obtain ⟨vs, hr, hL, h1⟩ := RepM_vals (RepM_take (n := n) hm)
        obtain ⟨d, hu, hd⟩ := tyAgg_true hag
        have hlen : vs.length = n := by rw [← (RepL_iff.1 hL).1]; simp; omega
        refine ⟨.agg vs.toArray, run_loadVar_mid E.w b off t vs d hr hu hd (by unfold tySize at hn; rw [hn, hlen]), ?_, .inl rfl⟩
        simp only [Rep]
        exact ⟨vs, rfl, hL, h1⟩
      · simp at hl
    · simp at hl
  · rename_i hag
    cases cs with
    | nil => simp at hl
    | cons c cs =>
      simp at hl
      subst hl
      simp only [RepM] at hm
      obtain ⟨⟨v, hv, h1, hrep⟩, _⟩ := hm
      exact ⟨v, by simp [loadVar, run_isAgg_false hag, hv], hrep, .inr h1⟩
  · simp at hl
theorem pureL_getElem {es : List A} (h : A.pure.pureL es = true) {i : Nat} {e : A} (hi : es[i]? = some e) : e.pure = true := by
  induction es generalizing i with
  | nil => simp at hi
  | cons z zs ih =>
    simp only [A.pure.pureL, Bool.and_eq_true] at h
    cases i with
    | zero => simp at hi; subst hi; exact h.1
    | succ i => exact ih h.2 (by simpa using hi)
theorem pureL_of {es : List A} (h : ∀ (i : Nat) (e : A), es[i]? = some e → e.pure = true) : A.pure.pureL es = true := by
  induction es with
  | nil => rfl
  | cons z zs ih =>
    simp only [A.pure.pureL, Bool.and_eq_true]
    exact ⟨h 0 z rfl, ih fun i e he => h (i + 1) e (by simpa using he)⟩
theorem pureL_drop {es : List A} {n : Nat} (h : A.pure.pureL es = true) : A.pure.pureL (es.drop n) = true :=
  pureL_of fun i e he => pureL_getElem h (i := n + i) (by simpa [List.getElem?_drop] using he)
theorem pureL_take {es : List A} {n : Nat} (h : A.pure.pureL es = true) : A.pure.pureL (es.take n) = true :=
  pureL_of fun i e he => pureL_getElem h (i := i) (by
    rw [List.getElem?_take] at he
    split at he
    · exact he
    · simp at he)
theorem pure_cells {e : A} (h : e.pure = true) : A.pure.pureL e.cells = true := by
  cases e <;> simp_all [A.pure, A.cells, A.pure.pureL]
theorem good_load (h : Conc N0 w0 nt σ φ a w) {d : Option Tmp} {x : Operand} {s : Nat} {t : TypeId} {p : String} {af : Array Edge} {g : Option (Nat × Bool)} {r : A}
    (hr : loadA P s σ.H (σ.ev x) = some r) : Good P ⟨d, .load s x, t, p, af, g⟩ a w N0 φ r := by
  have hx := h.ev x
  cases hc : σ.ev x <;> simp only [hc, loadA] at hr <;> try (simp at hr; done)
  · rw [hc] at hx
    simp only [Rep] at hx
    obtain ⟨hp, b, off, hv, hb, hnb, hm⟩ := hx
    obtain ⟨v, hv', hrep, _⟩ := load_mem hm hr
    replace hv' : (loadVar s ⟨b, off, none⟩).run P w = .ok v w := hv'
    exact good_same rfl (by rw [hv]; simpa [Instr.loadAt, Instr.sureAddr] using hv') hrep
  · rename_i n off
    rw [hc] at hx
    simp only [Rep] at hx
    obtain ⟨b, k, hb, hv⟩ := hx
    split at hr
    · rename_i cs hcs
      have ho := h.objs n _ _ hcs hb
      simp only [ObjRel] at ho
      have hm := RepM_drop (n := off) ho.2
      obtain ⟨v, hv', hrep, _⟩ := load_mem hm hr
      replace hv' : (loadVar s ⟨b, 0 + off, none⟩).run P w = .ok v w := hv'
      rw [Nat.zero_add] at hv'
      exact good_same rfl (by rw [hv]; simpa [Instr.loadAt, Instr.sureAddr] using hv') hrep
    · simp at hr
  · rename_i n i off
    rw [hc] at hx
    simp only [Rep] at hx
    obtain ⟨b, k, hb, hv⟩ := hx
    split at hr
    · rename_i k' es hcs
      have ho := h.objs n _ _ hcs hb
      simp only [ObjRel] at ho
      obtain ⟨rfl, hpu, hblk, he⟩ := ho
      cases hi : es[i]? with
      | none => simp [hi] at hr
      | some e =>
        simp only [hi, Option.bind_some] at hr
        obtain ⟨hl, hm⟩ := RepE_iff.1 he i e hi
        have hm' := RepM_drop (n := off) hm
        obtain ⟨v, hv', hrep, _⟩ := load_mem hm' hr
        replace hv' : (loadVar s ⟨b, 0 + i * k' + off, none⟩).run P w = .ok v w := hv'
        rw [Nat.zero_add] at hv'
        exact good_same rfl (by rw [hv]; simpa [Instr.loadAt, Instr.sureAddr] using hv') hrep
    · simp at hr
theorem good_nilCheck (h : Conc N0 w0 nt σ φ a w) {d : Option Tmp} {x : Operand} {t : TypeId} {p : String} {af : Array Edge} {g : Option (Nat × Bool)} {r : A}
    (hr : nilCheckA (σ.ev x) = some r) : Good P ⟨d, .nilCheck x, t, p, af, g⟩ a w N0 φ r := by
  have hx := h.ev x
  cases hc : σ.ev x <;> simp only [hc, nilCheckA] at hr <;> try (simp at hr; done)
  all_goals
    simp at hr
    subst hr
    rw [hc] at hx
    refine ⟨a.eval x, w, ?_, Grew.refl w, hx⟩
    simp only [Rep] at hx
  · obtain ⟨hp, b, off, hv, hb, hnb, hm⟩ := hx
    simp [Go.execOp, hv]
  · obtain ⟨b, k, hb, hv⟩ := hx
    simp [Go.execOp, hv]
  · obtain ⟨b, k, hb, hv⟩ := hx
    simp [Go.execOp, hv]
  · obtain ⟨vs, hv, _⟩ := hx
    simp [Go.execOp, hv]
theorem good_makeFunc (h : Conc N0 w0 nt σ φ a w) {d : Option Tmp} {f : Fn} {xs ys : Array Operand} {t : TypeId} {p : String} {af : Array Edge} {g : Option (Nat × Bool)} {r : A}
    (hr : makeFuncA f (σ.evL xs.toList) (σ.evL ys.toList) = some r) : Good P ⟨d, .makeFunc f xs ys, t, p, af, g⟩ a w N0 φ r := by
  cases f <;> simp only [makeFuncA] at hr <;> try (simp at hr; done)
  rename_i f
  cases hxs : σ.evL xs.toList with
  | cons _ _ => simp [hxs] at hr
  | nil =>
    simp only [hxs] at hr
    simp at hr
    subst hr
    have hx0 : xs = #[] := by
      cases hl : xs.toList with
      | nil => exact Array.toList_eq_nil_iff.1 hl
      | cons _ _ => simp [hl, St.evL] at hxs
    subst hx0
    refine ⟨.func (.func f) #[] (ys.map a.eval), w, ?_, Grew.refl w, ?_⟩
    · simp [Go.execOp, Instr.makeFunc]
    · simp only [Rep]
      refine ⟨(ys.map a.eval).toList, rfl, ?_⟩
      simp only [Array.toList_map]
      generalize ys.toList = l
      induction l with
      | nil => simp [St.evL, RepL]
      | cons y l ih => simp only [St.evL, List.map_cons, RepL]; exact ⟨_, _, rfl, h.ev y, ih⟩
theorem good_extract (h : Conc N0 w0 nt σ φ a w) {d : Option Tmp} {x : Operand} {i : Nat} {t : TypeId} {p : String} {af : Array Edge} {g : Option (Nat × Bool)} {r : A}
    (hr : extractA (σ.ev x) i = some r) : Good P ⟨d, .extract x i, t, p, af, g⟩ a w N0 φ r := by
  have hx := h.ev x
  cases hc : σ.ev x <;> simp only [hc, extractA] at hr <;> try (simp at hr; done)
  rename_i cs
  rw [hc] at hx
  simp only [Rep] at hx
  obtain ⟨vs, hv, hl⟩ := hx
  obtain ⟨h1, h2⟩ := RepL_iff.1 hl
  have hi : i < vs.length := by rw [← h1]; exact (List.getElem?_eq_some_iff.1 hr).1
  refine good_same rfl (v := vs[i]) (by rw [hv]; simp [Instr.extract, hi]) (h2 i _ _ hr (List.getElem?_eq_getElem hi))
theorem good_len (h : Conc N0 w0 nt σ φ a w) {d : Option Tmp} {x : Operand} {u : TypeId} {t : TypeId} {p : String} {af : Array Edge} {g : Option (Nat × Bool)} {r : A}
    (hr : lenA P u (σ.ev x) = some r) : Good P ⟨d, .call ⟨.builtin .len, ⟨[x]⟩, ⟨[u]⟩⟩, t, p, af, g⟩ a w N0 φ r := by
  have hx := h.ev x
  have ho : ∀ cs, builtin .len #[u] t cs ([x].map a.eval).toArray = (do pure (Next.value (← Builtin.len_ #[u] t #[a.eval x]))) := fun cs => rfl
  have arr : ∀ n e, tyArr P u = some (n, e) → r = .int .i64 n → Good P ⟨d, .call ⟨.builtin .len, ⟨[x]⟩, ⟨[u]⟩⟩, t, p, af, g⟩ a w N0 φ r := by
    rintro n e hn rfl
    refine good_builtin ho (v := .int .i64 n) ?_ (by simp only [Rep])
    simp [Builtin.len_, run_underlying (tyArr_eq hn), goInt]
  cases hc : σ.ev x <;> simp only [hc, lenA] at hr
  case str s =>
    split at hr
    · rename_i hs
      simp at hr
      subst hr
      rw [hc] at hx
      refine good_builtin ho (v := .int .i64 s.length) ?_ (by simp only [Rep])
      rw [rep_str hx]
      simp [Builtin.len_, run_underlying (tyStr_eq hs), goInt, size_mk]
    · simp at hr
  case slc es =>
    split at hr
    · rename_i hs
      simp at hr
      subst hr
      rw [hc] at hx
      simp only [Rep] at hx
      obtain ⟨_, b, cap, hv, _⟩ := hx
      obtain ⟨e, he⟩ := Option.isSome_iff_exists.1 hs
      refine good_builtin ho (v := .int .i64 es.length) ?_ (by simp only [Rep])
      rw [hv]
      simp [Builtin.len_, run_underlying (tyElem_eq he), goInt]
    · simp at hr
  case clip es =>
    split at hr
    · rename_i hs
      simp at hr
      subst hr
      rw [hc] at hx
      simp only [Rep] at hx
      obtain ⟨_, b, hv, _⟩ := hx
      obtain ⟨e, he⟩ := Option.isSome_iff_exists.1 hs
      refine good_builtin ho (v := .int .i64 es.length) ?_ (by simp only [Rep])
      rw [hv]
      simp [Builtin.len_, run_underlying (tyElem_eq he), goInt]
    · simp at hr
  case nils =>
    split at hr
    · rename_i hs
      simp at hr
      subst hr
      rw [hc] at hx
      simp only [Rep] at hx
      obtain ⟨e, he⟩ := Option.isSome_iff_exists.1 hs
      refine good_builtin ho (v := .int .i64 0) ?_ (by simp only [Rep])
      rw [hx]
      simp [Builtin.len_, run_underlying (tyElem_eq he), goInt]
    · simp at hr
  case row n off k len c =>
    split at hr
    · rename_i hs
      simp at hr
      subst hr
      rw [hc] at hx
      simp only [Rep] at hx
      obtain ⟨e, he⟩ := Option.isSome_iff_exists.1 hs
      refine good_builtin ho (v := .int .i64 len) ?_ (by simp only [Rep])
      rcases hx with ⟨_, _, _, rfl, _, b, hv⟩ | ⟨b, cap, c, e', fr, _, hv, _⟩
      all_goals
        rw [hv]
        simp [Builtin.len_, run_underlying (tyElem_eq he), goInt]
    · simp at hr
  all_goals
    split at hr
    · rename_i n e hn
      simp at hr
      exact arr n e hn hr.symm
    · simp at hr
theorem evalL2 (h : Conc N0 w0 nt σ φ a w) {xs : List Operand} {k k' : IntKind} {m n : Int} (he : σ.evL xs = [.int k m, .int k' n]) : xs.map a.eval = [.int k m, .int k' n] := by
  match xs, he with
  | [x, y], he =>
    simp only [St.evL, List.cons.injEq, and_true] at he
    have h1 := h.ev x
    have h2 := h.ev y
    rw [he.1] at h1
    rw [he.2] at h2
    simp [rep_int h1, rep_int h2]
  | [], he => simp [St.evL] at he
  | [_], he => simp [St.evL] at he
  | _ :: _ :: _ :: _, he => simp [St.evL] at he
theorem good_min (h : Conc N0 w0 nt σ φ a w) {d : Option Tmp} {xs : List Operand} {us : Array TypeId} {t : TypeId} {p : String} {af : Array Edge} {g : Option (Nat × Bool)} {r : A}
    (hr : minA (σ.evL xs) = some r) : Good P ⟨d, .call ⟨.builtin .min, ⟨xs⟩, us⟩, t, p, af, g⟩ a w N0 φ r := by
  unfold minA at hr
  split at hr
  · rename_i k m k' n he
    simp at hr
    subst hr
    have hm := evalL2 h he
    refine good_builtin (s := Builtin.min_ us t (xs.map a.eval).toArray) (fun _ => rfl) (v := .int k (if n < m then n else m)) ?_ (by simp only [Rep])
    simp [Builtin.min_, hm, Builtin.min2]
  · simp at hr
theorem good_max (h : Conc N0 w0 nt σ φ a w) {d : Option Tmp} {xs : List Operand} {us : Array TypeId} {t : TypeId} {p : String} {af : Array Edge} {g : Option (Nat × Bool)} {r : A}
    (hr : maxA (σ.evL xs) = some r) : Good P ⟨d, .call ⟨.builtin .max, ⟨xs⟩, us⟩, t, p, af, g⟩ a w N0 φ r := by
  unfold maxA at hr
  split at hr
  · rename_i k m k' n he
    simp at hr
    subst hr
    have hm := evalL2 h he
    refine good_builtin (s := Builtin.max_ us t (xs.map a.eval).toArray) (fun _ => rfl) (v := .int k (if n > m then n else m)) ?_ (by simp only [Rep])
    simp [Builtin.max_, hm, Builtin.max2]
  · simp at hr
end
end Go.Abs
namespace Go.Abs
open Go.RowKit
def plainV : A → Value
  | .int k n => .int k n
  | .bool b => .bool b
  | .str s => .string ⟨s.toArray⟩
  | _ => undef
theorem plain_of_has {E : Env} {c : CK} {x : A} {v : Value} (h : c.has x = true) (hr : Rep E x v) : v = plainV x := by
  cases c <;> cases x <;> simp_all [CK.has, Rep, plainV]
theorem plainL_of_has {E : Env} : ∀ {ks : List CK} {xs : List A} {vs : List Value}, hasL ks xs = true → RepL E xs vs → vs = xs.map plainV
  | [], [], vs, _, h => by simpa [RepL] using h
  | c :: ks, x :: xs, vs, h, hr => by
    simp only [hasL, Bool.and_eq_true] at h
    simp only [RepL] at hr
    obtain ⟨v, vs', rfl, hx, hl⟩ := hr
    rw [plain_of_has h.1 hx, plainL_of_has h.2 hl]
    rfl
  | [], _ :: _, _, h, _ => by simp [hasL] at h
  | _ :: _, [], _, h, _ => by simp [hasL] at h
theorem hasL_append : ∀ {ks ls : List CK} {xs : List A}, hasL (ks ++ ls) xs = true → hasL ks (xs.take ks.length) = true ∧ hasL ls (xs.drop ks.length) = true
  | [], ls, xs, h => by simpa [hasL] using h
  | c :: ks, ls, [], h => by simp [hasL] at h
  | c :: ks, ls, x :: xs, h => by
    simp only [List.cons_append, hasL, Bool.and_eq_true] at h
    have := hasL_append h.2
    simp only [List.length_cons, List.take_succ_cons, List.drop_succ_cons, hasL, Bool.and_eq_true]
    exact ⟨⟨h.1, this.1⟩, this.2⟩
theorem hasL_length : ∀ {ks : List CK} {xs : List A}, hasL ks xs = true → ks.length = xs.length
  | [], [], _ => rfl
  | c :: ks, x :: xs, h => by
    simp only [hasL, Bool.and_eq_true] at h
    simp [hasL_length h.2]
  | [], _ :: _, h => by simp [hasL] at h
  | _ :: _, [], h => by simp [hasL] at h
theorem eqL_total : ∀ {ks : List CK} {xs ys : List A}, hasL ks xs = true → hasL ks ys = true → ∃ b, eqL xs ys = some b
  | [], [], [], _, _ => ⟨true, rfl⟩
  | c :: ks, x :: xs, y :: ys, h, h' => by
    simp only [hasL, Bool.and_eq_true] at h h'
    obtain ⟨b, hb⟩ := eqL_total h.2 h'.2
    have h1 := h.1
    have h2 := h'.1
    cases c <;> cases x <;> simp [CK.has] at h1 <;> cases y <;> simp [CK.has] at h2
    · subst h1; subst h2; exact ⟨_, by simp only [eqL, eqA, hb, if_true, Option.bind_some, Option.map_some]; rfl⟩
    · exact ⟨_, by simp only [eqL, eqA, hb, Option.bind_some, Option.map_some]; rfl⟩
    · exact ⟨_, by simp only [eqL, eqA, hb, Option.bind_some, Option.map_some]; rfl⟩
  | [], _ :: _, _, h, _ => by simp [hasL] at h
  | [], [], _ :: _, _, h => by simp [hasL] at h
  | _ :: _, [], _, h, _ => by simp [hasL] at h
  | _ :: _, _ :: _, [], _, h => by simp [hasL] at h
theorem eqL_split : ∀ {n : Nat} {xs ys : List A} {b c : Bool}, eqL (xs.take n) (ys.take n) = some b → eqL (xs.drop n) (ys.drop n) = some c → eqL xs ys = some (b && c)
  | 0, xs, ys, b, c, h, h' => by
    simp [eqL] at h
    subst h
    simpa using h'
  | n + 1, [], [], b, c, h, h' => by simp [eqL] at h h'; subst h; subst h'; rfl
  | n + 1, x :: xs, [], b, c, h, h' => by simp [eqL] at h
  | n + 1, [], y :: ys, b, c, h, h' => by simp [eqL] at h
  | n + 1, x :: xs, y :: ys, b, c, h, h' => by
    simp only [List.take_succ_cons, List.drop_succ_cons, eqL] at h h' ⊢
    cases hx : eqA x y with
    | none => simp [hx] at h
    | some r =>
      simp only [hx, Option.bind_some] at h ⊢
      cases he : eqL (xs.take n) (ys.take n) with
      | none => simp [he] at h
      | some s =>
        simp [he] at h
        rw [eqL_split he h']
        simp [← h, Bool.and_assoc]
theorem str_beq (x y : List UInt8) : ((⟨x.toArray⟩ : ByteArray).toList == (⟨y.toArray⟩ : ByteArray).toList) = (x == y) := by
  rw [ByteArray.toList_eq, ByteArray.toList_eq]
section
variable {P : Program} {w : World}
def EqAt (P : Program) (w : World) (t : TypeId) (ks : List CK) (D : Nat) : Prop :=
  ∀ xs ys : List A, hasL ks xs = true → hasL ks ys = true → ∀ b, eqL xs ys = some b →
    (tyAgg P t = some true → (Op.equalIn D t (.agg (xs.map plainV).toArray) (.agg (ys.map plainV).toArray)).run P w = .ok b w) ∧
    (tyAgg P t = some false → ∀ x y, xs = [x] → ys = [y] → (Op.equalIn D t (plainV x) (plainV y)).run P w = .ok b w) ∧ (tyAgg P t ≠ none) ∧ (tyAgg P t = some false → ks.length = 1)
theorem eqFields_go (D : Nat) (rec : TypeId → Option (List CK)) (hrec : ∀ t ks, rec t = some ks → EqAt P w t ks D) (X Y : List A) :
    ∀ (fs : List Field) (off : Nat) (ks : List CK), ckGo rec (tySize P) fs off = some ks → hasL ks (X.drop off) = true → hasL ks (Y.drop off) = true →
      ∀ b, eqL (X.drop off) (Y.drop off) = some b → (Op.eqFields D (X.map plainV).toArray (Y.map plainV).toArray fs).run P w = .ok b w
  | [], off, ks, hg, hx, hy, b, hb => by
    simp [ckGo] at hg
    subst hg
    cases hX : X.drop off with
    | cons _ _ => simp [hX, hasL] at hx
    | nil =>
      cases hY : Y.drop off with
      | cons _ _ => simp [hY, hasL] at hy
      | nil =>
        rw [hX, hY] at hb
        simp [eqL] at hb
        subst hb
        simp [Op.eqFields]
  | f :: fs, off, ks, hg, hx, hy, b, hb => by
    simp only [ckGo] at hg
    split at hg
    · simp at hg
    · rename_i hf
      have hf1 : ¬ f.name = "_" := fun e => hf (.inl e)
      have hf2 : f.offset = off := Decidable.byContradiction fun e => hf (.inr e)
      split at hg
      · rename_i k1 n hk1 hn
        split at hg
        · rename_i hkn
          cases hgo : ckGo rec (tySize P) fs (off + n) with
          | none => simp [hgo] at hg
          | some k2 =>
            simp [hgo] at hg
            subst hg
            obtain ⟨hx1, hx2⟩ := hasL_append hx
            obtain ⟨hy1, hy2⟩ := hasL_append hy
            rw [hkn] at hx1 hx2 hy1 hy2
            obtain ⟨b1, hb1⟩ := eqL_total hx1 hy1
            rw [List.drop_drop] at hx2 hy2
            obtain ⟨b2, hb2⟩ := eqL_total hx2 hy2
            have hbb := eqL_split hb1 (by rw [List.drop_drop, List.drop_drop]; exact hb2)
            rw [hb] at hbb
            simp at hbb
            have hE := hrec _ _ hk1 _ _ hx1 hy1 b1 hb1
            have hrest := eqFields_go D rec hrec X Y fs (off + n) k2 hgo hx2 hy2 b2 hb2
            have hXn : n = 1 → off < X.length := by
              intro h1
              have := hasL_length hx1
              rw [hkn, h1, List.length_take, List.length_drop] at this
              omega
            have hYn : n = 1 → off < Y.length := by
              intro h1
              have := hasL_length hy1
              rw [hkn, h1, List.length_take, List.length_drop] at this
              omega
            have parts : ∀ Z : List A, tyAgg P f.type = some true → (part f.type (Z.map plainV).toArray off).run P w = .ok (.agg (((Z.drop off).take n).map plainV).toArray) w := by
              intro Z hag
              simp only [part, Sem.run_bind, run_isAgg_true hag, Result.andThen_ok, if_true, run_sizeOf hn, Sem.run_pure]
              congr 2
              apply Array.ext'
              simp [List.extract_eq_take_drop, List.map_take, List.map_drop]
            have step : ∀ x y : Value, (part f.type (X.map plainV).toArray off).run P w = .ok x w → (part f.type (Y.map plainV).toArray off).run P w = .ok y w → (Op.equalIn D f.type x y).run P w = .ok b1 w →
                (Op.eqFields D (X.map plainV).toArray (Y.map plainV).toArray (f :: fs)).run P w = .ok b w := by
              intro x y h1 h2 h3
              simp only [Op.eqFields, ne_eq, hf1, not_false_eq_true, if_true, hf2, Sem.run_bind, h1, h2, h3, Result.andThen_ok, Sem.run_ite, Sem.run_pure, hrest, hbb]
              cases b1 <;> simp
            cases hag : tyAgg P f.type with
            | none => exact absurd hag hE.2.2.1
            | some g =>
              cases g with
              | true => exact step _ _ (parts X hag) (parts Y hag) (hE.1 hag)
              | false =>
                have h1 := hE.2.2.2 hag
                rw [hkn] at h1
                have hXn' := hXn h1
                have hYn' := hYn h1
                rw [h1] at hE
                have hX : (X.drop off).take 1 = [X[off]] := by rw [List.drop_eq_getElem_cons hXn']; rfl
                have hY : (Y.drop off).take 1 = [Y[off]] := by rw [List.drop_eq_getElem_cons hYn']; rfl
                have hp : ∀ (Z : List A) (h : off < Z.length), (part f.type (Z.map plainV).toArray off).run P w = .ok (plainV Z[off]) w := by
                  intro Z h
                  simp [part, run_isAgg_false hag, h]
                exact step _ _ (hp X hXn') (hp Y hYn') (hE.2.1 hag _ _ hX hY)
        · simp at hg
      · simp at hg
theorem ckOf_sound : ∀ (d : Nat) (t : TypeId) (ks : List CK), ckOf P d t = some ks → ∀ D, d ≤ D → EqAt P w t ks D
  | 0, _, _, h, _, _ => by simp [ckOf] at h
  | d + 1, t, ks, h, D, hD => by
    obtain ⟨D', rfl⟩ : ∃ D', D = D' + 1 := ⟨D - 1, by omega⟩
    intro xs ys hx hy b hb
    simp only [ckOf] at h
    split at h
    · rename_i hu
      simp at h
      subst h
      have hag : tyAgg P t = some false := by simp [tyAgg, hu]
      refine ⟨fun h => by simp [hag] at h, fun _ x y hxs hys => ?_, by simp [hag], fun _ => rfl⟩
      subst hxs; subst hys
      cases x <;> simp [hasL, CK.has] at hx
      cases y <;> simp [hasL, CK.has] at hy
      simp [eqL, eqA] at hb
      rw [plainV, plainV, run_equalIn_bool' w D' t _ _ hu, hb]
    · rename_i k hu
      simp at h
      subst h
      have hag : tyAgg P t = some false := by simp [tyAgg, hu]
      refine ⟨fun h => by simp [hag] at h, fun _ x y hxs hys => ?_, by simp [hag], fun _ => rfl⟩
      subst hxs; subst hys
      cases x <;> simp [hasL, CK.has] at hx
      cases y <;> simp [hasL, CK.has] at hy
      subst hx; subst hy
      simp [eqL, eqA] at hb
      rw [plainV, plainV, run_equalIn_int w D' t _ _ _ _ hu, hb]
    · rename_i hu
      simp at h
      subst h
      have hag : tyAgg P t = some false := by simp [tyAgg, hu]
      refine ⟨fun h => by simp [hag] at h, fun _ x y hxs hys => ?_, by simp [hag], fun _ => rfl⟩
      subst hxs; subst hys
      cases x <;> simp [hasL, CK.has] at hx
      cases y <;> simp [hasL, CK.has] at hy
      simp [eqL, eqA] at hb
      rw [plainV, plainV, run_equalIn_string w D' t _ _ hu, str_beq, hb]
    · rename_i fs hu
      split at h
      · simp at h
      · rename_i hst
        have hag : tyAgg P t = some true := by simp [tyAgg, hu]
        refine ⟨fun _ => ?_, fun h => by simp [hag] at h, by simp [hag], fun h => by simp [hag] at h⟩
        have hf : P.fieldsOf t = fs := by simp [Program.fieldsOf, hu]
        rw [run_equalIn_agg w D' t _ _ (by rw [hf]; exact hu) (by simpa using hst), hf]
        exact eqFields_go D' (ckOf P d) (fun t ks h => ckOf_sound d t ks h D' (by omega)) xs ys fs.toList 0 ks h (by simpa using hx) (by simpa using hy) b (by simpa using hb)
    · simp at h
theorem run_eqGuard_one {op : BinOp} {t : TypeId} {x y : Operand} {a b : Value} (h1 : a ≠ .nilIface) (h2 : ∀ xs, a ≠ .agg xs) : (eqGuard op t x y a b).run P w = .ok () w := by
  cases op <;> simp only [eqGuard] <;> first
    | rfl
    | (cases a <;> first | rfl | (exact absurd rfl h1) | (exact absurd rfl (h2 _)))
end
section
variable {P : Program} {N0 : Nat → Prop} {w0 : Base} {nt : Nat} {σ : St} {φ : List Own} {a : Act} {w : World}
theorem good_unOp (h : Conc N0 w0 nt σ φ a w) {d : Option Tmp} {op : UnOp} {x : Operand} {s : Nat} {t : TypeId} {p : String} {af : Array Edge} {g : Option (Nat × Bool)} {r : A}
    (hr : unA op (σ.ev x) = some r) : Good P ⟨d, .unOp op s x, t, p, af, g⟩ a w N0 φ r := by
  have hx := h.ev x
  cases hc : σ.ev x <;> simp only [hc, unA] at hr <;> try (simp at hr; done)
  · cases op <;> simp at hr
    subst hr
    rw [hc] at hx
    refine good_same rfl (v := .int _ _) (by rw [rep_int hx]; rfl) ?_
    simp [Rep]
  · cases op <;> simp at hr
    subst hr
    rw [hc] at hx
    refine good_same rfl (v := .bool _) (by rw [rep_bool hx]; rfl) ?_
    simp only [Rep]
theorem run_binI {op : BinOp} {k : IntKind} {m n : Int} {t : TypeId} {r : A} (ho : op ≠ .shl) (ho' : op ≠ .shr) (hr : binI op k m n = some r) : (binOp op t (.int k m) (.int k n)).run P w = .ok (plainV r) w ∧ ∀ E : Env, Rep E r (plainV r) := by
  cases op <;> simp only [binI] at hr
  case shl => exact absurd rfl ho
  case shr => exact absurd rfl ho'
  case quo =>
    split at hr
    · simp at hr
    · rename_i h0
      obtain rfl := Option.some.inj hr
      exact ⟨by simp [binOp, Op.intDiv, h0, plainV], fun E => by simp [Rep, plainV]⟩
  case rem =>
    split at hr
    · simp at hr
    · rename_i h0
      obtain rfl := Option.some.inj hr
      exact ⟨by simp [binOp, Op.intDiv, h0, plainV], fun E => by simp [Rep, plainV]⟩
  all_goals first
    | (simp at hr; done)
    | (obtain rfl := Option.some.inj hr; exact ⟨by simp [binOp, Op.intArith, Op.intCmp, Op.intBits, plainV], fun E => by simp [Rep, plainV]⟩)
    | (obtain rfl := Option.some.inj hr; exact ⟨by simp only [binOp, Op.intBits, plainV]; simp only [ne_eq, not_true_eq_false, if_false, Sem.run_pure], fun E => by simp [Rep, plainV]⟩)
theorem toList_mk (s : List UInt8) : (⟨s.toArray⟩ : ByteArray).toList = s := by rw [ByteArray.toList_eq]
theorem append_mk (s t : List UInt8) : (⟨s.toArray⟩ : ByteArray) ++ ⟨t.toArray⟩ = ⟨(s ++ t).toArray⟩ := by
  apply ByteArray.ext
  simp
theorem run_binS {op : BinOp} {x y : List UInt8} {t : TypeId} {r : A} (hr : binS op x y = some r) : (binOp op t (.string ⟨x.toArray⟩) (.string ⟨y.toArray⟩)).run P w = .ok (plainV r) w ∧ ∀ E : Env, Rep E r (plainV r) := by
  cases op <;> simp only [binS] at hr
  case add =>
    split at hr
    · rename_i hle
      obtain rfl := Option.some.inj hr
      have : ¬ (IntKind.i64.max < ((x.length : Int) + y.length)) := by simp [IntKind.max, IntKind.signed, IntKind.bits]; omega
      exact ⟨by simp only [binOp, Op.stringOp, size_mk, Int.natCast_add, gt_iff_lt, this, if_false, append_mk, plainV, Sem.run_pure], fun E => by simp [Rep, plainV]⟩
    · simp at hr
  all_goals first
    | (simp at hr; done)
    | (obtain rfl := Option.some.inj hr; exact ⟨by simp only [binOp, Op.stringOp, toList_mk, plainV, Sem.run_pure, bne], fun E => by simp [Rep, plainV]⟩)
theorem run_ptr_nn (d : Nat) {t e : TypeId} (hu : P.underlying t = some (.pointer e)) : (Op.equalIn (d + 1) t (.pointer none) (.pointer none)).run P w = .ok true w := by
  simp [Op.equalIn, run_underlying hu]
theorem run_ptr_ns (d : Nat) {t e : TypeId} (hu : P.underlying t = some (.pointer e)) (q : Addr) : (Op.equalIn (d + 1) t (.pointer none) (.pointer (some q))).run P w = .ok false w := by
  simp [Op.equalIn, run_underlying hu]
theorem run_ptr_sn (d : Nat) {t e : TypeId} (hu : P.underlying t = some (.pointer e)) (q : Addr) : (Op.equalIn (d + 1) t (.pointer (some q)) (.pointer none)).run P w = .ok false w := by
  simp [Op.equalIn, run_underlying hu]
theorem run_ptr_eql {t : TypeId} {x y : Option Addr} {b : Bool} (h : (Op.equalIn (9999 + 1) t (.pointer x) (.pointer y)).run P w = .ok b w) : (binOp .eql t (.pointer x) (.pointer y)).run P w = .ok (.bool b) w := by
  have h' : (Op.equal t (.pointer x) (.pointer y)).run P w = .ok b w := h
  have e : binOp .eql t (.pointer x) (.pointer y) = (do pure (.bool (← Op.equal t (.pointer x) (.pointer y)))) := by cases x <;> cases y <;> rfl
  rw [e, Sem.run_bind, h']
  rfl
theorem run_ptr_neq {t : TypeId} {x y : Option Addr} {b : Bool} (h : (Op.equalIn (9999 + 1) t (.pointer x) (.pointer y)).run P w = .ok b w) : (binOp .neq t (.pointer x) (.pointer y)).run P w = .ok (.bool (!b)) w := by
  have h' : (Op.equal t (.pointer x) (.pointer y)).run P w = .ok b w := h
  have e : binOp .neq t (.pointer x) (.pointer y) = (do pure (.bool (!(← Op.equal t (.pointer x) (.pointer y))))) := by cases x <;> cases y <;> rfl
  rw [e, Sem.run_bind, h']
  rfl
theorem ptr_of {E : Env} {x : A} {v : Value} (h : Rep E x v) (hp : x.isPtr = true) : ∃ q, v = .pointer (some q) := by
  cases x <;> simp only [A.isPtr] at hp <;> try (simp at hp; done)
  all_goals simp only [Rep] at h
  · obtain ⟨_, b, off, hv, _⟩ := h; exact ⟨_, hv⟩
  · obtain ⟨b, k, _, hv⟩ := h; exact ⟨_, hv⟩
  · obtain ⟨b, k, _, hv⟩ := h; exact ⟨_, hv⟩
theorem good_binOp (h : Conc N0 w0 nt σ φ a w) {d : Option Tmp} {op : BinOp} {x y : Operand} {s u : Nat} {t : TypeId} {p : String} {af : Array Edge} {g : Option (Nat × Bool)} {r : A}
    (hr : binA (eqTy P s) (tyBool P s) (tyPtr P s) (tyElem P s).isSome op (σ.ev x) (σ.ev y) = some r) : Good P ⟨d, .binOp op s x y u, t, p, af, g⟩ a w N0 φ r := by
  have hx := h.ev x
  have hy := h.ev y
  have fin : ∀ v : Value, (eqGuard op s x y (a.eval x) (a.eval y)).run P w = .ok () w → (binOp op s (a.eval x) (a.eval y)).run P w = .ok v w → Rep (envOf N0 φ w) r v → Good P ⟨d, .binOp op s x y u, t, p, af, g⟩ a w N0 φ r := by
    intro v h1 h2 h3
    exact good_same (s := (do eqGuard op s x y (a.eval x) (a.eval y); binOp op s (a.eval x) (a.eval y))) rfl (by simp [h1, h2]) h3
  have nilc : ∀ (q : Option Addr) (n cap : Nat) (c : Bool), a.eval x = .slice q n cap → a.eval y = .slice none 0 0 → q.isNone = c → nilEq (tyElem P s).isSome op c = some r → Good P ⟨d, .binOp op s x y u, t, p, af, g⟩ a w N0 φ r := by
    intro q n cap c h1 h2 h3 h4
    rw [h1, h2] at fin
    have hg : (eqGuard op s x y (.slice q n cap) (.slice none 0 0)).run P w = .ok () w := run_eqGuard_one (by simp) (by simp)
    unfold nilEq at h4
    split at h4
    · rename_i hs
      obtain ⟨e, he⟩ := Option.isSome_iff_exists.1 hs
      have hu := tyElem_eq he
      have hq : ∀ d : Nat, (Op.equalIn (d + 1) s (.slice q n cap) (.slice none 0 0)).run P w = .ok c w := fun d => by
        subst h3
        cases q <;> simp [Op.equalIn, run_underlying hu]
      split at h4
      · obtain rfl := Option.some.inj h4
        exact fin (.bool c) hg (by simp only [binOp]; simp [Op.equal, Op.maxDepth, hq 9999]) (by simp only [Rep])
      · obtain rfl := Option.some.inj h4
        exact fin (.bool !c) hg (by simp only [binOp]; simp [Op.equal, Op.maxDepth, hq 9999]) (by simp only [Rep])
      · simp at h4
    · simp at h4
  unfold binA at hr
  split at hr
  · rename_i k m k' n hcx hcy
    rw [hcx] at hx; rw [hcy] at hy
    rw [rep_int hx, rep_int hy] at fin
    have hg : (eqGuard op s x y (.int k m) (.int k' n)).run P w = .ok () w := run_eqGuard_one (by simp) (by simp)
    split at hr
    · split at hr
      · simp at hr
      · rename_i h0
        simp at hr; subst hr
        exact fin _ hg (by simp [binOp, Op.shift, h0]; rfl) (by simp only [Rep])
    · split at hr
      · simp at hr
      · rename_i h0
        simp at hr; subst hr
        exact fin _ hg (by simp [binOp, Op.shift, h0]; rfl) (by simp only [Rep])
    · rename_i ho1 ho2
      split at hr
      · rename_i hk
        subst hk
        have hh := run_binI (P := P) (w := w) (t := s) ho1 ho2 hr
        exact fin _ hg hh.1 (hh.2 _)
      · simp at hr
  · rename_i m n hcx hcy
    rw [hcx] at hx; rw [hcy] at hy
    rw [rep_bool hx, rep_bool hy] at fin
    have hg : (eqGuard op s x y (.bool m) (.bool n)).run P w = .ok () w := run_eqGuard_one (by simp) (by simp)
    split at hr
    · rename_i hb
      have hu : P.underlying s = some .bool := by
        unfold tyBool at hb
        split at hb
        · assumption
        · simp at hb
      have he : (Op.equalIn 10000 s (.bool m) (.bool n)).run P w = .ok (m == n) w := run_equalIn_bool' w 9999 s m n hu
      split at hr <;> simp at hr <;> subst hr
      · exact fin (.bool (m == n)) hg (by simp [binOp, Op.equal, Op.maxDepth, he]) (by simp only [Rep])
      · exact fin (.bool (m != n)) hg (by simp [binOp, Op.equal, Op.maxDepth, he, bne]) (by simp only [Rep])
    · simp at hr
  · rename_i m n hcx hcy
    rw [hcx] at hx; rw [hcy] at hy
    rw [rep_str hx, rep_str hy] at fin
    have hh := run_binS (P := P) (w := w) (t := s) hr
    exact fin _ (run_eqGuard_one (by simp) (by simp)) hh.1 (hh.2 _)
  · rename_i xs ys hcx hcy
    rw [hcx] at hx; rw [hcy] at hy
    simp only [Rep] at hx hy
    obtain ⟨vs, hvx, hLx, _⟩ := hx
    obtain ⟨us, hvy, hLy, _⟩ := hy
    split at hr
    · rename_i l hks
      split at hr
      · rename_i hh
        unfold eqTy at hks
        split at hks
        · simp at hks
        · rename_i hgu
          obtain ⟨b, hb⟩ := eqL_total hh.1 hh.2
          have hs := ckOf_sound (P := P) (w := w) 10 s l hks 10000 (by omega) xs ys hh.1 hh.2 b hb
          have e1 := plainL_of_has hh.1 hLx
          have e2 := plainL_of_has hh.2 hLy
          subst e1; subst e2
          rw [hvx, hvy] at fin
          have hg : (eqGuard op s x y (.agg (xs.map plainV).toArray) (.agg (ys.map plainV).toArray)).run P w = .ok () w := run_eqGuard_agg w op s x y _ _ (by have := fun h => hgu (.inl h); simpa using this)
          cases hag : tyAgg P s with
          | none => exact absurd hag hs.2.2.1
          | some bb =>
            cases bb with
            | true =>
              have he := hs.1 hag
              split at hr
              · rw [hb] at hr
                obtain rfl := Option.some.inj hr
                exact fin (.bool b) hg (by rw [run_eql_struct, he]; rfl) (by simp only [Rep])
              · rw [hb] at hr
                obtain rfl := Option.some.inj hr
                exact fin (.bool !b) hg (by rw [run_neq_struct, he]; rfl) (by simp only [Rep])
              · simp at hr
            | false => exact absurd (fun h => hgu (.inr h)) (by simp [hag])
      · simp at hr
    · simp at hr
  · rename_i y' hcx
    rw [hcx] at hx
    simp only [Rep] at hx
    rw [hx] at fin
    have hg : ∀ z, (eqGuard op s x y (.pointer none) z).run P w = .ok () w := fun z => run_eqGuard_one (by simp) (by simp)
    split at hr
    · rename_i hp
      obtain ⟨e, hu⟩ := tyPtr_eq hp
      have hnn := run_ptr_nn (w := w) 9999 hu
      split at hr
      · split at hr
        · rename_i hcy
          obtain rfl := Option.some.inj hr
          rw [hcy] at hy
          simp only [Rep] at hy
          rw [hy] at fin
          exact fin (.bool true) (hg _) (run_ptr_eql hnn) (by simp only [Rep])
        · split at hr
          · rename_i hip
            obtain rfl := Option.some.inj hr
            obtain ⟨q, hq⟩ := ptr_of hy hip
            rw [hq] at fin
            exact fin (.bool false) (hg _) (run_ptr_eql (run_ptr_ns 9999 hu q)) (by simp only [Rep])
          · simp at hr
      · split at hr
        · rename_i hcy
          obtain rfl := Option.some.inj hr
          rw [hcy] at hy
          simp only [Rep] at hy
          rw [hy] at fin
          exact fin (.bool false) (hg _) (run_ptr_neq hnn) (by simp only [Rep])
        · split at hr
          · rename_i hip
            obtain rfl := Option.some.inj hr
            obtain ⟨q, hq⟩ := ptr_of hy hip
            rw [hq] at fin
            exact fin (.bool true) (hg _) (run_ptr_neq (run_ptr_ns 9999 hu q)) (by simp only [Rep])
          · simp at hr
      · simp at hr
    · simp at hr
  · rename_i x' hcy hne
    rw [hcy] at hy
    simp only [Rep] at hy
    rw [hy] at fin
    split at hr
    · rename_i hp
      simp only [Bool.and_eq_true] at hp
      obtain ⟨e, hu⟩ := tyPtr_eq hp.1
      obtain ⟨q, hq⟩ := ptr_of hx hp.2
      rw [hq] at fin
      have hg : (eqGuard op s x y (.pointer (some q)) (.pointer none)).run P w = .ok () w := run_eqGuard_one (by simp) (by simp)
      split at hr
      · obtain rfl := Option.some.inj hr
        exact fin (.bool false) hg (run_ptr_eql (run_ptr_sn 9999 hu q)) (by simp only [Rep])
      · obtain rfl := Option.some.inj hr
        exact fin (.bool true) hg (run_ptr_neq (run_ptr_sn 9999 hu q)) (by simp only [Rep])
      · simp at hr
    · simp at hr
  · rename_i c hcx hcy
    rw [hcx] at hx; rw [hcy] at hy
    simp only [Rep] at hx hy
    obtain ⟨q, cap, hv, hq⟩ := hx
    exact nilc q 0 cap c hv hy hq hr
  · rename_i e es hcx hcy
    rw [hcx] at hx; rw [hcy] at hy
    simp only [Rep] at hx hy
    obtain ⟨_, q, cap, hv, _, hm⟩ := hx
    obtain ⟨b, off, hq, _⟩ := hm (by simp)
    exact nilc q _ cap false hv hy (by rw [hq]; rfl) hr
  · simp at hr
end
end Go.Abs
namespace Go.Abs
open Go.RowKit
theorem Rep.pure_mono {E E' : Env} (hw : E'.w = E.w) (hN : ∀ b, ¬ E.N b → ¬ E'.N b) {x : A} {v : Value} (hx : x.pure = true) (h : Rep E x v) : Rep E' x v := by
  refine Rep.mono (K := fun _ => False) ⟨by rw [hw]; exact Nat.le_refl _, fun b _ hn => ⟨hN b hn, by rw [hw]⟩, fun _ _ hk => hk.elim, fun _ _ _ _ _ _ hk => hk.elim⟩ x v h fun n hn => ?_
  rw [A.mem_of_pure n x hx] at hn
  cases hn
theorem RepE.pure_mono {E E' : Env} (hw : E'.w = E.w) (hN : ∀ b, ¬ E.N b → ¬ E'.N b) {k b off : Nat} {es : List A} (hp : A.pure.pureL es = true) (h : RepE E k b off es) : RepE E' k b off es :=
  RepE_iff.2 fun i e he => by
    obtain ⟨hl, hm⟩ := RepE_iff.1 h i e he
    refine ⟨hl, RepM_iff.2 fun j y hy => ?_⟩
    obtain ⟨v, hv, h1, hr⟩ := RepM_iff.1 hm j y hy
    exact ⟨v, by rw [hw]; exact hv, h1, Rep.pure_mono hw hN (pureL_getElem (pure_cells (pureL_getElem hp he)) hy) hr⟩
theorem RepM.pure_mono {E E' : Env} (hw : E'.w = E.w) (hN : ∀ b, ¬ E.N b → ¬ E'.N b) {b off : Nat} {cs : List A} (hp : A.pure.pureL cs = true) (h : RepM E b off cs) : RepM E' b off cs :=
  RepM_iff.2 fun j y hy => by
    obtain ⟨v, hv, h1, hr⟩ := RepM_iff.1 h j y hy
    exact ⟨v, by rw [hw]; exact hv, h1, Rep.pure_mono hw hN (pureL_getElem hp hy) hr⟩
theorem RepL.pure_mono {E E' : Env} (hw : E'.w = E.w) (hN : ∀ b, ¬ E.N b → ¬ E'.N b) {cs : List A} {vs : List Value} (hp : A.pure.pureL cs = true) (h : RepL E cs vs) : RepL E' cs vs := by
  obtain ⟨h1, h2⟩ := RepL_iff.1 h
  exact RepL_iff.2 ⟨h1, fun i x v hx hv => Rep.pure_mono hw hN (pureL_getElem hp hx) (h2 i x v hx hv)⟩
theorem stride_of {E : Env} {k b off : Nat} {es : List A} (h : RepE E k b off es) (hne : es ≠ []) : strideOf es = k := by
  cases es with
  | nil => exact absurd rfl hne
  | cons e es => exact (RepE_cons.1 h).1.1
structure Sees (N0 : Nat → Prop) (φ : List Own) (w : World) (x : A) (N' : Nat → Prop) : Prop where
  le : ∀ b, N' b → (envOf N0 φ w).N b
  own : x.pure = true ∨ ∀ (n b k : Nat), φ[n]? = some (Own.loc b k) → ¬ N' b
section
variable {P : Program} {N0 : Nat → Prop} {w0 : Base} {nt : Nat} {σ : St} {φ : List Own} {a : Act} {w : World}
theorem viewRow_sound (h : Conc N0 w0 nt σ φ a w) {n off k len : Nat} {c : Bool} {y : A} {v : Value} (hv : viewRow σ.H n off k len = some y) (hr : Rep (envOf N0 φ w) (.row n off k len c) v)
    {N' : Nat → Prop} (hle : ∀ b, N' b → (envOf N0 φ w).N b) (hown : ∀ (n b k : Nat), φ[n]? = some (Own.loc b k) → ¬ N' b) : Rep ⟨N', [], w⟩ y v ∧ y.pure = true := by
  unfold viewRow at hv
  split at hv
  · rename_i k' es ho
    split at hv
    · rename_i hc
      obtain ⟨rfl, hlen⟩ := hc
      obtain rfl := Option.some.inj hv
      refine ⟨?_, by simp [A.pure]⟩
      have hl : ((es.drop off).take len).length = len := by simp; omega
      simp only [Rep] at hr ⊢
      rcases hr with ⟨o, hφ, hf, rfl, _, q, hv⟩ | ⟨b, cap, c', e', fr, hφ, hv, hlc, _, hb, _⟩
      · refine ⟨by simp [A.pure.pureL], q, 0, by simpa using hv, by simp, fun hne => absurd (by simp) hne⟩
      · have hob := h.objs n _ _ ho hφ
        simp only [ObjRel] at hob
        obtain ⟨_, hp, _, hE⟩ := hob
        have hE' := RepE_take (n := len) (RepE_drop (n := off) hE)
        have hp' := pureL_take (n := len) (pureL_drop (n := off) hp)
        refine ⟨hp', _, cap, by rw [hl]; exact hv, by rw [hl]; exact hlc, fun hne => ⟨b, off * k', rfl, (h.own n b k' hφ).2, hown n b k' hφ, ?_⟩⟩
        have := RepE.pure_mono (E := envOf N0 φ w) (E' := ⟨N', [], w⟩) rfl (fun b hn hb => hn (hle b hb)) hp' hE'
        rw [stride_of this hne]
        simpa using this
    · simp at hv
  · simp at hv
theorem view0_sound (h : Conc N0 w0 nt σ φ a w) {x y : A} {v : Value} (hv : view0 σ.H x = some y) (hr : Rep (envOf N0 φ w) x v)
    {N' : Nat → Prop} (hs : Sees N0 φ w x N') : Rep ⟨N', [], w⟩ y v ∧ y.pure = true := by
  have hN : ∀ b, ¬ (envOf N0 φ w).N b → ¬ N' b := fun b hn hb => hn (hs.le b hb)
  cases x <;> simp only [view0] at hv <;> try (simp at hv; done)
  case row n off k len c =>
    refine viewRow_sound h hv hr hs.le ?_
    rcases hs.own with hp | ho
    · simp [A.pure] at hp
    · exact ho
  case nils =>
    obtain rfl := Option.some.inj hv
    simp only [Rep] at hr
    exact ⟨by simp only [Rep]; exact ⟨rfl, none, 0, by simpa using hr, Nat.le_refl _, fun hne => absurd rfl hne⟩, by simp [A.pure]⟩
  case emp c =>
    obtain rfl := Option.some.inj hv
    simp only [Rep] at hr
    obtain ⟨q, cap, hq, _⟩ := hr
    exact ⟨by simp only [Rep]; exact ⟨rfl, q, cap, by simpa using hq, Nat.zero_le _, fun hne => absurd rfl hne⟩, by simp [A.pure]⟩
  case clip es =>
    obtain rfl := Option.some.inj hv
    have hr' := Rep.pure_mono (E := envOf N0 φ w) (E' := ⟨N', [], w⟩) rfl hN (by simp [A.pure]) hr
    simp only [Rep] at hr'
    obtain ⟨hp, q, hq, hm⟩ := hr'
    exact ⟨by simp only [Rep]; exact ⟨hp, q, _, hq, Nat.le_refl _, hm⟩, by simp [A.pure]⟩
  all_goals
    obtain rfl := Option.some.inj hv
    exact ⟨Rep.pure_mono (E := envOf N0 φ w) (E' := ⟨N', [], w⟩) rfl hN (by simp [A.pure]) hr, by simp [A.pure]⟩
theorem view0L_get {H : List Obj} : ∀ {xs ys : List A}, view0L H xs = some ys → xs.length = ys.length ∧ ∀ (i : Nat) (x y : A), xs[i]? = some x → ys[i]? = some y → view0 H x = some y
  | [], ys, h => by simp [view0L] at h; subst h; exact ⟨rfl, fun i x y hx => by simp at hx⟩
  | x :: xs, ys, h => by
    simp only [view0L] at h
    cases hx : view0 H x with
    | none => simp [hx] at h
    | some y =>
      simp only [hx, Option.bind_some] at h
      cases hl : view0L H xs with
      | none => simp [hl] at h
      | some ys' =>
        simp [hl] at h
        subst h
        obtain ⟨h1, h2⟩ := view0L_get hl
        refine ⟨by simp [h1], fun i x' y' hx' hy' => ?_⟩
        cases i with
        | zero => simp at hx' hy'; subst hx'; subst hy'; exact hx
        | succ i => exact h2 i x' y' (by simpa using hx') (by simpa using hy')
theorem view1L_get {H : List Obj} : ∀ {xs ys : List A}, view1L H xs = some ys → xs.length = ys.length ∧ ∀ (i : Nat) (x y : A), xs[i]? = some x → ys[i]? = some y → view1 H x = some y
  | [], ys, h => by simp [view1L] at h; subst h; exact ⟨rfl, fun i x y hx => by simp at hx⟩
  | x :: xs, ys, h => by
    simp only [view1L] at h
    cases hx : view1 H x with
    | none => simp [hx] at h
    | some y =>
      simp only [hx, Option.bind_some] at h
      cases hl : view1L H xs with
      | none => simp [hl] at h
      | some ys' =>
        simp [hl] at h
        subst h
        obtain ⟨h1, h2⟩ := view1L_get hl
        refine ⟨by simp [h1], fun i x' y' hx' hy' => ?_⟩
        cases i with
        | zero => simp at hx' hy'; subst hx'; subst hy'; exact hx
        | succ i => exact h2 i x' y' (by simpa using hx') (by simpa using hy')
theorem viewL_get {H : List Obj} : ∀ {xs ys : List A}, viewL H xs = some ys → xs.length = ys.length ∧ ∀ (i : Nat) (x y : A), xs[i]? = some x → ys[i]? = some y → view H x = some y
  | [], ys, h => by simp [viewL] at h; subst h; exact ⟨rfl, fun i x y hx => by simp at hx⟩
  | x :: xs, ys, h => by
    simp only [viewL] at h
    cases hx : view H x with
    | none => simp [hx] at h
    | some y =>
      simp only [hx, Option.bind_some] at h
      cases hl : viewL H xs with
      | none => simp [hl] at h
      | some ys' =>
        simp [hl] at h
        subst h
        obtain ⟨h1, h2⟩ := viewL_get hl
        refine ⟨by simp [h1], fun i x' y' hx' hy' => ?_⟩
        cases i with
        | zero => simp at hx' hy'; subst hx'; subst hy'; exact hx
        | succ i => exact h2 i x' y' (by simpa using hx') (by simpa using hy')
theorem sees_part {N' : Nat → Prop} {x : A} {cs : List A} (hs : Sees N0 φ w x N') (hx : x.pure = true → A.pure.pureL cs = true) {i : Nat} {c : A} (hc : cs[i]? = some c) : Sees N0 φ w c N' :=
  ⟨hs.le, hs.own.imp (fun hp => pureL_getElem (hx hp) hc) id⟩
theorem view1_sound (h : Conc N0 w0 nt σ φ a w) {x y : A} {v : Value} (hv : view1 σ.H x = some y) (hr : Rep (envOf N0 φ w) x v)
    {N' : Nat → Prop} (hs : Sees N0 φ w x N') : Rep ⟨N', [], w⟩ y v ∧ y.pure = true := by
  have hN : ∀ b, ¬ (envOf N0 φ w).N b → ¬ N' b := fun b hn hb => hn (hs.le b hb)
  cases x
  case ref n off =>
    have hown : ∀ (n b k : Nat), φ[n]? = some (Own.loc b k) → ¬ N' b := by
      rcases hs.own with hp | ho
      · simp [A.pure] at hp
      · exact ho
    simp only [view1] at hv
    split at hv
    · rename_i cs ho
      cases hl : view0L σ.H (cs.drop off) with
      | none => simp [hl] at hv
      | some ys =>
        simp [hl] at hv
        subst hv
        simp only [Rep] at hr
        obtain ⟨b, k, hφ, hv⟩ := hr
        have hob := h.objs n _ _ ho hφ
        simp only [ObjRel] at hob
        have hm := RepM_drop (n := off) hob.2
        rw [Nat.zero_add] at hm
        obtain ⟨h1, h2⟩ := view0L_get hl
        have key : ∀ (i : Nat) (c : A), ys[i]? = some c → (∃ u, w.cell? ⟨b, off + i, none⟩ = some u ∧ u.oneCell' = true ∧ Rep ⟨N', [], w⟩ c u) ∧ c.pure = true := by
          intro i c hc
          have hi : i < (cs.drop off).length := by rw [h1]; exact (List.getElem?_eq_some_iff.1 hc).1
          obtain ⟨u, hu, hone, hrep⟩ := RepM_iff.1 hm i _ (List.getElem?_eq_getElem hi)
          have := view0_sound h (h2 i _ c (List.getElem?_eq_getElem hi) hc) hrep (N' := N') ⟨hs.le, .inr hown⟩
          exact ⟨⟨u, hu, hone, this.1⟩, this.2⟩
        refine ⟨?_, by simp [A.pure]⟩
        simp only [Rep]
        exact ⟨pureL_of fun i c hc => (key i c hc).2, b, off, hv, (h.own n b k hφ).2, hown n b k hφ, RepM_iff.2 fun i c hc => (key i c hc).1⟩
    · simp at hv
  case eref n i off =>
    have hown : ∀ (n b k : Nat), φ[n]? = some (Own.loc b k) → ¬ N' b := by
      rcases hs.own with hp | ho
      · simp [A.pure] at hp
      · exact ho
    simp only [view1] at hv
    split at hv
    · rename_i k' es ho
      cases hi : es[i]? with
      | none => simp [hi] at hv
      | some e =>
        simp [hi] at hv
        subst hv
        simp only [Rep] at hr
        obtain ⟨b, k, hφ, hv⟩ := hr
        have hob := h.objs n _ _ ho hφ
        simp only [ObjRel] at hob
        obtain ⟨rfl, hp, _, hE⟩ := hob
        obtain ⟨_, hm⟩ := RepE_iff.1 hE i e hi
        have hm' := RepM_drop (n := off) hm
        rw [Nat.zero_add] at hm'
        have hpe := pureL_drop (n := off) (pure_cells (pureL_getElem hp hi))
        refine ⟨?_, by simp [A.pure]⟩
        simp only [Rep]
        exact ⟨hpe, b, i * k' + off, hv, (h.own n b k' hφ).2, hown n b k' hφ, RepM.pure_mono (E := envOf N0 φ w) (E' := ⟨N', [], w⟩) rfl hN hpe hm'⟩
    · simp at hv
  case agg cs =>
    simp only [view1] at hv
    cases hl : view0L σ.H cs with
    | none => simp [hl] at hv
    | some ys =>
      simp [hl] at hv
      subst hv
      simp only [Rep] at hr ⊢
      obtain ⟨vs, hv, hL, hone⟩ := hr
      obtain ⟨h1, h2⟩ := view0L_get hl
      obtain ⟨g1, g2⟩ := RepL_iff.1 hL
      have key : ∀ (i : Nat) (c : A) (u : Value), ys[i]? = some c → vs[i]? = some u → Rep ⟨N', [], w⟩ c u ∧ c.pure = true := by
        intro i c u hc hu
        have hi : i < cs.length := by rw [h1]; exact (List.getElem?_eq_some_iff.1 hc).1
        exact view0_sound h (h2 i _ c (List.getElem?_eq_getElem hi) hc) (g2 i _ u (List.getElem?_eq_getElem hi) hu) (sees_part hs (fun hp => by simpa only [A.pure] using hp) (List.getElem?_eq_getElem hi))
      refine ⟨⟨vs, hv, RepL_iff.2 ⟨by rw [← h1, g1], fun i c u hc hu => (key i c u hc hu).1⟩, hone⟩, ?_⟩
      simp only [A.pure]
      refine pureL_of fun i c hc => ?_
      have hi : i < vs.length := by rw [← g1, h1]; exact (List.getElem?_eq_some_iff.1 hc).1
      exact (key i c _ hc (List.getElem?_eq_getElem hi)).2
  all_goals
    simp only [view1] at hv
    exact view0_sound h hv hr hs
theorem view_sound (h : Conc N0 w0 nt σ φ a w) {x y : A} {v : Value} (hv : view σ.H x = some y) (hr : Rep (envOf N0 φ w) x v)
    {N' : Nat → Prop} (hs : Sees N0 φ w x N') : Rep ⟨N', [], w⟩ y v ∧ y.pure = true := by
  cases x
  case fn f cs =>
    simp only [view] at hv
    cases hl : view1L σ.H cs with
    | none => simp [hl] at hv
    | some ys =>
      simp [hl] at hv
      subst hv
      simp only [Rep] at hr ⊢
      obtain ⟨vs, hv, hL⟩ := hr
      obtain ⟨h1, h2⟩ := view1L_get hl
      obtain ⟨g1, g2⟩ := RepL_iff.1 hL
      have key : ∀ (i : Nat) (c : A) (u : Value), ys[i]? = some c → vs[i]? = some u → Rep ⟨N', [], w⟩ c u ∧ c.pure = true := by
        intro i c u hc hu
        have hi : i < cs.length := by rw [h1]; exact (List.getElem?_eq_some_iff.1 hc).1
        exact view1_sound h (h2 i _ c (List.getElem?_eq_getElem hi) hc) (g2 i _ u (List.getElem?_eq_getElem hi) hu) (sees_part hs (fun hp => by simpa only [A.pure] using hp) (List.getElem?_eq_getElem hi))
      refine ⟨⟨vs, hv, RepL_iff.2 ⟨by rw [← h1, g1], fun i c u hc hu => (key i c u hc hu).1⟩⟩, ?_⟩
      simp only [A.pure]
      refine pureL_of fun i c hc => ?_
      have hi : i < vs.length := by rw [← g1, h1]; exact (List.getElem?_eq_some_iff.1 hc).1
      exact (key i c _ hc (List.getElem?_eq_getElem hi)).2
  all_goals
    simp only [view] at hv
    exact view1_sound h hv hr hs
theorem viewL_sound (h : Conc N0 w0 nt σ φ a w) {xs ys : List A} {vs : List Value} (hv : viewL σ.H xs = some ys) (hr : RepL (envOf N0 φ w) xs vs)
    {N' : Nat → Prop} (hle : ∀ b, N' b → (envOf N0 φ w).N b) (hown : A.pure.pureL xs = true ∨ ∀ (n b k : Nat), φ[n]? = some (Own.loc b k) → ¬ N' b) : RepL ⟨N', [], w⟩ ys vs ∧ A.pure.pureL ys = true := by
  obtain ⟨h1, h2⟩ := viewL_get hv
  obtain ⟨g1, g2⟩ := RepL_iff.1 hr
  have key : ∀ (i : Nat) (c : A) (u : Value), ys[i]? = some c → vs[i]? = some u → Rep ⟨N', [], w⟩ c u ∧ c.pure = true := by
    intro i c u hc hu
    have hi : i < xs.length := by rw [h1]; exact (List.getElem?_eq_some_iff.1 hc).1
    exact view_sound h (h2 i _ c (List.getElem?_eq_getElem hi) hc) (g2 i _ u (List.getElem?_eq_getElem hi) hu) ⟨hle, hown.imp (fun hp => pureL_getElem hp (List.getElem?_eq_getElem hi)) id⟩
  refine ⟨RepL_iff.2 ⟨by rw [← h1, g1], fun i c u hc hu => (key i c u hc hu).1⟩, pureL_of fun i c hc => ?_⟩
  have hi : i < vs.length := by rw [← g1, h1]; exact (List.getElem?_eq_some_iff.1 hc).1
  exact (key i c _ hc (List.getElem?_eq_getElem hi)).2
theorem own_not_n0 (h : Conc N0 w0 nt σ φ a w) : ∀ (n b k : Nat), φ[n]? = some (Own.loc b k) → ¬ N0 b :=
  fun n b k hb hn => (h.own n b k hb).1.elim (fun h1 => Nat.lt_irrefl _ (Nat.lt_of_lt_of_le (h.n0 b hn).1 h1)) (h.n0 b hn).2
end
end Go.Abs
namespace Go.Abs
open Go.RowKit
section
variable {P : Program} {N0 : Nat → Prop} {w0 : Base} {nt : Nat} {σ : St} {φ : List Own} {a : Act} {w : World}
theorem agg_isSome {t : TypeId} (h : (tyAgg P t).isSome = true) : ∃ d, P.underlying t = some d := by
  cases hu : P.underlying t with
  | some d => exact ⟨d, rfl⟩
  | none => simp [tyAgg, hu] at h
theorem bytes_vals {E : Env} {b : Nat} : ∀ {es : List A} {s : List UInt8} {off : Nat}, bytesOfA es = some s → RepE E 1 b off es → ∃ ns : List Int, E.w.rangeAt b off (ns.map (Value.int .u8)) ∧ ns.length = es.length ∧ ns.map (fun n => UInt8.ofNat n.toNat) = s
  | [], s, off, h, _ => by simp [bytesOfA] at h; subst h; exact ⟨[], fun j v hv => by simp at hv, rfl, rfl⟩
  | x :: xs, s, off, h, hE => by
    simp only [bytesOfA] at h
    cases hx : byteOfA x with
    | none => simp [hx] at h
    | some c =>
      simp only [hx, Option.bind_some] at h
      cases hl : bytesOfA xs with
      | none => simp [hl] at h
      | some s' =>
        simp [hl] at h
        subst h
        obtain ⟨⟨h1, hm⟩, hE'⟩ := RepE_cons.1 hE
        obtain ⟨ns, hr, hlen, hns⟩ := bytes_vals hl hE'
        unfold byteOfA at hx
        split at hx
        · rename_i n
          simp at hx
          subst hx
          simp only [A.cells] at hm
          obtain ⟨v, hv, _, hrep⟩ := RepM_one.1 hm
          rw [rep_int hrep] at hv
          refine ⟨n :: ns, fun j u hu => ?_, by simp [hlen], by simp [hns]⟩
          cases j with
          | zero => simp at hu; subst hu; simpa using hv
          | succ j =>
            have := hr j u (by simpa using hu)
            rwa [show off + 1 + j = off + (j + 1) by omega] at this
        · simp at hx
theorem foldl_bytes : ∀ (ns : List Int) (l : List UInt8), ns.foldl (fun (r : ByteArray) n => r.push (UInt8.ofNat n.toNat)) ⟨l.toArray⟩ = ⟨(l ++ ns.map fun n => UInt8.ofNat n.toNat).toArray⟩
  | [], l => by simp
  | n :: ns, l => by
    have e : (⟨l.toArray⟩ : ByteArray).push (UInt8.ofNat n.toNat) = ⟨(l ++ [UInt8.ofNat n.toNat]).toArray⟩ := by
      apply ByteArray.ext
      simp [ByteArray.push]
    rw [List.foldl_cons, e, foldl_bytes ns]
    simp
theorem good_convert (h : Conc N0 w0 nt σ φ a w) {d : Option Tmp} {src dst : Nat} {x : Operand} {t : TypeId} {p : String} {af : Array Edge} {g : Option (Nat × Bool)} {r : A}
    (hr : convA P src dst σ.H (σ.ev x) = some r) : Good P ⟨d, .convert src dst x, t, p, af, g⟩ a w N0 φ r := by
  have hx := h.ev x
  have b2s : ∀ v, σ.ev x = v → convB (isB2S P src dst) (view σ.H v) = some r → (∃ q l c, a.eval x = .slice q l c) → Good P ⟨d, .convert src dst x, t, p, af, g⟩ a w N0 φ r := by
    intro v hv hr hsl
    subst hv
    unfold convB at hr
    split at hr
    · rename_i hb
      split at hr
      · rename_i es hes
        cases hby : bytesOfA es with
        | none => simp [hby] at hr
        | some s =>
          simp [hby] at hr
          subst hr
          have hvw := (view_sound h hes hx (N' := N0) ⟨fun b hb => .inl hb, .inr (own_not_n0 h)⟩).1
          simp only [Rep] at hvw
          obtain ⟨_, q, cap, hval, _, hm⟩ := hvw
          unfold isB2S at hb
          simp only [Bool.and_eq_true] at hb
          obtain ⟨hb1, hb2⟩ := hb
          cases he : tyElem P src with
          | none => simp [he] at hb1
          | some e =>
            simp [he] at hb1
            have hu := tyElem_eq he
            have hue := tyInt_eq hb1
            have hud := tyStr_eq hb2
            have hconv : (convert src dst (a.eval x)).run P w = (Conv.bytesToString (a.eval x)).run P w := by
              rw [hval]
              simp [convert, run_underlying hu, run_underlying hue, run_underlying hud]
            refine good_same rfl (v := .string ⟨s.toArray⟩) ?_ (by simp only [Rep])
            rw [hconv, hval]
            by_cases hne : es = []
            · subst hne
              simp [bytesOfA] at hby
              subst hby
              cases q with
              | none => simp [Conv.bytesToString]; rfl
              | some q =>
                have := run_bytesToString (P := P) w q 0 cap [] (by simpa using run_loadCells_list (P := P) w q [] (by simp))
                simp only [List.foldl_nil] at this
                exact this
            · obtain ⟨b, off, rfl, hb, hnb, hE⟩ := hm hne
              have hst : strideOf es = 1 := by
                cases es with
                | nil => exact absurd rfl hne
                | cons e es =>
                  simp only [bytesOfA] at hby
                  cases e <;> simp_all [byteOfA, strideOf, A.cells]
              rw [hst] at hE
              obtain ⟨ns, hr, hlen, hns⟩ := bytes_vals hby hE
              have hl : (loadCells ⟨b, off, none⟩ es.length).run P w = .ok (ns.map (Value.int .u8)).toArray w := by
                have := run_loadCells_list (P := P) w ⟨b, off, none⟩ (ns.map (Value.int .u8)) (fun j v hv => by rw [Addr.add_mid]; exact hr j v hv)
                rwa [List.length_map, hlen] at this
              rw [run_bytesToString w _ _ _ ns hl]
              have := foldl_bytes ns []
              rw [show (ByteArray.empty : ByteArray) = ⟨([] : List UInt8).toArray⟩ from rfl, this, List.nil_append, hns]
      · simp at hr
    · simp at hr
  cases hc : σ.ev x <;> simp only [hc, convA] at hr
  case int k n =>
    split at hr
    · rename_i k' hk
      split at hr
      · rename_i hag
        obtain rfl := Option.some.inj hr
        rw [hc] at hx
        obtain ⟨ds, hds⟩ := agg_isSome hag
        refine good_same rfl (v := .int k' (k'.wrap n)) ?_ (by simp only [Rep])
        rw [rep_int hx]
        simp [convert, run_underlying hds, run_underlying (tyInt_eq hk), Conv.intToInt]
      · simp at hr
    · simp at hr
  case str s =>
    split at hr
    · rename_i hb
      simp only [Bool.and_eq_true] at hb
      obtain rfl := Option.some.inj hr
      rw [hc] at hx
      refine good_same rfl (v := a.eval x) ?_ hx
      rw [rep_str hx]
      simp [convert, run_underlying (tyStr_eq hb.1), run_underlying (tyStr_eq hb.2)]
    · simp at hr
  case slc es =>
    rw [hc] at hx
    simp only [Rep] at hx
    obtain ⟨_, q, cap, hv, _⟩ := hx
    exact b2s _ hc hr ⟨_, _, _, hv⟩
  case clip es =>
    rw [hc] at hx
    simp only [Rep] at hx
    obtain ⟨_, q, hv, _⟩ := hx
    exact b2s _ hc hr ⟨_, _, _, hv⟩
  case nils =>
    rw [hc] at hx
    simp only [Rep] at hx
    exact b2s _ hc hr ⟨_, _, _, hx⟩
  case row n off k len c =>
    rw [hc] at hx
    simp only [Rep] at hx
    rcases hx with ⟨_, _, _, _, _, q, hv⟩ | ⟨b, cap, _, _, _, _, hv, _⟩
    · exact b2s _ hc hr ⟨_, _, _, hv⟩
    · exact b2s _ hc hr ⟨_, _, _, hv⟩
  all_goals simp at hr
theorem good_field (h : Conc N0 w0 nt σ φ a w) {d : Option Tmp} {s f : Nat} {x : Operand} {t : TypeId} {p : String} {af : Array Edge} {g : Option (Nat × Bool)} {r : A}
    (hr : fieldA P (fieldInfo P s f) (σ.ev x) = some r) : Good P ⟨d, .field s x f, t, p, af, g⟩ a w N0 φ r := by
  unfold fieldA at hr
  split at hr
  · rename_i o ft cs hf hc
    have hx := h.ev x
    rw [hc] at hx
    simp only [Rep] at hx
    obtain ⟨vs, hv, hL, hone⟩ := hx
    obtain ⟨fs, fx, n, hu, hfx, rfl, rfl, hn, hn0⟩ := fieldInfo_eq hf
    have hfield : (Instr.field s (a.eval x) f).run P w = (part fx.type vs.toArray fx.offset).run P w := by
      rw [hv]
      simp [Instr.field, run_underlying hu, hfx, asAgg]
    unfold loadC at hr
    split at hr
    · rename_i hag
      rw [hn] at hr
      simp only at hr
      split at hr
      · rename_i hle
        obtain rfl := Option.some.inj hr
        refine good_same rfl (v := .agg ((vs.drop fx.offset).take n).toArray) ?_ ?_
        · rw [hfield]
          simp only [part, Sem.run_bind, run_isAgg_true hag, Result.andThen_ok, if_true, run_sizeOf hn, Sem.run_pure]
          congr 2
          apply Array.ext'
          simp [List.extract_eq_take_drop]
        · simp only [Rep]
          exact ⟨_, rfl, RepL_take (RepL_drop hL), fun u hu => hone u (List.mem_of_mem_drop (List.mem_of_mem_take hu))⟩
      · simp at hr
    · rename_i hag
      cases hd : cs.drop fx.offset with
      | nil => simp [hd] at hr
      | cons y ys =>
        simp [hd] at hr
        subst hr
        obtain ⟨g1, g2⟩ := RepL_iff.1 hL
        have hlt : fx.offset < cs.length := by
          rcases Nat.lt_or_ge fx.offset cs.length with h | h
          · exact h
          · rw [List.drop_eq_nil_of_le h] at hd; cases hd
        have hy : cs[fx.offset]? = some y := by
          have e := (List.drop_eq_getElem_cons hlt).symm.trans hd
          injection e with e1 e2
          rw [List.getElem?_eq_getElem hlt, e1]
        have hlt' : fx.offset < vs.length := by omega
        refine good_same rfl (v := vs[fx.offset]) ?_ (g2 _ _ _ hy (List.getElem?_eq_getElem hlt'))
        rw [hfield]
        simp [part, run_isAgg_false hag, hlt']
    · simp at hr
  · simp at hr
theorem good_index (h : Conc N0 w0 nt σ φ a w) {d : Option Tmp} {s : Nat} {x y : Operand} {t : TypeId} {p : String} {af : Array Edge} {g : Option (Nat × Bool)} {r : A}
    (hr : indexA P s (σ.ev x) (σ.ev y) = some r) : Good P ⟨d, .index s x y, t, p, af, g⟩ a w N0 φ r := by
  have hx := h.ev x
  have hy := h.ev y
  unfold indexA at hr
  split at hr
  · rename_i k i str hcy hcx
    rw [hcx] at hx; rw [hcy] at hy
    split at hr
    · rename_i hc
      cases hi : str[i.toNat]? with
      | none => simp [hi] at hr
      | some c =>
        simp [hi] at hr
        subst hr
        have hlt : i.toNat < str.length := (List.getElem?_eq_some_iff.1 hi).1
        have hcc : str[i.toNat] = c := by rw [List.getElem?_eq_getElem hlt] at hi; simpa using hi
        refine good_same rfl (v := .int .u8 c.toNat) ?_ (by simp only [encU8, Rep])
        rw [rep_str hx, rep_int hy, run_index_string w s _ k i (tyStr_eq hc.1), dif_pos ⟨hc.2, by rw [size_mk]; omega⟩]
        congr 2
        rw [← hcc]
        rfl
    · simp at hr
  · rename_i k i cs hcy hcx
    rw [hcx] at hx; rw [hcy] at hy
    simp only [Rep] at hx
    obtain ⟨vs, hv, hL, hone⟩ := hx
    split at hr
    · rename_i n e hn
      split at hr
      · rename_i kk hk
        split at hr
        · rename_i hc
          have hidx : (Instr.index s (a.eval x) (a.eval y)).run P w = (part e vs.toArray (i.toNat * kk)).run P w := by
            rw [hv, rep_int hy]
            simp [Instr.index, asIntOf, run_underlying (tyArr_eq hn), hc, run_sizeOf hk]
          generalize hoff : i.toNat * kk = o at hr hidx
          unfold loadC at hr
          split at hr
          · rename_i hag
            rw [hk] at hr
            simp only at hr
            split at hr
            · rename_i hle
              obtain rfl := Option.some.inj hr
              refine good_same rfl (v := .agg ((vs.drop o).take kk).toArray) ?_ ?_
              · rw [hidx]
                simp only [part, Sem.run_bind, run_isAgg_true hag, Result.andThen_ok, if_true, run_sizeOf hk, Sem.run_pure]
                congr 2
                apply Array.ext'
                simp [List.extract_eq_take_drop]
              · simp only [Rep]
                exact ⟨_, rfl, RepL_take (RepL_drop hL), fun u hu => hone u (List.mem_of_mem_drop (List.mem_of_mem_take hu))⟩
            · simp at hr
          · rename_i hag
            cases hd : cs.drop o with
            | nil => simp [hd] at hr
            | cons z zs =>
              simp [hd] at hr
              subst hr
              obtain ⟨g1, g2⟩ := RepL_iff.1 hL
              have hlt : o < cs.length := by
                rcases Nat.lt_or_ge o cs.length with h | h
                · exact h
                · rw [List.drop_eq_nil_of_le h] at hd; cases hd
              have hz : cs[o]? = some z := by
                have e := (List.drop_eq_getElem_cons hlt).symm.trans hd
                injection e with e1 e2
                rw [List.getElem?_eq_getElem hlt, e1]
              have hlt' : o < vs.length := by omega
              refine good_same rfl (v := vs[o]) ?_ (g2 _ _ _ hz (List.getElem?_eq_getElem hlt'))
              rw [hidx]
              simp [part, run_isAgg_false hag, hlt']
          · simp at hr
        · simp at hr
      · simp at hr
    · simp at hr
  · simp at hr
theorem good_indexAddr (h : Conc N0 w0 nt σ φ a w) {d : Option Tmp} {s : Nat} {x y : Operand} {t : TypeId} {p : String} {af : Array Edge} {g : Option (Nat × Bool)} {r : A}
    (hr : indexAddrA P s (σ.ev x) (σ.ev y) = some r) : Good P ⟨d, .indexAddr s x y, t, p, af, g⟩ a w N0 φ r := by
  have hx := h.ev x
  have hy := h.ev y
  unfold indexAddrA at hr
  split at hr
  · rename_i kd i hcy
    rw [hcy] at hy
    split at hr
    · rename_i e he
      split at hr
      · rename_i k hk
        have run : ∀ b off len cap, a.eval x = .slice (some ⟨b, off, none⟩) len cap → 0 ≤ i → i < len → (Instr.indexAt s (a.eval x) (a.eval y)).run P w = .ok (.pointer (some ⟨b, off + i.toNat * k, none⟩)) w := by
          intro b off len cap hv h0 h1
          rw [hv, rep_int hy]
          simp [Instr.indexAt, asIntOf, run_underlying (tyElem_eq he), h0, h1, run_sizeOf hk, Addr.add_mid]
        have data : ∀ (es : List A) (cap : Nat) (q : Option Addr), a.eval x = .slice q es.length cap → A.pure.pureL es = true →
            (es ≠ [] → ∃ b off, q = some ⟨b, off, none⟩ ∧ b < (envOf N0 φ w).w.heap.size ∧ ¬ (envOf N0 φ w).N b ∧ RepE (envOf N0 φ w) (strideOf es) b off es) → getE k i es = some r → Good P ⟨d, .indexAddr s x y, t, p, af, g⟩ a w N0 φ r := by
          intro es cap q hv hp hm hr
          unfold getE getI at hr
          split at hr
          · rename_i h0
            cases hi : es[i.toNat]? with
            | none => simp [hi] at hr
            | some z =>
              simp only [hi, Option.bind_some] at hr
              split at hr
              · rename_i hkz
                obtain rfl := Option.some.inj hr
                have hlt := (List.getElem?_eq_some_iff.1 hi).1
                obtain ⟨b, off, rfl, hb, hnb, hE⟩ := hm (by rintro rfl; simp at hlt)
                obtain ⟨hl, hmm⟩ := RepE_iff.1 hE _ _ hi
                rw [← hkz] at hl
                rw [← hl] at hmm
                refine good_same rfl (run b off _ cap hv h0 (by omega)) ?_
                simp only [Rep]
                exact ⟨pure_cells (pureL_getElem hp hi), b, _, rfl, hb, hnb, hmm⟩
              · simp at hr
          · simp at hr
        cases hc : σ.ev x <;> simp only [hc, indexAddrE] at hr <;> try (simp at hr; done)
        · rw [hc] at hx
          simp only [Rep] at hx
          obtain ⟨hp, q, cap, hv, _, hm⟩ := hx
          exact data _ cap q hv hp hm hr
        · rw [hc] at hx
          simp only [Rep] at hx
          obtain ⟨hp, q, hv, hm⟩ := hx
          exact data _ _ q hv hp hm hr
        · rename_i n off k' len c
          rw [hc] at hx
          split at hr
          · rename_i hcond
            obtain ⟨rfl, h0, h1⟩ := hcond
            obtain rfl := Option.some.inj hr
            simp only [Rep] at hx
            rcases hx with ⟨_, _, _, rfl, _⟩ | ⟨b, cap, _, _, _, hφ, hv, _⟩
            · omega
            · refine good_same rfl (run b _ _ cap hv h0 h1) ?_
              simp only [Rep]
              exact ⟨b, k, hφ, by rw [Nat.add_mul, Nat.add_zero]⟩
          · simp at hr
      · simp at hr
    · split at hr
      · rename_i n e hn
        split at hr
        · rename_i k hk
          have run : ∀ b off, a.eval x = .pointer (some ⟨b, off, none⟩) → 0 ≤ i → i < n → (Instr.indexAt s (a.eval x) (a.eval y)).run P w = .ok (.pointer (some ⟨b, off + i.toNat * k, none⟩)) w := by
            intro b off hv h0 h1
            rw [hv, rep_int hy]
            simp [Instr.indexAt, asIntOf, run_underlying (tyArr_eq hn), Instr.sureAddr, h0, h1, run_sizeOf hk, Addr.add_mid]
          cases hc : σ.ev x <;> simp only [hc, indexAddrR] at hr <;> try (simp at hr; done)
          · rename_i cs
            rw [hc] at hx
            simp only [Rep] at hx
            obtain ⟨hp, b, off, hv, hb, hnb, hm⟩ := hx
            split at hr
            · rename_i hcond
              obtain rfl := Option.some.inj hr
              refine good_same rfl (run b off hv hcond.1 hcond.2) ?_
              simp only [Rep]
              exact ⟨pureL_drop hp, b, _, rfl, hb, hnb, RepM_drop hm⟩
            · simp at hr
          · rename_i m off
            rw [hc] at hx
            simp only [Rep] at hx
            obtain ⟨b, kk, hφ, hv⟩ := hx
            split at hr
            · rename_i hcond
              obtain rfl := Option.some.inj hr
              refine good_same rfl (run b off hv hcond.1 hcond.2) ?_
              simp only [Rep]
              exact ⟨b, kk, hφ, rfl⟩
            · simp at hr
        · simp at hr
      · simp at hr
  · simp at hr
end
end Go.Abs
namespace Go.Abs
open Go.RowKit
section
variable {P : Program} {N0 : Nat → Prop} {w0 : Base} {nt : Nat} {σ : St} {φ : List Own} {a : Act} {w : World}
theorem bd_val (h : Conc N0 w0 nt σ φ a w) {o : Option Operand} (ho : (σ.bd o).ok = true) : (o = none ∧ σ.bd o = .none) ∨ ∃ k n, o.map a.eval = some (.int k n) ∧ σ.bd o = .some n := by
  cases o with
  | none => exact .inl ⟨rfl, rfl⟩
  | some x =>
    right
    simp only [St.bd] at ho ⊢
    cases hx : σ.ev x <;> simp only [hx, bdOf, Bd.ok] at ho <;> try (simp at ho; done)
    rename_i k n
    have := h.ev x
    rw [hx] at this
    exact ⟨k, n, by simp [rep_int this], rfl⟩
theorem run_sliceBound {k : IntKind} {n : Int} {y : Nat} {c : BoundsCode} (h0 : 0 ≤ n) (h1 : n ≤ y) : (Instr.sliceBound (.int k n) y c).run P w = .ok n.toNat w := by
  simp [Instr.sliceBound, asIntOf, h0, h1]
theorem run_bounds2 (h : Conc N0 w0 nt σ φ a w) {lo hi : Option Operand} (hlo : (σ.bd lo).ok = true) (hhi : (σ.bd hi).ok = true) {isS : Bool} {len cap : Nat} (hlc : len ≤ cap)
    (h0 : 0 ≤ (σ.bd lo).get 0) (h1 : (σ.bd lo).get 0 ≤ (σ.bd hi).get len) (h2 : (σ.bd hi).get len ≤ len) :
    (Instr.sliceBounds isS len cap (lo.map a.eval) (hi.map a.eval) none).run P w = .ok (((σ.bd lo).get 0).toNat, ((σ.bd hi).get len).toNat, cap) w := by
  rcases bd_val h hlo with ⟨rfl, e1⟩ | ⟨k, n, e1, e2⟩ <;> rcases bd_val h hhi with ⟨rfl, e3⟩ | ⟨k', n', e3, e4⟩
  · simp [Instr.sliceBounds, e1, Bd.get]
  · rw [e4] at h1 h2 ⊢
    rw [e1] at h1 ⊢
    simp only [Bd.get] at h1 h2 ⊢
    have := run_sliceBound (P := P) (w := w) (k := k') (n := n') (y := cap) (c := if isS then .sliceAcap else .sliceAlen) (by omega) (by omega)
    simp [Instr.sliceBounds, e3, this]
  · rw [e2] at h0 h1 ⊢
    simp only [Bd.get] at h0 h1 ⊢
    rw [e3] at h1 ⊢
    simp only at h1 ⊢
    have := run_sliceBound (P := P) (w := w) (k := k) (n := n) (y := len) (c := .sliceB) h0 (by omega)
    simp [Instr.sliceBounds, e1, this]
  · rw [e2] at h0 h1 ⊢
    rw [e4] at h1 h2 ⊢
    simp only [Bd.get] at h0 h1 h2 ⊢
    have t1 := run_sliceBound (P := P) (w := w) (k := k') (n := n') (y := cap) (c := if isS then .sliceAcap else .sliceAlen) (by omega) (by omega)
    have t2 := run_sliceBound (P := P) (w := w) (k := k) (n := n) (y := n'.toNat) (c := .sliceB) h0 (by omega)
    simp [Instr.sliceBounds, e1, e3, t1, t2]
theorem run_bounds3 (h : Conc N0 w0 nt σ φ a w) {lo hi mx : Option Operand} (hlo : (σ.bd lo).ok = true) {m : Int} (hhi : σ.bd hi = .some m) (hmx : σ.bd mx = .some m) {isS : Bool} {len cap : Nat} (hlc : len ≤ cap)
    (h0 : 0 ≤ (σ.bd lo).get 0) (h1 : (σ.bd lo).get 0 ≤ m) (h2 : m ≤ len) :
    (Instr.sliceBounds isS len cap (lo.map a.eval) (hi.map a.eval) (mx.map a.eval)).run P w = .ok (((σ.bd lo).get 0).toNat, m.toNat, m.toNat) w := by
  rcases bd_val h (o := hi) (by rw [hhi]; rfl) with ⟨rfl, e3⟩ | ⟨k', n', e3, e4⟩
  · rw [e3] at hhi; cases hhi
  rcases bd_val h (o := mx) (by rw [hmx]; rfl) with ⟨rfl, e5⟩ | ⟨k'', n'', e5, e6⟩
  · rw [e5] at hmx; cases hmx
  have hn' : n' = m := by rw [e4] at hhi; injection hhi
  have hn'' : n'' = m := by rw [e6] at hmx; injection hmx
  rw [hn'] at e3
  rw [hn''] at e5
  have t1 := fun c => run_sliceBound (P := P) (w := w) (k := k'') (n := m) (y := cap) (c := c) (by omega) (by omega)
  have t2 := fun c => run_sliceBound (P := P) (w := w) (k := k') (n := m) (y := m.toNat) (c := c) (by omega) (by omega)
  rcases bd_val h hlo with ⟨rfl, e1⟩ | ⟨k, n, e1, e2⟩
  · simp [Instr.sliceBounds, e1, e3, e5, Bd.get, t1, t2]
  · rw [e2] at h0 h1 ⊢
    simp only [Bd.get] at h0 h1 ⊢
    have t3 := fun c => run_sliceBound (P := P) (w := w) (k := k) (n := n) (y := m.toNat) (c := c) h0 (by omega)
    simp [Instr.sliceBounds, e1, e3, e5, t1, t2, t3]
theorem extract_mk (s : List UInt8) (l h : Nat) : (⟨s.toArray⟩ : ByteArray).extract l h = ⟨((s.take h).drop l).toArray⟩ := by
  apply ByteArray.ext
  simp [ByteArray.data_extract, List.extract_eq_take_drop, List.drop_take]
theorem run_sliceAt {t : TypeId} (ht : (tyArr P t).isNone = true) {d : TypeDesc} (hu : P.underlying t = some d) {x : Value} {lo hi mx : Option Value} : (Instr.sliceAt t x lo hi mx).run P w = (Instr.slice t x lo hi mx).run P w := by
  unfold Instr.sliceAt
  rw [Sem.run_bind, run_underlying hu, Result.andThen_ok]
  cases d <;> first | rfl | (simp [tyArr, hu] at ht)
theorem good_slice (h : Conc N0 w0 nt σ φ a w) {d : Option Tmp} {s : Nat} {x : Operand} {lo hi mx : Option Operand} {t : TypeId} {p : String} {af : Array Edge} {g : Option (Nat × Bool)} {r : A}
    (ht : (tyArr P s).isNone = true) (hlo : (σ.bd lo).ok = true) (hhi : (σ.bd hi).ok = true)
    (hr : sliceA (tyStr P s) (elSize P s) (σ.ev x) (σ.bd lo) (σ.bd hi) (σ.bd mx) = some r) : Good P ⟨d, .slice s x lo hi mx, t, p, af, g⟩ a w N0 φ r := by
  have hx := h.ev x
  have nomx : σ.bd mx = .none → mx = none := by
    cases mx with
    | none => intro _; rfl
    | some m => intro hm; simp only [St.bd] at hm; cases he : σ.ev m <;> simp [he, bdOf] at hm
  have fin : ∀ {d' : TypeDesc} {v : Value}, P.underlying s = some d' → (Instr.slice s (a.eval x) (lo.map a.eval) (hi.map a.eval) (mx.map a.eval)).run P w = .ok v w → Rep (envOf N0 φ w) r v → Good P ⟨d, .slice s x lo hi mx, t, p, af, g⟩ a w N0 φ r := by
    intro d' v hu hv hrep
    exact good_same rfl (by rw [run_sliceAt ht hu]; exact hv) hrep
  have elems : ∀ (k : Nat) (es : List A) (q : Option Addr) (cap : Nat), elSize P s = some k → a.eval x = .slice q es.length cap → es.length ≤ cap → A.pure.pureL es = true →
      (es ≠ [] → ∃ b off, q = some ⟨b, off, none⟩ ∧ b < (envOf N0 φ w).w.heap.size ∧ ¬ (envOf N0 φ w).N b ∧ RepE (envOf N0 φ w) (strideOf es) b off es) →
      sliceE k es (σ.bd lo) (σ.bd hi) (σ.bd mx) = some r → Good P ⟨d, .slice s x lo hi mx, t, p, af, g⟩ a w N0 φ r := by
    intro k es q cap hk hv hlc hp hm hr
    unfold elSize at hk
    cases he : tyElem P s with
    | none => simp [he] at hk
    | some e =>
      simp only [he] at hk
      have hu := tyElem_eq he
      have core : ∀ l hh : Nat, l ≤ hh → hh ≤ es.length → strOK k es = true → ∀ c' : Nat, hh ≤ c' → c' ≤ cap →
          A.pure.pureL ((es.take hh).drop l) = true ∧ ((es.take hh).drop l).length = hh - l ∧
          ((es.take hh).drop l ≠ [] → ∃ b off, (if c' = l then q else q.map (·.add (l * k))) = some ⟨b, off, none⟩ ∧ b < (envOf N0 φ w).w.heap.size ∧ ¬ (envOf N0 φ w).N b ∧ RepE (envOf N0 φ w) (strideOf ((es.take hh).drop l)) b off ((es.take hh).drop l)) := by
        intro l hh hl hhl hst c' hc' hcc
        refine ⟨pureL_drop (pureL_take hp), by simp; omega, fun hne => ?_⟩
        have hes : es ≠ [] := by rintro rfl; simp at hne
        have hlt : l < hh := by
          rcases Nat.lt_or_ge l hh with hlt | hge
          · exact hlt
          · exfalso; apply hne; apply List.drop_eq_nil_of_le; simp; omega
        obtain ⟨b, off, rfl, hb, hnb, hE⟩ := hm hes
        have hk' : strideOf es = k := by
          unfold strOK at hst
          cases es with
          | nil => exact absurd rfl hes
          | cons z zs => simpa using hst
        rw [hk'] at hE
        have hE' := RepE_drop (n := l) (RepE_take (n := hh) hE)
        refine ⟨b, off + l * k, ?_, hb, hnb, by rw [stride_of hE' hne]; exact hE'⟩
        rw [if_neg (by omega)]
        simp [Addr.add_mid]
      unfold sliceE at hr
      split at hr
      · rename_i hmx
        split at hr
        · rename_i hc
          obtain ⟨hst, h0, h1, h2⟩ := hc
          obtain rfl := Option.some.inj hr
          have hb := run_bounds2 (P := P) h hlo hhi (isS := true) hlc h0 h1 h2
          have hmx' := nomx hmx
          subst hmx'
          obtain ⟨c1, c2, c3⟩ := core ((σ.bd lo).get 0).toNat ((σ.bd hi).get es.length).toNat (by omega) (by omega) hst cap (by omega) (Nat.le_refl _)
          refine fin hu (v := .slice (if cap = ((σ.bd lo).get 0).toNat then q else q.map (·.add (((σ.bd lo).get 0).toNat * k))) (((σ.bd hi).get es.length).toNat - ((σ.bd lo).get 0).toNat) (cap - ((σ.bd lo).get 0).toNat)) ?_ ?_
          · rw [hv]
            simp only [Option.map_none]
            simp only [Instr.slice, Sem.run_bind, run_underlying hu, Result.andThen_ok, hb, run_sizeOf hk, Sem.run_pure]
          · simp only [Rep]
            exact ⟨c1, _, _, by rw [c2], by rw [c2]; omega, c3⟩
        · simp at hr
      · rename_i m hmx
        split at hr
        · rename_i hc
          obtain ⟨hst, h0, h1, h2, h3, h4⟩ := hc
          have hhi' : σ.bd hi = .some m := by
            cases hb : σ.bd hi with
            | some n => rw [hb] at h3; simp only [Bd.get] at h3; rw [h3]
            | none => simp [hb, Bd.ok3] at h4
            | bad => simp [hb, Bd.ok3] at h4
          have hg : (σ.bd hi).get es.length = m := by rw [hhi']; rfl
          rw [hg] at h1 h2 hr
          obtain rfl := Option.some.inj hr
          have hb := run_bounds3 (P := P) h hlo hhi' hmx (isS := true) hlc h0 h1 h2
          obtain ⟨c1, c2, c3⟩ := core ((σ.bd lo).get 0).toNat m.toNat (by omega) (by omega) hst m.toNat (by omega) (by omega)
          refine fin hu (v := .slice (if m.toNat = ((σ.bd lo).get 0).toNat then q else q.map (·.add (((σ.bd lo).get 0).toNat * k))) (m.toNat - ((σ.bd lo).get 0).toNat) (m.toNat - ((σ.bd lo).get 0).toNat)) ?_ ?_
          · rw [hv]
            simp only [Instr.slice, Sem.run_bind, run_underlying hu, Result.andThen_ok, hb, run_sizeOf hk, Sem.run_pure]
          · simp only [Rep]
            exact ⟨c1, _, by rw [c2], c3⟩
        · simp at hr
      · simp at hr
  cases hc : σ.ev x <;> simp only [hc, sliceA] at hr <;> try (simp at hr; done)
  · rename_i str
    rw [hc] at hx
    split at hr
    · rename_i hst
      unfold sliceS at hr
      split at hr
      · rename_i hmx
        split at hr
        · rename_i hcond
          obtain ⟨h0, h1, h2⟩ := hcond
          obtain rfl := Option.some.inj hr
          have hmx' := nomx hmx
          subst hmx'
          have hb := run_bounds2 (P := P) h hlo hhi (isS := false) (len := str.length) (cap := str.length) (Nat.le_refl _) h0 h1 h2
          refine fin (tyStr_eq hst) (v := .string (ByteArray.extract ⟨str.toArray⟩ ((σ.bd lo).get 0).toNat ((σ.bd hi).get str.length).toNat)) ?_ ?_
          · rw [rep_str hx]
            simp only [Option.map_none, Instr.slice, Sem.run_bind, run_underlying (tyStr_eq hst), Result.andThen_ok, size_mk, hb, Sem.run_pure, Option.isSome_none, Bool.false_eq_true, if_false]
          · simp only [Rep, extract_mk]
        · simp at hr
      · simp at hr
    · simp at hr
  · rename_i es
    rw [hc] at hx
    simp only [Rep] at hx
    obtain ⟨hp, q, cap, hv, hlc, hm⟩ := hx
    split at hr
    · rename_i k hk
      exact elems k es q cap hk hv hlc hp hm hr
    · simp at hr
  · rename_i es
    rw [hc] at hx
    simp only [Rep] at hx
    obtain ⟨hp, q, hv, hm⟩ := hx
    split at hr
    · rename_i k hk
      exact elems k es q _ hk hv (Nat.le_refl _) hp hm hr
    · simp at hr
  · rename_i n off k' len c
    rw [hc] at hx
    split at hr
    · rename_i k hk
      split at hr
      · rename_i hkk
        subst hkk
        unfold elSize at hk
        cases he : tyElem P s with
        | none => simp [he] at hk
        | some e =>
          simp only [he] at hk
          have hu := tyElem_eq he
          simp only [Rep] at hx
          have val : ∃ (q : Option Addr) (cap : Nat), a.eval x = .slice q len cap ∧ len ≤ cap ∧
              ∀ l hh c' : Nat, l ≤ hh → hh ≤ len → hh ≤ c' → c' ≤ cap → ∀ cl : Bool, (cl = true → c' = hh) →
                Rep (envOf N0 φ w) (.row n (off + l) k (hh - l) cl) (.slice (if c' = l then q else q.map (·.add (l * k))) (hh - l) (c' - l)) := by
            rcases hx with ⟨o, hφ, hf, rfl, hoff, q, hv⟩ | ⟨b, cap, cc, ee, fr, hφ, hv, hlc, _, hblk, hsz⟩
            · refine ⟨q, 0, hv, Nat.le_refl _, fun l hh c' hl hhl hc' hcc cl hcl => ?_⟩
              have e1 : l = 0 := by omega
              have e2 : hh = 0 := by omega
              have e3 : c' = 0 := by omega
              subst e1; subst e2; subst e3
              simp only [Rep]
              exact .inl ⟨o, hφ, hf, by simp, by simpa using hoff, q, by simp⟩
            · refine ⟨_, cap, hv, hlc, fun l hh c' hl hhl hc' hcc cl hcl => ?_⟩
              simp only [Rep]
              by_cases hcl0 : c' = l
              · left
                have : hh = l := by omega
                refine ⟨_, hφ, by simp, by omega, by simp, some ⟨b, off * k, none⟩, ?_⟩
                rw [if_pos hcl0, show hh - l = 0 by omega, show c' - l = 0 by omega]
              · right
                refine ⟨b, c' - l, cc, ee, fr, hφ, ?_, by omega, fun hq => by have := hcl hq; omega, hblk, ?_⟩
                · rw [if_neg hcl0]
                  simp [Addr.add_mid, Nat.add_mul]
                · have : l * k + k * (c' - l) ≤ k * cap := by
                    rw [Nat.mul_comm l k, ← Nat.mul_add]
                    exact Nat.mul_le_mul_left k (by omega)
                  rw [Nat.add_mul]
                  omega
          obtain ⟨q, cap, hv, hlc, hval⟩ := val
          unfold sliceR at hr
          split at hr
          · rename_i hmx
            split at hr
            · rename_i hcond
              obtain ⟨h0, h1, h2⟩ := hcond
              obtain rfl := Option.some.inj hr
              have hmx' := nomx hmx
              subst hmx'
              have hb := run_bounds2 (P := P) h hlo hhi (isS := true) hlc h0 h1 h2
              have := hval ((σ.bd lo).get 0).toNat ((σ.bd hi).get len).toNat cap (by omega) (by omega) (by omega) (Nat.le_refl _) false (by simp)
              refine fin hu ?_ (by rw [show ((σ.bd hi).get len - (σ.bd lo).get 0).toNat = ((σ.bd hi).get len).toNat - ((σ.bd lo).get 0).toNat by omega]; exact this)
              rw [hv]
              simp only [Option.map_none]
              simp only [Instr.slice, Sem.run_bind, run_underlying hu, Result.andThen_ok, hb, run_sizeOf hk, Sem.run_pure]
            · simp at hr
          · rename_i m hmx
            split at hr
            · rename_i hcond
              obtain ⟨h0, h1, h2, h3, h4⟩ := hcond
              have hhi' : σ.bd hi = .some m := by
                cases hb : σ.bd hi with
                | some n => rw [hb] at h3; simp only [Bd.get] at h3; rw [h3]
                | none => simp [hb, Bd.ok3] at h4
                | bad => simp [hb, Bd.ok3] at h4
              have hg : (σ.bd hi).get len = m := by rw [hhi']; rfl
              rw [hg] at h1 h2 hr
              obtain rfl := Option.some.inj hr
              have hb := run_bounds3 (P := P) h hlo hhi' hmx (isS := true) hlc h0 h1 h2
              have := hval ((σ.bd lo).get 0).toNat m.toNat m.toNat (by omega) (by omega) (by omega) (by omega) true (fun _ => rfl)
              refine fin hu ?_ (by rw [show (m - (σ.bd lo).get 0).toNat = m.toNat - ((σ.bd lo).get 0).toNat by omega]; exact this)
              rw [hv]
              simp only [Instr.slice, Sem.run_bind, run_underlying hu, Result.andThen_ok, hb, run_sizeOf hk, Sem.run_pure]
            · simp at hr
          · simp at hr
      · simp at hr
    · simp at hr
/-! ### Literals -/
theorem foldl_set : ∀ (vs : List Value) (off j : Nat) (cs : List Value), off + j + vs.length ≤ cs.length →
    (vs.zipIdx j).foldl (fun (cs : Array Value) (p : Value × Nat) => cs.setIfInBounds (off + p.2) p.1) cs.toArray = (cs.take (off + j) ++ vs ++ cs.drop (off + j + vs.length)).toArray
  | [], off, j, cs, _ => by simp
  | v :: vs, off, j, cs, h => by
    simp only [List.zipIdx_cons, List.foldl_cons]
    have e : cs.toArray.setIfInBounds (off + j) v = (cs.set (off + j) v).toArray := by simp
    rw [e, foldl_set vs off (j + 1) (cs.set (off + j) v) (by simp at h ⊢; omega)]
    congr 1
    have hlt : off + j < cs.length := by simp at h; omega
    rw [show off + (j + 1) = off + j + 1 by omega]
    rw [List.take_succ_eq_append_getElem (by simpa using hlt)]
    simp only [List.getElem_set_self, List.length_cons, List.append_assoc, List.cons_append, List.nil_append]
    rw [List.take_set_of_le (Nat.le_refl _), List.drop_set_of_lt (by omega)]
    rw [show off + j + 1 + vs.length = off + j + (vs.length + 1) by omega]
theorem fill_one {place : Nat → Option (Nat × Nat)} {i off size : Nat} {v : Value} {cs : List Value} {rest : List (Nat × Value)} (hp : place i = some (off, size)) (hs : v.cells.size = size) (hl : off + size ≤ cs.length) :
    Instr.fill place cs.toArray ((i, v) :: rest) = Instr.fill place (cs.take off ++ v.cells.toList ++ cs.drop (off + size)).toArray rest := by
  simp only [Instr.fill, hp]
  rw [if_neg (by simp [hs]; omega)]
  congr 1
  have e := foldl_set v.cells.toList off 0 cs (by simp [hs]; omega)
  simp only [Nat.add_zero] at e
  rw [show v.cells.toList.length = size by simpa using hs] at e
  rw [← e, ← Array.foldl_toList]
  simp
theorem fillC_sound {E : Env} {size : Option Nat} {off : Nat} {x : A} {v : Value} {zs zs' : List A} {vs : List Value} (hx : Rep E x v) (hz : RepL E zs vs) (h1 : ∀ u ∈ vs, u.oneCell' = true) (h : fillC size off x zs = some zs') :
    ∃ n, size = some n ∧ v.cells.size = n ∧ off + n ≤ vs.length ∧ RepL E zs' (vs.take off ++ v.cells.toList ++ vs.drop (off + n)) ∧ ∀ u ∈ vs.take off ++ v.cells.toList ++ vs.drop (off + n), u.oneCell' = true := by
  unfold fillC at h
  split at h
  · rename_i n
    split at h
    · rename_i hc
      obtain ⟨c1, c2, c3⟩ := hc
      obtain rfl := Option.some.inj h
      obtain ⟨r1, r2, r3⟩ := Rep_cells hx c3
      have hlen := (RepL_iff.1 hz).1
      refine ⟨n, rfl, by rw [r3, c1], by omega, RepL_append (RepL_append (RepL_take hz) r1) (RepL_drop hz), fun u hu => ?_⟩
      simp only [List.mem_append] at hu
      rcases hu with (hu | hu) | hu
      · exact h1 u (List.mem_of_mem_take hu)
      · exact r2 u hu
      · exact h1 u (List.mem_of_mem_drop hu)
    · simp at h
  · simp at h
theorem fillS_sound (h : Conc N0 w0 nt σ φ a w) {t : TypeId} {fs : Array Field} {place : Nat → Option (Nat × Nat)} (hu : P.underlying t = some (.struct fs))
    (hplace : ∀ i f n, fs[i]? = some f → tySize P f.type = some n → place i = some (f.offset, n)) :
    ∀ (ps : List (Nat × Operand)) (zs zs' : List A) (vs : List Value), RepL (envOf N0 φ w) zs vs → (∀ u ∈ vs, u.oneCell' = true) → fillS P t σ ps zs = some zs' →
      ∃ vs', Instr.fill place vs.toArray (ps.map fun p => (p.1, a.eval p.2)) = some vs'.toArray ∧ RepL (envOf N0 φ w) zs' vs' ∧ ∀ u ∈ vs', u.oneCell' = true
  | [], zs, zs', vs, hz, h1, hf => by
    simp [fillS] at hf
    subst hf
    exact ⟨vs, rfl, hz, h1⟩
  | (i, x) :: ps, zs, zs', vs, hz, h1, hf => by
    simp only [fillS] at hf
    split at hf
    · rename_i o ft hfi
      cases hc : fillC (tySize P ft) o (σ.ev x) zs with
      | none => simp [hc] at hf
      | some zs1 =>
        simp only [hc, Option.bind_some] at hf
        obtain ⟨n, hn, hv, hl, hz', h1'⟩ := fillC_sound (h.ev x) hz h1 hc
        obtain ⟨fs', fx, n', hu', hfx, rfl, rfl, hn', _⟩ := fieldInfo_eq hfi
        rw [hu] at hu'
        obtain rfl : fs = fs' := by injection hu' with e; injection e
        obtain ⟨vs', hr, hz'', h1''⟩ := fillS_sound h hu hplace ps zs1 zs' _ hz' h1' hf
        refine ⟨vs', ?_, hz'', h1''⟩
        rw [List.map_cons, fill_one (hplace i fx n hfx hn) hv hl]
        exact hr
    · simp at hf
theorem fillA_sound (h : Conc N0 w0 nt σ φ a w) {e n : Nat} (hn : tySize P e = some n) :
    ∀ (ps : List (Nat × Operand)) (zs zs' : List A) (vs : List Value), RepL (envOf N0 φ w) zs vs → (∀ u ∈ vs, u.oneCell' = true) → fillA P e σ ps zs = some zs' →
      ∃ vs', Instr.fill (fun i => some (i * n, n)) vs.toArray (ps.map fun p => (p.1, a.eval p.2)) = some vs'.toArray ∧ RepL (envOf N0 φ w) zs' vs' ∧ ∀ u ∈ vs', u.oneCell' = true
  | [], zs, zs', vs, hz, h1, hf => by
    simp [fillA] at hf
    subst hf
    exact ⟨vs, rfl, hz, h1⟩
  | (i, x) :: ps, zs, zs', vs, hz, h1, hf => by
    simp only [fillA, hn] at hf
    cases hc : fillC (some n) (i * n) (σ.ev x) zs with
    | none => simp [hc] at hf
    | some zs1 =>
      simp only [hc, Option.bind_some] at hf
      obtain ⟨n', hn', hv, hl, hz', h1'⟩ := fillC_sound (h.ev x) hz h1 hc
      obtain rfl := Option.some.inj hn'
      obtain ⟨vs', hr, hz'', h1''⟩ := fillA_sound h hn ps zs1 zs' _ hz' h1' hf
      refine ⟨vs', ?_, hz'', h1''⟩
      rw [List.map_cons, fill_one rfl hv hl]
      exact hr
theorem zeroA_eq {t : TypeId} {z : A} (h : zeroA P t = some z) : ∃ v, (zeroValue t).run P w = .ok v w ∧ (∀ E : Env, Rep E z v) := by
  unfold zeroA at h
  cases hi : P.info? t with
  | none => simp [hi] at h
  | some i =>
    simp only [hi, Option.bind_some] at h
    cases hz : i.zero with
    | none => simp [hz] at h
    | some v =>
      simp [hz] at h
      subst h
      exact ⟨v, by simp [zeroValue, typeInfo, hi, hz], fun E => Rep_toA E v⟩
theorem run_placesL : ∀ {fs : List Field}, (fs.all fun f => (tySize P f.type).isSome) = true →
    ∃ ys : List (Nat × Nat), (fs.mapM (fun f => (do pure (f.offset, ← sizeOf f.type) : Sem (Nat × Nat)))).run P w = .ok ys w ∧ ∀ (i : Nat) (f : Field) (n : Nat), fs[i]? = some f → tySize P f.type = some n → ys[i]? = some (f.offset, n)
  | [], _ => ⟨[], by simp, fun i f n hf => by simp at hf⟩
  | f :: fs, h => by
    simp only [List.all_cons, Bool.and_eq_true] at h
    obtain ⟨n, hn⟩ := Option.isSome_iff_exists.1 h.1
    obtain ⟨ys, hys, hpl⟩ := run_placesL h.2
    refine ⟨(f.offset, n) :: ys, ?_, fun i f' n' hf' hn' => ?_⟩
    · simp only [List.mapM_cons, Sem.run_bind, run_sizeOf hn, Result.andThen_ok, Sem.run_pure, hys]
    · cases i with
      | zero => simp at hf'; subst hf'; rw [hn] at hn'; simp at hn'; subst hn'; rfl
      | succ i => exact hpl i f' n' (by simpa using hf') hn'
theorem run_places {fs : Array Field} (h : (fs.toList.all fun f => (tySize P f.type).isSome) = true) :
    ∃ ys : Array (Nat × Nat), (fs.mapM (fun f => (do pure (f.offset, ← sizeOf f.type) : Sem (Nat × Nat)))).run P w = .ok ys w ∧ ∀ (i : Nat) (f : Field) (n : Nat), fs[i]? = some f → tySize P f.type = some n → ys[i]? = some (f.offset, n) := by
  obtain ⟨ys, hys, hpl⟩ := run_placesL (w := w) h
  refine ⟨ys.toArray, ?_, fun i f n hf hn => by simpa using hpl i f n (by simpa using hf) hn⟩
  rw [Array.mapM_eq_mapM_toList, Sem.run_map, hys]
  rfl
theorem good_build (h : Conc N0 w0 nt σ φ a w) {d : Option Tmp} {s : Nat} {ps : Array (Nat × Operand)} {t : TypeId} {p : String} {af : Array Edge} {g : Option (Nat × Bool)} {r : A}
    (hr : buildA P s σ ps.toList = some r) : Good P ⟨d, .build s ps, t, p, af, g⟩ a w N0 φ r := by
  unfold buildA at hr
  split at hr
  · rename_i zs hz
    obtain ⟨z, hzr, hzrep⟩ := zeroA_eq (w := w) hz
    have hzv := hzrep (envOf N0 φ w)
    simp only [Rep] at hzv
    obtain ⟨vs, rfl, hL, hone⟩ := hzv
    split at hr
    · rename_i n e hn
      split at hr
      · rename_i hsz
        obtain ⟨k, hk⟩ := Option.isSome_iff_exists.1 hsz
        cases hf : fillA P e σ ps.toList zs with
        | none => simp [hf] at hr
        | some zs' =>
          simp [hf] at hr
          subst hr
          have hu := tyArr_eq hn
          obtain ⟨vs', hfill, hL', hone'⟩ := fillA_sound h hk ps.toList zs zs' vs hL hone hf
          refine good_same rfl (v := .agg vs'.toArray) ?_ (by simp only [Rep]; exact ⟨vs', rfl, hL', hone'⟩)
          simp only [Instr.build, Sem.run_bind, hzr, Result.andThen_ok, run_underlying hu, run_sizeOf hk, Value.cells]
          rw [show (ps.map fun x => (x.1, a.eval x.2)).toList = ps.toList.map fun p => (p.1, a.eval p.2) by simp, hfill]
          rfl
      · simp at hr
    · rename_i hn
      split at hr
      · rename_i hall
        cases hf : fillS P s σ ps.toList zs with
        | none => simp [hf] at hr
        | some zs' =>
          simp [hf] at hr
          subst hr
          unfold allSized at hall
          split at hall
          · rename_i fs hu
            obtain ⟨ys, hys, hplace⟩ := run_places (w := w) hall
            obtain ⟨vs', hfill, hL', hone'⟩ := fillS_sound h hu hplace ps.toList zs zs' vs hL hone hf
            refine good_same rfl (v := .agg vs'.toArray) ?_ (by simp only [Rep]; exact ⟨vs', rfl, hL', hone'⟩)
            simp only [Instr.build, Sem.run_bind, hzr, Result.andThen_ok, run_underlying hu, Value.cells, hys]
            rw [show (ps.map fun x => (x.1, a.eval x.2)).toList = ps.toList.map fun p => (p.1, a.eval p.2) by simp, hfill]
            rfl
          · simp at hall
      · simp at hr
  · simp at hr
end
end Go.Abs
