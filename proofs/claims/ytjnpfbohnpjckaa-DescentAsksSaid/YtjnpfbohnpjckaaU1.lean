/- What the laws of this claim rest on: the abstract executor, its soundness, and what the functions compute on pure data. No condition. -/
import Derived.Orders
import Derived.WalkKit
import Derived.Test.YtjnpfbohnpjckaaProg
import Derived.Deep.MidRow
import Derived.Deep.AppendSrc
set_option linter.unusedVariables false
set_option linter.unusedSimpArgs false
namespace Go.Abs
def DR : Prop := True
inductive A where
  | any
  | int (k : IntKind) (n : Int)
  | bool (b : Bool)
  | str (s : List UInt8)
  | agg (cs : List A)
  | slc (es : List A)
  | clip (es : List A)
  | dptr (cs : List A)
  | nils
  | nilp
  | ref (n off : Nat)
  | eref (n i off : Nat)
  | row (n off k len : Nat) (c : Bool)
  | fn (f : FuncId) (caps : List A)
  | tup (cs : List A)
  | emp (c : Bool)
instance : Inhabited A := ⟨.any⟩
inductive Own where
  | free
  | nil
  | loc (b k : Nat)
def A.cells : A → List A
  | .agg cs => cs
  | x => [x]
def strideOf : List A → Nat
  | [] => 0
  | e :: _ => e.cells.length
def A.mem (n : Nat) : A → Bool
  | .ref m _ => m == n
  | .eref m _ _ => m == n
  | .row m _ _ _ _ => m == n
  | .agg cs => memL n cs
  | .fn _ cs => memL n cs
  | .tup cs => memL n cs
  | _ => false
where memL (n : Nat) : List A → Bool
  | [] => false
  | c :: cs => c.mem n || memL n cs
def A.pure : A → Bool
  | .ref _ _ => false
  | .eref _ _ _ => false
  | .row _ _ _ _ _ => false
  | .agg cs => pureL cs
  | .fn _ cs => pureL cs
  | .tup cs => pureL cs
  | _ => true
where pureL : List A → Bool
  | [] => true
  | c :: cs => c.pure && pureL cs
mutual
theorem A.mem_of_pure (n : Nat) : ∀ x : A, x.pure = true → x.mem n = false
  | .any, _ => rfl
  | .int _ _, _ => rfl
  | .bool _, _ => rfl
  | .str _, _ => rfl
  | .slc _, _ => rfl
  | .clip _, _ => rfl
  | .dptr _, _ => rfl
  | .nils, _ => rfl
  | .nilp, _ => rfl
  | .emp _, _ => rfl
  | .ref _ _, h => by simp [A.pure] at h
  | .eref _ _ _, h => by simp [A.pure] at h
  | .row _ _ _ _ _, h => by simp [A.pure] at h
  | .agg cs, h => by simp only [A.mem]; exact A.memL_of_pure n cs (by simpa only [A.pure] using h)
  | .fn _ cs, h => by simp only [A.mem]; exact A.memL_of_pure n cs (by simpa only [A.pure] using h)
  | .tup cs, h => by simp only [A.mem]; exact A.memL_of_pure n cs (by simpa only [A.pure] using h)
theorem A.memL_of_pure (n : Nat) : ∀ cs : List A, A.pure.pureL cs = true → A.mem.memL n cs = false
  | [], _ => rfl
  | c :: cs, h => by
    simp only [A.pure.pureL, Bool.and_eq_true] at h
    simp only [A.mem.memL, A.mem_of_pure n c h.1, A.memL_of_pure n cs h.2, Bool.or_self]
end
structure Env where
  N : Nat → Prop
  φ : List Own
  w : World
mutual
def Rep (E : Env) : A → Value → Prop
  | .any, _ => True
  | .int k n, v => v = .int k n
  | .bool b, v => v = .bool b
  | .str s, v => v = .string ⟨s.toArray⟩
  | .agg cs, v => ∃ vs : List Value, v = .agg vs.toArray ∧ RepL E cs vs ∧ ∀ u ∈ vs, u.oneCell' = true
  | .slc es, v => A.pure.pureL es = true ∧ ∃ a cap, v = .slice a es.length cap ∧ es.length ≤ cap ∧
      (es ≠ [] → ∃ b off, a = some ⟨b, off, none⟩ ∧ b < E.w.heap.size ∧ ¬ E.N b ∧ RepE E (strideOf es) b off es)
  | .clip es, v => A.pure.pureL es = true ∧ ∃ a, v = .slice a es.length es.length ∧
      (es ≠ [] → ∃ b off, a = some ⟨b, off, none⟩ ∧ b < E.w.heap.size ∧ ¬ E.N b ∧ RepE E (strideOf es) b off es)
  | .dptr cs, v => A.pure.pureL cs = true ∧ ∃ b off, v = .pointer (some ⟨b, off, none⟩) ∧ b < E.w.heap.size ∧ ¬ E.N b ∧ RepM E b off cs
  | .nils, v => v = .slice none 0 0
  | .nilp, v => v = .pointer none
  | .emp c, v => ∃ a cap, v = .slice a 0 cap ∧ a.isNone = c
  | .ref n off, v => ∃ b k, E.φ[n]? = some (.loc b k) ∧ v = .pointer (some ⟨b, off, none⟩)
  | .eref n i off, v => ∃ b k, E.φ[n]? = some (.loc b k) ∧ v = .pointer (some ⟨b, i * k + off, none⟩)
  | .row n off k len cl, v =>
      (∃ o, E.φ[n]? = some o ∧ o ≠ .free ∧ len = 0 ∧ (o = .nil → off = 0) ∧ ∃ a, v = .slice a 0 0) ∨
      (∃ b cap c e fr, E.φ[n]? = some (.loc b k) ∧ v = .slice (some ⟨b, off * k, none⟩) len cap ∧ len ≤ cap ∧ (cl = true → cap = len) ∧
        E.w.heap[b]? = some (.cells c e fr) ∧ off * k + k * cap ≤ c.size)
  | .fn f caps, v => ∃ vs : List Value, v = .func (.func f) #[] vs.toArray ∧ RepL E caps vs
  | .tup cs, v => ∃ vs : List Value, v = .tuple vs.toArray ∧ RepL E cs vs
def RepL (E : Env) : List A → List Value → Prop
  | [], vs => vs = []
  | c :: cs, vs => ∃ v vs', vs = v :: vs' ∧ Rep E c v ∧ RepL E cs vs'
def RepM (E : Env) (b : Nat) (off : Nat) : List A → Prop
  | [] => True
  | c :: cs => (∃ v, E.w.cell? ⟨b, off, none⟩ = some v ∧ v.oneCell' = true ∧ Rep E c v) ∧ RepM E b (off + 1) cs
def RepE (E : Env) (k : Nat) (b : Nat) (off : Nat) : List A → Prop
  | [] => True
  | .agg cs :: es => (cs.length = k ∧ RepM E b off cs) ∧ RepE E k b (off + k) es
  | e :: es => (k = 1 ∧ ∃ v, E.w.cell? ⟨b, off, none⟩ = some v ∧ v.oneCell' = true ∧ Rep E e v) ∧ RepE E k b (off + k) es
end
theorem RepE_agg {E : Env} {k b off : Nat} {cs es : List A} : RepE E k b off (.agg cs :: es) = ((cs.length = k ∧ RepM E b off cs) ∧ RepE E k b (off + k) es) := by
  simp [RepE]
structure Ext (K : Nat → Prop) (E E' : Env) : Prop where
  size : E.w.heap.size ≤ E'.w.heap.size
  blk : ∀ b, b < E.w.heap.size → ¬ E.N b → ¬ E'.N b ∧ E'.w.heap[b]? = E.w.heap[b]?
  refs : ∀ n o, K n → E.φ[n]? = some o → o ≠ .free → E'.φ[n]? = some o
  own : ∀ n b k c e fr, K n → E.φ[n]? = some (.loc b k) → E.w.heap[b]? = some (.cells c e fr) → ∃ c' fr', E'.w.heap[b]? = some (.cells c' e fr') ∧ c'.size = c.size
theorem Ext.cell {K : Nat → Prop} {E E' : Env} (h : Ext K E E') {b off : Nat} (hb : b < E.w.heap.size) (hn : ¬ E.N b) :
    E'.w.cell? ⟨b, off, none⟩ = E.w.cell? ⟨b, off, none⟩ := by
  simp only [World.cell?, (h.blk b hb hn).2]
mutual
theorem Rep.mono {K : Nat → Prop} {E E' : Env} (h : Ext K E E') : ∀ (x : A) (v : Value), Rep E x v → (∀ n, x.mem n = true → K n) → Rep E' x v
  | .any, _, _, _ => by simp only [Rep]
  | .int _ _, v, hr, _ => by simpa only [Rep] using hr
  | .bool _, v, hr, _ => by simpa only [Rep] using hr
  | .str _, v, hr, _ => by simpa only [Rep] using hr
  | .nils, v, hr, _ => by simpa only [Rep] using hr
  | .nilp, v, hr, _ => by simpa only [Rep] using hr
  | .emp _, v, hr, _ => by simpa only [Rep] using hr
  | .agg cs, v, hr, hk => by
    simp only [Rep] at hr ⊢
    obtain ⟨vs, hv, hl, h1⟩ := hr
    exact ⟨vs, hv, RepL.mono h cs vs hl (fun n hn => hk n (by simpa only [A.mem] using hn)), h1⟩
  | .fn f cs, v, hr, hk => by
    simp only [Rep] at hr ⊢
    obtain ⟨vs, hv, hl⟩ := hr
    exact ⟨vs, hv, RepL.mono h cs vs hl (fun n hn => hk n (by simpa only [A.mem] using hn))⟩
  | .tup cs, v, hr, hk => by
    simp only [Rep] at hr ⊢
    obtain ⟨vs, hv, hl⟩ := hr
    exact ⟨vs, hv, RepL.mono h cs vs hl (fun n hn => hk n (by simpa only [A.mem] using hn))⟩
  | .slc es, v, hr, _ => by
    simp only [Rep] at hr ⊢
    obtain ⟨hp, a, cap, hv, hc, hl⟩ := hr
    refine ⟨hp, a, cap, hv, hc, fun hne => ?_⟩
    obtain ⟨b, off, ha, hb, hn, he⟩ := hl hne
    exact ⟨b, off, ha, Nat.lt_of_lt_of_le hb h.size, (h.blk b hb hn).1, RepE.mono h (strideOf es) b off es hb hn he (fun n hn => by rw [A.memL_of_pure n es hp] at hn; cases hn)⟩
  | .clip es, v, hr, _ => by
    simp only [Rep] at hr ⊢
    obtain ⟨hp, a, hv, hl⟩ := hr
    refine ⟨hp, a, hv, fun hne => ?_⟩
    obtain ⟨b, off, ha, hb, hn, he⟩ := hl hne
    exact ⟨b, off, ha, Nat.lt_of_lt_of_le hb h.size, (h.blk b hb hn).1, RepE.mono h (strideOf es) b off es hb hn he (fun n hn => by rw [A.memL_of_pure n es hp] at hn; cases hn)⟩
  | .dptr cs, v, hr, _ => by
    simp only [Rep] at hr ⊢
    obtain ⟨hp, b, off, hv, hb, hn, he⟩ := hr
    exact ⟨hp, b, off, hv, Nat.lt_of_lt_of_le hb h.size, (h.blk b hb hn).1, RepM.mono h b off cs hb hn he (fun n hn => by rw [A.memL_of_pure n cs hp] at hn; cases hn)⟩
  | .ref n off, v, hr, hk => by
    simp only [Rep] at hr ⊢
    obtain ⟨b, k, hb, hv⟩ := hr
    exact ⟨b, k, h.refs n _ (hk n (by simp [A.mem])) hb (by simp), hv⟩
  | .eref n i off, v, hr, hk => by
    simp only [Rep] at hr ⊢
    obtain ⟨b, k, hb, hv⟩ := hr
    exact ⟨b, k, h.refs n _ (hk n (by simp [A.mem])) hb (by simp), hv⟩
  | .row n off k len cl, v, hr, hk => by
    simp only [Rep] at hr ⊢
    rcases hr with ⟨o, hb, hf, r⟩ | ⟨b, cap, c, e, fr, hb, hv, hlc, hcl, hc, hs⟩
    · exact .inl ⟨o, h.refs n _ (hk n (by simp [A.mem])) hb hf, hf, r⟩
    · obtain ⟨c', fr', hc', hs'⟩ := h.own n b k c e fr (hk n (by simp [A.mem])) hb hc
      exact .inr ⟨b, cap, c', e, fr', h.refs n _ (hk n (by simp [A.mem])) hb (by simp), hv, hlc, hcl, hc', by omega⟩
theorem RepL.mono {K : Nat → Prop} {E E' : Env} (h : Ext K E E') : ∀ (cs : List A) (vs : List Value), RepL E cs vs → (∀ n, A.mem.memL n cs = true → K n) → RepL E' cs vs
  | [], _, hr, _ => by simpa only [RepL] using hr
  | c :: cs, vs, hr, hk => by
    simp only [RepL] at hr ⊢
    obtain ⟨v, vs', hv, hc, hl⟩ := hr
    exact ⟨v, vs', hv, Rep.mono h c v hc (fun n hn => hk n (by simp [A.mem.memL, hn])), RepL.mono h cs vs' hl (fun n hn => hk n (by simp [A.mem.memL, hn]))⟩
theorem RepM.mono {K : Nat → Prop} {E E' : Env} (h : Ext K E E') : ∀ (b off : Nat) (cs : List A), b < E.w.heap.size → ¬ E.N b → RepM E b off cs → (∀ n, A.mem.memL n cs = true → K n) → RepM E' b off cs
  | _, _, [], _, _, _, _ => by simp only [RepM]
  | b, off, c :: cs, hb, hn, hr, hk => by
    simp only [RepM] at hr ⊢
    obtain ⟨⟨v, hv, h1, hc⟩, hl⟩ := hr
    exact ⟨⟨v, by rw [h.cell hb hn]; exact hv, h1, Rep.mono h c v hc (fun n hn => hk n (by simp [A.mem.memL, hn]))⟩, RepM.mono h b (off + 1) cs hb hn hl (fun n hn => hk n (by simp [A.mem.memL, hn]))⟩
theorem RepE.mono {K : Nat → Prop} {E E' : Env} (h : Ext K E E') : ∀ (k b off : Nat) (es : List A), b < E.w.heap.size → ¬ E.N b → RepE E k b off es → (∀ n, A.mem.memL n es = true → K n) → RepE E' k b off es
  | _, _, _, [], _, _, _, _ => by simp only [RepE]
  | k, b, off, e :: es, hb, hn, hr, hk => by
    cases e
    case agg cs =>
      rw [RepE_agg] at hr ⊢
      obtain ⟨⟨hlen, hm⟩, hl⟩ := hr
      exact ⟨⟨hlen, RepM.mono h b off cs hb hn hm (fun n hn => hk n (by simp [A.mem.memL, A.mem, hn]))⟩, RepE.mono h k b (off + k) es hb hn hl (fun n hn => hk n (by simp [A.mem.memL, hn]))⟩
    all_goals
      simp only [RepE] at hr ⊢
      obtain ⟨⟨hk1, v, hv, h1, hc⟩, hl⟩ := hr
      exact ⟨⟨hk1, v, by rw [h.cell hb hn]; exact hv, h1, Rep.mono h _ v hc (fun n hn => hk n (by simp [A.mem.memL, hn]))⟩, RepE.mono h k b (off + k) es hb hn hl (fun n hn => hk n (by simp [A.mem.memL, hn]))⟩
end
inductive Obj where
  | box (cs : List A)
  | row (k : Nat) (es : List A)
instance : Inhabited Obj := ⟨.row 0 []⟩
structure St where
  s : List (Nat × A)
  H : List Obj
def toA1 : Value → A
  | .int k n => .int k n
  | .bool b => .bool b
  | .string s => .str s.data.toList
  | .slice none 0 0 => .nils
  | .pointer none => .nilp
  | .func (.func f) ⟨[]⟩ ⟨[]⟩ => .fn f []
  | .tuple ⟨[]⟩ => .tup []
  | _ => .any
def toA : Value → A
  | .agg ⟨cs⟩ => if cs.all (·.oneCell') then .agg (cs.map toA1) else .any
  | v => toA1 v
def look : List (Nat × A) → Nat → A
  | [], _ => .any
  | (d, v) :: r, t => if d = t then v else look r t
def setNth : List A → Nat → A → List A
  | [], _, _ => []
  | _ :: xs, 0, v => v :: xs
  | x :: xs, n + 1, v => x :: setNth xs n v
def nthO : List Obj → Nat → Option Obj
  | [], _ => none
  | x :: _, 0 => some x
  | _ :: xs, n + 1 => nthO xs n
def setO : List Obj → Nat → Obj → List Obj
  | [], _, _ => []
  | _ :: xs, 0, v => v :: xs
  | x :: xs, n + 1, v => x :: setO xs n v
def St.ev (σ : St) : Operand → A
  | .tmp t => look σ.s t
  | .const v => toA v
  | .func f => .fn f []
  | .global _ => .any
def St.put (σ : St) (d : Option Tmp) (v : A) : St :=
  match d with
  | some d => { σ with s := (d, v) :: σ.s }
  | none => σ
def St.setH (σ : St) (n : Nat) (o : Obj) : St := { σ with H := setO σ.H n o }
def tyAgg (P : Program) (t : TypeId) : Option Bool :=
  match P.underlying t with
  | some (.struct _) => some true
  | some (.array _ _) => some true
  | some _ => some false
  | none => none
def tySize (P : Program) (t : TypeId) : Option Nat := (P.info? t).map (·.size)
def tyBytes (P : Program) (t : TypeId) : Nat := P.bytesOf t
def tyElem (P : Program) (t : TypeId) : Option TypeId :=
  match P.underlying t with
  | some (.slice e) => some e
  | _ => none
def tyArr (P : Program) (t : TypeId) : Option (Nat × TypeId) :=
  match P.underlying t with
  | some (.array n e) => some (n, e)
  | _ => none
def fieldInfo (P : Program) (s : TypeId) (f : Nat) : Option (Nat × TypeId) :=
  match P.underlying s with
  | some (.struct fs) => (fs[f]?).bind fun x => if tySize P x.type = some 0 then none else if (tySize P x.type).isNone then none else some (x.offset, x.type)
  | _ => none
def zeroA (P : Program) (t : TypeId) : Option A := (P.info? t).bind fun i => i.zero.map toA
def tyStr (P : Program) (t : TypeId) : Bool :=
  match P.underlying t with
  | some .string => true
  | _ => false
def tyBool (P : Program) (t : TypeId) : Bool :=
  match P.underlying t with
  | some .bool => true
  | _ => false
def tyPtr (P : Program) (t : TypeId) : Bool :=
  match P.underlying t with
  | some (.pointer _) => true
  | _ => false
def tyInt (P : Program) (t : TypeId) : Option IntKind :=
  match P.underlying t with
  | some (.int k) => some k
  | _ => none
def loadC (P : Program) (t : TypeId) (cs : List A) : Option A :=
  match tyAgg P t with
  | some true =>
    match tySize P t with
    | some n => if n ≤ cs.length then some (.agg (cs.take n)) else none
    | none => none
  | some false => cs.head?
  | none => none
def A.val : A → Bool
  | .any => false
  | .tup _ => false
  | _ => true
def A.flat : A → Bool
  | .int _ _ => true
  | .bool _ => true
  | .str _ => true
  | .nils => true
  | .nilp => true
  | .agg cs => flatL cs
  | .tup cs => flatL cs
  | _ => false
where flatL : List A → Bool
  | [] => true
  | c :: cs => c.flat && flatL cs
def encU8 (c : UInt8) : A := .int .u8 c.toNat
def bytesA (s : List UInt8) : List A := s.map encU8
def byteOfA : A → Option UInt8
  | .int .u8 n => some (UInt8.ofNat n.toNat)
  | _ => none
def bytesOfA : List A → Option (List UInt8)
  | [] => some []
  | x :: xs => (byteOfA x).bind fun b => (bytesOfA xs).map (b :: ·)
def eqA : A → A → Option Bool
  | .int k a, .int k' b => if k = k' then some (a == b) else none
  | .bool a, .bool b => some (a == b)
  | .str a, .str b => some (a == b)
  | _, _ => none
def eqL : List A → List A → Option Bool
  | [], [] => some true
  | x :: xs, y :: ys => (eqA x y).bind fun a => (eqL xs ys).map (a && ·)
  | _, _ => none
inductive CK where
  | int (k : IntKind)
  | bool
  | str
  deriving DecidableEq
def CK.has : CK → A → Bool
  | .int k, .int k' _ => k == k'
  | .bool, .bool _ => true
  | .str, .str _ => true
  | _, _ => false
def hasL : List CK → List A → Bool
  | [], [] => true
  | c :: cs, x :: xs => c.has x && hasL cs xs
  | _, _ => false
def A.isPtr : A → Bool
  | .ref _ _ => true
  | .eref _ _ _ => true
  | .dptr _ => true
  | _ => false
def binI (op : BinOp) (k : IntKind) (a b : Int) : Option A :=
  match op with
  | .add => some (.int k (k.wrap (a + b)))
  | .sub => some (.int k (k.wrap (a - b)))
  | .mul => some (.int k (k.wrap (a * b)))
  | .quo => if b = 0 then none else some (.int k (k.wrap (a.tdiv b)))
  | .rem => if b = 0 then none else some (.int k (a.tmod b))
  | .and => some (.int k (k.wrap ((BitVec.ofInt k.bits a &&& BitVec.ofInt k.bits b).toNat)))
  | .or => some (.int k (k.wrap ((BitVec.ofInt k.bits a ||| BitVec.ofInt k.bits b).toNat)))
  | .xor => some (.int k (k.wrap ((BitVec.ofInt k.bits a ^^^ BitVec.ofInt k.bits b).toNat)))
  | .andNot => some (.int k (k.wrap ((BitVec.ofInt k.bits a &&& ~~~ BitVec.ofInt k.bits b).toNat)))
  | .eql => some (.bool (a == b))
  | .neq => some (.bool (a != b))
  | .lss => some (.bool (decide (a < b)))
  | .leq => some (.bool (decide (a ≤ b)))
  | .gtr => some (.bool (decide (b < a)))
  | .geq => some (.bool (decide (b ≤ a)))
  | _ => none
def binS (op : BinOp) (a b : List UInt8) : Option A :=
  match op with
  | .add => if a.length + b.length ≤ 9223372036854775807 then some (.str (a ++ b)) else none
  | .eql => some (.bool (a == b))
  | .neq => some (.bool (a != b))
  | .lss => some (.bool (Op.bytesLess a b))
  | .leq => some (.bool (Op.bytesLess a b || a == b))
  | .gtr => some (.bool !(Op.bytesLess a b || a == b))
  | .geq => some (.bool !(Op.bytesLess a b))
  | _ => none
def nilEq (sl : Bool) (op : BinOp) (c : Bool) : Option A :=
  if sl = true then
    match op with
    | .eql => some (.bool c)
    | .neq => some (.bool !c)
    | _ => none
  else none
def binA (ks : Option (List CK)) (bl ptr sl : Bool) (op : BinOp) : A → A → Option A
  | .int k a, .int k' b =>
    match op with
    | .shl => if b < 0 then none else some (.int k (k.wrap (a * 2 ^ (min b.toNat k.bits))))
    | .shr => if b < 0 then none else some (.int k (a.fdiv (2 ^ (min b.toNat k.bits))))
    | _ => if k = k' then binI op k a b else none
  | .bool a, .bool b =>
    if bl = true then
      match op with
      | .eql => some (.bool (a == b))
      | .neq => some (.bool (a != b))
      | _ => none
    else none
  | .str a, .str b => binS op a b
  | .agg xs, .agg ys =>
    match ks with
    | some l =>
      if hasL l xs = true ∧ hasL l ys = true then
        match op with
        | .eql => (eqL xs ys).map .bool
        | .neq => (eqL xs ys).map fun b => .bool !b
        | _ => none
      else none
    | none => none
  | .nilp, y =>
    if ptr then
      match op with
      | .eql => match y with | .nilp => some (.bool true) | _ => if y.isPtr then some (.bool false) else none
      | .neq => match y with | .nilp => some (.bool false) | _ => if y.isPtr then some (.bool true) else none
      | _ => none
    else none
  | x, .nilp =>
    if ptr && x.isPtr then
      match op with
      | .eql => some (.bool false)
      | .neq => some (.bool true)
      | _ => none
    else none
  | .emp c, .nils => nilEq sl op c
  | .slc (_ :: _), .nils => nilEq sl op false
  | _, _ => none
def unA (op : UnOp) : A → Option A
  | .bool b => match op with | .not => some (.bool !b) | _ => none
  | .int k n => match op with | .neg => some (.int k (k.wrap (0 - n))) | _ => none
  | _ => none
def ckGo (rec : TypeId → Option (List CK)) (size : TypeId → Option Nat) : List Field → Nat → Option (List CK)
  | [], _ => some []
  | f :: fs, off =>
    if f.name = "_" ∨ f.offset ≠ off then none else
    match rec f.type, size f.type with
    | some ks, some n => if ks.length = n then (ckGo rec size fs (off + n)).map (ks ++ ·) else none
    | _, _ => none
def ckOf (P : Program) : Nat → TypeId → Option (List CK)
  | 0, _ => none
  | d + 1, t =>
    match P.underlying t with
    | some .bool => some [.bool]
    | some (.int k) => some [.int k]
    | some .string => some [.str]
    | some (.struct fs) => if P.stoodInHeld t = true then none else ckGo (ckOf P d) (tySize P) fs.toList 0
    | _ => none
def eqTy (P : Program) (t : TypeId) : Option (List CK) := if P.eqGuardType P.depth t = true ∨ tyAgg P t ≠ some true then none else ckOf P 10 t
def norm0 : A → A
  | .nils => .slc []
  | .emp _ => .slc []
  | .clip es => .slc es
  | x => x
def A.norm : A → A
  | .agg cs => .agg (cs.map norm0)
  | x => norm0 x
def viewRow (H : List Obj) (n off k len : Nat) : Option A :=
  match nthO H n with
  | some (.row k' es) => if k' = k ∧ off + len ≤ es.length ∧ k ≠ 0 then some (.slc ((es.drop off).take len)) else none
  | _ => none
def view0 (H : List Obj) : A → Option A
  | .row n off k len _ => viewRow H n off k len
  | .ref _ _ => none
  | .eref _ _ _ => none
  | .agg _ => none
  | .tup _ => none
  | .fn _ _ => none
  | .nils => some (.slc [])
  | .emp _ => some (.slc [])
  | .clip es => some (.slc es)
  | x => some x
def view0L (H : List Obj) : List A → Option (List A)
  | [] => some []
  | x :: xs => (view0 H x).bind fun y => (view0L H xs).map (y :: ·)
def view1 (H : List Obj) : A → Option A
  | .ref n off =>
    match nthO H n with
    | some (.box cs) => (view0L H (cs.drop off)).map .dptr
    | _ => none
  | .eref n i off =>
    match nthO H n with
    | some (.row _ es) => (es[i]?).map fun e => .dptr (e.cells.drop off)
    | _ => none
  | .agg cs => (view0L H cs).map .agg
  | x => view0 H x
def view1L (H : List Obj) : List A → Option (List A)
  | [] => some []
  | x :: xs => (view1 H x).bind fun y => (view1L H xs).map (y :: ·)
def view (H : List Obj) : A → Option A
  | .fn f cs => (view1L H cs).map (.fn f ·)
  | x => view1 H x
def viewL (H : List Obj) : List A → Option (List A)
  | [] => some []
  | x :: xs => (view H x).bind fun y => (viewL H xs).map (y :: ·)
def getI (i : Int) (es : List A) : Option A := if 0 ≤ i then es[i.toNat]? else none
inductive Bd where
  | none
  | some (n : Int)
  | bad
def bdOf : A → Bd
  | .int _ n => .some n
  | _ => .bad
def St.bd (σ : St) : Option Operand → Bd
  | Option.none => .none
  | Option.some x => bdOf (σ.ev x)
def Bd.get (d : Int) : Bd → Int
  | .some n => n
  | _ => d
def Bd.ok : Bd → Bool
  | .bad => false
  | _ => true
def Bd.ok3 : Bd → Bool
  | .some _ => true
  | _ => false
def strOK (k : Nat) (es : List A) : Bool := es.isEmpty || strideOf es == k
def sliceS (s : List UInt8) (lo hi mx : Bd) : Option A :=
  match mx with
  | .none => if 0 ≤ lo.get 0 ∧ lo.get 0 ≤ hi.get s.length ∧ hi.get s.length ≤ s.length then some (.str ((s.take (hi.get s.length).toNat).drop (lo.get 0).toNat)) else none
  | _ => none
def sliceE (k : Nat) (es : List A) (lo hi mx : Bd) : Option A :=
  match mx with
  | .none => if strOK k es = true ∧ 0 ≤ lo.get 0 ∧ lo.get 0 ≤ hi.get es.length ∧ hi.get es.length ≤ es.length then some (.slc ((es.take (hi.get es.length).toNat).drop (lo.get 0).toNat)) else none
  | .some m => if strOK k es = true ∧ 0 ≤ lo.get 0 ∧ lo.get 0 ≤ hi.get es.length ∧ hi.get es.length ≤ es.length ∧ m = hi.get es.length ∧ hi.ok3 = true then some (.clip ((es.take (hi.get es.length).toNat).drop (lo.get 0).toNat)) else none
  | .bad => none
def sliceR (n off k len : Nat) (lo hi mx : Bd) : Option A :=
  match mx with
  | .none => if 0 ≤ lo.get 0 ∧ lo.get 0 ≤ hi.get len ∧ hi.get len ≤ len then some (.row n (off + (lo.get 0).toNat) k (hi.get len - lo.get 0).toNat false) else none
  | .some m => if 0 ≤ lo.get 0 ∧ lo.get 0 ≤ hi.get len ∧ hi.get len ≤ len ∧ m = hi.get len ∧ hi.ok3 = true then some (.row n (off + (lo.get 0).toNat) k (hi.get len - lo.get 0).toNat true) else none
  | .bad => none
def sliceA (st : Bool) (sz : Option Nat) (x : A) (lo hi mx : Bd) : Option A :=
  match x with
  | .str s => if st = true then sliceS s lo hi mx else none
  | .slc es => match sz with | some k => sliceE k es lo hi mx | none => none
  | .clip es => match sz with | some k => sliceE k es lo hi mx | none => none
  | .row n off k' len _ => match sz with | some k => if k = k' then sliceR n off k len lo hi mx else none | none => none
  | _ => none
def elSize (P : Program) (t : TypeId) : Option Nat :=
  match tyElem P t with
  | some e => tySize P e
  | none => none
def pickA (c a b : A) : Option A :=
  match c with
  | .bool t => some (if t then a else b)
  | _ => none
def fillC (size : Option Nat) (off : Nat) (x : A) (zs : List A) : Option (List A) :=
  match size with
  | some n => if x.cells.length = n ∧ off + n ≤ zs.length ∧ x.val = true then some (zs.take off ++ x.cells ++ zs.drop (off + n)) else none
  | none => none
def fillS (P : Program) (t : TypeId) (σ : St) : List (Nat × Operand) → List A → Option (List A)
  | [], zs => some zs
  | (i, x) :: ps, zs =>
    match fieldInfo P t i with
    | some (o, ft) => (fillC (tySize P ft) o (σ.ev x) zs).bind (fillS P t σ ps)
    | none => none
def fillA (P : Program) (e : TypeId) (σ : St) : List (Nat × Operand) → List A → Option (List A)
  | [], zs => some zs
  | (i, x) :: ps, zs =>
    match tySize P e with
    | some n => (fillC (some n) (i * n) (σ.ev x) zs).bind (fillA P e σ ps)
    | none => none
def fillE (k : Nat) (σ : St) : List (Nat × Operand) → List A → Option (List A)
  | [], zs => some zs
  | (i, x) :: ps, zs => if (σ.ev x).cells.length = k ∧ i < zs.length ∧ (σ.ev x).val = true ∧ (σ.ev x).pure = true then fillE k σ ps (setNth zs i (σ.ev x).norm) else none
def allSized (P : Program) (t : TypeId) : Bool :=
  match P.underlying t with
  | some (.struct fs) => fs.toList.all fun f => (tySize P f.type).isSome
  | _ => false
def buildA (P : Program) (t : TypeId) (σ : St) (parts : List (Nat × Operand)) : Option A :=
  match zeroA P t with
  | some (.agg zs) =>
    match tyArr P t with
    | some (_, e) => if (tySize P e).isSome = true then (fillA P e σ parts zs).map .agg else none
    | none => if allSized P t = true then (fillS P t σ parts zs).map .agg else none
  | _ => none
def buildSliceA (P : Program) (t : TypeId) (len : Nat) (σ : St) (parts : List (Nat × Operand)) : Option A :=
  match tyElem P t with
  | some e =>
    match tySize P e, zeroA P e with
    | some k, some z => if len * k ≤ 16777216 ∧ k ≠ 0 ∧ z.pure = true ∧ z.val = true ∧ z.cells.length = k then (fillE k σ parts (List.replicate len z.norm)).map .clip else none
    | _, _ => none
  | none => none
def loadA (P : Program) (t : TypeId) (H : List Obj) (a : A) : Option A :=
  match a with
  | .dptr cs => loadC P t cs
  | .ref n off => match nthO H n with | some (.box cs) => loadC P t (cs.drop off) | _ => none
  | .eref n i off => match nthO H n with | some (.row _ es) => (es[i]?).bind fun e => loadC P t (e.cells.drop off) | _ => none
  | _ => none
def nilCheckA (x : A) : Option A :=
  match x with
  | .dptr cs => some (.dptr cs)
  | .ref n off => some (.ref n off)
  | .eref n i off => some (.eref n i off)
  | .fn f cs => some (.fn f cs)
  | _ => none
def isB2S (P : Program) (src dst : TypeId) : Bool := (tyElem P src).any (fun e => tyInt P e = some .u8) && tyStr P dst
def convB (b : Bool) (x : Option A) : Option A :=
  if b = true then
    match x with
    | some (.slc es) => (bytesOfA es).map .str
    | _ => none
  else none
def convA (P : Program) (src dst : TypeId) (H : List Obj) (x : A) : Option A :=
  match x with
  | .int _ n => match tyInt P dst with | some k => if (tyAgg P src).isSome = true then some (.int k (k.wrap n)) else none | none => none
  | .str s => if tyStr P src && tyStr P dst then some (.str s) else none
  | .slc es => convB (isB2S P src dst) (view H (.slc es))
  | .clip es => convB (isB2S P src dst) (view H (.clip es))
  | .nils => convB (isB2S P src dst) (view H .nils)
  | .row n off k len c => convB (isB2S P src dst) (view H (.row n off k len c))
  | _ => none
def fieldAddrA (o : Nat) (x : A) : Option A :=
  match x with
  | .dptr cs => some (.dptr (cs.drop o))
  | .ref n off => some (.ref n (off + o))
  | .eref n i off => some (.eref n i (off + o))
  | _ => none
def fieldAddrI (i : Option (Nat × TypeId)) (x : A) : Option A :=
  match i with
  | some (o, _) => fieldAddrA o x
  | none => none
def fieldA (P : Program) (i : Option (Nat × TypeId)) (x : A) : Option A :=
  match i, x with
  | some (o, t), .agg cs => loadC P t (cs.drop o)
  | _, _ => none
def getE (k : Nat) (i : Int) (es : List A) : Option A := (getI i es).bind fun y => if k = y.cells.length then some (.dptr y.cells) else none
def indexAddrE (k : Nat) (i : Int) (x : A) : Option A :=
  match x with
  | .slc es => getE k i es
  | .clip es => getE k i es
  | .row n off k' len _ => if k = k' ∧ 0 ≤ i ∧ i < len then some (.eref n (off + i.toNat) 0) else none
  | _ => none
def indexAddrR (n k : Nat) (i : Int) (x : A) : Option A :=
  match x with
  | .ref m off => if 0 ≤ i ∧ i < n then some (.ref m (off + i.toNat * k)) else none
  | .dptr cs => if 0 ≤ i ∧ i < n then some (.dptr (cs.drop (i.toNat * k))) else none
  | _ => none
def indexAddrA (P : Program) (t : TypeId) (x ix : A) : Option A :=
  match ix with
  | .int _ i =>
    match tyElem P t with
    | some e => match tySize P e with | some k => indexAddrE k i x | none => none
    | none =>
      match tyArr P t with
      | some (n, e) => match tySize P e with | some k => indexAddrR n k i x | none => none
      | none => none
  | _ => none
def indexA (P : Program) (t : TypeId) (x ix : A) : Option A :=
  match ix, x with
  | .int _ i, .str s => if tyStr P t = true ∧ 0 ≤ i then (s[i.toNat]?).map encU8 else none
  | .int _ i, .agg cs =>
    match tyArr P t with
    | some (n, e) => match tySize P e with | some k => if 0 ≤ i ∧ i < n then loadC P e (cs.drop (i.toNat * k)) else none | none => none
    | none => none
  | _, _ => none
def extractA (x : A) (ix : Nat) : Option A :=
  match x with
  | .tup cs => cs[ix]?
  | _ => none
def lenA (P : Program) (t : TypeId) (x : A) : Option A :=
  match x with
  | .str s => if tyStr P t = true then some (.int .i64 s.length) else none
  | .slc es => if (tyElem P t).isSome = true then some (.int .i64 es.length) else none
  | .clip es => if (tyElem P t).isSome = true then some (.int .i64 es.length) else none
  | .row _ _ _ len _ => if (tyElem P t).isSome = true then some (.int .i64 len) else none
  | .nils => if (tyElem P t).isSome = true then some (.int .i64 0) else none
  | _ => match tyArr P t with | some (n, _) => some (.int .i64 n) | none => none
def minA : List A → Option A
  | [.int k a, .int _ b] => some (.int k (if b < a then b else a))
  | _ => none
def maxA : List A → Option A
  | [.int k a, .int _ b] => some (.int k (if b > a then b else a))
  | _ => none
def makeFuncA (fn : Fn) (first captured : List A) : Option A :=
  match fn, first with
  | .func f, [] => some (.fn f captured)
  | _, _ => none
def St.evL (σ : St) : List Operand → List A
  | [] => []
  | x :: xs => σ.ev x :: σ.evL xs
def evalR (P : Program) (σ : St) : Op → Option A
  | .move x => some (σ.ev x)
  | .assign x => some (σ.ev x)
  | .pick c a b => pickA (σ.ev c) (σ.ev a) (σ.ev b)
  | .build t parts => buildA P t σ parts.toList
  | .buildSlice t len parts => buildSliceA P t len σ parts.toList
  | .load t a => loadA P t σ.H (σ.ev a)
  | .nilCheck x => nilCheckA (σ.ev x)
  | .binOp op t x y _ => binA (eqTy P t) (tyBool P t) (tyPtr P t) (tyElem P t).isSome op (σ.ev x) (σ.ev y)
  | .unOp op _ x => unA op (σ.ev x)
  | .convert src dst x => convA P src dst σ.H (σ.ev x)
  | .makeFunc fn first captured => makeFuncA fn (σ.evL first.toList) (σ.evL captured.toList)
  | .slice t x lo hi mx => if (tyArr P t).isNone = true ∧ (σ.bd lo).ok = true ∧ (σ.bd hi).ok = true then sliceA (tyStr P t) (elSize P t) (σ.ev x) (σ.bd lo) (σ.bd hi) (σ.bd mx) else none
  | .fieldAddr s x f => fieldAddrI (fieldInfo P s f) (σ.ev x)
  | .field s x f => fieldA P (fieldInfo P s f) (σ.ev x)
  | .indexAddr t x ix => indexAddrA P t (σ.ev x) (σ.ev ix)
  | .index t x ix => indexA P t (σ.ev x) (σ.ev ix)
  | .extract t ix => extractA (σ.ev t) ix
  | .call ⟨.builtin .len, ⟨[x]⟩, ⟨[t]⟩⟩ => lenA P t (σ.ev x)
  | .call ⟨.builtin .min, ⟨xs⟩, _⟩ => minA (σ.evL xs)
  | .call ⟨.builtin .max, ⟨xs⟩, _⟩ => maxA (σ.evL xs)
  | _ => none
def srcE (P : Program) (σ : St) (e tx : TypeId) (k : Nat) (x : A) : Option (List A) :=
  match x with
  | .slc es => if strOK k es = true ∧ (tyElem P tx).isSome = true then some es else none
  | .clip es => if strOK k es = true ∧ (tyElem P tx).isSome = true then some es else none
  | .nils => if (tyElem P tx).isSome = true then some [] else none
  | .emp _ => if (tyElem P tx).isSome = true then some [] else none
  | .row n off k' len _ => if k' = k ∧ (tyElem P tx).isSome = true then (match viewRow σ.H n off k len with | some (.slc es) => some es | _ => none) else none
  | .str s => if tyInt P e = some .u8 ∧ k = 1 ∧ tyStr P tx = true then some (bytesA s) else none
  | _ => none
def scrubA (n : Nat) (x : A) : A := if x.mem n then .any else x
def scrubO (n : Nat) : Obj → Obj
  | .box cs => .box (cs.map (scrubA n))
  | o => o
def St.scrub (σ : St) (n : Nat) : St := { s := σ.s.map (fun p => (p.1, scrubA n p.2)), H := σ.H.map (scrubO n) }
def appendA (fx : Nat → Bool) (σ : St) (name : Nat) (d : Option Tmp) (k bytes : Nat) (base : A) (src : List A) : Option St :=
  match base with
  | .nils => if src.length * bytes ≤ 140737488355328 then some ((σ.setH name (.row k src)).put d (.row name 0 k src.length false)) else none
  | .clip es => if strOK k es = true ∧ (es = [] ∨ src ≠ []) ∧ (es.length + src.length) * bytes ≤ 140737488355328 then
      some ((σ.setH name (.row k (es ++ src))).put d (.row name 0 k (es.length + src.length) false)) else none
  | .row n 0 k' len c =>
    match nthO σ.H n with
    | some (.row k'' es) =>
      if k' = k ∧ k'' = k ∧ len ≤ es.length ∧ (len + src.length) * bytes ≤ 140737488355328 then
        if c then (if src = [] then none else some ((σ.setH name (.row k (es.take len ++ src))).put d (.row name 0 k (len + src.length) false)))
        else (if fx n = true then none else some (((σ.scrub n).setH n (.row k (es.take len ++ src))).put d (.row n 0 k (len + src.length) false)))
      else none
    | _ => none
  | _ => none
structure Tab where
  f : FuncId → List A → Option A
  hp : FuncId → List A → List Obj → Option (A × List Obj × List Nat)
  eff : FuncId → Bool
  frz : FuncId → Bool
  effT : Bool
  fix : Nat → Bool
  nf : Nat
  ords : Nat → List (List Nat)
def isEff (Γ : Tab) : Operand → Bool
  | .func g => Γ.eff g
  | .tmp _ => Γ.effT
  | _ => false
def isS2B (P : Program) (src dst : TypeId) : Bool := tyStr P src && (tyElem P dst).any (fun e => tyInt P e = some .u8)
def allocs (P : Program) : Op → Bool
  | .alloc _ => true
  | .box _ _ => true
  | .convert src dst _ => isS2B P src dst
  | .call ⟨.builtin .append, _, _⟩ => true
  | _ => false
def spliceA (cs : List A) (off : Nat) (ys : List A) : List A := cs.take off ++ ys ++ cs.drop (off + ys.length)
def boxA (σ : St) (name : Nat) (d : Option Tmp) (x : A) : Option St :=
  if x.val = true then some ((σ.setH name (.box x.cells)).put d (.ref name 0)) else none
def allocA (σ : St) (name : Nat) (d : Option Tmp) (z : Option A) : Option St :=
  match z with
  | some z => boxA σ name d z
  | none => none
def storeE (e : A) (off : Nat) (v : A) : A :=
  match e with
  | .agg cs => .agg (spliceA cs off v.norm.cells)
  | _ => v.norm
def storeA (σ : St) (d : Option Tmp) (size : Option Nat) (a v : A) : Option St :=
  match a with
  | .ref n off =>
    match nthO σ.H n with
    | some (.box cs) => if size = some v.cells.length ∧ off + v.cells.length ≤ cs.length ∧ v.val = true then some ((σ.setH n (.box (spliceA cs off v.cells))).put d (.tup [])) else none
    | _ => none
  | .eref n i off =>
    match nthO σ.H n with
    | some (.row k es) => (es[i]?).bind fun e => if size = some v.cells.length ∧ off + v.cells.length ≤ e.cells.length ∧ v.cells.length ≠ 0 ∧ v.val = true ∧ v.pure = true then some ((σ.setH n (.row k (setNth es i (storeE e off v)))).put d (.tup [])) else none
    | _ => none
  | _ => none
def convX (P : Program) (σ : St) (name : Nat) (d : Option Tmp) (src dst : TypeId) (x : A) : Option St :=
  if isS2B P src dst = true then
    match x with
    | .str s => some ((σ.setH name (.row 1 (bytesA s))).put d (.row name 0 1 s.length false))
    | _ => none
  else (convA P src dst σ.H x).map (σ.put d ·)
def zeroOK (P : Program) (e : TypeId) (k : Nat) : Bool :=
  match zeroA P e with
  | some z => z.val && z.cells.length == k
  | none => false
def appendX (P : Program) (fx : Nat → Bool) (σ : St) (name : Nat) (d : Option Tmp) (t tx : TypeId) (b x : A) : Option St :=
  match tyElem P t with
  | some e =>
    match tySize P e with
    | some k => if k = 0 ∨ tyBytes P e = 0 ∨ zeroOK P e k = false then none else (srcE P σ e tx k x).bind fun src => appendA fx σ name d k (tyBytes P e) b src
    | none => none
  | none => none
def callX (Γ : Tab) (σ : St) (d : Option Tmp) (g : FuncId) (aq : List A) : Option St :=
  (viewL σ.H aq).bind fun bs => (Γ.f g bs).bind fun r => if (A.pure.pureL aq || r.flat) = true then some (σ.put d r) else none
def callV (Γ : Tab) (σ : St) (d : Option Tmp) (f : A) (aq : List A) : Option St :=
  match f with
  | .fn g caps => callX Γ σ d g (aq ++ caps)
  | _ => none
def clearA (P : Program) (σ : St) (d : Option Tmp) (t : TypeId) (x : A) : Option St :=
  match x with
  | .row n off k len _ =>
    match tyElem P t with
    | some e =>
      match nthO σ.H n with
      | some (.row k' es) =>
        match zeroA P e with
        | some z => if k' = k ∧ z.cells.length = k ∧ k ≠ 0 ∧ z.val = true ∧ z.pure = true ∧ off + len ≤ es.length then some ((σ.setH n (.row k (es.take off ++ List.replicate len z.norm ++ es.drop (off + len)))).put d (.tup [])) else none
        | none => none
      | _ => none
    | none => none
  | _ => none
def A.names : A → List Nat
  | .ref n _ => [n]
  | .eref n _ _ => [n]
  | .row n _ _ _ _ => [n]
  | .agg cs => namesL cs
  | .fn _ cs => namesL cs
  | .tup cs => namesL cs
  | _ => []
where namesL : List A → List Nat
  | [] => []
  | c :: cs => c.names ++ namesL cs
def Obj.names : Obj → List Nat
  | .box cs => A.names.namesL cs
  | .row _ _ => []
def namesO : Option Obj → List Nat
  | some o => o.names
  | none => []
def reach (H : List Obj) : Nat → List Nat → List Nat → List Nat
  | 0, _, acc => acc
  | _ + 1, [], acc => acc
  | fuel + 1, n :: todo, acc => if acc.contains n = true then reach H fuel todo acc else reach H fuel (namesO (nthO H n) ++ todo) (acc ++ [n])
def idx (ρ : List Nat) (n : Nat) : Option Nat :=
  match ρ with
  | [] => none
  | m :: ms => if m = n then some 0 else (idx ms n).map (· + 1)
def A.ren (ρ : List Nat) : A → Option A
  | .ref n o => (idx ρ n).map (.ref · o)
  | .eref n i o => (idx ρ n).map (.eref · i o)
  | .row n o k l c => (idx ρ n).map (.row · o k l c)
  | .agg cs => (renL ρ cs).map .agg
  | .fn f cs => (renL ρ cs).map (.fn f ·)
  | .tup cs => (renL ρ cs).map .tup
  | x => some x
where renL (ρ : List Nat) : List A → Option (List A)
  | [] => some []
  | c :: cs => (c.ren ρ).bind fun x => (renL ρ cs).map (x :: ·)
def Obj.ren (ρ : List Nat) : Obj → Option Obj
  | .box cs => (A.ren.renL ρ cs).map .box
  | .row k es => some (.row k es)
def renO (ρ : List Nat) : Option Obj → Option Obj
  | some o => o.ren ρ
  | none => none
def renH (ρ : List Nat) (H : List Obj) : List Nat → Option (List Obj)
  | [] => some []
  | n :: ns => (renO ρ (nthO H n)).bind fun o => (renH ρ H ns).map (o :: ·)
def nthN : List Nat → Nat → Nat → Nat
  | [], base, i => base + i
  | n :: _, _, 0 => n
  | _ :: ns, base, i + 1 => nthN ns base i
def A.back (ρ : List Nat) (m : Nat) : A → A
  | .ref n o => .ref (nthN ρ m n) o
  | .eref n i o => .eref (nthN ρ m n) i o
  | .row n o k l c => .row (nthN ρ m n) o k l c
  | .agg cs => .agg (backL ρ m cs)
  | .fn f cs => .fn f (backL ρ m cs)
  | .tup cs => .tup (backL ρ m cs)
  | x => x
where backL (ρ : List Nat) (m : Nat) : List A → List A
  | [] => []
  | c :: cs => c.back ρ m :: backL ρ m cs
def Obj.back (ρ : List Nat) (m : Nat) : Obj → Obj
  | .box cs => .box (A.back.backL ρ m cs)
  | .row k es => .row k es
def scrubs (ρ : List Nat) (m : Nat) (σ : St) : List Nat → St
  | [] => σ
  | i :: is => scrubs ρ m (σ.scrub (nthN ρ m i)) is
def backH (ρ : List Nat) (m : Nat) : List Nat → List Obj → List Obj → List Obj
  | [], os, H => H ++ os.map (Obj.back ρ m)
  | n :: ns, o :: os, H => backH ρ m ns os (setO H n (o.back ρ m))
  | _ :: _, [], H => H
def callH2 (σ : St) (d : Option Tmp) (ρ : List Nat) : A × List Obj × List Nat → St
  | (r, H', S) => St.put ⟨(scrubs ρ σ.H.length σ S).s, backH ρ σ.H.length ρ H' (scrubs ρ σ.H.length σ S).H⟩ d (r.back ρ σ.H.length)
def mayMove (Γ : Tab) (ρ : List Nat) (m : Nat) : List Nat → Bool
  | [] => true
  | i :: is => !Γ.fix (nthN ρ m i) && mayMove Γ ρ m is
def A.meets (ρ : List Nat) (x : A) : Bool := ρ.any fun n => x.mem n
def frzA (ρ : List Nat) (H₀ : List Obj) (x : A) : A :=
  if x.meets ρ = true then (match x.ren ρ with | some x' => (view H₀ x').getD .any | none => .any) else x
def frzO (ρ : List Nat) (H₀ : List Obj) : Obj → Obj
  | .box cs => .box (cs.map (frzA ρ H₀))
  | .row k es => .row k es
def dropO (ρ : List Nat) : List Nat → List Obj → List Obj
  | [], H => H
  | n :: ns, H => dropO ρ ns (setO H n (.row 0 []))
def callF2 (σ : St) (d : Option Tmp) (ρ : List Nat) (H₀ : List Obj) (r : A) : St :=
  St.put ⟨σ.s.map (fun p => (p.1, frzA ρ H₀ p.2)), dropO ρ ρ (σ.H.map (frzO ρ H₀))⟩ d r
def callH1 (Γ : Tab) (σ : St) (d : Option Tmp) (g : FuncId) (aq : List A) (ρ : List Nat) : Option St :=
  (A.ren.renL ρ aq).bind fun as' => (renH ρ σ.H ρ).bind fun H₀ =>
    if Γ.frz g = true then (if ρ.all (fun n => !Γ.fix n) = true then (viewL H₀ as').bind fun bs => (Γ.f g bs).map (callF2 σ d ρ H₀) else none)
    else (Γ.hp g as' H₀).bind fun x => if mayMove Γ ρ σ.H.length x.2.2 = true then some (callH2 σ d ρ x) else none
def callH (Γ : Tab) (σ : St) (d : Option Tmp) (g : FuncId) (aq : List A) : Option St := callH1 Γ σ d g aq (reach σ.H 64 (A.names.namesL aq) [])
def callHV (Γ : Tab) (σ : St) (d : Option Tmp) (f : A) (aq : List A) : Option St :=
  match f with
  | .fn g caps => callH Γ σ d g (aq ++ caps)
  | _ => none
def execOp (P : Program) (Γ : Tab) (name : Nat) (d : Option Tmp) (op : Op) (σ : St) : Option St :=
  match op with
  | .alloc t => allocA σ name d (zeroA P t)
  | .box _ x => boxA σ name d (σ.ev x)
  | .store t a x => storeA σ d (tySize P t) (σ.ev a) (σ.ev x)
  | .convert src dst x => convX P σ name d src dst (σ.ev x)
  | .call ⟨.builtin .append, ⟨[b, x]⟩, ⟨[t, tx]⟩⟩ => appendX P Γ.fix σ name d t tx (σ.ev b) (σ.ev x)
  | .call ⟨.builtin .clear, ⟨[x]⟩, ⟨[t]⟩⟩ => clearA P σ d t (σ.ev x)
  | .call ⟨.value f, ⟨xs⟩, _⟩ => if isEff Γ f = true then callHV Γ σ d (σ.ev f) (σ.evL xs) else callV Γ σ d (σ.ev f) (σ.evL xs)
  | op => (evalR P σ op).map (σ.put d ·)
def nthD : List (Option Tmp) → Nat → Option Tmp
  | [], _ => none
  | x :: _, 0 => x
  | _ :: xs, n + 1 => nthD xs n
def wantA (ds : List (Option Tmp)) (σ : St) (g : Option (Nat × Bool)) : Option Bool :=
  match g with
  | none => some true
  | some (j, want) =>
    match nthD ds j with
    | none => some false
    | some t =>
      match look σ.s t with
      | .bool b => some (b == want)
      | .any => none
      | _ => some false
def exec1 (P : Program) (Γ : Tab) (ds : List (Option Tmp)) (name : Nat) (o : Oper) (σ : St) : Option St :=
  match wantA ds σ o.guard with
  | none => none
  | some b => if b then execOp P Γ name o.dst o.op σ else some (σ.put o.dst (.tup []))
def grow (P : Program) (op : Op) (σ : St) : St := if allocs P op = true then { σ with H := σ.H ++ [.row 0 []] } else σ
def nxt (P : Program) (op : Op) (n : Nat) : Nat := if allocs P op = true then n + 1 else n
def pre (P : Program) : List Oper → St → St
  | [], σ => σ
  | o :: os, σ => pre P os (grow P o.op σ)
def runSeq (P : Program) (Γ : Tab) (ds : List (Option Tmp)) : List Oper → Nat → St → Option St
  | [], _, σ => some σ
  | o :: os, n, σ => (exec1 P Γ ds n o σ).bind (runSeq P Γ ds os (nxt P o.op n))
def dstsOf : List Oper → List (Option Tmp)
  | [] => []
  | o :: os => o.dst :: dstsOf os
inductive Ex where
  | normal
  | exit (id : Nat)
  | ret
def A.under (m : Nat) : A → Bool
  | .ref n _ => n < m
  | .eref n _ _ => n < m
  | .row n _ _ _ _ => n < m
  | .agg cs => underL m cs
  | .fn _ cs => underL m cs
  | .tup cs => underL m cs
  | _ => true
where underL (m : Nat) : List A → Bool
  | [] => true
  | c :: cs => c.under m && underL m cs
def leS (m : Nat) (s : List (Nat × A)) : List (Nat × A) → Prop
  | [] => True
  | (d, y) :: r => (look s d = y ∧ y.under m = true) ∧ leS m s r
def leL (m : Nat) : List A → List A → Prop
  | [], [] => True
  | x :: xs, y :: ys => (y = .any ∨ (x = y ∧ y.under m = true)) ∧ leL m xs ys
  | _, _ => False
def leO (m : Nat) : Obj → Obj → Prop
  | .box xs, .box ys => leL m xs ys
  | .row k xs, .row k' ys => k = k' ∧ xs = ys
  | _, _ => False
def leH (m : Nat) : List Obj → List Obj → Prop
  | [], [] => True
  | _ :: _, [] => True
  | x :: xs, y :: ys => leO m x y ∧ leH m xs ys
  | [], _ :: _ => False
def St.le (σ τ : St) : Prop := leS τ.H.length σ.s τ.s ∧ leH τ.H.length σ.H τ.H
def frzSt (ρ : List Nat) (H₀ : List Obj) (σ : St) : St := ⟨σ.s.map (fun p => (p.1, frzA ρ H₀ p.2)), dropO ρ ρ (σ.H.map (frzO ρ H₀))⟩
def permSt (ρ : List Nat) (σ : St) : St := ⟨σ.s.map (fun p => (p.1, p.2.back ρ σ.H.length)), backH ρ σ.H.length ρ σ.H σ.H⟩
inductive St.to (nf : Nat) : St → St → Prop where
  | le {σ τ : St} : nf ≤ τ.H.length → σ.le τ → St.to nf σ τ
  | nil {σ τ : St} (d k : Nat) : look σ.s d = .nils → St.to nf ⟨(d, .row σ.H.length 0 k 0 false) :: σ.s, σ.H ++ [.row k []]⟩ τ → St.to nf σ τ
  | nilb {σ τ : St} (m i k : Nat) (cs : List A) : nthO σ.H m = some (.box cs) → cs[i]? = some .nils →
      St.to nf ⟨σ.s, setO σ.H m (.box (setNth cs i (.row σ.H.length 0 k 0 false))) ++ [.row k []]⟩ τ → St.to nf σ τ
  | wk {σ τ : St} (d : Nat) (es : List A) : look σ.s d = .clip es → St.to nf ⟨(d, .slc es) :: σ.s, σ.H⟩ τ → St.to nf σ τ
  | wkb {σ τ : St} (m : Nat) (cs : List A) : nthO σ.H m = some (.box cs) → St.to nf ⟨σ.s, setO σ.H m (.box (cs.map norm0))⟩ τ → St.to nf σ τ
  | perm {σ τ : St} (ρ : List Nat) : σ.H.length = ρ.length → ρ.Nodup → (∀ n ∈ ρ, n < ρ.length) → (∀ n, n < ρ.length → n ∈ ρ) → (∀ i, i < nf → nthN ρ ρ.length i = i) → St.to nf (permSt ρ σ) τ → St.to nf σ τ
  | frz {σ τ : St} (ρ : List Nat) (H₀ : List Obj) : ρ.Nodup → renH ρ σ.H ρ = some H₀ → (∀ n ∈ ρ, nf ≤ n) → St.to nf (frzSt ρ H₀ σ) τ → St.to nf σ τ
def K? {α : Type} (o : Option α) (q : α → Prop) : Prop := ∃ x, o = some x ∧ q x
def annS (P : Program) : Nat → List Oper → List (Nat × Oper)
  | _, [] => []
  | n, o :: os => (n, o) :: annS P (nxt P o.op n) os
def nthA : List (Nat × Oper) → Nat → Option (Nat × Oper)
  | [], _ => none
  | x :: _, 0 => some x
  | _ :: xs, i + 1 => nthA xs i
def runO (P : Program) (Γ : Tab) (ds : List (Option Tmp)) (B : List (Nat × Oper)) : List Nat → St → Option St
  | [], σ => some σ
  | i :: is, σ => (nthA B i).bind fun x => (exec1 P Γ ds x.1 x.2 σ).bind (runO P Γ ds B is)
def ordsW (P : Program) (Γ : Tab) (ds : List (Option Tmp)) (B : List (Nat × Oper)) (σ : St) (q : St → Prop) : List (List Nat) → Prop
  | [] => True
  | o :: os => K? (runO P Γ ds B o σ) q ∧ ordsW P Γ ds B σ q os
def regO (P : Program) (Γ : Tab) (os : List (List Nat)) (ops : Array Oper) (Q : Ex → St → Prop) (σ : St) : Prop :=
  match os with
  | [] => K? (runSeq P Γ (dstsOf ops.toList) ops.toList σ.H.length (pre P ops.toList σ)) (Q .normal)
  | o :: os => ordsW P Γ (dstsOf ops.toList) (annS P σ.H.length ops.toList) (pre P ops.toList σ) (Q .normal) (o :: os)
def frzOf : List (List Nat) → Option (List Nat)
  | (t :: ρ) :: _ => if t = 999999 then some ρ else none
  | _ => none
def ordOf : List (List Nat) → List (List Nat)
  | (t :: ρ) :: os => if t = 999999 then os else (t :: ρ) :: os
  | os => os
def keepN (m : Nat) (ρ : List Nat) : List Nat := ρ.filter fun n => decide (n < m)
def regW (P : Program) (Γ : Tab) (os : List (List Nat)) (ops : Array Oper) (Q : Ex → St → Prop) (σ : St) : Prop :=
  match frzOf os with
  | none => regO P Γ (ordOf os) ops Q σ
  | some ρ => K? (renH (keepN σ.H.length ρ) σ.H (keepN σ.H.length ρ)) fun H₀ => regO P Γ (ordOf os) ops Q (frzSt (keepN σ.H.length ρ) H₀ σ)
def seqQ (W : (Ex → St → Prop) → St → Prop) (Q : Ex → St → Prop) (e : Ex) (τ : St) : Prop :=
  match e with
  | .normal => W Q τ
  | .exit i => Q (.exit i) τ
  | .ret => Q .ret τ
def blockQ (id : Nat) (Q : Ex → St → Prop) (e : Ex) (τ : St) : Prop :=
  match e with
  | .normal => Q .normal τ
  | .exit i => if i = id then Q .normal τ else Q (.exit i) τ
  | .ret => Q .ret τ
def loopQ (N : St → Prop) (Q : Ex → St → Prop) (e : Ex) (τ : St) : Prop :=
  match e with
  | .normal => N τ
  | .exit i => Q (.exit i) τ
  | .ret => Q .ret τ
def condA (c : A) (p q : Prop) : Prop := ∃ t, c = .bool t ∧ (t = true → p) ∧ (t = false → q)
def wpA (P : Program) (Γ : Tab) : Code → (Ex → St → Prop) → St → Prop
  | .skip, Q, σ => Q .normal σ
  | .label _, Q, σ => Q .normal σ
  | .seq a b, Q, σ => wpA P Γ a (seqQ (wpA P Γ b) Q) σ
  | .cond c a b, Q, σ => condA (σ.ev c) (wpA P Γ a Q σ) (wpA P Γ b Q σ)
  | .block id c, Q, σ => wpA P Γ c (blockQ id Q) σ
  | .loop c, Q, σ => ∃ (ι : Type) (inv : ι → St) (μ : ι → Nat), (∃ i, St.to Γ.nf σ (inv i)) ∧
      ∀ i, wpA P Γ c (loopQ (fun τ => ∃ j, St.to Γ.nf τ (inv j) ∧ μ j < μ i) Q) (inv i)
  | .exit id, Q, σ => Q (.exit id) σ
  | .ret, Q, σ => Q .ret σ
  | .region id ops _, Q, σ => regW P Γ (Γ.ords id) ops Q σ
  | _, _, _ => False
def resC (P : Program) (σ : St) (t : TypeId) (a : A) : Option A :=
  match a with
  | .ref n off => match nthO σ.H n with | some (.box cs) => (loadC P t (cs.drop off)).bind (view σ.H) | _ => none
  | _ => none
def resA (P : Program) (σ : St) : ResultVar → Option A
  | .tmp t => view σ.H (look σ.s t)
  | .cell a t => resC P σ t (look σ.s a)
def resL (P : Program) (σ : St) : List ResultVar → Option (List A)
  | [] => some []
  | r :: rs => (resA P σ r).bind fun x => (resL P σ rs).map (x :: ·)
def resOf : List A → A
  | [x] => x
  | xs => .tup xs
def bodyA (P : Program) (fn : Func) (Post : A → Prop) (e : Ex) (σ : St) : Prop :=
  match e with
  | .exit _ => False
  | _ => K? (resL P σ fn.results.toList) (fun rs => Post (resOf rs))
def rawC (P : Program) (σ : St) (t : TypeId) (a : A) : Option A :=
  match a with
  | .ref n off => match nthO σ.H n with | some (.box cs) => loadC P t (cs.drop off) | _ => none
  | _ => none
def rawA (P : Program) (σ : St) : ResultVar → Option A
  | .tmp t => some (look σ.s t)
  | .cell a t => rawC P σ t (look σ.s a)
def rawL (P : Program) (σ : St) : List ResultVar → Option (List A)
  | [] => some []
  | r :: rs => (rawA P σ r).bind fun x => (rawL P σ rs).map (x :: ·)
def bodyH (P : Program) (fn : Func) (r : A) (H' : List Obj) (e : Ex) (σ : St) : Prop :=
  match e with
  | .exit _ => False
  | _ => K? (rawL P σ fn.results.toList) (fun rs => resOf rs = r ∧ r.under H'.length = true ∧ leH H'.length σ.H H')
def number : Nat → List A → List (Nat × A)
  | _, [] => []
  | n, x :: xs => (n, x) :: number (n + 1) xs
def startA (args : List A) : St := { s := number 0 args, H := [] }
def startH (args : List A) (H : List Obj) : St := { s := number 0 args, H := H }
end Go.Abs
namespace Go.Abs
theorem wpA_mono {P : Program} {Γ : Tab} : ∀ {c : Code} {Q Q' : Ex → St → Prop} {σ : St}, (∀ e τ, Q e τ → Q' e τ) → wpA P Γ c Q σ → wpA P Γ c Q' σ := by
  intro c
  induction c with
  | skip => intro Q Q' σ h hw; simp only [wpA] at hw ⊢; exact h _ _ hw
  | label l => intro Q Q' σ h hw; simp only [wpA] at hw ⊢; exact h _ _ hw
  | exit id => intro Q Q' σ h hw; simp only [wpA] at hw ⊢; exact h _ _ hw
  | ret => intro Q Q' σ h hw; simp only [wpA] at hw ⊢; exact h _ _ hw
  | seq x y ihx ihy =>
    intro Q Q' σ h hw
    simp only [wpA] at hw ⊢
    refine ihx (fun e τ hq => ?_) hw
    cases e with
    | normal => exact ihy h hq
    | exit i => exact h _ _ hq
    | ret => exact h _ _ hq
  | cond c x y ihx ihy =>
    intro Q Q' σ h hw
    simp only [wpA, condA] at hw ⊢
    obtain ⟨t, ht, h1, h2⟩ := hw
    exact ⟨t, ht, fun e => ihx h (h1 e), fun e => ihy h (h2 e)⟩
  | block id x ih =>
    intro Q Q' σ h hw
    simp only [wpA] at hw ⊢
    refine ih (fun e τ hq => ?_) hw
    cases e with
    | normal => exact h _ _ hq
    | exit i =>
      simp only [blockQ] at hq ⊢
      split at hq
      · rename_i e; rw [if_pos e]; exact h _ _ hq
      · rename_i e; rw [if_neg e]; exact h _ _ hq
    | ret => exact h _ _ hq
  | loop x ih =>
    intro Q Q' σ h hw
    simp only [wpA] at hw ⊢
    obtain ⟨ι, inv, μ, h0, hs⟩ := hw
    refine ⟨ι, inv, μ, h0, fun i => ih (fun e τ hq => ?_) (hs i)⟩
    cases e with
    | normal => exact hq
    | exit i => exact h _ _ hq
    | ret => exact h _ _ hq
  | region id ops d =>
    intro Q Q' σ h hw
    simp only [wpA] at hw ⊢
    have key : ∀ (os : List (List Nat)) (σ : St), regO P Γ os ops Q σ → regO P Γ os ops Q' σ := fun os σ => by
      cases os with
      | nil =>
        rintro ⟨τ, hr, hq⟩
        exact ⟨τ, hr, h _ _ hq⟩
      | cons o os =>
        have key : ∀ os : List (List Nat), ordsW P Γ (dstsOf ops.toList) (annS P σ.H.length ops.toList) (pre P ops.toList σ) (Q .normal) os → ordsW P Γ (dstsOf ops.toList) (annS P σ.H.length ops.toList) (pre P ops.toList σ) (Q' .normal) os := by
          intro os
          induction os with
          | nil => exact fun h => h
          | cons o os ih => rintro ⟨⟨τ, hr, hq⟩, h2⟩; exact ⟨⟨τ, hr, h _ _ hq⟩, ih h2⟩
        exact key _
    unfold regW at hw ⊢
    cases hf : frzOf (Γ.ords id) with
    | none => rw [hf] at hw; exact key _ _ hw
    | some ρ =>
      rw [hf] at hw
      obtain ⟨H₀, h1, h2⟩ := hw
      exact ⟨H₀, h1, key _ _ h2⟩
  | _ => intro Q Q' σ _ hw; simp only [wpA] at hw
section
variable {P : Program} {Γ : Tab} {Q : Ex → St → Prop} {σ : St}
@[go_sem] theorem wpA_skip : wpA P Γ .skip Q σ = Q .normal σ := by simp only [wpA]
@[go_sem] theorem wpA_seq {a b : Code} : wpA P Γ (.seq a b) Q σ = wpA P Γ a (seqQ (wpA P Γ b) Q) σ := by simp only [wpA]
@[go_sem] theorem wpA_cond {c : Operand} {a b : Code} : wpA P Γ (.cond c a b) Q σ = condA (σ.ev c) (wpA P Γ a Q σ) (wpA P Γ b Q σ) := by simp only [wpA]
@[go_sem] theorem wpA_block {id : Nat} {c : Code} : wpA P Γ (.block id c) Q σ = wpA P Γ c (blockQ id Q) σ := by simp only [wpA]
@[go_sem] theorem wpA_exit {id : Nat} : wpA P Γ (.exit id) Q σ = Q (.exit id) σ := by simp only [wpA]
@[go_sem] theorem wpA_ret : wpA P Γ .ret Q σ = Q .ret σ := by simp only [wpA]
@[go_sem] theorem wpA_region {σs : List (Nat × A)} {σH : List Obj} {i : Nat} {ops : Array Oper} {d : Bool} : wpA P Γ (.region i ops d) Q (St.mk σs σH) = regW P Γ (Γ.ords i) ops Q (St.mk σs σH) := by simp only [wpA]
@[congr] theorem regW_congr {os os' : List (List Nat)} {ops : Array Oper} (h : os = os') : regW P Γ os ops Q σ = regW P Γ os' ops Q σ := by rw [h]
@[go_sem] theorem regW_nil {σs : List (Nat × A)} {σH : List Obj} {ops : Array Oper} : regW P Γ [] ops Q (St.mk σs σH) = K? (runSeq P Γ (dstsOf ops.toList) ops.toList σH.length (pre P ops.toList (St.mk σs σH))) (Q .normal) := rfl
@[go_sem] theorem regW_cons {σs : List (Nat × A)} {σH : List Obj} {ops : Array Oper} {t : Nat} {o : List Nat} {os : List (List Nat)} (h : t ≠ 999999) : regW P Γ ((t :: o) :: os) ops Q (St.mk σs σH) = ordsW P Γ (dstsOf ops.toList) (annS P σH.length ops.toList) (pre P ops.toList (St.mk σs σH)) (Q .normal) ((t :: o) :: os) := by
  unfold regW frzOf ordOf; simp only [if_neg h]; rfl
@[go_sem] theorem regW_frz' {σs : List (Nat × A)} {σH : List Obj} {ops : Array Oper} {t : Nat} {ρ : List Nat} {os : List (List Nat)} (h : t = 999999) : regW P Γ ((t :: ρ) :: os) ops Q (St.mk σs σH) = K? (renH (keepN σH.length ρ) σH (keepN σH.length ρ)) fun H₀ => regO P Γ os ops Q (frzSt (keepN σH.length ρ) H₀ (St.mk σs σH)) := by subst h; rfl
@[go_sem] theorem keepN_nil {m : Nat} : keepN m [] = [] := rfl
@[go_sem] theorem keepN_cons {m n : Nat} {ρ : List Nat} : keepN m (n :: ρ) = if n < m then n :: keepN m ρ else keepN m ρ := by
  unfold keepN; rw [List.filter_cons]; simp
@[go_sem] theorem regO_nil {σs : List (Nat × A)} {σH : List Obj} {ops : Array Oper} : regO P Γ [] ops Q (St.mk σs σH) = K? (runSeq P Γ (dstsOf ops.toList) ops.toList σH.length (pre P ops.toList (St.mk σs σH))) (Q .normal) := rfl
@[go_sem] theorem ordsW_nil {ds : List (Option Tmp)} {B : List (Nat × Oper)} {q : St → Prop} : ordsW P Γ ds B σ q [] = True := rfl
@[go_sem] theorem ordsW_cons {ds : List (Option Tmp)} {B : List (Nat × Oper)} {q : St → Prop} {o : List Nat} {os : List (List Nat)} : ordsW P Γ ds B σ q (o :: os) = (K? (runO P Γ ds B o σ) q ∧ ordsW P Γ ds B σ q os) := rfl
@[go_sem] theorem annS_nil {n : Nat} : annS P n [] = [] := rfl
@[go_sem] theorem annS_cons {n : Nat} {o : Oper} {os : List Oper} : annS P n (o :: os) = (n, o) :: annS P (nxt P o.op n) os := rfl
@[go_sem] theorem nthA_zero {x : Nat × Oper} {xs : List (Nat × Oper)} : nthA (x :: xs) 0 = some x := rfl
@[go_sem] theorem nthA_succ {x : Nat × Oper} {xs : List (Nat × Oper)} {i : Nat} : nthA (x :: xs) (i + 1) = nthA xs i := rfl
@[congr] theorem runO_congr {ds : List (Option Tmp)} {B B' : List (Nat × Oper)} {is : List Nat} {σ' : St} (hB : B = B') (h : σ = σ') : runO P Γ ds B is σ = runO P Γ ds B' is σ' := by rw [hB, h]
@[congr] theorem wpA_congr {c : Code} {σ' : St} (h : σ = σ') : wpA P Γ c Q σ = wpA P Γ c Q σ' := by rw [h]
@[go_sem] theorem seqQ_normal {W : (Ex → St → Prop) → St → Prop} : seqQ W Q .normal σ = W Q σ := rfl
@[go_sem] theorem seqQ_exit {W : (Ex → St → Prop) → St → Prop} {i : Nat} : seqQ W Q (.exit i) σ = Q (.exit i) σ := rfl
@[go_sem] theorem seqQ_ret {W : (Ex → St → Prop) → St → Prop} : seqQ W Q .ret σ = Q .ret σ := rfl
@[go_sem] theorem blockQ_normal {id : Nat} : blockQ id Q .normal σ = Q .normal σ := rfl
@[go_sem] theorem blockQ_exit {id i : Nat} : blockQ id Q (.exit i) σ = if i = id then Q .normal σ else Q (.exit i) σ := rfl
@[go_sem] theorem blockQ_ret {id : Nat} : blockQ id Q .ret σ = Q .ret σ := rfl
@[go_sem] theorem loopQ_normal {N : St → Prop} : loopQ N Q .normal σ = N σ := rfl
@[go_sem] theorem loopQ_exit {N : St → Prop} {i : Nat} : loopQ N Q (.exit i) σ = Q (.exit i) σ := rfl
@[go_sem] theorem loopQ_ret {N : St → Prop} : loopQ N Q .ret σ = Q .ret σ := rfl
@[congr] theorem seqQ_congr {W : (Ex → St → Prop) → St → Prop} {e e' : Ex} {σ' : St} (h : e = e') (h' : σ = σ') : seqQ W Q e σ = seqQ W Q e' σ' := by rw [h, h']
@[congr] theorem blockQ_congr {id : Nat} {e e' : Ex} {σ' : St} (h : e = e') (h' : σ = σ') : blockQ id Q e σ = blockQ id Q e' σ' := by rw [h, h']
@[congr] theorem loopQ_congr {N : St → Prop} {e e' : Ex} {σ' : St} (h : e = e') (h' : σ = σ') : loopQ N Q e σ = loopQ N Q e' σ' := by rw [h, h']
@[go_sem high] theorem condA_true {p q : Prop} : condA (.bool true) p q = p := by simp [condA]
@[go_sem high] theorem condA_false {p q : Prop} : condA (.bool false) p q = q := by simp [condA]
@[go_sem] theorem condA_bool {b : Bool} {p q : Prop} : condA (.bool b) p q = ((b = true → p) ∧ (b = false → q)) := by
  simp [condA]
@[congr] theorem condA_congr {c c' : A} {p q : Prop} (h : c = c') : condA c p q = condA c' p q := by rw [h]
end
section
variable {α β : Type}
@[go_sem high] theorem K_some {x : α} {q : α → Prop} : K? (some x) q = q x := by simp [K?]
@[go_sem] theorem K_bind {o : Option α} {f : α → Option β} {q : β → Prop} : K? (o.bind f) q = K? o (fun x => K? (f x) q) := by
  cases o <;> simp [K?]
@[go_sem] theorem K_map {o : Option α} {f : α → β} {q : β → Prop} : K? (o.map f) q = K? o (fun x => q (f x)) := by
  cases o <;> simp [K?]
@[go_sem high] theorem K_ite_none {c : Prop} [Decidable c] {a : Option α} {q : α → Prop} : K? (if c then a else none) q = (c ∧ K? a q) := by
  split <;> simp_all [K?]
@[go_sem ↓ high] theorem K_some' {x : α} {q : α → Prop} : K? (some x) q = q x := by simp [K?]
@[congr] theorem K_congr {o o' : Option α} {q : α → Prop} (h : o = o') : K? o q = K? o' q := by rw [h]
@[go_sem] theorem K_getElem {l : List α} {i : Nat} {q : α → Prop} (h : i < l.length) : K? l[i]? q = q l[i] := by
  simp [K?, h]
end
section
variable {P : Program} {Γ : Tab} {σ : St} {n : Nat} {d : Option Tmp} {ds : List (Option Tmp)} {q : St → Prop}
@[go_sem] theorem K_runSeq_nil {n : Nat} : K? (runSeq P Γ ds [] n σ) q = q σ := by simp [runSeq, K?]
@[go_sem] theorem K_runSeq_cons {o : Oper} {os : List Oper} {n : Nat} : K? (runSeq P Γ ds (o :: os) n σ) q = K? (exec1 P Γ ds n o σ) (fun τ => K? (runSeq P Γ ds os (nxt P o.op n) τ) q) := by
  simp only [runSeq, K_bind]
@[go_sem] theorem K_runO_nil {B : List (Nat × Oper)} : K? (runO P Γ ds B [] σ) q = q σ := by simp [runO, K?]
@[go_sem] theorem K_runO_cons {B : List (Nat × Oper)} {i : Nat} {is : List Nat} : K? (runO P Γ ds B (i :: is) σ) q = K? (nthA B i) (fun x => K? (exec1 P Γ ds x.1 x.2 σ) (fun τ => K? (runO P Γ ds B is τ) q)) := by
  simp only [runO, K_bind]
@[go_sem] theorem pre_nil : pre P [] σ = σ := rfl
@[go_sem] theorem pre_cons {o : Oper} {os : List Oper} : pre P (o :: os) σ = pre P os (grow P o.op σ) := rfl
@[congr] theorem pre_congr {os : List Oper} {σ' : St} (h : σ = σ') : pre P os σ = pre P os σ' := by rw [h]
@[congr] theorem runSeq_congr {os : List Oper} {σ' : St} {n n' : Nat} (h : σ = σ') (h' : n = n') : runSeq P Γ ds os n σ = runSeq P Γ ds os n' σ' := by rw [h, h']
@[congr] theorem exec1_congr {o : Oper} {n' : Nat} {σ' : St} (hn : n = n') (h : σ = σ') : exec1 P Γ ds n o σ = exec1 P Γ ds n' o σ' := by rw [h, hn]
@[go_sem] theorem exec1_plain {op : Op} {t : TypeId} {p : String} {af : Array Edge} : exec1 P Γ ds n ⟨d, op, t, p, af, none⟩ σ = execOp P Γ n d op σ := by
  simp [exec1, wantA]
def guardA (b : A) (want : Bool) (x y : Option St) : Option St :=
  match b with
  | .bool b => if (b == want) = true then x else y
  | .any => none
  | _ => y
@[go_sem] theorem exec1_guard {σs : List (Nat × A)} {σH : List Obj} {op : Op} {t : TypeId} {p : String} {af : Array Edge} {j : Nat} {w : Bool} :
    exec1 P Γ ds n ⟨d, op, t, p, af, some (j, w)⟩ (St.mk σs σH) = (match nthD ds j with | some t => guardA (look σs t) w (execOp P Γ n d op (St.mk σs σH)) (some ((St.mk σs σH).put d (.tup []))) | none => some ((St.mk σs σH).put d (.tup []))) := by
  simp only [exec1, wantA]
  cases nthD ds j with
  | none => simp
  | some t => simp only []; cases look σs t <;> simp [guardA]
@[go_sem] theorem guardA_bool {b w : Bool} {x y : Option St} : guardA (.bool b) w x y = if (b == w) = true then x else y := rfl
@[go_sem] theorem guardA_undef {w : Bool} {x y : Option St} : guardA (.tup []) w x y = y := rfl
@[go_sem] theorem nthD_zero {x : Option Tmp} {xs : List (Option Tmp)} : nthD (x :: xs) 0 = x := rfl
@[go_sem] theorem nthD_succ {x : Option Tmp} {xs : List (Option Tmp)} {m : Nat} : nthD (x :: xs) (m + 1) = nthD xs m := rfl
@[go_sem] theorem dstsOf_nil : dstsOf [] = [] := rfl
@[go_sem] theorem dstsOf_cons {o : Oper} {os : List Oper} : dstsOf (o :: os) = o.dst :: dstsOf os := rfl
variable {x y z : Operand} {t u : TypeId} {k : Nat}
@[go_sem] theorem grow_move : grow P (.move x) σ = σ := rfl
@[go_sem] theorem nxt_move {n : Nat} : nxt P (.move x) n = n := rfl
@[go_sem] theorem grow_assign : grow P (.assign x) σ = σ := rfl
@[go_sem] theorem nxt_assign {n : Nat} : nxt P (.assign x) n = n := rfl
@[go_sem] theorem grow_pick : grow P (.pick x y z) σ = σ := rfl
@[go_sem] theorem nxt_pick {n : Nat} : nxt P (.pick x y z) n = n := rfl
@[go_sem] theorem grow_build {ps : Array (Nat × Operand)} : grow P (.build t ps) σ = σ := rfl
@[go_sem] theorem nxt_build {ps : Array (Nat × Operand)} {n : Nat} : nxt P (.build t ps) n = n := rfl
@[go_sem] theorem grow_buildSlice {ps : Array (Nat × Operand)} : grow P (.buildSlice t k ps) σ = σ := rfl
@[go_sem] theorem nxt_buildSlice {ps : Array (Nat × Operand)} {n : Nat} : nxt P (.buildSlice t k ps) n = n := rfl
@[go_sem] theorem grow_load : grow P (.load t x) σ = σ := rfl
@[go_sem] theorem nxt_load {n : Nat} : nxt P (.load t x) n = n := rfl
@[go_sem] theorem grow_store : grow P (.store t x y) σ = σ := rfl
@[go_sem] theorem nxt_store {n : Nat} : nxt P (.store t x y) n = n := rfl
@[go_sem] theorem grow_nilCheck : grow P (.nilCheck x) σ = σ := rfl
@[go_sem] theorem nxt_nilCheck {n : Nat} : nxt P (.nilCheck x) n = n := rfl
@[go_sem] theorem grow_binOp {o : BinOp} : grow P (.binOp o t x y u) σ = σ := rfl
@[go_sem] theorem nxt_binOp {o : BinOp} {n : Nat} : nxt P (.binOp o t x y u) n = n := rfl
@[go_sem] theorem grow_unOp {o : UnOp} : grow P (.unOp o t x) σ = σ := rfl
@[go_sem] theorem nxt_unOp {o : UnOp} {n : Nat} : nxt P (.unOp o t x) n = n := rfl
@[go_sem] theorem grow_slice {l h m : Option Operand} : grow P (.slice t x l h m) σ = σ := rfl
@[go_sem] theorem nxt_slice {l h m : Option Operand} {n : Nat} : nxt P (.slice t x l h m) n = n := rfl
@[go_sem] theorem grow_fieldAddr : grow P (.fieldAddr t x k) σ = σ := rfl
@[go_sem] theorem nxt_fieldAddr {n : Nat} : nxt P (.fieldAddr t x k) n = n := rfl
@[go_sem] theorem grow_indexAddr : grow P (.indexAddr t x y) σ = σ := rfl
@[go_sem] theorem nxt_indexAddr {n : Nat} : nxt P (.indexAddr t x y) n = n := rfl
@[go_sem] theorem grow_index : grow P (.index t x y) σ = σ := rfl
@[go_sem] theorem nxt_index {n : Nat} : nxt P (.index t x y) n = n := rfl
@[go_sem] theorem grow_extract : grow P (.extract x k) σ = σ := rfl
@[go_sem] theorem nxt_extract {n : Nat} : nxt P (.extract x k) n = n := rfl
@[go_sem] theorem grow_alloc {σs : List (Nat × A)} {σH : List Obj} : grow P (.alloc t) (St.mk σs σH) = ⟨σs, σH ++ [.row 0 []]⟩ := rfl
@[go_sem] theorem nxt_alloc {n : Nat} : nxt P (.alloc t) n = n + 1 := rfl
@[go_sem] theorem grow_box {σs : List (Nat × A)} {σH : List Obj} : grow P (.box t x) (St.mk σs σH) = ⟨σs, σH ++ [.row 0 []]⟩ := rfl
@[go_sem] theorem nxt_box {n : Nat} : nxt P (.box t x) n = n + 1 := rfl
@[go_sem] theorem grow_convert {σs : List (Nat × A)} {σH : List Obj} : grow P (.convert t u x) (St.mk σs σH) = if isS2B P t u = true then ⟨σs, σH ++ [.row 0 []]⟩ else (St.mk σs σH) := rfl
@[go_sem] theorem nxt_convert {n : Nat} : nxt P (.convert t u x) n = if isS2B P t u = true then n + 1 else n := rfl
@[go_sem] theorem grow_len {xs : Array Operand} {ts : Array TypeId} : grow P (.call ⟨.builtin .len, xs, ts⟩) σ = σ := rfl
@[go_sem] theorem nxt_len {xs : Array Operand} {ts : Array TypeId} {n : Nat} : nxt P (.call ⟨.builtin .len, xs, ts⟩) n = n := rfl
@[go_sem] theorem grow_min {xs : Array Operand} {ts : Array TypeId} : grow P (.call ⟨.builtin .min, xs, ts⟩) σ = σ := rfl
@[go_sem] theorem nxt_min {xs : Array Operand} {ts : Array TypeId} {n : Nat} : nxt P (.call ⟨.builtin .min, xs, ts⟩) n = n := rfl
@[go_sem] theorem grow_max {xs : Array Operand} {ts : Array TypeId} : grow P (.call ⟨.builtin .max, xs, ts⟩) σ = σ := rfl
@[go_sem] theorem nxt_max {xs : Array Operand} {ts : Array TypeId} {n : Nat} : nxt P (.call ⟨.builtin .max, xs, ts⟩) n = n := rfl
@[go_sem] theorem grow_append {σs : List (Nat × A)} {σH : List Obj} {xs : Array Operand} {ts : Array TypeId} : grow P (.call ⟨.builtin .append, xs, ts⟩) (St.mk σs σH) = ⟨σs, σH ++ [.row 0 []]⟩ := rfl
@[go_sem] theorem nxt_append {xs : Array Operand} {ts : Array TypeId} {n : Nat} : nxt P (.call ⟨.builtin .append, xs, ts⟩) n = n + 1 := rfl
@[go_sem] theorem grow_call {xs : Array Operand} {ts : Array TypeId} : grow P (.call ⟨.value x, xs, ts⟩) σ = σ := rfl
@[go_sem] theorem nxt_call {xs : Array Operand} {ts : Array TypeId} {n : Nat} : nxt P (.call ⟨.value x, xs, ts⟩) n = n := rfl
@[go_sem] theorem ex_move : execOp P Γ n d (.move x) σ = some (σ.put d (σ.ev x)) := rfl
@[go_sem] theorem ex_assign : execOp P Γ n d (.assign x) σ = some (σ.put d (σ.ev x)) := rfl
@[go_sem] theorem ex_pick : execOp P Γ n d (.pick x y z) σ = (pickA (σ.ev x) (σ.ev y) (σ.ev z)).map (σ.put d ·) := rfl
@[go_sem] theorem ex_build {ps : List (Nat × Operand)} : execOp P Γ n d (.build t ⟨ps⟩) σ = (buildA P t σ ps).map (σ.put d ·) := rfl
@[go_sem] theorem ex_buildSlice {ps : List (Nat × Operand)} : execOp P Γ n d (.buildSlice t k ⟨ps⟩) σ = (buildSliceA P t k σ ps).map (σ.put d ·) := rfl
@[go_sem] theorem ex_load {σs : List (Nat × A)} {σH : List Obj} : execOp P Γ n d (.load t x) (St.mk σs σH) = (loadA P t σH ((St.mk σs σH).ev x)).map ((St.mk σs σH).put d ·) := rfl
@[go_sem] theorem ex_nilCheck : execOp P Γ n d (.nilCheck x) σ = (nilCheckA (σ.ev x)).map (σ.put d ·) := rfl
@[go_sem] theorem ex_binOp {o : BinOp} : execOp P Γ n d (.binOp o t x y u) σ = (binA (eqTy P t) (tyBool P t) (tyPtr P t) (tyElem P t).isSome o (σ.ev x) (σ.ev y)).map (σ.put d ·) := rfl
@[go_sem] theorem ex_unOp {o : UnOp} : execOp P Γ n d (.unOp o t x) σ = (unA o (σ.ev x)).map (σ.put d ·) := rfl
@[go_sem] theorem ex_slice {l h m : Option Operand} : execOp P Γ n d (.slice t x l h m) σ = (if (tyArr P t).isNone = true ∧ (σ.bd l).ok = true ∧ (σ.bd h).ok = true then sliceA (tyStr P t) (elSize P t) (σ.ev x) (σ.bd l) (σ.bd h) (σ.bd m) else none).map (σ.put d ·) := rfl
@[go_sem] theorem ex_fieldAddr : execOp P Γ n d (.fieldAddr t x k) σ = (fieldAddrI (fieldInfo P t k) (σ.ev x)).map (σ.put d ·) := rfl
@[go_sem] theorem ex_indexAddr : execOp P Γ n d (.indexAddr t x y) σ = (indexAddrA P t (σ.ev x) (σ.ev y)).map (σ.put d ·) := rfl
@[go_sem] theorem ex_index : execOp P Γ n d (.index t x y) σ = (indexA P t (σ.ev x) (σ.ev y)).map (σ.put d ·) := rfl
@[go_sem] theorem ex_extract : execOp P Γ n d (.extract x k) σ = (extractA (σ.ev x) k).map (σ.put d ·) := rfl
@[go_sem] theorem ex_alloc : execOp P Γ n d (.alloc t) σ = allocA σ n d (zeroA P t) := rfl
@[go_sem] theorem ex_box : execOp P Γ n d (.box t x) σ = boxA σ n d (σ.ev x) := rfl
@[go_sem] theorem ex_store : execOp P Γ n d (.store t x y) σ = storeA σ d (tySize P t) (σ.ev x) (σ.ev y) := rfl
@[go_sem] theorem ex_convert : execOp P Γ n d (.convert t u x) σ = convX P σ n d t u (σ.ev x) := rfl
@[go_sem] theorem ex_len : execOp P Γ n d (.call ⟨.builtin .len, ⟨[x]⟩, ⟨[t]⟩⟩) σ = (lenA P t (σ.ev x)).map (σ.put d ·) := rfl
@[go_sem] theorem ex_min {xs : List Operand} {ts : Array TypeId} : execOp P Γ n d (.call ⟨.builtin .min, ⟨xs⟩, ts⟩) σ = (minA (σ.evL xs)).map (σ.put d ·) := rfl
@[go_sem] theorem ex_max {xs : List Operand} {ts : Array TypeId} : execOp P Γ n d (.call ⟨.builtin .max, ⟨xs⟩, ts⟩) σ = (maxA (σ.evL xs)).map (σ.put d ·) := rfl
@[go_sem] theorem ex_append : execOp P Γ n d (.call ⟨.builtin .append, ⟨[x, y]⟩, ⟨[t, u]⟩⟩) σ = appendX P Γ.fix σ n d t u (σ.ev x) (σ.ev y) := rfl
@[go_sem] theorem ex_call {xs : List Operand} {ts : Array TypeId} : execOp P Γ n d (.call ⟨.value x, ⟨xs⟩, ts⟩) σ = if isEff Γ x = true then callHV Γ σ d (σ.ev x) (σ.evL xs) else callV Γ σ d (σ.ev x) (σ.evL xs) := rfl
@[go_sem] theorem isEff_func {f : FuncId} : isEff Γ (.func f) = Γ.eff f := rfl
@[go_sem] theorem ev_tmp {σs : List (Nat × A)} {σH : List Obj} {i : Nat} : (St.mk σs σH).ev (.tmp i) = look σs i := rfl
@[go_sem] theorem ev_const {v : Value} : σ.ev (.const v) = toA v := rfl
@[go_sem] theorem ev_func {f : FuncId} : σ.ev (.func f) = .fn f [] := rfl
@[go_sem] theorem evL_nil : σ.evL [] = [] := rfl
@[go_sem] theorem evL_cons {xs : List Operand} : σ.evL (x :: xs) = σ.ev x :: σ.evL xs := rfl
@[go_sem] theorem put_some {σs : List (Nat × A)} {σH : List Obj} {v : A} {i : Nat} : (St.mk σs σH).put (some i) v = ⟨(i, v) :: σs, σH⟩ := rfl
@[go_sem] theorem put_none {v : A} : σ.put none v = σ := rfl
@[go_sem] theorem bd_none : σ.bd none = .none := rfl
@[go_sem] theorem bd_some : σ.bd (some x) = bdOf (σ.ev x) := rfl
@[go_sem] theorem bdOf_int {i : IntKind} {m : Int} : bdOf (.int i m) = .some m := rfl
@[go_sem] theorem Bd_get_none {m : Int} : Bd.get m .none = m := rfl
@[go_sem] theorem Bd_get_some {m r : Int} : Bd.get m (.some r) = r := rfl
@[go_sem] theorem Bd_ok_none : Bd.ok .none = true := rfl
@[go_sem] theorem Bd_ok_some {r : Int} : Bd.ok (.some r) = true := rfl
@[go_sem] theorem look_cons {i j : Nat} {v : A} {r : List (Nat × A)} : look ((i, v) :: r) j = if i = j then v else look r j := rfl
@[go_sem] theorem setH_eq {σs : List (Nat × A)} {σH : List Obj} {o : Obj} : (St.mk σs σH).setH n o = ⟨σs, setO σH n o⟩ := rfl
@[go_sem] theorem setO_zero {a b : Obj} {r : List Obj} : setO (a :: r) 0 b = b :: r := rfl
@[go_sem] theorem setO_succ {a b : Obj} {r : List Obj} : setO (a :: r) (n + 1) b = a :: setO r n b := rfl
@[go_sem] theorem nthO_zero {a : Obj} {r : List Obj} : nthO (a :: r) 0 = some a := rfl
@[go_sem] theorem nthO_succ {a : Obj} {r : List Obj} : nthO (a :: r) (n + 1) = nthO r n := rfl
@[go_sem] theorem setNth_zero {a b : A} {r : List A} : setNth (a :: r) 0 b = b :: r := rfl
@[go_sem] theorem setNth_succ {a b : A} {r : List A} : setNth (a :: r) (n + 1) b = a :: setNth r n b := rfl
end
section
variable {a b c : A} {cs ds es : List A} {k n i : Nat} {q : IntKind} {m r : Int} {s s' : List UInt8} {H : List Obj} {P : Program} {t u : TypeId} {p e : Bool} {σ : St} {d : Option Tmp} {kl : List CK} {ko : Option (List CK)} {sl k0 : Bool}
@[go_sem] theorem toA_int : toA (.int q m) = .int q m := rfl
@[go_sem] theorem toA_bool : toA (.bool p) = .bool p := rfl
@[go_sem] theorem toA_str {l : List UInt8} : toA (.string ⟨⟨l⟩⟩) = .str l := rfl
@[go_sem] theorem toA_nils : toA (.slice none 0 0) = .nils := rfl
@[go_sem] theorem toA_nilp : toA (.pointer none) = .nilp := rfl
@[go_sem] theorem pick_bool : pickA (.bool p) a b = some (if p then a else b) := rfl
@[go_sem] theorem load_dptr : loadA P t H (.dptr cs) = loadC P t cs := rfl
@[go_sem] theorem load_ref : loadA P t H (.ref n i) = (match nthO H n with | some (.box cs) => loadC P t (cs.drop i) | _ => none) := rfl
@[go_sem] theorem load_eref : loadA P t H (.eref n i k) = (match nthO H n with | some (.row _ es) => (es[i]?).bind fun e => loadC P t (e.cells.drop k) | _ => none) := rfl
@[go_sem] theorem loadC_eq : loadC P t cs = (match tyAgg P t with | some true => (match tySize P t with | some n => if n ≤ cs.length then some (.agg (cs.take n)) else none | none => none) | some false => cs.head? | none => none) := rfl
@[go_sem] theorem nilCheck_dptr : nilCheckA (.dptr cs) = some (.dptr cs) := rfl
@[go_sem] theorem nilCheck_ref : nilCheckA (.ref n i) = some (.ref n i) := rfl
@[go_sem] theorem fieldI_some {f : Nat × TypeId} : fieldAddrI (some f) a = fieldAddrA f.1 a := rfl
@[go_sem] theorem field_dptr : fieldAddrA n (.dptr cs) = some (.dptr (cs.drop n)) := rfl
@[go_sem] theorem field_ref : fieldAddrA n (.ref i k) = some (.ref i (k + n)) := rfl
@[go_sem] theorem field_eref {j : Nat} : fieldAddrA n (.eref i j k) = some (.eref i j (k + n)) := rfl
@[go_sem] theorem index_str : indexA P t (.str s) (.int q m) = (if tyStr P t = true ∧ 0 ≤ m then (s[m.toNat]?).map encU8 else none) := rfl
@[go_sem] theorem index_agg : indexA P t (.agg cs) (.int q m) = (match tyArr P t with | some (n, e) => (match tySize P e with | some k => if 0 ≤ m ∧ m < n then loadC P e (cs.drop (m.toNat * k)) else none | none => none) | none => none) := rfl
@[go_sem] theorem indexAddr_int : indexAddrA P t a (.int q m) = (match tyElem P t with | some e => (match tySize P e with | some k => indexAddrE k m a | none => none) | none => (match tyArr P t with | some (n, e) => (match tySize P e with | some k => indexAddrR n k m a | none => none) | none => none)) := rfl
@[go_sem] theorem indexE_slc : indexAddrE k m (.slc es) = getE k m es := rfl
@[go_sem] theorem indexE_row {j l : Nat} : indexAddrE k m (.row n i j l p) = (if k = j ∧ 0 ≤ m ∧ m < l then some (.eref n (i + m.toNat) 0) else none) := rfl
@[go_sem] theorem indexR_ref {j : Nat} : indexAddrR n k m (.ref i j) = (if 0 ≤ m ∧ m < n then some (.ref i (j + m.toNat * k)) else none) := rfl
@[go_sem] theorem getE_eq : getE k m es = (if 0 ≤ m then es[m.toNat]? else none).bind fun y => if k = y.cells.length then some (.dptr y.cells) else none := rfl
@[go_sem] theorem extract_tup : extractA (.tup cs) n = cs[n]? := rfl
@[go_sem] theorem len_str : lenA P t (.str s) = if tyStr P t = true then some (.int .i64 s.length) else none := rfl
@[go_sem] theorem len_slc : lenA P t (.slc es) = if (tyElem P t).isSome = true then some (.int .i64 es.length) else none := rfl
@[go_sem] theorem len_row {j : Nat} : lenA P t (.row n i j k p) = if (tyElem P t).isSome = true then some (.int .i64 k) else none := rfl
@[go_sem] theorem min_int {q' : IntKind} : minA [.int q m, .int q' r] = some (.int q (if r < m then r else m)) := rfl
@[go_sem] theorem max_int {q' : IntKind} : maxA [.int q m, .int q' r] = some (.int q (if r > m then r else m)) := rfl
@[go_sem] theorem un_not : unA .not (.bool p) = some (.bool !p) := rfl
@[go_sem] theorem bin_add : binA ko p e sl .add (.int q m) (.int q r) = some (.int q (q.wrap (m + r))) := by simp [binA, binI]
@[go_sem] theorem bin_sub : binA ko p e sl .sub (.int q m) (.int q r) = some (.int q (q.wrap (m - r))) := by simp [binA, binI]
@[go_sem] theorem bin_mul : binA ko p e sl .mul (.int q m) (.int q r) = some (.int q (q.wrap (m * r))) := by simp [binA, binI]
@[go_sem] theorem bin_quo : binA ko p e sl .quo (.int q m) (.int q r) = if r = 0 then none else some (.int q (q.wrap (m.tdiv r))) := by simp [binA, binI]
@[go_sem] theorem bin_rem : binA ko p e sl .rem (.int q m) (.int q r) = if r = 0 then none else some (.int q (m.tmod r)) := by simp [binA, binI]
@[go_sem] theorem bin_and : binA ko p e sl .and (.int q m) (.int q r) = some (.int q (q.wrap ((BitVec.ofInt q.bits m &&& BitVec.ofInt q.bits r).toNat))) := by simp [binA, binI]
@[go_sem] theorem bin_xor : binA ko p e sl .xor (.int q m) (.int q r) = some (.int q (q.wrap ((BitVec.ofInt q.bits m ^^^ BitVec.ofInt q.bits r).toNat))) := by simp [binA, binI]
@[go_sem] theorem bin_eql : binA ko p e sl .eql (.int q m) (.int q r) = some (.bool (m == r)) := by simp [binA, binI]
@[go_sem] theorem bin_neq : binA ko p e sl .neq (.int q m) (.int q r) = some (.bool (m != r)) := by simp [binA, binI]
@[go_sem] theorem bin_lss : binA ko p e sl .lss (.int q m) (.int q r) = some (.bool (decide (m < r))) := by simp [binA, binI]
@[go_sem] theorem bin_leq : binA ko p e sl .leq (.int q m) (.int q r) = some (.bool (decide (m ≤ r))) := by simp [binA, binI]
@[go_sem] theorem bin_gtr : binA ko p e sl .gtr (.int q m) (.int q r) = some (.bool (decide (r < m))) := by simp [binA, binI]
@[go_sem] theorem bin_geq : binA ko p e sl .geq (.int q m) (.int q r) = some (.bool (decide (r ≤ m))) := by simp [binA, binI]
@[go_sem] theorem bin_shl {q' : IntKind} : binA ko p e sl .shl (.int q m) (.int q' r) = if r < 0 then none else some (.int q (q.wrap (m * 2 ^ (min r.toNat q.bits)))) := rfl
@[go_sem] theorem bin_shr {q' : IntKind} : binA ko p e sl .shr (.int q m) (.int q' r) = if r < 0 then none else some (.int q (m.fdiv (2 ^ (min r.toNat q.bits)))) := rfl
@[go_sem] theorem bin_bneq {x y : Bool} : binA ko true e sl .neq (.bool x) (.bool y) = some (.bool (x != y)) := rfl
@[go_sem] theorem bin_seql : binA ko p e sl .eql (.str s) (.str s') = some (.bool (s == s')) := rfl
@[go_sem] theorem bin_aeql : binA (some kl) p e sl .eql (.agg cs) (.agg ds) = if hasL kl cs = true ∧ hasL kl ds = true then (eqL cs ds).map .bool else none := rfl
@[go_sem] theorem bin_aneq : binA (some kl) p e sl .neq (.agg cs) (.agg ds) = if hasL kl cs = true ∧ hasL kl ds = true then (eqL cs ds).map (fun b => .bool !b) else none := rfl
@[go_sem] theorem bin_nilnil : binA ko p e sl .eql .nilp .nilp = if e = true then some (.bool true) else none := by simp [binA]
@[go_sem] theorem bin_dptrnil : binA ko p e sl .eql (.dptr cs) .nilp = if e = true then some (.bool false) else none := by simp [binA, A.isPtr]
@[go_sem] theorem bin_nilnilN : binA ko p e sl .neq .nilp .nilp = if e = true then some (.bool false) else none := by simp [binA]
@[go_sem] theorem bin_dptrnilN : binA ko p e sl .neq (.dptr cs) .nilp = if e = true then some (.bool true) else none := by simp [binA, A.isPtr]
@[go_sem] theorem hasL_nil : hasL [] [] = true := rfl
@[go_sem] theorem hasL_cons {c : CK} : hasL (c :: kl) (a :: cs) = (c.has a && hasL kl cs) := rfl
@[go_sem] theorem has_int : CK.has (.int q) (.int q m) = true := by simp [CK.has]
@[go_sem] theorem has_bool : CK.has .bool (.bool p) = true := rfl
@[go_sem] theorem has_str : CK.has .str (.str s) = true := rfl
@[go_sem] theorem eqL_nil : eqL [] [] = some true := rfl
@[go_sem] theorem eqL_cons : eqL (a :: cs) (b :: ds) = (eqA a b).bind fun x => (eqL cs ds).map (x && ·) := rfl
@[go_sem] theorem eqA_int : eqA (.int q m) (.int q r) = some (m == r) := by simp [eqA]
@[go_sem] theorem eqA_bool {x y : Bool} : eqA (.bool x) (.bool y) = some (x == y) := rfl
@[go_sem] theorem eqA_str : eqA (.str s) (.str s') = some (s == s') := rfl
@[go_sem] theorem cells_agg : A.cells (.agg cs) = cs := rfl
@[go_sem] theorem cells_int : A.cells (.int q m) = [.int q m] := rfl
@[go_sem] theorem cells_bool : A.cells (.bool p) = [.bool p] := rfl
@[go_sem] theorem cells_str : A.cells (.str s) = [.str s] := rfl
@[go_sem] theorem cells_slc : A.cells (.slc es) = [.slc es] := rfl
@[go_sem] theorem cells_nils : A.cells .nils = [.nils] := rfl
@[go_sem] theorem cells_row {j : Nat} : A.cells (.row n i k j p) = [.row n i k j p] := rfl
@[go_sem] theorem val_agg : A.val (.agg cs) = true := rfl
@[go_sem] theorem val_int : A.val (.int q m) = true := rfl
@[go_sem] theorem val_bool : A.val (.bool p) = true := rfl
@[go_sem] theorem val_str : A.val (.str s) = true := rfl
@[go_sem] theorem val_slc : A.val (.slc es) = true := rfl
@[go_sem] theorem val_nils : A.val .nils = true := rfl
@[go_sem] theorem val_row {j : Nat} : A.val (.row n i k j p) = true := rfl
@[go_sem] theorem norm_agg : A.norm (.agg cs) = .agg (cs.map norm0) := rfl
@[go_sem] theorem norm_int : A.norm (.int q m) = .int q m := rfl
@[go_sem] theorem norm_bool : A.norm (.bool p) = .bool p := rfl
@[go_sem] theorem norm_str : A.norm (.str s) = .str s := rfl
@[go_sem] theorem norm_slc : A.norm (.slc es) = .slc es := rfl
@[go_sem] theorem norm_nils : A.norm .nils = .slc [] := rfl
@[go_sem] theorem norm0_int : norm0 (.int q m) = .int q m := rfl
@[go_sem] theorem norm0_bool : norm0 (.bool p) = .bool p := rfl
@[go_sem] theorem norm0_str : norm0 (.str s) = .str s := rfl
@[go_sem] theorem viewL_nil : viewL H [] = some [] := rfl
@[go_sem] theorem viewL_cons : viewL H (a :: cs) = (view H a).bind fun y => (viewL H cs).map (y :: ·) := rfl
@[go_sem] theorem view0L_nil : view0L H [] = some [] := rfl
@[go_sem] theorem view0L_cons : view0L H (a :: cs) = (view0 H a).bind fun y => (view0L H cs).map (y :: ·) := rfl
@[go_sem] theorem view_agg : view H (.agg cs) = (view0L H cs).map .agg := rfl
@[go_sem] theorem view_ref : view H (.ref n i) = (match nthO H n with | some (.box cs) => (view0L H (cs.drop i)).map .dptr | _ => none) := rfl
@[go_sem] theorem view_row {j : Nat} : view H (.row n i k j p) = viewRow H n i k j := rfl
@[go_sem] theorem view_int : view H (.int q m) = some (.int q m) := rfl
@[go_sem] theorem view_bool : view H (.bool p) = some (.bool p) := rfl
@[go_sem] theorem view_str : view H (.str s) = some (.str s) := rfl
@[go_sem] theorem view_slc : view H (.slc es) = some (.slc es) := rfl
@[go_sem] theorem view_clip : view H (.clip es) = some (.slc es) := rfl
@[go_sem] theorem view_nils : view H .nils = some (.slc []) := rfl
@[go_sem] theorem view_nilp : view H .nilp = some .nilp := rfl
@[go_sem] theorem view_dptr : view H (.dptr cs) = some (.dptr cs) := rfl
@[go_sem] theorem view0_row {j : Nat} : view0 H (.row n i k j p) = viewRow H n i k j := rfl
@[go_sem] theorem view0_int : view0 H (.int q m) = some (.int q m) := rfl
@[go_sem] theorem view0_bool : view0 H (.bool p) = some (.bool p) := rfl
@[go_sem] theorem view0_str : view0 H (.str s) = some (.str s) := rfl
@[go_sem] theorem view0_slc : view0 H (.slc es) = some (.slc es) := rfl
@[go_sem] theorem view0_nils : view0 H .nils = some (.slc []) := rfl
@[go_sem] theorem view0_nilp : view0 H .nilp = some .nilp := rfl
@[go_sem] theorem view0_dptr : view0 H (.dptr cs) = some (.dptr cs) := rfl
@[go_sem] theorem viewRow_eq {j : Nat} : viewRow H n i k j = (match nthO H n with | some (.row k' es) => if k' = k ∧ i + j ≤ es.length ∧ k ≠ 0 then some (.slc ((es.drop i).take j)) else none | _ => none) := rfl
@[go_sem] theorem pureL_nil : A.pure.pureL [] = true := rfl
@[go_sem] theorem pureL_cons : A.pure.pureL (a :: cs) = (a.pure && A.pure.pureL cs) := rfl
@[go_sem] theorem pure_agg : A.pure (.agg cs) = A.pure.pureL cs := by simp [A.pure]
@[go_sem] theorem pure_int : A.pure (.int q m) = true := by simp [A.pure]
@[go_sem] theorem pure_bool : A.pure (.bool p) = true := by simp [A.pure]
@[go_sem] theorem pure_str : A.pure (.str s) = true := by simp [A.pure]
@[go_sem] theorem pure_slc : A.pure (.slc es) = true := by simp [A.pure]
@[go_sem] theorem pure_clip : A.pure (.clip es) = true := by simp [A.pure]
@[go_sem] theorem pure_nils : A.pure .nils = true := by simp [A.pure]
@[go_sem] theorem pure_nilp : A.pure .nilp = true := by simp [A.pure]
@[go_sem] theorem pure_dptr : A.pure (.dptr cs) = true := by simp [A.pure]
@[go_sem] theorem pure_ref : A.pure (.ref n i) = false := by simp [A.pure]
@[go_sem] theorem flatL_nil : A.flat.flatL [] = true := rfl
@[go_sem] theorem flatL_cons : A.flat.flatL (a :: cs) = (a.flat && A.flat.flatL cs) := rfl
@[go_sem] theorem flat_agg : A.flat (.agg cs) = A.flat.flatL cs := by simp [A.flat]
@[go_sem] theorem flat_tup : A.flat (.tup cs) = A.flat.flatL cs := by simp [A.flat]
@[go_sem] theorem flat_int : A.flat (.int q m) = true := by simp [A.flat]
@[go_sem] theorem flat_bool : A.flat (.bool p) = true := by simp [A.flat]
@[go_sem] theorem flat_str : A.flat (.str s) = true := by simp [A.flat]
@[go_sem] theorem clear_row {σs : List (Nat × A)} {σH : List Obj} {l : Nat} : clearA P (St.mk σs σH) d t (.row n i k l p) = (match tyElem P t with | some e => (match nthO σH n with | some (.row k' es) => (match zeroA P e with | some z => if k' = k ∧ z.cells.length = k ∧ k ≠ 0 ∧ z.val = true ∧ z.pure = true ∧ i + l ≤ es.length then some (((St.mk σs σH).setH n (.row k (es.take i ++ List.replicate l z.norm ++ es.drop (i + l)))).put d (.tup [])) else none | none => none) | _ => none) | none => none) := rfl
@[go_sem] theorem callHV_fn {Γ : Tab} : callHV Γ σ d (.fn n cs) ds = callH Γ σ d n (ds ++ cs) := rfl
@[go_sem] theorem callH_eq {Γ : Tab} {σs : List (Nat × A)} {σH : List Obj} : callH Γ (St.mk σs σH) d n ds = callH1 Γ (St.mk σs σH) d n ds (reach σH 64 (A.names.namesL ds) []) := rfl
@[go_sem] theorem callH1_eq {Γ : Tab} {σs : List (Nat × A)} {σH : List Obj} {ρ : List Nat} : callH1 Γ (St.mk σs σH) d n ds ρ = (A.ren.renL ρ ds).bind fun as' => (renH ρ σH ρ).bind fun H₀ =>
    if Γ.frz n = true then (if ρ.all (fun n => !Γ.fix n) = true then (viewL H₀ as').bind fun bs => (Γ.f n bs).map (callF2 (St.mk σs σH) d ρ H₀) else none)
    else (Γ.hp n as' H₀).bind fun x => if mayMove Γ ρ σH.length x.2.2 = true then some (callH2 (St.mk σs σH) d ρ x) else none := rfl
@[congr] theorem callH1_congr {Γ : Tab} {ρ ρ' : List Nat} (h : ρ = ρ') : callH1 Γ σ d n ds ρ = callH1 Γ σ d n ds ρ' := by rw [h]
@[go_sem] theorem callH2_eq {σs : List (Nat × A)} {σH : List Obj} {ρ : List Nat} {S : List Nat} : callH2 (St.mk σs σH) d ρ (a, H, S) = St.put ⟨(scrubs ρ σH.length (St.mk σs σH) S).s, backH ρ σH.length ρ H (scrubs ρ σH.length (St.mk σs σH) S).H⟩ d (a.back ρ σH.length) := rfl
@[go_sem] theorem callF2_eq {σs : List (Nat × A)} {σH : List Obj} {ρ : List Nat} : callF2 (St.mk σs σH) d ρ H a = St.put ⟨σs.map (fun p => (p.1, frzA ρ H p.2)), dropO ρ ρ (σH.map (frzO ρ H))⟩ d a := rfl
@[go_sem] theorem scrubs_nil {ρ : List Nat} : scrubs ρ n σ [] = σ := rfl
@[go_sem] theorem scrubs_cons {ρ S : List Nat} : scrubs ρ n σ (i :: S) = scrubs ρ n (σ.scrub (nthN ρ n i)) S := rfl
@[go_sem] theorem backH_nil {ρ : List Nat} {os : List Obj} : backH ρ n [] os H = H ++ os.map (Obj.back ρ n) := rfl
@[go_sem] theorem backH_cons {ρ ns : List Nat} {o : Obj} {os : List Obj} : backH ρ n (i :: ns) (o :: os) H = backH ρ n ns os (setO H i (o.back ρ n)) := rfl
@[go_sem] theorem mayMove_nil {Γ : Tab} {ρ : List Nat} : mayMove Γ ρ n [] = true := rfl
@[go_sem] theorem mayMove_cons {Γ : Tab} {ρ S : List Nat} : mayMove Γ ρ n (i :: S) = (!Γ.fix (nthN ρ n i) && mayMove Γ ρ n S) := rfl
@[go_sem] theorem reach_nil {ρ : List Nat} : reach H (n + 1) [] ρ = ρ := rfl
@[go_sem] theorem reach_cons {ρ ns : List Nat} : reach H (n + 1) (i :: ns) ρ = if ρ.contains i = true then reach H n ns ρ else reach H n (namesO (nthO H i) ++ ns) (ρ ++ [i]) := rfl
@[go_sem] theorem namesO_some {o : Obj} : namesO (some o) = o.names := rfl
@[go_sem] theorem names_box : Obj.names (.box cs) = A.names.namesL cs := rfl
@[go_sem] theorem names_rowO : Obj.names (.row k cs) = [] := rfl
@[go_sem] theorem namesL_nil : A.names.namesL [] = [] := rfl
@[go_sem] theorem namesL_cons : A.names.namesL (a :: cs) = a.names ++ A.names.namesL cs := rfl
@[go_sem] theorem names_ref : A.names (.ref n i) = [n] := by simp [A.names]
@[go_sem] theorem names_row {j : Nat} : A.names (.row n i j k p) = [n] := by simp [A.names]
@[go_sem] theorem names_agg : A.names (.agg cs) = A.names.namesL cs := by simp [A.names]
@[go_sem] theorem names_fn : A.names (.fn n cs) = A.names.namesL cs := by simp [A.names]
@[go_sem] theorem names_tup : A.names (.tup cs) = A.names.namesL cs := by simp [A.names]
@[go_sem] theorem names_int : A.names (.int q m) = [] := by simp [A.names]
@[go_sem] theorem names_bool : A.names (.bool p) = [] := by simp [A.names]
@[go_sem] theorem names_str : A.names (.str s) = [] := by simp [A.names]
@[go_sem] theorem names_slc : A.names (.slc es) = [] := by simp [A.names]
@[go_sem] theorem names_clip : A.names (.clip es) = [] := by simp [A.names]
@[go_sem] theorem names_dptr : A.names (.dptr es) = [] := by simp [A.names]
@[go_sem] theorem names_nils : A.names .nils = [] := by simp [A.names]
@[go_sem] theorem names_nilp : A.names .nilp = [] := by simp [A.names]
@[go_sem] theorem idx_cons {ρ : List Nat} : idx (i :: ρ) n = if i = n then some 0 else (idx ρ n).map (· + 1) := rfl
@[go_sem] theorem renL_nil {ρ : List Nat} : A.ren.renL ρ [] = some [] := rfl
@[go_sem] theorem renL_cons {ρ : List Nat} : A.ren.renL ρ (a :: cs) = (a.ren ρ).bind fun x => (A.ren.renL ρ cs).map (x :: ·) := rfl
@[go_sem] theorem ren_ref {ρ : List Nat} : A.ren ρ (.ref n i) = (idx ρ n).map (.ref · i) := by simp [A.ren]
@[go_sem] theorem ren_row {ρ : List Nat} {j : Nat} : A.ren ρ (.row n i j k p) = (idx ρ n).map (.row · i j k p) := by simp [A.ren]
@[go_sem] theorem ren_agg {ρ : List Nat} : A.ren ρ (.agg cs) = (A.ren.renL ρ cs).map .agg := by simp [A.ren]
@[go_sem] theorem ren_fn {ρ : List Nat} : A.ren ρ (.fn n cs) = (A.ren.renL ρ cs).map (.fn n ·) := by simp [A.ren]
@[go_sem] theorem ren_tup {ρ : List Nat} : A.ren ρ (.tup cs) = (A.ren.renL ρ cs).map .tup := by simp [A.ren]
@[go_sem] theorem ren_int {ρ : List Nat} : A.ren ρ (.int q m) = some (.int q m) := by simp [A.ren]
@[go_sem] theorem ren_bool {ρ : List Nat} : A.ren ρ (.bool p) = some (.bool p) := by simp [A.ren]
@[go_sem] theorem ren_str {ρ : List Nat} : A.ren ρ (.str s) = some (.str s) := by simp [A.ren]
@[go_sem] theorem ren_slc {ρ : List Nat} : A.ren ρ (.slc es) = some (.slc es) := by simp [A.ren]
@[go_sem] theorem ren_clip {ρ : List Nat} : A.ren ρ (.clip es) = some (.clip es) := by simp [A.ren]
@[go_sem] theorem ren_dptr {ρ : List Nat} : A.ren ρ (.dptr es) = some (.dptr es) := by simp [A.ren]
@[go_sem] theorem ren_nils {ρ : List Nat} : A.ren ρ .nils = some .nils := by simp [A.ren]
@[go_sem] theorem ren_nilp {ρ : List Nat} : A.ren ρ .nilp = some .nilp := by simp [A.ren]
@[go_sem] theorem renH_nil {ρ : List Nat} : renH ρ H [] = some [] := rfl
@[go_sem] theorem renH_cons {ρ ns : List Nat} : renH ρ H (i :: ns) = (renO ρ (nthO H i)).bind fun o => (renH ρ H ns).map (o :: ·) := rfl
@[go_sem] theorem renO_some {ρ : List Nat} {o : Obj} : renO ρ (some o) = o.ren ρ := rfl
@[go_sem] theorem renO_box {ρ : List Nat} : Obj.ren ρ (.box cs) = (A.ren.renL ρ cs).map .box := rfl
@[go_sem] theorem renO_row {ρ : List Nat} : Obj.ren ρ (.row k cs) = some (.row k cs) := rfl
@[go_sem] theorem nthN_nil : nthN [] n i = n + i := rfl
@[go_sem] theorem nthN_zero {ρ : List Nat} : nthN (i :: ρ) n 0 = i := rfl
@[go_sem] theorem nthN_succ {ρ : List Nat} : nthN (i :: ρ) n (k + 1) = nthN ρ n k := rfl
@[go_sem] theorem back_ref {ρ : List Nat} : A.back ρ k (.ref n i) = .ref (nthN ρ k n) i := by simp [A.back]
@[go_sem] theorem back_row {ρ : List Nat} {j l : Nat} : A.back ρ k (.row n i j l p) = .row (nthN ρ k n) i j l p := by simp [A.back]
@[go_sem] theorem back_tup {ρ : List Nat} : A.back ρ k (.tup cs) = .tup (A.back.backL ρ k cs) := by simp [A.back]
@[go_sem] theorem back_int {ρ : List Nat} : A.back ρ k (.int q m) = .int q m := by simp [A.back]
@[go_sem] theorem back_bool {ρ : List Nat} : A.back ρ k (.bool p) = .bool p := by simp [A.back]
@[go_sem] theorem back_slc {ρ : List Nat} : A.back ρ k (.slc es) = .slc es := by simp [A.back]
@[go_sem] theorem back_clip {ρ : List Nat} : A.back ρ k (.clip es) = .clip es := by simp [A.back]
@[go_sem] theorem back_dptr {ρ : List Nat} : A.back ρ k (.dptr es) = .dptr es := by simp [A.back]
@[go_sem] theorem back_nilp {ρ : List Nat} : A.back ρ k .nilp = .nilp := by simp [A.back]
@[go_sem] theorem backL_nil {ρ : List Nat} : A.back.backL ρ k [] = [] := rfl
@[go_sem] theorem backL_cons {ρ : List Nat} : A.back.backL ρ k (a :: cs) = a.back ρ k :: A.back.backL ρ k cs := rfl
@[go_sem] theorem backO_box {ρ : List Nat} : Obj.back ρ k (.box cs) = .box (A.back.backL ρ k cs) := rfl
@[go_sem] theorem backO_row {ρ : List Nat} : Obj.back ρ k (.row n cs) = .row n cs := rfl
@[go_sem] theorem frzA_eq {ρ : List Nat} : frzA ρ H a = if a.meets ρ = true then (match a.ren ρ with | some x' => (view H x').getD .any | none => .any) else a := rfl
@[go_sem] theorem meets_eq {ρ : List Nat} : A.meets ρ a = ρ.any fun n => a.mem n := rfl
@[go_sem] theorem frzO_box {ρ : List Nat} : frzO ρ H (.box cs) = .box (cs.map (frzA ρ H)) := rfl
@[go_sem] theorem frzO_row {ρ : List Nat} : frzO ρ H (.row k cs) = .row k cs := rfl
@[go_sem] theorem dropO_nil {ρ : List Nat} : dropO ρ [] H = H := rfl
@[go_sem] theorem dropO_cons {ρ ns : List Nat} : dropO ρ (i :: ns) H = dropO ρ ns (setO H i (.row 0 [])) := rfl
@[go_sem] theorem startH_eq : startH cs H = { s := number 0 cs, H := H } := rfl
@[go_sem] theorem bodyH_ret {fn : Func} : bodyH P fn a H .ret σ = K? (rawL P σ fn.results.toList) (fun rs => resOf rs = a ∧ a.under H.length = true ∧ leH H.length σ.H H) := rfl
@[go_sem] theorem rawL_nil : rawL P σ [] = some [] := rfl
@[go_sem] theorem rawL_cons {v : ResultVar} {vs : List ResultVar} : rawL P σ (v :: vs) = (rawA P σ v).bind fun x => (rawL P σ vs).map (x :: ·) := rfl
@[go_sem] theorem raw_tmp {σs : List (Nat × A)} {σH : List Obj} : rawA P (St.mk σs σH) (.tmp i) = some (look σs i) := rfl
@[go_sem] theorem callV_fn {Γ : Tab} : callV Γ σ d (.fn n cs) ds = callX Γ σ d n (ds ++ cs) := rfl
@[go_sem] theorem callX_eq {σs : List (Nat × A)} {σH : List Obj} {Γ : Tab} : callX Γ (St.mk σs σH) d n ds = (viewL σH ds).bind fun bs => (Γ.f n bs).bind fun r => if (A.pure.pureL ds || r.flat) = true then some ((St.mk σs σH).put d r) else none := rfl
@[go_sem] theorem box_eq {σs : List (Nat × A)} {σH : List Obj} : boxA (St.mk σs σH) n d a = if a.val = true then some (((St.mk σs σH).setH n (.box a.cells)).put d (.ref n 0)) else none := rfl
@[go_sem] theorem alloc_some : allocA σ n d (some a) = boxA σ n d a := rfl
@[go_sem] theorem store_ref {σs : List (Nat × A)} {σH : List Obj} {z : Option Nat} : storeA (St.mk σs σH) d z (.ref n i) a = (match nthO σH n with | some (.box cs) => if z = some a.cells.length ∧ i + a.cells.length ≤ cs.length ∧ a.val = true then some (((St.mk σs σH).setH n (.box (spliceA cs i a.cells))).put d (.tup [])) else none | _ => none) := rfl
@[go_sem] theorem store_eref {σs : List (Nat × A)} {σH : List Obj} {z : Option Nat} {j : Nat} : storeA (St.mk σs σH) d z (.eref n j i) a = (match nthO σH n with | some (.row k es) => (es[j]?).bind fun e => if z = some a.cells.length ∧ i + a.cells.length ≤ e.cells.length ∧ a.cells.length ≠ 0 ∧ a.val = true ∧ a.pure = true then some (((St.mk σs σH).setH n (.row k (setNth es j (storeE e i a)))).put d (.tup [])) else none | _ => none) := rfl
@[go_sem] theorem storeE_agg : storeE (.agg cs) i a = .agg (spliceA cs i a.norm.cells) := rfl
@[go_sem] theorem splice_eq : spliceA cs i ds = cs.take i ++ ds ++ cs.drop (i + ds.length) := rfl
@[go_sem] theorem build_eq {ps : List (Nat × Operand)} : buildA P t σ ps = (match zeroA P t with | some (.agg zs) => (match tyArr P t with | some (_, e) => (if (tySize P e).isSome = true then (fillA P e σ ps zs).map .agg else none) | none => if allSized P t = true then (fillS P t σ ps zs).map .agg else none) | _ => none) := rfl
@[go_sem] theorem fillS_nil : fillS P t σ [] cs = some cs := rfl
@[go_sem] theorem fillS_cons {x : Operand} {ps : List (Nat × Operand)} : fillS P t σ ((i, x) :: ps) cs = (match fieldInfo P t i with | some (o, ft) => (fillC (tySize P ft) o (σ.ev x) cs).bind (fillS P t σ ps) | none => none) := rfl
@[go_sem] theorem fillC_some : fillC (some n) i a cs = if a.cells.length = n ∧ i + n ≤ cs.length ∧ a.val = true then some (cs.take i ++ a.cells ++ cs.drop (i + n)) else none := rfl
@[go_sem] theorem buildSlice_eq {ps : List (Nat × Operand)} : buildSliceA P t n σ ps = (match tyElem P t with | some e => (match tySize P e, zeroA P e with | some k, some z => if n * k ≤ 16777216 ∧ k ≠ 0 ∧ z.pure = true ∧ z.val = true ∧ z.cells.length = k then (fillE k σ ps (List.replicate n z.norm)).map .clip else none | _, _ => none) | none => none) := rfl
@[go_sem] theorem fillE_nil : fillE k σ [] cs = some cs := rfl
@[go_sem] theorem fillE_cons {x : Operand} {ps : List (Nat × Operand)} : fillE k σ ((i, x) :: ps) cs = if (σ.ev x).cells.length = k ∧ i < cs.length ∧ (σ.ev x).val = true ∧ (σ.ev x).pure = true then fillE k σ ps (setNth cs i (σ.ev x).norm) else none := rfl
@[go_sem] theorem appendX_eq {fx : Nat → Bool} {x : A} : appendX P fx σ n d t u a x = (match tyElem P t with | some e => (match tySize P e with | some k => if k = 0 ∨ tyBytes P e = 0 ∨ zeroOK P e k = false then none else (srcE P σ e u k x).bind fun src => appendA fx σ n d k (tyBytes P e) a src | none => none) | none => none) := rfl
@[go_sem] theorem src_slc : srcE P σ t u k (.slc es) = if strOK k es = true ∧ (tyElem P u).isSome = true then some es else none := rfl
@[go_sem] theorem src_clip : srcE P σ t u k (.clip es) = if strOK k es = true ∧ (tyElem P u).isSome = true then some es else none := rfl
@[go_sem] theorem src_str : srcE P σ t u k (.str s) = if tyInt P t = some .u8 ∧ k = 1 ∧ tyStr P u = true then some (bytesA s) else none := rfl
@[go_sem] theorem src_row {σs : List (Nat × A)} {σH : List Obj} {j l : Nat} : srcE P (St.mk σs σH) t u k (.row n i j l p) = if j = k ∧ (tyElem P u).isSome = true then (match viewRow σH n i k l with | some (.slc es) => some es | _ => none) else none := rfl
@[go_sem] theorem strOK_eq : strOK k es = (es.isEmpty || strideOf es == k) := rfl
@[go_sem] theorem stride_cons : strideOf (a :: es) = a.cells.length := rfl
@[go_sem] theorem append_nils {fx : Nat → Bool} {σs : List (Nat × A)} {σH : List Obj} : appendA fx (St.mk σs σH) n d k i .nils es = if es.length * i ≤ 140737488355328 then some (((St.mk σs σH).setH n (.row k es)).put d (.row n 0 k es.length false)) else none := rfl
@[go_sem] theorem append_clip {fx : Nat → Bool} {σs : List (Nat × A)} {σH : List Obj} : appendA fx (St.mk σs σH) n d k i (.clip cs) es = if strOK k cs = true ∧ (cs = [] ∨ es ≠ []) ∧ (cs.length + es.length) * i ≤ 140737488355328 then some (((St.mk σs σH).setH n (.row k (cs ++ es))).put d (.row n 0 k (cs.length + es.length) false)) else none := rfl
@[go_sem] theorem append_row {fx : Nat → Bool} {σs : List (Nat × A)} {σH : List Obj} {m j l : Nat} : appendA fx (St.mk σs σH) n d k i (.row m 0 j l p) es = (match nthO σH m with | some (.row k'' xs) => if j = k ∧ k'' = k ∧ l ≤ xs.length ∧ (l + es.length) * i ≤ 140737488355328 then (if p then (if es = [] then none else some (((St.mk σs σH).setH n (.row k (xs.take l ++ es))).put d (.row n 0 k (l + es.length) false))) else (if fx m = true then none else some ((((St.mk σs σH).scrub m).setH m (.row k (xs.take l ++ es))).put d (.row m 0 k (l + es.length) false)))) else none | _ => none) := rfl
@[go_sem] theorem convX_eq {σs : List (Nat × A)} {σH : List Obj} : convX P (St.mk σs σH) n d t u a = if isS2B P t u = true then (match a with | .str s => some (((St.mk σs σH).setH n (.row 1 (bytesA s))).put d (.row n 0 1 s.length false)) | _ => none) else (convA P t u σH a).map ((St.mk σs σH).put d ·) := rfl
@[go_sem] theorem conv_int : convA P t u H (.int q m) = (match tyInt P u with | some k => if (tyAgg P t).isSome = true then some (.int k (k.wrap m)) else none | none => none) := rfl
@[go_sem] theorem slice_slc {l h b : Bd} : sliceA p (some k) (.slc es) l h b = sliceE k es l h b := rfl
@[go_sem] theorem slice_row {l h b : Bd} {j f : Nat} {x : Bool} : sliceA p (some f) (.row n i k j x) l h b = if f = k then sliceR n i f j l h b else none := rfl
@[go_sem] theorem sliceE_eq {l h : Bd} : sliceE k es l h .none = if strOK k es = true ∧ 0 ≤ l.get 0 ∧ l.get 0 ≤ h.get es.length ∧ h.get es.length ≤ es.length then some (.slc ((es.take (h.get es.length).toNat).drop (l.get 0).toNat)) else none := rfl
@[go_sem] theorem sliceR_eq {j : Nat} {l h : Bd} : sliceR n i k j l h .none = if 0 ≤ l.get 0 ∧ l.get 0 ≤ h.get j ∧ h.get j ≤ j then some (.row n (i + (l.get 0).toNat) k (h.get j - l.get 0).toNat false) else none := rfl
@[go_sem] theorem elSize_eq : elSize P t = (match tyElem P t with | some e => tySize P e | none => none) := rfl
@[go_sem] theorem scrub_eq {σs : List (Nat × A)} {σH : List Obj} : (St.mk σs σH).scrub n = { s := σs.map (fun p => (p.1, scrubA n p.2)), H := σH.map (scrubO n) } := rfl
@[go_sem] theorem scrubA_eq : scrubA n a = if a.mem n = true then .any else a := rfl
@[go_sem] theorem scrubO_box : scrubO n (.box cs) = .box (cs.map (scrubA n)) := rfl
@[go_sem] theorem scrubO_row : scrubO n (.row k cs) = .row k cs := rfl
@[go_sem] theorem memL_nil : A.mem.memL n [] = false := rfl
@[go_sem] theorem memL_cons : A.mem.memL n (a :: cs) = (a.mem n || A.mem.memL n cs) := rfl
@[go_sem] theorem mem_agg : A.mem n (.agg cs) = A.mem.memL n cs := by simp [A.mem]
@[go_sem] theorem mem_tup : A.mem n (.tup cs) = A.mem.memL n cs := by simp [A.mem]
@[go_sem] theorem mem_int : A.mem n (.int q m) = false := by simp [A.mem]
@[go_sem] theorem mem_bool : A.mem n (.bool p) = false := by simp [A.mem]
@[go_sem] theorem mem_str : A.mem n (.str s) = false := by simp [A.mem]
@[go_sem] theorem mem_slc : A.mem n (.slc es) = false := by simp [A.mem]
@[go_sem] theorem mem_clip : A.mem n (.clip es) = false := by simp [A.mem]
@[go_sem] theorem mem_dptr : A.mem n (.dptr es) = false := by simp [A.mem]
@[go_sem] theorem mem_nils : A.mem n .nils = false := by simp [A.mem]
@[go_sem] theorem mem_nilp : A.mem n .nilp = false := by simp [A.mem]
@[go_sem] theorem mem_any : A.mem n .any = false := by simp [A.mem]
@[go_sem] theorem mem_ref : A.mem n (.ref i k) = (i == n) := by simp [A.mem]
@[go_sem] theorem mem_eref {j : Nat} : A.mem n (.eref i j k) = (i == n) := by simp [A.mem]
@[go_sem] theorem mem_row {j l : Nat} : A.mem n (.row i j k l p) = (i == n) := by simp [A.mem]
@[go_sem] theorem under_int : A.under n (.int q m) = true := by simp [A.under]
@[go_sem] theorem under_bool : A.under n (.bool p) = true := by simp [A.under]
@[go_sem] theorem under_str : A.under n (.str s) = true := by simp [A.under]
@[go_sem] theorem under_slc : A.under n (.slc es) = true := by simp [A.under]
@[go_sem] theorem under_clip : A.under n (.clip es) = true := by simp [A.under]
@[go_sem] theorem under_dptr : A.under n (.dptr es) = true := by simp [A.under]
@[go_sem] theorem under_nils : A.under n .nils = true := by simp [A.under]
@[go_sem] theorem under_nilp : A.under n .nilp = true := by simp [A.under]
@[go_sem] theorem under_ref : A.under n (.ref i k) = decide (i < n) := by simp [A.under]
@[go_sem] theorem under_row {j l : Nat} : A.under n (.row i j k l p) = decide (i < n) := by simp [A.under]
@[go_sem] theorem resL_nil : resL P σ [] = some [] := rfl
@[go_sem] theorem resL_cons {v : ResultVar} {vs : List ResultVar} : resL P σ (v :: vs) = (resA P σ v).bind fun x => (resL P σ vs).map (x :: ·) := rfl
@[go_sem] theorem res_tmp {σs : List (Nat × A)} {σH : List Obj} : resA P (St.mk σs σH) (.tmp i) = view σH (look σs i) := rfl
@[go_sem] theorem res_cell {σs : List (Nat × A)} {σH : List Obj} : resA P (St.mk σs σH) (.cell i t) = resC P (St.mk σs σH) t (look σs i) := rfl
@[go_sem] theorem resC_ref {σs : List (Nat × A)} {σH : List Obj} : resC P (St.mk σs σH) t (.ref n i) = (match nthO σH n with | some (.box cs) => (loadC P t (cs.drop i)).bind (view σH) | _ => none) := rfl
@[go_sem] theorem resOf_one : resOf [a] = a := rfl
@[go_sem] theorem resOf_two : resOf (a :: b :: cs) = .tup (a :: b :: cs) := rfl
@[go_sem] theorem body_ret {fn : Func} {Post : A → Prop} : bodyA P fn Post .ret σ = K? (resL P σ fn.results.toList) (fun rs => Post (resOf rs)) := rfl
@[go_sem] theorem start_eq : startA cs = { s := number 0 cs, H := [] } := rfl
@[go_sem] theorem number_nil : number n [] = [] := rfl
@[go_sem] theorem number_cons : number n (a :: cs) = (n, a) :: number (n + 1) cs := rfl
end
attribute [go_sem] List.map_cons List.map_nil List.cons_append List.nil_append List.append_nil List.length_cons List.length_nil List.replicate_succ List.replicate_zero
  List.take_succ_cons List.drop_succ_cons List.take_zero List.drop_zero List.take_nil List.drop_nil List.head?_cons List.getElem?_cons_zero List.getElem?_cons_succ List.isEmpty_cons List.isEmpty_nil List.any_cons List.any_nil List.all_cons List.all_nil
  Option.map_some Option.map_none Option.bind_some Option.bind_none Option.getD_some Option.getD_none Option.isSome_some Option.isSome_none Option.isNone_some Option.isNone_none
  ite_true ite_false Bool.false_eq_true Bool.and_true Bool.true_and Bool.and_false Bool.false_and Bool.or_true Bool.true_or Bool.or_false Bool.false_or Bool.not_true Bool.not_false
  beq_self_eq_true and_true true_and and_false false_and or_true true_or or_false false_or and_self
def keepS (s : List (Nat × A)) : List Nat → List (Nat × A)
  | [] => []
  | d :: ds => (d, look s d) :: keepS s ds
def updsH : List Obj → List (Nat × Obj) → List Obj
  | s, [] => s
  | s, (d, v) :: ds => updsH (setO s d v) ds
def headSt (σ : St) (ks : List Nat) (u : List (Nat × A)) (h : List (Nat × Obj)) : St := { s := u ++ keepS σ.s ks, H := updsH σ.H h }
theorem updsH_len : ∀ (hs : List (Nat × Obj)) (H : List Obj), (updsH H hs).length = H.length
  | [], H => rfl
  | (d, v) :: ds, H => by
    simp only [updsH]
    rw [updsH_len ds]
    clear ds
    induction H generalizing d with
    | nil => rfl
    | cons x xs ih => cases d <;> simp [setO, ih]
theorem wpA_loop {P : Program} {Γ : Tab} {c : Code} {Q : Ex → St → Prop} {σ : St} {ι : Type} (ks : List Nat) (u : ι → List (Nat × A)) (h : ι → List (Nat × Obj)) (μ : ι → Nat) (i₀ : ι) (hn : Γ.nf ≤ σ.H.length)
    (h0 : σ.le (headSt σ ks (u i₀) (h i₀)))
    (hs : ∀ i, wpA P Γ c (loopQ (fun τ => ∃ j, τ.le (headSt σ ks (u j) (h j)) ∧ μ j < μ i) Q) (headSt σ ks (u i) (h i))) : wpA P Γ (.loop c) Q σ := by
  have hl : ∀ i, Γ.nf ≤ (headSt σ ks (u i) (h i)).H.length := fun i => by
    show Γ.nf ≤ (updsH σ.H (h i)).length
    rw [updsH_len]; exact hn
  simp only [wpA]
  refine ⟨ι, fun i => headSt σ ks (u i) (h i), μ, ⟨i₀, .le (hl i₀) h0⟩, fun i => ?_⟩
  refine wpA_mono (fun e τ hq => ?_) (hs i)
  cases e with
  | normal => obtain ⟨j, h1, h2⟩ := hq; exact ⟨j, .le (hl j) h1, h2⟩
  | exit id => exact hq
  | ret => exact hq
theorem wpA_loop_clip {P : Program} {Γ : Tab} {c : Code} {Q : Ex → St → Prop} {σ : St} (d : Nat) (es : List A) (hd : look σ.s d = .clip es)
    (hw : wpA P Γ (.loop c) Q ⟨(d, .slc es) :: σ.s, σ.H⟩) : wpA P Γ (.loop c) Q σ := by
  simp only [wpA] at hw ⊢
  obtain ⟨ι, inv, μ, ⟨i, hi⟩, hs⟩ := hw
  exact ⟨ι, inv, μ, ⟨i, .wk d es hd hi⟩, hs⟩
@[go_sem] theorem frzSt_eq {ρ : List Nat} {H₀ : List Obj} {s : List (Nat × A)} {H : List Obj} : frzSt ρ H₀ (St.mk s H) = ⟨s.map (fun p => (p.1, frzA ρ H₀ p.2)), dropO ρ ρ (H.map (frzO ρ H₀))⟩ := rfl
theorem wpA_loopH {P : Program} {Γ : Tab} {c : Code} {Q : Ex → St → Prop} {σ : St} {ι : Type} (ks : List Nat) (u : ι → List (Nat × A)) (h : ι → List Obj) (μ : ι → Nat) (i₀ : ι) (hn : ∀ i, Γ.nf ≤ (h i).length)
    (h0 : σ.le ⟨u i₀ ++ keepS σ.s ks, h i₀⟩)
    (hs : ∀ i, wpA P Γ c (loopQ (fun τ => ∃ j, τ.le ⟨u j ++ keepS σ.s ks, h j⟩ ∧ μ j < μ i) Q) ⟨u i ++ keepS σ.s ks, h i⟩) : wpA P Γ (.loop c) Q σ := by
  simp only [wpA]
  refine ⟨ι, fun i => ⟨u i ++ keepS σ.s ks, h i⟩, μ, ⟨i₀, .le (hn i₀) h0⟩, fun i => ?_⟩
  refine wpA_mono (fun e τ hq => ?_) (hs i)
  cases e with
  | normal => obtain ⟨j, h1, h2⟩ := hq; exact ⟨j, .le (hn j) h1, h2⟩
  | exit id => exact hq
  | ret => exact hq
theorem wpA_loop_nil {P : Program} {Γ : Tab} {c : Code} {Q : Ex → St → Prop} {σ : St} (d k : Nat) (hd : look σ.s d = .nils)
    (hw : wpA P Γ (.loop c) Q ⟨(d, .row σ.H.length 0 k 0 false) :: σ.s, σ.H ++ [.row k []]⟩) : wpA P Γ (.loop c) Q σ := by
  simp only [wpA] at hw ⊢
  obtain ⟨ι, inv, μ, ⟨i, hi⟩, hs⟩ := hw
  exact ⟨ι, inv, μ, ⟨i, .nil d k hd hi⟩, hs⟩
section
variable {σ τ : St} {s : List (Nat × A)} {ks : List Nat} {H G : List Obj} {d n k : Nat} {v a b : A} {o p : Obj} {cs ds : List A}
@[go_sem] theorem keepS_nil : keepS s [] = [] := rfl
@[go_sem] theorem keepS_cons : keepS s (d :: ks) = (d, look s d) :: keepS s ks := rfl
@[go_sem] theorem updsH_nil : updsH H [] = H := rfl
@[go_sem] theorem updsH_cons {hs : List (Nat × Obj)} : updsH H ((n, o) :: hs) = updsH (setO H n o) hs := rfl
@[go_sem] theorem head_eq {σs : List (Nat × A)} {σH : List Obj} {u : List (Nat × A)} {hs : List (Nat × Obj)} : headSt (St.mk σs σH) ks u hs = { s := u ++ keepS σs ks, H := updsH σH hs } := rfl
@[go_sem] theorem le_eq {s r : List (Nat × A)} {H G : List Obj} : (St.mk s H).le ⟨r, G⟩ = (leS G.length s r ∧ leH G.length H G) := rfl
@[go_sem] theorem leS_nil : leS n s [] = True := rfl
@[go_sem] theorem leS_cons {r : List (Nat × A)} : leS n s ((d, v) :: r) = ((look s d = v ∧ v.under n = true) ∧ leS n s r) := rfl
@[go_sem] theorem leH_nil : leH n [] [] = True := by simp [leH]
@[go_sem] theorem leH_nil' : leH n (o :: H) [] = True := by simp [leH]
@[go_sem] theorem leH_cons : leH n (o :: H) (p :: G) = (leO n o p ∧ leH n H G) := by simp [leH]
@[go_sem] theorem leO_box : leO n (.box cs) (.box ds) = leL n cs ds := by simp [leO]
@[go_sem] theorem leO_row {j : Nat} : leO n (.row k cs) (.row j ds) = (k = j ∧ cs = ds) := by simp [leO]
@[go_sem] theorem leL_nil : leL n [] [] = True := by simp [leL]
@[go_sem] theorem leL_cons : leL n (a :: cs) (b :: ds) = ((b = .any ∨ (a = b ∧ b.under n = true)) ∧ leL n cs ds) := by simp [leL]
end
attribute [go_sem] A.int.injEq A.bool.injEq A.str.injEq A.slc.injEq A.agg.injEq A.ref.injEq A.row.injEq A.tup.injEq A.fn.injEq
end Go.Abs
namespace Go.Proofs.Ytjnpfbohnpjckaa
open Go.Abs
theorem mixed : Try.prog.follows .mixedOrders = true := by kernel_rfl
@[go_sem] theorem tyStr3 : tyStr Try.prog 3 = false := by kernel_rfl
@[go_sem] theorem tyBool3 : tyBool Try.prog 3 = false := by kernel_rfl
@[go_sem] theorem tyPtr3 : tyPtr Try.prog 3 = false := by kernel_rfl
@[go_sem] theorem tyElem3 : tyElem Try.prog 3 = none := by kernel_rfl
@[go_sem] theorem tySize3 : tySize Try.prog 3 = some 1 := by kernel_rfl
@[go_sem] theorem tyAgg3 : tyAgg Try.prog 3 = some false := by kernel_rfl
@[go_sem] theorem tyInt3 : tyInt Try.prog 3 = some .i64 := by kernel_rfl
@[go_sem] theorem zeroA3 : zeroA Try.prog 3 = some (.int .i64 0) := by kernel_rfl
@[go_sem] theorem eqTy3 : eqTy Try.prog 3 = none := by kernel_rfl
@[go_sem] theorem tyBool4 : tyBool Try.prog 4 = true := by kernel_rfl
@[go_sem] theorem tyPtr4 : tyPtr Try.prog 4 = false := by kernel_rfl
@[go_sem] theorem tyElem4 : tyElem Try.prog 4 = none := by kernel_rfl
@[go_sem] theorem tySize4 : tySize Try.prog 4 = some 1 := by kernel_rfl
@[go_sem] theorem tyAgg4 : tyAgg Try.prog 4 = some false := by kernel_rfl
@[go_sem] theorem eqTy4 : eqTy Try.prog 4 = none := by kernel_rfl
@[go_sem] theorem tyStr5 : tyStr Try.prog 5 = false := by kernel_rfl
@[go_sem] theorem tyBool5 : tyBool Try.prog 5 = false := by kernel_rfl
@[go_sem] theorem tyPtr5 : tyPtr Try.prog 5 = false := by kernel_rfl
@[go_sem] theorem tyElem5 : tyElem Try.prog 5 = none := by kernel_rfl
@[go_sem] theorem tySize5 : tySize Try.prog 5 = some 1 := by kernel_rfl
@[go_sem] theorem tyAgg5 : tyAgg Try.prog 5 = some false := by kernel_rfl
@[go_sem] theorem tyInt5 : tyInt Try.prog 5 = some .u8 := by kernel_rfl
@[go_sem] theorem tyBytes5 : tyBytes Try.prog 5 = 1 := by kernel_rfl
@[go_sem] theorem zeroA5 : zeroA Try.prog 5 = some (.int .u8 0) := by kernel_rfl
@[go_sem] theorem eqTy5 : eqTy Try.prog 5 = none := by kernel_rfl
@[go_sem] theorem tyStr9 : tyStr Try.prog 9 = true := by kernel_rfl
@[go_sem] theorem tyBool9 : tyBool Try.prog 9 = false := by kernel_rfl
@[go_sem] theorem tyPtr9 : tyPtr Try.prog 9 = false := by kernel_rfl
@[go_sem] theorem tyElem9 : tyElem Try.prog 9 = none := by kernel_rfl
@[go_sem] theorem tySize9 : tySize Try.prog 9 = some 1 := by kernel_rfl
@[go_sem] theorem tyAgg9 : tyAgg Try.prog 9 = some false := by kernel_rfl
@[go_sem] theorem tyBytes9 : tyBytes Try.prog 9 = 16 := by kernel_rfl
@[go_sem] theorem zeroA9 : zeroA Try.prog 9 = some (.str []) := by kernel_rfl
@[go_sem] theorem eqTy9 : eqTy Try.prog 9 = none := by kernel_rfl
@[go_sem] theorem tyElem22 : tyElem Try.prog 22 = some 69 := by kernel_rfl
@[go_sem] theorem tySize22 : tySize Try.prog 22 = some 1 := by kernel_rfl
@[go_sem] theorem tyAgg22 : tyAgg Try.prog 22 = some false := by kernel_rfl
@[go_sem] theorem tyStr23 : tyStr Try.prog 23 = false := by kernel_rfl
@[go_sem] theorem tyBool23 : tyBool Try.prog 23 = false := by kernel_rfl
@[go_sem] theorem tyPtr23 : tyPtr Try.prog 23 = false := by kernel_rfl
@[go_sem] theorem tyElem23 : tyElem Try.prog 23 = none := by kernel_rfl
@[go_sem] theorem tySize23 : tySize Try.prog 23 = some 1 := by kernel_rfl
@[go_sem] theorem tyAgg23 : tyAgg Try.prog 23 = some false := by kernel_rfl
@[go_sem] theorem tyInt23 : tyInt Try.prog 23 = some .u64 := by kernel_rfl
@[go_sem] theorem eqTy23 : eqTy Try.prog 23 = none := by kernel_rfl
@[go_sem] theorem tyElem24 : tyElem Try.prog 24 = none := by kernel_rfl
@[go_sem] theorem tyArr24 : tyArr Try.prog 24 = some (2, 23) := by kernel_rfl
@[go_sem] theorem tyElem25 : tyElem Try.prog 25 = some 4 := by kernel_rfl
@[go_sem] theorem tySize25 : tySize Try.prog 25 = some 1 := by kernel_rfl
@[go_sem] theorem tyAgg25 : tyAgg Try.prog 25 = some false := by kernel_rfl
@[go_sem] theorem tyBool28 : tyBool Try.prog 28 = false := by kernel_rfl
@[go_sem] theorem tyPtr28 : tyPtr Try.prog 28 = true := by kernel_rfl
@[go_sem] theorem tyElem28 : tyElem Try.prog 28 = none := by kernel_rfl
@[go_sem] theorem eqTy28 : eqTy Try.prog 28 = none := by kernel_rfl
@[go_sem] theorem tyBool29 : tyBool Try.prog 29 = false := by kernel_rfl
@[go_sem] theorem tyPtr29 : tyPtr Try.prog 29 = false := by kernel_rfl
@[go_sem] theorem tyElem29 : tyElem Try.prog 29 = none := by kernel_rfl
@[go_sem] theorem eqTy29 : eqTy Try.prog 29 = none := by kernel_rfl
@[go_sem] theorem tyElem36 : tyElem Try.prog 36 = some 43 := by kernel_rfl
@[go_sem] theorem tySize36 : tySize Try.prog 36 = some 1 := by kernel_rfl
@[go_sem] theorem tyAgg36 : tyAgg Try.prog 36 = some false := by kernel_rfl
@[go_sem] theorem tyElem37 : tyElem Try.prog 37 = some 41 := by kernel_rfl
@[go_sem] theorem tySize37 : tySize Try.prog 37 = some 1 := by kernel_rfl
@[go_sem] theorem tyAgg37 : tyAgg Try.prog 37 = some false := by kernel_rfl
@[go_sem] theorem tyArr39 : tyArr Try.prog 39 = none := by kernel_rfl
@[go_sem] theorem allSized39 : allSized Try.prog 39 = true := by kernel_rfl
@[go_sem] theorem zeroA39 : zeroA Try.prog 39 = some (.agg [.nils, .int .u64 0, .int .i64 0, .nils, .nils, .nils]) := by kernel_rfl
@[go_sem] theorem fi39_0 : fieldInfo Try.prog 39 0 = some (0, 22) := by kernel_rfl
@[go_sem] theorem fi39_1 : fieldInfo Try.prog 39 1 = some (1, 23) := by kernel_rfl
@[go_sem] theorem fi39_2 : fieldInfo Try.prog 39 2 = some (2, 3) := by kernel_rfl
@[go_sem] theorem fi39_3 : fieldInfo Try.prog 39 3 = some (3, 25) := by kernel_rfl
@[go_sem] theorem fi39_4 : fieldInfo Try.prog 39 4 = some (4, 36) := by kernel_rfl
@[go_sem] theorem fi39_5 : fieldInfo Try.prog 39 5 = some (5, 37) := by kernel_rfl
@[go_sem] theorem tyBool41 : tyBool Try.prog 41 = false := by kernel_rfl
@[go_sem] theorem tyPtr41 : tyPtr Try.prog 41 = false := by kernel_rfl
@[go_sem] theorem tyElem41 : tyElem Try.prog 41 = none := by kernel_rfl
@[go_sem] theorem tyArr41 : tyArr Try.prog 41 = none := by kernel_rfl
@[go_sem] theorem tySize41 : tySize Try.prog 41 = some 3 := by kernel_rfl
@[go_sem] theorem tyAgg41 : tyAgg Try.prog 41 = some true := by kernel_rfl
@[go_sem] theorem tyBytes41 : tyBytes Try.prog 41 = 40 := by kernel_rfl
@[go_sem] theorem allSized41 : allSized Try.prog 41 = true := by kernel_rfl
@[go_sem] theorem zeroA41 : zeroA Try.prog 41 = some (.agg [.str [], .str [], .bool false]) := by kernel_rfl
@[go_sem] theorem eqTy41 : eqTy Try.prog 41 = some [.str, .str, .bool] := by kernel_rfl
@[go_sem] theorem fi41_0 : fieldInfo Try.prog 41 0 = some (0, 9) := by kernel_rfl
@[go_sem] theorem fi41_1 : fieldInfo Try.prog 41 1 = some (1, 9) := by kernel_rfl
@[go_sem] theorem fi41_2 : fieldInfo Try.prog 41 2 = some (2, 4) := by kernel_rfl
@[go_sem] theorem tyBool43 : tyBool Try.prog 43 = false := by kernel_rfl
@[go_sem] theorem tyPtr43 : tyPtr Try.prog 43 = false := by kernel_rfl
@[go_sem] theorem tyElem43 : tyElem Try.prog 43 = none := by kernel_rfl
@[go_sem] theorem tyArr43 : tyArr Try.prog 43 = none := by kernel_rfl
@[go_sem] theorem tySize43 : tySize Try.prog 43 = some 4 := by kernel_rfl
@[go_sem] theorem tyAgg43 : tyAgg Try.prog 43 = some true := by kernel_rfl
@[go_sem] theorem tyBytes43 : tyBytes Try.prog 43 = 48 := by kernel_rfl
@[go_sem] theorem allSized43 : allSized Try.prog 43 = true := by kernel_rfl
@[go_sem] theorem zeroA43 : zeroA Try.prog 43 = some (.agg [.str [], .str [], .bool false, .int .u64 0]) := by kernel_rfl
@[go_sem] theorem eqTy43 : eqTy Try.prog 43 = some [.str, .str, .bool, .int .u64] := by kernel_rfl
@[go_sem] theorem fi43_0 : fieldInfo Try.prog 43 0 = some (0, 41) := by kernel_rfl
@[go_sem] theorem fi43_1 : fieldInfo Try.prog 43 1 = some (3, 23) := by kernel_rfl
@[go_sem] theorem tyBool44 : tyBool Try.prog 44 = false := by kernel_rfl
@[go_sem] theorem tyPtr44 : tyPtr Try.prog 44 = false := by kernel_rfl
@[go_sem] theorem tyElem44 : tyElem Try.prog 44 = none := by kernel_rfl
@[go_sem] theorem tyArr44 : tyArr Try.prog 44 = none := by kernel_rfl
@[go_sem] theorem tySize44 : tySize Try.prog 44 = some 4 := by kernel_rfl
@[go_sem] theorem tyAgg44 : tyAgg Try.prog 44 = some true := by kernel_rfl
@[go_sem] theorem allSized44 : allSized Try.prog 44 = true := by kernel_rfl
@[go_sem] theorem zeroA44 : zeroA Try.prog 44 = some (.agg [.str [], .str [], .bool false, .int .u64 0]) := by kernel_rfl
@[go_sem] theorem eqTy44 : eqTy Try.prog 44 = some [.str, .str, .bool, .int .u64] := by kernel_rfl
@[go_sem] theorem fi44_0 : fieldInfo Try.prog 44 0 = some (0, 41) := by kernel_rfl
@[go_sem] theorem fi44_1 : fieldInfo Try.prog 44 1 = some (3, 23) := by kernel_rfl
@[go_sem] theorem tyBool49 : tyBool Try.prog 49 = false := by kernel_rfl
@[go_sem] theorem tyPtr49 : tyPtr Try.prog 49 = true := by kernel_rfl
@[go_sem] theorem tyElem49 : tyElem Try.prog 49 = none := by kernel_rfl
@[go_sem] theorem tyAgg49 : tyAgg Try.prog 49 = some false := by kernel_rfl
@[go_sem] theorem eqTy49 : eqTy Try.prog 49 = none := by kernel_rfl
@[go_sem] theorem tyStr50 : tyStr Try.prog 50 = false := by kernel_rfl
@[go_sem] theorem tyElem50 : tyElem Try.prog 50 = some 73 := by kernel_rfl
@[go_sem] theorem tyArr50 : tyArr Try.prog 50 = none := by kernel_rfl
@[go_sem] theorem tySize50 : tySize Try.prog 50 = some 1 := by kernel_rfl
@[go_sem] theorem tyAgg50 : tyAgg Try.prog 50 = some false := by kernel_rfl
@[go_sem] theorem zeroA52 : zeroA Try.prog 52 = some (.agg [.nilp, .nils, .nils, .int .i64 0]) := by kernel_rfl
@[go_sem] theorem fi52_0 : fieldInfo Try.prog 52 0 = some (0, 49) := by kernel_rfl
@[go_sem] theorem fi52_1 : fieldInfo Try.prog 52 1 = some (1, 50) := by kernel_rfl
@[go_sem] theorem fi52_2 : fieldInfo Try.prog 52 2 = some (2, 37) := by kernel_rfl
@[go_sem] theorem fi52_3 : fieldInfo Try.prog 52 3 = some (3, 3) := by kernel_rfl
@[go_sem] theorem tyStr56 : tyStr Try.prog 56 = false := by kernel_rfl
@[go_sem] theorem tyElem56 : tyElem Try.prog 56 = some 9 := by kernel_rfl
@[go_sem] theorem tyArr56 : tyArr Try.prog 56 = none := by kernel_rfl
@[go_sem] theorem tyArr67 : tyArr Try.prog 67 = none := by kernel_rfl
@[go_sem] theorem tySize67 : tySize Try.prog 67 = some 2 := by kernel_rfl
@[go_sem] theorem tyAgg67 : tyAgg Try.prog 67 = some true := by kernel_rfl
@[go_sem] theorem allSized67 : allSized Try.prog 67 = true := by kernel_rfl
@[go_sem] theorem zeroA67 : zeroA Try.prog 67 = some (.agg [.int .i64 0, .int .i64 0]) := by kernel_rfl
@[go_sem] theorem fi67_0 : fieldInfo Try.prog 67 0 = some (0, 3) := by kernel_rfl
@[go_sem] theorem fi67_1 : fieldInfo Try.prog 67 1 = some (1, 3) := by kernel_rfl
@[go_sem] theorem tyBool69 : tyBool Try.prog 69 = false := by kernel_rfl
@[go_sem] theorem tyPtr69 : tyPtr Try.prog 69 = false := by kernel_rfl
@[go_sem] theorem tyElem69 : tyElem Try.prog 69 = none := by kernel_rfl
@[go_sem] theorem tyArr69 : tyArr Try.prog 69 = none := by kernel_rfl
@[go_sem] theorem tySize69 : tySize Try.prog 69 = some 7 := by kernel_rfl
@[go_sem] theorem tyAgg69 : tyAgg Try.prog 69 = some true := by kernel_rfl
@[go_sem] theorem tyBytes69 : tyBytes Try.prog 69 = 72 := by kernel_rfl
@[go_sem] theorem allSized69 : allSized Try.prog 69 = true := by kernel_rfl
@[go_sem] theorem zeroA69 : zeroA Try.prog 69 = some (.agg [.str [], .int .i64 0, .int .i64 0, .int .i64 0, .int .i64 0, .bool false, .str []]) := by kernel_rfl
@[go_sem] theorem eqTy69 : eqTy Try.prog 69 = some [.str, .int .i64, .int .i64, .int .i64, .int .i64, .bool, .str] := by kernel_rfl
@[go_sem] theorem fi69_0 : fieldInfo Try.prog 69 0 = some (0, 9) := by kernel_rfl
@[go_sem] theorem fi69_1 : fieldInfo Try.prog 69 1 = some (1, 67) := by kernel_rfl
@[go_sem] theorem fi69_2 : fieldInfo Try.prog 69 2 = some (3, 3) := by kernel_rfl
@[go_sem] theorem fi69_3 : fieldInfo Try.prog 69 3 = some (4, 3) := by kernel_rfl
@[go_sem] theorem fi69_4 : fieldInfo Try.prog 69 4 = some (5, 4) := by kernel_rfl
@[go_sem] theorem fi69_5 : fieldInfo Try.prog 69 5 = some (6, 9) := by kernel_rfl
@[go_sem] theorem tyArr73 : tyArr Try.prog 73 = none := by kernel_rfl
@[go_sem] theorem tySize73 : tySize Try.prog 73 = some 5 := by kernel_rfl
@[go_sem] theorem tyAgg73 : tyAgg Try.prog 73 = some true := by kernel_rfl
@[go_sem] theorem tyBytes73 : tyBytes Try.prog 73 = 56 := by kernel_rfl
@[go_sem] theorem allSized73 : allSized Try.prog 73 = true := by kernel_rfl
@[go_sem] theorem zeroA73 : zeroA Try.prog 73 = some (.agg [.int .i64 0, .int .i64 0, .str [], .str [], .bool false]) := by kernel_rfl
@[go_sem] theorem fi73_0 : fieldInfo Try.prog 73 0 = some (0, 3) := by kernel_rfl
@[go_sem] theorem fi73_1 : fieldInfo Try.prog 73 1 = some (1, 3) := by kernel_rfl
@[go_sem] theorem fi73_2 : fieldInfo Try.prog 73 2 = some (2, 41) := by kernel_rfl
@[go_sem] theorem tyBool88 : tyBool Try.prog 88 = false := by kernel_rfl
@[go_sem] theorem tyPtr88 : tyPtr Try.prog 88 = true := by kernel_rfl
@[go_sem] theorem tyElem88 : tyElem Try.prog 88 = none := by kernel_rfl
@[go_sem] theorem tyAgg88 : tyAgg Try.prog 88 = some false := by kernel_rfl
@[go_sem] theorem eqTy88 : eqTy Try.prog 88 = none := by kernel_rfl
@[go_sem] theorem fi90_0 : fieldInfo Try.prog 90 0 = some (0, 88) := by kernel_rfl
@[go_sem] theorem fi90_2 : fieldInfo Try.prog 90 2 = some (2, 3) := by kernel_rfl
@[go_sem] theorem tyStr98 : tyStr Try.prog 98 = false := by kernel_rfl
@[go_sem] theorem tyBool98 : tyBool Try.prog 98 = false := by kernel_rfl
@[go_sem] theorem tyPtr98 : tyPtr Try.prog 98 = false := by kernel_rfl
@[go_sem] theorem tyElem98 : tyElem Try.prog 98 = none := by kernel_rfl
@[go_sem] theorem tyAgg98 : tyAgg Try.prog 98 = some false := by kernel_rfl
@[go_sem] theorem tyInt98 : tyInt Try.prog 98 = some .u64 := by kernel_rfl
@[go_sem] theorem eqTy98 : eqTy Try.prog 98 = none := by kernel_rfl
@[go_sem] theorem fi101_0 : fieldInfo Try.prog 101 0 = some (0, 69) := by kernel_rfl
@[go_sem] theorem fi101_1 : fieldInfo Try.prog 101 1 = some (7, 88) := by kernel_rfl
@[go_sem] theorem fi101_2 : fieldInfo Try.prog 101 2 = some (8, 88) := by kernel_rfl
@[go_sem] theorem fi101_4 : fieldInfo Try.prog 101 4 = some (10, 3) := by kernel_rfl
@[go_sem] theorem fi101_5 : fieldInfo Try.prog 101 5 = some (11, 23) := by kernel_rfl
@[go_sem] theorem fi101_6 : fieldInfo Try.prog 101 6 = some (12, 23) := by kernel_rfl
@[go_sem] theorem tyElem104 : tyElem Try.prog 104 = some 5 := by kernel_rfl
@[go_sem] theorem tySize104 : tySize Try.prog 104 = some 1 := by kernel_rfl
@[go_sem] theorem tyAgg104 : tyAgg Try.prog 104 = some false := by kernel_rfl
@[go_sem] theorem zeroA104 : zeroA Try.prog 104 = some .nils := by kernel_rfl
@[go_sem] theorem tyElem119 : tyElem Try.prog 119 = some 104 := by kernel_rfl
@[go_sem] theorem tyElem142 : tyElem Try.prog 142 = some 3 := by kernel_rfl
@[go_sem] theorem zeroOK5 : zeroOK Try.prog 5 1 = true := by kernel_rfl
@[go_sem] theorem zeroOK9 : zeroOK Try.prog 9 1 = true := by kernel_rfl
@[go_sem] theorem zeroOK41 : zeroOK Try.prog 41 3 = true := by kernel_rfl
@[go_sem] theorem zeroOK43 : zeroOK Try.prog 43 4 = true := by kernel_rfl
@[go_sem] theorem zeroOK69 : zeroOK Try.prog 69 7 = true := by kernel_rfl
@[go_sem] theorem zeroOK73 : zeroOK Try.prog 73 5 = true := by kernel_rfl
end Go.Proofs.Ytjnpfbohnpjckaa
namespace Go.Abs
open Go.RowKit
theorem RepL_iff {E : Env} : ∀ {cs : List A} {vs : List Value}, RepL E cs vs ↔ cs.length = vs.length ∧ ∀ (i : Nat) (x : A) (v : Value), cs[i]? = some x → vs[i]? = some v → Rep E x v
  | [], vs => by
    simp only [RepL]
    constructor
    · rintro rfl; exact ⟨rfl, fun i x v h => by simp at h⟩
    · rintro ⟨h, _⟩; exact List.length_eq_zero_iff.1 h.symm
  | c :: cs, vs => by
    simp only [RepL]
    constructor
    · rintro ⟨v, vs', rfl, hc, hl⟩
      obtain ⟨h1, h2⟩ := RepL_iff.1 hl
      refine ⟨by simp [h1], fun i x u hx hu => ?_⟩
      cases i with
      | zero => simp at hx hu; subst hx; subst hu; exact hc
      | succ i => exact h2 i x u (by simpa using hx) (by simpa using hu)
    · rintro ⟨h1, h2⟩
      cases vs with
      | nil => simp at h1
      | cons v vs => exact ⟨v, vs, rfl, h2 0 c v rfl rfl, RepL_iff.2 ⟨by simpa using h1, fun i x u hx hu => h2 (i + 1) x u (by simpa using hx) (by simpa using hu)⟩⟩
theorem RepM_iff {E : Env} {b : Nat} : ∀ {cs : List A} {off : Nat}, RepM E b off cs ↔ ∀ (i : Nat) (x : A), cs[i]? = some x → ∃ v, E.w.cell? ⟨b, off + i, none⟩ = some v ∧ v.oneCell' = true ∧ Rep E x v
  | [], off => by simp [RepM]
  | c :: cs, off => by
    simp only [RepM]
    constructor
    · rintro ⟨h1, h2⟩ i x hx
      cases i with
      | zero => simp at hx; subst hx; simpa using h1
      | succ i =>
        have := RepM_iff.1 h2 i x (by simpa using hx)
        rwa [show off + 1 + i = off + (i + 1) by omega] at this
    · intro h
      refine ⟨by simpa using h 0 c rfl, RepM_iff.2 fun i x hx => ?_⟩
      have := h (i + 1) x (by simpa using hx)
      rwa [show off + (i + 1) = off + 1 + i by omega] at this
theorem RepM_one {E : Env} {b off : Nat} {x : A} : RepM E b off [x] ↔ ∃ v, E.w.cell? ⟨b, off, none⟩ = some v ∧ v.oneCell' = true ∧ Rep E x v := by
  simp [RepM]
theorem RepE_cons {E : Env} {k b off : Nat} {e : A} {es : List A} : RepE E k b off (e :: es) ↔ (e.cells.length = k ∧ RepM E b off e.cells) ∧ RepE E k b (off + k) es := by
  cases e
  case agg cs => rw [RepE_agg]; simp [A.cells]
  all_goals
    simp only [RepE, A.cells, RepM, List.length_cons, List.length_nil, Nat.zero_add, and_true]
    constructor
    · rintro ⟨⟨h1, h2⟩, h3⟩; exact ⟨⟨h1.symm, h2⟩, h3⟩
    · rintro ⟨⟨h1, h2⟩, h3⟩; exact ⟨⟨h1.symm, h2⟩, h3⟩
theorem RepE_iff {E : Env} {k b : Nat} : ∀ {es : List A} {off : Nat}, RepE E k b off es ↔ ∀ (i : Nat) (e : A), es[i]? = some e → e.cells.length = k ∧ RepM E b (off + i * k) e.cells
  | [], off => by simp [RepE]
  | e :: es, off => by
    rw [RepE_cons]
    constructor
    · rintro ⟨h1, h2⟩ i x hx
      cases i with
      | zero => simp at hx; subst hx; simpa using h1
      | succ i =>
        have := RepE_iff.1 h2 i x (by simpa using hx)
        rwa [show off + k + i * k = off + (i + 1) * k by rw [Nat.add_mul]; omega] at this
    · intro h
      refine ⟨by simpa using h 0 e rfl, RepE_iff.2 fun i x hx => ?_⟩
      have := h (i + 1) x (by simpa using hx)
      rwa [show off + (i + 1) * k = off + k + i * k by rw [Nat.add_mul]; omega] at this
theorem RepM_drop {E : Env} {b off n : Nat} {cs : List A} (h : RepM E b off cs) : RepM E b (off + n) (cs.drop n) :=
  RepM_iff.2 fun i x hx => by
    have := RepM_iff.1 h (n + i) x (by simpa [List.getElem?_drop] using hx)
    rwa [show off + (n + i) = off + n + i by omega] at this
theorem RepM_take {E : Env} {b off n : Nat} {cs : List A} (h : RepM E b off cs) : RepM E b off (cs.take n) :=
  RepM_iff.2 fun i x hx => RepM_iff.1 h i x (by
    rw [List.getElem?_take] at hx
    split at hx
    · exact hx
    · simp at hx)
theorem RepE_drop {E : Env} {k b off n : Nat} {es : List A} (h : RepE E k b off es) : RepE E k b (off + n * k) (es.drop n) :=
  RepE_iff.2 fun i x hx => by
    have := RepE_iff.1 h (n + i) x (by simpa [List.getElem?_drop] using hx)
    rwa [show off + (n + i) * k = off + n * k + i * k by rw [Nat.add_mul]; omega] at this
theorem RepE_take {E : Env} {k b off n : Nat} {es : List A} (h : RepE E k b off es) : RepE E k b off (es.take n) :=
  RepE_iff.2 fun i x hx => RepE_iff.1 h i x (by
    rw [List.getElem?_take] at hx
    split at hx
    · exact hx
    · simp at hx)
theorem RepM_vals {E : Env} {b : Nat} : ∀ {cs : List A} {off : Nat}, RepM E b off cs → ∃ vs : List Value, E.w.rangeAt b off vs ∧ RepL E cs vs ∧ ∀ u ∈ vs, u.oneCell' = true
  | [], off, _ => ⟨[], fun j v h => by simp at h, by simp [RepL], by simp⟩
  | c :: cs, off, h => by
    simp only [RepM] at h
    obtain ⟨⟨v, hv, h1, hc⟩, hl⟩ := h
    obtain ⟨vs, hr, hL, hone⟩ := RepM_vals hl
    refine ⟨v :: vs, fun j u hu => ?_, by simp only [RepL]; exact ⟨v, vs, rfl, hc, hL⟩, ?_⟩
    · cases j with
      | zero => simp at hu; subst hu; simpa using hv
      | succ j =>
        have := hr j u (by simpa using hu)
        rwa [show off + 1 + j = off + (j + 1) by omega] at this
    · intro u hu
      rcases List.mem_cons.1 hu with rfl | hu
      · exact h1
      · exact hone u hu
theorem RepM_of_vals {E : Env} {b : Nat} : ∀ {cs : List A} {off : Nat} {vs : List Value}, E.w.rangeAt b off vs → RepL E cs vs → (∀ u ∈ vs, u.oneCell' = true) → RepM E b off cs := by
  intro cs off vs hr hL h1
  obtain ⟨hlen, hrep⟩ := RepL_iff.1 hL
  refine RepM_iff.2 fun i x hx => ?_
  have hi : i < vs.length := by rw [← hlen]; exact (List.getElem?_eq_some_iff.1 hx).1
  have hv : vs[i]? = some vs[i] := List.getElem?_eq_getElem hi
  exact ⟨vs[i], hr i _ hv, h1 _ (List.getElem_mem hi), hrep i x _ hx hv⟩
theorem RepL_take {E : Env} {n : Nat} : ∀ {cs : List A} {vs : List Value}, RepL E cs vs → RepL E (cs.take n) (vs.take n) := by
  intro cs vs h
  obtain ⟨h1, h2⟩ := RepL_iff.1 h
  refine RepL_iff.2 ⟨by simp [h1], fun i x v hx hv => ?_⟩
  rw [List.getElem?_take] at hx hv
  split at hx
  · rename_i hi; rw [if_pos hi] at hv; exact h2 i x v hx hv
  · simp at hx
theorem RepL_drop {E : Env} {n : Nat} : ∀ {cs : List A} {vs : List Value}, RepL E cs vs → RepL E (cs.drop n) (vs.drop n) := by
  intro cs vs h
  obtain ⟨h1, h2⟩ := RepL_iff.1 h
  refine RepL_iff.2 ⟨by simp [h1], fun i x v hx hv => ?_⟩
  rw [List.getElem?_drop] at hx hv
  exact h2 _ x v hx hv
theorem RepL_append {E : Env} : ∀ {cs ds : List A} {vs us : List Value}, RepL E cs vs → RepL E ds us → RepL E (cs ++ ds) (vs ++ us)
  | [], ds, vs, us, h, h' => by simp only [RepL] at h; subst h; simpa using h'
  | c :: cs, ds, vs, us, h, h' => by
    simp only [RepL] at h
    obtain ⟨v, vs', rfl, hc, hl⟩ := h
    simp only [List.cons_append, RepL]
    exact ⟨v, vs' ++ us, rfl, hc, RepL_append hl h'⟩
theorem Rep_cells {E : Env} {x : A} {v : Value} (h : Rep E x v) (hv : x.val = true) : RepL E x.cells v.cells.toList ∧ (∀ u ∈ v.cells.toList, u.oneCell' = true) ∧ v.cells.size = x.cells.length := by
  cases x
  case any => simp [A.val] at hv
  case tup => simp [A.val] at hv
  case agg cs =>
    simp only [Rep] at h
    obtain ⟨vs, rfl, hl, h1⟩ := h
    simp only [Value.cells, A.cells]
    exact ⟨by simpa using hl, by simpa using h1, by simpa using (RepL_iff.1 hl).1.symm⟩
  case slc es => 
    have h0 := h
    simp only [Rep] at h
    obtain ⟨_, a, cap, rfl, _⟩ := h
    simp only [Value.cells, A.cells, RepL]
    exact ⟨⟨_, [], rfl, h0, rfl⟩, by simp [Value.oneCell'], rfl⟩
  case clip es => 
    have h0 := h
    simp only [Rep] at h
    obtain ⟨_, a, rfl, _⟩ := h
    simp only [Value.cells, A.cells, RepL]
    exact ⟨⟨_, [], rfl, h0, rfl⟩, by simp [Value.oneCell'], rfl⟩
  case dptr es => 
    have h0 := h
    simp only [Rep] at h
    obtain ⟨_, a, off, rfl, _⟩ := h
    simp only [Value.cells, A.cells, RepL]
    exact ⟨⟨_, [], rfl, h0, rfl⟩, by simp [Value.oneCell'], rfl⟩
  case emp c =>
    have h0 := h
    simp only [Rep] at h
    obtain ⟨q, cap, rfl, _⟩ := h
    simp only [Value.cells, A.cells, RepL]
    exact ⟨⟨_, [], rfl, h0, rfl⟩, by simp [Value.oneCell'], rfl⟩
  case ref n off => 
    have h0 := h
    simp only [Rep] at h
    obtain ⟨b, k, _, rfl⟩ := h
    simp only [Value.cells, A.cells, RepL]
    exact ⟨⟨_, [], rfl, h0, rfl⟩, by simp [Value.oneCell'], rfl⟩
  case eref n i off => 
    have h0 := h
    simp only [Rep] at h
    obtain ⟨b, k, _, rfl⟩ := h
    simp only [Value.cells, A.cells, RepL]
    exact ⟨⟨_, [], rfl, h0, rfl⟩, by simp [Value.oneCell'], rfl⟩
  case row n off k len c => 
    have h0 := h
    simp only [Rep] at h
    rcases h with ⟨o, _, _, _, _, a, rfl⟩ | ⟨b, cap, c, e, fr, _, rfl, _⟩
    all_goals
      simp only [Value.cells, A.cells, RepL]
      exact ⟨⟨_, [], rfl, h0, rfl⟩, by simp [Value.oneCell'], rfl⟩
  case fn f cs =>
    have h0 := h
    simp only [Rep] at h
    obtain ⟨vs, rfl, _⟩ := h
    simp only [Value.cells, A.cells, RepL]
    exact ⟨⟨_, [], rfl, h0, rfl⟩, by simp [Value.oneCell'], rfl⟩
  all_goals
    have h0 := h
    simp only [Rep] at h
    subst h
    simp only [Value.cells, A.cells, RepL]
    exact ⟨⟨_, [], rfl, h0, rfl⟩, by simp [Value.oneCell'], rfl⟩
def Unfrozen (k : Nat) (c : Array Value) (fr : Nat × Nat) : Prop := (∀ j, j < c.size → ¬ (fr.1 ≤ j ∧ j < fr.2)) ∧ (k ≠ 1 → ¬ (fr.1 ≤ c.size ∧ c.size < fr.2))
def ObjRel (E : Env) : Obj → Own → Prop
  | .box cs, .loc b _ => (∃ c e fr, E.w.heap[b]? = some (.cells c e fr) ∧ Unfrozen 0 c fr) ∧ RepM E b 0 cs
  | .row k es, .loc b k' => k = k' ∧ A.pure.pureL es = true ∧ (∃ c e fr, E.w.heap[b]? = some (.cells c e fr) ∧ Unfrozen k c fr) ∧ RepE E k b 0 es
  | .row _ es, .nil => es = []
  | .row k es, .free => k = 0 ∧ es = []
  | .box _, _ => False
def envOf (N0 : Nat → Prop) (φ : List Own) (w : World) : Env := ⟨fun b => N0 b ∨ ∃ n k : Nat, φ[n]? = some (Own.loc b k), φ, w⟩
structure Base extends World where
  M : Nat → Prop
  fix : Nat → Bool
  φ0 : List Own
structure Kept (w0 : Base) (w : World) : Prop where
  os : w.os = w0.os
  tape : w.tape = w0.tape
  output : w.output = w0.output
  drawn : DR → w0.drawn ≤ w.drawn
  size : w0.heap.size ≤ w.heap.size
  block : ∀ b, b < w0.heap.size → ¬ w0.M b → w.heap[b]? = w0.heap[b]?
  shape : ∀ (b : Nat) (c : Array Value) (e : TypeId) (fr : Nat × Nat), w0.heap[b]? = some (.cells c e fr) → ∃ c' fr', w.heap[b]? = some (.cells c' e fr') ∧ c'.size = c.size
structure Conc (N0 : Nat → Prop) (w0 : Base) (nt : Nat) (σ : St) (φ : List Own) (a : Act) (w : World) : Prop where
  slots : ∀ d, Rep (envOf N0 φ w) (look σ.s d) (a.tmps.getD d undef)
  size : a.tmps.size = nt
  defers : a.defers = []
  len : φ.length = σ.H.length
  objs : ∀ (n : Nat) (o : Obj) (p : Own), nthO σ.H n = some o → φ[n]? = some p → ObjRel (envOf N0 φ w) o p
  own : ∀ n b k : Nat, φ[n]? = some (Own.loc b k) → (w0.heap.size ≤ b ∨ w0.M b) ∧ b < w.heap.size
  inj : ∀ n m b k k' : Nat, φ[n]? = some (Own.loc b k) → φ[m]? = some (Own.loc b k') → n = m
  n0 : ∀ b, N0 b → b < w0.heap.size ∧ ¬ w0.M b
  fixd : ∀ (n : Nat) (p : Own), w0.fix n = true → w0.φ0[n]? = some p → p ≠ .free → φ[n]? = some p
  below : Kept w0 w
theorem nthO_eq : ∀ (H : List Obj) (n : Nat), nthO H n = H[n]?
  | [], n => by simp [nthO]
  | x :: xs, 0 => by simp [nthO]
  | x :: xs, n + 1 => by simp [nthO, nthO_eq xs n]
theorem setO_eq : ∀ (H : List Obj) (n : Nat) (o : Obj), setO H n o = H.set n o
  | [], n, o => by simp [setO]
  | x :: xs, 0, o => by simp [setO]
  | x :: xs, n + 1, o => by simp [setO, setO_eq xs n o]
theorem setNth_eq : ∀ (H : List A) (n : Nat) (o : A), setNth H n o = H.set n o
  | [], n, o => by simp [setNth]
  | x :: xs, 0, o => by simp [setNth]
  | x :: xs, n + 1, o => by simp [setNth, setNth_eq xs n o]
section
variable {N0 : Nat → Prop} {w0 : Base} {nt : Nat} {σ : St} {φ : List Own} {a : Act} {w : World}
theorem ObjRel.mono {K : Nat → Prop} {E E' : Env} (h : Ext K E E') {o : Obj} {p : Own} (hr : ObjRel E o p) (hp : ∀ b k, p = Own.loc b k → ∀ c e fr, E.w.heap[b]? = some (.cells c e fr) → E'.w.heap[b]? = some (.cells c e fr))
    (hk : ∀ cs, o = .box cs → ∀ n, A.mem.memL n cs = true → K n) : ObjRel E' o p := by
  cases o with
  | box cs =>
    cases p with
    | loc b k =>
      simp only [ObjRel] at hr ⊢
      obtain ⟨⟨c, e, fr, hc, hf⟩, hm⟩ := hr
      have hc' := hp b k rfl c e fr hc
      refine ⟨⟨c, e, fr, hc', hf⟩, RepM_iff.2 fun i x hx => ?_⟩
      obtain ⟨v, hv, h1, hrep⟩ := RepM_iff.1 hm i x hx
      refine ⟨v, by simpa only [World.cell?, hc, hc'] using hv, h1, Rep.mono h x v hrep fun n hn => hk cs rfl n ?_⟩
      have hmem := List.mem_of_getElem? hx
      clear hx hm hk
      induction cs with
      | nil => simp at hmem
      | cons y ys ih =>
        rcases List.mem_cons.1 hmem with rfl | hm'
        · simp [A.mem.memL, hn]
        · simp [A.mem.memL, ih hm']
    | _ => simp [ObjRel] at hr
  | row k es =>
    cases p with
    | loc b k' =>
      simp only [ObjRel] at hr ⊢
      obtain ⟨hkk, hp', ⟨c, e, fr, hc, hf⟩, hm⟩ := hr
      have hc' := hp b k' rfl c e fr hc
      refine ⟨hkk, hp', ⟨c, e, fr, hc', hf⟩, RepE_iff.2 fun i x hx => ?_⟩
      obtain ⟨hl, hmm⟩ := RepE_iff.1 hm i x hx
      refine ⟨hl, RepM_iff.2 fun j y hy => ?_⟩
      obtain ⟨v, hv, h1, hrep⟩ := RepM_iff.1 hmm j y hy
      refine ⟨v, by simpa only [World.cell?, hc, hc'] using hv, h1, Rep.mono h y v hrep fun n hn => ?_⟩
      exfalso
      have hpx : x.pure = true := by
        have hmem := List.mem_of_getElem? hx
        clear hx hm hk
        induction es with
        | nil => simp at hmem
        | cons z zs ih =>
          simp only [A.pure.pureL, Bool.and_eq_true] at hp'
          rcases List.mem_cons.1 hmem with rfl | hm'
          · exact hp'.1
          · exact ih hp'.2 hm'
      have hpy : y.pure = true := by
        have hmem := List.mem_of_getElem? hy
        cases x
        case agg cs =>
          simp only [A.pure] at hpx
          simp only [A.cells] at hmem
          clear hy hmm hl hx
          induction cs with
          | nil => simp at hmem
          | cons z zs ih =>
            simp only [A.pure.pureL, Bool.and_eq_true] at hpx
            rcases List.mem_cons.1 hmem with rfl | hm'
            · exact hpx.1
            · exact ih hpx.2 hm'
        all_goals
          simp only [A.cells, List.mem_singleton] at hmem
          subst hmem
          exact hpx
      rw [A.mem_of_pure n y hpy] at hn
      cases hn
    | nil => simpa only [ObjRel] using hr
    | free => simpa only [ObjRel] using hr
structure Grew (w w' : World) : Prop where
  size : w.heap.size ≤ w'.heap.size
  block : ∀ b, b < w.heap.size → w'.heap[b]? = w.heap[b]?
  os : w'.os = w.os
  tape : w'.tape = w.tape
  output : w'.output = w.output
  drawn : DR → w.drawn ≤ w'.drawn
theorem Grew.refl (w : World) : Grew w w := ⟨Nat.le_refl _, fun _ _ => rfl, rfl, rfl, rfl, fun _ => Nat.le_refl _⟩
theorem Grew.trans {w w' w'' : World} (h : Grew w w') (h' : Grew w' w'') : Grew w w'' :=
  ⟨Nat.le_trans h.size h'.size, fun b hb => (h'.block b (Nat.lt_of_lt_of_le hb h.size)).trans (h.block b hb), h'.os.trans h.os, h'.tape.trans h.tape, h'.output.trans h.output, fun hd => Nat.le_trans (h.drawn hd) (h'.drawn hd)⟩
theorem Grew.alloc (w : World) (o : Go.Obj) : Grew w (w.alloc o) := ⟨by simp, fun b hb => Below.heap_alloc w o b hb, rfl, rfl, rfl, fun _ => Nat.le_refl _⟩
theorem Grew.drew (w : World) : Grew w w.drew := ⟨Nat.le_refl _, fun _ _ => rfl, rfl, rfl, rfl, fun _ => Nat.le_succ _⟩
theorem Grew.toBelow {w w' : World} (g : Grew w w') : Below w.heap.size w w' := ⟨g.os, g.tape, g.output, g.size, g.block⟩
theorem Kept.refl (w0 : Base) : Kept w0 w0.toWorld := ⟨rfl, rfl, rfl, fun _ => Nat.le_refl _, Nat.le_refl _, fun _ _ _ => rfl, fun _ c _ fr h => ⟨c, fr, h, rfl⟩⟩
theorem Grew.below {w0 : Base} {w w' : World} (h : Kept w0 w) (g : Grew w w') : Kept w0 w' where
  os := g.os.trans h.os
  tape := g.tape.trans h.tape
  output := g.output.trans h.output
  drawn := fun hd => Nat.le_trans (h.drawn hd) (g.drawn hd)
  size := Nat.le_trans h.size g.size
  block := fun b hb hM => (g.block b (Nat.lt_of_lt_of_le hb h.size)).trans (h.block b hb hM)
  shape := fun b c e fr hc => by
    obtain ⟨c', fr', h1, h2⟩ := h.shape b c e fr hc
    have hb : b < w.heap.size := (Array.getElem?_eq_some_iff.1 h1).1
    exact ⟨c', fr', by rw [g.block b hb]; exact h1, h2⟩
theorem Conc.ext_grew (h : Conc N0 w0 nt σ φ a w) {w' : World} (g : Grew w w') : Ext (fun _ => True) (envOf N0 φ w) (envOf N0 φ w') where
  size := g.size
  blk := fun b hb hn => ⟨hn, g.block b hb⟩
  refs := fun n o _ ho _ => ho
  own := fun n b k c e fr _ ho hc => ⟨c, fr, by
    have := (h.own n b k ho).2
    show w'.heap[b]? = _
    rw [g.block b this]; exact hc, rfl⟩
theorem Conc.grew (h : Conc N0 w0 nt σ φ a w) {w' : World} (g : Grew w w') : Conc N0 w0 nt σ φ a w' where
  slots := fun d => Rep.mono (h.ext_grew g) _ _ (h.slots d) (fun _ _ => trivial)
  size := h.size
  defers := h.defers
  len := h.len
  objs := fun n o p ho hp => ObjRel.mono (h.ext_grew g) (h.objs n o p ho hp) (fun b k hb c e fr hc => by
    subst hb
    show w'.heap[b]? = _
    rw [g.block b (h.own n b k hp).2]; exact hc) (fun _ _ _ _ => trivial)
  own := fun n b k hb => ⟨(h.own n b k hb).1, Nat.lt_of_lt_of_le (h.own n b k hb).2 g.size⟩
  inj := h.inj
  n0 := h.n0
  fixd := h.fixd
  below := g.below h.below
theorem Conc.rep_grew (h : Conc N0 w0 nt σ φ a w) {w' : World} (g : Grew w w') {x : A} {v : Value} (hr : Rep (envOf N0 φ w) x v) : Rep (envOf N0 φ w') x v :=
  Rep.mono (h.ext_grew g) x v hr (fun _ _ => trivial)
theorem getD_put {a : Act} {d : Nat} {v : Value} (hd : d < a.tmps.size) (t : Nat) : (a.put (some d) v).tmps.getD t undef = if d = t then v else a.tmps.getD t undef := by
  simp only [Act.put]
  by_cases ht : d = t
  · subst ht; simp [Array.getD, hd]
  · rw [if_neg ht]
    simp only [Array.getD_eq_getD_getElem?, Array.getElem?_setIfInBounds]
    rw [if_neg ht]
theorem Conc.put (h : Conc N0 w0 nt σ φ a w) {d : Option Tmp} (hd : ∀ t, d = some t → t < nt) {x : A} {v : Value} (hr : Rep (envOf N0 φ w) x v) :
    Conc N0 w0 nt (σ.put d x) φ (a.put d v) w := by
  cases d with
  | none => exact h
  | some d =>
    have hd' : d < a.tmps.size := by rw [h.size]; exact hd d rfl
    exact { h with
      slots := fun t => by
        rw [getD_put hd' t]
        show Rep _ (look ((d, x) :: σ.s) t) _
        simp only [look]
        split
        · exact hr
        · exact h.slots t
      size := by simp only [Act.put, Array.size_setIfInBounds]; exact h.size
      defers := h.defers }
theorem rep_undef (E : Env) : Rep E (.tup []) undef := by simp [Rep, RepL, undef]
theorem Rep_toA1 (E : Env) (v : Value) : Rep E (toA1 v) v := by
  unfold toA1
  split <;> first
    | (simp only [Rep]; done)
    | (simp [Rep, RepL]; done)
    | (simp only [Rep]; exact ⟨[], rfl, by simp [RepL]⟩)
theorem Rep_toA (E : Env) (v : Value) : Rep E (toA v) v := by
  unfold toA
  split
  · rename_i cs
    split
    · rename_i hall
      simp only [Rep]
      refine ⟨cs, rfl, RepL_iff.2 ⟨by simp, fun i x u hx hu => ?_⟩, fun u hu => List.all_eq_true.1 hall u hu⟩
      rw [List.getElem?_map, hu] at hx
      simp at hx
      subst hx
      exact Rep_toA1 E u
    · simp only [Rep]
  · exact Rep_toA1 E v
theorem Conc.ev (h : Conc N0 w0 nt σ φ a w) (x : Operand) : Rep (envOf N0 φ w) (σ.ev x) (a.eval x) := by
  match x with
  | .tmp t => exact h.slots t
  | .const v => exact Rep_toA _ v
  | .func f => simp only [St.ev, Act.eval, Rep]; exact ⟨[], rfl, by simp [RepL]⟩
  | .global g => simp only [St.ev, Rep]
end
end Go.Abs
namespace Go.Abs
open Go.RowKit
section
variable {P : Program} {w : World}
theorem tyAgg_true {t : TypeId} (h : tyAgg P t = some true) : ∃ d, P.underlying t = some d ∧ d.isRow = true := by
  unfold tyAgg at h
  split at h <;> first
    | (rename_i hu; exact ⟨_, hu, rfl⟩)
    | simp at h
theorem tyAgg_false {t : TypeId} (h : tyAgg P t = some false) : ∃ d, P.underlying t = some d ∧ d.isRow = false := by
  unfold tyAgg at h
  split at h
  · simp at h
  · simp at h
  · rename_i d h1 h2 hu
    refine ⟨d, hu, ?_⟩
    cases d <;> first | rfl | (exact (h1 _ rfl).elim) | (exact (h2 _ _ rfl).elim)
  · simp at h
theorem run_isAgg_true {t : TypeId} (h : tyAgg P t = some true) : (isAgg t).run P w = .ok true w := by
  obtain ⟨d, hu, hd⟩ := tyAgg_true h
  unfold isAgg
  rw [Sem.run_bind, run_underlying hu w]
  cases d <;> simp_all
theorem run_isAgg_false {t : TypeId} (h : tyAgg P t = some false) : (isAgg t).run P w = .ok false w := by
  obtain ⟨d, hu, hd⟩ := tyAgg_false h
  unfold isAgg
  rw [Sem.run_bind, run_underlying hu w]
  cases d <;> simp_all
theorem run_sizeOf {t n : Nat} (h : tySize P t = some n) : (sizeOf t).run P w = .ok n w := by
  unfold tySize at h
  cases hq : P.info? t with
  | none => simp [hq] at h
  | some i => simp [hq] at h; simp [sizeOf, typeInfo, hq, h]
theorem tyElem_eq {t e : Nat} (h : tyElem P t = some e) : P.underlying t = some (.slice e) := by
  unfold tyElem at h
  split at h
  · rename_i hu; simp at h; subst h; exact hu
  · simp at h
theorem tyArr_eq {t n e : Nat} (h : tyArr P t = some (n, e)) : P.underlying t = some (.array n e) := by
  unfold tyArr at h
  split at h
  · rename_i hu; simp at h; obtain ⟨rfl, rfl⟩ := h; exact hu
  · simp at h
theorem tyStr_eq {t : Nat} (h : tyStr P t = true) : P.underlying t = some .string := by
  unfold tyStr at h
  split at h
  · assumption
  · simp at h
theorem tyInt_eq {t : Nat} {k : IntKind} (h : tyInt P t = some k) : P.underlying t = some (.int k) := by
  unfold tyInt at h
  split at h
  · rename_i hu; simp at h; subst h; exact hu
  · simp at h
theorem tyPtr_eq {t : Nat} (h : tyPtr P t = true) : ∃ e, P.underlying t = some (.pointer e) := by
  unfold tyPtr at h
  split at h
  · rename_i e hu; exact ⟨e, hu⟩
  · simp at h
theorem fieldInfo_eq {s f o t : Nat} (h : fieldInfo P s f = some (o, t)) :
    ∃ fs x n, P.underlying s = some (.struct fs) ∧ fs[f]? = some x ∧ x.offset = o ∧ x.type = t ∧ tySize P t = some n ∧ n ≠ 0 := by
  unfold fieldInfo at h
  split at h
  · rename_i fs hu
    cases hx : fs[f]? with
    | none => simp [hx] at h
    | some x =>
      simp only [hx, Option.bind_some] at h
      split at h
      · simp at h
      · rename_i h0
        split at h
        · simp at h
        · rename_i h1
          simp at h
          obtain ⟨rfl, rfl⟩ := h
          cases hs : tySize P x.type with
          | none => simp [hs] at h1
          | some n => exact ⟨fs, x, n, hu, hx, rfl, rfl, rfl, fun hn => h0 (by rw [hs, hn])⟩
  · simp at h
theorem run_v {s : Sem Value} {v : Value} {w' : World} (h : s.run P w = .ok v w') : (do pure (Next.value (← s)) : Sem Next).run P w = .ok (.value v) w' := by
  simp [h]
theorem run_u {s : Sem Unit} {w' : World} (h : s.run P w = .ok () w') : (do s; pure Next.skip : Sem Next).run P w = .ok .skip w' := by
  simp [h]
end
def Good (P : Program) (o : Oper) (a : Act) (w : World) (N0 : Nat → Prop) (φ : List Own) (x : A) : Prop :=
  ∃ v w', (Go.execOp a.eval o).run P w = .ok (.value v) w' ∧ Grew w w' ∧ Rep (envOf N0 φ w') x v
section
variable {P : Program} {N0 : Nat → Prop} {w0 : Base} {nt : Nat} {σ : St} {φ : List Own} {a : Act} {w : World}
theorem good_same {o : Oper} {s : Sem Value} {x : A} {v : Value} (ho : Go.execOp a.eval o = (do pure (Next.value (← s)))) (hr : s.run P w = .ok v w) (h : Rep (envOf N0 φ w) x v) : Good P o a w N0 φ x :=
  ⟨v, w, by rw [ho]; exact run_v hr, Grew.refl w, h⟩
theorem run_builtin {b : Builtin} {xs : List Operand} {us : Array TypeId} {d : Option Tmp} {t : TypeId} {p : String} {af : Array Edge} {g : Option (Nat × Bool)} :
    ∃ cs, (Go.execOp a.eval ⟨d, .call ⟨.builtin b, ⟨xs⟩, us⟩, t, p, af, g⟩).run P w = (builtin b us t cs (xs.map a.eval).toArray).run P w := by
  refine ⟨xs.toArray.map fun | .const _ => true | _ => false, ?_⟩
  simp only [Go.execOp, resolve, invoke, Sem.run_bind, Sem.run_pure, Result.andThen_ok]
  rw [← List.map_toArray]
  rfl
theorem good_builtin {b : Builtin} {xs : List Operand} {us : Array TypeId} {d : Option Tmp} {t : TypeId} {p : String} {af : Array Edge} {g : Option (Nat × Bool)} {s : Sem Value} {x : A} {v : Value}
    (ho : ∀ cs, builtin b us t cs (xs.map a.eval).toArray = (do pure (Next.value (← s)))) (hr : s.run P w = .ok v w) (h : Rep (envOf N0 φ w) x v) : Good P ⟨d, .call ⟨.builtin b, ⟨xs⟩, us⟩, t, p, af, g⟩ a w N0 φ x := by
  obtain ⟨cs, hcs⟩ := run_builtin (P := P) (a := a) (w := w) (b := b) (xs := xs) (us := us) (d := d) (t := t) (p := p) (af := af) (g := g)
  exact ⟨v, w, by rw [hcs, ho]; exact run_v hr, Grew.refl w, h⟩
theorem size_mk (s : List UInt8) : (⟨s.toArray⟩ : ByteArray).size = s.length := rfl
theorem rep_int {E : Env} {k : IntKind} {n : Int} {v : Value} (h : Rep E (.int k n) v) : v = .int k n := by simpa only [Rep] using h
theorem rep_bool {E : Env} {b : Bool} {v : Value} (h : Rep E (.bool b) v) : v = .bool b := by simpa only [Rep] using h
theorem rep_str {E : Env} {s : List UInt8} {v : Value} (h : Rep E (.str s) v) : v = .string ⟨s.toArray⟩ := by simpa only [Rep] using h
theorem good_move (h : Conc N0 w0 nt σ φ a w) {d : Option Tmp} {x : Operand} {t : TypeId} {p : String} {af : Array Edge} {g : Option (Nat × Bool)} : Good P ⟨d, .move x, t, p, af, g⟩ a w N0 φ (σ.ev x) :=
  ⟨a.eval x, w, rfl, Grew.refl w, h.ev x⟩
theorem good_assign (h : Conc N0 w0 nt σ φ a w) {d : Option Tmp} {x : Operand} {t : TypeId} {p : String} {af : Array Edge} {g : Option (Nat × Bool)} : Good P ⟨d, .assign x, t, p, af, g⟩ a w N0 φ (σ.ev x) :=
  ⟨a.eval x, w, rfl, Grew.refl w, h.ev x⟩
theorem good_pick (h : Conc N0 w0 nt σ φ a w) {d : Option Tmp} {x y z : Operand} {t : TypeId} {p : String} {af : Array Edge} {g : Option (Nat × Bool)} {r : A}
    (hr : pickA (σ.ev x) (σ.ev y) (σ.ev z) = some r) : Good P ⟨d, .pick x y z, t, p, af, g⟩ a w N0 φ r := by
  cases hc : σ.ev x <;> simp only [hc, pickA] at hr <;> try (simp at hr; done)
  rename_i b
  have hx := h.ev x
  rw [hc] at hx
  have hx' := rep_bool hx
  refine ⟨if b then a.eval y else a.eval z, w, ?_, Grew.refl w, ?_⟩
  · simp [Go.execOp, hx', asBool]
  · simp at hr
    subst hr
    cases b
    · simpa using h.ev z
    · simpa using h.ev y
theorem good_fieldAddr (h : Conc N0 w0 nt σ φ a w) {d : Option Tmp} {x : Operand} {s f : Nat} {t : TypeId} {p : String} {af : Array Edge} {g : Option (Nat × Bool)} {r : A}
    (hr : fieldAddrI (fieldInfo P s f) (σ.ev x) = some r) : Good P ⟨d, .fieldAddr s x f, t, p, af, g⟩ a w N0 φ r := by
  cases hf : fieldInfo P s f with
  | none => simp [hf, fieldAddrI] at hr
  | some q =>
    obtain ⟨o, ft⟩ := q
    rw [hf] at hr
    simp only [fieldAddrI] at hr
    obtain ⟨fs, fx, n, hu, hfx, rfl, rfl, hn, hn0⟩ := fieldInfo_eq hf
    have key : ∀ b off : Nat, a.eval x = .pointer (some ⟨b, off, none⟩) → (Instr.fieldAt s (a.eval x) f).run P w = .ok (.pointer (some ⟨b, off + fx.offset, none⟩)) w := by
      intro b off hx
      have hz : (sizeOf fx.type).run P w = .ok n w := run_sizeOf hn
      simp [Instr.fieldAt, run_underlying hu, hfx, hx, Instr.sureAddr, fieldPlace, hz, hn0, Addr.add_mid]
    have hx := h.ev x
    cases hc : σ.ev x <;> simp only [hc, fieldAddrA] at hr <;> try (simp at hr; done)
    · rename_i cs
      simp at hr
      subst hr
      rw [hc] at hx
      simp only [Rep] at hx
      obtain ⟨hp, b, off, hv, hb, hnb, hm⟩ := hx
      refine good_same rfl (key b off hv) ?_
      simp only [Rep]
      refine ⟨?_, b, off + fx.offset, rfl, hb, hnb, RepM_drop hm⟩
      clear hm hc hv
      generalize fx.offset = m
      induction cs generalizing m with
      | nil => simp [A.pure.pureL]
      | cons y ys ih =>
        simp only [A.pure.pureL, Bool.and_eq_true] at hp
        cases m with
        | zero => simp [A.pure.pureL, hp]
        | succ m => simpa using ih hp.2 m
    · rename_i n' off
      simp at hr
      subst hr
      rw [hc] at hx
      simp only [Rep] at hx
      obtain ⟨b, k, hb, hv⟩ := hx
      refine good_same rfl (key b off hv) ?_
      simp only [Rep]
      exact ⟨b, k, hb, rfl⟩
    · rename_i n' i off
      simp at hr
      subst hr
      rw [hc] at hx
      simp only [Rep] at hx
      obtain ⟨b, k, hb, hv⟩ := hx
      refine good_same rfl (key b (i * k + off) hv) ?_
      simp only [Rep]
      exact ⟨b, k, hb, by rw [Nat.add_assoc]⟩
theorem load_mem {E : Env} {t : TypeId} {cs : List A} {x : A} {b off : Nat} (hm : RepM E b off cs) (hl : loadC P t cs = some x) : ∃ v, (loadVar t ⟨b, off, none⟩).run P E.w = .ok v E.w ∧ Rep E x v ∧ (x.val = true ∨ v.oneCell' = true) := by
  unfold loadC at hl
  split at hl
  · rename_i hag
    split at hl
    · rename_i n hn
      split at hl
      · rename_i hle
        simp at hl
        subst hl
        obtain ⟨vs, hr, hL, h1⟩ := RepM_vals (RepM_take (n := n) hm)
        obtain ⟨d, hu, hd⟩ := tyAgg_true hag
        have hlen : vs.length = n := by rw [← (RepL_iff.1 hL).1]; simp; omega
        refine ⟨.agg vs.toArray, run_loadVar_mid E.w b off t vs d hr hu hd (by unfold tySize at hn; rw [hn, hlen]), ?_, .inl rfl⟩
        simp only [Rep]
        exact ⟨vs, rfl, hL, h1⟩
      · simp at hl
    · simp at hl
  · rename_i hag
    cases cs with
    | nil => simp at hl
    | cons c cs =>
      simp at hl
      subst hl
      simp only [RepM] at hm
      obtain ⟨⟨v, hv, h1, hrep⟩, _⟩ := hm
      exact ⟨v, by simp [loadVar, run_isAgg_false hag, hv], hrep, .inr h1⟩
  · simp at hl
theorem pureL_getElem {es : List A} (h : A.pure.pureL es = true) {i : Nat} {e : A} (hi : es[i]? = some e) : e.pure = true := by
  induction es generalizing i with
  | nil => simp at hi
  | cons z zs ih =>
    simp only [A.pure.pureL, Bool.and_eq_true] at h
    cases i with
    | zero => simp at hi; subst hi; exact h.1
    | succ i => exact ih h.2 (by simpa using hi)
theorem pureL_of {es : List A} (h : ∀ (i : Nat) (e : A), es[i]? = some e → e.pure = true) : A.pure.pureL es = true := by
  induction es with
  | nil => rfl
  | cons z zs ih =>
    simp only [A.pure.pureL, Bool.and_eq_true]
    exact ⟨h 0 z rfl, ih fun i e he => h (i + 1) e (by simpa using he)⟩
theorem pureL_drop {es : List A} {n : Nat} (h : A.pure.pureL es = true) : A.pure.pureL (es.drop n) = true :=
  pureL_of fun i e he => pureL_getElem h (i := n + i) (by simpa [List.getElem?_drop] using he)
theorem pureL_take {es : List A} {n : Nat} (h : A.pure.pureL es = true) : A.pure.pureL (es.take n) = true :=
  pureL_of fun i e he => pureL_getElem h (i := i) (by
    rw [List.getElem?_take] at he
    split at he
    · exact he
    · simp at he)
theorem pure_cells {e : A} (h : e.pure = true) : A.pure.pureL e.cells = true := by
  cases e <;> simp_all [A.pure, A.cells, A.pure.pureL]
theorem good_load (h : Conc N0 w0 nt σ φ a w) {d : Option Tmp} {x : Operand} {s : Nat} {t : TypeId} {p : String} {af : Array Edge} {g : Option (Nat × Bool)} {r : A}
    (hr : loadA P s σ.H (σ.ev x) = some r) : Good P ⟨d, .load s x, t, p, af, g⟩ a w N0 φ r := by
  have hx := h.ev x
  cases hc : σ.ev x <;> simp only [hc, loadA] at hr <;> try (simp at hr; done)
  · rw [hc] at hx
    simp only [Rep] at hx
    obtain ⟨hp, b, off, hv, hb, hnb, hm⟩ := hx
    obtain ⟨v, hv', hrep, _⟩ := load_mem hm hr
    replace hv' : (loadVar s ⟨b, off, none⟩).run P w = .ok v w := hv'
    exact good_same rfl (by rw [hv]; simpa [Instr.loadAt, Instr.sureAddr] using hv') hrep
  · rename_i n off
    rw [hc] at hx
    simp only [Rep] at hx
    obtain ⟨b, k, hb, hv⟩ := hx
    split at hr
    · rename_i cs hcs
      have ho := h.objs n _ _ hcs hb
      simp only [ObjRel] at ho
      have hm := RepM_drop (n := off) ho.2
      obtain ⟨v, hv', hrep, _⟩ := load_mem hm hr
      replace hv' : (loadVar s ⟨b, 0 + off, none⟩).run P w = .ok v w := hv'
      rw [Nat.zero_add] at hv'
      exact good_same rfl (by rw [hv]; simpa [Instr.loadAt, Instr.sureAddr] using hv') hrep
    · simp at hr
  · rename_i n i off
    rw [hc] at hx
    simp only [Rep] at hx
    obtain ⟨b, k, hb, hv⟩ := hx
    split at hr
    · rename_i k' es hcs
      have ho := h.objs n _ _ hcs hb
      simp only [ObjRel] at ho
      obtain ⟨rfl, hpu, hblk, he⟩ := ho
      cases hi : es[i]? with
      | none => simp [hi] at hr
      | some e =>
        simp only [hi, Option.bind_some] at hr
        obtain ⟨hl, hm⟩ := RepE_iff.1 he i e hi
        have hm' := RepM_drop (n := off) hm
        obtain ⟨v, hv', hrep, _⟩ := load_mem hm' hr
        replace hv' : (loadVar s ⟨b, 0 + i * k' + off, none⟩).run P w = .ok v w := hv'
        rw [Nat.zero_add] at hv'
        exact good_same rfl (by rw [hv]; simpa [Instr.loadAt, Instr.sureAddr] using hv') hrep
    · simp at hr
theorem good_nilCheck (h : Conc N0 w0 nt σ φ a w) {d : Option Tmp} {x : Operand} {t : TypeId} {p : String} {af : Array Edge} {g : Option (Nat × Bool)} {r : A}
    (hr : nilCheckA (σ.ev x) = some r) : Good P ⟨d, .nilCheck x, t, p, af, g⟩ a w N0 φ r := by
  have hx := h.ev x
  cases hc : σ.ev x <;> simp only [hc, nilCheckA] at hr <;> try (simp at hr; done)
  all_goals
    simp at hr
    subst hr
    rw [hc] at hx
    refine ⟨a.eval x, w, ?_, Grew.refl w, hx⟩
    simp only [Rep] at hx
  · obtain ⟨hp, b, off, hv, hb, hnb, hm⟩ := hx
    simp [Go.execOp, hv]
  · obtain ⟨b, k, hb, hv⟩ := hx
    simp [Go.execOp, hv]
  · obtain ⟨b, k, hb, hv⟩ := hx
    simp [Go.execOp, hv]
  · obtain ⟨vs, hv, _⟩ := hx
    simp [Go.execOp, hv]
theorem good_makeFunc (h : Conc N0 w0 nt σ φ a w) {d : Option Tmp} {f : Fn} {xs ys : Array Operand} {t : TypeId} {p : String} {af : Array Edge} {g : Option (Nat × Bool)} {r : A}
    (hr : makeFuncA f (σ.evL xs.toList) (σ.evL ys.toList) = some r) : Good P ⟨d, .makeFunc f xs ys, t, p, af, g⟩ a w N0 φ r := by
  cases f <;> simp only [makeFuncA] at hr <;> try (simp at hr; done)
  rename_i f
  cases hxs : σ.evL xs.toList with
  | cons _ _ => simp [hxs] at hr
  | nil =>
    simp only [hxs] at hr
    simp at hr
    subst hr
    have hx0 : xs = #[] := by
      cases hl : xs.toList with
      | nil => exact Array.toList_eq_nil_iff.1 hl
      | cons _ _ => simp [hl, St.evL] at hxs
    subst hx0
    refine ⟨.func (.func f) #[] (ys.map a.eval), w, ?_, Grew.refl w, ?_⟩
    · simp [Go.execOp, Instr.makeFunc]
    · simp only [Rep]
      refine ⟨(ys.map a.eval).toList, rfl, ?_⟩
      simp only [Array.toList_map]
      generalize ys.toList = l
      induction l with
      | nil => simp [St.evL, RepL]
      | cons y l ih => simp only [St.evL, List.map_cons, RepL]; exact ⟨_, _, rfl, h.ev y, ih⟩
theorem good_extract (h : Conc N0 w0 nt σ φ a w) {d : Option Tmp} {x : Operand} {i : Nat} {t : TypeId} {p : String} {af : Array Edge} {g : Option (Nat × Bool)} {r : A}
    (hr : extractA (σ.ev x) i = some r) : Good P ⟨d, .extract x i, t, p, af, g⟩ a w N0 φ r := by
  have hx := h.ev x
  cases hc : σ.ev x <;> simp only [hc, extractA] at hr <;> try (simp at hr; done)
  rename_i cs
  rw [hc] at hx
  simp only [Rep] at hx
  obtain ⟨vs, hv, hl⟩ := hx
  obtain ⟨h1, h2⟩ := RepL_iff.1 hl
  have hi : i < vs.length := by rw [← h1]; exact (List.getElem?_eq_some_iff.1 hr).1
  refine good_same rfl (v := vs[i]) (by rw [hv]; simp [Instr.extract, hi]) (h2 i _ _ hr (List.getElem?_eq_getElem hi))
theorem good_len (h : Conc N0 w0 nt σ φ a w) {d : Option Tmp} {x : Operand} {u : TypeId} {t : TypeId} {p : String} {af : Array Edge} {g : Option (Nat × Bool)} {r : A}
    (hr : lenA P u (σ.ev x) = some r) : Good P ⟨d, .call ⟨.builtin .len, ⟨[x]⟩, ⟨[u]⟩⟩, t, p, af, g⟩ a w N0 φ r := by
  have hx := h.ev x
  have ho : ∀ cs, builtin .len #[u] t cs ([x].map a.eval).toArray = (do pure (Next.value (← Builtin.len_ #[u] t #[a.eval x]))) := fun cs => rfl
  have arr : ∀ n e, tyArr P u = some (n, e) → r = .int .i64 n → Good P ⟨d, .call ⟨.builtin .len, ⟨[x]⟩, ⟨[u]⟩⟩, t, p, af, g⟩ a w N0 φ r := by
    rintro n e hn rfl
    refine good_builtin ho (v := .int .i64 n) ?_ (by simp only [Rep])
    simp [Builtin.len_, run_underlying (tyArr_eq hn), goInt]
  cases hc : σ.ev x <;> simp only [hc, lenA] at hr
  case str s =>
    split at hr
    · rename_i hs
      simp at hr
      subst hr
      rw [hc] at hx
      refine good_builtin ho (v := .int .i64 s.length) ?_ (by simp only [Rep])
      rw [rep_str hx]
      simp [Builtin.len_, run_underlying (tyStr_eq hs), goInt, size_mk]
    · simp at hr
  case slc es =>
    split at hr
    · rename_i hs
      simp at hr
      subst hr
      rw [hc] at hx
      simp only [Rep] at hx
      obtain ⟨_, b, cap, hv, _⟩ := hx
      obtain ⟨e, he⟩ := Option.isSome_iff_exists.1 hs
      refine good_builtin ho (v := .int .i64 es.length) ?_ (by simp only [Rep])
      rw [hv]
      simp [Builtin.len_, run_underlying (tyElem_eq he), goInt]
    · simp at hr
  case clip es =>
    split at hr
    · rename_i hs
      simp at hr
      subst hr
      rw [hc] at hx
      simp only [Rep] at hx
      obtain ⟨_, b, hv, _⟩ := hx
      obtain ⟨e, he⟩ := Option.isSome_iff_exists.1 hs
      refine good_builtin ho (v := .int .i64 es.length) ?_ (by simp only [Rep])
      rw [hv]
      simp [Builtin.len_, run_underlying (tyElem_eq he), goInt]
    · simp at hr
  case nils =>
    split at hr
    · rename_i hs
      simp at hr
      subst hr
      rw [hc] at hx
      simp only [Rep] at hx
      obtain ⟨e, he⟩ := Option.isSome_iff_exists.1 hs
      refine good_builtin ho (v := .int .i64 0) ?_ (by simp only [Rep])
      rw [hx]
      simp [Builtin.len_, run_underlying (tyElem_eq he), goInt]
    · simp at hr
  case row n off k len c =>
    split at hr
    · rename_i hs
      simp at hr
      subst hr
      rw [hc] at hx
      simp only [Rep] at hx
      obtain ⟨e, he⟩ := Option.isSome_iff_exists.1 hs
      refine good_builtin ho (v := .int .i64 len) ?_ (by simp only [Rep])
      rcases hx with ⟨_, _, _, rfl, _, b, hv⟩ | ⟨b, cap, c, e', fr, _, hv, _⟩
      all_goals
        rw [hv]
        simp [Builtin.len_, run_underlying (tyElem_eq he), goInt]
    · simp at hr
  all_goals
    split at hr
    · rename_i n e hn
      simp at hr
      exact arr n e hn hr.symm
    · simp at hr
theorem evalL2 (h : Conc N0 w0 nt σ φ a w) {xs : List Operand} {k k' : IntKind} {m n : Int} (he : σ.evL xs = [.int k m, .int k' n]) : xs.map a.eval = [.int k m, .int k' n] := by
  match xs, he with
  | [x, y], he =>
    simp only [St.evL, List.cons.injEq, and_true] at he
    have h1 := h.ev x
    have h2 := h.ev y
    rw [he.1] at h1
    rw [he.2] at h2
    simp [rep_int h1, rep_int h2]
  | [], he => simp [St.evL] at he
  | [_], he => simp [St.evL] at he
  | _ :: _ :: _ :: _, he => simp [St.evL] at he
theorem good_min (h : Conc N0 w0 nt σ φ a w) {d : Option Tmp} {xs : List Operand} {us : Array TypeId} {t : TypeId} {p : String} {af : Array Edge} {g : Option (Nat × Bool)} {r : A}
    (hr : minA (σ.evL xs) = some r) : Good P ⟨d, .call ⟨.builtin .min, ⟨xs⟩, us⟩, t, p, af, g⟩ a w N0 φ r := by
  unfold minA at hr
  split at hr
  · rename_i k m k' n he
    simp at hr
    subst hr
    have hm := evalL2 h he
    refine good_builtin (s := Builtin.min_ us t (xs.map a.eval).toArray) (fun _ => rfl) (v := .int k (if n < m then n else m)) ?_ (by simp only [Rep])
    simp [Builtin.min_, hm, Builtin.min2]
  · simp at hr
theorem good_max (h : Conc N0 w0 nt σ φ a w) {d : Option Tmp} {xs : List Operand} {us : Array TypeId} {t : TypeId} {p : String} {af : Array Edge} {g : Option (Nat × Bool)} {r : A}
    (hr : maxA (σ.evL xs) = some r) : Good P ⟨d, .call ⟨.builtin .max, ⟨xs⟩, us⟩, t, p, af, g⟩ a w N0 φ r := by
  unfold maxA at hr
  split at hr
  · rename_i k m k' n he
    simp at hr
    subst hr
    have hm := evalL2 h he
    refine good_builtin (s := Builtin.max_ us t (xs.map a.eval).toArray) (fun _ => rfl) (v := .int k (if n > m then n else m)) ?_ (by simp only [Rep])
    simp [Builtin.max_, hm, Builtin.max2]
  · simp at hr
end
end Go.Abs
