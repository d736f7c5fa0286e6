/- The abstract executor: what the model's operations do to abstract states. Definitions alone. -/
import Derived.Test.YtbnmicpgbcfooaaAbsA
namespace Go.Abs

/-- An owned object: the cells of a variable, or the elements of a slice that the call has made. -/
inductive Obj where
  | box (cs : List A)
  | row (k : Nat) (es : List A)

instance : Inhabited Obj := ⟨.row 0 []⟩

/-- The slots that are known (the newest first), and the owned objects. -/
structure St where
  s : List (Nat × A)
  H : List Obj

def toA1 : Value → A
  | .int k n => .int k n
  | .bool b => .bool b
  | .string s => .str s.data.toList
  | .slice none 0 0 => .nils
  | .pointer none => .nilp
  | .func (.func f) ⟨[]⟩ ⟨[]⟩ => .fn f []
  | .tuple ⟨[]⟩ => .tup []
  | _ => .any

def toA : Value → A
  | .agg ⟨cs⟩ => if cs.all (·.oneCell') then .agg (cs.map toA1) else .any
  | v => toA1 v

def look : List (Nat × A) → Nat → A
  | [], _ => .any
  | (d, v) :: r, t => if d = t then v else look r t

def setNth : List A → Nat → A → List A
  | [], _, _ => []
  | _ :: xs, 0, v => v :: xs
  | x :: xs, n + 1, v => x :: setNth xs n v

def nthO : List Obj → Nat → Option Obj
  | [], _ => none
  | x :: _, 0 => some x
  | _ :: xs, n + 1 => nthO xs n

def setO : List Obj → Nat → Obj → List Obj
  | [], _, _ => []
  | _ :: xs, 0, v => v :: xs
  | x :: xs, n + 1, v => x :: setO xs n v

def St.ev (σ : St) : Operand → A
  | .tmp t => look σ.s t
  | .const v => toA v
  | .func f => .fn f []
  | .global _ => .any

def St.put (σ : St) (d : Option Tmp) (v : A) : St :=
  match d with
  | some d => { σ with s := (d, v) :: σ.s }
  | none => σ

def St.setH (σ : St) (n : Nat) (o : Obj) : St := { σ with H := setO σ.H n o }

/-- Facts on the program's types. -/
def tyAgg (P : Program) (t : TypeId) : Option Bool :=
  match P.underlying t with
  | some (.struct _) => some true
  | some (.array _ _) => some true
  | some _ => some false
  | none => none
def tySize (P : Program) (t : TypeId) : Option Nat := (P.info? t).map (·.size)
def tyBytes (P : Program) (t : TypeId) : Nat := P.bytesOf t
def tyElem (P : Program) (t : TypeId) : Option TypeId :=
  match P.underlying t with
  | some (.slice e) => some e
  | _ => none
def tyArr (P : Program) (t : TypeId) : Option (Nat × TypeId) :=
  match P.underlying t with
  | some (.array n e) => some (n, e)
  | _ => none
def fieldInfo (P : Program) (s : TypeId) (f : Nat) : Option (Nat × TypeId) :=
  match P.underlying s with
  | some (.struct fs) => (fs[f]?).bind fun x => if tySize P x.type = some 0 then none else if (tySize P x.type).isNone then none else some (x.offset, x.type)
  | _ => none
def zeroA (P : Program) (t : TypeId) : Option A := (P.info? t).bind fun i => i.zero.map toA
def tyStr (P : Program) (t : TypeId) : Bool :=
  match P.underlying t with
  | some .string => true
  | _ => false
def tyBool (P : Program) (t : TypeId) : Bool :=
  match P.underlying t with
  | some .bool => true
  | _ => false
def tyPtr (P : Program) (t : TypeId) : Bool :=
  match P.underlying t with
  | some (.pointer _) => true
  | _ => false
def tyInt (P : Program) (t : TypeId) : Option IntKind :=
  match P.underlying t with
  | some (.int k) => some k
  | _ => none

def loadC (P : Program) (t : TypeId) (cs : List A) : Option A :=
  match tyAgg P t with
  | some true =>
    match tySize P t with
    | some n => if n ≤ cs.length then some (.agg (cs.take n)) else none
    | none => none
  | some false => cs.head?
  | none => none

/-- May it be stored? -/
def A.val : A → Bool
  | .any => false
  | .tup _ => false
  | _ => true

/-- Does it bear no address of data? -/
def A.flat : A → Bool
  | .int _ _ => true
  | .bool _ => true
  | .str _ => true
  | .nils => true
  | .nilp => true
  | .agg cs => flatL cs
  | .tup cs => flatL cs
  | _ => false
where flatL : List A → Bool
  | [] => true
  | c :: cs => c.flat && flatL cs

def encU8 (c : UInt8) : A := .int .u8 c.toNat
def bytesA (s : List UInt8) : List A := s.map encU8
def byteOfA : A → Option UInt8
  | .int .u8 n => some (UInt8.ofNat n.toNat)
  | _ => none
def bytesOfA : List A → Option (List UInt8)
  | [] => some []
  | x :: xs => (byteOfA x).bind fun b => (bytesOfA xs).map (b :: ·)

/-- '==' on values without addresses. -/
def eqA : A → A → Option Bool
  | .int k a, .int k' b => if k = k' then some (a == b) else none
  | .bool a, .bool b => some (a == b)
  | .str a, .str b => some (a == b)
  | _, _ => none
def eqL : List A → List A → Option Bool
  | [], [] => some true
  | x :: xs, y :: ys => (eqA x y).bind fun a => (eqL xs ys).map (a && ·)
  | _, _ => none

/-- The types whose '==' goes cell by cell, with the kinds of the cells. -/
inductive CK where
  | int (k : IntKind)
  | bool
  | str
  deriving DecidableEq
def CK.has : CK → A → Bool
  | .int k, .int k' _ => k == k'
  | .bool, .bool _ => true
  | .str, .str _ => true
  | _, _ => false
def hasL : List CK → List A → Bool
  | [], [] => true
  | c :: cs, x :: xs => c.has x && hasL cs xs
  | _, _ => false

def A.isPtr : A → Bool
  | .ref _ _ => true
  | .eref _ _ _ => true
  | .dptr _ => true
  | _ => false
def binI (op : BinOp) (k : IntKind) (a b : Int) : Option A :=
  match op with
  | .add => some (.int k (k.wrap (a + b)))
  | .sub => some (.int k (k.wrap (a - b)))
  | .mul => some (.int k (k.wrap (a * b)))
  | .quo => if b = 0 then none else some (.int k (k.wrap (a.tdiv b)))
  | .rem => if b = 0 then none else some (.int k (a.tmod b))
  | .and => some (.int k (k.wrap ((BitVec.ofInt k.bits a &&& BitVec.ofInt k.bits b).toNat)))
  | .or => some (.int k (k.wrap ((BitVec.ofInt k.bits a ||| BitVec.ofInt k.bits b).toNat)))
  | .xor => some (.int k (k.wrap ((BitVec.ofInt k.bits a ^^^ BitVec.ofInt k.bits b).toNat)))
  | .andNot => some (.int k (k.wrap ((BitVec.ofInt k.bits a &&& ~~~ BitVec.ofInt k.bits b).toNat)))
  | .eql => some (.bool (a == b))
  | .neq => some (.bool (a != b))
  | .lss => some (.bool (decide (a < b)))
  | .leq => some (.bool (decide (a ≤ b)))
  | .gtr => some (.bool (decide (b < a)))
  | .geq => some (.bool (decide (b ≤ a)))
  | _ => none
def binS (op : BinOp) (a b : List UInt8) : Option A :=
  match op with
  | .add => if a.length + b.length ≤ 9223372036854775807 then some (.str (a ++ b)) else none
  | .eql => some (.bool (a == b))
  | .neq => some (.bool (a != b))
  | .lss => some (.bool (Op.bytesLess a b))
  | .leq => some (.bool (Op.bytesLess a b || a == b))
  | .gtr => some (.bool !(Op.bytesLess a b || a == b))
  | .geq => some (.bool !(Op.bytesLess a b))
  | _ => none
def nilEq (sl : Bool) (op : BinOp) (c : Bool) : Option A :=
  if sl = true then
    match op with
    | .eql => some (.bool c)
    | .neq => some (.bool !c)
    | _ => none
  else none
def binA (ks : Option (List CK)) (bl ptr sl : Bool) (op : BinOp) : A → A → Option A
  | .int k a, .int k' b =>
    match op with
    | .shl => if b < 0 then none else some (.int k (k.wrap (a * 2 ^ (min b.toNat k.bits))))
    | .shr => if b < 0 then none else some (.int k (a.fdiv (2 ^ (min b.toNat k.bits))))
    | _ => if k = k' then binI op k a b else none
  | .bool a, .bool b =>
    if bl = true then
      match op with
      | .eql => some (.bool (a == b))
      | .neq => some (.bool (a != b))
      | _ => none
    else none
  | .str a, .str b => binS op a b
  | .agg xs, .agg ys =>
    match ks with
    | some l =>
      if hasL l xs = true ∧ hasL l ys = true then
        match op with
        | .eql => (eqL xs ys).map .bool
        | .neq => (eqL xs ys).map fun b => .bool !b
        | _ => none
      else none
    | none => none
  | .nilp, y =>
    if ptr then
      match op with
      | .eql => match y with | .nilp => some (.bool true) | _ => if y.isPtr then some (.bool false) else none
      | .neq => match y with | .nilp => some (.bool false) | _ => if y.isPtr then some (.bool true) else none
      | _ => none
    else none
  | x, .nilp =>
    if ptr && x.isPtr then
      match op with
      | .eql => some (.bool false)
      | .neq => some (.bool true)
      | _ => none
    else none
  | .emp c, .nils => nilEq sl op c
  | .slc (_ :: _), .nils => nilEq sl op false
  | _, _ => none

def unA (op : UnOp) : A → Option A
  | .bool b => match op with | .not => some (.bool !b) | _ => none
  | .int k n => match op with | .neg => some (.int k (k.wrap (0 - n))) | _ => none
  | _ => none

/-- Do the cells of a type have these kinds, and is '==' there cell by cell? (fuel, type) -/
def ckGo (rec : TypeId → Option (List CK)) (size : TypeId → Option Nat) : List Field → Nat → Option (List CK)
  | [], _ => some []
  | f :: fs, off =>
    if f.name = "_" ∨ f.offset ≠ off then none else
    match rec f.type, size f.type with
    | some ks, some n => if ks.length = n then (ckGo rec size fs (off + n)).map (ks ++ ·) else none
    | _, _ => none
def ckOf (P : Program) : Nat → TypeId → Option (List CK)
  | 0, _ => none
  | d + 1, t =>
    match P.underlying t with
    | some .bool => some [.bool]
    | some (.int k) => some [.int k]
    | some .string => some [.str]
    | some (.struct fs) => if P.stoodInHeld t = true then none else ckGo (ckOf P d) (tySize P) fs.toList 0
    | _ => none
def eqTy (P : Program) (t : TypeId) : Option (List CK) := if P.eqGuardType P.depth t = true ∨ tyAgg P t ≠ some true then none else ckOf P 10 t

/-- Nil slices and slices of known capacity as slices. -/
def norm0 : A → A
  | .nils => .slc []
  | .emp _ => .slc []
  | .clip es => .slc es
  | x => x
def A.norm : A → A
  | .agg cs => .agg (cs.map norm0)
  | x => norm0 x

def viewRow (H : List Obj) (n off k len : Nat) : Option A :=
  match nthO H n with
  | some (.row k' es) => if k' = k ∧ off + len ≤ es.length ∧ k ≠ 0 then some (.slc ((es.drop off).take len)) else none
  | _ => none
def view0 (H : List Obj) : A → Option A
  | .row n off k len _ => viewRow H n off k len
  | .ref _ _ => none
  | .eref _ _ _ => none
  | .agg _ => none
  | .tup _ => none
  | .fn _ _ => none
  | .nils => some (.slc [])
  | .emp _ => some (.slc [])
  | .clip es => some (.slc es)
  | x => some x
def view0L (H : List Obj) : List A → Option (List A)
  | [] => some []
  | x :: xs => (view0 H x).bind fun y => (view0L H xs).map (y :: ·)
def view1 (H : List Obj) : A → Option A
  | .ref n off =>
    match nthO H n with
    | some (.box cs) => (view0L H (cs.drop off)).map .dptr
    | _ => none
  | .eref n i off =>
    match nthO H n with
    | some (.row _ es) => (es[i]?).map fun e => .dptr (e.cells.drop off)
    | _ => none
  | .agg cs => (view0L H cs).map .agg
  | x => view0 H x
def view1L (H : List Obj) : List A → Option (List A)
  | [] => some []
  | x :: xs => (view1 H x).bind fun y => (view1L H xs).map (y :: ·)
/-- A value as pure data: what it refers to is read. -/
def view (H : List Obj) : A → Option A
  | .fn f cs => (view1L H cs).map (.fn f ·)
  | x => view1 H x
def viewL (H : List Obj) : List A → Option (List A)
  | [] => some []
  | x :: xs => (view H x).bind fun y => (viewL H xs).map (y :: ·)

def getI (i : Int) (es : List A) : Option A := if 0 ≤ i then es[i.toNat]? else none

/-- A bound of a slice expression: not given, or a number. -/
inductive Bd where
  | none
  | some (n : Int)
  | bad
def bdOf : A → Bd
  | .int _ n => .some n
  | _ => .bad
def St.bd (σ : St) : Option Operand → Bd
  | Option.none => .none
  | Option.some x => bdOf (σ.ev x)
def Bd.get (d : Int) : Bd → Int
  | .some n => n
  | _ => d
def Bd.ok : Bd → Bool
  | .bad => false
  | _ => true
/-- Given, as a slice expression of three indexes asks it. -/
def Bd.ok3 : Bd → Bool
  | .some _ => true
  | _ => false

/-- Elements that are of k cells, by the first of them. -/
def strOK (k : Nat) (es : List A) : Bool := es.isEmpty || strideOf es == k
def sliceS (s : List UInt8) (lo hi mx : Bd) : Option A :=
  match mx with
  | .none => if 0 ≤ lo.get 0 ∧ lo.get 0 ≤ hi.get s.length ∧ hi.get s.length ≤ s.length then some (.str ((s.take (hi.get s.length).toNat).drop (lo.get 0).toNat)) else none
  | _ => none
def sliceE (k : Nat) (es : List A) (lo hi mx : Bd) : Option A :=
  match mx with
  | .none => if strOK k es = true ∧ 0 ≤ lo.get 0 ∧ lo.get 0 ≤ hi.get es.length ∧ hi.get es.length ≤ es.length then some (.slc ((es.take (hi.get es.length).toNat).drop (lo.get 0).toNat)) else none
  | .some m => if strOK k es = true ∧ 0 ≤ lo.get 0 ∧ lo.get 0 ≤ hi.get es.length ∧ hi.get es.length ≤ es.length ∧ m = hi.get es.length ∧ hi.ok3 = true then some (.clip ((es.take (hi.get es.length).toNat).drop (lo.get 0).toNat)) else none
  | .bad => none
def sliceR (n off k len : Nat) (lo hi mx : Bd) : Option A :=
  match mx with
  | .none => if 0 ≤ lo.get 0 ∧ lo.get 0 ≤ hi.get len ∧ hi.get len ≤ len then some (.row n (off + (lo.get 0).toNat) k (hi.get len - lo.get 0).toNat false) else none
  | .some m => if 0 ≤ lo.get 0 ∧ lo.get 0 ≤ hi.get len ∧ hi.get len ≤ len ∧ m = hi.get len ∧ hi.ok3 = true then some (.row n (off + (lo.get 0).toNat) k (hi.get len - lo.get 0).toNat true) else none
  | .bad => none
/-- A slice expression; 'st': a string's type; 'sz': how many cells an element of the slice type has. -/
def sliceA (st : Bool) (sz : Option Nat) (x : A) (lo hi mx : Bd) : Option A :=
  match x with
  | .str s => if st = true then sliceS s lo hi mx else none
  | .slc es => match sz with | some k => sliceE k es lo hi mx | none => none
  | .clip es => match sz with | some k => sliceE k es lo hi mx | none => none
  | .row n off k' len _ => match sz with | some k => if k = k' then sliceR n off k len lo hi mx else none | none => none
  | _ => none
def elSize (P : Program) (t : TypeId) : Option Nat :=
  match tyElem P t with
  | some e => tySize P e
  | none => none

def pickA (c a b : A) : Option A :=
  match c with
  | .bool t => some (if t then a else b)
  | _ => none
def fillC (size : Option Nat) (off : Nat) (x : A) (zs : List A) : Option (List A) :=
  match size with
  | some n => if x.cells.length = n ∧ off + n ≤ zs.length ∧ x.val = true then some (zs.take off ++ x.cells ++ zs.drop (off + n)) else none
  | none => none
def fillS (P : Program) (t : TypeId) (σ : St) : List (Nat × Operand) → List A → Option (List A)
  | [], zs => some zs
  | (i, x) :: ps, zs =>
    match fieldInfo P t i with
    | some (o, ft) => (fillC (tySize P ft) o (σ.ev x) zs).bind (fillS P t σ ps)
    | none => none
def fillA (P : Program) (e : TypeId) (σ : St) : List (Nat × Operand) → List A → Option (List A)
  | [], zs => some zs
  | (i, x) :: ps, zs =>
    match tySize P e with
    | some n => (fillC (some n) (i * n) (σ.ev x) zs).bind (fillA P e σ ps)
    | none => none
def fillE (k : Nat) (σ : St) : List (Nat × Operand) → List A → Option (List A)
  | [], zs => some zs
  | (i, x) :: ps, zs => if (σ.ev x).cells.length = k ∧ i < zs.length ∧ (σ.ev x).val = true ∧ (σ.ev x).pure = true then fillE k σ ps (setNth zs i (σ.ev x).norm) else none
def allSized (P : Program) (t : TypeId) : Bool :=
  match P.underlying t with
  | some (.struct fs) => fs.toList.all fun f => (tySize P f.type).isSome
  | _ => false
def buildA (P : Program) (t : TypeId) (σ : St) (parts : List (Nat × Operand)) : Option A :=
  match zeroA P t with
  | some (.agg zs) =>
    match tyArr P t with
    | some (_, e) => if (tySize P e).isSome = true then (fillA P e σ parts zs).map .agg else none
    | none => if allSized P t = true then (fillS P t σ parts zs).map .agg else none
  | _ => none
def buildSliceA (P : Program) (t : TypeId) (len : Nat) (σ : St) (parts : List (Nat × Operand)) : Option A :=
  match tyElem P t with
  | some e =>
    match tySize P e, zeroA P e with
    | some k, some z => if len * k ≤ 16777216 ∧ k ≠ 0 ∧ z.pure = true ∧ z.val = true ∧ z.cells.length = k then (fillE k σ parts (List.replicate len z.norm)).map .clip else none
    | _, _ => none
  | none => none
def loadA (P : Program) (t : TypeId) (H : List Obj) (a : A) : Option A :=
  match a with
  | .dptr cs => loadC P t cs
  | .ref n off => match nthO H n with | some (.box cs) => loadC P t (cs.drop off) | _ => none
  | .eref n i off => match nthO H n with | some (.row _ es) => (es[i]?).bind fun e => loadC P t (e.cells.drop off) | _ => none
  | _ => none
def nilCheckA (x : A) : Option A :=
  match x with
  | .dptr cs => some (.dptr cs)
  | .ref n off => some (.ref n off)
  | .eref n i off => some (.eref n i off)
  | .fn f cs => some (.fn f cs)
  | _ => none
def isB2S (P : Program) (src dst : TypeId) : Bool := (tyElem P src).any (fun e => tyInt P e = some .u8) && tyStr P dst
def convB (b : Bool) (x : Option A) : Option A :=
  if b = true then
    match x with
    | some (.slc es) => (bytesOfA es).map .str
    | _ => none
  else none
def convA (P : Program) (src dst : TypeId) (H : List Obj) (x : A) : Option A :=
  match x with
  | .int _ n => match tyInt P dst with | some k => if (tyAgg P src).isSome = true then some (.int k (k.wrap n)) else none | none => none
  | .str s => if tyStr P src && tyStr P dst then some (.str s) else none
  | .slc es => convB (isB2S P src dst) (view H (.slc es))
  | .clip es => convB (isB2S P src dst) (view H (.clip es))
  | .nils => convB (isB2S P src dst) (view H .nils)
  | .row n off k len c => convB (isB2S P src dst) (view H (.row n off k len c))
  | _ => none
def fieldAddrA (o : Nat) (x : A) : Option A :=
  match x with
  | .dptr cs => some (.dptr (cs.drop o))
  | .ref n off => some (.ref n (off + o))
  | .eref n i off => some (.eref n i (off + o))
  | _ => none
def fieldAddrI (i : Option (Nat × TypeId)) (x : A) : Option A :=
  match i with
  | some (o, _) => fieldAddrA o x
  | none => none
def fieldA (P : Program) (i : Option (Nat × TypeId)) (x : A) : Option A :=
  match i, x with
  | some (o, t), .agg cs => loadC P t (cs.drop o)
  | _, _ => none
def getE (k : Nat) (i : Int) (es : List A) : Option A := (getI i es).bind fun y => if k = y.cells.length then some (.dptr y.cells) else none
def indexAddrE (k : Nat) (i : Int) (x : A) : Option A :=
  match x with
  | .slc es => getE k i es
  | .clip es => getE k i es
  | .row n off k' len _ => if k = k' ∧ 0 ≤ i ∧ i < len then some (.eref n (off + i.toNat) 0) else none
  | _ => none
def indexAddrR (n k : Nat) (i : Int) (x : A) : Option A :=
  match x with
  | .ref m off => if 0 ≤ i ∧ i < n then some (.ref m (off + i.toNat * k)) else none
  | .dptr cs => if 0 ≤ i ∧ i < n then some (.dptr (cs.drop (i.toNat * k))) else none
  | _ => none
def indexAddrA (P : Program) (t : TypeId) (x ix : A) : Option A :=
  match ix with
  | .int _ i =>
    match tyElem P t with
    | some e => match tySize P e with | some k => indexAddrE k i x | none => none
    | none =>
      match tyArr P t with
      | some (n, e) => match tySize P e with | some k => indexAddrR n k i x | none => none
      | none => none
  | _ => none
def indexA (P : Program) (t : TypeId) (x ix : A) : Option A :=
  match ix, x with
  | .int _ i, .str s => if tyStr P t = true ∧ 0 ≤ i then (s[i.toNat]?).map encU8 else none
  | .int _ i, .agg cs =>
    match tyArr P t with
    | some (n, e) => match tySize P e with | some k => if 0 ≤ i ∧ i < n then loadC P e (cs.drop (i.toNat * k)) else none | none => none
    | none => none
  | _, _ => none
def extractA (x : A) (ix : Nat) : Option A :=
  match x with
  | .tup cs => cs[ix]?
  | _ => none
def lenA (P : Program) (t : TypeId) (x : A) : Option A :=
  match x with
  | .str s => if tyStr P t = true then some (.int .i64 s.length) else none
  | .slc es => if (tyElem P t).isSome = true then some (.int .i64 es.length) else none
  | .clip es => if (tyElem P t).isSome = true then some (.int .i64 es.length) else none
  | .row _ _ _ len _ => if (tyElem P t).isSome = true then some (.int .i64 len) else none
  | .nils => if (tyElem P t).isSome = true then some (.int .i64 0) else none
  | _ => match tyArr P t with | some (n, _) => some (.int .i64 n) | none => none
def minA : List A → Option A
  | [.int k a, .int _ b] => some (.int k (if b < a then b else a))
  | _ => none
def maxA : List A → Option A
  | [.int k a, .int _ b] => some (.int k (if b > a then b else a))
  | _ => none
def makeFuncA (fn : Fn) (first captured : List A) : Option A :=
  match fn, first with
  | .func f, [] => some (.fn f captured)
  | _, _ => none
def St.evL (σ : St) : List Operand → List A
  | [] => []
  | x :: xs => σ.ev x :: σ.evL xs

/-- Operations that hand back a value and change nothing owned. -/
def evalR (P : Program) (σ : St) : Op → Option A
  | .move x => some (σ.ev x)
  | .assign x => some (σ.ev x)
  | .pick c a b => pickA (σ.ev c) (σ.ev a) (σ.ev b)
  | .build t parts => buildA P t σ parts.toList
  | .buildSlice t len parts => buildSliceA P t len σ parts.toList
  | .load t a => loadA P t σ.H (σ.ev a)
  | .nilCheck x => nilCheckA (σ.ev x)
  | .binOp op t x y _ => binA (eqTy P t) (tyBool P t) (tyPtr P t) (tyElem P t).isSome op (σ.ev x) (σ.ev y)
  | .unOp op _ x => unA op (σ.ev x)
  | .convert src dst x => convA P src dst σ.H (σ.ev x)
  | .makeFunc fn first captured => makeFuncA fn (σ.evL first.toList) (σ.evL captured.toList)
  | .slice t x lo hi mx => if (tyArr P t).isNone = true ∧ (σ.bd lo).ok = true ∧ (σ.bd hi).ok = true then sliceA (tyStr P t) (elSize P t) (σ.ev x) (σ.bd lo) (σ.bd hi) (σ.bd mx) else none
  | .fieldAddr s x f => fieldAddrI (fieldInfo P s f) (σ.ev x)
  | .field s x f => fieldA P (fieldInfo P s f) (σ.ev x)
  | .indexAddr t x ix => indexAddrA P t (σ.ev x) (σ.ev ix)
  | .index t x ix => indexA P t (σ.ev x) (σ.ev ix)
  | .extract t ix => extractA (σ.ev t) ix
  | .call ⟨.builtin .len, ⟨[x]⟩, ⟨[t]⟩⟩ => lenA P t (σ.ev x)
  | .call ⟨.builtin .min, ⟨xs⟩, _⟩ => minA (σ.evL xs)
  | .call ⟨.builtin .max, ⟨xs⟩, _⟩ => maxA (σ.evL xs)
  | _ => none

def srcE (P : Program) (σ : St) (e tx : TypeId) (k : Nat) (x : A) : Option (List A) :=
  match x with
  | .slc es => if strOK k es = true ∧ (tyElem P tx).isSome = true then some es else none
  | .clip es => if strOK k es = true ∧ (tyElem P tx).isSome = true then some es else none
  | .nils => if (tyElem P tx).isSome = true then some [] else none
  | .emp _ => if (tyElem P tx).isSome = true then some [] else none
  | .row n off k' len _ => if k' = k ∧ (tyElem P tx).isSome = true then (match viewRow σ.H n off k len with | some (.slc es) => some es | _ => none) else none
  | .str s => if tyInt P e = some .u8 ∧ k = 1 ∧ tyStr P tx = true then some (bytesA s) else none
  | _ => none

def scrubA (n : Nat) (x : A) : A := if x.mem n then .any else x
def scrubO (n : Nat) : Obj → Obj
  | .box cs => .box (cs.map (scrubA n))
  | o => o
def St.scrub (σ : St) (n : Nat) : St := { s := σ.s.map (fun p => (p.1, scrubA n p.2)), H := σ.H.map (scrubO n) }

def appendA (fx : Nat → Bool) (σ : St) (name : Nat) (d : Option Tmp) (k bytes : Nat) (base : A) (src : List A) : Option St :=
  match base with
  | .nils => if src.length * bytes ≤ 140737488355328 then some ((σ.setH name (.row k src)).put d (.row name 0 k src.length false)) else none
  | .clip es => if strOK k es = true ∧ (es = [] ∨ src ≠ []) ∧ (es.length + src.length) * bytes ≤ 140737488355328 then
      some ((σ.setH name (.row k (es ++ src))).put d (.row name 0 k (es.length + src.length) false)) else none
  | .row n 0 k' len c =>
    match nthO σ.H n with
    | some (.row k'' es) =>
      if k' = k ∧ k'' = k ∧ len ≤ es.length ∧ (len + src.length) * bytes ≤ 140737488355328 then
        if c then (if src = [] then none else some ((σ.setH name (.row k (es.take len ++ src))).put d (.row name 0 k (len + src.length) false)))
        else (if fx n = true then none else some (((σ.scrub n).setH n (.row k (es.take len ++ src))).put d (.row n 0 k (len + src.length) false)))
      else none
    | _ => none
  | _ => none

/-- A table of what functions compute: 'f' of pure data; 'hp' of arguments that refer to objects (the result, the objects then, the names that may have moved). 'eff': which functions are called with their objects; 'effT': are function values? 'frz': which of them take their objects as data from then on. 'fix', 'nf': names (below nf) whose places must stay. -/
structure Tab where
  f : FuncId → List A → Option A
  hp : FuncId → List A → List Obj → Option (A × List Obj × List Nat)
  eff : FuncId → Bool
  frz : FuncId → Bool
  effT : Bool
  fix : Nat → Bool
  nf : Nat
  ords : Nat → List (List Nat)

def isEff (Γ : Tab) : Operand → Bool
  | .func g => Γ.eff g
  | .tmp _ => Γ.effT
  | _ => false

def isS2B (P : Program) (src dst : TypeId) : Bool := tyStr P src && (tyElem P dst).any (fun e => tyInt P e = some .u8)

/-- Does the operation make an object (a name is kept for it)? -/
def allocs (P : Program) : Op → Bool
  | .alloc _ => true
  | .box _ _ => true
  | .convert src dst _ => isS2B P src dst
  | .call ⟨.builtin .append, _, _⟩ => true
  | _ => false

def spliceA (cs : List A) (off : Nat) (ys : List A) : List A := cs.take off ++ ys ++ cs.drop (off + ys.length)

def boxA (σ : St) (name : Nat) (d : Option Tmp) (x : A) : Option St :=
  if x.val = true then some ((σ.setH name (.box x.cells)).put d (.ref name 0)) else none
def allocA (σ : St) (name : Nat) (d : Option Tmp) (z : Option A) : Option St :=
  match z with
  | some z => boxA σ name d z
  | none => none
def storeE (e : A) (off : Nat) (v : A) : A :=
  match e with
  | .agg cs => .agg (spliceA cs off v.norm.cells)
  | _ => v.norm
def storeA (σ : St) (d : Option Tmp) (size : Option Nat) (a v : A) : Option St :=
  match a with
  | .ref n off =>
    match nthO σ.H n with
    | some (.box cs) => if size = some v.cells.length ∧ off + v.cells.length ≤ cs.length ∧ v.val = true then some ((σ.setH n (.box (spliceA cs off v.cells))).put d (.tup [])) else none
    | _ => none
  | .eref n i off =>
    match nthO σ.H n with
    | some (.row k es) => (es[i]?).bind fun e => if size = some v.cells.length ∧ off + v.cells.length ≤ e.cells.length ∧ v.cells.length ≠ 0 ∧ v.val = true ∧ v.pure = true then some ((σ.setH n (.row k (setNth es i (storeE e off v)))).put d (.tup [])) else none
    | _ => none
  | _ => none
def convX (P : Program) (σ : St) (name : Nat) (d : Option Tmp) (src dst : TypeId) (x : A) : Option St :=
  if isS2B P src dst = true then
    match x with
    | .str s => some ((σ.setH name (.row 1 (bytesA s))).put d (.row name 0 1 s.length false))
    | _ => none
  else (convA P src dst σ.H x).map (σ.put d ·)
/-- Has the zero value of a type k cells? -/
def zeroOK (P : Program) (e : TypeId) (k : Nat) : Bool :=
  match zeroA P e with
  | some z => z.val && z.cells.length == k
  | none => false
def appendX (P : Program) (fx : Nat → Bool) (σ : St) (name : Nat) (d : Option Tmp) (t tx : TypeId) (b x : A) : Option St :=
  match tyElem P t with
  | some e =>
    match tySize P e with
    | some k => if k = 0 ∨ tyBytes P e = 0 ∨ zeroOK P e k = false then none else (srcE P σ e tx k x).bind fun src => appendA fx σ name d k (tyBytes P e) b src
    | none => none
  | none => none
def callX (Γ : Tab) (σ : St) (d : Option Tmp) (g : FuncId) (as : List A) : Option St :=
  (viewL σ.H as).bind fun bs => (Γ.f g bs).bind fun r => if (A.pure.pureL as || r.flat) = true then some (σ.put d r) else none
def callV (Γ : Tab) (σ : St) (d : Option Tmp) (f : A) (as : List A) : Option St :=
  match f with
  | .fn g caps => callX Γ σ d g (as ++ caps)
  | _ => none

/-- A part of a slice of the call's own is zeroed. -/
def clearA (P : Program) (σ : St) (d : Option Tmp) (t : TypeId) (x : A) : Option St :=
  match x with
  | .row n off k len _ =>
    match tyElem P t with
    | some e =>
      match nthO σ.H n with
      | some (.row k' es) =>
        match zeroA P e with
        | some z => if k' = k ∧ z.cells.length = k ∧ k ≠ 0 ∧ z.val = true ∧ z.pure = true ∧ off + len ≤ es.length then some ((σ.setH n (.row k (es.take off ++ List.replicate len z.norm ++ es.drop (off + len)))).put d (.tup [])) else none
        | none => none
      | _ => none
    | none => none
  | _ => none

/-- The names that occur. -/
def A.names : A → List Nat
  | .ref n _ => [n]
  | .eref n _ _ => [n]
  | .row n _ _ _ _ => [n]
  | .agg cs => namesL cs
  | .fn _ cs => namesL cs
  | .tup cs => namesL cs
  | _ => []
where namesL : List A → List Nat
  | [] => []
  | c :: cs => c.names ++ namesL cs
def Obj.names : Obj → List Nat
  | .box cs => A.names.namesL cs
  | .row _ _ => []
def namesO : Option Obj → List Nat
  | some o => o.names
  | none => []
/-- All names that can be reached. -/
def reach (H : List Obj) : Nat → List Nat → List Nat → List Nat
  | 0, _, acc => acc
  | _ + 1, [], acc => acc
  | fuel + 1, n :: todo, acc => if acc.contains n = true then reach H fuel todo acc else reach H fuel (namesO (nthO H n) ++ todo) (acc ++ [n])
def idx (ρ : List Nat) (n : Nat) : Option Nat :=
  match ρ with
  | [] => none
  | m :: ms => if m = n then some 0 else (idx ms n).map (· + 1)
def A.ren (ρ : List Nat) : A → Option A
  | .ref n o => (idx ρ n).map (.ref · o)
  | .eref n i o => (idx ρ n).map (.eref · i o)
  | .row n o k l c => (idx ρ n).map (.row · o k l c)
  | .agg cs => (renL ρ cs).map .agg
  | .fn f cs => (renL ρ cs).map (.fn f ·)
  | .tup cs => (renL ρ cs).map .tup
  | x => some x
where renL (ρ : List Nat) : List A → Option (List A)
  | [] => some []
  | c :: cs => (c.ren ρ).bind fun x => (renL ρ cs).map (x :: ·)
def Obj.ren (ρ : List Nat) : Obj → Option Obj
  | .box cs => (A.ren.renL ρ cs).map .box
  | .row k es => some (.row k es)
def renO (ρ : List Nat) : Option Obj → Option Obj
  | some o => o.ren ρ
  | none => none
def renH (ρ : List Nat) (H : List Obj) : List Nat → Option (List Obj)
  | [] => some []
  | n :: ns => (renO ρ (nthO H n)).bind fun o => (renH ρ H ns).map (o :: ·)
def nthN : List Nat → Nat → Nat → Nat
  | [], base, i => base + i
  | n :: _, _, 0 => n
  | _ :: ns, base, i + 1 => nthN ns base i
/-- Back: the names of the caller ('m': what a new object's name begins at). -/
def A.back (ρ : List Nat) (m : Nat) : A → A
  | .ref n o => .ref (nthN ρ m n) o
  | .eref n i o => .eref (nthN ρ m n) i o
  | .row n o k l c => .row (nthN ρ m n) o k l c
  | .agg cs => .agg (backL ρ m cs)
  | .fn f cs => .fn f (backL ρ m cs)
  | .tup cs => .tup (backL ρ m cs)
  | x => x
where backL (ρ : List Nat) (m : Nat) : List A → List A
  | [] => []
  | c :: cs => c.back ρ m :: backL ρ m cs
def Obj.back (ρ : List Nat) (m : Nat) : Obj → Obj
  | .box cs => .box (A.back.backL ρ m cs)
  | .row k es => .row k es
def scrubs (ρ : List Nat) (m : Nat) (σ : St) : List Nat → St
  | [] => σ
  | i :: is => scrubs ρ m (σ.scrub (nthN ρ m i)) is
/-- The objects behind a call: those that it knew, and new ones. -/
def backH (ρ : List Nat) (m : Nat) : List Nat → List Obj → List Obj → List Obj
  | [], os, H => H ++ os.map (Obj.back ρ m)
  | n :: ns, o :: os, H => backH ρ m ns os (setO H n (o.back ρ m))
  | _ :: _, [], H => H
def callH2 (σ : St) (d : Option Tmp) (ρ : List Nat) : A × List Obj × List Nat → St
  | (r, H', S) => St.put ⟨(scrubs ρ σ.H.length σ S).s, backH ρ σ.H.length ρ H' (scrubs ρ σ.H.length σ S).H⟩ d (r.back ρ σ.H.length)
/-- May these names move? -/
def mayMove (Γ : Tab) (ρ : List Nat) (m : Nat) : List Nat → Bool
  | [] => true
  | i :: is => !Γ.fix (nthN ρ m i) && mayMove Γ ρ m is
/-- Data from now on. -/
def A.meets (ρ : List Nat) (x : A) : Bool := ρ.any fun n => x.mem n
def frzA (ρ : List Nat) (H₀ : List Obj) (x : A) : A :=
  if x.meets ρ = true then (match x.ren ρ with | some x' => (view H₀ x').getD .any | none => .any) else x
def frzO (ρ : List Nat) (H₀ : List Obj) : Obj → Obj
  | .box cs => .box (cs.map (frzA ρ H₀))
  | .row k es => .row k es
def dropO (ρ : List Nat) : List Nat → List Obj → List Obj
  | [], H => H
  | n :: ns, H => dropO ρ ns (setO H n (.row 0 []))
def callF2 (σ : St) (d : Option Tmp) (ρ : List Nat) (H₀ : List Obj) (r : A) : St :=
  St.put ⟨σ.s.map (fun p => (p.1, frzA ρ H₀ p.2)), dropO ρ ρ (σ.H.map (frzO ρ H₀))⟩ d r
def callH1 (Γ : Tab) (σ : St) (d : Option Tmp) (g : FuncId) (as : List A) (ρ : List Nat) : Option St :=
  (A.ren.renL ρ as).bind fun as' => (renH ρ σ.H ρ).bind fun H₀ =>
    if Γ.frz g = true then (if ρ.all (fun n => !Γ.fix n) = true then (viewL H₀ as').bind fun bs => (Γ.f g bs).map (callF2 σ d ρ H₀) else none)
    else (Γ.hp g as' H₀).bind fun x => if mayMove Γ ρ σ.H.length x.2.2 = true then some (callH2 σ d ρ x) else none
/-- A call with its objects. -/
def callH (Γ : Tab) (σ : St) (d : Option Tmp) (g : FuncId) (as : List A) : Option St := callH1 Γ σ d g as (reach σ.H 64 (A.names.namesL as) [])
def callHV (Γ : Tab) (σ : St) (d : Option Tmp) (f : A) (as : List A) : Option St :=
  match f with
  | .fn g caps => callH Γ σ d g (as ++ caps)
  | _ => none

/-- One operation; 'name': the object that it makes, if it makes one. -/
def execOp (P : Program) (Γ : Tab) (name : Nat) (d : Option Tmp) (op : Op) (σ : St) : Option St :=
  match op with
  | .alloc t => allocA σ name d (zeroA P t)
  | .box _ x => boxA σ name d (σ.ev x)
  | .store t a x => storeA σ d (tySize P t) (σ.ev a) (σ.ev x)
  | .convert src dst x => convX P σ name d src dst (σ.ev x)
  | .call ⟨.builtin .append, ⟨[b, x]⟩, ⟨[t, tx]⟩⟩ => appendX P Γ.fix σ name d t tx (σ.ev b) (σ.ev x)
  | .call ⟨.builtin .clear, ⟨[x]⟩, ⟨[t]⟩⟩ => clearA P σ d t (σ.ev x)
  | .call ⟨.value f, ⟨xs⟩, _⟩ => if isEff Γ f = true then callHV Γ σ d (σ.ev f) (σ.evL xs) else callV Γ σ d (σ.ev f) (σ.evL xs)
  | op => (evalR P σ op).map (σ.put d ·)

def nthD : List (Option Tmp) → Nat → Option Tmp
  | [], _ => none
  | x :: _, 0 => x
  | _ :: xs, n + 1 => nthD xs n

/-- Is the operation carried out? -/
def wantA (ds : List (Option Tmp)) (σ : St) (g : Option (Nat × Bool)) : Option Bool :=
  match g with
  | none => some true
  | some (j, want) =>
    match nthD ds j with
    | none => some false
    | some t =>
      match look σ.s t with
      | .bool b => some (b == want)
      | .any => none
      | _ => some false

def exec1 (P : Program) (Γ : Tab) (ds : List (Option Tmp)) (name : Nat) (o : Oper) (σ : St) : Option St :=
  match wantA ds σ o.guard with
  | none => none
  | some b => if b then execOp P Γ name o.dst o.op σ else some (σ.put o.dst (.tup []))

def grow (P : Program) (op : Op) (σ : St) : St := if allocs P op = true then { σ with H := σ.H ++ [.row 0 []] } else σ

/-- The next object's name. -/
def nxt (P : Program) (op : Op) (n : Nat) : Nat := if allocs P op = true then n + 1 else n
/-- Room for the objects that a region makes. -/
def pre (P : Program) : List Oper → St → St
  | [], σ => σ
  | o :: os, σ => pre P os (grow P o.op σ)
/-- One operation behind the other; 'n': the name of the next object. -/
def runSeq (P : Program) (Γ : Tab) (ds : List (Option Tmp)) : List Oper → Nat → St → Option St
  | [], _, σ => some σ
  | o :: os, n, σ => (exec1 P Γ ds n o σ).bind (runSeq P Γ ds os (nxt P o.op n))

def dstsOf : List Oper → List (Option Tmp)
  | [] => []
  | o :: os => o.dst :: dstsOf os

inductive Ex where
  | normal
  | exit (id : Nat)
  | ret

/-- All names below m? -/
def A.under (m : Nat) : A → Bool
  | .ref n _ => n < m
  | .eref n _ _ => n < m
  | .row n _ _ _ _ => n < m
  | .agg cs => underL m cs
  | .fn _ cs => underL m cs
  | .tup cs => underL m cs
  | _ => true
where underL (m : Nat) : List A → Bool
  | [] => true
  | c :: cs => c.under m && underL m cs

def leS (m : Nat) (s : List (Nat × A)) : List (Nat × A) → Prop
  | [] => True
  | (d, y) :: r => (look s d = y ∧ y.under m = true) ∧ leS m s r
def leL (m : Nat) : List A → List A → Prop
  | [], [] => True
  | x :: xs, y :: ys => (y = .any ∨ (x = y ∧ y.under m = true)) ∧ leL m xs ys
  | _, _ => False
def leO (m : Nat) : Obj → Obj → Prop
  | .box xs, .box ys => leL m xs ys
  | .row k xs, .row k' ys => k = k' ∧ xs = ys
  | _, _ => False
def leH (m : Nat) : List Obj → List Obj → Prop
  | [], [] => True
  | _ :: _, [] => True
  | x :: xs, y :: ys => leO m x y ∧ leH m xs ys
  | [], _ :: _ => False
/-- 'τ' says no more than 'σ' (later objects may be forgotten). -/
def St.le (σ τ : St) : Prop := leS τ.H.length σ.s τ.s ∧ leH τ.H.length σ.H τ.H

/-- Objects, data from now on. -/
def frzSt (ρ : List Nat) (H₀ : List Obj) (σ : St) : St := ⟨σ.s.map (fun p => (p.1, frzA ρ H₀ p.2)), dropO ρ ρ (σ.H.map (frzO ρ H₀))⟩
/-- What else may be said of a state, at a loop's head. -/
inductive St.to (nf : Nat) : St → St → Prop where
  | le {σ τ : St} : nf ≤ τ.H.length → σ.le τ → St.to nf σ τ
  | nil {σ τ : St} (d k : Nat) : look σ.s d = .nils → St.to nf ⟨(d, .row σ.H.length 0 k 0 false) :: σ.s, σ.H ++ [.row k []]⟩ τ → St.to nf σ τ
  | nilb {σ τ : St} (m i k : Nat) (cs : List A) : nthO σ.H m = some (.box cs) → cs[i]? = some .nils →
      St.to nf ⟨σ.s, setO σ.H m (.box (setNth cs i (.row σ.H.length 0 k 0 false))) ++ [.row k []]⟩ τ → St.to nf σ τ
  | wk {σ τ : St} (d : Nat) (es : List A) : look σ.s d = .clip es → St.to nf ⟨(d, .slc es) :: σ.s, σ.H⟩ τ → St.to nf σ τ
  | wkb {σ τ : St} (m : Nat) (cs : List A) : nthO σ.H m = some (.box cs) → St.to nf ⟨σ.s, setO σ.H m (.box (cs.map norm0))⟩ τ → St.to nf σ τ
  | frz {σ τ : St} (ρ : List Nat) (H₀ : List Obj) : ρ.Nodup → renH ρ σ.H ρ = some H₀ → (∀ n ∈ ρ, nf ≤ n) → St.to nf (frzSt ρ H₀ σ) τ → St.to nf σ τ

def K? {α : Type} (o : Option α) (q : α → Prop) : Prop := ∃ x, o = some x ∧ q x

/-- The operations of a region with their objects' names. -/
def annS (P : Program) : Nat → List Oper → List (Nat × Oper)
  | _, [] => []
  | n, o :: os => (n, o) :: annS P (nxt P o.op n) os
def nthA : List (Nat × Oper) → Nat → Option (Nat × Oper)
  | [], _ => none
  | x :: _, 0 => some x
  | _ :: xs, i + 1 => nthA xs i
/-- A region's operations in a given order. -/
def runO (P : Program) (Γ : Tab) (ds : List (Option Tmp)) (B : List (Nat × Oper)) : List Nat → St → Option St
  | [], σ => some σ
  | i :: is, σ => (nthA B i).bind fun x => (exec1 P Γ ds x.1 x.2 σ).bind (runO P Γ ds B is)
def ordsW (P : Program) (Γ : Tab) (ds : List (Option Tmp)) (B : List (Nat × Oper)) (σ : St) (q : St → Prop) : List (List Nat) → Prop
  | [] => True
  | o :: os => K? (runO P Γ ds B o σ) q ∧ ordsW P Γ ds B σ q os
/-- A region: in the text's order, or in each of the orders that are given. -/
def regW (P : Program) (Γ : Tab) (os : List (List Nat)) (ops : Array Oper) (Q : Ex → St → Prop) (σ : St) : Prop :=
  match os with
  | [] => K? (runSeq P Γ (dstsOf ops.toList) ops.toList σ.H.length (pre P ops.toList σ)) (Q .normal)
  | o :: os => ordsW P Γ (dstsOf ops.toList) (annS P σ.H.length ops.toList) (pre P ops.toList σ) (Q .normal) (o :: os)

/-- What follows: another piece of code, the end of a block. -/
def seqQ (W : (Ex → St → Prop) → St → Prop) (Q : Ex → St → Prop) (e : Ex) (τ : St) : Prop :=
  match e with
  | .normal => W Q τ
  | .exit i => Q (.exit i) τ
  | .ret => Q .ret τ
def blockQ (id : Nat) (Q : Ex → St → Prop) (e : Ex) (τ : St) : Prop :=
  match e with
  | .normal => Q .normal τ
  | .exit i => if i = id then Q .normal τ else Q (.exit i) τ
  | .ret => Q .ret τ
def loopQ (N : St → Prop) (Q : Ex → St → Prop) (e : Ex) (τ : St) : Prop :=
  match e with
  | .normal => N τ
  | .exit i => Q (.exit i) τ
  | .ret => Q .ret τ
def condA (c : A) (p q : Prop) : Prop := ∃ t, c = .bool t ∧ (t = true → p) ∧ (t = false → q)

def wpA (P : Program) (Γ : Tab) : Code → (Ex → St → Prop) → St → Prop
  | .skip, Q, σ => Q .normal σ
  | .label _, Q, σ => Q .normal σ
  | .seq a b, Q, σ => wpA P Γ a (seqQ (wpA P Γ b) Q) σ
  | .cond c a b, Q, σ => condA (σ.ev c) (wpA P Γ a Q σ) (wpA P Γ b Q σ)
  | .block id c, Q, σ => wpA P Γ c (blockQ id Q) σ
  | .loop c, Q, σ => ∃ (ι : Type) (inv : ι → St) (μ : ι → Nat), (∃ i, St.to Γ.nf σ (inv i)) ∧
      ∀ i, wpA P Γ c (loopQ (fun τ => ∃ j, St.to Γ.nf τ (inv j) ∧ μ j < μ i) Q) (inv i)
  | .exit id, Q, σ => Q (.exit id) σ
  | .ret, Q, σ => Q .ret σ
  | .region id ops _, Q, σ => regW P Γ (Γ.ords id) ops Q σ
  | _, _, _ => False

def resC (P : Program) (σ : St) (t : TypeId) (a : A) : Option A :=
  match a with
  | .ref n off => match nthO σ.H n with | some (.box cs) => (loadC P t (cs.drop off)).bind (view σ.H) | _ => none
  | _ => none
def resA (P : Program) (σ : St) : ResultVar → Option A
  | .tmp t => view σ.H (look σ.s t)
  | .cell a t => resC P σ t (look σ.s a)
def resL (P : Program) (σ : St) : List ResultVar → Option (List A)
  | [] => some []
  | r :: rs => (resA P σ r).bind fun x => (resL P σ rs).map (x :: ·)
def resOf : List A → A
  | [x] => x
  | xs => .tup xs

/-- What a body comes to: it returns, and its result is 'Post'. -/
def bodyA (P : Program) (fn : Func) (Post : A → Prop) (e : Ex) (σ : St) : Prop :=
  match e with
  | .exit _ => False
  | _ => K? (resL P σ fn.results.toList) (fun rs => Post (resOf rs))

/-- Results as they are. -/
def rawC (P : Program) (σ : St) (t : TypeId) (a : A) : Option A :=
  match a with
  | .ref n off => match nthO σ.H n with | some (.box cs) => loadC P t (cs.drop off) | _ => none
  | _ => none
def rawA (P : Program) (σ : St) : ResultVar → Option A
  | .tmp t => some (look σ.s t)
  | .cell a t => rawC P σ t (look σ.s a)
def rawL (P : Program) (σ : St) : List ResultVar → Option (List A)
  | [] => some []
  | r :: rs => (rawA P σ r).bind fun x => (rawL P σ rs).map (x :: ·)
/-- What a body comes to that is called with its objects. -/
def bodyH (P : Program) (fn : Func) (r : A) (H' : List Obj) (e : Ex) (σ : St) : Prop :=
  match e with
  | .exit _ => False
  | _ => K? (rawL P σ fn.results.toList) (fun rs => resOf rs = r ∧ r.under H'.length = true ∧ leH H'.length σ.H H')

def number : Nat → List A → List (Nat × A)
  | _, [] => []
  | n, x :: xs => (n, x) :: number (n + 1) xs
def startA (args : List A) : St := { s := number 0 args, H := [] }
def startH (args : List A) (H : List Obj) : St := { s := number 0 args, H := H }

end Go.Abs
