/- What the laws of this claim rest on: the abstract executor, its soundness, and what the functions compute on pure data. No condition. -/
import Derived.Test.YthiedimbmcgpdaaU3
import Derived.Shelf.Strings.OnBuilder
import Derived.Shelf.Strings.Split
import Derived.Shelf.Small.Strs
import Derived.Shelf.Strings.IndexAnyAll
import Derived.Ground.NamesProg
import Derived.Test.YthiedimbmcgpdaaProg
import Derived.Test.YthiedimbmcgpdaaChecked
import Derived.Laws.RangeString
import Derived.Lib.IndexAny
import Derived.Lib.IndexBytes
import Derived.Laws.Runes
import Derived.Deep.LoopGhost
import Derived.WalkKit
import Derived.WalkSpells
import Derived.BigCall
import Derived.BigGuard
import Derived.Deep.QuietTactic
import Derived.BigQuiet
import Derived.WalkMore
import Derived.WalkSmall
set_option linter.unusedVariables false
set_option linter.unusedSimpArgs false
namespace Go.Abs
theorem wpA_mono {P : Program} {Γ : Tab} : ∀ {c : Code} {Q Q' : Ex → St → Prop} {σ : St}, (∀ e τ, Q e τ → Q' e τ) → wpA P Γ c Q σ → wpA P Γ c Q' σ := by
  intro c
  induction c with
  | skip => intro Q Q' σ h hw; simp only [wpA] at hw ⊢; exact h _ _ hw
  | label l => intro Q Q' σ h hw; simp only [wpA] at hw ⊢; exact h _ _ hw
  | exit id => intro Q Q' σ h hw; simp only [wpA] at hw ⊢; exact h _ _ hw
  | ret => intro Q Q' σ h hw; simp only [wpA] at hw ⊢; exact h _ _ hw
  | seq x y ihx ihy =>
    intro Q Q' σ h hw
    simp only [wpA] at hw ⊢
    refine ihx (fun e τ hq => ?_) hw
    cases e with
    | normal => exact ihy h hq
    | exit i => exact h _ _ hq
    | ret => exact h _ _ hq
  | cond c x y ihx ihy =>
    intro Q Q' σ h hw
    simp only [wpA, condA] at hw ⊢
    obtain ⟨t, ht, h1, h2⟩ := hw
    exact ⟨t, ht, fun e => ihx h (h1 e), fun e => ihy h (h2 e)⟩
  | block id x ih =>
    intro Q Q' σ h hw
    simp only [wpA] at hw ⊢
    refine ih (fun e τ hq => ?_) hw
    cases e with
    | normal => exact h _ _ hq
    | exit i =>
      simp only [blockQ] at hq ⊢
      split at hq
      · rename_i e; rw [if_pos e]; exact h _ _ hq
      · rename_i e; rw [if_neg e]; exact h _ _ hq
    | ret => exact h _ _ hq
  | loop x ih =>
    intro Q Q' σ h hw
    simp only [wpA] at hw ⊢
    obtain ⟨ι, inv, μ, h0, hs⟩ := hw
    refine ⟨ι, inv, μ, h0, fun i => ih (fun e τ hq => ?_) (hs i)⟩
    cases e with
    | normal => exact hq
    | exit i => exact h _ _ hq
    | ret => exact h _ _ hq
  | region id ops d =>
    intro Q Q' σ h hw
    simp only [wpA] at hw ⊢
    have key : ∀ (os : List (List Nat)) (σ : St), regO P Γ os ops Q σ → regO P Γ os ops Q' σ := fun os σ => by
      cases os with
      | nil =>
        rintro ⟨τ, hr, hq⟩
        exact ⟨τ, hr, h _ _ hq⟩
      | cons o os =>
        have key : ∀ os : List (List Nat), ordsW P Γ (dstsOf ops.toList) (annS P σ.H.length ops.toList) (pre P ops.toList σ) (Q .normal) os → ordsW P Γ (dstsOf ops.toList) (annS P σ.H.length ops.toList) (pre P ops.toList σ) (Q' .normal) os := by
          intro os
          induction os with
          | nil => exact fun h => h
          | cons o os ih => rintro ⟨⟨τ, hr, hq⟩, h2⟩; exact ⟨⟨τ, hr, h _ _ hq⟩, ih h2⟩
        exact key _
    unfold regW at hw ⊢
    cases hf : frzOf (Γ.ords id) with
    | none => rw [hf] at hw; exact key _ _ hw
    | some ρ =>
      rw [hf] at hw
      obtain ⟨H₀, h1, h2⟩ := hw
      exact ⟨H₀, h1, key _ _ h2⟩
  | _ => intro Q Q' σ _ hw; simp only [wpA] at hw
section
variable {P : Program} {Γ : Tab} {Q : Ex → St → Prop} {σ : St}
@[go_sem] theorem wpA_skip : wpA P Γ .skip Q σ = Q .normal σ := by simp only [wpA]
@[go_sem] theorem wpA_seq {a b : Code} : wpA P Γ (.seq a b) Q σ = wpA P Γ a (seqQ (wpA P Γ b) Q) σ := by simp only [wpA]
@[go_sem] theorem wpA_cond {c : Operand} {a b : Code} : wpA P Γ (.cond c a b) Q σ = condA (σ.ev c) (wpA P Γ a Q σ) (wpA P Γ b Q σ) := by simp only [wpA]
@[go_sem] theorem wpA_block {id : Nat} {c : Code} : wpA P Γ (.block id c) Q σ = wpA P Γ c (blockQ id Q) σ := by simp only [wpA]
@[go_sem] theorem wpA_exit {id : Nat} : wpA P Γ (.exit id) Q σ = Q (.exit id) σ := by simp only [wpA]
@[go_sem] theorem wpA_ret : wpA P Γ .ret Q σ = Q .ret σ := by simp only [wpA]
@[go_sem] theorem wpA_region {σs : List (Nat × A)} {σH : List Obj} {i : Nat} {ops : Array Oper} {d : Bool} : wpA P Γ (.region i ops d) Q (St.mk σs σH) = regW P Γ (Γ.ords i) ops Q (St.mk σs σH) := by simp only [wpA]
@[congr] theorem regW_congr {os os' : List (List Nat)} {ops : Array Oper} (h : os = os') : regW P Γ os ops Q σ = regW P Γ os' ops Q σ := by rw [h]
@[go_sem] theorem regW_nil {σs : List (Nat × A)} {σH : List Obj} {ops : Array Oper} : regW P Γ [] ops Q (St.mk σs σH) = K? (runSeq P Γ (dstsOf ops.toList) ops.toList σH.length (pre P ops.toList (St.mk σs σH))) (Q .normal) := rfl
@[go_sem] theorem regW_cons {σs : List (Nat × A)} {σH : List Obj} {ops : Array Oper} {t : Nat} {o : List Nat} {os : List (List Nat)} (h : t ≠ 999999) : regW P Γ ((t :: o) :: os) ops Q (St.mk σs σH) = ordsW P Γ (dstsOf ops.toList) (annS P σH.length ops.toList) (pre P ops.toList (St.mk σs σH)) (Q .normal) ((t :: o) :: os) := by
  unfold regW frzOf ordOf; simp only [if_neg h]; rfl
@[go_sem] theorem ordsW_nil {ds : List (Option Tmp)} {B : List (Nat × Oper)} {q : St → Prop} : ordsW P Γ ds B σ q [] = True := rfl
@[go_sem] theorem ordsW_cons {ds : List (Option Tmp)} {B : List (Nat × Oper)} {q : St → Prop} {o : List Nat} {os : List (List Nat)} : ordsW P Γ ds B σ q (o :: os) = (K? (runO P Γ ds B o σ) q ∧ ordsW P Γ ds B σ q os) := rfl
@[go_sem] theorem annS_nil {n : Nat} : annS P n [] = [] := rfl
@[go_sem] theorem annS_cons {n : Nat} {o : Oper} {os : List Oper} : annS P n (o :: os) = (n, o) :: annS P (nxt P o.op n) os := rfl
@[go_sem] theorem nthA_zero {x : Nat × Oper} {xs : List (Nat × Oper)} : nthA (x :: xs) 0 = some x := rfl
@[go_sem] theorem nthA_succ {x : Nat × Oper} {xs : List (Nat × Oper)} {i : Nat} : nthA (x :: xs) (i + 1) = nthA xs i := rfl
@[congr] theorem runO_congr {ds : List (Option Tmp)} {B B' : List (Nat × Oper)} {is : List Nat} {σ' : St} (hB : B = B') (h : σ = σ') : runO P Γ ds B is σ = runO P Γ ds B' is σ' := by rw [hB, h]
@[congr] theorem wpA_congr {c : Code} {σ' : St} (h : σ = σ') : wpA P Γ c Q σ = wpA P Γ c Q σ' := by rw [h]
@[go_sem] theorem seqQ_normal {W : (Ex → St → Prop) → St → Prop} : seqQ W Q .normal σ = W Q σ := rfl
@[go_sem] theorem seqQ_exit {W : (Ex → St → Prop) → St → Prop} {i : Nat} : seqQ W Q (.exit i) σ = Q (.exit i) σ := rfl
@[go_sem] theorem seqQ_ret {W : (Ex → St → Prop) → St → Prop} : seqQ W Q .ret σ = Q .ret σ := rfl
@[go_sem] theorem blockQ_normal {id : Nat} : blockQ id Q .normal σ = Q .normal σ := rfl
@[go_sem] theorem blockQ_exit {id i : Nat} : blockQ id Q (.exit i) σ = if i = id then Q .normal σ else Q (.exit i) σ := rfl
@[go_sem] theorem blockQ_ret {id : Nat} : blockQ id Q .ret σ = Q .ret σ := rfl
@[go_sem] theorem loopQ_normal {N : St → Prop} : loopQ N Q .normal σ = N σ := rfl
@[go_sem] theorem loopQ_exit {N : St → Prop} {i : Nat} : loopQ N Q (.exit i) σ = Q (.exit i) σ := rfl
@[go_sem] theorem loopQ_ret {N : St → Prop} : loopQ N Q .ret σ = Q .ret σ := rfl
@[congr] theorem seqQ_congr {W : (Ex → St → Prop) → St → Prop} {e e' : Ex} {σ' : St} (h : e = e') (h' : σ = σ') : seqQ W Q e σ = seqQ W Q e' σ' := by rw [h, h']
@[congr] theorem blockQ_congr {id : Nat} {e e' : Ex} {σ' : St} (h : e = e') (h' : σ = σ') : blockQ id Q e σ = blockQ id Q e' σ' := by rw [h, h']
@[congr] theorem loopQ_congr {N : St → Prop} {e e' : Ex} {σ' : St} (h : e = e') (h' : σ = σ') : loopQ N Q e σ = loopQ N Q e' σ' := by rw [h, h']
@[go_sem high] theorem condA_true {p q : Prop} : condA (.bool true) p q = p := by simp [condA]
@[go_sem high] theorem condA_false {p q : Prop} : condA (.bool false) p q = q := by simp [condA]
@[go_sem] theorem condA_bool {b : Bool} {p q : Prop} : condA (.bool b) p q = ((b = true → p) ∧ (b = false → q)) := by
  simp [condA]
@[go_sem ↓ high] theorem condA_true' {p q : Prop} : condA (.bool true) p q = p := by simp [condA]
@[go_sem ↓ high] theorem condA_false' {p q : Prop} : condA (.bool false) p q = q := by simp [condA]
@[congr] theorem condA_congr {c c' : A} {p q : Prop} (h : c = c') : condA c p q = condA c' p q := by rw [h]
end
section
variable {α β : Type}
@[go_sem high] theorem K_some {x : α} {q : α → Prop} : K? (some x) q = q x := by simp [K?]
@[go_sem] theorem K_bind {o : Option α} {f : α → Option β} {q : β → Prop} : K? (o.bind f) q = K? o (fun x => K? (f x) q) := by
  cases o <;> simp [K?]
@[go_sem] theorem K_map {o : Option α} {f : α → β} {q : β → Prop} : K? (o.map f) q = K? o (fun x => q (f x)) := by
  cases o <;> simp [K?]
@[go_sem high] theorem K_ite_none {c : Prop} [Decidable c] {a : Option α} {q : α → Prop} : K? (if c then a else none) q = (c ∧ K? a q) := by
  split <;> simp_all [K?]
@[go_sem ↓ high] theorem K_some' {x : α} {q : α → Prop} : K? (some x) q = q x := by simp [K?]
@[congr] theorem K_congr {o o' : Option α} {q : α → Prop} (h : o = o') : K? o q = K? o' q := by rw [h]
@[go_sem] theorem K_getElem {l : List α} {i : Nat} {q : α → Prop} (h : i < l.length) : K? l[i]? q = q l[i] := by
  simp [K?, h]
end
section
variable {P : Program} {Γ : Tab} {σ : St} {n : Nat} {d : Option Tmp} {ds : List (Option Tmp)} {q : St → Prop}
@[go_sem] theorem K_runSeq_nil {n : Nat} : K? (runSeq P Γ ds [] n σ) q = q σ := by simp [runSeq, K?]
@[go_sem] theorem K_runSeq_cons {o : Oper} {os : List Oper} {n : Nat} : K? (runSeq P Γ ds (o :: os) n σ) q = K? (exec1 P Γ ds n o σ) (fun τ => K? (runSeq P Γ ds os (nxt P o.op n) τ) q) := by
  simp only [runSeq, K_bind]
@[go_sem] theorem K_runO_nil {B : List (Nat × Oper)} : K? (runO P Γ ds B [] σ) q = q σ := by simp [runO, K?]
@[go_sem] theorem K_runO_cons {B : List (Nat × Oper)} {i : Nat} {is : List Nat} : K? (runO P Γ ds B (i :: is) σ) q = K? (nthA B i) (fun x => K? (exec1 P Γ ds x.1 x.2 σ) (fun τ => K? (runO P Γ ds B is τ) q)) := by
  simp only [runO, K_bind]
@[go_sem] theorem pre_nil : pre P [] σ = σ := rfl
@[go_sem] theorem pre_cons {o : Oper} {os : List Oper} : pre P (o :: os) σ = pre P os (grow P o.op σ) := rfl
@[congr] theorem pre_congr {os : List Oper} {σ' : St} (h : σ = σ') : pre P os σ = pre P os σ' := by rw [h]
@[congr] theorem runSeq_congr {os : List Oper} {σ' : St} {n n' : Nat} (h : σ = σ') (h' : n = n') : runSeq P Γ ds os n σ = runSeq P Γ ds os n' σ' := by rw [h, h']
@[congr] theorem exec1_congr {o : Oper} {n' : Nat} {σ' : St} (hn : n = n') (h : σ = σ') : exec1 P Γ ds n o σ = exec1 P Γ ds n' o σ' := by rw [h, hn]
@[go_sem] theorem exec1_plain {op : Op} {t : TypeId} {p : String} {af : Array Edge} : exec1 P Γ ds n ⟨d, op, t, p, af, none⟩ σ = execOp P Γ n d op σ := by
  simp [exec1, wantA]
def guardA (b : A) (want : Bool) (x y : Option St) : Option St :=
  match b with
  | .bool b => if (b == want) = true then x else y
  | .any => none
  | _ => y
@[go_sem] theorem exec1_guard {σs : List (Nat × A)} {σH : List Obj} {op : Op} {t : TypeId} {p : String} {af : Array Edge} {j : Nat} {w : Bool} :
    exec1 P Γ ds n ⟨d, op, t, p, af, some (j, w)⟩ (St.mk σs σH) = (match nthD ds j with | some t => guardA (look σs t) w (execOp P Γ n d op (St.mk σs σH)) (some ((St.mk σs σH).put d (.tup []))) | none => some ((St.mk σs σH).put d (.tup []))) := by
  simp only [exec1, wantA]
  cases nthD ds j with
  | none => simp
  | some t => simp only []; cases look σs t <;> simp [guardA]
@[go_sem] theorem guardA_bool {b w : Bool} {x y : Option St} : guardA (.bool b) w x y = if (b == w) = true then x else y := rfl
@[go_sem] theorem guardA_undef {w : Bool} {x y : Option St} : guardA (.tup []) w x y = y := rfl
@[go_sem] theorem nthD_zero {x : Option Tmp} {xs : List (Option Tmp)} : nthD (x :: xs) 0 = x := rfl
@[go_sem] theorem nthD_succ {x : Option Tmp} {xs : List (Option Tmp)} {m : Nat} : nthD (x :: xs) (m + 1) = nthD xs m := rfl
@[go_sem] theorem dstsOf_nil : dstsOf [] = [] := rfl
@[go_sem] theorem dstsOf_cons {o : Oper} {os : List Oper} : dstsOf (o :: os) = o.dst :: dstsOf os := rfl
variable {x y z : Operand} {t u : TypeId} {k : Nat}
@[go_sem] theorem grow_move : grow P (.move x) σ = σ := rfl
@[go_sem] theorem nxt_move {n : Nat} : nxt P (.move x) n = n := rfl
@[go_sem] theorem grow_assign : grow P (.assign x) σ = σ := rfl
@[go_sem] theorem nxt_assign {n : Nat} : nxt P (.assign x) n = n := rfl
@[go_sem] theorem grow_pick : grow P (.pick x y z) σ = σ := rfl
@[go_sem] theorem nxt_pick {n : Nat} : nxt P (.pick x y z) n = n := rfl
@[go_sem] theorem grow_build {ps : Array (Nat × Operand)} : grow P (.build t ps) σ = σ := rfl
@[go_sem] theorem nxt_build {ps : Array (Nat × Operand)} {n : Nat} : nxt P (.build t ps) n = n := rfl
@[go_sem] theorem grow_buildSlice {ps : Array (Nat × Operand)} : grow P (.buildSlice t k ps) σ = σ := rfl
@[go_sem] theorem nxt_buildSlice {ps : Array (Nat × Operand)} {n : Nat} : nxt P (.buildSlice t k ps) n = n := rfl
@[go_sem] theorem grow_load : grow P (.load t x) σ = σ := rfl
@[go_sem] theorem nxt_load {n : Nat} : nxt P (.load t x) n = n := rfl
@[go_sem] theorem grow_store : grow P (.store t x y) σ = σ := rfl
@[go_sem] theorem nxt_store {n : Nat} : nxt P (.store t x y) n = n := rfl
@[go_sem] theorem grow_nilCheck : grow P (.nilCheck x) σ = σ := rfl
@[go_sem] theorem nxt_nilCheck {n : Nat} : nxt P (.nilCheck x) n = n := rfl
@[go_sem] theorem grow_binOp {o : BinOp} : grow P (.binOp o t x y u) σ = σ := rfl
@[go_sem] theorem nxt_binOp {o : BinOp} {n : Nat} : nxt P (.binOp o t x y u) n = n := rfl
@[go_sem] theorem grow_unOp {o : UnOp} : grow P (.unOp o t x) σ = σ := rfl
@[go_sem] theorem nxt_unOp {o : UnOp} {n : Nat} : nxt P (.unOp o t x) n = n := rfl
@[go_sem] theorem grow_slice {l h m : Option Operand} : grow P (.slice t x l h m) σ = σ := rfl
@[go_sem] theorem nxt_slice {l h m : Option Operand} {n : Nat} : nxt P (.slice t x l h m) n = n := rfl
@[go_sem] theorem grow_fieldAddr : grow P (.fieldAddr t x k) σ = σ := rfl
@[go_sem] theorem nxt_fieldAddr {n : Nat} : nxt P (.fieldAddr t x k) n = n := rfl
@[go_sem] theorem grow_indexAddr : grow P (.indexAddr t x y) σ = σ := rfl
@[go_sem] theorem nxt_indexAddr {n : Nat} : nxt P (.indexAddr t x y) n = n := rfl
@[go_sem] theorem grow_index : grow P (.index t x y) σ = σ := rfl
@[go_sem] theorem nxt_index {n : Nat} : nxt P (.index t x y) n = n := rfl
@[go_sem] theorem grow_extract : grow P (.extract x k) σ = σ := rfl
@[go_sem] theorem nxt_extract {n : Nat} : nxt P (.extract x k) n = n := rfl
@[go_sem] theorem grow_alloc {σs : List (Nat × A)} {σH : List Obj} : grow P (.alloc t) (St.mk σs σH) = ⟨σs, σH ++ [.row 0 []]⟩ := rfl
@[go_sem] theorem nxt_alloc {n : Nat} : nxt P (.alloc t) n = n + 1 := rfl
@[go_sem] theorem grow_box {σs : List (Nat × A)} {σH : List Obj} : grow P (.box t x) (St.mk σs σH) = ⟨σs, σH ++ [.row 0 []]⟩ := rfl
@[go_sem] theorem nxt_box {n : Nat} : nxt P (.box t x) n = n + 1 := rfl
@[go_sem] theorem grow_convert {σs : List (Nat × A)} {σH : List Obj} : grow P (.convert t u x) (St.mk σs σH) = if isS2B P t u = true then ⟨σs, σH ++ [.row 0 []]⟩ else (St.mk σs σH) := rfl
@[go_sem] theorem nxt_convert {n : Nat} : nxt P (.convert t u x) n = if isS2B P t u = true then n + 1 else n := rfl
@[go_sem] theorem grow_len {xs : Array Operand} {ts : Array TypeId} : grow P (.call ⟨.builtin .len, xs, ts⟩) σ = σ := rfl
@[go_sem] theorem nxt_len {xs : Array Operand} {ts : Array TypeId} {n : Nat} : nxt P (.call ⟨.builtin .len, xs, ts⟩) n = n := rfl
@[go_sem] theorem grow_min {xs : Array Operand} {ts : Array TypeId} : grow P (.call ⟨.builtin .min, xs, ts⟩) σ = σ := rfl
@[go_sem] theorem nxt_min {xs : Array Operand} {ts : Array TypeId} {n : Nat} : nxt P (.call ⟨.builtin .min, xs, ts⟩) n = n := rfl
@[go_sem] theorem grow_append {σs : List (Nat × A)} {σH : List Obj} {xs : Array Operand} {ts : Array TypeId} : grow P (.call ⟨.builtin .append, xs, ts⟩) (St.mk σs σH) = ⟨σs, σH ++ [.row 0 []]⟩ := rfl
@[go_sem] theorem nxt_append {xs : Array Operand} {ts : Array TypeId} {n : Nat} : nxt P (.call ⟨.builtin .append, xs, ts⟩) n = n + 1 := rfl
@[go_sem] theorem grow_call {xs : Array Operand} {ts : Array TypeId} : grow P (.call ⟨.value x, xs, ts⟩) σ = σ := rfl
@[go_sem] theorem nxt_call {xs : Array Operand} {ts : Array TypeId} {n : Nat} : nxt P (.call ⟨.value x, xs, ts⟩) n = n := rfl
@[go_sem] theorem ex_move : execOp P Γ n d (.move x) σ = some (σ.put d (σ.ev x)) := rfl
@[go_sem] theorem ex_assign : execOp P Γ n d (.assign x) σ = some (σ.put d (σ.ev x)) := rfl
@[go_sem] theorem ex_pick : execOp P Γ n d (.pick x y z) σ = (pickA (σ.ev x) (σ.ev y) (σ.ev z)).map (σ.put d ·) := rfl
@[go_sem] theorem ex_build {ps : List (Nat × Operand)} : execOp P Γ n d (.build t ⟨ps⟩) σ = (buildA P t σ ps).map (σ.put d ·) := rfl
@[go_sem] theorem ex_buildSlice {ps : List (Nat × Operand)} : execOp P Γ n d (.buildSlice t k ⟨ps⟩) σ = (buildSliceA P t k σ ps).map (σ.put d ·) := rfl
@[go_sem] theorem ex_load {σs : List (Nat × A)} {σH : List Obj} : execOp P Γ n d (.load t x) (St.mk σs σH) = (loadA P t σH ((St.mk σs σH).ev x)).map ((St.mk σs σH).put d ·) := rfl
@[go_sem] theorem ex_nilCheck : execOp P Γ n d (.nilCheck x) σ = (nilCheckA (σ.ev x)).map (σ.put d ·) := rfl
@[go_sem] theorem ex_binOp {o : BinOp} : execOp P Γ n d (.binOp o t x y u) σ = (binA (eqTy P t) (tyBool P t) (tyPtr P t) (tyElem P t).isSome o (σ.ev x) (σ.ev y)).map (σ.put d ·) := rfl
@[go_sem] theorem ex_unOp {o : UnOp} : execOp P Γ n d (.unOp o t x) σ = (unA o (σ.ev x)).map (σ.put d ·) := rfl
@[go_sem] theorem ex_slice {l h m : Option Operand} : execOp P Γ n d (.slice t x l h m) σ = (if (tyArr P t).isNone = true ∧ (σ.bd l).ok = true ∧ (σ.bd h).ok = true then sliceA (tyStr P t) (elSize P t) (σ.ev x) (σ.bd l) (σ.bd h) (σ.bd m) else none).map (σ.put d ·) := rfl
@[go_sem] theorem ex_fieldAddr : execOp P Γ n d (.fieldAddr t x k) σ = (fieldAddrI (fieldInfo P t k) (σ.ev x)).map (σ.put d ·) := rfl
@[go_sem] theorem ex_indexAddr : execOp P Γ n d (.indexAddr t x y) σ = (indexAddrA P t (σ.ev x) (σ.ev y)).map (σ.put d ·) := rfl
@[go_sem] theorem ex_index : execOp P Γ n d (.index t x y) σ = (indexA P t (σ.ev x) (σ.ev y)).map (σ.put d ·) := rfl
@[go_sem] theorem ex_extract : execOp P Γ n d (.extract x k) σ = (extractA (σ.ev x) k).map (σ.put d ·) := rfl
@[go_sem] theorem ex_alloc : execOp P Γ n d (.alloc t) σ = allocA σ n d (zeroA P t) := rfl
@[go_sem] theorem ex_box : execOp P Γ n d (.box t x) σ = boxA σ n d (σ.ev x) := rfl
@[go_sem] theorem ex_store : execOp P Γ n d (.store t x y) σ = storeA σ d (tySize P t) (σ.ev x) (σ.ev y) := rfl
@[go_sem] theorem ex_convert : execOp P Γ n d (.convert t u x) σ = convX P σ n d t u (σ.ev x) := rfl
@[go_sem] theorem ex_len : execOp P Γ n d (.call ⟨.builtin .len, ⟨[x]⟩, ⟨[t]⟩⟩) σ = (lenA P t (σ.ev x)).map (σ.put d ·) := rfl
@[go_sem] theorem ex_min {xs : List Operand} {ts : Array TypeId} : execOp P Γ n d (.call ⟨.builtin .min, ⟨xs⟩, ts⟩) σ = (minA (σ.evL xs)).map (σ.put d ·) := rfl
@[go_sem] theorem ex_append : execOp P Γ n d (.call ⟨.builtin .append, ⟨[x, y]⟩, ⟨[t, u]⟩⟩) σ = appendX P Γ.fix σ n d t u (σ.ev x) (σ.ev y) := rfl
@[go_sem] theorem ex_call {xs : List Operand} {ts : Array TypeId} : execOp P Γ n d (.call ⟨.value x, ⟨xs⟩, ts⟩) σ = if isEff Γ x = true then callHV Γ σ d (σ.ev x) (σ.evL xs) else callV Γ σ d (σ.ev x) (σ.evL xs) := rfl
@[go_sem] theorem isEff_func {f : FuncId} : isEff Γ (.func f) = Γ.eff f := rfl
@[go_sem] theorem ev_tmp {σs : List (Nat × A)} {σH : List Obj} {i : Nat} : (St.mk σs σH).ev (.tmp i) = look σs i := rfl
@[go_sem] theorem ev_const {v : Value} : σ.ev (.const v) = toA v := rfl
@[go_sem] theorem ev_func {f : FuncId} : σ.ev (.func f) = .fn f [] := rfl
@[go_sem] theorem evL_nil : σ.evL [] = [] := rfl
@[go_sem] theorem evL_cons {xs : List Operand} : σ.evL (x :: xs) = σ.ev x :: σ.evL xs := rfl
@[go_sem] theorem put_some {σs : List (Nat × A)} {σH : List Obj} {v : A} {i : Nat} : (St.mk σs σH).put (some i) v = ⟨(i, v) :: σs, σH⟩ := rfl
@[go_sem] theorem put_none {v : A} : σ.put none v = σ := rfl
@[go_sem] theorem bd_none : σ.bd none = .none := rfl
@[go_sem] theorem bd_some : σ.bd (some x) = bdOf (σ.ev x) := rfl
@[go_sem] theorem bdOf_int {i : IntKind} {m : Int} : bdOf (.int i m) = .some m := rfl
@[go_sem] theorem Bd_get_none {m : Int} : Bd.get m .none = m := rfl
@[go_sem] theorem Bd_get_some {m r : Int} : Bd.get m (.some r) = r := rfl
@[go_sem] theorem Bd_ok_none : Bd.ok .none = true := rfl
@[go_sem] theorem Bd_ok_some {r : Int} : Bd.ok (.some r) = true := rfl
@[go_sem] theorem look_cons {i j : Nat} {v : A} {r : List (Nat × A)} : look ((i, v) :: r) j = if i = j then v else look r j := rfl
@[go_sem] theorem setH_eq {σs : List (Nat × A)} {σH : List Obj} {o : Obj} : (St.mk σs σH).setH n o = ⟨σs, setO σH n o⟩ := rfl
@[go_sem] theorem setO_zero {a b : Obj} {r : List Obj} : setO (a :: r) 0 b = b :: r := rfl
@[go_sem] theorem setO_succ {a b : Obj} {r : List Obj} : setO (a :: r) (n + 1) b = a :: setO r n b := rfl
@[go_sem] theorem nthO_zero {a : Obj} {r : List Obj} : nthO (a :: r) 0 = some a := rfl
@[go_sem] theorem nthO_succ {a : Obj} {r : List Obj} : nthO (a :: r) (n + 1) = nthO r n := rfl
@[go_sem] theorem setNth_zero {a b : A} {r : List A} : setNth (a :: r) 0 b = b :: r := rfl
@[go_sem] theorem setNth_succ {a b : A} {r : List A} : setNth (a :: r) (n + 1) b = a :: setNth r n b := rfl
end
section
variable {a b c : A} {cs ds es : List A} {k n i : Nat} {q : IntKind} {m r : Int} {s s' : List UInt8} {H : List Obj} {P : Program} {t u : TypeId} {p e : Bool} {σ : St} {d : Option Tmp} {kl : List CK} {ko : Option (List CK)} {sl k0 : Bool}
@[go_sem] theorem toA_int : toA (.int q m) = .int q m := rfl
@[go_sem] theorem toA_bool : toA (.bool p) = .bool p := rfl
@[go_sem] theorem toA_str {l : List UInt8} : toA (.string ⟨⟨l⟩⟩) = .str l := rfl
@[go_sem] theorem toA_nils : toA (.slice none 0 0) = .nils := rfl
@[go_sem] theorem pick_bool : pickA (.bool p) a b = some (if p then a else b) := rfl
@[go_sem] theorem load_dptr : loadA P t H (.dptr cs) = loadC P t cs := rfl
@[go_sem] theorem load_ref : loadA P t H (.ref n i) = (match nthO H n with | some (.box cs) => loadC P t (cs.drop i) | _ => none) := rfl
@[go_sem] theorem load_eref : loadA P t H (.eref n i k) = (match nthO H n with | some (.row _ es) => (es[i]?).bind fun e => loadC P t (e.cells.drop k) | _ => none) := rfl
@[go_sem] theorem loadC_eq : loadC P t cs = (match tyAgg P t with | some true => (match tySize P t with | some n => if n ≤ cs.length then some (.agg (cs.take n)) else none | none => none) | some false => cs.head? | none => none) := rfl
@[go_sem] theorem nilCheck_ref : nilCheckA (.ref n i) = some (.ref n i) := rfl
@[go_sem] theorem fieldI_some {f : Nat × TypeId} : fieldAddrI (some f) a = fieldAddrA f.1 a := rfl
@[go_sem] theorem field_dptr : fieldAddrA n (.dptr cs) = some (.dptr (cs.drop n)) := rfl
@[go_sem] theorem field_ref : fieldAddrA n (.ref i k) = some (.ref i (k + n)) := rfl
@[go_sem] theorem index_str : indexA P t (.str s) (.int q m) = (if tyStr P t = true ∧ 0 ≤ m then (s[m.toNat]?).map encU8 else none) := rfl
@[go_sem] theorem index_agg : indexA P t (.agg cs) (.int q m) = (match tyArr P t with | some (n, e) => (match tySize P e with | some k => if 0 ≤ m ∧ m < n then loadC P e (cs.drop (m.toNat * k)) else none | none => none) | none => none) := rfl
@[go_sem] theorem indexAddr_int : indexAddrA P t a (.int q m) = (match tyElem P t with | some e => (match tySize P e with | some k => indexAddrE k m a | none => none) | none => (match tyArr P t with | some (n, e) => (match tySize P e with | some k => indexAddrR n k m a | none => none) | none => none)) := rfl
@[go_sem] theorem indexE_slc : indexAddrE k m (.slc es) = getE k m es := rfl
@[go_sem] theorem indexE_row {j l : Nat} : indexAddrE k m (.row n i j l p) = (if k = j ∧ 0 ≤ m ∧ m < l then some (.eref n (i + m.toNat) 0) else none) := rfl
@[go_sem] theorem getE_eq : getE k m es = (if 0 ≤ m then es[m.toNat]? else none).bind fun y => if k = y.cells.length then some (.dptr y.cells) else none := rfl
@[go_sem] theorem extract_tup : extractA (.tup cs) n = cs[n]? := rfl
@[go_sem] theorem len_str : lenA P t (.str s) = if tyStr P t = true then some (.int .i64 s.length) else none := rfl
@[go_sem] theorem len_slc : lenA P t (.slc es) = if (tyElem P t).isSome = true then some (.int .i64 es.length) else none := rfl
@[go_sem] theorem len_row {j : Nat} : lenA P t (.row n i j k p) = if (tyElem P t).isSome = true then some (.int .i64 k) else none := rfl
@[go_sem] theorem min_int {q' : IntKind} : minA [.int q m, .int q' r] = some (.int q (if r < m then r else m)) := rfl
@[go_sem] theorem un_not : unA .not (.bool p) = some (.bool !p) := rfl
@[go_sem] theorem bin_add : binA ko p e sl .add (.int q m) (.int q r) = some (.int q (q.wrap (m + r))) := by simp [binA, binI]
@[go_sem] theorem bin_sub : binA ko p e sl .sub (.int q m) (.int q r) = some (.int q (q.wrap (m - r))) := by simp [binA, binI]
@[go_sem] theorem bin_mul : binA ko p e sl .mul (.int q m) (.int q r) = some (.int q (q.wrap (m * r))) := by simp [binA, binI]
@[go_sem] theorem bin_quo : binA ko p e sl .quo (.int q m) (.int q r) = if r = 0 then none else some (.int q (q.wrap (m.tdiv r))) := by simp [binA, binI]
@[go_sem] theorem bin_rem : binA ko p e sl .rem (.int q m) (.int q r) = if r = 0 then none else some (.int q (m.tmod r)) := by simp [binA, binI]
@[go_sem] theorem bin_eql : binA ko p e sl .eql (.int q m) (.int q r) = some (.bool (m == r)) := by simp [binA, binI]
@[go_sem] theorem bin_neq : binA ko p e sl .neq (.int q m) (.int q r) = some (.bool (m != r)) := by simp [binA, binI]
@[go_sem] theorem bin_lss : binA ko p e sl .lss (.int q m) (.int q r) = some (.bool (decide (m < r))) := by simp [binA, binI]
@[go_sem] theorem bin_leq : binA ko p e sl .leq (.int q m) (.int q r) = some (.bool (decide (m ≤ r))) := by simp [binA, binI]
@[go_sem] theorem bin_gtr : binA ko p e sl .gtr (.int q m) (.int q r) = some (.bool (decide (r < m))) := by simp [binA, binI]
@[go_sem] theorem bin_geq : binA ko p e sl .geq (.int q m) (.int q r) = some (.bool (decide (r ≤ m))) := by simp [binA, binI]
@[go_sem] theorem bin_sadd : binA ko p e sl .add (.str s) (.str s') = if s.length + s'.length ≤ 9223372036854775807 then some (.str (s ++ s')) else none := rfl
@[go_sem] theorem bin_seql : binA ko p e sl .eql (.str s) (.str s') = some (.bool (s == s')) := rfl
@[go_sem] theorem bin_sneq : binA ko p e sl .neq (.str s) (.str s') = some (.bool (s != s')) := rfl
@[go_sem] theorem bin_aeql : binA (some kl) p e sl .eql (.agg cs) (.agg ds) = if hasL kl cs = true ∧ hasL kl ds = true then (eqL cs ds).map .bool else none := rfl
@[go_sem] theorem bin_aneq : binA (some kl) p e sl .neq (.agg cs) (.agg ds) = if hasL kl cs = true ∧ hasL kl ds = true then (eqL cs ds).map (fun b => .bool !b) else none := rfl
@[go_sem] theorem hasL_nil : hasL [] [] = true := rfl
@[go_sem] theorem hasL_cons {c : CK} : hasL (c :: kl) (a :: cs) = (c.has a && hasL kl cs) := rfl
@[go_sem] theorem has_int : CK.has (.int q) (.int q m) = true := by simp [CK.has]
@[go_sem] theorem has_bool : CK.has .bool (.bool p) = true := rfl
@[go_sem] theorem has_str : CK.has .str (.str s) = true := rfl
@[go_sem] theorem eqL_nil : eqL [] [] = some true := rfl
@[go_sem] theorem eqL_cons : eqL (a :: cs) (b :: ds) = (eqA a b).bind fun x => (eqL cs ds).map (x && ·) := rfl
@[go_sem] theorem eqA_int : eqA (.int q m) (.int q r) = some (m == r) := by simp [eqA]
@[go_sem] theorem eqA_bool {x y : Bool} : eqA (.bool x) (.bool y) = some (x == y) := rfl
@[go_sem] theorem eqA_str : eqA (.str s) (.str s') = some (s == s') := rfl
@[go_sem] theorem cells_agg : A.cells (.agg cs) = cs := rfl
@[go_sem] theorem cells_int : A.cells (.int q m) = [.int q m] := rfl
@[go_sem] theorem cells_bool : A.cells (.bool p) = [.bool p] := rfl
@[go_sem] theorem cells_str : A.cells (.str s) = [.str s] := rfl
@[go_sem] theorem cells_row {j : Nat} : A.cells (.row n i k j p) = [.row n i k j p] := rfl
@[go_sem] theorem val_agg : A.val (.agg cs) = true := rfl
@[go_sem] theorem val_int : A.val (.int q m) = true := rfl
@[go_sem] theorem val_bool : A.val (.bool p) = true := rfl
@[go_sem] theorem val_str : A.val (.str s) = true := rfl
@[go_sem] theorem val_row {j : Nat} : A.val (.row n i k j p) = true := rfl
@[go_sem] theorem norm_agg : A.norm (.agg cs) = .agg (cs.map norm0) := rfl
@[go_sem] theorem norm_int : A.norm (.int q m) = .int q m := rfl
@[go_sem] theorem norm_str : A.norm (.str s) = .str s := rfl
@[go_sem] theorem norm0_int : norm0 (.int q m) = .int q m := rfl
@[go_sem] theorem norm0_str : norm0 (.str s) = .str s := rfl
@[go_sem] theorem viewL_nil : viewL H [] = some [] := rfl
@[go_sem] theorem viewL_cons : viewL H (a :: cs) = (view H a).bind fun y => (viewL H cs).map (y :: ·) := rfl
@[go_sem] theorem view0L_nil : view0L H [] = some [] := rfl
@[go_sem] theorem view0L_cons : view0L H (a :: cs) = (view0 H a).bind fun y => (view0L H cs).map (y :: ·) := rfl
@[go_sem] theorem view_agg : view H (.agg cs) = (view0L H cs).map .agg := rfl
@[go_sem] theorem view_row {j : Nat} : view H (.row n i k j p) = viewRow H n i k j := rfl
@[go_sem] theorem view_int : view H (.int q m) = some (.int q m) := rfl
@[go_sem] theorem view_bool : view H (.bool p) = some (.bool p) := rfl
@[go_sem] theorem view_str : view H (.str s) = some (.str s) := rfl
@[go_sem] theorem view_slc : view H (.slc es) = some (.slc es) := rfl
@[go_sem] theorem view_nils : view H .nils = some (.slc []) := rfl
@[go_sem] theorem view0_int : view0 H (.int q m) = some (.int q m) := rfl
@[go_sem] theorem view0_bool : view0 H (.bool p) = some (.bool p) := rfl
@[go_sem] theorem view0_str : view0 H (.str s) = some (.str s) := rfl
@[go_sem] theorem viewRow_eq {j : Nat} : viewRow H n i k j = (match nthO H n with | some (.row k' es) => if k' = k ∧ i + j ≤ es.length ∧ k ≠ 0 then some (.slc ((es.drop i).take j)) else none | _ => none) := rfl
@[go_sem] theorem pureL_nil : A.pure.pureL [] = true := rfl
@[go_sem] theorem pureL_cons : A.pure.pureL (a :: cs) = (a.pure && A.pure.pureL cs) := rfl
@[go_sem] theorem pure_agg : A.pure (.agg cs) = A.pure.pureL cs := by simp [A.pure]
@[go_sem] theorem pure_int : A.pure (.int q m) = true := by simp [A.pure]
@[go_sem] theorem pure_bool : A.pure (.bool p) = true := by simp [A.pure]
@[go_sem] theorem pure_str : A.pure (.str s) = true := by simp [A.pure]
@[go_sem] theorem pure_slc : A.pure (.slc es) = true := by simp [A.pure]
@[go_sem] theorem pure_row {j : Nat} : A.pure (.row n i k j p) = false := by simp [A.pure]
@[go_sem] theorem flat_bool : A.flat (.bool p) = true := by simp [A.flat]
@[go_sem] theorem flat_str : A.flat (.str s) = true := by simp [A.flat]
@[go_sem] theorem callHV_fn {Γ : Tab} : callHV Γ σ d (.fn n cs) ds = callH Γ σ d n (ds ++ cs) := rfl
@[go_sem] theorem callH_eq {Γ : Tab} {σs : List (Nat × A)} {σH : List Obj} : callH Γ (St.mk σs σH) d n ds = callH1 Γ (St.mk σs σH) d n ds (reach σH 64 (A.names.namesL ds) []) := rfl
@[go_sem] theorem callH1_eq {Γ : Tab} {σs : List (Nat × A)} {σH : List Obj} {ρ : List Nat} : callH1 Γ (St.mk σs σH) d n ds ρ = (A.ren.renL ρ ds).bind fun as' => (renH ρ σH ρ).bind fun H₀ =>
    if Γ.frz n = true then (if ρ.all (fun n => !Γ.fix n) = true then (viewL H₀ as').bind fun bs => (Γ.f n bs).map (callF2 (St.mk σs σH) d ρ H₀) else none)
    else (Γ.hp n as' H₀).bind fun x => if mayMove Γ ρ σH.length x.2.2 = true then some (callH2 (St.mk σs σH) d ρ x) else none := rfl
@[congr] theorem callH1_congr {Γ : Tab} {ρ ρ' : List Nat} (h : ρ = ρ') : callH1 Γ σ d n ds ρ = callH1 Γ σ d n ds ρ' := by rw [h]
@[go_sem] theorem callH2_eq {σs : List (Nat × A)} {σH : List Obj} {ρ : List Nat} {S : List Nat} : callH2 (St.mk σs σH) d ρ (a, H, S) = St.put ⟨(scrubs ρ σH.length (St.mk σs σH) S).s, backH ρ σH.length ρ H (scrubs ρ σH.length (St.mk σs σH) S).H⟩ d (a.back ρ σH.length) := rfl
@[go_sem] theorem scrubs_nil {ρ : List Nat} : scrubs ρ n σ [] = σ := rfl
@[go_sem] theorem scrubs_cons {ρ S : List Nat} : scrubs ρ n σ (i :: S) = scrubs ρ n (σ.scrub (nthN ρ n i)) S := rfl
@[go_sem] theorem backH_nil {ρ : List Nat} {os : List Obj} : backH ρ n [] os H = H ++ os.map (Obj.back ρ n) := rfl
@[go_sem] theorem backH_cons {ρ ns : List Nat} {o : Obj} {os : List Obj} : backH ρ n (i :: ns) (o :: os) H = backH ρ n ns os (setO H i (o.back ρ n)) := rfl
@[go_sem] theorem mayMove_nil {Γ : Tab} {ρ : List Nat} : mayMove Γ ρ n [] = true := rfl
@[go_sem] theorem mayMove_cons {Γ : Tab} {ρ S : List Nat} : mayMove Γ ρ n (i :: S) = (!Γ.fix (nthN ρ n i) && mayMove Γ ρ n S) := rfl
@[go_sem] theorem reach_nil {ρ : List Nat} : reach H (n + 1) [] ρ = ρ := rfl
@[go_sem] theorem reach_cons {ρ ns : List Nat} : reach H (n + 1) (i :: ns) ρ = if ρ.contains i = true then reach H n ns ρ else reach H n (namesO (nthO H i) ++ ns) (ρ ++ [i]) := rfl
@[go_sem] theorem namesO_some {o : Obj} : namesO (some o) = o.names := rfl
@[go_sem] theorem names_box : Obj.names (.box cs) = A.names.namesL cs := rfl
@[go_sem] theorem names_rowO : Obj.names (.row k cs) = [] := rfl
@[go_sem] theorem namesL_nil : A.names.namesL [] = [] := rfl
@[go_sem] theorem namesL_cons : A.names.namesL (a :: cs) = a.names ++ A.names.namesL cs := rfl
@[go_sem] theorem names_ref : A.names (.ref n i) = [n] := by simp [A.names]
@[go_sem] theorem names_row {j : Nat} : A.names (.row n i j k p) = [n] := by simp [A.names]
@[go_sem] theorem names_agg : A.names (.agg cs) = A.names.namesL cs := by simp [A.names]
@[go_sem] theorem names_tup : A.names (.tup cs) = A.names.namesL cs := by simp [A.names]
@[go_sem] theorem names_int : A.names (.int q m) = [] := by simp [A.names]
@[go_sem] theorem names_bool : A.names (.bool p) = [] := by simp [A.names]
@[go_sem] theorem names_str : A.names (.str s) = [] := by simp [A.names]
@[go_sem] theorem names_nils : A.names .nils = [] := by simp [A.names]
@[go_sem] theorem idx_cons {ρ : List Nat} : idx (i :: ρ) n = if i = n then some 0 else (idx ρ n).map (· + 1) := rfl
@[go_sem] theorem renL_nil {ρ : List Nat} : A.ren.renL ρ [] = some [] := rfl
@[go_sem] theorem renL_cons {ρ : List Nat} : A.ren.renL ρ (a :: cs) = (a.ren ρ).bind fun x => (A.ren.renL ρ cs).map (x :: ·) := rfl
@[go_sem] theorem ren_ref {ρ : List Nat} : A.ren ρ (.ref n i) = (idx ρ n).map (.ref · i) := by simp [A.ren]
@[go_sem] theorem ren_row {ρ : List Nat} {j : Nat} : A.ren ρ (.row n i j k p) = (idx ρ n).map (.row · i j k p) := by simp [A.ren]
@[go_sem] theorem ren_agg {ρ : List Nat} : A.ren ρ (.agg cs) = (A.ren.renL ρ cs).map .agg := by simp [A.ren]
@[go_sem] theorem ren_tup {ρ : List Nat} : A.ren ρ (.tup cs) = (A.ren.renL ρ cs).map .tup := by simp [A.ren]
@[go_sem] theorem ren_int {ρ : List Nat} : A.ren ρ (.int q m) = some (.int q m) := by simp [A.ren]
@[go_sem] theorem ren_bool {ρ : List Nat} : A.ren ρ (.bool p) = some (.bool p) := by simp [A.ren]
@[go_sem] theorem ren_str {ρ : List Nat} : A.ren ρ (.str s) = some (.str s) := by simp [A.ren]
@[go_sem] theorem ren_nils {ρ : List Nat} : A.ren ρ .nils = some .nils := by simp [A.ren]
@[go_sem] theorem renH_nil {ρ : List Nat} : renH ρ H [] = some [] := rfl
@[go_sem] theorem renH_cons {ρ ns : List Nat} : renH ρ H (i :: ns) = (renO ρ (nthO H i)).bind fun o => (renH ρ H ns).map (o :: ·) := rfl
@[go_sem] theorem renO_some {ρ : List Nat} {o : Obj} : renO ρ (some o) = o.ren ρ := rfl
@[go_sem] theorem renO_box {ρ : List Nat} : Obj.ren ρ (.box cs) = (A.ren.renL ρ cs).map .box := rfl
@[go_sem] theorem renO_row {ρ : List Nat} : Obj.ren ρ (.row k cs) = some (.row k cs) := rfl
@[go_sem] theorem nthN_nil : nthN [] n i = n + i := rfl
@[go_sem] theorem nthN_zero {ρ : List Nat} : nthN (i :: ρ) n 0 = i := rfl
@[go_sem] theorem nthN_succ {ρ : List Nat} : nthN (i :: ρ) n (k + 1) = nthN ρ n k := rfl
@[go_sem] theorem back_row {ρ : List Nat} {j l : Nat} : A.back ρ k (.row n i j l p) = .row (nthN ρ k n) i j l p := by simp [A.back]
@[go_sem] theorem back_tup {ρ : List Nat} : A.back ρ k (.tup cs) = .tup (A.back.backL ρ k cs) := by simp [A.back]
@[go_sem] theorem back_int {ρ : List Nat} : A.back ρ k (.int q m) = .int q m := by simp [A.back]
@[go_sem] theorem back_bool {ρ : List Nat} : A.back ρ k (.bool p) = .bool p := by simp [A.back]
@[go_sem] theorem back_str {ρ : List Nat} : A.back ρ k (.str s) = .str s := by simp [A.back]
@[go_sem] theorem backL_nil {ρ : List Nat} : A.back.backL ρ k [] = [] := rfl
@[go_sem] theorem backL_cons {ρ : List Nat} : A.back.backL ρ k (a :: cs) = a.back ρ k :: A.back.backL ρ k cs := rfl
@[go_sem] theorem backO_box {ρ : List Nat} : Obj.back ρ k (.box cs) = .box (A.back.backL ρ k cs) := rfl
@[go_sem] theorem backO_row {ρ : List Nat} : Obj.back ρ k (.row n cs) = .row n cs := rfl
@[go_sem] theorem startH_eq : startH cs H = { s := number 0 cs, H := H } := rfl
@[go_sem] theorem bodyH_ret {fn : Func} : bodyH P fn a H .ret σ = K? (rawL P σ fn.results.toList) (fun rs => resOf rs = a ∧ a.under H.length = true ∧ leH H.length σ.H H) := rfl
@[go_sem] theorem bodyH_normal {fn : Func} : bodyH P fn a H .normal σ = K? (rawL P σ fn.results.toList) (fun rs => resOf rs = a ∧ a.under H.length = true ∧ leH H.length σ.H H) := rfl
@[go_sem] theorem rawL_nil : rawL P σ [] = some [] := rfl
@[go_sem] theorem rawL_cons {v : ResultVar} {vs : List ResultVar} : rawL P σ (v :: vs) = (rawA P σ v).bind fun x => (rawL P σ vs).map (x :: ·) := rfl
@[go_sem] theorem raw_tmp {σs : List (Nat × A)} {σH : List Obj} : rawA P (St.mk σs σH) (.tmp i) = some (look σs i) := rfl
@[go_sem] theorem resOf_nil : resOf [] = .tup [] := rfl
@[go_sem] theorem callV_fn {Γ : Tab} : callV Γ σ d (.fn n cs) ds = callX Γ σ d n (ds ++ cs) := rfl
@[go_sem] theorem callX_eq {σs : List (Nat × A)} {σH : List Obj} {Γ : Tab} : callX Γ (St.mk σs σH) d n ds = (viewL σH ds).bind fun bs => (Γ.f n bs).bind fun r => if (A.pure.pureL ds || r.flat) = true then some ((St.mk σs σH).put d r) else none := rfl
@[go_sem] theorem box_eq {σs : List (Nat × A)} {σH : List Obj} : boxA (St.mk σs σH) n d a = if a.val = true then some (((St.mk σs σH).setH n (.box a.cells)).put d (.ref n 0)) else none := rfl
@[go_sem] theorem alloc_some : allocA σ n d (some a) = boxA σ n d a := rfl
@[go_sem] theorem store_ref {σs : List (Nat × A)} {σH : List Obj} {z : Option Nat} : storeA (St.mk σs σH) d z (.ref n i) a = (match nthO σH n with | some (.box cs) => if z = some a.cells.length ∧ i + a.cells.length ≤ cs.length ∧ a.val = true then some (((St.mk σs σH).setH n (.box (spliceA cs i a.cells))).put d (.tup [])) else none | _ => none) := rfl
@[go_sem] theorem splice_eq : spliceA cs i ds = cs.take i ++ ds ++ cs.drop (i + ds.length) := rfl
@[go_sem] theorem build_eq {ps : List (Nat × Operand)} : buildA P t σ ps = (match zeroA P t with | some (.agg zs) => (match tyArr P t with | some (_, e) => (if (tySize P e).isSome = true then (fillA P e σ ps zs).map .agg else none) | none => if allSized P t = true then (fillS P t σ ps zs).map .agg else none) | _ => none) := rfl
@[go_sem] theorem fillS_nil : fillS P t σ [] cs = some cs := rfl
@[go_sem] theorem fillS_cons {x : Operand} {ps : List (Nat × Operand)} : fillS P t σ ((i, x) :: ps) cs = (match fieldInfo P t i with | some (o, ft) => (fillC (tySize P ft) o (σ.ev x) cs).bind (fillS P t σ ps) | none => none) := rfl
@[go_sem] theorem fillC_some : fillC (some n) i a cs = if a.cells.length = n ∧ i + n ≤ cs.length ∧ a.val = true then some (cs.take i ++ a.cells ++ cs.drop (i + n)) else none := rfl
@[go_sem] theorem buildSlice_eq {ps : List (Nat × Operand)} : buildSliceA P t n σ ps = (match tyElem P t with | some e => (match tySize P e, zeroA P e with | some k, some z => if n * k ≤ 16777216 ∧ k ≠ 0 ∧ z.pure = true ∧ z.val = true ∧ z.cells.length = k then (fillE k σ ps (List.replicate n z.norm)).map .clip else none | _, _ => none) | none => none) := rfl
@[go_sem] theorem fillE_nil : fillE k σ [] cs = some cs := rfl
@[go_sem] theorem fillE_cons {x : Operand} {ps : List (Nat × Operand)} : fillE k σ ((i, x) :: ps) cs = if (σ.ev x).cells.length = k ∧ i < cs.length ∧ (σ.ev x).val = true ∧ (σ.ev x).pure = true then fillE k σ ps (setNth cs i (σ.ev x).norm) else none := rfl
@[go_sem] theorem appendX_eq {fx : Nat → Bool} {x : A} : appendX P fx σ n d t u a x = (match tyElem P t with | some e => (match tySize P e with | some k => if k = 0 ∨ tyBytes P e = 0 ∨ zeroOK P e k = false then none else (srcE P σ e u k x).bind fun src => appendA fx σ n d k (tyBytes P e) a src | none => none) | none => none) := rfl
@[go_sem] theorem src_clip : srcE P σ t u k (.clip es) = if strOK k es = true ∧ (tyElem P u).isSome = true then some es else none := rfl
@[go_sem] theorem strOK_eq : strOK k es = (es.isEmpty || strideOf es == k) := rfl
@[go_sem] theorem stride_cons : strideOf (a :: es) = a.cells.length := rfl
@[go_sem] theorem append_row {fx : Nat → Bool} {σs : List (Nat × A)} {σH : List Obj} {m j l : Nat} : appendA fx (St.mk σs σH) n d k i (.row m 0 j l p) es = (match nthO σH m with | some (.row k'' xs) => if j = k ∧ k'' = k ∧ l ≤ xs.length ∧ (l + es.length) * i ≤ 140737488355328 then (if p then (if es = [] then none else some (((St.mk σs σH).setH n (.row k (xs.take l ++ es))).put d (.row n 0 k (l + es.length) false))) else (if fx m = true then none else some ((((St.mk σs σH).scrub m).setH m (.row k (xs.take l ++ es))).put d (.row m 0 k (l + es.length) false)))) else none | _ => none) := rfl
@[go_sem] theorem convX_eq {σs : List (Nat × A)} {σH : List Obj} : convX P (St.mk σs σH) n d t u a = if isS2B P t u = true then (match a with | .str s => some (((St.mk σs σH).setH n (.row 1 (bytesA s))).put d (.row n 0 1 s.length false)) | _ => none) else (convA P t u σH a).map ((St.mk σs σH).put d ·) := rfl
@[go_sem] theorem conv_int : convA P t u H (.int q m) = (match tyInt P u with | some k => if (tyAgg P t).isSome = true then some (.int k (k.wrap m)) else none | none => none) := rfl
@[go_sem] theorem conv_row {j : Nat} : convA P t u H (.row n i k j p) = convB (isB2S P t u) (viewRow H n i k j) := rfl
@[go_sem] theorem slice_str {l h b : Bd} {z : Option Nat} : sliceA true z (.str s) l h b = sliceS s l h b := rfl
@[go_sem] theorem slice_row {l h b : Bd} {j f : Nat} {x : Bool} : sliceA p (some f) (.row n i k j x) l h b = if f = k then sliceR n i f j l h b else none := rfl
@[go_sem] theorem sliceS_eq {l h : Bd} : sliceS s l h .none = if 0 ≤ l.get 0 ∧ l.get 0 ≤ h.get s.length ∧ h.get s.length ≤ s.length then some (.str ((s.take (h.get s.length).toNat).drop (l.get 0).toNat)) else none := rfl
@[go_sem] theorem sliceR_eq {j : Nat} {l h : Bd} : sliceR n i k j l h .none = if 0 ≤ l.get 0 ∧ l.get 0 ≤ h.get j ∧ h.get j ≤ j then some (.row n (i + (l.get 0).toNat) k (h.get j - l.get 0).toNat false) else none := rfl
@[go_sem] theorem elSize_eq : elSize P t = (match tyElem P t with | some e => tySize P e | none => none) := rfl
@[go_sem] theorem scrub_eq {σs : List (Nat × A)} {σH : List Obj} : (St.mk σs σH).scrub n = { s := σs.map (fun p => (p.1, scrubA n p.2)), H := σH.map (scrubO n) } := rfl
@[go_sem] theorem scrubA_eq : scrubA n a = if a.mem n = true then .any else a := rfl
@[go_sem] theorem scrubO_box : scrubO n (.box cs) = .box (cs.map (scrubA n)) := rfl
@[go_sem] theorem scrubO_row : scrubO n (.row k cs) = .row k cs := rfl
@[go_sem] theorem memL_nil : A.mem.memL n [] = false := rfl
@[go_sem] theorem memL_cons : A.mem.memL n (a :: cs) = (a.mem n || A.mem.memL n cs) := rfl
@[go_sem] theorem mem_agg : A.mem n (.agg cs) = A.mem.memL n cs := by simp [A.mem]
@[go_sem] theorem mem_tup : A.mem n (.tup cs) = A.mem.memL n cs := by simp [A.mem]
@[go_sem] theorem mem_int : A.mem n (.int q m) = false := by simp [A.mem]
@[go_sem] theorem mem_bool : A.mem n (.bool p) = false := by simp [A.mem]
@[go_sem] theorem mem_str : A.mem n (.str s) = false := by simp [A.mem]
@[go_sem] theorem mem_slc : A.mem n (.slc es) = false := by simp [A.mem]
@[go_sem] theorem mem_clip : A.mem n (.clip es) = false := by simp [A.mem]
@[go_sem] theorem mem_dptr : A.mem n (.dptr es) = false := by simp [A.mem]
@[go_sem] theorem mem_any : A.mem n .any = false := by simp [A.mem]
@[go_sem] theorem mem_ref : A.mem n (.ref i k) = (i == n) := by simp [A.mem]
@[go_sem] theorem mem_row {j l : Nat} : A.mem n (.row i j k l p) = (i == n) := by simp [A.mem]
@[go_sem] theorem under_tup : A.under n (.tup cs) = A.under.underL n cs := by simp [A.under]
@[go_sem] theorem underL_nil : A.under.underL n [] = true := rfl
@[go_sem] theorem under_int : A.under n (.int q m) = true := by simp [A.under]
@[go_sem] theorem under_bool : A.under n (.bool p) = true := by simp [A.under]
@[go_sem] theorem under_str : A.under n (.str s) = true := by simp [A.under]
@[go_sem] theorem under_slc : A.under n (.slc es) = true := by simp [A.under]
@[go_sem] theorem under_ref : A.under n (.ref i k) = decide (i < n) := by simp [A.under]
@[go_sem] theorem under_row {j l : Nat} : A.under n (.row i j k l p) = decide (i < n) := by simp [A.under]
@[go_sem] theorem resL_nil : resL P σ [] = some [] := rfl
@[go_sem] theorem resL_cons {v : ResultVar} {vs : List ResultVar} : resL P σ (v :: vs) = (resA P σ v).bind fun x => (resL P σ vs).map (x :: ·) := rfl
@[go_sem] theorem res_tmp {σs : List (Nat × A)} {σH : List Obj} : resA P (St.mk σs σH) (.tmp i) = view σH (look σs i) := rfl
@[go_sem] theorem resOf_one : resOf [a] = a := rfl
@[go_sem] theorem resOf_two : resOf (a :: b :: cs) = .tup (a :: b :: cs) := rfl
@[go_sem] theorem body_ret {fn : Func} {Post : A → Prop} : bodyA P fn Post .ret σ = K? (resL P σ fn.results.toList) (fun rs => Post (resOf rs)) := rfl
@[go_sem] theorem start_eq : startA cs = { s := number 0 cs, H := [] } := rfl
@[go_sem] theorem number_nil : number n [] = [] := rfl
@[go_sem] theorem number_cons : number n (a :: cs) = (n, a) :: number (n + 1) cs := rfl
end
attribute [go_sem] List.map_cons List.map_nil List.cons_append List.nil_append List.append_nil List.length_cons List.length_nil List.replicate_succ List.replicate_zero
  List.take_succ_cons List.drop_succ_cons List.take_zero List.drop_zero List.take_nil List.drop_nil List.head?_cons List.getElem?_cons_zero List.getElem?_cons_succ List.isEmpty_cons List.isEmpty_nil List.any_cons List.any_nil List.all_cons List.all_nil
  Option.map_some Option.map_none Option.bind_some Option.bind_none Option.getD_some Option.getD_none Option.isSome_some Option.isSome_none Option.isNone_some Option.isNone_none
  ite_true ite_false Bool.false_eq_true Bool.and_true Bool.true_and Bool.and_false Bool.false_and Bool.or_true Bool.true_or Bool.or_false Bool.false_or Bool.not_true Bool.not_false
  beq_self_eq_true and_true true_and and_false false_and or_true true_or or_false false_or and_self
def keepS (s : List (Nat × A)) : List Nat → List (Nat × A)
  | [] => []
  | d :: ds => (d, look s d) :: keepS s ds
def updsH : List Obj → List (Nat × Obj) → List Obj
  | s, [] => s
  | s, (d, v) :: ds => updsH (setO s d v) ds
def headSt (σ : St) (ks : List Nat) (u : List (Nat × A)) (h : List (Nat × Obj)) : St := { s := u ++ keepS σ.s ks, H := updsH σ.H h }
theorem updsH_len : ∀ (hs : List (Nat × Obj)) (H : List Obj), (updsH H hs).length = H.length
  | [], H => rfl
  | (d, v) :: ds, H => by
    simp only [updsH]
    rw [updsH_len ds]
    clear ds
    induction H generalizing d with
    | nil => rfl
    | cons x xs ih => cases d <;> simp [setO, ih]
theorem wpA_loop {P : Program} {Γ : Tab} {c : Code} {Q : Ex → St → Prop} {σ : St} {ι : Type} (ks : List Nat) (u : ι → List (Nat × A)) (h : ι → List (Nat × Obj)) (μ : ι → Nat) (i₀ : ι) (hn : Γ.nf ≤ σ.H.length)
    (h0 : σ.le (headSt σ ks (u i₀) (h i₀)))
    (hs : ∀ i, wpA P Γ c (loopQ (fun τ => ∃ j, τ.le (headSt σ ks (u j) (h j)) ∧ μ j < μ i) Q) (headSt σ ks (u i) (h i))) : wpA P Γ (.loop c) Q σ := by
  have hl : ∀ i, Γ.nf ≤ (headSt σ ks (u i) (h i)).H.length := fun i => by
    show Γ.nf ≤ (updsH σ.H (h i)).length
    rw [updsH_len]; exact hn
  simp only [wpA]
  refine ⟨ι, fun i => headSt σ ks (u i) (h i), μ, ⟨i₀, .le (hl i₀) h0⟩, fun i => ?_⟩
  refine wpA_mono (fun e τ hq => ?_) (hs i)
  cases e with
  | normal => obtain ⟨j, h1, h2⟩ := hq; exact ⟨j, .le (hl j) h1, h2⟩
  | exit id => exact hq
  | ret => exact hq
theorem wpA_loop_nil {P : Program} {Γ : Tab} {c : Code} {Q : Ex → St → Prop} {σ : St} (d k : Nat) (hd : look σ.s d = .nils)
    (hw : wpA P Γ (.loop c) Q ⟨(d, .row σ.H.length 0 k 0 false) :: σ.s, σ.H ++ [.row k []]⟩) : wpA P Γ (.loop c) Q σ := by
  simp only [wpA] at hw ⊢
  obtain ⟨ι, inv, μ, ⟨i, hi⟩, hs⟩ := hw
  exact ⟨ι, inv, μ, ⟨i, .nil d k hd hi⟩, hs⟩
section
variable {σ τ : St} {s : List (Nat × A)} {ks : List Nat} {H G : List Obj} {d n k : Nat} {v a b : A} {o p : Obj} {cs ds : List A}
@[go_sem] theorem keepS_nil : keepS s [] = [] := rfl
@[go_sem] theorem keepS_cons : keepS s (d :: ks) = (d, look s d) :: keepS s ks := rfl
@[go_sem] theorem updsH_nil : updsH H [] = H := rfl
@[go_sem] theorem updsH_cons {hs : List (Nat × Obj)} : updsH H ((n, o) :: hs) = updsH (setO H n o) hs := rfl
@[go_sem] theorem head_eq {σs : List (Nat × A)} {σH : List Obj} {u : List (Nat × A)} {hs : List (Nat × Obj)} : headSt (St.mk σs σH) ks u hs = { s := u ++ keepS σs ks, H := updsH σH hs } := rfl
@[go_sem] theorem le_eq {s r : List (Nat × A)} {H G : List Obj} : (St.mk s H).le ⟨r, G⟩ = (leS G.length s r ∧ leH G.length H G) := rfl
@[go_sem] theorem leS_nil : leS n s [] = True := rfl
@[go_sem] theorem leS_cons {r : List (Nat × A)} : leS n s ((d, v) :: r) = ((look s d = v ∧ v.under n = true) ∧ leS n s r) := rfl
@[go_sem] theorem leH_nil : leH n [] [] = True := by simp [leH]
@[go_sem] theorem leH_nil' : leH n (o :: H) [] = True := by simp [leH]
@[go_sem] theorem leH_cons : leH n (o :: H) (p :: G) = (leO n o p ∧ leH n H G) := by simp [leH]
@[go_sem] theorem leO_box : leO n (.box cs) (.box ds) = leL n cs ds := by simp [leO]
@[go_sem] theorem leO_row {j : Nat} : leO n (.row k cs) (.row j ds) = (k = j ∧ cs = ds) := by simp [leO]
@[go_sem] theorem leL_nil : leL n [] [] = True := by simp [leL]
@[go_sem] theorem leL_cons : leL n (a :: cs) (b :: ds) = ((b = .any ∨ (a = b ∧ b.under n = true)) ∧ leL n cs ds) := by simp [leL]
end
attribute [go_sem] A.int.injEq A.bool.injEq A.str.injEq A.slc.injEq A.agg.injEq A.ref.injEq A.row.injEq A.tup.injEq A.fn.injEq
end Go.Abs
namespace Go.Abs
def tab0 : Tab := ⟨fun _ _ => none, fun _ _ _ => none, fun _ => false, fun _ => false, false, fun _ => false, 0, fun _ => []⟩
theorem tab0_ok (P : Program) : TabOK P tab0 := ⟨(fun _ _ _ h => by cases h), (fun _ _ _ _ _ _ h => by cases h)⟩
def Tab.add (Γ : Tab) (g : FuncId) (e : List A → Option A) : Tab := { Γ with f := fun h xs => if h = g then e xs else Γ.f h xs }
def Tab.addH (Γ : Tab) (g : FuncId) (e : List A → List Obj → Option (A × List Obj × List Nat)) : Tab := { Γ with hp := fun h xs H => if h = g then e xs H else Γ.hp h xs H }
abbrev Tab.pl (Γ Γ' : Tab) : Prop := (∀ g, Γ.eff g = false) ∧ (∀ g, Γ.frz g = false) ∧ Γ.effT = false ∧ (∀ n, Γ.fix n = false) ∧ Γ.nf = 0 ∧ (∀ n, Γ.ords n = []) ∧ Γ.hp = Γ'.hp
theorem Tab.add_eq {Γ : Tab} {g : FuncId} {e : List A → Option A} {xs : List A} : (Γ.add g e).f g xs = e xs := if_pos rfl
theorem Tab.add_ne {Γ : Tab} {g h : FuncId} {e : List A → Option A} {xs : List A} (hn : h ≠ g) : (Γ.add g e).f h xs = Γ.f h xs := if_neg hn
section
variable {P : Program} {Γ : Tab} {g : FuncId}
theorem TabOK.add (h : TabOK P Γ) {e : List A → Option A} (hc : Callable P g) (he : ∀ xs r, e xs = some r → CallA P g xs (· = r)) : TabOK P (Γ.add g e) where
  f := fun f xs r hr => by
    simp only [Tab.add] at hr
    split at hr
    · rename_i e; subst e; exact ⟨hc, he xs r hr⟩
    · exact h.f f xs r hr
  hp := h.hp
theorem TabOK.addH (h : TabOK P Γ) {e : List A → List Obj → Option (A × List Obj × List Nat)} (hc : Callable P g) (he : ∀ xs H r H' S, e xs H = some (r, H', S) → CallH P g xs H r H' S) : TabOK P (Γ.addH g e) where
  f := h.f
  hp := fun f xs H r H' S hr => by
    simp only [Tab.addH] at hr
    split at hr
    · rename_i e; subst e; exact ⟨hc, he xs H r H' S hr⟩
    · exact h.hp f xs H r H' S hr
end
open Classical in
noncomputable def entry {ι : Type} (enc : ι → List A) (ok : ι → Prop) (spec : ι → A) : List A → Option A := fun xs => if h : ∃ i, enc i = xs ∧ ok i then some (spec (Classical.choose h)) else none
theorem entry_ok {P : Program} {g : FuncId} {ι : Type} {enc : ι → List A} {ok : ι → Prop} {spec : ι → A} (h : ∀ i, ok i → CallA P g (enc i) (· = spec i)) : ∀ xs r, entry enc ok spec xs = some r → CallA P g xs (· = r) := fun xs r hr => by
  unfold entry at hr
  split at hr
  · rename_i hx
    obtain ⟨h1, h2⟩ := Classical.choose_spec hx
    obtain rfl := Option.some.inj hr
    have := h _ h2
    rw [h1] at this
    exact this
  · cases hr
theorem entry_eq {ι : Type} {enc : ι → List A} {ok : ι → Prop} {spec : ι → A} (hi : ∀ i j, enc i = enc j → i = j) (i : ι) (h : ok i) : entry enc ok spec (enc i) = some (spec i) := by
  have hx : ∃ j, enc j = enc i ∧ ok j := ⟨i, rfl, h⟩
  unfold entry
  rw [dif_pos hx]
  rw [hi _ _ (Classical.choose_spec hx).1]
theorem Tab.ent_eq {Γ : Tab} {g : FuncId} {ι : Type} {enc : ι → List A} {ok : ι → Prop} {spec : ι → A} (hi : ∀ i j, enc i = enc j → i = j) (i : ι) (h : ok i) : (Γ.add g (entry enc ok spec)).f g (enc i) = some (spec i) :=
  Tab.add_eq.trans (entry_eq hi i h)
open Classical in
noncomputable def entryH {ι : Type} (enc : ι → List A) (obs : ι → List Obj) (ok : ι → Prop) (spec : ι → A × List Obj × List Nat) : List A → List Obj → Option (A × List Obj × List Nat) := fun xs H =>
  if h : ∃ i, (enc i = xs ∧ obs i = H) ∧ ok i then some (spec (Classical.choose h)) else none
theorem entryH_ok {P : Program} {g : FuncId} {ι : Type} {enc : ι → List A} {obs : ι → List Obj} {ok : ι → Prop} {spec : ι → A × List Obj × List Nat} (h : ∀ i, ok i → CallH P g (enc i) (obs i) (spec i).1 (spec i).2.1 (spec i).2.2) :
    ∀ xs H r H' S, entryH enc obs ok spec xs H = some (r, H', S) → CallH P g xs H r H' S := fun xs H r H' S hr => by
  unfold entryH at hr
  split at hr
  · rename_i hx
    obtain ⟨⟨h1, h1'⟩, h2⟩ := Classical.choose_spec hx
    have hs := Option.some.inj hr
    have := h _ h2
    rw [h1, h1', hs] at this
    exact this
  · cases hr
theorem entryH_eq {ι : Type} {enc : ι → List A} {obs : ι → List Obj} {ok : ι → Prop} {spec : ι → A × List Obj × List Nat} (hi : ∀ i j, enc i = enc j → obs i = obs j → i = j) (i : ι) (h : ok i) : entryH enc obs ok spec (enc i) (obs i) = some (spec i) := by
  have hx : ∃ j, (enc j = enc i ∧ obs j = obs i) ∧ ok j := ⟨i, ⟨rfl, rfl⟩, h⟩
  unfold entryH
  rw [dif_pos hx]
  rw [hi _ _ (Classical.choose_spec hx).1.1 (Classical.choose_spec hx).1.2]
theorem Tab.addH_eq {Γ : Tab} {g : FuncId} {e : List A → List Obj → Option (A × List Obj × List Nat)} {xs : List A} {H : List Obj} : (Γ.addH g e).hp g xs H = e xs H := if_pos rfl
theorem Tab.addH_ne {Γ : Tab} {g h : FuncId} {e : List A → List Obj → Option (A × List Obj × List Nat)} {xs : List A} {H : List Obj} (hn : h ≠ g) : (Γ.addH g e).hp h xs H = Γ.hp h xs H := if_neg hn
attribute [go_sem] List.contains_nil List.contains_cons
theorem callable_of {P : Program} {f : FuncId} {fn : Func} (h1 : P.funcs[f]? = some fn) (h2 : fn.body.isNone = false) (h3 : (fn.name == "runtime.NumGoroutine") = false) : Callable P f := ⟨fn, h1, h2, h3⟩
theorem TabOK.ent {P : Program} {Γ : Tab} {g : FuncId} {fn : Func} {ι : Type} {enc : ι → List A} {ok : ι → Prop} {spec : ι → A} (h0 : TabOK P Γ) (h1 : P.funcs[g]? = some fn) (h2 : fn.body.isNone = false) (h3 : (fn.name == "runtime.NumGoroutine") = false) (h : ∀ i, ok i → CallA P g (enc i) (· = spec i)) :
    TabOK P (Γ.add g (entry enc ok spec)) := h0.add (callable_of h1 h2 h3) (entry_ok h)
@[go_sem] theorem isS2B_eq {P : Program} {s d : TypeId} : isS2B P s d = (tyStr P s && (tyElem P d).any (fun e => tyInt P e = some .u8)) := rfl
@[go_sem] theorem isB2S_eq {P : Program} {s d : TypeId} : isB2S P s d = ((tyElem P s).any (fun e => tyInt P e = some .u8) && tyStr P d) := rfl
@[go_sem] theorem bne_str {a b : List UInt8} : (a != b) = !(a == b) := rfl
@[go_sem] theorem bne_int {a b : Int} : (a != b) = !(a == b) := rfl
attribute [go_sem] Int.cast_ofNat_Int
attribute [go_sem] Option.any_some Option.any_none decide_true decide_false ne_eq Nat.succ_ne_self Nat.one_ne_zero beq_true beq_false Nat.zero_add Int.toNat_zero List.drop_zero true_implies false_implies implies_true not_true_eq_false not_false_eq_true Option.getD Int.toNat_natCast Int.natCast_nonneg
@[go_sem] theorem tab0_ords {n : Nat} : tab0.ords n = [] := rfl
theorem wrap_i64 {n : Int} (h : -9223372036854775808 ≤ n ∧ n < 9223372036854775808) : IntKind.i64.wrap n = n := by
  unfold IntKind.wrap; simp [IntKind.bits, IntKind.signed]; split <;> omega
theorem wrap_u8 {n : Int} (h : 0 ≤ n ∧ n < 256) : IntKind.u8.wrap n = n := by
  unfold IntKind.wrap; simp [IntKind.bits, IntKind.signed]; omega
theorem map_inj {α : Type} {f : α → A} (h : ∀ x y, f x = f y → x = y) : ∀ {l m : List α}, (l.map f = m.map f) = (l = m)
  | [], [] => by simp
  | [], _ :: _ => by simp
  | _ :: _, [] => by simp
  | x :: l, y :: m => by
    simp only [List.map_cons, List.cons.injEq, map_inj h]
    exact propext ⟨fun ⟨a, b⟩ => ⟨h _ _ a, b⟩, fun ⟨a, b⟩ => ⟨by rw [a], b⟩⟩
@[simp] theorem map_str_inj {l m : List (List UInt8)} : (l.map A.str = m.map A.str) = (l = m) := map_inj (fun _ _ h => by simpa using h)
theorem list_of {α : Type} {f : α → A} {P : α → Prop} : ∀ {es : List A}, (∀ e ∈ es, ∃ a, e = f a ∧ P a) → ∃ l : List α, es = l.map f ∧ ∀ a ∈ l, P a
  | [], _ => ⟨[], rfl, by simp⟩
  | e :: es, h => by
    obtain ⟨a, rfl, ha⟩ := h e (by simp)
    obtain ⟨l, rfl, hl⟩ := list_of (es := es) fun x hx => h x (by simp [hx])
    exact ⟨a :: l, rfl, fun b hb => by
      rcases List.mem_cons.1 hb with rfl | hb
      · exact ha
      · exact hl b hb⟩
theorem fits_str {x : A} (h : fits .str x) : ∃ s : List UInt8, x = .str s ∧ s.length ≤ maxLen := by
  simpa only [fits] using h
theorem maxLen_le : maxLen ≤ 9223372036854775807 := by decide
theorem bytesOfA_bytesA : ∀ s : List UInt8, bytesOfA (bytesA s) = some s
  | [] => rfl
  | c :: s => by
    have := bytesOfA_bytesA s
    simp only [bytesA] at this
    simp [bytesA, bytesOfA, encU8, byteOfA, this]
theorem bytesA_len (s : List UInt8) : (bytesA s).length = s.length := by simp [bytesA]
end Go.Abs
namespace Go.Abs
open Go.RowKit Go.Shelf Go.Proofs
def mkS (s : List UInt8) : ByteArray := ⟨s.toArray⟩
theorem mkS_size (s : List UInt8) : (mkS s).size = s.length := by show s.toArray.size = _; simp
theorem mkS_map (xs : List (List UInt8)) : (xs.map mkS).map (fun x => x.data.toList) = xs := by
  rw [List.map_map]
  have : ((fun x : ByteArray => x.data.toList) ∘ mkS) = id := by funext x; rfl
  rw [this, List.map_id]
theorem grew_below (hdr : ¬ DR) {w w' : World} (h : Below w.heap.size w w') : Grew w w' := ⟨h.size, h.block, h.os, h.tape, h.output, fun d => absurd d hdr⟩
theorem callA_indexByte {P : Program} {ρ : Ren} (L : Lays.n137 P ρ) (s : List UInt8) (c : Int) : CallA P (ρ.f 137) [.str s, .int .u8 c] (· = .int .i64 (Lib.indexByte s c.toNat.toUInt8)) := by
  intro N w vs _ hrep
  simp only [RepL, Rep] at hrep
  obtain ⟨_, _, rfl, rfl, _, _, rfl, rfl, rfl⟩ := hrep
  refine Calls.mono (Any.strings_IndexByte L (mkS s) c w) ?_
  rintro e w' ⟨rfl, rfl⟩
  exact ⟨_, _, rfl, rfl, by simp only [Rep]; rfl, Grew.refl _⟩
theorem rows_str {E : Env} {xs : List (List UInt8)} {b off : Nat} {k : Nat} (hk : k = 1) (h : RepE E k b off (xs.map .str)) (j : Nat) (x : List UInt8) (hx : xs[j]? = some x) : E.w.cell? ⟨b, off + j, none⟩ = some (.string (mkS x)) := by
  subst hk
  obtain ⟨_, hM⟩ := RepE_iff.1 h j (.str x) (by rw [List.getElem?_map, hx]; rfl)
  obtain ⟨v, hv, _, hr⟩ := RepM_one.1 hM
  simp only [Rep] at hr
  rw [Nat.mul_one] at hv
  rw [hv, hr]; rfl
theorem callA_join (hdr : ¬ DR) {P : Program} {ρ : Ren} (L : Lays.n156 P ρ) (X : Builder.Extra P ρ) (xs : List (List UInt8)) (sep : List UInt8) (hN : xs.length ≤ 140737488355328) (hlen : (Lib.join xs sep).length ≤ 140737488355328) :
    CallA P (ρ.f 156) [.slc (xs.map .str), .str sep] (· = .str (Lib.join xs sep)) := by
  intro N w vs _ hrep
  simp only [RepL] at hrep
  obtain ⟨v0, _, rfl, hv0, v1, _, rfl, hv1, rfl⟩ := hrep
  simp only [Rep] at hv0 hv1
  subst hv1
  obtain ⟨_, a, cap, rfl, hcap, hne⟩ := hv0
  rw [List.length_map] at hcap ⊢
  cases xs with
  | nil =>
    refine Calls.mono (Any.strings_Join_none L X a cap (mkS sep) w) ?_
    rintro e w' ⟨rfl, rfl⟩
    exact ⟨_, _, rfl, rfl, by simp only [Rep]; rfl, Grew.refl _⟩
  | cons x r =>
    obtain ⟨b, off, rfl, hb, _, hE⟩ := hne (by simp)
    have hc := Any.strings_Join L X b off cap ((x :: r).map mkS) (mkS sep) w (fun j y hy => by
      rw [List.getElem?_map] at hy
      obtain ⟨y', h1, rfl⟩ := Option.map_eq_some_iff.1 hy
      exact rows_str rfl hE j y' h1) hb (by rw [List.length_map]; exact hN) (by rw [List.length_map]; exact hcap) (by rw [mkS_map]; exact hlen)
    rw [mkS_map, List.length_map] at hc
    refine Calls.mono hc ?_
    rintro e w' ⟨rfl, hB⟩
    exact ⟨_, _, rfl, rfl, by simp only [Rep]; rfl, grew_below hdr hB⟩
open Go.Shelf Go.RowKit Go.Lib in
set_option maxHeartbeats 1000000 in
/-- strings.Split at a separator of one byte. -/
theorem split_one {P : Program} {ρ : Ren} (L : Lays.n146 P ρ) (hi9 : (P.info? (ρ.t 9)).map (fun i => (i.zero, i.size, i.bytes)) = some (some (.string ByteArray.empty), 1, 16)) (s : ByteArray) (b : UInt8) (w : World) (hs : s.size < 4294967281) :
    Calls P (ρ.f 146) #[.string s, .string ⟨#[b]⟩] w fun e w' =>
      e = .returned (.slice (some ⟨w.heap.size, 0, none⟩) (Lib.countB s ⟨#[b]⟩ + 1) (Lib.countB s ⟨#[b]⟩ + 1)) ∧ w' = w.alloc (.cells ((Lib.splitB ⟨#[b]⟩ 0 (Lib.countB s ⟨#[b]⟩) s).map Value.string).toArray (ρ.t 9)) := by
  have h1 : 1 ≤ (⟨#[b]⟩ : ByteArray).size := Nat.le_refl _
  have hle := Lib.countB_le ⟨#[b]⟩ h1 s.size s (Nat.le_refl _)
  have hlen := Lib.splitB_all ⟨#[b]⟩ h1 0 _ s rfl
  have hI : ∀ (x : ByteArray) (c : Array Value), x.size ≤ s.size → Calls P (ρ.f 143) #[.string x, .string ⟨#[b]⟩] (w.alloc (.cells c (ρ.t 9))) fun e w' => e = .returned (.int .i64 (Lib.indexB x ⟨#[b]⟩)) ∧ w' = w.alloc (.cells c (ρ.t 9)) := fun x c _ => by
    refine Calls.mono (Any.strings_Index_one { L with } x b _) ?_
    rintro e w' ⟨rfl, rfl⟩
    refine ⟨?_, rfl⟩
    show _ = Ending.returned (Value.int .i64 (Lib.index x.data.toList [b]))
    rw [Lib.index_one]
  have hC : Calls P (ρ.f 138) #[.string s, .string ⟨#[b]⟩] w fun e w' => e = .returned (.int .i64 (Lib.countB s ⟨#[b]⟩)) ∧ w' = w := by
    refine (Any.strings_Count_one { L with } s b w).mono fun e w' ⟨he, hw⟩ => ⟨?_, hw⟩
    rw [he]
    show _ = Ending.returned (Value.int .i64 ((Lib.count s.data.toList [b] : Nat) : Int))
    rw [Lib.count_one]
    rfl
  have c := Any.strings_genSplit_core { L with } hi9 s ⟨#[b]⟩ 0 (-1) (Lib.countB s ⟨#[b]⟩ + 1) w hs h1 (Nat.zero_le _) hI hC (by decide) (by decide) (by rw [if_pos (by decide)]; omega)
  rw [Nat.add_sub_cancel, hlen] at c
  have e2 : Lib.cellsOf (Lib.splitB ⟨#[b]⟩ 0 (Lib.countB s ⟨#[b]⟩) s) (Lib.countB s ⟨#[b]⟩ + 1) = ((Lib.splitB ⟨#[b]⟩ 0 (Lib.countB s ⟨#[b]⟩) s).map Value.string).toArray := by rw [← hlen]; exact Lib.cellsOf_full _
  rw [e2] at c
  have t3 := L.t3; have t9 := L.t9; have t31 := L.t31
  have a3 := L.a3; have a9 := L.a9; have a31 := L.a31
  have z3 := L.z3; have v3 := L.v3; have z9 := L.z9; have v9 := L.v9; have z31 := L.z31; have v31 := L.v31
  have e221 : ∀ args w, (callFunc (ρ.f 221) args).run P w = .ok (.enter (ρ.f 221) args) w := enters_of L.f221 (by kernel_rfl) rfl
  go_enter L.f146, Body.n146_ntmps ρ
  go_wp2_with (go_at_fn (ρ.f 221); refine c.mono ?_; rintro e w' ⟨rfl, hw⟩; rw [hw])
  go_ret
  exact ⟨rfl, rfl⟩
end Go.Abs
namespace Go.Proofs
open Go.Shelf
def Ythiedimbmcgpdaa.joinL_ren : Go.Shelf.Ren := ⟨fun | 156 => 15 | 165 => 21 | 166 => 22 | 169 => 23 | 240 => 34 | 241 => 35 | 276 => 43 | 277 => 44 | n => n, fun | 31 => 36 | 9 => 9 | 3 => 3 | 4 => 4 | 0 => 0 | 20 => 20 | 72 => 53 | 76 => 56 | 70 => 51 | 37 => 49 | 75 => 55 | 127 => 66 | 164 => 72 | 5 => 5 | 80 => 58 | n => n, fun | n => n⟩
theorem Ythiedimbmcgpdaa.joinL : Go.Proofs.Lays.n156 Try.prog Ythiedimbmcgpdaa.joinL_ren := {
  mixed := by kernel_rfl
  f156 := Try.func15.trans (congrArg some (by kernel_rfl))
  f165 := Try.func21.trans (congrArg some (by kernel_rfl))
  f166 := Try.func22.trans (congrArg some (by kernel_rfl))
  f169 := Try.func23.trans (congrArg some (by kernel_rfl))
  f240 := Try.func34.trans (congrArg some (by kernel_rfl))
  f241 := Try.func35.trans (congrArg some (by kernel_rfl))
  f276 := Try.func43.trans (congrArg some (by kernel_rfl))
  f277 := Try.func44.trans (congrArg some (by kernel_rfl))
  t0 := Try.underlying0
  a0 := Try.isAgg0
  z0 := Try.sizeOf0
  v0 := Try.zeroValue0
  t3 := Try.underlying3
  a3 := Try.isAgg3
  z3 := Try.sizeOf3
  v3 := Try.zeroValue3
  t4 := Try.underlying4
  a4 := Try.isAgg4
  z4 := Try.sizeOf4
  v4 := Try.zeroValue4
  t9 := Try.underlying9
  a9 := Try.isAgg9
  z9 := Try.sizeOf9
  v9 := Try.zeroValue9
  t20 := Try.underlying20
  a20 := Try.isAgg20
  z20 := Try.sizeOf20
  v20 := Try.zeroValue20
  t31 := Try.underlying36
  a31 := Try.isAgg36
  z31 := Try.sizeOf36
  v31 := Try.zeroValue36
  t37 := Try.underlying49
  a37 := Try.isAgg49
  z37 := Try.sizeOf49
  v37 := Try.zeroValue49
  t70 := Try.underlying51
  a70 := Try.isAgg51
  z70 := Try.sizeOf51
  v70 := Try.zeroValue51
  t72 := Try.underlying53
  a72 := Try.isAgg53
  z72 := Try.sizeOf53
  v72 := Try.zeroValue53
  t75 := Try.underlying55
  a75 := Try.isAgg55
  z75 := Try.sizeOf55
  v75 := Try.zeroValue55
  t76 := Try.underlying56
  a76 := Try.isAgg56
  z76 := Try.sizeOf56
  v76 := Try.zeroValue56
  t127 := Try.underlying66
  a127 := Try.isAgg66
  z127 := Try.sizeOf66
  v127 := Try.zeroValue66
  t164 := Try.underlying72
  a164 := Try.isAgg72
  z164 := Try.sizeOf72
  v164 := Try.zeroValue72 }
def Ythiedimbmcgpdaa.indexByteL_ren : Go.Shelf.Ren := ⟨fun | 137 => 51 | 217 => 55 | 266 => 56 | n => n, fun | 9 => 9 | 5 => 5 | 3 => 3 | n => n, fun | n => n⟩
theorem Ythiedimbmcgpdaa.indexByteL : Go.Proofs.Lays.n137 Try.prog Ythiedimbmcgpdaa.indexByteL_ren := {
  mixed := by kernel_rfl
  f137 := Try.func51.trans (congrArg some (by kernel_rfl))
  f217 := Try.func55.trans (congrArg some (by kernel_rfl))
  f266 := Try.func56.trans (congrArg some (by kernel_rfl))
  t3 := Try.underlying3
  a3 := Try.isAgg3
  z3 := Try.sizeOf3
  v3 := Try.zeroValue3
  t5 := Try.underlying5
  a5 := Try.isAgg5
  z5 := Try.sizeOf5
  v5 := Try.zeroValue5
  t9 := Try.underlying9
  a9 := Try.isAgg9
  z9 := Try.sizeOf9
  v9 := Try.zeroValue9 }
def Ythiedimbmcgpdaa.indexAnyL_ren : Go.Shelf.Ren := ⟨fun | 153 => 37 | 152 => 46 | 226 => 47 | 227 => 48 | 228 => 49 | 137 => 51 | 119 => 52 | 224 => 53 | 225 => 54 | 217 => 55 | 266 => 56 | n => n, fun | 9 => 9 | 3 => 3 | 4 => 4 | 5 => 5 | 21 => 21 | 117 => 80 | 116 => 79 | 0 => 0 | 46 => 85 | 124 => 86 | n => n, fun | n => n⟩
theorem Ythiedimbmcgpdaa.indexAnyL : Go.Proofs.Lays.n153 Try.prog Ythiedimbmcgpdaa.indexAnyL_ren := {
  mixed := by kernel_rfl
  f119 := Try.func52.trans (congrArg some (by kernel_rfl))
  f137 := Try.func51.trans (congrArg some (by kernel_rfl))
  f152 := Try.func46.trans (congrArg some (by kernel_rfl))
  f153 := Try.func37.trans (congrArg some (by kernel_rfl))
  f217 := Try.func55.trans (congrArg some (by kernel_rfl))
  f224 := Try.func53.trans (congrArg some (by kernel_rfl))
  f225 := Try.func54.trans (congrArg some (by kernel_rfl))
  f226 := Try.func47.trans (congrArg some (by kernel_rfl))
  f227 := Try.func48.trans (congrArg some (by kernel_rfl))
  f228 := Try.func49.trans (congrArg some (by kernel_rfl))
  f266 := Try.func56.trans (congrArg some (by kernel_rfl))
  t0 := Try.underlying0
  a0 := Try.isAgg0
  z0 := Try.sizeOf0
  v0 := Try.zeroValue0
  t3 := Try.underlying3
  a3 := Try.isAgg3
  z3 := Try.sizeOf3
  v3 := Try.zeroValue3
  t4 := Try.underlying4
  a4 := Try.isAgg4
  z4 := Try.sizeOf4
  v4 := Try.zeroValue4
  t5 := Try.underlying5
  a5 := Try.isAgg5
  z5 := Try.sizeOf5
  v5 := Try.zeroValue5
  t9 := Try.underlying9
  a9 := Try.isAgg9
  z9 := Try.sizeOf9
  v9 := Try.zeroValue9
  t21 := Try.underlying21
  a21 := Try.isAgg21
  z21 := Try.sizeOf21
  v21 := Try.zeroValue21
  t46 := Try.underlying85
  a46 := Try.isAgg85
  z46 := Try.sizeOf85
  v46 := Try.zeroValue85
  t116 := Try.underlying79
  a116 := Try.isAgg79
  z116 := Try.sizeOf79
  t117 := Try.underlying80
  a117 := Try.isAgg80
  z117 := Try.sizeOf80
  v117 := Try.zeroValue80
  t124 := Try.underlying86
  a124 := Try.isAgg86
  z124 := Try.sizeOf86
  v124 := Try.zeroValue86 }
end Go.Proofs
namespace Go.Proofs.Ythiedimbmcgpdaa
open Go.Abs Go.RowKit Go.Shelf
set_option linter.unusedSimpArgs false
set_option linter.unusedVariables false
set_option maxRecDepth 20000
set_option maxHeartbeats 4000000
theorem byte_at (s : ByteArray) (j : Nat) (h : j < s.size) : s.data.toList[j]? = some (s.get! j) := by
  rw [Lib.data_getElem? s j h]
  simp [ByteArray.get!, getElem!_pos, h]
  rfl
theorem dec_high (s : ByteArray) (pos : Nat) (h : pos < s.size) (ha : 128 ≤ (s.get! pos).toNat) : ∃ r k : Nat, Utf8.decode s pos = (r, k) ∧ Utf8.valid r = true ∧ 128 ≤ r ∧ 1 ≤ k ∧ pos + k ≤ s.size ∧ ∀ j b, pos ≤ j → j < pos + k → s.data.toList[j]? = some b → 128 ≤ b.toNat := by
  have one : ∀ j b, pos ≤ j → j < pos + 1 → s.data.toList[j]? = some b → 128 ≤ b.toNat := by
    intro j b h1 h2 h3
    obtain rfl : j = pos := by omega
    rw [byte_at s j h] at h3
    simp only [Option.some.injEq] at h3
    rw [← h3]; exact ha
  have err : ∃ r k : Nat, (Utf8.runeError, 1) = (r, k) ∧ Utf8.valid r = true ∧ 128 ≤ r ∧ 1 ≤ k ∧ pos + k ≤ s.size ∧ ∀ j b, pos ≤ j → j < pos + k → s.data.toList[j]? = some b → 128 ≤ b.toNat := ⟨_, _, rfl, by decide, by decide, Nat.le_refl _, h, one⟩
  have vb : ∀ c : Nat, 128 ≤ c → c < 55296 → Utf8.valid c = true := by
    intro c _ h2
    unfold Utf8.valid
    have h3 : ((c : Int) < 55296) := by omega
    have h4 : (0 : Int) ≤ (c : Int) := by omega
    simp [h3, h4]
  have b8 := (s.get! pos).toNat_lt
  have c1 := (s.get! (pos + 1)).toNat_lt
  have c2 := (s.get! (pos + 2)).toNat_lt
  have c3 := (s.get! (pos + 3)).toNat_lt
  unfold Utf8.decode
  simp only [Nat.add_zero]
  split
  · omega
  split
  · rename_i g
    simp only [Bool.and_eq_true, decide_eq_true_eq, beq_iff_eq] at g
    split
    · refine ⟨_, _, rfl, vb _ (by omega) (by omega), by omega, by omega, by omega, ?_⟩
      intro j b h1 h2 h3
      have : j = pos ∨ j = pos + 1 := by omega
      rcases this with rfl | rfl
      · exact one _ _ h1 (by omega) h3
      · rw [byte_at s _ (by omega)] at h3
        simp only [Option.some.injEq] at h3
        rw [← h3]; omega
    · exact err
  split
  · rename_i g
    simp only [Bool.and_eq_true, decide_eq_true_eq, beq_iff_eq] at g
    split
    · rename_i g'
      simp only [Bool.and_eq_true, decide_eq_true_eq] at g'
      refine ⟨_, _, rfl, g'.2, by omega, by omega, by omega, ?_⟩
      intro j b h1 h2 h3
      have : j = pos ∨ j = pos + 1 ∨ j = pos + 2 := by omega
      rcases this with rfl | rfl | rfl
      · exact one _ _ h1 (by omega) h3
      · rw [byte_at s _ (by omega)] at h3
        simp only [Option.some.injEq] at h3
        rw [← h3]; omega
      · rw [byte_at s _ (by omega)] at h3
        simp only [Option.some.injEq] at h3
        rw [← h3]; omega
    · exact err
  split
  · rename_i g
    simp only [Bool.and_eq_true, decide_eq_true_eq, beq_iff_eq] at g
    split
    · rename_i g'
      simp only [Bool.and_eq_true, decide_eq_true_eq] at g'
      refine ⟨_, _, rfl, g'.2, by omega, by omega, by omega, ?_⟩
      intro j b h1 h2 h3
      have : j = pos ∨ j = pos + 1 ∨ j = pos + 2 ∨ j = pos + 3 := by omega
      rcases this with rfl | rfl | rfl | rfl
      · exact one _ _ h1 (by omega) h3
      · rw [byte_at s _ (by omega)] at h3
        simp only [Option.some.injEq] at h3
        rw [← h3]; omega
      · rw [byte_at s _ (by omega)] at h3
        simp only [Option.some.injEq] at h3
        rw [← h3]; omega
      · rw [byte_at s _ (by omega)] at h3
        simp only [Option.some.injEq] at h3
        rw [← h3]; omega
    · exact err
  · exact err
theorem ofNat_high {n : Nat} (h1 : 128 ≤ n) (h2 : n < 256) : 128 ≤ (UInt8.ofNat n).toNat := by
  rw [UInt8.toNat_ofNat']
  omega
theorem enc_high {r : Nat} (h0 : 128 ≤ r) (hv : Utf8.valid r = true) : ∃ x y z u : UInt8, 128 ≤ u.toNat ∧ (Utf8.encode r = ⟨#[x, u]⟩ ∨ Utf8.encode r = ⟨#[x, y, u]⟩ ∨ Utf8.encode r = ⟨#[x, y, z, u]⟩) := by
  have hl : 128 ≤ (UInt8.ofNat (128 + r % 64)).toNat := ofNat_high (by omega) (by omega)
  unfold Utf8.encode
  rw [if_pos hv]
  simp only [Int.toNat_natCast]
  rw [if_neg (by omega)]
  split
  · exact ⟨_, 0, 0, _, hl, .inl rfl⟩
  split
  · exact ⟨_, _, 0, _, hl, .inr (.inl rfl)⟩
  · exact ⟨_, _, _, _, hl, .inr (.inr rfl)⟩
theorem run_next_at {P : Program} (w : World) (b : Nat) (s : ByteArray) (pos : Nat) (ty : TypeId) (hb : w.heap[b]? = some (.stringIter s pos)) (h : pos < s.size) :
    (Instr.next (.pointer (some ⟨b, 0, none⟩)) true ty).run P w = .ok (.tuple #[.bool true, .int .i64 pos, .int .i32 (Utf8.decode s pos).1]) { w with heap := w.heap.setIfInBounds b (.stringIter s (pos + (Utf8.decode s pos).2)) } := by
  simp [Instr.next, getObj, setObj, Sem.run_bind, Sem.run, hb, Result.andThen, h, goInt]
theorem run_next_over {P : Program} (w : World) (b : Nat) (s : ByteArray) (pos : Nat) (ty : TypeId) (hb : w.heap[b]? = some (.stringIter s pos)) (h : ¬ pos < s.size) :
    (Instr.next (.pointer (some ⟨b, 0, none⟩)) true ty).run P w = .ok (.tuple #[.bool false]) w := by
  simp [Instr.next, getObj, Sem.run, hb, h]
theorem valid_calls (r : Int) (h0 : 128 ≤ r) (hv : Utf8.valid r = true) (w : World) : Calls Try.prog 52 #[.int .i32 r] w fun e w' => e = .returned (.bool true) ∧ w' = w := by
  have hz : (0 : Int) ≤ r := by omega
  unfold Utf8.valid at hv
  simp only [Bool.or_eq_true, Bool.and_eq_true, decide_eq_true_eq] at hv
  by_cases h1 : r < 55296
  · clear hv
    go_enter Try.func52, Try.ntmps52
    go_wp2
    go_ret
    exact ⟨rfl, rfl⟩
  · have h2 : (57343 : Int) < r := by omega
    have h3 : r ≤ 1114111 := by omega
    clear hv
    go_enter Try.func52, Try.ntmps52
    go_wp2
    go_ret
    exact ⟨rfl, rfl⟩
theorem rune_low (r : Int) (h0 : 0 ≤ r) (h1 : r < 128) (s : ByteArray) (w : World) : Calls Try.prog 46 #[.string s, .int .i32 r] w fun e w' => e = .returned (.int .i64 (Lib.indexByte s.data.toList r.toNat.toUInt8)) ∧ w' = w :=
  Any.strings_IndexRune_ascii (ρ := Ythiedimbmcgpdaa.indexAnyL_ren) { Ythiedimbmcgpdaa.indexAnyL with } s r w h0 h1
theorem byte_calls (s : ByteArray) (c : UInt8) (w : World) : Calls Try.prog 51 #[.string s, .int .u8 c.toNat] w fun e w' => e = .returned (.int .i64 (Lib.indexByte s.data.toList c)) ∧ w' = w := by
  refine Calls.mono (Any.strings_IndexByte (ρ := Ythiedimbmcgpdaa.indexAnyL_ren) { Ythiedimbmcgpdaa.indexAnyL with } s (c.toNat : Int) w) ?_
  rintro e w' ⟨rfl, rfl⟩
  exact ⟨by simp, rfl⟩
theorem rune_err (w : World) : Calls Try.prog 46 #[.string ⟨#[40, 41, 44]⟩, .int .i32 65533] w fun e w' => e = .returned (.int .i64 (-1)) ∧ Below w.heap.size w w' := by
  have n0 : ∀ ty, (Instr.next (.pointer (some ⟨w.heap.size, 0, none⟩)) true ty).run Try.prog (w.iter ⟨#[40, 41, 44]⟩ 0) = .ok (.tuple #[.bool true, .int .i64 0, .int .i32 40]) (w.iter ⟨#[40, 41, 44]⟩ 1) := fun ty => run_next_ascii w ⟨#[40, 41, 44]⟩ 0 ty (by decide) (by decide)
  have n1 : ∀ ty, (Instr.next (.pointer (some ⟨w.heap.size, 0, none⟩)) true ty).run Try.prog (w.iter ⟨#[40, 41, 44]⟩ 1) = .ok (.tuple #[.bool true, .int .i64 1, .int .i32 41]) (w.iter ⟨#[40, 41, 44]⟩ 2) := fun ty => run_next_ascii w ⟨#[40, 41, 44]⟩ 1 ty (by decide) (by decide)
  have n2 : ∀ ty, (Instr.next (.pointer (some ⟨w.heap.size, 0, none⟩)) true ty).run Try.prog (w.iter ⟨#[40, 41, 44]⟩ 2) = .ok (.tuple #[.bool true, .int .i64 2, .int .i32 44]) (w.iter ⟨#[40, 41, 44]⟩ 3) := fun ty => run_next_ascii w ⟨#[40, 41, 44]⟩ 2 ty (by decide) (by decide)
  have n3 : ∀ ty, (Instr.next (.pointer (some ⟨w.heap.size, 0, none⟩)) true ty).run Try.prog (w.iter ⟨#[40, 41, 44]⟩ 3) = .ok (.tuple #[.bool false]) (w.iter ⟨#[40, 41, 44]⟩ 3) := fun ty => run_next_end w ⟨#[40, 41, 44]⟩ 3 ty (by decide)
  go_enter Try.func46, Try.ntmps46
  go_wp2_with fail
  go_loopg [5, 6] 3 (fun g _ _ wx => (g = 3 ∧ wx = w.iter ⟨#[40, 41, 44]⟩ 0) ∨ (g = 2 ∧ wx = w.iter ⟨#[40, 41, 44]⟩ 1) ∨ (g = 1 ∧ wx = w.iter ⟨#[40, 41, 44]⟩ 2) ∨ (g = 0 ∧ wx = w.iter ⟨#[40, 41, 44]⟩ 3))
  case atStart => exact .inl ⟨rfl, rfl⟩
  case round =>
    rcases hrel with ⟨rfl, rfl⟩ | ⟨rfl, rfl⟩ | ⟨rfl, rfl⟩ | ⟨rfl, rfl⟩
    · clear n1 n2 n3
      go_wp2
      go_roundg 2
      case measure => omega
      case rel => exact .inr (.inl ⟨rfl, rfl⟩)
    · clear n0 n2 n3
      go_wp2
      go_roundg 1
      case measure => omega
      case rel => exact .inr (.inr (.inl ⟨rfl, rfl⟩))
    · clear n0 n1 n3
      go_wp2
      go_roundg 0
      case measure => omega
      case rel => exact .inr (.inr (.inr ⟨rfl, rfl⟩))
    · clear n0 n1 n2
      go_wp2
      go_ret
      exact ⟨rfl, (Below.refl w.heap.size w).alloc (Nat.le_refl _) _⟩
theorem hid_mk {p : Prop} (h : p) : Hid p := h
theorem idx_none3 {u : UInt8} (h : 128 ≤ u.toNat) : Lib.indexByte [41, 44] u = -1 ∧ Lib.indexByte [44] u = -1 ∧ Lib.indexByte [] u = -1 := by
  have h1 : (41 == u) = false := by
    rw [beq_eq_false_iff_ne]; rintro rfl; revert h; decide
  have h2 : (44 == u) = false := by
    rw [beq_eq_false_iff_ne]; rintro rfl; revert h; decide
  simp [Lib.indexByte, h1, h2]
set_option maxHeartbeats 8000000 in
theorem rune_high2 (r : Int) (h0 : 128 ≤ r) (hv : Utf8.valid r = true) (hn : r ≠ 65533) (x u : UInt8) (hu : 128 ≤ u.toNat) (he : Utf8.encode r = ⟨#[x, u]⟩) (w : World) : Calls Try.prog 46 #[.string ⟨#[40, 41, 44]⟩, .int .i32 r] w fun e w' => e = .returned (.int .i64 (-1)) ∧ Below w.heap.size w w' := by
  have hz : (0 : Int) ≤ r := by omega
  have h1 : ¬ r < 128 := by omega
  have hne : (r == 65533) = false := by simpa using hn
  have hdiff : ((41 : Int) == (u.toNat : Int)) = false := by
    rw [beq_eq_false_iff_ne]; omega
  have hd : (!((((⟨#[40, 41, 44]⟩ : ByteArray)[1]'(by decide)).toNat : Int) == (((⟨#[x, u]⟩ : ByteArray)[1]'(by show 1 < 2; decide)).toNat : Int))) = true := by
    show (!((41 : Int) == (u.toNat : Int))) = true
    rw [hdiff]; rfl
  have hvc := fun w => valid_calls r h0 hv w
  have hb := fun w => byte_calls ⟨#[44]⟩ u w
  simp only [show (⟨#[44]⟩ : ByteArray).data.toList = [44] from rfl, (idx_none3 hu).2.1] at hb
  clear hn hdiff
  go_enter Try.func46, Try.ntmps46
  go_wp2_with fail
  refine (hvc _).mono ?_
  rintro e w2 ⟨rfl, rfl⟩
  go_wp2_with fail
  go_step3
  go_wp2_with fail
  go_loopg [9] 0 (fun _ i wx => i = .int .i64 1 ∧ wx = w2)
  case atStart => exact ⟨rfl, rfl⟩
  case round =>
    obtain ⟨rfl, rfl⟩ := hrel
    go_wp2_with fail
    go_step3
    go_wp2_with fail
    go_quiet (fail)
    have Hw := hid_mk (below_drewN (Below.refl wr.heap.size wr) nq)
    generalize wr.drewN nq = w3 at Hw ⊢
    go_wp2_with fail
    go_quiet ((go_at_call 51; exact Calls.quiet_of_same (hb _)))
    go_wp2_with fail
    rw [Exit.noGoto_ret]
    go_wp2_with fail
    rw [Exit.noGoto_ret]
    go_ret
    exact ⟨rfl, below_drewN Hw.out _⟩
set_option maxHeartbeats 8000000 in
theorem rune_high3 (r : Int) (h0 : 128 ≤ r) (hv : Utf8.valid r = true) (hn : r ≠ 65533) (x y u : UInt8) (hu : 128 ≤ u.toNat) (he : Utf8.encode r = ⟨#[x, y, u]⟩) (w : World) : Calls Try.prog 46 #[.string ⟨#[40, 41, 44]⟩, .int .i32 r] w fun e w' => e = .returned (.int .i64 (-1)) ∧ Below w.heap.size w w' := by
  have hz : (0 : Int) ≤ r := by omega
  have h1 : ¬ r < 128 := by omega
  have hne : (r == 65533) = false := by simpa using hn
  have hdiff : ((44 : Int) == (u.toNat : Int)) = false := by
    rw [beq_eq_false_iff_ne]; omega
  have hd : (!((((⟨#[40, 41, 44]⟩ : ByteArray)[2]'(by decide)).toNat : Int) == (((⟨#[x, y, u]⟩ : ByteArray)[2]'(by show 2 < 3; decide)).toNat : Int))) = true := by
    show (!((44 : Int) == (u.toNat : Int))) = true
    rw [hdiff]; rfl
  have hvc := fun w => valid_calls r h0 hv w
  have hb := fun w => byte_calls ⟨#[]⟩ u w
  simp only [show (⟨#[]⟩ : ByteArray).data.toList = [] from rfl, (idx_none3 hu).2.2] at hb
  clear hn hdiff
  go_enter Try.func46, Try.ntmps46
  go_wp2_with fail
  refine (hvc _).mono ?_
  rintro e w2 ⟨rfl, rfl⟩
  go_wp2_with fail
  go_step3
  go_wp2_with fail
  go_loopg [9] 0 (fun _ i wx => i = .int .i64 2 ∧ wx = w2)
  case atStart => exact ⟨rfl, rfl⟩
  case round =>
    obtain ⟨rfl, rfl⟩ := hrel
    go_wp2_with fail
    go_step3
    go_wp2_with fail
    go_quiet (fail)
    have Hw := hid_mk (below_drewN (Below.refl wr.heap.size wr) nq)
    generalize wr.drewN nq = w3 at Hw ⊢
    go_wp2_with fail
    go_quiet ((go_at_call 51; exact Calls.quiet_of_same (hb _)))
    go_wp2_with fail
    rw [Exit.noGoto_ret]
    go_wp2_with fail
    rw [Exit.noGoto_ret]
    go_ret
    exact ⟨rfl, below_drewN Hw.out _⟩
set_option maxHeartbeats 8000000 in
theorem rune_high4 (r : Int) (h0 : 128 ≤ r) (hv : Utf8.valid r = true) (hn : r ≠ 65533) (x y z u : UInt8) (he : Utf8.encode r = ⟨#[x, y, z, u]⟩) (w : World) : Calls Try.prog 46 #[.string ⟨#[40, 41, 44]⟩, .int .i32 r] w fun e w' => e = .returned (.int .i64 (-1)) ∧ Below w.heap.size w w' := by
  have hz : (0 : Int) ≤ r := by omega
  have h1 : ¬ r < 128 := by omega
  have hne : (r == 65533) = false := by simpa using hn
  have hvc := fun w => valid_calls r h0 hv w
  clear hn
  go_enter Try.func46, Try.ntmps46
  go_wp2_with fail
  refine (hvc _).mono ?_
  rintro e w2 ⟨rfl, rfl⟩
  go_wp2_with fail
  go_step3
  go_wp2_with fail
  go_loopg [9] 0 (fun _ i wx => i = .int .i64 3 ∧ wx = w2)
  case atStart => exact ⟨rfl, rfl⟩
  case round =>
    obtain ⟨rfl, rfl⟩ := hrel
    go_wp2_with fail
    rw [Exit.noGoto_ret]
    go_ret
    exact ⟨rfl, Below.refl _ _⟩
def hitR (r : Nat) : Int := if r < 128 then Lib.indexByte [40, 41, 44] (UInt8.ofNat r) else -1
theorem rune_calls (r : Nat) (hv : r < 128 ∨ (128 ≤ r ∧ Utf8.valid r = true)) (w : World) : Calls Try.prog 46 #[.string ⟨#[40, 41, 44]⟩, .int .i32 r] w fun e w' => e = .returned (.int .i64 (hitR r)) ∧ Below w.heap.size w w' := by
  rcases hv with h | ⟨h, hv⟩
  · refine (rune_low r (by omega) (by omega) ⟨#[40, 41, 44]⟩ w).mono ?_
    rintro e w' ⟨rfl, rfl⟩
    refine ⟨?_, Below.refl _ _⟩
    unfold hitR
    rw [if_pos h]
    rfl
  · have e : hitR r = -1 := by unfold hitR; rw [if_neg (by omega)]
    rw [e]
    by_cases hn : (r : Int) = 65533
    · rw [hn]; exact rune_err w
    · obtain ⟨x, y, z, u, hu, he | he | he⟩ := enc_high h hv
      · exact rune_high2 r (by omega) hv hn x u hu he w
      · exact rune_high3 r (by omega) hv hn x y u hu he w
      · exact rune_high4 r (by omega) hv hn x y z u he w
theorem dec_any (s : ByteArray) (i : Nat) (h : i < s.size) : ∃ r k : Nat, Utf8.decode s i = (r, k) ∧ (r < 128 ∨ (128 ≤ r ∧ Utf8.valid r = true)) ∧ 1 ≤ k ∧ i + k ≤ s.size ∧
    (0 ≤ hitR r → ∃ x, s.data.toList[i]? = some x ∧ [40, 41, 44].contains x = true) ∧ (¬ 0 ≤ hitR r → ∀ j b, i ≤ j → j < i + k → s.data.toList[j]? = some b → [40, 41, 44].contains b = false) := by
  have high : ∀ b : UInt8, 128 ≤ b.toNat → [40, 41, 44].contains b = false := by
    intro b hb
    have h1 : ∀ c : UInt8, c.toNat < 128 → (b == c) = false := by
      intro c hc
      rw [beq_eq_false_iff_ne]; rintro rfl; omega
    rw [List.contains_cons, List.contains_cons, List.contains_cons, h1 _ (by decide), h1 _ (by decide), h1 _ (by decide)]
    rfl
  by_cases hx : (s.get! i).toNat < 128
  · have hg : s.get! i = s[i]'h := by
      simp [ByteArray.get!, getElem!_pos, h]
      rfl
    rw [hg] at hx
    have hd := decode_ascii s i h hx
    have he : UInt8.ofNat (s[i]'h).toNat = s[i]'h := by simp
    have hc := Lib.contains_iff_indexByte [40, 41, 44] (s[i]'h)
    have hr : hitR (s[i]'h).toNat = Lib.indexByte [40, 41, 44] (s[i]'h) := by unfold hitR; rw [if_pos hx, he]
    refine ⟨_, _, hd, .inl hx, Nat.le_refl _, h, ?_, ?_⟩
    · intro h0
      refine ⟨s[i]'h, Lib.data_getElem? s i h, ?_⟩
      rw [hc, ← hr]; exact decide_eq_true h0
    · intro h0 j b h1 h2 h3
      obtain rfl : j = i := by omega
      rw [Lib.data_getElem? s j h] at h3
      simp only [Option.some.injEq] at h3
      rw [← h3, hc, ← hr]; exact decide_eq_false h0
  · obtain ⟨r, k, hd, hv, hr, hk, hi, hb⟩ := dec_high s i h (by omega)
    refine ⟨r, k, hd, .inr ⟨hr, hv⟩, hk, hi, ?_, fun _ j b h1 h2 h3 => high b (hb j b h1 h2 h3)⟩
    intro h0
    unfold hitR at h0
    rw [if_neg (by omega)] at h0
    exact absurd h0 (by decide)
theorem set_block {w wx : World} {s : ByteArray} {i j : Nat} (hb : wx.heap[w.heap.size]? = some (.stringIter s i)) (h : Below w.heap.size w wx) : ({ wx with heap := wx.heap.setIfInBounds w.heap.size (.stringIter s j) } : World).heap[w.heap.size]? = some (.stringIter s j) ∧ Below w.heap.size w { wx with heap := wx.heap.setIfInBounds w.heap.size (.stringIter s j) } := by
  have hl := (Array.getElem?_eq_some_iff.1 hb).1
  refine ⟨?_, h.os, h.tape, h.output, ?_, ?_⟩
  · simp [hl]
  · simp only [Array.size_setIfInBounds]; exact h.size
  · intro k hk
    rw [← h.block k hk]
    simp only [Array.getElem?_setIfInBounds]
    rw [if_neg (by omega)]
set_option maxHeartbeats 8000000 in
theorem any_short (s : ByteArray) (h8 : s.size ≤ 8) (w : World) : Calls Try.prog 37 #[.string s, .string ⟨#[40, 41, 44]⟩] w fun e w' => e = .returned (.int .i64 (Lib.indexAny s.data.toList [40, 41, 44])) ∧ Below w.heap.size w w' := by
  have h8z : decide ((8 : Int) < (s.size : Int)) = false := decide_eq_false (by omega)
  have hs := fun w => Any.strings_shouldUseASCIISet (ρ := Ythiedimbmcgpdaa.indexAnyL_ren) { Ythiedimbmcgpdaa.indexAnyL with } (s.size : Int) w
  rw [h8z] at hs
  go_enter Try.func37, Try.ntmps37
  go_wp2_with fail
  refine (hs _).mono ?_
  rintro e w2 ⟨rfl, rfl⟩
  go_wp2_with fail
  go_loopg [9, 10] s.size (fun g _ _ wx => ∃ i : Nat, i + g = s.size ∧ wx.heap[w2.heap.size]? = some (.stringIter s i) ∧ Below w2.heap.size w2 wx ∧ Lib.NoAny s.data.toList [40, 41, 44] i)
  case atStart => exact ⟨0, by omega, World.iter_heap w2 s 0, (Below.refl w2.heap.size w2).alloc (Nat.le_refl _) _, Lib.NoAny.zero _ _⟩
  case round =>
    obtain ⟨i, hig, hb, hB, hno⟩ := hrel
    have HN := hid_mk hno
    have HB := hid_mk hB
    clear hno hB
    cases gk with
    | zero =>
      obtain rfl : i = s.size := by omega
      have hnx := fun ty => run_next_over (P := Try.prog) wr w2.heap.size s s.size ty hb (Nat.lt_irrefl _)
      go_wp2_with fail
      go_ret
      exact ⟨by rw [Lib.indexAny_none (by rw [← Lib.size_eq]; exact HN.out)]; rfl, HB.out⟩
    | succ g =>
      have hi : i < s.size := by omega
      obtain ⟨r, k, hd, hr, hk, hik, hp, hn⟩ := dec_any s i hi
      have hnx := fun ty => run_next_at (P := Try.prog) wr w2.heap.size s i ty hb hi
      rw [hd] at hnx
      simp only at hnx
      obtain ⟨hb', hB'⟩ := set_block (j := i + k) hb HB.out
      have HB' := hid_mk hB'
      have Hp := hid_mk hp
      have Hn := hid_mk hn
      have Hr := hid_mk hr
      generalize ({ wr with heap := wr.heap.setIfInBounds w2.heap.size (.stringIter s (i + k)) } : World) = w3 at hnx hb' HB'
      clear hB' hp hn hr hd
      have hcall : Calls Try.prog 46 #[.string ⟨#[40, 41, 44]⟩, .int .i32 r] w3 fun e w' => e = .returned (.int .i64 (hitR r)) ∧ w'.heap[w2.heap.size]? = some (.stringIter s (i + k)) ∧ Below w2.heap.size w2 w' := by
        refine (rune_calls r Hr.out w3).mono ?_
        rintro e w' ⟨rfl, hw⟩
        refine ⟨rfl, ?_, HB'.out.trans (hw.mono HB'.out.size)⟩
        rw [hw.block _ (Array.getElem?_eq_some_iff.1 hb').1]; exact hb'
      have Hc := hid_mk hcall
      clear hcall hb' HB' hb HB
      by_cases h0 : 0 ≤ hitR r
      · go_wp2_with fail
        refine Hc.out.mono ?_
        rintro e w4 ⟨rfl, hb4, hB4⟩
        have H4 := hid_mk hB4
        clear hb4 hB4
        go_wp2_with fail
        go_ret
        obtain ⟨x, hx, hcx⟩ := Hp.out h0
        exact ⟨by rw [Lib.indexAny_hit HN.out hx hcx]; rfl, H4.out⟩
      · go_wp2_with fail
        refine Hc.out.mono ?_
        rintro e w4 ⟨rfl, hb4, hB4⟩
        have H4 := hid_mk hB4
        have Hb4 := hid_mk hb4
        clear hb4 hB4
        go_wp2_with fail
        go_roundg (g + 1 - k)
        case measure => omega
        case rel =>
          refine ⟨i + k, by omega, Hb4.out, H4.out, ?_⟩
          intro j b hj hjb
          by_cases hji : j < i
          · exact HN.out j b hji hjb
          · exact Hn.out h0 j b (by omega) hj hjb
theorem any_calls (s : ByteArray) (hs : s.size < 4294967281) (w : World) : Calls Try.prog 37 #[.string s, .string ⟨#[40, 41, 44]⟩] w fun e w' => e = .returned (.int .i64 (Lib.indexAny s.data.toList [40, 41, 44])) ∧ Below w.heap.size w w' := by
  by_cases h8 : s.size ≤ 8
  · exact any_short s h8 w
  · have h116 : (Try.prog.info? (Ythiedimbmcgpdaa.indexAnyL_ren.t 116)).map (fun i => (i.zero, i.size)) = some (some (.agg (Array.replicate 256 (.bool false))), 256) := by kernel_rfl
    refine (Any.strings_IndexAny_long (ρ := Ythiedimbmcgpdaa.indexAnyL_ren) Ythiedimbmcgpdaa.indexAnyL (zero_of_info h116).1 (zero_of_info h116).2 s ⟨#[40, 41, 44]⟩ w (by decide) (by omega) hs (by decide) ?_).mono ?_
    · intro j b hj
      have hm : b ∈ ([40, 41, 44] : List UInt8) := List.mem_of_getElem? hj
      simp only [List.mem_cons, List.not_mem_nil, or_false] at hm
      rcases hm with rfl | rfl | rfl <;> decide
    · rintro e w' ⟨rfl, rfl⟩
      exact ⟨rfl, ((Below.refl w.heap.size w).alloc (Nat.le_refl _) _).alloc (by simp) _⟩
theorem callA_indexAny (hdr : ¬ DR) (s : List UInt8) (hs : s.length < 4294967281) : CallA Try.prog 37 [.str s, .str [40, 41, 44]] (· = .int .i64 (Lib.indexAny s [40, 41, 44])) := by
  intro N w vs _ hrep
  simp only [RepL, Rep] at hrep
  obtain ⟨_, _, rfl, rfl, _, _, rfl, rfl, rfl⟩ := hrep
  refine Calls.mono (any_calls (mkS s) (by rw [mkS_size]; exact hs) w) ?_
  rintro e w' ⟨rfl, hB⟩
  exact ⟨_, _, rfl, rfl, by simp only [Rep]; rfl, grew_below hdr hB⟩
end Go.Proofs.Ythiedimbmcgpdaa
namespace Go.Abs
def plB (c : UInt8) : Bool := (decide (97 ≤ c.toNat) && decide (c.toNat ≤ 122)) || (decide (48 ≤ c.toNat) && decide (c.toNat ≤ 57))
def hexB (n : Nat) : UInt8 := if n < 10 then UInt8.ofNat (48 + n) else UInt8.ofNat (87 + n)
def wC (c : UInt8) : List UInt8 := if plB c = true then [c] else [45, hexB (c.toNat / 16), hexB (c.toNat % 16)]
def ofW (s : List UInt8) : List UInt8 := if s = [] then [95] else s.flatMap wC
def digB (c : UInt8) : Nat := if 48 ≤ c.toNat ∧ c.toNat ≤ 57 then c.toNat - 48 else if 97 ≤ c.toNat ∧ c.toNat ≤ 102 then c.toNat - 87 else 16
def escB (h l : UInt8) : Option UInt8 := if digB h < 16 ∧ digB l < 16 ∧ plB (UInt8.ofNat (16 * digB h + digB l)) = false then some (UInt8.ofNat (16 * digB h + digB l)) else none
def rdW : List UInt8 → Option (List UInt8)
  | [] => some []
  | [c] => if plB c = true then some [c] else none
  | [c, d] => if plB c = true then (rdW [d]).map (c :: ·) else none
  | c :: h :: l :: r => if c = 45 then (escB h l).bind fun x => (rdW r).map (x :: ·) else if plB c = true then (rdW (h :: l :: r)).map (c :: ·) else none
def readW (w : List UInt8) : Option (List UInt8) := if w = [95] then some [] else (rdW w).bind fun t => if t = [] then none else some t
theorem plB_45 : plB 45 = false := by decide
theorem plB_95 : plB 95 = false := by decide
theorem byte_ext {a b : UInt8} (h : a.toNat = b.toNat) : a = b := UInt8.toNat_inj.1 h
theorem ofNat_toNat' {n : Nat} (h : n < 256) : (UInt8.ofNat n).toNat = n := by simp [UInt8.toNat_ofNat']; omega
theorem hexB_toNat {n : Nat} (h : n < 16) : (hexB n).toNat = if n < 10 then 48 + n else 87 + n := by
  unfold hexB
  split
  · exact ofNat_toNat' (by omega)
  · exact ofNat_toNat' (by omega)
theorem digB_hexB {n : Nat} (h : n < 16) : digB (hexB n) = n := by
  unfold digB
  rw [hexB_toNat h]
  split <;> split <;> (try split) <;> omega
theorem digB_lt {c : UInt8} (h : digB c < 16) : hexB (digB c) = c := by
  apply byte_ext
  rw [hexB_toNat h]
  unfold digB at h ⊢
  split <;> split <;> (try split) <;> simp_all <;> omega
theorem rdW_plain {c : UInt8} (h : plB c = true) (t : List UInt8) : rdW (c :: t) = (rdW t).map (c :: ·) := by
  have h45 : c ≠ 45 := by rintro rfl; rw [plB_45] at h; cases h
  match t with
  | [] => simp [rdW, h]
  | [d] => simp [rdW, h]
  | d :: e :: r => rw [rdW, if_neg h45, if_pos h]
theorem rdW_esc {h l x : UInt8} (e : escB h l = some x) (t : List UInt8) : rdW (45 :: h :: l :: t) = (rdW t).map (x :: ·) := by
  rw [rdW, if_pos rfl, e]; rfl
theorem wC_esc {c : UInt8} (h : plB c = false) : escB (hexB (c.toNat / 16)) (hexB (c.toNat % 16)) = some c := by
  have h1 : c.toNat < 256 := c.toNat_lt
  have e : UInt8.ofNat (16 * (c.toNat / 16) + c.toNat % 16) = c := by
    apply byte_ext
    rw [ofNat_toNat' (by omega)]; omega
  unfold escB
  rw [digB_hexB (by omega), digB_hexB (by omega), e, if_pos ⟨by omega, by omega, h⟩]
theorem rdW_wC (c : UInt8) (t : List UInt8) : rdW (wC c ++ t) = (rdW t).map (c :: ·) := by
  unfold wC
  by_cases h : plB c = true
  · rw [if_pos h]; exact rdW_plain h t
  · rw [if_neg h]
    exact rdW_esc (wC_esc (by simpa using h)) t
theorem rdW_flat : ∀ s : List UInt8, rdW (s.flatMap wC) = some s
  | [] => rfl
  | c :: s => by rw [List.flatMap_cons, rdW_wC, rdW_flat s]; rfl
theorem escB_some {h l x : UInt8} (e : escB h l = some x) : wC x = [45, h, l] := by
  unfold escB at e
  split at e
  case isTrue g =>
    obtain ⟨g1, g2, g3⟩ := g
    simp only [Option.some.injEq] at e
    subst e
    unfold wC
    rw [g3, ofNat_toNat' (by omega)]
    have e1 : (16 * digB h + digB l) / 16 = digB h := by omega
    have e2 : (16 * digB h + digB l) % 16 = digB l := by omega
    rw [e1, e2, digB_lt g1, digB_lt g2]; simp
  case isFalse => cases e
theorem flat_rdW : ∀ (n : Nat) (w t : List UInt8), w.length ≤ n → rdW w = some t → t.flatMap wC = w
  | n, [], t, _, h => by
    simp only [rdW, Option.some.injEq] at h
    subst h; rfl
  | 0, c :: r, t, hn, h => by simp at hn
  | n + 1, c :: r, t, hn, h => by
    by_cases hp : plB c = true
    · rw [rdW_plain hp] at h
      obtain ⟨t', h1, h2⟩ := Option.map_eq_some_iff.1 h
      subst h2
      rw [List.flatMap_cons, flat_rdW n r t' (by simpa using hn) h1]
      unfold wC; rw [if_pos hp]; rfl
    · match r, h with
      | [], h => simp [rdW, hp] at h
      | [d], h => simp [rdW, hp] at h
      | h' :: l :: r', h =>
        rw [rdW] at h
        by_cases h45 : c = 45
        · rw [if_pos h45] at h
          obtain ⟨x, e1, e2⟩ := Option.bind_eq_some_iff.1 h
          obtain ⟨t', h1, h2⟩ := Option.map_eq_some_iff.1 e2
          subst h2
          rw [List.flatMap_cons, flat_rdW n r' t' (by simp at hn; omega) h1, escB_some e1, h45]; rfl
        · rw [if_neg h45, if_neg hp] at h; cases h
theorem readW_ofW (s : List UInt8) : readW (ofW s) = some s := by
  unfold ofW
  by_cases h : s = []
  · rw [if_pos h, h]; rfl
  · rw [if_neg h]
    unfold readW
    have hne : s.flatMap wC ≠ [95] := by
      intro e
      have h2 := rdW_flat s
      rw [e] at h2
      simp [rdW, plB_95] at h2
    rw [if_neg hne, rdW_flat]; simp [h]
theorem ofW_readW {w t : List UInt8} (h : readW w = some t) : ofW t = w := by
  unfold readW at h
  split at h
  case isTrue g => simp only [Option.some.injEq] at h; subst h; rw [g]; rfl
  case isFalse g =>
    obtain ⟨t', h1, h2⟩ := Option.bind_eq_some_iff.1 h
    split at h2
    case isTrue => cases h2
    case isFalse g2 =>
      simp only [Option.some.injEq] at h2
      subst h2
      unfold ofW
      rw [if_neg g2, flat_rdW _ _ _ (Nat.le_refl _) h1]
end Go.Abs
namespace Go.Proofs.Ythiedimbmcgpdaa
open Go.Abs
theorem mixed : Try.prog.follows .mixedOrders = true := by kernel_rfl
@[go_sem] theorem tyStr3 : tyStr Try.prog 3 = false := by kernel_rfl
@[go_sem] theorem tyBool3 : tyBool Try.prog 3 = false := by kernel_rfl
@[go_sem] theorem tyPtr3 : tyPtr Try.prog 3 = false := by kernel_rfl
@[go_sem] theorem tyElem3 : tyElem Try.prog 3 = none := by kernel_rfl
@[go_sem] theorem tySize3 : tySize Try.prog 3 = some 1 := by kernel_rfl
@[go_sem] theorem tyAgg3 : tyAgg Try.prog 3 = some false := by kernel_rfl
@[go_sem] theorem tyInt3 : tyInt Try.prog 3 = some .i64 := by kernel_rfl
@[go_sem] theorem eqTy3 : eqTy Try.prog 3 = none := by kernel_rfl
@[go_sem] theorem tySize4 : tySize Try.prog 4 = some 1 := by kernel_rfl
@[go_sem] theorem tyAgg4 : tyAgg Try.prog 4 = some false := by kernel_rfl
@[go_sem] theorem tyStr5 : tyStr Try.prog 5 = false := by kernel_rfl
@[go_sem] theorem tyBool5 : tyBool Try.prog 5 = false := by kernel_rfl
@[go_sem] theorem tyPtr5 : tyPtr Try.prog 5 = false := by kernel_rfl
@[go_sem] theorem tyElem5 : tyElem Try.prog 5 = none := by kernel_rfl
@[go_sem] theorem tySize5 : tySize Try.prog 5 = some 1 := by kernel_rfl
@[go_sem] theorem tyAgg5 : tyAgg Try.prog 5 = some false := by kernel_rfl
@[go_sem] theorem tyInt5 : tyInt Try.prog 5 = some .u8 := by kernel_rfl
@[go_sem] theorem tyBytes5 : tyBytes Try.prog 5 = 1 := by kernel_rfl
@[go_sem] theorem zeroA5 : zeroA Try.prog 5 = some (.int .u8 0) := by kernel_rfl
@[go_sem] theorem eqTy5 : eqTy Try.prog 5 = none := by kernel_rfl
@[go_sem] theorem tyStr9 : tyStr Try.prog 9 = true := by kernel_rfl
@[go_sem] theorem tyBool9 : tyBool Try.prog 9 = false := by kernel_rfl
@[go_sem] theorem tyPtr9 : tyPtr Try.prog 9 = false := by kernel_rfl
@[go_sem] theorem tyElem9 : tyElem Try.prog 9 = none := by kernel_rfl
@[go_sem] theorem tyArr9 : tyArr Try.prog 9 = none := by kernel_rfl
@[go_sem] theorem tySize9 : tySize Try.prog 9 = some 1 := by kernel_rfl
@[go_sem] theorem tyAgg9 : tyAgg Try.prog 9 = some false := by kernel_rfl
@[go_sem] theorem tyBytes9 : tyBytes Try.prog 9 = 16 := by kernel_rfl
@[go_sem] theorem zeroA9 : zeroA Try.prog 9 = some (.str []) := by kernel_rfl
@[go_sem] theorem eqTy9 : eqTy Try.prog 9 = none := by kernel_rfl
@[go_sem] theorem tyElem22 : tyElem Try.prog 22 = some 35 := by kernel_rfl
@[go_sem] theorem tySize22 : tySize Try.prog 22 = some 1 := by kernel_rfl
@[go_sem] theorem tyAgg22 : tyAgg Try.prog 22 = some false := by kernel_rfl
@[go_sem] theorem tyBool25 : tyBool Try.prog 25 = false := by kernel_rfl
@[go_sem] theorem tyPtr25 : tyPtr Try.prog 25 = false := by kernel_rfl
@[go_sem] theorem tyElem25 : tyElem Try.prog 25 = none := by kernel_rfl
@[go_sem] theorem eqTy25 : eqTy Try.prog 25 = none := by kernel_rfl
@[go_sem] theorem tyBool35 : tyBool Try.prog 35 = false := by kernel_rfl
@[go_sem] theorem tyPtr35 : tyPtr Try.prog 35 = false := by kernel_rfl
@[go_sem] theorem tyElem35 : tyElem Try.prog 35 = none := by kernel_rfl
@[go_sem] theorem tyArr35 : tyArr Try.prog 35 = none := by kernel_rfl
@[go_sem] theorem tySize35 : tySize Try.prog 35 = some 4 := by kernel_rfl
@[go_sem] theorem tyAgg35 : tyAgg Try.prog 35 = some true := by kernel_rfl
@[go_sem] theorem tyBytes35 : tyBytes Try.prog 35 = 48 := by kernel_rfl
@[go_sem] theorem allSized35 : allSized Try.prog 35 = true := by kernel_rfl
@[go_sem] theorem zeroA35 : zeroA Try.prog 35 = some (.agg [.int .i64 0, .int .i64 0, .str [], .str []]) := by kernel_rfl
@[go_sem] theorem eqTy35 : eqTy Try.prog 35 = some [.int .i64, .int .i64, .str, .str] := by kernel_rfl
@[go_sem] theorem fi35_0 : fieldInfo Try.prog 35 0 = some (0, 3) := by kernel_rfl
@[go_sem] theorem fi35_1 : fieldInfo Try.prog 35 1 = some (1, 3) := by kernel_rfl
@[go_sem] theorem fi35_2 : fieldInfo Try.prog 35 2 = some (2, 9) := by kernel_rfl
@[go_sem] theorem fi35_3 : fieldInfo Try.prog 35 3 = some (3, 9) := by kernel_rfl
@[go_sem] theorem tyStr36 : tyStr Try.prog 36 = false := by kernel_rfl
@[go_sem] theorem tyElem36 : tyElem Try.prog 36 = some 9 := by kernel_rfl
@[go_sem] theorem tyArr36 : tyArr Try.prog 36 = none := by kernel_rfl
@[go_sem] theorem tyArr43 : tyArr Try.prog 43 = none := by kernel_rfl
@[go_sem] theorem tySize43 : tySize Try.prog 43 = some 2 := by kernel_rfl
@[go_sem] theorem allSized43 : allSized Try.prog 43 = true := by kernel_rfl
@[go_sem] theorem zeroA43 : zeroA Try.prog 43 = some (.agg [.str [], .bool false]) := by kernel_rfl
@[go_sem] theorem fi43_0 : fieldInfo Try.prog 43 0 = some (0, 9) := by kernel_rfl
@[go_sem] theorem fi43_1 : fieldInfo Try.prog 43 1 = some (1, 4) := by kernel_rfl
@[go_sem] theorem tyArr45 : tyArr Try.prog 45 = none := by kernel_rfl
@[go_sem] theorem allSized45 : allSized Try.prog 45 = true := by kernel_rfl
@[go_sem] theorem zeroA45 : zeroA Try.prog 45 = some (.agg [.str [], .bool false, .nils]) := by kernel_rfl
@[go_sem] theorem fi45_0 : fieldInfo Try.prog 45 0 = some (0, 43) := by kernel_rfl
@[go_sem] theorem fi45_1 : fieldInfo Try.prog 45 1 = some (2, 22) := by kernel_rfl
@[go_sem] theorem tyStr49 : tyStr Try.prog 49 = false := by kernel_rfl
@[go_sem] theorem tyElem49 : tyElem Try.prog 49 = some 5 := by kernel_rfl
@[go_sem] theorem tyBool65 : tyBool Try.prog 65 = false := by kernel_rfl
@[go_sem] theorem tyPtr65 : tyPtr Try.prog 65 = false := by kernel_rfl
@[go_sem] theorem tyElem65 : tyElem Try.prog 65 = none := by kernel_rfl
@[go_sem] theorem tyArr65 : tyArr Try.prog 65 = none := by kernel_rfl
@[go_sem] theorem tySize65 : tySize Try.prog 65 = some 3 := by kernel_rfl
@[go_sem] theorem tyAgg65 : tyAgg Try.prog 65 = some true := by kernel_rfl
@[go_sem] theorem allSized65 : allSized Try.prog 65 = true := by kernel_rfl
@[go_sem] theorem zeroA65 : zeroA Try.prog 65 = some (.agg [.str [], .str [], .bool false]) := by kernel_rfl
@[go_sem] theorem eqTy65 : eqTy Try.prog 65 = some [.str, .str, .bool] := by kernel_rfl
@[go_sem] theorem fi65_0 : fieldInfo Try.prog 65 0 = some (0, 9) := by kernel_rfl
@[go_sem] theorem fi65_1 : fieldInfo Try.prog 65 1 = some (1, 9) := by kernel_rfl
@[go_sem] theorem fi65_2 : fieldInfo Try.prog 65 2 = some (2, 4) := by kernel_rfl
@[go_sem] theorem zeroOK5 : zeroOK Try.prog 5 1 = true := by kernel_rfl
@[go_sem] theorem zeroOK9 : zeroOK Try.prog 9 1 = true := by kernel_rfl
@[go_sem] theorem zeroOK35 : zeroOK Try.prog 35 4 = true := by kernel_rfl
set_option linter.unusedSimpArgs false
set_option linter.unusedVariables false
set_option maxRecDepth 20000
def T0 : Tab := tab0
theorem T0_ok : TabOK Try.prog T0 := tab0_ok _
@[go_sem] theorem T0_eq : T0 = tab0 := rfl
theorem ok_key_Edge : codeOK Try.prog T0 Try.f33.ntmps (Try.f33.body.getD .skip) = true := by kernel_rfl
theorem c_key_Edge (s : List UInt8) (hs : s.length ≤ 9223372036854775807) : CallA Try.prog 33 [.str s] (· = .bool (decide (s.length ≤ 17))) := by
  refine callA_of_body T0_ok mixed Try.func33 rfl (Nat.le_of_ble_eq_true rfl) ok_key_Edge ?_
  unfold Try.f33
  simp -implicitDefEqProofs (disch := (first | omega | decide)) only [go_sem, ↓reduceIte, seval]
  apply decide_eq_decide.2
  omega
def cmpB : List UInt8 → List UInt8 → Int
  | [], [] => 0
  | [], _ :: _ => -1
  | _ :: _, [] => 1
  | a :: x, b :: y => if a < b then -1 else if b < a then 1 else cmpB x y
theorem cmpB_drop {a b : List UInt8} {k : Nat} (ha : k < a.length) (hb : k < b.length) : cmpB (a.drop k) (b.drop k) = if a[k] < b[k] then -1 else if b[k] < a[k] then 1 else cmpB (a.drop (k+1)) (b.drop (k+1)) := by
  rw [List.drop_eq_getElem_cons ha, List.drop_eq_getElem_cons hb]; rfl
theorem ok_key_Cmp : codeOK Try.prog T0 Try.f42.ntmps (Try.f42.body.getD .skip) = true := by kernel_rfl
theorem c_key_Cmp (a b : List UInt8) (ha : a.length ≤ 9223372036854775807) (hb : b.length ≤ 9223372036854775807) : CallA Try.prog 42 [.str a, .str b] (· = .int .i64 (cmpB a b)) := by
  refine callA_of_body T0_ok mixed Try.func42 rfl (Nat.le_of_ble_eq_true rfl) ok_key_Cmp ?_
  unfold Try.f42
  simp -implicitDefEqProofs (disch := (first | omega | decide)) only [go_sem, ↓reduceIte, seval]
  refine wpA_loop [0,1,10] (ι := {k : Nat // k ≤ a.length ∧ k ≤ b.length ∧ cmpB a b = cmpB (a.drop k) (b.drop k)}) (fun k => [(11, .int .i64 k.1)]) (fun _ => []) (fun k => a.length - k.1) ⟨0, by simp⟩ (by simp [T0, tab0]) ?_ ?_
  · simp -implicitDefEqProofs (disch := (first | omega | decide)) only [go_sem, ↓reduceIte, seval]
  · rintro ⟨k, hk1, hk2, hk3⟩
    by_cases hk : k < a.length ∧ k < b.length
    · obtain ⟨hka, hkb⟩ := hk
      have hmin : (k:Int) < if (b.length:Int) < a.length then (b.length : Int) else a.length := by split <;> omega
      have e1 : a[k]? = some a[k] := List.getElem?_eq_getElem hka
      have e2 : b[k]? = some b[k] := List.getElem?_eq_getElem hkb
      rw [cmpB_drop hka hkb] at hk3
      simp -implicitDefEqProofs (disch := (first | omega | decide)) only [go_sem, ↓reduceIte, seval, hmin, encU8, wrap_i64]
      simp only [decide_eq_true_eq, decide_eq_false_iff_not, Int.ofNat_lt]
      refine ⟨fun h => ?_, fun h => ⟨fun h' => ?_, fun h' => ⟨⟨k + 1, hka, hkb, ?_⟩, by simp, by simp; omega⟩⟩⟩
      · have : a[k] < b[k] := h
        rw [hk3, if_pos this]
      · have g : ¬ a[k] < b[k] := h
        have g' : b[k] < a[k] := h'
        rw [hk3, if_neg g, if_pos g']
      · have g : ¬ a[k] < b[k] := h
        have g' : ¬ b[k] < a[k] := h'
        rw [hk3, if_neg g, if_neg g']
    · have hmin : ¬ ((k:Int) < if (b.length:Int) < a.length then (b.length : Int) else a.length) := by split <;> omega
      simp -implicitDefEqProofs (disch := (first | omega | decide)) only [go_sem, ↓reduceIte, seval, hmin, encU8, wrap_i64]
      simp only [decide_eq_true_eq, decide_eq_false_iff_not, Int.ofNat_lt]
      rw [hk3]
      by_cases h1 : k < a.length
      · have h2 : b.drop k = [] := List.drop_of_length_le (by omega)
        rw [h2, List.drop_eq_getElem_cons h1]
        simp only [cmpB]
        refine ⟨fun h => ?_, fun h => ⟨fun _ => trivial, fun h' => ?_⟩⟩ <;> exfalso <;> omega
      · have h2 : a.drop k = [] := List.drop_of_length_le (by omega)
        rw [h2]
        by_cases h3 : k < b.length
        · rw [List.drop_eq_getElem_cons h3]
          simp only [cmpB]
          refine ⟨fun _ => trivial, fun h => ⟨fun h' => ?_, fun h' => ?_⟩⟩ <;> exfalso <;> omega
        · have h4 : b.drop k = [] := List.drop_of_length_le (by omega)
          rw [h4]
          simp only [cmpB]
          refine ⟨fun h => ?_, fun h => ⟨fun h' => ?_, fun _ => trivial⟩⟩ <;> exfalso <;> omega
noncomputable def T06a : Tab := T0
theorem T06a_ok : TabOK Try.prog T06a := T0_ok
noncomputable def T06b : Tab := T06a
theorem T06b_ok : TabOK Try.prog T06b := T06a_ok
noncomputable def T06c : Tab := T06b.add 33 (entry (fun (s : List UInt8) => [.str s]) (fun s => s.length ≤ 9223372036854775807) (fun s => .bool (decide (s.length ≤ 17))))
theorem T06c_ok : TabOK Try.prog T06c := T06b_ok.ent Try.func33 (by kernel_rfl) (by kernel_rfl) fun s h => c_key_Edge s h
theorem T06c_key_Edge (s : List UInt8) (h : s.length ≤ 9223372036854775807) : T06c.f 33 [.str s] = some (.bool (decide (s.length ≤ 17))) := Tab.ent_eq (Γ := T06b) (fun i j h => by simpa [Prod.ext_iff, and_assoc] using h) s h
noncomputable def T06d : Tab := T06c.add 42 (entry (fun (p : List UInt8 × List UInt8) => [.str p.1, .str p.2]) (fun p => p.1.length ≤ 9223372036854775807 ∧ p.2.length ≤ 9223372036854775807) (fun p => .int .i64 (cmpB p.1 p.2)))
theorem T06d_ok : TabOK Try.prog T06d := T06c_ok.ent Try.func42 (by kernel_rfl) (by kernel_rfl) fun p h => c_key_Cmp p.1 p.2 h.1 h.2
@[go_sem] theorem T06d_old {g : FuncId} {xs : List A} (h : g ≠ 42) : T06d.f g xs = T06c.f g xs := Tab.add_ne h
theorem T06d_key_Cmp (p : List UInt8 × List UInt8) (h : p.1.length ≤ 9223372036854775807 ∧ p.2.length ≤ 9223372036854775807) : T06d.f 42 [.str p.1, .str p.2] = some (.int .i64 (cmpB p.1 p.2)) := Tab.ent_eq (Γ := T06c) (fun i j h => by simpa [Prod.ext_iff, and_assoc] using h) p h
noncomputable def T06e : Tab := T06d
theorem T06e_ok : TabOK Try.prog T06e := T06d_ok
@[go_sem] theorem T06e_old {g : FuncId} {xs : List A} : T06e.f g xs = T06d.f g xs := rfl
@[go_sem] theorem t_key_Edge {s : List UInt8} (h : s.length ≤ 9223372036854775807) : T06c.f 33 [.str s] = some (.bool (decide (s.length ≤ 17))) := T06c_key_Edge s h
@[go_sem] theorem t_key_Cmp {a b : List UInt8} (h : a.length ≤ 9223372036854775807) (h' : b.length ≤ 9223372036854775807) : T06d.f 42 [.str a, .str b] = some (.int .i64 (cmpB a b)) := T06d_key_Cmp (a, b) ⟨h, h'⟩
set_option maxHeartbeats 4000000
theorem ok_ref06_Less : codeOK Try.prog T0 Try.f45.ntmps (Try.f45.body.getD .skip) = true := by kernel_rfl
theorem c_ref06_Less (a b : List UInt8) (ha : a.length ≤ 9223372036854775807) (hb : b.length ≤ 9223372036854775807) : CallA Try.prog 45 [.str a, .str b] (· = .bool (cmpB a b == -1)) := by
  refine callA_of_body T0_ok mixed Try.func45 rfl (Nat.le_of_ble_eq_true rfl) ok_ref06_Less ?_
  unfold Try.f45
  simp -implicitDefEqProofs (disch := (first | omega | decide)) only [go_sem, ↓reduceIte, seval]
  refine wpA_loop [0,1] (ι := {k : Nat // k ≤ a.length ∧ k ≤ b.length ∧ cmpB a b = cmpB (a.drop k) (b.drop k)}) (fun k => [(5, .int .i64 k.1)]) (fun _ => []) (fun k => a.length - k.1) ⟨0, by simp⟩ (by simp [T0, tab0]) ?_ ?_
  · simp -implicitDefEqProofs (disch := (first | omega | decide)) only [go_sem, ↓reduceIte, seval]
  · rintro ⟨k, hk1, hk2, hk3⟩
    by_cases hk : (k : Int) < a.length
    · have hka : k < a.length := by omega
      by_cases hk' : (b.length : Int) ≤ k
      · simp -implicitDefEqProofs (disch := (first | omega | decide)) only [go_sem, ↓reduceIte, seval, hk, hk', encU8, wrap_i64]
        have h2 : b.drop k = [] := List.drop_of_length_le (by omega)
        rw [hk3, h2, List.drop_eq_getElem_cons hka]
        rfl
      · have hkb : k < b.length := by omega
        have e1 : a[k]? = some a[k] := List.getElem?_eq_getElem hka
        have e2 : b[k]? = some b[k] := List.getElem?_eq_getElem hkb
        rw [cmpB_drop hka hkb] at hk3
        simp -implicitDefEqProofs (disch := (first | omega | decide)) only [go_sem, ↓reduceIte, seval, hk, hk', encU8, wrap_i64]
        refine ⟨fun h => ?_, fun h => ⟨⟨k + 1, hka, hkb, ?_⟩, by simp, by simp; omega⟩⟩
        · have hne : ¬ ((a[k].toNat : Int) = b[k].toNat) := by simpa using h
          have t : ∀ u v : UInt8, (u < v) = (u.toNat < v.toNat) := fun u v => rfl
          simp only [t] at hk3
          by_cases hl : a[k].toNat < b[k].toNat
          · rw [hk3, if_pos hl, decide_eq_true (by omega)]; rfl
          · rw [hk3, if_neg hl, if_pos (by omega), decide_eq_false (by omega)]; rfl
        · have he : ((a[k].toNat : Int) = b[k].toNat) := by simpa using h
          have t : ∀ u v : UInt8, (u < v) = (u.toNat < v.toNat) := fun u v => rfl
          simp only [t] at hk3
          rw [hk3, if_neg (by omega), if_neg (by omega)]
    · simp -implicitDefEqProofs (disch := (first | omega | decide)) only [go_sem, ↓reduceIte, seval, hk, encU8, wrap_i64]
      have h2 : a.drop k = [] := List.drop_of_length_le (by omega)
      rw [hk3, h2]
      by_cases h3 : k < b.length
      · rw [List.drop_eq_getElem_cons h3, decide_eq_true (by omega)]; rfl
      · rw [List.drop_of_length_le (by omega), decide_eq_false (by omega)]; rfl
def beginsB (s p : List UInt8) : Bool := decide (p.length ≤ s.length) && s.take p.length == p
noncomputable def T06f : Tab := T06e
theorem T06f_ok : TabOK Try.prog T06f := T06e_ok
@[go_sem] theorem T06f_old {g : FuncId} {xs : List A} : T06f.f g xs = T06e.f g xs := rfl
noncomputable def T06g : Tab := T06f.add 45 (entry (fun (p : List UInt8 × List UInt8) => [.str p.1, .str p.2]) (fun p => p.1.length ≤ 9223372036854775807 ∧ p.2.length ≤ 9223372036854775807) (fun p => .bool (cmpB p.1 p.2 == -1)))
theorem T06g_ok : TabOK Try.prog T06g := T06f_ok.ent Try.func45 (by kernel_rfl) (by kernel_rfl) fun p h => c_ref06_Less p.1 p.2 h.1 h.2
@[go_sem] theorem T06g_old {g : FuncId} {xs : List A} (h : g ≠ 45) : T06g.f g xs = T06f.f g xs := Tab.add_ne h
theorem T06g_ref06_Less (p : List UInt8 × List UInt8) (h : p.1.length ≤ 9223372036854775807 ∧ p.2.length ≤ 9223372036854775807) : T06g.f 45 [.str p.1, .str p.2] = some (.bool (cmpB p.1 p.2 == -1)) := Tab.ent_eq (Γ := T06f) (fun i j h => by simpa [Prod.ext_iff, and_assoc] using h) p h
noncomputable def T06h : Tab := T06g
theorem T06h_ok : TabOK Try.prog T06h := T06g_ok
@[go_sem] theorem T06h_old {g : FuncId} {xs : List A} : T06h.f g xs = T06g.f g xs := rfl
noncomputable def T06i : Tab := T06h
theorem T06i_ok : TabOK Try.prog T06i := T06h_ok
@[go_sem] theorem T06i_old {g : FuncId} {xs : List A} : T06i.f g xs = T06h.f g xs := rfl
@[go_sem] theorem t_ref06_Less {a b : List UInt8} (h : a.length ≤ 9223372036854775807) (h' : b.length ≤ 9223372036854775807) : T06g.f 45 [.str a, .str b] = some (.bool (cmpB a b == -1)) := T06g_ref06_Less (a, b) ⟨h, h'⟩
theorem cmpB_cons (a b : UInt8) (x y : List UInt8) : cmpB (a :: x) (b :: y) = if a.toNat < b.toNat then -1 else if b.toNat < a.toNat then 1 else cmpB x y := by
  simp only [cmpB]
  by_cases h1 : a.toNat < b.toNat
  · rw [if_pos h1, if_pos (show a < b from h1)]
  · rw [if_neg h1, if_neg (show ¬ a < b from h1)]
    by_cases h2 : b.toNat < a.toNat
    · rw [if_pos h2, if_pos (show b < a from h2)]
    · rw [if_neg h2, if_neg (show ¬ b < a from h2)]
theorem cmp_cases : ∀ a b : List UInt8, cmpB a b = -1 ∨ cmpB a b = 0 ∨ cmpB a b = 1
  | [], [] => .inr (.inl rfl)
  | [], _ :: _ => .inl rfl
  | _ :: _, [] => .inr (.inr rfl)
  | a :: x, b :: y => by
    simp only [cmpB]
    split
    · exact .inl rfl
    · split
      · exact .inr (.inr rfl)
      · exact cmp_cases x y
theorem cmp_neg : ∀ a b : List UInt8, cmpB b a = - cmpB a b
  | [], [] => rfl
  | [], _ :: _ => rfl
  | _ :: _, [] => rfl
  | a :: x, b :: y => by
    have ih := cmp_neg x y
    simp only [cmpB_cons]
    by_cases h1 : a.toNat < b.toNat
    · rw [if_neg (by omega), if_pos h1, if_pos h1]; rfl
    · by_cases h2 : b.toNat < a.toNat
      · rw [if_pos h2, if_neg h1, if_pos h2]
      · rw [if_neg h2, if_neg h1, if_neg h1, if_neg h2]; exact ih
theorem cmp_zero : ∀ {a b : List UInt8}, cmpB a b = 0 ↔ a = b
  | [], [] => by simp [cmpB]
  | [], _ :: _ => by simp [cmpB]
  | _ :: _, [] => by simp [cmpB]
  | a :: x, b :: y => by
    have ih := cmp_zero (a := x) (b := y)
    simp only [cmpB_cons]
    by_cases h1 : a.toNat < b.toNat
    · rw [if_pos h1]
      have : a ≠ b := fun e => by subst e; omega
      simp [this]
    · by_cases h2 : b.toNat < a.toNat
      · rw [if_neg h1, if_pos h2]
        have : a ≠ b := fun e => by subst e; omega
        simp [this]
      · rw [if_neg h1, if_neg h2, ih]
        have : a = b := UInt8.toNat_inj.1 (by omega)
        simp [this]
theorem cmp_self (a : List UInt8) : cmpB a a = 0 := cmp_zero.2 rfl
theorem cmp_trans : ∀ {a b c : List UInt8}, cmpB a b = -1 → cmpB b c = -1 → cmpB a c = -1
  | [], [], _, h, _ => by simp [cmpB] at h
  | [], _ :: _, [], _, h => by simp [cmpB] at h
  | [], _ :: _, _ :: _, _, _ => rfl
  | _ :: _, [], _, h, _ => by simp [cmpB] at h
  | _ :: _, _ :: _, [], _, h => by simp [cmpB] at h
  | a :: x, b :: y, c :: z, h1, h2 => by
    have ih := @cmp_trans x y z
    simp only [cmpB_cons] at h1 h2 ⊢
    split at h1
    · split at h2
      · rw [if_pos (by omega)]
      · split at h2
        · simp at h2
        · rw [if_pos (by omega)]
    · split at h1
      · simp at h1
      · split at h2
        · rw [if_pos (by omega)]
        · split at h2
          · simp at h2
          · rw [if_neg (by omega), if_neg (by omega)]
            exact ih h1 h2
def ltB (a b : List UInt8) : Bool := cmpB a b == -1
theorem lt_irrefl (a : List UInt8) : ltB a a = false := by simp [ltB, cmp_self]
theorem lt_trans' {a b c : List UInt8} (h1 : ltB a b = true) (h2 : ltB b c = true) : ltB a c = true := by
  simp only [ltB, beq_iff_eq] at *; exact cmp_trans h1 h2
theorem lt_asymm' {a b : List UInt8} (h1 : ltB a b = true) : ltB b a = false := by
  simp only [ltB, beq_iff_eq] at h1
  simp [ltB, cmp_neg a b, h1]
theorem lt_tri (a b : List UInt8) : ltB a b = true ∨ a = b ∨ ltB b a = true := by
  rcases cmp_cases a b with h | h | h
  · exact .inl (by simp [ltB, h])
  · exact .inr (.inl (cmp_zero.1 h))
  · exact .inr (.inr (by simp [ltB, cmp_neg a b, h]))
theorem cmp_of_lt {a b : List UInt8} (h : ltB a b = true) : cmpB a b = -1 := by simpa [ltB] using h
theorem cmp_of_gt {a b : List UInt8} (h : ltB b a = true) : cmpB a b = 1 := by rw [cmp_neg, cmp_of_lt h]; rfl
noncomputable def T06j : Tab := T06i
theorem T06j_ok : TabOK Try.prog T06j := T06i_ok
@[go_sem] theorem T06j_old {g : FuncId} {xs : List A} : T06j.f g xs = T06i.f g xs := rfl
noncomputable def T06k : Tab := T06j
theorem T06k_ok : TabOK Try.prog T06k := T06j_ok
@[go_sem] theorem T06k_old {g : FuncId} {xs : List A} : T06k.f g xs = T06j.f g xs := rfl
noncomputable def T06l : Tab := T06k
theorem T06l_ok : TabOK Try.prog T06l := T06k_ok
@[go_sem] theorem T06l_old {g : FuncId} {xs : List A} : T06l.f g xs = T06k.f g xs := rfl
@[go_sem] theorem T06l_s : T06l.pl T06k := ⟨fun _ => rfl, fun _ => rfl, rfl, fun _ => rfl, rfl, fun _ => rfl, rfl⟩
@[go_sem] theorem cmp_lt0 {a b : List UInt8} : decide (cmpB a b < 0) = ltB a b := by
  rcases lt_tri a b with h | h | h
  · rw [cmp_of_lt h, h]; rfl
  · subst h; rw [cmp_self, lt_irrefl]; rfl
  · rw [cmp_of_gt h, lt_asymm' h]; rfl
@[go_sem] theorem cmp_eqm1 {a b : List UInt8} : (cmpB a b == -1) = ltB a b := rfl
structure Rng where
  lo : List UInt8
  hi : List UInt8
  op : Bool
  deriving DecidableEq
def Rng.enc (r : Rng) : A := .agg [.str r.lo, .str r.hi, .bool r.op]
@[go_sem] theorem Rng.enc_eq {a b : List UInt8} {c : Bool} : Rng.enc ⟨a, b, c⟩ = .agg [.str a, .str b, .bool c] := rfl
theorem Rng.enc_inj (r s : Rng) (h : r.enc = s.enc) : r = s := by
  cases r; cases s; simpa [Rng.enc] using h
def Rng.zero : Rng := ⟨[], [], false⟩
def Rng.ok (r : Rng) : Prop := r.lo.length ≤ 9223372036854775807 ∧ r.hi.length ≤ 9223372036854775807
def rightR (r : Rng) : Bool := decide (r.lo.length ≤ 17) && decide (r.hi.length ≤ 17) && (if r.op then r.hi == [] else ltB r.lo r.hi)
def hasR (r : Rng) (s : List UInt8) : Bool := rightR r && !ltB s r.lo && (r.op || ltB s r.hi)
theorem ok_span_Right : codeOK Try.prog T06l Try.f32.ntmps (Try.f32.body.getD .skip) = true := by kernel_rfl
theorem c_span_Right (lo hi : List UInt8) (op : Bool) (h1 : lo.length ≤ 9223372036854775807) (h2 : hi.length ≤ 9223372036854775807) : CallA Try.prog 32 [.agg [.str lo, .str hi, .bool op]] (· = .bool (rightR ⟨lo, hi, op⟩)) := by
  refine callA_of_body T06l_ok mixed Try.func32 rfl (Nat.le_of_ble_eq_true rfl) ok_span_Right ?_
  unfold Try.f32
  by_cases g1 : lo.length ≤ 17
  · by_cases g2 : hi.length ≤ 17
    · cases op <;> simp -implicitDefEqProofs (disch := (first | omega | decide)) only [go_sem, ↓reduceIte, seval, g1, g2, rightR]
    · simp -implicitDefEqProofs (disch := (first | omega | decide)) only [go_sem, ↓reduceIte, seval, g1, g2, rightR]
  · simp -implicitDefEqProofs (disch := (first | omega | decide)) only [go_sem, ↓reduceIte, seval, g1, rightR]
theorem ok_ref07_Right : codeOK Try.prog T06l Try.f36.ntmps (Try.f36.body.getD .skip) = true := by kernel_rfl
theorem c_ref07_Right (lo hi : List UInt8) (op : Bool) (h1 : lo.length ≤ 9223372036854775807) (h2 : hi.length ≤ 9223372036854775807) : CallA Try.prog 36 [.agg [.str lo, .str hi, .bool op]] (· = .bool (rightR ⟨lo, hi, op⟩)) := by
  refine callA_of_body T06l_ok mixed Try.func36 rfl (Nat.le_of_ble_eq_true rfl) ok_ref07_Right ?_
  unfold Try.f36
  by_cases g1 : lo.length ≤ 17
  · have f1 : ¬ (17 : Int) < lo.length := by omega
    by_cases g2 : hi.length ≤ 17
    · have f2 : ¬ (17 : Int) < hi.length := by omega
      cases op <;> simp -implicitDefEqProofs (disch := (first | omega | decide)) only [go_sem, ↓reduceIte, seval, g1, g2, f1, f2, rightR]
    · have f2 : (17 : Int) < hi.length := by omega
      simp -implicitDefEqProofs (disch := (first | omega | decide)) only [go_sem, ↓reduceIte, seval, g1, g2, f1, f2, rightR]
  · have f1 : (17 : Int) < lo.length := by omega
    simp -implicitDefEqProofs (disch := (first | omega | decide)) only [go_sem, ↓reduceIte, seval, g1, f1, rightR]
noncomputable def T07a : Tab := T06l
theorem T07a_ok : TabOK Try.prog T07a := T06l_ok
@[go_sem] theorem T07a_old {g : FuncId} {xs : List A} : T07a.f g xs = T06l.f g xs := rfl
noncomputable def T07b : Tab := T07a
theorem T07b_ok : TabOK Try.prog T07b := T07a_ok
@[go_sem] theorem T07b_old {g : FuncId} {xs : List A} : T07b.f g xs = T07a.f g xs := rfl
noncomputable def T07c : Tab := T07b
theorem T07c_ok : TabOK Try.prog T07c := T07b_ok
@[go_sem] theorem T07c_old {g : FuncId} {xs : List A} : T07c.f g xs = T07b.f g xs := rfl
noncomputable def T07d : Tab := T07c
theorem T07d_ok : TabOK Try.prog T07d := T07c_ok
@[go_sem] theorem T07d_old {g : FuncId} {xs : List A} : T07d.f g xs = T07c.f g xs := rfl
noncomputable def T07e : Tab := T07d
theorem T07e_ok : TabOK Try.prog T07e := T07d_ok
@[go_sem] theorem T07e_old {g : FuncId} {xs : List A} : T07e.f g xs = T07d.f g xs := rfl
noncomputable def T07f : Tab := T07e.add 32 (entry (fun (r : List UInt8 × List UInt8 × Bool) => [.agg [.str r.1, .str r.2.1, .bool r.2.2]]) (fun r => r.1.length ≤ 9223372036854775807 ∧ r.2.1.length ≤ 9223372036854775807) (fun r => .bool (rightR ⟨r.1, r.2.1, r.2.2⟩)))
theorem T07f_ok : TabOK Try.prog T07f := T07e_ok.ent Try.func32 (by kernel_rfl) (by kernel_rfl) fun r h => c_span_Right r.1 r.2.1 r.2.2 h.1 h.2
@[go_sem] theorem T07f_old {g : FuncId} {xs : List A} (h : g ≠ 32) : T07f.f g xs = T07e.f g xs := Tab.add_ne h
theorem T07f_span_Right (r : List UInt8 × List UInt8 × Bool) (h : r.1.length ≤ 9223372036854775807 ∧ r.2.1.length ≤ 9223372036854775807) : T07f.f 32 [.agg [.str r.1, .str r.2.1, .bool r.2.2]] = some (.bool (rightR ⟨r.1, r.2.1, r.2.2⟩)) := Tab.ent_eq (Γ := T07e) (fun i j h => by simpa [Prod.ext_iff, and_assoc] using h) r h
noncomputable def T07g : Tab := T07f.add 36 (entry (fun (r : List UInt8 × List UInt8 × Bool) => [.agg [.str r.1, .str r.2.1, .bool r.2.2]]) (fun r => r.1.length ≤ 9223372036854775807 ∧ r.2.1.length ≤ 9223372036854775807) (fun r => .bool (rightR ⟨r.1, r.2.1, r.2.2⟩)))
theorem T07g_ok : TabOK Try.prog T07g := T07f_ok.ent Try.func36 (by kernel_rfl) (by kernel_rfl) fun r h => c_ref07_Right r.1 r.2.1 r.2.2 h.1 h.2
@[go_sem] theorem T07g_old {g : FuncId} {xs : List A} (h : g ≠ 36) : T07g.f g xs = T07f.f g xs := Tab.add_ne h
theorem T07g_ref07_Right (r : List UInt8 × List UInt8 × Bool) (h : r.1.length ≤ 9223372036854775807 ∧ r.2.1.length ≤ 9223372036854775807) : T07g.f 36 [.agg [.str r.1, .str r.2.1, .bool r.2.2]] = some (.bool (rightR ⟨r.1, r.2.1, r.2.2⟩)) := Tab.ent_eq (Γ := T07f) (fun i j h => by simpa [Prod.ext_iff, and_assoc] using h) r h
@[go_sem] theorem t_span_Right {lo hi : List UInt8} {op : Bool} (h1 : lo.length ≤ 9223372036854775807) (h2 : hi.length ≤ 9223372036854775807) : T07f.f 32 [.agg [.str lo, .str hi, .bool op]] = some (.bool (rightR ⟨lo, hi, op⟩)) := T07f_span_Right (lo, hi, op) ⟨h1, h2⟩
@[go_sem] theorem t_ref07_Right {lo hi : List UInt8} {op : Bool} (h1 : lo.length ≤ 9223372036854775807) (h2 : hi.length ≤ 9223372036854775807) : T07g.f 36 [.agg [.str lo, .str hi, .bool op]] = some (.bool (rightR ⟨lo, hi, op⟩)) := T07g_ref07_Right (lo, hi, op) ⟨h1, h2⟩
noncomputable def T07h : Tab := T07g
theorem T07h_ok : TabOK Try.prog T07h := T07g_ok
@[go_sem] theorem T07h_old {g : FuncId} {xs : List A} : T07h.f g xs = T07g.f g xs := rfl
noncomputable def T07i : Tab := T07h
theorem T07i_ok : TabOK Try.prog T07i := T07h_ok
@[go_sem] theorem T07i_old {g : FuncId} {xs : List A} : T07i.f g xs = T07h.f g xs := rfl
noncomputable def T07j : Tab := T07i
theorem T07j_ok : TabOK Try.prog T07j := T07i_ok
@[go_sem] theorem T07j_old {g : FuncId} {xs : List A} : T07j.f g xs = T07i.f g xs := rfl
noncomputable def T07 : Tab := T07j
theorem T07_ok : TabOK Try.prog T07 := T07j_ok
@[go_sem] theorem T07_old {g : FuncId} {xs : List A} : T07.f g xs = T07j.f g xs := rfl
end Go.Proofs.Ythiedimbmcgpdaa
namespace Go.Iv
set_option linter.unusedSimpArgs false
set_option linter.unusedVariables false
set_option linter.unusedSectionVars false
structure Lin {α : Type} (lt : α → α → Bool) : Prop where
  irr : ∀ x, lt x x = false
  tr : ∀ x y z, lt x y = true → lt y z = true → lt x z = true
  tri : ∀ x y, lt x y = true ∨ x = y ∨ lt y x = true
section
variable {α : Type} (lt : α → α → Bool)
def below (x : α) : Option α → Bool
  | none => true
  | some h => lt x h
def memI (i : α × Option α) (x : α) : Bool := !lt x i.1 && below lt x i.2
def mem (l : List (α × Option α)) (x : α) : Bool := l.any (memI lt · x)
end
section
variable {α : Type} {lt : α → α → Bool} (hl : Lin lt)
include hl
end
section
variable {α : Type} {lt : α → α → Bool} (hl : Lin lt) {p : α → Bool}
include hl
end
def maxE {α : Type} (lt : α → α → Bool) : Option α → Option α → Option α
  | some a, some b => if lt a b then some b else some a
  | _, _ => none
def touch {α : Type} (lt : α → α → Bool) (c : Option α) (r : α) : Bool :=
  match c with
  | none => true
  | some h => !lt h r
def mrg {α : Type} (lt : α → α → Bool) : α × Option α → List (α × Option α) → List (α × Option α)
  | c, [] => [c]
  | c, r :: rs => if touch lt c.2 r.1 then mrg lt (c.1, maxE lt c.2 r.2) rs else c :: mrg lt r rs
section
variable {α : Type} {lt : α → α → Bool} (hl : Lin lt)
include hl
def join {α : Type} (lt : α → α → Bool) : List (α × Option α) → List (α × Option α)
  | [] => []
  | c :: rs => mrg lt c rs
end
end Go.Iv
namespace Go.Proofs.Ythiedimbmcgpdaa
open Go.Abs
set_option linter.unusedSimpArgs false
set_option linter.unusedVariables false
def hasRs (l : List Rng) (s : List UInt8) : Bool := l.any (hasR · s)
def goRs : Option Rng → List Rng → Bool
  | _, [] => true
  | p, r :: rs => rightR r && (match p with | none => true | some q => !(q.op || !ltB q.hi r.lo)) && goRs (some r) rs
def rightRs (l : List Rng) : Bool := goRs none l
open Classical in
/-- The right list of the texts that are meant, if there is one. -/
noncomputable def setS (p : List UInt8 → Bool) : List Rng := if h : ∃ l, rightRs l = true ∧ ∀ n, hasRs l n = p n then Classical.choose h else []
def stS (P : List UInt8 → Bool) (st : List Rng × Bool) (e : List UInt8) : List Rng × Bool :=
  (if P e && !st.2 then ⟨e, [], true⟩ :: st.1 else if !P e && st.2 then (match st.1 with | q :: qs => ⟨q.lo, e, false⟩ :: qs | [] => []) else st.1, P e)
def mkS (P : List UInt8 → Bool) (es : List (List UInt8)) : List Rng × Bool := es.foldl (stS P) ([], false)
structure Nd where
  op : Int
  kids : Int
  lo : List UInt8
  hi : List UInt8
  deriving DecidableEq
def okN (n : Nd) : Bool :=
  if n.op == 1 || n.op == 2 then n.kids == 0 && n.lo == [] && n.hi == []
  else if n.op == 3 then n.kids == 0 && decide (n.lo.length ≤ 16) && n.hi == []
  else if n.op == 4 then n.kids == 0 && rightR ⟨n.lo, n.hi, false⟩
  else if n.op == 5 then n.kids == 0 && decide (n.lo.length ≤ 17) && n.hi == []
  else if !(n.lo == []) || !(n.hi == []) then false
  else (n.op == 6 && n.kids == 1) || ((n.op == 7 || n.op == 8) && decide (1 ≤ n.kids) && decide (n.kids ≤ 32))
def hasN (n : Nd) (vs : List (List UInt8 → Bool)) (x : List UInt8) : Bool :=
  if n.op == 1 then true else if n.op == 3 then beginsB x n.lo else if n.op == 4 then hasR ⟨n.lo, n.hi, false⟩ x else if n.op == 5 then !ltB x n.lo
  else if n.op == 6 then !(vs.all (· x)) else if n.op == 7 then vs.all (· x) else if n.op == 8 then vs.any (· x) else false
def kN (n : Nd) : Nat := n.kids.toNat
theorem okN_kids {n : Nd} (h : okN n = true) : n.kids = (kN n : Int) ∧ kN n ≤ 32 := by
  unfold kN
  unfold okN at h
  repeat' split at h
  all_goals simp at h
  all_goals omega
def stepN (st : List (List UInt8 → Bool)) (n : Nd) : Option (List (List UInt8 → Bool)) :=
  if okN n = true ∧ kN n ≤ st.length then some (st.take (st.length - kN n) ++ [hasN n (st.drop (st.length - kN n))]) else none
def runN : List (List UInt8 → Bool) → List Nd → Option (List (List UInt8 → Bool))
  | st, [] => some st
  | st, n :: l => (stepN st n).bind fun s => runN s l
theorem runN_append : ∀ (l m : List Nd) (st : List (List UInt8 → Bool)), runN st (l ++ m) = (runN st l).bind fun s => runN s m
  | [], m, st => rfl
  | n :: l, m, st => by
    show (stepN st n).bind _ = ((stepN st n).bind _).bind _
    cases h : stepN st n with
    | none => rfl
    | some s => exact runN_append l m s
theorem runN_snoc (l : List Nd) (n : Nd) (st : List (List UInt8 → Bool)) : runN st (l ++ [n]) = (runN st l).bind fun s => stepN s n := by
  rw [runN_append]
  cases runN st l with
  | none => rfl
  | some s =>
    show runN s [n] = stepN s n
    show (stepN s n).bind (fun s => runN s []) = stepN s n
    cases stepN s n <;> rfl
theorem runN_ne {l : List Nd} {st s : List (List UInt8 → Bool)} (h : runN st l = some s) (hl : l ≠ []) : s ≠ [] := by
  obtain ⟨l', n, rfl⟩ : ∃ l' n, l = l' ++ [n] := ⟨l.dropLast, l.getLast hl, (List.dropLast_concat_getLast hl).symm⟩
  rw [runN_snoc] at h
  cases h1 : runN st l' with
  | none => rw [h1] at h; cases h
  | some t =>
    rw [h1] at h
    have h : stepN t n = some s := h
    unfold stepN at h
    split at h
    · obtain rfl := Option.some.inj h; simp
    · cases h
theorem runN_take {l : List Nd} {s : List (List UInt8 → Bool)} (h : runN [] l = some s) (k : Nat) : ∃ t, runN [] (l.take k) = some t := by
  have := runN_append (l.take k) (l.drop k) []
  rw [List.take_append_drop, h] at this
  cases h1 : runN [] (l.take k) with
  | none => rw [h1] at this; cases this
  | some t => exact ⟨t, rfl⟩
theorem runN_take_succ {l : List Nd} {k : Nat} (h : k < l.length) (st : List (List UInt8 → Bool)) : runN st (l.take (k + 1)) = (runN st (l.take k)).bind fun s => stepN s l[k] := by
  rw [List.take_succ_eq_append_getElem h, runN_snoc]
def skip : Nat → List Nd → Option (List Nd)
  | 0, r => some r
  | _ + 1, [] => none
  | c + 1, n :: r => if okN n = true then skip (c + kN n) r else none
theorem skip_add : ∀ (r : List Nd) (c d : Nat), skip (c + d) r = (skip c r).bind (skip d)
  | r, 0, d => by rw [Nat.zero_add]; simp only [skip, Option.bind_some]
  | [], c + 1, d => by rw [Nat.add_right_comm]; rfl
  | n :: r, c + 1, d => by
    rw [Nat.add_right_comm]
    simp only [skip]
    by_cases h : okN n = true
    · rw [if_pos h, if_pos h, Nat.add_right_comm, skip_add r]
    · rw [if_neg h, if_neg h]; rfl
theorem skip_run : ∀ (r : List Nd) (c : Nat) (rest : List Nd), skip c r = some rest → ∃ seg, r = seg ++ rest ∧ ∀ st, ∃ vs, vs.length = c ∧ runN st seg.reverse = some (st ++ vs)
  | r, 0, rest, h => by
    simp only [skip] at h
    obtain rfl := Option.some.inj h
    exact ⟨[], rfl, fun st => ⟨[], rfl, by simp [runN]⟩⟩
  | [], c + 1, rest, h => by simp only [skip] at h; cases h
  | n :: r, c + 1, rest, h => by
    simp only [skip] at h
    split at h
    · rename_i hn
      obtain ⟨seg, rfl, hs⟩ := skip_run r _ rest h
      refine ⟨n :: seg, rfl, fun st => ?_⟩
      obtain ⟨vs, hv, hr⟩ := hs st
      refine ⟨vs.take c ++ [hasN n ((st ++ vs).drop ((st ++ vs).length - kN n))], by simp; omega, ?_⟩
      rw [List.reverse_cons, runN_snoc, hr]
      show stepN _ _ = _
      unfold stepN
      rw [if_pos ⟨hn, by simp; omega⟩]
      have e : (st ++ vs).length - kN n = st.length + c := by simp; omega
      rw [e, List.take_append, List.take_of_length_le (by omega), Nat.add_sub_cancel_left, List.append_assoc]
    · cases h
theorem run_skip : ∀ (r : List Nd) (st : List (List UInt8 → Bool)), runN [] r.reverse = some st → ∀ c, c ≤ st.length → ∃ p q, r.reverse = p ++ q ∧ skip c r = some p.reverse ∧ runN [] p = some (st.take (st.length - c))
  | r, st, h, 0, _ => ⟨r.reverse, [], by simp, by simp [skip], by rw [h]; simp⟩
  | [], st, h, c + 1, hc => by
    have h : some [] = some st := h
    obtain rfl := Option.some.inj h
    simp at hc
  | n :: r, st, h, c + 1, hc => by
    rw [List.reverse_cons, runN_snoc] at h
    cases h1 : runN [] r.reverse with
    | none => rw [h1] at h; cases h
    | some t =>
      rw [h1] at h
      have h : stepN t n = some st := h
      unfold stepN at h
      split at h
      · rename_i hn
        obtain rfl := Option.some.inj h
        simp only [List.length_append, List.length_take, List.length_cons, List.length_nil] at hc
        obtain ⟨p, q, h2, h3, h4⟩ := run_skip r t h1 (c + kN n) (by omega)
        refine ⟨p, q ++ [n], by rw [List.reverse_cons, h2, List.append_assoc], by simp only [skip]; rw [if_pos hn.1, h3], ?_⟩
        rw [h4]
        congr 1
        simp only [List.length_append, List.length_take, List.length_cons, List.length_nil]
        rw [List.take_append_of_le_length (by rw [List.length_take]; omega), List.take_take]
        congr 1
        omega
      · cases h
def begI (l : List Nd) (at_ : Int) : Int := if at_ < 0 then -1 else match skip 1 (l.take (at_.toNat + 1)).reverse with | some r => (r.length : Int) | none => -1
def valF (l : List Nd) : Option (List UInt8 → Bool) := if l.length ≤ 32 then (match runN [] l with | some [v] => some v | _ => none) else none
def rightF (l : List Nd) : Bool := (valF l).isSome
theorem valF_some {l : List Nd} {v : List UInt8 → Bool} : valF l = some v ↔ l.length ≤ 32 ∧ runN [] l = some [v] := by
  unfold valF
  constructor
  · intro h
    split at h
    · rename_i hl
      refine ⟨hl, ?_⟩
      split at h
      · rename_i e; rw [e]; rw [Option.some.inj h]
      · cases h
    · cases h
  · rintro ⟨h1, h2⟩
    rw [if_pos h1, h2]
theorem rightF_iff {l : List Nd} : rightF l = true ↔ ∃ v, l.length ≤ 32 ∧ runN [] l = some [v] := by
  unfold rightF
  rw [Option.isSome_iff_exists]
  exact ⟨fun ⟨v, h⟩ => ⟨v, valF_some.1 h⟩, fun ⟨v, h⟩ => ⟨v, valF_some.2 h⟩⟩
theorem ref_right (l : List Nd) : (decide (1 ≤ l.length) && decide (l.length ≤ 32) && (begI l ((l.length : Int) - 1) == 0)) = rightF l := by
  rw [Bool.eq_iff_iff, rightF_iff]
  simp only [Bool.and_eq_true, decide_eq_true_eq, beq_iff_eq]
  constructor
  · rintro ⟨⟨h1, h2⟩, h3⟩
    unfold begI at h3
    rw [if_neg (by omega)] at h3
    have e : ((l.length : Int) - 1).toNat + 1 = l.length := by omega
    rw [e, List.take_length] at h3
    cases hs : skip 1 l.reverse with
    | none => rw [hs] at h3; simp at h3
    | some r =>
      rw [hs] at h3
      have : r = [] := List.length_eq_zero_iff.1 (by simpa using h3)
      subst this
      obtain ⟨seg, h4, h5⟩ := skip_run _ _ _ hs
      obtain ⟨vs, h6, h7⟩ := h5 []
      obtain ⟨v, rfl⟩ := List.length_eq_one_iff.1 h6
      rw [List.append_nil] at h4
      rw [← h4, List.reverse_reverse] at h7
      exact ⟨v, h2, h7⟩
  · rintro ⟨v, h1, h2⟩
    have hl : 1 ≤ l.length := by
      cases l with
      | nil => simp [runN] at h2
      | cons _ _ => simp
    refine ⟨⟨hl, h1⟩, ?_⟩
    unfold begI
    rw [if_neg (by omega)]
    have e : ((l.length : Int) - 1).toNat + 1 = l.length := by omega
    rw [e, List.take_length]
    obtain ⟨p, q, h3, h4, h5⟩ := run_skip l.reverse [v] (by rw [List.reverse_reverse]; exact h2) 1 (by simp)
    have : p = [] := by
      cases p with
      | nil => rfl
      | cons a p => exact absurd rfl (runN_ne h5 (by simp))
    subst this
    rw [h4]; rfl
set_option maxRecDepth 20000
set_option maxHeartbeats 4000000
noncomputable def RL12 : Tab := T07
theorem RL12_ok : TabOK Try.prog RL12 := T07_ok
@[go_sem] theorem RL12_old {g : FuncId} {xs : List A} : RL12.f g xs = T07.f g xs := rfl
@[go_sem] theorem RL12_s : RL12.pl T07 := ⟨fun _ => rfl, fun _ => rfl, rfl, fun _ => rfl, rfl, fun _ => rfl, rfl⟩
set_option maxHeartbeats 8000000
def Nd.enc (n : Nd) : A := .agg [.int .i64 n.op, .int .i64 n.kids, .str n.lo, .str n.hi]
@[go_sem] theorem Nd.enc_eq {a b : Int} {c d : List UInt8} : Nd.enc ⟨a, b, c, d⟩ = .agg [.int .i64 a, .int .i64 b, .str c, .str d] := rfl
theorem Nd.enc_inj (r s : Nd) (h : r.enc = s.enc) : r = s := by
  cases r; cases s; simpa [Nd.enc] using h
@[simp] theorem Nd.enc_eq_iff {r s : Nd} : (r.enc = s.enc) = (r = s) := propext ⟨Nd.enc_inj r s, fun h => by rw [h]⟩
def Nd.ok (n : Nd) : Prop := n.lo.length ≤ 9223372036854775807 ∧ n.hi.length ≤ 9223372036854775807
def okF (l : List Nd) : Prop := ∀ n ∈ l, n.ok
theorem nd_get {l : List Nd} {k : Nat} (h : k < l.length) : (l.map Nd.enc)[k]? = some (.agg [.int .i64 l[k].op, .int .i64 l[k].kids, .str l[k].lo, .str l[k].hi]) := by
  rw [List.getElem?_map, List.getElem?_eq_getElem h]; rfl
@[simp] theorem map_nd_inj {l m : List Nd} : (l.map Nd.enc = m.map Nd.enc) = (l = m) := map_inj Nd.enc_inj
theorem ok_ref09_Node : codeOK Try.prog RL12 Try.f24.ntmps (Try.f24.body.getD .skip) = true := by kernel_rfl
theorem c_ref09_Node (n : Nd) (h : n.ok) : CallA Try.prog 24 [n.enc] (· = .bool (okN n)) := by
  refine callA_of_body RL12_ok mixed Try.func24 rfl (Nat.le_of_ble_eq_true rfl) ok_ref09_Node ?_
  unfold Try.f24
  obtain ⟨op, kids, lo, hi⟩ := n
  obtain ⟨h1, h2⟩ := h
  simp only at h1 h2
  unfold okN
  cases e1 : op == 1 with
  | true => cases k0 : kids == 0 <;> cases l0 : lo == [] <;> cases g0 : hi == [] <;> simp -implicitDefEqProofs (disch := (first | omega | decide)) only [go_sem, ↓reduceIte, seval, e1, k0, l0, g0]
  | false =>
    cases e2 : op == 2 with
    | true => cases k0 : kids == 0 <;> cases l0 : lo == [] <;> cases g0 : hi == [] <;> simp -implicitDefEqProofs (disch := (first | omega | decide)) only [go_sem, ↓reduceIte, seval, e1, e2, k0, l0, g0]
    | false =>
      cases e3 : op == 3 with
      | true =>
        by_cases q : lo.length ≤ 16
        · have q' : (lo.length : Int) ≤ 16 := by omega
          cases k0 : kids == 0 <;> cases g0 : hi == [] <;> simp -implicitDefEqProofs (disch := (first | omega | decide)) only [go_sem, ↓reduceIte, seval, e1, e2, e3, k0, g0, q, q']
        · have q' : ¬ (lo.length : Int) ≤ 16 := by omega
          cases k0 : kids == 0 <;> cases g0 : hi == [] <;> simp -implicitDefEqProofs (disch := (first | omega | decide)) only [go_sem, ↓reduceIte, seval, e1, e2, e3, k0, g0, q, q']
      | false =>
        cases e4 : op == 4 with
        | true => cases k0 : kids == 0 <;> simp -implicitDefEqProofs (disch := (first | omega | decide)) only [go_sem, ↓reduceIte, seval, e1, e2, e3, e4, k0, h1, h2]
        | false =>
          cases e5 : op == 5 with
          | true =>
            by_cases q : lo.length ≤ 17
            · have q' : (lo.length : Int) ≤ 17 := by omega
              cases k0 : kids == 0 <;> cases g0 : hi == [] <;> simp -implicitDefEqProofs (disch := (first | omega | decide)) only [go_sem, ↓reduceIte, seval, e1, e2, e3, e4, e5, k0, g0, q, q']
            · have q' : ¬ (lo.length : Int) ≤ 17 := by omega
              cases k0 : kids == 0 <;> cases g0 : hi == [] <;> simp -implicitDefEqProofs (disch := (first | omega | decide)) only [go_sem, ↓reduceIte, seval, e1, e2, e3, e4, e5, k0, g0, q, q']
          | false =>
            cases l0 : lo == [] with
            | false => simp -implicitDefEqProofs (disch := (first | omega | decide)) only [go_sem, ↓reduceIte, seval, e1, e2, e3, e4, e5, l0]
            | true =>
              cases g0 : hi == [] with
              | false => simp -implicitDefEqProofs (disch := (first | omega | decide)) only [go_sem, ↓reduceIte, seval, e1, e2, e3, e4, e5, l0, g0]
              | true =>
                cases e6 : op == 6 with
                | true =>
                  have e : op = 6 := by simpa using e6
                  subst e
                  cases k1 : kids == 1 <;> simp -implicitDefEqProofs (disch := (first | omega | decide)) only [go_sem, ↓reduceIte, seval, l0, g0, k1]
                | false =>
                  cases e7 : op == 7 with
                  | true => by_cases q1 : 1 ≤ kids <;> by_cases q2 : kids ≤ 32 <;> simp -implicitDefEqProofs (disch := (first | omega | decide)) only [go_sem, ↓reduceIte, seval, e1, e2, e3, e4, e5, e6, e7, l0, g0, q1, q2]
                  | false =>
                    cases e8 : op == 8 with
                    | true => by_cases q1 : 1 ≤ kids <;> by_cases q2 : kids ≤ 32 <;> simp -implicitDefEqProofs (disch := (first | omega | decide)) only [go_sem, ↓reduceIte, seval, e1, e2, e3, e4, e5, e6, e7, e8, l0, g0, q1, q2]
                    | false => simp -implicitDefEqProofs (disch := (first | omega | decide)) only [go_sem, ↓reduceIte, seval, e1, e2, e3, e4, e5, e6, e7, e8, l0, g0]
theorem ok_filter_plain : codeOK Try.prog RL12 Try.f19.ntmps (Try.f19.body.getD .skip) = true := by kernel_rfl
theorem c_filter_plain (n : Nd) (h : n.ok) : CallA Try.prog 19 [n.enc] (· = .bool (okN n)) := by
  refine callA_of_body RL12_ok mixed Try.func19 rfl (Nat.le_of_ble_eq_true rfl) ok_filter_plain ?_
  unfold Try.f19
  obtain ⟨op, kids, lo, hi⟩ := n
  obtain ⟨h1, h2⟩ := h
  simp only at h1 h2
  unfold okN
  cases e1 : op == 1 with
  | true => cases k0 : kids == 0 <;> cases l0 : lo == [] <;> cases g0 : hi == [] <;> simp -implicitDefEqProofs (disch := (first | omega | decide)) only [go_sem, ↓reduceIte, seval, e1, k0, l0, g0]
  | false =>
    cases e2 : op == 2 with
    | true => cases k0 : kids == 0 <;> cases l0 : lo == [] <;> cases g0 : hi == [] <;> simp -implicitDefEqProofs (disch := (first | omega | decide)) only [go_sem, ↓reduceIte, seval, e1, e2, k0, l0, g0]
    | false =>
      cases e3 : op == 3 with
      | true =>
        by_cases q : lo.length ≤ 16
        · have q' : (lo.length : Int) ≤ 16 := by omega
          cases k0 : kids == 0 <;> cases g0 : hi == [] <;> simp -implicitDefEqProofs (disch := (first | omega | decide)) only [go_sem, ↓reduceIte, seval, e1, e2, e3, k0, g0, q, q']
        · have q' : ¬ (lo.length : Int) ≤ 16 := by omega
          cases k0 : kids == 0 <;> cases g0 : hi == [] <;> simp -implicitDefEqProofs (disch := (first | omega | decide)) only [go_sem, ↓reduceIte, seval, e1, e2, e3, k0, g0, q, q']
      | false =>
        cases e4 : op == 4 with
        | true => cases k0 : kids == 0 <;> simp -implicitDefEqProofs (disch := (first | omega | decide)) only [go_sem, ↓reduceIte, seval, e1, e2, e3, e4, k0, h1, h2]
        | false =>
          cases e5 : op == 5 with
          | true =>
            by_cases q : lo.length ≤ 17
            · cases k0 : kids == 0 <;> cases g0 : hi == [] <;> simp -implicitDefEqProofs (disch := (first | omega | decide)) only [go_sem, ↓reduceIte, seval, e1, e2, e3, e4, e5, k0, g0, q, h1]
            · cases k0 : kids == 0 <;> cases g0 : hi == [] <;> simp -implicitDefEqProofs (disch := (first | omega | decide)) only [go_sem, ↓reduceIte, seval, e1, e2, e3, e4, e5, k0, g0, q, h1]
          | false =>
            cases e6 : op == 6 with
            | true => cases l0 : lo == [] <;> cases g0 : hi == [] <;> cases k1 : kids == 1 <;> simp -implicitDefEqProofs (disch := (first | omega | decide)) only [go_sem, ↓reduceIte, seval, e1, e2, e3, e4, e5, e6, l0, g0, k1]
                      all_goals (have e : op = 6 := by simpa using e6
                                 subst e; rfl)
            | false =>
              cases e7 : op == 7 with
              | true => cases l0 : lo == [] <;> cases g0 : hi == [] <;> by_cases q1 : 1 ≤ kids <;> by_cases q2 : kids ≤ 32 <;> simp -implicitDefEqProofs (disch := (first | omega | decide)) only [go_sem, ↓reduceIte, seval, e1, e2, e3, e4, e5, e6, e7, l0, g0, q1, q2]
              | false =>
                cases e8 : op == 8 with
                | true => cases l0 : lo == [] <;> cases g0 : hi == [] <;> by_cases q1 : 1 ≤ kids <;> by_cases q2 : kids ≤ 32 <;> simp -implicitDefEqProofs (disch := (first | omega | decide)) only [go_sem, ↓reduceIte, seval, e1, e2, e3, e4, e5, e6, e7, e8, l0, g0, q1, q2]
                | false => cases l0 : lo == [] <;> cases g0 : hi == [] <;> simp -implicitDefEqProofs (disch := (first | omega | decide)) only [go_sem, ↓reduceIte, seval, e1, e2, e3, e4, e5, e6, e7, e8, l0, g0]
noncomputable def F9a : Tab := RL12.add 24 (entry (fun (n : Nd) => [n.enc]) (fun n => n.ok) (fun n => .bool (okN n)))
theorem F9a_ok : TabOK Try.prog F9a := RL12_ok.ent Try.func24 (by kernel_rfl) (by kernel_rfl) fun n h => c_ref09_Node n h
theorem F9a_ref09_Node (n : Nd) (h : n.ok) : F9a.f 24 [n.enc] = some (.bool (okN n)) := Tab.ent_eq (Γ := RL12) (fun i j h => by simpa [Prod.ext_iff, and_assoc] using h) n h
noncomputable def F9b : Tab := F9a.add 19 (entry (fun (n : Nd) => [n.enc]) (fun n => n.ok) (fun n => .bool (okN n)))
theorem F9b_ok : TabOK Try.prog F9b := F9a_ok.ent Try.func19 (by kernel_rfl) (by kernel_rfl) fun n h => c_filter_plain n h
@[go_sem] theorem F9b_old {g : FuncId} {xs : List A} (h : g ≠ 19) : F9b.f g xs = F9a.f g xs := Tab.add_ne h
theorem F9b_filter_plain (n : Nd) (h : n.ok) : F9b.f 19 [n.enc] = some (.bool (okN n)) := Tab.ent_eq (Γ := F9a) (fun i j h => by simpa [Prod.ext_iff, and_assoc] using h) n h
theorem f_Node {op kids : Int} {lo hi : List UInt8} (h1 : lo.length ≤ 9223372036854775807) (h2 : hi.length ≤ 9223372036854775807) : F9a.f 24 [.agg [.int .i64 op, .int .i64 kids, .str lo, .str hi]] = some (.bool (okN ⟨op, kids, lo, hi⟩)) := F9a_ref09_Node ⟨op, kids, lo, hi⟩ ⟨h1, h2⟩
theorem f_plain {op kids : Int} {lo hi : List UInt8} (h1 : lo.length ≤ 9223372036854775807) (h2 : hi.length ≤ 9223372036854775807) : F9b.f 19 [.agg [.int .i64 op, .int .i64 kids, .str lo, .str hi]] = some (.bool (okN ⟨op, kids, lo, hi⟩)) := F9b_filter_plain ⟨op, kids, lo, hi⟩ ⟨h1, h2⟩
theorem begI_neg {l : List Nd} {a : Int} (h : a < 0) : begI l a = -1 := by unfold begI; rw [if_pos h]
def begOK (b : Int) (v : List Nd × Int) : Prop := v.1.length ≤ 4611686018427387904 ∧ okF v.1 ∧ v.2 < (v.1.length : Int) ∧ -1 ≤ v.2 ∧ v.2 < b
noncomputable def GB (b : Int) : Tab := F9b.add 16 (entry (fun (v : List Nd × Int) => [.slc (v.1.map Nd.enc), .int .i64 v.2]) (begOK b) (fun v => .int .i64 (begI v.1 v.2)))
@[go_sem] theorem GB_old {b : Int} {g : FuncId} {xs : List A} (h : g ≠ 16) : (GB b).f g xs = F9b.f g xs := Tab.add_ne h
@[go_sem] theorem GB_eff {b : Int} {g : FuncId} : (GB b).eff g = false := rfl
@[go_sem] theorem GB_ords {b : Int} {n : Nat} : (GB b).ords n = [] := rfl
theorem begE_inj (i j : List Nd × Int) (h : [A.slc (i.1.map Nd.enc), .int .i64 i.2] = [A.slc (j.1.map Nd.enc), .int .i64 j.2]) : i = j := by
  simpa [Prod.ext_iff, and_assoc] using h
theorem GB_Begin {b : Int} {l : List Nd} {a : Int} (h : begOK b (l, a)) : (GB b).f 16 [.slc (l.map Nd.enc), .int .i64 a] = some (.int .i64 (begI l a)) :=
  (Tab.add_eq : (GB b).f 16 [.slc (l.map Nd.enc), .int .i64 a] = _).trans (entry_eq (enc := fun (v : List Nd × Int) => [.slc (v.1.map Nd.enc), .int .i64 v.2]) begE_inj (l, a) h)
theorem ok_Begin (b : Int) : codeOK Try.prog (GB b) Try.f16.ntmps (Try.f16.body.getD .skip) = true := by kernel_rfl
theorem skip_from {l : List Nd} {c b : Nat} (hb : b ≤ l.length) : (∀ r, skip 1 (l.take b).reverse = some r → skip (c + 1) (l.take b).reverse = skip c (l.take r.length).reverse) ∧ (∀ r, skip 1 (l.take b).reverse = some r → r.length < b) ∧ (skip 1 (l.take b).reverse = none → skip (c + 1) (l.take b).reverse = none) := by
  have h0 : skip (c + 1) (l.take b).reverse = (skip 1 (l.take b).reverse).bind (skip c) := by rw [Nat.add_comm, skip_add]
  have hr : ∀ r, skip 1 (l.take b).reverse = some r → r = (l.take r.length).reverse ∧ r.length < b := fun r h => by
    obtain ⟨seg, h1, h2⟩ := skip_run _ _ _ h
    obtain ⟨vs, h3, h4⟩ := h2 []
    have h5 : l.take b = r.reverse ++ seg.reverse := by
      have := congrArg List.reverse h1
      rwa [List.reverse_reverse, List.reverse_append] at this
    have h6 : r.reverse = l.take r.reverse.length := by
      have : r.reverse <+: l.take b := ⟨_, h5.symm⟩
      exact List.prefix_iff_eq_take.1 (this.trans (List.take_prefix b l))
    refine ⟨by rw [List.length_reverse] at h6; rw [← h6, List.reverse_reverse], ?_⟩
    have hs : seg ≠ [] := by
      rintro rfl
      have : some [] = some ([] ++ vs) := h4
      have := congrArg List.length (Option.some.inj this)
      simp at this; omega
    have h7 := congrArg List.length h5
    rw [List.length_append, List.length_take, List.length_reverse, List.length_reverse] at h7
    have : 0 < seg.length := List.length_pos_iff.2 hs
    omega
  refine ⟨fun r h => ?_, fun r h => (hr r h).2, fun h => by rw [h0, h]; rfl⟩
  rw [h0, h]
  show skip c r = _
  rw [← (hr r h).1]
theorem begI_at {l : List Nd} {b : Nat} : begI l ((b : Int) - 1) = match skip 1 (l.take b).reverse with | some r => (r.length : Int) | none => -1 := by
  cases b with
  | zero => rfl
  | succ b =>
    unfold begI
    rw [if_neg (by omega)]
    have e : (((b + 1 : Nat) : Int) - 1).toNat + 1 = b + 1 := by omega
    rw [e]; try rfl
theorem c_ref09_Begin : ∀ (b : Nat) (l : List Nd) (a : Int), begOK (b : Int) (l, a) → CallA Try.prog 16 [.slc (l.map Nd.enc), .int .i64 a] (· = .int .i64 (begI l a))
  | 0, l, a, h => by
    have ha : a < 0 := by have := h.2.2.2.2; simp only at this; omega
    have hT : TabOK Try.prog (GB (-1)) := F9b_ok.add (callable_of Try.func16 (by kernel_rfl) (by kernel_rfl)) (entry_ok fun v hv => by
      exfalso
      obtain ⟨_, _, _, h4, h5⟩ := hv
      omega)
    refine callA_of_body hT mixed Try.func16 rfl (Nat.le_of_ble_eq_true rfl) (ok_Begin _) ?_
    unfold Try.f16
    rw [begI_neg ha]
    simp -implicitDefEqProofs (disch := (first | omega | decide)) only [go_sem, ↓reduceIte, seval, ha]
  | b + 1, l, a, h => by
    have hT : TabOK Try.prog (GB (b : Int)) := F9b_ok.add (callable_of Try.func16 (by kernel_rfl) (by kernel_rfl)) (entry_ok fun v hv => c_ref09_Begin b v.1 v.2 hv)
    refine callA_of_body hT mixed Try.func16 rfl (Nat.le_of_ble_eq_true rfl) (ok_Begin _) ?_
    unfold Try.f16
    obtain ⟨h1, h2, h3, h4, h5⟩ := h
    simp only at h1 h2 h3 h4 h5
    by_cases ha : a < 0
    · rw [begI_neg ha]
      simp -implicitDefEqProofs (disch := (first | omega | decide)) only [go_sem, ↓reduceIte, seval, ha]
    · obtain ⟨k, rfl⟩ : ∃ k : Nat, a = (k : Int) := ⟨a.toNat, by omega⟩
      have hk : k < l.length := by omega
      have hk' : (k : Int) < (l.length : Int) := by omega
      have hge : ¬ (l.length : Int) ≤ (k : Int) := by omega
      have e1 := nd_get hk
      obtain ⟨g1, g2⟩ := h2 _ (List.getElem_mem hk)
      have hspec : begI l (k : Int) = match (if okN l[k] = true then skip (kN l[k]) (l.take k).reverse else none) with | some r => (r.length : Int) | none => -1 := by
        have : ((k + 1 : Nat) : Int) - 1 = (k : Int) := by omega
        rw [← this, begI_at, List.take_succ_eq_append_getElem hk, List.reverse_append]
        show (match skip (0 + 1) (l[k] :: (l.take k).reverse) with | some r => (r.length : Int) | none => -1) = _
        simp only [skip, Nat.zero_add]
      have hkid := okN_kids (n := l[k])
      rw [hspec]
      generalize hx : l[k] = x at *
      obtain ⟨op, kids, lo, hi⟩ := x
      simp only at e1 g1 g2
      have hn := f_Node (op := op) (kids := kids) (lo := lo) (hi := hi) g1 g2
      cases hok : okN ⟨op, kids, lo, hi⟩ with
      | false =>
        rw [hok] at hn
        simp -implicitDefEqProofs (disch := (first | omega | decide)) only [go_sem, ↓reduceIte, seval, ha, hk', hge, e1, hn, List.length_map]
      | true =>
        rw [hok] at hn
        obtain ⟨q1, q2⟩ := hkid hok
        generalize hkn : kN ⟨op, kids, lo, hi⟩ = kn at *
        simp only at q1
        subst q1
        simp -implicitDefEqProofs (disch := (first | omega | decide)) only [go_sem, ↓reduceIte, seval, ha, hk', hge, e1, hn, List.length_map]
        refine wpA_loop [0, 1] (ι := {p : Nat × Nat // p.1 ≤ kn ∧ p.2 ≤ k ∧ skip kn (l.take k).reverse = skip (kn - p.1) (l.take p.2).reverse}) (fun p => [(6, .int .i64 p.1.1), (5, .int .i64 p.1.2)]) (fun _ => []) (fun p => kn - p.1.1) ⟨(0, k), by omega, by omega, by simp⟩ (Nat.zero_le _) ?_ ?_
        · simp -implicitDefEqProofs (disch := (first | omega | decide)) only [go_sem, ↓reduceIte, seval]
        · rintro ⟨⟨j, f⟩, hj, hf, hd⟩
          simp only at hj hf hd ⊢
          by_cases hlt : j < kn
          · have hlt' : (j : Int) < (kn : Int) := by omega
            have hB : (GB (b : Int)).f 16 [.slc (l.map Nd.enc), .int .i64 ((f : Int) - 1)] = some (.int .i64 (begI l ((f : Int) - 1))) := GB_Begin ⟨h1, h2, by simp only; omega, by simp only; omega, by simp only; omega⟩
            obtain ⟨s1, s2, s3⟩ := skip_from (l := l) (c := kn - j - 1) (b := f) (by omega)
            have e : kn - j = kn - j - 1 + 1 := by omega
            rw [begI_at] at hB
            cases hs : skip 1 (l.take f).reverse with
            | none =>
              rw [hs] at hB
              have hh : skip kn (l.take k).reverse = none := by rw [hd, e]; exact s3 hs
              simp -implicitDefEqProofs (disch := (first | omega | decide)) only [go_sem, ↓reduceIte, seval, hlt', e1, hB, hh, wrap_i64, List.length_map]
            | some r =>
              rw [hs] at hB
              have hr := s2 r hs
              have hr0 : ¬ (r.length : Int) < 0 := by omega
              have hh : skip kn (l.take k).reverse = skip (kn - (j + 1)) (l.take r.length).reverse := by rw [hd, e, s1 r hs]; rfl
              simp -implicitDefEqProofs (disch := (first | omega | decide)) only [go_sem, ↓reduceIte, seval, hlt', e1, hB, hr0, wrap_i64, List.length_map]
              exact ⟨⟨(j + 1, r.length), by simp only; omega, by simp only; omega, hh⟩, by simp, by show kn - (j + 1) < kn - j; omega⟩
          · have hlt' : ¬ (j : Int) < (kn : Int) := by omega
            have e : kn - j = 0 := by omega
            rw [e] at hd
            simp only [skip] at hd
            have hfl : ((l.take f).reverse.length : Int) = (f : Int) := by rw [List.length_reverse, List.length_take]; omega
            rw [hd]
            simp only [hfl]
            simp -implicitDefEqProofs (disch := (first | omega | decide)) only [go_sem, ↓reduceIte, seval, hlt', e1, List.length_map]
noncomputable def F9c : Tab := F9b.add 16 (entry (fun (v : List Nd × Int) => [.slc (v.1.map Nd.enc), .int .i64 v.2]) (fun v => v.1.length ≤ 1000 ∧ okF v.1 ∧ v.2 < (v.1.length : Int) ∧ -1 ≤ v.2) (fun v => .int .i64 (begI v.1 v.2)))
theorem F9c_ok : TabOK Try.prog F9c := F9b_ok.ent Try.func16 (by kernel_rfl) (by kernel_rfl) fun v h => c_ref09_Begin (v.1.length + 1) v.1 v.2 ⟨Nat.le_trans h.1 (by decide), h.2.1, h.2.2.1, h.2.2.2, by simp only; omega⟩
@[go_sem] theorem F9c_old {g : FuncId} {xs : List A} (h : g ≠ 16) : F9c.f g xs = F9b.f g xs := Tab.add_ne h
@[go_sem] theorem F9c_s : F9c.pl F9b := ⟨fun _ => rfl, fun _ => rfl, rfl, fun _ => rfl, rfl, fun _ => rfl, rfl⟩
theorem F9c_ref09_Begin (v : List Nd × Int) (h : v.1.length ≤ 1000 ∧ okF v.1 ∧ v.2 < (v.1.length : Int) ∧ -1 ≤ v.2) : F9c.f 16 [.slc (v.1.map Nd.enc), .int .i64 v.2] = some (.int .i64 (begI v.1 v.2)) := Tab.ent_eq (Γ := F9b) (fun i j h => by simpa [Prod.ext_iff, and_assoc] using h) v h
theorem f_Begin {l : List Nd} {a : Int} (h : l.length ≤ 1000 ∧ okF l ∧ a < (l.length : Int) ∧ -1 ≤ a) : F9c.f 16 [.slc (l.map Nd.enc), .int .i64 a] = some (.int .i64 (begI l a)) := F9c_ref09_Begin (l, a) h
theorem ok_ref09_Right : codeOK Try.prog F9c Try.f8.ntmps (Try.f8.body.getD .skip) = true := by kernel_rfl
theorem c_ref09_Right (l : List Nd) (h : l.length ≤ 9223372036854775807) (ho : okF l) : CallA Try.prog 8 [.slc (l.map Nd.enc)] (· = .bool (rightF l)) := by
  refine callA_of_body F9c_ok mixed Try.func8 rfl (Nat.le_of_ble_eq_true rfl) ok_ref09_Right ?_
  unfold Try.f8
  rw [← ref_right]
  by_cases h1 : 1 ≤ l.length
  · have h1' : (1 : Int) ≤ (l.length : Int) := by omega
    by_cases h2 : l.length ≤ 32
    · have h2' : (l.length : Int) ≤ 32 := by omega
      have hb := f_Begin (l := l) (a := (l.length : Int) - 1) ⟨by omega, ho, by omega, by omega⟩
      cases h3 : begI l ((l.length : Int) - 1) == 0 <;> simp -implicitDefEqProofs (disch := (first | omega | decide)) only [go_sem, ↓reduceIte, seval, h1, h1', h2, h2', hb, h3, wrap_i64, List.length_map]
    · have h2' : ¬ (l.length : Int) ≤ 32 := by omega
      simp -implicitDefEqProofs (disch := (first | omega | decide)) only [go_sem, ↓reduceIte, seval, h1, h1', h2, h2', List.length_map]
  · have h1' : ¬ (1 : Int) ≤ (l.length : Int) := by omega
    simp -implicitDefEqProofs (disch := (first | omega | decide)) only [go_sem, ↓reduceIte, seval, h1, h1', List.length_map]
noncomputable def F9d : Tab := F9c.add 8 (entry (fun (l : List Nd) => [.slc (l.map Nd.enc)]) (fun l => l.length ≤ 1000 ∧ okF l) (fun l => .bool (rightF l)))
theorem F9d_ok : TabOK Try.prog F9d := F9c_ok.ent Try.func8 (by kernel_rfl) (by kernel_rfl) fun l h => c_ref09_Right l (Nat.le_trans h.1 (by decide)) h.2
@[go_sem] theorem F9d_old {g : FuncId} {xs : List A} (h : g ≠ 8) : F9d.f g xs = F9c.f g xs := Tab.add_ne h
theorem F9d_ref09_Right (l : List Nd) (h : l.length ≤ 1000 ∧ okF l) : F9d.f 8 [.slc (l.map Nd.enc)] = some (.bool (rightF l)) := Tab.ent_eq (Γ := F9c) (fun i j h => by simpa [Prod.ext_iff, and_assoc] using h) l h
theorem f_rRight {l : List Nd} (h : l.length ≤ 1000 ∧ okF l) : F9d.f 8 [.slc (l.map Nd.enc)] = some (.bool (rightF l)) := F9d_ref09_Right l h
end Go.Proofs.Ythiedimbmcgpdaa
namespace Go.Proofs.Ythiedimbmcgpdaa
open Go.Abs
set_option linter.unusedSimpArgs false
set_option linter.unusedVariables false
set_option maxRecDepth 20000
set_option maxHeartbeats 8000000
section
variable {V : Type} {t : List V} {i : Nat}
theorem vs_step (h : i < t.length) : t.drop (t.length - (i + 1)) = t[t.length - (i + 1)]'(by omega) :: t.drop (t.length - i) := by
  rw [List.drop_eq_getElem_cons (by omega : t.length - (i + 1) < t.length)]
  rw [show t.length - (i + 1) + 1 = t.length - i by omega]
theorem last_take (h : i < t.length) : (t.take (t.length - i)).getLast? = some (t[t.length - (i + 1)]'(by omega)) := by
  rw [List.getLast?_eq_getElem?, List.length_take, List.getElem?_take, if_pos (by omega)]
  rw [show min (t.length - i) t.length - 1 = t.length - (i + 1) by omega]
  exact List.getElem?_eq_getElem _
end
theorem run_at {l : List Nd} {k : Nat} (hk : k < l.length) {s : List (List UInt8 → Bool)} (h : runN [] l = some s) : ∃ t u, runN [] (l.take k) = some t ∧ stepN t l[k] = some u := by
  obtain ⟨t, ht⟩ := runN_take h k
  obtain ⟨u, hu⟩ := runN_take h (k + 1)
  have h2 := runN_take_succ hk []
  rw [ht, hu] at h2
  exact ⟨t, u, ht, h2.symm⟩
noncomputable def F9e : Tab := F9d
theorem F9e_ok : TabOK Try.prog F9e := F9d_ok
@[go_sem] theorem F9e_old {g : FuncId} {xs : List A} : F9e.f g xs = F9d.f g xs := rfl
noncomputable def F9f : Tab := F9e
theorem F9f_ok : TabOK Try.prog F9f := F9e_ok
@[go_sem] theorem F9f_old {g : FuncId} {xs : List A} : F9f.f g xs = F9e.f g xs := rfl
@[go_sem] theorem F9f_s : F9f.pl F9e := ⟨fun _ => rfl, fun _ => rfl, rfl, fun _ => rfl, rfl, fun _ => rfl, rfl⟩
theorem run_len : ∀ {l : List Nd} {st s : List (List UInt8 → Bool)}, runN st l = some s → s.length ≤ st.length + l.length
  | [], st, s, h => by
    have h : some st = some s := h
    obtain rfl := Option.some.inj h
    simp
  | n :: l, st, s, h => by
    have h : (stepN st n).bind (fun s => runN s l) = some s := h
    cases h1 : stepN st n with
    | none => rw [h1] at h; cases h
    | some t =>
      rw [h1] at h
      have := run_len (l := l) (st := t) (s := s) h
      unfold stepN at h1
      split at h1
      · obtain rfl := Option.some.inj h1
        simp only [List.length_append, List.length_take, List.length_cons, List.length_nil] at this ⊢
        omega
      · cases h1
theorem ok_filter_Right : codeOK Try.prog F9f Try.f12.ntmps (Try.f12.body.getD .skip) = true := by kernel_rfl
theorem c_filter_Right (l : List Nd) (h : l.length ≤ 4611686018427387904) (ho : okF l) : CallA Try.prog 12 [.slc (l.map Nd.enc)] (· = .bool (rightF l)) := by
  refine callA_of_body F9f_ok mixed Try.func12 rfl (Nat.le_of_ble_eq_true rfl) ok_filter_Right ?_
  unfold Try.f12
  by_cases h2 : 32 < l.length
  · have h2' : (32 : Int) < (l.length : Int) := by omega
    have hr : rightF l = false := by
      rw [Bool.eq_false_iff]; intro e
      obtain ⟨v, h3, _⟩ := rightF_iff.1 e
      omega
    simp -implicitDefEqProofs (disch := (first | omega | decide)) only [go_sem, ↓reduceIte, seval, h2, h2', hr, List.length_map]
  · have h2' : ¬ (32 : Int) < (l.length : Int) := by omega
    simp -implicitDefEqProofs (disch := (first | omega | decide)) only [go_sem, ↓reduceIte, seval, h2, h2', List.length_map]
    refine wpA_loop [2, 9, 10] (ι := {p : Nat × List (List UInt8 → Bool) // p.1 ≤ l.length ∧ runN [] (l.take p.1) = some p.2}) (fun p => [(11, .int .i64 p.1.1), (3, .int .i64 p.1.2.length)]) (fun _ => []) (fun p => l.length - p.1.1) ⟨(0, []), by omega, rfl⟩ (Nat.zero_le _) ?_ ?_
    · simp -implicitDefEqProofs (disch := (first | omega | decide)) only [go_sem, ↓reduceIte, seval]
    · rintro ⟨⟨k, st⟩, hk, hd⟩
      simp only at hk hd ⊢
      have hsl := run_len hd
      rw [List.length_nil, List.length_take] at hsl
      by_cases hlt : k < l.length
      · have hlt' : (k : Int) < (l.length : Int) := by omega
        have e1 := nd_get hlt
        obtain ⟨n1, n2⟩ := ho _ (List.getElem_mem hlt)
        have hf := f_plain (op := l[k].op) (kids := l[k].kids) n1 n2
        have hsn := runN_take_succ hlt []
        rw [hd] at hsn
        have hsn : runN [] (l.take (k + 1)) = stepN st l[k] := hsn
        have hrf : stepN st l[k] = none → rightF l = false := fun e => by
          rw [Bool.eq_false_iff]; intro hr
          obtain ⟨v, _, h3⟩ := rightF_iff.1 hr
          obtain ⟨t, u, q1, q2⟩ := run_at hlt h3
          rw [hd] at q1
          obtain rfl := Option.some.inj q1
          rw [e] at q2; cases q2
        have hkid := okN_kids (n := l[k])
        generalize l[k] = x at *
        obtain ⟨op, kids, lo, hi⟩ := x
        simp only at n1 n2 hf hkid e1
        cases hok : okN ⟨op, kids, lo, hi⟩ with
        | false =>
          rw [hok] at hf
          have hr := hrf (by unfold stepN; rw [if_neg]; rw [hok]; simp)
          simp -implicitDefEqProofs (disch := (first | omega | decide)) only [go_sem, ↓reduceIte, seval, hlt', e1, hf, hr, List.length_map]
        | true =>
          rw [hok] at hf
          obtain ⟨q1, q2⟩ := hkid hok
          generalize hkn : kN ⟨op, kids, lo, hi⟩ = kn at *
          subst q1
          by_cases hg : kn ≤ st.length
          · have hg' : ¬ (st.length : Int) < (kn : Int) := by omega
            have hst : stepN st ⟨op, (kn : Int), lo, hi⟩ = some (st.take (st.length - kn) ++ [hasN ⟨op, (kn : Int), lo, hi⟩ (st.drop (st.length - kn))]) := by
              unfold stepN; rw [hkn, if_pos ⟨hok, hg⟩]
            rw [hst] at hsn
            have c1 : (st.length : Int) + (1 - (kn : Int)) = ((st.take (st.length - kn) ++ [hasN ⟨op, (kn : Int), lo, hi⟩ (st.drop (st.length - kn))]).length : Int) := by
              simp only [List.length_append, List.length_take, List.length_cons, List.length_nil]; omega
            simp -implicitDefEqProofs (disch := (first | omega | decide)) only [go_sem, ↓reduceIte, seval, hlt', e1, hf, hg', wrap_i64, List.length_map]
            exact ⟨⟨(k + 1, _), by simp only; omega, hsn⟩, ⟨by simp, c1⟩, by show l.length - (k + 1) < l.length - k; omega⟩
          · have hg' : (st.length : Int) < (kn : Int) := by omega
            have hr := hrf (by unfold stepN; rw [hkn, if_neg]; intro e; exact hg e.2)
            simp -implicitDefEqProofs (disch := (first | omega | decide)) only [go_sem, ↓reduceIte, seval, hlt', e1, hf, hg', hr, List.length_map]
      · have hlt' : ¬ (k : Int) < (l.length : Int) := by omega
        rw [List.take_of_length_le (by omega)] at hd
        have hr : rightF l = ((st.length : Int) == 1) := by
          rw [Bool.eq_iff_iff, rightF_iff, beq_iff_eq]
          constructor
          · rintro ⟨v, _, h3⟩
            rw [hd] at h3
            obtain rfl := Option.some.inj h3
            rfl
          · intro e
            obtain ⟨v, rfl⟩ := List.length_eq_one_iff.1 (show st.length = 1 by omega)
            exact ⟨v, by omega, hd⟩
        rw [hr]
        simp -implicitDefEqProofs (disch := (first | omega | decide)) only [go_sem, ↓reduceIte, seval, hlt', List.length_map]
noncomputable def F9g : Tab := F9f.add 12 (entry (fun (l : List Nd) => [.slc (l.map Nd.enc)]) (fun l => l.length ≤ 4611686018427387904 ∧ okF l) (fun l => .bool (rightF l)))
theorem F9g_ok : TabOK Try.prog F9g := F9f_ok.ent Try.func12 (by kernel_rfl) (by kernel_rfl) fun l h => c_filter_Right l h.1 h.2
@[go_sem] theorem F9g_old {g : FuncId} {xs : List A} (h : g ≠ 12) : F9g.f g xs = F9f.f g xs := Tab.add_ne h
theorem F9g_filter_Right (l : List Nd) (h : l.length ≤ 4611686018427387904 ∧ okF l) : F9g.f 12 [.slc (l.map Nd.enc)] = some (.bool (rightF l)) := Tab.ent_eq (Γ := F9f) (fun i j h => by simpa [Prod.ext_iff, and_assoc] using h) l h
theorem f_Right {l : List Nd} (h : l.length ≤ 4611686018427387904 ∧ okF l) : F9g.f 12 [.slc (l.map Nd.enc)] = some (.bool (rightF l)) := F9g_filter_Right l h
end Go.Proofs.Ythiedimbmcgpdaa
namespace Go.Proofs.Ythiedimbmcgpdaa
open Go.Abs
set_option linter.unusedSimpArgs false
set_option linter.unusedVariables false
set_option maxRecDepth 20000
set_option maxHeartbeats 8000000
section
variable {V : Type} {f : V → A} {st : List V} {x : V} {m : Nat}
end
theorem run_ok : ∀ {l : List Nd} {st s : List (List UInt8 → Bool)}, runN st l = some s → ∀ n ∈ l, okN n = true
  | [], st, s, h => fun n hn => by cases hn
  | m :: l, st, s, h => fun n hn => by
    have h : (stepN st m).bind (fun s => runN s l) = some s := h
    cases h1 : stepN st m with
    | none => rw [h1] at h; cases h
    | some t =>
      rw [h1] at h
      rcases List.mem_cons.1 hn with rfl | hn
      · unfold stepN at h1
        split at h1
        · rename_i g; exact g.1
        · cases h1
      · exact run_ok (l := l) (st := t) (s := s) h n hn
end Go.Proofs.Ythiedimbmcgpdaa
