/- What the laws of this claim rest on: the abstract executor, its soundness, and what the functions compute on pure data. No condition. -/
import Derived.Test.YteconeampdidaaaU3
import Derived.Shelf.SlSortCmp.NoneTotal
import Derived.Test.YteconeampdidaaaChecked
import Derived.Shelf.Spec.SlicesInsertGrow
import Derived.WalkKit
import Derived.WalkSpells
import Derived.BigCall
import Derived.BigGuard
import Derived.Deep.QuietTactic
import Derived.BigQuiet
import Derived.Lib.AppendZerosOnto
import Derived.Laws.NewBlocks
import Derived.Deep.RegionLaw
import Derived.Lib.SliceRun
import Derived.Test.YteconeampdidaaaProg
set_option linter.unusedVariables false
set_option linter.unusedSimpArgs false
namespace Go.Abs
theorem wpA_mono {P : Program} {Γ : Tab} : ∀ {c : Code} {Q Q' : Ex → St → Prop} {σ : St}, (∀ e τ, Q e τ → Q' e τ) → wpA P Γ c Q σ → wpA P Γ c Q' σ := by
  intro c
  induction c with
  | skip => intro Q Q' σ h hw; simp only [wpA] at hw ⊢; exact h _ _ hw
  | label l => intro Q Q' σ h hw; simp only [wpA] at hw ⊢; exact h _ _ hw
  | exit id => intro Q Q' σ h hw; simp only [wpA] at hw ⊢; exact h _ _ hw
  | ret => intro Q Q' σ h hw; simp only [wpA] at hw ⊢; exact h _ _ hw
  | seq x y ihx ihy =>
    intro Q Q' σ h hw
    simp only [wpA] at hw ⊢
    refine ihx (fun e τ hq => ?_) hw
    cases e with
    | normal => exact ihy h hq
    | exit i => exact h _ _ hq
    | ret => exact h _ _ hq
  | cond c x y ihx ihy =>
    intro Q Q' σ h hw
    simp only [wpA, condA] at hw ⊢
    obtain ⟨t, ht, h1, h2⟩ := hw
    exact ⟨t, ht, fun e => ihx h (h1 e), fun e => ihy h (h2 e)⟩
  | block id x ih =>
    intro Q Q' σ h hw
    simp only [wpA] at hw ⊢
    refine ih (fun e τ hq => ?_) hw
    cases e with
    | normal => exact h _ _ hq
    | exit i =>
      simp only [blockQ] at hq ⊢
      split at hq
      · rename_i e; rw [if_pos e]; exact h _ _ hq
      · rename_i e; rw [if_neg e]; exact h _ _ hq
    | ret => exact h _ _ hq
  | loop x ih =>
    intro Q Q' σ h hw
    simp only [wpA] at hw ⊢
    obtain ⟨ι, inv, μ, h0, hs⟩ := hw
    refine ⟨ι, inv, μ, h0, fun i => ih (fun e τ hq => ?_) (hs i)⟩
    cases e with
    | normal => exact hq
    | exit i => exact h _ _ hq
    | ret => exact h _ _ hq
  | region id ops d =>
    intro Q Q' σ h hw
    simp only [wpA] at hw ⊢
    have key : ∀ (os : List (List Nat)) (σ : St), regO P Γ os ops Q σ → regO P Γ os ops Q' σ := fun os σ => by
      cases os with
      | nil =>
        rintro ⟨τ, hr, hq⟩
        exact ⟨τ, hr, h _ _ hq⟩
      | cons o os =>
        have key : ∀ os : List (List Nat), ordsW P Γ (dstsOf ops.toList) (annS P σ.H.length ops.toList) (pre P ops.toList σ) (Q .normal) os → ordsW P Γ (dstsOf ops.toList) (annS P σ.H.length ops.toList) (pre P ops.toList σ) (Q' .normal) os := by
          intro os
          induction os with
          | nil => exact fun h => h
          | cons o os ih => rintro ⟨⟨τ, hr, hq⟩, h2⟩; exact ⟨⟨τ, hr, h _ _ hq⟩, ih h2⟩
        exact key _
    unfold regW at hw ⊢
    cases hf : frzOf (Γ.ords id) with
    | none => rw [hf] at hw; exact key _ _ hw
    | some ρ =>
      rw [hf] at hw
      obtain ⟨H₀, h1, h2⟩ := hw
      exact ⟨H₀, h1, key _ _ h2⟩
  | _ => intro Q Q' σ _ hw; simp only [wpA] at hw
section
variable {P : Program} {Γ : Tab} {Q : Ex → St → Prop} {σ : St}
@[go_sem] theorem wpA_skip : wpA P Γ .skip Q σ = Q .normal σ := by simp only [wpA]
@[go_sem] theorem wpA_seq {a b : Code} : wpA P Γ (.seq a b) Q σ = wpA P Γ a (seqQ (wpA P Γ b) Q) σ := by simp only [wpA]
@[go_sem] theorem wpA_cond {c : Operand} {a b : Code} : wpA P Γ (.cond c a b) Q σ = condA (σ.ev c) (wpA P Γ a Q σ) (wpA P Γ b Q σ) := by simp only [wpA]
@[go_sem] theorem wpA_block {id : Nat} {c : Code} : wpA P Γ (.block id c) Q σ = wpA P Γ c (blockQ id Q) σ := by simp only [wpA]
@[go_sem] theorem wpA_exit {id : Nat} : wpA P Γ (.exit id) Q σ = Q (.exit id) σ := by simp only [wpA]
@[go_sem] theorem wpA_ret : wpA P Γ .ret Q σ = Q .ret σ := by simp only [wpA]
@[go_sem] theorem wpA_region {σs : List (Nat × A)} {σH : List Obj} {i : Nat} {ops : Array Oper} {d : Bool} : wpA P Γ (.region i ops d) Q (St.mk σs σH) = regW P Γ (Γ.ords i) ops Q (St.mk σs σH) := by simp only [wpA]
@[congr] theorem regW_congr {os os' : List (List Nat)} {ops : Array Oper} (h : os = os') : regW P Γ os ops Q σ = regW P Γ os' ops Q σ := by rw [h]
@[go_sem] theorem regW_nil {σs : List (Nat × A)} {σH : List Obj} {ops : Array Oper} : regW P Γ [] ops Q (St.mk σs σH) = K? (runSeq P Γ (dstsOf ops.toList) ops.toList σH.length (pre P ops.toList (St.mk σs σH))) (Q .normal) := rfl
@[go_sem] theorem regW_cons {σs : List (Nat × A)} {σH : List Obj} {ops : Array Oper} {t : Nat} {o : List Nat} {os : List (List Nat)} (h : t ≠ 999999) : regW P Γ ((t :: o) :: os) ops Q (St.mk σs σH) = ordsW P Γ (dstsOf ops.toList) (annS P σH.length ops.toList) (pre P ops.toList (St.mk σs σH)) (Q .normal) ((t :: o) :: os) := by
  unfold regW frzOf ordOf; simp only [if_neg h]; rfl
@[go_sem] theorem ordsW_nil {ds : List (Option Tmp)} {B : List (Nat × Oper)} {q : St → Prop} : ordsW P Γ ds B σ q [] = True := rfl
@[go_sem] theorem ordsW_cons {ds : List (Option Tmp)} {B : List (Nat × Oper)} {q : St → Prop} {o : List Nat} {os : List (List Nat)} : ordsW P Γ ds B σ q (o :: os) = (K? (runO P Γ ds B o σ) q ∧ ordsW P Γ ds B σ q os) := rfl
@[go_sem] theorem annS_nil {n : Nat} : annS P n [] = [] := rfl
@[go_sem] theorem annS_cons {n : Nat} {o : Oper} {os : List Oper} : annS P n (o :: os) = (n, o) :: annS P (nxt P o.op n) os := rfl
@[go_sem] theorem nthA_zero {x : Nat × Oper} {xs : List (Nat × Oper)} : nthA (x :: xs) 0 = some x := rfl
@[go_sem] theorem nthA_succ {x : Nat × Oper} {xs : List (Nat × Oper)} {i : Nat} : nthA (x :: xs) (i + 1) = nthA xs i := rfl
@[congr] theorem runO_congr {ds : List (Option Tmp)} {B B' : List (Nat × Oper)} {is : List Nat} {σ' : St} (hB : B = B') (h : σ = σ') : runO P Γ ds B is σ = runO P Γ ds B' is σ' := by rw [hB, h]
@[congr] theorem wpA_congr {c : Code} {σ' : St} (h : σ = σ') : wpA P Γ c Q σ = wpA P Γ c Q σ' := by rw [h]
@[go_sem] theorem seqQ_normal {W : (Ex → St → Prop) → St → Prop} : seqQ W Q .normal σ = W Q σ := rfl
@[go_sem] theorem seqQ_exit {W : (Ex → St → Prop) → St → Prop} {i : Nat} : seqQ W Q (.exit i) σ = Q (.exit i) σ := rfl
@[go_sem] theorem seqQ_ret {W : (Ex → St → Prop) → St → Prop} : seqQ W Q .ret σ = Q .ret σ := rfl
@[go_sem] theorem blockQ_normal {id : Nat} : blockQ id Q .normal σ = Q .normal σ := rfl
@[go_sem] theorem blockQ_exit {id i : Nat} : blockQ id Q (.exit i) σ = if i = id then Q .normal σ else Q (.exit i) σ := rfl
@[go_sem] theorem blockQ_ret {id : Nat} : blockQ id Q .ret σ = Q .ret σ := rfl
@[go_sem] theorem loopQ_normal {N : St → Prop} : loopQ N Q .normal σ = N σ := rfl
@[go_sem] theorem loopQ_exit {N : St → Prop} {i : Nat} : loopQ N Q (.exit i) σ = Q (.exit i) σ := rfl
@[go_sem] theorem loopQ_ret {N : St → Prop} : loopQ N Q .ret σ = Q .ret σ := rfl
@[congr] theorem seqQ_congr {W : (Ex → St → Prop) → St → Prop} {e e' : Ex} {σ' : St} (h : e = e') (h' : σ = σ') : seqQ W Q e σ = seqQ W Q e' σ' := by rw [h, h']
@[congr] theorem blockQ_congr {id : Nat} {e e' : Ex} {σ' : St} (h : e = e') (h' : σ = σ') : blockQ id Q e σ = blockQ id Q e' σ' := by rw [h, h']
@[congr] theorem loopQ_congr {N : St → Prop} {e e' : Ex} {σ' : St} (h : e = e') (h' : σ = σ') : loopQ N Q e σ = loopQ N Q e' σ' := by rw [h, h']
@[go_sem high] theorem condA_true {p q : Prop} : condA (.bool true) p q = p := by simp [condA]
@[go_sem high] theorem condA_false {p q : Prop} : condA (.bool false) p q = q := by simp [condA]
@[go_sem ↓ high] theorem condA_false' {p q : Prop} : condA (.bool false) p q = q := by simp [condA]
@[congr] theorem condA_congr {c c' : A} {p q : Prop} (h : c = c') : condA c p q = condA c' p q := by rw [h]
end
section
variable {α β : Type}
@[go_sem high] theorem K_some {x : α} {q : α → Prop} : K? (some x) q = q x := by simp [K?]
@[go_sem] theorem K_bind {o : Option α} {f : α → Option β} {q : β → Prop} : K? (o.bind f) q = K? o (fun x => K? (f x) q) := by
  cases o <;> simp [K?]
@[go_sem] theorem K_map {o : Option α} {f : α → β} {q : β → Prop} : K? (o.map f) q = K? o (fun x => q (f x)) := by
  cases o <;> simp [K?]
@[go_sem high] theorem K_ite_none {c : Prop} [Decidable c] {a : Option α} {q : α → Prop} : K? (if c then a else none) q = (c ∧ K? a q) := by
  split <;> simp_all [K?]
@[go_sem ↓ high] theorem K_some' {x : α} {q : α → Prop} : K? (some x) q = q x := by simp [K?]
@[congr] theorem K_congr {o o' : Option α} {q : α → Prop} (h : o = o') : K? o q = K? o' q := by rw [h]
end
section
variable {P : Program} {Γ : Tab} {σ : St} {n : Nat} {d : Option Tmp} {ds : List (Option Tmp)} {q : St → Prop}
@[go_sem] theorem K_runSeq_nil {n : Nat} : K? (runSeq P Γ ds [] n σ) q = q σ := by simp [runSeq, K?]
@[go_sem] theorem K_runSeq_cons {o : Oper} {os : List Oper} {n : Nat} : K? (runSeq P Γ ds (o :: os) n σ) q = K? (exec1 P Γ ds n o σ) (fun τ => K? (runSeq P Γ ds os (nxt P o.op n) τ) q) := by
  simp only [runSeq, K_bind]
@[go_sem] theorem K_runO_nil {B : List (Nat × Oper)} : K? (runO P Γ ds B [] σ) q = q σ := by simp [runO, K?]
@[go_sem] theorem K_runO_cons {B : List (Nat × Oper)} {i : Nat} {is : List Nat} : K? (runO P Γ ds B (i :: is) σ) q = K? (nthA B i) (fun x => K? (exec1 P Γ ds x.1 x.2 σ) (fun τ => K? (runO P Γ ds B is τ) q)) := by
  simp only [runO, K_bind]
@[go_sem] theorem pre_nil : pre P [] σ = σ := rfl
@[go_sem] theorem pre_cons {o : Oper} {os : List Oper} : pre P (o :: os) σ = pre P os (grow P o.op σ) := rfl
@[congr] theorem pre_congr {os : List Oper} {σ' : St} (h : σ = σ') : pre P os σ = pre P os σ' := by rw [h]
@[congr] theorem runSeq_congr {os : List Oper} {σ' : St} {n n' : Nat} (h : σ = σ') (h' : n = n') : runSeq P Γ ds os n σ = runSeq P Γ ds os n' σ' := by rw [h, h']
@[congr] theorem exec1_congr {o : Oper} {n' : Nat} {σ' : St} (hn : n = n') (h : σ = σ') : exec1 P Γ ds n o σ = exec1 P Γ ds n' o σ' := by rw [h, hn]
@[go_sem] theorem exec1_plain {op : Op} {t : TypeId} {p : String} {af : Array Edge} : exec1 P Γ ds n ⟨d, op, t, p, af, none⟩ σ = execOp P Γ n d op σ := by
  simp [exec1, wantA]
def guardA (b : A) (want : Bool) (x y : Option St) : Option St :=
  match b with
  | .bool b => if (b == want) = true then x else y
  | .any => none
  | _ => y
@[go_sem] theorem exec1_guard {σs : List (Nat × A)} {σH : List Obj} {op : Op} {t : TypeId} {p : String} {af : Array Edge} {j : Nat} {w : Bool} :
    exec1 P Γ ds n ⟨d, op, t, p, af, some (j, w)⟩ (St.mk σs σH) = (match nthD ds j with | some t => guardA (look σs t) w (execOp P Γ n d op (St.mk σs σH)) (some ((St.mk σs σH).put d (.tup []))) | none => some ((St.mk σs σH).put d (.tup []))) := by
  simp only [exec1, wantA]
  cases nthD ds j with
  | none => simp
  | some t => simp only []; cases look σs t <;> simp [guardA]
@[go_sem] theorem guardA_bool {b w : Bool} {x y : Option St} : guardA (.bool b) w x y = if (b == w) = true then x else y := rfl
@[go_sem] theorem guardA_undef {w : Bool} {x y : Option St} : guardA (.tup []) w x y = y := rfl
@[go_sem] theorem nthD_zero {x : Option Tmp} {xs : List (Option Tmp)} : nthD (x :: xs) 0 = x := rfl
@[go_sem] theorem nthD_succ {x : Option Tmp} {xs : List (Option Tmp)} {m : Nat} : nthD (x :: xs) (m + 1) = nthD xs m := rfl
@[go_sem] theorem dstsOf_nil : dstsOf [] = [] := rfl
@[go_sem] theorem dstsOf_cons {o : Oper} {os : List Oper} : dstsOf (o :: os) = o.dst :: dstsOf os := rfl
variable {x y z : Operand} {t u : TypeId} {k : Nat}
@[go_sem] theorem grow_move : grow P (.move x) σ = σ := rfl
@[go_sem] theorem nxt_move {n : Nat} : nxt P (.move x) n = n := rfl
@[go_sem] theorem grow_assign : grow P (.assign x) σ = σ := rfl
@[go_sem] theorem nxt_assign {n : Nat} : nxt P (.assign x) n = n := rfl
@[go_sem] theorem grow_pick : grow P (.pick x y z) σ = σ := rfl
@[go_sem] theorem nxt_pick {n : Nat} : nxt P (.pick x y z) n = n := rfl
@[go_sem] theorem grow_build {ps : Array (Nat × Operand)} : grow P (.build t ps) σ = σ := rfl
@[go_sem] theorem nxt_build {ps : Array (Nat × Operand)} {n : Nat} : nxt P (.build t ps) n = n := rfl
@[go_sem] theorem grow_buildSlice {ps : Array (Nat × Operand)} : grow P (.buildSlice t k ps) σ = σ := rfl
@[go_sem] theorem nxt_buildSlice {ps : Array (Nat × Operand)} {n : Nat} : nxt P (.buildSlice t k ps) n = n := rfl
@[go_sem] theorem grow_load : grow P (.load t x) σ = σ := rfl
@[go_sem] theorem nxt_load {n : Nat} : nxt P (.load t x) n = n := rfl
@[go_sem] theorem grow_store : grow P (.store t x y) σ = σ := rfl
@[go_sem] theorem nxt_store {n : Nat} : nxt P (.store t x y) n = n := rfl
@[go_sem] theorem grow_nilCheck : grow P (.nilCheck x) σ = σ := rfl
@[go_sem] theorem nxt_nilCheck {n : Nat} : nxt P (.nilCheck x) n = n := rfl
@[go_sem] theorem grow_binOp {o : BinOp} : grow P (.binOp o t x y u) σ = σ := rfl
@[go_sem] theorem nxt_binOp {o : BinOp} {n : Nat} : nxt P (.binOp o t x y u) n = n := rfl
@[go_sem] theorem grow_unOp {o : UnOp} : grow P (.unOp o t x) σ = σ := rfl
@[go_sem] theorem nxt_unOp {o : UnOp} {n : Nat} : nxt P (.unOp o t x) n = n := rfl
@[go_sem] theorem grow_slice {l h m : Option Operand} : grow P (.slice t x l h m) σ = σ := rfl
@[go_sem] theorem nxt_slice {l h m : Option Operand} {n : Nat} : nxt P (.slice t x l h m) n = n := rfl
@[go_sem] theorem grow_fieldAddr : grow P (.fieldAddr t x k) σ = σ := rfl
@[go_sem] theorem nxt_fieldAddr {n : Nat} : nxt P (.fieldAddr t x k) n = n := rfl
@[go_sem] theorem grow_indexAddr : grow P (.indexAddr t x y) σ = σ := rfl
@[go_sem] theorem nxt_indexAddr {n : Nat} : nxt P (.indexAddr t x y) n = n := rfl
@[go_sem] theorem grow_index : grow P (.index t x y) σ = σ := rfl
@[go_sem] theorem nxt_index {n : Nat} : nxt P (.index t x y) n = n := rfl
@[go_sem] theorem grow_extract : grow P (.extract x k) σ = σ := rfl
@[go_sem] theorem nxt_extract {n : Nat} : nxt P (.extract x k) n = n := rfl
@[go_sem] theorem grow_alloc {σs : List (Nat × A)} {σH : List Obj} : grow P (.alloc t) (St.mk σs σH) = ⟨σs, σH ++ [.row 0 []]⟩ := rfl
@[go_sem] theorem nxt_alloc {n : Nat} : nxt P (.alloc t) n = n + 1 := rfl
@[go_sem] theorem grow_box {σs : List (Nat × A)} {σH : List Obj} : grow P (.box t x) (St.mk σs σH) = ⟨σs, σH ++ [.row 0 []]⟩ := rfl
@[go_sem] theorem nxt_box {n : Nat} : nxt P (.box t x) n = n + 1 := rfl
@[go_sem] theorem grow_convert {σs : List (Nat × A)} {σH : List Obj} : grow P (.convert t u x) (St.mk σs σH) = if isS2B P t u = true then ⟨σs, σH ++ [.row 0 []]⟩ else (St.mk σs σH) := rfl
@[go_sem] theorem nxt_convert {n : Nat} : nxt P (.convert t u x) n = if isS2B P t u = true then n + 1 else n := rfl
@[go_sem] theorem grow_len {xs : Array Operand} {ts : Array TypeId} : grow P (.call ⟨.builtin .len, xs, ts⟩) σ = σ := rfl
@[go_sem] theorem nxt_len {xs : Array Operand} {ts : Array TypeId} {n : Nat} : nxt P (.call ⟨.builtin .len, xs, ts⟩) n = n := rfl
@[go_sem] theorem grow_max {xs : Array Operand} {ts : Array TypeId} : grow P (.call ⟨.builtin .max, xs, ts⟩) σ = σ := rfl
@[go_sem] theorem nxt_max {xs : Array Operand} {ts : Array TypeId} {n : Nat} : nxt P (.call ⟨.builtin .max, xs, ts⟩) n = n := rfl
@[go_sem] theorem grow_append {σs : List (Nat × A)} {σH : List Obj} {xs : Array Operand} {ts : Array TypeId} : grow P (.call ⟨.builtin .append, xs, ts⟩) (St.mk σs σH) = ⟨σs, σH ++ [.row 0 []]⟩ := rfl
@[go_sem] theorem nxt_append {xs : Array Operand} {ts : Array TypeId} {n : Nat} : nxt P (.call ⟨.builtin .append, xs, ts⟩) n = n + 1 := rfl
@[go_sem] theorem grow_call {xs : Array Operand} {ts : Array TypeId} : grow P (.call ⟨.value x, xs, ts⟩) σ = σ := rfl
@[go_sem] theorem nxt_call {xs : Array Operand} {ts : Array TypeId} {n : Nat} : nxt P (.call ⟨.value x, xs, ts⟩) n = n := rfl
@[go_sem] theorem ex_move : execOp P Γ n d (.move x) σ = some (σ.put d (σ.ev x)) := rfl
@[go_sem] theorem ex_assign : execOp P Γ n d (.assign x) σ = some (σ.put d (σ.ev x)) := rfl
@[go_sem] theorem ex_pick : execOp P Γ n d (.pick x y z) σ = (pickA (σ.ev x) (σ.ev y) (σ.ev z)).map (σ.put d ·) := rfl
@[go_sem] theorem ex_build {ps : List (Nat × Operand)} : execOp P Γ n d (.build t ⟨ps⟩) σ = (buildA P t σ ps).map (σ.put d ·) := rfl
@[go_sem] theorem ex_buildSlice {ps : List (Nat × Operand)} : execOp P Γ n d (.buildSlice t k ⟨ps⟩) σ = (buildSliceA P t k σ ps).map (σ.put d ·) := rfl
@[go_sem] theorem ex_load {σs : List (Nat × A)} {σH : List Obj} : execOp P Γ n d (.load t x) (St.mk σs σH) = (loadA P t σH ((St.mk σs σH).ev x)).map ((St.mk σs σH).put d ·) := rfl
@[go_sem] theorem ex_nilCheck : execOp P Γ n d (.nilCheck x) σ = (nilCheckA (σ.ev x)).map (σ.put d ·) := rfl
@[go_sem] theorem ex_binOp {o : BinOp} : execOp P Γ n d (.binOp o t x y u) σ = (binA (eqTy P t) (tyBool P t) (tyPtr P t) (tyElem P t).isSome o (σ.ev x) (σ.ev y)).map (σ.put d ·) := rfl
@[go_sem] theorem ex_unOp {o : UnOp} : execOp P Γ n d (.unOp o t x) σ = (unA o (σ.ev x)).map (σ.put d ·) := rfl
@[go_sem] theorem ex_slice {l h m : Option Operand} : execOp P Γ n d (.slice t x l h m) σ = (if (tyArr P t).isNone = true ∧ (σ.bd l).ok = true ∧ (σ.bd h).ok = true then sliceA (tyStr P t) (elSize P t) (σ.ev x) (σ.bd l) (σ.bd h) (σ.bd m) else none).map (σ.put d ·) := rfl
@[go_sem] theorem ex_fieldAddr : execOp P Γ n d (.fieldAddr t x k) σ = (fieldAddrI (fieldInfo P t k) (σ.ev x)).map (σ.put d ·) := rfl
@[go_sem] theorem ex_indexAddr : execOp P Γ n d (.indexAddr t x y) σ = (indexAddrA P t (σ.ev x) (σ.ev y)).map (σ.put d ·) := rfl
@[go_sem] theorem ex_index : execOp P Γ n d (.index t x y) σ = (indexA P t (σ.ev x) (σ.ev y)).map (σ.put d ·) := rfl
@[go_sem] theorem ex_extract : execOp P Γ n d (.extract x k) σ = (extractA (σ.ev x) k).map (σ.put d ·) := rfl
@[go_sem] theorem ex_alloc : execOp P Γ n d (.alloc t) σ = allocA σ n d (zeroA P t) := rfl
@[go_sem] theorem ex_box : execOp P Γ n d (.box t x) σ = boxA σ n d (σ.ev x) := rfl
@[go_sem] theorem ex_store : execOp P Γ n d (.store t x y) σ = storeA σ d (tySize P t) (σ.ev x) (σ.ev y) := rfl
@[go_sem] theorem ex_convert : execOp P Γ n d (.convert t u x) σ = convX P σ n d t u (σ.ev x) := rfl
@[go_sem] theorem ex_len : execOp P Γ n d (.call ⟨.builtin .len, ⟨[x]⟩, ⟨[t]⟩⟩) σ = (lenA P t (σ.ev x)).map (σ.put d ·) := rfl
@[go_sem] theorem ex_max {xs : List Operand} {ts : Array TypeId} : execOp P Γ n d (.call ⟨.builtin .max, ⟨xs⟩, ts⟩) σ = (maxA (σ.evL xs)).map (σ.put d ·) := rfl
@[go_sem] theorem ex_append : execOp P Γ n d (.call ⟨.builtin .append, ⟨[x, y]⟩, ⟨[t, u]⟩⟩) σ = appendX P Γ.fix σ n d t u (σ.ev x) (σ.ev y) := rfl
@[go_sem] theorem ex_call {xs : List Operand} {ts : Array TypeId} : execOp P Γ n d (.call ⟨.value x, ⟨xs⟩, ts⟩) σ = if isEff Γ x = true then callHV Γ σ d (σ.ev x) (σ.evL xs) else callV Γ σ d (σ.ev x) (σ.evL xs) := rfl
@[go_sem] theorem isEff_func {f : FuncId} : isEff Γ (.func f) = Γ.eff f := rfl
@[go_sem] theorem isEff_tmp {i : Nat} : isEff Γ (.tmp i) = Γ.effT := rfl
@[go_sem] theorem ev_tmp {σs : List (Nat × A)} {σH : List Obj} {i : Nat} : (St.mk σs σH).ev (.tmp i) = look σs i := rfl
@[go_sem] theorem ev_const {v : Value} : σ.ev (.const v) = toA v := rfl
@[go_sem] theorem ev_func {f : FuncId} : σ.ev (.func f) = .fn f [] := rfl
@[go_sem] theorem evL_nil : σ.evL [] = [] := rfl
@[go_sem] theorem evL_cons {xs : List Operand} : σ.evL (x :: xs) = σ.ev x :: σ.evL xs := rfl
@[go_sem] theorem put_some {σs : List (Nat × A)} {σH : List Obj} {v : A} {i : Nat} : (St.mk σs σH).put (some i) v = ⟨(i, v) :: σs, σH⟩ := rfl
@[go_sem] theorem put_none {v : A} : σ.put none v = σ := rfl
@[go_sem] theorem bd_none : σ.bd none = .none := rfl
@[go_sem] theorem bd_some : σ.bd (some x) = bdOf (σ.ev x) := rfl
@[go_sem] theorem bdOf_int {i : IntKind} {m : Int} : bdOf (.int i m) = .some m := rfl
@[go_sem] theorem Bd_get_none {m : Int} : Bd.get m .none = m := rfl
@[go_sem] theorem Bd_get_some {m r : Int} : Bd.get m (.some r) = r := rfl
@[go_sem] theorem Bd_ok_none : Bd.ok .none = true := rfl
@[go_sem] theorem Bd_ok_some {r : Int} : Bd.ok (.some r) = true := rfl
@[go_sem] theorem look_cons {i j : Nat} {v : A} {r : List (Nat × A)} : look ((i, v) :: r) j = if i = j then v else look r j := rfl
@[go_sem] theorem setH_eq {σs : List (Nat × A)} {σH : List Obj} {o : Obj} : (St.mk σs σH).setH n o = ⟨σs, setO σH n o⟩ := rfl
@[go_sem] theorem setO_zero {a b : Obj} {r : List Obj} : setO (a :: r) 0 b = b :: r := rfl
@[go_sem] theorem setO_succ {a b : Obj} {r : List Obj} : setO (a :: r) (n + 1) b = a :: setO r n b := rfl
@[go_sem] theorem nthO_zero {a : Obj} {r : List Obj} : nthO (a :: r) 0 = some a := rfl
@[go_sem] theorem nthO_succ {a : Obj} {r : List Obj} : nthO (a :: r) (n + 1) = nthO r n := rfl
@[go_sem] theorem setNth_zero {a b : A} {r : List A} : setNth (a :: r) 0 b = b :: r := rfl
@[go_sem] theorem setNth_succ {a b : A} {r : List A} : setNth (a :: r) (n + 1) b = a :: setNth r n b := rfl
end
section
variable {a b c : A} {cs ds es : List A} {k n i : Nat} {q : IntKind} {m r : Int} {s s' : List UInt8} {H : List Obj} {P : Program} {t u : TypeId} {p e : Bool} {σ : St} {d : Option Tmp} {kl : List CK} {ko : Option (List CK)} {sl k0 : Bool}
@[go_sem] theorem toA_int : toA (.int q m) = .int q m := rfl
@[go_sem] theorem toA_bool : toA (.bool p) = .bool p := rfl
@[go_sem] theorem toA_str {l : List UInt8} : toA (.string ⟨⟨l⟩⟩) = .str l := rfl
@[go_sem] theorem toA_nils : toA (.slice none 0 0) = .nils := rfl
@[go_sem] theorem toA_nilp : toA (.pointer none) = .nilp := rfl
@[go_sem] theorem pick_bool : pickA (.bool p) a b = some (if p then a else b) := rfl
@[go_sem] theorem load_dptr : loadA P t H (.dptr cs) = loadC P t cs := rfl
@[go_sem] theorem load_ref : loadA P t H (.ref n i) = (match nthO H n with | some (.box cs) => loadC P t (cs.drop i) | _ => none) := rfl
@[go_sem] theorem load_eref : loadA P t H (.eref n i k) = (match nthO H n with | some (.row _ es) => (es[i]?).bind fun e => loadC P t (e.cells.drop k) | _ => none) := rfl
@[go_sem] theorem loadC_eq : loadC P t cs = (match tyAgg P t with | some true => (match tySize P t with | some n => if n ≤ cs.length then some (.agg (cs.take n)) else none | none => none) | some false => cs.head? | none => none) := rfl
@[go_sem] theorem nilCheck_dptr : nilCheckA (.dptr cs) = some (.dptr cs) := rfl
@[go_sem] theorem nilCheck_ref : nilCheckA (.ref n i) = some (.ref n i) := rfl
@[go_sem] theorem fieldI_some {f : Nat × TypeId} : fieldAddrI (some f) a = fieldAddrA f.1 a := rfl
@[go_sem] theorem field_dptr : fieldAddrA n (.dptr cs) = some (.dptr (cs.drop n)) := rfl
@[go_sem] theorem field_ref : fieldAddrA n (.ref i k) = some (.ref i (k + n)) := rfl
@[go_sem] theorem field_eref {j : Nat} : fieldAddrA n (.eref i j k) = some (.eref i j (k + n)) := rfl
@[go_sem] theorem index_agg : indexA P t (.agg cs) (.int q m) = (match tyArr P t with | some (n, e) => (match tySize P e with | some k => if 0 ≤ m ∧ m < n then loadC P e (cs.drop (m.toNat * k)) else none | none => none) | none => none) := rfl
@[go_sem] theorem indexAddr_int : indexAddrA P t a (.int q m) = (match tyElem P t with | some e => (match tySize P e with | some k => indexAddrE k m a | none => none) | none => (match tyArr P t with | some (n, e) => (match tySize P e with | some k => indexAddrR n k m a | none => none) | none => none)) := rfl
@[go_sem] theorem indexE_slc : indexAddrE k m (.slc es) = getE k m es := rfl
@[go_sem] theorem indexE_clip : indexAddrE k m (.clip es) = getE k m es := rfl
@[go_sem] theorem indexE_row {j l : Nat} : indexAddrE k m (.row n i j l p) = (if k = j ∧ 0 ≤ m ∧ m < l then some (.eref n (i + m.toNat) 0) else none) := rfl
@[go_sem] theorem indexR_ref {j : Nat} : indexAddrR n k m (.ref i j) = (if 0 ≤ m ∧ m < n then some (.ref i (j + m.toNat * k)) else none) := rfl
@[go_sem] theorem indexR_dptr : indexAddrR n k m (.dptr cs) = (if 0 ≤ m ∧ m < n then some (.dptr (cs.drop (m.toNat * k))) else none) := rfl
@[go_sem] theorem getE_eq : getE k m es = (if 0 ≤ m then es[m.toNat]? else none).bind fun y => if k = y.cells.length then some (.dptr y.cells) else none := rfl
@[go_sem] theorem extract_tup : extractA (.tup cs) n = cs[n]? := rfl
@[go_sem] theorem len_str : lenA P t (.str s) = if tyStr P t = true then some (.int .i64 s.length) else none := rfl
@[go_sem] theorem len_slc : lenA P t (.slc es) = if (tyElem P t).isSome = true then some (.int .i64 es.length) else none := rfl
@[go_sem] theorem len_clip : lenA P t (.clip es) = if (tyElem P t).isSome = true then some (.int .i64 es.length) else none := rfl
@[go_sem] theorem len_row {j : Nat} : lenA P t (.row n i j k p) = if (tyElem P t).isSome = true then some (.int .i64 k) else none := rfl
@[go_sem] theorem max_int {q' : IntKind} : maxA [.int q m, .int q' r] = some (.int q (if r > m then r else m)) := rfl
@[go_sem] theorem un_not : unA .not (.bool p) = some (.bool !p) := rfl
@[go_sem] theorem bin_add : binA ko p e sl .add (.int q m) (.int q r) = some (.int q (q.wrap (m + r))) := by simp [binA, binI]
@[go_sem] theorem bin_sub : binA ko p e sl .sub (.int q m) (.int q r) = some (.int q (q.wrap (m - r))) := by simp [binA, binI]
@[go_sem] theorem bin_eql : binA ko p e sl .eql (.int q m) (.int q r) = some (.bool (m == r)) := by simp [binA, binI]
@[go_sem] theorem bin_neq : binA ko p e sl .neq (.int q m) (.int q r) = some (.bool (m != r)) := by simp [binA, binI]
@[go_sem] theorem bin_lss : binA ko p e sl .lss (.int q m) (.int q r) = some (.bool (decide (m < r))) := by simp [binA, binI]
@[go_sem] theorem bin_leq : binA ko p e sl .leq (.int q m) (.int q r) = some (.bool (decide (m ≤ r))) := by simp [binA, binI]
@[go_sem] theorem bin_gtr : binA ko p e sl .gtr (.int q m) (.int q r) = some (.bool (decide (r < m))) := by simp [binA, binI]
@[go_sem] theorem bin_geq : binA ko p e sl .geq (.int q m) (.int q r) = some (.bool (decide (r ≤ m))) := by simp [binA, binI]
@[go_sem] theorem bin_shr {q' : IntKind} : binA ko p e sl .shr (.int q m) (.int q' r) = if r < 0 then none else some (.int q (m.fdiv (2 ^ (min r.toNat q.bits)))) := rfl
@[go_sem] theorem bin_bneq {x y : Bool} : binA ko true e sl .neq (.bool x) (.bool y) = some (.bool (x != y)) := rfl
@[go_sem] theorem bin_sneq : binA ko p e sl .neq (.str s) (.str s') = some (.bool (s != s')) := rfl
@[go_sem] theorem bin_aeql : binA (some kl) p e sl .eql (.agg cs) (.agg ds) = if hasL kl cs = true ∧ hasL kl ds = true then (eqL cs ds).map .bool else none := rfl
@[go_sem] theorem bin_aneq : binA (some kl) p e sl .neq (.agg cs) (.agg ds) = if hasL kl cs = true ∧ hasL kl ds = true then (eqL cs ds).map (fun b => .bool !b) else none := rfl
@[go_sem] theorem bin_nilnil : binA ko p e sl .eql .nilp .nilp = if e = true then some (.bool true) else none := by simp [binA]
@[go_sem] theorem bin_refnil : binA ko p e sl .eql (.ref n i) .nilp = if e = true then some (.bool false) else none := by simp [binA, A.isPtr]
@[go_sem] theorem bin_dptrnil : binA ko p e sl .eql (.dptr cs) .nilp = if e = true then some (.bool false) else none := by simp [binA, A.isPtr]
@[go_sem] theorem bin_empnil : binA ko p e true .eql (.emp k0) .nils = some (.bool k0) := rfl
@[go_sem] theorem bin_slcnil : binA ko p e true .eql (.slc (a :: cs)) .nils = some (.bool false) := rfl
@[go_sem] theorem hasL_nil : hasL [] [] = true := rfl
@[go_sem] theorem hasL_cons {c : CK} : hasL (c :: kl) (a :: cs) = (c.has a && hasL kl cs) := rfl
@[go_sem] theorem has_int : CK.has (.int q) (.int q m) = true := by simp [CK.has]
@[go_sem] theorem eqL_nil : eqL [] [] = some true := rfl
@[go_sem] theorem eqL_cons : eqL (a :: cs) (b :: ds) = (eqA a b).bind fun x => (eqL cs ds).map (x && ·) := rfl
@[go_sem] theorem eqA_int : eqA (.int q m) (.int q r) = some (m == r) := by simp [eqA]
@[go_sem] theorem cells_agg : A.cells (.agg cs) = cs := rfl
@[go_sem] theorem cells_int : A.cells (.int q m) = [.int q m] := rfl
@[go_sem] theorem cells_str : A.cells (.str s) = [.str s] := rfl
@[go_sem] theorem cells_row {j : Nat} : A.cells (.row n i k j p) = [.row n i k j p] := rfl
@[go_sem] theorem val_agg : A.val (.agg cs) = true := rfl
@[go_sem] theorem val_int : A.val (.int q m) = true := rfl
@[go_sem] theorem val_str : A.val (.str s) = true := rfl
@[go_sem] theorem val_row {j : Nat} : A.val (.row n i k j p) = true := rfl
@[go_sem] theorem norm_agg : A.norm (.agg cs) = .agg (cs.map norm0) := rfl
@[go_sem] theorem norm_int : A.norm (.int q m) = .int q m := rfl
@[go_sem] theorem norm_str : A.norm (.str s) = .str s := rfl
@[go_sem] theorem norm0_int : norm0 (.int q m) = .int q m := rfl
@[go_sem] theorem norm0_str : norm0 (.str s) = .str s := rfl
@[go_sem] theorem viewL_nil : viewL H [] = some [] := rfl
@[go_sem] theorem viewL_cons : viewL H (a :: cs) = (view H a).bind fun y => (viewL H cs).map (y :: ·) := rfl
@[go_sem] theorem view1L_nil : view1L H [] = some [] := rfl
@[go_sem] theorem view0L_nil : view0L H [] = some [] := rfl
@[go_sem] theorem view0L_cons : view0L H (a :: cs) = (view0 H a).bind fun y => (view0L H cs).map (y :: ·) := rfl
@[go_sem] theorem view_fn : view H (.fn n cs) = (view1L H cs).map (.fn n ·) := rfl
@[go_sem] theorem view_agg : view H (.agg cs) = (view0L H cs).map .agg := rfl
@[go_sem] theorem view_ref : view H (.ref n i) = (match nthO H n with | some (.box cs) => (view0L H (cs.drop i)).map .dptr | _ => none) := rfl
@[go_sem] theorem view_row {j : Nat} : view H (.row n i k j p) = viewRow H n i k j := rfl
@[go_sem] theorem view_int : view H (.int q m) = some (.int q m) := rfl
@[go_sem] theorem view_bool : view H (.bool p) = some (.bool p) := rfl
@[go_sem] theorem view_str : view H (.str s) = some (.str s) := rfl
@[go_sem] theorem view_slc : view H (.slc es) = some (.slc es) := rfl
@[go_sem] theorem view_nils : view H .nils = some (.slc []) := rfl
@[go_sem] theorem view_nilp : view H .nilp = some .nilp := rfl
@[go_sem] theorem view_dptr : view H (.dptr cs) = some (.dptr cs) := rfl
@[go_sem] theorem view0_row {j : Nat} : view0 H (.row n i k j p) = viewRow H n i k j := rfl
@[go_sem] theorem view0_int : view0 H (.int q m) = some (.int q m) := rfl
@[go_sem] theorem view0_str : view0 H (.str s) = some (.str s) := rfl
@[go_sem] theorem view0_nils : view0 H .nils = some (.slc []) := rfl
@[go_sem] theorem viewRow_eq {j : Nat} : viewRow H n i k j = (match nthO H n with | some (.row k' es) => if k' = k ∧ i + j ≤ es.length ∧ k ≠ 0 then some (.slc ((es.drop i).take j)) else none | _ => none) := rfl
@[go_sem] theorem pureL_nil : A.pure.pureL [] = true := rfl
@[go_sem] theorem pureL_cons : A.pure.pureL (a :: cs) = (a.pure && A.pure.pureL cs) := rfl
@[go_sem] theorem pure_agg : A.pure (.agg cs) = A.pure.pureL cs := by simp [A.pure]
@[go_sem] theorem pure_fn : A.pure (.fn n cs) = A.pure.pureL cs := by simp [A.pure]
@[go_sem] theorem pure_int : A.pure (.int q m) = true := by simp [A.pure]
@[go_sem] theorem pure_str : A.pure (.str s) = true := by simp [A.pure]
@[go_sem] theorem pure_slc : A.pure (.slc es) = true := by simp [A.pure]
@[go_sem] theorem pure_nils : A.pure .nils = true := by simp [A.pure]
@[go_sem] theorem pure_nilp : A.pure .nilp = true := by simp [A.pure]
@[go_sem] theorem pure_dptr : A.pure (.dptr cs) = true := by simp [A.pure]
@[go_sem] theorem pure_ref : A.pure (.ref n i) = false := by simp [A.pure]
@[go_sem] theorem pure_row {j : Nat} : A.pure (.row n i k j p) = false := by simp [A.pure]
@[go_sem] theorem flatL_nil : A.flat.flatL [] = true := rfl
@[go_sem] theorem flatL_cons : A.flat.flatL (a :: cs) = (a.flat && A.flat.flatL cs) := rfl
@[go_sem] theorem flat_tup : A.flat (.tup cs) = A.flat.flatL cs := by simp [A.flat]
@[go_sem] theorem flat_int : A.flat (.int q m) = true := by simp [A.flat]
@[go_sem] theorem flat_bool : A.flat (.bool p) = true := by simp [A.flat]
@[go_sem] theorem clear_row {σs : List (Nat × A)} {σH : List Obj} {l : Nat} : clearA P (St.mk σs σH) d t (.row n i k l p) = (match tyElem P t with | some e => (match nthO σH n with | some (.row k' es) => (match zeroA P e with | some z => if k' = k ∧ z.cells.length = k ∧ k ≠ 0 ∧ z.val = true ∧ z.pure = true ∧ i + l ≤ es.length then some (((St.mk σs σH).setH n (.row k (es.take i ++ List.replicate l z.norm ++ es.drop (i + l)))).put d (.tup [])) else none | none => none) | _ => none) | none => none) := rfl
@[go_sem] theorem callHV_fn {Γ : Tab} : callHV Γ σ d (.fn n cs) ds = callH Γ σ d n (ds ++ cs) := rfl
@[go_sem] theorem callH_eq {Γ : Tab} {σs : List (Nat × A)} {σH : List Obj} : callH Γ (St.mk σs σH) d n ds = callH1 Γ (St.mk σs σH) d n ds (reach σH 64 (A.names.namesL ds) []) := rfl
@[go_sem] theorem callH1_eq {Γ : Tab} {σs : List (Nat × A)} {σH : List Obj} {ρ : List Nat} : callH1 Γ (St.mk σs σH) d n ds ρ = (A.ren.renL ρ ds).bind fun as' => (renH ρ σH ρ).bind fun H₀ =>
    if Γ.frz n = true then (if ρ.all (fun n => !Γ.fix n) = true then (viewL H₀ as').bind fun bs => (Γ.f n bs).map (callF2 (St.mk σs σH) d ρ H₀) else none)
    else (Γ.hp n as' H₀).bind fun x => if mayMove Γ ρ σH.length x.2.2 = true then some (callH2 (St.mk σs σH) d ρ x) else none := rfl
@[congr] theorem callH1_congr {Γ : Tab} {ρ ρ' : List Nat} (h : ρ = ρ') : callH1 Γ σ d n ds ρ = callH1 Γ σ d n ds ρ' := by rw [h]
@[go_sem] theorem callH2_eq {σs : List (Nat × A)} {σH : List Obj} {ρ : List Nat} {S : List Nat} : callH2 (St.mk σs σH) d ρ (a, H, S) = St.put ⟨(scrubs ρ σH.length (St.mk σs σH) S).s, backH ρ σH.length ρ H (scrubs ρ σH.length (St.mk σs σH) S).H⟩ d (a.back ρ σH.length) := rfl
@[go_sem] theorem callF2_eq {σs : List (Nat × A)} {σH : List Obj} {ρ : List Nat} : callF2 (St.mk σs σH) d ρ H a = St.put ⟨σs.map (fun p => (p.1, frzA ρ H p.2)), dropO ρ ρ (σH.map (frzO ρ H))⟩ d a := rfl
@[go_sem] theorem scrubs_nil {ρ : List Nat} : scrubs ρ n σ [] = σ := rfl
@[go_sem] theorem scrubs_cons {ρ S : List Nat} : scrubs ρ n σ (i :: S) = scrubs ρ n (σ.scrub (nthN ρ n i)) S := rfl
@[go_sem] theorem backH_nil {ρ : List Nat} {os : List Obj} : backH ρ n [] os H = H ++ os.map (Obj.back ρ n) := rfl
@[go_sem] theorem backH_cons {ρ ns : List Nat} {o : Obj} {os : List Obj} : backH ρ n (i :: ns) (o :: os) H = backH ρ n ns os (setO H i (o.back ρ n)) := rfl
@[go_sem] theorem mayMove_nil {Γ : Tab} {ρ : List Nat} : mayMove Γ ρ n [] = true := rfl
@[go_sem] theorem mayMove_cons {Γ : Tab} {ρ S : List Nat} : mayMove Γ ρ n (i :: S) = (!Γ.fix (nthN ρ n i) && mayMove Γ ρ n S) := rfl
@[go_sem] theorem reach_nil {ρ : List Nat} : reach H (n + 1) [] ρ = ρ := rfl
@[go_sem] theorem reach_cons {ρ ns : List Nat} : reach H (n + 1) (i :: ns) ρ = if ρ.contains i = true then reach H n ns ρ else reach H n (namesO (nthO H i) ++ ns) (ρ ++ [i]) := rfl
@[go_sem] theorem namesO_some {o : Obj} : namesO (some o) = o.names := rfl
@[go_sem] theorem names_box : Obj.names (.box cs) = A.names.namesL cs := rfl
@[go_sem] theorem names_rowO : Obj.names (.row k cs) = [] := rfl
@[go_sem] theorem namesL_nil : A.names.namesL [] = [] := rfl
@[go_sem] theorem namesL_cons : A.names.namesL (a :: cs) = a.names ++ A.names.namesL cs := rfl
@[go_sem] theorem names_ref : A.names (.ref n i) = [n] := by simp [A.names]
@[go_sem] theorem names_row {j : Nat} : A.names (.row n i j k p) = [n] := by simp [A.names]
@[go_sem] theorem names_agg : A.names (.agg cs) = A.names.namesL cs := by simp [A.names]
@[go_sem] theorem names_fn : A.names (.fn n cs) = A.names.namesL cs := by simp [A.names]
@[go_sem] theorem names_int : A.names (.int q m) = [] := by simp [A.names]
@[go_sem] theorem names_str : A.names (.str s) = [] := by simp [A.names]
@[go_sem] theorem names_clip : A.names (.clip es) = [] := by simp [A.names]
@[go_sem] theorem names_nils : A.names .nils = [] := by simp [A.names]
@[go_sem] theorem names_nilp : A.names .nilp = [] := by simp [A.names]
@[go_sem] theorem idx_cons {ρ : List Nat} : idx (i :: ρ) n = if i = n then some 0 else (idx ρ n).map (· + 1) := rfl
@[go_sem] theorem renL_nil {ρ : List Nat} : A.ren.renL ρ [] = some [] := rfl
@[go_sem] theorem renL_cons {ρ : List Nat} : A.ren.renL ρ (a :: cs) = (a.ren ρ).bind fun x => (A.ren.renL ρ cs).map (x :: ·) := rfl
@[go_sem] theorem ren_ref {ρ : List Nat} : A.ren ρ (.ref n i) = (idx ρ n).map (.ref · i) := by simp [A.ren]
@[go_sem] theorem ren_row {ρ : List Nat} {j : Nat} : A.ren ρ (.row n i j k p) = (idx ρ n).map (.row · i j k p) := by simp [A.ren]
@[go_sem] theorem ren_agg {ρ : List Nat} : A.ren ρ (.agg cs) = (A.ren.renL ρ cs).map .agg := by simp [A.ren]
@[go_sem] theorem ren_fn {ρ : List Nat} : A.ren ρ (.fn n cs) = (A.ren.renL ρ cs).map (.fn n ·) := by simp [A.ren]
@[go_sem] theorem ren_int {ρ : List Nat} : A.ren ρ (.int q m) = some (.int q m) := by simp [A.ren]
@[go_sem] theorem ren_str {ρ : List Nat} : A.ren ρ (.str s) = some (.str s) := by simp [A.ren]
@[go_sem] theorem ren_clip {ρ : List Nat} : A.ren ρ (.clip es) = some (.clip es) := by simp [A.ren]
@[go_sem] theorem ren_nils {ρ : List Nat} : A.ren ρ .nils = some .nils := by simp [A.ren]
@[go_sem] theorem ren_nilp {ρ : List Nat} : A.ren ρ .nilp = some .nilp := by simp [A.ren]
@[go_sem] theorem renH_nil {ρ : List Nat} : renH ρ H [] = some [] := rfl
@[go_sem] theorem renH_cons {ρ ns : List Nat} : renH ρ H (i :: ns) = (renO ρ (nthO H i)).bind fun o => (renH ρ H ns).map (o :: ·) := rfl
@[go_sem] theorem renO_some {ρ : List Nat} {o : Obj} : renO ρ (some o) = o.ren ρ := rfl
@[go_sem] theorem renO_box {ρ : List Nat} : Obj.ren ρ (.box cs) = (A.ren.renL ρ cs).map .box := rfl
@[go_sem] theorem renO_row {ρ : List Nat} : Obj.ren ρ (.row k cs) = some (.row k cs) := rfl
@[go_sem] theorem nthN_nil : nthN [] n i = n + i := rfl
@[go_sem] theorem nthN_zero {ρ : List Nat} : nthN (i :: ρ) n 0 = i := rfl
@[go_sem] theorem nthN_succ {ρ : List Nat} : nthN (i :: ρ) n (k + 1) = nthN ρ n k := rfl
@[go_sem] theorem back_ref {ρ : List Nat} : A.back ρ k (.ref n i) = .ref (nthN ρ k n) i := by simp [A.back]
@[go_sem] theorem back_row {ρ : List Nat} {j l : Nat} : A.back ρ k (.row n i j l p) = .row (nthN ρ k n) i j l p := by simp [A.back]
@[go_sem] theorem back_tup {ρ : List Nat} : A.back ρ k (.tup cs) = .tup (A.back.backL ρ k cs) := by simp [A.back]
@[go_sem] theorem back_int {ρ : List Nat} : A.back ρ k (.int q m) = .int q m := by simp [A.back]
@[go_sem] theorem back_bool {ρ : List Nat} : A.back ρ k (.bool p) = .bool p := by simp [A.back]
@[go_sem] theorem back_nils {ρ : List Nat} : A.back ρ k .nils = .nils := by simp [A.back]
@[go_sem] theorem backL_nil {ρ : List Nat} : A.back.backL ρ k [] = [] := rfl
@[go_sem] theorem backL_cons {ρ : List Nat} : A.back.backL ρ k (a :: cs) = a.back ρ k :: A.back.backL ρ k cs := rfl
@[go_sem] theorem backO_box {ρ : List Nat} : Obj.back ρ k (.box cs) = .box (A.back.backL ρ k cs) := rfl
@[go_sem] theorem backO_row {ρ : List Nat} : Obj.back ρ k (.row n cs) = .row n cs := rfl
@[go_sem] theorem frzA_eq {ρ : List Nat} : frzA ρ H a = if a.meets ρ = true then (match a.ren ρ with | some x' => (view H x').getD .any | none => .any) else a := rfl
@[go_sem] theorem meets_eq {ρ : List Nat} : A.meets ρ a = ρ.any fun n => a.mem n := rfl
@[go_sem] theorem frzO_box {ρ : List Nat} : frzO ρ H (.box cs) = .box (cs.map (frzA ρ H)) := rfl
@[go_sem] theorem frzO_row {ρ : List Nat} : frzO ρ H (.row k cs) = .row k cs := rfl
@[go_sem] theorem dropO_nil {ρ : List Nat} : dropO ρ [] H = H := rfl
@[go_sem] theorem dropO_cons {ρ ns : List Nat} : dropO ρ (i :: ns) H = dropO ρ ns (setO H i (.row 0 [])) := rfl
@[go_sem] theorem startH_eq : startH cs H = { s := number 0 cs, H := H } := rfl
@[go_sem] theorem bodyH_ret {fn : Func} : bodyH P fn a H .ret σ = K? (rawL P σ fn.results.toList) (fun rs => resOf rs = a ∧ a.under H.length = true ∧ leH H.length σ.H H) := rfl
@[go_sem] theorem rawL_nil : rawL P σ [] = some [] := rfl
@[go_sem] theorem rawL_cons {v : ResultVar} {vs : List ResultVar} : rawL P σ (v :: vs) = (rawA P σ v).bind fun x => (rawL P σ vs).map (x :: ·) := rfl
@[go_sem] theorem raw_tmp {σs : List (Nat × A)} {σH : List Obj} : rawA P (St.mk σs σH) (.tmp i) = some (look σs i) := rfl
@[go_sem] theorem callV_fn {Γ : Tab} : callV Γ σ d (.fn n cs) ds = callX Γ σ d n (ds ++ cs) := rfl
@[go_sem] theorem callX_eq {σs : List (Nat × A)} {σH : List Obj} {Γ : Tab} : callX Γ (St.mk σs σH) d n ds = (viewL σH ds).bind fun bs => (Γ.f n bs).bind fun r => if (A.pure.pureL ds || r.flat) = true then some ((St.mk σs σH).put d r) else none := rfl
@[go_sem] theorem box_eq {σs : List (Nat × A)} {σH : List Obj} : boxA (St.mk σs σH) n d a = if a.val = true then some (((St.mk σs σH).setH n (.box a.cells)).put d (.ref n 0)) else none := rfl
@[go_sem] theorem alloc_some : allocA σ n d (some a) = boxA σ n d a := rfl
@[go_sem] theorem store_ref {σs : List (Nat × A)} {σH : List Obj} {z : Option Nat} : storeA (St.mk σs σH) d z (.ref n i) a = (match nthO σH n with | some (.box cs) => if z = some a.cells.length ∧ i + a.cells.length ≤ cs.length ∧ a.val = true then some (((St.mk σs σH).setH n (.box (spliceA cs i a.cells))).put d (.tup [])) else none | _ => none) := rfl
@[go_sem] theorem store_eref {σs : List (Nat × A)} {σH : List Obj} {z : Option Nat} {j : Nat} : storeA (St.mk σs σH) d z (.eref n j i) a = (match nthO σH n with | some (.row k es) => (es[j]?).bind fun e => if z = some a.cells.length ∧ i + a.cells.length ≤ e.cells.length ∧ a.cells.length ≠ 0 ∧ a.val = true ∧ a.pure = true then some (((St.mk σs σH).setH n (.row k (setNth es j (storeE e i a)))).put d (.tup [])) else none | _ => none) := rfl
@[go_sem] theorem storeE_agg : storeE (.agg cs) i a = .agg (spliceA cs i a.norm.cells) := rfl
@[go_sem] theorem splice_eq : spliceA cs i ds = cs.take i ++ ds ++ cs.drop (i + ds.length) := rfl
@[go_sem] theorem build_eq {ps : List (Nat × Operand)} : buildA P t σ ps = (match zeroA P t with | some (.agg zs) => (match tyArr P t with | some (_, e) => (if (tySize P e).isSome = true then (fillA P e σ ps zs).map .agg else none) | none => if allSized P t = true then (fillS P t σ ps zs).map .agg else none) | _ => none) := rfl
@[go_sem] theorem fillS_nil : fillS P t σ [] cs = some cs := rfl
@[go_sem] theorem fillS_cons {x : Operand} {ps : List (Nat × Operand)} : fillS P t σ ((i, x) :: ps) cs = (match fieldInfo P t i with | some (o, ft) => (fillC (tySize P ft) o (σ.ev x) cs).bind (fillS P t σ ps) | none => none) := rfl
@[go_sem] theorem fillC_some : fillC (some n) i a cs = if a.cells.length = n ∧ i + n ≤ cs.length ∧ a.val = true then some (cs.take i ++ a.cells ++ cs.drop (i + n)) else none := rfl
@[go_sem] theorem buildSlice_eq {ps : List (Nat × Operand)} : buildSliceA P t n σ ps = (match tyElem P t with | some e => (match tySize P e, zeroA P e with | some k, some z => if n * k ≤ 16777216 ∧ k ≠ 0 ∧ z.pure = true ∧ z.val = true ∧ z.cells.length = k then (fillE k σ ps (List.replicate n z.norm)).map .clip else none | _, _ => none) | none => none) := rfl
@[go_sem] theorem fillE_nil : fillE k σ [] cs = some cs := rfl
@[go_sem] theorem fillE_cons {x : Operand} {ps : List (Nat × Operand)} : fillE k σ ((i, x) :: ps) cs = if (σ.ev x).cells.length = k ∧ i < cs.length ∧ (σ.ev x).val = true ∧ (σ.ev x).pure = true then fillE k σ ps (setNth cs i (σ.ev x).norm) else none := rfl
@[go_sem] theorem appendX_eq {fx : Nat → Bool} {x : A} : appendX P fx σ n d t u a x = (match tyElem P t with | some e => (match tySize P e with | some k => if k = 0 ∨ tyBytes P e = 0 ∨ zeroOK P e k = false then none else (srcE P σ e u k x).bind fun src => appendA fx σ n d k (tyBytes P e) a src | none => none) | none => none) := rfl
@[go_sem] theorem src_slc : srcE P σ t u k (.slc es) = if strOK k es = true ∧ (tyElem P u).isSome = true then some es else none := rfl
@[go_sem] theorem src_clip : srcE P σ t u k (.clip es) = if strOK k es = true ∧ (tyElem P u).isSome = true then some es else none := rfl
@[go_sem] theorem src_emp : srcE P σ t u k (.emp p) = if (tyElem P u).isSome = true then some [] else none := rfl
@[go_sem] theorem strOK_eq : strOK k es = (es.isEmpty || strideOf es == k) := rfl
@[go_sem] theorem stride_cons : strideOf (a :: es) = a.cells.length := rfl
@[go_sem] theorem append_nils {fx : Nat → Bool} {σs : List (Nat × A)} {σH : List Obj} : appendA fx (St.mk σs σH) n d k i .nils es = if es.length * i ≤ 140737488355328 then some (((St.mk σs σH).setH n (.row k es)).put d (.row n 0 k es.length false)) else none := rfl
@[go_sem] theorem append_clip {fx : Nat → Bool} {σs : List (Nat × A)} {σH : List Obj} : appendA fx (St.mk σs σH) n d k i (.clip cs) es = if strOK k cs = true ∧ (cs = [] ∨ es ≠ []) ∧ (cs.length + es.length) * i ≤ 140737488355328 then some (((St.mk σs σH).setH n (.row k (cs ++ es))).put d (.row n 0 k (cs.length + es.length) false)) else none := rfl
@[go_sem] theorem append_row {fx : Nat → Bool} {σs : List (Nat × A)} {σH : List Obj} {m j l : Nat} : appendA fx (St.mk σs σH) n d k i (.row m 0 j l p) es = (match nthO σH m with | some (.row k'' xs) => if j = k ∧ k'' = k ∧ l ≤ xs.length ∧ (l + es.length) * i ≤ 140737488355328 then (if p then (if es = [] then none else some (((St.mk σs σH).setH n (.row k (xs.take l ++ es))).put d (.row n 0 k (l + es.length) false))) else (if fx m = true then none else some ((((St.mk σs σH).scrub m).setH m (.row k (xs.take l ++ es))).put d (.row m 0 k (l + es.length) false)))) else none | _ => none) := rfl
@[go_sem] theorem convX_eq {σs : List (Nat × A)} {σH : List Obj} : convX P (St.mk σs σH) n d t u a = if isS2B P t u = true then (match a with | .str s => some (((St.mk σs σH).setH n (.row 1 (bytesA s))).put d (.row n 0 1 s.length false)) | _ => none) else (convA P t u σH a).map ((St.mk σs σH).put d ·) := rfl
@[go_sem] theorem conv_int : convA P t u H (.int q m) = (match tyInt P u with | some k => if (tyAgg P t).isSome = true then some (.int k (k.wrap m)) else none | none => none) := rfl
@[go_sem] theorem slice_slc {l h b : Bd} : sliceA p (some k) (.slc es) l h b = sliceE k es l h b := rfl
@[go_sem] theorem sliceE_eq {l h : Bd} : sliceE k es l h .none = if strOK k es = true ∧ 0 ≤ l.get 0 ∧ l.get 0 ≤ h.get es.length ∧ h.get es.length ≤ es.length then some (.slc ((es.take (h.get es.length).toNat).drop (l.get 0).toNat)) else none := rfl
@[go_sem] theorem elSize_eq : elSize P t = (match tyElem P t with | some e => tySize P e | none => none) := rfl
@[go_sem] theorem scrub_eq {σs : List (Nat × A)} {σH : List Obj} : (St.mk σs σH).scrub n = { s := σs.map (fun p => (p.1, scrubA n p.2)), H := σH.map (scrubO n) } := rfl
@[go_sem] theorem scrubA_eq : scrubA n a = if a.mem n = true then .any else a := rfl
@[go_sem] theorem scrubO_box : scrubO n (.box cs) = .box (cs.map (scrubA n)) := rfl
@[go_sem] theorem scrubO_row : scrubO n (.row k cs) = .row k cs := rfl
@[go_sem] theorem memL_nil : A.mem.memL n [] = false := rfl
@[go_sem] theorem memL_cons : A.mem.memL n (a :: cs) = (a.mem n || A.mem.memL n cs) := rfl
@[go_sem] theorem mem_agg : A.mem n (.agg cs) = A.mem.memL n cs := by simp [A.mem]
@[go_sem] theorem mem_tup : A.mem n (.tup cs) = A.mem.memL n cs := by simp [A.mem]
@[go_sem] theorem mem_int : A.mem n (.int q m) = false := by simp [A.mem]
@[go_sem] theorem mem_bool : A.mem n (.bool p) = false := by simp [A.mem]
@[go_sem] theorem mem_str : A.mem n (.str s) = false := by simp [A.mem]
@[go_sem] theorem mem_slc : A.mem n (.slc es) = false := by simp [A.mem]
@[go_sem] theorem mem_clip : A.mem n (.clip es) = false := by simp [A.mem]
@[go_sem] theorem mem_dptr : A.mem n (.dptr es) = false := by simp [A.mem]
@[go_sem] theorem mem_nils : A.mem n .nils = false := by simp [A.mem]
@[go_sem] theorem mem_nilp : A.mem n .nilp = false := by simp [A.mem]
@[go_sem] theorem mem_any : A.mem n .any = false := by simp [A.mem]
@[go_sem] theorem mem_ref : A.mem n (.ref i k) = (i == n) := by simp [A.mem]
@[go_sem] theorem mem_eref {j : Nat} : A.mem n (.eref i j k) = (i == n) := by simp [A.mem]
@[go_sem] theorem mem_row {j l : Nat} : A.mem n (.row i j k l p) = (i == n) := by simp [A.mem]
@[go_sem] theorem under_agg : A.under n (.agg cs) = A.under.underL n cs := by simp [A.under]
@[go_sem] theorem under_fn : A.under n (.fn i cs) = A.under.underL n cs := by simp [A.under]
@[go_sem] theorem underL_nil : A.under.underL n [] = true := rfl
@[go_sem] theorem under_int : A.under n (.int q m) = true := by simp [A.under]
@[go_sem] theorem under_bool : A.under n (.bool p) = true := by simp [A.under]
@[go_sem] theorem under_str : A.under n (.str s) = true := by simp [A.under]
@[go_sem] theorem under_slc : A.under n (.slc es) = true := by simp [A.under]
@[go_sem] theorem under_clip : A.under n (.clip es) = true := by simp [A.under]
@[go_sem] theorem under_dptr : A.under n (.dptr es) = true := by simp [A.under]
@[go_sem] theorem under_nils : A.under n .nils = true := by simp [A.under]
@[go_sem] theorem under_ref : A.under n (.ref i k) = decide (i < n) := by simp [A.under]
@[go_sem] theorem under_row {j l : Nat} : A.under n (.row i j k l p) = decide (i < n) := by simp [A.under]
@[go_sem] theorem resL_nil : resL P σ [] = some [] := rfl
@[go_sem] theorem resL_cons {v : ResultVar} {vs : List ResultVar} : resL P σ (v :: vs) = (resA P σ v).bind fun x => (resL P σ vs).map (x :: ·) := rfl
@[go_sem] theorem res_tmp {σs : List (Nat × A)} {σH : List Obj} : resA P (St.mk σs σH) (.tmp i) = view σH (look σs i) := rfl
@[go_sem] theorem resOf_one : resOf [a] = a := rfl
@[go_sem] theorem resOf_two : resOf (a :: b :: cs) = .tup (a :: b :: cs) := rfl
@[go_sem] theorem body_ret {fn : Func} {Post : A → Prop} : bodyA P fn Post .ret σ = K? (resL P σ fn.results.toList) (fun rs => Post (resOf rs)) := rfl
@[go_sem] theorem start_eq : startA cs = { s := number 0 cs, H := [] } := rfl
@[go_sem] theorem number_nil : number n [] = [] := rfl
@[go_sem] theorem number_cons : number n (a :: cs) = (n, a) :: number (n + 1) cs := rfl
end
attribute [go_sem] List.map_cons List.map_nil List.cons_append List.nil_append List.append_nil List.length_cons List.length_nil List.replicate_succ List.replicate_zero
  List.take_succ_cons List.drop_succ_cons List.take_zero List.drop_zero List.take_nil List.drop_nil List.head?_cons List.getElem?_cons_zero List.getElem?_cons_succ List.isEmpty_cons List.isEmpty_nil List.any_cons List.any_nil List.all_cons List.all_nil
  Option.map_some Option.map_none Option.bind_some Option.bind_none Option.getD_some Option.getD_none Option.isSome_some Option.isSome_none Option.isNone_some Option.isNone_none
  ite_true ite_false Bool.false_eq_true Bool.and_true Bool.true_and Bool.and_false Bool.false_and Bool.or_true Bool.true_or Bool.or_false Bool.false_or Bool.not_true Bool.not_false
  beq_self_eq_true and_true true_and and_false false_and or_true true_or or_false false_or and_self
def keepS (s : List (Nat × A)) : List Nat → List (Nat × A)
  | [] => []
  | d :: ds => (d, look s d) :: keepS s ds
def updsH : List Obj → List (Nat × Obj) → List Obj
  | s, [] => s
  | s, (d, v) :: ds => updsH (setO s d v) ds
def headSt (σ : St) (ks : List Nat) (u : List (Nat × A)) (h : List (Nat × Obj)) : St := { s := u ++ keepS σ.s ks, H := updsH σ.H h }
theorem updsH_len : ∀ (hs : List (Nat × Obj)) (H : List Obj), (updsH H hs).length = H.length
  | [], H => rfl
  | (d, v) :: ds, H => by
    simp only [updsH]
    rw [updsH_len ds]
    clear ds
    induction H generalizing d with
    | nil => rfl
    | cons x xs ih => cases d <;> simp [setO, ih]
theorem wpA_loop {P : Program} {Γ : Tab} {c : Code} {Q : Ex → St → Prop} {σ : St} {ι : Type} (ks : List Nat) (u : ι → List (Nat × A)) (h : ι → List (Nat × Obj)) (μ : ι → Nat) (i₀ : ι) (hn : Γ.nf ≤ σ.H.length)
    (h0 : σ.le (headSt σ ks (u i₀) (h i₀)))
    (hs : ∀ i, wpA P Γ c (loopQ (fun τ => ∃ j, τ.le (headSt σ ks (u j) (h j)) ∧ μ j < μ i) Q) (headSt σ ks (u i) (h i))) : wpA P Γ (.loop c) Q σ := by
  have hl : ∀ i, Γ.nf ≤ (headSt σ ks (u i) (h i)).H.length := fun i => by
    show Γ.nf ≤ (updsH σ.H (h i)).length
    rw [updsH_len]; exact hn
  simp only [wpA]
  refine ⟨ι, fun i => headSt σ ks (u i) (h i), μ, ⟨i₀, .le (hl i₀) h0⟩, fun i => ?_⟩
  refine wpA_mono (fun e τ hq => ?_) (hs i)
  cases e with
  | normal => obtain ⟨j, h1, h2⟩ := hq; exact ⟨j, .le (hl j) h1, h2⟩
  | exit id => exact hq
  | ret => exact hq
theorem wpA_loop_frz {P : Program} {Γ : Tab} {c : Code} {Q : Ex → St → Prop} {σ : St} (ρ : List Nat) (hn : ρ.Nodup) (hf : ∀ n ∈ ρ, Γ.nf ≤ n)
    (hw : K? (renH ρ σ.H ρ) fun H₀ => wpA P Γ (.loop c) Q (frzSt ρ H₀ σ)) : wpA P Γ (.loop c) Q σ := by
  obtain ⟨H₀, hH, hw⟩ := hw
  simp only [wpA] at hw ⊢
  obtain ⟨ι, inv, μ, ⟨i, hi⟩, hs⟩ := hw
  exact ⟨ι, inv, μ, ⟨i, .frz ρ H₀ hn hH hf hi⟩, hs⟩
@[go_sem] theorem frzSt_eq {ρ : List Nat} {H₀ : List Obj} {s : List (Nat × A)} {H : List Obj} : frzSt ρ H₀ (St.mk s H) = ⟨s.map (fun p => (p.1, frzA ρ H₀ p.2)), dropO ρ ρ (H.map (frzO ρ H₀))⟩ := rfl
theorem wpA_loopH {P : Program} {Γ : Tab} {c : Code} {Q : Ex → St → Prop} {σ : St} {ι : Type} (ks : List Nat) (u : ι → List (Nat × A)) (h : ι → List Obj) (μ : ι → Nat) (i₀ : ι) (hn : ∀ i, Γ.nf ≤ (h i).length)
    (h0 : σ.le ⟨u i₀ ++ keepS σ.s ks, h i₀⟩)
    (hs : ∀ i, wpA P Γ c (loopQ (fun τ => ∃ j, τ.le ⟨u j ++ keepS σ.s ks, h j⟩ ∧ μ j < μ i) Q) ⟨u i ++ keepS σ.s ks, h i⟩) : wpA P Γ (.loop c) Q σ := by
  simp only [wpA]
  refine ⟨ι, fun i => ⟨u i ++ keepS σ.s ks, h i⟩, μ, ⟨i₀, .le (hn i₀) h0⟩, fun i => ?_⟩
  refine wpA_mono (fun e τ hq => ?_) (hs i)
  cases e with
  | normal => obtain ⟨j, h1, h2⟩ := hq; exact ⟨j, .le (hn j) h1, h2⟩
  | exit id => exact hq
  | ret => exact hq
theorem wpA_loop_nil {P : Program} {Γ : Tab} {c : Code} {Q : Ex → St → Prop} {σ : St} (d k : Nat) (hd : look σ.s d = .nils)
    (hw : wpA P Γ (.loop c) Q ⟨(d, .row σ.H.length 0 k 0 false) :: σ.s, σ.H ++ [.row k []]⟩) : wpA P Γ (.loop c) Q σ := by
  simp only [wpA] at hw ⊢
  obtain ⟨ι, inv, μ, ⟨i, hi⟩, hs⟩ := hw
  exact ⟨ι, inv, μ, ⟨i, .nil d k hd hi⟩, hs⟩
section
variable {σ τ : St} {s : List (Nat × A)} {ks : List Nat} {H G : List Obj} {d n k : Nat} {v a b : A} {o p : Obj} {cs ds : List A}
@[go_sem] theorem keepS_nil : keepS s [] = [] := rfl
@[go_sem] theorem keepS_cons : keepS s (d :: ks) = (d, look s d) :: keepS s ks := rfl
@[go_sem] theorem updsH_nil : updsH H [] = H := rfl
@[go_sem] theorem updsH_cons {hs : List (Nat × Obj)} : updsH H ((n, o) :: hs) = updsH (setO H n o) hs := rfl
@[go_sem] theorem head_eq {σs : List (Nat × A)} {σH : List Obj} {u : List (Nat × A)} {hs : List (Nat × Obj)} : headSt (St.mk σs σH) ks u hs = { s := u ++ keepS σs ks, H := updsH σH hs } := rfl
@[go_sem] theorem le_eq {s r : List (Nat × A)} {H G : List Obj} : (St.mk s H).le ⟨r, G⟩ = (leS G.length s r ∧ leH G.length H G) := rfl
@[go_sem] theorem leS_nil : leS n s [] = True := rfl
@[go_sem] theorem leS_cons {r : List (Nat × A)} : leS n s ((d, v) :: r) = ((look s d = v ∧ v.under n = true) ∧ leS n s r) := rfl
@[go_sem] theorem leH_nil : leH n [] [] = True := by simp [leH]
@[go_sem] theorem leH_nil' : leH n (o :: H) [] = True := by simp [leH]
@[go_sem] theorem leH_cons : leH n (o :: H) (p :: G) = (leO n o p ∧ leH n H G) := by simp [leH]
@[go_sem] theorem leO_box : leO n (.box cs) (.box ds) = leL n cs ds := by simp [leO]
@[go_sem] theorem leO_row {j : Nat} : leO n (.row k cs) (.row j ds) = (k = j ∧ cs = ds) := by simp [leO]
@[go_sem] theorem leL_nil : leL n [] [] = True := by simp [leL]
@[go_sem] theorem leL_cons : leL n (a :: cs) (b :: ds) = ((b = .any ∨ (a = b ∧ b.under n = true)) ∧ leL n cs ds) := by simp [leL]
end
attribute [go_sem] A.int.injEq A.bool.injEq A.str.injEq A.slc.injEq A.agg.injEq A.ref.injEq A.row.injEq A.tup.injEq A.fn.injEq
end Go.Abs
namespace Go.Abs
def tab0 : Tab := ⟨fun _ _ => none, fun _ _ _ => none, fun _ => false, fun _ => false, false, fun _ => false, 0, fun _ => []⟩
theorem tab0_ok (P : Program) : TabOK P tab0 := ⟨(fun _ _ _ h => by cases h), (fun _ _ _ _ _ _ h => by cases h)⟩
def Tab.add (Γ : Tab) (g : FuncId) (e : List A → Option A) : Tab := { Γ with f := fun h xs => if h = g then e xs else Γ.f h xs }
def Tab.addH (Γ : Tab) (g : FuncId) (e : List A → List Obj → Option (A × List Obj × List Nat)) : Tab := { Γ with hp := fun h xs H => if h = g then e xs H else Γ.hp h xs H }
abbrev Tab.pl (Γ Γ' : Tab) : Prop := (∀ g, Γ.eff g = false) ∧ (∀ g, Γ.frz g = false) ∧ Γ.effT = false ∧ (∀ n, Γ.fix n = false) ∧ Γ.nf = 0 ∧ (∀ n, Γ.ords n = []) ∧ Γ.hp = Γ'.hp
theorem Tab.add_eq {Γ : Tab} {g : FuncId} {e : List A → Option A} {xs : List A} : (Γ.add g e).f g xs = e xs := if_pos rfl
theorem Tab.add_ne {Γ : Tab} {g h : FuncId} {e : List A → Option A} {xs : List A} (hn : h ≠ g) : (Γ.add g e).f h xs = Γ.f h xs := if_neg hn
section
variable {P : Program} {Γ : Tab} {g : FuncId}
theorem TabOK.add (h : TabOK P Γ) {e : List A → Option A} (hc : Callable P g) (he : ∀ xs r, e xs = some r → CallA P g xs (· = r)) : TabOK P (Γ.add g e) where
  f := fun f xs r hr => by
    simp only [Tab.add] at hr
    split at hr
    · rename_i e; subst e; exact ⟨hc, he xs r hr⟩
    · exact h.f f xs r hr
  hp := h.hp
theorem TabOK.addH (h : TabOK P Γ) {e : List A → List Obj → Option (A × List Obj × List Nat)} (hc : Callable P g) (he : ∀ xs H r H' S, e xs H = some (r, H', S) → CallH P g xs H r H' S) : TabOK P (Γ.addH g e) where
  f := h.f
  hp := fun f xs H r H' S hr => by
    simp only [Tab.addH] at hr
    split at hr
    · rename_i e; subst e; exact ⟨hc, he xs H r H' S hr⟩
    · exact h.hp f xs H r H' S hr
end
open Classical in
noncomputable def entry {ι : Type} (enc : ι → List A) (ok : ι → Prop) (spec : ι → A) : List A → Option A := fun xs => if h : ∃ i, enc i = xs ∧ ok i then some (spec (Classical.choose h)) else none
theorem entry_ok {P : Program} {g : FuncId} {ι : Type} {enc : ι → List A} {ok : ι → Prop} {spec : ι → A} (h : ∀ i, ok i → CallA P g (enc i) (· = spec i)) : ∀ xs r, entry enc ok spec xs = some r → CallA P g xs (· = r) := fun xs r hr => by
  unfold entry at hr
  split at hr
  · rename_i hx
    obtain ⟨h1, h2⟩ := Classical.choose_spec hx
    obtain rfl := Option.some.inj hr
    have := h _ h2
    rw [h1] at this
    exact this
  · cases hr
theorem entry_eq {ι : Type} {enc : ι → List A} {ok : ι → Prop} {spec : ι → A} (hi : ∀ i j, enc i = enc j → i = j) (i : ι) (h : ok i) : entry enc ok spec (enc i) = some (spec i) := by
  have hx : ∃ j, enc j = enc i ∧ ok j := ⟨i, rfl, h⟩
  unfold entry
  rw [dif_pos hx]
  rw [hi _ _ (Classical.choose_spec hx).1]
theorem Tab.ent_eq {Γ : Tab} {g : FuncId} {ι : Type} {enc : ι → List A} {ok : ι → Prop} {spec : ι → A} (hi : ∀ i j, enc i = enc j → i = j) (i : ι) (h : ok i) : (Γ.add g (entry enc ok spec)).f g (enc i) = some (spec i) :=
  Tab.add_eq.trans (entry_eq hi i h)
open Classical in
noncomputable def entryH {ι : Type} (enc : ι → List A) (obs : ι → List Obj) (ok : ι → Prop) (spec : ι → A × List Obj × List Nat) : List A → List Obj → Option (A × List Obj × List Nat) := fun xs H =>
  if h : ∃ i, (enc i = xs ∧ obs i = H) ∧ ok i then some (spec (Classical.choose h)) else none
theorem entryH_ok {P : Program} {g : FuncId} {ι : Type} {enc : ι → List A} {obs : ι → List Obj} {ok : ι → Prop} {spec : ι → A × List Obj × List Nat} (h : ∀ i, ok i → CallH P g (enc i) (obs i) (spec i).1 (spec i).2.1 (spec i).2.2) :
    ∀ xs H r H' S, entryH enc obs ok spec xs H = some (r, H', S) → CallH P g xs H r H' S := fun xs H r H' S hr => by
  unfold entryH at hr
  split at hr
  · rename_i hx
    obtain ⟨⟨h1, h1'⟩, h2⟩ := Classical.choose_spec hx
    have hs := Option.some.inj hr
    have := h _ h2
    rw [h1, h1', hs] at this
    exact this
  · cases hr
theorem entryH_eq {ι : Type} {enc : ι → List A} {obs : ι → List Obj} {ok : ι → Prop} {spec : ι → A × List Obj × List Nat} (hi : ∀ i j, enc i = enc j → obs i = obs j → i = j) (i : ι) (h : ok i) : entryH enc obs ok spec (enc i) (obs i) = some (spec i) := by
  have hx : ∃ j, (enc j = enc i ∧ obs j = obs i) ∧ ok j := ⟨i, ⟨rfl, rfl⟩, h⟩
  unfold entryH
  rw [dif_pos hx]
  rw [hi _ _ (Classical.choose_spec hx).1.1 (Classical.choose_spec hx).1.2]
theorem Tab.addH_eq {Γ : Tab} {g : FuncId} {e : List A → List Obj → Option (A × List Obj × List Nat)} {xs : List A} {H : List Obj} : (Γ.addH g e).hp g xs H = e xs H := if_pos rfl
theorem Tab.addH_ne {Γ : Tab} {g h : FuncId} {e : List A → List Obj → Option (A × List Obj × List Nat)} {xs : List A} {H : List Obj} (hn : h ≠ g) : (Γ.addH g e).hp h xs H = Γ.hp h xs H := if_neg hn
theorem callA_emp {P : Program} {f : FuncId} {Post : A → Prop} (h1 : CallA P f [.emp true] Post) (h2 : CallA P f [.emp false] Post) : CallA P f [.slc []] Post := fun N w vs hN hr => by
  simp only [RepL, Rep] at hr
  obtain ⟨v, _, rfl, ⟨_, a, cap, rfl, _, _⟩, rfl⟩ := hr
  cases a with
  | none => exact h1 N w _ hN (by simp only [RepL, Rep]; exact ⟨_, _, rfl, ⟨none, cap, rfl, rfl⟩, rfl⟩)
  | some q => exact h2 N w _ hN (by simp only [RepL, Rep]; exact ⟨_, _, rfl, ⟨some q, cap, rfl, rfl⟩, rfl⟩)
attribute [go_sem] List.contains_nil List.contains_cons
theorem callable_of {P : Program} {f : FuncId} {fn : Func} (h1 : P.funcs[f]? = some fn) (h2 : fn.body.isNone = false) (h3 : (fn.name == "runtime.NumGoroutine") = false) : Callable P f := ⟨fn, h1, h2, h3⟩
theorem TabOK.ent {P : Program} {Γ : Tab} {g : FuncId} {fn : Func} {ι : Type} {enc : ι → List A} {ok : ι → Prop} {spec : ι → A} (h0 : TabOK P Γ) (h1 : P.funcs[g]? = some fn) (h2 : fn.body.isNone = false) (h3 : (fn.name == "runtime.NumGoroutine") = false) (h : ∀ i, ok i → CallA P g (enc i) (· = spec i)) :
    TabOK P (Γ.add g (entry enc ok spec)) := h0.add (callable_of h1 h2 h3) (entry_ok h)
@[go_sem] theorem isS2B_eq {P : Program} {s d : TypeId} : isS2B P s d = (tyStr P s && (tyElem P d).any (fun e => tyInt P e = some .u8)) := rfl
@[go_sem] theorem bne_str {a b : List UInt8} : (a != b) = !(a == b) := rfl
@[go_sem] theorem bne_bool {a b : Bool} : (a != b) = !(a == b) := rfl
@[go_sem] theorem bne_int {a b : Int} : (a != b) = !(a == b) := rfl
@[go_sem] theorem natCast_zero : ((0 : Nat) : Int) = 0 := rfl
attribute [go_sem] Int.cast_ofNat_Int
attribute [go_sem] Option.any_some Option.any_none decide_true decide_false ne_eq Nat.succ_ne_self Nat.one_ne_zero beq_true beq_false Nat.zero_add Int.toNat_zero List.drop_zero true_implies false_implies implies_true not_true_eq_false not_false_eq_true Option.getD Int.toNat_natCast Int.natCast_nonneg
@[go_sem] theorem tab0_fix : tab0.fix = fun _ => false := rfl
@[go_sem] theorem tab0_ords {n : Nat} : tab0.ords n = [] := rfl
theorem wrap_i64 {n : Int} (h : -9223372036854775808 ≤ n ∧ n < 9223372036854775808) : IntKind.i64.wrap n = n := by
  unfold IntKind.wrap; simp [IntKind.bits, IntKind.signed]; split <;> omega
theorem wrap_u64 {n : Int} (h : 0 ≤ n ∧ n < 18446744073709551616) : IntKind.u64.wrap n = n := by
  unfold IntKind.wrap; simp [IntKind.bits, IntKind.signed]; omega
theorem map_inj {α : Type} {f : α → A} (h : ∀ x y, f x = f y → x = y) : ∀ {l m : List α}, (l.map f = m.map f) = (l = m)
  | [], [] => by simp
  | [], _ :: _ => by simp
  | _ :: _, [] => by simp
  | x :: l, y :: m => by
    simp only [List.map_cons, List.cons.injEq, map_inj h]
    exact propext ⟨fun ⟨a, b⟩ => ⟨h _ _ a, b⟩, fun ⟨a, b⟩ => ⟨by rw [a], b⟩⟩
theorem list_of {α : Type} {f : α → A} {P : α → Prop} : ∀ {es : List A}, (∀ e ∈ es, ∃ a, e = f a ∧ P a) → ∃ l : List α, es = l.map f ∧ ∀ a ∈ l, P a
  | [], _ => ⟨[], rfl, by simp⟩
  | e :: es, h => by
    obtain ⟨a, rfl, ha⟩ := h e (by simp)
    obtain ⟨l, rfl, hl⟩ := list_of (es := es) fun x hx => h x (by simp [hx])
    exact ⟨a :: l, rfl, fun b hb => by
      rcases List.mem_cons.1 hb with rfl | hb
      · exact ha
      · exact hl b hb⟩
theorem maxLen_le : maxLen ≤ 9223372036854775807 := by decide
end Go.Abs
namespace Go.Abs
theorem setNth_last {x v : A} : ∀ {l : List A}, setNth (l ++ [x]) l.length v = l ++ [v]
  | [] => rfl
  | y :: l => by simp only [List.cons_append, List.length_cons, setNth, setNth_last]
theorem get_last {x : A} : ∀ {l : List A}, (l ++ [x])[l.length]? = some x
  | [] => rfl
  | y :: l => by simp [get_last]
open Go.RowKit
structure SortTurn (b : Nat) (D : List Value) (w w' : World) : Prop where
  os : w'.os = w.os
  tape : w'.tape = w.tape
  output : w'.output = w.output
  drawn : w.drawn ≤ w'.drawn
  size : w.heap.size ≤ w'.heap.size
  block : ∀ c, c < w.heap.size → c ≠ b → w'.heap[c]? = w.heap[c]?
  self : ∀ (cc : Array Value) (e : TypeId) (fr : Nat × Nat), w.heap[b]? = some (.cells cc e fr) → ∃ cc', w'.heap[b]? = some (.cells cc' e fr) ∧ cc'.size = cc.size
  cells : w'.rangeAt b 0 D
theorem callH_sorted {P : Program} {f g : FuncId} {k : Nat} {c : Bool} {es es' : List A} {D : List Value} (hk : 0 < k) (hD : ∀ E, RowRel E k es' D) (hp : A.pure.pureL es' = true) (h1 : ∀ u ∈ D, u.oneCell' = true) (hlen : es'.length = es.length)
    (hnil : es = [] → ∀ (w : World) (q : Option Addr) (cap : Nat), Calls P f #[.slice q 0 cap, .func (.func g) #[] #[]] w fun e w' => e = .returned (.tuple #[]) ∧ w' = w)
    (hcall : ∀ (E : Env) (b cap : Nat) (cc : Array Value) (e : TypeId) (fr : Nat × Nat), es ≠ [] → E.w.heap[b]? = some (.cells cc e fr) → Unfrozen k cc fr → RepE E k b 0 es → k * cap ≤ cc.size → es.length ≤ cap →
      Calls P f #[.slice (some ⟨b, 0, none⟩) es.length cap, .func (.func g) #[] #[]] E.w fun e w' => e = .returned (.tuple #[]) ∧ SortTurn b D E.w w') :
    CallH P f [.row 0 0 k es.length c, .fn g []] [.row k es] (.tup []) [.row k es'] [] := by
  intro N φ w vs hN hrel hfree hrep
  simp only [RepL] at hrep
  obtain ⟨v0, _, rfl, hv0, v1, _, rfl, hv1, rfl⟩ := hrep
  simp only [Rep, RepL] at hv1
  obtain ⟨us, rfl, rfl⟩ := hv1
  have hφl : φ.length = 1 := hrel.len
  have stay : ∀ (w' : World), w' = w → ∃ v φ', (Ending.returned (.tuple #[]) : Ending) = .returned v ∧ Rep (envOf N φ' w') (.tup []) v ∧ HeapRel N φ' [.row k es] w' ∧ TurnH φ w [] φ' w' ∧ 1 ≤ 1 := by
    rintro w' rfl
    exact ⟨_, φ, rfl, by simp [Rep, RepL], hrel, ⟨rfl, rfl, rfl, fun _ => Nat.le_refl _, Nat.le_refl _, fun _ _ _ => rfl, fun _ c _ fr h => ⟨c, fr, h, rfl⟩, fun n b k hn => .inr ⟨n, k, hn⟩, fun _ _ _ h => h⟩, Nat.le_refl _⟩
  have nilcase : es = [] → ∀ (q : Option Addr) (cap : Nat), Calls P f #[.slice q 0 cap, .func (.func g) #[] #[]] w fun e w' => ∃ v φ', e = .returned v ∧ Rep (envOf N φ' w') (.tup []) v ∧ HeapRel N φ' [.row k es'] w' ∧ TurnH φ w [] φ' w' ∧ [Obj.row k es].length ≤ [Obj.row k es'].length := by
    intro hes q cap
    have hes' : es' = es := by subst hes; exact List.length_eq_zero_iff.1 (by simpa using hlen)
    rw [hes']
    refine Calls.mono (hnil hes w q cap) ?_
    rintro e w' ⟨rfl, hw⟩
    exact stay w' hw
  by_cases hes : es = []
  · have hl0 : es.length = 0 := by rw [hes]; rfl
    simp only [Rep] at hv0
    rcases hv0 with ⟨o, _, _, _, _, q, rfl⟩ | ⟨b, cap, c', e', fr, hφ, rfl, hlc, _, hb, hfit⟩
    · exact nilcase hes q 0
    · rw [hl0]; exact nilcase hes _ cap
  · simp only [Rep] at hv0
    rcases hv0 with ⟨o, _, _, h0, _⟩ | ⟨b, cap, c', e', fr, hφ, rfl, hlc, _, hb, hfit⟩
    · exact absurd (List.length_eq_zero_iff.1 h0) hes
    · have hob := hrel.objs 0 (.row k es) (.loc b k) rfl hφ
      simp only [ObjRel] at hob
      obtain ⟨_, hpe, ⟨cc, ee, ffr, hcc, hunf⟩, hE⟩ := hob
      have hb' : w.heap[b]? = some (.cells c' e' fr) := hb
      have hcc' : w.heap[b]? = some (.cells cc ee ffr) := hcc
      rw [hb'] at hcc'
      simp only [Option.some.injEq, Go.Obj.cells.injEq] at hcc'
      obtain ⟨rfl, rfl, rfl⟩ := hcc'
      rw [Nat.zero_mul] at hfit ⊢
      refine Calls.mono (hcall (envOf N φ w) b cap c' e' fr hes hb' hunf hE (by omega) hlc) ?_
      rintro e w' ⟨rfl, hT⟩
      obtain ⟨cc', hcc', hsz⟩ := hT.self c' e' fr hb'
      have hwid : w'.heap.size ≥ w.heap.size := hT.size
      refine ⟨_, φ, rfl, by simp [Rep, RepL], ?_, ?_, Nat.le_refl _⟩
      · exact {
          len := by simpa using hφl
          objs := fun n o p ho hp' => by
            cases n with
            | succ n => simp [nthO] at ho
            | zero =>
              simp only [nthO, Option.some.injEq] at ho
              subst ho
              have hφ' : φ[0]? = some (Own.loc b k) := hφ
              rw [hφ'] at hp'
              obtain rfl := Option.some.inj hp'
              simp only [ObjRel]
              refine ⟨trivial, hp, ⟨cc', e', fr, hcc', fun j hj => hunf.1 j (by omega), fun hk hh => hunf.2 hk (by omega)⟩, ?_⟩
              exact RowRel.mem (hD (envOf N φ w')) hT.cells h1
          own := fun n b' k' hn => ⟨Nat.lt_of_lt_of_le (hrel.own n b' k' hn).1 hT.size, (hrel.own n b' k' hn).2⟩
          inj := hrel.inj }
      · exact {
          os := hT.os
          tape := hT.tape
          output := hT.output
          drawn := fun _ => hT.drawn
          size := hT.size
          block := fun b' hb' hno => hT.block b' hb' fun e => by subst e; exact hno 0 k hφ
          shape := fun b' c₁ e₁ fr₁ h₁ => by
            by_cases hbb : b' = b
            · subst hbb
              obtain ⟨c₂, h₂, h₃⟩ := hT.self c₁ e₁ fr₁ h₁
              exact ⟨c₂, fr₁, h₂, h₃⟩
            · have : b' < w.heap.size := (Array.getElem?_eq_some_iff.1 h₁).1
              exact ⟨c₁, fr₁, by rw [hT.block b' this hbb]; exact h₁, rfl⟩
          own := fun n b' k' hn => .inr ⟨n, k', hn⟩
          stay := fun _ _ _ h => h }
def encV : A → Value
  | .int k n => .int k n
  | .bool b => .bool b
  | .str s => .string ⟨s.toArray⟩
  | _ => undef
def scalar : A → Bool
  | .int _ _ => true
  | .bool _ => true
  | .str _ => true
  | _ => false
theorem rep_scalar {E : Env} {x : A} {v : Value} (h : scalar x = true) : Rep E x v ↔ v = encV x := by
  cases x <;> simp [scalar] at h <;> simp [Rep, encV]
theorem one_scalar {x : A} (h : scalar x = true) : (encV x).oneCell' = true := by
  cases x <;> simp [scalar] at h <;> rfl
theorem pure_scalar {x : A} (h : scalar x = true) : x.pure = true := by
  cases x <;> simp [scalar] at h <;> simp [A.pure]
theorem repL_scalars {E : Env} : ∀ {xs : List A}, (∀ x ∈ xs, scalar x = true) → RepL E xs (xs.map encV)
  | [], _ => by simp [RepL]
  | x :: xs, h => by
    simp only [List.map_cons, RepL]
    exact ⟨_, _, rfl, (rep_scalar (h x (by simp))).2 rfl, repL_scalars fun y hy => h y (by simp [hy])⟩
theorem pureL_scalars : ∀ {xs : List A}, (∀ x ∈ xs, scalar x = true) → A.pure.pureL xs = true
  | [], _ => rfl
  | x :: xs, h => by
    simp only [A.pure.pureL, Bool.and_eq_true]
    exact ⟨pure_scalar (h x (by simp)), pureL_scalars fun y hy => h y (by simp [hy])⟩
theorem flatten_get {α : Type} {k : Nat} (hk : 0 < k) : ∀ {ls : List (List α)}, (∀ l ∈ ls, l.length = k) → ∀ j : Nat, ls.flatten[j]? = (ls[j / k]?).bind fun l => l[j % k]?
  | [], _, j => by simp
  | l :: ls, h, j => by
    have hl := h l (by simp)
    rw [List.flatten_cons]
    by_cases hj : j < k
    · rw [List.getElem?_append_left (by omega), Nat.div_eq_of_lt hj, Nat.mod_eq_of_lt hj]; simp
    · rw [List.getElem?_append_right (by omega), flatten_get hk (fun x hx => h x (by simp [hx])) (j - l.length), hl]
      have h1 : j / k = (j - k) / k + 1 := by rw [Nat.div_eq_sub_div hk (by omega)]
      have h2 : j % k = (j - k) % k := by rw [Nat.mod_eq_sub_mod (by omega)]
      rw [h1, h2]; simp
theorem rowRel_flat {E : Env} {k : Nat} {β : Type} {enc : β → List A} (hk : ∀ x, (enc x).length = k) (hs : ∀ x, ∀ a ∈ enc x, scalar a = true) : ∀ l : List β, RowRel E k (l.map fun x => .agg (enc x)) ((l.map fun x => (enc x).map encV).flatten)
  | [] => by simp [RowRel]
  | x :: l => by
    have h1 : ((enc x).map encV).length = k := by rw [List.length_map, hk]
    simp only [List.map_cons, RowRel, A.cells, List.flatten_cons]
    refine ⟨hk x, by rw [List.length_append]; omega, ?_, ?_⟩
    · rw [List.take_append_of_le_length (by omega), List.take_of_length_le (by omega)]
      exact repL_scalars (hs x)
    · rw [List.drop_append_of_le_length (by omega), List.drop_of_length_le (by omega)]
      exact rowRel_flat hk hs l
theorem rowRel_one {E : Env} {β : Type} {enc : β → A} (hs : ∀ x, scalar (enc x) = true) : ∀ l : List β, RowRel E 1 (l.map enc) (l.map fun x => encV (enc x))
  | [] => by simp [RowRel]
  | x :: l => by
    have hc : (enc x).cells = [enc x] := by have := hs x; cases h : enc x <;> rw [h] at this <;> simp [scalar] at this <;> rfl
    simp only [List.map_cons, RowRel, hc]
    refine ⟨rfl, by simp, ?_, ?_⟩
    · simp only [List.take_succ_cons, List.take_zero, RepL]
      exact ⟨_, [], rfl, (rep_scalar (hs x)).2 rfl, rfl⟩
    · simpa using rowRel_one hs l
theorem pureL_map {β : Type} {f : β → A} (h : ∀ x, (f x).pure = true) : ∀ l : List β, A.pure.pureL (l.map f) = true
  | [] => rfl
  | x :: l => by simp [A.pure.pureL, h x, pureL_map h l]
open Go.Sort in
theorem grew_grow (dr : DR) {w w' : World} (g : Grew w w') : ∃ q os, w' = Sort.grow (w.drewN q) os := by
  refine ⟨w'.drawn - w.drawn, w'.heap.extract w.heap.size w'.heap.size, ?_⟩
  have hh : w.heap ++ w'.heap.extract w.heap.size w'.heap.size = w'.heap := by
    have hsz := g.size
    apply Array.ext_getElem?
    intro i
    by_cases hi : i < w.heap.size
    · rw [Array.getElem?_append_left hi, g.block i hi]
    · rw [Array.getElem?_append_right (by omega), Array.getElem?_extract]
      by_cases h2 : i < w'.heap.size
      · rw [if_pos (by omega), show w.heap.size + (i - w.heap.size) = i by omega]
      · rw [if_neg (by omega), Array.getElem?_eq_none (by omega)]
  have hd := g.drawn dr
  unfold Sort.grow World.drewN
  rw [show w.drawn + (w'.drawn - w.drawn) = w'.drawn by omega]
  obtain ⟨heap, tape, drawn, os, output⟩ := w'
  have h1 := g.os; have h2 := g.tape; have h3 := g.output
  simp only at h1 h2 h3 hh ⊢
  rw [hh, h1, h2, h3]
open Go.Sort in
theorem turn_of_put {w : World} {b n : Nat} {F F0 : Array Value} {os : Array Go.Obj} (h0 : Holds id w b 0 F0) (hs : F.size = F0.size) (hb : b < w.heap.size) : SortTurn b F.toList w (Sort.grow (putRow id (Sort.ahead w n) b 0 F) os) where
  os := rfl
  tape := rfl
  output := rfl
  drawn := Nat.le_add_right _ _
  size := by
    show w.heap.size ≤ ((w.heap.modify b _) ++ os).size
    simp
  block := fun c hc hne => by
    show ((w.heap.modify b _) ++ os)[c]? = _
    rw [Array.getElem?_append_left (by simpa using hc), Array.getElem?_modify, if_neg (Ne.symm hne)]
  self := fun cc e fr hcc => by
    refine ⟨putCells id 0 F cc, ?_, by simp [putCells]⟩
    show ((w.heap.modify b _) ++ os)[b]? = _
    rw [Array.getElem?_append_left (by simpa using hb), Array.getElem?_modify, if_pos rfl, hcc]
    rfl
  cells := fun j v hj => by
    have hjF : j < F.size := by
      have := (List.getElem?_eq_some_iff.1 hj).1
      simpa using this
    have h1 := cell?_putRow id (Sort.ahead w n) b 0 F0 F (holds_ahead id w n b 0 F0 h0) hs j hjF
    have h2 : (Sort.grow (putRow id (Sort.ahead w n) b 0 F) os).cell? ⟨b, 0 + j, none⟩ = (putRow id (Sort.ahead w n) b 0 F).cell? ⟨b, 0 + j, none⟩ := by
      unfold World.cell?
      show (match ((putRow id (Sort.ahead w n) b 0 F).heap ++ os)[b]? with | some (.cells c _ _) => _ | _ => none) = _
      rw [Array.getElem?_append_left (by simpa using hb)]
      rfl
    rw [h2, h1]
    have : F[j]! = v := by
      rw [getElem!_pos F j hjF]
      have := (List.getElem?_eq_some_iff.1 hj).2
      simpa using this
    rw [this]; rfl
theorem unfrozen_at {w : World} {k b : Nat} {c : Array Value} {e : TypeId} {fr : Nat × Nat} (hb : w.heap[b]? = some (.cells c e fr)) (hf : Unfrozen k c fr) {j : Nat} (hj : j < c.size) : w.frozen? ⟨b, j, none⟩ = false := by
  have := (there_of (w := w) (b := b) (off := j) (n := 1) hb hf (by omega) 0 (by omega)).2
  simpa using this
noncomputable def sortL {β : Type} [Inhabited β] (cf : β → β → Int) (l : List β) : List β := (Sort.pdq (Go.Proofs.ltOf cf) l.toArray 0 l.toArray.size (Lib.bitLen l.toArray.size) true true).toList
theorem sortL_spec {β : Type} [Inhabited β] {cf : β → β → Int} (hO : Sort.SWO (Go.Proofs.ltOf cf)) (l : List β) : (sortL cf l).Perm l ∧ (sortL cf l).Pairwise (fun x y => ¬ cf y x < 0) := by
  obtain ⟨⟨h1, _, h3⟩, h4⟩ := Sort.pdq_sorts (Go.Proofs.ltOf cf) hO l.toArray 0 l.toArray.size (Lib.bitLen l.toArray.size) true true (Nat.zero_le _) (Nat.le_refl _) (Or.inl rfl)
  refine ⟨?_, ?_⟩
  · unfold sortL
    have e : ∀ d : Array β, d.size = l.toArray.size → d.extract 0 l.toArray.size = d := fun d hd => by rw [← hd]; simp
    rw [e _ h1, e _ rfl] at h3
    simpa using h3
  · unfold sortL
    rw [List.pairwise_iff_getElem]
    intro i j hi hj hij
    have hj' : j < l.toArray.size := by rw [← h1]; simpa using hj
    have := h4 i j (Nat.zero_le _) hij hj'
    have hi2 : i < (Sort.pdq (Go.Proofs.ltOf cf) l.toArray 0 l.toArray.size (Lib.bitLen l.toArray.size) true true).size := by simpa using hi
    have hj2 : j < (Sort.pdq (Go.Proofs.ltOf cf) l.toArray 0 l.toArray.size (Lib.bitLen l.toArray.size) true true).size := by simpa using hj
    rw [getElem!_pos _ i hi2, getElem!_pos _ j hj2] at this
    simpa [Go.Proofs.ltOf] using this
open Go.Shelf Go.Lib Go.Sort Go.Proofs in
/-- slices.SortFunc of structs, by a function that captures nothing. -/
theorem sort_struct (dr : DR) {P : Program} {ρ : Ren} {β : Type} [Inhabited β] (L : SlLaysF0.n6 P ρ) {k : Nat} (hk0 : 0 < k) (aE : ∀ w, (isAgg (ρ.t 24)).run P w = .ok true w) (zE : ∀ w, (Go.sizeOf (ρ.t 24)).run P w = .ok k w) (enc : β → List A) (hk : ∀ x, (enc x).length = k) (hs : ∀ x, ∀ a ∈ enc x, scalar a = true)
    (cf : β → β → Int) (hO : SWO (ltOf cf)) {g : FuncId} (hg : Callable P g) (hcmp : ∀ x y, CallA P g [.agg (enc x), .agg (enc y)] (· = .int .i64 (cf x y))) (l : List β) (hsz : l.length < 4611686018427387904) (c : Bool) :
    CallH P (ρ.f 6) [.row 0 0 k l.length c, .fn g []] [.row k (l.map fun x => .agg (enc x))] (.tup []) [.row k ((sortL cf l).map fun x => .agg (enc x))] [] := by
  have hperm := (sortL_spec hO l).1
  have hl1 : (l.map fun x => A.agg (enc x)).length = l.length := List.length_map _
  have hle : ∀ x, ((enc x).map encV).length = k := fun x => by rw [List.length_map, hk]
  have hone : ∀ x, ∀ v ∈ (enc x).map encV, v.oneCell' = true := fun x v hv => by
    obtain ⟨a, ha, rfl⟩ := List.mem_map.1 hv
    exact one_scalar (hs x a ha)
  have := callH_sorted (P := P) (f := ρ.f 6) (g := g) (k := k) (c := c) (es := l.map fun x => A.agg (enc x)) (es' := (sortL cf l).map fun x => A.agg (enc x)) (D := ((sortL cf l).map fun x => (enc x).map encV).flatten) hk0
    (fun E => rowRel_flat hk hs _) (pureL_map (fun x => by simp only [A.pure]; exact pureL_scalars (hs x)) _) (fun u hu => by
      obtain ⟨ys, hys, hu⟩ := List.mem_flatten.1 hu
      obtain ⟨x, _, rfl⟩ := List.mem_map.1 hys
      exact hone x u hu) (by rw [List.length_map, List.length_map]; exact hperm.length_eq)
    (fun _ w q cap => AnyF.slices_SortFunc_none L q cap _ w) ?_
  · rw [hl1] at this; exact this
  intro E b cap cc e fr hne hb hunf hE hfit hlc
  rw [hl1] at hlc ⊢
  have hbs : b < E.w.heap.size := (Array.getElem?_eq_some_iff.1 hb).1
  have hmul : l.length * k ≤ cc.size := Nat.le_trans (by rw [Nat.mul_comm]; exact Nat.mul_le_mul_left _ hlc) hfit
  have hH : HoldsK (fun x => (enc x).map encV) k E.w b 0 l.toArray := by
    intro j hj
    rw [size_flatK] at hj
    have hj' : j < l.length * k := by simpa using hj
    have hq : j / k < l.length := (Nat.div_lt_iff_lt_mul hk0).2 hj'
    have hr : j % k < k := Nat.mod_lt _ hk0
    refine ⟨?_, by rw [Nat.zero_add]; exact unfrozen_at hb hunf (by omega)⟩
    obtain ⟨_, hM⟩ := RepE_iff.1 hE (j / k) (.agg (enc l[j / k])) (by simp [hq])
    have hrl : j % k < (enc l[j / k]).length := by rw [hk]; exact hr
    obtain ⟨v, hv, _, hrep⟩ := RepM_iff.1 hM (j % k) _ (List.getElem?_eq_getElem (by simpa [A.cells] using hrl))
    have hv' := (rep_scalar (hs _ _ (List.getElem_mem _))).1 hrep
    rw [show 0 + j / k * k + j % k = 0 + j by rw [Nat.zero_add, Nat.zero_add, Nat.mul_comm]; exact Nat.div_add_mod j k] at hv
    rw [hv, hv', get_flatK _ _ _ _ hj]
    simp only [id]
    have e1 : l.toArray[j / k]! = l[j / k] := by rw [getElem!_pos _ _ (by simpa using hq)]; simp
    rw [e1, getElem!_pos _ _ (by rw [List.length_map]; exact hrl)]
    simp only [A.cells, List.getElem_map]
    rfl
  have hcl : CmpLays P g #[] (fun x => (enc x).map encV) k cf b 0 l.toArray.size E.w := by
    intro m os dk hdk x y
    have hrep : RepL ⟨fun _ => False, [], sortWorldK (fun x => (enc x).map encV) k E.w b 0 m dk os⟩ [.agg (enc x), .agg (enc y)] [.agg ((enc x).map encV).toArray, .agg ((enc y).map encV).toArray] := by
      simp only [RepL, Rep]
      exact ⟨_, _, rfl, ⟨_, rfl, repL_scalars (hs x), hone x⟩, _, _, rfl, ⟨_, rfl, repL_scalars (hs y), hone y⟩, rfl⟩
    refine Calls.mono (hcmp x y (fun _ => False) _ _ (fun b h => h.elim) hrep) ?_
    rintro e w' ⟨v, r, rfl, rfl, hr, hgr⟩
    simp only [Rep] at hr
    subst hr
    exact ⟨rfl, grew_grow dr hgr⟩
  have hmain := AnyQ.slices_SortFunc_eq L k aE zE (fun x => (enc x).map encV) hle hone cf hO g #[] b 0 cap l.toArray E.w (fun args w => run_callFunc hg args w) hcl hH hbs (by simpa using hsz)
  have hpsz : (pdq (ltOf cf) l.toArray 0 l.toArray.size (Lib.bitLen l.toArray.size) true true).size = l.toArray.size := (pdq_sorts (ltOf cf) hO l.toArray 0 l.toArray.size (Lib.bitLen l.toArray.size) true true (Nat.zero_le _) (Nat.le_refl _) (Or.inl rfl)).1.1
  have hsl : l.toArray.size = l.length := by simp
  rw [hsl] at hmain
  refine Calls.mono hmain ?_
  rintro e w' ⟨rfl, n, os, rfl⟩
  refine ⟨rfl, ?_⟩
  have hflat : ((sortL cf l).map fun x => (enc x).map encV).flatten = (flatK (fun x => (enc x).map encV) k (pdq (ltOf cf) l.toArray 0 l.length (Lib.bitLen l.length) true true)).toList := by
    rw [hsl] at hpsz
    have hsl2 : (sortL cf l) = (pdq (ltOf cf) l.toArray 0 l.length (Lib.bitLen l.length) true true).toList := by unfold sortL; rw [hsl]
    rw [hsl2]
    generalize pdq (ltOf cf) l.toArray 0 l.length (Lib.bitLen l.length) true true = d at hpsz ⊢
    apply List.ext_getElem?
    intro j
    rw [flatten_get hk0 (fun ys hys => by obtain ⟨x, _, rfl⟩ := List.mem_map.1 hys; exact hle x)]
    by_cases hj : j < d.size * k
    · have hq : j / k < d.size := (Nat.div_lt_iff_lt_mul hk0).2 hj
      have hr : j % k < k := Nat.mod_lt _ hk0
      have e1 : (flatK (fun x => (enc x).map encV) k d).toList[j]? = some ((flatK (fun x => (enc x).map encV) k d)[j]!) := by
        rw [getElem!_pos _ j (by rw [size_flatK]; exact hj)]; simp [hj]
      rw [e1, get_flatK _ _ _ _ hj]
      rw [getElem!_pos d _ hq]
      have hq' : j / k < d.toList.length := by simpa using hq
      simp only [List.getElem?_map, List.getElem?_eq_getElem hq', Option.map_some, Option.bind_some]
      rw [getElem!_pos _ _ (by simp only [List.length_map, hk]; exact hr)]
      rw [List.getElem?_eq_getElem (by simp only [List.length_map, hk]; exact hr)]
      simp
    · have hq : d.size ≤ j / k := by
        rcases Nat.lt_or_ge (j / k) d.size with h | h
        · exact absurd ((Nat.div_lt_iff_lt_mul hk0).1 h) hj
        · exact h
      have e1 : (flatK (fun x => (enc x).map encV) k d).toList[j]? = none := by
        rw [List.getElem?_eq_none]; rw [Array.length_toList, size_flatK]; omega
      rw [e1]
      simp [hq]
  rw [hflat]
  unfold sortWorldK putRowK
  exact turn_of_put hH (by rw [size_flatK, size_flatK]; rw [hsl] at hpsz; rw [hpsz, hsl]) hbs
open Go.Shelf Go.Lib Go.Sort Go.Proofs in
/-- slices.SortFunc of scalars. -/
theorem sort_scalar (dr : DR) {P : Program} {ρ : Ren} {β : Type} [Inhabited β] (L : SlLaysF.n6 P ρ) (L0 : SlLaysF0.n6 P ρ) (enc : β → A) (hs : ∀ x, scalar (enc x) = true)
    (cf : β → β → Int) (hO : SWO (ltOf cf)) {g : FuncId} (hg : Callable P g) (hcmp : ∀ x y, CallA P g [enc x, enc y] (· = .int .i64 (cf x y))) (l : List β) (hsz : l.length < 4611686018427387904) (c : Bool) :
    CallH P (ρ.f 6) [.row 0 0 1 l.length c, .fn g []] [.row 1 (l.map enc)] (.tup []) [.row 1 ((sortL cf l).map enc)] [] := by
  have hperm := (sortL_spec hO l).1
  have hl1 : (l.map enc).length = l.length := List.length_map _
  have hcell : ∀ x, (enc x).cells = [enc x] := fun x => by have := hs x; cases h : enc x <;> rw [h] at this <;> simp [scalar] at this <;> rfl
  have := callH_sorted (P := P) (f := ρ.f 6) (g := g) (k := 1) (c := c) (es := l.map enc) (es' := (sortL cf l).map enc) (D := (sortL cf l).map fun x => encV (enc x)) (by omega)
    (fun E => rowRel_one hs _) (pureL_map (fun x => pure_scalar (hs x)) _) (fun u hu => by
      obtain ⟨x, _, rfl⟩ := List.mem_map.1 hu
      exact one_scalar (hs x)) (by rw [List.length_map, List.length_map]; exact hperm.length_eq)
    (fun _ w q cap => AnyF.slices_SortFunc_none L0 q cap _ w) ?_
  · rw [hl1] at this; exact this
  intro E b cap cc e fr hne hb hunf hE hfit hlc
  rw [hl1] at hlc ⊢
  have hbs : b < E.w.heap.size := (Array.getElem?_eq_some_iff.1 hb).1
  have hH : Holds (fun x => encV (enc x)) E.w b 0 l.toArray := by
    intro j hj
    have hj' : j < l.length := by simpa using hj
    refine ⟨?_, by rw [Nat.zero_add]; exact unfrozen_at hb hunf (by omega)⟩
    obtain ⟨_, hM⟩ := RepE_iff.1 hE j (enc l[j]) (by simp [hj'])
    rw [hcell] at hM
    obtain ⟨v, hv, _, hrep⟩ := RepM_one.1 hM
    have hv' := (rep_scalar (hs _)).1 hrep
    rw [Nat.mul_one] at hv
    rw [hv, hv', getElem!_pos l.toArray j hj]; simp
  have hcl : CmpLays1 P g #[] (fun x => encV (enc x)) cf b 0 l.toArray.size E.w := by
    intro m os dk hdk x y
    have hrep : RepL ⟨fun _ => False, [], sortWorld (fun x => encV (enc x)) E.w b 0 m dk os⟩ [enc x, enc y] [encV (enc x), encV (enc y)] := by
      simp only [RepL]
      exact ⟨_, _, rfl, (rep_scalar (hs x)).2 rfl, _, _, rfl, (rep_scalar (hs y)).2 rfl, rfl⟩
    refine Calls.mono (hcmp x y (fun _ => False) _ _ (fun b h => h.elim) hrep) ?_
    rintro e w' ⟨v, r, rfl, rfl, hr, hgr⟩
    simp only [Rep] at hr
    subst hr
    exact ⟨rfl, grew_grow dr hgr⟩
  have hmain := Any.slices_SortFunc_eq L (fun x => encV (enc x)) (fun x => one_scalar (hs x)) cf hO g #[] b 0 cap l.toArray E.w (fun args w => run_callFunc hg args w) hcl hH hbs (by simpa using hsz)
  have hpsz : (pdq (ltOf cf) l.toArray 0 l.toArray.size (Lib.bitLen l.toArray.size) true true).size = l.toArray.size := (pdq_sorts (ltOf cf) hO l.toArray 0 l.toArray.size (Lib.bitLen l.toArray.size) true true (Nat.zero_le _) (Nat.le_refl _) (Or.inl rfl)).1.1
  have hsl : l.toArray.size = l.length := by simp
  rw [hsl] at hmain hpsz
  refine Calls.mono hmain ?_
  rintro e w' ⟨rfl, n, os, rfl⟩
  refine ⟨rfl, ?_⟩
  have hsl2 : (sortL cf l) = (pdq (ltOf cf) l.toArray 0 l.length (Lib.bitLen l.length) true true).toList := by unfold sortL; rw [hsl]
  rw [hsl2]
  generalize pdq (ltOf cf) l.toArray 0 l.length (Lib.bitLen l.length) true true = d at hpsz ⊢
  have hput : ∀ (w : World) (d : Array β), putRow (fun x => encV (enc x)) w b 0 d = putRow id w b 0 (d.map fun x => encV (enc x)) := fun w d => by
    unfold putRow
    congr 1
    funext c
    unfold putCells
    apply Array.ext
    · simp
    · intro i h1 h2
      simp only [Array.getElem_mapIdx, Array.size_map, Nat.zero_le, true_and, Nat.zero_add, Nat.sub_zero, id]
      split
      · rename_i hi
        rw [getElem!_pos d i hi, getElem!_pos _ i (by simpa using hi)]; simp
      · rfl
  have hH' : Holds id E.w b 0 (l.toArray.map fun x => encV (enc x)) := fun j hj => by
    have hj' : j < l.toArray.size := by simpa using hj
    obtain ⟨h1, h2⟩ := hH j hj'
    refine ⟨?_, h2⟩
    rw [h1, getElem!_pos l.toArray j hj', getElem!_pos (l.toArray.map fun x => encV (enc x)) j hj]; simp
  have he : (d.toList.map fun x => encV (enc x)) = (d.map fun x => encV (enc x)).toList := by simp
  rw [he]
  unfold sortWorld
  rw [hput]
  exact turn_of_put hH' (by simp [hpsz]) hbs
end Go.Abs
namespace Go.Proofs.Yteconeampdidaaa
open Go.Abs Go.RowKit Go.Shelf Go.Lib
set_option linter.unusedSimpArgs false
set_option linter.unusedVariables false
set_option maxRecDepth 100000
set_option maxHeartbeats 4000000
abbrev eE : TypeId := 64
abbrev eS : TypeId := 47
def zeroE : Value := .agg #[.int .i64 0, .string ⟨#[]⟩]
theorem info_e : (Try.prog.info? eE).map (fun i => (i.zero, i.size, i.bytes)) = some (some zeroE, 2, 24) := by kernel_rfl
theorem und_s : Try.prog.underlying eS = some (.slice eE) := by kernel_rfl
theorem run_copy_cells2 {P : Program} (w : World) (dT sT ty elem : TypeId) (b o dLen dCap : Nat) (a : Addr) (sLen sCap : Nat) (cs : List Value)
    (hu : P.underlying dT = some (.slice elem)) (hs : (P.info? elem).map (·.size) = some 2) (hn : cs.length = Nat.min sLen dLen * 2)
    (hsrc : ∀ j v, cs[j]? = some v → w.cell? (a.add j) = some v) (hc : ∀ j, j < cs.length → (w.cell? ⟨b, o + j, none⟩).isSome = true) (hf : ∀ j, j < cs.length → w.frozen? ⟨b, o + j, none⟩ = false) (h1 : ∀ v ∈ cs, v.oneCell' = true) :
    (Builtin.copy_ #[dT, sT] ty #[.slice (some ⟨b, o, none⟩) dLen dCap, .slice (some a) sLen sCap]).run P w = .ok (goInt (Nat.min sLen dLen)) (w.setCells b o cs) := by
  have hl := run_loadCells_list (P := P) w a cs hsrc
  have hst := run_storeCells_cells (P := P) b o cs 0 w (by simpa using hc) (by simpa using hf) h1
  cases hq : P.info? elem with
  | none => simp [hq] at hs
  | some i =>
    have hi : i.size = 2 := by simpa [hq] using hs
    simp [Builtin.copy_, run_underlying hu, Builtin.lenOf, Builtin.firstCells, sizeOf, typeInfo, hq, hi, ← hn, hl, hst]
theorem overlaps_apart {P : Program} (w : World) (tS tR e : TypeId) (ht : P.underlying tS = some (.slice e)) (size : Nat) (hz : ∀ w, (Go.sizeOf e).run P w = .ok size w)
    (a b : Addr) (la ca lb cb : Nat) (hne : a.block ≠ b.block) (tA tB : TypeId) (kA kB : Nat)
    (hsa : w.shape? a.block = some (tA, kA)) (hsb : w.shape? b.block = some (tB, kB)) (hkA : kA ≠ 0)
    (hfb : w.frozen? b = false) (hfe : w.frozen? { block := b.block, off := kB } = false) :
    (Extern.SlicesOverlaps.overlaps #[tS, tS] #[tR] #[.slice (some a) la ca, .slice (some b) lb cb]).run P w = .ok (.bool false) w := by
  have hnb : (a.block != b.block) = true := by simpa using hne
  have hnb' : (a.block == b.block) = false := by simpa using hne
  change Sem.run P (α := Value) (bind (m := Sem) _ _) w = _
  by_cases h0 : la = 0 ∨ lb = 0 ∨ size = 0
  · simp [run_underlying ht, hz, h0]
  · cases kA with
    | zero => exact absurd rfl hkA
    | succ kA =>
      cases hfa : w.frozen? a <;> cases hfk : w.frozen? { block := a.block, off := kA + 1 } <;>
        simp [run_underlying ht, hz, h0, hnb, hnb', frozen, noView, viewAt, mayBeOne, stringish, shape, Sem.run, hsa, hsb, hfb, hfe, hfa, hfk]
theorem ins_end_room (b n c vb vo vc : Nat) (us : List Value) (w : World) (hroom : n + 1 ≤ c) (hul : us.length = 2)
    (hsp : ∀ j, j < 2 → (w.cell? ⟨b, n * 2 + j, none⟩).isSome = true) (hfz : ∀ j, j < 2 → w.frozen? ⟨b, n * 2 + j, none⟩ = false)
    (hus : ∀ j v, us[j]? = some v → w.cell? ⟨vb, vo + j, none⟩ = some v) (h1u : ∀ v ∈ us, v.oneCell' = true) :
    Calls Try.prog 30 #[.slice (some ⟨b, 0, none⟩) n c, .int .i64 n, .slice (some ⟨vb, vo, none⟩) 1 vc] w fun e w' =>
      e = .returned (.slice (some ⟨b, 0, none⟩) (n + 1) c) ∧ w' = w.setCells b (n * 2) us := by
  obtain ⟨i0, hi0, hz0, hzs, hzb⟩ := info_parts info_e
  have hsrc : Src Try.prog i0.size eS (.slice (some ⟨vb, vo, none⟩) 1 vc) 1 us w := by
    rw [hzs]
    exact Src.ofSlice w und_s ⟨vb, vo, none⟩ 1 vc us (by omega) (fun j u hj => by rw [Addr.add_lit]; exact hus j u hj) h1u
  go_enter Try.func30, Try.ntmps30
  go_wp2_with (at_builtin; refine wpList_append_room_src _ rfl _ _ eS eS rfl eE i0 und_s hi0 b 0 n c rfl _ rfl 1 us hsrc hroom (by rw [hul, hzs, Nat.zero_add]; exact hsp) (by rw [hul, hzs, Nat.zero_add]; exact hfz) ?_)
  go_ret
  exact ⟨rfl, rfl⟩
theorem ins_end_grow (base : Option Addr) (n c vb vo vc : Nat) (cs us : List Value) (w : World) (hnc : n ≤ c) (hroom : c < n + 1) (hbig : (n + 1) * 24 ≤ 140737488355328) (Z : Array Value) (hZ : zeroE.cells = Z)
    (hcl : cs.length = n * 2) (hul : us.length = 2) (hnil : base = none → n = 0)
    (hcs : ∀ a, base = some a → ∀ j v, cs[j]? = some v → w.cell? (a.add j) = some v)
    (hus : ∀ j v, us[j]? = some v → w.cell? ⟨vb, vo + j, none⟩ = some v) (h1u : ∀ v ∈ us, v.oneCell' = true) :
    Calls Try.prog 30 #[.slice base n c, .int .i64 n, .slice (some ⟨vb, vo, none⟩) 1 vc] w fun e w' =>
      e = .returned (.slice (some ⟨w.heap.size, 0, none⟩) (n + 1) (grownCap w (n + 1) c eE)) ∧
      w' = w.drew.alloc (.cells ((cs ++ us).toArray ++ Builtin.zeroCells Z (grownCap w (n + 1) c eE - (n + 1))) eE) := by
  obtain ⟨i0, hi0, hz0, hzs, hzb⟩ := info_parts info_e
  have hsrc : Src Try.prog i0.size eS (.slice (some ⟨vb, vo, none⟩) 1 vc) 1 us w := by
    rw [hzs]
    exact Src.ofSlice w und_s ⟨vb, vo, none⟩ 1 vc us (by omega) (fun j u hj => by rw [Addr.add_lit]; exact hus j u hj) h1u
  have hold : (Builtin.firstCells i0.size n (.slice base n c)).run Try.prog w.drew = .ok cs.toArray w.drew := by
    rw [hzs]
    cases base with
    | none =>
      have h0 := hnil rfl
      subst h0
      have e0 : cs = [] := List.length_eq_zero_iff.1 (by omega)
      rw [e0]
      exact run_firstCells_none w.drew 2 0 0 c
    | some a => exact run_firstCells_some w.drew 2 n a n c cs hcl (fun j v hj => hcs a rfl j v hj)
  have hrun : ∀ ty, (Builtin.append_ #[eS, eS] ty #[.slice base n c, .slice (some ⟨vb, vo, none⟩) 1 vc]).run Try.prog w = _ := fun ty =>
    run_append_grow_src w eS eS ty eE i0 _ und_s hi0 hz0 base n c cs hold _ 1 us hsrc hroom (by omega) (by rw [hzb]; exact growslice_fits hroom hbig)
  simp only [hZ] at hrun
  clear hZ
  go_enter Try.func30, Try.ntmps30
  cases base with
  | none =>
    have h0 := hnil rfl
    subst h0
    go_wp2_with (at_builtin; refine Lib.wpList_append_run _ rfl _ _ _ _ rfl _ _ rfl rfl _ _ (hrun _) ?_)
    go_ret
    exact ⟨rfl, rfl⟩
  | some a =>
    obtain ⟨ab, ao, asp⟩ := a
    go_wp2_with (at_builtin; refine Lib.wpList_append_run _ rfl _ _ _ _ rfl _ _ rfl rfl _ _ (hrun _) ?_)
    all_goals (go_ret; exact ⟨rfl, rfl⟩)
theorem ins_shift (b n c i vb vo vc : Nat) (cs us : List Value) (w : World) (hi : i < n) (hn63 : n ≤ 1000000) (hroom : n + 1 ≤ c) (hvb : vb ≠ b)
    (hcl : cs.length = n * 2) (hul : us.length = 2)
    (hcs : ∀ j v, cs[j]? = some v → w.cell? ⟨b, j, none⟩ = some v) (hsp : ∀ j, j < (n + 1) * 2 → (w.cell? ⟨b, j, none⟩).isSome = true) (hfz : ∀ j, j < (n + 1) * 2 → w.frozen? ⟨b, j, none⟩ = false)
    (hus : ∀ j v, us[j]? = some v → w.cell? ⟨vb, vo + j, none⟩ = some v) (h1c : ∀ v ∈ cs, v.oneCell' = true) (h1u : ∀ v ∈ us, v.oneCell' = true)
    (tA tB : TypeId) (kA kB : Nat) (hsa : w.shape? vb = some (tA, kA)) (hsb : w.shape? b = some (tB, kB)) (hkA : kA ≠ 0) (hfe : w.frozen? ⟨b, kB, none⟩ = false) :
    Calls Try.prog 30 #[.slice (some ⟨b, 0, none⟩) n c, .int .i64 i, .slice (some ⟨vb, vo, none⟩) 1 vc] w fun e w' =>
      e = .returned (.slice (some ⟨b, 0, none⟩) (n + 1) c) ∧ w' = (w.drew.setCells b ((i + 1) * 2) (cs.drop (i * 2))).setCells b (i * 2) us := by
  obtain ⟨i0, hi0, hz0, hzs, hzb⟩ := info_parts info_e
  have hz2 : ¬ ((i : Int) = (n : Int)) := by omega
  have hsz : (Try.prog.info? eE).map (·.size) = some 2 := by rw [hi0]; simp [hzs]
  have hov : ∀ lb cb, (callFunc 43 #[.slice (some ⟨vb, vo, none⟩) 1 vc, .slice (some ⟨b, (i + 1) * 2, none⟩) lb cb]).run Try.prog w = .ok (.value (.bool false)) w := fun lb cb => by
    rw [run_callFunc_extern Try.func43 (by kernel_rfl) (by kernel_rfl) (by kernel_rfl) (e := Extern.SlicesOverlaps.overlaps #[eS, eS] #[4]) (by kernel_rfl),
      overlaps_apart w eS 4 eE und_s 2 (fun w => by simp [sizeOf, typeInfo, hi0, hzs, Sem.run]) ⟨vb, vo, none⟩ ⟨b, (i + 1) * 2, none⟩ 1 vc lb cb hvb tA tB kA kB hsa hsb hkA (hfz _ (by omega)) hfe]
    rfl
  have hdl : (cs.drop (i * 2)).length = (n - i) * 2 := by rw [List.length_drop, hcl]; omega
  have hb1 : (0 : Int) ≤ (i : Int) + 1 := by omega
  have htn : ((i : Int) + 1).toNat = i + 1 := by omega
  have hb2 : ¬ (c = i + 1) := by omega
  have hb3 : (i : Int) ≤ (n : Int) + 1 := by omega
  have hb4 : ¬ (c = i) := by omega
  have hin : i ≤ n := by omega
  have hin1 : i ≤ n + 1 := by omega
  have hw1 : IntKind.i64.wrap ((i : Int) + 1) = (i : Int) + 1 := by rw [IntKind.wrap_i64]; omega
  have hcp1 : ∀ ty dc sc, (Builtin.copy_ #[eS, eS] ty #[.slice (some ⟨b, (i + 1) * 2, none⟩) (n + 1 - (i + 1)) dc, .slice (some ⟨b, i * 2, none⟩) (n + 1 - i) sc]).run Try.prog w.drew = .ok (goInt (Nat.min (n + 1 - i) (n + 1 - (i + 1)))) (w.drew.setCells b ((i + 1) * 2) (cs.drop (i * 2))) := fun ty dc sc =>
    run_copy_cells2 w.drew _ _ ty eE b ((i + 1) * 2) (n + 1 - (i + 1)) dc ⟨b, i * 2, none⟩ (n + 1 - i) sc (cs.drop (i * 2)) und_s hsz (by rw [hdl]; simp only [Nat.min_def]; split <;> omega)
      (fun j v hj => by rw [Addr.add_lit]; exact hcs (i * 2 + j) v (by rwa [List.getElem?_drop] at hj))
      (fun j hj => hsp ((i + 1) * 2 + j) (by rw [hdl] at hj; omega)) (fun j hj => hfz ((i + 1) * 2 + j) (by rw [hdl] at hj; omega)) (fun v hv => h1c v (List.mem_of_mem_drop hv))
  obtain ⟨W1, hW1⟩ : ∃ W1, W1 = w.drew.setCells b ((i + 1) * 2) (cs.drop (i * 2)) := ⟨_, rfl⟩
  have hsp1 : ∀ k, k < (n + 1) * 2 → (W1.cell? ⟨b, k, none⟩).isSome = true := fun k hk => by
    rw [hW1]
    exact isSome_setCells b _ _ w.drew (fun j hj => hsp ((i + 1) * 2 + j) (by rw [hdl] at hj; omega)) _ (hsp k hk)
  have hcp2 : ∀ (W : World), (∀ x, W.cell? x = W1.cell? x) → (∀ x, W.frozen? x = W1.frozen? x) → ∀ ty dc, (Builtin.copy_ #[eS, eS] ty #[.slice (some ⟨b, i * 2, none⟩) (n + 1 - i) dc, .slice (some ⟨vb, vo, none⟩) 1 vc]).run Try.prog W = .ok (goInt (Nat.min 1 (n + 1 - i))) (W.setCells b (i * 2) us) := fun W hWc hWf ty dc =>
    run_copy_cells2 W _ _ ty eE b (i * 2) (n + 1 - i) dc ⟨vb, vo, none⟩ 1 vc us und_s hsz (by rw [hul]; simp only [Nat.min_def]; split <;> omega)
      (fun j v hj => by
        rw [Addr.add_lit, hWc, hW1, World.cell?_setCells_out b _ _ _ _ (fun h _ => absurd h hvb)]
        exact hus j v hj)
      (fun j hj => by rw [hWc]; exact hsp1 (i * 2 + j) (by omega)) (fun j hj => by rw [hWf, hW1, World.frozen?_setCells]; exact hfz (i * 2 + j) (by omega)) h1u
  rw [← hW1] at hcp1
  go_enter Try.func30, Try.ntmps30
  go_wp2_with (simp only [hov])
  go_region_law (refine step_copy_runI rfl _ _ eS eS rfl (.slice (some ⟨b, (i + 1) * 2, none⟩) (n + 1 - (i + 1)) (c - (i + 1))) (.slice (some ⟨b, i * 2, none⟩) (n + 1 - i) (c - i)) (by simp [Act.eval, Act.put]) (by simp [Act.eval, Act.put]) (hcp1 _ _ _) ?_)
  go_wp2_with (at_builtin; refine wpList_copy_runI _ rfl _ _ eS eS rfl _ _ rfl rfl (hcp2 _ (fun _ => rfl) (fun _ => rfl) _ _) ?_)
  go_ret
  exact ⟨rfl, rfl⟩
theorem ins_grow (b n c i vb vo vc : Nat) (cs us : List Value) (w : World) (hi : i < n) (hnc : n ≤ c) (hroom : c < n + 1) (hbig : (n + 1) * 24 ≤ 140737488355328)
    (hcl : cs.length = n * 2) (hul : us.length = 2)
    (hcs : ∀ j v, cs[j]? = some v → w.cell? ⟨b, j, none⟩ = some v)
    (hus : ∀ j v, us[j]? = some v → w.cell? ⟨vb, vo + j, none⟩ = some v) (h1c : ∀ v ∈ cs, v.oneCell' = true) (h1u : ∀ v ∈ us, v.oneCell' = true) :
    Calls Try.prog 30 #[.slice (some ⟨b, 0, none⟩) n c, .int .i64 i, .slice (some ⟨vb, vo, none⟩) 1 vc] w fun e w' =>
      e = .returned (.slice (some ⟨w.heap.size, 0, none⟩) (n + 1) (grownCap w (n + 1) c eE)) ∧ ∃ R : Array Value, (n + 1) * 2 ≤ R.size ∧ R.size = grownCap w (n + 1) c eE * 2 ∧ (∀ (j : Nat) (v : Value), (cs.take (i * 2))[j]? = some v → R[j]? = some v) ∧
      w' = (((w.alloc (.cells R eE)).drew.setCells w.heap.size (i * 2) us).drew).setCells w.heap.size ((i + 1) * 2) (cs.drop (i * 2)) := by
  obtain ⟨i0, hi0, hz0, hzs, hzb⟩ := info_parts info_e
  have hz2 : ¬ ((i : Int) = (n : Int)) := by omega
  have hz3 : (c : Int) < (n : Int) + 1 := by omega
  have hsz : (Try.prog.info? eE).map (·.size) = some 2 := by rw [hi0]; simp [hzs]
  have hbw : b < w.heap.size := block_lt_of_cell (hcs 0 _ (List.getElem?_eq_getElem (by omega)))
  have hvw : vb < w.heap.size := block_lt_of_cell (hus 0 _ (List.getElem?_eq_getElem (by omega)))
  have hkk : (n : Int) + 1 - (i : Int) = ((n + 1 - i : Nat) : Int) := by omega
  have hik : i + (n + 1 - i) = n + 1 := by omega
  have hold : (Builtin.firstCells i0.size i (.slice (some ⟨b, 0, none⟩) i c)).run Try.prog w.drew = .ok (cs.take (i * 2)).toArray w.drew := by
    rw [hzs]
    exact run_firstCells_some w.drew 2 i ⟨b, 0, none⟩ i c (cs.take (i * 2)) (by rw [List.length_take]; omega) (fun j v hj => by
      rw [Addr.add_lit, Nat.zero_add]
      rw [List.getElem?_take] at hj
      split at hj
      · exact hcs j v hj
      · cases hj)
  have hrz : ∀ ty, (Builtin.append_ #[eS, 3] ty #[.slice (some ⟨b, 0, none⟩) i c, .int .i64 ((n : Int) + 1 - (i : Int))]).run Try.prog w =
      .ok (.slice (some ⟨w.heap.size, 0, none⟩) (n + 1) (grownCap w (n + 1) c eE)) (w.drew.alloc (.cells ((cs.take (i * 2)).toArray ++ Builtin.zeroCells zeroE.cells (n + 1 - i) ++ Builtin.zeroCells zeroE.cells (grownCap w (n + 1) c eE - (n + 1))) eE)) := fun ty => by
    have h := Lib.run_append_grow_zeros w eS 3 ty eE i0 _ .i64 .i64 und_s Try.underlying3 hi0 hz0 (some ⟨b, 0, none⟩) i c (cs.take (i * 2)) hold (n + 1 - i) (by omega) (by omega) (by omega) (by omega) (by rw [hzb]; omega) (by rw [hzb, hik]; exact growslice_fits hroom hbig)
    rw [hik] at h
    rw [hkk]
    exact h
  have hGn : n + 1 ≤ grownCap w (n + 1) c eE := grownCap_ge w _ _ _
  have hG63 : grownCap w (n + 1) c eE ≤ 9223372036854775807 := by
    have := grownCap_le_maxLen w (n + 1) c eE (by unfold maxLen; omega)
    unfold maxLen at this
    omega
  obtain ⟨G, hG⟩ : ∃ G, G = grownCap w (n + 1) c eE := ⟨_, rfl⟩
  obtain ⟨ROW, hROW⟩ : ∃ ROW : Array Value, ROW = (cs.take (i * 2)).toArray ++ Builtin.zeroCells zeroE.cells (n + 1 - i) ++ Builtin.zeroCells zeroE.cells (G - (n + 1)) := ⟨_, rfl⟩
  rw [← hG] at hrz hGn hG63 ⊢
  rw [← hROW] at hrz
  have hzc : ∀ k, (Builtin.zeroCells zeroE.cells k).size = k * 2 := fun k => by
    simp [Builtin.zeroCells, Value.cells, zeroE]
  have htl : (cs.take (i * 2)).length = i * 2 := by rw [List.length_take]; omega
  have hRs : ROW.size = G * 2 := by
    rw [hROW, Array.size_append, Array.size_append, hzc, hzc]
    simp only [List.size_toArray, htl]
    omega
  have hRc : ∀ (j : Nat) (v : Value), (cs.take (i * 2))[j]? = some v → ROW[j]? = some v := fun j v hj => by
    have hjl := (List.getElem?_eq_some_iff.1 hj).1
    rw [hROW, Array.append_assoc, Array.getElem?_append_left (by simpa using hjl)]
    simpa using hj
  clear hROW hG
  obtain ⟨W1, hW1⟩ : ∃ W1, W1 = w.drew.alloc (.cells ROW eE) := ⟨_, rfl⟩
  rw [← hW1] at hrz
  have hN : ∀ j, j < (n + 1) * 2 → (W1.cell? ⟨w.heap.size, j, none⟩).isSome = true := fun j hj => by
    rw [hW1, World.cell?_alloc_at (w := w.drew) ROW _ w.heap.size j rfl, Array.getElem?_eq_getElem (by omega)]; rfl
  have hNf : ∀ j, W1.frozen? ⟨w.heap.size, j, none⟩ = false := fun j => by rw [hW1]; exact World.frozen?_alloc_at (w := w.drew) ROW _ w.heap.size j rfl
  have hOb : ∀ j v, w.cell? ⟨b, j, none⟩ = some v → W1.cell? ⟨b, j, none⟩ = some v := fun j v h => by rw [hW1, World.cell?_alloc_past (w := w.drew) _ b j hbw]; exact h
  have hOv : ∀ j v, w.cell? ⟨vb, j, none⟩ = some v → W1.cell? ⟨vb, j, none⟩ = some v := fun j v h => by rw [hW1, World.cell?_alloc_past (w := w.drew) _ vb j hvw]; exact h
  have hcpA : ∀ (W : World), (∀ x, W.cell? x = W1.cell? x) → (∀ x, W.frozen? x = W1.frozen? x) → ∀ ty dc, (Builtin.copy_ #[eS, eS] ty #[.slice (some ⟨w.heap.size, i * 2, none⟩) (n + 1 - i) dc, .slice (some ⟨vb, vo, none⟩) 1 vc]).run Try.prog W = .ok (goInt (Nat.min 1 (n + 1 - i))) (W.setCells w.heap.size (i * 2) us) := fun W hWc hWf ty dc =>
    run_copy_cells2 W _ _ ty eE w.heap.size (i * 2) (n + 1 - i) dc ⟨vb, vo, none⟩ 1 vc us und_s hsz (by rw [hul]; simp only [Nat.min_def]; split <;> omega)
      (fun j v hj => by rw [Addr.add_lit, hWc]; exact hOv _ v (hus j v hj))
      (fun j hj => by rw [hWc]; exact hN (i * 2 + j) (by omega)) (fun j hj => by rw [hWf]; exact hNf _) h1u
  have hGi : ¬ (G = i) := by omega
  have hGim : ¬ (G = i + 1) := by omega
  have hci : ¬ (c = i) := by omega
  have hbN : b ≠ w.heap.size := by omega
  have hdl : (cs.drop (i * 2)).length = (n - i) * 2 := by rw [List.length_drop, hcl]; omega
  have hcpB : ∀ (W : World), (∀ x, W.cell? x = (W1.setCells w.heap.size (i * 2) us).cell? x) → (∀ x, W.frozen? x = (W1.setCells w.heap.size (i * 2) us).frozen? x) → ∀ ty dc sc, (Builtin.copy_ #[eS, eS] ty #[.slice (some ⟨w.heap.size, (i + 1) * 2, none⟩) (n + 1 - (i + 1)) dc, .slice (some ⟨b, i * 2, none⟩) (n - i) sc]).run Try.prog W = .ok (goInt (Nat.min (n - i) (n + 1 - (i + 1)))) (W.setCells w.heap.size ((i + 1) * 2) (cs.drop (i * 2))) := fun W hWc hWf ty dc sc =>
    run_copy_cells2 W _ _ ty eE w.heap.size ((i + 1) * 2) (n + 1 - (i + 1)) dc ⟨b, i * 2, none⟩ (n - i) sc (cs.drop (i * 2)) und_s hsz (by rw [hdl]; simp only [Nat.min_def]; split <;> omega)
      (fun j v hj => by
        rw [Addr.add_lit, hWc, World.cell?_setCells_out _ _ _ _ _ (fun h _ => absurd h hbN)]
        exact hOb _ v (hcs (i * 2 + j) v (by rwa [List.getElem?_drop] at hj)))
      (fun j hj => by rw [hWc]; exact isSome_setCells _ _ _ _ (fun t ht => hN (i * 2 + t) (by omega)) _ (hN ((i + 1) * 2 + j) (by rw [hdl] at hj; omega)))
      (fun j hj => by rw [hWf, World.frozen?_setCells]; exact hNf _) (fun v hv => h1c v (List.mem_of_mem_drop hv))
  subst hW1
  have hE1 : ∀ x, ((w.alloc (.cells ROW eE)).drew).cell? x = (w.drew.alloc (.cells ROW eE)).cell? x := fun x => rfl
  have hE2 : ∀ x, ((w.alloc (.cells ROW eE)).drew).frozen? x = (w.drew.alloc (.cells ROW eE)).frozen? x := fun x => rfl
  have hF1 : ∀ x, (((w.alloc (.cells ROW eE)).drew.setCells w.heap.size (i * 2) us).drew).cell? x = ((w.drew.alloc (.cells ROW eE)).setCells w.heap.size (i * 2) us).cell? x := fun x => rfl
  have hF2 : ∀ x, (((w.alloc (.cells ROW eE)).drew.setCells w.heap.size (i * 2) us).drew).frozen? x = ((w.drew.alloc (.cells ROW eE)).setCells w.heap.size (i * 2) us).frozen? x := fun x => rfl
  have hw1 : IntKind.i64.wrap ((i : Int) + 1) = (i : Int) + 1 := by rw [IntKind.wrap_i64]; omega
  have hb1 : (0 : Int) ≤ (i : Int) + 1 := by omega
  have hin : i ≤ n := by omega
  have htn : ((i : Int) + 1).toNat = i + 1 := by omega
  have hb3 : (i : Int) ≤ (n : Int) := by omega
  clear hkk hik hold
  go_enter Try.func30, Try.ntmps30
  go_wp2_with (first
    | (at_builtin; refine Lib.wpList_append_run _ rfl _ _ _ _ rfl _ _ rfl rfl _ _ (hrz _) ?_)
    | (at_builtin; refine wpList_copy_runI _ rfl _ _ eS eS rfl _ _ rfl rfl (hcpA _ hE1 hE2 _ _) ?_))
  go_region_law (refine step_copy_runI rfl _ _ eS eS rfl (.slice (some ⟨w.heap.size, (i + 1) * 2, none⟩) (n + 1 - (i + 1)) (G - (i + 1))) (.slice (some ⟨b, i * 2, none⟩) (n - i) (c - i)) (by simp [Act.eval, Act.put]) (by simp [Act.eval, Act.put]) (hcpB _ hF1 hF2 3 (G - (i + 1)) (c - i)) ?_)
  go_wp2
  go_ret
  exact ⟨rfl, ROW, by omega, hRs, hRc, rfl⟩
theorem run_clear_one (w : World) (ty : TypeId) (b o c : Nat) (hc : ∀ j, j < 2 → (w.cell? ⟨b, o + j, none⟩).isSome = true) (hf : ∀ j, j < 2 → w.frozen? ⟨b, o + j, none⟩ = false) :
    (Builtin.clear_ #[eS] ty #[.slice (some ⟨b, o, none⟩) 1 c]).run Try.prog w = .ok (.tuple #[]) (w.setCells b o [.int .i64 0, .string ⟨#[]⟩]) := by
  obtain ⟨i0, hi0, hz0, hzs, hzb⟩ := info_parts info_e
  have hzc : (Builtin.zeroCells zeroE.cells 1).toList = [.int .i64 0, .string ⟨#[]⟩] := by
    simp [Builtin.zeroCells, zeroE, Value.cells]
    rfl
  have hst := run_storeCells_cells (P := Try.prog) b o [.int .i64 0, .string ⟨#[]⟩] 0 w (by simpa using hc) (by simpa using hf) (by
    intro v hv
    simp only [List.mem_cons, List.not_mem_nil, or_false] at hv
    rcases hv with rfl | rfl <;> rfl)
  simp only [Nat.add_zero] at hst
  have hv : ∀ w, (zeroValue eE).run Try.prog w = .ok zeroE w := fun w => by
    simp [zeroValue, typeInfo, hi0, hz0, Sem.run]
  simp [Builtin.clear_, run_underlying und_s, hv, hzc, hst]
theorem del_calls (b m c i : Nat) (cs : List Value) (w : World) (hi : i ≤ m) (hm63 : m ≤ 1000000) (hnc : m + 1 ≤ c) (hcl : cs.length = (m + 1) * 2)
    (hcs : ∀ j v, cs[j]? = some v → w.cell? ⟨b, j, none⟩ = some v) (hfz : ∀ j, j < (m + 1) * 2 → w.frozen? ⟨b, j, none⟩ = false) (h1c : ∀ v ∈ cs, v.oneCell' = true) :
    Calls Try.prog 31 #[.slice (some ⟨b, 0, none⟩) (m + 1) c, .int .i64 i, .int .i64 ((i : Int) + 1)] w fun e w' =>
      e = .returned (.slice (some ⟨b, 0, none⟩) m c) ∧ w' = (w.drew.setCells b (i * 2) (cs.drop ((i + 1) * 2))).setCells b (m * 2) [.int .i64 0, .string ⟨#[]⟩] := by
  obtain ⟨i0, hi0, hz0, hzs, hzb⟩ := info_parts info_e
  obtain ⟨news, hnews⟩ : ∃ news, news = cs.drop ((i + 1) * 2) := ⟨_, rfl⟩
  have hlen : news.length = (m - i) * 2 := by rw [hnews, List.length_drop, hcl]; omega
  have hsp : ∀ j, j < (m + 1) * 2 → (w.cell? ⟨b, j, none⟩).isSome = true := fun j hj => by
    rw [hcs j _ (List.getElem?_eq_getElem (by omega))]; rfl
  obtain ⟨A, hA, hsrc⟩ : ∃ A : Addr, (if c = i + 1 then some (⟨b, 0, none⟩ : Addr) else some ⟨b, (i + 1) * 2, none⟩) = some A ∧ Hid (∀ t u, news[t]? = some u → w.drew.cell? (A.add t) = some u) := by
    by_cases h : c = i + 1
    · refine ⟨⟨b, 0, none⟩, by simp [h], fun t u hu => ?_⟩
      have h0 : news.length = 0 := by rw [hlen]; omega
      rw [List.length_eq_zero_iff.1 h0] at hu
      simp at hu
    · refine ⟨⟨b, (i + 1) * 2, none⟩, by simp [h], fun t u hu => ?_⟩
      rw [Addr.add_lit]
      rw [hnews, List.getElem?_drop] at hu
      exact hcs ((i + 1) * 2 + t) u hu
  have s1 : Hid (news.length = (m - i) * 2) := hlen
  have s2 : Hid (∀ u ∈ news, u.oneCell' = true) := fun u hu => by rw [hnews] at hu; exact h1c u (List.mem_of_mem_drop hu)
  have s3 : Hid (∀ t, t < news.length → (w.drew.cell? ⟨b, 0 + i * 2 + t, none⟩).isSome = true ∧ w.drew.frozen? ⟨b, 0 + i * 2 + t, none⟩ = false) := by
    intro t ht
    rw [hlen] at ht
    rw [Nat.zero_add]
    exact ⟨hsp (i * 2 + t) (by omega), hfz (i * 2 + t) (by omega)⟩
  obtain ⟨W1, hW1⟩ : ∃ W1, W1 = w.drew.setCells b (0 + i * 2) news := ⟨_, rfl⟩
  have hsp1 : ∀ k, k < (m + 1) * 2 → (W1.cell? ⟨b, k, none⟩).isSome = true := fun k hk => by
    rw [hW1]
    exact isSome_setCells b _ _ w.drew (fun j hj => (s3 j hj).1) _ (hsp k hk)
  have hfz1 : ∀ k, k < (m + 1) * 2 → W1.frozen? ⟨b, k, none⟩ = false := fun k hk => by
    rw [hW1, World.frozen?_setCells]; exact hfz k hk
  have hcl1 : ∀ ty dc, (Builtin.clear_ #[eS] ty #[.slice (some ⟨b, m * 2, none⟩) 1 dc]).run Try.prog W1 = .ok (.tuple #[]) (W1.setCells b (m * 2) [.int .i64 0, .string ⟨#[]⟩]) := fun ty dc =>
    run_clear_one W1 ty b (m * 2) dc (fun j hj => hsp1 (m * 2 + j) (by omega)) (fun j hj => hfz1 (m * 2 + j) (by omega))
  have hW : Hid (W1 = w.drew.setCells b (0 + i * 2) news) := hW1
  have hWe : Hid (W1 = w.drew.setCells b (i * 2) (cs.drop ((i + 1) * 2))) := by show _ = _; rw [hW1, hnews, Nat.zero_add]
  have hic : i ≤ c := by omega
  have hjc : i + 1 ≤ c := by omega
  have hw1 : IntKind.i64.wrap ((i : Int) + 1) = (i : Int) + 1 := by rw [IntKind.wrap_i64]; omega
  have hne : ¬ ((i : Int) = (i : Int) + 1) := by omega
  have htn : ((i : Int) + 1).toNat = i + 1 := by omega
  have hb1 : (0 : Int) ≤ (i : Int) + 1 := by omega
  have hb2 : (i : Int) + 1 ≤ (m : Int) + 1 := by omega
  have hmm : i + (m + 1 - (i + 1)) = m := by omega
  have hmi : i + (m - i) = m := by omega
  have hm1 : m + 1 - m = 1 := by omega
  have hcm : ¬ (c = m) := by omega
  clear hW1 hnews hlen hsp1 hfz1 hcs hsp hfz
  go_enter Try.func31, Try.ntmps31
  go_wp2_with fail
  go_region_law (refine step_append_room rfl (.tmp 22) (.tmp 25) eS rfl eE i0 2 und_s hi0 hzs b 0 i c (by simp [Act.eval, Act.put]) A (m - i) (c - (i + 1)) news (by simp [Act.eval, Act.put]) s1.out hsrc.out s2.out (by omega) s3.out ?_; rw [← hW.out])
  go_wp2
  go_ret
  exact ⟨rfl, by rw [← hWe.out]⟩
end Go.Proofs.Yteconeampdidaaa
namespace Go.Proofs.Yteconeampdidaaa
set_option linter.unusedSimpArgs false
set_option linter.unusedVariables false
structure En where
  c : Int
  k : List UInt8
structure Et where
  r : Int
  c : Int
  k : List UInt8
def ltE (a b : Et) : Prop := a.r < b.r ∨ (a.r = b.r ∧ a.c < b.c)
instance (a b : Et) : Decidable (ltE a b) := inferInstanceAs (Decidable (_ ∨ _))
theorem ltE_asym {a b : Et} (h : ltE a b) : ¬ ltE b a := by unfold ltE at *; omega
theorem sorted_ext {l m : List Et} (h : l.Pairwise ltE) (h' : m.Pairwise ltE) (hm : ∀ x, x ∈ l ↔ x ∈ m) : l = m := by
  induction l generalizing m with
  | nil =>
    cases m with
    | nil => rfl
    | cons y m => exact absurd ((hm y).2 (by simp)) (by simp)
  | cons x l ih =>
    cases m with
    | nil => exact absurd ((hm x).1 (by simp)) (by simp)
    | cons y m =>
      obtain ⟨h1, h2⟩ := List.pairwise_cons.1 h
      obtain ⟨h3, h4⟩ := List.pairwise_cons.1 h'
      have e : x = y := by
        rcases List.mem_cons.1 ((hm x).1 (by simp)) with e | hx
        · exact e
        · rcases List.mem_cons.1 ((hm y).2 (by simp)) with e | hy
          · exact e.symm
          · exact absurd (h3 x hx) (ltE_asym (h1 y hy))
      subst e
      rw [ih h2 h4 fun z => ?_]
      constructor
      · intro hz
        rcases List.mem_cons.1 ((hm z).1 (by simp [hz])) with e | hz'
        · subst e; exact absurd (h1 z hz) (fun hh => ltE_asym hh hh)
        · exact hz'
      · intro hz
        rcases List.mem_cons.1 ((hm z).2 (by simp [hz])) with e | hz'
        · subst e; exact absurd (h3 z hz) (fun hh => ltE_asym hh hh)
        · exact hz'
def rowL (i : Nat) (es : List En) : List Et := es.map fun e => ⟨(i : Int) + 1, e.c, e.k⟩
def flatE (E : Nat → List En) : List Et := (List.range 16).flatMap fun i => rowL i (E i)
def upd (E : Nat → List En) (i : Nat) (es : List En) : Nat → List En := fun j => if j = i then es else E j
def RowR (es : List En) : Prop := es.Pairwise (fun a b => a.c < b.c) ∧ ∀ e ∈ es, 1 ≤ e.c ∧ e.c ≤ 1099511627776 ∧ 1 ≤ e.k.length ∧ e.k.length ≤ 16
def RowsR (E : Nat → List En) : Prop := ∀ i, RowR (E i)
theorem mem_rowL {i : Nat} {es : List En} {x : Et} : x ∈ rowL i es ↔ x.r = (i : Int) + 1 ∧ (⟨x.c, x.k⟩ : En) ∈ es := by
  unfold rowL
  rw [List.mem_map]
  constructor
  · rintro ⟨e, he, rfl⟩; exact ⟨rfl, he⟩
  · rintro ⟨h1, h2⟩
    refine ⟨_, h2, ?_⟩
    obtain ⟨r, c, k⟩ := x
    simp only at h1 ⊢
    rw [h1]
theorem mem_flat {E : Nat → List En} {x : Et} : x ∈ flatE E ↔ ∃ i : Nat, i < 16 ∧ x.r = (i : Int) + 1 ∧ (⟨x.c, x.k⟩ : En) ∈ E i := by
  unfold flatE
  rw [List.mem_flatMap]
  constructor
  · rintro ⟨i, hi, hx⟩
    obtain ⟨h1, h2⟩ := mem_rowL.1 hx
    exact ⟨i, List.mem_range.1 hi, h1, h2⟩
  · rintro ⟨i, hi, h1, h2⟩
    exact ⟨i, List.mem_range.2 hi, mem_rowL.2 ⟨h1, h2⟩⟩
theorem rows_sorted {E : Nat → List En} (h : RowsR E) : ∀ (n a : Nat), ((List.range' a n).flatMap fun i => rowL i (E i)).Pairwise ltE
  | 0, a => by simp
  | n + 1, a => by
    rw [List.range'_succ, List.flatMap_cons, List.pairwise_append]
    refine ⟨?_, rows_sorted h n (a + 1), ?_⟩
    · unfold rowL
      rw [List.pairwise_map]
      exact (h a).1.imp fun hab => .inr ⟨rfl, hab⟩
    · intro x hx y hy
      obtain ⟨h1, _⟩ := mem_rowL.1 hx
      obtain ⟨i, hi, hy⟩ := List.mem_flatMap.1 hy
      obtain ⟨h2, _⟩ := mem_rowL.1 hy
      have := (List.mem_range'_1.1 hi).1
      exact .inl (by omega)
theorem flat_sorted {E : Nat → List En} (h : RowsR E) : (flatE E).Pairwise ltE := by
  unfold flatE
  rw [List.range_eq_range']
  exact rows_sorted h 16 0
theorem row_one {es : List En} (h : es.Pairwise fun a b => a.c < b.c) {a b : En} (ha : a ∈ es) (hb : b ∈ es) (e : a.c = b.c) : a = b := by
  induction es with
  | nil => cases ha
  | cons x es ih =>
    obtain ⟨h1, h2⟩ := List.pairwise_cons.1 h
    rcases List.mem_cons.1 ha with rfl | ha' <;> rcases List.mem_cons.1 hb with rfl | hb'
    · rfl
    · have := h1 b hb'; omega
    · have := h1 a ha'; omega
    · exact ih h2 ha' hb'
def posE (es : List En) (n : Int) : Nat := es.countP fun e => decide (e.c < n)
def hasE (es : List En) (n : Int) : Bool := es.any fun e => decide (e.c = n)
def keyE (es : List En) (n : Int) : List UInt8 := ((es.find? fun e => decide (e.c = n)).map (·.k)).getD []
theorem pos_le (es : List En) (n : Int) : posE es n ≤ es.length := List.countP_le_length
theorem pos_split : ∀ {es : List En} {n : Int}, RowR es → (∀ e ∈ es.take (posE es n), e.c < n) ∧ (∀ e ∈ es.drop (posE es n), n ≤ e.c)
  | [], n, _ => by simp [posE]
  | x :: es, n, h => by
    have hx := List.pairwise_cons.1 h.1
    have ih := pos_split (es := es) (n := n) ⟨hx.2, fun e he => h.2 e (by simp [he])⟩
    by_cases hl : x.c < n
    · have e : posE (x :: es) n = posE es n + 1 := by unfold posE; rw [List.countP_cons_of_pos (by simpa using hl)]
      rw [e]
      simp only [List.take_succ_cons, List.drop_succ_cons, List.mem_cons]
      refine ⟨?_, ih.2⟩
      rintro y (rfl | hy)
      · exact hl
      · exact ih.1 y hy
    · have e0 : posE es n = 0 := by
        unfold posE
        rw [List.countP_eq_zero]
        intro y hy
        have := hx.1 y hy
        simp; omega
      have e : posE (x :: es) n = 0 := by
        unfold posE at e0 ⊢; rw [List.countP_cons_of_neg (by simpa using hl), e0]
      rw [e]
      simp only [List.take_zero, List.drop_zero, List.not_mem_nil, List.mem_cons]
      refine ⟨fun _ h => absurd h id, ?_⟩
      rintro y (rfl | hy)
      · omega
      · have := hx.1 y hy; omega
theorem has_at {es : List En} {n : Int} (h : RowR es) : hasE es n = true ↔ ∃ hp : posE es n < es.length, es[posE es n].c = n := by
  obtain ⟨h1, h2⟩ := pos_split (n := n) h
  constructor
  · intro hh
    unfold hasE at hh
    obtain ⟨e, he, hc⟩ := List.any_eq_true.1 hh
    have hc : e.c = n := by simpa using hc
    have hd : e ∈ es.drop (posE es n) := by
      rw [← List.take_append_drop (posE es n) es] at he
      rcases List.mem_append.1 he with h' | h'
      · have := h1 e h'; omega
      · exact h'
    have hp : posE es n < es.length := by
      have := List.length_pos_of_mem hd
      rw [List.length_drop] at this; omega
    refine ⟨hp, ?_⟩
    rw [List.drop_eq_getElem_cons hp] at hd h2
    have a := h2 es[posE es n] List.mem_cons_self
    rcases List.mem_cons.1 hd with e1 | e1
    · rw [← e1]; exact hc
    · have hs := h.1
      rw [← List.take_append_drop (posE es n) es, List.pairwise_append] at hs
      have hs2 := hs.2.1
      rw [List.drop_eq_getElem_cons hp] at hs2
      have := (List.pairwise_cons.1 hs2).1 e e1
      omega
  · rintro ⟨hp, e⟩
    unfold hasE
    exact List.any_eq_true.2 ⟨_, List.getElem_mem hp, by simpa using e⟩
def insE (es : List En) (i : Nat) (x : En) : List En := es.take i ++ x :: es.drop i
def setK (es : List En) (i : Nat) (k : List UInt8) : List En := es.take i ++ (match es.drop i with | [] => [] | e :: r => ⟨e.c, k⟩ :: r)
def putE (es : List En) (n : Int) (k : List UInt8) : List En := if hasE es n = true then setK es (posE es n) k else insE es (posE es n) ⟨n, k⟩
def delE (es : List En) (n : Int) : List En := es.filter fun e => decide (e.c ≠ n)
theorem del_right {es : List En} {n : Int} (h : RowR es) : RowR (delE es n) := ⟨h.1.filter _, fun e he => h.2 e (List.mem_filter.1 he).1⟩
theorem del_none {es : List En} {n : Int} (h : hasE es n = false) : delE es n = es := by
  unfold delE
  rw [List.filter_eq_self]
  intro e he
  unfold hasE at h
  rw [List.any_eq_false] at h
  simpa using h e he
theorem del_at {es : List En} {n : Int} (h : RowR es) (hh : hasE es n = true) : delE es n = es.take (posE es n) ++ es.drop (posE es n + 1) := by
  obtain ⟨hp, e⟩ := (has_at h).1 hh
  obtain ⟨h1, h2⟩ := pos_split (n := n) h
  unfold delE
  conv => lhs; rw [← List.take_append_drop (posE es n) es]
  rw [List.filter_append, List.drop_eq_getElem_cons hp, List.filter_cons_of_neg (by simpa using e)]
  congr 1
  · rw [List.filter_eq_self]
    intro x hx
    have := h1 x hx
    simp; omega
  · rw [List.filter_eq_self]
    intro x hx
    have hs := h.1
    rw [← List.take_append_drop (posE es n) es, List.pairwise_append] at hs
    have hs2 := hs.2.1
    rw [List.drop_eq_getElem_cons hp] at hs2
    have := (List.pairwise_cons.1 hs2).1 x hx
    simp; omega
theorem put_mem {es : List En} {n : Int} {k : List UInt8} (h : RowR es) (x : En) : x ∈ putE es n k ↔ x = ⟨n, k⟩ ∨ (x ∈ es ∧ x.c ≠ n) := by
  unfold putE
  by_cases hh : hasE es n = true
  · rw [if_pos hh]
    obtain ⟨hp, e⟩ := (has_at h).1 hh
    obtain ⟨h1, h2⟩ := pos_split (n := n) h
    have hd := del_at h hh
    have hm : x ∈ es ∧ x.c ≠ n ↔ x ∈ es.take (posE es n) ++ es.drop (posE es n + 1) := by
      rw [← hd]; unfold delE; rw [List.mem_filter]; simp
    rw [hm]
    unfold setK
    rw [List.drop_eq_getElem_cons hp]
    simp only [List.mem_append, List.mem_cons, e]
    constructor
    · rintro (h | h | h)
      · exact .inr (.inl h)
      · exact .inl h
      · exact .inr (.inr h)
    · rintro (h | h | h)
      · exact .inr (.inl h)
      · exact .inl h
      · exact .inr (.inr h)
  · rw [if_neg hh]
    have hh : hasE es n = false := by simpa using hh
    have hm : x ∈ es ∧ x.c ≠ n ↔ x ∈ es.take (posE es n) ++ es.drop (posE es n) := by
      rw [List.take_append_drop]
      constructor
      · exact fun h => h.1
      · intro hx
        unfold hasE at hh
        rw [List.any_eq_false] at hh
        exact ⟨hx, by simpa using hh x hx⟩
    rw [hm]
    unfold insE
    simp only [List.mem_append, List.mem_cons]
    constructor
    · rintro (h | h | h)
      · exact .inr (.inl h)
      · exact .inl h
      · exact .inr (.inr h)
    · rintro (h | h | h)
      · exact .inr (.inl h)
      · exact .inl h
      · exact .inr (.inr h)
theorem put_right {es : List En} {n : Int} {k : List UInt8} (h : RowR es) (hn : 1 ≤ n ∧ n ≤ 1099511627776) (hk : 1 ≤ k.length ∧ k.length ≤ 16) : RowR (putE es n k) := by
  refine ⟨?_, fun x hx => ?_⟩
  · obtain ⟨h1, h2⟩ := pos_split (n := n) h
    have hs := h.1
    rw [← List.take_append_drop (posE es n) es, List.pairwise_append] at hs
    obtain ⟨s1, s2, s3⟩ := hs
    unfold putE
    by_cases hh : hasE es n = true
    · rw [if_pos hh]
      obtain ⟨hp, e⟩ := (has_at h).1 hh
      unfold setK
      rw [List.drop_eq_getElem_cons hp] at s2 s3
      rw [List.drop_eq_getElem_cons hp]
      show (es.take (posE es n) ++ ⟨es[posE es n].c, k⟩ :: es.drop (posE es n + 1)).Pairwise _
      obtain ⟨t1, t2⟩ := List.pairwise_cons.1 s2
      rw [List.pairwise_append]
      refine ⟨s1, List.pairwise_cons.2 ⟨t1, t2⟩, fun a ha b hb => ?_⟩
      rcases List.mem_cons.1 hb with rfl | hb
      · exact s3 a ha es[posE es n] List.mem_cons_self
      · exact s3 a ha b (List.mem_cons_of_mem _ hb)
    · rw [if_neg hh]
      have hh : hasE es n = false := by simpa using hh
      unfold insE
      rw [List.pairwise_append]
      refine ⟨s1, List.pairwise_cons.2 ⟨fun b hb => ?_, s2⟩, fun a ha b hb => ?_⟩
      · have := h2 b hb
        unfold hasE at hh
        rw [List.any_eq_false] at hh
        have := hh b (List.mem_of_mem_drop hb)
        simp at this
        show n < b.c
        omega
      · rcases List.mem_cons.1 hb with rfl | hb
        · exact h1 a ha
        · exact s3 a ha b hb
  · rcases (put_mem h x).1 hx with rfl | ⟨hx, _⟩
    · exact ⟨hn.1, hn.2, hk.1, hk.2⟩
    · exact h.2 x hx
theorem upd_right {E : Nat → List En} {i : Nat} {es : List En} (h : RowsR E) (he : RowR es) : RowsR (upd E i es) := fun j => by
  unfold upd
  split
  · exact he
  · exact h j
def dropL (l : List Et) (r c : Int) : List Et := l.filter fun x => decide (¬ (x.r = r ∧ x.c = c))
def lessV (r c r' c' : Int) : Bool := decide (r < r') || (decide (r = r') && decide (c < c'))
def putL (l : List Et) (r c : Int) (k : List UInt8) : List Et := (dropL l r c).takeWhile (fun x => lessV x.r x.c r c) ++ ⟨r, c, k⟩ :: (dropL l r c).dropWhile (fun x => lessV x.r x.c r c)
theorem lessV_iff {a b : Et} : lessV a.r a.c b.r b.c = true ↔ ltE a b := by
  unfold lessV ltE
  simp [Bool.or_eq_true, Bool.and_eq_true]
theorem drop_flat {E : Nat → List En} (h : RowsR E) {i : Nat} (hi : i < 16) (c : Int) : dropL (flatE E) ((i : Int) + 1) c = flatE (upd E i (delE (E i) c)) := by
  refine sorted_ext ((flat_sorted h).filter _) (flat_sorted (upd_right h (del_right (h i)))) fun x => ?_
  unfold dropL
  rw [List.mem_filter, mem_flat, mem_flat]
  constructor
  · rintro ⟨⟨j, hj, h1, h2⟩, h3⟩
    refine ⟨j, hj, h1, ?_⟩
    unfold upd
    split
    · rename_i e
      subst e
      unfold delE
      rw [List.mem_filter]
      refine ⟨h2, ?_⟩
      simp at h3 ⊢
      omega
    · exact h2
  · rintro ⟨j, hj, h1, h2⟩
    unfold upd at h2
    split at h2
    · rename_i e
      subst e
      unfold delE at h2
      rw [List.mem_filter] at h2
      refine ⟨⟨j, hj, h1, h2.1⟩, ?_⟩
      have := h2.2
      simp at this ⊢
      exact .inr this
    · rename_i e
      refine ⟨⟨j, hj, h1, h2⟩, ?_⟩
      simp; omega
theorem split_sorted {l : List Et} (h : l.Pairwise ltE) (v : Et) (hv : ∀ x ∈ l, ltE x v ∨ ltE v x) : (l.takeWhile (fun x => lessV x.r x.c v.r v.c) ++ v :: l.dropWhile (fun x => lessV x.r x.c v.r v.c)).Pairwise ltE := by
  induction l with
  | nil => simp
  | cons x l ih =>
    obtain ⟨h1, h2⟩ := List.pairwise_cons.1 h
    by_cases hx : lessV x.r x.c v.r v.c = true
    · rw [List.takeWhile_cons_of_pos (p := fun x : Et => lessV x.r x.c v.r v.c) hx, List.dropWhile_cons_of_pos (p := fun x : Et => lessV x.r x.c v.r v.c) hx, List.cons_append, List.pairwise_cons]
      refine ⟨fun y hy => ?_, ih h2 fun z hz => hv z (by simp [hz])⟩
      rcases List.mem_append.1 hy with hy | hy
      · exact h1 y ((List.takeWhile_sublist _).subset hy)
      · rcases List.mem_cons.1 hy with rfl | hy
        · exact lessV_iff.1 hx
        · exact h1 y ((List.dropWhile_sublist _).subset hy)
    · rw [List.takeWhile_cons_of_neg (p := fun x : Et => lessV x.r x.c v.r v.c) hx, List.dropWhile_cons_of_neg (p := fun x : Et => lessV x.r x.c v.r v.c) hx, List.nil_append, List.pairwise_cons]
      refine ⟨fun y hy => ?_, h⟩
      have hvx : ltE v x := by
        rcases hv x (by simp) with h' | h'
        · exact absurd (lessV_iff.2 h') hx
        · exact h'
      rcases List.mem_cons.1 hy with rfl | hy
      · exact hvx
      · have := h1 y hy
        unfold ltE at *; omega
theorem put_flat {E : Nat → List En} (h : RowsR E) {i : Nat} (hi : i < 16) {c : Int} {k : List UInt8} (hc : 1 ≤ c ∧ c ≤ 1099511627776) (hk : 1 ≤ k.length ∧ k.length ≤ 16) : putL (flatE E) ((i : Int) + 1) c k = flatE (upd E i (putE (E i) c k)) := by
  have hd : (dropL (flatE E) ((i : Int) + 1) c).Pairwise ltE := (flat_sorted h).filter _
  refine sorted_ext (split_sorted hd ⟨(i : Int) + 1, c, k⟩ fun x hx => ?_) (flat_sorted (upd_right h (put_right (h i) hc hk))) fun x => ?_
  · unfold dropL at hx
    rw [List.mem_filter] at hx
    have := hx.2
    simp at this
    unfold ltE
    simp only
    omega
  · have e : x ∈ (dropL (flatE E) ((i : Int) + 1) c).takeWhile (fun x => lessV x.r x.c ((i : Int) + 1) c) ++ ⟨(i : Int) + 1, c, k⟩ :: (dropL (flatE E) ((i : Int) + 1) c).dropWhile (fun x => lessV x.r x.c ((i : Int) + 1) c) ↔ x = ⟨(i : Int) + 1, c, k⟩ ∨ x ∈ dropL (flatE E) ((i : Int) + 1) c := by
      conv => rhs; rhs; rw [← List.takeWhile_append_dropWhile (p := fun x : Et => lessV x.r x.c ((i : Int) + 1) c) (l := dropL (flatE E) ((i : Int) + 1) c)]
      simp only [List.mem_append, List.mem_cons]
      constructor
      · rintro (h | h | h)
        · exact .inr (.inl h)
        · exact .inl h
        · exact .inr (.inr h)
      · rintro (h | h | h)
        · exact .inr (.inl h)
        · exact .inl h
        · exact .inr (.inr h)
    unfold putL
    rw [e]
    unfold dropL
    rw [List.mem_filter, mem_flat, mem_flat]
    constructor
    · rintro (rfl | ⟨⟨j, hj, h1, h2⟩, h3⟩)
      · refine ⟨i, hi, rfl, ?_⟩
        unfold upd
        rw [if_pos rfl]
        exact (put_mem (h i) _).2 (.inl rfl)
      · refine ⟨j, hj, h1, ?_⟩
        unfold upd
        split
        · rename_i e
          subst e
          refine (put_mem (h j) _).2 (.inr ⟨h2, ?_⟩)
          simp at h3 ⊢
          omega
        · exact h2
    · rintro ⟨j, hj, h1, h2⟩
      unfold upd at h2
      split at h2
      · rename_i e
        subst e
        rcases (put_mem (h j) _).1 h2 with e | ⟨h2, h3⟩
        · left
          obtain ⟨r, c', k'⟩ := x
          simp only [En.mk.injEq] at e h1
          rw [h1, e.1, e.2]
        · right
          refine ⟨⟨j, hj, h1, h2⟩, ?_⟩
          simp
          exact .inr h3
      · rename_i e
        right
        refine ⟨⟨j, hj, h1, h2⟩, ?_⟩
        simp; omega
open Go.Abs Go.Lib Go.RowKit Go.Shelf
set_option maxRecDepth 20000
set_option maxHeartbeats 4000000
theorem rowH_stay {N : Nat → Prop} {w w' : World} {b : Nat} {es es' : List A} {D : List Value} (hrel : HeapRel N [.loc b 2] [.row 2 es] w) (hT : SortTurn b D w w') (hR : RowRel (envOf N [.loc b 2] w) 2 es' D) (hp : A.pure.pureL es' = true) (h1 : ∀ u ∈ D, u.oneCell' = true) :
    HeapRel N [.loc b 2] [.row 2 es'] w' ∧ TurnH [.loc b 2] w [0] [.loc b 2] w' := by
  have hob := hrel.objs 0 (.row 2 es) (.loc b 2) rfl rfl
  simp only [ObjRel] at hob
  obtain ⟨_, hpe, ⟨cc, ee, ffr, hcc, hunf⟩, hE⟩ := hob
  have hcc : w.heap[b]? = some (.cells cc ee ffr) := hcc
  obtain ⟨cc', hcc', hsz⟩ := hT.self cc ee ffr hcc
  have hext : Ext (fun _ => False) (envOf N [.loc b 2] w) (envOf N [.loc b 2] w') := {
    size := hT.size
    blk := fun c hc hn => ⟨hn, hT.block c hc fun e => by subst e; exact hn (.inr ⟨0, 2, rfl⟩)⟩
    refs := fun n o hK => hK.elim
    own := fun n b k c e fr hK => hK.elim }
  refine ⟨{ len := rfl, objs := fun n o p ho hp' => ?_, own := fun n b' k' hn => ⟨Nat.lt_of_lt_of_le (hrel.own n b' k' hn).1 hT.size, (hrel.own n b' k' hn).2⟩, inj := hrel.inj }, {
      os := hT.os
      tape := hT.tape
      output := hT.output
      drawn := fun _ => hT.drawn
      size := hT.size
      block := fun b' hb' hno => hT.block b' hb' fun e => by subst e; exact hno 0 2 rfl
      shape := fun b' c₁ e₁ fr₁ h₁ => by
        by_cases hbb : b' = b
        · subst hbb
          obtain ⟨c₂, h₂, h₃⟩ := hT.self c₁ e₁ fr₁ h₁
          exact ⟨c₂, fr₁, h₂, h₃⟩
        · have : b' < w.heap.size := (Array.getElem?_eq_some_iff.1 h₁).1
          exact ⟨c₁, fr₁, by rw [hT.block b' this hbb]; exact h₁, rfl⟩
      own := fun n b' k' hn => .inr ⟨n, k', hn⟩
      stay := fun _ _ _ h => h }⟩
  match n, ho, hp' with
  | 0, ho, hp' =>
    simp only [nthO, Option.some.injEq] at ho
    subst ho
    obtain rfl := Option.some.inj (show some (Own.loc b 2) = some p from hp')
    simp only [ObjRel]
    refine ⟨trivial, hp, ⟨cc', ee, ffr, hcc', fun j hj => hunf.1 j (by omega), fun hk hh => hunf.2 hk (by omega)⟩, ?_⟩
    exact RowRel.mem (RowRel.mono (fun x v hx hr => Rep.mono hext x v hr fun n hn => by rw [A.mem_of_pure n x hx] at hn; cases hn) hp hR) hT.cells h1
  | n + 1, ho, hp' => simp [nthO] at ho
theorem rowH_new {N : Nat → Prop} {φ : List Own} {w w' : World} {nb : Nat} {cc : Array Value} {e : TypeId} {es es' : List A} {D : List Value} (hl : φ.length = 1) (hN : ∀ b, N b → b < w.heap.size) (hrel : HeapRel N φ [.row 2 es] w) (g : Grew w w') (hnb : w.heap.size ≤ nb) (hb : w'.heap[nb]? = some (.cells cc e (0, 0)))
    (hc : w'.rangeAt nb 0 D) (hR : RowRel (envOf N φ w) 2 es' D) (hp : A.pure.pureL es' = true) (h1 : ∀ u ∈ D, u.oneCell' = true) :
    HeapRel N [.loc nb 2] [.row 2 es'] w' ∧ TurnH φ w [0] [.loc nb 2] w' := by
  have hbs : nb < w'.heap.size := (Array.getElem?_eq_some_iff.1 hb).1
  have hext : Ext (fun _ => False) (envOf N φ w) (envOf N [.loc nb 2] w') := {
    size := g.size
    blk := fun c hc' hn => ⟨by
      have hc' : c < w.heap.size := hc'
      rintro (h0 | ⟨m, k', hm⟩)
      · exact hn (.inl h0)
      · match m, hm with
        | 0, hm =>
          simp only [List.getElem?_cons_zero, Option.some.injEq, Own.loc.injEq] at hm
          omega
        | m + 1, hm => simp at hm, g.block c hc'⟩
    refs := fun n o hK => hK.elim
    own := fun n b k c e fr hK => hK.elim }
  refine ⟨{ len := rfl, objs := fun n o p ho hp' => ?_, own := fun n b' k' hn => ?_, inj := fun n m b' k' k'' hn hm => ?_ }, {
      os := g.os
      tape := g.tape
      output := g.output
      drawn := g.drawn
      size := g.size
      block := fun b' hb' _ => g.block b' hb'
      shape := fun b' c₁ e₁ fr₁ h₁ => ⟨c₁, fr₁, by rw [g.block b' (Array.getElem?_eq_some_iff.1 h₁).1]; exact h₁, rfl⟩
      own := fun n b' k' hn => ?_
      stay := fun n p hS hp' => ?_ }⟩
  · match n, ho, hp' with
    | 0, ho, hp' =>
      simp only [nthO, Option.some.injEq] at ho
      subst ho
      obtain rfl := Option.some.inj (show some (Own.loc nb 2) = some p from hp')
      simp only [ObjRel]
      refine ⟨trivial, hp, ⟨cc, e, (0, 0), hb, unfrozen_plain _⟩, ?_⟩
      exact RowRel.mem (RowRel.mono (fun x v hx hr => Rep.mono hext x v hr fun n hn => by rw [A.mem_of_pure n x hx] at hn; cases hn) hp hR) hc h1
    | n + 1, ho, hp' => simp [nthO] at ho
  · match n, hn with
    | 0, hn =>
      simp only [List.getElem?_cons_zero, Option.some.injEq, Own.loc.injEq] at hn
      obtain ⟨rfl, _⟩ := hn
      exact ⟨hbs, fun h => by have := hN _ h; omega⟩
    | n + 1, hn => simp at hn
  · match n, m, hn, hm with
    | 0, 0, _, _ => rfl
    | n + 1, _, hn, _ => simp at hn
    | _, m + 1, _, hm => simp at hm
  · match n, hn with
    | 0, hn =>
      simp only [List.getElem?_cons_zero, Option.some.injEq, Own.loc.injEq] at hn
      exact .inl (by omega)
    | n + 1, hn => simp at hn
  · exfalso
    have := (List.getElem?_eq_some_iff.1 hp').1
    apply hS
    simp
    omega
def En.enc (e : En) : A := .agg [.int .i64 e.c, .str e.k]
theorem rep_rowv {N : Nat → Prop} {w : World} {b m cap : Nat} {cc : Array Value} {e : TypeId} {fr : Nat × Nat} (hb : w.heap[b]? = some (.cells cc e fr)) (hm : m ≤ cap) (hs : 2 * cap ≤ cc.size) : Rep (envOf N [.loc b 2] w) (.row 0 0 2 m false) (.slice (some ⟨b, 0, none⟩) m cap) := by
  simp only [Rep]
  exact .inr ⟨b, cap, cc, e, fr, rfl, by simp, hm, by simp, hb, by omega⟩
theorem turn_two {w : World} {b o1 o2 : Nat} {v1 v2 D : List Value} (hD : ((w.drew.setCells b o1 v1).setCells b o2 v2).rangeAt b 0 D) : SortTurn b D w ((w.drew.setCells b o1 v1).setCells b o2 v2) := by
  obtain ⟨a1, a2, a3, a4, a5, a6, a7⟩ := setCells_heap (b := b) v1 o1 w.drew
  obtain ⟨b1, b2, b3, b4, b5, b6, b7⟩ := setCells_heap (b := b) v2 o2 (w.drew.setCells b o1 v1)
  refine ⟨by rw [b3, a3]; rfl, by rw [b4, a4]; rfl, by rw [b5, a5]; rfl, by rw [b6, a6]; exact Nat.le_succ _, by rw [b1, a1]; exact Nat.le_refl _, fun c _ hc => by rw [b2 c hc, a2 c hc]; rfl, fun cc e fr h => ?_, hD⟩
  obtain ⟨c1, h1, s1⟩ := a7 cc e fr h
  obtain ⟨c2, h2, s2⟩ := b7 c1 e fr h1
  exact ⟨c2, h2, s2.trans s1⟩
theorem turn_one {w : World} {b o : Nat} {v D : List Value} (hD : (w.setCells b o v).rangeAt b 0 D) : SortTurn b D w (w.setCells b o v) := by
  obtain ⟨a1, a2, a3, a4, a5, a6, a7⟩ := setCells_heap (b := b) v o w
  exact ⟨a3, a4, a5, Nat.le_of_eq a6.symm, Nat.le_of_eq a1.symm, fun c _ hc => a2 c hc, fun cc e fr h => a7 cc e fr h, hD⟩
theorem range_app {w : World} {e : TypeId} (D : List Value) (Z : Array Value) : (w.alloc (.cells (D.toArray ++ Z) e)).rangeAt w.heap.size 0 D := rangeAt_alloc fun j v hj => by
  have hjl := (List.getElem?_eq_some_iff.1 hj).1
  rw [Array.getElem?_append_left (by simpa using hjl)]
  simpa using hj
theorem size_app (D : List Value) (k : Nat) : (D.toArray ++ Builtin.zeroCells zeroE.cells k).size = D.length + k * 2 := by
  simp [Builtin.zeroCells, Value.cells, zeroE]
theorem c_Insert (L : List En) (x : En) (i : Nat) (hi : i ≤ L.length) (hL : L.length ≤ 1000000) :
    CallH Try.prog 30 [.row 0 0 2 L.length false, .int .i64 i, .clip [x.enc]] [.row 2 (L.map En.enc)] (.row 0 0 2 (L.length + 1) false) [.row 2 ((insE L i x).map En.enc)] [0] := by
  intro N φ w vs hN hrel hfree hrep
  have hφl : φ.length = 1 := hrel.len
  obtain ⟨p0, rfl⟩ := List.length_eq_one_iff.1 hφl
  simp only [RepL] at hrep
  obtain ⟨v0, _, rfl, hv0, v1, _, rfl, hv1, v2, _, rfl, hv2, rfl⟩ := hrep
  simp only [Rep] at hv1
  subst hv1
  simp only [Rep] at hv2
  obtain ⟨_, a, rfl, hcl⟩ := hv2
  obtain ⟨vb, vo, rfl, hvs, hvN, hvE⟩ := hcl (by simp)
  have hst : strideOf [x.enc] = 2 := rfl
  rw [hst] at hvE
  obtain ⟨us, hu1, hu2, hu3⟩ := RowRel.of_mem hvE
  have hul : us.length = 2 := by simpa using hu1.length
  have hus : ∀ (j : Nat) (v : Value), us[j]? = some v → w.cell? ⟨vb, vo + j, none⟩ = some v := hu2
  have hp : A.pure.pureL ((insE L i x).map En.enc) = true := by
    refine pureL_of fun j y hy => ?_
    rw [List.getElem?_map] at hy
    obtain ⟨e, _, rfl⟩ := Option.map_eq_some_iff.1 hy
    rfl
  have hil : (insE L i x).length = L.length + 1 := by unfold insE; rw [List.length_append, List.length_cons, List.length_take, List.length_drop]; omega
  have him : (insE L i x).map En.enc = (L.map En.enc).take i ++ ([x.enc] ++ (L.map En.enc).drop i) := by
    unfold insE; rw [List.map_append, List.map_cons, List.map_take, List.map_drop]; rfl
  have hbig : (L.length + 1) * 24 ≤ 140737488355328 := by omega
  simp only [Rep] at hv0
  have grow0 : ∀ (q : Option Addr), L = [] → Calls Try.prog 30 #[.slice q 0 0, .int .i64 i, .slice (some ⟨vb, vo, none⟩) 1 1] w fun e w' => ∃ v φ', e = .returned v ∧ Rep (envOf N φ' w') (.row 0 0 2 (L.length + 1) false) v ∧ HeapRel N φ' [.row 2 ((insE L i x).map En.enc)] w' ∧ TurnH [p0] w [0] φ' w' ∧ [Go.Abs.Obj.row 2 (L.map En.enc)].length ≤ [Go.Abs.Obj.row 2 ((insE L i x).map En.enc)].length := by
    intro q hLe
    subst hLe
    obtain rfl : i = 0 := by simpa using hi
    refine Calls.mono (ins_end_grow q 0 0 vb vo 1 [] us w (Nat.le_refl _) (by omega) (by omega) _ rfl rfl hul (fun _ => rfl) (fun a _ j v hj => by simp at hj) hus hu3) ?_
    rintro e w' ⟨rfl, rfl⟩
    have hG := grownCap_ge w (0 + 1) 0 eE
    obtain ⟨h1, h2⟩ := rowH_new (nb := w.heap.size) (D := us) rfl hN hrel ((Grew.drew w).trans (Grew.alloc w.drew _)) (Nat.le_refl _) (heap_alloc_new w.drew _) (range_app us _) (es' := (insE [] 0 x).map En.enc) hu1 hp hu3
    refine ⟨_, [.loc w.heap.size 2], rfl, rep_rowv (heap_alloc_new w.drew _) hG ?_, h1, h2, Nat.le_refl _⟩
    rw [size_app]
    simp only [List.nil_append, hul]
    omega
  rcases hv0 with ⟨o, ho, _, h0, _, q, rfl⟩ | ⟨b, cap, c', e', fr, hφ, rfl, hlc, _, hb, hfit⟩
  · have hLe : L = [] := List.length_eq_zero_iff.1 h0
    exact grow0 q hLe
  · obtain rfl : p0 = .loc b 2 := Option.some.inj hφ
    have hob := hrel.objs 0 (.row 2 (L.map En.enc)) (.loc b 2) rfl rfl
    simp only [ObjRel] at hob
    obtain ⟨_, hpe, ⟨cc, ee, ffr, hcc, hunf⟩, hE⟩ := hob
    have hb' : w.heap[b]? = some (.cells c' e' fr) := hb
    have hcc' : w.heap[b]? = some (.cells cc ee ffr) := hcc
    rw [hb'] at hcc'
    simp only [Option.some.injEq, Go.Obj.cells.injEq] at hcc'
    obtain ⟨rfl, rfl, rfl⟩ := hcc'
    obtain ⟨cs, hc1, hc2, hc3⟩ := RowRel.of_mem hE
    have hcl : cs.length = L.length * 2 := by simpa using hc1.length
    have hcs : ∀ (j : Nat) (v : Value), cs[j]? = some v → w.cell? ⟨b, j, none⟩ = some v := fun j v hj => by have := hc2 j v hj; rwa [Nat.zero_add] at this
    have hfit' : 2 * cap ≤ c'.size := by omega
    have hR : RowRel (envOf N [.loc b 2] w) 2 ((insE L i x).map En.enc) (cs.take (i * 2) ++ (us ++ cs.drop (i * 2))) := by
      rw [him]
      exact (hc1.take (n := i)).append (hu1.append (hc1.drop (n := i)))
    have hD1 : ∀ u ∈ cs.take (i * 2) ++ (us ++ cs.drop (i * 2)), u.oneCell' = true := fun u hu => by
      rcases List.mem_append.1 hu with hu | hu
      · exact hc3 u (List.mem_of_mem_take hu)
      · rcases List.mem_append.1 hu with hu | hu
        · exact hu3 u hu
        · exact hc3 u (List.mem_of_mem_drop hu)
    have hvb : vb ≠ b := fun e => by subst e; exact hvN (.inr ⟨0, 2, rfl⟩)
    by_cases hin : i = L.length
    · subst hin
      have ht : cs.take (L.length * 2) = cs := List.take_of_length_le (by omega)
      have hd : cs.drop (L.length * 2) = [] := List.drop_of_length_le (by omega)
      rw [ht, hd, List.append_nil] at hR hD1
      by_cases hroom : L.length + 1 ≤ cap
      · have hth : w.there b (L.length * 2) us.length := there_of hb' hunf (by omega)
        refine Calls.mono (ins_end_room b L.length cap vb vo 1 us w hroom hul (fun j hj => (hth j (by omega)).1) (fun j hj => (hth j (by omega)).2) hus hu3) ?_
        rintro e w' ⟨rfl, rfl⟩
        have hrange : (w.setCells b (L.length * 2) us).rangeAt b 0 (cs ++ us) := fun j u hj => by
          rw [Nat.zero_add, setCells_cell hth]
          rw [List.getElem?_append] at hj
          split at hj
          · rw [if_neg (by omega)]; exact hcs j u hj
          · have := (List.getElem?_eq_some_iff.1 hj).1
            rw [if_pos (by omega), show j - L.length * 2 = j - cs.length by omega]; exact hj
        have hT := turn_one hrange
        obtain ⟨h1, h2⟩ := rowH_stay hrel hT hR hp hD1
        obtain ⟨c2, hc2', hs2⟩ := hT.self _ _ _ hb'
        exact ⟨_, [.loc b 2], rfl, rep_rowv hc2' hroom (by omega), h1, h2, Nat.le_refl _⟩
      · refine Calls.mono (ins_end_grow (some ⟨b, 0 * 2, none⟩) L.length cap vb vo 1 cs us w hlc (by omega) (by omega) _ rfl hcl hul (fun h => by cases h) (fun a ha j v hj => by
          simp only [Option.some.injEq] at ha
          subst ha
          rw [Addr.add_lit, Nat.zero_mul, Nat.zero_add]; exact hcs j v hj) hus hu3) ?_
        rintro e w' ⟨rfl, rfl⟩
        have hG := grownCap_ge w (L.length + 1) cap eE
        obtain ⟨h1, h2⟩ := rowH_new (nb := w.heap.size) (D := cs ++ us) rfl hN hrel ((Grew.drew w).trans (Grew.alloc w.drew _)) (Nat.le_refl _) (heap_alloc_new w.drew _) (range_app (cs ++ us) _) hR hp hD1
        refine ⟨_, [.loc w.heap.size 2], rfl, rep_rowv (heap_alloc_new w.drew _) hG ?_, h1, h2, Nat.le_refl _⟩
        rw [size_app, List.length_append]
        omega
    · have hlt : i < L.length := by omega
      by_cases hroom : L.length + 1 ≤ cap
      · have hth : w.there b 0 ((L.length + 1) * 2) := there_of hb' hunf (by omega)
        obtain ⟨tA, kA, hsa, hka, _⟩ := World.shape?_of_cell? (hus 0 _ (List.getElem?_eq_getElem (by omega)))
        have hsa : w.shape? vb = some (tA, kA) := hsa
        have hkA : kA ≠ 0 := by
          have : vo + 0 < kA := hka
          omega
        have hsb : w.shape? b = some (e', c'.size) := by simp [World.shape?, hb']
        have hfe : w.frozen? ⟨b, c'.size, none⟩ = false := by
          have := hunf.2 (by decide)
          obtain ⟨f1, f2⟩ := fr
          simp only at this
          simp only [World.frozen?, hb']
          simpa using this
        have hdl : (cs.drop (i * 2)).length = (L.length - i) * 2 := by rw [List.length_drop, hcl]; omega
        refine Calls.mono (ins_shift b L.length cap i vb vo 1 cs us w hlt hL hroom hvb hcl hul hcs (fun j hj => by have := (hth j hj).1; rwa [Nat.zero_add] at this) (fun j hj => by have := (hth j hj).2; rwa [Nat.zero_add] at this) hus hc3 hu3 tA e' kA c'.size hsa hsb hkA hfe) ?_
        rintro e w' ⟨rfl, rfl⟩
        have hth1 : w.drew.there b ((i + 1) * 2) (cs.drop (i * 2)).length := there_of (w := w.drew) hb' hunf (by omega)
        obtain ⟨c1, hc1', hs1⟩ := (setCells_heap (b := b) (cs.drop (i * 2)) ((i + 1) * 2) w.drew).2.2.2.2.2.2 _ _ _ hb'
        have hth2 : (w.drew.setCells b ((i + 1) * 2) (cs.drop (i * 2))).there b (i * 2) us.length := there_of hc1' (k := 2) ⟨fun j hj => hunf.1 j (by omega), fun hk hh => hunf.2 hk (by omega)⟩ (by omega)
        have hrange : ((w.drew.setCells b ((i + 1) * 2) (cs.drop (i * 2))).setCells b (i * 2) us).rangeAt b 0 (cs.take (i * 2) ++ (us ++ cs.drop (i * 2))) := fun j u hj => by
          have htl : (cs.take (i * 2)).length = i * 2 := by rw [List.length_take]; omega
          rw [Nat.zero_add, setCells_cell hth2, setCells_cell hth1]
          rw [List.getElem?_append] at hj
          split at hj
          · rename_i h1
            rw [htl] at h1
            rw [if_neg (by omega), if_neg (by omega)]
            rw [List.getElem?_take, if_pos h1] at hj
            exact hcs j u hj
          · rename_i h1
            rw [htl] at h1 hj
            rw [List.getElem?_append] at hj
            split at hj
            · rename_i h2
              rw [if_pos (by omega)]; exact hj
            · rename_i h2
              rw [if_neg (by omega)]
              have hjl := (List.getElem?_eq_some_iff.1 hj).1
              rw [hul] at hjl hj
              rw [if_pos (by omega), show j - (i + 1) * 2 = j - i * 2 - 2 by omega]; exact hj
        have hT := turn_two hrange
        obtain ⟨h1, h2⟩ := rowH_stay hrel hT hR hp hD1
        obtain ⟨c2, hc2', hs2⟩ := hT.self _ _ _ hb'
        exact ⟨_, [.loc b 2], rfl, rep_rowv hc2' hroom (by omega), h1, h2, Nat.le_refl _⟩
      · refine Calls.mono (ins_grow b L.length cap i vb vo 1 cs us w hlt hlc (by omega) (by omega) hcl hul hcs hus hc3 hu3) ?_
        rintro e w' ⟨rfl, R, hR1, hR2, hR3, rfl⟩
        have hG := grownCap_ge w (L.length + 1) cap eE
        generalize grownCap w (L.length + 1) cap eE = G at *
        have hdl : (cs.drop (i * 2)).length = (L.length - i) * 2 := by rw [List.length_drop, hcl]; omega
        have h0 : (w.alloc (.cells R eE)).drew.heap[w.heap.size]? = some (.cells R eE (0, 0)) := heap_alloc_new w _
        obtain ⟨a1, a2, a3, a4, a5, a6, a7⟩ := setCells_heap (b := w.heap.size) us (i * 2) (w.alloc (.cells R eE)).drew
        obtain ⟨b1, b2, b3, b4, b5, b6, b7⟩ := setCells_heap (b := w.heap.size) (cs.drop (i * 2)) ((i + 1) * 2) ((w.alloc (.cells R eE)).drew.setCells w.heap.size (i * 2) us).drew
        obtain ⟨c1, hc1', hs1⟩ := a7 _ _ _ h0
        obtain ⟨c2, hc2', hs2⟩ := b7 _ _ _ (show ((w.alloc (.cells R eE)).drew.setCells w.heap.size (i * 2) us).drew.heap[w.heap.size]? = _ from hc1')
        have hth1 : (w.alloc (.cells R eE)).drew.there w.heap.size (i * 2) us.length := there_of h0 (k := 2) (unfrozen_plain _) (by omega)
        have hth2 : ((w.alloc (.cells R eE)).drew.setCells w.heap.size (i * 2) us).drew.there w.heap.size ((i + 1) * 2) (cs.drop (i * 2)).length := there_of (w := ((w.alloc (.cells R eE)).drew.setCells w.heap.size (i * 2) us).drew) hc1' (k := 2) (unfrozen_plain _) (by omega)
        have hg : Grew w ((((w.alloc (.cells R eE)).drew.setCells w.heap.size (i * 2) us).drew).setCells w.heap.size ((i + 1) * 2) (cs.drop (i * 2))) := by
          have hs0 : (w.alloc (.cells R eE)).drew.heap.size = w.heap.size + 1 := by
            show (w.heap.push (Go.Obj.cells R eE (0, 0))).size = w.heap.size + 1
            exact Array.size_push _
          refine ⟨?_, fun c hc => ?_, ?_, ?_, ?_, fun _ => ?_⟩
          · rw [b1]; show w.heap.size ≤ ((w.alloc (.cells R eE)).drew.setCells w.heap.size (i * 2) us).heap.size; rw [a1, hs0]; omega
          · rw [b2 c (by omega)]; show ((w.alloc (.cells R eE)).drew.setCells w.heap.size (i * 2) us).heap[c]? = _; rw [a2 c (by omega)]; exact Below.heap_alloc w _ c hc
          · rw [b3]; exact a3
          · rw [b4]; exact a4
          · rw [b5]; exact a5
          · rw [b6]; show w.drawn ≤ ((w.alloc (.cells R eE)).drew.setCells w.heap.size (i * 2) us).drawn + 1; rw [a6]; show w.drawn ≤ w.drawn + 1 + 1; omega
        have hrange : ((((w.alloc (.cells R eE)).drew.setCells w.heap.size (i * 2) us).drew).setCells w.heap.size ((i + 1) * 2) (cs.drop (i * 2))).rangeAt w.heap.size 0 (cs.take (i * 2) ++ (us ++ cs.drop (i * 2))) := fun j u hj => by
          have htl : (cs.take (i * 2)).length = i * 2 := by rw [List.length_take]; omega
          rw [Nat.zero_add, setCells_cell hth2]
          have e2 : ((w.alloc (.cells R eE)).drew.setCells w.heap.size (i * 2) us).drew.cell? ⟨w.heap.size, j, none⟩ = ((w.alloc (.cells R eE)).drew.setCells w.heap.size (i * 2) us).cell? ⟨w.heap.size, j, none⟩ := rfl
          rw [e2, setCells_cell hth1]
          rw [List.getElem?_append] at hj
          split at hj
          · rename_i h1
            have h1' := h1
            rw [htl] at h1
            rw [if_neg (by omega), if_neg (by omega)]
            show (w.alloc (.cells R eE)).cell? ⟨w.heap.size, j, none⟩ = some u
            have : (w.alloc (.cells R eE)).heap[w.heap.size]? = some (.cells R eE (0, 0)) := h0
            simp only [World.cell?, this]
            exact hR3 j u hj
          · rename_i h1
            rw [htl] at h1 hj
            rw [List.getElem?_append] at hj
            split at hj
            · rename_i h2
              rw [if_neg (by omega), if_pos (by omega)]; exact hj
            · rename_i h2
              have hjl := (List.getElem?_eq_some_iff.1 hj).1
              rw [hul] at hjl hj
              rw [if_pos (by omega), show j - (i + 1) * 2 = j - i * 2 - 2 by omega]; exact hj
        obtain ⟨h1, h2⟩ := rowH_new (nb := w.heap.size) rfl hN hrel hg (Nat.le_refl _) hc2' hrange hR hp hD1
        exact ⟨_, [.loc w.heap.size 2], rfl, rep_rowv hc2' hG (by omega), h1, h2, Nat.le_refl _⟩
theorem c_Delete (L : List En) (m i : Nat) (hm : L.length = m + 1) (hi : i ≤ m) (hL : m ≤ 1000000) :
    CallH Try.prog 31 [.row 0 0 2 L.length false, .int .i64 i, .int .i64 ((i : Int) + 1)] [.row 2 (L.map En.enc)] (.row 0 0 2 m false) [.row 2 ((L.take i ++ L.drop (i + 1)).map En.enc)] [0] := by
  intro N φ w vs hN hrel hfree hrep
  have hφl : φ.length = 1 := hrel.len
  obtain ⟨p0, rfl⟩ := List.length_eq_one_iff.1 hφl
  simp only [RepL] at hrep
  obtain ⟨v0, _, rfl, hv0, v1, _, rfl, hv1, v2, _, rfl, hv2, rfl⟩ := hrep
  simp only [Rep] at hv1 hv2
  subst hv1; subst hv2
  have hp : A.pure.pureL ((L.take i ++ L.drop (i + 1)).map En.enc) = true := by
    refine pureL_of fun j y hy => ?_
    rw [List.getElem?_map] at hy
    obtain ⟨e, _, rfl⟩ := Option.map_eq_some_iff.1 hy
    rfl
  have him : (L.take i ++ L.drop (i + 1)).map En.enc = (L.map En.enc).take i ++ (L.map En.enc).drop (i + 1) := by
    rw [List.map_append, List.map_take, List.map_drop]
  simp only [Rep] at hv0
  rcases hv0 with ⟨o, ho, _, h0, _, q, rfl⟩ | ⟨b, cap, c', e', fr, hφ, rfl, hlc, _, hb, hfit⟩
  · omega
  · obtain rfl : p0 = .loc b 2 := Option.some.inj hφ
    have hob := hrel.objs 0 (.row 2 (L.map En.enc)) (.loc b 2) rfl rfl
    simp only [ObjRel] at hob
    obtain ⟨_, hpe, ⟨cc, ee, ffr, hcc, hunf⟩, hE⟩ := hob
    have hb' : w.heap[b]? = some (.cells c' e' fr) := hb
    have hcc' : w.heap[b]? = some (.cells cc ee ffr) := hcc
    rw [hb'] at hcc'
    simp only [Option.some.injEq, Go.Obj.cells.injEq] at hcc'
    obtain ⟨rfl, rfl, rfl⟩ := hcc'
    obtain ⟨cs, hc1, hc2, hc3⟩ := RowRel.of_mem hE
    have hcl : cs.length = (m + 1) * 2 := by have := hc1.length; rw [List.length_map, hm] at this; exact this
    have hcs : ∀ (j : Nat) (v : Value), cs[j]? = some v → w.cell? ⟨b, j, none⟩ = some v := fun j v hj => by have := hc2 j v hj; rwa [Nat.zero_add] at this
    have hfit' : 2 * cap ≤ c'.size := by omega
    have hR : RowRel (envOf N [.loc b 2] w) 2 ((L.take i ++ L.drop (i + 1)).map En.enc) (cs.take (i * 2) ++ cs.drop ((i + 1) * 2)) := by
      rw [him]
      exact (hc1.take (n := i)).append (hc1.drop (n := i + 1))
    have hD1 : ∀ u ∈ cs.take (i * 2) ++ cs.drop ((i + 1) * 2), u.oneCell' = true := fun u hu => by
      rcases List.mem_append.1 hu with hu | hu
      · exact hc3 u (List.mem_of_mem_take hu)
      · exact hc3 u (List.mem_of_mem_drop hu)
    have hth : w.there b 0 ((m + 1) * 2) := there_of hb' hunf (by omega)
    have hdl : (cs.drop ((i + 1) * 2)).length = (m - i) * 2 := by rw [List.length_drop, hcl]; omega
    have hcall := del_calls b m cap i cs w hi hL (by omega) hcl hcs (fun j hj => by have := (hth j hj).2; rwa [Nat.zero_add] at this) hc3
    rw [hm]
    refine Calls.mono hcall ?_
    rintro e w' ⟨rfl, rfl⟩
    have hth1 : w.drew.there b (i * 2) (cs.drop ((i + 1) * 2)).length := there_of (w := w.drew) hb' hunf (by omega)
    obtain ⟨c1, hc1', hs1⟩ := (setCells_heap (b := b) (cs.drop ((i + 1) * 2)) (i * 2) w.drew).2.2.2.2.2.2 _ _ _ hb'
    have hth2 : (w.drew.setCells b (i * 2) (cs.drop ((i + 1) * 2))).there b (m * 2) [Value.int .i64 0, .string ⟨#[]⟩].length := there_of hc1' (k := 2) ⟨fun j hj => hunf.1 j (by omega), fun hk hh => hunf.2 hk (by omega)⟩ (by show m * 2 + 2 ≤ _; omega)
    have hrange : ((w.drew.setCells b (i * 2) (cs.drop ((i + 1) * 2))).setCells b (m * 2) [.int .i64 0, .string ⟨#[]⟩]).rangeAt b 0 (cs.take (i * 2) ++ cs.drop ((i + 1) * 2)) := fun j u hj => by
      have htl : (cs.take (i * 2)).length = i * 2 := by rw [List.length_take]; omega
      have hjl := (List.getElem?_eq_some_iff.1 hj).1
      rw [List.length_append, htl, hdl] at hjl
      rw [Nat.zero_add, setCells_cell hth2, if_neg (by omega), setCells_cell hth1]
      rw [List.getElem?_append] at hj
      split at hj
      · rename_i h1
        rw [htl] at h1
        rw [if_neg (by omega)]
        rw [List.getElem?_take, if_pos h1] at hj
        exact hcs j u hj
      · rename_i h1
        rw [htl] at h1 hj
        rw [if_pos (by omega)]; exact hj
    have hT := turn_two hrange
    obtain ⟨h1, h2⟩ := rowH_stay hrel hT hR hp hD1
    obtain ⟨c2, hc2', hs2⟩ := hT.self _ _ _ hb'
    exact ⟨_, [.loc b 2], rfl, rep_rowv hc2' (by omega) (by omega), h1, h2, Nat.le_refl _⟩
end Go.Proofs.Yteconeampdidaaa
namespace Go.Proofs.Yteconeampdidaaa
open Go.Abs
theorem mixed : Try.prog.follows .mixedOrders = true := by kernel_rfl
@[go_sem] theorem tyStr3 : tyStr Try.prog 3 = false := by kernel_rfl
@[go_sem] theorem tyBool3 : tyBool Try.prog 3 = false := by kernel_rfl
@[go_sem] theorem tyPtr3 : tyPtr Try.prog 3 = false := by kernel_rfl
@[go_sem] theorem tyElem3 : tyElem Try.prog 3 = none := by kernel_rfl
@[go_sem] theorem tySize3 : tySize Try.prog 3 = some 1 := by kernel_rfl
@[go_sem] theorem tyAgg3 : tyAgg Try.prog 3 = some false := by kernel_rfl
@[go_sem] theorem tyInt3 : tyInt Try.prog 3 = some .i64 := by kernel_rfl
@[go_sem] theorem zeroA3 : zeroA Try.prog 3 = some (.int .i64 0) := by kernel_rfl
@[go_sem] theorem eqTy3 : eqTy Try.prog 3 = none := by kernel_rfl
@[go_sem] theorem tyBool4 : tyBool Try.prog 4 = true := by kernel_rfl
@[go_sem] theorem tyPtr4 : tyPtr Try.prog 4 = false := by kernel_rfl
@[go_sem] theorem tyElem4 : tyElem Try.prog 4 = none := by kernel_rfl
@[go_sem] theorem tyAgg4 : tyAgg Try.prog 4 = some false := by kernel_rfl
@[go_sem] theorem eqTy4 : eqTy Try.prog 4 = none := by kernel_rfl
@[go_sem] theorem tyStr9 : tyStr Try.prog 9 = true := by kernel_rfl
@[go_sem] theorem tyBool9 : tyBool Try.prog 9 = false := by kernel_rfl
@[go_sem] theorem tyPtr9 : tyPtr Try.prog 9 = false := by kernel_rfl
@[go_sem] theorem tyElem9 : tyElem Try.prog 9 = none := by kernel_rfl
@[go_sem] theorem tySize9 : tySize Try.prog 9 = some 1 := by kernel_rfl
@[go_sem] theorem tyAgg9 : tyAgg Try.prog 9 = some false := by kernel_rfl
@[go_sem] theorem eqTy9 : eqTy Try.prog 9 = none := by kernel_rfl
@[go_sem] theorem tyElem22 : tyElem Try.prog 22 = some 56 := by kernel_rfl
@[go_sem] theorem tyBool24 : tyBool Try.prog 24 = false := by kernel_rfl
@[go_sem] theorem tyPtr24 : tyPtr Try.prog 24 = false := by kernel_rfl
@[go_sem] theorem tyElem24 : tyElem Try.prog 24 = none := by kernel_rfl
@[go_sem] theorem tyArr24 : tyArr Try.prog 24 = none := by kernel_rfl
@[go_sem] theorem tySize24 : tySize Try.prog 24 = some 2 := by kernel_rfl
@[go_sem] theorem tyAgg24 : tyAgg Try.prog 24 = some true := by kernel_rfl
@[go_sem] theorem tyBytes24 : tyBytes Try.prog 24 = 16 := by kernel_rfl
@[go_sem] theorem allSized24 : allSized Try.prog 24 = true := by kernel_rfl
@[go_sem] theorem zeroA24 : zeroA Try.prog 24 = some (.agg [.int .i64 0, .int .i64 0]) := by kernel_rfl
@[go_sem] theorem eqTy24 : eqTy Try.prog 24 = some [.int .i64, .int .i64] := by kernel_rfl
@[go_sem] theorem fi24_0 : fieldInfo Try.prog 24 0 = some (0, 3) := by kernel_rfl
@[go_sem] theorem fi24_1 : fieldInfo Try.prog 24 1 = some (1, 3) := by kernel_rfl
@[go_sem] theorem tyElem25 : tyElem Try.prog 25 = some 59 := by kernel_rfl
@[go_sem] theorem tyBool29 : tyBool Try.prog 29 = false := by kernel_rfl
@[go_sem] theorem tyPtr29 : tyPtr Try.prog 29 = true := by kernel_rfl
@[go_sem] theorem tyElem29 : tyElem Try.prog 29 = none := by kernel_rfl
@[go_sem] theorem eqTy29 : eqTy Try.prog 29 = none := by kernel_rfl
@[go_sem] theorem tyStr30 : tyStr Try.prog 30 = false := by kernel_rfl
@[go_sem] theorem tyElem30 : tyElem Try.prog 30 = some 46 := by kernel_rfl
@[go_sem] theorem tyArr30 : tyArr Try.prog 30 = none := by kernel_rfl
@[go_sem] theorem tyElem34 : tyElem Try.prog 34 = some 24 := by kernel_rfl
@[go_sem] theorem tyElem37 : tyElem Try.prog 37 = some 3 := by kernel_rfl
@[go_sem] theorem tyArr46 : tyArr Try.prog 46 = none := by kernel_rfl
@[go_sem] theorem tySize46 : tySize Try.prog 46 = some 3 := by kernel_rfl
@[go_sem] theorem tyAgg46 : tyAgg Try.prog 46 = some true := by kernel_rfl
@[go_sem] theorem tyBytes46 : tyBytes Try.prog 46 = 32 := by kernel_rfl
@[go_sem] theorem allSized46 : allSized Try.prog 46 = true := by kernel_rfl
@[go_sem] theorem zeroA46 : zeroA Try.prog 46 = some (.agg [.int .i64 0, .int .i64 0, .str []]) := by kernel_rfl
@[go_sem] theorem fi46_0 : fieldInfo Try.prog 46 0 = some (0, 24) := by kernel_rfl
@[go_sem] theorem fi46_1 : fieldInfo Try.prog 46 1 = some (2, 9) := by kernel_rfl
@[go_sem] theorem tyElem47 : tyElem Try.prog 47 = some 64 := by kernel_rfl
@[go_sem] theorem tySize47 : tySize Try.prog 47 = some 1 := by kernel_rfl
@[go_sem] theorem tyAgg47 : tyAgg Try.prog 47 = some false := by kernel_rfl
@[go_sem] theorem tyElem48 : tyElem Try.prog 48 = none := by kernel_rfl
@[go_sem] theorem tyArr48 : tyArr Try.prog 48 = some (16, 47) := by kernel_rfl
@[go_sem] theorem tySize48 : tySize Try.prog 48 = some 16 := by kernel_rfl
@[go_sem] theorem tyAgg48 : tyAgg Try.prog 48 = some true := by kernel_rfl
@[go_sem] theorem tyArr50 : tyArr Try.prog 50 = none := by kernel_rfl
@[go_sem] theorem allSized50 : allSized Try.prog 50 = true := by kernel_rfl
@[go_sem] theorem zeroA50 : zeroA Try.prog 50 = some (.agg [.nils, .nils, .nils, .nils, .nils, .nils, .nils, .nils, .nils, .nils, .nils, .nils, .nils, .nils, .nils, .nils, .int .i64 0]) := by kernel_rfl
@[go_sem] theorem fi50_0 : fieldInfo Try.prog 50 0 = some (0, 48) := by kernel_rfl
@[go_sem] theorem fi50_1 : fieldInfo Try.prog 50 1 = some (16, 3) := by kernel_rfl
@[go_sem] theorem tySize56 : tySize Try.prog 56 = some 4 := by kernel_rfl
@[go_sem] theorem tyAgg56 : tyAgg Try.prog 56 = some true := by kernel_rfl
@[go_sem] theorem zeroA56 : zeroA Try.prog 56 = some (.agg [.bool false, .int .i64 0, .int .i64 0, .str []]) := by kernel_rfl
@[go_sem] theorem fi56_0 : fieldInfo Try.prog 56 0 = some (0, 4) := by kernel_rfl
@[go_sem] theorem fi56_1 : fieldInfo Try.prog 56 1 = some (1, 24) := by kernel_rfl
@[go_sem] theorem fi56_2 : fieldInfo Try.prog 56 2 = some (3, 9) := by kernel_rfl
@[go_sem] theorem tyStr57 : tyStr Try.prog 57 = false := by kernel_rfl
@[go_sem] theorem tyBool57 : tyBool Try.prog 57 = false := by kernel_rfl
@[go_sem] theorem tyPtr57 : tyPtr Try.prog 57 = false := by kernel_rfl
@[go_sem] theorem tyElem57 : tyElem Try.prog 57 = some 66 := by kernel_rfl
@[go_sem] theorem tyArr57 : tyArr Try.prog 57 = none := by kernel_rfl
@[go_sem] theorem tyAgg57 : tyAgg Try.prog 57 = some false := by kernel_rfl
@[go_sem] theorem eqTy57 : eqTy Try.prog 57 = none := by kernel_rfl
@[go_sem] theorem tySize59 : tySize Try.prog 59 = some 2 := by kernel_rfl
@[go_sem] theorem tyAgg59 : tyAgg Try.prog 59 = some true := by kernel_rfl
@[go_sem] theorem zeroA59 : zeroA Try.prog 59 = some (.agg [.int .i64 0, .nils]) := by kernel_rfl
@[go_sem] theorem fi59_0 : fieldInfo Try.prog 59 0 = some (0, 3) := by kernel_rfl
@[go_sem] theorem fi59_1 : fieldInfo Try.prog 59 1 = some (1, 57) := by kernel_rfl
@[go_sem] theorem tyArr64 : tyArr Try.prog 64 = none := by kernel_rfl
@[go_sem] theorem tySize64 : tySize Try.prog 64 = some 2 := by kernel_rfl
@[go_sem] theorem tyAgg64 : tyAgg Try.prog 64 = some true := by kernel_rfl
@[go_sem] theorem allSized64 : allSized Try.prog 64 = true := by kernel_rfl
@[go_sem] theorem zeroA64 : zeroA Try.prog 64 = some (.agg [.int .i64 0, .str []]) := by kernel_rfl
@[go_sem] theorem fi64_0 : fieldInfo Try.prog 64 0 = some (0, 3) := by kernel_rfl
@[go_sem] theorem fi64_1 : fieldInfo Try.prog 64 1 = some (1, 9) := by kernel_rfl
@[go_sem] theorem tySize66 : tySize Try.prog 66 = some 2 := by kernel_rfl
@[go_sem] theorem tyAgg66 : tyAgg Try.prog 66 = some true := by kernel_rfl
@[go_sem] theorem tyBytes66 : tyBytes Try.prog 66 = 16 := by kernel_rfl
@[go_sem] theorem zeroA66 : zeroA Try.prog 66 = some (.agg [.int .i64 0, .int .i64 0]) := by kernel_rfl
@[go_sem] theorem fi66_0 : fieldInfo Try.prog 66 0 = some (0, 3) := by kernel_rfl
@[go_sem] theorem fi66_1 : fieldInfo Try.prog 66 1 = some (1, 3) := by kernel_rfl
@[go_sem] theorem tyStr88 : tyStr Try.prog 88 = false := by kernel_rfl
@[go_sem] theorem tyBool88 : tyBool Try.prog 88 = false := by kernel_rfl
@[go_sem] theorem tyPtr88 : tyPtr Try.prog 88 = false := by kernel_rfl
@[go_sem] theorem tyElem88 : tyElem Try.prog 88 = none := by kernel_rfl
@[go_sem] theorem tyAgg88 : tyAgg Try.prog 88 = some false := by kernel_rfl
@[go_sem] theorem tyInt88 : tyInt Try.prog 88 = some .u64 := by kernel_rfl
@[go_sem] theorem eqTy88 : eqTy Try.prog 88 = none := by kernel_rfl
@[go_sem] theorem zeroOK24 : zeroOK Try.prog 24 2 = true := by kernel_rfl
@[go_sem] theorem zeroOK46 : zeroOK Try.prog 46 3 = true := by kernel_rfl
@[go_sem] theorem zeroOK66 : zeroOK Try.prog 66 2 = true := by kernel_rfl
set_option linter.unusedSimpArgs false
set_option linter.unusedVariables false
set_option maxRecDepth 20000
set_option maxHeartbeats 4000000
def T13z : Tab := tab0
theorem T13z_ok : TabOK Try.prog T13z := tab0_ok _
@[go_sem] theorem T13z_eq : T13z = tab0 := rfl
structure Run where
  f : Int
  t : Int
  deriving DecidableEq, Inhabited
def Run.cells (r : Run) : List A := [.int .i64 r.f, .int .i64 r.t]
def Run.enc (r : Run) : A := .agg r.cells
@[go_sem] theorem Run.enc_eq {a b : Int} : Run.enc ⟨a, b⟩ = .agg [.int .i64 a, .int .i64 b] := rfl
theorem Run.enc_inj (v w : Run) (h : v.enc = w.enc) : v = w := by
  cases v; cases w; simpa [Run.enc, Run.cells] using h
@[simp] theorem map_run_inj {l m : List Run} : (l.map Run.enc = m.map Run.enc) = (l = m) := map_inj Run.enc_inj
def oneR (r : Run) : Bool := decide (1 ≤ r.f) && decide (r.f ≤ r.t) && decide (r.t ≤ 1099511627776)
theorem one_parts {r : Run} (h : oneR r = true) : 1 ≤ r.f ∧ r.f ≤ r.t ∧ r.t ≤ 1099511627776 := by
  simpa [oneR, and_assoc] using h
theorem ok_counts_one : codeOK Try.prog T13z Try.f36.ntmps (Try.f36.body.getD .skip) = true := by kernel_rfl
theorem c_counts_one (f t : Int) : CallA Try.prog 36 [.agg [.int .i64 f, .int .i64 t]] (· = .bool (oneR ⟨f, t⟩)) := by
  refine callA_of_body T13z_ok mixed Try.func36 rfl (Nat.le_of_ble_eq_true rfl) ok_counts_one ?_
  unfold Try.f36
  by_cases h1 : 1 ≤ f
  · by_cases h2 : f ≤ t
    · simp -implicitDefEqProofs (disch := (first | omega | decide)) only [go_sem, ↓reduceIte, seval, h1, h2, oneR]
    · simp -implicitDefEqProofs (disch := (first | omega | decide)) only [go_sem, ↓reduceIte, seval, h1, h2, oneR]
  · simp -implicitDefEqProofs (disch := (first | omega | decide)) only [go_sem, ↓reduceIte, seval, h1, oneR]
theorem ok_ref13_One : codeOK Try.prog T13z Try.f47.ntmps (Try.f47.body.getD .skip) = true := by kernel_rfl
theorem c_ref13_One (f t : Int) : CallA Try.prog 47 [.agg [.int .i64 f, .int .i64 t]] (· = .bool (oneR ⟨f, t⟩)) := by
  refine callA_of_body T13z_ok mixed Try.func47 rfl (Nat.le_of_ble_eq_true rfl) ok_ref13_One ?_
  unfold Try.f47
  by_cases h1 : 1 ≤ f
  · by_cases h2 : f ≤ t
    · simp -implicitDefEqProofs (disch := (first | omega | decide)) only [go_sem, ↓reduceIte, seval, h1, h2, oneR]
    · simp -implicitDefEqProofs (disch := (first | omega | decide)) only [go_sem, ↓reduceIte, seval, h1, h2, oneR]
  · simp -implicitDefEqProofs (disch := (first | omega | decide)) only [go_sem, ↓reduceIte, seval, h1, oneR]
noncomputable def T13a : Tab := T13z.add 36 (entry (fun (v : Int × Int) => [.agg [.int .i64 v.1, .int .i64 v.2]]) (fun v => True) (fun v => .bool (oneR ⟨v.1, v.2⟩)))
theorem T13a_ok : TabOK Try.prog T13a := T13z_ok.ent Try.func36 (by kernel_rfl) (by kernel_rfl) fun v h => c_counts_one v.1 v.2
theorem T13a_counts_one (v : Int × Int) (h : True) : T13a.f 36 [.agg [.int .i64 v.1, .int .i64 v.2]] = some (.bool (oneR ⟨v.1, v.2⟩)) := Tab.ent_eq (Γ := T13z) (fun i j h => by simpa [Prod.ext_iff, and_assoc] using h) v h
noncomputable def T13b : Tab := T13a.add 47 (entry (fun (v : Int × Int) => [.agg [.int .i64 v.1, .int .i64 v.2]]) (fun v => True) (fun v => .bool (oneR ⟨v.1, v.2⟩)))
theorem T13b_ok : TabOK Try.prog T13b := T13a_ok.ent Try.func47 (by kernel_rfl) (by kernel_rfl) fun v h => c_ref13_One v.1 v.2
@[go_sem] theorem T13b_old {g : FuncId} {xs : List A} (h : g ≠ 47) : T13b.f g xs = T13a.f g xs := Tab.add_ne h
@[go_sem] theorem T13b_s : T13b.pl T13a := ⟨fun _ => rfl, fun _ => rfl, rfl, fun _ => rfl, rfl, fun _ => rfl, rfl⟩
theorem T13b_ref13_One (v : Int × Int) (h : True) : T13b.f 47 [.agg [.int .i64 v.1, .int .i64 v.2]] = some (.bool (oneR ⟨v.1, v.2⟩)) := Tab.ent_eq (Γ := T13a) (fun i j h => by simpa [Prod.ext_iff, and_assoc] using h) v h
@[go_sem] theorem t_counts_one {f t : Int} : T13a.f 36 [.agg [.int .i64 f, .int .i64 t]] = some (.bool (oneR ⟨f, t⟩)) := T13a_counts_one (f, t) trivial
@[go_sem] theorem t_ref13_One {f t : Int} : T13b.f 47 [.agg [.int .i64 f, .int .i64 t]] = some (.bool (oneR ⟨f, t⟩)) := T13b_ref13_One (f, t) trivial
def goR : Option Int → List Run → Bool
  | _, [] => true
  | p, r :: rs => oneR r && (match p with | none => true | some t => decide (t + 2 ≤ r.f)) && goR (some r.t) rs
def rightL (l : List Run) : Bool := goR none l
def hasL13 (l : List Run) (n : Int) : Bool := l.any fun r => oneR r && decide (r.f ≤ n) && decide (n ≤ r.t)
theorem run_get {l : List Run} {k : Nat} (h : k < l.length) : (l.map Run.enc)[k]? = some (.agg [.int .i64 l[k].f, .int .i64 l[k].t]) := by
  rw [List.getElem?_map, List.getElem?_eq_getElem h]; rfl
theorem ok_slices_Clone_winnower_api_Run_winnower_api_Run : codeOK Try.prog T13z Try.f35.ntmps (Try.f35.body.getD .skip) = true := by kernel_rfl
theorem c_Clone_Run (l : List Run) (hl : l.length ≤ 4398046511104) : CallA Try.prog 35 [.slc (l.map Run.enc)] (· = .slc (l.map Run.enc)) := by
  cases l with
  | nil =>
    refine callA_emp ?_ ?_
    · refine callA_of_body T13z_ok mixed Try.func35 rfl (Nat.le_of_ble_eq_true rfl) ok_slices_Clone_winnower_api_Run_winnower_api_Run ?_
      unfold Try.f35
      simp -implicitDefEqProofs (disch := (first | omega | decide)) only [go_sem, ↓reduceIte, seval]
    · refine callA_of_body T13z_ok mixed Try.func35 rfl (Nat.le_of_ble_eq_true rfl) ok_slices_Clone_winnower_api_Run_winnower_api_Run ?_
      unfold Try.f35
      simp -implicitDefEqProofs (disch := (first | omega | decide)) only [go_sem, ↓reduceIte, seval]
  | cons r l =>
    refine callA_of_body T13z_ok mixed Try.func35 rfl (Nat.le_of_ble_eq_true rfl) ok_slices_Clone_winnower_api_Run_winnower_api_Run ?_
    unfold Try.f35
    obtain ⟨f, t⟩ := r
    simp only [List.length_cons] at hl
    simp -implicitDefEqProofs (disch := (first | omega | decide)) only [go_sem, ↓reduceIte, seval, List.length_map]
    exact ⟨by omega, Nat.le_refl _, by rw [List.take_of_length_le (by simp)]⟩
def prevT (l : List Run) (k : Nat) : Option Int := if k = 0 then none else (l[k - 1]?).map Run.t
theorem ok_counts_Right : codeOK Try.prog T13b Try.f34.ntmps (Try.f34.body.getD .skip) = true := by kernel_rfl
theorem c_counts_Right (l : List Run) (hl : l.length ≤ 4611686018427387904) : CallA Try.prog 34 [.slc (l.map Run.enc)] (· = .bool (rightL l)) := by
  refine callA_of_body T13b_ok mixed Try.func34 rfl (Nat.le_of_ble_eq_true rfl) ok_counts_Right ?_
  unfold Try.f34
  simp -implicitDefEqProofs (disch := (first | omega | decide)) only [go_sem, ↓reduceIte, seval, List.length_map]
  refine wpA_loop [0, 5, 6] (ι := {k : Nat // k ≤ l.length ∧ rightL l = goR (prevT l k) (l.drop k) ∧ ∀ h : k - 1 < l.length, 0 < k → oneR l[k - 1] = true}) (fun p => [(7, .int .i64 p.1), (2, .bool false)]) (fun _ => []) (fun p => l.length - p.1) ⟨0, by omega, rfl, fun _ h => absurd h (by omega)⟩ (Nat.zero_le _) ?_ ?_
  · simp -implicitDefEqProofs (disch := (first | omega | decide)) only [go_sem, ↓reduceIte, seval]
  · rintro ⟨k, hk, hd, hp⟩
    simp only
    by_cases hlt : k < l.length
    · have hlt' : (k : Int) < (l.length : Int) := by omega
      have e1 := run_get hlt
      have hprev : prevT l (k + 1) = some l[k].t := by
        unfold prevT; rw [if_neg (by omega), show k + 1 - 1 = k by omega, List.getElem?_eq_getElem hlt]; rfl
      rw [List.drop_eq_getElem_cons hlt] at hd
      simp only [goR] at hd
      have next : rightL l = goR (some l[k].t) (l.drop (k + 1)) → oneR l[k] = true → ∃ j : {k : Nat // k ≤ l.length ∧ rightL l = goR (prevT l k) (l.drop k) ∧ ∀ h : k - 1 < l.length, 0 < k → oneR l[k - 1] = true}, (k : Int) + 1 = (j.1 : Int) ∧ l.length - j.1 < l.length - k := fun h h' => ⟨⟨k + 1, hlt, by rw [hprev]; exact h, fun _ _ => h'⟩, by simp, by show l.length - (k + 1) < l.length - k; omega⟩
      generalize hx : l[k] = x at *
      obtain ⟨f, t⟩ := x
      cases h1 : oneR ⟨f, t⟩ with
      | false =>
        have hh : rightL l = false := by rw [hd, h1]; rfl
        simp -implicitDefEqProofs (disch := (first | omega | decide)) only [go_sem, ↓reduceIte, seval, hlt', e1, h1, hh, wrap_i64, List.length_map]
      | true =>
        obtain ⟨o1, o2, o3⟩ := one_parts h1
        simp only at o1 o2 o3
        by_cases h0 : 0 < k
        · have h0' : (0 : Int) < (k : Int) := by omega
          have hk1 : k - 1 < l.length := by omega
          have e0 := run_get hk1
          have hpo := hp hk1 h0
          have hpt : prevT l k = some l[k - 1].t := by
            unfold prevT; rw [if_neg (by omega), List.getElem?_eq_getElem hk1]; rfl
          have t0 : ((k : Int) - 1).toNat = k - 1 := by omega
          have b0 : (0 : Int) ≤ (k : Int) - 1 := by omega
          have b1 : (k : Int) - 1 < (l.length : Int) := by omega
          rw [hpt] at hd
          generalize hy : l[k - 1] = y at *
          obtain ⟨f', t'⟩ := y
          obtain ⟨p1, p2, p3⟩ := one_parts hpo
          simp only at p1 p2 p3 hd
          by_cases h2 : f - t' < 2
          · have hh : rightL l = false := by
              rw [hd]; have : ¬ t' + 2 ≤ f := by omega
              simp [this]
            simp -implicitDefEqProofs (disch := (first | omega | decide)) only [go_sem, ↓reduceIte, seval, hlt', e1, e0, h1, h0', t0, b0, b1, h2, hh, wrap_i64, List.length_map]
          · simp -implicitDefEqProofs (disch := (first | omega | decide)) only [go_sem, ↓reduceIte, seval, hlt', e1, e0, h1, h0', t0, b0, b1, h2, wrap_i64, List.length_map]
            have h3 : t' + 2 ≤ f := by omega
            exact next (by rw [hd, h1]; simp [h3]) h1
        · have h0' : ¬ (0 : Int) < (k : Int) := by omega
          simp -implicitDefEqProofs (disch := (first | omega | decide)) only [go_sem, ↓reduceIte, seval, hlt', e1, h1, h0', wrap_i64, List.length_map]
          have hk0 : k = 0 := by omega
          exact next (by rw [hd, h1]; simp [prevT, hk0]) h1
    · have hlt' : ¬ (k : Int) < (l.length : Int) := by omega
      have hh : rightL l = true := by
        rw [hd, List.drop_of_length_le (by omega)]; cases prevT l k <;> rfl
      simp -implicitDefEqProofs (disch := (first | omega | decide)) only [go_sem, ↓reduceIte, seval, hlt', hh, List.length_map]
theorem ok_ref13_Has : codeOK Try.prog T13b Try.f39.ntmps (Try.f39.body.getD .skip) = true := by kernel_rfl
theorem c_ref13_Has (l : List Run) (n : Int) (hl : l.length ≤ 4611686018427387904) : CallA Try.prog 39 [.slc (l.map Run.enc), .int .i64 n] (· = .bool (hasL13 l n)) := by
  refine callA_of_body T13b_ok mixed Try.func39 rfl (Nat.le_of_ble_eq_true rfl) ok_ref13_Has ?_
  unfold Try.f39
  simp -implicitDefEqProofs (disch := (first | omega | decide)) only [go_sem, ↓reduceIte, seval, List.length_map]
  refine wpA_loop [0, 1] (ι := {k : Nat // k ≤ l.length ∧ hasL13 l n = hasL13 (l.drop k) n}) (fun p => [(5, .int .i64 p.1), (4, .bool false)]) (fun _ => []) (fun p => l.length - p.1) ⟨0, by omega, rfl⟩ (Nat.zero_le _) ?_ ?_
  · simp -implicitDefEqProofs (disch := (first | omega | decide)) only [go_sem, ↓reduceIte, seval]
  · rintro ⟨k, hk, hd⟩
    simp only
    by_cases hlt : k < l.length
    · have hlt' : (k : Int) < (l.length : Int) := by omega
      have e1 := run_get hlt
      rw [List.drop_eq_getElem_cons hlt] at hd
      generalize hx : l[k] = x at *
      obtain ⟨f, t⟩ := x
      simp only [hasL13, List.any_cons] at hd
      have next : hasL13 l n = hasL13 (l.drop (k + 1)) n → ∃ j : {k : Nat // k ≤ l.length ∧ hasL13 l n = hasL13 (l.drop k) n}, (k : Int) + 1 = (j.1 : Int) ∧ l.length - j.1 < l.length - k := fun h => ⟨⟨k + 1, hlt, h⟩, by simp, by show l.length - (k + 1) < l.length - k; omega⟩
      cases h1 : oneR ⟨f, t⟩ with
      | false =>
        simp -implicitDefEqProofs (disch := (first | omega | decide)) only [go_sem, ↓reduceIte, seval, hlt', e1, h1, wrap_i64, List.length_map]
        exact next (by rw [h1] at hd; simpa [hasL13] using hd)
      | true =>
        by_cases h2 : f ≤ n
        · by_cases h3 : n ≤ t
          · have hh : hasL13 l n = true := by unfold hasL13; rw [hd]; simp [h1, h2, h3]
            simp -implicitDefEqProofs (disch := (first | omega | decide)) only [go_sem, ↓reduceIte, seval, hlt', e1, h1, h2, h3, hh, wrap_i64, List.length_map]
          · simp -implicitDefEqProofs (disch := (first | omega | decide)) only [go_sem, ↓reduceIte, seval, hlt', e1, h1, h2, h3, wrap_i64, List.length_map]
            exact next (by rw [h1] at hd; simpa [hasL13, h2, h3] using hd)
        · simp -implicitDefEqProofs (disch := (first | omega | decide)) only [go_sem, ↓reduceIte, seval, hlt', e1, h1, h2, wrap_i64, List.length_map]
          exact next (by rw [h1] at hd; simpa [hasL13, h2] using hd)
    · have hlt' : ¬ (k : Int) < (l.length : Int) := by omega
      have hh : hasL13 l n = false := by rw [hd, List.drop_of_length_le (by omega)]; rfl
      simp -implicitDefEqProofs (disch := (first | omega | decide)) only [go_sem, ↓reduceIte, seval, hlt', hh, List.length_map]
end Go.Proofs.Yteconeampdidaaa
