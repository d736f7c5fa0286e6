/- How the abstract executor is carried out by simp: equations, and where simp must not look. -/
import Derived.Test.YtbnmicpgbcfooaaAbsB
namespace Go.Abs

theorem wpA_mono {P : Program} {Γ : Tab} : ∀ {c : Code} {Q Q' : Ex → St → Prop} {σ : St}, (∀ e τ, Q e τ → Q' e τ) → wpA P Γ c Q σ → wpA P Γ c Q' σ := by
  intro c
  induction c with
  | skip => intro Q Q' σ h hw; simp only [wpA] at hw ⊢; exact h _ _ hw
  | label l => intro Q Q' σ h hw; simp only [wpA] at hw ⊢; exact h _ _ hw
  | exit id => intro Q Q' σ h hw; simp only [wpA] at hw ⊢; exact h _ _ hw
  | ret => intro Q Q' σ h hw; simp only [wpA] at hw ⊢; exact h _ _ hw
  | seq x y ihx ihy =>
    intro Q Q' σ h hw
    simp only [wpA] at hw ⊢
    refine ihx (fun e τ hq => ?_) hw
    cases e with
    | normal => exact ihy h hq
    | exit i => exact h _ _ hq
    | ret => exact h _ _ hq
  | cond c x y ihx ihy =>
    intro Q Q' σ h hw
    simp only [wpA, condA] at hw ⊢
    obtain ⟨t, ht, h1, h2⟩ := hw
    exact ⟨t, ht, fun e => ihx h (h1 e), fun e => ihy h (h2 e)⟩
  | block id x ih =>
    intro Q Q' σ h hw
    simp only [wpA] at hw ⊢
    refine ih (fun e τ hq => ?_) hw
    cases e with
    | normal => exact h _ _ hq
    | exit i =>
      simp only [blockQ] at hq ⊢
      split at hq
      · rename_i e; rw [if_pos e]; exact h _ _ hq
      · rename_i e; rw [if_neg e]; exact h _ _ hq
    | ret => exact h _ _ hq
  | loop x ih =>
    intro Q Q' σ h hw
    simp only [wpA] at hw ⊢
    obtain ⟨ι, inv, μ, h0, hs⟩ := hw
    refine ⟨ι, inv, μ, h0, fun i => ih (fun e τ hq => ?_) (hs i)⟩
    cases e with
    | normal => exact hq
    | exit i => exact h _ _ hq
    | ret => exact h _ _ hq
  | region id ops d =>
    intro Q Q' σ h hw
    simp only [wpA] at hw ⊢
    revert hw
    cases Γ.ords id with
    | nil =>
      rintro ⟨τ, hr, hq⟩
      exact ⟨τ, hr, h _ _ hq⟩
    | cons o os =>
      have key : ∀ os : List (List Nat), ordsW P Γ (dstsOf ops.toList) (annS P σ.H.length ops.toList) (pre P ops.toList σ) (Q .normal) os → ordsW P Γ (dstsOf ops.toList) (annS P σ.H.length ops.toList) (pre P ops.toList σ) (Q' .normal) os := by
        intro os
        induction os with
        | nil => exact fun h => h
        | cons o os ih => rintro ⟨⟨τ, hr, hq⟩, h2⟩; exact ⟨⟨τ, hr, h _ _ hq⟩, ih h2⟩
      exact key _
  | _ => intro Q Q' σ _ hw; simp only [wpA] at hw

section
variable {P : Program} {Γ : Tab} {Q : Ex → St → Prop} {σ : St}
@[go_sem] theorem wpA_skip : wpA P Γ .skip Q σ = Q .normal σ := by simp only [wpA]
@[go_sem] theorem wpA_label {l : Nat} : wpA P Γ (.label l) Q σ = Q .normal σ := by simp only [wpA]
@[go_sem] theorem wpA_seq {a b : Code} : wpA P Γ (.seq a b) Q σ = wpA P Γ a (seqQ (wpA P Γ b) Q) σ := by simp only [wpA]
@[go_sem] theorem wpA_cond {c : Operand} {a b : Code} : wpA P Γ (.cond c a b) Q σ = condA (σ.ev c) (wpA P Γ a Q σ) (wpA P Γ b Q σ) := by simp only [wpA]
@[go_sem] theorem wpA_block {id : Nat} {c : Code} : wpA P Γ (.block id c) Q σ = wpA P Γ c (blockQ id Q) σ := by simp only [wpA]
@[go_sem] theorem wpA_exit {id : Nat} : wpA P Γ (.exit id) Q σ = Q (.exit id) σ := by simp only [wpA]
@[go_sem] theorem wpA_ret : wpA P Γ .ret Q σ = Q .ret σ := by simp only [wpA]
@[go_sem] theorem wpA_region {σs : List (Nat × A)} {σH : List Obj} {i : Nat} {ops : Array Oper} {d : Bool} : wpA P Γ (.region i ops d) Q (St.mk σs σH) = regW P Γ (Γ.ords i) ops Q (St.mk σs σH) := by simp only [wpA]
@[congr] theorem regW_congr {os os' : List (List Nat)} {ops : Array Oper} (h : os = os') : regW P Γ os ops Q σ = regW P Γ os' ops Q σ := by rw [h]
@[go_sem] theorem regW_nil {σs : List (Nat × A)} {σH : List Obj} {ops : Array Oper} : regW P Γ [] ops Q (St.mk σs σH) = K? (runSeq P Γ (dstsOf ops.toList) ops.toList σH.length (pre P ops.toList (St.mk σs σH))) (Q .normal) := rfl
@[go_sem] theorem regW_cons {σs : List (Nat × A)} {σH : List Obj} {ops : Array Oper} {o : List Nat} {os : List (List Nat)} : regW P Γ (o :: os) ops Q (St.mk σs σH) = ordsW P Γ (dstsOf ops.toList) (annS P σH.length ops.toList) (pre P ops.toList (St.mk σs σH)) (Q .normal) (o :: os) := rfl
@[go_sem] theorem ordsW_nil {ds : List (Option Tmp)} {B : List (Nat × Oper)} {q : St → Prop} : ordsW P Γ ds B σ q [] = True := rfl
@[go_sem] theorem ordsW_cons {ds : List (Option Tmp)} {B : List (Nat × Oper)} {q : St → Prop} {o : List Nat} {os : List (List Nat)} : ordsW P Γ ds B σ q (o :: os) = (K? (runO P Γ ds B o σ) q ∧ ordsW P Γ ds B σ q os) := rfl
@[go_sem] theorem annS_nil {n : Nat} : annS P n [] = [] := rfl
@[go_sem] theorem annS_cons {n : Nat} {o : Oper} {os : List Oper} : annS P n (o :: os) = (n, o) :: annS P (nxt P o.op n) os := rfl
@[go_sem] theorem nthA_zero {x : Nat × Oper} {xs : List (Nat × Oper)} : nthA (x :: xs) 0 = some x := rfl
@[go_sem] theorem nthA_succ {x : Nat × Oper} {xs : List (Nat × Oper)} {i : Nat} : nthA (x :: xs) (i + 1) = nthA xs i := rfl
@[congr] theorem runO_congr {ds : List (Option Tmp)} {B B' : List (Nat × Oper)} {is : List Nat} {σ' : St} (hB : B = B') (h : σ = σ') : runO P Γ ds B is σ = runO P Γ ds B' is σ' := by rw [hB, h]
@[congr] theorem wpA_congr {c : Code} {σ' : St} (h : σ = σ') : wpA P Γ c Q σ = wpA P Γ c Q σ' := by rw [h]
@[go_sem] theorem seqQ_normal {W : (Ex → St → Prop) → St → Prop} : seqQ W Q .normal σ = W Q σ := rfl
@[go_sem] theorem seqQ_exit {W : (Ex → St → Prop) → St → Prop} {i : Nat} : seqQ W Q (.exit i) σ = Q (.exit i) σ := rfl
@[go_sem] theorem seqQ_ret {W : (Ex → St → Prop) → St → Prop} : seqQ W Q .ret σ = Q .ret σ := rfl
@[go_sem] theorem blockQ_normal {id : Nat} : blockQ id Q .normal σ = Q .normal σ := rfl
@[go_sem] theorem blockQ_exit {id i : Nat} : blockQ id Q (.exit i) σ = if i = id then Q .normal σ else Q (.exit i) σ := rfl
@[go_sem] theorem blockQ_ret {id : Nat} : blockQ id Q .ret σ = Q .ret σ := rfl
@[go_sem] theorem loopQ_normal {N : St → Prop} : loopQ N Q .normal σ = N σ := rfl
@[go_sem] theorem loopQ_exit {N : St → Prop} {i : Nat} : loopQ N Q (.exit i) σ = Q (.exit i) σ := rfl
@[go_sem] theorem loopQ_ret {N : St → Prop} : loopQ N Q .ret σ = Q .ret σ := rfl
@[congr] theorem seqQ_congr {W : (Ex → St → Prop) → St → Prop} {e e' : Ex} {σ' : St} (h : e = e') (h' : σ = σ') : seqQ W Q e σ = seqQ W Q e' σ' := by rw [h, h']
@[congr] theorem blockQ_congr {id : Nat} {e e' : Ex} {σ' : St} (h : e = e') (h' : σ = σ') : blockQ id Q e σ = blockQ id Q e' σ' := by rw [h, h']
@[congr] theorem loopQ_congr {N : St → Prop} {e e' : Ex} {σ' : St} (h : e = e') (h' : σ = σ') : loopQ N Q e σ = loopQ N Q e' σ' := by rw [h, h']
@[go_sem high] theorem condA_true {p q : Prop} : condA (.bool true) p q = p := by simp [condA]
@[go_sem high] theorem condA_false {p q : Prop} : condA (.bool false) p q = q := by simp [condA]
@[go_sem] theorem condA_bool {b : Bool} {p q : Prop} : condA (.bool b) p q = ((b = true → p) ∧ (b = false → q)) := by
  simp [condA]
@[go_sem ↓ high] theorem condA_true' {p q : Prop} : condA (.bool true) p q = p := by simp [condA]
@[go_sem ↓ high] theorem condA_false' {p q : Prop} : condA (.bool false) p q = q := by simp [condA]
@[congr] theorem condA_congr {c c' : A} {p q : Prop} (h : c = c') : condA c p q = condA c' p q := by rw [h]
end
section
variable {α β : Type}
@[go_sem high] theorem K_some {x : α} {q : α → Prop} : K? (some x) q = q x := by simp [K?]
@[go_sem high] theorem K_none {q : α → Prop} : K? (none : Option α) q = False := by simp [K?]
@[go_sem] theorem K_bind {o : Option α} {f : α → Option β} {q : β → Prop} : K? (o.bind f) q = K? o (fun x => K? (f x) q) := by
  cases o <;> simp [K?]
@[go_sem] theorem K_map {o : Option α} {f : α → β} {q : β → Prop} : K? (o.map f) q = K? o (fun x => q (f x)) := by
  cases o <;> simp [K?]
@[go_sem] theorem K_ite {c : Prop} [Decidable c] {a b : Option α} {q : α → Prop} : K? (if c then a else b) q = ((c → K? a q) ∧ (¬ c → K? b q)) := by
  split <;> simp_all
@[go_sem high] theorem K_ite_none {c : Prop} [Decidable c] {a : Option α} {q : α → Prop} : K? (if c then a else none) q = (c ∧ K? a q) := by
  split <;> simp_all [K?]
@[go_sem ↓ high] theorem K_some' {x : α} {q : α → Prop} : K? (some x) q = q x := by simp [K?]
@[congr] theorem K_congr {o o' : Option α} {q : α → Prop} (h : o = o') : K? o q = K? o' q := by rw [h]
@[go_sem] theorem K_getElem {l : List α} {i : Nat} {q : α → Prop} (h : i < l.length) : K? l[i]? q = q l[i] := by
  simp [K?, h]
end


section
variable {P : Program} {Γ : Tab} {σ : St} {n : Nat} {d : Option Tmp} {ds : List (Option Tmp)} {q : St → Prop}
@[go_sem] theorem K_runSeq_nil {n : Nat} : K? (runSeq P Γ ds [] n σ) q = q σ := by simp [runSeq, K?]
@[go_sem] theorem K_runSeq_cons {o : Oper} {os : List Oper} {n : Nat} : K? (runSeq P Γ ds (o :: os) n σ) q = K? (exec1 P Γ ds n o σ) (fun τ => K? (runSeq P Γ ds os (nxt P o.op n) τ) q) := by
  simp only [runSeq, K_bind]
@[go_sem] theorem K_runO_nil {B : List (Nat × Oper)} : K? (runO P Γ ds B [] σ) q = q σ := by simp [runO, K?]
@[go_sem] theorem K_runO_cons {B : List (Nat × Oper)} {i : Nat} {is : List Nat} : K? (runO P Γ ds B (i :: is) σ) q = K? (nthA B i) (fun x => K? (exec1 P Γ ds x.1 x.2 σ) (fun τ => K? (runO P Γ ds B is τ) q)) := by
  simp only [runO, K_bind]
@[go_sem] theorem pre_nil : pre P [] σ = σ := rfl
@[go_sem] theorem pre_cons {o : Oper} {os : List Oper} : pre P (o :: os) σ = pre P os (grow P o.op σ) := rfl
@[congr] theorem pre_congr {os : List Oper} {σ' : St} (h : σ = σ') : pre P os σ = pre P os σ' := by rw [h]
@[congr] theorem runSeq_congr {os : List Oper} {σ' : St} {n n' : Nat} (h : σ = σ') (h' : n = n') : runSeq P Γ ds os n σ = runSeq P Γ ds os n' σ' := by rw [h, h']
@[congr] theorem exec1_congr {o : Oper} {n' : Nat} {σ' : St} (hn : n = n') (h : σ = σ') : exec1 P Γ ds n o σ = exec1 P Γ ds n' o σ' := by rw [h, hn]
@[go_sem] theorem exec1_plain {op : Op} {t : TypeId} {p : String} {af : Array Edge} : exec1 P Γ ds n ⟨d, op, t, p, af, none⟩ σ = execOp P Γ n d op σ := by
  simp [exec1, wantA]
/-- A guarded operation. -/
def guardA (b : A) (want : Bool) (x y : Option St) : Option St :=
  match b with
  | .bool b => if (b == want) = true then x else y
  | .any => none
  | _ => y
@[go_sem] theorem exec1_guard {σs : List (Nat × A)} {σH : List Obj} {op : Op} {t : TypeId} {p : String} {af : Array Edge} {j : Nat} {w : Bool} :
    exec1 P Γ ds n ⟨d, op, t, p, af, some (j, w)⟩ (St.mk σs σH) = (match nthD ds j with | some t => guardA (look σs t) w (execOp P Γ n d op (St.mk σs σH)) (some ((St.mk σs σH).put d (.tup []))) | none => some ((St.mk σs σH).put d (.tup []))) := by
  simp only [exec1, wantA]
  cases nthD ds j with
  | none => simp
  | some t => simp only []; cases look σs t <;> simp [guardA]
@[go_sem] theorem guardA_bool {b w : Bool} {x y : Option St} : guardA (.bool b) w x y = if (b == w) = true then x else y := rfl
@[go_sem] theorem guardA_undef {w : Bool} {x y : Option St} : guardA (.tup []) w x y = y := rfl
@[go_sem] theorem nthD_zero {x : Option Tmp} {xs : List (Option Tmp)} : nthD (x :: xs) 0 = x := rfl
@[go_sem] theorem nthD_succ {x : Option Tmp} {xs : List (Option Tmp)} {m : Nat} : nthD (x :: xs) (m + 1) = nthD xs m := rfl
@[go_sem] theorem dstsOf_nil : dstsOf [] = [] := rfl
@[go_sem] theorem dstsOf_cons {o : Oper} {os : List Oper} : dstsOf (o :: os) = o.dst :: dstsOf os := rfl

variable {x y z : Operand} {t u : TypeId} {k : Nat}
@[go_sem] theorem grow_move : grow P (.move x) σ = σ := rfl
@[go_sem] theorem nxt_move {n : Nat} : nxt P (.move x) n = n := rfl
@[go_sem] theorem grow_assign : grow P (.assign x) σ = σ := rfl
@[go_sem] theorem nxt_assign {n : Nat} : nxt P (.assign x) n = n := rfl
@[go_sem] theorem grow_pick : grow P (.pick x y z) σ = σ := rfl
@[go_sem] theorem nxt_pick {n : Nat} : nxt P (.pick x y z) n = n := rfl
@[go_sem] theorem grow_build {ps : Array (Nat × Operand)} : grow P (.build t ps) σ = σ := rfl
@[go_sem] theorem nxt_build {ps : Array (Nat × Operand)} {n : Nat} : nxt P (.build t ps) n = n := rfl
@[go_sem] theorem grow_buildSlice {ps : Array (Nat × Operand)} : grow P (.buildSlice t k ps) σ = σ := rfl
@[go_sem] theorem nxt_buildSlice {ps : Array (Nat × Operand)} {n : Nat} : nxt P (.buildSlice t k ps) n = n := rfl
@[go_sem] theorem grow_load : grow P (.load t x) σ = σ := rfl
@[go_sem] theorem nxt_load {n : Nat} : nxt P (.load t x) n = n := rfl
@[go_sem] theorem grow_store : grow P (.store t x y) σ = σ := rfl
@[go_sem] theorem nxt_store {n : Nat} : nxt P (.store t x y) n = n := rfl
@[go_sem] theorem grow_nilCheck : grow P (.nilCheck x) σ = σ := rfl
@[go_sem] theorem nxt_nilCheck {n : Nat} : nxt P (.nilCheck x) n = n := rfl
@[go_sem] theorem grow_binOp {o : BinOp} : grow P (.binOp o t x y u) σ = σ := rfl
@[go_sem] theorem nxt_binOp {o : BinOp} {n : Nat} : nxt P (.binOp o t x y u) n = n := rfl
@[go_sem] theorem grow_unOp {o : UnOp} : grow P (.unOp o t x) σ = σ := rfl
@[go_sem] theorem nxt_unOp {o : UnOp} {n : Nat} : nxt P (.unOp o t x) n = n := rfl
@[go_sem] theorem grow_makeFunc {f : Fn} {xs ys : Array Operand} : grow P (.makeFunc f xs ys) σ = σ := rfl
@[go_sem] theorem nxt_makeFunc {f : Fn} {xs ys : Array Operand} {n : Nat} : nxt P (.makeFunc f xs ys) n = n := rfl
@[go_sem] theorem grow_slice {l h m : Option Operand} : grow P (.slice t x l h m) σ = σ := rfl
@[go_sem] theorem nxt_slice {l h m : Option Operand} {n : Nat} : nxt P (.slice t x l h m) n = n := rfl
@[go_sem] theorem grow_fieldAddr : grow P (.fieldAddr t x k) σ = σ := rfl
@[go_sem] theorem nxt_fieldAddr {n : Nat} : nxt P (.fieldAddr t x k) n = n := rfl
@[go_sem] theorem grow_field : grow P (.field t x k) σ = σ := rfl
@[go_sem] theorem nxt_field {n : Nat} : nxt P (.field t x k) n = n := rfl
@[go_sem] theorem grow_indexAddr : grow P (.indexAddr t x y) σ = σ := rfl
@[go_sem] theorem nxt_indexAddr {n : Nat} : nxt P (.indexAddr t x y) n = n := rfl
@[go_sem] theorem grow_index : grow P (.index t x y) σ = σ := rfl
@[go_sem] theorem nxt_index {n : Nat} : nxt P (.index t x y) n = n := rfl
@[go_sem] theorem grow_extract : grow P (.extract x k) σ = σ := rfl
@[go_sem] theorem nxt_extract {n : Nat} : nxt P (.extract x k) n = n := rfl
@[go_sem] theorem grow_alloc {σs : List (Nat × A)} {σH : List Obj} : grow P (.alloc t) (St.mk σs σH) = ⟨σs, σH ++ [.row 0 []]⟩ := rfl
@[go_sem] theorem nxt_alloc {n : Nat} : nxt P (.alloc t) n = n + 1 := rfl
@[go_sem] theorem grow_box {σs : List (Nat × A)} {σH : List Obj} : grow P (.box t x) (St.mk σs σH) = ⟨σs, σH ++ [.row 0 []]⟩ := rfl
@[go_sem] theorem nxt_box {n : Nat} : nxt P (.box t x) n = n + 1 := rfl
@[go_sem] theorem grow_convert {σs : List (Nat × A)} {σH : List Obj} : grow P (.convert t u x) (St.mk σs σH) = if isS2B P t u = true then ⟨σs, σH ++ [.row 0 []]⟩ else (St.mk σs σH) := rfl
@[go_sem] theorem nxt_convert {n : Nat} : nxt P (.convert t u x) n = if isS2B P t u = true then n + 1 else n := rfl
@[go_sem] theorem grow_len {xs : Array Operand} {ts : Array TypeId} : grow P (.call ⟨.builtin .len, xs, ts⟩) σ = σ := rfl
@[go_sem] theorem nxt_len {xs : Array Operand} {ts : Array TypeId} {n : Nat} : nxt P (.call ⟨.builtin .len, xs, ts⟩) n = n := rfl
@[go_sem] theorem grow_min {xs : Array Operand} {ts : Array TypeId} : grow P (.call ⟨.builtin .min, xs, ts⟩) σ = σ := rfl
@[go_sem] theorem nxt_min {xs : Array Operand} {ts : Array TypeId} {n : Nat} : nxt P (.call ⟨.builtin .min, xs, ts⟩) n = n := rfl
@[go_sem] theorem grow_max {xs : Array Operand} {ts : Array TypeId} : grow P (.call ⟨.builtin .max, xs, ts⟩) σ = σ := rfl
@[go_sem] theorem nxt_max {xs : Array Operand} {ts : Array TypeId} {n : Nat} : nxt P (.call ⟨.builtin .max, xs, ts⟩) n = n := rfl
@[go_sem] theorem grow_append {σs : List (Nat × A)} {σH : List Obj} {xs : Array Operand} {ts : Array TypeId} : grow P (.call ⟨.builtin .append, xs, ts⟩) (St.mk σs σH) = ⟨σs, σH ++ [.row 0 []]⟩ := rfl
@[go_sem] theorem nxt_append {xs : Array Operand} {ts : Array TypeId} {n : Nat} : nxt P (.call ⟨.builtin .append, xs, ts⟩) n = n + 1 := rfl
@[go_sem] theorem grow_clear {xs : Array Operand} {ts : Array TypeId} : grow P (.call ⟨.builtin .clear, xs, ts⟩) σ = σ := rfl
@[go_sem] theorem nxt_clear {xs : Array Operand} {ts : Array TypeId} {n : Nat} : nxt P (.call ⟨.builtin .clear, xs, ts⟩) n = n := rfl
@[go_sem] theorem grow_call {xs : Array Operand} {ts : Array TypeId} : grow P (.call ⟨.value x, xs, ts⟩) σ = σ := rfl
@[go_sem] theorem nxt_call {xs : Array Operand} {ts : Array TypeId} {n : Nat} : nxt P (.call ⟨.value x, xs, ts⟩) n = n := rfl

@[go_sem] theorem ex_move : execOp P Γ n d (.move x) σ = some (σ.put d (σ.ev x)) := rfl
@[go_sem] theorem ex_assign : execOp P Γ n d (.assign x) σ = some (σ.put d (σ.ev x)) := rfl
@[go_sem] theorem ex_pick : execOp P Γ n d (.pick x y z) σ = (pickA (σ.ev x) (σ.ev y) (σ.ev z)).map (σ.put d ·) := rfl
@[go_sem] theorem ex_build {ps : List (Nat × Operand)} : execOp P Γ n d (.build t ⟨ps⟩) σ = (buildA P t σ ps).map (σ.put d ·) := rfl
@[go_sem] theorem ex_buildSlice {ps : List (Nat × Operand)} : execOp P Γ n d (.buildSlice t k ⟨ps⟩) σ = (buildSliceA P t k σ ps).map (σ.put d ·) := rfl
@[go_sem] theorem ex_load {σs : List (Nat × A)} {σH : List Obj} : execOp P Γ n d (.load t x) (St.mk σs σH) = (loadA P t σH ((St.mk σs σH).ev x)).map ((St.mk σs σH).put d ·) := rfl
@[go_sem] theorem ex_nilCheck : execOp P Γ n d (.nilCheck x) σ = (nilCheckA (σ.ev x)).map (σ.put d ·) := rfl
@[go_sem] theorem ex_binOp {o : BinOp} : execOp P Γ n d (.binOp o t x y u) σ = (binA (eqTy P t) (tyBool P t) (tyPtr P t) (tyElem P t).isSome o (σ.ev x) (σ.ev y)).map (σ.put d ·) := rfl
@[go_sem] theorem ex_unOp {o : UnOp} : execOp P Γ n d (.unOp o t x) σ = (unA o (σ.ev x)).map (σ.put d ·) := rfl
@[go_sem] theorem ex_makeFunc {f : Fn} {xs ys : List Operand} : execOp P Γ n d (.makeFunc f ⟨xs⟩ ⟨ys⟩) σ = (makeFuncA f (σ.evL xs) (σ.evL ys)).map (σ.put d ·) := rfl
@[go_sem] theorem ex_slice {l h m : Option Operand} : execOp P Γ n d (.slice t x l h m) σ = (if (tyArr P t).isNone = true ∧ (σ.bd l).ok = true ∧ (σ.bd h).ok = true then sliceA (tyStr P t) (elSize P t) (σ.ev x) (σ.bd l) (σ.bd h) (σ.bd m) else none).map (σ.put d ·) := rfl
@[go_sem] theorem ex_fieldAddr : execOp P Γ n d (.fieldAddr t x k) σ = (fieldAddrI (fieldInfo P t k) (σ.ev x)).map (σ.put d ·) := rfl
@[go_sem] theorem ex_field : execOp P Γ n d (.field t x k) σ = (fieldA P (fieldInfo P t k) (σ.ev x)).map (σ.put d ·) := rfl
@[go_sem] theorem ex_indexAddr : execOp P Γ n d (.indexAddr t x y) σ = (indexAddrA P t (σ.ev x) (σ.ev y)).map (σ.put d ·) := rfl
@[go_sem] theorem ex_index : execOp P Γ n d (.index t x y) σ = (indexA P t (σ.ev x) (σ.ev y)).map (σ.put d ·) := rfl
@[go_sem] theorem ex_extract : execOp P Γ n d (.extract x k) σ = (extractA (σ.ev x) k).map (σ.put d ·) := rfl
@[go_sem] theorem ex_alloc : execOp P Γ n d (.alloc t) σ = allocA σ n d (zeroA P t) := rfl
@[go_sem] theorem ex_box : execOp P Γ n d (.box t x) σ = boxA σ n d (σ.ev x) := rfl
@[go_sem] theorem ex_store : execOp P Γ n d (.store t x y) σ = storeA σ d (tySize P t) (σ.ev x) (σ.ev y) := rfl
@[go_sem] theorem ex_convert : execOp P Γ n d (.convert t u x) σ = convX P σ n d t u (σ.ev x) := rfl
@[go_sem] theorem ex_len : execOp P Γ n d (.call ⟨.builtin .len, ⟨[x]⟩, ⟨[t]⟩⟩) σ = (lenA P t (σ.ev x)).map (σ.put d ·) := rfl
@[go_sem] theorem ex_min {xs : List Operand} {ts : Array TypeId} : execOp P Γ n d (.call ⟨.builtin .min, ⟨xs⟩, ts⟩) σ = (minA (σ.evL xs)).map (σ.put d ·) := rfl
@[go_sem] theorem ex_max {xs : List Operand} {ts : Array TypeId} : execOp P Γ n d (.call ⟨.builtin .max, ⟨xs⟩, ts⟩) σ = (maxA (σ.evL xs)).map (σ.put d ·) := rfl
@[go_sem] theorem ex_append : execOp P Γ n d (.call ⟨.builtin .append, ⟨[x, y]⟩, ⟨[t, u]⟩⟩) σ = appendX P Γ.fix σ n d t u (σ.ev x) (σ.ev y) := rfl
@[go_sem] theorem ex_clear : execOp P Γ n d (.call ⟨.builtin .clear, ⟨[x]⟩, ⟨[t]⟩⟩) σ = clearA P σ d t (σ.ev x) := rfl
@[go_sem] theorem ex_call {xs : List Operand} {ts : Array TypeId} : execOp P Γ n d (.call ⟨.value x, ⟨xs⟩, ts⟩) σ = if isEff Γ x = true then callHV Γ σ d (σ.ev x) (σ.evL xs) else callV Γ σ d (σ.ev x) (σ.evL xs) := rfl
@[go_sem] theorem isEff_func {f : FuncId} : isEff Γ (.func f) = Γ.eff f := rfl
@[go_sem] theorem isEff_tmp {i : Nat} : isEff Γ (.tmp i) = Γ.effT := rfl

@[go_sem] theorem ev_tmp {σs : List (Nat × A)} {σH : List Obj} {i : Nat} : (St.mk σs σH).ev (.tmp i) = look σs i := rfl
@[go_sem] theorem ev_const {v : Value} : σ.ev (.const v) = toA v := rfl
@[go_sem] theorem ev_func {f : FuncId} : σ.ev (.func f) = .fn f [] := rfl
@[go_sem] theorem evL_nil : σ.evL [] = [] := rfl
@[go_sem] theorem evL_cons {xs : List Operand} : σ.evL (x :: xs) = σ.ev x :: σ.evL xs := rfl
@[go_sem] theorem put_some {σs : List (Nat × A)} {σH : List Obj} {v : A} {i : Nat} : (St.mk σs σH).put (some i) v = ⟨(i, v) :: σs, σH⟩ := rfl
@[go_sem] theorem put_none {v : A} : σ.put none v = σ := rfl
@[go_sem] theorem bd_none : σ.bd none = .none := rfl
@[go_sem] theorem bd_some : σ.bd (some x) = bdOf (σ.ev x) := rfl
@[go_sem] theorem bdOf_int {i : IntKind} {m : Int} : bdOf (.int i m) = .some m := rfl
@[go_sem] theorem Bd_get_none {m : Int} : Bd.get m .none = m := rfl
@[go_sem] theorem Bd_get_some {m r : Int} : Bd.get m (.some r) = r := rfl
@[go_sem] theorem Bd_ok_none : Bd.ok .none = true := rfl
@[go_sem] theorem Bd_ok_some {r : Int} : Bd.ok (.some r) = true := rfl
@[go_sem] theorem look_nil {i : Nat} : look [] i = .any := rfl
@[go_sem] theorem look_cons {i j : Nat} {v : A} {r : List (Nat × A)} : look ((i, v) :: r) j = if i = j then v else look r j := rfl
@[go_sem] theorem setH_eq {σs : List (Nat × A)} {σH : List Obj} {o : Obj} : (St.mk σs σH).setH n o = ⟨σs, setO σH n o⟩ := rfl
@[go_sem] theorem setO_zero {a b : Obj} {r : List Obj} : setO (a :: r) 0 b = b :: r := rfl
@[go_sem] theorem setO_succ {a b : Obj} {r : List Obj} : setO (a :: r) (n + 1) b = a :: setO r n b := rfl
@[go_sem] theorem nthO_zero {a : Obj} {r : List Obj} : nthO (a :: r) 0 = some a := rfl
@[go_sem] theorem nthO_succ {a : Obj} {r : List Obj} : nthO (a :: r) (n + 1) = nthO r n := rfl
@[go_sem] theorem setNth_zero {a b : A} {r : List A} : setNth (a :: r) 0 b = b :: r := rfl
@[go_sem] theorem setNth_succ {a b : A} {r : List A} : setNth (a :: r) (n + 1) b = a :: setNth r n b := rfl
end

section
variable {a b c : A} {cs ds es : List A} {k n i : Nat} {q : IntKind} {m r : Int} {s s' : List UInt8} {H : List Obj} {P : Program} {t u : TypeId} {p e : Bool} {σ : St} {d : Option Tmp} {kl : List CK} {ko : Option (List CK)} {sl k0 : Bool}
@[go_sem] theorem toA_int : toA (.int q m) = .int q m := rfl
@[go_sem] theorem toA_bool : toA (.bool p) = .bool p := rfl
@[go_sem] theorem toA_str {l : List UInt8} : toA (.string ⟨⟨l⟩⟩) = .str l := rfl
@[go_sem] theorem toA_nils : toA (.slice none 0 0) = .nils := rfl
@[go_sem] theorem toA_nilp : toA (.pointer none) = .nilp := rfl
@[go_sem] theorem pick_true : pickA (.bool true) a b = some a := rfl
@[go_sem] theorem pick_false : pickA (.bool false) a b = some b := rfl
@[go_sem] theorem pick_bool : pickA (.bool p) a b = some (if p then a else b) := rfl
@[go_sem] theorem load_dptr : loadA P t H (.dptr cs) = loadC P t cs := rfl
@[go_sem] theorem load_ref : loadA P t H (.ref n i) = (match nthO H n with | some (.box cs) => loadC P t (cs.drop i) | _ => none) := rfl
@[go_sem] theorem load_eref : loadA P t H (.eref n i k) = (match nthO H n with | some (.row _ es) => (es[i]?).bind fun e => loadC P t (e.cells.drop k) | _ => none) := rfl
@[go_sem] theorem loadC_eq : loadC P t cs = (match tyAgg P t with | some true => (match tySize P t with | some n => if n ≤ cs.length then some (.agg (cs.take n)) else none | none => none) | some false => cs.head? | none => none) := rfl
@[go_sem] theorem nilCheck_dptr : nilCheckA (.dptr cs) = some (.dptr cs) := rfl
@[go_sem] theorem nilCheck_ref : nilCheckA (.ref n i) = some (.ref n i) := rfl
@[go_sem] theorem nilCheck_eref : nilCheckA (.eref n i k) = some (.eref n i k) := rfl
@[go_sem] theorem nilCheck_fn : nilCheckA (.fn n cs) = some (.fn n cs) := rfl
@[go_sem] theorem fieldI_some {f : Nat × TypeId} : fieldAddrI (some f) a = fieldAddrA f.1 a := rfl
@[go_sem] theorem field_dptr : fieldAddrA n (.dptr cs) = some (.dptr (cs.drop n)) := rfl
@[go_sem] theorem field_ref : fieldAddrA n (.ref i k) = some (.ref i (k + n)) := rfl
@[go_sem] theorem field_eref {j : Nat} : fieldAddrA n (.eref i j k) = some (.eref i j (k + n)) := rfl
@[go_sem] theorem fieldA_agg {f : Nat × TypeId} : fieldA P (some f) (.agg cs) = loadC P f.2 (cs.drop f.1) := rfl
@[go_sem] theorem index_str : indexA P t (.str s) (.int q m) = (if tyStr P t = true ∧ 0 ≤ m then (s[m.toNat]?).map encU8 else none) := rfl
@[go_sem] theorem index_agg : indexA P t (.agg cs) (.int q m) = (match tyArr P t with | some (n, e) => (match tySize P e with | some k => if 0 ≤ m ∧ m < n then loadC P e (cs.drop (m.toNat * k)) else none | none => none) | none => none) := rfl
@[go_sem] theorem indexAddr_int : indexAddrA P t a (.int q m) = (match tyElem P t with | some e => (match tySize P e with | some k => indexAddrE k m a | none => none) | none => (match tyArr P t with | some (n, e) => (match tySize P e with | some k => indexAddrR n k m a | none => none) | none => none)) := rfl
@[go_sem] theorem indexE_slc : indexAddrE k m (.slc es) = getE k m es := rfl
@[go_sem] theorem indexE_clip : indexAddrE k m (.clip es) = getE k m es := rfl
@[go_sem] theorem indexE_row {j l : Nat} : indexAddrE k m (.row n i j l p) = (if k = j ∧ 0 ≤ m ∧ m < l then some (.eref n (i + m.toNat) 0) else none) := rfl
@[go_sem] theorem indexR_ref {j : Nat} : indexAddrR n k m (.ref i j) = (if 0 ≤ m ∧ m < n then some (.ref i (j + m.toNat * k)) else none) := rfl
@[go_sem] theorem indexR_dptr : indexAddrR n k m (.dptr cs) = (if 0 ≤ m ∧ m < n then some (.dptr (cs.drop (m.toNat * k))) else none) := rfl
@[go_sem] theorem getE_eq : getE k m es = (if 0 ≤ m then es[m.toNat]? else none).bind fun y => if k = y.cells.length then some (.dptr y.cells) else none := rfl
@[go_sem] theorem extract_tup : extractA (.tup cs) n = cs[n]? := rfl
@[go_sem] theorem len_str : lenA P t (.str s) = if tyStr P t = true then some (.int .i64 s.length) else none := rfl
@[go_sem] theorem len_slc : lenA P t (.slc es) = if (tyElem P t).isSome = true then some (.int .i64 es.length) else none := rfl
@[go_sem] theorem len_clip : lenA P t (.clip es) = if (tyElem P t).isSome = true then some (.int .i64 es.length) else none := rfl
@[go_sem] theorem len_row {j : Nat} : lenA P t (.row n i j k p) = if (tyElem P t).isSome = true then some (.int .i64 k) else none := rfl
@[go_sem] theorem len_nils : lenA P t .nils = if (tyElem P t).isSome = true then some (.int .i64 0) else none := rfl
@[go_sem] theorem min_int {q' : IntKind} : minA [.int q m, .int q' r] = some (.int q (if r < m then r else m)) := rfl
@[go_sem] theorem max_int {q' : IntKind} : maxA [.int q m, .int q' r] = some (.int q (if r > m then r else m)) := rfl
@[go_sem] theorem makeFunc_eq : makeFuncA (.func n) [] cs = some (.fn n cs) := rfl
@[go_sem] theorem un_not : unA .not (.bool p) = some (.bool !p) := rfl
@[go_sem] theorem un_neg : unA .neg (.int q m) = some (.int q (q.wrap (0 - m))) := rfl
@[go_sem] theorem bin_add : binA ko p e sl .add (.int q m) (.int q r) = some (.int q (q.wrap (m + r))) := by simp [binA, binI]
@[go_sem] theorem bin_sub : binA ko p e sl .sub (.int q m) (.int q r) = some (.int q (q.wrap (m - r))) := by simp [binA, binI]
@[go_sem] theorem bin_mul : binA ko p e sl .mul (.int q m) (.int q r) = some (.int q (q.wrap (m * r))) := by simp [binA, binI]
@[go_sem] theorem bin_quo : binA ko p e sl .quo (.int q m) (.int q r) = if r = 0 then none else some (.int q (q.wrap (m.tdiv r))) := by simp [binA, binI]
@[go_sem] theorem bin_rem : binA ko p e sl .rem (.int q m) (.int q r) = if r = 0 then none else some (.int q (m.tmod r)) := by simp [binA, binI]
@[go_sem] theorem bin_and : binA ko p e sl .and (.int q m) (.int q r) = some (.int q (q.wrap ((BitVec.ofInt q.bits m &&& BitVec.ofInt q.bits r).toNat))) := by simp [binA, binI]
@[go_sem] theorem bin_or : binA ko p e sl .or (.int q m) (.int q r) = some (.int q (q.wrap ((BitVec.ofInt q.bits m ||| BitVec.ofInt q.bits r).toNat))) := by simp [binA, binI]
@[go_sem] theorem bin_xor : binA ko p e sl .xor (.int q m) (.int q r) = some (.int q (q.wrap ((BitVec.ofInt q.bits m ^^^ BitVec.ofInt q.bits r).toNat))) := by simp [binA, binI]
@[go_sem] theorem bin_eql : binA ko p e sl .eql (.int q m) (.int q r) = some (.bool (m == r)) := by simp [binA, binI]
@[go_sem] theorem bin_neq : binA ko p e sl .neq (.int q m) (.int q r) = some (.bool (m != r)) := by simp [binA, binI]
@[go_sem] theorem bin_lss : binA ko p e sl .lss (.int q m) (.int q r) = some (.bool (decide (m < r))) := by simp [binA, binI]
@[go_sem] theorem bin_leq : binA ko p e sl .leq (.int q m) (.int q r) = some (.bool (decide (m ≤ r))) := by simp [binA, binI]
@[go_sem] theorem bin_gtr : binA ko p e sl .gtr (.int q m) (.int q r) = some (.bool (decide (r < m))) := by simp [binA, binI]
@[go_sem] theorem bin_geq : binA ko p e sl .geq (.int q m) (.int q r) = some (.bool (decide (r ≤ m))) := by simp [binA, binI]
@[go_sem] theorem bin_shl {q' : IntKind} : binA ko p e sl .shl (.int q m) (.int q' r) = if r < 0 then none else some (.int q (q.wrap (m * 2 ^ (min r.toNat q.bits)))) := rfl
@[go_sem] theorem bin_shr {q' : IntKind} : binA ko p e sl .shr (.int q m) (.int q' r) = if r < 0 then none else some (.int q (m.fdiv (2 ^ (min r.toNat q.bits)))) := rfl
@[go_sem] theorem bin_beql {x y : Bool} : binA ko true e sl .eql (.bool x) (.bool y) = some (.bool (x == y)) := rfl
@[go_sem] theorem bin_bneq {x y : Bool} : binA ko true e sl .neq (.bool x) (.bool y) = some (.bool (x != y)) := rfl
@[go_sem] theorem bin_sadd : binA ko p e sl .add (.str s) (.str s') = if s.length + s'.length ≤ 9223372036854775807 then some (.str (s ++ s')) else none := rfl
@[go_sem] theorem bin_seql : binA ko p e sl .eql (.str s) (.str s') = some (.bool (s == s')) := rfl
@[go_sem] theorem bin_sneq : binA ko p e sl .neq (.str s) (.str s') = some (.bool (s != s')) := rfl
@[go_sem] theorem bin_aeql : binA (some kl) p e sl .eql (.agg cs) (.agg ds) = if hasL kl cs = true ∧ hasL kl ds = true then (eqL cs ds).map .bool else none := rfl
@[go_sem] theorem bin_aneq : binA (some kl) p e sl .neq (.agg cs) (.agg ds) = if hasL kl cs = true ∧ hasL kl ds = true then (eqL cs ds).map (fun b => .bool !b) else none := rfl
@[go_sem] theorem bin_nilnil : binA ko p e sl .eql .nilp .nilp = if e = true then some (.bool true) else none := by simp [binA]
@[go_sem] theorem bin_refnil : binA ko p e sl .eql (.ref n i) .nilp = if e = true then some (.bool false) else none := by simp [binA, A.isPtr]
@[go_sem] theorem bin_dptrnil : binA ko p e sl .eql (.dptr cs) .nilp = if e = true then some (.bool false) else none := by simp [binA, A.isPtr]
@[go_sem] theorem bin_nilnilN : binA ko p e sl .neq .nilp .nilp = if e = true then some (.bool false) else none := by simp [binA]
@[go_sem] theorem bin_refnilN : binA ko p e sl .neq (.ref n i) .nilp = if e = true then some (.bool true) else none := by simp [binA, A.isPtr]
@[go_sem] theorem bin_empnil : binA ko p e true .eql (.emp k0) .nils = some (.bool k0) := rfl
@[go_sem] theorem bin_slcnil : binA ko p e true .eql (.slc (a :: cs)) .nils = some (.bool false) := rfl
@[go_sem] theorem bin_empnilN : binA ko p e true .neq (.emp k0) .nils = some (.bool !k0) := rfl
@[go_sem] theorem bin_slcnilN : binA ko p e true .neq (.slc (a :: cs)) .nils = some (.bool true) := rfl
@[go_sem] theorem bin_dptrnilN : binA ko p e sl .neq (.dptr cs) .nilp = if e = true then some (.bool true) else none := by simp [binA, A.isPtr]
@[go_sem] theorem hasL_nil : hasL [] [] = true := rfl
@[go_sem] theorem hasL_cons {c : CK} : hasL (c :: kl) (a :: cs) = (c.has a && hasL kl cs) := rfl
@[go_sem] theorem has_int : CK.has (.int q) (.int q m) = true := by simp [CK.has]
@[go_sem] theorem has_bool : CK.has .bool (.bool p) = true := rfl
@[go_sem] theorem has_str : CK.has .str (.str s) = true := rfl
@[go_sem] theorem eqL_nil : eqL [] [] = some true := rfl
@[go_sem] theorem eqL_cons : eqL (a :: cs) (b :: ds) = (eqA a b).bind fun x => (eqL cs ds).map (x && ·) := rfl
@[go_sem] theorem eqA_int : eqA (.int q m) (.int q r) = some (m == r) := by simp [eqA]
@[go_sem] theorem eqA_bool {x y : Bool} : eqA (.bool x) (.bool y) = some (x == y) := rfl
@[go_sem] theorem eqA_str : eqA (.str s) (.str s') = some (s == s') := rfl
@[go_sem] theorem cells_agg : A.cells (.agg cs) = cs := rfl
@[go_sem] theorem cells_int : A.cells (.int q m) = [.int q m] := rfl
@[go_sem] theorem cells_bool : A.cells (.bool p) = [.bool p] := rfl
@[go_sem] theorem cells_str : A.cells (.str s) = [.str s] := rfl
@[go_sem] theorem cells_slc : A.cells (.slc es) = [.slc es] := rfl
@[go_sem] theorem cells_clip : A.cells (.clip es) = [.clip es] := rfl
@[go_sem] theorem cells_nils : A.cells .nils = [.nils] := rfl
@[go_sem] theorem cells_emp : A.cells (.emp p) = [.emp p] := rfl
@[go_sem] theorem cells_nilp : A.cells .nilp = [.nilp] := rfl
@[go_sem] theorem cells_ref : A.cells (.ref n i) = [.ref n i] := rfl
@[go_sem] theorem cells_row {j : Nat} : A.cells (.row n i k j p) = [.row n i k j p] := rfl
@[go_sem] theorem cells_fn : A.cells (.fn n cs) = [.fn n cs] := rfl
@[go_sem] theorem val_agg : A.val (.agg cs) = true := rfl
@[go_sem] theorem val_int : A.val (.int q m) = true := rfl
@[go_sem] theorem val_bool : A.val (.bool p) = true := rfl
@[go_sem] theorem val_str : A.val (.str s) = true := rfl
@[go_sem] theorem val_slc : A.val (.slc es) = true := rfl
@[go_sem] theorem val_clip : A.val (.clip es) = true := rfl
@[go_sem] theorem val_nils : A.val .nils = true := rfl
@[go_sem] theorem val_emp : A.val (.emp p) = true := rfl
@[go_sem] theorem val_nilp : A.val .nilp = true := rfl
@[go_sem] theorem val_ref : A.val (.ref n i) = true := rfl
@[go_sem] theorem val_row {j : Nat} : A.val (.row n i k j p) = true := rfl
@[go_sem] theorem val_fn : A.val (.fn n cs) = true := rfl
@[go_sem] theorem norm_agg : A.norm (.agg cs) = .agg (cs.map norm0) := rfl
@[go_sem] theorem norm_int : A.norm (.int q m) = .int q m := rfl
@[go_sem] theorem norm_bool : A.norm (.bool p) = .bool p := rfl
@[go_sem] theorem norm_str : A.norm (.str s) = .str s := rfl
@[go_sem] theorem norm_slc : A.norm (.slc es) = .slc es := rfl
@[go_sem] theorem norm_clip : A.norm (.clip es) = .slc es := rfl
@[go_sem] theorem norm_nils : A.norm .nils = .slc [] := rfl
@[go_sem] theorem norm_emp : A.norm (.emp p) = .slc [] := rfl
@[go_sem] theorem norm0_int : norm0 (.int q m) = .int q m := rfl
@[go_sem] theorem norm0_bool : norm0 (.bool p) = .bool p := rfl
@[go_sem] theorem norm0_str : norm0 (.str s) = .str s := rfl
@[go_sem] theorem norm0_slc : norm0 (.slc es) = .slc es := rfl
@[go_sem] theorem norm0_clip : norm0 (.clip es) = .slc es := rfl
@[go_sem] theorem norm0_nils : norm0 .nils = .slc [] := rfl
@[go_sem] theorem norm0_emp : norm0 (.emp p) = .slc [] := rfl
@[go_sem] theorem viewL_nil : viewL H [] = some [] := rfl
@[go_sem] theorem viewL_cons : viewL H (a :: cs) = (view H a).bind fun y => (viewL H cs).map (y :: ·) := rfl
@[go_sem] theorem view1L_nil : view1L H [] = some [] := rfl
@[go_sem] theorem view1L_cons : view1L H (a :: cs) = (view1 H a).bind fun y => (view1L H cs).map (y :: ·) := rfl
@[go_sem] theorem view0L_nil : view0L H [] = some [] := rfl
@[go_sem] theorem view0L_cons : view0L H (a :: cs) = (view0 H a).bind fun y => (view0L H cs).map (y :: ·) := rfl
@[go_sem] theorem view_fn : view H (.fn n cs) = (view1L H cs).map (.fn n ·) := rfl
@[go_sem] theorem view_agg : view H (.agg cs) = (view0L H cs).map .agg := rfl
@[go_sem] theorem view_ref : view H (.ref n i) = (match nthO H n with | some (.box cs) => (view0L H (cs.drop i)).map .dptr | _ => none) := rfl
@[go_sem] theorem view_row {j : Nat} : view H (.row n i k j p) = viewRow H n i k j := rfl
@[go_sem] theorem view_int : view H (.int q m) = some (.int q m) := rfl
@[go_sem] theorem view_bool : view H (.bool p) = some (.bool p) := rfl
@[go_sem] theorem view_str : view H (.str s) = some (.str s) := rfl
@[go_sem] theorem view_slc : view H (.slc es) = some (.slc es) := rfl
@[go_sem] theorem view_clip : view H (.clip es) = some (.slc es) := rfl
@[go_sem] theorem view_nils : view H .nils = some (.slc []) := rfl
@[go_sem] theorem view_emp : view H (.emp p) = some (.slc []) := rfl
@[go_sem] theorem view_nilp : view H .nilp = some .nilp := rfl
@[go_sem] theorem view_dptr : view H (.dptr cs) = some (.dptr cs) := rfl
@[go_sem] theorem view1_ref : view1 H (.ref n i) = (match nthO H n with | some (.box cs) => (view0L H (cs.drop i)).map .dptr | _ => none) := rfl
@[go_sem] theorem view1_int : view1 H (.int q m) = some (.int q m) := rfl
@[go_sem] theorem view1_bool : view1 H (.bool p) = some (.bool p) := rfl
@[go_sem] theorem view1_str : view1 H (.str s) = some (.str s) := rfl
@[go_sem] theorem view1_slc : view1 H (.slc es) = some (.slc es) := rfl
@[go_sem] theorem view1_dptr : view1 H (.dptr cs) = some (.dptr cs) := rfl
@[go_sem] theorem view0_row {j : Nat} : view0 H (.row n i k j p) = viewRow H n i k j := rfl
@[go_sem] theorem view0_int : view0 H (.int q m) = some (.int q m) := rfl
@[go_sem] theorem view0_bool : view0 H (.bool p) = some (.bool p) := rfl
@[go_sem] theorem view0_str : view0 H (.str s) = some (.str s) := rfl
@[go_sem] theorem view0_slc : view0 H (.slc es) = some (.slc es) := rfl
@[go_sem] theorem view0_clip : view0 H (.clip es) = some (.slc es) := rfl
@[go_sem] theorem view0_nils : view0 H .nils = some (.slc []) := rfl
@[go_sem] theorem view0_emp : view0 H (.emp p) = some (.slc []) := rfl
@[go_sem] theorem view0_nilp : view0 H .nilp = some .nilp := rfl
@[go_sem] theorem view0_dptr : view0 H (.dptr cs) = some (.dptr cs) := rfl
@[go_sem] theorem viewRow_eq {j : Nat} : viewRow H n i k j = (match nthO H n with | some (.row k' es) => if k' = k ∧ i + j ≤ es.length ∧ k ≠ 0 then some (.slc ((es.drop i).take j)) else none | _ => none) := rfl
@[go_sem] theorem pureL_nil : A.pure.pureL [] = true := rfl
@[go_sem] theorem pureL_cons : A.pure.pureL (a :: cs) = (a.pure && A.pure.pureL cs) := rfl
@[go_sem] theorem pure_agg : A.pure (.agg cs) = A.pure.pureL cs := by simp [A.pure]
@[go_sem] theorem pure_fn : A.pure (.fn n cs) = A.pure.pureL cs := by simp [A.pure]
@[go_sem] theorem pure_int : A.pure (.int q m) = true := by simp [A.pure]
@[go_sem] theorem pure_bool : A.pure (.bool p) = true := by simp [A.pure]
@[go_sem] theorem pure_str : A.pure (.str s) = true := by simp [A.pure]
@[go_sem] theorem pure_slc : A.pure (.slc es) = true := by simp [A.pure]
@[go_sem] theorem pure_clip : A.pure (.clip es) = true := by simp [A.pure]
@[go_sem] theorem pure_nils : A.pure .nils = true := by simp [A.pure]
@[go_sem] theorem pure_emp : A.pure (.emp p) = true := by simp [A.pure]
@[go_sem] theorem pure_nilp : A.pure .nilp = true := by simp [A.pure]
@[go_sem] theorem pure_dptr : A.pure (.dptr cs) = true := by simp [A.pure]
@[go_sem] theorem pure_ref : A.pure (.ref n i) = false := by simp [A.pure]
@[go_sem] theorem pure_eref : A.pure (.eref n i k) = false := by simp [A.pure]
@[go_sem] theorem pure_row {j : Nat} : A.pure (.row n i k j p) = false := by simp [A.pure]
@[go_sem] theorem flatL_nil : A.flat.flatL [] = true := rfl
@[go_sem] theorem flatL_cons : A.flat.flatL (a :: cs) = (a.flat && A.flat.flatL cs) := rfl
@[go_sem] theorem flat_agg : A.flat (.agg cs) = A.flat.flatL cs := by simp [A.flat]
@[go_sem] theorem flat_tup : A.flat (.tup cs) = A.flat.flatL cs := by simp [A.flat]
@[go_sem] theorem flat_int : A.flat (.int q m) = true := by simp [A.flat]
@[go_sem] theorem flat_bool : A.flat (.bool p) = true := by simp [A.flat]
@[go_sem] theorem flat_str : A.flat (.str s) = true := by simp [A.flat]
@[go_sem] theorem flat_slc : A.flat (.slc es) = false := by simp [A.flat]
@[go_sem] theorem clear_row {σs : List (Nat × A)} {σH : List Obj} {l : Nat} : clearA P (St.mk σs σH) d t (.row n i k l p) = (match tyElem P t with | some e => (match nthO σH n with | some (.row k' es) => (match zeroA P e with | some z => if k' = k ∧ z.cells.length = k ∧ k ≠ 0 ∧ z.val = true ∧ z.pure = true ∧ i + l ≤ es.length then some (((St.mk σs σH).setH n (.row k (es.take i ++ List.replicate l z.norm ++ es.drop (i + l)))).put d (.tup [])) else none | none => none) | _ => none) | none => none) := rfl
@[go_sem] theorem callHV_fn {Γ : Tab} : callHV Γ σ d (.fn n cs) ds = callH Γ σ d n (ds ++ cs) := rfl
@[go_sem] theorem callH_eq {Γ : Tab} {σs : List (Nat × A)} {σH : List Obj} : callH Γ (St.mk σs σH) d n ds = callH1 Γ (St.mk σs σH) d n ds (reach σH 64 (A.names.namesL ds) []) := rfl
@[go_sem] theorem callH1_eq {Γ : Tab} {σs : List (Nat × A)} {σH : List Obj} {ρ : List Nat} : callH1 Γ (St.mk σs σH) d n ds ρ = (A.ren.renL ρ ds).bind fun as' => (renH ρ σH ρ).bind fun H₀ =>
    if Γ.frz n = true then (if ρ.all (fun n => !Γ.fix n) = true then (viewL H₀ as').bind fun bs => (Γ.f n bs).map (callF2 (St.mk σs σH) d ρ H₀) else none)
    else (Γ.hp n as' H₀).bind fun x => if mayMove Γ ρ σH.length x.2.2 = true then some (callH2 (St.mk σs σH) d ρ x) else none := rfl
@[congr] theorem callH1_congr {Γ : Tab} {ρ ρ' : List Nat} (h : ρ = ρ') : callH1 Γ σ d n ds ρ = callH1 Γ σ d n ds ρ' := by rw [h]
@[go_sem] theorem callH2_eq {σs : List (Nat × A)} {σH : List Obj} {ρ : List Nat} {S : List Nat} : callH2 (St.mk σs σH) d ρ (a, H, S) = St.put ⟨(scrubs ρ σH.length (St.mk σs σH) S).s, backH ρ σH.length ρ H (scrubs ρ σH.length (St.mk σs σH) S).H⟩ d (a.back ρ σH.length) := rfl
@[go_sem] theorem callF2_eq {σs : List (Nat × A)} {σH : List Obj} {ρ : List Nat} : callF2 (St.mk σs σH) d ρ H a = St.put ⟨σs.map (fun p => (p.1, frzA ρ H p.2)), dropO ρ ρ (σH.map (frzO ρ H))⟩ d a := rfl
@[go_sem] theorem scrubs_nil {ρ : List Nat} : scrubs ρ n σ [] = σ := rfl
@[go_sem] theorem scrubs_cons {ρ S : List Nat} : scrubs ρ n σ (i :: S) = scrubs ρ n (σ.scrub (nthN ρ n i)) S := rfl
@[go_sem] theorem backH_nil {ρ : List Nat} {os : List Obj} : backH ρ n [] os H = H ++ os.map (Obj.back ρ n) := rfl
@[go_sem] theorem backH_cons {ρ ns : List Nat} {o : Obj} {os : List Obj} : backH ρ n (i :: ns) (o :: os) H = backH ρ n ns os (setO H i (o.back ρ n)) := rfl
@[go_sem] theorem mayMove_nil {Γ : Tab} {ρ : List Nat} : mayMove Γ ρ n [] = true := rfl
@[go_sem] theorem mayMove_cons {Γ : Tab} {ρ S : List Nat} : mayMove Γ ρ n (i :: S) = (!Γ.fix (nthN ρ n i) && mayMove Γ ρ n S) := rfl
@[go_sem] theorem reach_nil {ρ : List Nat} : reach H (n + 1) [] ρ = ρ := rfl
@[go_sem] theorem reach_cons {ρ ns : List Nat} : reach H (n + 1) (i :: ns) ρ = if ρ.contains i = true then reach H n ns ρ else reach H n (namesO (nthO H i) ++ ns) (ρ ++ [i]) := rfl
@[go_sem] theorem reach_64 {ρ ns : List Nat} : reach H 64 ns ρ = reach H (63 + 1) ns ρ := rfl
@[go_sem] theorem namesO_some {o : Obj} : namesO (some o) = o.names := rfl
@[go_sem] theorem names_box : Obj.names (.box cs) = A.names.namesL cs := rfl
@[go_sem] theorem names_rowO : Obj.names (.row k cs) = [] := rfl
@[go_sem] theorem namesL_nil : A.names.namesL [] = [] := rfl
@[go_sem] theorem namesL_cons : A.names.namesL (a :: cs) = a.names ++ A.names.namesL cs := rfl
@[go_sem] theorem names_ref : A.names (.ref n i) = [n] := by simp [A.names]
@[go_sem] theorem names_eref : A.names (.eref n i k) = [n] := by simp [A.names]
@[go_sem] theorem names_row {j : Nat} : A.names (.row n i j k p) = [n] := by simp [A.names]
@[go_sem] theorem names_agg : A.names (.agg cs) = A.names.namesL cs := by simp [A.names]
@[go_sem] theorem names_fn : A.names (.fn n cs) = A.names.namesL cs := by simp [A.names]
@[go_sem] theorem names_tup : A.names (.tup cs) = A.names.namesL cs := by simp [A.names]
@[go_sem] theorem names_int : A.names (.int q m) = [] := by simp [A.names]
@[go_sem] theorem names_bool : A.names (.bool p) = [] := by simp [A.names]
@[go_sem] theorem names_str : A.names (.str s) = [] := by simp [A.names]
@[go_sem] theorem names_slc : A.names (.slc es) = [] := by simp [A.names]
@[go_sem] theorem names_clip : A.names (.clip es) = [] := by simp [A.names]
@[go_sem] theorem names_dptr : A.names (.dptr es) = [] := by simp [A.names]
@[go_sem] theorem names_nils : A.names .nils = [] := by simp [A.names]
@[go_sem] theorem names_nilp : A.names .nilp = [] := by simp [A.names]
@[go_sem] theorem names_any : A.names .any = [] := by simp [A.names]
@[go_sem] theorem idx_nil : idx [] n = none := rfl
@[go_sem] theorem idx_cons {ρ : List Nat} : idx (i :: ρ) n = if i = n then some 0 else (idx ρ n).map (· + 1) := rfl
@[go_sem] theorem renL_nil {ρ : List Nat} : A.ren.renL ρ [] = some [] := rfl
@[go_sem] theorem renL_cons {ρ : List Nat} : A.ren.renL ρ (a :: cs) = (a.ren ρ).bind fun x => (A.ren.renL ρ cs).map (x :: ·) := rfl
@[go_sem] theorem ren_ref {ρ : List Nat} : A.ren ρ (.ref n i) = (idx ρ n).map (.ref · i) := by simp [A.ren]
@[go_sem] theorem ren_eref {ρ : List Nat} : A.ren ρ (.eref n i k) = (idx ρ n).map (.eref · i k) := by simp [A.ren]
@[go_sem] theorem ren_row {ρ : List Nat} {j : Nat} : A.ren ρ (.row n i j k p) = (idx ρ n).map (.row · i j k p) := by simp [A.ren]
@[go_sem] theorem ren_agg {ρ : List Nat} : A.ren ρ (.agg cs) = (A.ren.renL ρ cs).map .agg := by simp [A.ren]
@[go_sem] theorem ren_fn {ρ : List Nat} : A.ren ρ (.fn n cs) = (A.ren.renL ρ cs).map (.fn n ·) := by simp [A.ren]
@[go_sem] theorem ren_tup {ρ : List Nat} : A.ren ρ (.tup cs) = (A.ren.renL ρ cs).map .tup := by simp [A.ren]
@[go_sem] theorem ren_int {ρ : List Nat} : A.ren ρ (.int q m) = some (.int q m) := by simp [A.ren]
@[go_sem] theorem ren_bool {ρ : List Nat} : A.ren ρ (.bool p) = some (.bool p) := by simp [A.ren]
@[go_sem] theorem ren_str {ρ : List Nat} : A.ren ρ (.str s) = some (.str s) := by simp [A.ren]
@[go_sem] theorem ren_slc {ρ : List Nat} : A.ren ρ (.slc es) = some (.slc es) := by simp [A.ren]
@[go_sem] theorem ren_clip {ρ : List Nat} : A.ren ρ (.clip es) = some (.clip es) := by simp [A.ren]
@[go_sem] theorem ren_dptr {ρ : List Nat} : A.ren ρ (.dptr es) = some (.dptr es) := by simp [A.ren]
@[go_sem] theorem ren_nils {ρ : List Nat} : A.ren ρ .nils = some .nils := by simp [A.ren]
@[go_sem] theorem ren_nilp {ρ : List Nat} : A.ren ρ .nilp = some .nilp := by simp [A.ren]
@[go_sem] theorem ren_any {ρ : List Nat} : A.ren ρ .any = some .any := by simp [A.ren]
@[go_sem] theorem renH_nil {ρ : List Nat} : renH ρ H [] = some [] := rfl
@[go_sem] theorem renH_cons {ρ ns : List Nat} : renH ρ H (i :: ns) = (renO ρ (nthO H i)).bind fun o => (renH ρ H ns).map (o :: ·) := rfl
@[go_sem] theorem renO_some {ρ : List Nat} {o : Obj} : renO ρ (some o) = o.ren ρ := rfl
@[go_sem] theorem renO_box {ρ : List Nat} : Obj.ren ρ (.box cs) = (A.ren.renL ρ cs).map .box := rfl
@[go_sem] theorem renO_row {ρ : List Nat} : Obj.ren ρ (.row k cs) = some (.row k cs) := rfl
@[go_sem] theorem nthN_nil : nthN [] n i = n + i := rfl
@[go_sem] theorem nthN_zero {ρ : List Nat} : nthN (i :: ρ) n 0 = i := rfl
@[go_sem] theorem nthN_succ {ρ : List Nat} : nthN (i :: ρ) n (k + 1) = nthN ρ n k := rfl
@[go_sem] theorem back_ref {ρ : List Nat} : A.back ρ k (.ref n i) = .ref (nthN ρ k n) i := by simp [A.back]
@[go_sem] theorem back_eref {ρ : List Nat} {j : Nat} : A.back ρ k (.eref n i j) = .eref (nthN ρ k n) i j := by simp [A.back]
@[go_sem] theorem back_row {ρ : List Nat} {j l : Nat} : A.back ρ k (.row n i j l p) = .row (nthN ρ k n) i j l p := by simp [A.back]
@[go_sem] theorem back_agg {ρ : List Nat} : A.back ρ k (.agg cs) = .agg (A.back.backL ρ k cs) := by simp [A.back]
@[go_sem] theorem back_fn {ρ : List Nat} : A.back ρ k (.fn n cs) = .fn n (A.back.backL ρ k cs) := by simp [A.back]
@[go_sem] theorem back_tup {ρ : List Nat} : A.back ρ k (.tup cs) = .tup (A.back.backL ρ k cs) := by simp [A.back]
@[go_sem] theorem back_int {ρ : List Nat} : A.back ρ k (.int q m) = .int q m := by simp [A.back]
@[go_sem] theorem back_bool {ρ : List Nat} : A.back ρ k (.bool p) = .bool p := by simp [A.back]
@[go_sem] theorem back_str {ρ : List Nat} : A.back ρ k (.str s) = .str s := by simp [A.back]
@[go_sem] theorem back_slc {ρ : List Nat} : A.back ρ k (.slc es) = .slc es := by simp [A.back]
@[go_sem] theorem back_clip {ρ : List Nat} : A.back ρ k (.clip es) = .clip es := by simp [A.back]
@[go_sem] theorem back_dptr {ρ : List Nat} : A.back ρ k (.dptr es) = .dptr es := by simp [A.back]
@[go_sem] theorem back_nils {ρ : List Nat} : A.back ρ k .nils = .nils := by simp [A.back]
@[go_sem] theorem back_nilp {ρ : List Nat} : A.back ρ k .nilp = .nilp := by simp [A.back]
@[go_sem] theorem back_any {ρ : List Nat} : A.back ρ k .any = .any := by simp [A.back]
@[go_sem] theorem backL_nil {ρ : List Nat} : A.back.backL ρ k [] = [] := rfl
@[go_sem] theorem backL_cons {ρ : List Nat} : A.back.backL ρ k (a :: cs) = a.back ρ k :: A.back.backL ρ k cs := rfl
@[go_sem] theorem backO_box {ρ : List Nat} : Obj.back ρ k (.box cs) = .box (A.back.backL ρ k cs) := rfl
@[go_sem] theorem backO_row {ρ : List Nat} : Obj.back ρ k (.row n cs) = .row n cs := rfl
@[go_sem] theorem frzA_eq {ρ : List Nat} : frzA ρ H a = if a.meets ρ = true then (match a.ren ρ with | some x' => (view H x').getD .any | none => .any) else a := rfl
@[go_sem] theorem meets_eq {ρ : List Nat} : A.meets ρ a = ρ.any fun n => a.mem n := rfl
@[go_sem] theorem frzO_box {ρ : List Nat} : frzO ρ H (.box cs) = .box (cs.map (frzA ρ H)) := rfl
@[go_sem] theorem frzO_row {ρ : List Nat} : frzO ρ H (.row k cs) = .row k cs := rfl
@[go_sem] theorem dropO_nil {ρ : List Nat} : dropO ρ [] H = H := rfl
@[go_sem] theorem dropO_cons {ρ ns : List Nat} : dropO ρ (i :: ns) H = dropO ρ ns (setO H i (.row 0 [])) := rfl
@[go_sem] theorem startH_eq : startH cs H = { s := number 0 cs, H := H } := rfl
@[go_sem] theorem bodyH_ret {fn : Func} : bodyH P fn a H .ret σ = K? (rawL P σ fn.results.toList) (fun rs => resOf rs = a ∧ a.under H.length = true ∧ leH H.length σ.H H) := rfl
@[go_sem] theorem bodyH_normal {fn : Func} : bodyH P fn a H .normal σ = K? (rawL P σ fn.results.toList) (fun rs => resOf rs = a ∧ a.under H.length = true ∧ leH H.length σ.H H) := rfl
@[go_sem] theorem rawL_nil : rawL P σ [] = some [] := rfl
@[go_sem] theorem rawL_cons {v : ResultVar} {vs : List ResultVar} : rawL P σ (v :: vs) = (rawA P σ v).bind fun x => (rawL P σ vs).map (x :: ·) := rfl
@[go_sem] theorem raw_tmp {σs : List (Nat × A)} {σH : List Obj} : rawA P (St.mk σs σH) (.tmp i) = some (look σs i) := rfl
@[go_sem] theorem raw_cell {σs : List (Nat × A)} {σH : List Obj} : rawA P (St.mk σs σH) (.cell i t) = rawC P (St.mk σs σH) t (look σs i) := rfl
@[go_sem] theorem rawC_ref {σs : List (Nat × A)} {σH : List Obj} : rawC P (St.mk σs σH) t (.ref n i) = (match nthO σH n with | some (.box cs) => loadC P t (cs.drop i) | _ => none) := rfl
@[go_sem] theorem resOf_nil : resOf [] = .tup [] := rfl
@[go_sem] theorem callV_fn {Γ : Tab} : callV Γ σ d (.fn n cs) ds = callX Γ σ d n (ds ++ cs) := rfl
@[go_sem] theorem callX_eq {σs : List (Nat × A)} {σH : List Obj} {Γ : Tab} : callX Γ (St.mk σs σH) d n ds = (viewL σH ds).bind fun bs => (Γ.f n bs).bind fun r => if (A.pure.pureL ds || r.flat) = true then some ((St.mk σs σH).put d r) else none := rfl
@[go_sem] theorem box_eq {σs : List (Nat × A)} {σH : List Obj} : boxA (St.mk σs σH) n d a = if a.val = true then some (((St.mk σs σH).setH n (.box a.cells)).put d (.ref n 0)) else none := rfl
@[go_sem] theorem alloc_some : allocA σ n d (some a) = boxA σ n d a := rfl
@[go_sem] theorem store_ref {σs : List (Nat × A)} {σH : List Obj} {z : Option Nat} : storeA (St.mk σs σH) d z (.ref n i) a = (match nthO σH n with | some (.box cs) => if z = some a.cells.length ∧ i + a.cells.length ≤ cs.length ∧ a.val = true then some (((St.mk σs σH).setH n (.box (spliceA cs i a.cells))).put d (.tup [])) else none | _ => none) := rfl
@[go_sem] theorem store_eref {σs : List (Nat × A)} {σH : List Obj} {z : Option Nat} {j : Nat} : storeA (St.mk σs σH) d z (.eref n j i) a = (match nthO σH n with | some (.row k es) => (es[j]?).bind fun e => if z = some a.cells.length ∧ i + a.cells.length ≤ e.cells.length ∧ a.cells.length ≠ 0 ∧ a.val = true ∧ a.pure = true then some (((St.mk σs σH).setH n (.row k (setNth es j (storeE e i a)))).put d (.tup [])) else none | _ => none) := rfl
@[go_sem] theorem storeE_agg : storeE (.agg cs) i a = .agg (spliceA cs i a.norm.cells) := rfl
@[go_sem] theorem storeE_int : storeE (.int q m) i a = a.norm := rfl
@[go_sem] theorem storeE_str : storeE (.str s) i a = a.norm := rfl
@[go_sem] theorem storeE_slc : storeE (.slc es) i a = a.norm := rfl
@[go_sem] theorem splice_eq : spliceA cs i ds = cs.take i ++ ds ++ cs.drop (i + ds.length) := rfl
@[go_sem] theorem build_eq {ps : List (Nat × Operand)} : buildA P t σ ps = (match zeroA P t with | some (.agg zs) => (match tyArr P t with | some (_, e) => (if (tySize P e).isSome = true then (fillA P e σ ps zs).map .agg else none) | none => if allSized P t = true then (fillS P t σ ps zs).map .agg else none) | _ => none) := rfl
@[go_sem] theorem fillS_nil : fillS P t σ [] cs = some cs := rfl
@[go_sem] theorem fillS_cons {x : Operand} {ps : List (Nat × Operand)} : fillS P t σ ((i, x) :: ps) cs = (match fieldInfo P t i with | some (o, ft) => (fillC (tySize P ft) o (σ.ev x) cs).bind (fillS P t σ ps) | none => none) := rfl
@[go_sem] theorem fillA_nil : fillA P t σ [] cs = some cs := rfl
@[go_sem] theorem fillA_cons {x : Operand} {ps : List (Nat × Operand)} : fillA P t σ ((i, x) :: ps) cs = (match tySize P t with | some n => (fillC (some n) (i * n) (σ.ev x) cs).bind (fillA P t σ ps) | none => none) := rfl
@[go_sem] theorem fillC_some : fillC (some n) i a cs = if a.cells.length = n ∧ i + n ≤ cs.length ∧ a.val = true then some (cs.take i ++ a.cells ++ cs.drop (i + n)) else none := rfl
@[go_sem] theorem buildSlice_eq {ps : List (Nat × Operand)} : buildSliceA P t n σ ps = (match tyElem P t with | some e => (match tySize P e, zeroA P e with | some k, some z => if n * k ≤ 16777216 ∧ k ≠ 0 ∧ z.pure = true ∧ z.val = true ∧ z.cells.length = k then (fillE k σ ps (List.replicate n z.norm)).map .clip else none | _, _ => none) | none => none) := rfl
@[go_sem] theorem fillE_nil : fillE k σ [] cs = some cs := rfl
@[go_sem] theorem fillE_cons {x : Operand} {ps : List (Nat × Operand)} : fillE k σ ((i, x) :: ps) cs = if (σ.ev x).cells.length = k ∧ i < cs.length ∧ (σ.ev x).val = true ∧ (σ.ev x).pure = true then fillE k σ ps (setNth cs i (σ.ev x).norm) else none := rfl
@[go_sem] theorem appendX_eq {fx : Nat → Bool} {x : A} : appendX P fx σ n d t u a x = (match tyElem P t with | some e => (match tySize P e with | some k => if k = 0 ∨ tyBytes P e = 0 ∨ zeroOK P e k = false then none else (srcE P σ e u k x).bind fun src => appendA fx σ n d k (tyBytes P e) a src | none => none) | none => none) := rfl
@[go_sem] theorem src_slc : srcE P σ t u k (.slc es) = if strOK k es = true ∧ (tyElem P u).isSome = true then some es else none := rfl
@[go_sem] theorem src_clip : srcE P σ t u k (.clip es) = if strOK k es = true ∧ (tyElem P u).isSome = true then some es else none := rfl
@[go_sem] theorem src_nils : srcE P σ t u k .nils = if (tyElem P u).isSome = true then some [] else none := rfl
@[go_sem] theorem src_emp : srcE P σ t u k (.emp p) = if (tyElem P u).isSome = true then some [] else none := rfl
@[go_sem] theorem src_str : srcE P σ t u k (.str s) = if tyInt P t = some .u8 ∧ k = 1 ∧ tyStr P u = true then some (bytesA s) else none := rfl
@[go_sem] theorem src_row {σs : List (Nat × A)} {σH : List Obj} {j l : Nat} : srcE P (St.mk σs σH) t u k (.row n i j l p) = if j = k ∧ (tyElem P u).isSome = true then (match viewRow σH n i k l with | some (.slc es) => some es | _ => none) else none := rfl
@[go_sem] theorem strOK_eq : strOK k es = (es.isEmpty || strideOf es == k) := rfl
@[go_sem] theorem stride_cons : strideOf (a :: es) = a.cells.length := rfl
@[go_sem] theorem append_nils {fx : Nat → Bool} {σs : List (Nat × A)} {σH : List Obj} : appendA fx (St.mk σs σH) n d k i .nils es = if es.length * i ≤ 140737488355328 then some (((St.mk σs σH).setH n (.row k es)).put d (.row n 0 k es.length false)) else none := rfl
@[go_sem] theorem append_clip {fx : Nat → Bool} {σs : List (Nat × A)} {σH : List Obj} : appendA fx (St.mk σs σH) n d k i (.clip cs) es = if strOK k cs = true ∧ (cs = [] ∨ es ≠ []) ∧ (cs.length + es.length) * i ≤ 140737488355328 then some (((St.mk σs σH).setH n (.row k (cs ++ es))).put d (.row n 0 k (cs.length + es.length) false)) else none := rfl
@[go_sem] theorem append_row {fx : Nat → Bool} {σs : List (Nat × A)} {σH : List Obj} {m j l : Nat} : appendA fx (St.mk σs σH) n d k i (.row m 0 j l p) es = (match nthO σH m with | some (.row k'' xs) => if j = k ∧ k'' = k ∧ l ≤ xs.length ∧ (l + es.length) * i ≤ 140737488355328 then (if p then (if es = [] then none else some (((St.mk σs σH).setH n (.row k (xs.take l ++ es))).put d (.row n 0 k (l + es.length) false))) else (if fx m = true then none else some ((((St.mk σs σH).scrub m).setH m (.row k (xs.take l ++ es))).put d (.row m 0 k (l + es.length) false)))) else none | _ => none) := rfl
@[go_sem] theorem convX_eq {σs : List (Nat × A)} {σH : List Obj} : convX P (St.mk σs σH) n d t u a = if isS2B P t u = true then (match a with | .str s => some (((St.mk σs σH).setH n (.row 1 (bytesA s))).put d (.row n 0 1 s.length false)) | _ => none) else (convA P t u σH a).map ((St.mk σs σH).put d ·) := rfl
@[go_sem] theorem conv_int : convA P t u H (.int q m) = (match tyInt P u with | some k => if (tyAgg P t).isSome = true then some (.int k (k.wrap m)) else none | none => none) := rfl
@[go_sem] theorem conv_str : convA P t u H (.str s) = if (tyStr P t && tyStr P u) = true then some (.str s) else none := rfl
@[go_sem] theorem conv_row {j : Nat} : convA P t u H (.row n i k j p) = convB (isB2S P t u) (viewRow H n i k j) := rfl
@[go_sem] theorem conv_slc : convA P t u H (.slc es) = convB (isB2S P t u) (some (.slc es)) := rfl
@[go_sem] theorem conv_clip : convA P t u H (.clip es) = convB (isB2S P t u) (some (.slc es)) := rfl
@[go_sem] theorem conv_nils : convA P t u H .nils = convB (isB2S P t u) (some (.slc [])) := rfl
@[go_sem] theorem convB_some : convB true (some (.slc es)) = (bytesOfA es).map .str := rfl
@[go_sem] theorem slice_str {l h b : Bd} {z : Option Nat} : sliceA true z (.str s) l h b = sliceS s l h b := rfl
@[go_sem] theorem slice_slc {l h b : Bd} : sliceA p (some k) (.slc es) l h b = sliceE k es l h b := rfl
@[go_sem] theorem slice_clip {l h b : Bd} : sliceA p (some k) (.clip es) l h b = sliceE k es l h b := rfl
@[go_sem] theorem slice_row {l h b : Bd} {j f : Nat} {x : Bool} : sliceA p (some f) (.row n i k j x) l h b = if f = k then sliceR n i f j l h b else none := rfl
@[go_sem] theorem sliceS_eq {l h : Bd} : sliceS s l h .none = if 0 ≤ l.get 0 ∧ l.get 0 ≤ h.get s.length ∧ h.get s.length ≤ s.length then some (.str ((s.take (h.get s.length).toNat).drop (l.get 0).toNat)) else none := rfl
@[go_sem] theorem sliceE_eq {l h : Bd} : sliceE k es l h .none = if strOK k es = true ∧ 0 ≤ l.get 0 ∧ l.get 0 ≤ h.get es.length ∧ h.get es.length ≤ es.length then some (.slc ((es.take (h.get es.length).toNat).drop (l.get 0).toNat)) else none := rfl
@[go_sem] theorem sliceE_eq3 {l h : Bd} : sliceE k es l h (.some m) = if strOK k es = true ∧ 0 ≤ l.get 0 ∧ l.get 0 ≤ h.get es.length ∧ h.get es.length ≤ es.length ∧ m = h.get es.length ∧ h.ok3 = true then some (.clip ((es.take (h.get es.length).toNat).drop (l.get 0).toNat)) else none := rfl
@[go_sem] theorem sliceR_eq {j : Nat} {l h : Bd} : sliceR n i k j l h .none = if 0 ≤ l.get 0 ∧ l.get 0 ≤ h.get j ∧ h.get j ≤ j then some (.row n (i + (l.get 0).toNat) k (h.get j - l.get 0).toNat false) else none := rfl
@[go_sem] theorem sliceR_eq3 {j : Nat} {l h : Bd} : sliceR n i k j l h (.some m) = if 0 ≤ l.get 0 ∧ l.get 0 ≤ h.get j ∧ h.get j ≤ j ∧ m = h.get j ∧ h.ok3 = true then some (.row n (i + (l.get 0).toNat) k (h.get j - l.get 0).toNat true) else none := rfl
@[go_sem] theorem ok3_some : Bd.ok3 (.some m) = true := rfl
@[go_sem] theorem elSize_eq : elSize P t = (match tyElem P t with | some e => tySize P e | none => none) := rfl
@[go_sem] theorem scrub_eq {σs : List (Nat × A)} {σH : List Obj} : (St.mk σs σH).scrub n = { s := σs.map (fun p => (p.1, scrubA n p.2)), H := σH.map (scrubO n) } := rfl
@[go_sem] theorem scrubA_eq : scrubA n a = if a.mem n = true then .any else a := rfl
@[go_sem] theorem scrubO_box : scrubO n (.box cs) = .box (cs.map (scrubA n)) := rfl
@[go_sem] theorem scrubO_row : scrubO n (.row k cs) = .row k cs := rfl
@[go_sem] theorem memL_nil : A.mem.memL n [] = false := rfl
@[go_sem] theorem memL_cons : A.mem.memL n (a :: cs) = (a.mem n || A.mem.memL n cs) := rfl
@[go_sem] theorem mem_agg : A.mem n (.agg cs) = A.mem.memL n cs := by simp [A.mem]
@[go_sem] theorem mem_fn : A.mem n (.fn i cs) = A.mem.memL n cs := by simp [A.mem]
@[go_sem] theorem mem_tup : A.mem n (.tup cs) = A.mem.memL n cs := by simp [A.mem]
@[go_sem] theorem mem_int : A.mem n (.int q m) = false := by simp [A.mem]
@[go_sem] theorem mem_bool : A.mem n (.bool p) = false := by simp [A.mem]
@[go_sem] theorem mem_str : A.mem n (.str s) = false := by simp [A.mem]
@[go_sem] theorem mem_slc : A.mem n (.slc es) = false := by simp [A.mem]
@[go_sem] theorem mem_clip : A.mem n (.clip es) = false := by simp [A.mem]
@[go_sem] theorem mem_dptr : A.mem n (.dptr es) = false := by simp [A.mem]
@[go_sem] theorem mem_nils : A.mem n .nils = false := by simp [A.mem]
@[go_sem] theorem mem_nilp : A.mem n .nilp = false := by simp [A.mem]
@[go_sem] theorem mem_any : A.mem n .any = false := by simp [A.mem]
@[go_sem] theorem mem_ref : A.mem n (.ref i k) = (i == n) := by simp [A.mem]
@[go_sem] theorem mem_eref {j : Nat} : A.mem n (.eref i j k) = (i == n) := by simp [A.mem]
@[go_sem] theorem mem_row {j l : Nat} : A.mem n (.row i j k l p) = (i == n) := by simp [A.mem]
@[go_sem] theorem under_agg : A.under n (.agg cs) = A.under.underL n cs := by simp [A.under]
@[go_sem] theorem under_fn : A.under n (.fn i cs) = A.under.underL n cs := by simp [A.under]
@[go_sem] theorem under_tup : A.under n (.tup cs) = A.under.underL n cs := by simp [A.under]
@[go_sem] theorem underL_nil : A.under.underL n [] = true := rfl
@[go_sem] theorem underL_cons : A.under.underL n (a :: cs) = (a.under n && A.under.underL n cs) := rfl
@[go_sem] theorem under_int : A.under n (.int q m) = true := by simp [A.under]
@[go_sem] theorem under_bool : A.under n (.bool p) = true := by simp [A.under]
@[go_sem] theorem under_str : A.under n (.str s) = true := by simp [A.under]
@[go_sem] theorem under_slc : A.under n (.slc es) = true := by simp [A.under]
@[go_sem] theorem under_clip : A.under n (.clip es) = true := by simp [A.under]
@[go_sem] theorem under_dptr : A.under n (.dptr es) = true := by simp [A.under]
@[go_sem] theorem under_nils : A.under n .nils = true := by simp [A.under]
@[go_sem] theorem under_nilp : A.under n .nilp = true := by simp [A.under]
@[go_sem] theorem under_any : A.under n .any = true := by simp [A.under]
@[go_sem] theorem under_ref : A.under n (.ref i k) = decide (i < n) := by simp [A.under]
@[go_sem] theorem under_eref {j : Nat} : A.under n (.eref i j k) = decide (i < n) := by simp [A.under]
@[go_sem] theorem under_row {j l : Nat} : A.under n (.row i j k l p) = decide (i < n) := by simp [A.under]
@[go_sem] theorem resL_nil : resL P σ [] = some [] := rfl
@[go_sem] theorem resL_cons {v : ResultVar} {vs : List ResultVar} : resL P σ (v :: vs) = (resA P σ v).bind fun x => (resL P σ vs).map (x :: ·) := rfl
@[go_sem] theorem res_tmp {σs : List (Nat × A)} {σH : List Obj} : resA P (St.mk σs σH) (.tmp i) = view σH (look σs i) := rfl
@[go_sem] theorem res_cell {σs : List (Nat × A)} {σH : List Obj} : resA P (St.mk σs σH) (.cell i t) = resC P (St.mk σs σH) t (look σs i) := rfl
@[go_sem] theorem resC_ref {σs : List (Nat × A)} {σH : List Obj} : resC P (St.mk σs σH) t (.ref n i) = (match nthO σH n with | some (.box cs) => (loadC P t (cs.drop i)).bind (view σH) | _ => none) := rfl
@[go_sem] theorem resOf_one : resOf [a] = a := rfl
@[go_sem] theorem resOf_two : resOf (a :: b :: cs) = .tup (a :: b :: cs) := rfl
@[go_sem] theorem body_ret {fn : Func} {Post : A → Prop} : bodyA P fn Post .ret σ = K? (resL P σ fn.results.toList) (fun rs => Post (resOf rs)) := rfl
@[go_sem] theorem body_normal {fn : Func} {Post : A → Prop} : bodyA P fn Post .normal σ = K? (resL P σ fn.results.toList) (fun rs => Post (resOf rs)) := rfl
@[go_sem] theorem start_eq : startA cs = { s := number 0 cs, H := [] } := rfl
@[go_sem] theorem number_nil : number n [] = [] := rfl
@[go_sem] theorem number_cons : number n (a :: cs) = (n, a) :: number (n + 1) cs := rfl
end

attribute [go_sem] List.map_cons List.map_nil List.cons_append List.nil_append List.append_nil List.length_cons List.length_nil List.replicate_succ List.replicate_zero
  List.take_succ_cons List.drop_succ_cons List.take_zero List.drop_zero List.take_nil List.drop_nil List.head?_cons List.getElem?_cons_zero List.getElem?_cons_succ List.isEmpty_cons List.isEmpty_nil List.any_cons List.any_nil List.all_cons List.all_nil
  Option.map_some Option.map_none Option.bind_some Option.bind_none Option.getD_some Option.getD_none Option.isSome_some Option.isSome_none Option.isNone_some Option.isNone_none
  ite_true ite_false Bool.false_eq_true Bool.and_true Bool.true_and Bool.and_false Bool.false_and Bool.or_true Bool.true_or Bool.or_false Bool.false_or Bool.not_true Bool.not_false
  beq_self_eq_true and_true true_and and_false false_and or_true true_or or_false false_or and_self

/-- Slots that are kept as they are. -/
def keepS (s : List (Nat × A)) : List Nat → List (Nat × A)
  | [] => []
  | d :: ds => (d, look s d) :: keepS s ds
def updsH : List Obj → List (Nat × Obj) → List Obj
  | s, [] => s
  | s, (d, v) :: ds => updsH (setO s d v) ds
/-- The state at a loop's head: the slots that are named, those that are kept, the objects but for those that are named. -/
def headSt (σ : St) (ks : List Nat) (u : List (Nat × A)) (h : List (Nat × Obj)) : St := { s := u ++ keepS σ.s ks, H := updsH σ.H h }

theorem updsH_len : ∀ (hs : List (Nat × Obj)) (H : List Obj), (updsH H hs).length = H.length
  | [], H => rfl
  | (d, v) :: ds, H => by
    simp only [updsH]
    rw [updsH_len ds]
    clear ds
    induction H generalizing d with
    | nil => rfl
    | cons x xs ih => cases d <;> simp [setO, ih]

theorem wpA_loop {P : Program} {Γ : Tab} {c : Code} {Q : Ex → St → Prop} {σ : St} {ι : Type} (ks : List Nat) (u : ι → List (Nat × A)) (h : ι → List (Nat × Obj)) (μ : ι → Nat) (i₀ : ι) (hn : Γ.nf ≤ σ.H.length)
    (h0 : σ.le (headSt σ ks (u i₀) (h i₀)))
    (hs : ∀ i, wpA P Γ c (loopQ (fun τ => ∃ j, τ.le (headSt σ ks (u j) (h j)) ∧ μ j < μ i) Q) (headSt σ ks (u i) (h i))) : wpA P Γ (.loop c) Q σ := by
  have hl : ∀ i, Γ.nf ≤ (headSt σ ks (u i) (h i)).H.length := fun i => by
    show Γ.nf ≤ (updsH σ.H (h i)).length
    rw [updsH_len]; exact hn
  simp only [wpA]
  refine ⟨ι, fun i => headSt σ ks (u i) (h i), μ, ⟨i₀, .le (hl i₀) h0⟩, fun i => ?_⟩
  refine wpA_mono (fun e τ hq => ?_) (hs i)
  cases e with
  | normal => obtain ⟨j, h1, h2⟩ := hq; exact ⟨j, .le (hl j) h1, h2⟩
  | exit id => exact hq
  | ret => exact hq
/-- A slice of known capacity is one of any, ahead of a loop. -/
theorem wpA_loop_clip {P : Program} {Γ : Tab} {c : Code} {Q : Ex → St → Prop} {σ : St} (d : Nat) (es : List A) (hd : look σ.s d = .clip es)
    (hw : wpA P Γ (.loop c) Q ⟨(d, .slc es) :: σ.s, σ.H⟩) : wpA P Γ (.loop c) Q σ := by
  simp only [wpA] at hw ⊢
  obtain ⟨ι, inv, μ, ⟨i, hi⟩, hs⟩ := hw
  exact ⟨ι, inv, μ, ⟨i, .wk d es hd hi⟩, hs⟩
/-- Objects become data, ahead of a loop. -/
theorem wpA_loop_frz {P : Program} {Γ : Tab} {c : Code} {Q : Ex → St → Prop} {σ : St} (ρ : List Nat) (hn : ρ.Nodup) (hf : ∀ n ∈ ρ, Γ.nf ≤ n)
    (hw : K? (renH ρ σ.H ρ) fun H₀ => wpA P Γ (.loop c) Q (frzSt ρ H₀ σ)) : wpA P Γ (.loop c) Q σ := by
  obtain ⟨H₀, hH, hw⟩ := hw
  simp only [wpA] at hw ⊢
  obtain ⟨ι, inv, μ, ⟨i, hi⟩, hs⟩ := hw
  exact ⟨ι, inv, μ, ⟨i, .frz ρ H₀ hn hH hf hi⟩, hs⟩
/-- A loop at whose end objects become data. -/
theorem wpA_loopF {P : Program} {Γ : Tab} {c : Code} {Q : Ex → St → Prop} {σ : St} {ι : Type} (ρ : List Nat) (hρ : ρ.Nodup) (hf : ∀ n ∈ ρ, Γ.nf ≤ n) (ks : List Nat) (u : ι → List (Nat × A)) (h : ι → List (Nat × Obj)) (μ : ι → Nat) (i₀ : ι) (hn : Γ.nf ≤ σ.H.length)
    (h0 : σ.le (headSt σ ks (u i₀) (h i₀)))
    (hs : ∀ i, wpA P Γ c (loopQ (fun τ => ∃ j, (τ.le (headSt σ ks (u j) (h j)) ∨ K? (renH ρ τ.H ρ) fun H₀ => (frzSt ρ H₀ τ).le (headSt σ ks (u j) (h j))) ∧ μ j < μ i) Q) (headSt σ ks (u i) (h i))) : wpA P Γ (.loop c) Q σ := by
  have hl : ∀ i, Γ.nf ≤ (headSt σ ks (u i) (h i)).H.length := fun i => by
    show Γ.nf ≤ (updsH σ.H (h i)).length
    rw [updsH_len]; exact hn
  simp only [wpA]
  refine ⟨ι, fun i => headSt σ ks (u i) (h i), μ, ⟨i₀, .le (hl i₀) h0⟩, fun i => ?_⟩
  refine wpA_mono (fun e τ hq => ?_) (hs i)
  cases e with
  | normal =>
    obtain ⟨j, h1, h2⟩ := hq
    rcases h1 with h1 | ⟨H₀, hH, h1⟩
    · exact ⟨j, .le (hl j) h1, h2⟩
    · exact ⟨j, .frz ρ H₀ hρ hH hf (.le (hl j) h1), h2⟩
  | exit id => exact hq
  | ret => exact hq
@[go_sem] theorem frzSt_eq {ρ : List Nat} {H₀ : List Obj} {s : List (Nat × A)} {H : List Obj} : frzSt ρ H₀ (St.mk s H) = ⟨s.map (fun p => (p.1, frzA ρ H₀ p.2)), dropO ρ ρ (H.map (frzO ρ H₀))⟩ := rfl
/-- A loop at whose head the objects are told for each index. -/
theorem wpA_loopH {P : Program} {Γ : Tab} {c : Code} {Q : Ex → St → Prop} {σ : St} {ι : Type} (ks : List Nat) (u : ι → List (Nat × A)) (h : ι → List Obj) (μ : ι → Nat) (i₀ : ι) (hn : ∀ i, Γ.nf ≤ (h i).length)
    (h0 : σ.le ⟨u i₀ ++ keepS σ.s ks, h i₀⟩)
    (hs : ∀ i, wpA P Γ c (loopQ (fun τ => ∃ j, τ.le ⟨u j ++ keepS σ.s ks, h j⟩ ∧ μ j < μ i) Q) ⟨u i ++ keepS σ.s ks, h i⟩) : wpA P Γ (.loop c) Q σ := by
  simp only [wpA]
  refine ⟨ι, fun i => ⟨u i ++ keepS σ.s ks, h i⟩, μ, ⟨i₀, .le (hn i₀) h0⟩, fun i => ?_⟩
  refine wpA_mono (fun e τ hq => ?_) (hs i)
  cases e with
  | normal => obtain ⟨j, h1, h2⟩ := hq; exact ⟨j, .le (hn j) h1, h2⟩
  | exit id => exact hq
  | ret => exact hq
/-- A slot's nil slice becomes an object of its own, ahead of a loop. -/
theorem wpA_loop_nil {P : Program} {Γ : Tab} {c : Code} {Q : Ex → St → Prop} {σ : St} (d k : Nat) (hd : look σ.s d = .nils)
    (hw : wpA P Γ (.loop c) Q ⟨(d, .row σ.H.length 0 k 0 false) :: σ.s, σ.H ++ [.row k []]⟩) : wpA P Γ (.loop c) Q σ := by
  simp only [wpA] at hw ⊢
  obtain ⟨ι, inv, μ, ⟨i, hi⟩, hs⟩ := hw
  exact ⟨ι, inv, μ, ⟨i, .nil d k hd hi⟩, hs⟩
/-- A box's nil slices as slices, ahead of a loop. -/
theorem wpA_loop_norm {P : Program} {Γ : Tab} {c : Code} {Q : Ex → St → Prop} {σ : St} (m : Nat) (cs : List A) (hm : nthO σ.H m = some (.box cs))
    (hw : wpA P Γ (.loop c) Q ⟨σ.s, setO σ.H m (.box (cs.map norm0))⟩) : wpA P Γ (.loop c) Q σ := by
  simp only [wpA] at hw ⊢
  obtain ⟨ι, inv, μ, ⟨j, hj⟩, hs⟩ := hw
  exact ⟨ι, inv, μ, ⟨j, .wkb m cs hm hj⟩, hs⟩
/-- Likewise a nil slice in a variable's box. -/
theorem wpA_loop_nilb {P : Program} {Γ : Tab} {c : Code} {Q : Ex → St → Prop} {σ : St} (m i k : Nat) (cs : List A) (hm : nthO σ.H m = some (.box cs)) (hi : cs[i]? = some .nils)
    (hw : wpA P Γ (.loop c) Q ⟨σ.s, setO σ.H m (.box (setNth cs i (.row σ.H.length 0 k 0 false))) ++ [.row k []]⟩) : wpA P Γ (.loop c) Q σ := by
  simp only [wpA] at hw ⊢
  obtain ⟨ι, inv, μ, ⟨j, hj⟩, hs⟩ := hw
  exact ⟨ι, inv, μ, ⟨j, .nilb m i k cs hm hi hj⟩, hs⟩

section
variable {σ τ : St} {s : List (Nat × A)} {ks : List Nat} {H G : List Obj} {d n k : Nat} {v a b : A} {o p : Obj} {cs ds : List A}
@[go_sem] theorem keepS_nil : keepS s [] = [] := rfl
@[go_sem] theorem keepS_cons : keepS s (d :: ks) = (d, look s d) :: keepS s ks := rfl
@[go_sem] theorem updsH_nil : updsH H [] = H := rfl
@[go_sem] theorem updsH_cons {hs : List (Nat × Obj)} : updsH H ((n, o) :: hs) = updsH (setO H n o) hs := rfl
@[go_sem] theorem head_eq {σs : List (Nat × A)} {σH : List Obj} {u : List (Nat × A)} {hs : List (Nat × Obj)} : headSt (St.mk σs σH) ks u hs = { s := u ++ keepS σs ks, H := updsH σH hs } := rfl
@[go_sem] theorem le_eq {s r : List (Nat × A)} {H G : List Obj} : (St.mk s H).le ⟨r, G⟩ = (leS G.length s r ∧ leH G.length H G) := rfl
@[go_sem] theorem leS_nil : leS n s [] = True := rfl
@[go_sem] theorem leS_cons {r : List (Nat × A)} : leS n s ((d, v) :: r) = ((look s d = v ∧ v.under n = true) ∧ leS n s r) := rfl
@[go_sem] theorem leH_nil : leH n [] [] = True := by simp [leH]
@[go_sem] theorem leH_nil' : leH n (o :: H) [] = True := by simp [leH]
@[go_sem] theorem leH_cons : leH n (o :: H) (p :: G) = (leO n o p ∧ leH n H G) := by simp [leH]
@[go_sem] theorem leO_box : leO n (.box cs) (.box ds) = leL n cs ds := by simp [leO]
@[go_sem] theorem leO_row {j : Nat} : leO n (.row k cs) (.row j ds) = (k = j ∧ cs = ds) := by simp [leO]
@[go_sem] theorem leL_nil : leL n [] [] = True := by simp [leL]
@[go_sem] theorem leL_cons : leL n (a :: cs) (b :: ds) = ((b = .any ∨ (a = b ∧ b.under n = true)) ∧ leL n cs ds) := by simp [leL]
end
attribute [go_sem] A.int.injEq A.bool.injEq A.str.injEq A.slc.injEq A.agg.injEq A.ref.injEq A.row.injEq A.tup.injEq A.fn.injEq

end Go.Abs
