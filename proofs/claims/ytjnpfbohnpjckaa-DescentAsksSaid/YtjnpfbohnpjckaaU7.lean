/- What the laws of this claim rest on: the abstract executor, its soundness, and what the functions compute on pure data. No condition. -/
import Derived.Test.YtjnpfbohnpjckaaU5
import Derived.Test.YtjnpfbohnpjckaaU6
import Derived.Deep.RegionWith
import Derived.BigRegion
import Derived.Laws.NewBlocks
import Derived.Lib.Hide
set_option linter.unusedVariables false
set_option linter.unusedSimpArgs false
namespace Go.Proofs.Ytjnpfbohnpjckaa
open Go.Abs
set_option linter.unusedSimpArgs false
set_option linter.unusedVariables false
inductive Tn where
  | leaf
  | node (b : Nat) (x : It) (l r : Tn) (o : Int)
def Tn.h : Tn → Nat
  | .leaf => 0
  | .node _ _ l r _ => 1 + max l.h r.h
def Tn.n : Tn → Nat
  | .leaf => 0
  | .node _ _ l r _ => 1 + l.n + r.n
def Tn.s : Tn → Int
  | .leaf => 0
  | .node _ _ l r o => IntKind.u64.wrap (IntKind.u64.wrap (o + l.s) + r.s)
def Tn.blocks : Tn → List Nat
  | .leaf => []
  | .node b _ l r _ => b :: (l.blocks ++ r.blocks)
def Tn.its : Tn → List (It × Int)
  | .leaf => []
  | .node _ x l r o => l.its ++ (x, o) :: r.its
def levelR (b : Nat) (x : It) (l : Tn) (r : Tn) (o : Int) : Tn :=
  if l.h + 1 < r.h then (match r with | .leaf => .node b x l .leaf o | .node c y rl rr p => .node c y (.node b x l rl o) rr p) else .node b x l r o
def insR : Tn → Nat → It → Int → Tn
  | .leaf, nb, x, o => .node nb x .leaf .leaf o
  | .node b y l r p, nb, x, o => levelR b y l (insR r nb x o) p
def SB : Tn → Prop
  | .leaf => True
  | .node _ _ l r _ => l.h ≤ r.h ∧ r.h ≤ l.h + 1 ∧ SB r
def rightH : Tn → Prop
  | .leaf => False
  | .node _ _ l r _ => r.h = l.h + 1
theorem insR_ok : ∀ (t : Tn) (nb : Nat) (x : It) (o : Int), SB t → SB (insR t nb x o) ∧ ((insR t nb x o).h = t.h ∨ ((insR t nb x o).h = t.h + 1 ∧ (t = .leaf ∨ rightH (insR t nb x o))))
  | .leaf, nb, x, o, _ => by simp [insR, SB, Tn.h]
  | .node b y l r p, nb, x, o, h => by
    obtain ⟨h1, h2, h3⟩ := h
    obtain ⟨i1, i2⟩ := insR_ok r nb x o h3
    simp only [insR]
    generalize hr' : insR r nb x o = r' at *
    unfold levelR
    by_cases hc : l.h + 1 < r'.h
    · rw [if_pos hc]
      rcases i2 with i2 | ⟨i2, i3⟩
      · omega
      · cases r' with
        | leaf => simp [Tn.h] at hc
        | node c z rl rr q =>
          rcases i3 with rfl | i3
          · simp [Tn.h] at i2 h2 h1; simp [Tn.h] at hc; omega
          · simp only [rightH] at i3
            simp only [SB] at i1
            simp only [Tn.h] at i2 hc
            refine ⟨?_, .inl ?_⟩
            · simp only [SB, Tn.h]
              refine ⟨by omega, by omega, i1.2.2⟩
            · simp only [Tn.h]; omega
    · rw [if_neg hc]
      refine ⟨⟨by omega, by omega, i1⟩, ?_⟩
      simp only [Tn.h, rightH]
      rcases i2 with i2 | ⟨i2, i3⟩
      · exact .inl (by omega)
      · exact .inr ⟨by omega, .inr (by omega)⟩
theorem insR_turn {t : Tn} {nb : Nat} {x : It} {o : Int} {l : Tn} (h : SB t) (hl : t.h ≤ l.h + 1) (hg : l.h ≤ t.h) (hc : l.h + 1 < (insR t nb x o).h) : ∃ c z rl rr q, insR t nb x o = .node c z rl rr q ∧ rr.h = rl.h + 1 ∧ (insR t nb x o).h = l.h + 2 := by
  obtain ⟨i1, i2⟩ := insR_ok t nb x o h
  rcases i2 with i2 | ⟨i2, i3⟩
  · omega
  · rcases i3 with rfl | i3
    · simp [Tn.h] at hl hg i2; omega
    · cases hr : insR t nb x o with
      | leaf => rw [hr] at i3; exact i3.elim
      | node c z rl rr q =>
        rw [hr] at i3
        exact ⟨c, z, rl, rr, q, rfl, i3, by rw [← hr]; omega⟩
theorem level_n (b : Nat) (x : It) (l r : Tn) (o : Int) : (levelR b x l r o).n = 1 + l.n + r.n := by
  unfold levelR
  split
  · cases r <;> simp [Tn.n]; omega
  · rfl
theorem insR_n : ∀ (t : Tn) (nb : Nat) (x : It) (o : Int), (insR t nb x o).n = t.n + 1
  | .leaf, _, _, _ => rfl
  | .node b y l r p, nb, x, o => by simp only [insR, level_n, insR_n r, Tn.n]; omega
theorem level_its (b : Nat) (x : It) (l r : Tn) (o : Int) : (levelR b x l r o).its = l.its ++ (x, o) :: r.its := by
  unfold levelR
  split
  · cases r <;> simp [Tn.its]
  · rfl
theorem insR_its : ∀ (t : Tn) (nb : Nat) (x : It) (o : Int), (insR t nb x o).its = t.its ++ [(x, o)]
  | .leaf, _, _, _ => rfl
  | .node b y l r p, nb, x, o => by simp only [insR, level_its, insR_its r, Tn.its]; simp
theorem level_blocks (b : Nat) (x : It) (l r : Tn) (o : Int) : (levelR b x l r o).blocks.Perm (b :: (l.blocks ++ r.blocks)) := by
  unfold levelR
  split
  · cases r with
    | leaf => exact List.Perm.refl _
    | node c y rl rr p =>
      simp only [Tn.blocks]
      have h1 : (c :: (b :: (l.blocks ++ rl.blocks) ++ rr.blocks)).Perm (b :: c :: (l.blocks ++ rl.blocks ++ rr.blocks)) := by
        rw [List.cons_append]; exact List.Perm.swap b c _
      refine h1.trans (List.Perm.cons b ?_)
      rw [List.append_assoc]
      exact List.perm_middle.symm
  · exact List.Perm.refl _
theorem insR_blocks : ∀ (t : Tn) (nb : Nat) (x : It) (o : Int), (insR t nb x o).blocks.Perm (nb :: t.blocks)
  | .leaf, nb, _, _ => by simp [insR, Tn.blocks]
  | .node b y l r p, nb, x, o => by
    simp only [insR, Tn.blocks]
    refine (level_blocks b y l (insR r nb x o) p).trans ?_
    have h1 := insR_blocks r nb x o
    have h2 : (b :: (l.blocks ++ (insR r nb x o).blocks)).Perm (b :: (l.blocks ++ nb :: r.blocks)) := List.Perm.cons b (List.Perm.append_left _ h1)
    refine h2.trans ?_
    have h3 : (l.blocks ++ nb :: r.blocks).Perm (nb :: (l.blocks ++ r.blocks)) := List.perm_middle
    exact (List.Perm.cons b h3).trans (List.Perm.swap nb b _)
theorem h_le_n : ∀ t : Tn, t.h ≤ t.n
  | .leaf => Nat.le_refl _
  | .node _ _ l r _ => by
    have := h_le_n l
    have := h_le_n r
    simp only [Tn.h, Tn.n]; omega
theorem its_len : ∀ t : Tn, t.its.length = t.n
  | .leaf => rfl
  | .node _ _ l r _ => by simp [Tn.its, Tn.n, its_len l, its_len r]; omega
end Go.Proofs.Ytjnpfbohnpjckaa
namespace Go.Proofs.Ytjnpfbohnpjckaa
open Go.RowKit
set_option linter.unusedSimpArgs false
set_option linter.unusedVariables false
set_option maxRecDepth 100000
set_option maxHeartbeats 4000000
def strV (s : List UInt8) : Value := .string ⟨s.toArray⟩
def itemC (x : It) : Array Value := #[strV x.key, .int .i64 x.rep, .int .i64 x.cnt, .int .i64 x.rank, .int .i64 x.prio, .bool x.dead, strV x.body]
def itemV (x : It) : Value := .agg (itemC x)
def ptrT : Tn → Option Addr
  | .leaf => none
  | .node b _ _ _ _ => some ⟨b, 0, none⟩
def Tr (w : World) : Tn → Prop
  | .leaf => True
  | .node b x l r o => Nd w b (strV x.key) (.int .i64 x.rep) (.int .i64 x.cnt) (.int .i64 x.rank) (.int .i64 x.prio) (.bool x.dead) (strV x.body) (.pointer (ptrT l)) (.pointer (ptrT r)) (.int .i64 (1 + max (l.h : Int) r.h)) (.int .i64 (1 + l.n + r.n)) (.int .u64 o) (.int .u64 (Tn.s (.node b x l r o))) ∧ Tr w l ∧ Tr w r
theorem Tr.dp {w : World} : ∀ {t : Tn}, Tr w t → Dp w (.pointer (ptrT t)) t.h t.n t.s
  | .leaf, _ => .inl ⟨rfl, rfl, rfl, rfl⟩
  | .node b x l r o, h => by
    have := h.1.dp
    have e1 : ((Tn.node b x l r o).h : Int) = 1 + max (l.h : Int) r.h := by simp only [Tn.h]; omega
    have e2 : ((Tn.node b x l r o).n : Int) = 1 + l.n + r.n := by simp only [Tn.n]; omega
    rw [e1, e2]; exact this
theorem Tr.lt {w : World} : ∀ {t : Tn}, Tr w t → ∀ b ∈ t.blocks, b < w.heap.size
  | .leaf, _, b, h => by simp [Tn.blocks] at h
  | .node c x l r o, h, b, hb => by
    simp only [Tn.blocks, List.mem_cons, List.mem_append] at hb
    rcases hb with rfl | hb | hb
    · exact h.1.lt
    · exact Tr.lt h.2.1 b hb
    · exact Tr.lt h.2.2 b hb
theorem Tr.wr {B : Nat → Prop} {w w' : World} (hw : Wr B w w') : ∀ {t : Tn}, Tr w t → (∀ b ∈ t.blocks, ¬ B b) → Tr w' t
  | .leaf, _, _ => trivial
  | .node c x l r o, h, hn => ⟨h.1.wr hw (hn c (by simp [Tn.blocks])), Tr.wr hw h.2.1 (fun b hb => hn b (by simp [Tn.blocks, hb])), Tr.wr hw h.2.2 (fun b hb => hn b (by simp [Tn.blocks, hb]))⟩
theorem ptr_in {t : Tn} {k : Nat} (h : Value.pointer (ptrT t) = .pointer (some ⟨k, 0, none⟩)) : k ∈ t.blocks := by
  cases t with
  | leaf => simp [ptrT] at h
  | node b x l r o =>
    simp [ptrT] at h
    subst h
    simp [Tn.blocks]
theorem Wr.trans' {B C : Nat → Prop} {w w1 w2 : World} (h : Wr B w w1) (h' : Wr C w1 w2) (hBC : ∀ k, k < w.heap.size → C k → B k) : Wr B w w2 :=
  ⟨Nat.le_trans h.size h'.size, fun b hb hn => (h'.block b (Nat.lt_of_lt_of_le hb h.size) fun hC => hn (hBC b hb hC)).trans (h.block b hb hn), h'.os.trans h.os, h'.tape.trans h.tape, h'.output.trans h.output, Nat.le_trans h.drawn h'.drawn⟩
def PutPost (t : Tn) (x : It) (o : Int) (w : World) (e : Ending) (w' : World) : Prop :=
  ∃ nb, w.heap.size ≤ nb ∧ nb < w'.heap.size ∧ e = .returned (.pointer (ptrT (insR t nb x o))) ∧ Tr w' (insR t nb x o) ∧ Wr (· ∈ t.blocks) w w'
theorem wr_alloc (B : Nat → Prop) (w : World) (ob : Go.Obj) : Wr B w (w.alloc ob) := by
  have h := Go.Abs.Grew.alloc w ob
  exact ⟨h.size, fun b hb _ => h.block b hb, h.os, h.tape, h.output, Nat.le_refl _⟩
theorem alloc_at (w : World) (ob : Go.Obj) : (w.alloc ob).heap[w.heap.size]? = some ob := by
  show (w.heap.push ob)[w.heap.size]? = some ob
  simp
theorem alloc_size (w : World) (ob : Go.Obj) : (w.alloc ob).heap.size = w.heap.size + 1 := by
  show (w.heap.push ob).size = _
  simp
theorem put_leaf (x : It) (o : Int) (w : World) : Calls Try.prog 41 #[.pointer none, itemV x, .int .u64 o] w (PutPost .leaf x o w) := by
  unfold itemV itemC
  go_enter Try.func41, Try.ntmps41
  go_wp2_with fail
  have hs := alloc_size w (.cells #[strV x.key, .int .i64 x.rep, .int .i64 x.cnt, .int .i64 x.rank, .int .i64 x.prio, .bool x.dead, strV x.body] 69)
  have h1 := wr_alloc (fun b => b ∈ Tn.leaf.blocks) w (.cells #[strV x.key, .int .i64 x.rep, .int .i64 x.cnt, .int .i64 x.rank, .int .i64 x.prio, .bool x.dead, strV x.body] 69)
  generalize w.alloc (.cells #[strV x.key, .int .i64 x.rep, .int .i64 x.cnt, .int .i64 x.rank, .int .i64 x.prio, .bool x.dead, strV x.body] 69) = w1 at *
  have hs2 := alloc_size w1 (.cells #[strV x.key, .int .i64 x.rep, .int .i64 x.cnt, .int .i64 x.rank, .int .i64 x.prio, .bool x.dead, strV x.body, .pointer none, .pointer none, .int .i64 0, .int .i64 0, .int .u64 o, .int .u64 0] nT)
  have h2 := wr_alloc (fun b => b ∈ Tn.leaf.blocks) w1 (.cells #[strV x.key, .int .i64 x.rep, .int .i64 x.cnt, .int .i64 x.rank, .int .i64 x.prio, .bool x.dead, strV x.body, .pointer none, .pointer none, .int .i64 0, .int .i64 0, .int .u64 o, .int .u64 0] nT)
  have hN := alloc_at w1 (.cells #[strV x.key, .int .i64 x.rep, .int .i64 x.cnt, .int .i64 x.rank, .int .i64 x.prio, .bool x.dead, strV x.body, .pointer none, .pointer none, .int .i64 0, .int .i64 0, .int .u64 o, .int .u64 0] nT)
  generalize w1.alloc (.cells #[strV x.key, .int .i64 x.rep, .int .i64 x.cnt, .int .i64 x.rank, .int .i64 x.prio, .bool x.dead, strV x.body, .pointer none, .pointer none, .int .i64 0, .int .i64 0, .int .u64 o, .int .u64 0] nT) = w2 at *
  rw [hs] at hN
  have F := fix_calls (w.heap.size + 1) _ _ _ _ _ _ _ (.pointer none) (.pointer none) _ _ _ 0 0 0 0 0 0 o w2 ⟨_, hN⟩ (.inl ⟨rfl, rfl, rfl, rfl⟩) (.inl ⟨rfl, rfl, rfl, rfl⟩) (fun c h => by simp at h) (fun c h => by simp at h) (by omega) (by omega)
  refine F.mono ?_
  rintro e w3 ⟨rfl, N3, W3⟩
  go_wp2_with fail
  go_ret
  refine ⟨w.heap.size + 1, by omega, by have := W3.size; omega, rfl, ⟨N3, trivial, trivial⟩, ?_⟩
  have h12 := h1.trans h2
  exact ⟨Nat.le_trans h12.size W3.size, fun c hc hn => (W3.block c (Nat.lt_of_lt_of_le hc h12.size) (fun h => by have h : c = w.heap.size + 1 := h; omega)).trans (h12.block c hc hn), W3.os.trans h12.os, W3.tape.trans h12.tape, W3.output.trans h12.output, Nat.le_trans h12.drawn W3.drawn⟩
theorem grew_wr {B : Nat → Prop} {w w' : World} (h : Go.Abs.Grew w w') (hd : w.drawn ≤ w'.drawn) : Wr B w w' := ⟨h.size, fun b hb _ => h.block b hb, h.os, h.tape, h.output, hd⟩
theorem cmp_calls (a b : List UInt8) (ha : a.length ≤ 9223372036854775807) (hb : b.length ≤ 9223372036854775807) (w : World) : Calls Try.prog 40 #[strV a, strV b] w fun e w' => e = .returned (.int .i64 (cmpB a b)) ∧ Go.Abs.Grew w w' := by
  refine (c_key_Cmp a b ha hb (fun _ => False) w [strV a, strV b] (fun _ h => h.elim) ?_).mono ?_
  · simp only [Go.Abs.RepL, Go.Abs.Rep]
    exact ⟨_, _, rfl, rfl, _, _, rfl, rfl, rfl⟩
  · rintro e w' ⟨v, r, rfl, rfl, hr, hg⟩
    simp only [Go.Abs.Rep] at hr
    subst hr
    exact ⟨rfl, hg⟩
theorem put_node (b : Nat) (y : It) (l r : Tn) (p : Int) (x : It) (o : Int) (w : World) (hT : Tr w (.node b y l r p)) (hSB : SB (.node b y l r p)) (hnd : (Tn.node b y l r p).blocks.Nodup) (hn : (Tn.node b y l r p).n ≤ 200)
    (hk : cmpB x.key y.key = 1) (hx : x.key.length ≤ 9223372036854775807) (hy : y.key.length ≤ 9223372036854775807)
    (H : ∀ w', Wr (fun _ => False) w w' → Calls Try.prog 41 #[.pointer (ptrT r), itemV x, .int .u64 o] w' (PutPost r x o w')) :
    Calls Try.prog 41 #[.pointer (some ⟨b, 0, none⟩), itemV x, .int .u64 o] w (PutPost (.node b y l r p) x o w) := by
  obtain ⟨hN, hTl, hTr⟩ := hT
  have hb := hN.lt
  have H' := Lib.hid H
  clear H
  unfold itemV itemC
  go_enter Try.func41, Try.ntmps41
  go_wp2_with fail
  have W1 := wr_alloc (fun _ => False) w (.cells #[strV x.key, .int .i64 x.rep, .int .i64 x.cnt, .int .i64 x.rank, .int .i64 x.prio, .bool x.dead, strV x.body] 69)
  have B1 := alloc_at w (.cells #[strV x.key, .int .i64 x.rep, .int .i64 x.cnt, .int .i64 x.rank, .int .i64 x.prio, .bool x.dead, strV x.body] 69)
  have Z1 := alloc_size w (.cells #[strV x.key, .int .i64 x.rep, .int .i64 x.cnt, .int .i64 x.rank, .int .i64 x.prio, .bool x.dead, strV x.body] 69)
  have N1 := hN.wr W1 id
  have L1 := hTl.wr W1 (fun _ _ h => h)
  have R1 := hTr.wr W1 (fun _ _ h => h)
  generalize w.alloc (.cells #[strV x.key, .int .i64 x.rep, .int .i64 x.cnt, .int .i64 x.rank, .int .i64 x.prio, .bool x.dead, strV x.body] 69) = w1 at *
  generalize hz : w.heap.size = z at *
  have c0 : w1.cell? ⟨z, 0, none⟩ = some (strV x.key) := by simp [World.cell?, B1]
  have k0 := N1.cell 0
  simp at k0
  refine wp_region_still_tail 7 (by kernel_rfl) (by kernel_rfl) ?_
  simp only [List.take_succ_cons, List.take_zero, List.drop_succ_cons, List.drop_zero]
  repeat still_step
  refine wpStill_nil ?_
  change wpList _ _ _ _ _ w1.drew
  go_wp2_with fail
  refine (cmp_calls _ _ hx hy w1.drew).mono ?_
  rintro e w2 ⟨rfl, G2⟩
  rw [hk]
  have W2 : Wr (fun _ => False) w1 w2 := (wr_drew _ w1).trans (grew_wr G2 (G2.drawn trivial))
  have B2 : w2.heap[z]? = some (.cells #[strV x.key, .int .i64 x.rep, .int .i64 x.cnt, .int .i64 x.rank, .int .i64 x.prio, .bool x.dead, strV x.body] 69) := (W2.block z (by omega) id).trans B1
  have N2 := N1.wr W2 id
  have L2 := L1.wr W2 (fun _ _ h => h)
  have R2 := R1.wr W2 (fun _ _ h => h)
  have c0 : w2.cell? ⟨z, 0, none⟩ = some (strV x.key) := by simp [World.cell?, B2]
  have c1 : w2.cell? ⟨z, 1, none⟩ = some (.int .i64 x.rep) := by simp [World.cell?, B2]
  have c2 : w2.cell? ⟨z, 2, none⟩ = some (.int .i64 x.cnt) := by simp [World.cell?, B2]
  have c3 : w2.cell? ⟨z, 3, none⟩ = some (.int .i64 x.rank) := by simp [World.cell?, B2]
  have c4 : w2.cell? ⟨z, 4, none⟩ = some (.int .i64 x.prio) := by simp [World.cell?, B2]
  have c5 : w2.cell? ⟨z, 5, none⟩ = some (.bool x.dead) := by simp [World.cell?, B2]
  have c6 : w2.cell? ⟨z, 6, none⟩ = some (strV x.body) := by simp [World.cell?, B2]
  have k8 := N2.cell 8
  simp at k8
  have hlz : ∀ k ∈ l.blocks, k < z := fun k hk => by have := Tr.lt hTl k hk; omega
  have hrz : ∀ k ∈ r.blocks, k < z := fun k hk => by have := Tr.lt hTr k hk; omega
  have hbz : b < z := by omega
  clear k0 N1 L1 R1 B1 hN hTl hTr
  go_wp2_with fail
  have hbr : b ∉ r.blocks := fun h => by
    have := (List.nodup_cons.1 hnd).1
    exact this (List.mem_append.2 (.inr h))
  have HP := H'.out w2.drew ((W1.trans W2).trans (wr_drew _ w2))
  clear H'
  unfold itemV itemC at HP
  have N2d : Nd w2.drew b _ _ _ _ _ _ _ _ _ _ _ _ _ := N2
  go_region_with (go_at_call 41; refine HP.mono ?_; rintro e w3 ⟨nb, n1, n2, rfl, T3, W3⟩; have N3 := N2d.wr W3 hbr; have k8 := N3.cell 8; have f8 := N3.frozen 8; simp at k8)
  all_goals
    have hbl : b ∉ l.blocks := fun h => (List.nodup_cons.1 hnd).1 (List.mem_append.2 (.inl h))
    have hlr : ∀ k ∈ l.blocks, k ∉ r.blocks := fun k h1 h2 => (List.nodup_append.1 (List.nodup_cons.1 hnd).2).2.2 k h1 k h2 rfl
    have hrn : r.blocks.Nodup := (List.nodup_append.1 (List.nodup_cons.1 hnd).2).2.1
    have W02 : Wr (fun _ => False) w w2 := W1.trans W2
    have hzz : w2.drew.heap.size = w2.heap.size := rfl
    have hnb : z ≤ nb := by have := W02.size; omega
    have hp := insR_blocks r nb x o
    have hin : ∀ k ∈ (insR r nb x o).blocks, k = nb ∨ k ∈ r.blocks := fun k h => by
      have := hp.mem_iff.1 h
      simpa using this
    have hbn : b ∉ (insR r nb x o).blocks := fun h => by
      rcases hin b h with h | h
      · omega
      · exact hbr h
    have hln : ∀ k ∈ l.blocks, k ∉ (insR r nb x o).blocks := fun k h1 h2 => by
      rcases hin k h2 with h | h
      · have := hlz k h1; omega
      · exact hlr k h1 h
    have L3 := (L2.wr (wr_drew (fun _ => False) w2) (fun _ _ h => h)).wr W3 (fun k h1 h2 => hlr k h1 h2)
    have S4 := wr_set w3 b 8 (.pointer (ptrT (insR r nb x o)))
    have N4 := N3.set8 (.pointer (ptrT (insR r nb x o)))
    have L4 := L3.wr S4 (fun k hk h => hbl (by have h : k = b := h; rw [← h]; exact hk))
    have T4 := T3.wr S4 (fun k hk h => hbn (by have h : k = b := h; rw [← h]; exact hk))
    have W04 : Wr (· ∈ (Tn.node b y l r p).blocks) w (w3.setCell ⟨b, 8, none⟩ (.pointer (ptrT (insR r nb x o)))) := by
      refine ((W02.mono fun _ _ h => h.elim).trans (wr_drew _ w2)).trans ((W3.mono fun k _ h => ?_).trans (S4.mono fun k _ h => ?_))
      · simp [Tn.blocks, show k ∈ r.blocks from h]
      · have h : k = b := h
        simp [Tn.blocks, h]
    have hZ4 : nb < (w3.setCell ⟨b, 8, none⟩ (.pointer (ptrT (insR r nb x o)))).heap.size := by have := S4.size; omega
    generalize w3.setCell ⟨b, 8, none⟩ (.pointer (ptrT (insR r nb x o))) = w4 at *
    obtain ⟨s1, s2, s3⟩ := hSB
    obtain ⟨i1, i2⟩ := insR_ok r nb x o s3
    have hnn := insR_n r nb x o
    have hh := h_le_n (insR r nb x o)
    have hhl := h_le_n l
    simp only [Tn.n] at hn
    have hi : insR (.node b y l r p) nb x o = levelR b y l (insR r nb x o) p := rfl
    by_cases hc : l.h + 1 < (insR r nb x o).h
    · obtain ⟨c, v, rl, rr, q, e1, e2, e3⟩ := insR_turn s3 s2 s1 hc
      rw [e1] at T4 N4 hln hbn hnn hh e3 hc hi
      have hi : insR (.node b y l r p) nb x o = .node c v (.node b y l rl p) rr q := by rw [hi]; unfold levelR; rw [if_pos hc]
      obtain ⟨M4, Q4, R4⟩ := T4
      have hnd2 : (Tn.node c v rl rr q).blocks.Nodup := by
        rw [← e1]
        refine hp.nodup_iff.2 (List.nodup_cons.2 ⟨fun h => ?_, hrn⟩)
        have := hrz nb h; omega
      simp only [Tn.blocks] at hnd2 hbn hln
      have hcn : c ∉ rl.blocks ∧ c ∉ rr.blocks := by
        have := (List.nodup_cons.1 hnd2).1
        simpa using this
      have hql : ∀ k ∈ rl.blocks, k ∉ rr.blocks := fun k h1 h2 => (List.nodup_append.1 (List.nodup_cons.1 hnd2).2).2.2 k h1 k h2 rfl
      have hbc : b ≠ c := fun h => hbn (by simp [h])
      simp only [Tn.n] at hnn
      simp only [Tn.h] at e3 hh
      have hq1 := h_le_n rl
      have hq2 := h_le_n rr
      have F := level_turn b c _ _ _ _ _ _ _ _ _ _ _ _ _ _ _ _ _ _ _ (ptrT rl) l.h l.n l.s rl.h rl.n rl.s rr.h rr.n rr.s p q _ _ _ w4 hbc N4 M4 L4.dp Q4.dp R4.dp
        (fun k hk => ⟨fun h => hbl (by rw [← h]; exact ptr_in hk), fun h => hln k (ptr_in hk) (by simp [h])⟩)
        (fun k hk => ⟨fun h => hbn (by have := ptr_in hk; rw [h] at this; simp [this]), fun h => hcn.1 (by have := ptr_in hk; rw [h] at this; exact this)⟩)
        (fun k hk => ⟨fun h => hbn (by have := ptr_in hk; rw [h] at this; simp [this]), fun h => hcn.2 (by have := ptr_in hk; rw [h] at this; exact this)⟩)
        (by omega) (by omega) (by omega) (by omega) (by omega)
      go_wp2_with fail
      refine F.mono ?_
      rintro e w5 ⟨rfl, N5, M5, W5⟩
      go_wp2_with fail
      go_ret
      unfold PutPost
      refine ⟨nb, by omega, by have := W5.size; omega, by rw [hi]; rfl, ?_, ?_⟩
      · rw [hi]
        have L5 := L4.wr W5 (fun k hk h => by
          rcases h with h | h
          · exact hbl (by rw [← h]; exact hk)
          · exact hln k hk (by simp [h]))
        have Q5 := Q4.wr W5 (fun k hk h => by
          rcases h with h | h
          · exact hbn (by rw [← h]; simp [hk])
          · exact hcn.1 (by rw [← h]; exact hk))
        have R5 := R4.wr W5 (fun k hk h => by
          rcases h with h | h
          · exact hbn (by rw [← h]; simp [hk])
          · exact hcn.2 (by rw [← h]; exact hk))
        have eh : ((Tn.node b y l rl p).h : Int) = 1 + max (l.h : Int) rl.h := by simp only [Tn.h]; omega
        have en : ((Tn.node b y l rl p).n : Int) = 1 + l.n + rl.n := by simp only [Tn.n]; omega
        refine ⟨?_, ⟨N5, L5, Q5⟩, R5⟩
        rw [eh, en]
        exact M5
      · refine W04.trans' W5 fun k hk h => ?_
        rcases h with h | h
        · simp [Tn.blocks, h]
        · have hk2 := hin c (by rw [e1]; simp [Tn.blocks])
          rcases hk2 with hk2 | hk2
          · omega
          · simp [Tn.blocks, h, hk2]
    · have hi : insR (.node b y l r p) nb x o = .node b y l (insR r nb x o) p := by rw [hi]; unfold levelR; rw [if_neg hc]
      have F := level_fix b _ _ _ _ _ _ _ _ _ _ _ _ l.h l.n l.s (insR r nb x o).h (insR r nb x o).n (insR r nb x o).s p w4 N4 L4.dp T4.dp
        (fun k hk h => hbl (by rw [← h]; exact ptr_in hk)) (fun k hk h => hbn (by rw [← h]; exact ptr_in hk)) (by omega) (by omega) (by omega) (by omega)
      go_wp2_with fail
      refine F.mono ?_
      rintro e w5 ⟨rfl, N5, W5⟩
      go_wp2_with fail
      go_ret
      unfold PutPost
      refine ⟨nb, by omega, by have := W5.size; omega, by rw [hi]; rfl, ?_, ?_⟩
      · rw [hi]
        have L5 := L4.wr W5 (fun k hk h => hbl (by have h : k = b := h; rw [← h]; exact hk))
        have T5 := T4.wr W5 (fun k hk h => hbn (by have h : k = b := h; rw [← h]; exact hk))
        exact ⟨N5, L5, T5⟩
      · exact W04.trans (W5.mono fun k hk h => by have h : k = b := h; simp [Tn.blocks, h])
theorem put_calls : ∀ (t : Tn) (x : It) (o : Int) (w : World), Tr w t → SB t → t.blocks.Nodup → t.n ≤ 200 → (∀ y ∈ t.its, cmpB x.key y.1.key = 1 ∧ y.1.key.length ≤ 9223372036854775807) → x.key.length ≤ 9223372036854775807 →
    Calls Try.prog 41 #[.pointer (ptrT t), itemV x, .int .u64 o] w (PutPost t x o w)
  | .leaf, x, o, w, _, _, _, _, _, _ => put_leaf x o w
  | .node b y l r p, x, o, w, hT, hSB, hnd, hn, hk, hx => by
    have hy := hk (y, p) (by simp [Tn.its])
    have hrn : r.blocks.Nodup := (List.nodup_append.1 (List.nodup_cons.1 hnd).2).2.1
    refine put_node b y l r p x o w hT hSB hnd hn hy.1 hx hy.2 fun w' hw => ?_
    refine put_calls r x o w' (hT.2.2.wr hw (fun _ _ h => h)) hSB.2.2 hrn (by simp only [Tn.n] at hn; omega) (fun z hz => hk z (by simp [Tn.its, hz])) hx
def Tb (w : World) (b : Nat) (p : Value) (seed bits : Int) : Prop := ∃ e, w.heap[b]? = some (.cells #[p, .int .u64 seed, .int .i64 bits] e (0, 0))
theorem Tb.lt {w : World} {b : Nat} {p : Value} {seed bits : Int} (h : Tb w b p seed bits) : b < w.heap.size := by
  obtain ⟨e, h⟩ := h
  exact (Array.getElem?_eq_some_iff.1 h).1
theorem Tb.cell {w : World} {b : Nat} {p : Value} {seed bits : Int} (h : Tb w b p seed bits) (j : Nat) : w.cell? ⟨b, j, none⟩ = #[p, .int .u64 seed, .int .i64 bits][j]? := by
  obtain ⟨e, h⟩ := h
  simp [World.cell?, h]
theorem Tb.frozen {w : World} {b : Nat} {p : Value} {seed bits : Int} (h : Tb w b p seed bits) (j : Nat) : w.frozen? ⟨b, j, none⟩ = false := by
  obtain ⟨e, h⟩ := h
  simp [World.frozen?, h]
theorem Tb.set {w : World} {b : Nat} {p : Value} {seed bits : Int} (h : Tb w b p seed bits) (v : Value) : Tb (w.setCell ⟨b, 0, none⟩ v) b v seed bits := by
  obtain ⟨e, h⟩ := h
  have := heap_setCell_same w b 0 _ e v h
  exact ⟨e, by simpa using this⟩
theorem Tb.wr {B : Nat → Prop} {w w' : World} {b : Nat} {p : Value} {seed bits : Int} (h : Tb w b p seed bits) (hw : Wr B w w') (hb : ¬ B b) : Tb w' b p seed bits := by
  have hl := h.lt
  obtain ⟨e, h⟩ := h
  exact ⟨e, (hw.block b hl hb).trans h⟩
theorem item_repl (E : Go.Abs.Env) (x : It) : Go.Abs.Rep E x.enc (itemV x) := by
  obtain ⟨a, b, c, d, e, f, g⟩ := x
  simp only [It.enc, Go.Abs.Rep, Go.Abs.RepL]
  refine ⟨[strV a, .int .i64 b, .int .i64 c, .int .i64 d, .int .i64 e, .bool f, strV g], rfl, ⟨_, _, rfl, rfl, _, _, rfl, rfl, _, _, rfl, rfl, _, _, rfl, rfl, _, _, rfl, rfl, _, _, rfl, rfl, _, _, rfl, rfl, rfl⟩, ?_⟩
  intro u hu
  simp only [List.mem_cons, List.not_mem_nil, or_false] at hu
  rcases hu with rfl | rfl | rfl | rfl | rfl | rfl | rfl <;> rfl
theorem right_calls (x : It) (hx : x.ok) (w : World) : Calls Try.prog 39 #[itemV x] w fun e w' => e = .returned (.bool (rightI x)) ∧ Go.Abs.Grew w w' := by
  refine (c_item_Right x hx (fun _ => False) w [itemV x] (fun _ h => h.elim) ?_).mono ?_
  · simp only [Go.Abs.RepL]
    exact ⟨_, _, rfl, item_repl _ x, rfl⟩
  · rintro e w' ⟨v, r, rfl, rfl, hr, hg⟩
    simp only [Go.Abs.Rep] at hr
    subst hr
    exact ⟨rfl, hg⟩
theorem hash_calls (seed : Int) (x : It) (hx : rightI x = true) (w : World) : Calls Try.prog 42 #[.int .u64 seed, itemV x] w fun e w' => e = .returned (.int .u64 (hashI seed x)) ∧ Go.Abs.Grew w w' := by
  refine (c_hash_Item seed x hx (fun _ => False) w [.int .u64 seed, itemV x] (fun _ h => h.elim) ?_).mono ?_
  · simp only [Go.Abs.RepL]
    exact ⟨_, _, rfl, rfl, _, _, rfl, item_repl _ x, rfl⟩
  · rintro e w' ⟨v, r, rfl, rfl, hr, hg⟩
    simp only [Go.Abs.Rep] at hr
    subst hr
    exact ⟨rfl, hg⟩
theorem Put_calls (tb : Nat) (t : Tn) (x : It) (seed bits : Int) (w : World) (hb : Tb w tb (.pointer (ptrT t)) seed bits) (hT : Tr w t) (hSB : SB t) (hnd : t.blocks.Nodup) (htb : tb ∉ t.blocks) (hn : t.n ≤ 200)
    (hk : ∀ y ∈ t.its, cmpB x.key y.1.key = 1 ∧ y.1.key.length ≤ 9223372036854775807) (hx : rightI x = true) :
    Calls Try.prog 26 #[.pointer (some ⟨tb, 0, none⟩), itemV x] w fun e w' => ∃ nb, w.heap.size ≤ nb ∧ nb < w'.heap.size ∧ e = .returned (.bool true) ∧ Tr w' (insR t nb x (hashI seed x)) ∧ Tb w' tb (.pointer (ptrT (insR t nb x (hashI seed x)))) seed bits ∧ Wr (fun b => b = tb ∨ b ∈ t.blocks) w w' := by
  have hok : x.ok := by
    unfold rightI at hx
    simp only [Bool.and_eq_true, decide_eq_true_eq] at hx
    exact ⟨by omega, by omega⟩
  have FR := right_calls x hok
  have FH := hash_calls seed x hx
  have FP := put_calls t x (hashI seed x)
  rw [hx] at FR
  have hlb := hb.lt
  unfold itemV itemC at *
  go_enter Try.func26, Try.ntmps26
  go_wp2_with fail
  have W1 := wr_alloc (fun _ => False) w (.cells #[strV x.key, .int .i64 x.rep, .int .i64 x.cnt, .int .i64 x.rank, .int .i64 x.prio, .bool x.dead, strV x.body] 69)
  have B1 := alloc_at w (.cells #[strV x.key, .int .i64 x.rep, .int .i64 x.cnt, .int .i64 x.rank, .int .i64 x.prio, .bool x.dead, strV x.body] 69)
  have Z1 := alloc_size w (.cells #[strV x.key, .int .i64 x.rep, .int .i64 x.cnt, .int .i64 x.rank, .int .i64 x.prio, .bool x.dead, strV x.body] 69)
  generalize w.alloc (.cells #[strV x.key, .int .i64 x.rep, .int .i64 x.cnt, .int .i64 x.rank, .int .i64 x.prio, .bool x.dead, strV x.body] 69) = w1 at *
  generalize hz : w.heap.size = z at *
  have c0 : w1.cell? ⟨z, 0, none⟩ = some (strV x.key) := by simp [World.cell?, B1]
  have c1 : w1.cell? ⟨z, 1, none⟩ = some (.int .i64 x.rep) := by simp [World.cell?, B1]
  have c2 : w1.cell? ⟨z, 2, none⟩ = some (.int .i64 x.cnt) := by simp [World.cell?, B1]
  have c3 : w1.cell? ⟨z, 3, none⟩ = some (.int .i64 x.rank) := by simp [World.cell?, B1]
  have c4 : w1.cell? ⟨z, 4, none⟩ = some (.int .i64 x.prio) := by simp [World.cell?, B1]
  have c5 : w1.cell? ⟨z, 5, none⟩ = some (.bool x.dead) := by simp [World.cell?, B1]
  have c6 : w1.cell? ⟨z, 6, none⟩ = some (strV x.body) := by simp [World.cell?, B1]
  go_wp2_with fail
  refine (FR w1).mono ?_
  rintro e w2 ⟨rfl, G2⟩
  have W2 : Wr (fun _ => False) w1 w2 := grew_wr G2 (G2.drawn trivial)
  have B2 : w2.heap[z]? = some (.cells #[strV x.key, .int .i64 x.rep, .int .i64 x.cnt, .int .i64 x.rank, .int .i64 x.prio, .bool x.dead, strV x.body] 69) := (W2.block z (by omega) id).trans B1
  have W02 := W1.trans W2
  have T2 := hb.wr W02 id
  have R2 := hT.wr W02 (fun _ _ h => h)
  clear c0 c1 c2 c3 c4 c5 c6
  have c0 : w2.cell? ⟨z, 0, none⟩ = some (strV x.key) := by simp [World.cell?, B2]
  have c1 : w2.cell? ⟨z, 1, none⟩ = some (.int .i64 x.rep) := by simp [World.cell?, B2]
  have c2 : w2.cell? ⟨z, 2, none⟩ = some (.int .i64 x.cnt) := by simp [World.cell?, B2]
  have c3 : w2.cell? ⟨z, 3, none⟩ = some (.int .i64 x.rank) := by simp [World.cell?, B2]
  have c4 : w2.cell? ⟨z, 4, none⟩ = some (.int .i64 x.prio) := by simp [World.cell?, B2]
  have c5 : w2.cell? ⟨z, 5, none⟩ = some (.bool x.dead) := by simp [World.cell?, B2]
  have c6 : w2.cell? ⟨z, 6, none⟩ = some (strV x.body) := by simp [World.cell?, B2]
  have k0 := T2.cell 0
  have k1 := T2.cell 1
  have f0 := T2.frozen 0
  simp at k0 k1
  go_wp2_with fail
  have R2d : Tr w2.drew t := R2.wr (wr_drew (fun _ => False) w2) (fun _ _ h => h)
  have T2d : Tb w2.drew tb (.pointer (ptrT t)) seed bits := T2
  have B2d : w2.drew.heap[z]? = some (.cells #[strV x.key, .int .i64 x.rep, .int .i64 x.cnt, .int .i64 x.rank, .int .i64 x.prio, .bool x.dead, strV x.body] 69) := B2
  have hz2 : z < w2.drew.heap.size := (Array.getElem?_eq_some_iff.1 B2d).1
  have hbz : ¬ tb = z := by omega
  have hzb : ¬ z = tb := by omega
  have hzn : z ∉ t.blocks := fun h => by have := hT.lt z h; omega
  refine wp_region_held_drew (S := (fun w' => w'.cell? ⟨z, 0, none⟩ = some (strV x.key) ∧ w'.cell? ⟨z, 1, none⟩ = some (.int .i64 x.rep) ∧ w'.cell? ⟨z, 2, none⟩ = some (.int .i64 x.cnt) ∧ w'.cell? ⟨z, 3, none⟩ = some (.int .i64 x.rank) ∧ w'.cell? ⟨z, 4, none⟩ = some (.int .i64 x.prio) ∧ w'.cell? ⟨z, 5, none⟩ = some (.bool x.dead) ∧ w'.cell? ⟨z, 6, none⟩ = some (strV x.body) ∧ w'.cell? ⟨tb, 1, none⟩ = some (.int .u64 seed))) (by kernel_rfl) (by (try dsimp only); go_keep) (fun hHeld => ?_)
  refine wpAnyH_take (i := 0) (v := ?_) (by simp only [List.getElem?_toArray, List.getElem?_cons_zero, List.getElem?_cons_succ]; rfl) (by kernel_rfl) (by kernel_rfl) (by kernel_rfl) (by intro _ _ _ h; exact h) (Or.inl ⟨by rfl, ?_⟩) (by assumption) ?_
  rotate_left
  · intro w hSw
    (try dsimp only at hSw)
    go_simp
    try with_reducible rfl
  try simp only [Act.put, List.setIfInBounds_toArray, List.set_cons_zero, List.set_cons_succ]
  refine wpAnyH_take (i := 1) (v := ?_) (by simp only [List.getElem?_toArray, List.getElem?_cons_zero, List.getElem?_cons_succ]; rfl) (by kernel_rfl) (by kernel_rfl) (by kernel_rfl) (by intro _ _ _ h; exact h) (Or.inl ⟨by rfl, ?_⟩) (by assumption) ?_
  rotate_left
  · intro w hSw
    (try dsimp only at hSw)
    go_simp
    try with_reducible rfl
  try simp only [Act.put, List.setIfInBounds_toArray, List.set_cons_zero, List.set_cons_succ]
  refine wpAnyH_take (i := 2) (v := ?_) (by simp only [List.getElem?_toArray, List.getElem?_cons_zero, List.getElem?_cons_succ]; rfl) (by kernel_rfl) (by kernel_rfl) (by kernel_rfl) (by intro _ _ _ h; exact h) (Or.inl ⟨by rfl, ?_⟩) (by assumption) ?_
  rotate_left
  · intro w hSw
    (try dsimp only at hSw)
    go_simp
    try with_reducible rfl
  try simp only [Act.put, List.setIfInBounds_toArray, List.set_cons_zero, List.set_cons_succ]
  refine wpAnyH_take (i := 3) (v := ?_) (by simp only [List.getElem?_toArray, List.getElem?_cons_zero, List.getElem?_cons_succ]; rfl) (by kernel_rfl) (by kernel_rfl) (by kernel_rfl) (by intro _ _ _ h; exact h) (Or.inl ⟨by rfl, ?_⟩) (by assumption) ?_
  rotate_left
  · intro w hSw
    (try dsimp only at hSw)
    go_simp
    try with_reducible rfl
  try simp only [Act.put, List.setIfInBounds_toArray, List.set_cons_zero, List.set_cons_succ]
  refine wpAnyH_take (i := 5) (v := ?_) (by simp only [List.getElem?_toArray, List.getElem?_cons_zero, List.getElem?_cons_succ]; rfl) (by kernel_rfl) (by kernel_rfl) (by kernel_rfl) (by intro _ _ _ h; exact h) (Or.inl ⟨by rfl, ?_⟩) (by assumption) ?_
  rotate_left
  · intro w hSw
    (try dsimp only at hSw)
    go_simp
    try with_reducible rfl
  try simp only [Act.put, List.setIfInBounds_toArray, List.set_cons_zero, List.set_cons_succ]
  refine wpAnyH_take (i := 6) (v := ?_) (by simp only [List.getElem?_toArray, List.getElem?_cons_zero, List.getElem?_cons_succ]; rfl) (by kernel_rfl) (by kernel_rfl) (by kernel_rfl) (by intro _ _ _ h; exact h) (Or.inl ⟨by rfl, ?_⟩) (by assumption) ?_
  rotate_left
  · intro w hSw
    (try dsimp only at hSw)
    go_simp
    try with_reducible rfl
  try simp only [Act.put, List.setIfInBounds_toArray, List.set_cons_zero, List.set_cons_succ]
  refine wpAnyH_take (i := 7) (v := ?_) (by simp only [List.getElem?_toArray, List.getElem?_cons_zero, List.getElem?_cons_succ]; rfl) (by kernel_rfl) (by kernel_rfl) (by kernel_rfl) (by intro _ _ _ h; exact h) (Or.inl ⟨by rfl, ?_⟩) (by assumption) ?_
  rotate_left
  · intro w hSw
    (try dsimp only at hSw)
    go_simp
    try with_reducible rfl
  try simp only [Act.put, List.setIfInBounds_toArray, List.set_cons_zero, List.set_cons_succ]
  refine wpAnyH_take (i := 8) (v := ?_) (by simp only [List.getElem?_toArray, List.getElem?_cons_zero, List.getElem?_cons_succ]; rfl) (by kernel_rfl) (by kernel_rfl) (by kernel_rfl) (by intro _ _ _ h; exact h) (Or.inl ⟨by rfl, ?_⟩) (by assumption) ?_
  rotate_left
  · intro w hSw
    (try dsimp only at hSw)
    go_simp
    try with_reducible rfl
  try simp only [Act.put, List.setIfInBounds_toArray, List.set_cons_zero, List.set_cons_succ]
  refine wpAnyH_take (i := 9) (v := ?_) (by simp only [List.getElem?_toArray, List.getElem?_cons_zero, List.getElem?_cons_succ]; rfl) (by kernel_rfl) (by kernel_rfl) (by kernel_rfl) (by intro _ _ _ h; exact h) (Or.inl ⟨by rfl, ?_⟩) (by assumption) ?_
  rotate_left
  · intro w hSw
    (try dsimp only at hSw)
    go_simp
    try with_reducible rfl
  try simp only [Act.put, List.setIfInBounds_toArray, List.set_cons_zero, List.set_cons_succ]
  refine wpAnyH_take (i := 10) (v := ?_) (by simp only [List.getElem?_toArray, List.getElem?_cons_zero, List.getElem?_cons_succ]; rfl) (by kernel_rfl) (by kernel_rfl) (by kernel_rfl) (by intro _ _ _ h; exact h) (Or.inl ⟨by rfl, ?_⟩) (by assumption) ?_
  rotate_left
  · intro w hSw
    (try dsimp only at hSw)
    go_simp
    try with_reducible rfl
  try simp only [Act.put, List.setIfInBounds_toArray, List.set_cons_zero, List.set_cons_succ]
  refine wpAnyH_ready (rs := [4, 11]) (by kernel_rfl) (by simp) ?_
  refine AllReadyH.cons rfl (fun K hK => ?_) ?_
  · go_simp
    refine hK.out _ _ (by (try dsimp only); go_keep) (fun hHeld => ?_)
    clear hK K
    refine wpAnyH_ready (rs := [11]) (by kernel_rfl) (by simp) ?_
    refine AllReadyH.cons rfl (fun K hK => ?_) ?_
    · go_simp
      go_wp2_with (first
          | (go_at_call 42
             refine (FH _).mono ?_
             rintro e w3 ⟨rfl, G3⟩
             have W3 : Wr (fun _ => False) _ w3 := grew_wr G3 (G3.drawn trivial)
             have B3 := (W3.block z hz2 id).trans B2d
             have T3 := T2d.wr W3 id
             have R3 := R2d.wr W3 (fun _ _ h => h)
             have c0 : w3.cell? ⟨z, 0, none⟩ = some (strV x.key) := by simp [World.cell?, B3]
             have c1 : w3.cell? ⟨z, 1, none⟩ = some (.int .i64 x.rep) := by simp [World.cell?, B3]
             have c2 : w3.cell? ⟨z, 2, none⟩ = some (.int .i64 x.cnt) := by simp [World.cell?, B3]
             have c3 : w3.cell? ⟨z, 3, none⟩ = some (.int .i64 x.rank) := by simp [World.cell?, B3]
             have c4 : w3.cell? ⟨z, 4, none⟩ = some (.int .i64 x.prio) := by simp [World.cell?, B3]
             have c5 : w3.cell? ⟨z, 5, none⟩ = some (.bool x.dead) := by simp [World.cell?, B3]
             have c6 : w3.cell? ⟨z, 6, none⟩ = some (strV x.body) := by simp [World.cell?, B3]
             have k0 := T3.cell 0
             have k1 := T3.cell 1
             simp at k0 k1)
          | (go_at_call 41
             refine (FP _ R3 hSB hnd hn hk (by have := hok.1; omega)).mono ?_
             rintro e w4 ⟨nb, n1, n2, rfl, T4, W4⟩
             have B4 := (W4.block z (Array.getElem?_eq_some_iff.1 B3).1 hzn).trans B3
             have U4 := T3.wr W4 htb
             have c0 : w4.cell? ⟨z, 0, none⟩ = some (strV x.key) := by simp [World.cell?, B4]
             have c1 : w4.cell? ⟨z, 1, none⟩ = some (.int .i64 x.rep) := by simp [World.cell?, B4]
             have c2 : w4.cell? ⟨z, 2, none⟩ = some (.int .i64 x.cnt) := by simp [World.cell?, B4]
             have c3 : w4.cell? ⟨z, 3, none⟩ = some (.int .i64 x.rank) := by simp [World.cell?, B4]
             have c4 : w4.cell? ⟨z, 4, none⟩ = some (.int .i64 x.prio) := by simp [World.cell?, B4]
             have c5 : w4.cell? ⟨z, 5, none⟩ = some (.bool x.dead) := by simp [World.cell?, B4]
             have c6 : w4.cell? ⟨z, 6, none⟩ = some (strV x.body) := by simp [World.cell?, B4]
             have k0 := U4.cell 0
             have k1 := U4.cell 1
             have f0 := U4.frozen 0
             have ks := (U4.set (.pointer (ptrT (insR t nb x (hashI seed x))))).cell 1
             simp at k0 k1 ks))
      refine hK.out _ _ (by (try dsimp only); go_keep) (fun hHeld => ?_)
      clear hK K
      refine wpAnyH_ready (rs := [12]) (by kernel_rfl) (by simp) ?_
      refine AllReadyH.cons rfl (fun K hK => ?_) ?_
      · go_simp
        go_wp2_with (first
            | (go_at_call 42
               refine (FH _).mono ?_
               rintro e w3 ⟨rfl, G3⟩
               have W3 : Wr (fun _ => False) _ w3 := grew_wr G3 (G3.drawn trivial)
               have B3 := (W3.block z hz2 id).trans B2d
               have T3 := T2d.wr W3 id
               have R3 := R2d.wr W3 (fun _ _ h => h)
               have c0 : w3.cell? ⟨z, 0, none⟩ = some (strV x.key) := by simp [World.cell?, B3]
               have c1 : w3.cell? ⟨z, 1, none⟩ = some (.int .i64 x.rep) := by simp [World.cell?, B3]
               have c2 : w3.cell? ⟨z, 2, none⟩ = some (.int .i64 x.cnt) := by simp [World.cell?, B3]
               have c3 : w3.cell? ⟨z, 3, none⟩ = some (.int .i64 x.rank) := by simp [World.cell?, B3]
               have c4 : w3.cell? ⟨z, 4, none⟩ = some (.int .i64 x.prio) := by simp [World.cell?, B3]
               have c5 : w3.cell? ⟨z, 5, none⟩ = some (.bool x.dead) := by simp [World.cell?, B3]
               have c6 : w3.cell? ⟨z, 6, none⟩ = some (strV x.body) := by simp [World.cell?, B3]
               have k0 := T3.cell 0
               have k1 := T3.cell 1
               simp at k0 k1)
            | (go_at_call 41
               refine (FP _ R3 hSB hnd hn hk (by have := hok.1; omega)).mono ?_
               rintro e w4 ⟨nb, n1, n2, rfl, T4, W4⟩
               have B4 := (W4.block z (Array.getElem?_eq_some_iff.1 B3).1 hzn).trans B3
               have U4 := T3.wr W4 htb
               have c0 : w4.cell? ⟨z, 0, none⟩ = some (strV x.key) := by simp [World.cell?, B4]
               have c1 : w4.cell? ⟨z, 1, none⟩ = some (.int .i64 x.rep) := by simp [World.cell?, B4]
               have c2 : w4.cell? ⟨z, 2, none⟩ = some (.int .i64 x.cnt) := by simp [World.cell?, B4]
               have c3 : w4.cell? ⟨z, 3, none⟩ = some (.int .i64 x.rank) := by simp [World.cell?, B4]
               have c4 : w4.cell? ⟨z, 4, none⟩ = some (.int .i64 x.prio) := by simp [World.cell?, B4]
               have c5 : w4.cell? ⟨z, 5, none⟩ = some (.bool x.dead) := by simp [World.cell?, B4]
               have c6 : w4.cell? ⟨z, 6, none⟩ = some (strV x.body) := by simp [World.cell?, B4]
               have k0 := U4.cell 0
               have k1 := U4.cell 1
               have f0 := U4.frozen 0
               have ks := (U4.set (.pointer (ptrT (insR t nb x (hashI seed x))))).cell 1
               simp at k0 k1 ks))
        refine hK.out _ _ (by (try dsimp only); go_keep) (fun hHeld => ?_)
        clear hK K
        refine wpAnyH_take (i := 13) (v := ?_) (by simp only [List.getElem?_toArray, List.getElem?_cons_zero, List.getElem?_cons_succ]; rfl) (by kernel_rfl) (by kernel_rfl) (by kernel_rfl) (by intro _ _ _ h; exact h) (Or.inl ⟨by rfl, ?_⟩) (by assumption) ?_
        rotate_left
        · intro w hSw
          (try dsimp only at hSw)
          go_simp
          try with_reducible rfl
        try simp only [Act.put, List.setIfInBounds_toArray, List.set_cons_zero, List.set_cons_succ]
        refine wpAnyH_take (i := 14) (v := ?_) (by simp only [List.getElem?_toArray, List.getElem?_cons_zero, List.getElem?_cons_succ]; rfl) (by kernel_rfl) (by kernel_rfl) (by kernel_rfl) (by intro _ _ _ h; exact h) (Or.inl ⟨by rfl, ?_⟩) (by assumption) ?_
        rotate_left
        · intro w hSw
          (try dsimp only at hSw)
          go_simp
          try with_reducible rfl
        try simp only [Act.put, List.setIfInBounds_toArray, List.set_cons_zero, List.set_cons_succ]
        refine wpAnyH_ready (rs := [15]) (by kernel_rfl) (by simp) ?_
        refine AllReadyH.cons rfl (fun K hK => ?_) ?_
        · go_simp
          refine hK.out _ _ (by (try dsimp only); go_keep) (fun hHeld => ?_)
          clear hK K
          refine wpAnyH_done (by kernel_rfl) ?_ _
          go_wp2_with fail
          go_ret
          have hp := insR_blocks t nb x (hashI seed x)
          have htn : tb ∉ (insR t nb x (hashI seed x)).blocks := fun h => by
            have := hp.mem_iff.1 h
            rcases List.mem_cons.1 this with h | h
            · have e1 : w2.drew.heap.size = w2.heap.size := rfl
              have e2 := W3.size
              have e3 := W02.size
              omega
            · exact htb h
          have S4 := wr_set w4 tb 0 (.pointer (ptrT (insR t nb x (hashI seed x))))
          refine ⟨nb, ?_, ?_, rfl, T4.wr S4 (fun k hk h => htn (by have h : k = tb := h; rw [← h]; exact hk)), U4.set _, ?_⟩
          · have e1 : w2.drew.heap.size = w2.heap.size := rfl
            have e2 := W3.size
            have e3 := W02.size
            omega
          · have := S4.size; omega
          · have W03 : Wr (fun b => b = tb ∨ b ∈ t.blocks) w w3 := ((W02.mono fun _ _ h => h.elim).trans (wr_drew _ w2)).trans (W3.mono fun _ _ h => h.elim)
            exact W03.trans ((W4.mono fun k _ h => .inr h).trans (S4.mono fun k _ h => .inl h))
        exact AllReadyH.nil
      exact AllReadyH.nil
    exact AllReadyH.nil
  refine AllReadyH.cons rfl (fun K hK => ?_) ?_
  · go_simp
    go_wp2_with (first
        | (go_at_call 42
           refine (FH _).mono ?_
           rintro e w3 ⟨rfl, G3⟩
           have W3 : Wr (fun _ => False) _ w3 := grew_wr G3 (G3.drawn trivial)
           have B3 := (W3.block z hz2 id).trans B2d
           have T3 := T2d.wr W3 id
           have R3 := R2d.wr W3 (fun _ _ h => h)
           have c0 : w3.cell? ⟨z, 0, none⟩ = some (strV x.key) := by simp [World.cell?, B3]
           have c1 : w3.cell? ⟨z, 1, none⟩ = some (.int .i64 x.rep) := by simp [World.cell?, B3]
           have c2 : w3.cell? ⟨z, 2, none⟩ = some (.int .i64 x.cnt) := by simp [World.cell?, B3]
           have c3 : w3.cell? ⟨z, 3, none⟩ = some (.int .i64 x.rank) := by simp [World.cell?, B3]
           have c4 : w3.cell? ⟨z, 4, none⟩ = some (.int .i64 x.prio) := by simp [World.cell?, B3]
           have c5 : w3.cell? ⟨z, 5, none⟩ = some (.bool x.dead) := by simp [World.cell?, B3]
           have c6 : w3.cell? ⟨z, 6, none⟩ = some (strV x.body) := by simp [World.cell?, B3]
           have k0 := T3.cell 0
           have k1 := T3.cell 1
           simp at k0 k1)
        | (go_at_call 41
           refine (FP _ R3 hSB hnd hn hk (by have := hok.1; omega)).mono ?_
           rintro e w4 ⟨nb, n1, n2, rfl, T4, W4⟩
           have B4 := (W4.block z (Array.getElem?_eq_some_iff.1 B3).1 hzn).trans B3
           have U4 := T3.wr W4 htb
           have c0 : w4.cell? ⟨z, 0, none⟩ = some (strV x.key) := by simp [World.cell?, B4]
           have c1 : w4.cell? ⟨z, 1, none⟩ = some (.int .i64 x.rep) := by simp [World.cell?, B4]
           have c2 : w4.cell? ⟨z, 2, none⟩ = some (.int .i64 x.cnt) := by simp [World.cell?, B4]
           have c3 : w4.cell? ⟨z, 3, none⟩ = some (.int .i64 x.rank) := by simp [World.cell?, B4]
           have c4 : w4.cell? ⟨z, 4, none⟩ = some (.int .i64 x.prio) := by simp [World.cell?, B4]
           have c5 : w4.cell? ⟨z, 5, none⟩ = some (.bool x.dead) := by simp [World.cell?, B4]
           have c6 : w4.cell? ⟨z, 6, none⟩ = some (strV x.body) := by simp [World.cell?, B4]
           have k0 := U4.cell 0
           have k1 := U4.cell 1
           have f0 := U4.frozen 0
           have ks := (U4.set (.pointer (ptrT (insR t nb x (hashI seed x))))).cell 1
           simp at k0 k1 ks))
    refine hK.out _ _ (by (try dsimp only); go_keep) (fun hHeld => ?_)
    clear hK K
    refine wpAnyH_ready (rs := [4]) (by kernel_rfl) (by simp) ?_
    refine AllReadyH.cons rfl (fun K hK => ?_) ?_
    · go_simp
      refine hK.out _ _ (by (try dsimp only); go_keep) (fun hHeld => ?_)
      clear hK K
      refine wpAnyH_ready (rs := [12]) (by kernel_rfl) (by simp) ?_
      refine AllReadyH.cons rfl (fun K hK => ?_) ?_
      · go_simp
        go_wp2_with (first
            | (go_at_call 42
               refine (FH _).mono ?_
               rintro e w3 ⟨rfl, G3⟩
               have W3 : Wr (fun _ => False) _ w3 := grew_wr G3 (G3.drawn trivial)
               have B3 := (W3.block z hz2 id).trans B2d
               have T3 := T2d.wr W3 id
               have R3 := R2d.wr W3 (fun _ _ h => h)
               have c0 : w3.cell? ⟨z, 0, none⟩ = some (strV x.key) := by simp [World.cell?, B3]
               have c1 : w3.cell? ⟨z, 1, none⟩ = some (.int .i64 x.rep) := by simp [World.cell?, B3]
               have c2 : w3.cell? ⟨z, 2, none⟩ = some (.int .i64 x.cnt) := by simp [World.cell?, B3]
               have c3 : w3.cell? ⟨z, 3, none⟩ = some (.int .i64 x.rank) := by simp [World.cell?, B3]
               have c4 : w3.cell? ⟨z, 4, none⟩ = some (.int .i64 x.prio) := by simp [World.cell?, B3]
               have c5 : w3.cell? ⟨z, 5, none⟩ = some (.bool x.dead) := by simp [World.cell?, B3]
               have c6 : w3.cell? ⟨z, 6, none⟩ = some (strV x.body) := by simp [World.cell?, B3]
               have k0 := T3.cell 0
               have k1 := T3.cell 1
               simp at k0 k1)
            | (go_at_call 41
               refine (FP _ R3 hSB hnd hn hk (by have := hok.1; omega)).mono ?_
               rintro e w4 ⟨nb, n1, n2, rfl, T4, W4⟩
               have B4 := (W4.block z (Array.getElem?_eq_some_iff.1 B3).1 hzn).trans B3
               have U4 := T3.wr W4 htb
               have c0 : w4.cell? ⟨z, 0, none⟩ = some (strV x.key) := by simp [World.cell?, B4]
               have c1 : w4.cell? ⟨z, 1, none⟩ = some (.int .i64 x.rep) := by simp [World.cell?, B4]
               have c2 : w4.cell? ⟨z, 2, none⟩ = some (.int .i64 x.cnt) := by simp [World.cell?, B4]
               have c3 : w4.cell? ⟨z, 3, none⟩ = some (.int .i64 x.rank) := by simp [World.cell?, B4]
               have c4 : w4.cell? ⟨z, 4, none⟩ = some (.int .i64 x.prio) := by simp [World.cell?, B4]
               have c5 : w4.cell? ⟨z, 5, none⟩ = some (.bool x.dead) := by simp [World.cell?, B4]
               have c6 : w4.cell? ⟨z, 6, none⟩ = some (strV x.body) := by simp [World.cell?, B4]
               have k0 := U4.cell 0
               have k1 := U4.cell 1
               have f0 := U4.frozen 0
               have ks := (U4.set (.pointer (ptrT (insR t nb x (hashI seed x))))).cell 1
               simp at k0 k1 ks))
        refine hK.out _ _ (by (try dsimp only); go_keep) (fun hHeld => ?_)
        clear hK K
        refine wpAnyH_take (i := 13) (v := ?_) (by simp only [List.getElem?_toArray, List.getElem?_cons_zero, List.getElem?_cons_succ]; rfl) (by kernel_rfl) (by kernel_rfl) (by kernel_rfl) (by intro _ _ _ h; exact h) (Or.inl ⟨by rfl, ?_⟩) (by assumption) ?_
        rotate_left
        · intro w hSw
          (try dsimp only at hSw)
          go_simp
          try with_reducible rfl
        try simp only [Act.put, List.setIfInBounds_toArray, List.set_cons_zero, List.set_cons_succ]
        refine wpAnyH_take (i := 14) (v := ?_) (by simp only [List.getElem?_toArray, List.getElem?_cons_zero, List.getElem?_cons_succ]; rfl) (by kernel_rfl) (by kernel_rfl) (by kernel_rfl) (by intro _ _ _ h; exact h) (Or.inl ⟨by rfl, ?_⟩) (by assumption) ?_
        rotate_left
        · intro w hSw
          (try dsimp only at hSw)
          go_simp
          try with_reducible rfl
        try simp only [Act.put, List.setIfInBounds_toArray, List.set_cons_zero, List.set_cons_succ]
        refine wpAnyH_ready (rs := [15]) (by kernel_rfl) (by simp) ?_
        refine AllReadyH.cons rfl (fun K hK => ?_) ?_
        · go_simp
          refine hK.out _ _ (by (try dsimp only); go_keep) (fun hHeld => ?_)
          clear hK K
          refine wpAnyH_done (by kernel_rfl) ?_ _
          go_wp2_with fail
          go_ret
          have hp := insR_blocks t nb x (hashI seed x)
          have htn : tb ∉ (insR t nb x (hashI seed x)).blocks := fun h => by
            have := hp.mem_iff.1 h
            rcases List.mem_cons.1 this with h | h
            · have e1 : w2.drew.heap.size = w2.heap.size := rfl
              have e2 := W3.size
              have e3 := W02.size
              omega
            · exact htb h
          have S4 := wr_set w4 tb 0 (.pointer (ptrT (insR t nb x (hashI seed x))))
          refine ⟨nb, ?_, ?_, rfl, T4.wr S4 (fun k hk h => htn (by have h : k = tb := h; rw [← h]; exact hk)), U4.set _, ?_⟩
          · have e1 : w2.drew.heap.size = w2.heap.size := rfl
            have e2 := W3.size
            have e3 := W02.size
            omega
          · have := S4.size; omega
          · have W03 : Wr (fun b => b = tb ∨ b ∈ t.blocks) w w3 := ((W02.mono fun _ _ h => h.elim).trans (wr_drew _ w2)).trans (W3.mono fun _ _ h => h.elim)
            exact W03.trans ((W4.mono fun k _ h => .inr h).trans (S4.mono fun k _ h => .inl h))
        exact AllReadyH.nil
      exact AllReadyH.nil
    exact AllReadyH.nil
  exact AllReadyH.nil
end Go.Proofs.Ytjnpfbohnpjckaa
