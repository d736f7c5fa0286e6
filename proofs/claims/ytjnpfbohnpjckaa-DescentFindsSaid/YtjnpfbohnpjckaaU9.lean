/- What the laws of this claim rest on: the abstract executor, its soundness, and what the functions compute on pure data. No condition. -/
import Derived.Test.YtjnpfbohnpjckaaU7
import Derived.Test.YtjnpfbohnpjckaaU8
import Derived.LoopTactic
import Derived.Below
set_option linter.unusedVariables false
set_option linter.unusedSimpArgs false
namespace Go.Proofs.Ytjnpfbohnpjckaa
open Go.RowKit
set_option linter.unusedSimpArgs false
set_option linter.unusedVariables false
set_option maxRecDepth 100000
set_option maxHeartbeats 4000000
theorem tree_calls (seed bits : Int) (w : World) : Calls Try.prog 24 #[.int .u64 seed, .int .i64 bits] w fun e w' => e = .returned (.pointer (some ⟨w.heap.size, 0, none⟩)) ∧ w' = w.alloc (.cells #[.pointer none, .int .u64 seed, .int .i64 bits] 90) := by
  go_enter Try.func24, Try.ntmps24
  go_wp2_with fail
  go_ret
  exact ⟨rfl, rfl⟩
theorem all_calls (w : World) : Calls Try.prog 25 #[] w fun e w' => e = .returned (.agg #[strV [], strV [], .bool true]) ∧ Go.Abs.Grew w w' := by
  refine (c_span_All (fun _ => False) w [] (fun _ h => h.elim) (by simp only [Go.Abs.RepL])).mono ?_
  rintro e w' ⟨v, r, rfl, rfl, hr, hg⟩
  simp only [Go.Abs.Rep, Go.Abs.RepL] at hr
  obtain ⟨vs, rfl, ⟨_, _, rfl, rfl, _, _, rfl, rfl, _, _, rfl, rfl, rfl⟩, _⟩ := hr
  exact ⟨rfl, hg⟩
theorem list_calls (N : Nat → Prop) (l : List It) (hl : l.length ≤ 4611686018427387904) (ho : okI l) (v : Value) (w : World) (hN : ∀ b, N b → b < w.heap.size) (hv : Go.Abs.Rep ⟨N, [], w⟩ (.slc (l.map It.enc)) v) :
    Calls Try.prog 23 #[v] w fun e w' => e = .returned (.bool (rightL18 l)) ∧ Go.Abs.Grew w w' := by
  refine (c_item_List l hl ho N w [v] hN ?_).mono ?_
  · simp only [Go.Abs.RepL]
    exact ⟨_, _, rfl, hv, rfl⟩
  · rintro e w' ⟨v, r, rfl, rfl, hr, hg⟩
    simp only [Go.Abs.Rep] at hr
    subst hr
    exact ⟨rfl, hg⟩
theorem new_bad (N : Nat → Prop) (l : List It) (hl : l.length ≤ 4611686018427387904) (ho : okI l) (hr : rightL18 l = false) (a : Option Addr) (cap : Nat) (seed bits : Int) (w : World) (hN : ∀ b, N b → b < w.heap.size) (hv : Go.Abs.Rep ⟨N, [], w⟩ (.slc (l.map It.enc)) (.slice a l.length cap)) :
    Calls Try.prog 8 #[.slice a l.length cap, .int .u64 seed, .int .i64 bits] w fun e w' => e = .returned (.tuple #[.pointer none, .int .i64 2]) ∧ Go.Abs.Grew w w' := by
  have F := list_calls N l hl ho _ w hN hv
  rw [hr] at F
  clear hv
  go_enter Try.func8, Try.ntmps8
  go_wp2_with fail
  refine F.mono ?_
  rintro e w1 ⟨rfl, G⟩
  go_wp2_with fail
  go_ret2
  exact ⟨rfl, G⟩
def Tn.er : Tn → Tm
  | .leaf => .leaf
  | .node _ x l r o => .node x l.er r.er o
theorem er_h : ∀ t : Tn, t.er.h = t.h
  | .leaf => rfl
  | .node _ _ l r _ => by simp only [Tn.er, Tm.h, Tn.h, er_h l, er_h r]
theorem er_n : ∀ t : Tn, t.er.n = t.n
  | .leaf => rfl
  | .node _ _ l r _ => by simp only [Tn.er, Tm.n, Tn.n, er_n l, er_n r]
theorem er_s : ∀ t : Tn, t.er.s = t.s
  | .leaf => rfl
  | .node _ _ l r _ => by simp only [Tn.er, Tm.s, Tn.s, er_s l, er_s r]
def levelM (x : It) (l : Tm) (r : Tm) (o : Int) : Tm :=
  if l.h + 1 < r.h then (match r with | .leaf => .node x l .leaf o | .node y rl rr p => .node y (.node x l rl o) rr p) else .node x l r o
def insM : Tm → It → Int → Tm
  | .leaf, x, o => .node x .leaf .leaf o
  | .node y l r p, x, o => levelM y l (insM r x o) p
theorem er_level (b : Nat) (x : It) (l r : Tn) (o : Int) : (levelR b x l r o).er = levelM x l.er r.er o := by
  unfold levelR levelM
  rw [er_h, er_h]
  split
  · cases r <;> rfl
  · rfl
theorem er_ins : ∀ (t : Tn) (nb : Nat) (x : It) (o : Int), (insR t nb x o).er = insM t.er x o
  | .leaf, _, _, _ => rfl
  | .node b y l r p, nb, x, o => by simp only [insR, er_level, er_ins r, Tn.er, insM]
def treeF (l : List It) (seed : Int) : Tm := l.foldl (fun t x => insM t x (hashI seed x)) .leaf
theorem treeF_next {l : List It} {k : Nat} {x : It} (h : l[k]? = some x) (seed : Int) : treeF (l.take (k + 1)) seed = insM (treeF (l.take k) seed) x (hashI seed x) := by
  unfold treeF
  rw [List.take_add_one, h, List.foldl_append]
  rfl
def LoopR (l : List It) (seed bits : Int) (tb : Nat) (w0 : World) (k : Nat) (T : Tn) (w : World) : Prop :=
  Tr w T ∧ SB T ∧ T.blocks.Nodup ∧ T.its = (l.take k).map (fun x => (x, hashI seed x)) ∧ T.er = treeF (l.take k) seed ∧ (∀ b ∈ T.blocks, w0.heap.size ≤ b) ∧ Tb w tb (.pointer (ptrT T)) seed bits ∧ Wr (· = tb) w0 w
theorem rep_it {E : Go.Abs.Env} {b : Nat} : ∀ (l : List It) (off : Nat), Go.Abs.RepE E 7 b off (l.map It.enc) → ∀ (k : Nat) (x : It), l[k]? = some x → ∀ j, j < 7 → E.w.cell? ⟨b, off + 7 * k + j, none⟩ = (itemC x)[j]?
  | [], off, _, k, x, hk, _, _ => by simp at hk
  | y :: l, off, h, k, x, hk, j, hj => by
    simp only [List.map_cons, It.enc] at h
    rw [Go.Abs.RepE_agg] at h
    obtain ⟨⟨_, hm⟩, h2⟩ := h
    match k with
    | 0 =>
      simp only [List.getElem?_cons_zero, Option.some.injEq] at hk
      subst hk
      simp only [Go.Abs.RepM] at hm
      obtain ⟨⟨_, h0, _, r0⟩, ⟨_, h1, _, r1⟩, ⟨_, h2, _, r2⟩, ⟨_, h3, _, r3⟩, ⟨_, h4, _, r4⟩, ⟨_, h5, _, r5⟩, ⟨_, h6, _, r6⟩, _⟩ := hm
      simp only [Go.Abs.Rep] at r0 r1 r2 r3 r4 r5 r6
      subst r0 r1 r2 r3 r4 r5 r6
      unfold itemC strV
      match j, hj with
      | 0, _ => simpa using h0
      | 1, _ => simpa using h1
      | 2, _ => simpa using h2
      | 3, _ => simpa using h3
      | 4, _ => simpa using h4
      | 5, _ => simpa using h5
      | 6, _ => simpa using h6
    | k + 1 =>
      simp only [List.getElem?_cons_succ] at hk
      have := rep_it l (off + 7) h2 k x hk j hj
      rw [← this]
      congr 2
      omega
def NewPost (l : List It) (seed bits : Int) (w : World) (e : Ending) (w' : World) : Prop :=
  ∃ (tb rb : Nat) (T : Tn), e = .returned (.tuple #[.pointer (some ⟨rb + 1, 0, none⟩), .int .i64 0]) ∧ w.heap.size ≤ tb ∧ tb < rb ∧
    w'.heap[rb]? = some (.cells #[.int .i64 0, .int .i64 l.length, strV [], strV [], .bool true] 73) ∧
    w'.heap[rb + 1]? = some (.cells #[.pointer (some ⟨tb, 0, none⟩), .slice (some ⟨rb, 0, none⟩) 1 1, .slice none 0 0, .int .i64 0] 52) ∧
    Tb w' tb (.pointer (ptrT T)) seed bits ∧ Tr w' T ∧ T.its = l.map (fun x => (x, hashI seed x)) ∧ T.er = treeF l seed ∧ (∀ b ∈ T.blocks, rb + 1 < b) ∧ Wr (fun _ => False) w w'
theorem new_good (N : Nat → Prop) (l : List It) (hl : l.length ≤ 100) (ho : okI l) (hr : rightL18 l = true) (hri : ∀ x ∈ l, rightI x = true) (hrise : ∀ (i j : Nat) (x y : It), i < j → l[i]? = some x → l[j]? = some y → cmpB y.key x.key = 1) (a : Option Addr) (cap : Nat) (seed bits : Int) (w : World) (hN : ∀ b, N b → b < w.heap.size) (hv : Go.Abs.Rep ⟨N, [], w⟩ (.slc (l.map It.enc)) (.slice a l.length cap)) :
    Calls Try.prog 8 #[.slice a l.length cap, .int .u64 seed, .int .i64 bits] w (NewPost l seed bits w) := by
  have F := list_calls N l (by omega) ho _ w hN hv
  rw [hr] at F
  have hcells : ∃ ib off, l ≠ [] → a = some ⟨ib, off, none⟩ ∧ ib < w.heap.size ∧ ∀ (k : Nat) (x : It), l[k]? = some x → ∀ j, j < 7 → w.cell? ⟨ib, off + 7 * k + j, none⟩ = (itemC x)[j]? := by
    cases l with
    | nil => exact ⟨0, 0, fun h => (h rfl).elim⟩
    | cons y l =>
      simp only [Go.Abs.Rep] at hv
      obtain ⟨_, a', cap', e1, _, h2⟩ := hv
      obtain ⟨b, off, ha, hb, _, he⟩ := h2 (by simp)
      injection e1 with e1 e2 e3
      subst e1
      refine ⟨b, off, fun _ => ⟨ha, hb, fun k x hk j hj => rep_it (E := ⟨N, [], w⟩) (y :: l) off ?_ k x hk j hj⟩⟩
      exact he
  have hcap : l.length ≤ cap := by
    simp only [Go.Abs.Rep] at hv
    obtain ⟨_, a', cap', e1, h2, _⟩ := hv
    injection e1 with e1 e2 e3
    subst e3
    simpa using h2
  obtain ⟨ib, off, hcells⟩ := hcells
  clear hv
  have HR := Lib.hid hrise
  have HI := Lib.hid hri
  have HC := Lib.hid hcells
  clear hrise hri hcells
  go_enter Try.func8, Try.ntmps8
  go_wp2_with fail
  refine F.mono ?_
  rintro e w1 ⟨rfl, G⟩
  clear F
  have W1 : Wr (fun _ => False) w w1 := grew_wr G (G.drawn trivial)
  go_wp2_with fail
  refine (tree_calls seed bits w1).mono ?_
  rintro e w2 ⟨rfl, e2⟩
  have T2 : Tb w2 w1.heap.size (.pointer none) seed bits := by rw [e2]; exact ⟨_, alloc_at w1 _⟩
  have Z2 : w2.heap.size = w1.heap.size + 1 := by rw [e2]; exact alloc_size w1 _
  have W2 : Wr (fun _ => False) w w2 := by rw [e2]; exact W1.trans (wr_alloc _ w1 _)
  clear e2
  go_wp2_with fail
  refine (all_calls _).mono ?_
  rintro e w3 ⟨rfl, G3⟩
  have W23 : Wr (fun _ => False) w2 w3 := grew_wr G3 (G3.drawn trivial)
  have W3 := W2.trans W23
  have T3 := T2.wr W23 id
  have Z3 := W23.size
  have Z1 := W1.size
  generalize w1.heap.size = tb at *
  clear G G3 W1 W2 W23 T2 hN
  go_wp2_with fail
  have W4 := wr_alloc (fun _ => False) w3 (.cells #[.int .i64 0, .int .i64 l.length, strV [], strV [], .bool true] 73)
  have R4 := alloc_at w3 (.cells #[.int .i64 0, .int .i64 l.length, strV [], strV [], .bool true] 73)
  have Z4 := alloc_size w3 (.cells #[.int .i64 0, .int .i64 l.length, strV [], strV [], .bool true] 73)
  have T4 := T3.wr W4 id
  have W04 := W3.trans W4
  generalize w3.alloc (.cells #[.int .i64 0, .int .i64 l.length, strV [], strV [], .bool true] 73) = w4 at *
  generalize hrb : w3.heap.size = rb at *
  have W5 := wr_alloc (fun _ => False) w4 (.cells #[.pointer (some ⟨tb, 0, none⟩), .slice (some ⟨rb, 0, none⟩) 1 1, .slice none 0 0, .int .i64 0] 52)
  have D5 := alloc_at w4 (.cells #[.pointer (some ⟨tb, 0, none⟩), .slice (some ⟨rb, 0, none⟩) 1 1, .slice none 0 0, .int .i64 0] 52)
  have Z5 := alloc_size w4 (.cells #[.pointer (some ⟨tb, 0, none⟩), .slice (some ⟨rb, 0, none⟩) 1 1, .slice none 0 0, .int .i64 0] 52)
  have R5 := (W5.block rb (by omega) id).trans R4
  have T5 := T4.wr W5 id
  have W05 := W04.trans W5
  rw [Z4] at D5 Z5
  generalize w4.alloc (.cells #[.pointer (some ⟨tb, 0, none⟩), .slice (some ⟨rb, 0, none⟩) 1 1, .slice none 0 0, .int .i64 0] 52) = w5 at *
  clear T3 T4 W3 W4 W5 W04 R4
  go_loopw [26] (fun i wr => ∃ (k : Nat) (T : Tn), k ≤ l.length ∧ i = .int .i64 k ∧ LoopR l seed bits tb w5 k T wr) (fun i _ => l.length - (intOf i).toNat)
  case atStart => exact ⟨0, .leaf, Nat.zero_le _, rfl, trivial, trivial, List.nodup_nil, by simp [Tn.its], by simp [Tn.er, treeF], by simp [Tn.blocks], T5, Wr.refl _ _⟩
  case round =>
    obtain ⟨k, T, hk, rfl, h1, h2, h3, h4, h8, h5, h6, h7⟩ := hrel
    rcases Nat.lt_or_ge k l.length with hlt | hge
    · obtain ⟨ra, hib, hc⟩ := HC.out (fun h => by rw [h] at hlt; simp at hlt)
      clear HC
      subst ra
      obtain ⟨x, hx⟩ : ∃ x, l[k]? = some x := ⟨l[k], List.getElem?_eq_getElem hlt⟩
      have hcx := hc k x hx
      rw [Nat.mul_comm 7 k] at hcx
      have W0r : Wr (fun b => ¬ b < w.heap.size) w wr := (W05.mono fun _ _ h => h.elim).trans (h7.mono fun b _ h => by have h : b = tb := h; omega)
      have hbk : wr.heap[ib]? = w.heap[ib]? := W0r.block ib hib (fun h => h hib)
      have c0 : wr.cell? ⟨ib, off + k * 7, none⟩ = some (.string ⟨x.key.toArray⟩) := (cell_same hbk _).trans (hcx 0 (by omega))
      have c1 : wr.cell? ⟨ib, off + k * 7 + 1, none⟩ = some (.int .i64 x.rep) := (cell_same hbk _).trans (hcx 1 (by omega))
      have c2 : wr.cell? ⟨ib, off + k * 7 + 2, none⟩ = some (.int .i64 x.cnt) := (cell_same hbk _).trans (hcx 2 (by omega))
      have c3 : wr.cell? ⟨ib, off + k * 7 + 3, none⟩ = some (.int .i64 x.rank) := (cell_same hbk _).trans (hcx 3 (by omega))
      have c4 : wr.cell? ⟨ib, off + k * 7 + 4, none⟩ = some (.int .i64 x.prio) := (cell_same hbk _).trans (hcx 4 (by omega))
      have c5 : wr.cell? ⟨ib, off + k * 7 + 5, none⟩ = some (.bool x.dead) := (cell_same hbk _).trans (hcx 5 (by omega))
      have c6 : wr.cell? ⟨ib, off + k * 7 + 6, none⟩ = some (.string ⟨x.body.toArray⟩) := (cell_same hbk _).trans (hcx 6 (by omega))
      clear hc hcx hbk W0r
      go_wp2_with fail
      have W6 := wr_alloc (fun _ => False) wr (.cells #[.string ⟨x.key.toArray⟩, .int .i64 x.rep, .int .i64 x.cnt, .int .i64 x.rank, .int .i64 x.prio, .bool x.dead, .string ⟨x.body.toArray⟩] 69)
      have B6 := alloc_at wr (.cells #[.string ⟨x.key.toArray⟩, .int .i64 x.rep, .int .i64 x.cnt, .int .i64 x.rank, .int .i64 x.prio, .bool x.dead, .string ⟨x.body.toArray⟩] 69)
      have Z6 := alloc_size wr (.cells #[.string ⟨x.key.toArray⟩, .int .i64 x.rep, .int .i64 x.cnt, .int .i64 x.rank, .int .i64 x.prio, .bool x.dead, .string ⟨x.body.toArray⟩] 69)
      have t6 := h6.wr W6 id
      have r6 := h1.wr W6 (fun _ _ h => h)
      have D6 := (W6.block (rb + 1) (by have := h7.size; omega) id).trans ((h7.block (rb + 1) (by omega) (fun h => by have h : rb + 1 = tb := h; omega)).trans D5)
      generalize wr.alloc (.cells #[.string ⟨x.key.toArray⟩, .int .i64 x.rep, .int .i64 x.cnt, .int .i64 x.rank, .int .i64 x.prio, .bool x.dead, .string ⟨x.body.toArray⟩] 69) = w6 at *
      generalize hz : wr.heap.size = z at *
      clear c0 c1 c2 c3 c4 c5 c6
      have b0 : w6.cell? ⟨z, 0, none⟩ = some (.string ⟨x.key.toArray⟩) := by simp [World.cell?, B6]
      have b1 : w6.cell? ⟨z, 1, none⟩ = some (.int .i64 x.rep) := by simp [World.cell?, B6]
      have b2 : w6.cell? ⟨z, 2, none⟩ = some (.int .i64 x.cnt) := by simp [World.cell?, B6]
      have b3 : w6.cell? ⟨z, 3, none⟩ = some (.int .i64 x.rank) := by simp [World.cell?, B6]
      have b4 : w6.cell? ⟨z, 4, none⟩ = some (.int .i64 x.prio) := by simp [World.cell?, B6]
      have b5 : w6.cell? ⟨z, 5, none⟩ = some (.bool x.dead) := by simp [World.cell?, B6]
      have b6 : w6.cell? ⟨z, 6, none⟩ = some (.string ⟨x.body.toArray⟩) := by simp [World.cell?, B6]
      have d0 : w6.cell? ⟨rb + 1, 0, none⟩ = some (.pointer (some ⟨tb, 0, none⟩)) := by simp [World.cell?, D6]
      have hmem : x ∈ l := List.mem_of_getElem? hx
      have hTn : T.n = k := by rw [← its_len, h4]; simp; omega
      have htb : tb ∉ T.blocks := fun h => by have := h5 tb h; omega
      have FP := Put_calls tb T x seed bits w6.drew t6 (r6.wr (wr_drew (fun _ => False) w6) (fun _ _ h => h)) h2 h3 htb (by omega)
        (fun y hy => by
          rw [h4] at hy
          obtain ⟨y', hy', rfl⟩ := List.mem_map.1 hy
          obtain ⟨j, hj, e⟩ := List.mem_take_iff_getElem.1 hy'
          have hjl : j < l.length := by omega
          refine ⟨HR.out j k y' x (by omega) (by rw [List.getElem?_eq_getElem hjl, e]) hx, ?_⟩
          have := HI.out y' (by rw [← e]; exact List.getElem_mem _)
          unfold rightI at this
          simp only [Bool.and_eq_true, decide_eq_true_eq] at this
          simp only
          omega) (HI.out x hmem)
      clear HR HI
      unfold itemV itemC strV at FP
      refine wp_region_still_tail 5 (by kernel_rfl) (by kernel_rfl) ?_
      simp only [List.take_succ_cons, List.take_zero, List.drop_succ_cons, List.drop_zero]
      repeat still_step
      refine wpStill_nil ?_
      change wpList _ _ _ _ _ w6.drew
      go_wp2_with fail
      refine FP.mono ?_
      rintro e w7 ⟨nb, n1, n2, rfl, T7, U7, W7⟩
      go_wp2_with fail
      have hp := insR_blocks T nb x (hashI seed x)
      have hd : w6.drew.heap.size = w6.heap.size := rfl
      have hz5 := h7.size
      have hnb : ∀ b ∈ T.blocks, b < nb := fun b hb => by have := Tr.lt r6 b hb; omega
      refine ⟨⟨k + 1, insR T nb x (hashI seed x), hlt, by simp, T7, (insR_ok T nb x (hashI seed x) h2).1, ?_, ?_, ?_, ?_, U7, ?_⟩, ?_⟩
      · exact hp.nodup_iff.2 (List.nodup_cons.2 ⟨fun h => by have := hnb nb h; omega, h3⟩)
      · rw [insR_its, h4, List.take_add_one, hx]; simp
      · rw [er_ins, h8, treeF_next hx]
      · intro b hb
        rcases List.mem_cons.1 (hp.mem_iff.1 hb) with hb | hb
        · omega
        · exact h5 b hb
      · refine (h7.trans ((W6.mono fun _ _ h => h.elim).trans (wr_drew _ w6))).trans' W7 fun b hb h => ?_
        rcases h with h | h
        · exact h
        · have := h5 b h; omega
      · simp only [intOf]; omega
    · have hkl : ¬ k < l.length := by omega
      go_wp2_with fail
      go_ret2
      refine ⟨tb, rb, T, rfl, by omega, by omega, (h7.block rb (by omega) (fun h => by have h : rb = tb := h; omega)).trans R5, (h7.block (rb + 1) (by omega) (fun h => by have h : rb + 1 = tb := h; omega)).trans D5, h6, h1, ?_, ?_, fun b hb => by have := h5 b hb; omega, ?_⟩
      · rw [h4, List.take_of_length_le (by omega)]
      · rw [h8, List.take_of_length_le (by omega)]
      · exact ⟨Nat.le_trans W05.size h7.size, fun b hb _ => (h7.block b (Nat.lt_of_lt_of_le hb W05.size) (fun h => by have h : b = tb := h; omega)).trans (W05.block b hb id), h7.os.trans W05.os, h7.tape.trans W05.tape, h7.output.trans W05.output, Nat.le_trans W05.drawn h7.drawn⟩
end Go.Proofs.Ytjnpfbohnpjckaa
