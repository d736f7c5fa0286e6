/- What the laws of this claim rest on: the abstract executor, its soundness, and what the functions compute on pure data. No condition. -/
import Derived.Test.YtjnpfbohnpjckaaU1
import Derived.Test.YtjnpfbohnpjckaaChecked
import Derived.WalkKit
import Derived.WalkSpells
import Derived.BigCall
import Derived.BigGuard
import Derived.Deep.QuietTactic
import Derived.BigQuiet
import Derived.Below
import Derived.StillTailTactics
import Derived.IntWalk
import Derived.Laws.Rows
import Derived.Deep.RegionHeld
set_option linter.unusedVariables false
set_option linter.unusedSimpArgs false
namespace Go.Proofs.Ytjnpfbohnpjckaa
open Go.RowKit
set_option linter.unusedSimpArgs false
set_option linter.unusedVariables false
set_option maxRecDepth 100000
set_option maxHeartbeats 4000000
theorem depth_nil (w : World) : Calls Try.prog 71 #[.pointer none] w fun e w' => e = .returned (.int .i64 0) ∧ w = w' := by
  go_enter Try.func71, Try.ntmps71
  go_wp2
  go_ret
  exact ⟨rfl, rfl⟩
theorem depth_at (b : Nat) (d : Int) (w : World) (h : w.cell? ⟨b, 9, none⟩ = some (.int .i64 d)) : Calls Try.prog 71 #[.pointer (some ⟨b, 0, none⟩)] w fun e w' => e = .returned (.int .i64 d) ∧ w = w' := by
  go_enter Try.func71, Try.ntmps71
  go_wp2
  go_ret
  exact ⟨rfl, rfl⟩
theorem count_nil (w : World) : Calls Try.prog 49 #[.pointer none] w fun e w' => e = .returned (.int .i64 0) ∧ w = w' := by
  go_enter Try.func49, Try.ntmps49
  go_wp2
  go_ret
  exact ⟨rfl, rfl⟩
theorem count_at (b : Nat) (d : Int) (w : World) (h : w.cell? ⟨b, 10, none⟩ = some (.int .i64 d)) : Calls Try.prog 49 #[.pointer (some ⟨b, 0, none⟩)] w fun e w' => e = .returned (.int .i64 d) ∧ w = w' := by
  go_enter Try.func49, Try.ntmps49
  go_wp2
  go_ret
  exact ⟨rfl, rfl⟩
theorem total_nil (w : World) : Calls Try.prog 64 #[.pointer none] w fun e w' => e = .returned (.int .u64 0) ∧ w = w' := by
  go_enter Try.func64, Try.ntmps64
  go_wp2
  go_ret
  exact ⟨rfl, rfl⟩
theorem total_at (b : Nat) (d : Int) (w : World) (h : w.cell? ⟨b, 12, none⟩ = some (.int .u64 d)) : Calls Try.prog 64 #[.pointer (some ⟨b, 0, none⟩)] w fun e w' => e = .returned (.int .u64 d) ∧ w = w' := by
  go_enter Try.func64, Try.ntmps64
  go_wp2
  go_ret
  exact ⟨rfl, rfl⟩
abbrev nT : TypeId := 101
def Dp (w : World) (p : Value) (d m s : Int) : Prop := (p = .pointer none ∧ d = 0 ∧ m = 0 ∧ s = 0) ∨ ∃ b, p = .pointer (some ⟨b, 0, none⟩) ∧ w.cell? ⟨b, 9, none⟩ = some (.int .i64 d) ∧ w.cell? ⟨b, 10, none⟩ = some (.int .i64 m) ∧ w.cell? ⟨b, 12, none⟩ = some (.int .u64 s)
theorem depth_any {p : Value} {d m s : Int} {w : World} (h : Dp w p d m s) : Calls Try.prog 71 #[p] w fun e w' => e = .returned (.int .i64 d) ∧ w' = w := by
  rcases h with ⟨rfl, rfl, _, _⟩ | ⟨b, rfl, h, _, _⟩
  · exact (depth_nil w).mono fun _ _ ⟨a, b⟩ => ⟨a, b.symm⟩
  · exact (depth_at b d w h).mono fun _ _ ⟨a, b⟩ => ⟨a, b.symm⟩
theorem count_any {p : Value} {d m s : Int} {w : World} (h : Dp w p d m s) : Calls Try.prog 49 #[p] w fun e w' => e = .returned (.int .i64 m) ∧ w' = w := by
  rcases h with ⟨rfl, _, rfl, _⟩ | ⟨b, rfl, _, h, _⟩
  · exact (count_nil w).mono fun _ _ ⟨a, b⟩ => ⟨a, b.symm⟩
  · exact (count_at b m w h).mono fun _ _ ⟨a, b⟩ => ⟨a, b.symm⟩
theorem total_any {p : Value} {d m s : Int} {w : World} (h : Dp w p d m s) : Calls Try.prog 64 #[p] w fun e w' => e = .returned (.int .u64 s) ∧ w' = w := by
  rcases h with ⟨rfl, _, _, rfl⟩ | ⟨b, rfl, _, _, h⟩
  · exact (total_nil w).mono fun _ _ ⟨a, b⟩ => ⟨a, b.symm⟩
  · exact (total_at b s w h).mono fun _ _ ⟨a, b⟩ => ⟨a, b.symm⟩
theorem Dp.cells {w w' : World} {p : Value} {d m s : Int} (h : Dp w p d m s) (hc : ∀ b j, p = .pointer (some ⟨b, 0, none⟩) → w'.cell? ⟨b, j, none⟩ = w.cell? ⟨b, j, none⟩) : Dp w' p d m s := by
  rcases h with h | ⟨b, rfl, h1, h2, h3⟩
  · exact .inl h
  · exact .inr ⟨b, rfl, by rw [hc b 9 rfl]; exact h1, by rw [hc b 10 rfl]; exact h2, by rw [hc b 12 rfl]; exact h3⟩
def Nd (w : World) (b : Nat) (i0 i1 i2 i3 i4 i5 i6 pl pr x9 x10 ow x12 : Value) : Prop := ∃ e, w.heap[b]? = some (.cells #[i0, i1, i2, i3, i4, i5, i6, pl, pr, x9, x10, ow, x12] e (0, 0))
structure Wr (B : Nat → Prop) (w w' : World) : Prop where
  size : w.heap.size ≤ w'.heap.size
  block : ∀ b, b < w.heap.size → ¬ B b → w'.heap[b]? = w.heap[b]?
  os : w'.os = w.os
  tape : w'.tape = w.tape
  output : w'.output = w.output
  drawn : w.drawn ≤ w'.drawn
theorem Wr.refl (B : Nat → Prop) (w : World) : Wr B w w := ⟨Nat.le_refl _, fun _ _ _ => rfl, rfl, rfl, rfl, Nat.le_refl _⟩
theorem Wr.trans {B : Nat → Prop} {w w1 w2 : World} (h : Wr B w w1) (h' : Wr B w1 w2) : Wr B w w2 :=
  ⟨Nat.le_trans h.size h'.size, fun b hb hn => (h'.block b (Nat.lt_of_lt_of_le hb h.size) hn).trans (h.block b hb hn), h'.os.trans h.os, h'.tape.trans h.tape, h'.output.trans h.output, Nat.le_trans h.drawn h'.drawn⟩
theorem Wr.mono {B C : Nat → Prop} {w w' : World} (h : Wr B w w') (hBC : ∀ b, b < w.heap.size → B b → C b) : Wr C w w' :=
  ⟨h.size, fun b hb hn => h.block b hb fun hB => hn (hBC b hb hB), h.os, h.tape, h.output, h.drawn⟩
theorem wr_set (w : World) (b j : Nat) (v : Value) : Wr (· = b) w (w.setCell ⟨b, j, none⟩ v) := by
  exact ⟨by simp [World.setCell], fun c _ hc => Below.heap_setCell w _ v c hc, rfl, rfl, rfl, Nat.le_refl _⟩
theorem wr_drew (B : Nat → Prop) (w : World) : Wr B w { w with drawn := w.drawn + 1 } := ⟨Nat.le_refl _, fun _ _ _ => rfl, rfl, rfl, rfl, Nat.le_succ _⟩
theorem Nd.lt {w : World} {b : Nat} {i0 i1 i2 i3 i4 i5 i6 pl pr x9 x10 ow x12 : Value} (h : Nd w b i0 i1 i2 i3 i4 i5 i6 pl pr x9 x10 ow x12) : b < w.heap.size := by
  obtain ⟨e, h⟩ := h
  exact (Array.getElem?_eq_some_iff.1 h).1
theorem Nd.cell {w : World} {b : Nat} {i0 i1 i2 i3 i4 i5 i6 pl pr x9 x10 ow x12 : Value} (h : Nd w b i0 i1 i2 i3 i4 i5 i6 pl pr x9 x10 ow x12) (j : Nat) : w.cell? ⟨b, j, none⟩ = #[i0, i1, i2, i3, i4, i5, i6, pl, pr, x9, x10, ow, x12][j]? := by
  obtain ⟨e, h⟩ := h
  simp [World.cell?, h]
theorem Nd.frozen {w : World} {b : Nat} {i0 i1 i2 i3 i4 i5 i6 pl pr x9 x10 ow x12 : Value} (h : Nd w b i0 i1 i2 i3 i4 i5 i6 pl pr x9 x10 ow x12) (j : Nat) : w.frozen? ⟨b, j, none⟩ = false := by
  obtain ⟨e, h⟩ := h
  simp [World.frozen?, h]
theorem Nd.set {w : World} {b : Nat} {i0 i1 i2 i3 i4 i5 i6 pl pr x9 x10 ow x12 : Value} (h : Nd w b i0 i1 i2 i3 i4 i5 i6 pl pr x9 x10 ow x12) (j : Nat) (v : Value) : ∃ e, (w.setCell ⟨b, j, none⟩ v).heap[b]? = some (.cells (#[i0, i1, i2, i3, i4, i5, i6, pl, pr, x9, x10, ow, x12].setIfInBounds j v) e (0, 0)) := by
  obtain ⟨e, h⟩ := h
  exact ⟨e, heap_setCell_same w b j _ e v h⟩
theorem Nd.set9 {w : World} {b : Nat} {i0 i1 i2 i3 i4 i5 i6 pl pr x9 x10 ow x12 : Value} (h : Nd w b i0 i1 i2 i3 i4 i5 i6 pl pr x9 x10 ow x12) (v : Value) : Nd (w.setCell ⟨b, 9, none⟩ v) b i0 i1 i2 i3 i4 i5 i6 pl pr v x10 ow x12 := by
  obtain ⟨e, h⟩ := h.set 9 v
  exact ⟨e, by simpa using h⟩
theorem Nd.set10 {w : World} {b : Nat} {i0 i1 i2 i3 i4 i5 i6 pl pr x9 x10 ow x12 : Value} (h : Nd w b i0 i1 i2 i3 i4 i5 i6 pl pr x9 x10 ow x12) (v : Value) : Nd (w.setCell ⟨b, 10, none⟩ v) b i0 i1 i2 i3 i4 i5 i6 pl pr x9 v ow x12 := by
  obtain ⟨e, h⟩ := h.set 10 v
  exact ⟨e, by simpa using h⟩
theorem Nd.set12 {w : World} {b : Nat} {i0 i1 i2 i3 i4 i5 i6 pl pr x9 x10 ow x12 : Value} (h : Nd w b i0 i1 i2 i3 i4 i5 i6 pl pr x9 x10 ow x12) (v : Value) : Nd (w.setCell ⟨b, 12, none⟩ v) b i0 i1 i2 i3 i4 i5 i6 pl pr x9 x10 ow v := by
  obtain ⟨e, h⟩ := h.set 12 v
  exact ⟨e, by simpa using h⟩
theorem Nd.set7 {w : World} {b : Nat} {i0 i1 i2 i3 i4 i5 i6 pl pr x9 x10 ow x12 : Value} (h : Nd w b i0 i1 i2 i3 i4 i5 i6 pl pr x9 x10 ow x12) (v : Value) : Nd (w.setCell ⟨b, 7, none⟩ v) b i0 i1 i2 i3 i4 i5 i6 v pr x9 x10 ow x12 := by
  obtain ⟨e, h⟩ := h.set 7 v
  exact ⟨e, by simpa using h⟩
theorem Nd.set8 {w : World} {b : Nat} {i0 i1 i2 i3 i4 i5 i6 pl pr x9 x10 ow x12 : Value} (h : Nd w b i0 i1 i2 i3 i4 i5 i6 pl pr x9 x10 ow x12) (v : Value) : Nd (w.setCell ⟨b, 8, none⟩ v) b i0 i1 i2 i3 i4 i5 i6 pl v x9 x10 ow x12 := by
  obtain ⟨e, h⟩ := h.set 8 v
  exact ⟨e, by simpa using h⟩
theorem Dp.drew {w : World} {p : Value} {d m s : Int} (h : Dp w p d m s) : Dp { w with drawn := w.drawn + 1 } p d m s := h
theorem Dp.set {w : World} {p : Value} {d m s : Int} (h : Dp w p d m s) {b : Nat} (hn : ∀ c, p = .pointer (some ⟨c, 0, none⟩) → c ≠ b) (j : Nat) (v : Value) : Dp (w.setCell ⟨b, j, none⟩ v) p d m s :=
  h.cells fun c i hc => World.cell?_setCell_far w _ _ v (fun e => hn c hc e.symm)
theorem fix_calls (b : Nat) (i0 i1 i2 i3 i4 i5 i6 pl pr x9 x10 x12 : Value) (dl ml sl dr mr sr ow : Int) (w : World) (hN : Nd w b i0 i1 i2 i3 i4 i5 i6 pl pr x9 x10 (.int .u64 ow) x12) (hL : Dp w pl dl ml sl) (hR : Dp w pr dr mr sr)
    (nL : ∀ c, pl = .pointer (some ⟨c, 0, none⟩) → c ≠ b) (nR : ∀ c, pr = .pointer (some ⟨c, 0, none⟩) → c ≠ b) (bd : 0 ≤ dl ∧ dl ≤ 1000 ∧ 0 ≤ dr ∧ dr ≤ 1000) (bm : 0 ≤ ml ∧ ml ≤ 1000 ∧ 0 ≤ mr ∧ mr ≤ 1000) :
    Calls Try.prog 57 #[.pointer (some ⟨b, 0, none⟩)] w fun e w' => e = .returned (.pointer (some ⟨b, 0, none⟩)) ∧
      Nd w' b i0 i1 i2 i3 i4 i5 i6 pl pr (.int .i64 (1 + max dl dr)) (.int .i64 (1 + ml + mr)) (.int .u64 ow) (.int .u64 (IntKind.u64.wrap (IntKind.u64.wrap (ow + sl) + sr))) ∧ Wr (· = b) w w' := by
  have h7 := hN.cell 7
  have h8 := hN.cell 8
  have h9 := hN.cell 9
  have h11 := hN.cell 11
  have f9 := hN.frozen 9
  simp at h7 h8 h9 h11
  have w1 : ∀ x : Int, 0 ≤ x → x ≤ 2001 → IntKind.i64.wrap x = x := fun x h1 h2 => IntWalk.i64_in _ (by omega)
  have wd : IntKind.i64.wrap (1 + (if dl < dr then dr else dl)) = 1 + max dl dr := by rw [w1 _ (by split <;> omega) (by split <;> omega)]; split <;> omega
  by_cases hc : dl < dr
  · have hmx : max dl dr = dr := by omega
    rw [hmx]
    clear wd hmx
    go_enter Try.func57, Try.ntmps57
    go_wp2_with fail
    refine wp_region_still_tail 15 (by kernel_rfl) (by kernel_rfl) ?_
    simp only [List.take_succ_cons, List.take_zero, List.drop_succ_cons, List.drop_zero]
    repeat still_step
    still_call (depth_any hL.drew)
    repeat still_step
    still_call (depth_any hR.drew)
    repeat still_step
    refine wpStill_nil ?_
    change wpList _ _ _ _ _ w.drew
    go_wp2_with fail
    have N1 := hN.set9 (.int .i64 (1 + dr))
    have L1 : Dp (w.setCell ⟨b, 9, none⟩ (.int .i64 (1 + dr))).drew pl dl ml sl := (hL.set nL 9 _).drew
    have R1 : Dp (w.setCell ⟨b, 9, none⟩ (.int .i64 (1 + dr))).drew pr dr mr sr := (hR.set nR 9 _).drew
    have W1 : Wr (· = b) w (w.setCell ⟨b, 9, none⟩ (.int .i64 (1 + dr))).drew := (wr_set w b 9 _).trans (wr_drew _ _)
    have N1 : Nd (w.setCell ⟨b, 9, none⟩ (.int .i64 (1 + dr))).drew b i0 i1 i2 i3 i4 i5 i6 pl pr (.int .i64 (1 + dr)) x10 (.int .u64 ow) x12 := N1
    clear h7 h8 h9 h11 f9
    generalize (w.setCell ⟨b, 9, none⟩ (.int .i64 (1 + dr))).drew = w1 at *
    have h7 := N1.cell 7
    have h8 := N1.cell 8
    have h10 := N1.cell 10
    have h11 := N1.cell 11
    have f10 := N1.frozen 10
    simp at h7 h8 h10 h11
    refine wp_region_still_tail 14 (by kernel_rfl) (by kernel_rfl) ?_
    simp only [List.take_succ_cons, List.take_zero, List.drop_succ_cons, List.drop_zero]
    repeat still_step
    still_call (count_any L1.drew)
    repeat still_step
    still_call (count_any R1.drew)
    repeat still_step
    refine wpStill_nil ?_
    change wpList _ _ _ _ _ w1.drew
    go_wp2_with fail
    have N2 : Nd (w1.setCell ⟨b, 10, none⟩ (.int .i64 (1 + ml + mr))).drew b i0 i1 i2 i3 i4 i5 i6 pl pr _ (.int .i64 (1 + ml + mr)) (.int .u64 ow) x12 := N1.set10 (.int .i64 (1 + ml + mr))
    have L2 : Dp (w1.setCell ⟨b, 10, none⟩ (.int .i64 (1 + ml + mr))).drew pl dl ml sl := (L1.set nL 10 _).drew
    have R2 : Dp (w1.setCell ⟨b, 10, none⟩ (.int .i64 (1 + ml + mr))).drew pr dr mr sr := (R1.set nR 10 _).drew
    have W2 : Wr (· = b) w (w1.setCell ⟨b, 10, none⟩ (.int .i64 (1 + ml + mr))).drew := W1.trans ((wr_set w1 b 10 _).trans (wr_drew _ _))
    clear h7 h8 h10 h11 f10
    generalize (w1.setCell ⟨b, 10, none⟩ (.int .i64 (1 + ml + mr))).drew = w2 at *
    have h7 := N2.cell 7
    have h8 := N2.cell 8
    have h11 := N2.cell 11
    have h12 := N2.cell 12
    have f12 := N2.frozen 12
    simp at h7 h8 h11 h12
    refine wp_region_still_tail 18 (by kernel_rfl) (by kernel_rfl) ?_
    simp only [List.take_succ_cons, List.take_zero, List.drop_succ_cons, List.drop_zero]
    repeat still_step
    still_call (total_any L2.drew)
    repeat still_step
    still_call (total_any R2.drew)
    repeat still_step
    refine wpStill_nil ?_
    change wpList _ _ _ _ _ w2.drew
    go_wp2_with fail
    go_ret
    exact ⟨rfl, N2.set12 _, W2.trans ((wr_drew _ _).trans (wr_set w2.drew b 12 _))⟩
  · have hmx : max dl dr = dl := by omega
    rw [hmx]
    clear wd hmx
    go_enter Try.func57, Try.ntmps57
    go_wp2_with fail
    refine wp_region_still_tail 15 (by kernel_rfl) (by kernel_rfl) ?_
    simp only [List.take_succ_cons, List.take_zero, List.drop_succ_cons, List.drop_zero]
    repeat still_step
    still_call (depth_any hL.drew)
    repeat still_step
    still_call (depth_any hR.drew)
    repeat still_step
    refine wpStill_nil ?_
    change wpList _ _ _ _ _ w.drew
    go_wp2_with fail
    have N1 := hN.set9 (.int .i64 (1 + dl))
    have L1 : Dp (w.setCell ⟨b, 9, none⟩ (.int .i64 (1 + dl))).drew pl dl ml sl := (hL.set nL 9 _).drew
    have R1 : Dp (w.setCell ⟨b, 9, none⟩ (.int .i64 (1 + dl))).drew pr dr mr sr := (hR.set nR 9 _).drew
    have W1 : Wr (· = b) w (w.setCell ⟨b, 9, none⟩ (.int .i64 (1 + dl))).drew := (wr_set w b 9 _).trans (wr_drew _ _)
    have N1 : Nd (w.setCell ⟨b, 9, none⟩ (.int .i64 (1 + dl))).drew b i0 i1 i2 i3 i4 i5 i6 pl pr (.int .i64 (1 + dl)) x10 (.int .u64 ow) x12 := N1
    clear h7 h8 h9 h11 f9
    generalize (w.setCell ⟨b, 9, none⟩ (.int .i64 (1 + dl))).drew = w1 at *
    have h7 := N1.cell 7
    have h8 := N1.cell 8
    have h10 := N1.cell 10
    have h11 := N1.cell 11
    have f10 := N1.frozen 10
    simp at h7 h8 h10 h11
    refine wp_region_still_tail 14 (by kernel_rfl) (by kernel_rfl) ?_
    simp only [List.take_succ_cons, List.take_zero, List.drop_succ_cons, List.drop_zero]
    repeat still_step
    still_call (count_any L1.drew)
    repeat still_step
    still_call (count_any R1.drew)
    repeat still_step
    refine wpStill_nil ?_
    change wpList _ _ _ _ _ w1.drew
    go_wp2_with fail
    have N2 : Nd (w1.setCell ⟨b, 10, none⟩ (.int .i64 (1 + ml + mr))).drew b i0 i1 i2 i3 i4 i5 i6 pl pr _ (.int .i64 (1 + ml + mr)) (.int .u64 ow) x12 := N1.set10 (.int .i64 (1 + ml + mr))
    have L2 : Dp (w1.setCell ⟨b, 10, none⟩ (.int .i64 (1 + ml + mr))).drew pl dl ml sl := (L1.set nL 10 _).drew
    have R2 : Dp (w1.setCell ⟨b, 10, none⟩ (.int .i64 (1 + ml + mr))).drew pr dr mr sr := (R1.set nR 10 _).drew
    have W2 : Wr (· = b) w (w1.setCell ⟨b, 10, none⟩ (.int .i64 (1 + ml + mr))).drew := W1.trans ((wr_set w1 b 10 _).trans (wr_drew _ _))
    clear h7 h8 h10 h11 f10
    generalize (w1.setCell ⟨b, 10, none⟩ (.int .i64 (1 + ml + mr))).drew = w2 at *
    have h7 := N2.cell 7
    have h8 := N2.cell 8
    have h11 := N2.cell 11
    have h12 := N2.cell 12
    have f12 := N2.frozen 12
    simp at h7 h8 h11 h12
    refine wp_region_still_tail 18 (by kernel_rfl) (by kernel_rfl) ?_
    simp only [List.take_succ_cons, List.take_zero, List.drop_succ_cons, List.drop_zero]
    repeat still_step
    still_call (total_any L2.drew)
    repeat still_step
    still_call (total_any R2.drew)
    repeat still_step
    refine wpStill_nil ?_
    change wpList _ _ _ _ _ w2.drew
    go_wp2_with fail
    go_ret
    exact ⟨rfl, N2.set12 _, W2.trans ((wr_drew _ _).trans (wr_set w2.drew b 12 _))⟩
theorem cell_lt {w : World} {b j : Nat} {v : Value} (h : w.cell? ⟨b, j, none⟩ = some v) : b < w.heap.size := by
  rcases Nat.lt_or_ge b w.heap.size with hb | hb
  · exact hb
  · simp [World.cell?, Array.getElem?_eq_none hb] at h
theorem cell_same {w w' : World} {b : Nat} (h : w'.heap[b]? = w.heap[b]?) (j : Nat) : w'.cell? ⟨b, j, none⟩ = w.cell? ⟨b, j, none⟩ := by
  simp only [World.cell?, h]
theorem Nd.wr {B : Nat → Prop} {w w' : World} {b : Nat} {i0 i1 i2 i3 i4 i5 i6 pl pr x9 x10 ow x12 : Value} (h : Nd w b i0 i1 i2 i3 i4 i5 i6 pl pr x9 x10 ow x12) (hw : Wr B w w') (hn : ¬ B b) : Nd w' b i0 i1 i2 i3 i4 i5 i6 pl pr x9 x10 ow x12 := by
  have hb := h.lt
  obtain ⟨e, h⟩ := h
  exact ⟨e, by rw [hw.block b hb hn]; exact h⟩
theorem Dp.wr {B : Nat → Prop} {w w' : World} {p : Value} {d m s : Int} (h : Dp w p d m s) (hw : Wr B w w') (hn : ∀ c, p = .pointer (some ⟨c, 0, none⟩) → ¬ B c) : Dp w' p d m s := by
  rcases h with h | ⟨b, rfl, h1, h2, h3⟩
  · exact .inl h
  · have hb := cell_lt h1
    have hs := hw.block b hb (hn b rfl)
    exact .inr ⟨b, rfl, by rw [cell_same hs]; exact h1, by rw [cell_same hs]; exact h2, by rw [cell_same hs]; exact h3⟩
theorem Nd.dp {w : World} {b : Nat} {i0 i1 i2 i3 i4 i5 i6 pl pr ow : Value} {d m s : Int} (h : Nd w b i0 i1 i2 i3 i4 i5 i6 pl pr (.int .i64 d) (.int .i64 m) ow (.int .u64 s)) : Dp w (.pointer (some ⟨b, 0, none⟩)) d m s :=
  .inr ⟨b, rfl, h.cell 9, h.cell 10, h.cell 12⟩
theorem turn_calls (b c : Nat) (i0 i1 i2 i3 i4 i5 i6 pl x9 x10 x12 j0 j1 j2 j3 j4 j5 j6 qr y9 y10 y12 : Value) (qa : Option Addr) (dl ml sl dq mq sq dr mr sr ow ov : Int) (w : World) (hbc : b ≠ c)
    (hN : Nd w b i0 i1 i2 i3 i4 i5 i6 pl (.pointer (some ⟨c, 0, none⟩)) x9 x10 (.int .u64 ow) x12) (hM : Nd w c j0 j1 j2 j3 j4 j5 j6 (Value.pointer qa) qr y9 y10 (.int .u64 ov) y12)
    (hL : Dp w pl dl ml sl) (hQ : Dp w (Value.pointer qa) dq mq sq) (hR : Dp w qr dr mr sr)
    (nL : ∀ k, pl = .pointer (some ⟨k, 0, none⟩) → k ≠ b ∧ k ≠ c) (nQ : ∀ k, (Value.pointer qa) = .pointer (some ⟨k, 0, none⟩) → k ≠ b ∧ k ≠ c) (nR : ∀ k, qr = .pointer (some ⟨k, 0, none⟩) → k ≠ b ∧ k ≠ c)
    (bd : 0 ≤ dl ∧ dl ≤ 900 ∧ 0 ≤ dq ∧ dq ≤ 900 ∧ 0 ≤ dr ∧ dr ≤ 900) (bm : 0 ≤ ml ∧ ml ≤ 400 ∧ 0 ≤ mq ∧ mq ≤ 400 ∧ 0 ≤ mr ∧ mr ≤ 400) :
    Calls Try.prog 72 #[.pointer (some ⟨b, 0, none⟩)] w fun e w' => e = .returned (.pointer (some ⟨c, 0, none⟩)) ∧
      Nd w' b i0 i1 i2 i3 i4 i5 i6 pl (Value.pointer qa) (.int .i64 (1 + max dl dq)) (.int .i64 (1 + ml + mq)) (.int .u64 ow) (.int .u64 (IntKind.u64.wrap (IntKind.u64.wrap (ow + sl) + sq))) ∧
      Nd w' c j0 j1 j2 j3 j4 j5 j6 (.pointer (some ⟨b, 0, none⟩)) qr (.int .i64 (1 + max (1 + max dl dq) dr)) (.int .i64 (1 + (1 + ml + mq) + mr)) (.int .u64 ov) (.int .u64 (IntKind.u64.wrap (IntKind.u64.wrap (ov + IntKind.u64.wrap (IntKind.u64.wrap (ow + sl) + sq)) + sr))) ∧
      Wr (fun k => k = b ∨ k = c) w w' := by
  have h8 := hN.cell 8
  have g7 := hM.cell 7
  have f8 := hN.frozen 8
  simp at h8 g7
  go_enter Try.func72, Try.ntmps72
  go_wp2_with fail
  have N1 := hN.set8 (Value.pointer qa)
  have M1 : Nd (w.setCell ⟨b, 8, none⟩ (Value.pointer qa)) c j0 j1 j2 j3 j4 j5 j6 (Value.pointer qa) qr y9 y10 (.int .u64 ov) y12 := hM.wr (wr_set w b 8 (Value.pointer qa)) (fun h => hbc h.symm)
  have L1 := hL.set (b := b) (fun k hk => (nL k hk).1) 8 (Value.pointer qa)
  have Q1 := hQ.set (b := b) (fun k hk => (nQ k hk).1) 8 (Value.pointer qa)
  have R1 := hR.set (b := b) (fun k hk => (nR k hk).1) 8 (Value.pointer qa)
  have W1 := wr_set w b 8 (Value.pointer qa)
  clear h8 g7 f8
  generalize w.setCell ⟨b, 8, none⟩ (Value.pointer qa) = w1 at *
  refine (fix_calls b i0 i1 i2 i3 i4 i5 i6 pl (Value.pointer qa) x9 x10 x12 dl ml sl dq mq sq ow w1 N1 L1 Q1 (fun k hk => (nL k hk).1) (fun k hk => (nQ k hk).1) (by omega) (by omega)).mono ?_
  rintro e w2 ⟨rfl, N2, W2⟩
  have M2 := M1.wr W2 (fun h => hbc h.symm)
  have R2 := R1.wr W2 (fun k hk h => (nR k hk).1 h)
  have g7 := M2.cell 7
  have f7 := M2.frozen 7
  simp at g7
  go_wp2_with fail
  have M3 := M2.set7 (.pointer (some ⟨b, 0, none⟩))
  have N3 : Nd (w2.setCell ⟨c, 7, none⟩ (.pointer (some ⟨b, 0, none⟩))) b i0 i1 i2 i3 i4 i5 i6 pl (Value.pointer qa) _ _ _ _ := N2.wr (wr_set w2 c 7 _) hbc
  have R3 := R2.set (b := c) (fun k hk => (nR k hk).2) 7 (.pointer (some ⟨b, 0, none⟩))
  have W3 := wr_set w2 c 7 (.pointer (some ⟨b, 0, none⟩))
  clear g7 f7
  generalize w2.setCell ⟨c, 7, none⟩ (.pointer (some ⟨b, 0, none⟩)) = w3 at *
  refine (fix_calls c j0 j1 j2 j3 j4 j5 j6 (.pointer (some ⟨b, 0, none⟩)) qr y9 y10 y12 (1 + max dl dq) (1 + ml + mq) _ dr mr sr ov w3 M3 N3.dp R3 (fun k hk => by simp at hk; omega) (fun k hk => (nR k hk).2) (by omega) (by omega)).mono ?_
  rintro e w4 ⟨rfl, M4, W4⟩
  have N4 := N3.wr W4 hbc
  go_wp2_with fail
  go_ret
  refine ⟨rfl, N4, M4, ?_⟩
  exact ((W1.mono fun _ _ h => .inl h).trans (W2.mono fun _ _ h => .inl h)).trans ((W3.mono fun _ _ h => .inr h).trans (W4.mono fun _ _ h => .inr h))
theorem level_fix (b : Nat) (i0 i1 i2 i3 i4 i5 i6 pl pr x9 x10 x12 : Value) (dl ml sl dr mr sr ow : Int) (w : World) (hN : Nd w b i0 i1 i2 i3 i4 i5 i6 pl pr x9 x10 (.int .u64 ow) x12) (hL : Dp w pl dl ml sl) (hR : Dp w pr dr mr sr)
    (nL : ∀ c, pl = .pointer (some ⟨c, 0, none⟩) → c ≠ b) (nR : ∀ c, pr = .pointer (some ⟨c, 0, none⟩) → c ≠ b) (bd : 0 ≤ dl ∧ dl ≤ 1000 ∧ 0 ≤ dr ∧ dr ≤ 1000) (bm : 0 ≤ ml ∧ ml ≤ 1000 ∧ 0 ≤ mr ∧ mr ≤ 1000) (h1 : dl - dr ≤ 1) (h2 : -1 ≤ dl - dr) :
    Calls Try.prog 58 #[.pointer (some ⟨b, 0, none⟩)] w fun e w' => e = .returned (.pointer (some ⟨b, 0, none⟩)) ∧
      Nd w' b i0 i1 i2 i3 i4 i5 i6 pl pr (.int .i64 (1 + max dl dr)) (.int .i64 (1 + ml + mr)) (.int .u64 ow) (.int .u64 (IntKind.u64.wrap (IntKind.u64.wrap (ow + sl) + sr))) ∧ Wr (· = b) w w' := by
  have h7 := hN.cell 7
  have h8 := hN.cell 8
  simp at h7 h8
  have t1 : decide ((1 : Int) < dl - dr) = false := by simpa using h1
  have t2 : decide (dl - dr < -1) = false := by simpa using h2
  have wd : IntKind.i64.wrap (dl - dr) = dl - dr := IntWalk.i64_in _ (by omega)
  go_enter Try.func58, Try.ntmps58
  go_wp2_with fail
  refine wp_region_still_lit (by kernel_rfl) (by kernel_rfl) ?_
  repeat still_step
  still_call (depth_any hL.drew)
  repeat still_step
  still_call (depth_any hR.drew)
  repeat still_step
  refine wpStill_nil ?_
  have hN' : Nd w.drew b i0 i1 i2 i3 i4 i5 i6 pl pr x9 x10 (.int .u64 ow) x12 := hN
  have F := fix_calls b i0 i1 i2 i3 i4 i5 i6 pl pr x9 x10 x12 dl ml sl dr mr sr ow w.drew hN' hL.drew hR.drew nL nR bd bm
  go_wp2_with fail
  refine F.mono ?_
  rintro e w2 ⟨rfl, N2, W2⟩
  go_wp2_with fail
  go_ret
  exact ⟨rfl, N2, (wr_drew _ w).trans W2⟩
theorem level_turn (b c : Nat) (i0 i1 i2 i3 i4 i5 i6 pl x9 x10 x12 j0 j1 j2 j3 j4 j5 j6 qr : Value) (qa : Option Addr) (dl ml sl dq mq sq dr mr sr ow ov dc : Int) (y12 : Int) (mc : Int) (w : World) (hbc : b ≠ c)
    (hN : Nd w b i0 i1 i2 i3 i4 i5 i6 pl (.pointer (some ⟨c, 0, none⟩)) x9 x10 (.int .u64 ow) x12) (hM : Nd w c j0 j1 j2 j3 j4 j5 j6 (.pointer qa) qr (.int .i64 dc) (.int .i64 mc) (.int .u64 ov) (.int .u64 y12))
    (hL : Dp w pl dl ml sl) (hQ : Dp w (.pointer qa) dq mq sq) (hR : Dp w qr dr mr sr)
    (nL : ∀ k, pl = .pointer (some ⟨k, 0, none⟩) → k ≠ b ∧ k ≠ c) (nQ : ∀ k, Value.pointer qa = .pointer (some ⟨k, 0, none⟩) → k ≠ b ∧ k ≠ c) (nR : ∀ k, qr = .pointer (some ⟨k, 0, none⟩) → k ≠ b ∧ k ≠ c)
    (bd : 0 ≤ dl ∧ dl ≤ 900 ∧ 0 ≤ dq ∧ dq ≤ 900 ∧ 0 ≤ dr ∧ dr ≤ 900) (bm : 0 ≤ ml ∧ ml ≤ 400 ∧ 0 ≤ mq ∧ mq ≤ 400 ∧ 0 ≤ mr ∧ mr ≤ 400) (bc : 0 ≤ dc ∧ dc ≤ 1000) (h1 : dl - dc < -1) (h2 : dq ≤ dr) :
    Calls Try.prog 58 #[.pointer (some ⟨b, 0, none⟩)] w fun e w' => e = .returned (.pointer (some ⟨c, 0, none⟩)) ∧
      Nd w' b i0 i1 i2 i3 i4 i5 i6 pl (.pointer qa) (.int .i64 (1 + max dl dq)) (.int .i64 (1 + ml + mq)) (.int .u64 ow) (.int .u64 (IntKind.u64.wrap (IntKind.u64.wrap (ow + sl) + sq))) ∧
      Nd w' c j0 j1 j2 j3 j4 j5 j6 (.pointer (some ⟨b, 0, none⟩)) qr (.int .i64 (1 + max (1 + max dl dq) dr)) (.int .i64 (1 + (1 + ml + mq) + mr)) (.int .u64 ov) (.int .u64 (IntKind.u64.wrap (IntKind.u64.wrap (ov + IntKind.u64.wrap (IntKind.u64.wrap (ow + sl) + sq)) + sr))) ∧
      Wr (fun k => k = b ∨ k = c) w w' := by
  have h7 := hN.cell 7
  have h8 := hN.cell 8
  have g7 := hM.cell 7
  have g8 := hM.cell 8
  simp at h7 h8 g7 g8
  have t1 : decide ((1 : Int) < dl - dc) = false := by simp; omega
  have t2 : decide (dl - dc < -1) = true := by simpa using h1
  have t3 : decide (dr < dq) = false := by simpa using h2
  have wd : IntKind.i64.wrap (dl - dc) = dl - dc := IntWalk.i64_in _ (by omega)
  go_enter Try.func58, Try.ntmps58
  go_wp2_with fail
  refine wp_region_still_lit (by kernel_rfl) (by kernel_rfl) ?_
  repeat still_step
  still_call (depth_any hL.drew)
  repeat still_step
  still_call (depth_any (Dp.drew hM.dp))
  repeat still_step
  refine wpStill_nil ?_
  go_wp2_with fail
  have N1 : Nd w.drew b i0 i1 i2 i3 i4 i5 i6 pl (.pointer (some ⟨c, 0, none⟩)) x9 x10 (.int .u64 ow) x12 := hN
  have M1 : Nd w.drew c j0 j1 j2 j3 j4 j5 j6 (.pointer qa) qr (.int .i64 dc) (.int .i64 mc) (.int .u64 ov) (.int .u64 y12) := hM
  have L1 := hL.drew
  have Q1 := hQ.drew
  have R1 := hR.drew
  have W1 := wr_drew (fun k => k = b ∨ k = c) w
  change Dp w.drew _ _ _ _ at L1
  change Dp w.drew _ _ _ _ at Q1
  change Dp w.drew _ _ _ _ at R1
  change Wr _ w w.drew at W1
  clear h7 h8 g7 g8 hN hM hL hQ hR
  generalize w.drew = w1 at *
  have h7 := N1.cell 7
  have h8 := N1.cell 8
  have g7 := M1.cell 7
  have g8 := M1.cell 8
  simp at h7 h8 g7 g8
  refine wp_region_still_lit (by kernel_rfl) (by kernel_rfl) ?_
  repeat still_step
  still_call (depth_any R1.drew)
  repeat still_step
  still_call (depth_any Q1.drew)
  repeat still_step
  refine wpStill_nil ?_
  have hN' : Nd w1.drew b i0 i1 i2 i3 i4 i5 i6 pl (.pointer (some ⟨c, 0, none⟩)) x9 x10 (.int .u64 ow) x12 := N1
  have hM' : Nd w1.drew c j0 j1 j2 j3 j4 j5 j6 (.pointer qa) qr (.int .i64 dc) (.int .i64 mc) (.int .u64 ov) (.int .u64 y12) := M1
  have F := turn_calls b c i0 i1 i2 i3 i4 i5 i6 pl x9 x10 x12 j0 j1 j2 j3 j4 j5 j6 qr _ _ _ qa dl ml sl dq mq sq dr mr sr ow ov w1.drew hbc hN' hM' L1.drew Q1.drew R1.drew nL nQ nR bd bm
  go_wp2_with fail
  refine F.mono ?_
  rintro e w2 ⟨rfl, N2, M2, W2⟩
  go_wp2_with fail
  go_ret
  exact ⟨rfl, N2, M2, (W1.trans (wr_drew _ _)).trans W2⟩
end Go.Proofs.Ytjnpfbohnpjckaa
