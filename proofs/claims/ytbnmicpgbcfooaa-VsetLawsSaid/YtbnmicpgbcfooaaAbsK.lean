/- Soundness, eighth part: slice literals; the operations that make or change objects; calls. -/
import Derived.Test.YtbnmicpgbcfooaaAbsJ
namespace Go.Abs
open Go.RowKit

section
variable {P : Program} {N0 : Nat → Prop} {w0 : Base} {nt : Nat} {σ : St} {φ : List Own} {a : Act} {w : World}

theorem heap_alloc_new (w : World) (o : Go.Obj) : (w.alloc o).heap[w.heap.size]? = some o := by
  show (w.heap.push o)[w.heap.size]? = some o
  simp
theorem rangeAt_alloc {w : World} {vs : List Value} {e : TypeId} {fr : Nat × Nat} {c : Array Value} (h : ∀ (j : Nat) (v : Value), vs[j]? = some v → c[j]? = some v) : (w.alloc (.cells c e fr)).rangeAt w.heap.size 0 vs := fun j v hv => by
  have := h j v hv
  simp only [World.cell?, heap_alloc_new, Nat.zero_add]
  simpa using this

theorem strideOf_of {k : Nat} {E : Env} : ∀ {es : List A} {vs : List Value}, RowRel E k es vs → es ≠ [] → strideOf es = k
  | [], _, _, h => absurd rfl h
  | e :: es, vs, h, _ => by simp only [RowRel] at h; exact h.1

theorem fillE_sound (h : Conc N0 w0 nt σ φ a w) {k : Nat} : ∀ (ps : List (Nat × Operand)) (es es' : List A) (vs : List Value), RowRel (envOf N0 φ w) k es vs → (∀ u ∈ vs, u.oneCell' = true) → A.pure.pureL es = true → fillE k σ ps es = some es' →
      ∃ vs', Instr.fill (fun i => some (i * k, k)) vs.toArray (ps.map fun p => (p.1, a.eval p.2)) = some vs'.toArray ∧ RowRel (envOf N0 φ w) k es' vs' ∧ (∀ u ∈ vs', u.oneCell' = true) ∧ A.pure.pureL es' = true
  | [], es, es', vs, hr, h1, hp, hf => by
    simp [fillE] at hf
    subst hf
    exact ⟨vs, rfl, hr, h1, hp⟩
  | (i, x) :: ps, es, es', vs, hr, h1, hp, hf => by
    simp only [fillE] at hf
    split at hf
    · rename_i hc
      obtain ⟨c1, c2, c3, c4⟩ := hc
      have hx := h.ev x
      obtain ⟨r1, r2, r3⟩ := Rep_cells hx c3
      have hv : (a.eval x).cells.size = k := by rw [r3, c1]
      have hn : (σ.ev x).norm.cells.length = k := by rw [norm_cells, List.length_map, c1]
      have hL : RepL (envOf N0 φ w) (σ.ev x).norm.cells (a.eval x).cells.toList := by rw [norm_cells]; exact repL_norm0 r1
      have hlen := hr.length
      have hle : i * k + k ≤ vs.length := by
        rw [hlen]
        calc i * k + k = (i + 1) * k := by rw [Nat.add_mul, Nat.one_mul]
          _ ≤ es.length * k := Nat.mul_le_mul_right k c2
      have hset := RowRel.set hn hL c2 hr
      rw [setNth_eq] at hf
      obtain ⟨vs', hfill, hr', h1', hp'⟩ := fillE_sound h ps _ es' _ hset (fun u hu => by
        simp only [List.mem_append] at hu
        rcases hu with (hu | hu) | hu
        · exact h1 u (List.mem_of_mem_take hu)
        · exact r2 u hu
        · exact h1 u (List.mem_of_mem_drop hu)) (pureL_of fun j e he => by
          rw [List.getElem?_set] at he
          split at he
          · first
              | (simp at he; subst he; exact pure_norm c4)
              | (split at he
                 · simp at he; subst he; exact pure_norm c4
                 · simp at he)
          · exact pureL_getElem hp he) hf
      refine ⟨vs', ?_, hr', h1', hp'⟩
      rw [List.map_cons, fill_one rfl hv hle]
      exact hfill
    · simp at hf

theorem good_buildSlice (h : Conc N0 w0 nt σ φ a w) {d : Option Tmp} {s len : Nat} {ps : Array (Nat × Operand)} {t : TypeId} {p : String} {af : Array Edge} {g : Option (Nat × Bool)} {r : A}
    (hr : buildSliceA P s len σ ps.toList = some r) : Good P ⟨d, .buildSlice s len ps, t, p, af, g⟩ a w N0 φ r := by
  unfold buildSliceA at hr
  split at hr
  · rename_i e he
    split at hr
    · rename_i k z hk hz
      split at hr
      · rename_i hc
        obtain ⟨hsz, hk0, hpz, hvz, hcz⟩ := hc
        cases hf : fillE k σ ps.toList (List.replicate len z.norm) with
        | none => simp [hf] at hr
        | some es =>
          simp [hf] at hr
          subst hr
          obtain ⟨zv, hzr, hzrep⟩ := zeroA_eq (w := w) hz
          obtain ⟨r1, r2, r3⟩ := Rep_cells (hzrep (envOf N0 φ w)) hvz
          have hzk : zv.cells.size = k := by rw [r3, hcz]
          have hr0 : RowRel (envOf N0 φ w) k (List.replicate len z.norm) (List.replicate len zv.cells.toList).flatten :=
            RowRel.replicate (by rw [norm_cells, List.length_map, hcz]) (by rw [norm_cells]; exact repL_norm0 r1) len
          obtain ⟨vs, hfill, hrow, hone, hpure⟩ := fillE_sound h ps.toList _ es _ hr0 (fun u hu => by
            obtain ⟨l, hl, hul⟩ := List.mem_flatten.1 hu
            rw [List.eq_of_mem_replicate hl] at hul
            exact r2 u hul) (pureL_of fun i x hx => by
              have := List.eq_of_mem_replicate (List.mem_of_getElem? hx)
              subst this
              exact pure_norm hpz) hf
          have hlen : es.length = len := by
            have : ∀ (ps : List (Nat × Operand)) (es es' : List A), fillE k σ ps es = some es' → es'.length = es.length := by
              intro ps
              induction ps with
              | nil => intro es es' h; simp [fillE] at h; rw [h]
              | cons q qs ih =>
                intro es es' h
                obtain ⟨i, x⟩ := q
                simp only [fillE] at h
                split at h
                · have := ih _ _ h; rw [this, setNth_eq, List.length_set]
                · simp at h
            have := this _ _ _ hf
            simpa using this
          let w' := w.alloc (.cells vs.toArray e)
          have hg : Grew w w' := Grew.alloc w _
          refine ⟨.slice (some ⟨w.heap.size, 0, none⟩) len len, w', ?_, hg, ?_⟩
          · have hnt : ¬ (len * k > 2 ^ 24) := by omega
            refine run_v (P := P) ?_
            simp only [Instr.buildSlice, Sem.run_bind, run_underlying (tyElem_eq he), Result.andThen_ok, run_sizeOf hk, if_neg hnt]
            have hmap : (Array.map (fun x => (x.fst, a.eval x.snd)) ps).toList = ps.toList.map fun p => (p.1, a.eval p.2) := by simp
            rw [hmap]
            have last : ∀ cells : Array Value, cells = (List.replicate len zv.cells.toList).flatten.toArray →
                (match Instr.fill (fun i => some (i * k, k)) cells (ps.toList.map fun p => (p.1, a.eval p.2)) with
                  | some cells => (do
                    let __do_lift ← newRow e cells
                    pure (Value.slice (some __do_lift) len len))
                  | _ => stuck "buildSlice: a part of the wrong size" : Sem Value).run P w = .ok (.slice (some ⟨w.heap.size, 0, none⟩) len len) w' := by
              rintro cells rfl
              rw [hfill]
              simp only [newRow, Sem.run_bind, run_newObj, Sem.run_pure, Result.andThen_ok]
              rfl
            split
            · rename_i h0
              simp only [Sem.run_bind, Sem.run_pure, Result.andThen_ok]
              refine last _ ?_
              rw [h0]
              rcases Nat.mul_eq_zero.1 h0 with h0 | h0
              · subst h0; simp
              · exact absurd h0 hk0
            · simp only [Sem.run_bind, hzr, Sem.run_pure, Result.andThen_ok]
              refine last _ ?_
              apply Array.ext'
              simp only [Array.toList_map, Array.toList_range]
              have := zeros_eq (z := zv.cells) len
              rw [hzk] at this
              rw [hzk]
              exact this
          · simp only [Rep]
            refine ⟨hpure, some ⟨w.heap.size, 0, none⟩, by rw [hlen], fun hne => ⟨w.heap.size, 0, rfl, by simp [w', envOf], ?_, ?_⟩⟩
            · rintro (h0 | ⟨n, kk, hn⟩)
              · have := (h.n0 _ h0).1
                have := h.below.size
                omega
              · have := (h.own n _ kk hn).2
                omega
            · have hrow' : RowRel (envOf N0 φ w') k es vs := RowRel.mono (fun x v hx hr => h.rep_grew hg hr) hpure hrow
              rw [strideOf_of hrow' hne]
              exact RowRel.mem hrow' (rangeAt_alloc (fun j v hv => by simpa using hv)) hone
      · simp at hr
    · simp at hr
  · simp at hr

/-- Operations that hand back a value and change nothing owned: all of them. -/
theorem evalR_sound (h : Conc N0 w0 nt σ φ a w) {d : Option Tmp} {op : Op} {t : TypeId} {p : String} {af : Array Edge} {g : Option (Nat × Bool)} {r : A}
    (hr : evalR P σ op = some r) : Good P ⟨d, op, t, p, af, g⟩ a w N0 φ r := by
  unfold evalR at hr
  split at hr
  · obtain rfl := Option.some.inj hr; exact good_move h
  · obtain rfl := Option.some.inj hr; exact good_assign h
  · exact good_pick h hr
  · exact good_build h hr
  · exact good_buildSlice h hr
  · exact good_load h hr
  · exact good_nilCheck h hr
  · exact good_binOp h hr
  · exact good_unOp h hr
  · exact good_convert h hr
  · exact good_makeFunc h hr
  · split at hr
    · rename_i hc
      exact good_slice h hc.1 hc.2.1 hc.2.2 hr
    · simp at hr
  · exact good_fieldAddr h hr
  · exact good_field h hr
  · exact good_indexAddr h hr
  · exact good_index h hr
  · exact good_extract h hr
  · exact good_len h hr
  · exact good_min h hr
  · exact good_max h hr
  · simp at hr

/-- What a good run of an operation that may make or change an object comes to. -/
def GoodW (P : Program) (o : Oper) (a : Act) (w : World) (N0 : Nat → Prop) (w0 : Base) (nt : Nat) (φ : List Own) (n : Nat) (σ' : St) : Prop :=
  ∃ v w' φ', ((Go.execOp a.eval o).run P w = .ok (.value v) w' ∨ ((Go.execOp a.eval o).run P w = .ok .skip w' ∧ v = undef)) ∧ Conc N0 w0 nt σ' φ' (a.put o.dst v) w' ∧ ∀ m, m ≠ n → φ[m]? = some .free → φ'[m]? = some .free

theorem goodW_of_good (h : Conc N0 w0 nt σ φ a w) {o : Oper} (hd : ∀ t, o.dst = some t → t < nt) {x : A} (hg : Good P o a w N0 φ x) {n : Nat} : GoodW P o a w N0 w0 nt φ n (σ.put o.dst x) := by
  obtain ⟨v, w', hr, hgr, hrep⟩ := hg
  exact ⟨v, w', φ, .inl hr, (h.grew hgr).put hd hrep, fun _ _ h => h⟩

theorem unfrozen_plain (c : Array Value) : Unfrozen c (0, 0) := fun j _ h => by simp at h

theorem goodW_box (h : Conc N0 w0 nt σ φ a w) {o : Oper} (hd : ∀ t, o.dst = some t → t < nt) {n : Nat} (hfree : φ[n]? = some .free) {x : A} {v : Value} {e : TypeId} {σ' : St} (hx : Rep (envOf N0 φ w) x v)
    (hrun : (Go.execOp a.eval o).run P w = .ok (.value (.pointer (some ⟨w.heap.size, 0, none⟩))) (w.alloc (.cells v.cells e)))
    (hr : boxA σ n o.dst x = some σ') : GoodW P o a w N0 w0 nt φ n σ' := by
  unfold boxA at hr
  split at hr
  · rename_i hv
    obtain rfl := Option.some.inj hr
    obtain ⟨r1, r2, r3⟩ := Rep_cells hx hv
    have hn : n < φ.length := (List.getElem?_eq_some_iff.1 hfree).1
    have hnew := h.newObj (k := 0) (o := .box x.cells) (w' := w.alloc (.cells v.cells e)) hfree (Grew.alloc w _) (Nat.le_refl w.heap.size) (by simp) (by
      simp only [ObjRel]
      refine ⟨⟨v.cells, e, (0, 0), heap_alloc_new w _, unfrozen_plain _⟩, RepM_of_vals (vs := v.cells.toList) (rangeAt_alloc fun j u hu => by simpa using hu) ?_ r2⟩
      obtain ⟨g1, g2⟩ := RepL_iff.1 r1
      refine RepL_iff.2 ⟨g1, fun i y u hy hu => ?_⟩
      have hext := h.ext_new (k := 0) hfree (Grew.alloc w (.cells v.cells e)) (Nat.le_refl _)
      exact Rep.mono hext y u (g2 i y u hy hu) (fun _ _ => trivial))
    refine ⟨_, _, _, .inl hrun, hnew.put hd ?_, fun m hm hf => by rw [List.getElem?_set_ne (Ne.symm hm)]; exact hf⟩
    simp only [Rep]
    exact ⟨w.heap.size, 0, by show (φ.set n _)[n]? = _; simp [hn], rfl⟩
  · simp at hr
end

end Go.Abs
