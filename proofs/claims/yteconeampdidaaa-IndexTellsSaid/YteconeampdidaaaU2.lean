/- What the laws of this claim rest on: the abstract executor, its soundness, and what the functions compute on pure data. No condition. -/
import Derived.Test.YteconeampdidaaaU1
import Derived.Deep.Upon
import Derived.Laws.IdiomStrings
set_option linter.unusedVariables false
set_option linter.unusedSimpArgs false
namespace Go.Abs
open Go.RowKit
theorem rep_norm0 {E : Env} {x : A} {v : Value} (h : Rep E x v) : Rep E (norm0 x) v := by
  cases x <;> simp only [norm0] <;> try exact h
  · simp only [Rep] at h ⊢
    obtain ⟨hp, a, hv, hm⟩ := h
    exact ⟨hp, a, _, hv, Nat.le_refl _, hm⟩
  · simp only [Rep] at h ⊢
    exact ⟨rfl, none, 0, by simpa using h, Nat.le_refl _, fun hne => absurd rfl hne⟩
  · simp only [Rep] at h ⊢
    obtain ⟨a, cap, hv, _⟩ := h
    exact ⟨rfl, a, cap, by simpa using hv, Nat.zero_le _, fun hne => absurd rfl hne⟩
theorem repL_norm0 {E : Env} {cs : List A} {vs : List Value} (h : RepL E cs vs) : RepL E (cs.map norm0) vs := by
  obtain ⟨h1, h2⟩ := RepL_iff.1 h
  refine RepL_iff.2 ⟨by simpa using h1, fun i x v hx hv => ?_⟩
  rw [List.getElem?_map] at hx
  cases hc : cs[i]? with
  | none => simp [hc] at hx
  | some c => simp [hc] at hx; subst hx; exact rep_norm0 (h2 i c v hc hv)
theorem norm_cells (x : A) : x.norm.cells = x.cells.map norm0 := by
  cases x <;> simp [A.norm, norm0, A.cells]
theorem pure_norm0 {x : A} (h : x.pure = true) : (norm0 x).pure = true := by
  cases x <;> simp_all [norm0, A.pure]
theorem pureL_map_norm0 {cs : List A} (h : A.pure.pureL cs = true) : A.pure.pureL (cs.map norm0) = true :=
  pureL_of fun i e he => by
    rw [List.getElem?_map] at he
    cases hc : cs[i]? with
    | none => simp [hc] at he
    | some c => simp [hc] at he; subst he; exact pure_norm0 (pureL_getElem h hc)
theorem pure_norm {x : A} (h : x.pure = true) : x.norm.pure = true := by
  cases x
  case agg cs =>
    simp only [A.norm, A.pure] at h ⊢
    exact pureL_map_norm0 h
  all_goals
    simp only [A.norm]
    exact pure_norm0 h
def RowRel (E : Env) (k : Nat) : List A → List Value → Prop
  | [], vs => vs = []
  | e :: es, vs => e.cells.length = k ∧ k ≤ vs.length ∧ RepL E e.cells (vs.take k) ∧ RowRel E k es (vs.drop k)
theorem RowRel.length {E : Env} {k : Nat} : ∀ {es : List A} {vs : List Value}, RowRel E k es vs → vs.length = es.length * k
  | [], vs, h => by simp only [RowRel] at h; subst h; simp
  | e :: es, vs, h => by
    simp only [RowRel] at h
    have := RowRel.length h.2.2.2
    simp only [List.length_drop] at this
    have := h.2.1
    simp only [List.length_cons, Nat.add_mul, Nat.one_mul]
    omega
theorem RowRel.append {E : Env} {k : Nat} : ∀ {es fs : List A} {vs us : List Value}, RowRel E k es vs → RowRel E k fs us → RowRel E k (es ++ fs) (vs ++ us)
  | [], fs, vs, us, h, h' => by simp only [RowRel] at h; subst h; simpa using h'
  | e :: es, fs, vs, us, h, h' => by
    simp only [RowRel] at h
    obtain ⟨h1, h2, h3, h4⟩ := h
    simp only [List.cons_append, RowRel]
    refine ⟨h1, by simp; omega, ?_, ?_⟩
    · rw [List.take_append_of_le_length h2]; exact h3
    · rw [List.drop_append_of_le_length h2]; exact RowRel.append h4 h'
theorem RowRel.take {E : Env} {k : Nat} : ∀ {n : Nat} {es : List A} {vs : List Value}, RowRel E k es vs → RowRel E k (es.take n) (vs.take (n * k))
  | 0, es, vs, _ => by simp [RowRel]
  | n + 1, [], vs, h => by simp only [RowRel] at h; subst h; simp [RowRel]
  | n + 1, e :: es, vs, h => by
    simp only [RowRel] at h
    obtain ⟨h1, h2, h3, h4⟩ := h
    simp only [List.take_succ_cons, RowRel]
    have hk : k ≤ (n + 1) * k := by rw [Nat.add_mul, Nat.one_mul]; omega
    refine ⟨h1, by simp; omega, ?_, ?_⟩
    · rw [List.take_take, Nat.min_eq_left hk]; exact h3
    · rw [List.drop_take, show (n + 1) * k - k = n * k by rw [Nat.add_mul, Nat.one_mul]; omega]; exact RowRel.take h4
theorem RowRel.set {E : Env} {k : Nat} {x : A} {xv : List Value} (hx : x.cells.length = k) (hL : RepL E x.cells xv) : ∀ {i : Nat} {es : List A} {vs : List Value}, i < es.length → RowRel E k es vs →
    RowRel E k (es.set i x) (vs.take (i * k) ++ xv ++ vs.drop (i * k + k))
  | 0, e :: es, vs, _, h => by
    simp only [RowRel] at h
    obtain ⟨h1, h2, h3, h4⟩ := h
    have hxl : xv.length = k := by rw [← (RepL_iff.1 hL).1, hx]
    simp only [List.set_cons_zero, RowRel, Nat.zero_mul, List.take_zero, List.nil_append, Nat.zero_add]
    refine ⟨hx, by simp; omega, ?_, ?_⟩
    · rw [List.take_append_of_le_length (by omega), List.take_of_length_le (by omega)]; exact hL
    · rw [List.drop_append_of_le_length (by omega), List.drop_of_length_le (by omega), List.nil_append]; exact h4
  | i + 1, e :: es, vs, hi, h => by
    simp only [RowRel] at h
    obtain ⟨h1, h2, h3, h4⟩ := h
    have ih := RowRel.set hx hL (i := i) (by simpa using hi) h4
    have hk : (i + 1) * k = k + i * k := by rw [Nat.add_mul, Nat.one_mul]; omega
    have hlen := RowRel.length h4
    have hle : i * k + k ≤ (vs.drop k).length := by
      rw [hlen]
      have : i + 1 ≤ es.length := by have : i < es.length := by simpa using hi
                                     omega
      calc i * k + k = (i + 1) * k := by rw [Nat.add_mul, Nat.one_mul]
        _ ≤ es.length * k := Nat.mul_le_mul_right k this
    simp only [List.length_drop] at hle
    simp only [List.set_cons_succ, RowRel]
    refine ⟨h1, by simp; omega, ?_, ?_⟩
    · rw [List.append_assoc, List.take_append_of_le_length (by simp; omega), List.take_take, Nat.min_eq_left (by omega)]; exact h3
    · rw [List.append_assoc, List.drop_append_of_le_length (by simp; omega), List.drop_take, hk, show k + i * k - k = i * k by omega]
      rw [List.drop_drop] at ih
      rw [show k + i * k + k = k + (i * k + k) by omega, ← List.append_assoc]
      exact ih
theorem RowRel.replicate {E : Env} {k : Nat} {x : A} {xv : List Value} (hx : x.cells.length = k) (hL : RepL E x.cells xv) : ∀ n : Nat, RowRel E k (List.replicate n x) (List.replicate n xv).flatten
  | 0 => by simp [RowRel]
  | n + 1 => by
    have hxl : xv.length = k := by rw [← (RepL_iff.1 hL).1, hx]
    simp only [List.replicate_succ, List.flatten_cons, RowRel]
    refine ⟨hx, by simp; omega, ?_, ?_⟩
    · rw [List.take_append_of_le_length (by omega), List.take_of_length_le (by omega)]; exact hL
    · rw [List.drop_append_of_le_length (by omega), List.drop_of_length_le (by omega), List.nil_append]; exact RowRel.replicate hx hL n
theorem RowRel.mem {E : Env} {k b : Nat} : ∀ {es : List A} {vs : List Value} {off : Nat}, RowRel E k es vs → E.w.rangeAt b off vs → (∀ u ∈ vs, u.oneCell' = true) → RepE E k b off es
  | [], vs, off, _, _, _ => by simp [RepE]
  | e :: es, vs, off, h, hr, hone => by
    simp only [RowRel] at h
    obtain ⟨h1, h2, h3, h4⟩ := h
    refine RepE_cons.2 ⟨⟨h1, RepM_of_vals (vs := vs.take k) ?_ h3 fun u hu => hone u (List.mem_of_mem_take hu)⟩, RowRel.mem h4 ?_ fun u hu => hone u (List.mem_of_mem_drop hu)⟩
    · intro j v hv
      rw [List.getElem?_take] at hv
      split at hv
      · exact hr j v hv
      · simp at hv
    · intro j v hv
      rw [List.getElem?_drop] at hv
      have := hr (k + j) v hv
      rwa [show off + (k + j) = off + k + j by omega] at this
theorem RowRel.of_mem {E : Env} {k b : Nat} : ∀ {es : List A} {off : Nat}, RepE E k b off es → ∃ vs, RowRel E k es vs ∧ E.w.rangeAt b off vs ∧ ∀ u ∈ vs, u.oneCell' = true
  | [], off, _ => ⟨[], by simp [RowRel], fun j v h => by simp at h, by simp⟩
  | e :: es, off, h => by
    obtain ⟨⟨h1, hm⟩, hE⟩ := RepE_cons.1 h
    obtain ⟨us, hu1, hu2, hu3⟩ := RepM_vals hm
    obtain ⟨vs, hv1, hv2, hv3⟩ := RowRel.of_mem hE
    have hl : us.length = k := by rw [← (RepL_iff.1 hu2).1, h1]
    refine ⟨us ++ vs, ?_, ?_, ?_⟩
    · simp only [RowRel]
      refine ⟨h1, by simp; omega, ?_, ?_⟩
      · rw [List.take_append_of_le_length (by omega), List.take_of_length_le (by omega)]; exact hu2
      · rw [List.drop_append_of_le_length (by omega), List.drop_of_length_le (by omega), List.nil_append]; exact hv1
    · intro j v hv
      rw [List.getElem?_append] at hv
      split at hv
      · exact hu1 j v hv
      · rename_i hj
        have := hv2 (j - us.length) v hv
        rwa [show off + k + (j - us.length) = off + j by omega] at this
    · intro u hu
      rcases List.mem_append.1 hu with hu | hu
      · exact hu3 u hu
      · exact hv3 u hu
theorem RowRel.mono {E E' : Env} (hr : ∀ x v, x.pure = true → Rep E x v → Rep E' x v) {k : Nat} : ∀ {es : List A} {vs : List Value}, A.pure.pureL es = true → RowRel E k es vs → RowRel E' k es vs
  | [], vs, _, h => by simpa only [RowRel] using h
  | e :: es, vs, hp, h => by
    simp only [A.pure.pureL, Bool.and_eq_true] at hp
    simp only [RowRel] at h ⊢
    obtain ⟨h1, h2, h3, h4⟩ := h
    obtain ⟨g1, g2⟩ := RepL_iff.1 h3
    exact ⟨h1, h2, RepL_iff.2 ⟨g1, fun i x v hx hv => hr x v (pureL_getElem (pure_cells hp.1) hx) (g2 i x v hx hv)⟩, RowRel.mono hr hp.2 h4⟩
theorem zeros_eq {z : Array Value} : ∀ n : Nat, (List.range (n * z.size)).map (fun i => z[i % z.size]!) = (List.replicate n z.toList).flatten
  | 0 => by simp
  | n + 1 => by
    rw [Nat.add_mul, Nat.one_mul, Nat.add_comm, List.range_add, List.map_append, List.map_map, List.replicate_succ, List.flatten_cons, ← zeros_eq n]
    congr 1
    · apply List.ext_getElem?
      intro i
      rw [List.getElem?_map]
      by_cases hi : i < z.size
      · simp [hi, Nat.mod_eq_of_lt hi]
      · simp [hi]
    · apply List.map_congr_left
      intro i _
      simp
section
variable {P : Program} {N0 : Nat → Prop} {w0 : Base} {nt : Nat} {σ : St} {φ : List Own} {a : Act} {w : World}
theorem set_get {n : Nat} {p : Own} (hn : n < φ.length) (m : Nat) : (φ.set n p)[m]? = if n = m then some p else φ[m]? := by
  rw [List.getElem?_set]
  split
  · rename_i e; subst e; simp
  · rfl
theorem Conc.ext_new (h : Conc N0 w0 nt σ φ a w) {n b k : Nat} {w' : World} (hfree : φ[n]? = some .free) (g : Grew w w') (hb : w.heap.size ≤ b) :
    Ext (fun _ => True) (envOf N0 φ w) (envOf N0 (φ.set n (.loc b k)) w') := by
  have hset := set_get (φ := φ) (n := n) (p := Own.loc b k) (List.getElem?_eq_some_iff.1 hfree).1
  exact {
    size := g.size
    blk := fun c hc hnc => ⟨by
      rintro (h0 | ⟨m, k', hm⟩)
      · exact hnc (.inl h0)
      · rw [hset] at hm
        split at hm
        · simp at hm
          have : c < w.heap.size := hc
          omega
        · exact hnc (.inr ⟨m, k', hm⟩), g.block c hc⟩
    refs := fun m p _ hm hp => by
      show (φ.set n (Own.loc b k))[m]? = some p
      rw [hset]
      split
      · rename_i e; subst e
        have : φ[n]? = some p := hm
        rw [hfree] at this
        simp at this
        exact absurd this.symm hp
      · exact hm
    own := fun m c k' cc e fr _ hm hc => ⟨cc, fr, by
      show w'.heap[c]? = _
      rw [g.block c (h.own m c k' hm).2]; exact hc, rfl⟩ }
theorem Conc.newObj (h : Conc N0 w0 nt σ φ a w) {n b k : Nat} {o : Obj} {w' : World} (hfree : φ[n]? = some .free) (g : Grew w w') (hb : w.heap.size ≤ b) (hb' : b < w'.heap.size)
    (ho : ObjRel (envOf N0 (φ.set n (.loc b k)) w') o (.loc b k)) : Conc N0 w0 nt (σ.setH n o) (φ.set n (.loc b k)) a w' := by
  have hset := set_get (φ := φ) (n := n) (p := Own.loc b k) (List.getElem?_eq_some_iff.1 hfree).1
  have hext := h.ext_new (k := k) hfree g hb
  exact {
    slots := fun d => Rep.mono hext _ _ (h.slots d) (fun _ _ => trivial)
    size := h.size
    defers := h.defers
    len := by simp [St.setH, setO_eq, h.len]
    objs := fun m o' p hm hp => by
      rw [hset] at hp
      simp only [St.setH] at hm
      rw [setO_eq, nthO_eq, List.getElem?_set] at hm
      split at hp
      · rename_i e
        subst e
        simp at hp
        subst hp
        rw [if_pos rfl] at hm
        split at hm
        · simp at hm; subst hm; exact ho
        · simp at hm
      · rename_i e
        rw [if_neg e] at hm
        exact ObjRel.mono hext (h.objs m o' p (by rw [nthO_eq]; exact hm) hp) (fun c k' hc cc ee fr hh => by
          subst hc
          show w'.heap[c]? = _
          rw [g.block c (h.own m c k' hp).2]; exact hh) (fun _ _ _ _ => trivial)
    own := fun m c k' hm => by
      rw [hset] at hm
      split at hm
      · simp at hm
        obtain ⟨rfl, rfl⟩ := hm
        exact ⟨.inl (Nat.le_trans h.below.size hb), hb'⟩
      · exact ⟨(h.own m c k' hm).1, Nat.lt_of_lt_of_le (h.own m c k' hm).2 g.size⟩
    inj := fun m m' c k' k'' hm hm' => by
      rw [hset] at hm hm'
      split at hm <;> split at hm'
      · rename_i e1 e2; rw [← e1, ← e2]
      · simp at hm
        have := (h.own m' c k'' hm').2
        omega
      · simp at hm'
        have := (h.own m c k' hm).2
        omega
      · exact h.inj m m' c k' k'' hm hm'
    n0 := h.n0
    fixd := fun m q hf hm hq => by
      have := h.fixd m q hf hm hq
      rw [hset]
      split
      · rename_i e; subst e; rw [hfree] at this; exact absurd (Option.some.inj this).symm hq
      · exact this
    below := g.below h.below }
theorem setCells_heap {b : Nat} : ∀ (vs : List Value) (off : Nat) (w : World), (w.setCells b off vs).heap.size = w.heap.size ∧ (∀ c, c ≠ b → (w.setCells b off vs).heap[c]? = w.heap[c]?) ∧
    (w.setCells b off vs).os = w.os ∧ (w.setCells b off vs).tape = w.tape ∧ (w.setCells b off vs).output = w.output ∧ (w.setCells b off vs).drawn = w.drawn ∧
    (∀ cc e fr, w.heap[b]? = some (.cells cc e fr) → ∃ cc', (w.setCells b off vs).heap[b]? = some (.cells cc' e fr) ∧ cc'.size = cc.size)
  | [], off, w => ⟨rfl, fun _ _ => rfl, rfl, rfl, rfl, rfl, fun cc e fr h => ⟨cc, h, rfl⟩⟩
  | v :: vs, off, w => by
    obtain ⟨h1, h2, h3, h4, h5, h5', h6⟩ := setCells_heap (b := b) vs (off + 1) (w.setCell ⟨b, off, none⟩ v)
    simp only [World.setCells]
    refine ⟨by rw [h1]; simp, fun c hc => by rw [h2 c hc]; exact Below.heap_setCell _ _ _ _ hc, by rw [h3]; rfl, by rw [h4]; rfl, by rw [h5]; rfl, by rw [h5']; rfl, fun cc e fr hcc => ?_⟩
    obtain ⟨cc', hc', hs'⟩ := h6 (cc.setIfInBounds off v) e fr (by
      simp only [World.setCell, Array.getElem?_modify, if_true, hcc, Option.map_some]
      simp)
    exact ⟨cc', hc', by rw [hs']; simp⟩
theorem Conc.ext_write (_h : Conc N0 w0 nt σ φ a w) {n b k : Nat} (off : Nat) (vs : List Value) (hn : φ[n]? = some (.loc b k)) : Ext (fun _ => True) (envOf N0 φ w) (envOf N0 φ (w.setCells b off vs)) := by
  obtain ⟨h1, h2, h3, h4, h5, h5', h6⟩ := setCells_heap (b := b) vs off w
  exact {
    size := by show w.heap.size ≤ (w.setCells b off vs).heap.size; rw [h1]; exact Nat.le_refl _
    blk := fun c hc hnc => ⟨hnc, h2 c (fun e => hnc (.inr ⟨n, k, by rw [e]; exact hn⟩))⟩
    refs := fun m p _ hm _ => hm
    own := fun m c k' cc e fr _ hm hc => by
      by_cases hcb : c = b
      · subst hcb
        obtain ⟨cc', hc', hs'⟩ := h6 cc e fr hc
        exact ⟨cc', fr, hc', hs'⟩
      · exact ⟨cc, fr, by show (w.setCells b off vs).heap[c]? = _; rw [h2 c hcb]; exact hc, rfl⟩ }
theorem Conc.write (h : Conc N0 w0 nt σ φ a w) {n b k : Nat} {o : Obj} {off : Nat} {vs : List Value} (hn : φ[n]? = some (.loc b k))
    (ho : ObjRel (envOf N0 φ (w.setCells b off vs)) o (.loc b k)) : Conc N0 w0 nt (σ.setH n o) φ a (w.setCells b off vs) := by
  obtain ⟨h1, h2, h3, h4, h5, h5', h6⟩ := setCells_heap (b := b) vs off w
  have hext := h.ext_write off vs hn
  exact {
    slots := fun d => Rep.mono hext _ _ (h.slots d) (fun _ _ => trivial)
    size := h.size
    defers := h.defers
    len := by simp [St.setH, setO_eq, h.len]
    objs := fun m o' p hm hp => by
      simp only [St.setH] at hm
      rw [setO_eq, nthO_eq, List.getElem?_set] at hm
      split at hm
      · rename_i e
        subst e
        split at hm
        · simp at hm; subst hm
          rw [hn] at hp
          simp at hp
          subst hp
          exact ho
        · simp at hm
      · rename_i e
        refine ObjRel.mono hext (h.objs m o' p (by rw [nthO_eq]; exact hm) hp) (fun c k' hc cc ee fr hh => ?_) (fun _ _ _ _ => trivial)
        subst hc
        have hcb : c ≠ b := fun e' => e (h.inj n m b k k' hn (by rw [← e']; exact hp))
        show (w.setCells b off vs).heap[c]? = _
        rw [h2 c hcb]; exact hh
    own := fun m c k' hm => ⟨(h.own m c k' hm).1, by rw [h1]; exact (h.own m c k' hm).2⟩
    inj := h.inj
    n0 := h.n0
    fixd := h.fixd
    below := {
      os := h3.trans h.below.os
      tape := h4.trans h.below.tape
      output := h5.trans h.below.output
      drawn := fun hd => by rw [h5']; exact h.below.drawn hd
      size := by rw [h1]; exact h.below.size
      block := fun c hc hM => by
        rw [h2 c (fun e => by
          subst e
          rcases (h.own n c k hn).1 with h' | h'
          · omega
          · exact hM h')]
        exact h.below.block c hc hM
      shape := fun c cc e fr hcc => by
        obtain ⟨c', fr', g1, g2⟩ := h.below.shape c cc e fr hcc
        by_cases hcb : c = b
        · subst hcb
          obtain ⟨cc', hc', hs'⟩ := h6 c' e fr' g1
          exact ⟨cc', fr', hc', hs'.trans g2⟩
        · exact ⟨c', fr', by rw [h2 c hcb]; exact g1, g2⟩ } }
end
end Go.Abs
namespace Go.Abs
open Go.RowKit
section
variable {P : Program} {N0 : Nat → Prop} {w0 : Base} {nt : Nat} {σ : St} {φ : List Own} {a : Act} {w : World}
theorem heap_alloc_new (w : World) (o : Go.Obj) : (w.alloc o).heap[w.heap.size]? = some o := by
  show (w.heap.push o)[w.heap.size]? = some o
  simp
theorem rangeAt_alloc {w : World} {vs : List Value} {e : TypeId} {fr : Nat × Nat} {c : Array Value} (h : ∀ (j : Nat) (v : Value), vs[j]? = some v → c[j]? = some v) : (w.alloc (.cells c e fr)).rangeAt w.heap.size 0 vs := fun j v hv => by
  have := h j v hv
  simp only [World.cell?, heap_alloc_new, Nat.zero_add]
  simpa using this
theorem strideOf_of {k : Nat} {E : Env} : ∀ {es : List A} {vs : List Value}, RowRel E k es vs → es ≠ [] → strideOf es = k
  | [], _, _, h => absurd rfl h
  | e :: es, vs, h, _ => by simp only [RowRel] at h; exact h.1
theorem fillE_sound (h : Conc N0 w0 nt σ φ a w) {k : Nat} : ∀ (ps : List (Nat × Operand)) (es es' : List A) (vs : List Value), RowRel (envOf N0 φ w) k es vs → (∀ u ∈ vs, u.oneCell' = true) → A.pure.pureL es = true → fillE k σ ps es = some es' →
      ∃ vs', Instr.fill (fun i => some (i * k, k)) vs.toArray (ps.map fun p => (p.1, a.eval p.2)) = some vs'.toArray ∧ RowRel (envOf N0 φ w) k es' vs' ∧ (∀ u ∈ vs', u.oneCell' = true) ∧ A.pure.pureL es' = true
  | [], es, es', vs, hr, h1, hp, hf => by
    simp [fillE] at hf
    subst hf
    exact ⟨vs, rfl, hr, h1, hp⟩
  | (i, x) :: ps, es, es', vs, hr, h1, hp, hf => by
    simp only [fillE] at hf
    split at hf
    · rename_i hc
      obtain ⟨c1, c2, c3, c4⟩ := hc
      have hx := h.ev x
      obtain ⟨r1, r2, r3⟩ := Rep_cells hx c3
      have hv : (a.eval x).cells.size = k := by rw [r3, c1]
      have hn : (σ.ev x).norm.cells.length = k := by rw [norm_cells, List.length_map, c1]
      have hL : RepL (envOf N0 φ w) (σ.ev x).norm.cells (a.eval x).cells.toList := by rw [norm_cells]; exact repL_norm0 r1
      have hlen := hr.length
      have hle : i * k + k ≤ vs.length := by
        rw [hlen]
        calc i * k + k = (i + 1) * k := by rw [Nat.add_mul, Nat.one_mul]
          _ ≤ es.length * k := Nat.mul_le_mul_right k c2
      have hset := RowRel.set hn hL c2 hr
      rw [setNth_eq] at hf
      obtain ⟨vs', hfill, hr', h1', hp'⟩ := fillE_sound h ps _ es' _ hset (fun u hu => by
        simp only [List.mem_append] at hu
        rcases hu with (hu | hu) | hu
        · exact h1 u (List.mem_of_mem_take hu)
        · exact r2 u hu
        · exact h1 u (List.mem_of_mem_drop hu)) (pureL_of fun j e he => by
          rw [List.getElem?_set] at he
          split at he
          · first
              | (simp at he; subst he; exact pure_norm c4)
              | (split at he
                 · simp at he; subst he; exact pure_norm c4
                 · simp at he)
          · exact pureL_getElem hp he) hf
      refine ⟨vs', ?_, hr', h1', hp'⟩
      rw [List.map_cons, fill_one rfl hv hle]
      exact hfill
    · simp at hf
theorem good_buildSlice (h : Conc N0 w0 nt σ φ a w) {d : Option Tmp} {s len : Nat} {ps : Array (Nat × Operand)} {t : TypeId} {p : String} {af : Array Edge} {g : Option (Nat × Bool)} {r : A}
    (hr : buildSliceA P s len σ ps.toList = some r) : Good P ⟨d, .buildSlice s len ps, t, p, af, g⟩ a w N0 φ r := by
  unfold buildSliceA at hr
  split at hr
  · rename_i e he
    split at hr
    · rename_i k z hk hz
      split at hr
      · rename_i hc
        obtain ⟨hsz, hk0, hpz, hvz, hcz⟩ := hc
        cases hf : fillE k σ ps.toList (List.replicate len z.norm) with
        | none => simp [hf] at hr
        | some es =>
          simp [hf] at hr
          subst hr
          obtain ⟨zv, hzr, hzrep⟩ := zeroA_eq (w := w) hz
          obtain ⟨r1, r2, r3⟩ := Rep_cells (hzrep (envOf N0 φ w)) hvz
          have hzk : zv.cells.size = k := by rw [r3, hcz]
          have hr0 : RowRel (envOf N0 φ w) k (List.replicate len z.norm) (List.replicate len zv.cells.toList).flatten :=
            RowRel.replicate (by rw [norm_cells, List.length_map, hcz]) (by rw [norm_cells]; exact repL_norm0 r1) len
          obtain ⟨vs, hfill, hrow, hone, hpure⟩ := fillE_sound h ps.toList _ es _ hr0 (fun u hu => by
            obtain ⟨l, hl, hul⟩ := List.mem_flatten.1 hu
            rw [List.eq_of_mem_replicate hl] at hul
            exact r2 u hul) (pureL_of fun i x hx => by
              have := List.eq_of_mem_replicate (List.mem_of_getElem? hx)
              subst this
              exact pure_norm hpz) hf
          have hlen : es.length = len := by
            have : ∀ (ps : List (Nat × Operand)) (es es' : List A), fillE k σ ps es = some es' → es'.length = es.length := by
              intro ps
              induction ps with
              | nil => intro es es' h; simp [fillE] at h; rw [h]
              | cons q qs ih =>
                intro es es' h
                obtain ⟨i, x⟩ := q
                simp only [fillE] at h
                split at h
                · have := ih _ _ h; rw [this, setNth_eq, List.length_set]
                · simp at h
            have := this _ _ _ hf
            simpa using this
          let w' := w.alloc (.cells vs.toArray e)
          have hg : Grew w w' := Grew.alloc w _
          refine ⟨.slice (some ⟨w.heap.size, 0, none⟩) len len, w', ?_, hg, ?_⟩
          · have hnt : ¬ (len * k > 2 ^ 24) := by omega
            refine run_v (P := P) ?_
            simp only [Instr.buildSlice, Sem.run_bind, run_underlying (tyElem_eq he), Result.andThen_ok, run_sizeOf hk, if_neg hnt]
            have hmap : (Array.map (fun x => (x.fst, a.eval x.snd)) ps).toList = ps.toList.map fun p => (p.1, a.eval p.2) := by simp
            rw [hmap]
            have last : ∀ cells : Array Value, cells = (List.replicate len zv.cells.toList).flatten.toArray →
                (match Instr.fill (fun i => some (i * k, k)) cells (ps.toList.map fun p => (p.1, a.eval p.2)) with
                  | some cells => (do
                    let __do_lift ← newRow e cells
                    pure (Value.slice (some __do_lift) len len))
                  | _ => stuck "buildSlice: a part of the wrong size" : Sem Value).run P w = .ok (.slice (some ⟨w.heap.size, 0, none⟩) len len) w' := by
              rintro cells rfl
              rw [hfill]
              simp only [newRow, Sem.run_bind, run_newObj, Sem.run_pure, Result.andThen_ok]
              rfl
            split
            · rename_i h0
              simp only [Sem.run_bind, Sem.run_pure, Result.andThen_ok]
              refine last _ ?_
              rw [h0]
              rcases Nat.mul_eq_zero.1 h0 with h0 | h0
              · subst h0; simp
              · exact absurd h0 hk0
            · simp only [Sem.run_bind, hzr, Sem.run_pure, Result.andThen_ok]
              refine last _ ?_
              apply Array.ext'
              simp only [Array.toList_map, Array.toList_range]
              have := zeros_eq (z := zv.cells) len
              rw [hzk] at this
              rw [hzk]
              exact this
          · simp only [Rep]
            refine ⟨hpure, some ⟨w.heap.size, 0, none⟩, by rw [hlen], fun hne => ⟨w.heap.size, 0, rfl, by simp [w', envOf], ?_, ?_⟩⟩
            · rintro (h0 | ⟨n, kk, hn⟩)
              · have := (h.n0 _ h0).1
                have := h.below.size
                omega
              · have := (h.own n _ kk hn).2
                omega
            · have hrow' : RowRel (envOf N0 φ w') k es vs := RowRel.mono (fun x v hx hr => h.rep_grew hg hr) hpure hrow
              rw [strideOf_of hrow' hne]
              exact RowRel.mem hrow' (rangeAt_alloc (fun j v hv => by simpa using hv)) hone
      · simp at hr
    · simp at hr
  · simp at hr
theorem evalR_sound (h : Conc N0 w0 nt σ φ a w) {d : Option Tmp} {op : Op} {t : TypeId} {p : String} {af : Array Edge} {g : Option (Nat × Bool)} {r : A}
    (hr : evalR P σ op = some r) : Good P ⟨d, op, t, p, af, g⟩ a w N0 φ r := by
  unfold evalR at hr
  split at hr
  · obtain rfl := Option.some.inj hr; exact good_move h
  · obtain rfl := Option.some.inj hr; exact good_assign h
  · exact good_pick h hr
  · exact good_build h hr
  · exact good_buildSlice h hr
  · exact good_load h hr
  · exact good_nilCheck h hr
  · exact good_binOp h hr
  · exact good_unOp h hr
  · exact good_convert h hr
  · exact good_makeFunc h hr
  · split at hr
    · rename_i hc
      exact good_slice h hc.1 hc.2.1 hc.2.2 hr
    · simp at hr
  · exact good_fieldAddr h hr
  · exact good_field h hr
  · exact good_indexAddr h hr
  · exact good_index h hr
  · exact good_extract h hr
  · exact good_len h hr
  · exact good_min h hr
  · exact good_max h hr
  · simp at hr
def GoodW (P : Program) (o : Oper) (a : Act) (w : World) (N0 : Nat → Prop) (w0 : Base) (nt : Nat) (φ : List Own) (n : Nat) (σ' : St) : Prop :=
  ∃ v w' φ', ((Go.execOp a.eval o).run P w = .ok (.value v) w' ∨ ((Go.execOp a.eval o).run P w = .ok .skip w' ∧ v = undef)) ∧ Conc N0 w0 nt σ' φ' (a.put o.dst v) w' ∧ ∀ m, m ≠ n → φ[m]? = some .free → φ'[m]? = some .free
theorem goodW_of_good (h : Conc N0 w0 nt σ φ a w) {o : Oper} (hd : ∀ t, o.dst = some t → t < nt) {x : A} (hg : Good P o a w N0 φ x) {n : Nat} : GoodW P o a w N0 w0 nt φ n (σ.put o.dst x) := by
  obtain ⟨v, w', hr, hgr, hrep⟩ := hg
  exact ⟨v, w', φ, .inl hr, (h.grew hgr).put hd hrep, fun _ _ h => h⟩
theorem unfrozen_plain {k : Nat} (c : Array Value) : Unfrozen k c (0, 0) := ⟨fun j _ h => by simp at h, fun _ h => by simp at h⟩
theorem goodW_box (h : Conc N0 w0 nt σ φ a w) {o : Oper} (hd : ∀ t, o.dst = some t → t < nt) {n : Nat} (hfree : φ[n]? = some .free) {x : A} {v : Value} {e : TypeId} {σ' : St} (hx : Rep (envOf N0 φ w) x v)
    (hrun : (Go.execOp a.eval o).run P w = .ok (.value (.pointer (some ⟨w.heap.size, 0, none⟩))) (w.alloc (.cells v.cells e)))
    (hr : boxA σ n o.dst x = some σ') : GoodW P o a w N0 w0 nt φ n σ' := by
  unfold boxA at hr
  split at hr
  · rename_i hv
    obtain rfl := Option.some.inj hr
    obtain ⟨r1, r2, r3⟩ := Rep_cells hx hv
    have hn : n < φ.length := (List.getElem?_eq_some_iff.1 hfree).1
    have hnew := h.newObj (k := 0) (o := .box x.cells) (w' := w.alloc (.cells v.cells e)) hfree (Grew.alloc w _) (Nat.le_refl w.heap.size) (by simp) (by
      simp only [ObjRel]
      refine ⟨⟨v.cells, e, (0, 0), heap_alloc_new w _, unfrozen_plain _⟩, RepM_of_vals (vs := v.cells.toList) (rangeAt_alloc fun j u hu => by simpa using hu) ?_ r2⟩
      obtain ⟨g1, g2⟩ := RepL_iff.1 r1
      refine RepL_iff.2 ⟨g1, fun i y u hy hu => ?_⟩
      have hext := h.ext_new (k := 0) hfree (Grew.alloc w (.cells v.cells e)) (Nat.le_refl _)
      exact Rep.mono hext y u (g2 i y u hy hu) (fun _ _ => trivial))
    refine ⟨_, _, _, .inl hrun, hnew.put hd ?_, fun m hm hf => by rw [List.getElem?_set_ne (Ne.symm hm)]; exact hf⟩
    simp only [Rep]
    exact ⟨w.heap.size, 0, by show (φ.set n _)[n]? = _; simp [hn], rfl⟩
  · simp at hr
end
end Go.Abs
namespace Go.Abs
open Go.RowKit
section
variable {P : Program} {N0 : Nat → Prop} {w0 : Base} {nt : Nat} {σ : St} {φ : List Own} {a : Act} {w : World}
theorem goodW_boxOp (h : Conc N0 w0 nt σ φ a w) {d : Option Tmp} {e : TypeId} {x : Operand} {t : TypeId} {p : String} {af : Array Edge} {g : Option (Nat × Bool)} (hd : ∀ t, d = some t → t < nt) {n : Nat} (hfree : φ[n]? = some .free) {σ' : St}
    (hr : boxA σ n d (σ.ev x) = some σ') : GoodW P ⟨d, .box e x, t, p, af, g⟩ a w N0 w0 nt φ n σ' :=
  goodW_box (o := ⟨d, .box e x, t, p, af, g⟩) h hd hfree (h.ev x) (run_v (by simp [Instr.box, newVar, newRow]; rfl)) hr
theorem goodW_alloc (h : Conc N0 w0 nt σ φ a w) {d : Option Tmp} {e : TypeId} {t : TypeId} {p : String} {af : Array Edge} {g : Option (Nat × Bool)} (hd : ∀ t, d = some t → t < nt) {n : Nat} (hfree : φ[n]? = some .free) {σ' : St}
    (hr : allocA σ n d (zeroA P e) = some σ') : GoodW P ⟨d, .alloc e, t, p, af, g⟩ a w N0 w0 nt φ n σ' := by
  cases hz : zeroA P e with
  | none => simp [hz, allocA] at hr
  | some z =>
    rw [hz] at hr
    simp only [allocA] at hr
    obtain ⟨zv, hzr, hzrep⟩ := zeroA_eq (w := w) hz
    refine goodW_box (o := ⟨d, .alloc e, t, p, af, g⟩) (e := e) h hd hfree (hzrep _) (run_v ?_) hr
    simp only [Instr.alloc, Sem.run_bind, hzr, Result.andThen_ok, newVar, newRow, run_newObj, Sem.run_pure]
    rfl
theorem run_storeAt {t : TypeId} {v : Value} {b off : Nat} (hsz : tySize P t = some v.cells.size) (ht : w.there b off v.cells.size) (h1 : ∀ u ∈ v.cells.toList, u.oneCell' = true) :
    (Instr.storeAt t (.pointer (some ⟨b, off, none⟩)) v).run P w = .ok () (w.setCells b off v.cells.toList) := by
  have := run_storeCells_cells (P := P) b off v.cells.toList 0 w (fun j hj => by simpa using (ht j (by simpa using hj)).1) (fun j hj => by simpa using (ht j (by simpa using hj)).2) h1
  simp only [Nat.add_zero] at this
  simp [Instr.storeAt, Instr.sureAddr, storeVar, run_sizeOf hsz, this]
theorem there_of {k b off n : Nat} {c : Array Value} {e : TypeId} {fr : Nat × Nat} (hb : w.heap[b]? = some (.cells c e fr)) (hf : Unfrozen k c fr) (hl : off + n ≤ c.size) : w.there b off n := fun j hj => by
  have hlt : off + j < c.size := by omega
  refine ⟨by simp [World.cell?, hb, hlt], ?_⟩
  simp only [World.frozen?, hb]
  have := hf.1 (off + j) hlt
  simpa using this
theorem setCells_cell {b off : Nat} {vs : List Value} (ht : w.there b off vs.length) (o : Nat) : (w.setCells b off vs).cell? ⟨b, o, none⟩ = if off ≤ o ∧ o < off + vs.length then vs[o - off]? else w.cell? ⟨b, o, none⟩ := by
  split
  · rename_i hc
    have := World.cell?_setCells_in b vs off w (fun j hj => (ht j hj).1) (o - off) (by omega)
    rw [show off + (o - off) = o by omega] at this
    rw [this, List.getElem?_eq_getElem (by omega)]
  · rename_i hc
    exact World.cell?_setCells_out b vs off w ⟨b, o, none⟩ (fun _ _ => by
      show o < off ∨ off + vs.length ≤ o
      omega)
theorem repM_splice {E E' : Env} (hext : ∀ x v, Rep E x v → Rep E' x v) {b off : Nat} {vs : List Value} {cs ys : List A} {base : Nat} (hw : E'.w = E.w.setCells b (base + off) vs) (ht : E.w.there b (base + off) vs.length) (hm : RepM E b base cs) (hL : RepL E ys vs) (hone : ∀ u ∈ vs, u.oneCell' = true)
    (hle : off + ys.length ≤ cs.length) : RepM E' b base (spliceA cs off ys) := by
  obtain ⟨g1, g2⟩ := RepL_iff.1 hL
  refine RepM_iff.2 fun i x hx => ?_
  rw [hw, setCells_cell ht]
  unfold spliceA at hx
  by_cases h1 : i < off
  · rw [List.append_assoc, List.getElem?_append_left (by simp; omega), List.getElem?_take, if_pos h1] at hx
    rw [if_neg (by omega)]
    obtain ⟨v, hv, h2, hr⟩ := RepM_iff.1 hm i x hx
    exact ⟨v, hv, h2, hext x v hr⟩
  · by_cases h2 : i < off + ys.length
    · rw [List.append_assoc, List.getElem?_append_right (by simp; omega), List.getElem?_append_left (by simp; omega)] at hx
      have hlen : (cs.take off).length = off := by simp; omega
      rw [hlen] at hx
      rw [if_pos (by omega)]
      have hlt : i - off < vs.length := by omega
      refine ⟨vs[i - off], ?_, hone _ (List.getElem_mem _), hext _ _ (g2 (i - off) x _ hx (List.getElem?_eq_getElem hlt))⟩
      rw [show base + i - (base + off) = i - off by omega, List.getElem?_eq_getElem hlt]
    · rw [List.getElem?_append_right (by simp; omega), List.getElem?_drop] at hx
      have hlen : (cs.take off ++ ys).length = off + ys.length := by simp; omega
      rw [hlen, show off + ys.length + (i - (off + ys.length)) = i by omega] at hx
      rw [if_neg (by omega)]
      obtain ⟨v, hv, h3, hr⟩ := RepM_iff.1 hm i x hx
      exact ⟨v, hv, h3, hext x v hr⟩
theorem repM_size' {E : Env} {b base : Nat} {c : Array Value} {e : TypeId} {fr : Nat × Nat} {cs : List A} (hb : E.w.heap[b]? = some (.cells c e fr)) (hm : RepM E b base cs) : base + cs.length ≤ c.size ∨ cs = [] := by
  cases hcs : cs with
  | nil => exact .inr rfl
  | cons y ys =>
    left
    have hlt : cs.length - 1 < cs.length := by rw [hcs]; simp
    obtain ⟨v, hv, _⟩ := RepM_iff.1 hm (cs.length - 1) _ (List.getElem?_eq_getElem hlt)
    simp only [World.cell?, hb] at hv
    have : base + (cs.length - 1) < c.size := by
      rcases Nat.lt_or_ge (base + (cs.length - 1)) c.size with h | h
      · exact h
      · simp [Array.getElem?_eq_none h] at hv
    rw [← hcs]
    omega
theorem goodW_store (h : Conc N0 w0 nt σ φ a w) {d : Option Tmp} {s : TypeId} {x y : Operand} {t : TypeId} {p : String} {af : Array Edge} {g : Option (Nat × Bool)} (hd : ∀ t, d = some t → t < nt) {n : Nat} {σ' : St}
    (hr : storeA σ d (tySize P s) (σ.ev x) (σ.ev y) = some σ') : GoodW P ⟨d, .store s x y, t, p, af, g⟩ a w N0 w0 nt φ n σ' := by
  have hx := h.ev x
  have hy := h.ev y
  cases hc : σ.ev x <;> simp only [hc, storeA] at hr <;> try (simp at hr; done)
  · rename_i n off
    rw [hc] at hx
    simp only [Rep] at hx
    obtain ⟨b, k, hφ, hv⟩ := hx
    split at hr
    · rename_i cs ho
      split at hr
      · rename_i hcond
        obtain ⟨c1, c2, c3⟩ := hcond
        obtain rfl := Option.some.inj hr
        obtain ⟨r1, r2, r3⟩ := Rep_cells hy c3
        have hob := h.objs n _ _ ho hφ
        simp only [ObjRel] at hob
        obtain ⟨⟨c, e, fr, hb, hf⟩, hm⟩ := hob
        have hsz : cs.length ≤ c.size := by
          rcases repM_size' hb hm with h | h
          · omega
          · subst h; simp
        have ht : w.there b off (a.eval y).cells.size := there_of hb hf (by omega)
        have ht' : w.there b (0 + off) (a.eval y).cells.toList.length := by simpa using ht
        obtain ⟨cc', hcc', hss'⟩ := (setCells_heap (b := b) (a.eval y).cells.toList off w).2.2.2.2.2.2 c e fr hb
        have hext := h.ext_write off (a.eval y).cells.toList hφ
        have hw := h.write (o := .box (spliceA cs off (σ.ev y).cells)) (off := off) (vs := (a.eval y).cells.toList) hφ (by
          simp only [ObjRel]
          exact ⟨⟨cc', e, fr, hcc', fun j hj => hf.1 j (by omega), fun hk hh => hf.2 hk (by omega)⟩, repM_splice (fun x v hr => Rep.mono hext x v hr (fun _ _ => trivial)) (by simp [envOf]) ht' hm r1 r2 c2⟩)
        refine ⟨undef, _, φ, .inr ⟨?_, rfl⟩, hw.put hd (rep_undef _), fun _ _ h => h⟩
        refine run_u (s := Instr.storeAt s (a.eval x) (a.eval y)) ?_
        rw [hv]
        exact run_storeAt (by rw [r3]; exact c1) ht r2
      · simp at hr
    · simp at hr
  · rename_i n i off
    rw [hc] at hx
    simp only [Rep] at hx
    obtain ⟨b, k, hφ, hv⟩ := hx
    split at hr
    · rename_i k' es ho
      cases hi : es[i]? with
      | none => simp [hi] at hr
      | some e =>
        simp only [hi, Option.bind_some] at hr
        split at hr
        · rename_i hcond
          obtain ⟨c1, c2, c0, c3, c4⟩ := hcond
          obtain rfl := Option.some.inj hr
          obtain ⟨r1, r2, r3⟩ := Rep_cells hy c3
          have hob := h.objs n _ _ ho hφ
          simp only [ObjRel] at hob
          obtain ⟨rfl, hp, ⟨c, ee, fr, hb, hf⟩, hE⟩ := hob
          obtain ⟨hlen, hm⟩ := RepE_iff.1 hE i e hi
          rw [Nat.zero_add] at hm
          have hsz : i * k' + e.cells.length ≤ c.size := by
            rcases repM_size' hb hm with h | h
            · exact h
            · exfalso
              have h' : (σ.ev y).cells.length ≤ e.cells.length := by omega
              rw [h] at h'
              exact c0 (by simpa using h')
          have hb' : w.heap[b]? = some (.cells c ee fr) := hb
          have ht : w.there b (i * k' + off) (a.eval y).cells.size := there_of hb' hf (by omega)
          have ht' : w.there b (i * k' + off) (a.eval y).cells.toList.length := by simpa using ht
          obtain ⟨cc', hcc', hss'⟩ := (setCells_heap (b := b) (a.eval y).cells.toList (i * k' + off) w).2.2.2.2.2.2 c ee fr hb
          have hext := h.ext_write (i * k' + off) (a.eval y).cells.toList hφ
          have r1' : RepL (envOf N0 φ w) (σ.ev y).norm.cells (a.eval y).cells.toList := by rw [norm_cells]; exact repL_norm0 r1
          have hnl : (σ.ev y).norm.cells.length = (σ.ev y).cells.length := by rw [norm_cells, List.length_map]
          have hpe := pureL_getElem hp hi
          have hse : (storeE e off (σ.ev y)).cells = spliceA e.cells off (σ.ev y).norm.cells ∧ (storeE e off (σ.ev y)).pure = true := by
            cases e
            case agg cs =>
              simp only [storeE, A.cells, true_and, A.pure]
              refine pureL_of fun j z hz => ?_
              unfold spliceA at hz
              have hmem := List.mem_of_getElem? hz
              simp only [List.mem_append] at hmem
              have hpcs : A.pure.pureL cs = true := by simpa only [A.pure] using hpe
              have hpy := pure_cells (pure_norm c4)
              rcases hmem with (hm' | hm') | hm'
              · obtain ⟨q, hq⟩ := List.getElem?_of_mem (List.mem_of_mem_take hm'); exact pureL_getElem hpcs hq
              · obtain ⟨q, hq⟩ := List.getElem?_of_mem hm'; exact pureL_getElem hpy hq
              · obtain ⟨q, hq⟩ := List.getElem?_of_mem (List.mem_of_mem_drop hm'); exact pureL_getElem hpcs hq
            all_goals
              refine ⟨?_, pure_norm c4⟩
              have c2' : off + (σ.ev y).cells.length ≤ 1 := c2
              have e0 : off = 0 := by omega
              have e1 : (σ.ev y).norm.cells.length = 1 := by omega
              subst e0
              show (σ.ev y).norm.cells = List.take 0 _ ++ (σ.ev y).norm.cells ++ List.drop (0 + (σ.ev y).norm.cells.length) [_]
              rw [List.drop_of_length_le (by simp; omega)]
              simp
          have hw := h.write (o := .row k' (setNth es i (storeE e off (σ.ev y)))) (off := i * k' + off) (vs := (a.eval y).cells.toList) hφ (by
            simp only [ObjRel]
            refine ⟨trivial, ?_, ⟨cc', ee, fr, hcc', fun j hj => hf.1 j (by omega), fun hk hh => hf.2 hk (by omega)⟩, ?_⟩
            · rw [setNth_eq]
              refine pureL_of fun j z hz => ?_
              rw [List.getElem?_set] at hz
              split at hz
              · first
                  | (simp at hz; subst hz; exact hse.2)
                  | (split at hz
                     · simp at hz; subst hz; exact hse.2
                     · simp at hz)
              · exact pureL_getElem hp hz
            · rw [setNth_eq]
              refine RepE_iff.2 fun j z hz => ?_
              rw [List.getElem?_set] at hz
              by_cases hji : i = j
              · subst hji
                have hz' : z = storeE e off (σ.ev y) := by
                  have hlt := (List.getElem?_eq_some_iff.1 hi).1
                  simp [hlt] at hz
                  exact hz.symm
                subst hz'
                rw [hse.1, Nat.zero_add]
                refine ⟨by unfold spliceA; simp; omega, ?_⟩
                exact repM_splice (fun x v hr => Rep.mono hext x v hr (fun _ _ => trivial)) rfl ht' hm r1' r2 (by omega)
              · rw [if_neg hji] at hz
                obtain ⟨hl, hmm⟩ := RepE_iff.1 hE j z hz
                refine ⟨hl, RepM_iff.2 fun q u hu => ?_⟩
                obtain ⟨v, hv', h1, hrr⟩ := RepM_iff.1 hmm q u hu
                refine ⟨v, ?_, h1, Rep.mono hext u v hrr (fun _ _ => trivial)⟩
                show (w.setCells b (i * k' + off) (a.eval y).cells.toList).cell? _ = _
                have hq : q < k' := by rw [← hl]; exact (List.getElem?_eq_some_iff.1 hu).1
                have hlen' : (a.eval y).cells.toList.length = (σ.ev y).cells.length := by simpa using r3
                rw [setCells_cell ht', if_neg]
                · exact hv'
                · rintro ⟨q1, q2⟩
                  rw [hlen'] at q2
                  rcases Nat.lt_or_gt_of_ne hji with hlt | hgt
                  · have : (i + 1) * k' ≤ j * k' := Nat.mul_le_mul_right k' hlt
                    rw [Nat.add_mul, Nat.one_mul] at this
                    omega
                  · have : (j + 1) * k' ≤ i * k' := Nat.mul_le_mul_right k' hgt
                    rw [Nat.add_mul, Nat.one_mul] at this
                    omega)
          refine ⟨undef, _, φ, .inr ⟨?_, rfl⟩, hw.put hd (rep_undef _), fun _ _ h => h⟩
          refine run_u (s := Instr.storeAt s (a.eval x) (a.eval y)) ?_
          rw [hv]
          exact run_storeAt (by rw [r3]; exact c1) ht r2
        · simp at hr
    · simp at hr
end
end Go.Abs
namespace Go.Abs
open Go.RowKit
section
variable {P : Program} {N0 : Nat → Prop} {w0 : Base} {nt : Nat} {σ : St} {φ : List Own} {a : Act} {w : World}
theorem look_map (n : Nat) : ∀ (s : List (Nat × A)) (d : Nat), look (s.map fun p => (p.1, scrubA n p.2)) d = scrubA n (look s d)
  | [], d => by simp [look, scrubA, A.mem]
  | (i, v) :: s, d => by
    simp only [List.map_cons, look]
    split
    · rfl
    · exact look_map n s d
theorem scrubA_mem (n : Nat) (x : A) : (scrubA n x).mem n = false := by
  unfold scrubA
  split
  · rfl
  · rename_i h; simpa using h
theorem rep_scrub {E : Env} {n : Nat} {x : A} {v : Value} (h : Rep E x v) : Rep E (scrubA n x) v := by
  unfold scrubA
  split
  · simp only [Rep]
  · exact h
theorem memL_scrub (n : Nat) : ∀ cs : List A, A.mem.memL n (cs.map (scrubA n)) = false
  | [] => rfl
  | c :: cs => by simp [A.mem.memL, scrubA_mem, memL_scrub n cs]
theorem nthO_map (f : Obj → Obj) (H : List Obj) (n : Nat) : nthO (H.map f) n = (nthO H n).map f := by
  simp [nthO_eq, List.getElem?_map]
def Clear (σ : St) (n : Nat) : Prop := (∀ d, (look σ.s d).mem n = false) ∧ ∀ (m : Nat) (cs : List A), nthO σ.H m = some (.box cs) → A.mem.memL n cs = false
theorem Conc.scrub (h : Conc N0 w0 nt σ φ a w) (n : Nat) : Conc N0 w0 nt (σ.scrub n) φ a w := by
  exact { h with
    slots := fun d => by
      show Rep _ (look (σ.s.map fun p => (p.1, scrubA n p.2)) d) _
      rw [look_map]
      exact rep_scrub (h.slots d)
    len := by simp [St.scrub, h.len]
    objs := fun m o p ho hp => by
      simp only [St.scrub] at ho
      rw [nthO_map] at ho
      cases hm : nthO σ.H m with
      | none => simp [hm] at ho
      | some o' =>
        simp [hm] at ho
        subst ho
        have hob := h.objs m o' p hm hp
        cases o' with
        | row k es => exact hob
        | box cs =>
          cases p with
          | loc b k =>
            simp only [scrubO, ObjRel] at hob ⊢
            refine ⟨hob.1, RepM_iff.2 fun i x hx => ?_⟩
            rw [List.getElem?_map] at hx
            cases hc : cs[i]? with
            | none => simp [hc] at hx
            | some c =>
              simp [hc] at hx
              subst hx
              obtain ⟨v, hv, h1, hr⟩ := RepM_iff.1 hob.2 i c hc
              exact ⟨v, hv, h1, rep_scrub hr⟩
          | nil => simp [ObjRel] at hob
          | free => simp [ObjRel] at hob
    size := h.size
    defers := h.defers }
theorem clear_scrub (σ : St) (n : Nat) : Clear (σ.scrub n) n := by
  refine ⟨fun d => ?_, fun m cs hm => ?_⟩
  · show (look (σ.s.map fun p => (p.1, scrubA n p.2)) d).mem n = false
    rw [look_map]; exact scrubA_mem n _
  · simp only [St.scrub] at hm
    rw [nthO_map] at hm
    cases ho : nthO σ.H m with
    | none => simp [ho] at hm
    | some o =>
      simp [ho] at hm
      cases o with
      | row k es => simp [scrubO] at hm
      | box ds => simp [scrubO] at hm; subst hm; exact memL_scrub n ds
theorem Conc.rehome (h : Conc N0 w0 nt σ φ a w) {n : Nat} (hfx : w0.fix n = false) (hcl : Clear σ n) (hn : n < φ.length) {p : Own} {o : Obj} {w' : World} (g : Grew w w')
    (hp : ∀ b k, p = Own.loc b k → w.heap.size ≤ b ∧ b < w'.heap.size)
    (ho : ∀ hext : Ext (fun m => m ≠ n) (envOf N0 φ w) (envOf N0 (φ.set n p) w'), ObjRel (envOf N0 (φ.set n p) w') o p) : Conc N0 w0 nt (σ.setH n o) (φ.set n p) a w' ∧ Ext (fun m => m ≠ n) (envOf N0 φ w) (envOf N0 (φ.set n p) w') := by
  have hset := set_get (φ := φ) (n := n) (p := p) hn
  have hext : Ext (fun m => m ≠ n) (envOf N0 φ w) (envOf N0 (φ.set n p) w') := {
    size := g.size
    blk := fun c hc hnc => ⟨by
      rintro (h0 | ⟨m, k', hm⟩)
      · exact hnc (.inl h0)
      · rw [hset] at hm
        split at hm
        · simp at hm
          have := (hp c k' hm).1
          have : c < w.heap.size := hc
          omega
        · exact hnc (.inr ⟨m, k', hm⟩), g.block c hc⟩
    refs := fun m q hmn hm _ => by
      show (φ.set n p)[m]? = some q
      rw [hset, if_neg (fun e => hmn e.symm)]; exact hm
    own := fun m c k' cc e fr _ hm hc => ⟨cc, fr, by
      show w'.heap[c]? = _
      rw [g.block c (h.own m c k' hm).2]; exact hc, rfl⟩ }
  refine ⟨{
    slots := fun d => Rep.mono hext _ _ (h.slots d) (fun m hm e => by
      subst e
      have hm' : A.mem m (look σ.s d) = true := hm
      rw [hcl.1 d] at hm'
      cases hm')
    size := h.size
    defers := h.defers
    len := by simp [St.setH, setO_eq, h.len]
    objs := fun m o' q hm hq => by
      rw [hset] at hq
      simp only [St.setH] at hm
      rw [setO_eq, nthO_eq, List.getElem?_set] at hm
      split at hq
      · rename_i e
        subst e
        simp at hq
        subst hq
        rw [if_pos rfl] at hm
        split at hm
        · simp at hm; subst hm; exact ho hext
        · simp at hm
      · rename_i e
        rw [if_neg e] at hm
        have hm' : nthO σ.H m = some o' := by rw [nthO_eq]; exact hm
        exact ObjRel.mono hext (h.objs m o' q hm' hq) (fun c k' hc cc ee fr hh => by
          subst hc
          show w'.heap[c]? = _
          rw [g.block c (h.own m c k' hq).2]; exact hh) (fun cs hcs m' hm'' e' => by
            subst hcs; subst e'
            rw [hcl.2 m cs hm'] at hm''
            cases hm'')
    own := fun m c k' hm => by
      rw [hset] at hm
      split at hm
      · simp at hm
        have := hp c k' hm
        exact ⟨.inl (Nat.le_trans h.below.size this.1), this.2⟩
      · exact ⟨(h.own m c k' hm).1, Nat.lt_of_lt_of_le (h.own m c k' hm).2 g.size⟩
    inj := fun m m' c k' k'' hm hm' => by
      rw [hset] at hm hm'
      split at hm <;> split at hm'
      · rename_i e1 e2; rw [← e1, ← e2]
      · simp at hm
        have := (hp c k' hm).1
        have := (h.own m' c k'' hm').2
        omega
      · simp at hm'
        have := (hp c k'' hm').1
        have := (h.own m c k' hm).2
        omega
      · exact h.inj m m' c k' k'' hm hm'
    n0 := h.n0
    fixd := fun m q hf hm hq => by
      rw [hset, if_neg (fun e => by subst e; rw [hfx] at hf; cases hf)]
      exact h.fixd m q hf hm hq
    below := g.below h.below }, hext⟩
end
end Go.Abs
namespace Go.Abs
open Go.RowKit
section
variable {P : Program} {N0 : Nat → Prop} {w0 : Base} {nt : Nat} {σ : St} {φ : List Own} {a : Act} {w : World}
theorem src_slice {E : Env} {tx e' : TypeId} (hk : P.underlying tx = some (.slice e')) {es : List A} {k : Nat} {q : Option Addr} {cap : Nat}
    (hr : es ≠ [] → ∃ b off, q = some ⟨b, off, none⟩ ∧ RepE E k b off es) : ∃ news, Src P k tx (.slice q es.length cap) es.length news E.w ∧ RowRel E k es news := by
  cases hes : es with
  | nil =>
    refine ⟨[], ?_, by simp [RowRel]⟩
    cases q with
    | none => exact Src.ofNil E.w hk cap
    | some q => exact Src.ofSlice E.w hk q 0 cap [] (by simp) (by simp) (by simp)
  | cons y ys =>
    rw [← hes]
    obtain ⟨b, off, rfl, hE⟩ := hr (by rw [hes]; simp)
    obtain ⟨vs, h1, h2, h3⟩ := RowRel.of_mem hE
    refine ⟨vs, Src.ofSlice E.w hk ⟨b, off, none⟩ es.length cap vs h1.length (fun j u hu => ?_) h3, h1⟩
    rw [Addr.add_lit]
    exact h2 j u hu
theorem bytes_row (E : Env) : ∀ s : List UInt8, RowRel E 1 (bytesA s) (s.map fun b => Value.int .u8 b.toNat)
  | [] => by simp [bytesA, RowRel]
  | c :: s => by
    simp only [bytesA, List.map_cons, RowRel]
    refine ⟨rfl, by simp, ?_, ?_⟩
    · simp [encU8, A.cells, RepL, Rep]
    · simpa [bytesA] using bytes_row E s
theorem bytes_pure : ∀ s : List UInt8, A.pure.pureL (bytesA s) = true
  | [] => rfl
  | c :: s => by simp only [bytesA, List.map_cons, A.pure.pureL, encU8, A.pure, Bool.true_and]; exact bytes_pure s
theorem src_sound (h : Conc N0 w0 nt σ φ a w) {e tx k : Nat} {x : Operand} {src : List A} (hs : srcE P σ e tx k (σ.ev x) = some src) :
    ∃ news, Src P k tx (a.eval x) src.length news w ∧ RowRel (envOf N0 φ w) k src news ∧ A.pure.pureL src = true := by
  have hx := h.ev x
  have strid : ∀ {es : List A}, strOK k es = true → es ≠ [] → strideOf es = k := fun {es} h1 h2 => by
    unfold strOK at h1
    cases es with
    | nil => exact absurd rfl h2
    | cons y ys => simpa using h1
  have hsl : ∀ {t : TypeId}, (tyElem P t).isSome = true → ∃ e', P.underlying t = some (.slice e') := fun {t} ht => by
    cases hq : tyElem P t with
    | none => simp [hq] at ht
    | some e' => exact ⟨e', tyElem_eq hq⟩
  cases hc : σ.ev x <;> simp only [hc, srcE] at hs <;> try (simp at hs; done)
  case str s =>
    split at hs
    · rename_i hcond
      obtain ⟨_, rfl, ht⟩ := hcond
      obtain rfl := Option.some.inj hs
      rw [hc] at hx
      simp only [Rep] at hx
      rw [hx]
      have := Src.ofString (P := P) w (tyStr_eq ht) ⟨s.toArray⟩
      refine ⟨byteCells ⟨s.toArray⟩, ?_, ?_, bytes_pure s⟩
      · simpa [bytesA, size_mk] using this
      · simpa [byteCells] using bytes_row (envOf N0 φ w) s
    · simp at hs
  case slc es =>
    split at hs
    · rename_i hcond
      obtain rfl := Option.some.inj hs
      obtain ⟨e', he'⟩ := hsl hcond.2
      rw [hc] at hx
      simp only [Rep] at hx
      obtain ⟨hp, q, cap, hv, hlc, hl⟩ := hx
      rw [hv]
      obtain ⟨news, h1, h2⟩ := src_slice (E := envOf N0 φ w) (k := k) (q := q) (cap := cap) he' (es := es) (fun hne => by
        obtain ⟨b, off, h1, _, _, h2⟩ := hl hne
        rw [strid hcond.1 hne] at h2
        exact ⟨b, off, h1, h2⟩)
      exact ⟨news, h1, h2, hp⟩
    · simp at hs
  case clip es =>
    split at hs
    · rename_i hcond
      obtain rfl := Option.some.inj hs
      obtain ⟨e', he'⟩ := hsl hcond.2
      rw [hc] at hx
      simp only [Rep] at hx
      obtain ⟨hp, q, hv, hl⟩ := hx
      rw [hv]
      obtain ⟨news, h1, h2⟩ := src_slice (E := envOf N0 φ w) (k := k) (q := q) (cap := es.length) he' (es := es) (fun hne => by
        obtain ⟨b, off, h1, _, _, h2⟩ := hl hne
        rw [strid hcond.1 hne] at h2
        exact ⟨b, off, h1, h2⟩)
      exact ⟨news, h1, h2, hp⟩
    · simp at hs
  case nils =>
    split at hs
    · rename_i hcond
      obtain rfl := Option.some.inj hs
      obtain ⟨e', he'⟩ := hsl hcond
      rw [hc] at hx
      simp only [Rep] at hx
      rw [hx]
      exact ⟨[], Src.ofNil w he' 0, by simp [RowRel], rfl⟩
    · simp at hs
  case emp c =>
    split at hs
    · rename_i hcond
      obtain rfl := Option.some.inj hs
      obtain ⟨e', he'⟩ := hsl hcond
      rw [hc] at hx
      simp only [Rep] at hx
      obtain ⟨q, cap, hv, _⟩ := hx
      rw [hv]
      obtain ⟨news, h1, h2⟩ := src_slice (E := envOf N0 φ w) (k := k) (q := q) (cap := cap) he' (es := []) (fun hne => absurd rfl hne)
      exact ⟨news, h1, h2, rfl⟩
    · simp at hs
  case row n off k' len cl =>
    split at hs
    · rename_i hcond
      obtain ⟨rfl, ht⟩ := hcond
      obtain ⟨e', he'⟩ := hsl ht
      unfold viewRow at hs
      split at hs
      · rename_i es hvr
        obtain rfl := Option.some.inj hs
        split at hvr
        · rename_i k'' fs ho
          split at hvr
          · rename_i hlen
            obtain ⟨rfl, hlen⟩ := hlen
            simp only [Option.some.injEq, A.slc.injEq] at hvr
            subst hvr
            rw [hc] at hx
            have hl : ((fs.drop off).take len).length = len := by simp; omega
            simp only [Rep] at hx
            rcases hx with ⟨o, hφ, hf, rfl, _, q, hv⟩ | ⟨b, cap, c', e'', fr, hφ, hv, hlc, _, hb, _⟩
            · rw [hv]
              obtain ⟨news, h1, h2⟩ := src_slice (E := envOf N0 φ w) (k := k'') (q := q) (cap := 0) he' (es := []) (fun hne => absurd rfl hne)
              exact ⟨news, by simpa [envOf] using h1, by simpa using h2, by simp [A.pure.pureL]⟩
            · have hob := h.objs n _ _ ho hφ
              simp only [ObjRel] at hob
              obtain ⟨_, hp, _, hE⟩ := hob
              have hE' := RepE_take (n := len) (RepE_drop (n := off) hE)
              have hp' := pureL_take (n := len) (pureL_drop (n := off) hp)
              rw [hv]
              obtain ⟨news, h1, h2⟩ := src_slice (E := envOf N0 φ w) (k := k'') (q := some ⟨b, off * k'', none⟩) (cap := cap) he' (es := (fs.drop off).take len) (fun _ => ⟨b, _, rfl, by simpa using hE'⟩)
              rw [hl] at h1
              exact ⟨news, by rw [hl]; exact h1, h2, hp'⟩
          · simp at hvr
        · simp at hvr
      · simp at hs
    · simp at hs
theorem grown_rel {E' : Env} {B k : Nat} {e : TypeId} {vs : List Value} {zs : Array Value} {es : List A} (hB : E'.w.heap[B]? = some (.cells (vs.toArray ++ zs) e (0, 0)))
    (hr : RowRel E' k es vs) (hone : ∀ u ∈ vs, u.oneCell' = true) (hp : A.pure.pureL es = true) : ObjRel E' (.row k es) (.loc B k) := by
  simp only [ObjRel]
  refine ⟨trivial, hp, ⟨_, e, (0, 0), hB, unfrozen_plain _⟩, RowRel.mem hr (fun j u hu => ?_) hone⟩
  have hlt := (List.getElem?_eq_some_iff.1 hu).1
  simp only [World.cell?, hB, Nat.zero_add]
  have := Array.getElem?_append_left (xs := vs.toArray) (ys := zs) (i := j) (by simpa using hlt)
  simp only [this]
  simpa using hu
structure AppTy (P : Program) (t e : TypeId) (k : Nat) (i : TypeInfo) (z : Value) : Prop where
  ty : P.underlying t = some (.slice e)
  info : P.info? e = some i
  size : i.size = k
  zero : i.zero = some z
  cells : z.cells.size = k
  pos : k ≠ 0
  bytes : i.bytes ≠ 0
theorem app_ty {t e : TypeId} {k : Nat} (he : tyElem P t = some e) (hk : tySize P e = some k) (h0 : k ≠ 0) (hb : tyBytes P e ≠ 0) (hz : zeroOK P e k = true) : ∃ i z, AppTy P t e k i z ∧ i.bytes = tyBytes P e := by
  have hty := tyElem_eq he
  unfold tySize at hk
  cases hi : P.info? e with
  | none => simp [hi] at hk
  | some i =>
    simp [hi] at hk
    unfold zeroOK at hz
    cases hzz : zeroA P e with
    | none => simp [hzz] at hz
    | some zz =>
      rw [hzz] at hz
      simp only [Bool.and_eq_true, beq_iff_eq] at hz
      have hz0 := hzz
      unfold zeroA at hz0
      simp only [hi, Option.bind_some] at hz0
      cases hiz : i.zero with
      | none => simp [hiz] at hz0
      | some z =>
        simp [hiz] at hz0
        have hrep := Rep_toA (envOf (fun _ => False) [] (default : World)) z
        rw [hz0] at hrep
        obtain ⟨_, _, h3⟩ := Rep_cells hrep hz.1
        have hbb : i.bytes = tyBytes P e := by simp [tyBytes, Program.bytesOf, hi]
        exact ⟨i, z, ⟨hty, hi, hk, hiz, by rw [h3]; exact hz.2, h0, by rw [hbb]; exact hb⟩, hbb⟩
theorem run_append2 {d : Option Tmp} {b x : Operand} {t tx ty : TypeId} {p : String} {af : Array Edge} {g : Option (Nat × Bool)} {v : Value} {w' : World}
    (h : (Builtin.append_ #[t, tx] ty #[a.eval b, a.eval x]).run P w = .ok v w') :
    (Go.execOp a.eval ⟨d, .call ⟨.builtin .append, ⟨[b, x]⟩, ⟨[t, tx]⟩⟩, ty, p, af, g⟩).run P w = .ok (.value v) w' := by
  obtain ⟨cs, hcs⟩ := run_builtin (P := P) (a := a) (w := w) (b := .append) (xs := [b, x]) (us := ⟨[t, tx]⟩) (d := d) (t := ty) (p := p) (af := af) (g := g)
  rw [hcs]
  exact run_v (s := Builtin.append_ #[t, tx] ty #[a.eval b, a.eval x]) h
end
end Go.Abs
namespace Go.Abs
open Go.RowKit
section
variable {P : Program} {N0 : Nat → Prop} {w0 : Base} {nt : Nat} {σ : St} {φ : List Own} {a : Act} {w : World}
theorem first0 {k cap : Nat} {q : Option Addr} : (Builtin.firstCells k 0 (.slice q 0 cap)).run P w = .ok (#[] : Array Value) w := by
  cases q with
  | none => exact run_firstCells_none w k 0 0 cap
  | some q =>
    have := run_firstCells_some (P := P) w k 0 q 0 cap [] (by simp) (by simp)
    simpa using this
theorem first_of {k len cap b off : Nat} {vs : List Value} (hl : vs.length = len * k) (hr : w.rangeAt b off vs) : (Builtin.firstCells k len (.slice (some ⟨b, off, none⟩) len cap)).run P w = .ok vs.toArray w :=
  run_firstCells_some w k len ⟨b, off, none⟩ len cap vs hl (fun j v hv => by rw [Addr.add_lit]; exact hr j v hv)
theorem app_grow {t e k tx ty : Nat} {i : TypeInfo} {z : Value} (hT : AppTy P t e k i z) {q : Option Addr} {sLen sCap n : Nat} {olds news : List Value} {x : Value}
    (hold : (Builtin.firstCells k sLen (.slice q sLen sCap)).run P w.drew = .ok olds.toArray w.drew) (hlo : olds.length = sLen * k) (hs : Src P k tx x n news w)
    (hg : sCap < sLen + n) (hby : (sLen + n) * i.bytes ≤ 140737488355328) :
    ∃ w' c zs, (Builtin.append_ #[t, tx] ty #[.slice q sLen sCap, x]).run P w = .ok (.slice (some ⟨w.heap.size, 0, none⟩) (sLen + n) c) w' ∧ Grew w w' ∧ w.heap.size < w'.heap.size ∧ sLen + n ≤ c ∧
      w'.heap[w.heap.size]? = some (.cells ((olds ++ news).toArray ++ zs) e (0, 0)) ∧ k * c ≤ ((olds ++ news).toArray ++ zs).size := by
  obtain ⟨h1, h2, rfl, h4, h5, h6, h7⟩ := hT
  have hb1 : 1 ≤ i.bytes := by omega
  have h63 : sLen + n ≤ 140737488355328 := Nat.le_trans (Nat.le_mul_of_pos_right _ hb1) hby
  have hge := grownCap_ge w (sLen + n) sCap e
  refine ⟨_, grownCap w (sLen + n) sCap e, Builtin.zeroCells z.cells (grownCap w (sLen + n) sCap e - (sLen + n)), run_append_grow_src (P := P) w t tx ty e i z h1 h2 h4 q sLen sCap olds hold x n news hs hg (by omega) (growslice_fits hg hby), ?_, ?_, hge, ?_, ?_⟩
  · exact (Grew.drew w).trans (Grew.alloc _ _)
  · simp
  · exact heap_alloc_new w.drew _
  · have hnl := hs.newsLen
    simp only [Array.size_append, List.size_toArray, List.length_append, hlo, hnl, size_zeroCells, h5]
    rw [← Nat.add_mul, ← Nat.add_mul, Nat.mul_comm]
    exact Nat.mul_le_mul_right _ (by omega)
theorem Conc.ext_nil (_h : Conc N0 w0 nt σ φ a w) {n : Nat} (hfree : φ[n]? = some .free) : Ext (fun _ => True) (envOf N0 φ w) (envOf N0 (φ.set n .nil) w) := by
  have hset := set_get (φ := φ) (n := n) (p := Own.nil) (List.getElem?_eq_some_iff.1 hfree).1
  exact {
    size := Nat.le_refl _
    blk := fun c hc hnc => ⟨by
      rintro (h0 | ⟨m, k', hm⟩)
      · exact hnc (.inl h0)
      · rw [hset] at hm
        split at hm
        · simp at hm
        · exact hnc (.inr ⟨m, k', hm⟩), rfl⟩
    refs := fun m p _ hm hp => by
      show (φ.set n Own.nil)[m]? = some p
      rw [hset]
      split
      · rename_i e; subst e
        have : φ[n]? = some p := hm
        rw [hfree] at this
        simp at this
        exact absurd this.symm hp
      · exact hm
    own := fun m c k' cc e fr _ hm hc => ⟨cc, fr, hc, rfl⟩ }
theorem Conc.newNil (h : Conc N0 w0 nt σ φ a w) {n k : Nat} (hfree : φ[n]? = some .free) : Conc N0 w0 nt (σ.setH n (.row k [])) (φ.set n .nil) a w := by
  have hset := set_get (φ := φ) (n := n) (p := Own.nil) (List.getElem?_eq_some_iff.1 hfree).1
  have hext := h.ext_nil hfree
  exact {
    slots := fun d => Rep.mono hext _ _ (h.slots d) (fun _ _ => trivial)
    size := h.size
    defers := h.defers
    len := by simp [St.setH, setO_eq, h.len]
    objs := fun m o' p hm hp => by
      rw [hset] at hp
      simp only [St.setH] at hm
      rw [setO_eq, nthO_eq, List.getElem?_set] at hm
      split at hp
      · rename_i e
        subst e
        simp at hp
        subst hp
        rw [if_pos rfl] at hm
        split at hm
        · simp at hm; subst hm; simp [ObjRel]
        · simp at hm
      · rename_i e
        rw [if_neg e] at hm
        exact ObjRel.mono hext (h.objs m o' p (by rw [nthO_eq]; exact hm) hp) (fun c k' hc cc ee fr hh => hh) (fun _ _ _ _ => trivial)
    own := fun m c k' hm => by
      rw [hset] at hm
      split at hm
      · simp at hm
      · exact h.own m c k' hm
    inj := fun m m' c k' k'' hm hm' => by
      rw [hset] at hm hm'
      split at hm <;> split at hm'
      · simp at hm
      · simp at hm
      · simp at hm'
      · exact h.inj m m' c k' k'' hm hm'
    n0 := h.n0
    fixd := fun m q hf hm hq => by
      have := h.fixd m q hf hm hq
      rw [hset]
      split
      · rename_i e; subst e; rw [hfree] at this; exact absurd (Option.some.inj this).symm hq
      · exact this
    below := h.below }
theorem Conc.setObj (h : Conc N0 w0 nt σ φ a w) {n : Nat} {o : Obj} (ho : ∀ p, φ[n]? = some p → ObjRel (envOf N0 φ w) o p) : Conc N0 w0 nt (σ.setH n o) φ a w :=
  { h with
    slots := h.slots
    len := by simp [St.setH, setO_eq, h.len]
    objs := fun m o' p hm hp => by
      simp only [St.setH] at hm
      rw [setO_eq, nthO_eq, List.getElem?_set] at hm
      split at hm
      · rename_i e
        subst e
        split at hm
        · simp at hm; subst hm; exact ho p hp
        · simp at hm
      · exact h.objs m o' p (by rw [nthO_eq]; exact hm) hp }
theorem app_new (h : Conc N0 w0 nt σ φ a w) {d : Option Tmp} {b x : Operand} {t tx ty : TypeId} {p : String} {af : Array Edge} {g : Option (Nat × Bool)} (hd : ∀ t, d = some t → t < nt) {n : Nat} (hfree : φ[n]? = some .free)
    {e k : Nat} {i : TypeInfo} {z : Value} (hT : AppTy P t e k i z) {q : Option Addr} {es src : List A} {news : List Value} (hbv : a.eval b = .slice q es.length es.length)
    (hes : es ≠ [] → ∃ B off, q = some ⟨B, off, none⟩ ∧ RepE (envOf N0 φ w) k B off es) (hpe : A.pure.pureL es = true) (hc : es = [] ∨ src ≠ [])
    (hs : Src P k tx (a.eval x) src.length news w) (hn : RowRel (envOf N0 φ w) k src news) (hps : A.pure.pureL src = true) (hby : (es.length + src.length) * i.bytes ≤ 140737488355328) :
    GoodW P ⟨d, .call ⟨.builtin .append, ⟨[b, x]⟩, ⟨[t, tx]⟩⟩, ty, p, af, g⟩ a w N0 w0 nt φ n ((σ.setH n (.row k (es ++ src))).put d (.row n 0 k (es.length + src.length) false)) := by
  have hlt : n < φ.length := (List.getElem?_eq_some_iff.1 hfree).1
  by_cases hsrc : src = []
  · have hes0 : es = [] := by
      rcases hc with h | h
      · exact h
      · exact absurd hsrc h
    subst hes0
    subst hsrc
    have hn0 : news = [] := by simpa only [RowRel] using hn
    subst hn0
    have hrun := run_append_nothing (P := P) w t tx ty e i hT.ty hT.info q 0 0 (Nat.le_refl 0) (a.eval x) (by rw [hT.size]; exact hs)
    refine ⟨.slice q 0 0, w, φ.set n .nil, .inl ?_, ?_⟩
    · have := hbv
      simp only [List.length_nil] at this
      rw [← this] at hrun
      rw [← this]
      exact run_append2 hrun
    · refine ⟨(h.newNil hfree).put hd ?_, fun m hm hf => by rw [List.getElem?_set_ne (Ne.symm hm)]; exact hf⟩
      simp only [Rep]
      exact .inl ⟨.nil, by show (φ.set n _)[n]? = _; simp [hlt], by simp, by simp, fun _ => trivial, q, by simp⟩
  · have hold : ∃ olds, (Builtin.firstCells k es.length (.slice q es.length es.length)).run P w.drew = .ok olds.toArray w.drew ∧ RowRel (envOf N0 φ w) k es olds ∧ ∀ u ∈ olds, u.oneCell' = true := by
      by_cases he : es = []
      · subst he
        exact ⟨[], first0, by simp [RowRel], by simp⟩
      · obtain ⟨B, off, rfl, hE⟩ := hes he
        obtain ⟨vs, h1, h2, h3⟩ := RowRel.of_mem hE
        exact ⟨vs, first_of h1.length (fun j v hv => by have := h2 j v hv; simpa [envOf] using this), h1, h3⟩
    obtain ⟨olds, hf, hro, hoo⟩ := hold
    have hsl : 0 < src.length := by
      cases src with
      | nil => exact absurd rfl hsrc
      | cons => simp
    obtain ⟨w', c, zs, hrun, g, hsz, hle, hB, hcs⟩ := app_grow (ty := ty) hT hf hro.length hs (by omega) hby
    have hnew := h.newObj (k := k) (o := .row k (es ++ src)) hfree g (Nat.le_refl _) hsz (by
      have hext := h.ext_new (k := k) hfree g (Nat.le_refl _)
      refine grown_rel (E' := envOf N0 (φ.set n (.loc w.heap.size k)) w') hB ?_ ?_ ?_
      · refine RowRel.mono (E := envOf N0 φ w) (fun x v hx hr => Rep.mono hext x v hr (fun _ _ => trivial)) ?_ (hro.append hn)
        exact pureL_of fun j y hy => by
          rcases List.mem_append.1 (List.mem_of_getElem? hy) with hm | hm
          · obtain ⟨r, hr⟩ := List.getElem?_of_mem hm; exact pureL_getElem hpe hr
          · obtain ⟨r, hr⟩ := List.getElem?_of_mem hm; exact pureL_getElem hps hr
      · intro u hu
        rcases List.mem_append.1 hu with hu | hu
        · exact hoo u hu
        · exact hs.one u hu
      · exact pureL_of fun j y hy => by
          rcases List.mem_append.1 (List.mem_of_getElem? hy) with hm | hm
          · obtain ⟨r, hr⟩ := List.getElem?_of_mem hm; exact pureL_getElem hpe hr
          · obtain ⟨r, hr⟩ := List.getElem?_of_mem hm; exact pureL_getElem hps hr)
    refine ⟨_, w', _, .inl (run_append2 (by rw [hbv]; exact hrun)), hnew.put hd ?_, fun m hm hf => by rw [List.getElem?_set_ne (Ne.symm hm)]; exact hf⟩
    simp only [Rep]
    exact .inr ⟨w.heap.size, c, _, e, (0, 0), by show (φ.set n _)[n]? = _; simp [hlt], by simp, hle, by simp, hB, by simpa using hcs⟩
theorem app_old {n : Nat} (hfx : w0.fix n = false) (h : Conc N0 w0 nt σ φ a w) {d : Option Tmp} {b x : Operand} {t tx ty : TypeId} {p : String} {af : Array Edge} {g : Option (Nat × Bool)} (hd : ∀ t, d = some t → t < nt) {nm : Nat}
    {e k : Nat} {i : TypeInfo} {z : Value} (hT : AppTy P t e k i z) {len : Nat} {es src : List A} {news : List Value} (hbr : Rep (envOf N0 φ w) (.row n 0 k len false) (a.eval b))
    (ho : nthO σ.H n = some (.row k es)) (hlen : len ≤ es.length)
    (hs : Src P k tx (a.eval x) src.length news w) (hn : RowRel (envOf N0 φ w) k src news) (hps : A.pure.pureL src = true) (hby : (len + src.length) * i.bytes ≤ 140737488355328) :
    GoodW P ⟨d, .call ⟨.builtin .append, ⟨[b, x]⟩, ⟨[t, tx]⟩⟩, ty, p, af, g⟩ a w N0 w0 nt φ nm (((σ.scrub n).setH n (.row k (es.take len ++ src))).put d (.row n 0 k (len + src.length) false)) := by
  have h' := h.scrub n
  have hcl := clear_scrub σ n
  have hnlen : n < φ.length := by
    rw [h.len]
    rw [nthO_eq] at ho
    exact (List.getElem?_eq_some_iff.1 ho).1
  have grow : φ[n]? ≠ some .free → ∀ (q : Option Addr) (sCap : Nat) (olds : List Value), a.eval b = .slice q len sCap → (Builtin.firstCells k len (.slice q len sCap)).run P w.drew = .ok olds.toArray w.drew →
      RowRel (envOf N0 φ w) k (es.take len) olds → (∀ u ∈ olds, u.oneCell' = true) → A.pure.pureL (es.take len) = true → sCap < len + src.length →
      GoodW P ⟨d, .call ⟨.builtin .append, ⟨[b, x]⟩, ⟨[t, tx]⟩⟩, ty, p, af, g⟩ a w N0 w0 nt φ nm (((σ.scrub n).setH n (.row k (es.take len ++ src))).put d (.row n 0 k (len + src.length) false)) := by
    intro hnf q sCap olds hbv hf hro hoo hpe hg
    have hlt' : (es.take len).length = len := by simp; omega
    obtain ⟨w', c, zs, hrun, g, hsz, hle, hB, hcs⟩ := app_grow (ty := ty) hT hf (by rw [hro.length, hlt']) hs hg hby
    have hpp : A.pure.pureL (es.take len ++ src) = true := pureL_of fun j y hy => by
      rcases List.mem_append.1 (List.mem_of_getElem? hy) with hm | hm
      · obtain ⟨r, hr⟩ := List.getElem?_of_mem hm; exact pureL_getElem hpe hr
      · obtain ⟨r, hr⟩ := List.getElem?_of_mem hm; exact pureL_getElem hps hr
    obtain ⟨hnew, _⟩ := h'.rehome hfx hcl hnlen (p := .loc w.heap.size k) (o := .row k (es.take len ++ src)) g (fun B K e' => by
      simp only [Own.loc.injEq] at e'
      obtain ⟨rfl, rfl⟩ := e'
      exact ⟨Nat.le_refl _, hsz⟩) (fun hext => by
      refine grown_rel (E' := envOf N0 (φ.set n (.loc w.heap.size k)) w') hB ?_ ?_ hpp
      · exact RowRel.mono (E := envOf N0 φ w) (fun x v hx hr => Rep.mono hext x v hr (fun m hm => by rw [A.mem_of_pure m x hx] at hm; cases hm)) hpp (hro.append hn)
      · intro u hu
        rcases List.mem_append.1 hu with hu | hu
        · exact hoo u hu
        · exact hs.one u hu)
    refine ⟨_, w', _, .inl (run_append2 (by rw [hbv]; exact hrun)), hnew.put hd ?_, fun m hm hf => by rw [List.getElem?_set_ne (fun e => hnf (by rw [e]; exact hf))]; exact hf⟩
    simp only [Rep]
    exact .inr ⟨w.heap.size, c, _, e, (0, 0), by show (φ.set n _)[n]? = _; simp [hnlen], by simp, hle, by simp, hB, by simpa using hcs⟩
  simp only [Rep] at hbr
  rcases hbr with ⟨o, hφ, hf, rfl, _, q, hv⟩ | ⟨B, cap, c', e', fr, hφ, hv, hlc, _, hb, hfit⟩
  · by_cases hsrc : src = []
    · subst hsrc
      have hn0 : news = [] := by simpa only [RowRel] using hn
      subst hn0
      have hrun := run_append_nothing (P := P) w t tx ty e i hT.ty hT.info q 0 0 (Nat.le_refl 0) (a.eval x) (by rw [hT.size]; exact hs)
      refine ⟨.slice q 0 0, w, φ, .inl (run_append2 (by rw [hv]; exact hrun)), ?_⟩
      refine ⟨(h'.setObj (fun p hp => ?_)).put hd ?_, fun _ _ h => h⟩
      · have hob := h.objs n _ _ ho hp
        cases p with
        | nil => simp [ObjRel]
        | free =>
          have hφ' : φ[n]? = some o := hφ
          rw [hφ'] at hp
          simp at hp
          exact absurd hp hf
        | loc B k'' =>
          simp only [ObjRel] at hob ⊢
          exact ⟨hob.1, by simp [A.pure.pureL], hob.2.2.1, by simp [RepE]⟩
      · simp only [Rep]
        exact .inl ⟨o, hφ, hf, by simp, fun _ => trivial, q, by simp⟩
    · refine grow (fun e => hf (by have hφ' : φ[n]? = some o := hφ; rw [hφ'] at e; simpa using e)) q 0 [] hv first0 (by simp [RowRel]) (by simp) (by simp [A.pure.pureL]) ?_
      cases src with
      | nil => exact absurd rfl hsrc
      | cons => simp
  · have hob := h.objs n _ _ ho hφ
    simp only [ObjRel] at hob
    obtain ⟨_, hp, ⟨cc, ee, ffr, hcc, hfr⟩, hE⟩ := hob
    have hb' : w.heap[B]? = some (.cells c' e' fr) := hb
    have hcc' : w.heap[B]? = some (.cells cc ee ffr) := hcc
    rw [hb'] at hcc'
    simp only [Option.some.injEq, Go.Obj.cells.injEq] at hcc'
    obtain ⟨rfl, rfl, rfl⟩ := hcc'
    have hE' := RepE_take (n := len) hE
    have hp' := pureL_take (n := len) hp
    obtain ⟨olds, h1, h2, h3⟩ := RowRel.of_mem hE'
    have hlt' : (es.take len).length = len := by simp; omega
    have h1l : olds.length = len * k := by rw [h1.length, hlt']
    rw [Nat.zero_mul] at hv hfit
    by_cases hroom : len + src.length ≤ cap
    · have hnl := hs.newsLen
      have hmul : len * k + src.length * k ≤ k * cap := by
        rw [← Nat.add_mul, Nat.mul_comm k cap]
        exact Nat.mul_le_mul_right _ hroom
      have ht : w.there B (0 + len * k) news.length := there_of hb' hfr (by omega)
      have hrun := run_append_room_src (P := P) w t tx ty e i hT.ty hT.info B 0 len cap (a.eval x) src.length news (by rw [hT.size]; exact hs) hroom
        (fun j hj => by rw [hT.size]; exact (ht j hj).1) (fun j hj => by rw [hT.size]; exact (ht j hj).2)
      rw [hT.size] at hrun
      obtain ⟨cc'', hcc'', hss''⟩ := (setCells_heap (b := B) news (0 + len * k) w).2.2.2.2.2.2 c' e' fr hb'
      have hext := h.ext_write (0 + len * k) news hφ
      have hw := h'.write (o := .row k (es.take len ++ src)) (off := 0 + len * k) (vs := news) hφ (by
        simp only [ObjRel]
        have hpp : A.pure.pureL (es.take len ++ src) = true := pureL_of fun j y hy => by
          rcases List.mem_append.1 (List.mem_of_getElem? hy) with hm | hm
          · obtain ⟨r, hr⟩ := List.getElem?_of_mem hm; exact pureL_getElem hp' hr
          · obtain ⟨r, hr⟩ := List.getElem?_of_mem hm; exact pureL_getElem hps hr
        refine ⟨trivial, hpp, ⟨cc'', e', fr, hcc'', fun j hj => hfr.1 j (by omega), fun hk hh => hfr.2 hk (by omega)⟩, ?_⟩
        refine RowRel.mem (vs := olds ++ news) (RowRel.mono (E := envOf N0 φ w) (fun x v hx hr => Rep.mono hext x v hr (fun _ _ => trivial)) hpp (h1.append hn)) ?_ ?_
        · intro j u hu
          show (w.setCells B (0 + len * k) news).cell? ⟨B, 0 + j, none⟩ = some u
          rw [setCells_cell ht]
          rw [List.getElem?_append] at hu
          split at hu
          · rename_i hj
            rw [if_neg (by omega)]
            exact h2 j u hu
          · rename_i hj
            have := (List.getElem?_eq_some_iff.1 hu).1
            rw [if_pos (by omega), show 0 + j - (0 + len * k) = j - olds.length by omega]
            exact hu
        · intro u hu
          rcases List.mem_append.1 hu with hu | hu
          · exact h3 u hu
          · exact hs.one u hu)
      refine ⟨_, _, φ, .inl (run_append2 (by rw [hv]; exact hrun)), hw.put hd ?_, fun _ _ h => h⟩
      simp only [Rep]
      exact .inr ⟨B, cap, cc'', e', fr, hφ, by simp, hroom, by simp, hcc'', by rw [hss'']; simpa using hfit⟩
    · exact grow (fun e => by have hφ' : φ[n]? = some (.loc B k) := hφ; rw [hφ'] at e; simp at e) _ cap olds hv (first_of h1l (fun j v hv => by have := h2 j v hv; simpa [envOf] using this)) h1 h3 hp' (by omega)
theorem goodW_append (h : Conc N0 w0 nt σ φ a w) {d : Option Tmp} {b x : Operand} {t tx ty : TypeId} {p : String} {af : Array Edge} {g : Option (Nat × Bool)} (hd : ∀ t, d = some t → t < nt) {n : Nat} (hfree : φ[n]? = some .free)
    {σ' : St} {fx : Nat → Bool} (hfx : w0.fix = fx) (hr : appendX P fx σ n d t tx (σ.ev b) (σ.ev x) = some σ') : GoodW P ⟨d, .call ⟨.builtin .append, ⟨[b, x]⟩, ⟨[t, tx]⟩⟩, ty, p, af, g⟩ a w N0 w0 nt φ n σ' := by
  unfold appendX at hr
  split at hr
  · rename_i e he
    split at hr
    · rename_i k hk
      split at hr
      · simp at hr
      · rename_i hc
        have hz : zeroOK P e k = true := by
          cases hzz : zeroOK P e k with
          | true => rfl
          | false => exact absurd (.inr (.inr hzz)) hc
        obtain ⟨i, z, hT, hbb⟩ := app_ty he hk (fun e' => hc (.inl e')) (fun e' => hc (.inr (.inl e'))) hz
        cases hsrc : srcE P σ e tx k (σ.ev x) with
        | none => simp [hsrc] at hr
        | some src =>
          simp only [hsrc, Option.bind_some] at hr
          obtain ⟨news, hs, hn, hps⟩ := src_sound h hsrc
          have hb := h.ev b
          rw [← hbb] at hr
          have strid : ∀ {es : List A}, strOK k es = true → es ≠ [] → strideOf es = k := fun {es} h1 h2 => by
            unfold strOK at h1
            cases es with
            | nil => exact absurd rfl h2
            | cons y ys => simpa using h1
          cases hev : σ.ev b <;> rw [hev] at hb <;> simp only [hev, appendA] at hr <;> try (simp at hr; done)
          case nils =>
            split at hr
            · rename_i hby
              obtain rfl := Option.some.inj hr
              simp only [Rep] at hb
              have := app_new h (p := p) (af := af) (g := g) (ty := ty) hd hfree hT (q := none) (es := []) (src := src) hb (fun hne => absurd rfl hne) rfl (.inl rfl) hs hn hps (by simpa using hby)
              simpa using this
            · simp at hr
          case clip es =>
            split at hr
            · rename_i hcond
              obtain ⟨hst, hc2, hby⟩ := hcond
              obtain rfl := Option.some.inj hr
              simp only [Rep] at hb
              obtain ⟨hpe, q, hv, hl⟩ := hb
              exact app_new h (p := p) (af := af) (g := g) (ty := ty) hd hfree hT (q := q) (es := es) (src := src) hv (fun hne => by
                obtain ⟨B, off, e1, _, _, e2⟩ := hl hne
                rw [strid hst hne] at e2
                exact ⟨B, off, e1, e2⟩) hpe hc2 hs hn hps hby
            · simp at hr
          case row m off k' len cl =>
            cases off with
            | succ off => simp at hr
            | zero =>
              simp only at hr
              split at hr
              · rename_i k'' es ho
                split at hr
                · rename_i hcond
                  obtain ⟨rfl, rfl, hlen, hby⟩ := hcond
                  split at hr
                  · rename_i hcl
                    subst hcl
                    split at hr
                    · simp at hr
                    · rename_i hne
                      obtain rfl := Option.some.inj hr
                      have hlt' : (es.take len).length = len := by simp; omega
                      simp only [Rep] at hb
                      rcases hb with ⟨o, hφ, hf, rfl, _, q, hv⟩ | ⟨B, cap, c', e', fr, hφ, hv, hlc, hcl, hb, hfit⟩
                      · have := app_new h (p := p) (af := af) (g := g) (ty := ty) hd hfree hT (q := q) (es := []) (src := src) hv (fun hne => absurd rfl hne) rfl (.inl rfl) hs hn hps (by simpa using hby)
                        simpa using this
                      · have hob := h.objs m _ _ ho hφ
                        simp only [ObjRel] at hob
                        obtain ⟨_, hp, _, hE⟩ := hob
                        have hcap := hcl trivial
                        subst hcap
                        have hE' := RepE_take (n := cap) hE
                        have hp' := pureL_take (n := cap) hp
                        have := app_new h (p := p) (af := af) (g := g) (ty := ty) hd hfree hT (q := some ⟨B, 0, none⟩) (es := es.take cap) (src := src) (by rw [hlt', hv]; simp) (fun _ => ⟨B, 0, rfl, hE'⟩) hp' (.inr hne) hs hn hps (by rw [hlt']; exact hby)
                        rw [hlt'] at this
                        exact this
                  · rename_i hcl
                    have hcl' : cl = false := by simpa using hcl
                    subst hcl'
                    split at hr
                    · simp at hr
                    · rename_i hnf
                      obtain rfl := Option.some.inj hr
                      exact app_old (by rw [hfx]; simpa using hnf) h hd hT hb ho hlen hs hn hps hby
                · simp at hr
              · simp at hr
    · simp at hr
  · simp at hr
end
end Go.Abs
namespace Go.Abs
open Go.RowKit
section
variable {P : Program} {N0 : Nat → Prop} {w0 : Base} {nt : Nat} {σ : St} {φ : List Own} {a : Act} {w : World}
theorem goodW_conv (h : Conc N0 w0 nt σ φ a w) {d : Option Tmp} {src dst : TypeId} {x : Operand} {t : TypeId} {p : String} {af : Array Edge} {g : Option (Nat × Bool)} (hd : ∀ t, d = some t → t < nt) {n : Nat}
    (hfree : isS2B P src dst = true → φ[n]? = some .free) {σ' : St} (hr : convX P σ n d src dst (σ.ev x) = some σ') : GoodW P ⟨d, .convert src dst x, t, p, af, g⟩ a w N0 w0 nt φ n σ' := by
  unfold convX at hr
  split at hr
  · rename_i hb
    have hfree := hfree hb
    have hx := h.ev x
    split at hr
    · rename_i s hs
      obtain rfl := Option.some.inj hr
      rw [hs] at hx
      simp only [Rep] at hx
      unfold isS2B at hb
      simp only [Bool.and_eq_true] at hb
      obtain ⟨hb1, hb2⟩ := hb
      cases he : tyElem P dst with
      | none => simp [he] at hb2
      | some e =>
        simp [he] at hb2
        have hlt : n < φ.length := (List.getElem?_eq_some_iff.1 hfree).1
        have hrun := run_bytes_of_string (P := P) w src dst e ⟨s.toArray⟩ (tyStr_eq hb1) (tyElem_eq he) (tyInt_eq hb2)
        have hge := grownCap_ge w (⟨s.toArray⟩ : ByteArray).size 0 e
        generalize hc : grownCap w (⟨s.toArray⟩ : ByteArray).size 0 e = c at hrun hge
        rw [size_mk] at hge
        have hsz : (bytesRow ⟨s.toArray⟩ c).size = c := by
          simp [bytesRow, size_mk]
          omega
        rw [hsz] at hrun
        have g : Grew w (w.drew.alloc (.cells (bytesRow ⟨s.toArray⟩ c) e (c, c + 1))) := (Grew.drew w).trans (Grew.alloc _ _)
        have hB : (w.drew.alloc (.cells (bytesRow ⟨s.toArray⟩ c) e (c, c + 1))).heap[w.heap.size]? = some (.cells (bytesRow ⟨s.toArray⟩ c) e (c, c + 1)) := heap_alloc_new w.drew _
        have hnew := h.newObj (k := 1) (o := .row 1 (bytesA s)) hfree g (Nat.le_refl _) (by simp) (by
          simp only [ObjRel]
          refine ⟨trivial, bytes_pure s, ⟨_, e, _, hB, fun j hj hh => by rw [hsz] at hj; omega, fun hk => absurd rfl hk⟩, RowRel.mem (bytes_row _ s) (fun j u hu => ?_) ?_⟩
          · show (w.drew.alloc (.cells (bytesRow ⟨s.toArray⟩ c) e (c, c + 1))).cell? ⟨w.heap.size, 0 + j, none⟩ = some u
            have hjl : j < s.length := by
              have := (List.getElem?_eq_some_iff.1 hu).1
              simpa using this
            have hat := bytesRow_at ⟨s.toArray⟩ c j (by simpa using hjl)
            have : u = .int .u8 (s[j].toNat : Int) := by
              rw [List.getElem?_map, List.getElem?_eq_getElem hjl] at hu
              simpa using hu.symm
            subst this
            simp only [World.cell?, hB, Nat.zero_add]
            simpa using hat
          · intro u hu
            obtain ⟨_, _, rfl⟩ := List.mem_map.1 hu
            rfl)
        refine ⟨.slice (some ⟨w.heap.size, 0, none⟩) s.length c, _, _, .inl (run_v (s := convert src dst (a.eval x)) ?_), hnew.put hd ?_, fun m hm hf => by rw [List.getElem?_set_ne (Ne.symm hm)]; exact hf⟩
        · rw [hx]; exact hrun
        · simp only [Rep]
          exact .inr ⟨w.heap.size, c, _, e, _, by show (φ.set n _)[n]? = _; simp [hlt], by simp, hge, by simp, hB, by rw [hsz]; omega⟩
    · simp at hr
  · cases hc : convA P src dst σ.H (σ.ev x) with
    | none => simp [hc] at hr
    | some r =>
      simp [hc] at hr
      subst hr
      exact goodW_of_good h hd (o := ⟨d, .convert src dst x, t, p, af, g⟩) (good_convert h hc)
end
end Go.Abs
namespace Go.Abs
open Go.RowKit
theorem RowRel.drop {E : Env} {k : Nat} : ∀ {n : Nat} {es : List A} {vs : List Value}, RowRel E k es vs → RowRel E k (es.drop n) (vs.drop (n * k))
  | 0, es, vs, h => by simpa using h
  | n + 1, [], vs, h => by simp only [RowRel] at h; subst h; simp [RowRel]
  | n + 1, e :: es, vs, h => by
    simp only [RowRel] at h
    obtain ⟨_, _, _, h4⟩ := h
    rw [List.drop_succ_cons, show (n + 1) * k = k + n * k by rw [Nat.add_mul, Nat.one_mul]; omega, ← List.drop_drop]
    exact RowRel.drop h4
theorem zeroCells_list {z : Array Value} {n : Nat} : (Builtin.zeroCells z n).toList = (List.replicate n z.toList).flatten := by
  unfold Builtin.zeroCells
  apply List.ext_getElem?
  intro j
  by_cases hz : z.size = 0
  · have hz' : z = #[] := by simpa using hz
    subst hz'
    simp
  · have hz0 : 0 < z.size := by omega
    simp only [Array.toList_map, Array.toList_range]
    rw [List.getElem?_map]
    by_cases hj : j < n * z.size
    · have hq : j / z.size < n := (Nat.div_lt_iff_lt_mul hz0).2 hj
      have hr : j % z.size < z.size := Nat.mod_lt _ hz0
      rw [List.getElem?_range hj]
      simp only [Option.map_some]
      have key : ∀ (m : Nat) (j : Nat), j < m * z.size → (List.replicate m z.toList).flatten[j]? = some (z[j % z.size]!) := by
        intro m
        induction m with
        | zero => intro j hj; omega
        | succ m ih =>
          intro j hj
          rw [List.replicate_succ, List.flatten_cons]
          by_cases h : j < z.size
          · rw [List.getElem?_append_left (by simpa using h), Nat.mod_eq_of_lt h, getElem!_pos z j h]; simp [h]
          · rw [List.getElem?_append_right (by simpa using h), Nat.mod_eq_sub_mod (by omega), Array.length_toList]
            exact ih _ (by rw [Nat.add_mul, Nat.one_mul] at hj; omega)
      rw [key n j hj]
    · rw [List.getElem?_eq_none (by simpa using hj), List.getElem?_eq_none (by
        rw [List.length_flatten, List.map_replicate, List.sum_replicate_nat]; simpa using hj)]
      rfl
section
variable {P : Program} {N0 : Nat → Prop} {w0 : Base} {nt : Nat} {σ : St} {φ : List Own} {a : Act} {w : World}
theorem goodW_clear (h : Conc N0 w0 nt σ φ a w) {d : Option Tmp} {x : Operand} {t ty : TypeId} {p : String} {af : Array Edge} {g : Option (Nat × Bool)} (hd : ∀ t, d = some t → t < nt) {nm : Nat}
    {σ' : St} (hr : clearA P σ d t (σ.ev x) = some σ') : GoodW P ⟨d, .call ⟨.builtin .clear, ⟨[x]⟩, ⟨[t]⟩⟩, ty, p, af, g⟩ a w N0 w0 nt φ nm σ' := by
  have hx := h.ev x
  unfold clearA at hr
  split at hr
  · rename_i n off k len cl hev
    rw [hev] at hx
    split at hr
    case h_2 => simp at hr
    rename_i e he
    split at hr
    case h_2 => simp at hr
    rename_i k' es ho
    split at hr
    · rename_i zz hz
      split at hr
      · rename_i hc
        obtain ⟨rfl, hzl, hk0, hzv, hzp, hle⟩ := hc
        obtain rfl := Option.some.inj hr
        have hty := tyElem_eq he
        obtain ⟨zv, hzr, hzrep⟩ := zeroA_eq (w := w) hz
        have hrep := hzrep (envOf N0 φ w)
        obtain ⟨r1, r2, r3⟩ := Rep_cells hrep hzv
        have hcall : ∀ {v : Value} {w' : World}, (Builtin.clear_ #[t] ty #[a.eval x]).run P w = .ok v w' → (Go.execOp a.eval ⟨d, .call ⟨.builtin .clear, ⟨[x]⟩, ⟨[t]⟩⟩, ty, p, af, g⟩).run P w = .ok (.value v) w' := fun {v w'} hrun => by
          obtain ⟨cs, hcs⟩ := run_builtin (P := P) (a := a) (w := w) (b := .clear) (xs := [x]) (us := ⟨[t]⟩) (d := d) (t := ty) (p := p) (af := af) (g := g)
          rw [hcs]
          exact run_v (s := Builtin.clear_ #[t] ty #[a.eval x]) hrun
        simp only [Rep] at hx
        have same : (es.take off ++ List.replicate 0 zz.norm ++ es.drop (off + 0)) = es := by simp
        rcases hx with ⟨o, hφ, hf, rfl, _, q, hv⟩ | ⟨b, cap, c', e', fr, hφ, hv, hlc, _, hb, hfit⟩
        · refine ⟨.tuple #[], w, φ, .inl (hcall ?_), ?_⟩
          · rw [hv]
            cases q <;> simp [Builtin.clear_, run_underlying hty]
          · rw [same]
            refine ⟨(h.setObj (fun p hp => h.objs n _ p ho hp)).put hd ?_, fun _ _ h => h⟩
            simp [Rep, RepL]
        · have hob := h.objs n _ _ ho hφ
          simp only [ObjRel] at hob
          obtain ⟨_, hp, ⟨cc, ee, ffr, hcc, hfr⟩, hE⟩ := hob
          by_cases hl0 : len = 0
          · subst hl0
            refine ⟨.tuple #[], w, φ, .inl (hcall ?_), ?_⟩
            · rw [hv]
              simp [Builtin.clear_, run_underlying hty]
            · rw [same]
              refine ⟨(h.setObj (fun p hp => h.objs n _ p ho hp)).put hd ?_, fun _ _ h => h⟩
              simp [Rep, RepL]
          · have hcc' : w.heap[b]? = some (.cells cc ee ffr) := hcc
            have hb' : w.heap[b]? = some (.cells c' e' fr) := hb
            rw [hb'] at hcc'
            simp only [Option.some.injEq, Go.Obj.cells.injEq] at hcc'
            obtain ⟨rfl, rfl, rfl⟩ := hcc'
            obtain ⟨vs, g1, g2, g3⟩ := RowRel.of_mem hE
            have hzc : zv.cells.size = k' := by rw [r3]; exact hzl
            have hnl : (List.replicate len zv.cells.toList).flatten.length = len * k' := by
              rw [List.length_flatten, List.map_replicate, List.sum_replicate_nat, Array.length_toList, hzc]
            have hmul : off * k' + len * k' ≤ c'.size := by
              have h1 : len * k' ≤ k' * cap := by rw [Nat.mul_comm k' cap]; exact Nat.mul_le_mul_right _ hlc
              omega
            have ht : w.there b (off * k') (List.replicate len zv.cells.toList).flatten.length := there_of hb' hfr (by rw [hnl]; exact hmul)
            have hone : ∀ u ∈ (List.replicate len zv.cells.toList).flatten, u.oneCell' = true := fun u hu => by
              obtain ⟨ys, hys, hu⟩ := List.mem_flatten.1 hu
              obtain ⟨_, rfl⟩ := List.mem_replicate.1 hys
              exact r2 u hu
            have hst := run_storeCells_cells (P := P) b (off * k') (List.replicate len zv.cells.toList).flatten 0 w (fun j hj => by rw [Nat.add_zero]; exact (ht j hj).1) (fun j hj => by rw [Nat.add_zero]; exact (ht j hj).2) hone
            rw [Nat.add_zero] at hst
            obtain ⟨cc'', hcc'', hss''⟩ := (setCells_heap (b := b) (List.replicate len zv.cells.toList).flatten (off * k') w).2.2.2.2.2.2 c' e' fr hb'
            have hext := h.ext_write (off * k') (List.replicate len zv.cells.toList).flatten hφ
            have hzn : RowRel (envOf N0 φ w) k' (List.replicate len zz.norm) (List.replicate len zv.cells.toList).flatten :=
              RowRel.replicate (by rw [norm_cells, List.length_map, hzl]) (by rw [norm_cells]; exact repL_norm0 r1) len
            have hvl := g1.length
            have hpz : A.pure.pureL (List.replicate len zz.norm) = true := pureL_of fun j y hy => by
              have := List.mem_of_getElem? hy
              obtain ⟨_, rfl⟩ := List.mem_replicate.1 this
              exact pure_norm hzp
            have hpp : A.pure.pureL (es.take off ++ List.replicate len zz.norm ++ es.drop (off + len)) = true := pureL_of fun j y hy => by
              rcases List.mem_append.1 (List.mem_of_getElem? hy) with hm | hm
              · rcases List.mem_append.1 hm with hm | hm
                · obtain ⟨r, hr⟩ := List.getElem?_of_mem (List.mem_of_mem_take hm); exact pureL_getElem hp hr
                · obtain ⟨r, hr⟩ := List.getElem?_of_mem hm; exact pureL_getElem hpz hr
              · obtain ⟨r, hr⟩ := List.getElem?_of_mem (List.mem_of_mem_drop hm); exact pureL_getElem hp hr
            have hw := h.write (o := .row k' (es.take off ++ List.replicate len zz.norm ++ es.drop (off + len))) (off := off * k') (vs := (List.replicate len zv.cells.toList).flatten) hφ (by
              simp only [ObjRel]
              refine ⟨trivial, hpp, ⟨cc'', e', fr, hcc'', fun j hj => hfr.1 j (by omega), fun hk hh => hfr.2 hk (by omega)⟩, ?_⟩
              have hrel := ((g1.take (n := off)).append hzn).append (g1.drop (n := off + len))
              refine RowRel.mem (vs := vs.take (off * k') ++ (List.replicate len zv.cells.toList).flatten ++ vs.drop ((off + len) * k')) (RowRel.mono (E := envOf N0 φ w) (fun x v hx hr => Rep.mono hext x v hr (fun _ _ => trivial)) hpp hrel) ?_ ?_
              · intro j u hu
                show (w.setCells b (off * k') _).cell? ⟨b, 0 + j, none⟩ = some u
                have hlen1 : (vs.take (off * k')).length = off * k' := by
                  rw [List.length_take, hvl]
                  have : off * k' ≤ es.length * k' := Nat.mul_le_mul_right _ (by omega)
                  omega
                rw [setCells_cell ht, Nat.zero_add]
                rw [List.append_assoc, List.getElem?_append, hlen1] at hu
                split at hu
                · rename_i hj
                  rw [if_neg (by omega)]
                  rw [List.getElem?_take] at hu
                  rw [if_pos hj] at hu
                  have := g2 j u hu
                  simpa [envOf] using this
                · rename_i hj
                  rw [List.getElem?_append, hnl] at hu
                  split at hu
                  · rename_i hj2
                    rw [if_pos (by rw [hnl]; omega)]
                    exact hu
                  · rename_i hj2
                    rw [if_neg (by rw [hnl]; omega)]
                    rw [List.getElem?_drop] at hu
                    have e3 : (off + len) * k' + (j - off * k' - len * k') = j := by rw [Nat.add_mul]; omega
                    rw [e3] at hu
                    have := g2 j u hu
                    simpa [envOf] using this
              · intro u hu
                rcases List.mem_append.1 hu with hu | hu
                · rcases List.mem_append.1 hu with hu | hu
                  · exact g3 u (List.mem_of_mem_take hu)
                  · exact hone u hu
                · exact g3 u (List.mem_of_mem_drop hu))
            refine ⟨.tuple #[], _, φ, .inl (hcall ?_), hw.put hd (by simp [Rep, RepL]), fun _ _ h => h⟩
            rw [hv]
            obtain ⟨len', rfl⟩ : ∃ m, len = m + 1 := ⟨len - 1, by omega⟩
            have e0 : (#[t] : Array TypeId)[0]? = some t := rfl
            have e1 : (#[Value.slice (some ⟨b, off * k', none⟩) (len' + 1) cap] : Array Value)[0]? = some (Value.slice (some ⟨b, off * k', none⟩) (len' + 1) cap) := rfl
            simp only [Builtin.clear_, e0, e1, Sem.run_bind, run_underlying hty, Result.andThen_ok, hzr, zeroCells_list, hst, Sem.run_pure]
      · simp at hr
    · simp at hr
  · simp at hr
end
end Go.Abs
namespace Go.Abs
open Go.RowKit
def Callable (P : Program) (f : FuncId) : Prop := ∃ fn, P.funcs[f]? = some fn ∧ fn.body.isNone = false ∧ (fn.name == "runtime.NumGoroutine") = false
def CallA (P : Program) (f : FuncId) (args : List A) (Post : A → Prop) : Prop :=
  ∀ (N : Nat → Prop) (w : World) (vs : List Value), (∀ b, N b → b < w.heap.size) → RepL ⟨N, [], w⟩ args vs →
    Calls P f vs.toArray w fun e w' => ∃ v r, e = .returned v ∧ Post r ∧ Rep ⟨N, [], w'⟩ r v ∧ Grew w w'
structure HeapRel (N : Nat → Prop) (φ : List Own) (H : List Obj) (w : World) : Prop where
  len : φ.length = H.length
  objs : ∀ (n : Nat) (o : Obj) (p : Own), nthO H n = some o → φ[n]? = some p → ObjRel (envOf N φ w) o p
  own : ∀ n b k : Nat, φ[n]? = some (Own.loc b k) → b < w.heap.size ∧ ¬ N b
  inj : ∀ n m b k k' : Nat, φ[n]? = some (Own.loc b k) → φ[m]? = some (Own.loc b k') → n = m
structure TurnH (φ : List Own) (w : World) (S : List Nat) (φ' : List Own) (w' : World) : Prop where
  os : w'.os = w.os
  tape : w'.tape = w.tape
  output : w'.output = w.output
  drawn : DR → w.drawn ≤ w'.drawn
  size : w.heap.size ≤ w'.heap.size
  block : ∀ b, b < w.heap.size → (∀ n k : Nat, φ[n]? ≠ some (Own.loc b k)) → w'.heap[b]? = w.heap[b]?
  shape : ∀ (b : Nat) (c : Array Value) (e : TypeId) (fr : Nat × Nat), w.heap[b]? = some (.cells c e fr) → ∃ c' fr', w'.heap[b]? = some (.cells c' e fr') ∧ c'.size = c.size
  own : ∀ n b k : Nat, φ'[n]? = some (Own.loc b k) → w.heap.size ≤ b ∨ ∃ m k' : Nat, φ[m]? = some (Own.loc b k')
  stay : ∀ (n : Nat) (p : Own), n ∉ S → φ[n]? = some p → φ'[n]? = some p
def CallH (P : Program) (f : FuncId) (args : List A) (H : List Obj) (r : A) (H' : List Obj) (S : List Nat) : Prop :=
  ∀ (N : Nat → Prop) (φ : List Own) (w : World) (vs : List Value), (∀ b, N b → b < w.heap.size) → HeapRel N φ H w → (∀ n : Nat, φ[n]? ≠ some Own.free) → RepL (envOf N φ w) args vs →
    Calls P f vs.toArray w fun e w' => ∃ v φ', e = .returned v ∧ Rep (envOf N φ' w') r v ∧ HeapRel N φ' H' w' ∧ TurnH φ w S φ' w' ∧ H.length ≤ H'.length
structure TabOK (P : Program) (Γ : Tab) : Prop where
  f : ∀ f args r, Γ.f f args = some r → Callable P f ∧ CallA P f args (· = r)
  hp : ∀ f args H r H' S, Γ.hp f args H = some (r, H', S) → Callable P f ∧ CallH P f args H r H' S
theorem run_callFunc {P : Program} {f : FuncId} (h : Callable P f) (args : Array Value) (w : World) : (callFunc f args).run P w = .ok (.enter f args) w := by
  obtain ⟨fn, h1, h2, h3⟩ := h
  have h2' : fn.body ≠ none := fun e => by rw [e] at h2; simp at h2
  have h3' : fn.name ≠ "runtime.NumGoroutine" := by simpa using h3
  simp [callFunc, h1, h2', h3']
mutual
theorem rep_flat {E E' : Env} : ∀ (x : A) (v : Value), x.flat = true → Rep E x v → Rep E' x v
  | .any, _, h, _ => by simp [A.flat] at h
  | .int _ _, v, _, hr => by simpa only [Rep] using hr
  | .bool _, v, _, hr => by simpa only [Rep] using hr
  | .str _, v, _, hr => by simpa only [Rep] using hr
  | .nils, v, _, hr => by simpa only [Rep] using hr
  | .nilp, v, _, hr => by simpa only [Rep] using hr
  | .emp _, v, _, hr => by simpa only [Rep] using hr
  | .agg cs, v, h, hr => by
    simp only [Rep] at hr ⊢
    obtain ⟨vs, hv, hl, h1⟩ := hr
    exact ⟨vs, hv, repL_flat cs vs (by simpa only [A.flat] using h) hl, h1⟩
  | .tup cs, v, h, hr => by
    simp only [Rep] at hr ⊢
    obtain ⟨vs, hv, hl⟩ := hr
    exact ⟨vs, hv, repL_flat cs vs (by simpa only [A.flat] using h) hl⟩
  | .slc _, _, h, _ => by simp [A.flat] at h
  | .clip _, _, h, _ => by simp [A.flat] at h
  | .dptr _, _, h, _ => by simp [A.flat] at h
  | .ref _ _, _, h, _ => by simp [A.flat] at h
  | .eref _ _ _, _, h, _ => by simp [A.flat] at h
  | .row _ _ _ _ _, _, h, _ => by simp [A.flat] at h
  | .fn _ _, _, h, _ => by simp [A.flat] at h
theorem repL_flat {E E' : Env} : ∀ (cs : List A) (vs : List Value), A.flat.flatL cs = true → RepL E cs vs → RepL E' cs vs
  | [], _, _, hr => by simpa only [RepL] using hr
  | c :: cs, vs, h, hr => by
    simp only [A.flat.flatL, Bool.and_eq_true] at h
    simp only [RepL] at hr ⊢
    obtain ⟨v, vs', hv, hc, hl⟩ := hr
    exact ⟨v, vs', hv, rep_flat c v h.1 hc, repL_flat cs vs' h.2 hl⟩
end
section
variable {P : Program} {Γ : Tab} {N0 : Nat → Prop} {w0 : Base} {nt : Nat} {σ : St} {φ : List Own} {a : Act} {w : World}
def GoodC (P : Program) (o : Oper) (a : Act) (w : World) (N0 : Nat → Prop) (w0 : Base) (nt : Nat) (φ : List Own) (n : Nat) (σ' : St) : Prop :=
  GoodW P o a w N0 w0 nt φ n σ' ∨ ∃ f args, (Go.execOp a.eval o).run P w = .ok (.enter f args) w ∧
    Calls P f args w fun e w' => ∃ v φ', e = .returned v ∧ Conc N0 w0 nt σ' φ' (a.put o.dst v) w' ∧ ∀ m, m ≠ n → φ[m]? = some .free → φ'[m]? = some .free
theorem evL_rep (h : Conc N0 w0 nt σ φ a w) : ∀ xs : List Operand, RepL (envOf N0 φ w) (σ.evL xs) (xs.map a.eval)
  | [] => by simp [St.evL, RepL]
  | x :: xs => by
    simp only [St.evL, List.map_cons, RepL]
    exact ⟨_, _, rfl, h.ev x, evL_rep h xs⟩
theorem goodC_call (hΓ : TabOK P Γ) (h : Conc N0 w0 nt σ φ a w) {d : Option Tmp} {f : Operand} {xs : List Operand} {us : Array TypeId} {t : TypeId} {p : String} {af : Array Edge} {g : Option (Nat × Bool)} (hd : ∀ t, d = some t → t < nt) {n : Nat} {σ' : St}
    (hr : callV Γ σ d (σ.ev f) (σ.evL xs) = some σ') : GoodC P ⟨d, .call ⟨.value f, ⟨xs⟩, us⟩, t, p, af, g⟩ a w N0 w0 nt φ n σ' := by
  have hf := h.ev f
  cases hc : σ.ev f <;> simp only [hc, callV] at hr <;> try (simp at hr; done)
  rename_i q caps
  rw [hc] at hf
  simp only [Rep] at hf
  obtain ⟨cvs, hfv, hcr⟩ := hf
  have hargs := RepL_append (evL_rep h xs) hcr
  unfold callX at hr
  cases hv : viewL σ.H (σ.evL xs ++ caps) with
  | none => simp [hv] at hr
  | some bs =>
    simp only [hv, Option.bind_some] at hr
    cases hg : Γ.f q bs with
    | none => simp [hg] at hr
    | some r =>
      simp only [hg, Option.bind_some] at hr
      split at hr
      · rename_i hpf
        obtain rfl := Option.some.inj hr
        obtain ⟨hcall, hA⟩ := hΓ.f q bs r hg
        have hlt : ∀ b, (envOf N0 φ w).N b → b < w.heap.size := by
          rintro b (h0 | ⟨m, k, hm⟩)
          · exact Nat.lt_of_lt_of_le (h.n0 b h0).1 h.below.size
          · exact (h.own m b k hm).2
        right
        refine ⟨q, (xs.map a.eval ++ cvs).toArray, ?_, ?_⟩
        · have : (Go.execOp a.eval ⟨d, .call ⟨.value f, ⟨xs⟩, us⟩, t, p, af, g⟩).run P w = (callFunc q (xs.map a.eval ++ cvs).toArray).run P w := by
            simp only [Go.execOp, resolve, hfv, Deferred.ofValue, Sem.run_bind, Sem.run_pure, Result.andThen_ok, invoke]
            congr 2
            apply Array.ext'
            simp
          rw [this]
          exact run_callFunc hcall _ w
        · by_cases hp : A.pure.pureL (σ.evL xs ++ caps) = true
          · obtain ⟨hvr, _⟩ := viewL_sound h hv hargs (N' := (envOf N0 φ w).N) (fun _ hb => hb) (.inl hp)
            refine Calls.mono (hA (envOf N0 φ w).N w _ hlt hvr) ?_
            rintro e w' ⟨v, r', rfl, rfl, hrep, hbel⟩
            have g := hbel
            refine ⟨v, φ, rfl, (h.grew g).put hd ?_, fun _ _ h => h⟩
            refine Rep.mono (K := fun _ => True) (E := ⟨(envOf N0 φ w).N, [], w'⟩) ?_ _ _ hrep (fun _ _ => trivial)
            exact {
              size := Nat.le_refl _
              blk := fun b _ hn => ⟨hn, rfl⟩
              refs := fun m o _ hm => by simp at hm
              own := fun m b k c e fr _ hm => by simp at hm }
          · have hflat : r.flat = true := by simpa [hp] using hpf
            obtain ⟨hvr, _⟩ := viewL_sound h hv hargs (N' := N0) (fun _ hb => .inl hb) (.inr (own_not_n0 h))
            refine Calls.mono (hA N0 w _ (fun b hb => hlt b (.inl hb)) hvr) ?_
            rintro e w' ⟨v, r', rfl, rfl, hrep, hbel⟩
            have g := hbel
            exact ⟨v, φ, rfl, (h.grew g).put hd (rep_flat _ _ hflat hrep), fun _ _ h => h⟩
      · simp at hr
end
end Go.Abs
namespace Go.Abs
open Go.RowKit
def locN (N0 : Nat → Prop) (φ : List Own) (ρ : List Nat) (b : Nat) : Prop := N0 b ∨ ∃ n k : Nat, φ[n]? = some (Own.loc b k) ∧ n ∉ ρ
def locφ (φ : List Own) (ρ : List Nat) : List Own := ρ.map fun n => φ.getD n .free
theorem locφ_get {φ : List Own} {ρ : List Nat} (hlt : ∀ n ∈ ρ, n < φ.length) {i n : Nat} (h : ρ[i]? = some n) : (locφ φ ρ)[i]? = φ[n]? := by
  have hn := hlt n (List.mem_of_getElem? h)
  simp [locφ, List.getElem?_map, h, hn]
theorem locφ_get' {φ : List Own} {ρ : List Nat} (hlt : ∀ n ∈ ρ, n < φ.length) {i : Nat} {p : Own} (h : (locφ φ ρ)[i]? = some p) : ∃ n, ρ[i]? = some n ∧ n ∈ ρ ∧ φ[n]? = some p := by
  cases hi : ρ[i]? with
  | none => simp [locφ, List.getElem?_map, hi] at h
  | some n => exact ⟨n, rfl, List.mem_of_getElem? hi, by rw [← locφ_get hlt hi]; exact h⟩
theorem idx_get : ∀ {ρ : List Nat} {n i : Nat}, idx ρ n = some i → ρ[i]? = some n
  | [], _, _, h => by simp [idx] at h
  | m :: ms, n, i, h => by
    simp only [idx] at h
    split at h
    · rename_i e; subst e; obtain rfl := Option.some.inj h; rfl
    · cases hm : idx ms n with
      | none => simp [hm] at h
      | some j =>
        simp [hm] at h
        subst h
        simpa using idx_get hm
theorem nthN_get : ∀ {ρ : List Nat} {m i n : Nat}, ρ[i]? = some n → nthN ρ m i = n
  | [], _, _, _, h => by simp at h
  | k :: ks, m, 0, n, h => by simpa [nthN] using h
  | k :: ks, m, i + 1, n, h => by simp only [nthN]; exact nthN_get (by simpa using h)
theorem nthN_new : ∀ {ρ : List Nat} {m i : Nat}, nthN ρ m (ρ.length + i) = m + i
  | [], m, i => by simp [nthN]
  | k :: ks, m, i => by
    rw [show (k :: ks).length + i = (ks.length + i) + 1 by simp; omega]
    simp only [nthN]; exact nthN_new
section
variable {N0 : Nat → Prop} {φ : List Own} {ρ : List Nat} {w : World}
theorem locN_env (hlt : ∀ n ∈ ρ, n < φ.length) (b : Nat) : (envOf (locN N0 φ ρ) (locφ φ ρ) w).N b ↔ (envOf N0 φ w).N b := by
  constructor
  · rintro ((h0 | ⟨n, k, hn, _⟩) | ⟨i, k, hi⟩)
    · exact .inl h0
    · exact .inr ⟨n, k, hn⟩
    · obtain ⟨n, _, _, hn⟩ := locφ_get' hlt hi
      exact .inr ⟨n, k, hn⟩
  · rintro (h0 | ⟨n, k, hn⟩)
    · exact .inl (.inl h0)
    · by_cases hρ : n ∈ ρ
      · obtain ⟨i, hi⟩ := List.getElem?_of_mem hρ
        exact .inr ⟨i, k, by rw [locφ_get hlt hi]; exact hn⟩
      · exact .inl (.inr ⟨n, k, hn, hρ⟩)
mutual
theorem rep_ren (hlt : ∀ n ∈ ρ, n < φ.length) : ∀ (x : A) (v : Value) (x' : A), Rep (envOf N0 φ w) x v → x.ren ρ = some x' → Rep (envOf (locN N0 φ ρ) (locφ φ ρ) w) x' v
  | .any, v, x', h, hx => by simp only [A.ren, Option.some.injEq] at hx; subst hx; simp only [Rep]
  | .int _ _, v, x', h, hx => by simp only [A.ren, Option.some.injEq] at hx; subst hx; simpa only [Rep] using h
  | .bool _, v, x', h, hx => by simp only [A.ren, Option.some.injEq] at hx; subst hx; simpa only [Rep] using h
  | .str _, v, x', h, hx => by simp only [A.ren, Option.some.injEq] at hx; subst hx; simpa only [Rep] using h
  | .nils, v, x', h, hx => by simp only [A.ren, Option.some.injEq] at hx; subst hx; simpa only [Rep] using h
  | .nilp, v, x', h, hx => by simp only [A.ren, Option.some.injEq] at hx; subst hx; simpa only [Rep] using h
  | .emp _, v, x', h, hx => by simp only [A.ren, Option.some.injEq] at hx; subst hx; simpa only [Rep] using h
  | .slc es, v, x', h, hx => by
    simp only [A.ren, Option.some.injEq] at hx; subst hx
    exact Rep.pure_mono (E := envOf N0 φ w) (E' := envOf (locN N0 φ ρ) (locφ φ ρ) w) rfl (fun b hb h' => hb ((locN_env hlt b).1 h')) (by simp [A.pure]) h
  | .clip es, v, x', h, hx => by
    simp only [A.ren, Option.some.injEq] at hx; subst hx
    exact Rep.pure_mono (E := envOf N0 φ w) (E' := envOf (locN N0 φ ρ) (locφ φ ρ) w) rfl (fun b hb h' => hb ((locN_env hlt b).1 h')) (by simp [A.pure]) h
  | .dptr es, v, x', h, hx => by
    simp only [A.ren, Option.some.injEq] at hx; subst hx
    exact Rep.pure_mono (E := envOf N0 φ w) (E' := envOf (locN N0 φ ρ) (locφ φ ρ) w) rfl (fun b hb h' => hb ((locN_env hlt b).1 h')) (by simp [A.pure]) h
  | .agg cs, v, x', h, hx => by
    simp only [A.ren] at hx
    obtain ⟨cs', h1, rfl⟩ := Option.map_eq_some_iff.1 hx
    simp only [Rep] at h ⊢
    obtain ⟨vs, hv, hl, ho⟩ := h
    exact ⟨vs, hv, repL_ren hlt cs vs cs' hl h1, ho⟩
  | .fn f cs, v, x', h, hx => by
    simp only [A.ren] at hx
    obtain ⟨cs', h1, rfl⟩ := Option.map_eq_some_iff.1 hx
    simp only [Rep] at h ⊢
    obtain ⟨vs, hv, hl⟩ := h
    exact ⟨vs, hv, repL_ren hlt cs vs cs' hl h1⟩
  | .tup cs, v, x', h, hx => by
    simp only [A.ren] at hx
    obtain ⟨cs', h1, rfl⟩ := Option.map_eq_some_iff.1 hx
    simp only [Rep] at h ⊢
    obtain ⟨vs, hv, hl⟩ := h
    exact ⟨vs, hv, repL_ren hlt cs vs cs' hl h1⟩
  | .ref n o, v, x', h, hx => by
    simp only [A.ren] at hx
    obtain ⟨i, h1, rfl⟩ := Option.map_eq_some_iff.1 hx
    simp only [Rep] at h ⊢
    obtain ⟨b, k, hb, hv⟩ := h
    exact ⟨b, k, by show (locφ φ ρ)[i]? = _; rw [locφ_get hlt (idx_get h1)]; exact hb, hv⟩
  | .eref n j o, v, x', h, hx => by
    simp only [A.ren] at hx
    obtain ⟨i, h1, rfl⟩ := Option.map_eq_some_iff.1 hx
    simp only [Rep] at h ⊢
    obtain ⟨b, k, hb, hv⟩ := h
    exact ⟨b, k, by show (locφ φ ρ)[i]? = _; rw [locφ_get hlt (idx_get h1)]; exact hb, hv⟩
  | .row n o k l c, v, x', h, hx => by
    simp only [A.ren] at hx
    obtain ⟨i, h1, rfl⟩ := Option.map_eq_some_iff.1 hx
    simp only [Rep] at h ⊢
    have e : (locφ φ ρ)[i]? = φ[n]? := locφ_get hlt (idx_get h1)
    rcases h with ⟨p, hp, r⟩ | ⟨b, cap, c', e', fr, hp, r⟩
    · exact .inl ⟨p, by show (locφ φ ρ)[i]? = _; rw [e]; exact hp, r⟩
    · exact .inr ⟨b, cap, c', e', fr, by show (locφ φ ρ)[i]? = _; rw [e]; exact hp, r⟩
theorem repL_ren (hlt : ∀ n ∈ ρ, n < φ.length) : ∀ (cs : List A) (vs : List Value) (cs' : List A), RepL (envOf N0 φ w) cs vs → A.ren.renL ρ cs = some cs' → RepL (envOf (locN N0 φ ρ) (locφ φ ρ) w) cs' vs
  | [], vs, cs', h, hx => by simp only [A.ren.renL, Option.some.injEq] at hx; subst hx; simpa only [RepL] using h
  | c :: cs, vs, cs', h, hx => by
    simp only [A.ren.renL] at hx
    obtain ⟨c', h1, hx⟩ := Option.bind_eq_some_iff.1 hx
    obtain ⟨ds, h2, rfl⟩ := Option.map_eq_some_iff.1 hx
    simp only [RepL] at h ⊢
    obtain ⟨v, vs', hv, hc, hl⟩ := h
    exact ⟨v, vs', hv, rep_ren hlt c v c' hc h1, repL_ren hlt cs vs' ds hl h2⟩
end
theorem renL_get : ∀ {cs ds : List A}, A.ren.renL ρ cs = some ds → cs.length = ds.length ∧ ∀ (i : Nat) (c d : A), cs[i]? = some c → ds[i]? = some d → c.ren ρ = some d
  | [], ds, h => by simp only [A.ren.renL, Option.some.injEq] at h; subst h; exact ⟨rfl, fun i c d h => by simp at h⟩
  | c :: cs, ds, h => by
    simp only [A.ren.renL] at h
    obtain ⟨c', h1, hx⟩ := Option.bind_eq_some_iff.1 h
    obtain ⟨es, h2, rfl⟩ := Option.map_eq_some_iff.1 hx
    obtain ⟨g1, g2⟩ := renL_get h2
    refine ⟨by simp [g1], fun i x y hx hy => ?_⟩
    cases i with
    | zero => simp at hx hy; subst hx; subst hy; exact h1
    | succ i => exact g2 i x y (by simpa using hx) (by simpa using hy)
theorem objRel_ren (hlt : ∀ n ∈ ρ, n < φ.length) {o o' : Obj} {p : Own} (h : ObjRel (envOf N0 φ w) o p) (ho : o.ren ρ = some o') : ObjRel (envOf (locN N0 φ ρ) (locφ φ ρ) w) o' p := by
  cases o with
  | box cs =>
    simp only [Obj.ren] at ho
    obtain ⟨cs', h1, rfl⟩ := Option.map_eq_some_iff.1 ho
    obtain ⟨g1, g2⟩ := renL_get h1
    cases p with
    | loc b k =>
      simp only [ObjRel] at h ⊢
      refine ⟨h.1, RepM_iff.2 fun i y hy => ?_⟩
      have hi : i < cs.length := by rw [g1]; exact (List.getElem?_eq_some_iff.1 hy).1
      obtain ⟨v, hv, h1', hr⟩ := RepM_iff.1 h.2 i _ (List.getElem?_eq_getElem hi)
      exact ⟨v, hv, h1', rep_ren hlt _ v y hr (g2 i _ y (List.getElem?_eq_getElem hi) hy)⟩
    | nil => simp [ObjRel] at h
    | free => simp [ObjRel] at h
  | row k es =>
    simp only [Obj.ren, Option.some.injEq] at ho
    subst ho
    cases p with
    | loc b k' =>
      simp only [ObjRel] at h ⊢
      exact ⟨h.1, h.2.1, h.2.2.1, RepE.pure_mono (E := envOf N0 φ w) (E' := envOf (locN N0 φ ρ) (locφ φ ρ) w) rfl (fun b hb h' => hb ((locN_env hlt b).1 h')) h.2.1 h.2.2.2⟩
    | nil => simpa only [ObjRel] using h
    | free => simpa only [ObjRel] using h
theorem renH_get {H : List Obj} : ∀ {ns : List Nat} {H₀ : List Obj}, renH ρ H ns = some H₀ → ns.length = H₀.length ∧ (∀ n ∈ ns, n < H.length) ∧ ∀ (i n : Nat) (o : Obj), ns[i]? = some n → H₀[i]? = some o → ∃ o', H[n]? = some o' ∧ o'.ren ρ = some o
  | [], H₀, h => by simp only [renH, Option.some.injEq] at h; subst h; exact ⟨rfl, by simp, fun i n o h => by simp at h⟩
  | m :: ns, H₀, h => by
    simp only [renH] at h
    obtain ⟨o', h1, hx⟩ := Option.bind_eq_some_iff.1 h
    obtain ⟨H₁, h2, rfl⟩ := Option.map_eq_some_iff.1 hx
    obtain ⟨g1, g2, g3⟩ := renH_get h2
    rw [nthO_eq] at h1
    cases hm : H[m]? with
    | none => simp [hm, renO] at h1
    | some p =>
      rw [hm] at h1
      simp only [renO] at h1
      refine ⟨by simp [g1], fun n hn => ?_, fun i n o hi ho => ?_⟩
      · rcases List.mem_cons.1 hn with rfl | hn
        · exact (List.getElem?_eq_some_iff.1 hm).1
        · exact g2 n hn
      · cases i with
        | zero => simp at hi ho; subst hi; subst ho; exact ⟨p, hm, h1⟩
        | succ i => exact g3 i n o (by simpa using hi) (by simpa using ho)
end
theorem reach_nodup (H : List Obj) : ∀ (fuel : Nat) (todo acc : List Nat), acc.Nodup → (reach H fuel todo acc).Nodup
  | 0, _, acc, h => by simpa only [reach] using h
  | _ + 1, [], acc, h => by simpa only [reach] using h
  | fuel + 1, n :: todo, acc, h => by
    simp only [reach]
    split
    · exact reach_nodup H fuel todo acc h
    · rename_i hn
      refine reach_nodup H fuel _ _ ?_
      rw [List.nodup_append]
      refine ⟨h, by simp, fun x hx y hy => ?_⟩
      simp at hy
      subst hy
      intro e
      subst e
      simp at hn
      exact hn hx
theorem reach_all (H : List Obj) (p : Nat → Prop) (hs : ∀ m, p m → ∀ n ∈ namesO (nthO H m), p n) : ∀ (fuel : Nat) (todo acc : List Nat), (∀ n ∈ todo, p n) → (∀ n ∈ acc, p n) → ∀ n ∈ reach H fuel todo acc, p n
  | 0, _, acc, _, h => by simpa only [reach] using h
  | _ + 1, [], acc, _, h => by simpa only [reach] using h
  | fuel + 1, n :: todo, acc, ht, h => by
    simp only [reach]
    split
    · exact reach_all H p hs fuel todo acc (fun m hm => ht m (by simp [hm])) h
    · refine reach_all H p hs fuel _ _ (fun m hm => ?_) (fun m hm => ?_)
      · rcases List.mem_append.1 hm with hm | hm
        · exact hs n (ht n (by simp)) m hm
        · exact ht m (by simp [hm])
      · rcases List.mem_append.1 hm with hm | hm
        · exact h m hm
        · simp at hm; subst hm; exact ht m (by simp)
mutual
theorem names_live {E : Env} : ∀ (x : A) (v : Value), Rep E x v → ∀ n ∈ x.names, E.φ[n]? ≠ some Own.free
  | .any, v, h, n, hn => by simp [A.names] at hn
  | .int _ _, v, h, n, hn => by simp [A.names] at hn
  | .bool _, v, h, n, hn => by simp [A.names] at hn
  | .str _, v, h, n, hn => by simp [A.names] at hn
  | .nils, v, h, n, hn => by simp [A.names] at hn
  | .nilp, v, h, n, hn => by simp [A.names] at hn
  | .emp _, v, h, n, hn => by simp [A.names] at hn
  | .slc _, v, h, n, hn => by simp [A.names] at hn
  | .clip _, v, h, n, hn => by simp [A.names] at hn
  | .dptr _, v, h, n, hn => by simp [A.names] at hn
  | .agg cs, v, h, n, hn => by
    simp only [Rep] at h
    obtain ⟨vs, _, hl, _⟩ := h
    exact namesL_live cs vs hl n (by simpa only [A.names] using hn)
  | .fn _ cs, v, h, n, hn => by
    simp only [Rep] at h
    obtain ⟨vs, _, hl⟩ := h
    exact namesL_live cs vs hl n (by simpa only [A.names] using hn)
  | .tup cs, v, h, n, hn => by
    simp only [Rep] at h
    obtain ⟨vs, _, hl⟩ := h
    exact namesL_live cs vs hl n (by simpa only [A.names] using hn)
  | .ref m o, v, h, n, hn => by
    simp only [A.names, List.mem_singleton] at hn; subst hn
    simp only [Rep] at h
    obtain ⟨b, k, hb, _⟩ := h
    rw [hb]; simp
  | .eref m j o, v, h, n, hn => by
    simp only [A.names, List.mem_singleton] at hn; subst hn
    simp only [Rep] at h
    obtain ⟨b, k, hb, _⟩ := h
    rw [hb]; simp
  | .row m o k l c, v, h, n, hn => by
    simp only [A.names, List.mem_singleton] at hn; subst hn
    simp only [Rep] at h
    rcases h with ⟨p, hp, hf, _⟩ | ⟨b, cap, c', e', fr, hp, _⟩
    · rw [hp]; intro e; exact hf (Option.some.inj e)
    · rw [hp]; simp
theorem namesL_live {E : Env} : ∀ (cs : List A) (vs : List Value), RepL E cs vs → ∀ n ∈ A.names.namesL cs, E.φ[n]? ≠ some Own.free
  | [], vs, h, n, hn => by simp [A.names.namesL] at hn
  | c :: cs, vs, h, n, hn => by
    simp only [RepL] at h
    obtain ⟨v, vs', _, hc, hl⟩ := h
    simp only [A.names.namesL, List.mem_append] at hn
    rcases hn with hn | hn
    · exact names_live c v hc n hn
    · exact namesL_live cs vs' hl n hn
end
section
variable {P : Program} {Γ : Tab} {N0 : Nat → Prop} {w0 : Base} {nt : Nat} {σ : St} {φ : List Own} {a : Act} {w : World} {ρ : List Nat}
theorem reach_live (h : Conc N0 w0 nt σ φ a w) {aq : List A} {vs : List Value} (hr : RepL (envOf N0 φ w) aq vs) (fuel : Nat) : ∀ n ∈ reach σ.H fuel (A.names.namesL aq) [], φ[n]? ≠ some Own.free := by
  refine reach_all σ.H (fun n => φ[n]? ≠ some Own.free) (fun m hm n hn => ?_) fuel _ _ (fun n hn => namesL_live (E := envOf N0 φ w) aq vs hr n hn) (by simp)
  cases ho : nthO σ.H m with
  | none => rw [ho] at hn; simp [namesO] at hn
  | some o =>
    rw [ho] at hn
    cases o with
    | row k es => simp [namesO, Obj.names] at hn
    | box cs =>
      simp only [namesO, Obj.names] at hn
      have hlt : m < φ.length := by rw [h.len]; rw [nthO_eq] at ho; exact (List.getElem?_eq_some_iff.1 ho).1
      have hob := h.objs m _ _ ho (List.getElem?_eq_getElem hlt)
      cases hp : φ[m] with
      | loc b k =>
        rw [hp] at hob
        simp only [ObjRel] at hob
        obtain ⟨us, _, hL, _⟩ := RepM_vals hob.2
        exact namesL_live (E := envOf N0 φ w) cs us hL n hn
      | nil => rw [hp] at hob; simp [ObjRel] at hob
      | free => rw [hp] at hob; simp [ObjRel] at hob
theorem Conc.loc (h : Conc N0 w0 nt σ φ a w) (hnd : ρ.Nodup) {H₀ : List Obj} (hH : renH ρ σ.H ρ = some H₀) : (∀ n ∈ ρ, n < φ.length) ∧ HeapRel (locN N0 φ ρ) (locφ φ ρ) H₀ w := by
  obtain ⟨g1, g2, g3⟩ := renH_get hH
  have hlt : ∀ n ∈ ρ, n < φ.length := fun n hn => by rw [h.len]; exact g2 n hn
  refine ⟨hlt, {
    len := by simp [locφ, g1]
    objs := fun i o p ho hp => ?_
    own := fun i b k hi => ?_
    inj := fun i j b k k' hi hj => ?_ }⟩
  · obtain ⟨n, hn, _, hφ⟩ := locφ_get' hlt hp
    rw [nthO_eq] at ho
    obtain ⟨o', ho', hren⟩ := g3 i n o hn ho
    exact objRel_ren hlt (h.objs n o' p (by rw [nthO_eq]; exact ho') hφ) hren
  · obtain ⟨n, hn, hm, hφ⟩ := locφ_get' hlt hi
    refine ⟨(h.own n b k hφ).2, ?_⟩
    rintro (h0 | ⟨n', k', hn', hρ⟩)
    · rcases (h.own n b k hφ).1 with h1 | h1
      · have := (h.n0 b h0).1; omega
      · exact (h.n0 b h0).2 h1
    · exact hρ ((h.inj n n' b k k' hφ hn') ▸ hm)
  · obtain ⟨n, hn, _, hφ⟩ := locφ_get' hlt hi
    obtain ⟨n', hn', _, hφ'⟩ := locφ_get' hlt hj
    obtain rfl := h.inj n n' b k k' hφ hφ'
    have hi1 := (List.getElem?_eq_some_iff.1 hn).1
    have hj1 := (List.getElem?_eq_some_iff.1 hn').1
    exact (List.getElem_inj hnd).1 (by rw [(List.getElem?_eq_some_iff.1 hn).2, (List.getElem?_eq_some_iff.1 hn').2])
def backG {α : Type} : List Nat → List α → List α → List α
  | [], os, xs => xs ++ os
  | n :: ns, o :: os, xs => backG ns os (xs.set n o)
  | _ :: _, [], xs => xs
theorem backH_eq (ρ' : List Nat) (m : Nat) : ∀ (ns : List Nat) (os H : List Obj), backH ρ' m ns os H = backG ns (os.map (Obj.back ρ' m)) H
  | [], os, H => rfl
  | n :: ns, o :: os, H => by simp only [backH, List.map_cons, backG, setO_eq]; exact backH_eq ρ' m ns os _
  | _ :: _, [], H => rfl
theorem backG_old {α : Type} : ∀ {ns : List Nat} {os xs : List α}, ns.length ≤ os.length → ∀ {j : Nat}, j ∉ ns → j < xs.length → (backG ns os xs)[j]? = xs[j]?
  | [], os, xs, _, j, _, hj => by simp only [backG]; exact List.getElem?_append_left hj
  | n :: ns, [], xs, h, _, _, _ => by simp at h
  | n :: ns, o :: os, xs, h, j, hn, hj => by
    simp only [backG]
    rw [backG_old (by simpa using h) (fun h' => hn (by simp [h'])) (by simpa using hj), List.getElem?_set_ne (fun e => hn (by simp [e]))]
theorem backG_new {α : Type} : ∀ {ns : List Nat} {os xs : List α}, ns.length ≤ os.length → ns.Nodup → (∀ n ∈ ns, n < xs.length) → ∀ i, (backG ns os xs)[nthN ns xs.length i]? = os[i]?
  | [], os, xs, _, _, _, i => by
    simp only [backG, nthN]
    rw [List.getElem?_append_right (by omega), Nat.add_sub_cancel_left]
  | n :: ns, [], xs, h, _, _, _ => by simp at h
  | n :: ns, o :: os, xs, h, hnd, hlt, i => by
    simp only [backG]
    rw [List.nodup_cons] at hnd
    cases i with
    | zero =>
      simp only [nthN]
      rw [backG_old (by simpa using h) hnd.1 (by simpa using hlt n (by simp))]
      simp [hlt n (by simp)]
    | succ i =>
      simp only [nthN]
      have := backG_new (ns := ns) (os := os) (xs := xs.set n o) (by simpa using h) hnd.2 (fun m hm => by simpa using hlt m (by simp [hm])) i
      simpa using this
theorem backG_len {α : Type} : ∀ {ns : List Nat} {os xs : List α}, ns.length ≤ os.length → (backG ns os xs).length = xs.length + (os.length - ns.length)
  | [], os, xs, _ => by simp [backG]
  | n :: ns, [], xs, h => by simp at h
  | n :: ns, o :: os, xs, h => by
    simp only [backG]
    rw [backG_len (by simpa using h)]
    simp
theorem backG_cases {α : Type} {ns : List Nat} {os xs : List α} (h : ns.length ≤ os.length) (hnd : ns.Nodup) (hlt : ∀ n ∈ ns, n < xs.length) {j : Nat} {x : α} (hj : (backG ns os xs)[j]? = some x) :
    (∃ i, j = nthN ns xs.length i ∧ os[i]? = some x) ∨ (j ∉ ns ∧ j < xs.length ∧ xs[j]? = some x) := by
  have hl := (List.getElem?_eq_some_iff.1 hj).1
  rw [backG_len h] at hl
  by_cases h1 : j < xs.length
  · by_cases h2 : j ∈ ns
    · obtain ⟨i, hi⟩ := List.getElem?_of_mem h2
      have := nthN_get (m := xs.length) hi
      refine .inl ⟨i, this.symm, ?_⟩
      rw [← backG_new h hnd hlt i, this]; exact hj
    · exact .inr ⟨h2, h1, by rw [← backG_old h h2 h1]; exact hj⟩
  · refine .inl ⟨ns.length + (j - xs.length), by rw [nthN_new]; omega, ?_⟩
    rw [← backG_new h hnd hlt, nthN_new, show xs.length + (j - xs.length) = j by omega]; exact hj
mutual
theorem rep_back {El E : Env} {m : Nat} (hw : El.w = E.w) (hN : ∀ b, ¬ El.N b → ¬ E.N b) (hφ : ∀ (i : Nat) (p : Own), El.φ[i]? = some p → E.φ[nthN ρ m i]? = some p) : ∀ (x : A) (v : Value), Rep El x v → Rep E (x.back ρ m) v
  | .any, v, h => by simp only [A.back, Rep]
  | .int _ _, v, h => by simpa only [A.back, Rep] using h
  | .bool _, v, h => by simpa only [A.back, Rep] using h
  | .str _, v, h => by simpa only [A.back, Rep] using h
  | .nils, v, h => by simpa only [A.back, Rep] using h
  | .nilp, v, h => by simpa only [A.back, Rep] using h
  | .emp _, v, h => by simpa only [A.back, Rep] using h
  | .slc es, v, h => by simp only [A.back]; exact Rep.pure_mono hw.symm hN (by simp [A.pure]) h
  | .clip es, v, h => by simp only [A.back]; exact Rep.pure_mono hw.symm hN (by simp [A.pure]) h
  | .dptr es, v, h => by simp only [A.back]; exact Rep.pure_mono hw.symm hN (by simp [A.pure]) h
  | .agg cs, v, h => by
    simp only [A.back, Rep] at h ⊢
    obtain ⟨vs, hv, hl, ho⟩ := h
    exact ⟨vs, hv, repL_back hw hN hφ cs vs hl, ho⟩
  | .fn f cs, v, h => by
    simp only [A.back, Rep] at h ⊢
    obtain ⟨vs, hv, hl⟩ := h
    exact ⟨vs, hv, repL_back hw hN hφ cs vs hl⟩
  | .tup cs, v, h => by
    simp only [A.back, Rep] at h ⊢
    obtain ⟨vs, hv, hl⟩ := h
    exact ⟨vs, hv, repL_back hw hN hφ cs vs hl⟩
  | .ref n o, v, h => by
    simp only [A.back, Rep] at h ⊢
    obtain ⟨b, k, hb, hv⟩ := h
    exact ⟨b, k, hφ n _ hb, hv⟩
  | .eref n j o, v, h => by
    simp only [A.back, Rep] at h ⊢
    obtain ⟨b, k, hb, hv⟩ := h
    exact ⟨b, k, hφ n _ hb, hv⟩
  | .row n o k l c, v, h => by
    simp only [A.back, Rep] at h ⊢
    rcases h with ⟨p, hp, r⟩ | ⟨b, cap, c', e', fr, hp, r⟩
    · exact .inl ⟨p, hφ n _ hp, r⟩
    · exact .inr ⟨b, cap, c', e', fr, hφ n _ hp, by rw [← hw]; exact r⟩
theorem repL_back {El E : Env} {m : Nat} (hw : El.w = E.w) (hN : ∀ b, ¬ El.N b → ¬ E.N b) (hφ : ∀ (i : Nat) (p : Own), El.φ[i]? = some p → E.φ[nthN ρ m i]? = some p) : ∀ (cs : List A) (vs : List Value), RepL El cs vs → RepL E (A.back.backL ρ m cs) vs
  | [], vs, h => by simpa only [A.back.backL, RepL] using h
  | c :: cs, vs, h => by
    simp only [A.back.backL, RepL] at h ⊢
    obtain ⟨v, vs', hv, hc, hl⟩ := h
    exact ⟨v, vs', hv, rep_back hw hN hφ c v hc, repL_back hw hN hφ cs vs' hl⟩
end
theorem backL_get {m : Nat} : ∀ {cs : List A} {i : Nat}, (A.back.backL ρ m cs)[i]? = (cs[i]?).map (A.back ρ m)
  | [], i => by simp [A.back.backL]
  | c :: cs, 0 => by simp [A.back.backL]
  | c :: cs, i + 1 => by simpa [A.back.backL] using backL_get (cs := cs) (i := i)
theorem objRel_back {El E : Env} {m : Nat} (hw : El.w = E.w) (hN : ∀ b, ¬ El.N b → ¬ E.N b) (hφ : ∀ (i : Nat) (p : Own), El.φ[i]? = some p → E.φ[nthN ρ m i]? = some p) {o : Obj} {p : Own} (h : ObjRel El o p) : ObjRel E (o.back ρ m) p := by
  cases o with
  | box cs =>
    cases p with
    | loc b k =>
      simp only [Obj.back, ObjRel] at h ⊢
      refine ⟨by rw [← hw]; exact h.1, RepM_iff.2 fun i y hy => ?_⟩
      rw [backL_get] at hy
      obtain ⟨x, hx, rfl⟩ := Option.map_eq_some_iff.1 hy
      obtain ⟨v, hv, h1, hr⟩ := RepM_iff.1 h.2 i x hx
      exact ⟨v, by rw [← hw]; exact hv, h1, rep_back hw hN hφ x v hr⟩
    | nil => simp [ObjRel] at h
    | free => simp [ObjRel] at h
  | row k es =>
    cases p with
    | loc b k' =>
      simp only [Obj.back, ObjRel] at h ⊢
      exact ⟨h.1, h.2.1, by rw [← hw]; exact h.2.2.1, RepE.pure_mono hw.symm hN h.2.1 h.2.2.2⟩
    | nil => simpa only [Obj.back, ObjRel] using h
    | free => simpa only [Obj.back, ObjRel] using h
theorem Clear.scrub {m : Nat} (h : Clear σ m) (n : Nat) : Clear (σ.scrub n) m := by
  have one : ∀ x : A, x.mem m = false → (scrubA n x).mem m = false := fun x hx => by
    unfold scrubA
    split
    · rfl
    · exact hx
  refine ⟨fun d => ?_, fun j cs hj => ?_⟩
  · show (look (σ.s.map fun p => (p.1, scrubA n p.2)) d).mem m = false
    rw [look_map]; exact one _ (h.1 d)
  · simp only [St.scrub] at hj
    rw [nthO_map] at hj
    cases ho : nthO σ.H j with
    | none => simp [ho] at hj
    | some o =>
      simp [ho] at hj
      cases o with
      | row k es => simp [scrubO] at hj
      | box ds =>
        simp [scrubO] at hj
        subst hj
        have hd := h.2 j ds ho
        clear ho
        induction ds with
        | nil => rfl
        | cons y ys ih =>
          simp only [A.mem.memL, Bool.or_eq_false_iff] at hd
          simp only [List.map_cons, A.mem.memL, Bool.or_eq_false_iff]
          exact ⟨one y hd.1, ih hd.2⟩
theorem Conc.scrubs {m : Nat} : ∀ {S : List Nat} {σ : St}, Conc N0 w0 nt σ φ a w → Conc N0 w0 nt (Go.Abs.scrubs ρ m σ S) φ a w ∧ (∀ j, Clear σ j → Clear (Go.Abs.scrubs ρ m σ S) j) ∧ (∀ i ∈ S, Clear (Go.Abs.scrubs ρ m σ S) (nthN ρ m i)) ∧ (Go.Abs.scrubs ρ m σ S).H.length = σ.H.length
  | [], σ, h => ⟨h, fun _ h => h, by simp, rfl⟩
  | i :: is, σ, h => by
    obtain ⟨h1, h2, h3, h4⟩ := Conc.scrubs (m := m) (S := is) (h.scrub (nthN ρ m i))
    refine ⟨h1, fun j hj => h2 j (hj.scrub _), fun j hj => ?_, h4.trans (by simp [St.scrub])⟩
    rcases List.mem_cons.1 hj with rfl | hj
    · exact h2 _ (clear_scrub σ _)
    · exact h3 j hj
theorem mayMove_spec {m : Nat} : ∀ {S : List Nat}, mayMove Γ ρ m S = true → ∀ i ∈ S, Γ.fix (nthN ρ m i) = false
  | [], _, i, hi => by simp at hi
  | j :: js, h, i, hi => by
    simp only [mayMove, Bool.and_eq_true, Bool.not_eq_true'] at h
    rcases List.mem_cons.1 hi with rfl | hi
    · exact h.1
    · exact mayMove_spec h.2 i hi
theorem Conc.turned (h : Conc N0 w0 nt σ φ a w) (hfx : w0.fix = Γ.fix) (hnd : ρ.Nodup) {H₀ : List Obj} (hH : renH ρ σ.H ρ = some H₀) {φl : List Own} {H' : List Obj} {S : List Nat} {w' : World} {r : A} {v : Value}
    (hrel : HeapRel (locN N0 φ ρ) φl H' w') (hT : TurnH (locφ φ ρ) w S φl w') (hlen : H₀.length ≤ H'.length) (hmv : mayMove Γ ρ σ.H.length S = true)
    (hr : Rep (envOf (locN N0 φ ρ) φl w') r v) {d : Option Tmp} (hd : ∀ t, d = some t → t < nt) :
    ∃ φ', Conc N0 w0 nt (callH2 σ d ρ (r, H', S)) φ' (a.put d v) w' ∧ ∀ m, m ∉ ρ → m < φ.length → φ'[m]? = φ[m]? := by
  obtain ⟨hlt, hloc⟩ := h.loc hnd hH
  obtain ⟨g1, g2, g3⟩ := renH_get hH
  obtain ⟨hs, _, hcl, hsl⟩ := Conc.scrubs (ρ := ρ) (m := σ.H.length) (S := S) h
  have hml : φ.length = σ.H.length := h.len
  have hle : ρ.length ≤ φl.length := by rw [hrel.len]; omega
  have hle' : ρ.length ≤ H'.length := by omega
  have hget : ∀ i, (backG ρ φl φ)[nthN ρ σ.H.length i]? = φl[i]? := fun i => by rw [← hml]; exact backG_new hle hnd hlt i
  have hold : ∀ j, j ∉ ρ → j < φ.length → (backG ρ φl φ)[j]? = φ[j]? := fun j h1 h2 => backG_old hle h1 h2
  have hcase : ∀ (j : Nat) (p : Own), (backG ρ φl φ)[j]? = some p → (∃ i, j = nthN ρ σ.H.length i ∧ φl[i]? = some p) ∨ (j ∉ ρ ∧ j < φ.length ∧ φ[j]? = some p) := fun j p hj => by
    rw [← hml]; exact backG_cases hle hnd hlt hj
  have hφi : ∀ (i : Nat) (p : Own), φl[i]? = some p → (backG ρ φl φ)[nthN ρ σ.H.length i]? = some p := fun i p hp => by rw [hget]; exact hp
  have hN : ∀ b, ¬ (envOf (locN N0 φ ρ) φl w').N b → ¬ (envOf N0 (backG ρ φl φ) w').N b := fun b hb => by
    rintro (h0 | ⟨j, k, hj⟩)
    · exact hb (.inl (.inl h0))
    · rcases hcase j _ hj with ⟨i, _, hi⟩ | ⟨h1, h2, h3⟩
      · exact hb (.inr ⟨i, k, hi⟩)
      · exact hb (.inl (.inr ⟨j, k, h3, h1⟩))
  have hfr : ∀ (j b k : Nat), j ∉ ρ → φ[j]? = some (Own.loc b k) → w'.heap[b]? = w.heap[b]? := fun j b k hj hb => by
    refine hT.block b (h.own j b k hb).2 fun i k' hi => ?_
    obtain ⟨n, _, hm, hn⟩ := locφ_get' hlt hi
    exact hj ((h.inj n j b k' k hn hb) ▸ hm)
  have hext : Ext (fun n => ∀ i ∈ S, nthN ρ σ.H.length i ≠ n) (envOf N0 φ w) (envOf N0 (backG ρ φl φ) w') := {
    size := hT.size
    blk := fun b hb hn => ⟨by
      rintro (h0 | ⟨j, k, hj⟩)
      · exact hn (.inl h0)
      · rcases hcase j _ hj with ⟨i, _, hi⟩ | ⟨h1, h2, h3⟩
        · rcases hT.own i b k hi with h' | ⟨i', k', hi'⟩
          · have : b < w.heap.size := hb
            omega
          · obtain ⟨n, _, _, hn'⟩ := locφ_get' hlt hi'
            exact hn (.inr ⟨n, k', hn'⟩)
        · exact hn (.inr ⟨j, k, h3⟩), hT.block b hb fun i k hi => by
      obtain ⟨n, _, _, hn'⟩ := locφ_get' hlt hi
      exact hn (.inr ⟨n, k, hn'⟩)⟩
    refs := fun n p hk hp hf => by
      show (backG ρ φl φ)[n]? = some p
      have hp' : φ[n]? = some p := hp
      by_cases hn : n ∈ ρ
      · obtain ⟨i, hi⟩ := List.getElem?_of_mem hn
        have e := nthN_get (m := σ.H.length) hi
        have hiS : i ∉ S := fun hS => hk i hS e
        rw [← e]
        exact hφi i p (hT.stay i p hiS (by rw [locφ_get hlt hi]; exact hp'))
      · rw [hold n hn (List.getElem?_eq_some_iff.1 hp').1]; exact hp'
    own := fun n b k c e fr _ hn hc => hT.shape b c e fr hc }
  have hconc : Conc N0 w0 nt ⟨(Go.Abs.scrubs ρ σ.H.length σ S).s, backH ρ σ.H.length ρ H' (Go.Abs.scrubs ρ σ.H.length σ S).H⟩ (backG ρ φl φ) a w' := {
    slots := fun t => Rep.mono hext _ _ (hs.slots t) fun n hn i hi e => by
      have := (hcl i hi).1 t
      rw [e] at this
      have hn' : (look (Go.Abs.scrubs ρ σ.H.length σ S).s t).mem n = true := hn
      rw [this] at hn'
      cases hn'
    size := h.size
    defers := h.defers
    len := by rw [backH_eq, backG_len hle, backG_len (by simpa using hle'), hsl, hml, hrel.len]; simp
    objs := fun j o p ho hp => by
      rw [nthO_eq, backH_eq] at ho
      have hltS : ∀ n ∈ ρ, n < (Go.Abs.scrubs ρ σ.H.length σ S).H.length := fun n hn => by rw [hsl, ← hml]; exact hlt n hn
      rcases hcase j p hp with ⟨i, rfl, hi⟩ | ⟨h1, h2, h3⟩
      · have := backG_new (os := H'.map (Obj.back ρ σ.H.length)) (by simpa using hle') hnd hltS i
        rw [hsl] at this
        rw [this, List.getElem?_map] at ho
        obtain ⟨o', ho', rfl⟩ := Option.map_eq_some_iff.1 ho
        exact objRel_back (El := envOf (locN N0 φ ρ) φl w') (E := envOf N0 (backG ρ φl φ) w') rfl hN hφi (hrel.objs i o' p (by rw [nthO_eq]; exact ho') hi)
      · rw [backG_old (by simpa using hle') h1 (by rw [hsl, ← hml]; exact h2)] at ho
        refine ObjRel.mono hext (hs.objs j o p (by rw [nthO_eq]; exact ho) h3) (fun b k hb c e fr hh => ?_) (fun cs hcs n hn i hi e => ?_)
        · subst hb
          show w'.heap[b]? = _
          rw [hfr j b k h1 h3]; exact hh
        · subst hcs; subst e
          have := (hcl i hi).2 j cs (by rw [nthO_eq]; exact ho)
          rw [this] at hn
          cases hn
    own := fun j b k hj => by
      rcases hcase j _ hj with ⟨i, _, hi⟩ | ⟨h1, h2, h3⟩
      · refine ⟨?_, (hrel.own i b k hi).1⟩
        rcases hT.own i b k hi with h' | ⟨i', k', hi'⟩
        · exact .inl (Nat.le_trans h.below.size h')
        · obtain ⟨n, _, _, hn'⟩ := locφ_get' hlt hi'
          exact (h.own n b k' hn').1
      · exact ⟨(h.own j b k h3).1, Nat.lt_of_lt_of_le (h.own j b k h3).2 hT.size⟩
    inj := fun j j' b k k' hj hj' => by
      rcases hcase j _ hj with ⟨i, e, hi⟩ | ⟨h1, h2, h3⟩ <;> rcases hcase j' _ hj' with ⟨i', e', hi'⟩ | ⟨h1', h2', h3'⟩
      · rw [e, e', hrel.inj i i' b k k' hi hi']
      · exact absurd (.inr ⟨j', k', h3', h1'⟩) (hrel.own i b k hi).2
      · exact absurd (.inr ⟨j, k, h3, h1⟩) (hrel.own i' b k' hi').2
      · exact h.inj j j' b k k' h3 h3'
    n0 := h.n0
    fixd := fun n p hf hp hfree => by
      have hp' := h.fixd n p hf hp hfree
      refine hext.refs n p (fun i hi e => ?_) hp' hfree
      have := mayMove_spec hmv i hi
      rw [e, ← hfx, hf] at this
      cases this
    below := {
      os := hT.os.trans h.below.os
      tape := hT.tape.trans h.below.tape
      output := hT.output.trans h.below.output
      drawn := fun hd => Nat.le_trans (h.below.drawn hd) (hT.drawn hd)
      size := Nat.le_trans h.below.size hT.size
      block := fun b hb hM => by
        rw [hT.block b (Nat.lt_of_lt_of_le hb h.below.size) fun i k hi => by
          obtain ⟨n, _, _, hn'⟩ := locφ_get' hlt hi
          rcases (h.own n b k hn').1 with h' | h'
          · omega
          · exact hM h']
        exact h.below.block b hb hM
      shape := fun b c e fr hc => by
        obtain ⟨c', fr', k1, k2⟩ := h.below.shape b c e fr hc
        obtain ⟨c'', fr'', k3, k4⟩ := hT.shape b c' e fr' k1
        exact ⟨c'', fr'', k3, k4.trans k2⟩ } }
  refine ⟨backG ρ φl φ, hconc.put hd ?_, fun m h1 h2 => hold m h1 h2⟩
  exact rep_back (El := envOf (locN N0 φ ρ) φl w') (E := envOf N0 (backG ρ φl φ) w') rfl hN hφi r v hr
theorem dropO_eq : ∀ (ns : List Nat) (H : List Obj), (dropO ρ ns H).length = H.length ∧ (∀ j, j ∉ ns → (dropO ρ ns H)[j]? = H[j]?) ∧ (∀ j, j ∈ ns → j < H.length → (dropO ρ ns H)[j]? = some (.row 0 []))
  | [], H => ⟨rfl, fun _ _ => rfl, fun j h => by simp at h⟩
  | n :: ns, H => by
    obtain ⟨h1, h2, h3⟩ := dropO_eq ns (setO H n (.row 0 []))
    simp only [dropO]
    rw [setO_eq] at h1 h2 h3 ⊢
    refine ⟨by simpa using h1, fun j hj => ?_, fun j hj hl => ?_⟩
    · rw [h2 j (fun h => hj (by simp [h])), List.getElem?_set_ne (fun e => hj (by simp [e]))]
    · by_cases hjn : j ∈ ns
      · exact h3 j hjn (by simpa using hl)
      · rcases List.mem_cons.1 hj with rfl | hj
        · rw [h2 _ hjn]; simp [hl]
        · exact absurd hj hjn
def dropφ : List Nat → List Own → List Own
  | [], φ => φ
  | n :: ns, φ => dropφ ns (φ.set n .free)
theorem dropφ_eq : ∀ (ns : List Nat) (φ : List Own), (dropφ ns φ).length = φ.length ∧ (∀ j, j ∉ ns → (dropφ ns φ)[j]? = φ[j]?) ∧ (∀ j, j ∈ ns → j < φ.length → (dropφ ns φ)[j]? = some .free)
  | [], φ => ⟨rfl, fun _ _ => rfl, fun j h => by simp at h⟩
  | n :: ns, φ => by
    obtain ⟨h1, h2, h3⟩ := dropφ_eq ns (φ.set n .free)
    simp only [dropφ]
    refine ⟨by simpa using h1, fun j hj => ?_, fun j hj hl => ?_⟩
    · rw [h2 j (fun h => hj (by simp [h])), List.getElem?_set_ne (fun e => hj (by simp [e]))]
    · by_cases hjn : j ∈ ns
      · exact h3 j hjn (by simpa using hl)
      · rcases List.mem_cons.1 hj with rfl | hj
        · rw [h2 _ hjn]; simp [hl]
        · exact absurd hj hjn
theorem look_frz {H₀ : List Obj} : ∀ (s : List (Nat × A)) (d : Nat), look (s.map fun p => (p.1, frzA ρ H₀ p.2)) d = frzA ρ H₀ (look s d)
  | [], d => by
    have : A.meets ρ .any = false := by simp [A.meets, A.mem]
    simp [look, frzA, this]
  | (i, v) :: s, d => by
    simp only [List.map_cons, look]
    split
    · rfl
    · exact look_frz s d
theorem view_loc (h : Conc N0 w0 nt σ φ a w) (hnd : ρ.Nodup) {H₀ : List Obj} (hH : renH ρ σ.H ρ = some H₀) {x y : A} {v : Value} (hr : Rep (envOf (locN N0 φ ρ) (locφ φ ρ) w) x v) (hv : view H₀ x = some y) :
    Rep ⟨locN N0 φ ρ, [], w⟩ y v ∧ y.pure = true := by
  obtain ⟨hlt, hloc⟩ := h.loc hnd hH
  have hc : Conc (locN N0 φ ρ) { toWorld := w, M := fun b => ∃ n k : Nat, (locφ φ ρ)[n]? = some (Own.loc b k), fix := fun _ => false, φ0 := [] } a.tmps.size { s := [], H := H₀ } (locφ φ ρ) ⟨a.tmps, []⟩ w := {
    slots := fun d => by simp only [look, Rep]
    size := rfl
    defers := rfl
    len := hloc.len
    objs := hloc.objs
    own := fun n b k hn => ⟨.inr ⟨n, k, hn⟩, (hloc.own n b k hn).1⟩
    inj := hloc.inj
    n0 := fun b hb => ⟨by
      rcases hb with h0 | ⟨n, k, hn, _⟩
      · exact Nat.lt_of_lt_of_le (h.n0 b h0).1 h.below.size
      · exact (h.own n b k hn).2, by
      rintro ⟨n, k, hn⟩
      exact (hloc.own n b k hn).2 hb⟩
    fixd := fun n p hf => by cases hf
    below := Kept.refl _ }
  exact view_sound hc hv hr (N' := locN N0 φ ρ) ⟨fun b hb => .inl hb, .inr fun n b k hn => (hloc.own n b k hn).2⟩
theorem Conc.frozen (h : Conc N0 w0 nt σ φ a w) (hnd : ρ.Nodup) {H₀ : List Obj} (hH : renH ρ σ.H ρ = some H₀) (hfx : ∀ n ∈ ρ, w0.fix n = true → w0.φ0.length ≤ n) :
    Conc N0 w0 nt ⟨σ.s.map (fun p => (p.1, frzA ρ H₀ p.2)), dropO ρ ρ (σ.H.map (frzO ρ H₀))⟩ (dropφ ρ φ) a w ∧ (∀ b, locN N0 φ ρ b ↔ (envOf N0 (dropφ ρ φ) w).N b) := by
  obtain ⟨hlt, hloc⟩ := h.loc hnd hH
  obtain ⟨f1, f2, f3⟩ := dropφ_eq ρ φ
  obtain ⟨d1, d2, d3⟩ := dropO_eq (ρ := ρ) ρ (σ.H.map (frzO ρ H₀))
  have hat : ∀ m b k : Nat, (dropφ ρ φ)[m]? = some (Own.loc b k) → m ∉ ρ ∧ φ[m]? = some (.loc b k) := fun m b k hm => by
    by_cases hρ : m ∈ ρ
    · rw [f3 m hρ (hlt m hρ)] at hm; simp at hm
    · rw [f2 m hρ] at hm; exact ⟨hρ, hm⟩
  have hN : ∀ b, locN N0 φ ρ b ↔ (envOf N0 (dropφ ρ φ) w).N b := fun b => by
    constructor
    · rintro (h0 | ⟨n, k, hn, hρ⟩)
      · exact .inl h0
      · exact .inr ⟨n, k, by rw [f2 n hρ]; exact hn⟩
    · rintro (h0 | ⟨n, k, hn⟩)
      · exact .inl h0
      · obtain ⟨h1, h2⟩ := hat n b k hn
        exact .inr ⟨n, k, h2, h1⟩
  have hext : Ext (fun n => n ∉ ρ) (envOf N0 φ w) (envOf N0 (dropφ ρ φ) w) := {
    size := Nat.le_refl _
    blk := fun b _ hn => ⟨by
      rintro (h0 | ⟨m, k, hm⟩)
      · exact hn (.inl h0)
      · exact hn (.inr ⟨m, k, (hat m b k hm).2⟩), rfl⟩
    refs := fun m p hk hm _ => by
      show (dropφ ρ φ)[m]? = some p
      rw [f2 m hk]; exact hm
    own := fun m b k c e fr _ _ hc => ⟨c, fr, hc, rfl⟩ }
  have one : ∀ (x : A) (v : Value), Rep (envOf N0 φ w) x v → Rep (envOf N0 (dropφ ρ φ) w) (frzA ρ H₀ x) v := fun x v hx => by
    unfold frzA
    split
    · cases hren : x.ren ρ with
      | none => simp only [Rep]
      | some x' =>
        simp only
        have hl := rep_ren hlt x v x' hx hren
        cases hv : view H₀ x' with
        | none => simp only [Option.getD_none, Rep]
        | some y =>
          simp only [Option.getD_some]
          obtain ⟨hy, hp⟩ := view_loc h hnd hH hl hv
          exact Rep.pure_mono (E := ⟨locN N0 φ ρ, [], w⟩) (E' := envOf N0 (dropφ ρ φ) w) rfl (fun b hb h' => hb ((hN b).2 h')) hp hy
    · rename_i hm
      refine Rep.mono hext x v hx fun n hn hρ => ?_
      simp only [A.meets, List.any_eq_true, not_exists, not_and] at hm
      exact hm n hρ hn
  refine ⟨{
    slots := fun d => by
      show Rep _ (look (σ.s.map fun p => (p.1, frzA ρ H₀ p.2)) d) _
      rw [look_frz]
      exact one _ _ (h.slots d)
    size := h.size
    defers := h.defers
    len := by rw [f1, d1]; simp [h.len]
    objs := fun m o p ho hp => ?_
    own := fun m b k hm => h.own m b k (hat m b k hm).2
    inj := fun m m' b k k' hm hm' => h.inj m m' b k k' (hat m b k hm).2 (hat m' b k' hm').2
    n0 := h.n0
    fixd := fun n p hf hp hfree => by
      have hn : n ∉ ρ := fun hρ => by
        have h1 := hfx n hρ hf
        have h2 := (List.getElem?_eq_some_iff.1 hp).1
        omega
      rw [f2 n hn]; exact h.fixd n p hf hp hfree
    below := h.below }, hN⟩
  rw [nthO_eq] at ho
  by_cases hρ : m ∈ ρ
  · rw [d3 m hρ (by simpa [← h.len] using hlt m hρ)] at ho
    rw [f3 m hρ (hlt m hρ)] at hp
    obtain rfl := Option.some.inj ho
    obtain rfl := Option.some.inj hp
    simp [ObjRel]
  · rw [d2 m hρ, List.getElem?_map] at ho
    rw [f2 m hρ] at hp
    obtain ⟨o', ho', rfl⟩ := Option.map_eq_some_iff.1 ho
    have hob := h.objs m o' p (by rw [nthO_eq]; exact ho') hp
    cases o' with
    | row k es =>
      exact ObjRel.mono hext hob (fun b k _ c e fr hh => hh) (fun cs hcs => by cases hcs)
    | box cs =>
      cases p with
      | loc b k =>
        simp only [frzO, ObjRel] at hob ⊢
        refine ⟨hob.1, RepM_iff.2 fun i y hy => ?_⟩
        rw [List.getElem?_map] at hy
        obtain ⟨x, hx, rfl⟩ := Option.map_eq_some_iff.1 hy
        obtain ⟨v, hv, h1, hr⟩ := RepM_iff.1 hob.2 i x hx
        exact ⟨v, hv, h1, one x v hr⟩
      | nil => simp [ObjRel] at hob
      | free => simp [ObjRel] at hob
theorem viewL_loc (h : Conc N0 w0 nt σ φ a w) (hnd : ρ.Nodup) {H₀ : List Obj} (hH : renH ρ σ.H ρ = some H₀) {xs ys : List A} {vs : List Value} (hv : viewL H₀ xs = some ys) (hr : RepL (envOf (locN N0 φ ρ) (locφ φ ρ) w) xs vs) :
    RepL ⟨locN N0 φ ρ, [], w⟩ ys vs := by
  obtain ⟨h1, h2⟩ := viewL_get hv
  obtain ⟨g1, g2⟩ := RepL_iff.1 hr
  refine RepL_iff.2 ⟨by rw [← h1, g1], fun i c u hc hu => ?_⟩
  have hi : i < xs.length := by rw [h1]; exact (List.getElem?_eq_some_iff.1 hc).1
  exact (view_loc h hnd hH (g2 i _ u (List.getElem?_eq_getElem hi) hu) (h2 i _ c (List.getElem?_eq_getElem hi) hc)).1
theorem goodC_callH (hΓ : TabOK P Γ) (h : Conc N0 w0 nt σ φ a w) (hfx : w0.fix = Γ.fix) {d : Option Tmp} {f : Operand} {xs : List Operand} {us : Array TypeId} {t : TypeId} {p : String} {af : Array Edge} {g : Option (Nat × Bool)} (hd : ∀ t, d = some t → t < nt) {n : Nat} {σ' : St}
    (hr : callHV Γ σ d (σ.ev f) (σ.evL xs) = some σ') : GoodC P ⟨d, .call ⟨.value f, ⟨xs⟩, us⟩, t, p, af, g⟩ a w N0 w0 nt φ n σ' := by
  have hf := h.ev f
  cases hc : σ.ev f <;> simp only [hc, callHV] at hr <;> try (simp at hr; done)
  rename_i q caps
  rw [hc] at hf
  simp only [Rep] at hf
  obtain ⟨cvs, hfv, hcr⟩ := hf
  have hargs := RepL_append (evL_rep h xs) hcr
  unfold callH callH1 at hr
  have hnd := reach_nodup σ.H 64 (A.names.namesL (σ.evL xs ++ caps)) [] (by simp)
  have hlive := reach_live h hargs 64
  generalize hρ : reach σ.H 64 (A.names.namesL (σ.evL xs ++ caps)) [] = ρ at hr hnd hlive
  obtain ⟨as', h1, hr⟩ := Option.bind_eq_some_iff.1 hr
  obtain ⟨H₀, h2, hr⟩ := Option.bind_eq_some_iff.1 hr
  obtain ⟨hlt, hloc⟩ := h.loc hnd h2
  have hla := repL_ren hlt _ _ as' hargs h1
  have hlocn : ∀ b, locN N0 φ ρ b → b < w.heap.size := by
    rintro b (h0 | ⟨m, k, hm, _⟩)
    · exact Nat.lt_of_lt_of_le (h.n0 b h0).1 h.below.size
    · exact (h.own m b k hm).2
  have hrun : ∀ {q : FuncId}, Callable P q → a.eval f = .func (.func q) #[] cvs.toArray → (Go.execOp a.eval ⟨d, .call ⟨.value f, ⟨xs⟩, us⟩, t, p, af, g⟩).run P w = .ok (.enter q (xs.map a.eval ++ cvs).toArray) w := by
    intro q hq hfv
    have : (Go.execOp a.eval ⟨d, .call ⟨.value f, ⟨xs⟩, us⟩, t, p, af, g⟩).run P w = (callFunc q (xs.map a.eval ++ cvs).toArray).run P w := by
      simp only [Go.execOp, resolve, hfv, Deferred.ofValue, Sem.run_bind, Sem.run_pure, Result.andThen_ok, invoke]
      congr 2
      apply Array.ext'
      simp
    rw [this]
    exact run_callFunc hq _ w
  split at hr
  · rename_i hfz
    split at hr
    · rename_i hfixed
      obtain ⟨bs, hb, hr⟩ := Option.bind_eq_some_iff.1 hr
      obtain ⟨r, hg, rfl⟩ := Option.map_eq_some_iff.1 hr
      obtain ⟨hcall, hA⟩ := hΓ.f q bs r hg
      right
      refine ⟨q, _, hrun hcall hfv, ?_⟩
      obtain ⟨hfr, hN⟩ := h.frozen hnd h2 (fun m hm hf => by
        rw [List.all_eq_true] at hfixed
        have := hfixed m hm
        rw [hfx] at hf; simp [hf] at this)
      have hvr := viewL_loc h hnd h2 hb hla
      refine Calls.mono (hA (locN N0 φ ρ) w _ hlocn hvr) ?_
      rintro e w' ⟨v, r', rfl, rfl, hrep, hgr⟩
      refine ⟨v, dropφ ρ φ, rfl, (hfr.grew hgr).put hd ?_, fun m _ hm => ?_⟩
      · refine Rep.mono (K := fun _ => True) (E := ⟨locN N0 φ ρ, [], w'⟩) ?_ _ _ hrep (fun _ _ => trivial)
        exact {
          size := Nat.le_refl _
          blk := fun b _ hn => ⟨fun h' => hn ((hN b).2 h'), rfl⟩
          refs := fun m o _ hm => by simp at hm
          own := fun m b k c e fr _ hm => by simp at hm }
      · rw [(dropφ_eq ρ φ).2.1 m (fun hρ => hlive m hρ hm)]; exact hm
    · simp at hr
  · obtain ⟨⟨r, H', S⟩, hg, hr⟩ := Option.bind_eq_some_iff.1 hr
    split at hr
    · rename_i hmv
      obtain rfl := Option.some.inj hr
      obtain ⟨hcall, hA⟩ := hΓ.hp q as' H₀ r H' S hg
      right
      refine ⟨q, _, hrun hcall hfv, ?_⟩
      refine Calls.mono (hA (locN N0 φ ρ) (locφ φ ρ) w _ hlocn hloc (fun i hi => ?_) hla) ?_
      · obtain ⟨m, _, hm, hφ⟩ := locφ_get' hlt hi
        exact hlive m hm hφ
      · rintro e w' ⟨v, φl, rfl, hrep, hrel, hT, hlen⟩
        obtain ⟨φ', hc', hk⟩ := h.turned hfx hnd h2 hrel hT hlen hmv hrep hd
        exact ⟨v, φ', rfl, hc', fun m _ hm => by rw [hk m (fun hρ => hlive m hρ hm) (List.getElem?_eq_some_iff.1 hm).1]; exact hm⟩
    · simp at hr
end
end Go.Abs
namespace Go.Abs
open Go.RowKit
section
variable {P : Program} {Γ : Tab} {N0 : Nat → Prop} {w0 : Base} {nt : Nat} {σ : St} {φ : List Own} {a : Act} {w : World}
theorem execOp_sound (hΓ : TabOK P Γ) (h : Conc N0 w0 nt σ φ a w) {o : Oper} (hd : ∀ t, o.dst = some t → t < nt) {n : Nat} (hfx : w0.fix = Γ.fix) (hfree : allocs P o.op = true → φ[n]? = some .free) {σ' : St}
    (hr : execOp P Γ n o.dst o.op σ = some σ') : GoodC P o a w N0 w0 nt φ n σ' := by
  obtain ⟨d, op, t, p, af, g⟩ := o
  simp only at hd hfree hr
  unfold execOp at hr
  split at hr
  · exact .inl (goodW_alloc h hd (hfree rfl) hr)
  · exact .inl (goodW_boxOp h hd (hfree rfl) hr)
  · exact .inl (goodW_store h hd hr)
  · exact .inl (goodW_conv h hd (fun hb => hfree (by simpa [allocs] using hb)) hr)
  · exact .inl (goodW_append h hd (hfree rfl) hfx hr)
  · exact .inl (goodW_clear h hd hr)
  · split at hr
    · exact goodC_callH hΓ h hfx hd hr
    · exact goodC_call hΓ h hd hr
  · cases he : evalR P σ op with
    | none => simp [he] at hr
    | some r =>
      simp [he] at hr
      subst hr
      exact .inl (goodW_of_good h hd (o := ⟨d, op, t, p, af, g⟩) (evalR_sound h he))
theorem nthD_eq : ∀ (os : List Oper) (j : Nat), nthD (dstsOf os) j = (os[j]?).bind (·.dst)
  | [], j => by simp [dstsOf, nthD]
  | o :: os, 0 => by simp [dstsOf, nthD]
  | o :: os, j + 1 => by simp [dstsOf, nthD, nthD_eq os j]
theorem wanted_sound (h : Conc N0 w0 nt σ φ a w) {ops : Array Oper} {o : Oper} {b : Bool} (hw : wantA (dstsOf ops.toList) σ o.guard = some b) : Region.wanted o (yielded ops a.tmps) = b := by
  unfold wantA at hw
  unfold Region.wanted
  split at hw
  · rename_i hg
    simp only [hg]
    simpa using hw
  · rename_i j want hg
    simp only [hg]
    rw [nthD_eq] at hw
    unfold yielded
    have hops : ops.toList[j]? = ops[j]? := by simp
    rw [hops] at hw
    cases hj : (ops[j]?).bind (·.dst) with
    | none => simp [hj] at hw ⊢; exact hw
    | some t =>
      rw [hj] at hw
      simp only [Option.bind_some] at hw ⊢
      have hs := h.slots t
      have hget : a.tmps.getD t undef = (a.tmps[t]?).getD undef := by simp
      rw [hget] at hs
      cases ht : look σ.s t <;> rw [ht] at hw hs <;> simp only at hw <;> try (simp at hw; done)
      case bool c =>
        simp only [Rep] at hs
        cases hq : a.tmps[t]? with
        | none => simp [hq, undef] at hs
        | some v =>
          simp [hq] at hs
          subst hs
          simp at hw ⊢
          exact hw
      all_goals
        have hb := Option.some.inj hw
        subst hb
        cases hq : a.tmps[t]? with
        | none => rfl
        | some v =>
          simp only [hq, Option.getD_some] at hs
          cases v <;> first
            | rfl
            | (exfalso
               simp only [Rep] at hs
               first
                 | (simp at hs; done)
                 | (rcases hs with ⟨_, _, _, _, _, _, hs⟩ | ⟨_, _, _, _, _, _, hs, _⟩ <;> simp at hs; done)
                 | (obtain ⟨_, hs, _⟩ := hs; simp at hs; done)
                 | (obtain ⟨_, _, hs, _⟩ := hs; simp at hs; done)
                 | (obtain ⟨_, _, _, hs, _⟩ := hs; simp at hs; done)
                 | (obtain ⟨_, _, _, hs⟩ := hs; simp at hs; done))
theorem exec1_sound (hΓ : TabOK P Γ) (h : Conc N0 w0 nt σ φ a w) {ops : Array Oper} {i : Nat} {o : Oper} (ho : ops[i]? = some o) (hd : ∀ t, o.dst = some t → t < nt) {n : Nat} (hfx : w0.fix = Γ.fix) (hfree : allocs P o.op = true → φ[n]? = some .free) {σ' : St}
    (hr : exec1 P Γ (dstsOf ops.toList) n o σ = some σ') {Q : Exit → Act → World → Prop} {K : Act → World → Prop}
    (hK : ∀ φ' a' w', Conc N0 w0 nt σ' φ' a' w' → (∀ m, m ≠ n → φ[m]? = some .free → φ'[m]? = some .free) → K a' w') : wpOp P ops Q i K a w := by
  unfold exec1 at hr
  unfold wpOp
  simp only [ho]
  cases hw : wantA (dstsOf ops.toList) σ o.guard with
  | none => simp [hw] at hr
  | some b =>
    rw [wanted_sound h hw]
    simp only [hw] at hr
    cases b with
    | false =>
      simp at hr
      subst hr
      simp only [Bool.false_eq_true, if_false]
      exact hK φ _ _ (h.put hd (rep_undef _)) (fun _ _ h => h)
    | true =>
      simp only [if_true] at hr ⊢
      left
      unfold Oper.wp
      rcases execOp_sound hΓ h hd hfx hfree hr with ⟨v, w', φ', hrun, hc, hf⟩ | ⟨f, args, hrun, hcalls⟩
      · rcases hrun with hrun | ⟨hrun, rfl⟩
        · rw [hrun]; exact hK φ' _ _ hc hf
        · rw [hrun]; exact hK φ' _ _ hc hf
      · rw [hrun]
        simp only [Oper.upon]
        refine Calls.mono hcalls ?_
        rintro e w' ⟨v, φ', rfl, hc, hf⟩
        exact hK φ' _ _ hc hf
end
end Go.Abs
