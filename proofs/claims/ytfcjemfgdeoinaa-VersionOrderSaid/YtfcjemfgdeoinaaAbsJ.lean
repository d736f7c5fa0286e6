/- Soundness, seventh part: rows of elements as lists of values; slice literals; new objects; stores. -/
import Derived.Test.YtfcjemfgdeoinaaAbsI
namespace Go.Abs
open Go.RowKit

theorem rep_norm0 {E : Env} {x : A} {v : Value} (h : Rep E x v) : Rep E (norm0 x) v := by
  cases x <;> simp only [norm0] <;> try exact h
  · simp only [Rep] at h ⊢
    obtain ⟨hp, a, hv, hm⟩ := h
    exact ⟨hp, a, _, hv, Nat.le_refl _, hm⟩
  · simp only [Rep] at h ⊢
    exact ⟨rfl, none, 0, by simpa using h, Nat.le_refl _, fun hne => absurd rfl hne⟩
theorem repL_norm0 {E : Env} {cs : List A} {vs : List Value} (h : RepL E cs vs) : RepL E (cs.map norm0) vs := by
  obtain ⟨h1, h2⟩ := RepL_iff.1 h
  refine RepL_iff.2 ⟨by simpa using h1, fun i x v hx hv => ?_⟩
  rw [List.getElem?_map] at hx
  cases hc : cs[i]? with
  | none => simp [hc] at hx
  | some c => simp [hc] at hx; subst hx; exact rep_norm0 (h2 i c v hc hv)
theorem rep_norm {E : Env} {x : A} {v : Value} (h : Rep E x v) : Rep E x.norm v := by
  cases x
  case agg cs =>
    simp only [A.norm, Rep] at h ⊢
    obtain ⟨vs, hv, hL, hone⟩ := h
    exact ⟨vs, hv, repL_norm0 hL, hone⟩
  all_goals
    simp only [A.norm]
    exact rep_norm0 h
theorem norm0_cells {x : A} (h : ∀ cs, x ≠ .agg cs) : (norm0 x).cells = [norm0 x] := by
  cases x <;> simp [norm0, A.cells]
  exact absurd rfl (h _)
theorem norm_cells (x : A) : x.norm.cells = x.cells.map norm0 := by
  cases x <;> simp [A.norm, norm0, A.cells]
theorem pure_norm0 {x : A} (h : x.pure = true) : (norm0 x).pure = true := by
  cases x <;> simp_all [norm0, A.pure]
theorem pureL_map_norm0 {cs : List A} (h : A.pure.pureL cs = true) : A.pure.pureL (cs.map norm0) = true :=
  pureL_of fun i e he => by
    rw [List.getElem?_map] at he
    cases hc : cs[i]? with
    | none => simp [hc] at he
    | some c => simp [hc] at he; subst he; exact pure_norm0 (pureL_getElem h hc)
theorem pure_norm {x : A} (h : x.pure = true) : x.norm.pure = true := by
  cases x
  case agg cs =>
    simp only [A.norm, A.pure] at h ⊢
    exact pureL_map_norm0 h
  all_goals
    simp only [A.norm]
    exact pure_norm0 h

/-- Elements of k cells each, as a list of values. -/
def RowRel (E : Env) (k : Nat) : List A → List Value → Prop
  | [], vs => vs = []
  | e :: es, vs => e.cells.length = k ∧ k ≤ vs.length ∧ RepL E e.cells (vs.take k) ∧ RowRel E k es (vs.drop k)

theorem RowRel.length {E : Env} {k : Nat} : ∀ {es : List A} {vs : List Value}, RowRel E k es vs → vs.length = es.length * k
  | [], vs, h => by simp only [RowRel] at h; subst h; simp
  | e :: es, vs, h => by
    simp only [RowRel] at h
    have := RowRel.length h.2.2.2
    simp only [List.length_drop] at this
    have := h.2.1
    simp only [List.length_cons, Nat.add_mul, Nat.one_mul]
    omega
theorem RowRel.append {E : Env} {k : Nat} : ∀ {es fs : List A} {vs us : List Value}, RowRel E k es vs → RowRel E k fs us → RowRel E k (es ++ fs) (vs ++ us)
  | [], fs, vs, us, h, h' => by simp only [RowRel] at h; subst h; simpa using h'
  | e :: es, fs, vs, us, h, h' => by
    simp only [RowRel] at h
    obtain ⟨h1, h2, h3, h4⟩ := h
    simp only [List.cons_append, RowRel]
    refine ⟨h1, by simp; omega, ?_, ?_⟩
    · rw [List.take_append_of_le_length h2]; exact h3
    · rw [List.drop_append_of_le_length h2]; exact RowRel.append h4 h'
theorem RowRel.take {E : Env} {k : Nat} : ∀ {n : Nat} {es : List A} {vs : List Value}, RowRel E k es vs → RowRel E k (es.take n) (vs.take (n * k))
  | 0, es, vs, _ => by simp [RowRel]
  | n + 1, [], vs, h => by simp only [RowRel] at h; subst h; simp [RowRel]
  | n + 1, e :: es, vs, h => by
    simp only [RowRel] at h
    obtain ⟨h1, h2, h3, h4⟩ := h
    simp only [List.take_succ_cons, RowRel]
    have hk : k ≤ (n + 1) * k := by rw [Nat.add_mul, Nat.one_mul]; omega
    refine ⟨h1, by simp; omega, ?_, ?_⟩
    · rw [List.take_take, Nat.min_eq_left hk]; exact h3
    · rw [List.drop_take, show (n + 1) * k - k = n * k by rw [Nat.add_mul, Nat.one_mul]; omega]; exact RowRel.take h4
theorem RowRel.set {E : Env} {k : Nat} {x : A} {xv : List Value} (hx : x.cells.length = k) (hL : RepL E x.cells xv) : ∀ {i : Nat} {es : List A} {vs : List Value}, i < es.length → RowRel E k es vs →
    RowRel E k (es.set i x) (vs.take (i * k) ++ xv ++ vs.drop (i * k + k))
  | 0, e :: es, vs, _, h => by
    simp only [RowRel] at h
    obtain ⟨h1, h2, h3, h4⟩ := h
    have hxl : xv.length = k := by rw [← (RepL_iff.1 hL).1, hx]
    simp only [List.set_cons_zero, RowRel, Nat.zero_mul, List.take_zero, List.nil_append, Nat.zero_add]
    refine ⟨hx, by simp; omega, ?_, ?_⟩
    · rw [List.take_append_of_le_length (by omega), List.take_of_length_le (by omega)]; exact hL
    · rw [List.drop_append_of_le_length (by omega), List.drop_of_length_le (by omega), List.nil_append]; exact h4
  | i + 1, e :: es, vs, hi, h => by
    simp only [RowRel] at h
    obtain ⟨h1, h2, h3, h4⟩ := h
    have ih := RowRel.set hx hL (i := i) (by simpa using hi) h4
    have hk : (i + 1) * k = k + i * k := by rw [Nat.add_mul, Nat.one_mul]; omega
    have hlen := RowRel.length h4
    have hle : i * k + k ≤ (vs.drop k).length := by
      rw [hlen]
      have : i + 1 ≤ es.length := by have : i < es.length := by simpa using hi
                                     omega
      calc i * k + k = (i + 1) * k := by rw [Nat.add_mul, Nat.one_mul]
        _ ≤ es.length * k := Nat.mul_le_mul_right k this
    simp only [List.length_drop] at hle
    simp only [List.set_cons_succ, RowRel]
    refine ⟨h1, by simp; omega, ?_, ?_⟩
    · rw [List.append_assoc, List.take_append_of_le_length (by simp; omega), List.take_take, Nat.min_eq_left (by omega)]; exact h3
    · rw [List.append_assoc, List.drop_append_of_le_length (by simp; omega), List.drop_take, hk, show k + i * k - k = i * k by omega]
      rw [List.drop_drop] at ih
      rw [show k + i * k + k = k + (i * k + k) by omega, ← List.append_assoc]
      exact ih
theorem RowRel.replicate {E : Env} {k : Nat} {x : A} {xv : List Value} (hx : x.cells.length = k) (hL : RepL E x.cells xv) : ∀ n : Nat, RowRel E k (List.replicate n x) (List.replicate n xv).flatten
  | 0 => by simp [RowRel]
  | n + 1 => by
    have hxl : xv.length = k := by rw [← (RepL_iff.1 hL).1, hx]
    simp only [List.replicate_succ, List.flatten_cons, RowRel]
    refine ⟨hx, by simp; omega, ?_, ?_⟩
    · rw [List.take_append_of_le_length (by omega), List.take_of_length_le (by omega)]; exact hL
    · rw [List.drop_append_of_le_length (by omega), List.drop_of_length_le (by omega), List.nil_append]; exact RowRel.replicate hx hL n
/-- From values in memory to elements in memory. -/
theorem RowRel.mem {E : Env} {k b : Nat} : ∀ {es : List A} {vs : List Value} {off : Nat}, RowRel E k es vs → E.w.rangeAt b off vs → (∀ u ∈ vs, u.oneCell' = true) → RepE E k b off es
  | [], vs, off, _, _, _ => by simp [RepE]
  | e :: es, vs, off, h, hr, hone => by
    simp only [RowRel] at h
    obtain ⟨h1, h2, h3, h4⟩ := h
    refine RepE_cons.2 ⟨⟨h1, RepM_of_vals (vs := vs.take k) ?_ h3 fun u hu => hone u (List.mem_of_mem_take hu)⟩, RowRel.mem h4 ?_ fun u hu => hone u (List.mem_of_mem_drop hu)⟩
    · intro j v hv
      rw [List.getElem?_take] at hv
      split at hv
      · exact hr j v hv
      · simp at hv
    · intro j v hv
      rw [List.getElem?_drop] at hv
      have := hr (k + j) v hv
      rwa [show off + (k + j) = off + k + j by omega] at this
/-- And back. -/
theorem RowRel.of_mem {E : Env} {k b : Nat} : ∀ {es : List A} {off : Nat}, RepE E k b off es → ∃ vs, RowRel E k es vs ∧ E.w.rangeAt b off vs ∧ ∀ u ∈ vs, u.oneCell' = true
  | [], off, _ => ⟨[], by simp [RowRel], fun j v h => by simp at h, by simp⟩
  | e :: es, off, h => by
    obtain ⟨⟨h1, hm⟩, hE⟩ := RepE_cons.1 h
    obtain ⟨us, hu1, hu2, hu3⟩ := RepM_vals hm
    obtain ⟨vs, hv1, hv2, hv3⟩ := RowRel.of_mem hE
    have hl : us.length = k := by rw [← (RepL_iff.1 hu2).1, h1]
    refine ⟨us ++ vs, ?_, ?_, ?_⟩
    · simp only [RowRel]
      refine ⟨h1, by simp; omega, ?_, ?_⟩
      · rw [List.take_append_of_le_length (by omega), List.take_of_length_le (by omega)]; exact hu2
      · rw [List.drop_append_of_le_length (by omega), List.drop_of_length_le (by omega), List.nil_append]; exact hv1
    · intro j v hv
      rw [List.getElem?_append] at hv
      split at hv
      · exact hu1 j v hv
      · rename_i hj
        have := hv2 (j - us.length) v hv
        rwa [show off + k + (j - us.length) = off + j by omega] at this
    · intro u hu
      rcases List.mem_append.1 hu with hu | hu
      · exact hu3 u hu
      · exact hv3 u hu
theorem RowRel.mono {E E' : Env} (hr : ∀ x v, x.pure = true → Rep E x v → Rep E' x v) {k : Nat} : ∀ {es : List A} {vs : List Value}, A.pure.pureL es = true → RowRel E k es vs → RowRel E' k es vs
  | [], vs, _, h => by simpa only [RowRel] using h
  | e :: es, vs, hp, h => by
    simp only [A.pure.pureL, Bool.and_eq_true] at hp
    simp only [RowRel] at h ⊢
    obtain ⟨h1, h2, h3, h4⟩ := h
    obtain ⟨g1, g2⟩ := RepL_iff.1 h3
    exact ⟨h1, h2, RepL_iff.2 ⟨g1, fun i x v hx hv => hr x v (pureL_getElem (pure_cells hp.1) hx) (g2 i x v hx hv)⟩, RowRel.mono hr hp.2 h4⟩

theorem zeros_eq {z : Array Value} : ∀ n : Nat, (List.range (n * z.size)).map (fun i => z[i % z.size]!) = (List.replicate n z.toList).flatten
  | 0 => by simp
  | n + 1 => by
    rw [Nat.add_mul, Nat.one_mul, Nat.add_comm, List.range_add, List.map_append, List.map_map, List.replicate_succ, List.flatten_cons, ← zeros_eq n]
    congr 1
    · apply List.ext_getElem?
      intro i
      rw [List.getElem?_map]
      by_cases hi : i < z.size
      · simp [hi, Nat.mod_eq_of_lt hi]
      · simp [hi]
    · apply List.map_congr_left
      intro i _
      simp

section
variable {P : Program} {N0 : Nat → Prop} {w0 : Base} {nt : Nat} {σ : St} {φ : List Own} {a : Act} {w : World}

theorem set_get {n : Nat} {p : Own} (hn : n < φ.length) (m : Nat) : (φ.set n p)[m]? = if n = m then some p else φ[m]? := by
  rw [List.getElem?_set]
  split
  · rename_i e; subst e; simp
  · rfl

theorem Conc.ext_new (h : Conc N0 w0 nt σ φ a w) {n b k : Nat} {w' : World} (hfree : φ[n]? = some .free) (g : Grew w w') (hb : w.heap.size ≤ b) :
    Ext (fun _ => True) (envOf N0 φ w) (envOf N0 (φ.set n (.loc b k)) w') := by
  have hset := set_get (φ := φ) (n := n) (p := Own.loc b k) (List.getElem?_eq_some_iff.1 hfree).1
  exact {
    size := g.size
    blk := fun c hc hnc => ⟨by
      rintro (h0 | ⟨m, k', hm⟩)
      · exact hnc (.inl h0)
      · rw [hset] at hm
        split at hm
        · simp at hm
          have : c < w.heap.size := hc
          omega
        · exact hnc (.inr ⟨m, k', hm⟩), g.block c hc⟩
    refs := fun m p _ hm hp => by
      show (φ.set n (Own.loc b k))[m]? = some p
      rw [hset]
      split
      · rename_i e; subst e
        have : φ[n]? = some p := hm
        rw [hfree] at this
        simp at this
        exact absurd this.symm hp
      · exact hm
    own := fun m c k' cc e fr _ hm hc => ⟨cc, fr, by
      show w'.heap[c]? = _
      rw [g.block c (h.own m c k' hm).2]; exact hc, rfl⟩ }

/-- A new object takes its place. -/
theorem Conc.newObj (h : Conc N0 w0 nt σ φ a w) {n b k : Nat} {o : Obj} {w' : World} (hfree : φ[n]? = some .free) (g : Grew w w') (hb : w.heap.size ≤ b) (hb' : b < w'.heap.size)
    (ho : ObjRel (envOf N0 (φ.set n (.loc b k)) w') o (.loc b k)) : Conc N0 w0 nt (σ.setH n o) (φ.set n (.loc b k)) a w' := by
  have hset := set_get (φ := φ) (n := n) (p := Own.loc b k) (List.getElem?_eq_some_iff.1 hfree).1
  have hext := h.ext_new (k := k) hfree g hb
  exact {
    slots := fun d => Rep.mono hext _ _ (h.slots d) (fun _ _ => trivial)
    size := h.size
    defers := h.defers
    len := by simp [St.setH, setO_eq, h.len]
    objs := fun m o' p hm hp => by
      rw [hset] at hp
      simp only [St.setH] at hm
      rw [setO_eq, nthO_eq, List.getElem?_set] at hm
      split at hp
      · rename_i e
        subst e
        simp at hp
        subst hp
        rw [if_pos rfl] at hm
        split at hm
        · simp at hm; subst hm; exact ho
        · simp at hm
      · rename_i e
        rw [if_neg e] at hm
        exact ObjRel.mono hext (h.objs m o' p (by rw [nthO_eq]; exact hm) hp) (fun c k' hc cc ee fr hh => by
          subst hc
          show w'.heap[c]? = _
          rw [g.block c (h.own m c k' hp).2]; exact hh) (fun _ _ _ _ => trivial)
    own := fun m c k' hm => by
      rw [hset] at hm
      split at hm
      · simp at hm
        obtain ⟨rfl, rfl⟩ := hm
        exact ⟨.inl (Nat.le_trans h.below.size hb), hb'⟩
      · exact ⟨(h.own m c k' hm).1, Nat.lt_of_lt_of_le (h.own m c k' hm).2 g.size⟩
    inj := fun m m' c k' k'' hm hm' => by
      rw [hset] at hm hm'
      split at hm <;> split at hm'
      · rename_i e1 e2; rw [← e1, ← e2]
      · simp at hm
        have := (h.own m' c k'' hm').2
        omega
      · simp at hm'
        have := (h.own m c k' hm).2
        omega
      · exact h.inj m m' c k' k'' hm hm'
    n0 := h.n0
    fixd := fun m q hf hm hq => by
      have := h.fixd m q hf hm hq
      rw [hset]
      split
      · rename_i e; subst e; rw [hfree] at this; exact absurd (Option.some.inj this).symm hq
      · exact this
    below := g.below h.below }

theorem setCells_heap {b : Nat} : ∀ (vs : List Value) (off : Nat) (w : World), (w.setCells b off vs).heap.size = w.heap.size ∧ (∀ c, c ≠ b → (w.setCells b off vs).heap[c]? = w.heap[c]?) ∧
    (w.setCells b off vs).os = w.os ∧ (w.setCells b off vs).tape = w.tape ∧ (w.setCells b off vs).output = w.output ∧ (w.setCells b off vs).drawn = w.drawn ∧
    (∀ cc e fr, w.heap[b]? = some (.cells cc e fr) → ∃ cc', (w.setCells b off vs).heap[b]? = some (.cells cc' e fr) ∧ cc'.size = cc.size)
  | [], off, w => ⟨rfl, fun _ _ => rfl, rfl, rfl, rfl, rfl, fun cc e fr h => ⟨cc, h, rfl⟩⟩
  | v :: vs, off, w => by
    obtain ⟨h1, h2, h3, h4, h5, h5', h6⟩ := setCells_heap (b := b) vs (off + 1) (w.setCell ⟨b, off, none⟩ v)
    simp only [World.setCells]
    refine ⟨by rw [h1]; simp, fun c hc => by rw [h2 c hc]; exact Below.heap_setCell _ _ _ _ hc, by rw [h3]; rfl, by rw [h4]; rfl, by rw [h5]; rfl, by rw [h5']; rfl, fun cc e fr hcc => ?_⟩
    obtain ⟨cc', hc', hs'⟩ := h6 (cc.setIfInBounds off v) e fr (by
      simp only [World.setCell, Array.getElem?_modify, if_true, hcc, Option.map_some]
      simp)
    exact ⟨cc', hc', by rw [hs']; simp⟩

theorem Conc.ext_write (_h : Conc N0 w0 nt σ φ a w) {n b k : Nat} (off : Nat) (vs : List Value) (hn : φ[n]? = some (.loc b k)) : Ext (fun _ => True) (envOf N0 φ w) (envOf N0 φ (w.setCells b off vs)) := by
  obtain ⟨h1, h2, h3, h4, h5, h5', h6⟩ := setCells_heap (b := b) vs off w
  exact {
    size := by show w.heap.size ≤ (w.setCells b off vs).heap.size; rw [h1]; exact Nat.le_refl _
    blk := fun c hc hnc => ⟨hnc, h2 c (fun e => hnc (.inr ⟨n, k, by rw [e]; exact hn⟩))⟩
    refs := fun m p _ hm _ => hm
    own := fun m c k' cc e fr _ hm hc => by
      by_cases hcb : c = b
      · subst hcb
        obtain ⟨cc', hc', hs'⟩ := h6 cc e fr hc
        exact ⟨cc', fr, hc', hs'⟩
      · exact ⟨cc, fr, by show (w.setCells b off vs).heap[c]? = _; rw [h2 c hcb]; exact hc, rfl⟩ }

/-- An owned object is written. -/
theorem Conc.write (h : Conc N0 w0 nt σ φ a w) {n b k : Nat} {o : Obj} {off : Nat} {vs : List Value} (hn : φ[n]? = some (.loc b k))
    (ho : ObjRel (envOf N0 φ (w.setCells b off vs)) o (.loc b k)) : Conc N0 w0 nt (σ.setH n o) φ a (w.setCells b off vs) := by
  obtain ⟨h1, h2, h3, h4, h5, h5', h6⟩ := setCells_heap (b := b) vs off w
  have hext := h.ext_write off vs hn
  exact {
    slots := fun d => Rep.mono hext _ _ (h.slots d) (fun _ _ => trivial)
    size := h.size
    defers := h.defers
    len := by simp [St.setH, setO_eq, h.len]
    objs := fun m o' p hm hp => by
      simp only [St.setH] at hm
      rw [setO_eq, nthO_eq, List.getElem?_set] at hm
      split at hm
      · rename_i e
        subst e
        split at hm
        · simp at hm; subst hm
          rw [hn] at hp
          simp at hp
          subst hp
          exact ho
        · simp at hm
      · rename_i e
        refine ObjRel.mono hext (h.objs m o' p (by rw [nthO_eq]; exact hm) hp) (fun c k' hc cc ee fr hh => ?_) (fun _ _ _ _ => trivial)
        subst hc
        have hcb : c ≠ b := fun e' => e (h.inj n m b k k' hn (by rw [← e']; exact hp))
        show (w.setCells b off vs).heap[c]? = _
        rw [h2 c hcb]; exact hh
    own := fun m c k' hm => ⟨(h.own m c k' hm).1, by rw [h1]; exact (h.own m c k' hm).2⟩
    inj := h.inj
    n0 := h.n0
    fixd := h.fixd
    below := {
      os := h3.trans h.below.os
      tape := h4.trans h.below.tape
      output := h5.trans h.below.output
      drawn := by rw [h5']; exact h.below.drawn
      size := by rw [h1]; exact h.below.size
      block := fun c hc hM => by
        rw [h2 c (fun e => by
          subst e
          rcases (h.own n c k hn).1 with h' | h'
          · omega
          · exact hM h')]
        exact h.below.block c hc hM
      shape := fun c cc e fr hcc => by
        obtain ⟨c', fr', g1, g2⟩ := h.below.shape c cc e fr hcc
        by_cases hcb : c = b
        · subst hcb
          obtain ⟨cc', hc', hs'⟩ := h6 c' e fr' g1
          exact ⟨cc', fr', hc', hs'.trans g2⟩
        · exact ⟨c', fr', by rw [h2 c hcb]; exact g1, g2⟩ } }
end

end Go.Abs
