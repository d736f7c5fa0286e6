/- Soundness, tenth part: strings as bytes, append. -/
import Derived.Test.YtfcjemfgdeoinaaAbsL
namespace Go.Abs
open Go.RowKit

section
variable {P : Program} {N0 : Nat → Prop} {w0 : Base} {nt : Nat} {σ : St} {φ : List Own} {a : Act} {w : World}

theorem look_map (n : Nat) : ∀ (s : List (Nat × A)) (d : Nat), look (s.map fun p => (p.1, scrubA n p.2)) d = scrubA n (look s d)
  | [], d => by simp [look, scrubA, A.mem]
  | (i, v) :: s, d => by
    simp only [List.map_cons, look]
    split
    · rfl
    · exact look_map n s d
theorem scrubA_mem (n : Nat) (x : A) : (scrubA n x).mem n = false := by
  unfold scrubA
  split
  · rfl
  · rename_i h; simpa using h
theorem rep_scrub {E : Env} {n : Nat} {x : A} {v : Value} (h : Rep E x v) : Rep E (scrubA n x) v := by
  unfold scrubA
  split
  · simp only [Rep]
  · exact h
theorem memL_scrub (n : Nat) : ∀ cs : List A, A.mem.memL n (cs.map (scrubA n)) = false
  | [] => rfl
  | c :: cs => by simp [A.mem.memL, scrubA_mem, memL_scrub n cs]
theorem nthO_map (f : Obj → Obj) (H : List Obj) (n : Nat) : nthO (H.map f) n = (nthO H n).map f := by
  simp [nthO_eq, List.getElem?_map]

/-- Nothing refers to object n. -/
def Clear (σ : St) (n : Nat) : Prop := (∀ d, (look σ.s d).mem n = false) ∧ ∀ (m : Nat) (cs : List A), nthO σ.H m = some (.box cs) → A.mem.memL n cs = false

theorem Conc.scrub (h : Conc N0 w0 nt σ φ a w) (n : Nat) : Conc N0 w0 nt (σ.scrub n) φ a w := by
  exact { h with
    slots := fun d => by
      show Rep _ (look (σ.s.map fun p => (p.1, scrubA n p.2)) d) _
      rw [look_map]
      exact rep_scrub (h.slots d)
    len := by simp [St.scrub, h.len]
    objs := fun m o p ho hp => by
      simp only [St.scrub] at ho
      rw [nthO_map] at ho
      cases hm : nthO σ.H m with
      | none => simp [hm] at ho
      | some o' =>
        simp [hm] at ho
        subst ho
        have hob := h.objs m o' p hm hp
        cases o' with
        | row k es => exact hob
        | box cs =>
          cases p with
          | loc b k =>
            simp only [scrubO, ObjRel] at hob ⊢
            refine ⟨hob.1, RepM_iff.2 fun i x hx => ?_⟩
            rw [List.getElem?_map] at hx
            cases hc : cs[i]? with
            | none => simp [hc] at hx
            | some c =>
              simp [hc] at hx
              subst hx
              obtain ⟨v, hv, h1, hr⟩ := RepM_iff.1 hob.2 i c hc
              exact ⟨v, hv, h1, rep_scrub hr⟩
          | nil => simp [ObjRel] at hob
          | free => simp [ObjRel] at hob
    size := h.size
    defers := h.defers }

theorem clear_scrub (σ : St) (n : Nat) : Clear (σ.scrub n) n := by
  refine ⟨fun d => ?_, fun m cs hm => ?_⟩
  · show (look (σ.s.map fun p => (p.1, scrubA n p.2)) d).mem n = false
    rw [look_map]; exact scrubA_mem n _
  · simp only [St.scrub] at hm
    rw [nthO_map] at hm
    cases ho : nthO σ.H m with
    | none => simp [ho] at hm
    | some o =>
      simp [ho] at hm
      cases o with
      | row k es => simp [scrubO] at hm
      | box ds => simp [scrubO] at hm; subst hm; exact memL_scrub n ds

/-- An object that nothing refers to moves to a new place. -/
theorem Conc.rehome (h : Conc N0 w0 nt σ φ a w) {n : Nat} (hfx : w0.fix n = false) (hcl : Clear σ n) (hn : n < φ.length) {p : Own} {o : Obj} {w' : World} (g : Grew w w')
    (hp : ∀ b k, p = Own.loc b k → w.heap.size ≤ b ∧ b < w'.heap.size)
    (ho : ∀ hext : Ext (fun m => m ≠ n) (envOf N0 φ w) (envOf N0 (φ.set n p) w'), ObjRel (envOf N0 (φ.set n p) w') o p) : Conc N0 w0 nt (σ.setH n o) (φ.set n p) a w' ∧ Ext (fun m => m ≠ n) (envOf N0 φ w) (envOf N0 (φ.set n p) w') := by
  have hset := set_get (φ := φ) (n := n) (p := p) hn
  have hext : Ext (fun m => m ≠ n) (envOf N0 φ w) (envOf N0 (φ.set n p) w') := {
    size := g.size
    blk := fun c hc hnc => ⟨by
      rintro (h0 | ⟨m, k', hm⟩)
      · exact hnc (.inl h0)
      · rw [hset] at hm
        split at hm
        · simp at hm
          have := (hp c k' hm).1
          have : c < w.heap.size := hc
          omega
        · exact hnc (.inr ⟨m, k', hm⟩), g.block c hc⟩
    refs := fun m q hmn hm _ => by
      show (φ.set n p)[m]? = some q
      rw [hset, if_neg (fun e => hmn e.symm)]; exact hm
    own := fun m c k' cc e fr _ hm hc => ⟨cc, fr, by
      show w'.heap[c]? = _
      rw [g.block c (h.own m c k' hm).2]; exact hc, rfl⟩ }
  refine ⟨{
    slots := fun d => Rep.mono hext _ _ (h.slots d) (fun m hm e => by
      subst e
      have hm' : A.mem m (look σ.s d) = true := hm
      rw [hcl.1 d] at hm'
      cases hm')
    size := h.size
    defers := h.defers
    len := by simp [St.setH, setO_eq, h.len]
    objs := fun m o' q hm hq => by
      rw [hset] at hq
      simp only [St.setH] at hm
      rw [setO_eq, nthO_eq, List.getElem?_set] at hm
      split at hq
      · rename_i e
        subst e
        simp at hq
        subst hq
        rw [if_pos rfl] at hm
        split at hm
        · simp at hm; subst hm; exact ho hext
        · simp at hm
      · rename_i e
        rw [if_neg e] at hm
        have hm' : nthO σ.H m = some o' := by rw [nthO_eq]; exact hm
        exact ObjRel.mono hext (h.objs m o' q hm' hq) (fun c k' hc cc ee fr hh => by
          subst hc
          show w'.heap[c]? = _
          rw [g.block c (h.own m c k' hq).2]; exact hh) (fun cs hcs m' hm'' e' => by
            subst hcs; subst e'
            rw [hcl.2 m cs hm'] at hm''
            cases hm'')
    own := fun m c k' hm => by
      rw [hset] at hm
      split at hm
      · simp at hm
        have := hp c k' hm
        exact ⟨.inl (Nat.le_trans h.below.size this.1), this.2⟩
      · exact ⟨(h.own m c k' hm).1, Nat.lt_of_lt_of_le (h.own m c k' hm).2 g.size⟩
    inj := fun m m' c k' k'' hm hm' => by
      rw [hset] at hm hm'
      split at hm <;> split at hm'
      · rename_i e1 e2; rw [← e1, ← e2]
      · simp at hm
        have := (hp c k' hm).1
        have := (h.own m' c k'' hm').2
        omega
      · simp at hm'
        have := (hp c k'' hm').1
        have := (h.own m c k' hm).2
        omega
      · exact h.inj m m' c k' k'' hm hm'
    n0 := h.n0
    fixd := fun m q hf hm hq => by
      rw [hset, if_neg (fun e => by subst e; rw [hfx] at hf; cases hf)]
      exact h.fixd m q hf hm hq
    below := g.below h.below }, hext⟩

end

end Go.Abs
