/- Soundness, first part: 'Rep' by places; the relation between an abstract and a model state; what an allocation, a draw, a store do to it. -/
import Derived.Test.YtfcjemfgdeoinaaAbsB
import Derived.Deep.MidRow
import Derived.Deep.AppendSrc
namespace Go.Abs
open Go.RowKit

theorem RepL_iff {E : Env} : ∀ {cs : List A} {vs : List Value}, RepL E cs vs ↔ cs.length = vs.length ∧ ∀ (i : Nat) (x : A) (v : Value), cs[i]? = some x → vs[i]? = some v → Rep E x v
  | [], vs => by
    simp only [RepL]
    constructor
    · rintro rfl; exact ⟨rfl, fun i x v h => by simp at h⟩
    · rintro ⟨h, _⟩; exact List.length_eq_zero_iff.1 h.symm
  | c :: cs, vs => by
    simp only [RepL]
    constructor
    · rintro ⟨v, vs', rfl, hc, hl⟩
      obtain ⟨h1, h2⟩ := RepL_iff.1 hl
      refine ⟨by simp [h1], fun i x u hx hu => ?_⟩
      cases i with
      | zero => simp at hx hu; subst hx; subst hu; exact hc
      | succ i => exact h2 i x u (by simpa using hx) (by simpa using hu)
    · rintro ⟨h1, h2⟩
      cases vs with
      | nil => simp at h1
      | cons v vs => exact ⟨v, vs, rfl, h2 0 c v rfl rfl, RepL_iff.2 ⟨by simpa using h1, fun i x u hx hu => h2 (i + 1) x u (by simpa using hx) (by simpa using hu)⟩⟩

theorem RepM_iff {E : Env} {b : Nat} : ∀ {cs : List A} {off : Nat}, RepM E b off cs ↔ ∀ (i : Nat) (x : A), cs[i]? = some x → ∃ v, E.w.cell? ⟨b, off + i, none⟩ = some v ∧ v.oneCell' = true ∧ Rep E x v
  | [], off => by simp [RepM]
  | c :: cs, off => by
    simp only [RepM]
    constructor
    · rintro ⟨h1, h2⟩ i x hx
      cases i with
      | zero => simp at hx; subst hx; simpa using h1
      | succ i =>
        have := RepM_iff.1 h2 i x (by simpa using hx)
        rwa [show off + 1 + i = off + (i + 1) by omega] at this
    · intro h
      refine ⟨by simpa using h 0 c rfl, RepM_iff.2 fun i x hx => ?_⟩
      have := h (i + 1) x (by simpa using hx)
      rwa [show off + (i + 1) = off + 1 + i by omega] at this

theorem RepM_one {E : Env} {b off : Nat} {x : A} : RepM E b off [x] ↔ ∃ v, E.w.cell? ⟨b, off, none⟩ = some v ∧ v.oneCell' = true ∧ Rep E x v := by
  simp [RepM]

theorem RepE_cons {E : Env} {k b off : Nat} {e : A} {es : List A} : RepE E k b off (e :: es) ↔ (e.cells.length = k ∧ RepM E b off e.cells) ∧ RepE E k b (off + k) es := by
  cases e
  case agg cs => rw [RepE_agg]; simp [A.cells]
  all_goals
    simp only [RepE, A.cells, RepM, List.length_cons, List.length_nil, Nat.zero_add, and_true]
    constructor
    · rintro ⟨⟨h1, h2⟩, h3⟩; exact ⟨⟨h1.symm, h2⟩, h3⟩
    · rintro ⟨⟨h1, h2⟩, h3⟩; exact ⟨⟨h1.symm, h2⟩, h3⟩

theorem RepE_iff {E : Env} {k b : Nat} : ∀ {es : List A} {off : Nat}, RepE E k b off es ↔ ∀ (i : Nat) (e : A), es[i]? = some e → e.cells.length = k ∧ RepM E b (off + i * k) e.cells
  | [], off => by simp [RepE]
  | e :: es, off => by
    rw [RepE_cons]
    constructor
    · rintro ⟨h1, h2⟩ i x hx
      cases i with
      | zero => simp at hx; subst hx; simpa using h1
      | succ i =>
        have := RepE_iff.1 h2 i x (by simpa using hx)
        rwa [show off + k + i * k = off + (i + 1) * k by rw [Nat.add_mul]; omega] at this
    · intro h
      refine ⟨by simpa using h 0 e rfl, RepE_iff.2 fun i x hx => ?_⟩
      have := h (i + 1) x (by simpa using hx)
      rwa [show off + (i + 1) * k = off + k + i * k by rw [Nat.add_mul]; omega] at this

theorem RepM_drop {E : Env} {b off n : Nat} {cs : List A} (h : RepM E b off cs) : RepM E b (off + n) (cs.drop n) :=
  RepM_iff.2 fun i x hx => by
    have := RepM_iff.1 h (n + i) x (by simpa [List.getElem?_drop] using hx)
    rwa [show off + (n + i) = off + n + i by omega] at this
theorem RepM_take {E : Env} {b off n : Nat} {cs : List A} (h : RepM E b off cs) : RepM E b off (cs.take n) :=
  RepM_iff.2 fun i x hx => RepM_iff.1 h i x (by
    rw [List.getElem?_take] at hx
    split at hx
    · exact hx
    · simp at hx)
theorem RepE_drop {E : Env} {k b off n : Nat} {es : List A} (h : RepE E k b off es) : RepE E k b (off + n * k) (es.drop n) :=
  RepE_iff.2 fun i x hx => by
    have := RepE_iff.1 h (n + i) x (by simpa [List.getElem?_drop] using hx)
    rwa [show off + (n + i) * k = off + n * k + i * k by rw [Nat.add_mul]; omega] at this
theorem RepE_take {E : Env} {k b off n : Nat} {es : List A} (h : RepE E k b off es) : RepE E k b off (es.take n) :=
  RepE_iff.2 fun i x hx => RepE_iff.1 h i x (by
    rw [List.getElem?_take] at hx
    split at hx
    · exact hx
    · simp at hx)

/-- The cells as a list of values. -/
theorem RepM_vals {E : Env} {b : Nat} : ∀ {cs : List A} {off : Nat}, RepM E b off cs → ∃ vs : List Value, E.w.rangeAt b off vs ∧ RepL E cs vs ∧ ∀ u ∈ vs, u.oneCell' = true
  | [], off, _ => ⟨[], fun j v h => by simp at h, by simp [RepL], by simp⟩
  | c :: cs, off, h => by
    simp only [RepM] at h
    obtain ⟨⟨v, hv, h1, hc⟩, hl⟩ := h
    obtain ⟨vs, hr, hL, hone⟩ := RepM_vals hl
    refine ⟨v :: vs, fun j u hu => ?_, by simp only [RepL]; exact ⟨v, vs, rfl, hc, hL⟩, ?_⟩
    · cases j with
      | zero => simp at hu; subst hu; simpa using hv
      | succ j =>
        have := hr j u (by simpa using hu)
        rwa [show off + 1 + j = off + (j + 1) by omega] at this
    · intro u hu
      rcases List.mem_cons.1 hu with rfl | hu
      · exact h1
      · exact hone u hu

/-- And back: cells that hold values. -/
theorem RepM_of_vals {E : Env} {b : Nat} : ∀ {cs : List A} {off : Nat} {vs : List Value}, E.w.rangeAt b off vs → RepL E cs vs → (∀ u ∈ vs, u.oneCell' = true) → RepM E b off cs := by
  intro cs off vs hr hL h1
  obtain ⟨hlen, hrep⟩ := RepL_iff.1 hL
  refine RepM_iff.2 fun i x hx => ?_
  have hi : i < vs.length := by rw [← hlen]; exact (List.getElem?_eq_some_iff.1 hx).1
  have hv : vs[i]? = some vs[i] := List.getElem?_eq_getElem hi
  exact ⟨vs[i], hr i _ hv, h1 _ (List.getElem_mem hi), hrep i x _ hx hv⟩

theorem RepL_take {E : Env} {n : Nat} : ∀ {cs : List A} {vs : List Value}, RepL E cs vs → RepL E (cs.take n) (vs.take n) := by
  intro cs vs h
  obtain ⟨h1, h2⟩ := RepL_iff.1 h
  refine RepL_iff.2 ⟨by simp [h1], fun i x v hx hv => ?_⟩
  rw [List.getElem?_take] at hx hv
  split at hx
  · rename_i hi; rw [if_pos hi] at hv; exact h2 i x v hx hv
  · simp at hx
theorem RepL_drop {E : Env} {n : Nat} : ∀ {cs : List A} {vs : List Value}, RepL E cs vs → RepL E (cs.drop n) (vs.drop n) := by
  intro cs vs h
  obtain ⟨h1, h2⟩ := RepL_iff.1 h
  refine RepL_iff.2 ⟨by simp [h1], fun i x v hx hv => ?_⟩
  rw [List.getElem?_drop] at hx hv
  exact h2 _ x v hx hv
theorem RepL_append {E : Env} : ∀ {cs ds : List A} {vs us : List Value}, RepL E cs vs → RepL E ds us → RepL E (cs ++ ds) (vs ++ us)
  | [], ds, vs, us, h, h' => by simp only [RepL] at h; subst h; simpa using h'
  | c :: cs, ds, vs, us, h, h' => by
    simp only [RepL] at h
    obtain ⟨v, vs', rfl, hc, hl⟩ := h
    simp only [List.cons_append, RepL]
    exact ⟨v, vs' ++ us, rfl, hc, RepL_append hl h'⟩

/-- A value that may be stored, cell by cell. -/
theorem Rep_cells {E : Env} {x : A} {v : Value} (h : Rep E x v) (hv : x.val = true) : RepL E x.cells v.cells.toList ∧ (∀ u ∈ v.cells.toList, u.oneCell' = true) ∧ v.cells.size = x.cells.length := by
  cases x
  case any => simp [A.val] at hv
  case tup => simp [A.val] at hv
  case agg cs =>
    simp only [Rep] at h
    obtain ⟨vs, rfl, hl, h1⟩ := h
    simp only [Value.cells, A.cells]
    exact ⟨by simpa using hl, by simpa using h1, by simpa using (RepL_iff.1 hl).1.symm⟩
  case slc es => 
    have h0 := h
    simp only [Rep] at h
    obtain ⟨_, a, cap, rfl, _⟩ := h
    simp only [Value.cells, A.cells, RepL]
    exact ⟨⟨_, [], rfl, h0, rfl⟩, by simp [Value.oneCell'], rfl⟩
  case clip es => 
    have h0 := h
    simp only [Rep] at h
    obtain ⟨_, a, rfl, _⟩ := h
    simp only [Value.cells, A.cells, RepL]
    exact ⟨⟨_, [], rfl, h0, rfl⟩, by simp [Value.oneCell'], rfl⟩
  case dptr es => 
    have h0 := h
    simp only [Rep] at h
    obtain ⟨_, a, off, rfl, _⟩ := h
    simp only [Value.cells, A.cells, RepL]
    exact ⟨⟨_, [], rfl, h0, rfl⟩, by simp [Value.oneCell'], rfl⟩
  case ref n off => 
    have h0 := h
    simp only [Rep] at h
    obtain ⟨b, k, _, rfl⟩ := h
    simp only [Value.cells, A.cells, RepL]
    exact ⟨⟨_, [], rfl, h0, rfl⟩, by simp [Value.oneCell'], rfl⟩
  case eref n i off => 
    have h0 := h
    simp only [Rep] at h
    obtain ⟨b, k, _, rfl⟩ := h
    simp only [Value.cells, A.cells, RepL]
    exact ⟨⟨_, [], rfl, h0, rfl⟩, by simp [Value.oneCell'], rfl⟩
  case row n off k len c => 
    have h0 := h
    simp only [Rep] at h
    rcases h with ⟨o, _, _, _, _, a, rfl⟩ | ⟨b, cap, c, e, fr, _, rfl, _⟩
    all_goals
      simp only [Value.cells, A.cells, RepL]
      exact ⟨⟨_, [], rfl, h0, rfl⟩, by simp [Value.oneCell'], rfl⟩
  case fn f cs =>
    have h0 := h
    simp only [Rep] at h
    obtain ⟨vs, rfl, _⟩ := h
    simp only [Value.cells, A.cells, RepL]
    exact ⟨⟨_, [], rfl, h0, rfl⟩, by simp [Value.oneCell'], rfl⟩
  all_goals
    have h0 := h
    simp only [Rep] at h
    subst h
    simp only [Value.cells, A.cells, RepL]
    exact ⟨⟨_, [], rfl, h0, rfl⟩, by simp [Value.oneCell'], rfl⟩

/-- An owned object, where it lies. -/
def Unfrozen (c : Array Value) (fr : Nat × Nat) : Prop := ∀ j, j < c.size → ¬ (fr.1 ≤ j ∧ j < fr.2)
def ObjRel (E : Env) : Obj → Own → Prop
  | .box cs, .loc b _ => (∃ c e fr, E.w.heap[b]? = some (.cells c e fr) ∧ Unfrozen c fr) ∧ RepM E b 0 cs
  | .row k es, .loc b k' => k = k' ∧ A.pure.pureL es = true ∧ (∃ c e fr, E.w.heap[b]? = some (.cells c e fr) ∧ Unfrozen c fr) ∧ RepE E k b 0 es
  | .row _ es, .nil => es = []
  | .row k es, .free => k = 0 ∧ es = []
  | .box _, _ => False

def envOf (N0 : Nat → Prop) (φ : List Own) (w : World) : Env := ⟨fun b => N0 b ∨ ∃ n k : Nat, φ[n]? = some (Own.loc b k), φ, w⟩

/-- The world at a call's start; the blocks that the call may write; the objects' places, and which of them stay. -/
structure Base extends World where
  M : Nat → Prop
  fix : Nat → Bool
  φ0 : List Own
/-- Nothing else has turned. -/
structure Kept (w0 : Base) (w : World) : Prop where
  os : w.os = w0.os
  tape : w.tape = w0.tape
  output : w.output = w0.output
  drawn : w0.drawn ≤ w.drawn
  size : w0.heap.size ≤ w.heap.size
  block : ∀ b, b < w0.heap.size → ¬ w0.M b → w.heap[b]? = w0.heap[b]?
  shape : ∀ (b : Nat) (c : Array Value) (e : TypeId) (fr : Nat × Nat), w0.heap[b]? = some (.cells c e fr) → ∃ c' fr', w.heap[b]? = some (.cells c' e fr') ∧ c'.size = c.size

/-- The abstract state 'σ' tells of the frame 'a' and the world 'w'; the call began at 'w0'; 'N0': blocks of others; 'nt': the frame's size. -/
structure Conc (N0 : Nat → Prop) (w0 : Base) (nt : Nat) (σ : St) (φ : List Own) (a : Act) (w : World) : Prop where
  slots : ∀ d, Rep (envOf N0 φ w) (look σ.s d) (a.tmps.getD d undef)
  size : a.tmps.size = nt
  defers : a.defers = []
  len : φ.length = σ.H.length
  objs : ∀ (n : Nat) (o : Obj) (p : Own), nthO σ.H n = some o → φ[n]? = some p → ObjRel (envOf N0 φ w) o p
  own : ∀ n b k : Nat, φ[n]? = some (Own.loc b k) → (w0.heap.size ≤ b ∨ w0.M b) ∧ b < w.heap.size
  inj : ∀ n m b k k' : Nat, φ[n]? = some (Own.loc b k) → φ[m]? = some (Own.loc b k') → n = m
  n0 : ∀ b, N0 b → b < w0.heap.size ∧ ¬ w0.M b
  fixd : ∀ (n : Nat) (p : Own), w0.fix n = true → w0.φ0[n]? = some p → p ≠ .free → φ[n]? = some p
  below : Kept w0 w

theorem nthO_eq : ∀ (H : List Obj) (n : Nat), nthO H n = H[n]?
  | [], n => by simp [nthO]
  | x :: xs, 0 => by simp [nthO]
  | x :: xs, n + 1 => by simp [nthO, nthO_eq xs n]
theorem setO_eq : ∀ (H : List Obj) (n : Nat) (o : Obj), setO H n o = H.set n o
  | [], n, o => by simp [setO]
  | x :: xs, 0, o => by simp [setO]
  | x :: xs, n + 1, o => by simp [setO, setO_eq xs n o]
theorem setNth_eq : ∀ (H : List A) (n : Nat) (o : A), setNth H n o = H.set n o
  | [], n, o => by simp [setNth]
  | x :: xs, 0, o => by simp [setNth]
  | x :: xs, n + 1, o => by simp [setNth, setNth_eq xs n o]

section
variable {N0 : Nat → Prop} {w0 : Base} {nt : Nat} {σ : St} {φ : List Own} {a : Act} {w : World}

theorem ObjRel.mono {K : Nat → Prop} {E E' : Env} (h : Ext K E E') {o : Obj} {p : Own} (hr : ObjRel E o p) (hp : ∀ b k, p = Own.loc b k → ∀ c e fr, E.w.heap[b]? = some (.cells c e fr) → E'.w.heap[b]? = some (.cells c e fr))
    (hk : ∀ cs, o = .box cs → ∀ n, A.mem.memL n cs = true → K n) : ObjRel E' o p := by
  cases o with
  | box cs =>
    cases p with
    | loc b k =>
      simp only [ObjRel] at hr ⊢
      obtain ⟨⟨c, e, fr, hc, hf⟩, hm⟩ := hr
      have hc' := hp b k rfl c e fr hc
      refine ⟨⟨c, e, fr, hc', hf⟩, RepM_iff.2 fun i x hx => ?_⟩
      obtain ⟨v, hv, h1, hrep⟩ := RepM_iff.1 hm i x hx
      refine ⟨v, by simpa only [World.cell?, hc, hc'] using hv, h1, Rep.mono h x v hrep fun n hn => hk cs rfl n ?_⟩
      have hmem := List.mem_of_getElem? hx
      clear hx hm hk
      induction cs with
      | nil => simp at hmem
      | cons y ys ih =>
        rcases List.mem_cons.1 hmem with rfl | hm'
        · simp [A.mem.memL, hn]
        · simp [A.mem.memL, ih hm']
    | _ => simp [ObjRel] at hr
  | row k es =>
    cases p with
    | loc b k' =>
      simp only [ObjRel] at hr ⊢
      obtain ⟨hkk, hp', ⟨c, e, fr, hc, hf⟩, hm⟩ := hr
      have hc' := hp b k' rfl c e fr hc
      refine ⟨hkk, hp', ⟨c, e, fr, hc', hf⟩, RepE_iff.2 fun i x hx => ?_⟩
      obtain ⟨hl, hmm⟩ := RepE_iff.1 hm i x hx
      refine ⟨hl, RepM_iff.2 fun j y hy => ?_⟩
      obtain ⟨v, hv, h1, hrep⟩ := RepM_iff.1 hmm j y hy
      refine ⟨v, by simpa only [World.cell?, hc, hc'] using hv, h1, Rep.mono h y v hrep fun n hn => ?_⟩
      exfalso
      have hpx : x.pure = true := by
        have hmem := List.mem_of_getElem? hx
        clear hx hm hk
        induction es with
        | nil => simp at hmem
        | cons z zs ih =>
          simp only [A.pure.pureL, Bool.and_eq_true] at hp'
          rcases List.mem_cons.1 hmem with rfl | hm'
          · exact hp'.1
          · exact ih hp'.2 hm'
      have hpy : y.pure = true := by
        have hmem := List.mem_of_getElem? hy
        cases x
        case agg cs =>
          simp only [A.pure] at hpx
          simp only [A.cells] at hmem
          clear hy hmm hl hx
          induction cs with
          | nil => simp at hmem
          | cons z zs ih =>
            simp only [A.pure.pureL, Bool.and_eq_true] at hpx
            rcases List.mem_cons.1 hmem with rfl | hm'
            · exact hpx.1
            · exact ih hpx.2 hm'
        all_goals
          simp only [A.cells, List.mem_singleton] at hmem
          subst hmem
          exact hpx
      rw [A.mem_of_pure n y hpy] at hn
      cases hn
    | nil => simpa only [ObjRel] using hr
    | free => simpa only [ObjRel] using hr

/-- Worlds that differ by new blocks, draws and the streams' rest alone. -/
structure Grew (w w' : World) : Prop where
  size : w.heap.size ≤ w'.heap.size
  block : ∀ b, b < w.heap.size → w'.heap[b]? = w.heap[b]?
  os : w'.os = w.os
  tape : w'.tape = w.tape
  output : w'.output = w.output
  drawn : w.drawn ≤ w'.drawn

theorem Grew.refl (w : World) : Grew w w := ⟨Nat.le_refl _, fun _ _ => rfl, rfl, rfl, rfl, Nat.le_refl _⟩
theorem Grew.trans {w w' w'' : World} (h : Grew w w') (h' : Grew w' w'') : Grew w w'' :=
  ⟨Nat.le_trans h.size h'.size, fun b hb => (h'.block b (Nat.lt_of_lt_of_le hb h.size)).trans (h.block b hb), h'.os.trans h.os, h'.tape.trans h.tape, h'.output.trans h.output, Nat.le_trans h.drawn h'.drawn⟩
theorem Grew.alloc (w : World) (o : Go.Obj) : Grew w (w.alloc o) := ⟨by simp, fun b hb => Below.heap_alloc w o b hb, rfl, rfl, rfl, Nat.le_refl _⟩
theorem Grew.drew (w : World) : Grew w w.drew := ⟨Nat.le_refl _, fun _ _ => rfl, rfl, rfl, rfl, Nat.le_succ _⟩
theorem Grew.toBelow {w w' : World} (g : Grew w w') : Below w.heap.size w w' := ⟨g.os, g.tape, g.output, g.size, g.block⟩
theorem Kept.refl (w0 : Base) : Kept w0 w0.toWorld := ⟨rfl, rfl, rfl, Nat.le_refl _, Nat.le_refl _, fun _ _ _ => rfl, fun _ c _ fr h => ⟨c, fr, h, rfl⟩⟩
theorem Grew.below {w0 : Base} {w w' : World} (h : Kept w0 w) (g : Grew w w') : Kept w0 w' where
  os := g.os.trans h.os
  tape := g.tape.trans h.tape
  output := g.output.trans h.output
  drawn := Nat.le_trans h.drawn g.drawn
  size := Nat.le_trans h.size g.size
  block := fun b hb hM => (g.block b (Nat.lt_of_lt_of_le hb h.size)).trans (h.block b hb hM)
  shape := fun b c e fr hc => by
    obtain ⟨c', fr', h1, h2⟩ := h.shape b c e fr hc
    have hb : b < w.heap.size := (Array.getElem?_eq_some_iff.1 h1).1
    exact ⟨c', fr', by rw [g.block b hb]; exact h1, h2⟩

theorem Conc.ext_grew (h : Conc N0 w0 nt σ φ a w) {w' : World} (g : Grew w w') : Ext (fun _ => True) (envOf N0 φ w) (envOf N0 φ w') where
  size := g.size
  blk := fun b hb hn => ⟨hn, g.block b hb⟩
  refs := fun n o _ ho _ => ho
  own := fun n b k c e fr _ ho hc => ⟨c, fr, by
    have := (h.own n b k ho).2
    show w'.heap[b]? = _
    rw [g.block b this]; exact hc, rfl⟩

/-- New blocks and draws change nothing that is known. -/
theorem Conc.grew (h : Conc N0 w0 nt σ φ a w) {w' : World} (g : Grew w w') : Conc N0 w0 nt σ φ a w' where
  slots := fun d => Rep.mono (h.ext_grew g) _ _ (h.slots d) (fun _ _ => trivial)
  size := h.size
  defers := h.defers
  len := h.len
  objs := fun n o p ho hp => ObjRel.mono (h.ext_grew g) (h.objs n o p ho hp) (fun b k hb c e fr hc => by
    subst hb
    show w'.heap[b]? = _
    rw [g.block b (h.own n b k hp).2]; exact hc) (fun _ _ _ _ => trivial)
  own := fun n b k hb => ⟨(h.own n b k hb).1, Nat.lt_of_lt_of_le (h.own n b k hb).2 g.size⟩
  inj := h.inj
  n0 := h.n0
  fixd := h.fixd
  below := g.below h.below

theorem Conc.rep_grew (h : Conc N0 w0 nt σ φ a w) {w' : World} (g : Grew w w') {x : A} {v : Value} (hr : Rep (envOf N0 φ w) x v) : Rep (envOf N0 φ w') x v :=
  Rep.mono (h.ext_grew g) x v hr (fun _ _ => trivial)

theorem getD_put {a : Act} {d : Nat} {v : Value} (hd : d < a.tmps.size) (t : Nat) : (a.put (some d) v).tmps.getD t undef = if d = t then v else a.tmps.getD t undef := by
  simp only [Act.put]
  by_cases ht : d = t
  · subst ht; simp [Array.getD, hd]
  · rw [if_neg ht]
    simp only [Array.getD_eq_getD_getElem?, Array.getElem?_setIfInBounds]
    rw [if_neg ht]

/-- A slot is written. -/
theorem Conc.put (h : Conc N0 w0 nt σ φ a w) {d : Option Tmp} (hd : ∀ t, d = some t → t < nt) {x : A} {v : Value} (hr : Rep (envOf N0 φ w) x v) :
    Conc N0 w0 nt (σ.put d x) φ (a.put d v) w := by
  cases d with
  | none => exact h
  | some d =>
    have hd' : d < a.tmps.size := by rw [h.size]; exact hd d rfl
    exact { h with
      slots := fun t => by
        rw [getD_put hd' t]
        show Rep _ (look ((d, x) :: σ.s) t) _
        simp only [look]
        split
        · exact hr
        · exact h.slots t
      size := by simp only [Act.put, Array.size_setIfInBounds]; exact h.size
      defers := h.defers }

theorem rep_undef (E : Env) : Rep E (.tup []) undef := by simp [Rep, RepL, undef]

theorem Rep_toA1 (E : Env) (v : Value) : Rep E (toA1 v) v := by
  unfold toA1
  split <;> first
    | (simp only [Rep]; done)
    | (simp [Rep, RepL]; done)
    | (simp only [Rep]; exact ⟨[], rfl, by simp [RepL]⟩)

theorem Rep_toA (E : Env) (v : Value) : Rep E (toA v) v := by
  unfold toA
  split
  · rename_i cs
    split
    · rename_i hall
      simp only [Rep]
      refine ⟨cs, rfl, RepL_iff.2 ⟨by simp, fun i x u hx hu => ?_⟩, fun u hu => List.all_eq_true.1 hall u hu⟩
      rw [List.getElem?_map, hu] at hx
      simp at hx
      subst hx
      exact Rep_toA1 E u
    · simp only [Rep]
  · exact Rep_toA1 E v

theorem Conc.ev (h : Conc N0 w0 nt σ φ a w) (x : Operand) : Rep (envOf N0 φ w) (σ.ev x) (a.eval x) := by
  match x with
  | .tmp t => exact h.slots t
  | .const v => exact Rep_toA _ v
  | .func f => simp only [St.ev, Act.eval, Rep]; exact ⟨[], rfl, by simp [RepL]⟩
  | .global g => simp only [St.ev, Rep]
end

end Go.Abs
