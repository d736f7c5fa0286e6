/- Soundness, second part: each operation that hands back a value and changes nothing owned. -/
import Derived.Test.YtbnmicpgbcfooaaAbsD
namespace Go.Abs
open Go.RowKit

section
variable {P : Program} {w : World}

theorem tyAgg_true {t : TypeId} (h : tyAgg P t = some true) : ∃ d, P.underlying t = some d ∧ d.isRow = true := by
  unfold tyAgg at h
  split at h <;> first
    | (rename_i hu; exact ⟨_, hu, rfl⟩)
    | simp at h
theorem tyAgg_false {t : TypeId} (h : tyAgg P t = some false) : ∃ d, P.underlying t = some d ∧ d.isRow = false := by
  unfold tyAgg at h
  split at h
  · simp at h
  · simp at h
  · rename_i d h1 h2 hu
    refine ⟨d, hu, ?_⟩
    cases d <;> first | rfl | (exact (h1 _ rfl).elim) | (exact (h2 _ _ rfl).elim)
  · simp at h
theorem run_isAgg_true {t : TypeId} (h : tyAgg P t = some true) : (isAgg t).run P w = .ok true w := by
  obtain ⟨d, hu, hd⟩ := tyAgg_true h
  unfold isAgg
  rw [Sem.run_bind, run_underlying hu w]
  cases d <;> simp_all
theorem run_isAgg_false {t : TypeId} (h : tyAgg P t = some false) : (isAgg t).run P w = .ok false w := by
  obtain ⟨d, hu, hd⟩ := tyAgg_false h
  unfold isAgg
  rw [Sem.run_bind, run_underlying hu w]
  cases d <;> simp_all
theorem run_sizeOf {t n : Nat} (h : tySize P t = some n) : (sizeOf t).run P w = .ok n w := by
  unfold tySize at h
  cases hq : P.info? t with
  | none => simp [hq] at h
  | some i => simp [hq] at h; simp [sizeOf, typeInfo, hq, h]
theorem tyElem_eq {t e : Nat} (h : tyElem P t = some e) : P.underlying t = some (.slice e) := by
  unfold tyElem at h
  split at h
  · rename_i hu; simp at h; subst h; exact hu
  · simp at h
theorem tyArr_eq {t n e : Nat} (h : tyArr P t = some (n, e)) : P.underlying t = some (.array n e) := by
  unfold tyArr at h
  split at h
  · rename_i hu; simp at h; obtain ⟨rfl, rfl⟩ := h; exact hu
  · simp at h
theorem tyStr_eq {t : Nat} (h : tyStr P t = true) : P.underlying t = some .string := by
  unfold tyStr at h
  split at h
  · assumption
  · simp at h
theorem tyInt_eq {t : Nat} {k : IntKind} (h : tyInt P t = some k) : P.underlying t = some (.int k) := by
  unfold tyInt at h
  split at h
  · rename_i hu; simp at h; subst h; exact hu
  · simp at h
theorem tyPtr_eq {t : Nat} (h : tyPtr P t = true) : ∃ e, P.underlying t = some (.pointer e) := by
  unfold tyPtr at h
  split at h
  · rename_i e hu; exact ⟨e, hu⟩
  · simp at h
theorem fieldInfo_eq {s f o t : Nat} (h : fieldInfo P s f = some (o, t)) :
    ∃ fs x n, P.underlying s = some (.struct fs) ∧ fs[f]? = some x ∧ x.offset = o ∧ x.type = t ∧ tySize P t = some n ∧ n ≠ 0 := by
  unfold fieldInfo at h
  split at h
  · rename_i fs hu
    cases hx : fs[f]? with
    | none => simp [hx] at h
    | some x =>
      simp only [hx, Option.bind_some] at h
      split at h
      · simp at h
      · rename_i h0
        split at h
        · simp at h
        · rename_i h1
          simp at h
          obtain ⟨rfl, rfl⟩ := h
          cases hs : tySize P x.type with
          | none => simp [hs] at h1
          | some n => exact ⟨fs, x, n, hu, hx, rfl, rfl, rfl, fun hn => h0 (by rw [hs, hn])⟩
  · simp at h

theorem run_v {s : Sem Value} {v : Value} {w' : World} (h : s.run P w = .ok v w') : (do pure (Next.value (← s)) : Sem Next).run P w = .ok (.value v) w' := by
  simp [h]
theorem run_u {s : Sem Unit} {w' : World} (h : s.run P w = .ok () w') : (do s; pure Next.skip : Sem Next).run P w = .ok .skip w' := by
  simp [h]
end

/-- What a good run of an operation comes to. -/
def Good (P : Program) (o : Oper) (a : Act) (w : World) (N0 : Nat → Prop) (φ : List Own) (x : A) : Prop :=
  ∃ v w', (Go.execOp a.eval o).run P w = .ok (.value v) w' ∧ Grew w w' ∧ Rep (envOf N0 φ w') x v

section
variable {P : Program} {N0 : Nat → Prop} {w0 : Base} {nt : Nat} {σ : St} {φ : List Own} {a : Act} {w : World}

theorem good_same {o : Oper} {s : Sem Value} {x : A} {v : Value} (ho : Go.execOp a.eval o = (do pure (Next.value (← s)))) (hr : s.run P w = .ok v w) (h : Rep (envOf N0 φ w) x v) : Good P o a w N0 φ x :=
  ⟨v, w, by rw [ho]; exact run_v hr, Grew.refl w, h⟩

theorem run_builtin {b : Builtin} {xs : List Operand} {us : Array TypeId} {d : Option Tmp} {t : TypeId} {p : String} {af : Array Edge} {g : Option (Nat × Bool)} :
    ∃ cs, (Go.execOp a.eval ⟨d, .call ⟨.builtin b, ⟨xs⟩, us⟩, t, p, af, g⟩).run P w = (builtin b us t cs (xs.map a.eval).toArray).run P w := by
  refine ⟨xs.toArray.map fun | .const _ => true | _ => false, ?_⟩
  simp only [Go.execOp, resolve, invoke, Sem.run_bind, Sem.run_pure, Result.andThen_ok]
  rw [← List.map_toArray]
  rfl
theorem good_builtin {b : Builtin} {xs : List Operand} {us : Array TypeId} {d : Option Tmp} {t : TypeId} {p : String} {af : Array Edge} {g : Option (Nat × Bool)} {s : Sem Value} {x : A} {v : Value}
    (ho : ∀ cs, builtin b us t cs (xs.map a.eval).toArray = (do pure (Next.value (← s)))) (hr : s.run P w = .ok v w) (h : Rep (envOf N0 φ w) x v) : Good P ⟨d, .call ⟨.builtin b, ⟨xs⟩, us⟩, t, p, af, g⟩ a w N0 φ x := by
  obtain ⟨cs, hcs⟩ := run_builtin (P := P) (a := a) (w := w) (b := b) (xs := xs) (us := us) (d := d) (t := t) (p := p) (af := af) (g := g)
  exact ⟨v, w, by rw [hcs, ho]; exact run_v hr, Grew.refl w, h⟩
theorem size_mk (s : List UInt8) : (⟨s.toArray⟩ : ByteArray).size = s.length := rfl

theorem rep_int {E : Env} {k : IntKind} {n : Int} {v : Value} (h : Rep E (.int k n) v) : v = .int k n := by simpa only [Rep] using h
theorem rep_bool {E : Env} {b : Bool} {v : Value} (h : Rep E (.bool b) v) : v = .bool b := by simpa only [Rep] using h
theorem rep_str {E : Env} {s : List UInt8} {v : Value} (h : Rep E (.str s) v) : v = .string ⟨s.toArray⟩ := by simpa only [Rep] using h

theorem good_move (h : Conc N0 w0 nt σ φ a w) {d : Option Tmp} {x : Operand} {t : TypeId} {p : String} {af : Array Edge} {g : Option (Nat × Bool)} : Good P ⟨d, .move x, t, p, af, g⟩ a w N0 φ (σ.ev x) :=
  ⟨a.eval x, w, rfl, Grew.refl w, h.ev x⟩
theorem good_assign (h : Conc N0 w0 nt σ φ a w) {d : Option Tmp} {x : Operand} {t : TypeId} {p : String} {af : Array Edge} {g : Option (Nat × Bool)} : Good P ⟨d, .assign x, t, p, af, g⟩ a w N0 φ (σ.ev x) :=
  ⟨a.eval x, w, rfl, Grew.refl w, h.ev x⟩

theorem good_pick (h : Conc N0 w0 nt σ φ a w) {d : Option Tmp} {x y z : Operand} {t : TypeId} {p : String} {af : Array Edge} {g : Option (Nat × Bool)} {r : A}
    (hr : pickA (σ.ev x) (σ.ev y) (σ.ev z) = some r) : Good P ⟨d, .pick x y z, t, p, af, g⟩ a w N0 φ r := by
  cases hc : σ.ev x <;> simp only [hc, pickA] at hr <;> try (simp at hr; done)
  rename_i b
  have hx := h.ev x
  rw [hc] at hx
  have hx' := rep_bool hx
  refine ⟨if b then a.eval y else a.eval z, w, ?_, Grew.refl w, ?_⟩
  · simp [Go.execOp, hx', asBool]
  · simp at hr
    subst hr
    cases b
    · simpa using h.ev z
    · simpa using h.ev y

theorem good_fieldAddr (h : Conc N0 w0 nt σ φ a w) {d : Option Tmp} {x : Operand} {s f : Nat} {t : TypeId} {p : String} {af : Array Edge} {g : Option (Nat × Bool)} {r : A}
    (hr : fieldAddrI (fieldInfo P s f) (σ.ev x) = some r) : Good P ⟨d, .fieldAddr s x f, t, p, af, g⟩ a w N0 φ r := by
  cases hf : fieldInfo P s f with
  | none => simp [hf, fieldAddrI] at hr
  | some q =>
    obtain ⟨o, ft⟩ := q
    rw [hf] at hr
    simp only [fieldAddrI] at hr
    obtain ⟨fs, fx, n, hu, hfx, rfl, rfl, hn, hn0⟩ := fieldInfo_eq hf
    have key : ∀ b off : Nat, a.eval x = .pointer (some ⟨b, off, none⟩) → (Instr.fieldAt s (a.eval x) f).run P w = .ok (.pointer (some ⟨b, off + fx.offset, none⟩)) w := by
      intro b off hx
      have hz : (sizeOf fx.type).run P w = .ok n w := run_sizeOf hn
      simp [Instr.fieldAt, run_underlying hu, hfx, hx, Instr.sureAddr, fieldPlace, hz, hn0, Addr.add_mid]
    have hx := h.ev x
    cases hc : σ.ev x <;> simp only [hc, fieldAddrA] at hr <;> try (simp at hr; done)
    · rename_i cs
      simp at hr
      subst hr
      rw [hc] at hx
      simp only [Rep] at hx
      obtain ⟨hp, b, off, hv, hb, hnb, hm⟩ := hx
      refine good_same rfl (key b off hv) ?_
      simp only [Rep]
      refine ⟨?_, b, off + fx.offset, rfl, hb, hnb, RepM_drop hm⟩
      clear hm hc hv
      generalize fx.offset = m
      induction cs generalizing m with
      | nil => simp [A.pure.pureL]
      | cons y ys ih =>
        simp only [A.pure.pureL, Bool.and_eq_true] at hp
        cases m with
        | zero => simp [A.pure.pureL, hp]
        | succ m => simpa using ih hp.2 m
    · rename_i n' off
      simp at hr
      subst hr
      rw [hc] at hx
      simp only [Rep] at hx
      obtain ⟨b, k, hb, hv⟩ := hx
      refine good_same rfl (key b off hv) ?_
      simp only [Rep]
      exact ⟨b, k, hb, rfl⟩
    · rename_i n' i off
      simp at hr
      subst hr
      rw [hc] at hx
      simp only [Rep] at hx
      obtain ⟨b, k, hb, hv⟩ := hx
      refine good_same rfl (key b (i * k + off) hv) ?_
      simp only [Rep]
      exact ⟨b, k, hb, by rw [Nat.add_assoc]⟩

/-- Cells in memory are loaded. -/
theorem load_mem {E : Env} {t : TypeId} {cs : List A} {x : A} {b off : Nat} (hm : RepM E b off cs) (hl : loadC P t cs = some x) : ∃ v, (loadVar t ⟨b, off, none⟩).run P E.w = .ok v E.w ∧ Rep E x v ∧ (x.val = true ∨ v.oneCell' = true) := by
  unfold loadC at hl
  split at hl
  · rename_i hag
    split at hl
    · rename_i n hn
      split at hl
      · rename_i hle
        simp at hl
        subst hl
        obtain ⟨vs, hr, hL, h1⟩ := RepM_vals (RepM_take (n := n) hm)
        obtain ⟨d, hu, hd⟩ := tyAgg_true hag
        have hlen : vs.length = n := by rw [← (RepL_iff.1 hL).1]; simp; omega
        refine ⟨.agg vs.toArray, run_loadVar_mid E.w b off t vs d hr hu hd (by unfold tySize at hn; rw [hn, hlen]), ?_, .inl rfl⟩
        simp only [Rep]
        exact ⟨vs, rfl, hL, h1⟩
      · simp at hl
    · simp at hl
  · rename_i hag
    cases cs with
    | nil => simp at hl
    | cons c cs =>
      simp at hl
      subst hl
      simp only [RepM] at hm
      obtain ⟨⟨v, hv, h1, hrep⟩, _⟩ := hm
      exact ⟨v, by simp [loadVar, run_isAgg_false hag, hv], hrep, .inr h1⟩
  · simp at hl

theorem pureL_getElem {es : List A} (h : A.pure.pureL es = true) {i : Nat} {e : A} (hi : es[i]? = some e) : e.pure = true := by
  induction es generalizing i with
  | nil => simp at hi
  | cons z zs ih =>
    simp only [A.pure.pureL, Bool.and_eq_true] at h
    cases i with
    | zero => simp at hi; subst hi; exact h.1
    | succ i => exact ih h.2 (by simpa using hi)
theorem pureL_of {es : List A} (h : ∀ (i : Nat) (e : A), es[i]? = some e → e.pure = true) : A.pure.pureL es = true := by
  induction es with
  | nil => rfl
  | cons z zs ih =>
    simp only [A.pure.pureL, Bool.and_eq_true]
    exact ⟨h 0 z rfl, ih fun i e he => h (i + 1) e (by simpa using he)⟩
theorem pureL_drop {es : List A} {n : Nat} (h : A.pure.pureL es = true) : A.pure.pureL (es.drop n) = true :=
  pureL_of fun i e he => pureL_getElem h (i := n + i) (by simpa [List.getElem?_drop] using he)
theorem pureL_take {es : List A} {n : Nat} (h : A.pure.pureL es = true) : A.pure.pureL (es.take n) = true :=
  pureL_of fun i e he => pureL_getElem h (i := i) (by
    rw [List.getElem?_take] at he
    split at he
    · exact he
    · simp at he)
theorem pure_cells {e : A} (h : e.pure = true) : A.pure.pureL e.cells = true := by
  cases e <;> simp_all [A.pure, A.cells, A.pure.pureL]

theorem good_load (h : Conc N0 w0 nt σ φ a w) {d : Option Tmp} {x : Operand} {s : Nat} {t : TypeId} {p : String} {af : Array Edge} {g : Option (Nat × Bool)} {r : A}
    (hr : loadA P s σ.H (σ.ev x) = some r) : Good P ⟨d, .load s x, t, p, af, g⟩ a w N0 φ r := by
  have hx := h.ev x
  cases hc : σ.ev x <;> simp only [hc, loadA] at hr <;> try (simp at hr; done)
  · rw [hc] at hx
    simp only [Rep] at hx
    obtain ⟨hp, b, off, hv, hb, hnb, hm⟩ := hx
    obtain ⟨v, hv', hrep, _⟩ := load_mem hm hr
    replace hv' : (loadVar s ⟨b, off, none⟩).run P w = .ok v w := hv'
    exact good_same rfl (by rw [hv]; simpa [Instr.loadAt, Instr.sureAddr] using hv') hrep
  · rename_i n off
    rw [hc] at hx
    simp only [Rep] at hx
    obtain ⟨b, k, hb, hv⟩ := hx
    split at hr
    · rename_i cs hcs
      have ho := h.objs n _ _ hcs hb
      simp only [ObjRel] at ho
      have hm := RepM_drop (n := off) ho.2
      obtain ⟨v, hv', hrep, _⟩ := load_mem hm hr
      replace hv' : (loadVar s ⟨b, 0 + off, none⟩).run P w = .ok v w := hv'
      rw [Nat.zero_add] at hv'
      exact good_same rfl (by rw [hv]; simpa [Instr.loadAt, Instr.sureAddr] using hv') hrep
    · simp at hr
  · rename_i n i off
    rw [hc] at hx
    simp only [Rep] at hx
    obtain ⟨b, k, hb, hv⟩ := hx
    split at hr
    · rename_i k' es hcs
      have ho := h.objs n _ _ hcs hb
      simp only [ObjRel] at ho
      obtain ⟨rfl, hpu, hblk, he⟩ := ho
      cases hi : es[i]? with
      | none => simp [hi] at hr
      | some e =>
        simp only [hi, Option.bind_some] at hr
        obtain ⟨hl, hm⟩ := RepE_iff.1 he i e hi
        have hm' := RepM_drop (n := off) hm
        obtain ⟨v, hv', hrep, _⟩ := load_mem hm' hr
        replace hv' : (loadVar s ⟨b, 0 + i * k' + off, none⟩).run P w = .ok v w := hv'
        rw [Nat.zero_add] at hv'
        exact good_same rfl (by rw [hv]; simpa [Instr.loadAt, Instr.sureAddr] using hv') hrep
    · simp at hr

theorem good_nilCheck (h : Conc N0 w0 nt σ φ a w) {d : Option Tmp} {x : Operand} {t : TypeId} {p : String} {af : Array Edge} {g : Option (Nat × Bool)} {r : A}
    (hr : nilCheckA (σ.ev x) = some r) : Good P ⟨d, .nilCheck x, t, p, af, g⟩ a w N0 φ r := by
  have hx := h.ev x
  cases hc : σ.ev x <;> simp only [hc, nilCheckA] at hr <;> try (simp at hr; done)
  all_goals
    simp at hr
    subst hr
    rw [hc] at hx
    refine ⟨a.eval x, w, ?_, Grew.refl w, hx⟩
    simp only [Rep] at hx
  · obtain ⟨hp, b, off, hv, hb, hnb, hm⟩ := hx
    simp [Go.execOp, hv]
  · obtain ⟨b, k, hb, hv⟩ := hx
    simp [Go.execOp, hv]
  · obtain ⟨b, k, hb, hv⟩ := hx
    simp [Go.execOp, hv]
  · obtain ⟨vs, hv, _⟩ := hx
    simp [Go.execOp, hv]

theorem good_makeFunc (h : Conc N0 w0 nt σ φ a w) {d : Option Tmp} {f : Fn} {xs ys : Array Operand} {t : TypeId} {p : String} {af : Array Edge} {g : Option (Nat × Bool)} {r : A}
    (hr : makeFuncA f (σ.evL xs.toList) (σ.evL ys.toList) = some r) : Good P ⟨d, .makeFunc f xs ys, t, p, af, g⟩ a w N0 φ r := by
  cases f <;> simp only [makeFuncA] at hr <;> try (simp at hr; done)
  rename_i f
  cases hxs : σ.evL xs.toList with
  | cons _ _ => simp [hxs] at hr
  | nil =>
    simp only [hxs] at hr
    simp at hr
    subst hr
    have hx0 : xs = #[] := by
      cases hl : xs.toList with
      | nil => exact Array.toList_eq_nil_iff.1 hl
      | cons _ _ => simp [hl, St.evL] at hxs
    subst hx0
    refine ⟨.func (.func f) #[] (ys.map a.eval), w, ?_, Grew.refl w, ?_⟩
    · simp [Go.execOp, Instr.makeFunc]
    · simp only [Rep]
      refine ⟨(ys.map a.eval).toList, rfl, ?_⟩
      simp only [Array.toList_map]
      generalize ys.toList = l
      induction l with
      | nil => simp [St.evL, RepL]
      | cons y l ih => simp only [St.evL, List.map_cons, RepL]; exact ⟨_, _, rfl, h.ev y, ih⟩

theorem good_extract (h : Conc N0 w0 nt σ φ a w) {d : Option Tmp} {x : Operand} {i : Nat} {t : TypeId} {p : String} {af : Array Edge} {g : Option (Nat × Bool)} {r : A}
    (hr : extractA (σ.ev x) i = some r) : Good P ⟨d, .extract x i, t, p, af, g⟩ a w N0 φ r := by
  have hx := h.ev x
  cases hc : σ.ev x <;> simp only [hc, extractA] at hr <;> try (simp at hr; done)
  rename_i cs
  rw [hc] at hx
  simp only [Rep] at hx
  obtain ⟨vs, hv, hl⟩ := hx
  obtain ⟨h1, h2⟩ := RepL_iff.1 hl
  have hi : i < vs.length := by rw [← h1]; exact (List.getElem?_eq_some_iff.1 hr).1
  refine good_same rfl (v := vs[i]) (by rw [hv]; simp [Instr.extract, hi]) (h2 i _ _ hr (List.getElem?_eq_getElem hi))

theorem good_len (h : Conc N0 w0 nt σ φ a w) {d : Option Tmp} {x : Operand} {u : TypeId} {t : TypeId} {p : String} {af : Array Edge} {g : Option (Nat × Bool)} {r : A}
    (hr : lenA P u (σ.ev x) = some r) : Good P ⟨d, .call ⟨.builtin .len, ⟨[x]⟩, ⟨[u]⟩⟩, t, p, af, g⟩ a w N0 φ r := by
  have hx := h.ev x
  have ho : ∀ cs, builtin .len #[u] t cs ([x].map a.eval).toArray = (do pure (Next.value (← Builtin.len_ #[u] t #[a.eval x]))) := fun cs => rfl
  have arr : ∀ n e, tyArr P u = some (n, e) → r = .int .i64 n → Good P ⟨d, .call ⟨.builtin .len, ⟨[x]⟩, ⟨[u]⟩⟩, t, p, af, g⟩ a w N0 φ r := by
    rintro n e hn rfl
    refine good_builtin ho (v := .int .i64 n) ?_ (by simp only [Rep])
    simp [Builtin.len_, run_underlying (tyArr_eq hn), goInt]
  cases hc : σ.ev x <;> simp only [hc, lenA] at hr
  case str s =>
    split at hr
    · rename_i hs
      simp at hr
      subst hr
      rw [hc] at hx
      refine good_builtin ho (v := .int .i64 s.length) ?_ (by simp only [Rep])
      rw [rep_str hx]
      simp [Builtin.len_, run_underlying (tyStr_eq hs), goInt, size_mk]
    · simp at hr
  case slc es =>
    split at hr
    · rename_i hs
      simp at hr
      subst hr
      rw [hc] at hx
      simp only [Rep] at hx
      obtain ⟨_, b, cap, hv, _⟩ := hx
      obtain ⟨e, he⟩ := Option.isSome_iff_exists.1 hs
      refine good_builtin ho (v := .int .i64 es.length) ?_ (by simp only [Rep])
      rw [hv]
      simp [Builtin.len_, run_underlying (tyElem_eq he), goInt]
    · simp at hr
  case clip es =>
    split at hr
    · rename_i hs
      simp at hr
      subst hr
      rw [hc] at hx
      simp only [Rep] at hx
      obtain ⟨_, b, hv, _⟩ := hx
      obtain ⟨e, he⟩ := Option.isSome_iff_exists.1 hs
      refine good_builtin ho (v := .int .i64 es.length) ?_ (by simp only [Rep])
      rw [hv]
      simp [Builtin.len_, run_underlying (tyElem_eq he), goInt]
    · simp at hr
  case nils =>
    split at hr
    · rename_i hs
      simp at hr
      subst hr
      rw [hc] at hx
      simp only [Rep] at hx
      obtain ⟨e, he⟩ := Option.isSome_iff_exists.1 hs
      refine good_builtin ho (v := .int .i64 0) ?_ (by simp only [Rep])
      rw [hx]
      simp [Builtin.len_, run_underlying (tyElem_eq he), goInt]
    · simp at hr
  case row n off k len c =>
    split at hr
    · rename_i hs
      simp at hr
      subst hr
      rw [hc] at hx
      simp only [Rep] at hx
      obtain ⟨e, he⟩ := Option.isSome_iff_exists.1 hs
      refine good_builtin ho (v := .int .i64 len) ?_ (by simp only [Rep])
      rcases hx with ⟨_, _, _, rfl, _, b, hv⟩ | ⟨b, cap, c, e', fr, _, hv, _⟩
      all_goals
        rw [hv]
        simp [Builtin.len_, run_underlying (tyElem_eq he), goInt]
    · simp at hr
  all_goals
    split at hr
    · rename_i n e hn
      simp at hr
      exact arr n e hn hr.symm
    · simp at hr

theorem evalL2 (h : Conc N0 w0 nt σ φ a w) {xs : List Operand} {k k' : IntKind} {m n : Int} (he : σ.evL xs = [.int k m, .int k' n]) : xs.map a.eval = [.int k m, .int k' n] := by
  match xs, he with
  | [x, y], he =>
    simp only [St.evL, List.cons.injEq, and_true] at he
    have h1 := h.ev x
    have h2 := h.ev y
    rw [he.1] at h1
    rw [he.2] at h2
    simp [rep_int h1, rep_int h2]
  | [], he => simp [St.evL] at he
  | [_], he => simp [St.evL] at he
  | _ :: _ :: _ :: _, he => simp [St.evL] at he

theorem good_min (h : Conc N0 w0 nt σ φ a w) {d : Option Tmp} {xs : List Operand} {us : Array TypeId} {t : TypeId} {p : String} {af : Array Edge} {g : Option (Nat × Bool)} {r : A}
    (hr : minA (σ.evL xs) = some r) : Good P ⟨d, .call ⟨.builtin .min, ⟨xs⟩, us⟩, t, p, af, g⟩ a w N0 φ r := by
  unfold minA at hr
  split at hr
  · rename_i k m k' n he
    simp at hr
    subst hr
    have hm := evalL2 h he
    refine good_builtin (s := Builtin.min_ us t (xs.map a.eval).toArray) (fun _ => rfl) (v := .int k (if n < m then n else m)) ?_ (by simp only [Rep])
    simp [Builtin.min_, hm, Builtin.min2]
  · simp at hr
theorem good_max (h : Conc N0 w0 nt σ φ a w) {d : Option Tmp} {xs : List Operand} {us : Array TypeId} {t : TypeId} {p : String} {af : Array Edge} {g : Option (Nat × Bool)} {r : A}
    (hr : maxA (σ.evL xs) = some r) : Good P ⟨d, .call ⟨.builtin .max, ⟨xs⟩, us⟩, t, p, af, g⟩ a w N0 φ r := by
  unfold maxA at hr
  split at hr
  · rename_i k m k' n he
    simp at hr
    subst hr
    have hm := evalL2 h he
    refine good_builtin (s := Builtin.max_ us t (xs.map a.eval).toArray) (fun _ => rfl) (v := .int k (if n > m then n else m)) ?_ (by simp only [Rep])
    simp [Builtin.max_, hm, Builtin.max2]
  · simp at hr
end

end Go.Abs
