/- Soundness, fourth part: a value as pure data ('view'); conversion, slices, indexes, fields, literals. -/
import Derived.Test.YtfcjemfgdeoinaaAbsF
namespace Go.Abs
open Go.RowKit

/-- Of pure data only what is forbidden counts. -/
theorem Rep.pure_mono {E E' : Env} (hw : E'.w = E.w) (hN : ∀ b, ¬ E.N b → ¬ E'.N b) {x : A} {v : Value} (hx : x.pure = true) (h : Rep E x v) : Rep E' x v := by
  refine Rep.mono (K := fun _ => False) ⟨by rw [hw]; exact Nat.le_refl _, fun b _ hn => ⟨hN b hn, by rw [hw]⟩, fun _ _ hk => hk.elim, fun _ _ _ _ _ _ hk => hk.elim⟩ x v h fun n hn => ?_
  rw [A.mem_of_pure n x hx] at hn
  cases hn
theorem RepE.pure_mono {E E' : Env} (hw : E'.w = E.w) (hN : ∀ b, ¬ E.N b → ¬ E'.N b) {k b off : Nat} {es : List A} (hp : A.pure.pureL es = true) (h : RepE E k b off es) : RepE E' k b off es :=
  RepE_iff.2 fun i e he => by
    obtain ⟨hl, hm⟩ := RepE_iff.1 h i e he
    refine ⟨hl, RepM_iff.2 fun j y hy => ?_⟩
    obtain ⟨v, hv, h1, hr⟩ := RepM_iff.1 hm j y hy
    exact ⟨v, by rw [hw]; exact hv, h1, Rep.pure_mono hw hN (pureL_getElem (pure_cells (pureL_getElem hp he)) hy) hr⟩
theorem RepM.pure_mono {E E' : Env} (hw : E'.w = E.w) (hN : ∀ b, ¬ E.N b → ¬ E'.N b) {b off : Nat} {cs : List A} (hp : A.pure.pureL cs = true) (h : RepM E b off cs) : RepM E' b off cs :=
  RepM_iff.2 fun j y hy => by
    obtain ⟨v, hv, h1, hr⟩ := RepM_iff.1 h j y hy
    exact ⟨v, by rw [hw]; exact hv, h1, Rep.pure_mono hw hN (pureL_getElem hp hy) hr⟩
theorem RepL.pure_mono {E E' : Env} (hw : E'.w = E.w) (hN : ∀ b, ¬ E.N b → ¬ E'.N b) {cs : List A} {vs : List Value} (hp : A.pure.pureL cs = true) (h : RepL E cs vs) : RepL E' cs vs := by
  obtain ⟨h1, h2⟩ := RepL_iff.1 h
  exact RepL_iff.2 ⟨h1, fun i x v hx hv => Rep.pure_mono hw hN (pureL_getElem hp hx) (h2 i x v hx hv)⟩

theorem stride_of {E : Env} {k b off : Nat} {es : List A} (h : RepE E k b off es) (hne : es ≠ []) : strideOf es = k := by
  cases es with
  | nil => exact absurd rfl hne
  | cons e es => exact (RepE_cons.1 h).1.1

/-- What is asked of the environment in which a value is viewed as data. -/
structure Sees (N0 : Nat → Prop) (φ : List Own) (w : World) (x : A) (N' : Nat → Prop) : Prop where
  le : ∀ b, N' b → (envOf N0 φ w).N b
  own : x.pure = true ∨ ∀ (n b k : Nat), φ[n]? = some (Own.loc b k) → ¬ N' b

section
variable {P : Program} {N0 : Nat → Prop} {w0 : Base} {nt : Nat} {σ : St} {φ : List Own} {a : Act} {w : World}

theorem viewRow_sound (h : Conc N0 w0 nt σ φ a w) {n off k len : Nat} {c : Bool} {y : A} {v : Value} (hv : viewRow σ.H n off k len = some y) (hr : Rep (envOf N0 φ w) (.row n off k len c) v)
    {N' : Nat → Prop} (hle : ∀ b, N' b → (envOf N0 φ w).N b) (hown : ∀ (n b k : Nat), φ[n]? = some (Own.loc b k) → ¬ N' b) : Rep ⟨N', [], w⟩ y v ∧ y.pure = true := by
  unfold viewRow at hv
  split at hv
  · rename_i k' es ho
    split at hv
    · rename_i hc
      obtain ⟨rfl, hlen⟩ := hc
      obtain rfl := Option.some.inj hv
      refine ⟨?_, by simp [A.pure]⟩
      have hl : ((es.drop off).take len).length = len := by simp; omega
      simp only [Rep] at hr ⊢
      rcases hr with ⟨o, hφ, hf, rfl, _, q, hv⟩ | ⟨b, cap, c', e', fr, hφ, hv, hlc, _, hb, _⟩
      · refine ⟨by simp [A.pure.pureL], q, 0, by simpa using hv, by simp, fun hne => absurd (by simp) hne⟩
      · have hob := h.objs n _ _ ho hφ
        simp only [ObjRel] at hob
        obtain ⟨_, hp, _, hE⟩ := hob
        have hE' := RepE_take (n := len) (RepE_drop (n := off) hE)
        have hp' := pureL_take (n := len) (pureL_drop (n := off) hp)
        refine ⟨hp', _, cap, by rw [hl]; exact hv, by rw [hl]; exact hlc, fun hne => ⟨b, off * k', rfl, (h.own n b k' hφ).2, hown n b k' hφ, ?_⟩⟩
        have := RepE.pure_mono (E := envOf N0 φ w) (E' := ⟨N', [], w⟩) rfl (fun b hn hb => hn (hle b hb)) hp' hE'
        rw [stride_of this hne]
        simpa using this
    · simp at hv
  · simp at hv

theorem view0_sound (h : Conc N0 w0 nt σ φ a w) {x y : A} {v : Value} (hv : view0 σ.H x = some y) (hr : Rep (envOf N0 φ w) x v)
    {N' : Nat → Prop} (hs : Sees N0 φ w x N') : Rep ⟨N', [], w⟩ y v ∧ y.pure = true := by
  have hN : ∀ b, ¬ (envOf N0 φ w).N b → ¬ N' b := fun b hn hb => hn (hs.le b hb)
  cases x <;> simp only [view0] at hv <;> try (simp at hv; done)
  case row n off k len c =>
    refine viewRow_sound h hv hr hs.le ?_
    rcases hs.own with hp | ho
    · simp [A.pure] at hp
    · exact ho
  case nils =>
    obtain rfl := Option.some.inj hv
    simp only [Rep] at hr
    exact ⟨by simp only [Rep]; exact ⟨rfl, none, 0, by simpa using hr, Nat.le_refl _, fun hne => absurd rfl hne⟩, by simp [A.pure]⟩
  case clip es =>
    obtain rfl := Option.some.inj hv
    have hr' := Rep.pure_mono (E := envOf N0 φ w) (E' := ⟨N', [], w⟩) rfl hN (by simp [A.pure]) hr
    simp only [Rep] at hr'
    obtain ⟨hp, q, hq, hm⟩ := hr'
    exact ⟨by simp only [Rep]; exact ⟨hp, q, _, hq, Nat.le_refl _, hm⟩, by simp [A.pure]⟩
  all_goals
    obtain rfl := Option.some.inj hv
    exact ⟨Rep.pure_mono (E := envOf N0 φ w) (E' := ⟨N', [], w⟩) rfl hN (by simp [A.pure]) hr, by simp [A.pure]⟩

theorem view0L_get {H : List Obj} : ∀ {xs ys : List A}, view0L H xs = some ys → xs.length = ys.length ∧ ∀ (i : Nat) (x y : A), xs[i]? = some x → ys[i]? = some y → view0 H x = some y
  | [], ys, h => by simp [view0L] at h; subst h; exact ⟨rfl, fun i x y hx => by simp at hx⟩
  | x :: xs, ys, h => by
    simp only [view0L] at h
    cases hx : view0 H x with
    | none => simp [hx] at h
    | some y =>
      simp only [hx, Option.bind_some] at h
      cases hl : view0L H xs with
      | none => simp [hl] at h
      | some ys' =>
        simp [hl] at h
        subst h
        obtain ⟨h1, h2⟩ := view0L_get hl
        refine ⟨by simp [h1], fun i x' y' hx' hy' => ?_⟩
        cases i with
        | zero => simp at hx' hy'; subst hx'; subst hy'; exact hx
        | succ i => exact h2 i x' y' (by simpa using hx') (by simpa using hy')
theorem view1L_get {H : List Obj} : ∀ {xs ys : List A}, view1L H xs = some ys → xs.length = ys.length ∧ ∀ (i : Nat) (x y : A), xs[i]? = some x → ys[i]? = some y → view1 H x = some y
  | [], ys, h => by simp [view1L] at h; subst h; exact ⟨rfl, fun i x y hx => by simp at hx⟩
  | x :: xs, ys, h => by
    simp only [view1L] at h
    cases hx : view1 H x with
    | none => simp [hx] at h
    | some y =>
      simp only [hx, Option.bind_some] at h
      cases hl : view1L H xs with
      | none => simp [hl] at h
      | some ys' =>
        simp [hl] at h
        subst h
        obtain ⟨h1, h2⟩ := view1L_get hl
        refine ⟨by simp [h1], fun i x' y' hx' hy' => ?_⟩
        cases i with
        | zero => simp at hx' hy'; subst hx'; subst hy'; exact hx
        | succ i => exact h2 i x' y' (by simpa using hx') (by simpa using hy')
theorem viewL_get {H : List Obj} : ∀ {xs ys : List A}, viewL H xs = some ys → xs.length = ys.length ∧ ∀ (i : Nat) (x y : A), xs[i]? = some x → ys[i]? = some y → view H x = some y
  | [], ys, h => by simp [viewL] at h; subst h; exact ⟨rfl, fun i x y hx => by simp at hx⟩
  | x :: xs, ys, h => by
    simp only [viewL] at h
    cases hx : view H x with
    | none => simp [hx] at h
    | some y =>
      simp only [hx, Option.bind_some] at h
      cases hl : viewL H xs with
      | none => simp [hl] at h
      | some ys' =>
        simp [hl] at h
        subst h
        obtain ⟨h1, h2⟩ := viewL_get hl
        refine ⟨by simp [h1], fun i x' y' hx' hy' => ?_⟩
        cases i with
        | zero => simp at hx' hy'; subst hx'; subst hy'; exact hx
        | succ i => exact h2 i x' y' (by simpa using hx') (by simpa using hy')

theorem sees_part {N' : Nat → Prop} {x : A} {cs : List A} (hs : Sees N0 φ w x N') (hx : x.pure = true → A.pure.pureL cs = true) {i : Nat} {c : A} (hc : cs[i]? = some c) : Sees N0 φ w c N' :=
  ⟨hs.le, hs.own.imp (fun hp => pureL_getElem (hx hp) hc) id⟩

theorem view1_sound (h : Conc N0 w0 nt σ φ a w) {x y : A} {v : Value} (hv : view1 σ.H x = some y) (hr : Rep (envOf N0 φ w) x v)
    {N' : Nat → Prop} (hs : Sees N0 φ w x N') : Rep ⟨N', [], w⟩ y v ∧ y.pure = true := by
  have hN : ∀ b, ¬ (envOf N0 φ w).N b → ¬ N' b := fun b hn hb => hn (hs.le b hb)
  cases x
  case ref n off =>
    have hown : ∀ (n b k : Nat), φ[n]? = some (Own.loc b k) → ¬ N' b := by
      rcases hs.own with hp | ho
      · simp [A.pure] at hp
      · exact ho
    simp only [view1] at hv
    split at hv
    · rename_i cs ho
      cases hl : view0L σ.H (cs.drop off) with
      | none => simp [hl] at hv
      | some ys =>
        simp [hl] at hv
        subst hv
        simp only [Rep] at hr
        obtain ⟨b, k, hφ, hv⟩ := hr
        have hob := h.objs n _ _ ho hφ
        simp only [ObjRel] at hob
        have hm := RepM_drop (n := off) hob.2
        rw [Nat.zero_add] at hm
        obtain ⟨h1, h2⟩ := view0L_get hl
        have key : ∀ (i : Nat) (c : A), ys[i]? = some c → (∃ u, w.cell? ⟨b, off + i, none⟩ = some u ∧ u.oneCell' = true ∧ Rep ⟨N', [], w⟩ c u) ∧ c.pure = true := by
          intro i c hc
          have hi : i < (cs.drop off).length := by rw [h1]; exact (List.getElem?_eq_some_iff.1 hc).1
          obtain ⟨u, hu, hone, hrep⟩ := RepM_iff.1 hm i _ (List.getElem?_eq_getElem hi)
          have := view0_sound h (h2 i _ c (List.getElem?_eq_getElem hi) hc) hrep (N' := N') ⟨hs.le, .inr hown⟩
          exact ⟨⟨u, hu, hone, this.1⟩, this.2⟩
        refine ⟨?_, by simp [A.pure]⟩
        simp only [Rep]
        exact ⟨pureL_of fun i c hc => (key i c hc).2, b, off, hv, (h.own n b k hφ).2, hown n b k hφ, RepM_iff.2 fun i c hc => (key i c hc).1⟩
    · simp at hv
  case eref n i off =>
    have hown : ∀ (n b k : Nat), φ[n]? = some (Own.loc b k) → ¬ N' b := by
      rcases hs.own with hp | ho
      · simp [A.pure] at hp
      · exact ho
    simp only [view1] at hv
    split at hv
    · rename_i k' es ho
      cases hi : es[i]? with
      | none => simp [hi] at hv
      | some e =>
        simp [hi] at hv
        subst hv
        simp only [Rep] at hr
        obtain ⟨b, k, hφ, hv⟩ := hr
        have hob := h.objs n _ _ ho hφ
        simp only [ObjRel] at hob
        obtain ⟨rfl, hp, _, hE⟩ := hob
        obtain ⟨_, hm⟩ := RepE_iff.1 hE i e hi
        have hm' := RepM_drop (n := off) hm
        rw [Nat.zero_add] at hm'
        have hpe := pureL_drop (n := off) (pure_cells (pureL_getElem hp hi))
        refine ⟨?_, by simp [A.pure]⟩
        simp only [Rep]
        exact ⟨hpe, b, i * k' + off, hv, (h.own n b k' hφ).2, hown n b k' hφ, RepM.pure_mono (E := envOf N0 φ w) (E' := ⟨N', [], w⟩) rfl hN hpe hm'⟩
    · simp at hv
  case agg cs =>
    simp only [view1] at hv
    cases hl : view0L σ.H cs with
    | none => simp [hl] at hv
    | some ys =>
      simp [hl] at hv
      subst hv
      simp only [Rep] at hr ⊢
      obtain ⟨vs, hv, hL, hone⟩ := hr
      obtain ⟨h1, h2⟩ := view0L_get hl
      obtain ⟨g1, g2⟩ := RepL_iff.1 hL
      have key : ∀ (i : Nat) (c : A) (u : Value), ys[i]? = some c → vs[i]? = some u → Rep ⟨N', [], w⟩ c u ∧ c.pure = true := by
        intro i c u hc hu
        have hi : i < cs.length := by rw [h1]; exact (List.getElem?_eq_some_iff.1 hc).1
        exact view0_sound h (h2 i _ c (List.getElem?_eq_getElem hi) hc) (g2 i _ u (List.getElem?_eq_getElem hi) hu) (sees_part hs (fun hp => by simpa only [A.pure] using hp) (List.getElem?_eq_getElem hi))
      refine ⟨⟨vs, hv, RepL_iff.2 ⟨by rw [← h1, g1], fun i c u hc hu => (key i c u hc hu).1⟩, hone⟩, ?_⟩
      simp only [A.pure]
      refine pureL_of fun i c hc => ?_
      have hi : i < vs.length := by rw [← g1, h1]; exact (List.getElem?_eq_some_iff.1 hc).1
      exact (key i c _ hc (List.getElem?_eq_getElem hi)).2
  all_goals
    simp only [view1] at hv
    exact view0_sound h hv hr hs

theorem view_sound (h : Conc N0 w0 nt σ φ a w) {x y : A} {v : Value} (hv : view σ.H x = some y) (hr : Rep (envOf N0 φ w) x v)
    {N' : Nat → Prop} (hs : Sees N0 φ w x N') : Rep ⟨N', [], w⟩ y v ∧ y.pure = true := by
  cases x
  case fn f cs =>
    simp only [view] at hv
    cases hl : view1L σ.H cs with
    | none => simp [hl] at hv
    | some ys =>
      simp [hl] at hv
      subst hv
      simp only [Rep] at hr ⊢
      obtain ⟨vs, hv, hL⟩ := hr
      obtain ⟨h1, h2⟩ := view1L_get hl
      obtain ⟨g1, g2⟩ := RepL_iff.1 hL
      have key : ∀ (i : Nat) (c : A) (u : Value), ys[i]? = some c → vs[i]? = some u → Rep ⟨N', [], w⟩ c u ∧ c.pure = true := by
        intro i c u hc hu
        have hi : i < cs.length := by rw [h1]; exact (List.getElem?_eq_some_iff.1 hc).1
        exact view1_sound h (h2 i _ c (List.getElem?_eq_getElem hi) hc) (g2 i _ u (List.getElem?_eq_getElem hi) hu) (sees_part hs (fun hp => by simpa only [A.pure] using hp) (List.getElem?_eq_getElem hi))
      refine ⟨⟨vs, hv, RepL_iff.2 ⟨by rw [← h1, g1], fun i c u hc hu => (key i c u hc hu).1⟩⟩, ?_⟩
      simp only [A.pure]
      refine pureL_of fun i c hc => ?_
      have hi : i < vs.length := by rw [← g1, h1]; exact (List.getElem?_eq_some_iff.1 hc).1
      exact (key i c _ hc (List.getElem?_eq_getElem hi)).2
  all_goals
    simp only [view] at hv
    exact view1_sound h hv hr hs

theorem viewL_sound (h : Conc N0 w0 nt σ φ a w) {xs ys : List A} {vs : List Value} (hv : viewL σ.H xs = some ys) (hr : RepL (envOf N0 φ w) xs vs)
    {N' : Nat → Prop} (hle : ∀ b, N' b → (envOf N0 φ w).N b) (hown : A.pure.pureL xs = true ∨ ∀ (n b k : Nat), φ[n]? = some (Own.loc b k) → ¬ N' b) : RepL ⟨N', [], w⟩ ys vs ∧ A.pure.pureL ys = true := by
  obtain ⟨h1, h2⟩ := viewL_get hv
  obtain ⟨g1, g2⟩ := RepL_iff.1 hr
  have key : ∀ (i : Nat) (c : A) (u : Value), ys[i]? = some c → vs[i]? = some u → Rep ⟨N', [], w⟩ c u ∧ c.pure = true := by
    intro i c u hc hu
    have hi : i < xs.length := by rw [h1]; exact (List.getElem?_eq_some_iff.1 hc).1
    exact view_sound h (h2 i _ c (List.getElem?_eq_getElem hi) hc) (g2 i _ u (List.getElem?_eq_getElem hi) hu) ⟨hle, hown.imp (fun hp => pureL_getElem hp (List.getElem?_eq_getElem hi)) id⟩
  refine ⟨RepL_iff.2 ⟨by rw [← h1, g1], fun i c u hc hu => (key i c u hc hu).1⟩, pureL_of fun i c hc => ?_⟩
  have hi : i < vs.length := by rw [← g1, h1]; exact (List.getElem?_eq_some_iff.1 hc).1
  exact (key i c _ hc (List.getElem?_eq_getElem hi)).2

theorem own_not_n0 (h : Conc N0 w0 nt σ φ a w) : ∀ (n b k : Nat), φ[n]? = some (Own.loc b k) → ¬ N0 b :=
  fun n b k hb hn => (h.own n b k hb).1.elim (fun h1 => Nat.lt_irrefl _ (Nat.lt_of_lt_of_le (h.n0 b hn).1 h1)) (h.n0 b hn).2
end

end Go.Abs
