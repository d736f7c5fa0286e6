/- Soundness, fifteenth part: calls with their objects: the callee knows the objects by names of its own. -/
import Derived.Test.YtfcjemfgdeoinaaAbsQ
namespace Go.Abs
open Go.RowKit

/-- What the callee must leave alone: the others' blocks, and those of objects that it doesn't know. -/
def locN (N0 : Nat → Prop) (φ : List Own) (ρ : List Nat) (b : Nat) : Prop := N0 b ∨ ∃ n k : Nat, φ[n]? = some (Own.loc b k) ∧ n ∉ ρ
def locφ (φ : List Own) (ρ : List Nat) : List Own := ρ.map fun n => φ.getD n .free

theorem locφ_get {φ : List Own} {ρ : List Nat} (hlt : ∀ n ∈ ρ, n < φ.length) {i n : Nat} (h : ρ[i]? = some n) : (locφ φ ρ)[i]? = φ[n]? := by
  have hn := hlt n (List.mem_of_getElem? h)
  simp [locφ, List.getElem?_map, h, hn]
theorem locφ_get' {φ : List Own} {ρ : List Nat} (hlt : ∀ n ∈ ρ, n < φ.length) {i : Nat} {p : Own} (h : (locφ φ ρ)[i]? = some p) : ∃ n, ρ[i]? = some n ∧ n ∈ ρ ∧ φ[n]? = some p := by
  cases hi : ρ[i]? with
  | none => simp [locφ, List.getElem?_map, hi] at h
  | some n => exact ⟨n, rfl, List.mem_of_getElem? hi, by rw [← locφ_get hlt hi]; exact h⟩
theorem idx_get : ∀ {ρ : List Nat} {n i : Nat}, idx ρ n = some i → ρ[i]? = some n
  | [], _, _, h => by simp [idx] at h
  | m :: ms, n, i, h => by
    simp only [idx] at h
    split at h
    · rename_i e; subst e; obtain rfl := Option.some.inj h; rfl
    · cases hm : idx ms n with
      | none => simp [hm] at h
      | some j =>
        simp [hm] at h
        subst h
        simpa using idx_get hm
theorem nthN_get : ∀ {ρ : List Nat} {m i n : Nat}, ρ[i]? = some n → nthN ρ m i = n
  | [], _, _, _, h => by simp at h
  | k :: ks, m, 0, n, h => by simpa [nthN] using h
  | k :: ks, m, i + 1, n, h => by simp only [nthN]; exact nthN_get (by simpa using h)
theorem nthN_new : ∀ {ρ : List Nat} {m i : Nat}, nthN ρ m (ρ.length + i) = m + i
  | [], m, i => by simp [nthN]
  | k :: ks, m, i => by
    rw [show (k :: ks).length + i = (ks.length + i) + 1 by simp; omega]
    simp only [nthN]; exact nthN_new

section
variable {N0 : Nat → Prop} {φ : List Own} {ρ : List Nat} {w : World}

theorem locN_env (hlt : ∀ n ∈ ρ, n < φ.length) (b : Nat) : (envOf (locN N0 φ ρ) (locφ φ ρ) w).N b ↔ (envOf N0 φ w).N b := by
  constructor
  · rintro ((h0 | ⟨n, k, hn, _⟩) | ⟨i, k, hi⟩)
    · exact .inl h0
    · exact .inr ⟨n, k, hn⟩
    · obtain ⟨n, _, _, hn⟩ := locφ_get' hlt hi
      exact .inr ⟨n, k, hn⟩
  · rintro (h0 | ⟨n, k, hn⟩)
    · exact .inl (.inl h0)
    · by_cases hρ : n ∈ ρ
      · obtain ⟨i, hi⟩ := List.getElem?_of_mem hρ
        exact .inr ⟨i, k, by rw [locφ_get hlt hi]; exact hn⟩
      · exact .inl (.inr ⟨n, k, hn, hρ⟩)

mutual
theorem rep_ren (hlt : ∀ n ∈ ρ, n < φ.length) : ∀ (x : A) (v : Value) (x' : A), Rep (envOf N0 φ w) x v → x.ren ρ = some x' → Rep (envOf (locN N0 φ ρ) (locφ φ ρ) w) x' v
  | .any, v, x', h, hx => by simp only [A.ren, Option.some.injEq] at hx; subst hx; simp only [Rep]
  | .int _ _, v, x', h, hx => by simp only [A.ren, Option.some.injEq] at hx; subst hx; simpa only [Rep] using h
  | .bool _, v, x', h, hx => by simp only [A.ren, Option.some.injEq] at hx; subst hx; simpa only [Rep] using h
  | .str _, v, x', h, hx => by simp only [A.ren, Option.some.injEq] at hx; subst hx; simpa only [Rep] using h
  | .nils, v, x', h, hx => by simp only [A.ren, Option.some.injEq] at hx; subst hx; simpa only [Rep] using h
  | .nilp, v, x', h, hx => by simp only [A.ren, Option.some.injEq] at hx; subst hx; simpa only [Rep] using h
  | .slc es, v, x', h, hx => by
    simp only [A.ren, Option.some.injEq] at hx; subst hx
    exact Rep.pure_mono (E := envOf N0 φ w) (E' := envOf (locN N0 φ ρ) (locφ φ ρ) w) rfl (fun b hb h' => hb ((locN_env hlt b).1 h')) (by simp [A.pure]) h
  | .clip es, v, x', h, hx => by
    simp only [A.ren, Option.some.injEq] at hx; subst hx
    exact Rep.pure_mono (E := envOf N0 φ w) (E' := envOf (locN N0 φ ρ) (locφ φ ρ) w) rfl (fun b hb h' => hb ((locN_env hlt b).1 h')) (by simp [A.pure]) h
  | .dptr es, v, x', h, hx => by
    simp only [A.ren, Option.some.injEq] at hx; subst hx
    exact Rep.pure_mono (E := envOf N0 φ w) (E' := envOf (locN N0 φ ρ) (locφ φ ρ) w) rfl (fun b hb h' => hb ((locN_env hlt b).1 h')) (by simp [A.pure]) h
  | .agg cs, v, x', h, hx => by
    simp only [A.ren] at hx
    obtain ⟨cs', h1, rfl⟩ := Option.map_eq_some_iff.1 hx
    simp only [Rep] at h ⊢
    obtain ⟨vs, hv, hl, ho⟩ := h
    exact ⟨vs, hv, repL_ren hlt cs vs cs' hl h1, ho⟩
  | .fn f cs, v, x', h, hx => by
    simp only [A.ren] at hx
    obtain ⟨cs', h1, rfl⟩ := Option.map_eq_some_iff.1 hx
    simp only [Rep] at h ⊢
    obtain ⟨vs, hv, hl⟩ := h
    exact ⟨vs, hv, repL_ren hlt cs vs cs' hl h1⟩
  | .tup cs, v, x', h, hx => by
    simp only [A.ren] at hx
    obtain ⟨cs', h1, rfl⟩ := Option.map_eq_some_iff.1 hx
    simp only [Rep] at h ⊢
    obtain ⟨vs, hv, hl⟩ := h
    exact ⟨vs, hv, repL_ren hlt cs vs cs' hl h1⟩
  | .ref n o, v, x', h, hx => by
    simp only [A.ren] at hx
    obtain ⟨i, h1, rfl⟩ := Option.map_eq_some_iff.1 hx
    simp only [Rep] at h ⊢
    obtain ⟨b, k, hb, hv⟩ := h
    exact ⟨b, k, by show (locφ φ ρ)[i]? = _; rw [locφ_get hlt (idx_get h1)]; exact hb, hv⟩
  | .eref n j o, v, x', h, hx => by
    simp only [A.ren] at hx
    obtain ⟨i, h1, rfl⟩ := Option.map_eq_some_iff.1 hx
    simp only [Rep] at h ⊢
    obtain ⟨b, k, hb, hv⟩ := h
    exact ⟨b, k, by show (locφ φ ρ)[i]? = _; rw [locφ_get hlt (idx_get h1)]; exact hb, hv⟩
  | .row n o k l c, v, x', h, hx => by
    simp only [A.ren] at hx
    obtain ⟨i, h1, rfl⟩ := Option.map_eq_some_iff.1 hx
    simp only [Rep] at h ⊢
    have e : (locφ φ ρ)[i]? = φ[n]? := locφ_get hlt (idx_get h1)
    rcases h with ⟨p, hp, r⟩ | ⟨b, cap, c', e', fr, hp, r⟩
    · exact .inl ⟨p, by show (locφ φ ρ)[i]? = _; rw [e]; exact hp, r⟩
    · exact .inr ⟨b, cap, c', e', fr, by show (locφ φ ρ)[i]? = _; rw [e]; exact hp, r⟩
theorem repL_ren (hlt : ∀ n ∈ ρ, n < φ.length) : ∀ (cs : List A) (vs : List Value) (cs' : List A), RepL (envOf N0 φ w) cs vs → A.ren.renL ρ cs = some cs' → RepL (envOf (locN N0 φ ρ) (locφ φ ρ) w) cs' vs
  | [], vs, cs', h, hx => by simp only [A.ren.renL, Option.some.injEq] at hx; subst hx; simpa only [RepL] using h
  | c :: cs, vs, cs', h, hx => by
    simp only [A.ren.renL] at hx
    obtain ⟨c', h1, hx⟩ := Option.bind_eq_some_iff.1 hx
    obtain ⟨ds, h2, rfl⟩ := Option.map_eq_some_iff.1 hx
    simp only [RepL] at h ⊢
    obtain ⟨v, vs', hv, hc, hl⟩ := h
    exact ⟨v, vs', hv, rep_ren hlt c v c' hc h1, repL_ren hlt cs vs' ds hl h2⟩
end

theorem renL_get : ∀ {cs ds : List A}, A.ren.renL ρ cs = some ds → cs.length = ds.length ∧ ∀ (i : Nat) (c d : A), cs[i]? = some c → ds[i]? = some d → c.ren ρ = some d
  | [], ds, h => by simp only [A.ren.renL, Option.some.injEq] at h; subst h; exact ⟨rfl, fun i c d h => by simp at h⟩
  | c :: cs, ds, h => by
    simp only [A.ren.renL] at h
    obtain ⟨c', h1, hx⟩ := Option.bind_eq_some_iff.1 h
    obtain ⟨es, h2, rfl⟩ := Option.map_eq_some_iff.1 hx
    obtain ⟨g1, g2⟩ := renL_get h2
    refine ⟨by simp [g1], fun i x y hx hy => ?_⟩
    cases i with
    | zero => simp at hx hy; subst hx; subst hy; exact h1
    | succ i => exact g2 i x y (by simpa using hx) (by simpa using hy)

theorem objRel_ren (hlt : ∀ n ∈ ρ, n < φ.length) {o o' : Obj} {p : Own} (h : ObjRel (envOf N0 φ w) o p) (ho : o.ren ρ = some o') : ObjRel (envOf (locN N0 φ ρ) (locφ φ ρ) w) o' p := by
  cases o with
  | box cs =>
    simp only [Obj.ren] at ho
    obtain ⟨cs', h1, rfl⟩ := Option.map_eq_some_iff.1 ho
    obtain ⟨g1, g2⟩ := renL_get h1
    cases p with
    | loc b k =>
      simp only [ObjRel] at h ⊢
      refine ⟨h.1, RepM_iff.2 fun i y hy => ?_⟩
      have hi : i < cs.length := by rw [g1]; exact (List.getElem?_eq_some_iff.1 hy).1
      obtain ⟨v, hv, h1', hr⟩ := RepM_iff.1 h.2 i _ (List.getElem?_eq_getElem hi)
      exact ⟨v, hv, h1', rep_ren hlt _ v y hr (g2 i _ y (List.getElem?_eq_getElem hi) hy)⟩
    | nil => simp [ObjRel] at h
    | free => simp [ObjRel] at h
  | row k es =>
    simp only [Obj.ren, Option.some.injEq] at ho
    subst ho
    cases p with
    | loc b k' =>
      simp only [ObjRel] at h ⊢
      exact ⟨h.1, h.2.1, h.2.2.1, RepE.pure_mono (E := envOf N0 φ w) (E' := envOf (locN N0 φ ρ) (locφ φ ρ) w) rfl (fun b hb h' => hb ((locN_env hlt b).1 h')) h.2.1 h.2.2.2⟩
    | nil => simpa only [ObjRel] using h
    | free => simpa only [ObjRel] using h

theorem renH_get {H : List Obj} : ∀ {ns : List Nat} {H₀ : List Obj}, renH ρ H ns = some H₀ → ns.length = H₀.length ∧ (∀ n ∈ ns, n < H.length) ∧ ∀ (i n : Nat) (o : Obj), ns[i]? = some n → H₀[i]? = some o → ∃ o', H[n]? = some o' ∧ o'.ren ρ = some o
  | [], H₀, h => by simp only [renH, Option.some.injEq] at h; subst h; exact ⟨rfl, by simp, fun i n o h => by simp at h⟩
  | m :: ns, H₀, h => by
    simp only [renH] at h
    obtain ⟨o', h1, hx⟩ := Option.bind_eq_some_iff.1 h
    obtain ⟨H₁, h2, rfl⟩ := Option.map_eq_some_iff.1 hx
    obtain ⟨g1, g2, g3⟩ := renH_get h2
    rw [nthO_eq] at h1
    cases hm : H[m]? with
    | none => simp [hm, renO] at h1
    | some p =>
      rw [hm] at h1
      simp only [renO] at h1
      refine ⟨by simp [g1], fun n hn => ?_, fun i n o hi ho => ?_⟩
      · rcases List.mem_cons.1 hn with rfl | hn
        · exact (List.getElem?_eq_some_iff.1 hm).1
        · exact g2 n hn
      · cases i with
        | zero => simp at hi ho; subst hi; subst ho; exact ⟨p, hm, h1⟩
        | succ i => exact g3 i n o (by simpa using hi) (by simpa using ho)
end

theorem reach_nodup (H : List Obj) : ∀ (fuel : Nat) (todo acc : List Nat), acc.Nodup → (reach H fuel todo acc).Nodup
  | 0, _, acc, h => by simpa only [reach] using h
  | _ + 1, [], acc, h => by simpa only [reach] using h
  | fuel + 1, n :: todo, acc, h => by
    simp only [reach]
    split
    · exact reach_nodup H fuel todo acc h
    · rename_i hn
      refine reach_nodup H fuel _ _ ?_
      rw [List.nodup_append]
      refine ⟨h, by simp, fun x hx y hy => ?_⟩
      simp at hy
      subst hy
      intro e
      subst e
      simp at hn
      exact hn hx
theorem reach_all (H : List Obj) (p : Nat → Prop) (hs : ∀ m, p m → ∀ n ∈ namesO (nthO H m), p n) : ∀ (fuel : Nat) (todo acc : List Nat), (∀ n ∈ todo, p n) → (∀ n ∈ acc, p n) → ∀ n ∈ reach H fuel todo acc, p n
  | 0, _, acc, _, h => by simpa only [reach] using h
  | _ + 1, [], acc, _, h => by simpa only [reach] using h
  | fuel + 1, n :: todo, acc, ht, h => by
    simp only [reach]
    split
    · exact reach_all H p hs fuel todo acc (fun m hm => ht m (by simp [hm])) h
    · refine reach_all H p hs fuel _ _ (fun m hm => ?_) (fun m hm => ?_)
      · rcases List.mem_append.1 hm with hm | hm
        · exact hs n (ht n (by simp)) m hm
        · exact ht m (by simp [hm])
      · rcases List.mem_append.1 hm with hm | hm
        · exact h m hm
        · simp at hm; subst hm; exact ht m (by simp)

mutual
theorem names_live {E : Env} : ∀ (x : A) (v : Value), Rep E x v → ∀ n ∈ x.names, E.φ[n]? ≠ some Own.free
  | .any, v, h, n, hn => by simp [A.names] at hn
  | .int _ _, v, h, n, hn => by simp [A.names] at hn
  | .bool _, v, h, n, hn => by simp [A.names] at hn
  | .str _, v, h, n, hn => by simp [A.names] at hn
  | .nils, v, h, n, hn => by simp [A.names] at hn
  | .nilp, v, h, n, hn => by simp [A.names] at hn
  | .slc _, v, h, n, hn => by simp [A.names] at hn
  | .clip _, v, h, n, hn => by simp [A.names] at hn
  | .dptr _, v, h, n, hn => by simp [A.names] at hn
  | .agg cs, v, h, n, hn => by
    simp only [Rep] at h
    obtain ⟨vs, _, hl, _⟩ := h
    exact namesL_live cs vs hl n (by simpa only [A.names] using hn)
  | .fn _ cs, v, h, n, hn => by
    simp only [Rep] at h
    obtain ⟨vs, _, hl⟩ := h
    exact namesL_live cs vs hl n (by simpa only [A.names] using hn)
  | .tup cs, v, h, n, hn => by
    simp only [Rep] at h
    obtain ⟨vs, _, hl⟩ := h
    exact namesL_live cs vs hl n (by simpa only [A.names] using hn)
  | .ref m o, v, h, n, hn => by
    simp only [A.names, List.mem_singleton] at hn; subst hn
    simp only [Rep] at h
    obtain ⟨b, k, hb, _⟩ := h
    rw [hb]; simp
  | .eref m j o, v, h, n, hn => by
    simp only [A.names, List.mem_singleton] at hn; subst hn
    simp only [Rep] at h
    obtain ⟨b, k, hb, _⟩ := h
    rw [hb]; simp
  | .row m o k l c, v, h, n, hn => by
    simp only [A.names, List.mem_singleton] at hn; subst hn
    simp only [Rep] at h
    rcases h with ⟨p, hp, hf, _⟩ | ⟨b, cap, c', e', fr, hp, _⟩
    · rw [hp]; intro e; exact hf (Option.some.inj e)
    · rw [hp]; simp
theorem namesL_live {E : Env} : ∀ (cs : List A) (vs : List Value), RepL E cs vs → ∀ n ∈ A.names.namesL cs, E.φ[n]? ≠ some Own.free
  | [], vs, h, n, hn => by simp [A.names.namesL] at hn
  | c :: cs, vs, h, n, hn => by
    simp only [RepL] at h
    obtain ⟨v, vs', _, hc, hl⟩ := h
    simp only [A.names.namesL, List.mem_append] at hn
    rcases hn with hn | hn
    · exact names_live c v hc n hn
    · exact namesL_live cs vs' hl n hn
end

section
variable {P : Program} {Γ : Tab} {N0 : Nat → Prop} {w0 : Base} {nt : Nat} {σ : St} {φ : List Own} {a : Act} {w : World} {ρ : List Nat}

theorem reach_live (h : Conc N0 w0 nt σ φ a w) {as : List A} {vs : List Value} (hr : RepL (envOf N0 φ w) as vs) (fuel : Nat) : ∀ n ∈ reach σ.H fuel (A.names.namesL as) [], φ[n]? ≠ some Own.free := by
  refine reach_all σ.H (fun n => φ[n]? ≠ some Own.free) (fun m hm n hn => ?_) fuel _ _ (fun n hn => namesL_live (E := envOf N0 φ w) as vs hr n hn) (by simp)
  cases ho : nthO σ.H m with
  | none => rw [ho] at hn; simp [namesO] at hn
  | some o =>
    rw [ho] at hn
    cases o with
    | row k es => simp [namesO, Obj.names] at hn
    | box cs =>
      simp only [namesO, Obj.names] at hn
      have hlt : m < φ.length := by rw [h.len]; rw [nthO_eq] at ho; exact (List.getElem?_eq_some_iff.1 ho).1
      have hob := h.objs m _ _ ho (List.getElem?_eq_getElem hlt)
      cases hp : φ[m] with
      | loc b k =>
        rw [hp] at hob
        simp only [ObjRel] at hob
        obtain ⟨us, _, hL, _⟩ := RepM_vals hob.2
        exact namesL_live (E := envOf N0 φ w) cs us hL n hn
      | nil => rw [hp] at hob; simp [ObjRel] at hob
      | free => rw [hp] at hob; simp [ObjRel] at hob

/-- The callee's own view of the objects that it knows. -/
theorem Conc.loc (h : Conc N0 w0 nt σ φ a w) (hnd : ρ.Nodup) {H₀ : List Obj} (hH : renH ρ σ.H ρ = some H₀) : (∀ n ∈ ρ, n < φ.length) ∧ HeapRel (locN N0 φ ρ) (locφ φ ρ) H₀ w := by
  obtain ⟨g1, g2, g3⟩ := renH_get hH
  have hlt : ∀ n ∈ ρ, n < φ.length := fun n hn => by rw [h.len]; exact g2 n hn
  refine ⟨hlt, {
    len := by simp [locφ, g1]
    objs := fun i o p ho hp => ?_
    own := fun i b k hi => ?_
    inj := fun i j b k k' hi hj => ?_ }⟩
  · obtain ⟨n, hn, _, hφ⟩ := locφ_get' hlt hp
    rw [nthO_eq] at ho
    obtain ⟨o', ho', hren⟩ := g3 i n o hn ho
    exact objRel_ren hlt (h.objs n o' p (by rw [nthO_eq]; exact ho') hφ) hren
  · obtain ⟨n, hn, hm, hφ⟩ := locφ_get' hlt hi
    refine ⟨(h.own n b k hφ).2, ?_⟩
    rintro (h0 | ⟨n', k', hn', hρ⟩)
    · rcases (h.own n b k hφ).1 with h1 | h1
      · have := (h.n0 b h0).1; omega
      · exact (h.n0 b h0).2 h1
    · exact hρ ((h.inj n n' b k k' hφ hn') ▸ hm)
  · obtain ⟨n, hn, _, hφ⟩ := locφ_get' hlt hi
    obtain ⟨n', hn', _, hφ'⟩ := locφ_get' hlt hj
    obtain rfl := h.inj n n' b k k' hφ hφ'
    have hi1 := (List.getElem?_eq_some_iff.1 hn).1
    have hj1 := (List.getElem?_eq_some_iff.1 hn').1
    exact (List.getElem_inj hnd).1 (by rw [(List.getElem?_eq_some_iff.1 hn).2, (List.getElem?_eq_some_iff.1 hn').2])

/-- Lists that are put back. -/
def backG {α : Type} : List Nat → List α → List α → List α
  | [], os, xs => xs ++ os
  | n :: ns, o :: os, xs => backG ns os (xs.set n o)
  | _ :: _, [], xs => xs
theorem backH_eq (ρ' : List Nat) (m : Nat) : ∀ (ns : List Nat) (os H : List Obj), backH ρ' m ns os H = backG ns (os.map (Obj.back ρ' m)) H
  | [], os, H => rfl
  | n :: ns, o :: os, H => by simp only [backH, List.map_cons, backG, setO_eq]; exact backH_eq ρ' m ns os _
  | _ :: _, [], H => rfl
theorem backG_old {α : Type} : ∀ {ns : List Nat} {os xs : List α}, ns.length ≤ os.length → ∀ {j : Nat}, j ∉ ns → j < xs.length → (backG ns os xs)[j]? = xs[j]?
  | [], os, xs, _, j, _, hj => by simp only [backG]; exact List.getElem?_append_left hj
  | n :: ns, [], xs, h, _, _, _ => by simp at h
  | n :: ns, o :: os, xs, h, j, hn, hj => by
    simp only [backG]
    rw [backG_old (by simpa using h) (fun h' => hn (by simp [h'])) (by simpa using hj), List.getElem?_set_ne (fun e => hn (by simp [e]))]
theorem backG_new {α : Type} : ∀ {ns : List Nat} {os xs : List α}, ns.length ≤ os.length → ns.Nodup → (∀ n ∈ ns, n < xs.length) → ∀ i, (backG ns os xs)[nthN ns xs.length i]? = os[i]?
  | [], os, xs, _, _, _, i => by
    simp only [backG, nthN]
    rw [List.getElem?_append_right (by omega), Nat.add_sub_cancel_left]
  | n :: ns, [], xs, h, _, _, _ => by simp at h
  | n :: ns, o :: os, xs, h, hnd, hlt, i => by
    simp only [backG]
    rw [List.nodup_cons] at hnd
    cases i with
    | zero =>
      simp only [nthN]
      rw [backG_old (by simpa using h) hnd.1 (by simpa using hlt n (by simp))]
      simp [hlt n (by simp)]
    | succ i =>
      simp only [nthN]
      have := backG_new (ns := ns) (os := os) (xs := xs.set n o) (by simpa using h) hnd.2 (fun m hm => by simpa using hlt m (by simp [hm])) i
      simpa using this
theorem backG_len {α : Type} : ∀ {ns : List Nat} {os xs : List α}, ns.length ≤ os.length → (backG ns os xs).length = xs.length + (os.length - ns.length)
  | [], os, xs, _ => by simp [backG]
  | n :: ns, [], xs, h => by simp at h
  | n :: ns, o :: os, xs, h => by
    simp only [backG]
    rw [backG_len (by simpa using h)]
    simp
theorem backG_cases {α : Type} {ns : List Nat} {os xs : List α} (h : ns.length ≤ os.length) (hnd : ns.Nodup) (hlt : ∀ n ∈ ns, n < xs.length) {j : Nat} {x : α} (hj : (backG ns os xs)[j]? = some x) :
    (∃ i, j = nthN ns xs.length i ∧ os[i]? = some x) ∨ (j ∉ ns ∧ j < xs.length ∧ xs[j]? = some x) := by
  have hl := (List.getElem?_eq_some_iff.1 hj).1
  rw [backG_len h] at hl
  by_cases h1 : j < xs.length
  · by_cases h2 : j ∈ ns
    · obtain ⟨i, hi⟩ := List.getElem?_of_mem h2
      have := nthN_get (m := xs.length) hi
      refine .inl ⟨i, this.symm, ?_⟩
      rw [← backG_new h hnd hlt i, this]; exact hj
    · exact .inr ⟨h2, h1, by rw [← backG_old h h2 h1]; exact hj⟩
  · refine .inl ⟨ns.length + (j - xs.length), by rw [nthN_new]; omega, ?_⟩
    rw [← backG_new h hnd hlt, nthN_new, show xs.length + (j - xs.length) = j by omega]; exact hj

mutual
theorem rep_back {El E : Env} {m : Nat} (hw : El.w = E.w) (hN : ∀ b, ¬ El.N b → ¬ E.N b) (hφ : ∀ (i : Nat) (p : Own), El.φ[i]? = some p → E.φ[nthN ρ m i]? = some p) : ∀ (x : A) (v : Value), Rep El x v → Rep E (x.back ρ m) v
  | .any, v, h => by simp only [A.back, Rep]
  | .int _ _, v, h => by simpa only [A.back, Rep] using h
  | .bool _, v, h => by simpa only [A.back, Rep] using h
  | .str _, v, h => by simpa only [A.back, Rep] using h
  | .nils, v, h => by simpa only [A.back, Rep] using h
  | .nilp, v, h => by simpa only [A.back, Rep] using h
  | .slc es, v, h => by simp only [A.back]; exact Rep.pure_mono hw.symm hN (by simp [A.pure]) h
  | .clip es, v, h => by simp only [A.back]; exact Rep.pure_mono hw.symm hN (by simp [A.pure]) h
  | .dptr es, v, h => by simp only [A.back]; exact Rep.pure_mono hw.symm hN (by simp [A.pure]) h
  | .agg cs, v, h => by
    simp only [A.back, Rep] at h ⊢
    obtain ⟨vs, hv, hl, ho⟩ := h
    exact ⟨vs, hv, repL_back hw hN hφ cs vs hl, ho⟩
  | .fn f cs, v, h => by
    simp only [A.back, Rep] at h ⊢
    obtain ⟨vs, hv, hl⟩ := h
    exact ⟨vs, hv, repL_back hw hN hφ cs vs hl⟩
  | .tup cs, v, h => by
    simp only [A.back, Rep] at h ⊢
    obtain ⟨vs, hv, hl⟩ := h
    exact ⟨vs, hv, repL_back hw hN hφ cs vs hl⟩
  | .ref n o, v, h => by
    simp only [A.back, Rep] at h ⊢
    obtain ⟨b, k, hb, hv⟩ := h
    exact ⟨b, k, hφ n _ hb, hv⟩
  | .eref n j o, v, h => by
    simp only [A.back, Rep] at h ⊢
    obtain ⟨b, k, hb, hv⟩ := h
    exact ⟨b, k, hφ n _ hb, hv⟩
  | .row n o k l c, v, h => by
    simp only [A.back, Rep] at h ⊢
    rcases h with ⟨p, hp, r⟩ | ⟨b, cap, c', e', fr, hp, r⟩
    · exact .inl ⟨p, hφ n _ hp, r⟩
    · exact .inr ⟨b, cap, c', e', fr, hφ n _ hp, by rw [← hw]; exact r⟩
theorem repL_back {El E : Env} {m : Nat} (hw : El.w = E.w) (hN : ∀ b, ¬ El.N b → ¬ E.N b) (hφ : ∀ (i : Nat) (p : Own), El.φ[i]? = some p → E.φ[nthN ρ m i]? = some p) : ∀ (cs : List A) (vs : List Value), RepL El cs vs → RepL E (A.back.backL ρ m cs) vs
  | [], vs, h => by simpa only [A.back.backL, RepL] using h
  | c :: cs, vs, h => by
    simp only [A.back.backL, RepL] at h ⊢
    obtain ⟨v, vs', hv, hc, hl⟩ := h
    exact ⟨v, vs', hv, rep_back hw hN hφ c v hc, repL_back hw hN hφ cs vs' hl⟩
end
theorem backL_get {m : Nat} : ∀ {cs : List A} {i : Nat}, (A.back.backL ρ m cs)[i]? = (cs[i]?).map (A.back ρ m)
  | [], i => by simp [A.back.backL]
  | c :: cs, 0 => by simp [A.back.backL]
  | c :: cs, i + 1 => by simpa [A.back.backL] using backL_get (cs := cs) (i := i)
theorem objRel_back {El E : Env} {m : Nat} (hw : El.w = E.w) (hN : ∀ b, ¬ El.N b → ¬ E.N b) (hφ : ∀ (i : Nat) (p : Own), El.φ[i]? = some p → E.φ[nthN ρ m i]? = some p) {o : Obj} {p : Own} (h : ObjRel El o p) : ObjRel E (o.back ρ m) p := by
  cases o with
  | box cs =>
    cases p with
    | loc b k =>
      simp only [Obj.back, ObjRel] at h ⊢
      refine ⟨by rw [← hw]; exact h.1, RepM_iff.2 fun i y hy => ?_⟩
      rw [backL_get] at hy
      obtain ⟨x, hx, rfl⟩ := Option.map_eq_some_iff.1 hy
      obtain ⟨v, hv, h1, hr⟩ := RepM_iff.1 h.2 i x hx
      exact ⟨v, by rw [← hw]; exact hv, h1, rep_back hw hN hφ x v hr⟩
    | nil => simp [ObjRel] at h
    | free => simp [ObjRel] at h
  | row k es =>
    cases p with
    | loc b k' =>
      simp only [Obj.back, ObjRel] at h ⊢
      exact ⟨h.1, h.2.1, by rw [← hw]; exact h.2.2.1, RepE.pure_mono hw.symm hN h.2.1 h.2.2.2⟩
    | nil => simpa only [Obj.back, ObjRel] using h
    | free => simpa only [Obj.back, ObjRel] using h

theorem Clear.scrub {m : Nat} (h : Clear σ m) (n : Nat) : Clear (σ.scrub n) m := by
  have one : ∀ x : A, x.mem m = false → (scrubA n x).mem m = false := fun x hx => by
    unfold scrubA
    split
    · rfl
    · exact hx
  refine ⟨fun d => ?_, fun j cs hj => ?_⟩
  · show (look (σ.s.map fun p => (p.1, scrubA n p.2)) d).mem m = false
    rw [look_map]; exact one _ (h.1 d)
  · simp only [St.scrub] at hj
    rw [nthO_map] at hj
    cases ho : nthO σ.H j with
    | none => simp [ho] at hj
    | some o =>
      simp [ho] at hj
      cases o with
      | row k es => simp [scrubO] at hj
      | box ds =>
        simp [scrubO] at hj
        subst hj
        have hd := h.2 j ds ho
        clear ho
        induction ds with
        | nil => rfl
        | cons y ys ih =>
          simp only [A.mem.memL, Bool.or_eq_false_iff] at hd
          simp only [List.map_cons, A.mem.memL, Bool.or_eq_false_iff]
          exact ⟨one y hd.1, ih hd.2⟩
theorem Conc.scrubs {m : Nat} : ∀ {S : List Nat} {σ : St}, Conc N0 w0 nt σ φ a w → Conc N0 w0 nt (Go.Abs.scrubs ρ m σ S) φ a w ∧ (∀ j, Clear σ j → Clear (Go.Abs.scrubs ρ m σ S) j) ∧ (∀ i ∈ S, Clear (Go.Abs.scrubs ρ m σ S) (nthN ρ m i)) ∧ (Go.Abs.scrubs ρ m σ S).H.length = σ.H.length
  | [], σ, h => ⟨h, fun _ h => h, by simp, rfl⟩
  | i :: is, σ, h => by
    obtain ⟨h1, h2, h3, h4⟩ := Conc.scrubs (m := m) (S := is) (h.scrub (nthN ρ m i))
    refine ⟨h1, fun j hj => h2 j (hj.scrub _), fun j hj => ?_, h4.trans (by simp [St.scrub])⟩
    rcases List.mem_cons.1 hj with rfl | hj
    · exact h2 _ (clear_scrub σ _)
    · exact h3 j hj

theorem mayMove_spec {m : Nat} : ∀ {S : List Nat}, mayMove Γ ρ m S = true → ∀ i ∈ S, Γ.fix (nthN ρ m i) = false
  | [], _, i, hi => by simp at hi
  | j :: js, h, i, hi => by
    simp only [mayMove, Bool.and_eq_true, Bool.not_eq_true'] at h
    rcases List.mem_cons.1 hi with rfl | hi
    · exact h.1
    · exact mayMove_spec h.2 i hi

/-- Behind a call with its objects. -/
theorem Conc.turned (h : Conc N0 w0 nt σ φ a w) (hfx : w0.fix = Γ.fix) (hnd : ρ.Nodup) {H₀ : List Obj} (hH : renH ρ σ.H ρ = some H₀) {φl : List Own} {H' : List Obj} {S : List Nat} {w' : World} {r : A} {v : Value}
    (hrel : HeapRel (locN N0 φ ρ) φl H' w') (hT : TurnH (locφ φ ρ) w S φl w') (hlen : H₀.length ≤ H'.length) (hmv : mayMove Γ ρ σ.H.length S = true)
    (hr : Rep (envOf (locN N0 φ ρ) φl w') r v) {d : Option Tmp} (hd : ∀ t, d = some t → t < nt) :
    ∃ φ', Conc N0 w0 nt (callH2 σ d ρ (r, H', S)) φ' (a.put d v) w' ∧ ∀ m, m ∉ ρ → m < φ.length → φ'[m]? = φ[m]? := by
  obtain ⟨hlt, hloc⟩ := h.loc hnd hH
  obtain ⟨g1, g2, g3⟩ := renH_get hH
  obtain ⟨hs, _, hcl, hsl⟩ := Conc.scrubs (ρ := ρ) (m := σ.H.length) (S := S) h
  have hml : φ.length = σ.H.length := h.len
  have hle : ρ.length ≤ φl.length := by rw [hrel.len]; omega
  have hle' : ρ.length ≤ H'.length := by omega
  have hget : ∀ i, (backG ρ φl φ)[nthN ρ σ.H.length i]? = φl[i]? := fun i => by rw [← hml]; exact backG_new hle hnd hlt i
  have hold : ∀ j, j ∉ ρ → j < φ.length → (backG ρ φl φ)[j]? = φ[j]? := fun j h1 h2 => backG_old hle h1 h2
  have hcase : ∀ (j : Nat) (p : Own), (backG ρ φl φ)[j]? = some p → (∃ i, j = nthN ρ σ.H.length i ∧ φl[i]? = some p) ∨ (j ∉ ρ ∧ j < φ.length ∧ φ[j]? = some p) := fun j p hj => by
    rw [← hml]; exact backG_cases hle hnd hlt hj
  have hφi : ∀ (i : Nat) (p : Own), φl[i]? = some p → (backG ρ φl φ)[nthN ρ σ.H.length i]? = some p := fun i p hp => by rw [hget]; exact hp
  have hN : ∀ b, ¬ (envOf (locN N0 φ ρ) φl w').N b → ¬ (envOf N0 (backG ρ φl φ) w').N b := fun b hb => by
    rintro (h0 | ⟨j, k, hj⟩)
    · exact hb (.inl (.inl h0))
    · rcases hcase j _ hj with ⟨i, _, hi⟩ | ⟨h1, h2, h3⟩
      · exact hb (.inr ⟨i, k, hi⟩)
      · exact hb (.inl (.inr ⟨j, k, h3, h1⟩))
  have hfr : ∀ (j b k : Nat), j ∉ ρ → φ[j]? = some (Own.loc b k) → w'.heap[b]? = w.heap[b]? := fun j b k hj hb => by
    refine hT.block b (h.own j b k hb).2 fun i k' hi => ?_
    obtain ⟨n, _, hm, hn⟩ := locφ_get' hlt hi
    exact hj ((h.inj n j b k' k hn hb) ▸ hm)
  have hext : Ext (fun n => ∀ i ∈ S, nthN ρ σ.H.length i ≠ n) (envOf N0 φ w) (envOf N0 (backG ρ φl φ) w') := {
    size := hT.size
    blk := fun b hb hn => ⟨by
      rintro (h0 | ⟨j, k, hj⟩)
      · exact hn (.inl h0)
      · rcases hcase j _ hj with ⟨i, _, hi⟩ | ⟨h1, h2, h3⟩
        · rcases hT.own i b k hi with h' | ⟨i', k', hi'⟩
          · have : b < w.heap.size := hb
            omega
          · obtain ⟨n, _, _, hn'⟩ := locφ_get' hlt hi'
            exact hn (.inr ⟨n, k', hn'⟩)
        · exact hn (.inr ⟨j, k, h3⟩), hT.block b hb fun i k hi => by
      obtain ⟨n, _, _, hn'⟩ := locφ_get' hlt hi
      exact hn (.inr ⟨n, k, hn'⟩)⟩
    refs := fun n p hk hp hf => by
      show (backG ρ φl φ)[n]? = some p
      have hp' : φ[n]? = some p := hp
      by_cases hn : n ∈ ρ
      · obtain ⟨i, hi⟩ := List.getElem?_of_mem hn
        have e := nthN_get (m := σ.H.length) hi
        have hiS : i ∉ S := fun hS => hk i hS e
        rw [← e]
        exact hφi i p (hT.stay i p hiS (by rw [locφ_get hlt hi]; exact hp'))
      · rw [hold n hn (List.getElem?_eq_some_iff.1 hp').1]; exact hp'
    own := fun n b k c e fr _ hn hc => hT.shape b c e fr hc }
  have hconc : Conc N0 w0 nt ⟨(Go.Abs.scrubs ρ σ.H.length σ S).s, backH ρ σ.H.length ρ H' (Go.Abs.scrubs ρ σ.H.length σ S).H⟩ (backG ρ φl φ) a w' := {
    slots := fun t => Rep.mono hext _ _ (hs.slots t) fun n hn i hi e => by
      have := (hcl i hi).1 t
      rw [e] at this
      have hn' : (look (Go.Abs.scrubs ρ σ.H.length σ S).s t).mem n = true := hn
      rw [this] at hn'
      cases hn'
    size := h.size
    defers := h.defers
    len := by rw [backH_eq, backG_len hle, backG_len (by simpa using hle'), hsl, hml, hrel.len]; simp
    objs := fun j o p ho hp => by
      rw [nthO_eq, backH_eq] at ho
      have hltS : ∀ n ∈ ρ, n < (Go.Abs.scrubs ρ σ.H.length σ S).H.length := fun n hn => by rw [hsl, ← hml]; exact hlt n hn
      rcases hcase j p hp with ⟨i, rfl, hi⟩ | ⟨h1, h2, h3⟩
      · have := backG_new (os := H'.map (Obj.back ρ σ.H.length)) (by simpa using hle') hnd hltS i
        rw [hsl] at this
        rw [this, List.getElem?_map] at ho
        obtain ⟨o', ho', rfl⟩ := Option.map_eq_some_iff.1 ho
        exact objRel_back (El := envOf (locN N0 φ ρ) φl w') (E := envOf N0 (backG ρ φl φ) w') rfl hN hφi (hrel.objs i o' p (by rw [nthO_eq]; exact ho') hi)
      · rw [backG_old (by simpa using hle') h1 (by rw [hsl, ← hml]; exact h2)] at ho
        refine ObjRel.mono hext (hs.objs j o p (by rw [nthO_eq]; exact ho) h3) (fun b k hb c e fr hh => ?_) (fun cs hcs n hn i hi e => ?_)
        · subst hb
          show w'.heap[b]? = _
          rw [hfr j b k h1 h3]; exact hh
        · subst hcs; subst e
          have := (hcl i hi).2 j cs (by rw [nthO_eq]; exact ho)
          rw [this] at hn
          cases hn
    own := fun j b k hj => by
      rcases hcase j _ hj with ⟨i, _, hi⟩ | ⟨h1, h2, h3⟩
      · refine ⟨?_, (hrel.own i b k hi).1⟩
        rcases hT.own i b k hi with h' | ⟨i', k', hi'⟩
        · exact .inl (Nat.le_trans h.below.size h')
        · obtain ⟨n, _, _, hn'⟩ := locφ_get' hlt hi'
          exact (h.own n b k' hn').1
      · exact ⟨(h.own j b k h3).1, Nat.lt_of_lt_of_le (h.own j b k h3).2 hT.size⟩
    inj := fun j j' b k k' hj hj' => by
      rcases hcase j _ hj with ⟨i, e, hi⟩ | ⟨h1, h2, h3⟩ <;> rcases hcase j' _ hj' with ⟨i', e', hi'⟩ | ⟨h1', h2', h3'⟩
      · rw [e, e', hrel.inj i i' b k k' hi hi']
      · exact absurd (.inr ⟨j', k', h3', h1'⟩) (hrel.own i b k hi).2
      · exact absurd (.inr ⟨j, k, h3, h1⟩) (hrel.own i' b k' hi').2
      · exact h.inj j j' b k k' h3 h3'
    n0 := h.n0
    fixd := fun n p hf hp hfree => by
      have hp' := h.fixd n p hf hp hfree
      refine hext.refs n p (fun i hi e => ?_) hp' hfree
      have := mayMove_spec hmv i hi
      rw [e, ← hfx, hf] at this
      cases this
    below := {
      os := hT.os.trans h.below.os
      tape := hT.tape.trans h.below.tape
      output := hT.output.trans h.below.output
      drawn := Nat.le_trans h.below.drawn hT.drawn
      size := Nat.le_trans h.below.size hT.size
      block := fun b hb hM => by
        rw [hT.block b (Nat.lt_of_lt_of_le hb h.below.size) fun i k hi => by
          obtain ⟨n, _, _, hn'⟩ := locφ_get' hlt hi
          rcases (h.own n b k hn').1 with h' | h'
          · omega
          · exact hM h']
        exact h.below.block b hb hM
      shape := fun b c e fr hc => by
        obtain ⟨c', fr', k1, k2⟩ := h.below.shape b c e fr hc
        obtain ⟨c'', fr'', k3, k4⟩ := hT.shape b c' e fr' k1
        exact ⟨c'', fr'', k3, k4.trans k2⟩ } }
  refine ⟨backG ρ φl φ, hconc.put hd ?_, fun m h1 h2 => hold m h1 h2⟩
  exact rep_back (El := envOf (locN N0 φ ρ) φl w') (E := envOf N0 (backG ρ φl φ) w') rfl hN hφi r v hr

theorem dropO_eq : ∀ (ns : List Nat) (H : List Obj), (dropO ρ ns H).length = H.length ∧ (∀ j, j ∉ ns → (dropO ρ ns H)[j]? = H[j]?) ∧ (∀ j, j ∈ ns → j < H.length → (dropO ρ ns H)[j]? = some (.row 0 []))
  | [], H => ⟨rfl, fun _ _ => rfl, fun j h => by simp at h⟩
  | n :: ns, H => by
    obtain ⟨h1, h2, h3⟩ := dropO_eq ns (setO H n (.row 0 []))
    simp only [dropO]
    rw [setO_eq] at h1 h2 h3 ⊢
    refine ⟨by simpa using h1, fun j hj => ?_, fun j hj hl => ?_⟩
    · rw [h2 j (fun h => hj (by simp [h])), List.getElem?_set_ne (fun e => hj (by simp [e]))]
    · by_cases hjn : j ∈ ns
      · exact h3 j hjn (by simpa using hl)
      · rcases List.mem_cons.1 hj with rfl | hj
        · rw [h2 _ hjn]; simp [hl]
        · exact absurd hj hjn
def dropφ : List Nat → List Own → List Own
  | [], φ => φ
  | n :: ns, φ => dropφ ns (φ.set n .free)
theorem dropφ_eq : ∀ (ns : List Nat) (φ : List Own), (dropφ ns φ).length = φ.length ∧ (∀ j, j ∉ ns → (dropφ ns φ)[j]? = φ[j]?) ∧ (∀ j, j ∈ ns → j < φ.length → (dropφ ns φ)[j]? = some .free)
  | [], φ => ⟨rfl, fun _ _ => rfl, fun j h => by simp at h⟩
  | n :: ns, φ => by
    obtain ⟨h1, h2, h3⟩ := dropφ_eq ns (φ.set n .free)
    simp only [dropφ]
    refine ⟨by simpa using h1, fun j hj => ?_, fun j hj hl => ?_⟩
    · rw [h2 j (fun h => hj (by simp [h])), List.getElem?_set_ne (fun e => hj (by simp [e]))]
    · by_cases hjn : j ∈ ns
      · exact h3 j hjn (by simpa using hl)
      · rcases List.mem_cons.1 hj with rfl | hj
        · rw [h2 _ hjn]; simp [hl]
        · exact absurd hj hjn

theorem look_frz {H₀ : List Obj} : ∀ (s : List (Nat × A)) (d : Nat), look (s.map fun p => (p.1, frzA ρ H₀ p.2)) d = frzA ρ H₀ (look s d)
  | [], d => by
    have : A.meets ρ .any = false := by simp [A.meets, A.mem]
    simp [look, frzA, this]
  | (i, v) :: s, d => by
    simp only [List.map_cons, look]
    split
    · rfl
    · exact look_frz s d

/-- The state as the callee knows it: for 'view_sound', which asks for a 'Conc'. -/
theorem view_loc (h : Conc N0 w0 nt σ φ a w) (hnd : ρ.Nodup) {H₀ : List Obj} (hH : renH ρ σ.H ρ = some H₀) {x y : A} {v : Value} (hr : Rep (envOf (locN N0 φ ρ) (locφ φ ρ) w) x v) (hv : view H₀ x = some y) :
    Rep ⟨locN N0 φ ρ, [], w⟩ y v ∧ y.pure = true := by
  obtain ⟨hlt, hloc⟩ := h.loc hnd hH
  have hc : Conc (locN N0 φ ρ) { toWorld := w, M := fun b => ∃ n k : Nat, (locφ φ ρ)[n]? = some (Own.loc b k), fix := fun _ => false, φ0 := [] } a.tmps.size { s := [], H := H₀ } (locφ φ ρ) ⟨a.tmps, []⟩ w := {
    slots := fun d => by simp only [look, Rep]
    size := rfl
    defers := rfl
    len := hloc.len
    objs := hloc.objs
    own := fun n b k hn => ⟨.inr ⟨n, k, hn⟩, (hloc.own n b k hn).1⟩
    inj := hloc.inj
    n0 := fun b hb => ⟨by
      rcases hb with h0 | ⟨n, k, hn, _⟩
      · exact Nat.lt_of_lt_of_le (h.n0 b h0).1 h.below.size
      · exact (h.own n b k hn).2, by
      rintro ⟨n, k, hn⟩
      exact (hloc.own n b k hn).2 hb⟩
    fixd := fun n p hf => by cases hf
    below := Kept.refl _ }
  exact view_sound hc hv hr (N' := locN N0 φ ρ) ⟨fun b hb => .inl hb, .inr fun n b k hn => (hloc.own n b k hn).2⟩

theorem Conc.frozen (h : Conc N0 w0 nt σ φ a w) (hnd : ρ.Nodup) {H₀ : List Obj} (hH : renH ρ σ.H ρ = some H₀) (hfx : ∀ n ∈ ρ, w0.fix n = false) :
    Conc N0 w0 nt ⟨σ.s.map (fun p => (p.1, frzA ρ H₀ p.2)), dropO ρ ρ (σ.H.map (frzO ρ H₀))⟩ (dropφ ρ φ) a w ∧ (∀ b, locN N0 φ ρ b ↔ (envOf N0 (dropφ ρ φ) w).N b) := by
  obtain ⟨hlt, hloc⟩ := h.loc hnd hH
  obtain ⟨f1, f2, f3⟩ := dropφ_eq ρ φ
  obtain ⟨d1, d2, d3⟩ := dropO_eq (ρ := ρ) ρ (σ.H.map (frzO ρ H₀))
  have hat : ∀ m b k : Nat, (dropφ ρ φ)[m]? = some (Own.loc b k) → m ∉ ρ ∧ φ[m]? = some (.loc b k) := fun m b k hm => by
    by_cases hρ : m ∈ ρ
    · rw [f3 m hρ (hlt m hρ)] at hm; simp at hm
    · rw [f2 m hρ] at hm; exact ⟨hρ, hm⟩
  have hN : ∀ b, locN N0 φ ρ b ↔ (envOf N0 (dropφ ρ φ) w).N b := fun b => by
    constructor
    · rintro (h0 | ⟨n, k, hn, hρ⟩)
      · exact .inl h0
      · exact .inr ⟨n, k, by rw [f2 n hρ]; exact hn⟩
    · rintro (h0 | ⟨n, k, hn⟩)
      · exact .inl h0
      · obtain ⟨h1, h2⟩ := hat n b k hn
        exact .inr ⟨n, k, h2, h1⟩
  have hext : Ext (fun n => n ∉ ρ) (envOf N0 φ w) (envOf N0 (dropφ ρ φ) w) := {
    size := Nat.le_refl _
    blk := fun b _ hn => ⟨by
      rintro (h0 | ⟨m, k, hm⟩)
      · exact hn (.inl h0)
      · exact hn (.inr ⟨m, k, (hat m b k hm).2⟩), rfl⟩
    refs := fun m p hk hm _ => by
      show (dropφ ρ φ)[m]? = some p
      rw [f2 m hk]; exact hm
    own := fun m b k c e fr _ _ hc => ⟨c, fr, hc, rfl⟩ }
  have one : ∀ (x : A) (v : Value), Rep (envOf N0 φ w) x v → Rep (envOf N0 (dropφ ρ φ) w) (frzA ρ H₀ x) v := fun x v hx => by
    unfold frzA
    split
    · cases hren : x.ren ρ with
      | none => simp only [Rep]
      | some x' =>
        simp only
        have hl := rep_ren hlt x v x' hx hren
        cases hv : view H₀ x' with
        | none => simp only [Option.getD_none, Rep]
        | some y =>
          simp only [Option.getD_some]
          obtain ⟨hy, hp⟩ := view_loc h hnd hH hl hv
          exact Rep.pure_mono (E := ⟨locN N0 φ ρ, [], w⟩) (E' := envOf N0 (dropφ ρ φ) w) rfl (fun b hb h' => hb ((hN b).2 h')) hp hy
    · rename_i hm
      refine Rep.mono hext x v hx fun n hn hρ => ?_
      simp only [A.meets, List.any_eq_true, not_exists, not_and] at hm
      exact hm n hρ hn
  refine ⟨{
    slots := fun d => by
      show Rep _ (look (σ.s.map fun p => (p.1, frzA ρ H₀ p.2)) d) _
      rw [look_frz]
      exact one _ _ (h.slots d)
    size := h.size
    defers := h.defers
    len := by rw [f1, d1]; simp [h.len]
    objs := fun m o p ho hp => ?_
    own := fun m b k hm => h.own m b k (hat m b k hm).2
    inj := fun m m' b k k' hm hm' => h.inj m m' b k k' (hat m b k hm).2 (hat m' b k' hm').2
    n0 := h.n0
    fixd := fun n p hf hp hfree => by
      have hn : n ∉ ρ := fun hρ => by rw [hfx n hρ] at hf; cases hf
      rw [f2 n hn]; exact h.fixd n p hf hp hfree
    below := h.below }, hN⟩
  rw [nthO_eq] at ho
  by_cases hρ : m ∈ ρ
  · rw [d3 m hρ (by simpa [← h.len] using hlt m hρ)] at ho
    rw [f3 m hρ (hlt m hρ)] at hp
    obtain rfl := Option.some.inj ho
    obtain rfl := Option.some.inj hp
    simp [ObjRel]
  · rw [d2 m hρ, List.getElem?_map] at ho
    rw [f2 m hρ] at hp
    obtain ⟨o', ho', rfl⟩ := Option.map_eq_some_iff.1 ho
    have hob := h.objs m o' p (by rw [nthO_eq]; exact ho') hp
    cases o' with
    | row k es =>
      exact ObjRel.mono hext hob (fun b k _ c e fr hh => hh) (fun cs hcs => by cases hcs)
    | box cs =>
      cases p with
      | loc b k =>
        simp only [frzO, ObjRel] at hob ⊢
        refine ⟨hob.1, RepM_iff.2 fun i y hy => ?_⟩
        rw [List.getElem?_map] at hy
        obtain ⟨x, hx, rfl⟩ := Option.map_eq_some_iff.1 hy
        obtain ⟨v, hv, h1, hr⟩ := RepM_iff.1 hob.2 i x hx
        exact ⟨v, hv, h1, one x v hr⟩
      | nil => simp [ObjRel] at hob
      | free => simp [ObjRel] at hob

theorem viewL_loc (h : Conc N0 w0 nt σ φ a w) (hnd : ρ.Nodup) {H₀ : List Obj} (hH : renH ρ σ.H ρ = some H₀) {xs ys : List A} {vs : List Value} (hv : viewL H₀ xs = some ys) (hr : RepL (envOf (locN N0 φ ρ) (locφ φ ρ) w) xs vs) :
    RepL ⟨locN N0 φ ρ, [], w⟩ ys vs := by
  obtain ⟨h1, h2⟩ := viewL_get hv
  obtain ⟨g1, g2⟩ := RepL_iff.1 hr
  refine RepL_iff.2 ⟨by rw [← h1, g1], fun i c u hc hu => ?_⟩
  have hi : i < xs.length := by rw [h1]; exact (List.getElem?_eq_some_iff.1 hc).1
  exact (view_loc h hnd hH (g2 i _ u (List.getElem?_eq_getElem hi) hu) (h2 i _ c (List.getElem?_eq_getElem hi) hc)).1

theorem goodC_callH (hΓ : TabOK P Γ) (h : Conc N0 w0 nt σ φ a w) (hfx : w0.fix = Γ.fix) {d : Option Tmp} {f : Operand} {xs : List Operand} {us : Array TypeId} {t : TypeId} {p : String} {af : Array Edge} {g : Option (Nat × Bool)} (hd : ∀ t, d = some t → t < nt) {n : Nat} {σ' : St}
    (hr : callHV Γ σ d (σ.ev f) (σ.evL xs) = some σ') : GoodC P ⟨d, .call ⟨.value f, ⟨xs⟩, us⟩, t, p, af, g⟩ a w N0 w0 nt φ n σ' := by
  have hf := h.ev f
  cases hc : σ.ev f <;> simp only [hc, callHV] at hr <;> try (simp at hr; done)
  rename_i q caps
  rw [hc] at hf
  simp only [Rep] at hf
  obtain ⟨cvs, hfv, hcr⟩ := hf
  have hargs := RepL_append (evL_rep h xs) hcr
  unfold callH callH1 at hr
  have hnd := reach_nodup σ.H 64 (A.names.namesL (σ.evL xs ++ caps)) [] (by simp)
  have hlive := reach_live h hargs 64
  generalize hρ : reach σ.H 64 (A.names.namesL (σ.evL xs ++ caps)) [] = ρ at hr hnd hlive
  obtain ⟨as', h1, hr⟩ := Option.bind_eq_some_iff.1 hr
  obtain ⟨H₀, h2, hr⟩ := Option.bind_eq_some_iff.1 hr
  obtain ⟨hlt, hloc⟩ := h.loc hnd h2
  have hla := repL_ren hlt _ _ as' hargs h1
  have hlocn : ∀ b, locN N0 φ ρ b → b < w.heap.size := by
    rintro b (h0 | ⟨m, k, hm, _⟩)
    · exact Nat.lt_of_lt_of_le (h.n0 b h0).1 h.below.size
    · exact (h.own m b k hm).2
  have hrun : ∀ {q : FuncId}, Callable P q → a.eval f = .func (.func q) #[] cvs.toArray → (Go.execOp a.eval ⟨d, .call ⟨.value f, ⟨xs⟩, us⟩, t, p, af, g⟩).run P w = .ok (.enter q (xs.map a.eval ++ cvs).toArray) w := by
    intro q hq hfv
    have : (Go.execOp a.eval ⟨d, .call ⟨.value f, ⟨xs⟩, us⟩, t, p, af, g⟩).run P w = (callFunc q (xs.map a.eval ++ cvs).toArray).run P w := by
      simp only [Go.execOp, resolve, hfv, Deferred.ofValue, Sem.run_bind, Sem.run_pure, Result.andThen_ok, invoke]
      congr 2
      apply Array.ext'
      simp
    rw [this]
    exact run_callFunc hq _ w
  split at hr
  · rename_i hfz
    split at hr
    · rename_i hfixed
      obtain ⟨bs, hb, hr⟩ := Option.bind_eq_some_iff.1 hr
      obtain ⟨r, hg, rfl⟩ := Option.map_eq_some_iff.1 hr
      obtain ⟨hcall, hA⟩ := hΓ.f q bs r hg
      right
      refine ⟨q, _, hrun hcall hfv, ?_⟩
      obtain ⟨hfr, hN⟩ := h.frozen hnd h2 (fun m hm => by
        rw [List.all_eq_true] at hfixed
        have := hfixed m hm
        rw [hfx]; simpa using this)
      have hvr := viewL_loc h hnd h2 hb hla
      refine Calls.mono (hA (locN N0 φ ρ) w _ hlocn hvr) ?_
      rintro e w' ⟨v, r', rfl, rfl, hrep, hgr⟩
      refine ⟨v, dropφ ρ φ, rfl, (hfr.grew hgr).put hd ?_, fun m _ hm => ?_⟩
      · refine Rep.mono (K := fun _ => True) (E := ⟨locN N0 φ ρ, [], w'⟩) ?_ _ _ hrep (fun _ _ => trivial)
        exact {
          size := Nat.le_refl _
          blk := fun b _ hn => ⟨fun h' => hn ((hN b).2 h'), rfl⟩
          refs := fun m o _ hm => by simp at hm
          own := fun m b k c e fr _ hm => by simp at hm }
      · rw [(dropφ_eq ρ φ).2.1 m (fun hρ => hlive m hρ hm)]; exact hm
    · simp at hr
  · obtain ⟨⟨r, H', S⟩, hg, hr⟩ := Option.bind_eq_some_iff.1 hr
    split at hr
    · rename_i hmv
      obtain rfl := Option.some.inj hr
      obtain ⟨hcall, hA⟩ := hΓ.hp q as' H₀ r H' S hg
      right
      refine ⟨q, _, hrun hcall hfv, ?_⟩
      refine Calls.mono (hA (locN N0 φ ρ) (locφ φ ρ) w _ hlocn hloc (fun i hi => ?_) hla) ?_
      · obtain ⟨m, _, hm, hφ⟩ := locφ_get' hlt hi
        exact hlive m hm hφ
      · rintro e w' ⟨v, φl, rfl, hrep, hrel, hT, hlen⟩
        obtain ⟨φ', hc', hk⟩ := h.turned hfx hnd h2 hrel hT hlen hmv hrep hd
        exact ⟨v, φ', rfl, hc', fun m _ hm => by rw [hk m (fun hρ => hlive m hρ hm) (List.getElem?_eq_some_iff.1 hm).1]; exact hm⟩
    · simp at hr
end

end Go.Abs
