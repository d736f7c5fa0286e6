/- What the laws of this claim rest on: the abstract executor, its soundness, and what the functions compute on pure data. No condition. -/
import Derived.Test.YtjnpfbohnpjckaaU2
set_option linter.unusedVariables false
set_option linter.unusedSimpArgs false
namespace Go.Abs
open Go.RowKit
def Callable (P : Program) (f : FuncId) : Prop := ∃ fn, P.funcs[f]? = some fn ∧ fn.body.isNone = false ∧ (fn.name == "runtime.NumGoroutine") = false
def CallA (P : Program) (f : FuncId) (args : List A) (Post : A → Prop) : Prop :=
  ∀ (N : Nat → Prop) (w : World) (vs : List Value), (∀ b, N b → b < w.heap.size) → RepL ⟨N, [], w⟩ args vs →
    Calls P f vs.toArray w fun e w' => ∃ v r, e = .returned v ∧ Post r ∧ Rep ⟨N, [], w'⟩ r v ∧ Grew w w'
structure HeapRel (N : Nat → Prop) (φ : List Own) (H : List Obj) (w : World) : Prop where
  len : φ.length = H.length
  objs : ∀ (n : Nat) (o : Obj) (p : Own), nthO H n = some o → φ[n]? = some p → ObjRel (envOf N φ w) o p
  own : ∀ n b k : Nat, φ[n]? = some (Own.loc b k) → b < w.heap.size ∧ ¬ N b
  inj : ∀ n m b k k' : Nat, φ[n]? = some (Own.loc b k) → φ[m]? = some (Own.loc b k') → n = m
structure TurnH (φ : List Own) (w : World) (S : List Nat) (φ' : List Own) (w' : World) : Prop where
  os : w'.os = w.os
  tape : w'.tape = w.tape
  output : w'.output = w.output
  drawn : DR → w.drawn ≤ w'.drawn
  size : w.heap.size ≤ w'.heap.size
  block : ∀ b, b < w.heap.size → (∀ n k : Nat, φ[n]? ≠ some (Own.loc b k)) → w'.heap[b]? = w.heap[b]?
  shape : ∀ (b : Nat) (c : Array Value) (e : TypeId) (fr : Nat × Nat), w.heap[b]? = some (.cells c e fr) → ∃ c' fr', w'.heap[b]? = some (.cells c' e fr') ∧ c'.size = c.size
  own : ∀ n b k : Nat, φ'[n]? = some (Own.loc b k) → w.heap.size ≤ b ∨ ∃ m k' : Nat, φ[m]? = some (Own.loc b k')
  stay : ∀ (n : Nat) (p : Own), n ∉ S → φ[n]? = some p → φ'[n]? = some p
def CallH (P : Program) (f : FuncId) (args : List A) (H : List Obj) (r : A) (H' : List Obj) (S : List Nat) : Prop :=
  ∀ (N : Nat → Prop) (φ : List Own) (w : World) (vs : List Value), (∀ b, N b → b < w.heap.size) → HeapRel N φ H w → (∀ n : Nat, φ[n]? ≠ some Own.free) → RepL (envOf N φ w) args vs →
    Calls P f vs.toArray w fun e w' => ∃ v φ', e = .returned v ∧ Rep (envOf N φ' w') r v ∧ HeapRel N φ' H' w' ∧ TurnH φ w S φ' w' ∧ H.length ≤ H'.length
structure TabOK (P : Program) (Γ : Tab) : Prop where
  f : ∀ f args r, Γ.f f args = some r → Callable P f ∧ CallA P f args (· = r)
  hp : ∀ f args H r H' S, Γ.hp f args H = some (r, H', S) → Callable P f ∧ CallH P f args H r H' S
theorem run_callFunc {P : Program} {f : FuncId} (h : Callable P f) (args : Array Value) (w : World) : (callFunc f args).run P w = .ok (.enter f args) w := by
  obtain ⟨fn, h1, h2, h3⟩ := h
  have h2' : fn.body ≠ none := fun e => by rw [e] at h2; simp at h2
  have h3' : fn.name ≠ "runtime.NumGoroutine" := by simpa using h3
  simp [callFunc, h1, h2', h3']
mutual
theorem rep_flat {E E' : Env} : ∀ (x : A) (v : Value), x.flat = true → Rep E x v → Rep E' x v
  | .any, _, h, _ => by simp [A.flat] at h
  | .int _ _, v, _, hr => by simpa only [Rep] using hr
  | .bool _, v, _, hr => by simpa only [Rep] using hr
  | .str _, v, _, hr => by simpa only [Rep] using hr
  | .nils, v, _, hr => by simpa only [Rep] using hr
  | .nilp, v, _, hr => by simpa only [Rep] using hr
  | .emp _, v, _, hr => by simpa only [Rep] using hr
  | .agg cs, v, h, hr => by
    simp only [Rep] at hr ⊢
    obtain ⟨vs, hv, hl, h1⟩ := hr
    exact ⟨vs, hv, repL_flat cs vs (by simpa only [A.flat] using h) hl, h1⟩
  | .tup cs, v, h, hr => by
    simp only [Rep] at hr ⊢
    obtain ⟨vs, hv, hl⟩ := hr
    exact ⟨vs, hv, repL_flat cs vs (by simpa only [A.flat] using h) hl⟩
  | .slc _, _, h, _ => by simp [A.flat] at h
  | .clip _, _, h, _ => by simp [A.flat] at h
  | .dptr _, _, h, _ => by simp [A.flat] at h
  | .ref _ _, _, h, _ => by simp [A.flat] at h
  | .eref _ _ _, _, h, _ => by simp [A.flat] at h
  | .row _ _ _ _ _, _, h, _ => by simp [A.flat] at h
  | .fn _ _, _, h, _ => by simp [A.flat] at h
theorem repL_flat {E E' : Env} : ∀ (cs : List A) (vs : List Value), A.flat.flatL cs = true → RepL E cs vs → RepL E' cs vs
  | [], _, _, hr => by simpa only [RepL] using hr
  | c :: cs, vs, h, hr => by
    simp only [A.flat.flatL, Bool.and_eq_true] at h
    simp only [RepL] at hr ⊢
    obtain ⟨v, vs', hv, hc, hl⟩ := hr
    exact ⟨v, vs', hv, rep_flat c v h.1 hc, repL_flat cs vs' h.2 hl⟩
end
section
variable {P : Program} {Γ : Tab} {N0 : Nat → Prop} {w0 : Base} {nt : Nat} {σ : St} {φ : List Own} {a : Act} {w : World}
def GoodC (P : Program) (o : Oper) (a : Act) (w : World) (N0 : Nat → Prop) (w0 : Base) (nt : Nat) (φ : List Own) (n : Nat) (σ' : St) : Prop :=
  GoodW P o a w N0 w0 nt φ n σ' ∨ ∃ f args, (Go.execOp a.eval o).run P w = .ok (.enter f args) w ∧
    Calls P f args w fun e w' => ∃ v φ', e = .returned v ∧ Conc N0 w0 nt σ' φ' (a.put o.dst v) w' ∧ ∀ m, m ≠ n → φ[m]? = some .free → φ'[m]? = some .free
theorem evL_rep (h : Conc N0 w0 nt σ φ a w) : ∀ xs : List Operand, RepL (envOf N0 φ w) (σ.evL xs) (xs.map a.eval)
  | [] => by simp [St.evL, RepL]
  | x :: xs => by
    simp only [St.evL, List.map_cons, RepL]
    exact ⟨_, _, rfl, h.ev x, evL_rep h xs⟩
theorem goodC_call (hΓ : TabOK P Γ) (h : Conc N0 w0 nt σ φ a w) {d : Option Tmp} {f : Operand} {xs : List Operand} {us : Array TypeId} {t : TypeId} {p : String} {af : Array Edge} {g : Option (Nat × Bool)} (hd : ∀ t, d = some t → t < nt) {n : Nat} {σ' : St}
    (hr : callV Γ σ d (σ.ev f) (σ.evL xs) = some σ') : GoodC P ⟨d, .call ⟨.value f, ⟨xs⟩, us⟩, t, p, af, g⟩ a w N0 w0 nt φ n σ' := by
  have hf := h.ev f
  cases hc : σ.ev f <;> simp only [hc, callV] at hr <;> try (simp at hr; done)
  rename_i q caps
  rw [hc] at hf
  simp only [Rep] at hf
  obtain ⟨cvs, hfv, hcr⟩ := hf
  have hargs := RepL_append (evL_rep h xs) hcr
  unfold callX at hr
  cases hv : viewL σ.H (σ.evL xs ++ caps) with
  | none => simp [hv] at hr
  | some bs =>
    simp only [hv, Option.bind_some] at hr
    cases hg : Γ.f q bs with
    | none => simp [hg] at hr
    | some r =>
      simp only [hg, Option.bind_some] at hr
      split at hr
      · rename_i hpf
        obtain rfl := Option.some.inj hr
        obtain ⟨hcall, hA⟩ := hΓ.f q bs r hg
        have hlt : ∀ b, (envOf N0 φ w).N b → b < w.heap.size := by
          rintro b (h0 | ⟨m, k, hm⟩)
          · exact Nat.lt_of_lt_of_le (h.n0 b h0).1 h.below.size
          · exact (h.own m b k hm).2
        right
        refine ⟨q, (xs.map a.eval ++ cvs).toArray, ?_, ?_⟩
        · have : (Go.execOp a.eval ⟨d, .call ⟨.value f, ⟨xs⟩, us⟩, t, p, af, g⟩).run P w = (callFunc q (xs.map a.eval ++ cvs).toArray).run P w := by
            simp only [Go.execOp, resolve, hfv, Deferred.ofValue, Sem.run_bind, Sem.run_pure, Result.andThen_ok, invoke]
            congr 2
            apply Array.ext'
            simp
          rw [this]
          exact run_callFunc hcall _ w
        · by_cases hp : A.pure.pureL (σ.evL xs ++ caps) = true
          · obtain ⟨hvr, _⟩ := viewL_sound h hv hargs (N' := (envOf N0 φ w).N) (fun _ hb => hb) (.inl hp)
            refine Calls.mono (hA (envOf N0 φ w).N w _ hlt hvr) ?_
            rintro e w' ⟨v, r', rfl, rfl, hrep, hbel⟩
            have g := hbel
            refine ⟨v, φ, rfl, (h.grew g).put hd ?_, fun _ _ h => h⟩
            refine Rep.mono (K := fun _ => True) (E := ⟨(envOf N0 φ w).N, [], w'⟩) ?_ _ _ hrep (fun _ _ => trivial)
            exact {
              size := Nat.le_refl _
              blk := fun b _ hn => ⟨hn, rfl⟩
              refs := fun m o _ hm => by simp at hm
              own := fun m b k c e fr _ hm => by simp at hm }
          · have hflat : r.flat = true := by simpa [hp] using hpf
            obtain ⟨hvr, _⟩ := viewL_sound h hv hargs (N' := N0) (fun _ hb => .inl hb) (.inr (own_not_n0 h))
            refine Calls.mono (hA N0 w _ (fun b hb => hlt b (.inl hb)) hvr) ?_
            rintro e w' ⟨v, r', rfl, rfl, hrep, hbel⟩
            have g := hbel
            exact ⟨v, φ, rfl, (h.grew g).put hd (rep_flat _ _ hflat hrep), fun _ _ h => h⟩
      · simp at hr
end
end Go.Abs
namespace Go.Abs
open Go.RowKit
def locN (N0 : Nat → Prop) (φ : List Own) (ρ : List Nat) (b : Nat) : Prop := N0 b ∨ ∃ n k : Nat, φ[n]? = some (Own.loc b k) ∧ n ∉ ρ
def locφ (φ : List Own) (ρ : List Nat) : List Own := ρ.map fun n => φ.getD n .free
theorem locφ_get {φ : List Own} {ρ : List Nat} (hlt : ∀ n ∈ ρ, n < φ.length) {i n : Nat} (h : ρ[i]? = some n) : (locφ φ ρ)[i]? = φ[n]? := by
  have hn := hlt n (List.mem_of_getElem? h)
  simp [locφ, List.getElem?_map, h, hn]
theorem locφ_get' {φ : List Own} {ρ : List Nat} (hlt : ∀ n ∈ ρ, n < φ.length) {i : Nat} {p : Own} (h : (locφ φ ρ)[i]? = some p) : ∃ n, ρ[i]? = some n ∧ n ∈ ρ ∧ φ[n]? = some p := by
  cases hi : ρ[i]? with
  | none => simp [locφ, List.getElem?_map, hi] at h
  | some n => exact ⟨n, rfl, List.mem_of_getElem? hi, by rw [← locφ_get hlt hi]; exact h⟩
theorem idx_get : ∀ {ρ : List Nat} {n i : Nat}, idx ρ n = some i → ρ[i]? = some n
  | [], _, _, h => by simp [idx] at h
  | m :: ms, n, i, h => by
    simp only [idx] at h
    split at h
    · rename_i e; subst e; obtain rfl := Option.some.inj h; rfl
    · cases hm : idx ms n with
      | none => simp [hm] at h
      | some j =>
        simp [hm] at h
        subst h
        simpa using idx_get hm
theorem nthN_get : ∀ {ρ : List Nat} {m i n : Nat}, ρ[i]? = some n → nthN ρ m i = n
  | [], _, _, _, h => by simp at h
  | k :: ks, m, 0, n, h => by simpa [nthN] using h
  | k :: ks, m, i + 1, n, h => by simp only [nthN]; exact nthN_get (by simpa using h)
theorem nthN_new : ∀ {ρ : List Nat} {m i : Nat}, nthN ρ m (ρ.length + i) = m + i
  | [], m, i => by simp [nthN]
  | k :: ks, m, i => by
    rw [show (k :: ks).length + i = (ks.length + i) + 1 by simp; omega]
    simp only [nthN]; exact nthN_new
section
variable {N0 : Nat → Prop} {φ : List Own} {ρ : List Nat} {w : World}
theorem locN_env (hlt : ∀ n ∈ ρ, n < φ.length) (b : Nat) : (envOf (locN N0 φ ρ) (locφ φ ρ) w).N b ↔ (envOf N0 φ w).N b := by
  constructor
  · rintro ((h0 | ⟨n, k, hn, _⟩) | ⟨i, k, hi⟩)
    · exact .inl h0
    · exact .inr ⟨n, k, hn⟩
    · obtain ⟨n, _, _, hn⟩ := locφ_get' hlt hi
      exact .inr ⟨n, k, hn⟩
  · rintro (h0 | ⟨n, k, hn⟩)
    · exact .inl (.inl h0)
    · by_cases hρ : n ∈ ρ
      · obtain ⟨i, hi⟩ := List.getElem?_of_mem hρ
        exact .inr ⟨i, k, by rw [locφ_get hlt hi]; exact hn⟩
      · exact .inl (.inr ⟨n, k, hn, hρ⟩)
mutual
theorem rep_ren (hlt : ∀ n ∈ ρ, n < φ.length) : ∀ (x : A) (v : Value) (x' : A), Rep (envOf N0 φ w) x v → x.ren ρ = some x' → Rep (envOf (locN N0 φ ρ) (locφ φ ρ) w) x' v
  | .any, v, x', h, hx => by simp only [A.ren, Option.some.injEq] at hx; subst hx; simp only [Rep]
  | .int _ _, v, x', h, hx => by simp only [A.ren, Option.some.injEq] at hx; subst hx; simpa only [Rep] using h
  | .bool _, v, x', h, hx => by simp only [A.ren, Option.some.injEq] at hx; subst hx; simpa only [Rep] using h
  | .str _, v, x', h, hx => by simp only [A.ren, Option.some.injEq] at hx; subst hx; simpa only [Rep] using h
  | .nils, v, x', h, hx => by simp only [A.ren, Option.some.injEq] at hx; subst hx; simpa only [Rep] using h
  | .nilp, v, x', h, hx => by simp only [A.ren, Option.some.injEq] at hx; subst hx; simpa only [Rep] using h
  | .emp _, v, x', h, hx => by simp only [A.ren, Option.some.injEq] at hx; subst hx; simpa only [Rep] using h
  | .slc es, v, x', h, hx => by
    simp only [A.ren, Option.some.injEq] at hx; subst hx
    exact Rep.pure_mono (E := envOf N0 φ w) (E' := envOf (locN N0 φ ρ) (locφ φ ρ) w) rfl (fun b hb h' => hb ((locN_env hlt b).1 h')) (by simp [A.pure]) h
  | .clip es, v, x', h, hx => by
    simp only [A.ren, Option.some.injEq] at hx; subst hx
    exact Rep.pure_mono (E := envOf N0 φ w) (E' := envOf (locN N0 φ ρ) (locφ φ ρ) w) rfl (fun b hb h' => hb ((locN_env hlt b).1 h')) (by simp [A.pure]) h
  | .dptr es, v, x', h, hx => by
    simp only [A.ren, Option.some.injEq] at hx; subst hx
    exact Rep.pure_mono (E := envOf N0 φ w) (E' := envOf (locN N0 φ ρ) (locφ φ ρ) w) rfl (fun b hb h' => hb ((locN_env hlt b).1 h')) (by simp [A.pure]) h
  | .agg cs, v, x', h, hx => by
    simp only [A.ren] at hx
    obtain ⟨cs', h1, rfl⟩ := Option.map_eq_some_iff.1 hx
    simp only [Rep] at h ⊢
    obtain ⟨vs, hv, hl, ho⟩ := h
    exact ⟨vs, hv, repL_ren hlt cs vs cs' hl h1, ho⟩
  | .fn f cs, v, x', h, hx => by
    simp only [A.ren] at hx
    obtain ⟨cs', h1, rfl⟩ := Option.map_eq_some_iff.1 hx
    simp only [Rep] at h ⊢
    obtain ⟨vs, hv, hl⟩ := h
    exact ⟨vs, hv, repL_ren hlt cs vs cs' hl h1⟩
  | .tup cs, v, x', h, hx => by
    simp only [A.ren] at hx
    obtain ⟨cs', h1, rfl⟩ := Option.map_eq_some_iff.1 hx
    simp only [Rep] at h ⊢
    obtain ⟨vs, hv, hl⟩ := h
    exact ⟨vs, hv, repL_ren hlt cs vs cs' hl h1⟩
  | .ref n o, v, x', h, hx => by
    simp only [A.ren] at hx
    obtain ⟨i, h1, rfl⟩ := Option.map_eq_some_iff.1 hx
    simp only [Rep] at h ⊢
    obtain ⟨b, k, hb, hv⟩ := h
    exact ⟨b, k, by show (locφ φ ρ)[i]? = _; rw [locφ_get hlt (idx_get h1)]; exact hb, hv⟩
  | .eref n j o, v, x', h, hx => by
    simp only [A.ren] at hx
    obtain ⟨i, h1, rfl⟩ := Option.map_eq_some_iff.1 hx
    simp only [Rep] at h ⊢
    obtain ⟨b, k, hb, hv⟩ := h
    exact ⟨b, k, by show (locφ φ ρ)[i]? = _; rw [locφ_get hlt (idx_get h1)]; exact hb, hv⟩
  | .row n o k l c, v, x', h, hx => by
    simp only [A.ren] at hx
    obtain ⟨i, h1, rfl⟩ := Option.map_eq_some_iff.1 hx
    simp only [Rep] at h ⊢
    have e : (locφ φ ρ)[i]? = φ[n]? := locφ_get hlt (idx_get h1)
    rcases h with ⟨p, hp, r⟩ | ⟨b, cap, c', e', fr, hp, r⟩
    · exact .inl ⟨p, by show (locφ φ ρ)[i]? = _; rw [e]; exact hp, r⟩
    · exact .inr ⟨b, cap, c', e', fr, by show (locφ φ ρ)[i]? = _; rw [e]; exact hp, r⟩
theorem repL_ren (hlt : ∀ n ∈ ρ, n < φ.length) : ∀ (cs : List A) (vs : List Value) (cs' : List A), RepL (envOf N0 φ w) cs vs → A.ren.renL ρ cs = some cs' → RepL (envOf (locN N0 φ ρ) (locφ φ ρ) w) cs' vs
  | [], vs, cs', h, hx => by simp only [A.ren.renL, Option.some.injEq] at hx; subst hx; simpa only [RepL] using h
  | c :: cs, vs, cs', h, hx => by
    simp only [A.ren.renL] at hx
    obtain ⟨c', h1, hx⟩ := Option.bind_eq_some_iff.1 hx
    obtain ⟨ds, h2, rfl⟩ := Option.map_eq_some_iff.1 hx
    simp only [RepL] at h ⊢
    obtain ⟨v, vs', hv, hc, hl⟩ := h
    exact ⟨v, vs', hv, rep_ren hlt c v c' hc h1, repL_ren hlt cs vs' ds hl h2⟩
end
theorem renL_get : ∀ {cs ds : List A}, A.ren.renL ρ cs = some ds → cs.length = ds.length ∧ ∀ (i : Nat) (c d : A), cs[i]? = some c → ds[i]? = some d → c.ren ρ = some d
  | [], ds, h => by simp only [A.ren.renL, Option.some.injEq] at h; subst h; exact ⟨rfl, fun i c d h => by simp at h⟩
  | c :: cs, ds, h => by
    simp only [A.ren.renL] at h
    obtain ⟨c', h1, hx⟩ := Option.bind_eq_some_iff.1 h
    obtain ⟨es, h2, rfl⟩ := Option.map_eq_some_iff.1 hx
    obtain ⟨g1, g2⟩ := renL_get h2
    refine ⟨by simp [g1], fun i x y hx hy => ?_⟩
    cases i with
    | zero => simp at hx hy; subst hx; subst hy; exact h1
    | succ i => exact g2 i x y (by simpa using hx) (by simpa using hy)
theorem objRel_ren (hlt : ∀ n ∈ ρ, n < φ.length) {o o' : Obj} {p : Own} (h : ObjRel (envOf N0 φ w) o p) (ho : o.ren ρ = some o') : ObjRel (envOf (locN N0 φ ρ) (locφ φ ρ) w) o' p := by
  cases o with
  | box cs =>
    simp only [Obj.ren] at ho
    obtain ⟨cs', h1, rfl⟩ := Option.map_eq_some_iff.1 ho
    obtain ⟨g1, g2⟩ := renL_get h1
    cases p with
    | loc b k =>
      simp only [ObjRel] at h ⊢
      refine ⟨h.1, RepM_iff.2 fun i y hy => ?_⟩
      have hi : i < cs.length := by rw [g1]; exact (List.getElem?_eq_some_iff.1 hy).1
      obtain ⟨v, hv, h1', hr⟩ := RepM_iff.1 h.2 i _ (List.getElem?_eq_getElem hi)
      exact ⟨v, hv, h1', rep_ren hlt _ v y hr (g2 i _ y (List.getElem?_eq_getElem hi) hy)⟩
    | nil => simp [ObjRel] at h
    | free => simp [ObjRel] at h
  | row k es =>
    simp only [Obj.ren, Option.some.injEq] at ho
    subst ho
    cases p with
    | loc b k' =>
      simp only [ObjRel] at h ⊢
      exact ⟨h.1, h.2.1, h.2.2.1, RepE.pure_mono (E := envOf N0 φ w) (E' := envOf (locN N0 φ ρ) (locφ φ ρ) w) rfl (fun b hb h' => hb ((locN_env hlt b).1 h')) h.2.1 h.2.2.2⟩
    | nil => simpa only [ObjRel] using h
    | free => simpa only [ObjRel] using h
theorem renH_get {H : List Obj} : ∀ {ns : List Nat} {H₀ : List Obj}, renH ρ H ns = some H₀ → ns.length = H₀.length ∧ (∀ n ∈ ns, n < H.length) ∧ ∀ (i n : Nat) (o : Obj), ns[i]? = some n → H₀[i]? = some o → ∃ o', H[n]? = some o' ∧ o'.ren ρ = some o
  | [], H₀, h => by simp only [renH, Option.some.injEq] at h; subst h; exact ⟨rfl, by simp, fun i n o h => by simp at h⟩
  | m :: ns, H₀, h => by
    simp only [renH] at h
    obtain ⟨o', h1, hx⟩ := Option.bind_eq_some_iff.1 h
    obtain ⟨H₁, h2, rfl⟩ := Option.map_eq_some_iff.1 hx
    obtain ⟨g1, g2, g3⟩ := renH_get h2
    rw [nthO_eq] at h1
    cases hm : H[m]? with
    | none => simp [hm, renO] at h1
    | some p =>
      rw [hm] at h1
      simp only [renO] at h1
      refine ⟨by simp [g1], fun n hn => ?_, fun i n o hi ho => ?_⟩
      · rcases List.mem_cons.1 hn with rfl | hn
        · exact (List.getElem?_eq_some_iff.1 hm).1
        · exact g2 n hn
      · cases i with
        | zero => simp at hi ho; subst hi; subst ho; exact ⟨p, hm, h1⟩
        | succ i => exact g3 i n o (by simpa using hi) (by simpa using ho)
end
theorem reach_nodup (H : List Obj) : ∀ (fuel : Nat) (todo acc : List Nat), acc.Nodup → (reach H fuel todo acc).Nodup
  | 0, _, acc, h => by simpa only [reach] using h
  | _ + 1, [], acc, h => by simpa only [reach] using h
  | fuel + 1, n :: todo, acc, h => by
    simp only [reach]
    split
    · exact reach_nodup H fuel todo acc h
    · rename_i hn
      refine reach_nodup H fuel _ _ ?_
      rw [List.nodup_append]
      refine ⟨h, by simp, fun x hx y hy => ?_⟩
      simp at hy
      subst hy
      intro e
      subst e
      simp at hn
      exact hn hx
theorem reach_all (H : List Obj) (p : Nat → Prop) (hs : ∀ m, p m → ∀ n ∈ namesO (nthO H m), p n) : ∀ (fuel : Nat) (todo acc : List Nat), (∀ n ∈ todo, p n) → (∀ n ∈ acc, p n) → ∀ n ∈ reach H fuel todo acc, p n
  | 0, _, acc, _, h => by simpa only [reach] using h
  | _ + 1, [], acc, _, h => by simpa only [reach] using h
  | fuel + 1, n :: todo, acc, ht, h => by
    simp only [reach]
    split
    · exact reach_all H p hs fuel todo acc (fun m hm => ht m (by simp [hm])) h
    · refine reach_all H p hs fuel _ _ (fun m hm => ?_) (fun m hm => ?_)
      · rcases List.mem_append.1 hm with hm | hm
        · exact hs n (ht n (by simp)) m hm
        · exact ht m (by simp [hm])
      · rcases List.mem_append.1 hm with hm | hm
        · exact h m hm
        · simp at hm; subst hm; exact ht m (by simp)
mutual
theorem names_live {E : Env} : ∀ (x : A) (v : Value), Rep E x v → ∀ n ∈ x.names, E.φ[n]? ≠ some Own.free
  | .any, v, h, n, hn => by simp [A.names] at hn
  | .int _ _, v, h, n, hn => by simp [A.names] at hn
  | .bool _, v, h, n, hn => by simp [A.names] at hn
  | .str _, v, h, n, hn => by simp [A.names] at hn
  | .nils, v, h, n, hn => by simp [A.names] at hn
  | .nilp, v, h, n, hn => by simp [A.names] at hn
  | .emp _, v, h, n, hn => by simp [A.names] at hn
  | .slc _, v, h, n, hn => by simp [A.names] at hn
  | .clip _, v, h, n, hn => by simp [A.names] at hn
  | .dptr _, v, h, n, hn => by simp [A.names] at hn
  | .agg cs, v, h, n, hn => by
    simp only [Rep] at h
    obtain ⟨vs, _, hl, _⟩ := h
    exact namesL_live cs vs hl n (by simpa only [A.names] using hn)
  | .fn _ cs, v, h, n, hn => by
    simp only [Rep] at h
    obtain ⟨vs, _, hl⟩ := h
    exact namesL_live cs vs hl n (by simpa only [A.names] using hn)
  | .tup cs, v, h, n, hn => by
    simp only [Rep] at h
    obtain ⟨vs, _, hl⟩ := h
    exact namesL_live cs vs hl n (by simpa only [A.names] using hn)
  | .ref m o, v, h, n, hn => by
    simp only [A.names, List.mem_singleton] at hn; subst hn
    simp only [Rep] at h
    obtain ⟨b, k, hb, _⟩ := h
    rw [hb]; simp
  | .eref m j o, v, h, n, hn => by
    simp only [A.names, List.mem_singleton] at hn; subst hn
    simp only [Rep] at h
    obtain ⟨b, k, hb, _⟩ := h
    rw [hb]; simp
  | .row m o k l c, v, h, n, hn => by
    simp only [A.names, List.mem_singleton] at hn; subst hn
    simp only [Rep] at h
    rcases h with ⟨p, hp, hf, _⟩ | ⟨b, cap, c', e', fr, hp, _⟩
    · rw [hp]; intro e; exact hf (Option.some.inj e)
    · rw [hp]; simp
theorem namesL_live {E : Env} : ∀ (cs : List A) (vs : List Value), RepL E cs vs → ∀ n ∈ A.names.namesL cs, E.φ[n]? ≠ some Own.free
  | [], vs, h, n, hn => by simp [A.names.namesL] at hn
  | c :: cs, vs, h, n, hn => by
    simp only [RepL] at h
    obtain ⟨v, vs', _, hc, hl⟩ := h
    simp only [A.names.namesL, List.mem_append] at hn
    rcases hn with hn | hn
    · exact names_live c v hc n hn
    · exact namesL_live cs vs' hl n hn
end
section
variable {P : Program} {Γ : Tab} {N0 : Nat → Prop} {w0 : Base} {nt : Nat} {σ : St} {φ : List Own} {a : Act} {w : World} {ρ : List Nat}
theorem reach_live (h : Conc N0 w0 nt σ φ a w) {aq : List A} {vs : List Value} (hr : RepL (envOf N0 φ w) aq vs) (fuel : Nat) : ∀ n ∈ reach σ.H fuel (A.names.namesL aq) [], φ[n]? ≠ some Own.free := by
  refine reach_all σ.H (fun n => φ[n]? ≠ some Own.free) (fun m hm n hn => ?_) fuel _ _ (fun n hn => namesL_live (E := envOf N0 φ w) aq vs hr n hn) (by simp)
  cases ho : nthO σ.H m with
  | none => rw [ho] at hn; simp [namesO] at hn
  | some o =>
    rw [ho] at hn
    cases o with
    | row k es => simp [namesO, Obj.names] at hn
    | box cs =>
      simp only [namesO, Obj.names] at hn
      have hlt : m < φ.length := by rw [h.len]; rw [nthO_eq] at ho; exact (List.getElem?_eq_some_iff.1 ho).1
      have hob := h.objs m _ _ ho (List.getElem?_eq_getElem hlt)
      cases hp : φ[m] with
      | loc b k =>
        rw [hp] at hob
        simp only [ObjRel] at hob
        obtain ⟨us, _, hL, _⟩ := RepM_vals hob.2
        exact namesL_live (E := envOf N0 φ w) cs us hL n hn
      | nil => rw [hp] at hob; simp [ObjRel] at hob
      | free => rw [hp] at hob; simp [ObjRel] at hob
theorem Conc.loc (h : Conc N0 w0 nt σ φ a w) (hnd : ρ.Nodup) {H₀ : List Obj} (hH : renH ρ σ.H ρ = some H₀) : (∀ n ∈ ρ, n < φ.length) ∧ HeapRel (locN N0 φ ρ) (locφ φ ρ) H₀ w := by
  obtain ⟨g1, g2, g3⟩ := renH_get hH
  have hlt : ∀ n ∈ ρ, n < φ.length := fun n hn => by rw [h.len]; exact g2 n hn
  refine ⟨hlt, {
    len := by simp [locφ, g1]
    objs := fun i o p ho hp => ?_
    own := fun i b k hi => ?_
    inj := fun i j b k k' hi hj => ?_ }⟩
  · obtain ⟨n, hn, _, hφ⟩ := locφ_get' hlt hp
    rw [nthO_eq] at ho
    obtain ⟨o', ho', hren⟩ := g3 i n o hn ho
    exact objRel_ren hlt (h.objs n o' p (by rw [nthO_eq]; exact ho') hφ) hren
  · obtain ⟨n, hn, hm, hφ⟩ := locφ_get' hlt hi
    refine ⟨(h.own n b k hφ).2, ?_⟩
    rintro (h0 | ⟨n', k', hn', hρ⟩)
    · rcases (h.own n b k hφ).1 with h1 | h1
      · have := (h.n0 b h0).1; omega
      · exact (h.n0 b h0).2 h1
    · exact hρ ((h.inj n n' b k k' hφ hn') ▸ hm)
  · obtain ⟨n, hn, _, hφ⟩ := locφ_get' hlt hi
    obtain ⟨n', hn', _, hφ'⟩ := locφ_get' hlt hj
    obtain rfl := h.inj n n' b k k' hφ hφ'
    have hi1 := (List.getElem?_eq_some_iff.1 hn).1
    have hj1 := (List.getElem?_eq_some_iff.1 hn').1
    exact (List.getElem_inj hnd).1 (by rw [(List.getElem?_eq_some_iff.1 hn).2, (List.getElem?_eq_some_iff.1 hn').2])
def backG {α : Type} : List Nat → List α → List α → List α
  | [], os, xs => xs ++ os
  | n :: ns, o :: os, xs => backG ns os (xs.set n o)
  | _ :: _, [], xs => xs
theorem backH_eq (ρ' : List Nat) (m : Nat) : ∀ (ns : List Nat) (os H : List Obj), backH ρ' m ns os H = backG ns (os.map (Obj.back ρ' m)) H
  | [], os, H => rfl
  | n :: ns, o :: os, H => by simp only [backH, List.map_cons, backG, setO_eq]; exact backH_eq ρ' m ns os _
  | _ :: _, [], H => rfl
theorem backG_old {α : Type} : ∀ {ns : List Nat} {os xs : List α}, ns.length ≤ os.length → ∀ {j : Nat}, j ∉ ns → j < xs.length → (backG ns os xs)[j]? = xs[j]?
  | [], os, xs, _, j, _, hj => by simp only [backG]; exact List.getElem?_append_left hj
  | n :: ns, [], xs, h, _, _, _ => by simp at h
  | n :: ns, o :: os, xs, h, j, hn, hj => by
    simp only [backG]
    rw [backG_old (by simpa using h) (fun h' => hn (by simp [h'])) (by simpa using hj), List.getElem?_set_ne (fun e => hn (by simp [e]))]
theorem backG_new {α : Type} : ∀ {ns : List Nat} {os xs : List α}, ns.length ≤ os.length → ns.Nodup → (∀ n ∈ ns, n < xs.length) → ∀ i, (backG ns os xs)[nthN ns xs.length i]? = os[i]?
  | [], os, xs, _, _, _, i => by
    simp only [backG, nthN]
    rw [List.getElem?_append_right (by omega), Nat.add_sub_cancel_left]
  | n :: ns, [], xs, h, _, _, _ => by simp at h
  | n :: ns, o :: os, xs, h, hnd, hlt, i => by
    simp only [backG]
    rw [List.nodup_cons] at hnd
    cases i with
    | zero =>
      simp only [nthN]
      rw [backG_old (by simpa using h) hnd.1 (by simpa using hlt n (by simp))]
      simp [hlt n (by simp)]
    | succ i =>
      simp only [nthN]
      have := backG_new (ns := ns) (os := os) (xs := xs.set n o) (by simpa using h) hnd.2 (fun m hm => by simpa using hlt m (by simp [hm])) i
      simpa using this
theorem backG_len {α : Type} : ∀ {ns : List Nat} {os xs : List α}, ns.length ≤ os.length → (backG ns os xs).length = xs.length + (os.length - ns.length)
  | [], os, xs, _ => by simp [backG]
  | n :: ns, [], xs, h => by simp at h
  | n :: ns, o :: os, xs, h => by
    simp only [backG]
    rw [backG_len (by simpa using h)]
    simp
theorem backG_cases {α : Type} {ns : List Nat} {os xs : List α} (h : ns.length ≤ os.length) (hnd : ns.Nodup) (hlt : ∀ n ∈ ns, n < xs.length) {j : Nat} {x : α} (hj : (backG ns os xs)[j]? = some x) :
    (∃ i, j = nthN ns xs.length i ∧ os[i]? = some x) ∨ (j ∉ ns ∧ j < xs.length ∧ xs[j]? = some x) := by
  have hl := (List.getElem?_eq_some_iff.1 hj).1
  rw [backG_len h] at hl
  by_cases h1 : j < xs.length
  · by_cases h2 : j ∈ ns
    · obtain ⟨i, hi⟩ := List.getElem?_of_mem h2
      have := nthN_get (m := xs.length) hi
      refine .inl ⟨i, this.symm, ?_⟩
      rw [← backG_new h hnd hlt i, this]; exact hj
    · exact .inr ⟨h2, h1, by rw [← backG_old h h2 h1]; exact hj⟩
  · refine .inl ⟨ns.length + (j - xs.length), by rw [nthN_new]; omega, ?_⟩
    rw [← backG_new h hnd hlt, nthN_new, show xs.length + (j - xs.length) = j by omega]; exact hj
mutual
theorem rep_back {El E : Env} {m : Nat} (hw : El.w = E.w) (hN : ∀ b, ¬ El.N b → ¬ E.N b) (hφ : ∀ (i : Nat) (p : Own), El.φ[i]? = some p → E.φ[nthN ρ m i]? = some p) : ∀ (x : A) (v : Value), Rep El x v → Rep E (x.back ρ m) v
  | .any, v, h => by simp only [A.back, Rep]
  | .int _ _, v, h => by simpa only [A.back, Rep] using h
  | .bool _, v, h => by simpa only [A.back, Rep] using h
  | .str _, v, h => by simpa only [A.back, Rep] using h
  | .nils, v, h => by simpa only [A.back, Rep] using h
  | .nilp, v, h => by simpa only [A.back, Rep] using h
  | .emp _, v, h => by simpa only [A.back, Rep] using h
  | .slc es, v, h => by simp only [A.back]; exact Rep.pure_mono hw.symm hN (by simp [A.pure]) h
  | .clip es, v, h => by simp only [A.back]; exact Rep.pure_mono hw.symm hN (by simp [A.pure]) h
  | .dptr es, v, h => by simp only [A.back]; exact Rep.pure_mono hw.symm hN (by simp [A.pure]) h
  | .agg cs, v, h => by
    simp only [A.back, Rep] at h ⊢
    obtain ⟨vs, hv, hl, ho⟩ := h
    exact ⟨vs, hv, repL_back hw hN hφ cs vs hl, ho⟩
  | .fn f cs, v, h => by
    simp only [A.back, Rep] at h ⊢
    obtain ⟨vs, hv, hl⟩ := h
    exact ⟨vs, hv, repL_back hw hN hφ cs vs hl⟩
  | .tup cs, v, h => by
    simp only [A.back, Rep] at h ⊢
    obtain ⟨vs, hv, hl⟩ := h
    exact ⟨vs, hv, repL_back hw hN hφ cs vs hl⟩
  | .ref n o, v, h => by
    simp only [A.back, Rep] at h ⊢
    obtain ⟨b, k, hb, hv⟩ := h
    exact ⟨b, k, hφ n _ hb, hv⟩
  | .eref n j o, v, h => by
    simp only [A.back, Rep] at h ⊢
    obtain ⟨b, k, hb, hv⟩ := h
    exact ⟨b, k, hφ n _ hb, hv⟩
  | .row n o k l c, v, h => by
    simp only [A.back, Rep] at h ⊢
    rcases h with ⟨p, hp, r⟩ | ⟨b, cap, c', e', fr, hp, r⟩
    · exact .inl ⟨p, hφ n _ hp, r⟩
    · exact .inr ⟨b, cap, c', e', fr, hφ n _ hp, by rw [← hw]; exact r⟩
theorem repL_back {El E : Env} {m : Nat} (hw : El.w = E.w) (hN : ∀ b, ¬ El.N b → ¬ E.N b) (hφ : ∀ (i : Nat) (p : Own), El.φ[i]? = some p → E.φ[nthN ρ m i]? = some p) : ∀ (cs : List A) (vs : List Value), RepL El cs vs → RepL E (A.back.backL ρ m cs) vs
  | [], vs, h => by simpa only [A.back.backL, RepL] using h
  | c :: cs, vs, h => by
    simp only [A.back.backL, RepL] at h ⊢
    obtain ⟨v, vs', hv, hc, hl⟩ := h
    exact ⟨v, vs', hv, rep_back hw hN hφ c v hc, repL_back hw hN hφ cs vs' hl⟩
end
theorem backL_get {m : Nat} : ∀ {cs : List A} {i : Nat}, (A.back.backL ρ m cs)[i]? = (cs[i]?).map (A.back ρ m)
  | [], i => by simp [A.back.backL]
  | c :: cs, 0 => by simp [A.back.backL]
  | c :: cs, i + 1 => by simpa [A.back.backL] using backL_get (cs := cs) (i := i)
theorem objRel_back {El E : Env} {m : Nat} (hw : El.w = E.w) (hN : ∀ b, ¬ El.N b → ¬ E.N b) (hφ : ∀ (i : Nat) (p : Own), El.φ[i]? = some p → E.φ[nthN ρ m i]? = some p) {o : Obj} {p : Own} (h : ObjRel El o p) : ObjRel E (o.back ρ m) p := by
  cases o with
  | box cs =>
    cases p with
    | loc b k =>
      simp only [Obj.back, ObjRel] at h ⊢
      refine ⟨by rw [← hw]; exact h.1, RepM_iff.2 fun i y hy => ?_⟩
      rw [backL_get] at hy
      obtain ⟨x, hx, rfl⟩ := Option.map_eq_some_iff.1 hy
      obtain ⟨v, hv, h1, hr⟩ := RepM_iff.1 h.2 i x hx
      exact ⟨v, by rw [← hw]; exact hv, h1, rep_back hw hN hφ x v hr⟩
    | nil => simp [ObjRel] at h
    | free => simp [ObjRel] at h
  | row k es =>
    cases p with
    | loc b k' =>
      simp only [Obj.back, ObjRel] at h ⊢
      exact ⟨h.1, h.2.1, by rw [← hw]; exact h.2.2.1, RepE.pure_mono hw.symm hN h.2.1 h.2.2.2⟩
    | nil => simpa only [Obj.back, ObjRel] using h
    | free => simpa only [Obj.back, ObjRel] using h
theorem Clear.scrub {m : Nat} (h : Clear σ m) (n : Nat) : Clear (σ.scrub n) m := by
  have one : ∀ x : A, x.mem m = false → (scrubA n x).mem m = false := fun x hx => by
    unfold scrubA
    split
    · rfl
    · exact hx
  refine ⟨fun d => ?_, fun j cs hj => ?_⟩
  · show (look (σ.s.map fun p => (p.1, scrubA n p.2)) d).mem m = false
    rw [look_map]; exact one _ (h.1 d)
  · simp only [St.scrub] at hj
    rw [nthO_map] at hj
    cases ho : nthO σ.H j with
    | none => simp [ho] at hj
    | some o =>
      simp [ho] at hj
      cases o with
      | row k es => simp [scrubO] at hj
      | box ds =>
        simp [scrubO] at hj
        subst hj
        have hd := h.2 j ds ho
        clear ho
        induction ds with
        | nil => rfl
        | cons y ys ih =>
          simp only [A.mem.memL, Bool.or_eq_false_iff] at hd
          simp only [List.map_cons, A.mem.memL, Bool.or_eq_false_iff]
          exact ⟨one y hd.1, ih hd.2⟩
theorem Conc.scrubs {m : Nat} : ∀ {S : List Nat} {σ : St}, Conc N0 w0 nt σ φ a w → Conc N0 w0 nt (Go.Abs.scrubs ρ m σ S) φ a w ∧ (∀ j, Clear σ j → Clear (Go.Abs.scrubs ρ m σ S) j) ∧ (∀ i ∈ S, Clear (Go.Abs.scrubs ρ m σ S) (nthN ρ m i)) ∧ (Go.Abs.scrubs ρ m σ S).H.length = σ.H.length
  | [], σ, h => ⟨h, fun _ h => h, by simp, rfl⟩
  | i :: is, σ, h => by
    obtain ⟨h1, h2, h3, h4⟩ := Conc.scrubs (m := m) (S := is) (h.scrub (nthN ρ m i))
    refine ⟨h1, fun j hj => h2 j (hj.scrub _), fun j hj => ?_, h4.trans (by simp [St.scrub])⟩
    rcases List.mem_cons.1 hj with rfl | hj
    · exact h2 _ (clear_scrub σ _)
    · exact h3 j hj
theorem mayMove_spec {m : Nat} : ∀ {S : List Nat}, mayMove Γ ρ m S = true → ∀ i ∈ S, Γ.fix (nthN ρ m i) = false
  | [], _, i, hi => by simp at hi
  | j :: js, h, i, hi => by
    simp only [mayMove, Bool.and_eq_true, Bool.not_eq_true'] at h
    rcases List.mem_cons.1 hi with rfl | hi
    · exact h.1
    · exact mayMove_spec h.2 i hi
theorem Conc.turned (h : Conc N0 w0 nt σ φ a w) (hfx : w0.fix = Γ.fix) (hnd : ρ.Nodup) {H₀ : List Obj} (hH : renH ρ σ.H ρ = some H₀) {φl : List Own} {H' : List Obj} {S : List Nat} {w' : World} {r : A} {v : Value}
    (hrel : HeapRel (locN N0 φ ρ) φl H' w') (hT : TurnH (locφ φ ρ) w S φl w') (hlen : H₀.length ≤ H'.length) (hmv : mayMove Γ ρ σ.H.length S = true)
    (hr : Rep (envOf (locN N0 φ ρ) φl w') r v) {d : Option Tmp} (hd : ∀ t, d = some t → t < nt) :
    ∃ φ', Conc N0 w0 nt (callH2 σ d ρ (r, H', S)) φ' (a.put d v) w' ∧ ∀ m, m ∉ ρ → m < φ.length → φ'[m]? = φ[m]? := by
  obtain ⟨hlt, hloc⟩ := h.loc hnd hH
  obtain ⟨g1, g2, g3⟩ := renH_get hH
  obtain ⟨hs, _, hcl, hsl⟩ := Conc.scrubs (ρ := ρ) (m := σ.H.length) (S := S) h
  have hml : φ.length = σ.H.length := h.len
  have hle : ρ.length ≤ φl.length := by rw [hrel.len]; omega
  have hle' : ρ.length ≤ H'.length := by omega
  have hget : ∀ i, (backG ρ φl φ)[nthN ρ σ.H.length i]? = φl[i]? := fun i => by rw [← hml]; exact backG_new hle hnd hlt i
  have hold : ∀ j, j ∉ ρ → j < φ.length → (backG ρ φl φ)[j]? = φ[j]? := fun j h1 h2 => backG_old hle h1 h2
  have hcase : ∀ (j : Nat) (p : Own), (backG ρ φl φ)[j]? = some p → (∃ i, j = nthN ρ σ.H.length i ∧ φl[i]? = some p) ∨ (j ∉ ρ ∧ j < φ.length ∧ φ[j]? = some p) := fun j p hj => by
    rw [← hml]; exact backG_cases hle hnd hlt hj
  have hφi : ∀ (i : Nat) (p : Own), φl[i]? = some p → (backG ρ φl φ)[nthN ρ σ.H.length i]? = some p := fun i p hp => by rw [hget]; exact hp
  have hN : ∀ b, ¬ (envOf (locN N0 φ ρ) φl w').N b → ¬ (envOf N0 (backG ρ φl φ) w').N b := fun b hb => by
    rintro (h0 | ⟨j, k, hj⟩)
    · exact hb (.inl (.inl h0))
    · rcases hcase j _ hj with ⟨i, _, hi⟩ | ⟨h1, h2, h3⟩
      · exact hb (.inr ⟨i, k, hi⟩)
      · exact hb (.inl (.inr ⟨j, k, h3, h1⟩))
  have hfr : ∀ (j b k : Nat), j ∉ ρ → φ[j]? = some (Own.loc b k) → w'.heap[b]? = w.heap[b]? := fun j b k hj hb => by
    refine hT.block b (h.own j b k hb).2 fun i k' hi => ?_
    obtain ⟨n, _, hm, hn⟩ := locφ_get' hlt hi
    exact hj ((h.inj n j b k' k hn hb) ▸ hm)
  have hext : Ext (fun n => ∀ i ∈ S, nthN ρ σ.H.length i ≠ n) (envOf N0 φ w) (envOf N0 (backG ρ φl φ) w') := {
    size := hT.size
    blk := fun b hb hn => ⟨by
      rintro (h0 | ⟨j, k, hj⟩)
      · exact hn (.inl h0)
      · rcases hcase j _ hj with ⟨i, _, hi⟩ | ⟨h1, h2, h3⟩
        · rcases hT.own i b k hi with h' | ⟨i', k', hi'⟩
          · have : b < w.heap.size := hb
            omega
          · obtain ⟨n, _, _, hn'⟩ := locφ_get' hlt hi'
            exact hn (.inr ⟨n, k', hn'⟩)
        · exact hn (.inr ⟨j, k, h3⟩), hT.block b hb fun i k hi => by
      obtain ⟨n, _, _, hn'⟩ := locφ_get' hlt hi
      exact hn (.inr ⟨n, k, hn'⟩)⟩
    refs := fun n p hk hp hf => by
      show (backG ρ φl φ)[n]? = some p
      have hp' : φ[n]? = some p := hp
      by_cases hn : n ∈ ρ
      · obtain ⟨i, hi⟩ := List.getElem?_of_mem hn
        have e := nthN_get (m := σ.H.length) hi
        have hiS : i ∉ S := fun hS => hk i hS e
        rw [← e]
        exact hφi i p (hT.stay i p hiS (by rw [locφ_get hlt hi]; exact hp'))
      · rw [hold n hn (List.getElem?_eq_some_iff.1 hp').1]; exact hp'
    own := fun n b k c e fr _ hn hc => hT.shape b c e fr hc }
  have hconc : Conc N0 w0 nt ⟨(Go.Abs.scrubs ρ σ.H.length σ S).s, backH ρ σ.H.length ρ H' (Go.Abs.scrubs ρ σ.H.length σ S).H⟩ (backG ρ φl φ) a w' := {
    slots := fun t => Rep.mono hext _ _ (hs.slots t) fun n hn i hi e => by
      have := (hcl i hi).1 t
      rw [e] at this
      have hn' : (look (Go.Abs.scrubs ρ σ.H.length σ S).s t).mem n = true := hn
      rw [this] at hn'
      cases hn'
    size := h.size
    defers := h.defers
    len := by rw [backH_eq, backG_len hle, backG_len (by simpa using hle'), hsl, hml, hrel.len]; simp
    objs := fun j o p ho hp => by
      rw [nthO_eq, backH_eq] at ho
      have hltS : ∀ n ∈ ρ, n < (Go.Abs.scrubs ρ σ.H.length σ S).H.length := fun n hn => by rw [hsl, ← hml]; exact hlt n hn
      rcases hcase j p hp with ⟨i, rfl, hi⟩ | ⟨h1, h2, h3⟩
      · have := backG_new (os := H'.map (Obj.back ρ σ.H.length)) (by simpa using hle') hnd hltS i
        rw [hsl] at this
        rw [this, List.getElem?_map] at ho
        obtain ⟨o', ho', rfl⟩ := Option.map_eq_some_iff.1 ho
        exact objRel_back (El := envOf (locN N0 φ ρ) φl w') (E := envOf N0 (backG ρ φl φ) w') rfl hN hφi (hrel.objs i o' p (by rw [nthO_eq]; exact ho') hi)
      · rw [backG_old (by simpa using hle') h1 (by rw [hsl, ← hml]; exact h2)] at ho
        refine ObjRel.mono hext (hs.objs j o p (by rw [nthO_eq]; exact ho) h3) (fun b k hb c e fr hh => ?_) (fun cs hcs n hn i hi e => ?_)
        · subst hb
          show w'.heap[b]? = _
          rw [hfr j b k h1 h3]; exact hh
        · subst hcs; subst e
          have := (hcl i hi).2 j cs (by rw [nthO_eq]; exact ho)
          rw [this] at hn
          cases hn
    own := fun j b k hj => by
      rcases hcase j _ hj with ⟨i, _, hi⟩ | ⟨h1, h2, h3⟩
      · refine ⟨?_, (hrel.own i b k hi).1⟩
        rcases hT.own i b k hi with h' | ⟨i', k', hi'⟩
        · exact .inl (Nat.le_trans h.below.size h')
        · obtain ⟨n, _, _, hn'⟩ := locφ_get' hlt hi'
          exact (h.own n b k' hn').1
      · exact ⟨(h.own j b k h3).1, Nat.lt_of_lt_of_le (h.own j b k h3).2 hT.size⟩
    inj := fun j j' b k k' hj hj' => by
      rcases hcase j _ hj with ⟨i, e, hi⟩ | ⟨h1, h2, h3⟩ <;> rcases hcase j' _ hj' with ⟨i', e', hi'⟩ | ⟨h1', h2', h3'⟩
      · rw [e, e', hrel.inj i i' b k k' hi hi']
      · exact absurd (.inr ⟨j', k', h3', h1'⟩) (hrel.own i b k hi).2
      · exact absurd (.inr ⟨j, k, h3, h1⟩) (hrel.own i' b k' hi').2
      · exact h.inj j j' b k k' h3 h3'
    n0 := h.n0
    fixd := fun n p hf hp hfree => by
      have hp' := h.fixd n p hf hp hfree
      refine hext.refs n p (fun i hi e => ?_) hp' hfree
      have := mayMove_spec hmv i hi
      rw [e, ← hfx, hf] at this
      cases this
    below := {
      os := hT.os.trans h.below.os
      tape := hT.tape.trans h.below.tape
      output := hT.output.trans h.below.output
      drawn := fun hd => Nat.le_trans (h.below.drawn hd) (hT.drawn hd)
      size := Nat.le_trans h.below.size hT.size
      block := fun b hb hM => by
        rw [hT.block b (Nat.lt_of_lt_of_le hb h.below.size) fun i k hi => by
          obtain ⟨n, _, _, hn'⟩ := locφ_get' hlt hi
          rcases (h.own n b k hn').1 with h' | h'
          · omega
          · exact hM h']
        exact h.below.block b hb hM
      shape := fun b c e fr hc => by
        obtain ⟨c', fr', k1, k2⟩ := h.below.shape b c e fr hc
        obtain ⟨c'', fr'', k3, k4⟩ := hT.shape b c' e fr' k1
        exact ⟨c'', fr'', k3, k4.trans k2⟩ } }
  refine ⟨backG ρ φl φ, hconc.put hd ?_, fun m h1 h2 => hold m h1 h2⟩
  exact rep_back (El := envOf (locN N0 φ ρ) φl w') (E := envOf N0 (backG ρ φl φ) w') rfl hN hφi r v hr
theorem dropO_eq : ∀ (ns : List Nat) (H : List Obj), (dropO ρ ns H).length = H.length ∧ (∀ j, j ∉ ns → (dropO ρ ns H)[j]? = H[j]?) ∧ (∀ j, j ∈ ns → j < H.length → (dropO ρ ns H)[j]? = some (.row 0 []))
  | [], H => ⟨rfl, fun _ _ => rfl, fun j h => by simp at h⟩
  | n :: ns, H => by
    obtain ⟨h1, h2, h3⟩ := dropO_eq ns (setO H n (.row 0 []))
    simp only [dropO]
    rw [setO_eq] at h1 h2 h3 ⊢
    refine ⟨by simpa using h1, fun j hj => ?_, fun j hj hl => ?_⟩
    · rw [h2 j (fun h => hj (by simp [h])), List.getElem?_set_ne (fun e => hj (by simp [e]))]
    · by_cases hjn : j ∈ ns
      · exact h3 j hjn (by simpa using hl)
      · rcases List.mem_cons.1 hj with rfl | hj
        · rw [h2 _ hjn]; simp [hl]
        · exact absurd hj hjn
def dropφ : List Nat → List Own → List Own
  | [], φ => φ
  | n :: ns, φ => dropφ ns (φ.set n .free)
theorem dropφ_eq : ∀ (ns : List Nat) (φ : List Own), (dropφ ns φ).length = φ.length ∧ (∀ j, j ∉ ns → (dropφ ns φ)[j]? = φ[j]?) ∧ (∀ j, j ∈ ns → j < φ.length → (dropφ ns φ)[j]? = some .free)
  | [], φ => ⟨rfl, fun _ _ => rfl, fun j h => by simp at h⟩
  | n :: ns, φ => by
    obtain ⟨h1, h2, h3⟩ := dropφ_eq ns (φ.set n .free)
    simp only [dropφ]
    refine ⟨by simpa using h1, fun j hj => ?_, fun j hj hl => ?_⟩
    · rw [h2 j (fun h => hj (by simp [h])), List.getElem?_set_ne (fun e => hj (by simp [e]))]
    · by_cases hjn : j ∈ ns
      · exact h3 j hjn (by simpa using hl)
      · rcases List.mem_cons.1 hj with rfl | hj
        · rw [h2 _ hjn]; simp [hl]
        · exact absurd hj hjn
theorem look_frz {H₀ : List Obj} : ∀ (s : List (Nat × A)) (d : Nat), look (s.map fun p => (p.1, frzA ρ H₀ p.2)) d = frzA ρ H₀ (look s d)
  | [], d => by
    have : A.meets ρ .any = false := by simp [A.meets, A.mem]
    simp [look, frzA, this]
  | (i, v) :: s, d => by
    simp only [List.map_cons, look]
    split
    · rfl
    · exact look_frz s d
theorem view_loc (h : Conc N0 w0 nt σ φ a w) (hnd : ρ.Nodup) {H₀ : List Obj} (hH : renH ρ σ.H ρ = some H₀) {x y : A} {v : Value} (hr : Rep (envOf (locN N0 φ ρ) (locφ φ ρ) w) x v) (hv : view H₀ x = some y) :
    Rep ⟨locN N0 φ ρ, [], w⟩ y v ∧ y.pure = true := by
  obtain ⟨hlt, hloc⟩ := h.loc hnd hH
  have hc : Conc (locN N0 φ ρ) { toWorld := w, M := fun b => ∃ n k : Nat, (locφ φ ρ)[n]? = some (Own.loc b k), fix := fun _ => false, φ0 := [] } a.tmps.size { s := [], H := H₀ } (locφ φ ρ) ⟨a.tmps, []⟩ w := {
    slots := fun d => by simp only [look, Rep]
    size := rfl
    defers := rfl
    len := hloc.len
    objs := hloc.objs
    own := fun n b k hn => ⟨.inr ⟨n, k, hn⟩, (hloc.own n b k hn).1⟩
    inj := hloc.inj
    n0 := fun b hb => ⟨by
      rcases hb with h0 | ⟨n, k, hn, _⟩
      · exact Nat.lt_of_lt_of_le (h.n0 b h0).1 h.below.size
      · exact (h.own n b k hn).2, by
      rintro ⟨n, k, hn⟩
      exact (hloc.own n b k hn).2 hb⟩
    fixd := fun n p hf => by cases hf
    below := Kept.refl _ }
  exact view_sound hc hv hr (N' := locN N0 φ ρ) ⟨fun b hb => .inl hb, .inr fun n b k hn => (hloc.own n b k hn).2⟩
theorem Conc.frozen (h : Conc N0 w0 nt σ φ a w) (hnd : ρ.Nodup) {H₀ : List Obj} (hH : renH ρ σ.H ρ = some H₀) (hfx : ∀ n ∈ ρ, w0.fix n = true → w0.φ0.length ≤ n) :
    Conc N0 w0 nt ⟨σ.s.map (fun p => (p.1, frzA ρ H₀ p.2)), dropO ρ ρ (σ.H.map (frzO ρ H₀))⟩ (dropφ ρ φ) a w ∧ (∀ b, locN N0 φ ρ b ↔ (envOf N0 (dropφ ρ φ) w).N b) := by
  obtain ⟨hlt, hloc⟩ := h.loc hnd hH
  obtain ⟨f1, f2, f3⟩ := dropφ_eq ρ φ
  obtain ⟨d1, d2, d3⟩ := dropO_eq (ρ := ρ) ρ (σ.H.map (frzO ρ H₀))
  have hat : ∀ m b k : Nat, (dropφ ρ φ)[m]? = some (Own.loc b k) → m ∉ ρ ∧ φ[m]? = some (.loc b k) := fun m b k hm => by
    by_cases hρ : m ∈ ρ
    · rw [f3 m hρ (hlt m hρ)] at hm; simp at hm
    · rw [f2 m hρ] at hm; exact ⟨hρ, hm⟩
  have hN : ∀ b, locN N0 φ ρ b ↔ (envOf N0 (dropφ ρ φ) w).N b := fun b => by
    constructor
    · rintro (h0 | ⟨n, k, hn, hρ⟩)
      · exact .inl h0
      · exact .inr ⟨n, k, by rw [f2 n hρ]; exact hn⟩
    · rintro (h0 | ⟨n, k, hn⟩)
      · exact .inl h0
      · obtain ⟨h1, h2⟩ := hat n b k hn
        exact .inr ⟨n, k, h2, h1⟩
  have hext : Ext (fun n => n ∉ ρ) (envOf N0 φ w) (envOf N0 (dropφ ρ φ) w) := {
    size := Nat.le_refl _
    blk := fun b _ hn => ⟨by
      rintro (h0 | ⟨m, k, hm⟩)
      · exact hn (.inl h0)
      · exact hn (.inr ⟨m, k, (hat m b k hm).2⟩), rfl⟩
    refs := fun m p hk hm _ => by
      show (dropφ ρ φ)[m]? = some p
      rw [f2 m hk]; exact hm
    own := fun m b k c e fr _ _ hc => ⟨c, fr, hc, rfl⟩ }
  have one : ∀ (x : A) (v : Value), Rep (envOf N0 φ w) x v → Rep (envOf N0 (dropφ ρ φ) w) (frzA ρ H₀ x) v := fun x v hx => by
    unfold frzA
    split
    · cases hren : x.ren ρ with
      | none => simp only [Rep]
      | some x' =>
        simp only
        have hl := rep_ren hlt x v x' hx hren
        cases hv : view H₀ x' with
        | none => simp only [Option.getD_none, Rep]
        | some y =>
          simp only [Option.getD_some]
          obtain ⟨hy, hp⟩ := view_loc h hnd hH hl hv
          exact Rep.pure_mono (E := ⟨locN N0 φ ρ, [], w⟩) (E' := envOf N0 (dropφ ρ φ) w) rfl (fun b hb h' => hb ((hN b).2 h')) hp hy
    · rename_i hm
      refine Rep.mono hext x v hx fun n hn hρ => ?_
      simp only [A.meets, List.any_eq_true, not_exists, not_and] at hm
      exact hm n hρ hn
  refine ⟨{
    slots := fun d => by
      show Rep _ (look (σ.s.map fun p => (p.1, frzA ρ H₀ p.2)) d) _
      rw [look_frz]
      exact one _ _ (h.slots d)
    size := h.size
    defers := h.defers
    len := by rw [f1, d1]; simp [h.len]
    objs := fun m o p ho hp => ?_
    own := fun m b k hm => h.own m b k (hat m b k hm).2
    inj := fun m m' b k k' hm hm' => h.inj m m' b k k' (hat m b k hm).2 (hat m' b k' hm').2
    n0 := h.n0
    fixd := fun n p hf hp hfree => by
      have hn : n ∉ ρ := fun hρ => by
        have h1 := hfx n hρ hf
        have h2 := (List.getElem?_eq_some_iff.1 hp).1
        omega
      rw [f2 n hn]; exact h.fixd n p hf hp hfree
    below := h.below }, hN⟩
  rw [nthO_eq] at ho
  by_cases hρ : m ∈ ρ
  · rw [d3 m hρ (by simpa [← h.len] using hlt m hρ)] at ho
    rw [f3 m hρ (hlt m hρ)] at hp
    obtain rfl := Option.some.inj ho
    obtain rfl := Option.some.inj hp
    simp [ObjRel]
  · rw [d2 m hρ, List.getElem?_map] at ho
    rw [f2 m hρ] at hp
    obtain ⟨o', ho', rfl⟩ := Option.map_eq_some_iff.1 ho
    have hob := h.objs m o' p (by rw [nthO_eq]; exact ho') hp
    cases o' with
    | row k es =>
      exact ObjRel.mono hext hob (fun b k _ c e fr hh => hh) (fun cs hcs => by cases hcs)
    | box cs =>
      cases p with
      | loc b k =>
        simp only [frzO, ObjRel] at hob ⊢
        refine ⟨hob.1, RepM_iff.2 fun i y hy => ?_⟩
        rw [List.getElem?_map] at hy
        obtain ⟨x, hx, rfl⟩ := Option.map_eq_some_iff.1 hy
        obtain ⟨v, hv, h1, hr⟩ := RepM_iff.1 hob.2 i x hx
        exact ⟨v, hv, h1, one x v hr⟩
      | nil => simp [ObjRel] at hob
      | free => simp [ObjRel] at hob
theorem viewL_loc (h : Conc N0 w0 nt σ φ a w) (hnd : ρ.Nodup) {H₀ : List Obj} (hH : renH ρ σ.H ρ = some H₀) {xs ys : List A} {vs : List Value} (hv : viewL H₀ xs = some ys) (hr : RepL (envOf (locN N0 φ ρ) (locφ φ ρ) w) xs vs) :
    RepL ⟨locN N0 φ ρ, [], w⟩ ys vs := by
  obtain ⟨h1, h2⟩ := viewL_get hv
  obtain ⟨g1, g2⟩ := RepL_iff.1 hr
  refine RepL_iff.2 ⟨by rw [← h1, g1], fun i c u hc hu => ?_⟩
  have hi : i < xs.length := by rw [h1]; exact (List.getElem?_eq_some_iff.1 hc).1
  exact (view_loc h hnd hH (g2 i _ u (List.getElem?_eq_getElem hi) hu) (h2 i _ c (List.getElem?_eq_getElem hi) hc)).1
theorem goodC_callH (hΓ : TabOK P Γ) (h : Conc N0 w0 nt σ φ a w) (hfx : w0.fix = Γ.fix) {d : Option Tmp} {f : Operand} {xs : List Operand} {us : Array TypeId} {t : TypeId} {p : String} {af : Array Edge} {g : Option (Nat × Bool)} (hd : ∀ t, d = some t → t < nt) {n : Nat} {σ' : St}
    (hr : callHV Γ σ d (σ.ev f) (σ.evL xs) = some σ') : GoodC P ⟨d, .call ⟨.value f, ⟨xs⟩, us⟩, t, p, af, g⟩ a w N0 w0 nt φ n σ' := by
  have hf := h.ev f
  cases hc : σ.ev f <;> simp only [hc, callHV] at hr <;> try (simp at hr; done)
  rename_i q caps
  rw [hc] at hf
  simp only [Rep] at hf
  obtain ⟨cvs, hfv, hcr⟩ := hf
  have hargs := RepL_append (evL_rep h xs) hcr
  unfold callH callH1 at hr
  have hnd := reach_nodup σ.H 64 (A.names.namesL (σ.evL xs ++ caps)) [] (by simp)
  have hlive := reach_live h hargs 64
  generalize hρ : reach σ.H 64 (A.names.namesL (σ.evL xs ++ caps)) [] = ρ at hr hnd hlive
  obtain ⟨as', h1, hr⟩ := Option.bind_eq_some_iff.1 hr
  obtain ⟨H₀, h2, hr⟩ := Option.bind_eq_some_iff.1 hr
  obtain ⟨hlt, hloc⟩ := h.loc hnd h2
  have hla := repL_ren hlt _ _ as' hargs h1
  have hlocn : ∀ b, locN N0 φ ρ b → b < w.heap.size := by
    rintro b (h0 | ⟨m, k, hm, _⟩)
    · exact Nat.lt_of_lt_of_le (h.n0 b h0).1 h.below.size
    · exact (h.own m b k hm).2
  have hrun : ∀ {q : FuncId}, Callable P q → a.eval f = .func (.func q) #[] cvs.toArray → (Go.execOp a.eval ⟨d, .call ⟨.value f, ⟨xs⟩, us⟩, t, p, af, g⟩).run P w = .ok (.enter q (xs.map a.eval ++ cvs).toArray) w := by
    intro q hq hfv
    have : (Go.execOp a.eval ⟨d, .call ⟨.value f, ⟨xs⟩, us⟩, t, p, af, g⟩).run P w = (callFunc q (xs.map a.eval ++ cvs).toArray).run P w := by
      simp only [Go.execOp, resolve, hfv, Deferred.ofValue, Sem.run_bind, Sem.run_pure, Result.andThen_ok, invoke]
      congr 2
      apply Array.ext'
      simp
    rw [this]
    exact run_callFunc hq _ w
  split at hr
  · rename_i hfz
    split at hr
    · rename_i hfixed
      obtain ⟨bs, hb, hr⟩ := Option.bind_eq_some_iff.1 hr
      obtain ⟨r, hg, rfl⟩ := Option.map_eq_some_iff.1 hr
      obtain ⟨hcall, hA⟩ := hΓ.f q bs r hg
      right
      refine ⟨q, _, hrun hcall hfv, ?_⟩
      obtain ⟨hfr, hN⟩ := h.frozen hnd h2 (fun m hm hf => by
        rw [List.all_eq_true] at hfixed
        have := hfixed m hm
        rw [hfx] at hf; simp [hf] at this)
      have hvr := viewL_loc h hnd h2 hb hla
      refine Calls.mono (hA (locN N0 φ ρ) w _ hlocn hvr) ?_
      rintro e w' ⟨v, r', rfl, rfl, hrep, hgr⟩
      refine ⟨v, dropφ ρ φ, rfl, (hfr.grew hgr).put hd ?_, fun m _ hm => ?_⟩
      · refine Rep.mono (K := fun _ => True) (E := ⟨locN N0 φ ρ, [], w'⟩) ?_ _ _ hrep (fun _ _ => trivial)
        exact {
          size := Nat.le_refl _
          blk := fun b _ hn => ⟨fun h' => hn ((hN b).2 h'), rfl⟩
          refs := fun m o _ hm => by simp at hm
          own := fun m b k c e fr _ hm => by simp at hm }
      · rw [(dropφ_eq ρ φ).2.1 m (fun hρ => hlive m hρ hm)]; exact hm
    · simp at hr
  · obtain ⟨⟨r, H', S⟩, hg, hr⟩ := Option.bind_eq_some_iff.1 hr
    split at hr
    · rename_i hmv
      obtain rfl := Option.some.inj hr
      obtain ⟨hcall, hA⟩ := hΓ.hp q as' H₀ r H' S hg
      right
      refine ⟨q, _, hrun hcall hfv, ?_⟩
      refine Calls.mono (hA (locN N0 φ ρ) (locφ φ ρ) w _ hlocn hloc (fun i hi => ?_) hla) ?_
      · obtain ⟨m, _, hm, hφ⟩ := locφ_get' hlt hi
        exact hlive m hm hφ
      · rintro e w' ⟨v, φl, rfl, hrep, hrel, hT, hlen⟩
        obtain ⟨φ', hc', hk⟩ := h.turned hfx hnd h2 hrel hT hlen hmv hrep hd
        exact ⟨v, φ', rfl, hc', fun m _ hm => by rw [hk m (fun hρ => hlive m hρ hm) (List.getElem?_eq_some_iff.1 hm).1]; exact hm⟩
    · simp at hr
end
end Go.Abs
namespace Go.Abs
open Go.RowKit
section
variable {P : Program} {Γ : Tab} {N0 : Nat → Prop} {w0 : Base} {nt : Nat} {σ : St} {φ : List Own} {a : Act} {w : World}
theorem execOp_sound (hΓ : TabOK P Γ) (h : Conc N0 w0 nt σ φ a w) {o : Oper} (hd : ∀ t, o.dst = some t → t < nt) {n : Nat} (hfx : w0.fix = Γ.fix) (hfree : allocs P o.op = true → φ[n]? = some .free) {σ' : St}
    (hr : execOp P Γ n o.dst o.op σ = some σ') : GoodC P o a w N0 w0 nt φ n σ' := by
  obtain ⟨d, op, t, p, af, g⟩ := o
  simp only at hd hfree hr
  unfold execOp at hr
  split at hr
  · exact .inl (goodW_alloc h hd (hfree rfl) hr)
  · exact .inl (goodW_boxOp h hd (hfree rfl) hr)
  · exact .inl (goodW_store h hd hr)
  · exact .inl (goodW_conv h hd (fun hb => hfree (by simpa [allocs] using hb)) hr)
  · exact .inl (goodW_append h hd (hfree rfl) hfx hr)
  · exact .inl (goodW_clear h hd hr)
  · split at hr
    · exact goodC_callH hΓ h hfx hd hr
    · exact goodC_call hΓ h hd hr
  · cases he : evalR P σ op with
    | none => simp [he] at hr
    | some r =>
      simp [he] at hr
      subst hr
      exact .inl (goodW_of_good h hd (o := ⟨d, op, t, p, af, g⟩) (evalR_sound h he))
theorem nthD_eq : ∀ (os : List Oper) (j : Nat), nthD (dstsOf os) j = (os[j]?).bind (·.dst)
  | [], j => by simp [dstsOf, nthD]
  | o :: os, 0 => by simp [dstsOf, nthD]
  | o :: os, j + 1 => by simp [dstsOf, nthD, nthD_eq os j]
theorem wanted_sound (h : Conc N0 w0 nt σ φ a w) {ops : Array Oper} {o : Oper} {b : Bool} (hw : wantA (dstsOf ops.toList) σ o.guard = some b) : Region.wanted o (yielded ops a.tmps) = b := by
  unfold wantA at hw
  unfold Region.wanted
  split at hw
  · rename_i hg
    simp only [hg]
    simpa using hw
  · rename_i j want hg
    simp only [hg]
    rw [nthD_eq] at hw
    unfold yielded
    have hops : ops.toList[j]? = ops[j]? := by simp
    rw [hops] at hw
    cases hj : (ops[j]?).bind (·.dst) with
    | none => simp [hj] at hw ⊢; exact hw
    | some t =>
      rw [hj] at hw
      simp only [Option.bind_some] at hw ⊢
      have hs := h.slots t
      have hget : a.tmps.getD t undef = (a.tmps[t]?).getD undef := by simp
      rw [hget] at hs
      cases ht : look σ.s t <;> rw [ht] at hw hs <;> simp only at hw <;> try (simp at hw; done)
      case bool c =>
        simp only [Rep] at hs
        cases hq : a.tmps[t]? with
        | none => simp [hq, undef] at hs
        | some v =>
          simp [hq] at hs
          subst hs
          simp at hw ⊢
          exact hw
      all_goals
        have hb := Option.some.inj hw
        subst hb
        cases hq : a.tmps[t]? with
        | none => rfl
        | some v =>
          simp only [hq, Option.getD_some] at hs
          cases v <;> first
            | rfl
            | (exfalso
               simp only [Rep] at hs
               first
                 | (simp at hs; done)
                 | (rcases hs with ⟨_, _, _, _, _, _, hs⟩ | ⟨_, _, _, _, _, _, hs, _⟩ <;> simp at hs; done)
                 | (obtain ⟨_, hs, _⟩ := hs; simp at hs; done)
                 | (obtain ⟨_, _, hs, _⟩ := hs; simp at hs; done)
                 | (obtain ⟨_, _, _, hs, _⟩ := hs; simp at hs; done)
                 | (obtain ⟨_, _, _, hs⟩ := hs; simp at hs; done))
theorem exec1_sound (hΓ : TabOK P Γ) (h : Conc N0 w0 nt σ φ a w) {ops : Array Oper} {i : Nat} {o : Oper} (ho : ops[i]? = some o) (hd : ∀ t, o.dst = some t → t < nt) {n : Nat} (hfx : w0.fix = Γ.fix) (hfree : allocs P o.op = true → φ[n]? = some .free) {σ' : St}
    (hr : exec1 P Γ (dstsOf ops.toList) n o σ = some σ') {Q : Exit → Act → World → Prop} {K : Act → World → Prop}
    (hK : ∀ φ' a' w', Conc N0 w0 nt σ' φ' a' w' → (∀ m, m ≠ n → φ[m]? = some .free → φ'[m]? = some .free) → K a' w') : wpOp P ops Q i K a w := by
  unfold exec1 at hr
  unfold wpOp
  simp only [ho]
  cases hw : wantA (dstsOf ops.toList) σ o.guard with
  | none => simp [hw] at hr
  | some b =>
    rw [wanted_sound h hw]
    simp only [hw] at hr
    cases b with
    | false =>
      simp at hr
      subst hr
      simp only [Bool.false_eq_true, if_false]
      exact hK φ _ _ (h.put hd (rep_undef _)) (fun _ _ h => h)
    | true =>
      simp only [if_true] at hr ⊢
      left
      unfold Oper.wp
      rcases execOp_sound hΓ h hd hfx hfree hr with ⟨v, w', φ', hrun, hc, hf⟩ | ⟨f, args, hrun, hcalls⟩
      · rcases hrun with hrun | ⟨hrun, rfl⟩
        · rw [hrun]; exact hK φ' _ _ hc hf
        · rw [hrun]; exact hK φ' _ _ hc hf
      · rw [hrun]
        simp only [Oper.upon]
        refine Calls.mono hcalls ?_
        rintro e w' ⟨v, φ', rfl, hc, hf⟩
        exact hK φ' _ _ hc hf
end
end Go.Abs
namespace Go.Abs
open Go.RowKit
def ann (P : Program) : Nat → Nat → List Oper → List (Nat × Nat × Oper)
  | _, _, [] => []
  | n, i, o :: os => (n, i, o) :: ann P (nxt P o.op n) (i + 1) os
def runL (P : Program) (Γ : Tab) (ds : List (Option Tmp)) : List (Nat × Nat × Oper) → St → Option St
  | [], σ => some σ
  | x :: xs, σ => (exec1 P Γ ds x.1 x.2.2 σ).bind (runL P Γ ds xs)
theorem runSeq_runL (P : Program) (Γ : Tab) (ds : List (Option Tmp)) : ∀ (os : List Oper) (n i : Nat) (σ : St), runSeq P Γ ds os n σ = runL P Γ ds (ann P n i os) σ
  | [], _, _, _ => rfl
  | o :: os, n, i, σ => by
    simp only [runSeq, ann, runL]
    congr 1
    funext τ
    exact runSeq_runL P Γ ds os _ (i + 1) τ
theorem nxt_le (P : Program) (op : Op) (n : Nat) : n ≤ nxt P op n := by unfold nxt; split <;> omega
theorem ann_mem (P : Program) : ∀ (os : List Oper) (n i : Nat) (x : Nat × Nat × Oper), x ∈ ann P n i os → n ≤ x.1 ∧ i ≤ x.2.1 ∧ os[x.2.1 - i]? = some x.2.2
  | [], _, _, x, h => by simp [ann] at h
  | o :: os, n, i, x, h => by
    simp only [ann, List.mem_cons] at h
    rcases h with rfl | h
    · simp
    · obtain ⟨h1, h2, h3⟩ := ann_mem P os _ _ x h
      have := nxt_le P o.op n
      refine ⟨by omega, by omega, ?_⟩
      rw [show x.2.1 - i = (x.2.1 - (i + 1)) + 1 by omega]
      simpa using h3
theorem ann_pair (P : Program) : ∀ (os : List Oper) (n i : Nat), (ann P n i os).Pairwise (fun x y => x.2.1 < y.2.1 ∧ (allocs P x.2.2.op = true → x.1 < y.1))
  | [], _, _ => by simp [ann]
  | o :: os, n, i => by
    simp only [ann, List.pairwise_cons]
    refine ⟨fun y hy => ?_, ann_pair P os _ _⟩
    obtain ⟨h1, h2, _⟩ := ann_mem P os _ _ y hy
    refine ⟨by show i < y.2.1; omega, fun ha => ?_⟩
    have ha' : allocs P o.op = true := ha
    simp only [nxt, ha', if_true] at h1
    show n < y.1
    omega
theorem ann_idx (P : Program) : ∀ (os : List Oper) (n i : Nat), (ann P n i os).map (·.2.1) = (List.range os.length).map (i + ·)
  | [], _, _ => by simp [ann]
  | o :: os, n, i => by
    simp only [ann, List.map_cons, List.length_cons, List.range_succ_eq_map, List.map_map]
    rw [ann_idx P os]
    simp
    intro a _
    omega
def simS (σ τ : St) : Prop := (∀ d, look σ.s d = look τ.s d) ∧ σ.H = τ.H
theorem simS.refl (σ : St) : simS σ σ := ⟨fun _ => rfl, rfl⟩
theorem simS.symm {σ τ : St} (h : simS σ τ) : simS τ σ := ⟨fun d => (h.1 d).symm, h.2.symm⟩
theorem simS.trans {σ τ ρ : St} (h : simS σ τ) (h' : simS τ ρ) : simS σ ρ := ⟨fun d => (h.1 d).trans (h'.1 d), h.2.trans h'.2⟩
theorem simS.put {σ τ : St} (h : simS σ τ) (d : Option Tmp) (v : A) : simS (σ.put d v) (τ.put d v) := by
  cases d with
  | none => exact h
  | some d => exact ⟨fun t => by simp only [St.put, look]; split <;> first | rfl | exact h.1 t, h.2⟩
theorem simS.setH {σ τ : St} (h : simS σ τ) (n : Nat) (o : Obj) : simS (σ.setH n o) (τ.setH n o) := ⟨h.1, by simp only [St.setH, h.2]⟩
theorem simS.scrub {σ τ : St} (h : simS σ τ) (n : Nat) : simS (σ.scrub n) (τ.scrub n) :=
  ⟨fun d => by
    show look (σ.s.map fun p => (p.1, scrubA n p.2)) d = look (τ.s.map fun p => (p.1, scrubA n p.2)) d
    rw [look_map, look_map, h.1 d], by simp only [St.scrub, h.2]⟩
theorem simS.ev {σ τ : St} (h : simS σ τ) (x : Operand) : σ.ev x = τ.ev x := by
  cases x <;> simp only [St.ev]
  exact h.1 _
section
variable {P : Program} {Γ : Tab} {σ τ : St}
theorem evL_congr : ∀ {xs : List Operand}, (∀ x ∈ xs, σ.ev x = τ.ev x) → σ.evL xs = τ.evL xs
  | [], _ => rfl
  | x :: xs, h => by simp only [St.evL]; rw [h x (by simp), evL_congr (xs := xs) fun y hy => h y (by simp [hy])]
theorem bd_congr {o : Option Operand} (h : ∀ x, o = some x → σ.ev x = τ.ev x) : σ.bd o = τ.bd o := by
  cases o with
  | none => rfl
  | some x => simp only [St.bd]; rw [h x rfl]
theorem fillS_congr {t : TypeId} : ∀ {ps : List (Nat × Operand)} {zs : List A}, (∀ p ∈ ps, σ.ev p.2 = τ.ev p.2) → fillS P t σ ps zs = fillS P t τ ps zs
  | [], _, _ => rfl
  | (i, x) :: ps, zs, h => by
    simp only [fillS]
    rw [show σ.ev x = τ.ev x from h (i, x) (by simp)]
    split
    · congr 1
      funext zs'
      exact fillS_congr fun p hp => h p (by simp [hp])
    · rfl
theorem fillA_congr {t : TypeId} : ∀ {ps : List (Nat × Operand)} {zs : List A}, (∀ p ∈ ps, σ.ev p.2 = τ.ev p.2) → fillA P t σ ps zs = fillA P t τ ps zs
  | [], _, _ => rfl
  | (i, x) :: ps, zs, h => by
    simp only [fillA]
    rw [show σ.ev x = τ.ev x from h (i, x) (by simp)]
    split
    · congr 1
      funext zs'
      exact fillA_congr fun p hp => h p (by simp [hp])
    · rfl
theorem fillE_congr {k : Nat} : ∀ {ps : List (Nat × Operand)} {zs : List A}, (∀ p ∈ ps, σ.ev p.2 = τ.ev p.2) → fillE k σ ps zs = fillE k τ ps zs
  | [], _, _ => rfl
  | (i, x) :: ps, zs, h => by
    simp only [fillE]
    rw [show σ.ev x = τ.ev x from h (i, x) (by simp)]
    split
    · exact fillE_congr fun p hp => h p (by simp [hp])
    · rfl
theorem evalR_congr {op : Op} (hH : σ.H = τ.H) (h : ∀ x ∈ op.operands, σ.ev x = τ.ev x) : evalR P σ op = evalR P τ op := by
  unfold evalR
  split <;> simp only [Op.operands] at h
  · rw [h _ (by simp)]
  · rw [h _ (by simp)]
  · rw [h _ (by simp), h _ (by simp), h _ (by simp)]
  · rename_i t ps
    have hp : ∀ p ∈ ps.toList, σ.ev p.2 = τ.ev p.2 := fun p hp => h p.2 (by simp only [List.mem_toArray, List.mem_map]; exact ⟨p, hp, rfl⟩)
    unfold buildA
    split
    · split
      · rw [fillA_congr hp]
      · rw [fillS_congr hp]
    · rfl
  · rename_i t len ps
    have hp : ∀ p ∈ ps.toList, σ.ev p.2 = τ.ev p.2 := fun p hp => h p.2 (by simp only [List.mem_toArray, List.mem_map]; exact ⟨p, hp, rfl⟩)
    unfold buildSliceA
    split
    · split
      · rw [fillE_congr hp]
      · rfl
    · rfl
  · rw [hH, h _ (by simp)]
  · rw [h _ (by simp)]
  · rw [h _ (by simp), h _ (by simp)]
  · rw [h _ (by simp)]
  · rw [hH, h _ (by simp)]
  · rename_i fn first captured
    rw [evL_congr (xs := first.toList) fun x hx => h x (by simp at hx; simp [hx]), evL_congr (xs := captured.toList) fun x hx => h x (by simp at hx; simp [hx])]
  · rename_i t x lo hi mx
    rw [h x (by simp), bd_congr (o := lo) fun y hy => h y (by subst hy; simp), bd_congr (o := hi) fun y hy => h y (by subst hy; simp), bd_congr (o := mx) fun y hy => h y (by subst hy; simp)]
  · rw [h _ (by simp)]
  · rw [h _ (by simp)]
  · rw [h _ (by simp), h _ (by simp)]
  · rw [h _ (by simp), h _ (by simp)]
  · rw [h _ (by simp)]
  · rw [h _ (by simp [Call.operands])]
  · rw [evL_congr fun x hx => h x (by simp [Call.operands, hx])]
  · rw [evL_congr fun x hx => h x (by simp [Call.operands, hx])]
  · rfl
def plainOp (P : Program) (Γ : Tab) : Op → Bool
  | .alloc _ => false
  | .box _ _ => false
  | .store _ _ _ => false
  | .convert src dst _ => !isS2B P src dst
  | .call ⟨.builtin .append, _, _⟩ => false
  | .call ⟨.builtin .clear, _, _⟩ => false
  | .call ⟨.value f, _, _⟩ => !isEff Γ f
  | _ => true
def callW (Γ : Tab) (H : List Obj) (f : A) (aq : List A) : Option A :=
  match f with
  | .fn g caps => (viewL H (aq ++ caps)).bind fun bs => (Γ.f g bs).bind fun r => if (A.pure.pureL (aq ++ caps) || r.flat) = true then some r else none
  | _ => none
def valX (P : Program) (Γ : Tab) (σ : St) (op : Op) : Option A :=
  match op with
  | .call ⟨.value f, ⟨xs⟩, _⟩ => callW Γ σ.H (σ.ev f) (σ.evL xs)
  | op => evalR P σ op
theorem callV_eq {d : Option Tmp} {f : A} {aq : List A} : callV Γ σ d f aq = (callW Γ σ.H f aq).map (σ.put d) := by
  cases f <;> simp only [callV, callW, callX, Option.map_none]
  rename_i g caps
  cases viewL σ.H (aq ++ caps) with
  | none => rfl
  | some bs =>
    simp only [Option.bind_some]
    cases Γ.f g bs with
    | none => rfl
    | some r => simp only [Option.bind_some]; split <;> rfl
theorem execOp_plain {n : Nat} {d : Option Tmp} {op : Op} (h : plainOp P Γ op = true) : execOp P Γ n d op σ = (valX P Γ σ op).map (σ.put d) := by
  unfold execOp
  split
  · simp [plainOp] at h
  · simp [plainOp] at h
  · simp [plainOp] at h
  · rename_i src dst x
    simp only [plainOp, Bool.not_eq_true'] at h
    simp only [convX, h, Bool.false_eq_true, if_false, valX, evalR]
  · simp [plainOp] at h
  · simp [plainOp] at h
  · rename_i f xs us
    have hf : isEff Γ f = false := by simpa [plainOp] using h
    rw [if_neg (by simp [hf])]
    exact callV_eq
  · rename_i h1 h2 h3 h4 h5 h5' h6
    unfold valX
    split
    · rename_i f xs us
      exact absurd rfl (h6 f xs us)
    · rfl
theorem valX_congr {op : Op} (hH : σ.H = τ.H) (h : ∀ x ∈ op.operands, σ.ev x = τ.ev x) : valX P Γ σ op = valX P Γ τ op := by
  unfold valX
  split
  · simp only [Op.operands] at h
    rw [hH, h _ (by simp [Call.operands]), evL_congr fun x hx => h x (by simp [Call.operands, hx])]
  · exact evalR_congr hH h
theorem wantA_congr {ops : Array Oper} {o : Oper} (h : ∀ t ∈ o.looksAt ops, look σ.s t = look τ.s t) : wantA (dstsOf ops.toList) σ o.guard = wantA (dstsOf ops.toList) τ o.guard := by
  unfold wantA
  split
  · rfl
  · rename_i j want hg
    rw [nthD_eq]
    have hops : ops.toList[j]? = ops[j]? := by simp
    rw [hops]
    cases hj : (ops[j]?).bind (·.dst) with
    | none => rfl
    | some t =>
      simp only
      rw [h t (by simp [Oper.looksAt, hg, hj])]
theorem ev_looks {ops : Array Oper} {o : Oper} (h : ∀ t ∈ o.looksAt ops, look σ.s t = look τ.s t) : ∀ x ∈ o.op.operands, σ.ev x = τ.ev x := fun x hx => by
  cases x <;> simp only [St.ev]
  rename_i t
  exact h t (List.mem_append_left _ (List.mem_filterMap.2 ⟨.tmp t, by simpa using hx, rfl⟩))
def val1 (P : Program) (Γ : Tab) (ds : List (Option Tmp)) (o : Oper) (σ : St) : Option A :=
  match wantA ds σ o.guard with
  | none => none
  | some true => valX P Γ σ o.op
  | some false => some (.tup [])
theorem exec1_plainR {ds : List (Option Tmp)} {n : Nat} {o : Oper} (h : plainOp P Γ o.op = true) : exec1 P Γ ds n o σ = (val1 P Γ ds o σ).map (σ.put o.dst) := by
  unfold exec1 val1
  cases wantA ds σ o.guard with
  | none => rfl
  | some b =>
    cases b with
    | true => simp only [if_true]; exact execOp_plain h
    | false => rfl
theorem val1_congr {ops : Array Oper} {o : Oper} (hH : σ.H = τ.H) (h : ∀ t ∈ o.looksAt ops, look σ.s t = look τ.s t) : val1 P Γ (dstsOf ops.toList) o σ = val1 P Γ (dstsOf ops.toList) o τ := by
  unfold val1
  rw [wantA_congr h, valX_congr hH (ev_looks h)]
theorem put_H (d : Option Tmp) (v : A) : (σ.put d v).H = σ.H := by cases d <;> rfl
theorem look_put {d : Option Tmp} {v : A} {t : Tmp} (h : ∀ e, d = some e → e ≠ t) : look (σ.put d v).s t = look σ.s t := by
  cases d with
  | none => rfl
  | some e => simp only [St.put, look]; rw [if_neg (h e rfl)]
theorem put_comm {x y : Option Tmp} {v u : A} (h : ∀ d, x = some d → y ≠ some d) : simS ((σ.put x v).put y u) ((σ.put y u).put x v) := by
  cases x with
  | none => exact simS.refl _
  | some d =>
    cases y with
    | none => exact simS.refl _
    | some e =>
      have hne : d ≠ e := fun he => h d rfl (he ▸ rfl)
      refine ⟨fun t => ?_, rfl⟩
      simp only [St.put, look]
      by_cases h1 : e = t
      · subst h1; simp [hne]
      · simp [h1]
theorem swap1 {ops : Array Oper} {n m : Nat} {y x : Oper} (hy : plainOp P Γ y.op = true) (hx : plainOp P Γ x.op = true) (hap : y.apart ops x = true) {σ1 σ2 : St}
    (h1 : exec1 P Γ (dstsOf ops.toList) n y σ = some σ1) (h2 : exec1 P Γ (dstsOf ops.toList) m x σ1 = some σ2) :
    ∃ σ1' σ2', exec1 P Γ (dstsOf ops.toList) m x σ = some σ1' ∧ exec1 P Γ (dstsOf ops.toList) n y σ1' = some σ2' ∧ simS σ2 σ2' := by
  obtain ⟨a1, a2, a3⟩ := Oper.apart_spec hap
  rw [exec1_plainR hy] at h1
  rw [exec1_plainR hx] at h2
  cases hv : val1 P Γ (dstsOf ops.toList) y σ with
  | none => simp [hv] at h1
  | some v =>
    simp [hv] at h1
    subst h1
    cases hu : val1 P Γ (dstsOf ops.toList) x (σ.put y.dst v) with
    | none => simp [hu] at h2
    | some u =>
      simp [hu] at h2
      subst h2
      have hu' : val1 P Γ (dstsOf ops.toList) x σ = some u := by
        rw [← hu]
        exact val1_congr (put_H _ _).symm fun t ht => (look_put fun e he e' => a1 e he (e' ▸ ht)).symm
      have hv' : val1 P Γ (dstsOf ops.toList) y (σ.put x.dst u) = some v := by
        rw [← hv]
        exact val1_congr (put_H _ _) fun t ht => look_put fun e he e' => a3 e he (e' ▸ ht)
      refine ⟨σ.put x.dst u, (σ.put x.dst u).put y.dst v, by rw [exec1_plainR hx, hu']; rfl, by rw [exec1_plainR hy, hv']; rfl, ?_⟩
      exact put_comm a2
theorem scrubs_sim {ρ : List Nat} {m : Nat} : ∀ {S : List Nat} {σ τ : St}, simS σ τ → simS (scrubs ρ m σ S) (scrubs ρ m τ S)
  | [], _, _, h => h
  | i :: is, _, _, h => by simp only [scrubs]; exact scrubs_sim (h.scrub _)
theorem callHV_sim (hs : simS σ τ) {d : Option Tmp} {f : A} {aq : List A} {σ' : St} (h : callHV Γ σ d f aq = some σ') : ∃ τ', callHV Γ τ d f aq = some τ' ∧ simS σ' τ' := by
  cases f <;> simp only [callHV] at h ⊢ <;> try (simp at h; done)
  unfold callH callH1 at h ⊢
  rw [← hs.2]
  generalize reach σ.H 64 _ [] = ρ at h ⊢
  obtain ⟨as', h1, h⟩ := Option.bind_eq_some_iff.1 h
  obtain ⟨H₀, h2, h⟩ := Option.bind_eq_some_iff.1 h
  simp only [h1, h2, Option.bind_some]
  split at h
  · rename_i hfz
    rw [if_pos hfz]
    split at h
    · rename_i hfx
      rw [if_pos hfx]
      obtain ⟨bs, h3, h⟩ := Option.bind_eq_some_iff.1 h
      obtain ⟨r, h4, rfl⟩ := Option.map_eq_some_iff.1 h
      simp only [h3, Option.bind_some, h4, Option.map_some, Option.some.injEq]
      refine ⟨_, rfl, ?_⟩
      unfold callF2
      refine simS.put ⟨fun t => ?_, by simp only [hs.2]⟩ d r
      show look (σ.s.map fun p => (p.1, frzA ρ H₀ p.2)) t = look (τ.s.map fun p => (p.1, frzA ρ H₀ p.2)) t
      rw [look_frz, look_frz, hs.1 t]
    · simp at h
  · rename_i hfz
    rw [if_neg hfz]
    obtain ⟨⟨r, H', S⟩, h3, h⟩ := Option.bind_eq_some_iff.1 h
    simp only [h3, Option.bind_some]
    split at h
    · rename_i hm
      rw [if_pos hm]
      obtain rfl := Option.some.inj h
      refine ⟨_, rfl, ?_⟩
      unfold callH2
      have e := scrubs_sim (ρ := ρ) (m := σ.H.length) (S := S) hs
      show simS (St.put ⟨(scrubs ρ σ.H.length σ S).s, backH ρ σ.H.length ρ H' (scrubs ρ σ.H.length σ S).H⟩ d (r.back ρ σ.H.length))
        (St.put ⟨(scrubs ρ τ.H.length τ S).s, backH ρ τ.H.length ρ H' (scrubs ρ τ.H.length τ S).H⟩ d (r.back ρ τ.H.length))
      rw [show r.back ρ τ.H.length = r.back ρ σ.H.length by rw [hs.2]]
      refine simS.put ⟨fun t => ?_, ?_⟩ d _
      · show look (scrubs ρ σ.H.length σ S).s t = look (scrubs ρ τ.H.length τ S).s t
        rw [← hs.2]; exact e.1 t
      · show backH ρ σ.H.length ρ H' (scrubs ρ σ.H.length σ S).H = backH ρ τ.H.length ρ H' (scrubs ρ τ.H.length τ S).H
        rw [← hs.2, e.2]
    · simp at h
def allocOp : Op → Bool
  | .alloc _ => true
  | .box _ _ => true
  | _ => false
def alloc1 (P : Program) (ds : List (Option Tmp)) (n : Nat) (o : Oper) (σ : St) : Option (Option Obj × A) :=
  match wantA ds σ o.guard with
  | none => none
  | some false => some (none, .tup [])
  | some true =>
    match o.op with
    | .alloc t => (zeroA P t).bind fun z => if z.val = true then some (some (.box z.cells), .ref n 0) else none
    | .box _ x => if (σ.ev x).val = true then some (some (.box (σ.ev x).cells), .ref n 0) else none
    | _ => none
def layO (σ : St) (n : Nat) : Option Obj → St
  | some o => σ.setH n o
  | none => σ
theorem exec1_allocR {ds : List (Option Tmp)} {n : Nat} {o : Oper} (h : allocOp o.op = true) : exec1 P Γ ds n o σ = (alloc1 P ds n o σ).map fun x => (layO σ n x.1).put o.dst x.2 := by
  unfold exec1 alloc1
  cases wantA ds σ o.guard with
  | none => rfl
  | some b =>
    cases b with
    | false => rfl
    | true =>
      simp only [if_true]
      cases ho : o.op <;> rw [ho] at h <;> simp [allocOp] at h
      · simp only [execOp]
        cases zeroA P _ with
        | none => rfl
        | some z => simp only [allocA, boxA, Option.bind_some]; split <;> rfl
      · simp only [execOp, boxA]; split <;> rfl
theorem alloc1_congr {ops : Array Oper} {n : Nat} {o : Oper} (h : ∀ t ∈ o.looksAt ops, look σ.s t = look τ.s t) : alloc1 P (dstsOf ops.toList) n o σ = alloc1 P (dstsOf ops.toList) n o τ := by
  unfold alloc1
  rw [wantA_congr h]
  cases wantA (dstsOf ops.toList) τ o.guard with
  | none => rfl
  | some b =>
    cases b with
    | false => rfl
    | true =>
      simp only
      cases ho : o.op <;> try rfl
      rename_i t x
      have := ev_looks h x (by rw [ho]; simp [Op.operands])
      simp only [this]
def More (H H' : List Obj) (n : Nat) : Prop := nthO H n = some (.row 0 []) ∧ ∀ m, m ≠ n → nthO H' m = nthO H m
theorem More.lay {H : List Obj} {n : Nat} (h : nthO H n = some (.row 0 [])) (o : Obj) : More H (setO H n o) n :=
  ⟨h, fun m hm => by rw [setO_eq, nthO_eq, nthO_eq, List.getElem?_set_ne (Ne.symm hm)]⟩
section
variable {H H' : List Obj} {n : Nat}
theorem viewRow_more (h : More H H' n) {m off k len : Nat} {y : A} (hv : viewRow H m off k len = some y) : viewRow H' m off k len = some y := by
  by_cases hm : m = n
  · subst hm
    unfold viewRow at hv
    rw [h.1] at hv
    simp only at hv
    split at hv
    · rename_i hc; omega
    · cases hv
  · unfold viewRow at hv ⊢
    rw [h.2 m hm]; exact hv
theorem view0_more (h : More H H' n) {x y : A} (hv : view0 H x = some y) : view0 H' x = some y := by
  cases x <;> simp only [view0] at hv ⊢ <;> first | exact hv | exact viewRow_more h hv
theorem view0L_more (h : More H H' n) : ∀ {xs ys : List A}, view0L H xs = some ys → view0L H' xs = some ys
  | [], _, hv => by simpa only [view0L] using hv
  | x :: xs, ys, hv => by
    simp only [view0L] at hv ⊢
    obtain ⟨y, h1, hv⟩ := Option.bind_eq_some_iff.1 hv
    obtain ⟨zs, h2, rfl⟩ := Option.map_eq_some_iff.1 hv
    rw [view0_more h h1, view0L_more h h2]; rfl
theorem view1_more (h : More H H' n) {x y : A} (hv : view1 H x = some y) : view1 H' x = some y := by
  cases x <;> simp only [view1] at hv ⊢ <;> try exact view0_more h hv
  · obtain ⟨zs, h2, rfl⟩ := Option.map_eq_some_iff.1 hv
    rw [view0L_more h h2]; rfl
  · rename_i m off
    by_cases hm : m = n
    · subst hm; rw [h.1] at hv; cases hv
    · rw [h.2 m hm]
      split at hv
      · obtain ⟨zs, h2, rfl⟩ := Option.map_eq_some_iff.1 hv
        simp only [view0L_more h h2]; rfl
      · cases hv
  · rename_i m i off
    by_cases hm : m = n
    · subst hm; rw [h.1] at hv; simp at hv
    · rw [h.2 m hm]; exact hv
theorem view1L_more (h : More H H' n) : ∀ {xs ys : List A}, view1L H xs = some ys → view1L H' xs = some ys
  | [], _, hv => by simpa only [view1L] using hv
  | x :: xs, ys, hv => by
    simp only [view1L] at hv ⊢
    obtain ⟨y, h1, hv⟩ := Option.bind_eq_some_iff.1 hv
    obtain ⟨zs, h2, rfl⟩ := Option.map_eq_some_iff.1 hv
    rw [view1_more h h1, view1L_more h h2]; rfl
theorem view_more (h : More H H' n) {x y : A} (hv : view H x = some y) : view H' x = some y := by
  cases x <;> simp only [view] at hv ⊢ <;> try exact view1_more h hv
  obtain ⟨zs, h2, rfl⟩ := Option.map_eq_some_iff.1 hv
  rw [view1L_more h h2]; rfl
theorem viewL_more (h : More H H' n) : ∀ {xs ys : List A}, viewL H xs = some ys → viewL H' xs = some ys
  | [], _, hv => by simpa only [viewL] using hv
  | x :: xs, ys, hv => by
    simp only [viewL] at hv ⊢
    obtain ⟨y, h1, hv⟩ := Option.bind_eq_some_iff.1 hv
    obtain ⟨zs, h2, rfl⟩ := Option.map_eq_some_iff.1 hv
    rw [view_more h h1, viewL_more h h2]; rfl
theorem loadA_more (h : More H H' n) {t : TypeId} {x y : A} (hv : loadA P t H x = some y) : loadA P t H' x = some y := by
  unfold loadA at hv ⊢
  split at hv
  · exact hv
  · rename_i m off
    by_cases hm : m = n
    · subst hm; rw [h.1] at hv; simp at hv
    · simp only [h.2 m hm]; exact hv
  · rename_i m i off
    by_cases hm : m = n
    · subst hm; rw [h.1] at hv; simp at hv
    · simp only [h.2 m hm]; exact hv
  · cases hv
theorem convB_more (h : More H H' n) {b : Bool} {x y : A} (hv : convB b (view H x) = some y) : convB b (view H' x) = some y := by
  cases hx : view H x with
  | none => rw [hx] at hv; cases b <;> simp [convB] at hv
  | some z => rw [hx] at hv; rw [view_more h hx]; exact hv
theorem convA_more (h : More H H' n) {s d : TypeId} {x y : A} (hv : convA P s d H x = some y) : convA P s d H' x = some y := by
  cases x <;> simp only [convA] at hv ⊢ <;> first | exact hv | exact convB_more h hv
theorem valX_more (h : More H H' n) {s : List (Nat × A)} {op : Op} {y : A} (hv : valX P Γ ⟨s, H⟩ op = some y) : valX P Γ ⟨s, H'⟩ op = some y := by
  have hev : ∀ x : Operand, (St.mk s H').ev x = (St.mk s H).ev x := fun x => by cases x <;> rfl
  have hevL : ∀ xs : List Operand, (St.mk s H').evL xs = (St.mk s H).evL xs := fun xs => evL_congr fun x _ => hev x
  have hbd : ∀ x : Option Operand, (St.mk s H').bd x = (St.mk s H).bd x := fun x => bd_congr fun y _ => hev y
  have hfS : ∀ (t : TypeId) (ps : List (Nat × Operand)) (zs : List A), fillS P t ⟨s, H'⟩ ps zs = fillS P t ⟨s, H⟩ ps zs := fun t ps zs => fillS_congr fun p _ => hev p.2
  have hfA : ∀ (t : TypeId) (ps : List (Nat × Operand)) (zs : List A), fillA P t ⟨s, H'⟩ ps zs = fillA P t ⟨s, H⟩ ps zs := fun t ps zs => fillA_congr fun p _ => hev p.2
  have hfE : ∀ (k : Nat) (ps : List (Nat × Operand)) (zs : List A), fillE k ⟨s, H'⟩ ps zs = fillE k ⟨s, H⟩ ps zs := fun k ps zs => fillE_congr fun p _ => hev p.2
  unfold valX at hv ⊢
  split at hv
  · simp only [hev, hevL]
    unfold callW at hv ⊢
    split at hv
    · rename_i g caps hf
      obtain ⟨bs, h1, hv⟩ := Option.bind_eq_some_iff.1 hv
      simp only [viewL_more h h1, Option.bind_some]
      exact hv
    · cases hv
  · unfold evalR at hv ⊢
    split at hv <;> (try simp only [hev, hevL, hbd, buildA, buildSliceA, hfS, hfA, hfE] at hv ⊢) <;> first
      | exact hv
      | exact loadA_more h hv
      | exact convA_more h hv
end
theorem val1_more {n : Nat} {H' : List Obj} (h : More σ.H H' n) {ops : Array Oper} {o : Oper} {y : A} (hv : val1 P Γ (dstsOf ops.toList) o σ = some y) : val1 P Γ (dstsOf ops.toList) o ⟨σ.s, H'⟩ = some y := by
  unfold val1 at hv ⊢
  rw [wantA_congr (σ := ⟨σ.s, H'⟩) (τ := σ) (ops := ops) (o := o) fun t _ => rfl]
  cases hw : wantA (dstsOf ops.toList) σ o.guard with
  | none => rw [hw] at hv; cases hv
  | some b =>
    rw [hw] at hv
    cases b with
    | false => exact hv
    | true => exact valX_more (P := P) (Γ := Γ) h (s := σ.s) hv
theorem layO_s (n : Nat) (o : Option Obj) : (layO σ n o).s = σ.s := by cases o <;> rfl
theorem layO_put (n : Nat) (o : Option Obj) (d : Option Tmp) (v : A) : layO (σ.put d v) n o = (layO σ n o).put d v := by cases o <;> cases d <;> rfl
theorem swapA {ops : Array Oper} {n m : Nat} {y x : Oper} (hy : plainOp P Γ y.op = true) (hx : allocOp x.op = true) (hap : y.apart ops x = true) (hn : nthO σ.H m = some (.row 0 [])) {σ1 σ2 : St}
    (h1 : exec1 P Γ (dstsOf ops.toList) n y σ = some σ1) (h2 : exec1 P Γ (dstsOf ops.toList) m x σ1 = some σ2) :
    ∃ σ1' σ2', exec1 P Γ (dstsOf ops.toList) m x σ = some σ1' ∧ exec1 P Γ (dstsOf ops.toList) n y σ1' = some σ2' ∧ simS σ2 σ2' := by
  obtain ⟨a1, a2, a3⟩ := Oper.apart_spec hap
  rw [exec1_plainR hy] at h1
  rw [exec1_allocR hx] at h2
  obtain ⟨v, hv, rfl⟩ := Option.map_eq_some_iff.1 h1
  obtain ⟨⟨o, u⟩, hu, rfl⟩ := Option.map_eq_some_iff.1 h2
  have hu' : alloc1 P (dstsOf ops.toList) m x σ = some (o, u) := by
    rw [← hu]
    exact alloc1_congr fun t ht => (look_put fun e he e' => a1 e he (e' ▸ ht)).symm
  have hv1 : val1 P Γ (dstsOf ops.toList) y (layO σ m o) = some v := by
    cases o with
    | none => exact hv
    | some o => exact val1_more (P := P) (Γ := Γ) (n := m) (More.lay hn o) hv
  have hv' : val1 P Γ (dstsOf ops.toList) y ((layO σ m o).put x.dst u) = some v := by
    rw [← hv1]
    exact val1_congr (put_H _ _) fun t ht => look_put fun e he e' => a3 e he (e' ▸ ht)
  refine ⟨(layO σ m o).put x.dst u, ((layO σ m o).put x.dst u).put y.dst v, by rw [exec1_allocR hx, hu']; rfl, by rw [exec1_plainR hy, hv']; rfl, ?_⟩
  simp only [layO_put]
  exact put_comm a2
theorem swapAA {ops : Array Oper} {n m : Nat} {y x : Oper} (hy : allocOp y.op = true) (hx : allocOp x.op = true) (hap : y.apart ops x = true) (hne : n ≠ m) {σ1 σ2 : St}
    (h1 : exec1 P Γ (dstsOf ops.toList) n y σ = some σ1) (h2 : exec1 P Γ (dstsOf ops.toList) m x σ1 = some σ2) :
    ∃ σ1' σ2', exec1 P Γ (dstsOf ops.toList) m x σ = some σ1' ∧ exec1 P Γ (dstsOf ops.toList) n y σ1' = some σ2' ∧ simS σ2 σ2' := by
  obtain ⟨a1, a2, a3⟩ := Oper.apart_spec hap
  rw [exec1_allocR hy] at h1
  rw [exec1_allocR hx] at h2
  obtain ⟨⟨p, v⟩, hv, rfl⟩ := Option.map_eq_some_iff.1 h1
  obtain ⟨⟨o, u⟩, hu, rfl⟩ := Option.map_eq_some_iff.1 h2
  have hu' : alloc1 P (dstsOf ops.toList) m x σ = some (o, u) := by
    rw [← hu]
    refine alloc1_congr fun t ht => ?_
    rw [look_put fun e he e' => a1 e he (e' ▸ ht), layO_s]
  have hv' : alloc1 P (dstsOf ops.toList) n y ((layO σ m o).put x.dst u) = some (p, v) := by
    rw [← hv]
    refine alloc1_congr fun t ht => ?_
    rw [look_put fun e he e' => a3 e he (e' ▸ ht), layO_s]
  refine ⟨(layO σ m o).put x.dst u, (layO ((layO σ m o).put x.dst u) n p).put y.dst v, by rw [exec1_allocR hx, hu']; rfl, by rw [exec1_allocR hy, hv']; rfl, ?_⟩
  simp only [layO_put]
  have hc : layO (layO σ m o) n p = layO (layO σ n p) m o := by
    cases o <;> cases p <;> try rfl
    simp only [layO, St.setH, setO_eq]
    rw [List.set_comm _ _ (Ne.symm hne)]
  rw [hc]
  exact put_comm a2
theorem exec1_allocH {ds : List (Option Tmp)} {n m : Nat} {o : Oper} (h : allocOp o.op = true) (hne : n ≠ m) {σ' : St} (hr : exec1 P Γ ds n o σ = some σ') : nthO σ'.H m = nthO σ.H m := by
  rw [exec1_allocR h] at hr
  obtain ⟨⟨p, v⟩, _, rfl⟩ := Option.map_eq_some_iff.1 hr
  rw [put_H]
  cases p with
  | none => rfl
  | some p => simp only [layO, St.setH, setO_eq, nthO_eq]; rw [List.getElem?_set_ne hne]
def hless : Op → Bool
  | .alloc _ => false
  | .box _ _ => false
  | .store _ _ _ => false
  | .convert _ _ _ => false
  | .load _ _ => false
  | .call ⟨.builtin .append, _, _⟩ => false
  | .call ⟨.builtin .clear, _, _⟩ => false
  | .call ⟨.value _, _, _⟩ => false
  | _ => true
theorem hless_plain {op : Op} (h : hless op = true) : plainOp P Γ op = true := by
  unfold hless at h
  unfold plainOp
  split at h <;> simp_all
theorem valX_hless {op : Op} (hl : hless op = true) (h : ∀ x ∈ op.operands, σ.ev x = τ.ev x) : valX P Γ σ op = valX P Γ τ op := by
  have h1 : valX P Γ ⟨σ.s, τ.H⟩ op = valX P Γ τ op := valX_congr rfl fun x hx => by rw [← h x hx]; cases x <;> rfl
  rw [← h1]
  unfold valX
  split
  · simp [hless] at hl
  · unfold evalR
    have hev : ∀ x : Operand, (St.mk σ.s τ.H).ev x = σ.ev x := fun x => by cases x <;> rfl
    have hevL : ∀ xs : List Operand, (St.mk σ.s τ.H).evL xs = σ.evL xs := fun xs => evL_congr fun x _ => hev x
    have hbd : ∀ x : Option Operand, (St.mk σ.s τ.H).bd x = σ.bd x := fun x => bd_congr fun y _ => hev y
    have hfS : ∀ (t : TypeId) (ps : List (Nat × Operand)) (zs : List A), fillS P t ⟨σ.s, τ.H⟩ ps zs = fillS P t σ ps zs := fun t ps zs => fillS_congr fun p _ => hev p.2
    have hfA : ∀ (t : TypeId) (ps : List (Nat × Operand)) (zs : List A), fillA P t ⟨σ.s, τ.H⟩ ps zs = fillA P t σ ps zs := fun t ps zs => fillA_congr fun p _ => hev p.2
    have hfE : ∀ (k : Nat) (ps : List (Nat × Operand)) (zs : List A), fillE k ⟨σ.s, τ.H⟩ ps zs = fillE k σ ps zs := fun k ps zs => fillE_congr fun p _ => hev p.2
    split <;> first
      | rfl
      | (simp [hless] at hl; done)
      | simp only [hev, hevL, hbd, buildA, buildSliceA, hfS, hfA, hfE]
theorem val1_hless {ops : Array Oper} {o : Oper} (hl : hless o.op = true) (h : ∀ t ∈ o.looksAt ops, look σ.s t = look τ.s t) : val1 P Γ (dstsOf ops.toList) o σ = val1 P Γ (dstsOf ops.toList) o τ := by
  unfold val1
  rw [wantA_congr h, valX_hless hl (ev_looks h)]
def storeOp : Op → Bool
  | .store _ _ _ => true
  | _ => false
def store0 (H : List Obj) (size : Option Nat) (a v : A) : Option (Nat × Obj) :=
  match a with
  | .ref n off =>
    match nthO H n with
    | some (.box cs) => if size = some v.cells.length ∧ off + v.cells.length ≤ cs.length ∧ v.val = true then some (n, .box (spliceA cs off v.cells)) else none
    | _ => none
  | .eref n i off =>
    match nthO H n with
    | some (.row k es) => (es[i]?).bind fun e => if size = some v.cells.length ∧ off + v.cells.length ≤ e.cells.length ∧ v.cells.length ≠ 0 ∧ v.val = true ∧ v.pure = true then some (n, .row k (setNth es i (storeE e off v))) else none
    | _ => none
  | _ => none
theorem storeA_eq {d : Option Tmp} {size : Option Nat} {a v : A} : storeA σ d size a v = (store0 σ.H size a v).map fun x => (σ.setH x.1 x.2).put d (.tup []) := by
  cases a <;> simp only [storeA, store0, Option.map_none]
  · rename_i n off
    cases nthO σ.H n with
    | none => rfl
    | some o => cases o <;> simp only [Option.map_none] <;> split <;> rfl
  · rename_i n i off
    cases nthO σ.H n with
    | none => rfl
    | some o =>
      cases o <;> simp only [Option.map_none]
      rename_i k es
      cases es[i]? with
      | none => rfl
      | some e => simp only [Option.bind_some]; split <;> rfl
def store1 (P : Program) (ds : List (Option Tmp)) (o : Oper) (σ : St) : Option (Option (Nat × Obj)) :=
  match wantA ds σ o.guard with
  | none => none
  | some false => some none
  | some true =>
    match o.op with
    | .store t a x => (store0 σ.H (tySize P t) (σ.ev a) (σ.ev x)).map some
    | _ => none
def setO1 (σ : St) : Option (Nat × Obj) → St
  | some x => σ.setH x.1 x.2
  | none => σ
theorem exec1_storeR {ds : List (Option Tmp)} {n : Nat} {o : Oper} (h : storeOp o.op = true) : exec1 P Γ ds n o σ = (store1 P ds o σ).map fun x => (setO1 σ x).put o.dst (.tup []) := by
  unfold exec1 store1
  cases wantA ds σ o.guard with
  | none => rfl
  | some b =>
    cases b with
    | false => rfl
    | true =>
      simp only [if_true]
      cases ho : o.op <;> rw [ho] at h <;> simp [storeOp] at h
      simp only [execOp, storeA_eq]
      cases store0 σ.H _ _ _ <;> rfl
theorem store1_congr {ops : Array Oper} {o : Oper} (hH : σ.H = τ.H) (h : ∀ t ∈ o.looksAt ops, look σ.s t = look τ.s t) : store1 P (dstsOf ops.toList) o σ = store1 P (dstsOf ops.toList) o τ := by
  unfold store1
  rw [wantA_congr h]
  cases wantA (dstsOf ops.toList) τ o.guard with
  | none => rfl
  | some b =>
    cases b with
    | false => rfl
    | true =>
      simp only
      cases ho : o.op <;> try rfl
      rename_i t x y
      have h1 := ev_looks h x (by rw [ho]; simp [Op.operands])
      have h2 := ev_looks h y (by rw [ho]; simp [Op.operands])
      simp only [h1, h2, hH]
theorem setO1_s (o : Option (Nat × Obj)) : (setO1 σ o).s = σ.s := by cases o <;> rfl
theorem setO1_put (o : Option (Nat × Obj)) (d : Option Tmp) (v : A) : setO1 (σ.put d v) o = (setO1 σ o).put d v := by cases o <;> cases d <;> rfl
theorem swapS {ops : Array Oper} {n m : Nat} {y x : Oper} (hy : hless y.op = true) (hx : storeOp x.op = true) (hap : y.apart ops x = true) {σ1 σ2 : St}
    (h1 : exec1 P Γ (dstsOf ops.toList) n y σ = some σ1) (h2 : exec1 P Γ (dstsOf ops.toList) m x σ1 = some σ2) :
    ∃ σ1' σ2', exec1 P Γ (dstsOf ops.toList) m x σ = some σ1' ∧ exec1 P Γ (dstsOf ops.toList) n y σ1' = some σ2' ∧ simS σ2 σ2' := by
  obtain ⟨a1, a2, a3⟩ := Oper.apart_spec hap
  rw [exec1_plainR (hless_plain hy)] at h1
  rw [exec1_storeR hx] at h2
  obtain ⟨v, hv, rfl⟩ := Option.map_eq_some_iff.1 h1
  obtain ⟨o, hu, rfl⟩ := Option.map_eq_some_iff.1 h2
  have hu' : store1 P (dstsOf ops.toList) x σ = some o := by
    rw [← hu]
    exact store1_congr (put_H _ _).symm fun t ht => (look_put fun e he e' => a1 e he (e' ▸ ht)).symm
  have hv' : val1 P Γ (dstsOf ops.toList) y ((setO1 σ o).put x.dst (.tup [])) = some v := by
    rw [← hv]
    refine val1_hless hy fun t ht => ?_
    rw [look_put fun e he e' => a3 e he (e' ▸ ht), setO1_s]
  refine ⟨(setO1 σ o).put x.dst (.tup []), ((setO1 σ o).put x.dst (.tup [])).put y.dst v, by rw [exec1_storeR hx, hu']; rfl, by rw [exec1_plainR (hless_plain hy), hv']; rfl, ?_⟩
  simp only [setO1_put]
  exact put_comm a2
theorem execOp_sim {n : Nat} {d : Option Tmp} {op : Op} (hs : simS σ τ) {σ' : St} (h : execOp P Γ n d op σ = some σ') : ∃ τ', execOp P Γ n d op τ = some τ' ∧ simS σ' τ' := by
  by_cases hp : plainOp P Γ op = true
  · rw [execOp_plain hp] at h ⊢
    rw [← valX_congr hs.2 (fun x _ => hs.ev x)]
    cases hv : valX P Γ σ op with
    | none => simp [hv] at h
    | some v =>
      simp [hv] at h
      subst h
      exact ⟨_, rfl, hs.put d v⟩
  · have hbox : ∀ x : A, boxA σ n d x = some σ' → ∃ τ', boxA τ n d x = some τ' ∧ simS σ' τ' := fun x h => by
      unfold boxA at h ⊢
      split at h
      · rename_i hv
        obtain rfl := Option.some.inj h
        rw [if_pos hv]
        exact ⟨_, rfl, (hs.setH n _).put d _⟩
      · simp at h
    unfold execOp at h ⊢
    split at h
    · cases hz : zeroA P _ with
      | none => rw [hz] at h; simp [allocA] at h
      | some z => rw [hz] at h; simp only [allocA] at h ⊢; exact hbox z h
    · simp only [← hs.ev]; exact hbox _ h
    · simp only [← hs.ev]
      unfold storeA at h ⊢
      split at h
      · simp only [← hs.2]
        split at h
        · split at h
          · rename_i hc
            obtain rfl := Option.some.inj h
            rw [if_pos hc]
            exact ⟨_, rfl, (hs.setH _ _).put d _⟩
          · simp at h
        · simp at h
      · simp only [← hs.2]
        split at h
        · rename_i k es ho
          obtain ⟨e, he, h⟩ := Option.bind_eq_some_iff.1 h
          simp only [he, Option.bind_some]
          split at h
          · rename_i hc
            obtain rfl := Option.some.inj h
            rw [if_pos hc]
            exact ⟨_, rfl, (hs.setH _ _).put d _⟩
          · simp at h
        · simp at h
      · simp at h
    · simp only [← hs.ev]
      unfold convX at h ⊢
      split at h
      · rename_i hb
        rw [if_pos hb]
        split at h
        · obtain rfl := Option.some.inj h
          exact ⟨_, rfl, (hs.setH _ _).put d _⟩
        · simp at h
      · rename_i hb
        rw [if_neg hb, ← hs.2]
        cases hv : convA P _ _ σ.H (σ.ev _) with
        | none => simp [hv] at h
        | some v =>
          simp [hv] at h
          subst h
          exact ⟨_, rfl, hs.put d v⟩
    · simp only [← hs.ev]
      unfold appendX at h ⊢
      split at h
      · split at h
        · split at h
          · simp at h
          · rename_i hc
            rw [if_neg hc]
            have hsrc : ∀ e tx k x, srcE P σ e tx k x = srcE P τ e tx k x := fun e tx k x => by unfold srcE; rw [hs.2]
            rw [← hsrc]
            cases hv : srcE P σ _ _ _ (σ.ev _) with
            | none => simp [hv] at h
            | some src =>
              simp only [hv, Option.bind_some] at h ⊢
              unfold appendA at h ⊢
              split at h
              · split at h
                · rename_i hq
                  obtain rfl := Option.some.inj h
                  rw [if_pos hq]
                  exact ⟨_, rfl, (hs.setH _ _).put d _⟩
                · simp at h
              · split at h
                · rename_i hq
                  obtain rfl := Option.some.inj h
                  rw [if_pos hq]
                  exact ⟨_, rfl, (hs.setH _ _).put d _⟩
                · simp at h
              · simp only [← hs.2]
                split at h
                · split at h
                  · rename_i hq
                    rw [if_pos hq]
                    split at h
                    · rename_i hcl
                      rw [if_pos hcl]
                      split at h
                      · simp at h
                      · rename_i hne
                        obtain rfl := Option.some.inj h
                        rw [if_neg hne]
                        exact ⟨_, rfl, (hs.setH _ _).put d _⟩
                    · rename_i hcl
                      rw [if_neg hcl]
                      split at h
                      · simp at h
                      · rename_i hnf
                        obtain rfl := Option.some.inj h
                        rw [if_neg hnf]
                        exact ⟨_, rfl, ((hs.scrub _).setH _ _).put d _⟩
                  · simp at h
                · simp at h
              · simp at h
        · simp at h
      · simp at h
    · simp only [← hs.ev]
      unfold clearA at h ⊢
      simp only [← hs.2]
      split at h
      · split at h
        · split at h
          · split at h
            · split at h
              · rename_i hc
                obtain rfl := Option.some.inj h
                rw [if_pos hc]
                exact ⟨_, rfl, (hs.setH _ _).put d _⟩
              · simp at h
            · simp at h
          · simp at h
        · simp at h
      · simp at h
    · rename_i f xs us
      have hf : isEff Γ f = true := by simpa [plainOp] using hp
      rw [if_pos hf] at h ⊢
      simp only [← hs.ev, ← evL_congr (σ := σ) (τ := τ) (fun x _ => hs.ev x)]
      exact callHV_sim hs h
    · rw [← evalR_congr hs.2 (fun x _ => hs.ev x)]
      cases hv : evalR P σ op with
      | none => simp [hv] at h
      | some v =>
        simp [hv] at h
        subst h
        exact ⟨_, rfl, hs.put d v⟩
theorem exec1_sim {ops : Array Oper} {n : Nat} {o : Oper} (hs : simS σ τ) {σ' : St} (h : exec1 P Γ (dstsOf ops.toList) n o σ = some σ') : ∃ τ', exec1 P Γ (dstsOf ops.toList) n o τ = some τ' ∧ simS σ' τ' := by
  unfold exec1 at h ⊢
  rw [← wantA_congr (σ := σ) (τ := τ) (ops := ops) (o := o) fun t _ => hs.1 t]
  cases hw : wantA (dstsOf ops.toList) σ o.guard with
  | none => simp [hw] at h
  | some b =>
    simp only [hw] at h ⊢
    cases b with
    | true => simp only [if_true] at h ⊢; exact execOp_sim hs h
    | false =>
      simp at h ⊢
      subst h
      exact hs.put _ _
theorem runL_sim {ops : Array Oper} : ∀ {L : List (Nat × Nat × Oper)} {σ τ σ' : St}, simS σ τ → runL P Γ (dstsOf ops.toList) L σ = some σ' → ∃ τ', runL P Γ (dstsOf ops.toList) L τ = some τ' ∧ simS σ' τ'
  | [], σ, τ, σ', hs, h => by simp only [runL, Option.some.injEq] at h; subst h; exact ⟨τ, rfl, hs⟩
  | x :: L, σ, τ, σ', hs, h => by
    simp only [runL] at h
    cases h1 : exec1 P Γ (dstsOf ops.toList) x.1 x.2.2 σ with
    | none => simp [h1] at h
    | some σ1 =>
      simp only [h1, Option.bind_some] at h
      obtain ⟨τ1, h2, hs1⟩ := exec1_sim hs h1
      obtain ⟨τ', h3, hs'⟩ := runL_sim hs1 h
      exact ⟨τ', by simp only [runL, h2, Option.bind_some]; exact h3, hs'⟩
theorem moveFront {ops : Array Oper} {x : Nat × Nat × Oper} {L2 : List (Nat × Nat × Oper)} : ∀ {L1 : List (Nat × Nat × Oper)} {σ τ : St},
    (∀ y ∈ L1, (plainOp P Γ y.2.2.op = true ∧ plainOp P Γ x.2.2.op = true ∨ plainOp P Γ y.2.2.op = true ∧ allocOp x.2.2.op = true ∨ allocOp y.2.2.op = true ∧ allocOp x.2.2.op = true ∧ y.1 ≠ x.1 ∨ hless y.2.2.op = true ∧ storeOp x.2.2.op = true) ∧ y.2.2.apart ops x.2.2 = true) →
    (allocOp x.2.2.op = true → nthO σ.H x.1 = some (.row 0 [])) →
    runL P Γ (dstsOf ops.toList) (L1 ++ x :: L2) σ = some τ → ∃ σ1 τ', exec1 P Γ (dstsOf ops.toList) x.1 x.2.2 σ = some σ1 ∧ runL P Γ (dstsOf ops.toList) (L1 ++ L2) σ1 = some τ' ∧ simS τ τ'
  | [], σ, τ, _, _, h => by
    simp only [List.nil_append, runL] at h ⊢
    cases h1 : exec1 P Γ (dstsOf ops.toList) x.1 x.2.2 σ with
    | none => simp [h1] at h
    | some σ1 =>
      simp only [h1, Option.bind_some] at h
      exact ⟨σ1, τ, rfl, h, simS.refl τ⟩
  | y :: L1, σ, τ, hi, hnth, h => by
    simp only [List.cons_append, runL] at h
    cases h1 : exec1 P Γ (dstsOf ops.toList) y.1 y.2.2 σ with
    | none => simp [h1] at h
    | some σa =>
      simp only [h1, Option.bind_some] at h
      obtain ⟨i1, i3⟩ := hi y (by simp)
      obtain ⟨σb, τ', h2, h3, hs⟩ := moveFront (L1 := L1) (fun z hz => hi z (by simp [hz])) (fun ha => by
        rcases i1 with ⟨j1, j2⟩ | ⟨j1, _⟩ | ⟨j1, _, j3⟩ | ⟨j1, _⟩
        · rw [exec1_plainR j1] at h1
          obtain ⟨v, _, rfl⟩ := Option.map_eq_some_iff.1 h1
          rw [put_H]; exact hnth ha
        · rw [exec1_plainR j1] at h1
          obtain ⟨v, _, rfl⟩ := Option.map_eq_some_iff.1 h1
          rw [put_H]; exact hnth ha
        · rw [exec1_allocH j1 j3 h1]; exact hnth ha
        · rw [exec1_plainR (hless_plain j1)] at h1
          obtain ⟨v, _, rfl⟩ := Option.map_eq_some_iff.1 h1
          rw [put_H]; exact hnth ha) h
      have hsw : ∃ σ1' σ2', exec1 P Γ (dstsOf ops.toList) x.1 x.2.2 σ = some σ1' ∧ exec1 P Γ (dstsOf ops.toList) y.1 y.2.2 σ1' = some σ2' ∧ simS σb σ2' := by
        rcases i1 with ⟨j1, j2⟩ | ⟨j1, j2⟩ | ⟨j1, j2, j3⟩ | ⟨j1, j2⟩
        · exact swap1 j1 j2 i3 h1 h2
        · exact swapA j1 j2 i3 (hnth j2) h1 h2
        · exact swapAA j1 j2 i3 j3 h1 h2
        · exact swapS j1 j2 i3 h1 h2
      obtain ⟨σ1', σ2', g1, g2, gs⟩ := hsw
      obtain ⟨τ'', g3, gs'⟩ := runL_sim gs h3
      exact ⟨σ1', τ'', g1, by simp only [List.cons_append, runL, g2, Option.bind_some]; exact g3, hs.trans gs'⟩
end
end Go.Abs
namespace Go.Abs
open Go.RowKit
def ancOf (aq : List Nat) (o : Oper) : Nat := o.after.toList.foldl (fun x e => if Region.binds .any e = true then x ||| 2 ^ e.on ||| aq.getD e.on 0 else x) 0
def ancs : List Oper → List Nat → List Nat
  | [], aq => aq
  | o :: os, aq => ancs os (aq ++ [ancOf aq o])
def pairOK (P : Program) (Γ : Tab) (ops : Array Oper) (m : Nat) (oi : Oper) (j : Nat) : Bool :=
  match ops[j]? with
  | some oj => m.testBit j || ((plainOp P Γ oj.op && plainOp P Γ oi.op || plainOp P Γ oj.op && allocOp oi.op || allocOp oj.op && allocOp oi.op || hless oj.op && storeOp oi.op) && oj.apart ops oi)
  | none => true
def orderOK1 (P : Program) (Γ : Tab) (ops : Array Oper) (aq : List Nat) : Bool :=
  (List.range ops.size).all fun i =>
    match ops[i]? with
    | some oi => (oi.after.toList.all fun e => !Region.binds .any e || decide (e.on < i)) && (List.range i).all (pairOK P Γ ops (aq.getD i 0) oi)
    | none => true
def orderOK (P : Program) (Γ : Tab) (ops : Array Oper) : Bool := orderOK1 P Γ ops (ancs ops.toList [])
def readyI (ops : Array Oper) (L : List Nat) (i : Nat) : Bool :=
  match ops[i]? with
  | some o => o.after.toList.all fun e => !Region.binds .any e || !L.contains e.on
  | none => false
def simpleOp (P : Program) (Γ : Tab) (o : Op) : Bool := plainOp P Γ o || allocOp o || storeOp o
def simpleR (P : Program) (Γ : Tab) (ops : Array Oper) : Bool := ops.toList.all fun o => simpleOp P Γ o.op
def commI (P : Program) (Γ : Tab) (ops : Array Oper) (i y : Nat) : Bool :=
  match ops[i]?, ops[y]? with
  | some a, some b => ((plainOp P Γ a.op && plainOp P Γ b.op) || (hless a.op && storeOp b.op) || (simpleR P Γ ops && plainOp P Γ a.op && allocOp b.op)) && a.apart ops b
  | _, _ => false
def cov (P : Program) (Γ : Tab) (ops : Array Oper) (aq : List Nat) : Nat → List Nat → List (List Nat) → Bool
  | 0, L, rs => L.isEmpty && !rs.isEmpty && rs.all List.isEmpty
  | f + 1, L, rs =>
    match rs with
    | [] => false
    | [] :: _ => false
    | (i :: _) :: _ =>
      if (rs.all (fun r => r.head? == some i) && L.contains i && readyI ops L i && L.all (fun y => y == i || (aq.getD y 0).testBit i || commI P Γ ops i y)) = true then cov P Γ ops aq f (L.erase i) (rs.map List.tail)
      else L.all fun j => !readyI ops L j || cov P Γ ops aq f (L.erase j) (rs.filterMap fun r => if r.head? = some j then some r.tail else none)
def blkD (D : List (Nat × Nat)) (L : List Nat) (j : Nat) : Bool := D.any fun p => p.2 == j && L.contains p.1
def cov2 (P : Program) (Γ : Tab) (ops : Array Oper) (aq : List Nat) : Nat → List Nat → List (Nat × Nat) → List (List Nat) → Bool
  | 0, _, _, _ => false
  | f + 1, L, D, rs =>
    match rs with
    | [] => false
    | [] :: _ => L.isEmpty && rs.all List.isEmpty
    | (i :: _) :: _ =>
      (L.contains i && readyI ops L i && !blkD D L i) &&
      match L.filter (fun y => !(y == i || (aq.getD y 0).testBit i || commI P Γ ops i y || D.any fun p => p.1 == i && L.contains p.2 && (p.2 == y || (aq.getD y 0).testBit p.2))) with
      | [] => rs.all (fun r => r.head? == some i) && cov2 P Γ ops aq f (L.erase i) D (rs.map List.tail)
      | [c] => cov2 P Γ ops aq f (L.erase i) D (rs.filterMap fun r => if r.head? = some i then some r.tail else none) && cov2 P Γ ops aq f L ((c, i) :: D) (rs.filter fun r => r.head? != some i)
      | _ => false
def ordsOK (P : Program) (Γ : Tab) (ops : Array Oper) (os : List (List Nat)) : Bool :=
  ((List.range ops.size).all fun i => match ops[i]? with | some o => o.after.toList.all fun e => !Region.binds .any e || decide (e.on < i) | none => true) &&
  (cov P Γ ops (ancs ops.toList []) ops.size (List.range ops.size) os || cov2 P Γ ops (ancs ops.toList []) (3 * ops.size) (List.range ops.size) [] os)
def dstOK (nt : Nat) (ops : Array Oper) : Bool := ops.toList.all fun o => match o.dst with | some d => decide (d < nt) | none => true
def frzOK (Γ : Tab) (os : List (List Nat)) : Bool :=
  match frzOf os with
  | none => true
  | some ρ => decide ρ.Nodup && ρ.all fun n => decide (Γ.nf ≤ n)
def codeOK (P : Program) (Γ : Tab) (nt : Nat) : Code → Bool
  | .seq a b => codeOK P Γ nt a && codeOK P Γ nt b
  | .cond _ a b => codeOK P Γ nt a && codeOK P Γ nt b
  | .block _ c => codeOK P Γ nt c
  | .loop c => codeOK P Γ nt c
  | .region id ops d => (dstOK nt ops && frzOK Γ (Γ.ords id)) && (if (ordOf (Γ.ords id)).isEmpty = true then (!d || orderOK P Γ ops) else (d && ordsOK P Γ ops (ordOf (Γ.ords id))))
  | _ => true
section
variable {P : Program} {Γ : Tab} {N0 : Nat → Prop} {w0 : Base} {nt : Nat} {σ τ : St} {φ : List Own} {a : Act} {w : World}
theorem dstOK_spec {ops : Array Oper} (h : dstOK nt ops = true) {i : Nat} {o : Oper} (ho : ops[i]? = some o) : ∀ t, o.dst = some t → t < nt := fun t ht => by
  unfold dstOK at h
  rw [List.all_eq_true] at h
  have := h o (by simpa using Array.mem_of_getElem? ho)
  simp only [ht, decide_eq_true_eq] at this
  exact this
theorem Conc.sim (h : Conc N0 w0 nt σ φ a w) (hs : simS σ τ) : Conc N0 w0 nt τ φ a w :=
  { h with
    slots := fun d => by rw [← hs.1 d]; exact h.slots d
    len := by rw [← hs.2]; exact h.len
    objs := fun n o p ho hp => h.objs n o p (by rw [hs.2]; exact ho) hp }
theorem exec1_name {ds : List (Option Tmp)} {n n' : Nat} {o : Oper} (h : allocs P o.op = false) : exec1 P Γ ds n o σ = exec1 P Γ ds n' o σ := by
  unfold exec1
  split
  · rfl
  · rename_i b hb
    cases b with
    | false => rfl
    | true =>
      simp only [if_true]
      unfold execOp
      split
      · rename_i h'; rw [h'] at h; simp [allocs] at h
      · rename_i h'; rw [h'] at h; simp [allocs] at h
      · rfl
      · rename_i h'
        rw [h'] at h
        simp only [allocs] at h
        simp only [convX, h, Bool.false_eq_true, if_false]
      · rename_i h'; rw [h'] at h; simp [allocs] at h
      · rfl
      · rfl
      · rfl
theorem step_sound (hΓ : TabOK P Γ) (hfix : w0.fix = Γ.fix) (h : Conc N0 w0 nt σ φ a w) {ops : Array Oper} (hok : dstOK nt ops = true) {x : Nat × Nat × Oper} (ho : ops[x.2.1]? = some x.2.2) {L : List (Nat × Nat × Oper)}
    (hfx : allocs P x.2.2.op = true → φ[x.1]? = some .free) (hfL : ∀ y ∈ L, allocs P y.2.2.op = true → φ[y.1]? = some .free) (hne : ∀ y ∈ L, allocs P x.2.2.op = true → allocs P y.2.2.op = true → y.1 ≠ x.1) {σ' : St}
    (hr : exec1 P Γ (dstsOf ops.toList) x.1 x.2.2 σ = some σ') {Q : Exit → Act → World → Prop} {K : Act → World → Prop}
    (hK : ∀ φ' a' w', Conc N0 w0 nt σ' φ' a' w' → (∀ y ∈ L, allocs P y.2.2.op = true → φ'[y.1]? = some .free) → K a' w') : wpOp P ops Q x.2.1 K a w := by
  by_cases hal : allocs P x.2.2.op = true
  · exact exec1_sound hΓ h ho (dstOK_spec hok ho) hfix (fun _ => hfx hal) hr fun φ' a' w' hc hf => hK φ' a' w' hc fun y hy ha => hf y.1 (hne y hy hal ha) (hfL y hy ha)
  · have hal' : allocs P x.2.2.op = false := by simpa using hal
    rw [exec1_name (n' := φ.length) hal'] at hr
    refine exec1_sound hΓ h ho (dstOK_spec hok ho) hfix (fun ha => absurd ha hal) hr fun φ' a' w' hc hf => hK φ' a' w' hc fun y hy ha => hf y.1 (fun e => ?_) (hfL y hy ha)
    have := (List.getElem?_eq_some_iff.1 (hfL y hy ha)).1
    omega
theorem text_sound (hΓ : TabOK P Γ) (hfix : w0.fix = Γ.fix) {ops : Array Oper} (hok : dstOK nt ops = true) {Q : Exit → Act → World → Prop} {τ : St} : ∀ {L : List (Nat × Nat × Oper)} {σ : St} {φ : List Own} {a : Act} {w : World},
    Conc N0 w0 nt σ φ a w → (∀ x ∈ L, ops[x.2.1]? = some x.2.2) → L.Pairwise (fun x y => x.2.1 < y.2.1 ∧ (allocs P x.2.2.op = true → x.1 < y.1)) →
    (∀ y ∈ L, allocs P y.2.2.op = true → φ[y.1]? = some .free) → runL P Γ (dstsOf ops.toList) L σ = some τ → (∀ φ' a' w', Conc N0 w0 nt τ φ' a' w' → Q .normal a' w') → wpOps P ops Q (L.map (·.2.1)) a w
  | [], σ, φ, a, w, h, _, _, _, hr, hQ => by
    simp only [runL, Option.some.injEq] at hr
    subst hr
    exact hQ φ a w h
  | x :: L, σ, φ, a, w, h, hops, hp, hf, hr, hQ => by
    rw [List.map_cons, wpOps_cons]
    simp only [runL] at hr
    rw [List.pairwise_cons] at hp
    cases h1 : exec1 P Γ (dstsOf ops.toList) x.1 x.2.2 σ with
    | none => simp [h1] at hr
    | some σ1 =>
      simp only [h1, Option.bind_some] at hr
      refine step_sound hΓ hfix h hok (hops x (by simp)) (L := L) (hf x (by simp)) (fun y hy => hf y (by simp [hy])) (fun y hy ha _ e => ?_) h1 fun φ' a' w' hc hf' => ?_
      · have := (hp.1 y hy).2 ha
        omega
      · exact text_sound hΓ hfix hok hc (fun y hy => hops y (by simp [hy])) hp.2 hf' hr hQ
theorem ancOf_spec {aq : List Nat} {j : Nat} : ∀ {es : List Edge} {x : Nat}, (es.foldl (fun x e => if Region.binds .any e = true then x ||| 2 ^ e.on ||| aq.getD e.on 0 else x) x).testBit j = true →
    x.testBit j = true ∨ ∃ e ∈ es, Region.binds .any e = true ∧ (e.on = j ∨ (aq.getD e.on 0).testBit j = true)
  | [], x, h => .inl h
  | e :: es, x, h => by
    rw [List.foldl_cons] at h
    rcases ancOf_spec h with h | ⟨e', he', h'⟩
    · split at h
      · rename_i hb
        rw [Nat.testBit_or, Nat.testBit_or, Bool.or_eq_true, Bool.or_eq_true, Nat.testBit_two_pow] at h
        rcases h with (h | h) | h
        · exact .inl h
        · exact .inr ⟨e, by simp, hb, .inl (by simpa using h)⟩
        · exact .inr ⟨e, by simp, hb, .inr h⟩
      · exact .inl h
    · exact .inr ⟨e', by simp [he'], h'⟩
theorem ancs_spec {ops : Array Oper} {D : Nat → Prop} (hD : ∀ (m : Nat) (o : Oper), ops[m]? = some o → D m → ∀ e ∈ o.after, Region.binds .any e = true → D e.on) : ∀ {os ps : List Oper} {aq : List Nat}, ops.toList = ps ++ os → aq.length = ps.length →
    (∀ (m : Nat) (o : Oper), m < aq.length → ops[m]? = some o → (∀ e ∈ o.after, Region.binds .any e = true → D e.on) → ∀ j, (aq.getD m 0).testBit j = true → D j) →
    ∀ (m : Nat) (o : Oper), ops[m]? = some o → (∀ e ∈ o.after, Region.binds .any e = true → D e.on) → ∀ j, ((ancs os aq).getD m 0).testBit j = true → D j
  | [], ps, aq, hp, hl, h, m, o, ho, hd, j, hj => by
    have hm : m < aq.length := by
      have h1 := (Array.getElem?_eq_some_iff.1 ho).1
      have h2 : ops.toList.length = ps.length := by rw [hp]; simp
      rw [Array.length_toList] at h2
      omega
    exact h m o hm ho hd j hj
  | q :: os, ps, aq, hp, hl, h, m, o, ho, hd, j, hj => by
    simp only [ancs] at hj
    refine ancs_spec (os := os) (ps := ps ++ [q]) (aq := aq ++ [ancOf aq q]) hD (by rw [hp]; simp) (by simp [hl]) ?_ m o ho hd j hj
    intro m' o' hm' ho' hd' j' hj'
    by_cases hlt : m' < aq.length
    · rw [show (aq ++ [ancOf aq q]).getD m' 0 = aq.getD m' 0 by simp [List.getD, List.getElem?_append_left hlt]] at hj'
      exact h m' o' hlt ho' hd' j' hj'
    · have hme : m' = aq.length := by rw [List.length_append] at hm'; simp at hm'; omega
      subst hme
      have hq : ops[aq.length]? = some q := by
        rw [← Array.getElem?_toList, hp, hl]; simp
      rw [ho'] at hq
      obtain rfl := Option.some.inj hq
      have e1 : (aq ++ [ancOf aq o']).getD aq.length 0 = ancOf aq o' := by simp [List.getD]
      rw [e1] at hj'
      rcases ancOf_spec hj' with h0 | ⟨e, he, hb, h1⟩
      · simp at h0
      · have he' : e ∈ o'.after := by simpa using he
        rcases h1 with rfl | h1
        · exact hd' e he' hb
        · by_cases hlt' : e.on < aq.length
          · have hlt2 : e.on < ops.size := by
              have := congrArg List.length hp
              simp at this
              omega
            exact h e.on ops[e.on] hlt' (Array.getElem?_eq_getElem hlt2) (hD e.on _ (Array.getElem?_eq_getElem hlt2) (hd' e he' hb)) j' h1
          · rw [show aq.getD e.on 0 = 0 by simp [List.getD, List.getElem?_eq_none (Nat.le_of_not_lt hlt')]] at h1
            simp at h1
theorem orderOK_spec {ops : Array Oper} (h : orderOK P Γ ops = true) {i : Nat} {oi : Oper} (hi : ops[i]? = some oi) :
    (∀ e ∈ oi.after, Region.binds .any e = true → e.on < i) ∧ ∀ (j : Nat) (oj : Oper), j < i → ops[j]? = some oj → ((ancs ops.toList []).getD i 0).testBit j = true ∨ ((plainOp P Γ oj.op = true ∧ plainOp P Γ oi.op = true ∨ plainOp P Γ oj.op = true ∧ allocOp oi.op = true ∨ allocOp oj.op = true ∧ allocOp oi.op = true ∨ hless oj.op = true ∧ storeOp oi.op = true) ∧ oj.apart ops oi = true) := by
  unfold orderOK orderOK1 at h
  rw [List.all_eq_true] at h
  have h1 := h i (by simpa using (Array.getElem?_eq_some_iff.1 hi).1)
  simp only [hi, Bool.and_eq_true] at h1
  obtain ⟨h2, h3⟩ := h1
  rw [List.all_eq_true] at h2 h3
  refine ⟨fun e he hb => ?_, fun j oj hj hoj => ?_⟩
  · have := h2 e (by simpa using he)
    simpa [hb] using this
  · have := h3 j (by simpa using hj)
    unfold pairOK at this
    simp only [hoj, Bool.or_eq_true, Bool.and_eq_true] at this
    rcases this with h | ⟨((h4 | h4) | h4) | h4, h6⟩
    · exact .inl h
    · exact .inr ⟨.inl h4, h6⟩
    · exact .inr ⟨.inr (.inl h4), h6⟩
    · exact .inr ⟨.inr (.inr (.inl h4)), h6⟩
    · exact .inr ⟨.inr (.inr (.inr h4)), h6⟩
theorem allocs_of {op : Op} (h : allocOp op = true) : allocs P op = true := by
  cases op <;> simp [allocOp] at h <;> rfl
theorem free_obj (h : Conc N0 w0 nt σ φ a w) {n : Nat} (hn : φ[n]? = some .free) : nthO σ.H n = some (.row 0 []) := by
  have hlt : n < σ.H.length := by rw [← h.len]; exact (List.getElem?_eq_some_iff.1 hn).1
  have ho : nthO σ.H n = some σ.H[n] := by rw [nthO_eq]; exact List.getElem?_eq_getElem hlt
  have := h.objs n _ _ ho hn
  rw [ho]
  cases hh : σ.H[n] with
  | box cs => rw [hh] at this; simp [ObjRel] at this
  | row k es => rw [hh] at this; simp only [ObjRel] at this; rw [this.1, this.2]
theorem any_sound (hΓ : TabOK P Γ) (hfix : w0.fix = Γ.fix) {ops : Array Oper} (hok : dstOK nt ops = true) (hord : orderOK P Γ ops = true) {Q : Exit → Act → World → Prop} : ∀ (fuel : Nat) (listed : Array Bool) {L : List (Nat × Nat × Oper)} {σ τ : St} {φ : List Own} {a : Act} {w : World},
    L.length ≤ fuel → (∀ i, listed.getD i true = false ↔ ∃ x ∈ L, x.2.1 = i) →
    Conc N0 w0 nt σ φ a w → (∀ x ∈ L, ops[x.2.1]? = some x.2.2) → L.Pairwise (fun x y => x.2.1 < y.2.1 ∧ (allocs P x.2.2.op = true → x.1 < y.1)) →
    (∀ y ∈ L, allocs P y.2.2.op = true → φ[y.1]? = some .free) → runL P Γ (dstsOf ops.toList) L σ = some τ → (∀ φ' a' w', Conc N0 w0 nt τ φ' a' w' → Q .normal a' w') → listed.size = ops.size → (∀ (m : Nat) (o : Oper), ops[m]? = some o → listed.getD m true = true → ∀ e ∈ o.after, Region.binds .any e = true → listed.getD e.on true = true) → wpAny P .any ops Q fuel listed a w := by
  intro fuel
  -- the first of those that are left is ready
  have first : ∀ (listed : Array Bool) (x : Nat × Nat × Oper) (L : List (Nat × Nat × Oper)), (∀ i, listed.getD i true = false ↔ ∃ y ∈ x :: L, y.2.1 = i) → (∀ y ∈ x :: L, ops[y.2.1]? = some y.2.2) →
      (x :: L).Pairwise (fun x y => x.2.1 < y.2.1 ∧ (allocs P x.2.2.op = true → x.1 < y.1)) → listed.size = ops.size → x.2.1 ∈ Region.ready .any ops listed := by
    intro listed x L hl hops hp hsz
    rw [mem_ready]
    refine ⟨(hl x.2.1).2 ⟨x, by simp, rfl⟩, x.2.2, hops x (by simp), fun e he hb => ?_⟩
    have hlt := (orderOK_spec hord (hops x (by simp))).1 e he hb
    have hxs : x.2.1 < ops.size := (Array.getElem?_eq_some_iff.1 (hops x (by simp))).1
    cases hg : listed.getD e.on true with
    | false =>
      obtain ⟨y, hy, hye⟩ := (hl e.on).1 hg
      rcases List.mem_cons.1 hy with rfl | hy
      · omega
      · have := ((List.pairwise_cons.1 hp).1 y hy).1
        omega
    | true =>
      have he : e.on < listed.size := by omega
      simpa [he] using hg
  induction fuel with
  | zero =>
    intro listed L σ τ φ a w hlen hl hc hops hp hf hr hQ hsz hcl
    have hL : L = [] := List.length_eq_zero_iff.1 (by omega)
    subst hL
    simp only [runL, Option.some.injEq] at hr
    subst hr
    refine ⟨?_, hQ φ a w hc⟩
    rw [List.eq_nil_iff_forall_not_mem]
    intro i hi
    obtain ⟨x, hx, _⟩ := (hl i).1 (mem_ready.1 hi).1
    cases hx
  | succ fuel ih =>
    intro listed L σ τ φ a w hlen hl hc hops hp hf hr hQ hsz hcl
    refine ⟨fun hnil => ?_, fun i hi => ?_⟩
    · cases L with
      | nil =>
        simp only [runL, Option.some.injEq] at hr
        subst hr
        exact hQ φ a w hc
      | cons x L =>
        have := first listed x L hl hops hp hsz
        rw [hnil] at this
        cases this
    · obtain ⟨hun, oi, hoi, hall⟩ := mem_ready.1 hi
      obtain ⟨x, hx, rfl⟩ := (hl i).1 hun
      have hxo := hops x hx
      rw [hoi] at hxo
      obtain rfl := Option.some.inj hxo
      obtain ⟨L1, L2, rfl⟩ := List.append_of_mem hx
      have hpp := List.pairwise_append.1 hp
      have hp2 := List.pairwise_cons.1 hpp.2.1
      obtain ⟨σ1, τ', g1, g2, gs⟩ := moveFront (fun y hy => by
        have hlt := (hpp.2.2 y hy x (by simp)).1
        have hyo := hops y (by simp [hy])
        rcases (orderOK_spec hord hoi).2 y.2.1 y.2.2 hlt hyo with hdep | hind
        · exfalso
          have h2 := (hl y.2.1).2 ⟨y, by simp [hy], rfl⟩
          have h1 := ancs_spec (ops := ops) (D := fun m => listed.getD m true = true) hcl (os := ops.toList) (ps := []) (aq := []) rfl rfl (fun m o hm => absurd hm (by simp)) x.2.1 x.2.2 hoi (fun e he hb => by
            have h3 := hall e he hb
            have h4 := (orderOK_spec hord hoi).1 e he hb
            have h5 : e.on < listed.size := by rw [hsz]; have := (Array.getElem?_eq_some_iff.1 hoi).1; omega
            simpa [h5] using h3) y.2.1 hdep
          rw [h1] at h2
          cases h2
        · refine ⟨?_, hind.2⟩
          rcases hind.1 with h' | h' | ⟨h1, h2⟩ | h'
          · exact .inl h'
          · exact .inr (.inl h')
          · have hne := (hpp.2.2 y hy x (by simp)).2 (allocs_of h1)
            exact .inr (.inr (.inl ⟨h1, h2, by omega⟩))
          · exact .inr (.inr (.inr h'))) (fun ha => free_obj hc (hf x hx (allocs_of ha))) hr
      refine step_sound hΓ hfix hc hok hoi (L := L1 ++ L2) (hf x hx) (fun y hy => hf y (by
        rcases List.mem_append.1 hy with hy | hy
        · simp [hy]
        · simp [hy])) (fun y hy ha hb e => ?_) g1 fun φ' a' w' hc' hf' => ?_
      · rcases List.mem_append.1 hy with hy | hy
        · have := (hpp.2.2 y hy x (by simp)).2 hb
          omega
        · have := (hp2.1 y hy).2 ha
          omega
      · refine ih (listed.setIfInBounds x.2.1 true) (L := L1 ++ L2) (τ := τ') ?_ ?_ hc' ?_ ?_ hf' g2 ?_ (by simp [hsz]) ?_
        · simp at hlen ⊢; omega
        · intro i
          have hxs : x.2.1 < listed.size := by rw [hsz]; exact (Array.getElem?_eq_some_iff.1 hoi).1
          by_cases hxi : x.2.1 = i
          · subst hxi
            constructor
            · intro h; simp [hxs] at h
            · rintro ⟨y, hy, hye⟩
              exfalso
              rcases List.mem_append.1 hy with hy | hy
              · have := (hpp.2.2 y hy x (by simp)).1
                omega
              · have := (hp2.1 y hy).1
                omega
          · rw [getD_set_ne true hxi, hl i]
            constructor
            · rintro ⟨y, hy, hye⟩
              refine ⟨y, ?_, hye⟩
              rcases List.mem_append.1 hy with hy | hy
              · simp [hy]
              · rcases List.mem_cons.1 hy with rfl | hy
                · exact absurd hye hxi
                · simp [hy]
            · rintro ⟨y, hy, hye⟩
              refine ⟨y, ?_, hye⟩
              rcases List.mem_append.1 hy with hy | hy
              · simp [hy]
              · simp [hy]
        · intro y hy
          refine hops y ?_
          rcases List.mem_append.1 hy with hy | hy
          · simp [hy]
          · simp [hy]
        · rw [List.pairwise_append]
          exact ⟨hpp.1, hp2.2, fun y hy z hz => hpp.2.2 y hy z (by simp [hz])⟩
        · exact fun φ'' a'' w'' hc'' => hQ φ'' a'' w'' (hc''.sim gs.symm)
        · intro m o ho hm e he hb
          have hxs : x.2.1 < listed.size := by rw [hsz]; exact (Array.getElem?_eq_some_iff.1 hoi).1
          have key : listed.getD e.on true = true := by
            by_cases hxm : x.2.1 = m
            · subst hxm
              rw [hoi] at ho
              obtain rfl := Option.some.inj ho
              have h3 := hall e he hb
              have h4 := (orderOK_spec hord hoi).1 e he hb
              have h5 : e.on < listed.size := by rw [hsz]; have := (Array.getElem?_eq_some_iff.1 hoi).1; omega
              simpa [h5] using h3
            · rw [getD_set_ne true hxm] at hm
              exact hcl m o ho hm e he hb
          by_cases hxe : x.2.1 = e.on
          · rw [← hxe]; simp [hxs]
          · rw [getD_set_ne true hxe]; exact key
theorem Conc.growOne (h : Conc N0 w0 nt σ φ a w) : Conc N0 w0 nt { σ with H := σ.H ++ [.row 0 []] } (φ ++ [.free]) a w := by
  have hget : ∀ m : Nat, (φ ++ [Own.free])[m]? = if m = φ.length then some .free else φ[m]? := fun m => by
    rw [List.getElem?_append]
    split
    · rw [if_neg (by omega)]
    · split
      · rename_i h1 h2; subst h2; simp
      · rename_i h1 h2
        rw [List.getElem?_eq_none (by simp; omega), List.getElem?_eq_none (by omega)]
  have hat : ∀ m b k : Nat, (φ ++ [Own.free])[m]? = some (Own.loc b k) → φ[m]? = some (.loc b k) := fun m b k hm => by
    rw [hget] at hm
    split at hm
    · simp at hm
    · exact hm
  have hext : Ext (fun _ => True) (envOf N0 φ w) (envOf N0 (φ ++ [.free]) w) := {
    size := Nat.le_refl _
    blk := fun b _ hn => ⟨by
      rintro (h0 | ⟨m, k, hm⟩)
      · exact hn (.inl h0)
      · exact hn (.inr ⟨m, k, hat m b k hm⟩), rfl⟩
    refs := fun m o _ hm _ => by
      have hlt : m < φ.length := (List.getElem?_eq_some_iff.1 hm).1
      show (φ ++ [Own.free])[m]? = some o
      rw [hget, if_neg (by omega)]; exact hm
    own := fun m b k c e fr _ hm hc => ⟨c, fr, hc, rfl⟩ }
  exact {
    slots := fun d => Rep.mono hext _ _ (h.slots d) (fun _ _ => trivial)
    size := h.size
    defers := h.defers
    len := by simp [h.len]
    objs := fun m o p hm hp => by
      rw [hget] at hp
      rw [nthO_eq, List.getElem?_append] at hm
      split at hp
      · rename_i e
        simp at hp
        subst hp
        rw [if_neg (by rw [← h.len]; omega), show m - σ.H.length = 0 by rw [← h.len]; omega] at hm
        simp at hm
        subst hm
        simp [ObjRel]
      · rename_i e
        have hlt : m < φ.length := (List.getElem?_eq_some_iff.1 hp).1
        rw [if_pos (by rw [← h.len]; exact hlt)] at hm
        exact ObjRel.mono hext (h.objs m o p (by rw [nthO_eq]; exact hm) hp) (fun b k _ c e fr hh => hh) (fun _ _ _ _ => trivial)
    own := fun m b k hm => h.own m b k (hat m b k hm)
    inj := fun m m' b k k' hm hm' => h.inj m m' b k k' (hat m b k hm) (hat m' b k' hm')
    n0 := h.n0
    fixd := fun m p hf hp hfree => by
      have := h.fixd m p hf hp hfree
      have hlt : m < φ.length := (List.getElem?_eq_some_iff.1 this).1
      rw [List.getElem?_append_left hlt]; exact this
    below := h.below }
theorem growH_len (op : Op) : (grow P op σ).H.length = nxt P op σ.H.length := by
  unfold grow nxt
  split <;> simp
theorem pre_sound : ∀ (os : List Oper) (i : Nat) {σ : St} {φ : List Own}, Conc N0 w0 nt σ φ a w → ∃ φ', Conc N0 w0 nt (pre P os σ) φ' a w ∧ (∀ y ∈ ann P σ.H.length i os, allocs P y.2.2.op = true → φ'[y.1]? = some .free) ∧
    ∀ m : Nat, φ[m]? = some Own.free → φ'[m]? = some Own.free
  | [], i, σ, φ, h => ⟨φ, h, by simp [ann], fun _ h => h⟩
  | o :: os, i, σ, φ, h => by
    have hg : ∃ φ1, Conc N0 w0 nt (grow P o.op σ) φ1 a w ∧ (allocs P o.op = true → φ1[σ.H.length]? = some .free) ∧ ∀ m : Nat, φ[m]? = some Own.free → φ1[m]? = some Own.free := by
      unfold grow
      split
      · refine ⟨φ ++ [.free], h.growOne, fun _ => by rw [← h.len]; simp, fun m hm => ?_⟩
        have hlt : m < φ.length := (List.getElem?_eq_some_iff.1 hm).1
        rw [List.getElem?_append_left hlt]
        exact hm
      · rename_i ha
        exact ⟨φ, h, fun h => absurd h ha, fun _ h => h⟩
    obtain ⟨φ1, h1, hf, hk⟩ := hg
    obtain ⟨φ', h2, hf2, hk2⟩ := pre_sound os (i + 1) h1
    refine ⟨φ', h2, fun y hy ha => ?_, fun m hm => hk2 m (hk m hm)⟩
    simp only [ann, List.mem_cons] at hy
    rcases hy with rfl | hy
    · exact hk2 _ (hf ha)
    · rw [growH_len] at hf2
      exact hf2 y hy ha
theorem region_sound (hΓ : TabOK P Γ) (hfix : w0.fix = Γ.fix) (hm : P.follows .mixedOrders = true) (h : Conc N0 w0 nt σ φ a w) {id : Nat} {ops : Array Oper} {d : Bool} (hok : dstOK nt ops = true) (hord : d = true → orderOK P Γ ops = true) {τ : St}
    (hr : runSeq P Γ (dstsOf ops.toList) ops.toList σ.H.length (pre P ops.toList σ) = some τ) {Q : Exit → Act → World → Prop} (hQ : ∀ φ' a' w', Conc N0 w0 nt τ φ' a' w' → Q .normal a' w') : (Code.region id ops d).wp P Q a w := by
  rw [runSeq_runL P Γ _ _ _ 0] at hr
  have hops : ∀ x ∈ ann P σ.H.length 0 ops.toList, ops[x.2.1]? = some x.2.2 := fun x hx => by
    have := (ann_mem P _ _ _ x hx).2.2
    simpa using this
  have hp := ann_pair P ops.toList σ.H.length 0
  have hidx := ann_idx P ops.toList σ.H.length 0
  simp only [Nat.zero_add, Array.length_toList] at hidx
  have hidx' : (ann P σ.H.length 0 ops.toList).map (·.2.1) = List.range ops.size := by rw [hidx]; simp
  cases d with
  | false =>
    obtain ⟨φ', hc, hf, _⟩ := pre_sound (P := P) ops.toList 0 h
    refine wp_region ?_
    rw [← hidx']
    exact text_sound hΓ hfix hok hc hops hp hf hr hQ
  | true =>
    have hgr : Grew w { w with drawn := w.drawn + 1 } := Grew.drew w
    obtain ⟨φ', hc, hf, _⟩ := pre_sound (P := P) ops.toList 0 (h.grew hgr)
    refine wp_region_any hm ?_
    refine any_sound hΓ hfix hok (hord rfl) ops.size _ (L := ann P σ.H.length 0 ops.toList) ?_ ?_ hc hops hp hf hr hQ (by simp) (fun m o ho hm => by have := (Array.getElem?_eq_some_iff.1 ho).1; simp [this] at hm)
    · have := congrArg List.length hidx'
      simp at this
      omega
    · intro i
      have hmem : (∃ x ∈ ann P σ.H.length 0 ops.toList, x.2.1 = i) ↔ i < ops.size := by
        rw [← List.mem_range, ← hidx', List.mem_map]
      rw [hmem]
      by_cases hi : i < ops.size <;> simp [hi]
def GoodO (P : Program) (Γ : Tab) (ops : Array Oper) (B : List (Nat × Oper)) (q : St → Prop) : Nat → List Nat → St → Prop
  | 0, L, σ => L = [] ∧ q σ
  | f + 1, L, σ => ∀ i ∈ L, readyI ops L i = true → ∃ x σ', nthA B i = some x ∧ exec1 P Γ (dstsOf ops.toList) x.1 x.2 σ = some σ' ∧ GoodO P Γ ops B q f (L.erase i) σ'
theorem good_sim {ops : Array Oper} {B : List (Nat × Oper)} {q : St → Prop} (hq : ∀ {σ τ : St}, simS σ τ → q σ → q τ) : ∀ {f : Nat} {L : List Nat} {σ τ : St}, simS σ τ → GoodO P Γ ops B q f L σ → GoodO P Γ ops B q f L τ
  | 0, L, σ, τ, hs, h => ⟨h.1, hq hs h.2⟩
  | f + 1, L, σ, τ, hs, h => fun i hi hr => by
    obtain ⟨x, σ', h1, h2, h3⟩ := h i hi hr
    obtain ⟨τ', h4, h5⟩ := exec1_sim hs h2
    exact ⟨x, τ', h1, h4, good_sim hq h5 h3⟩
theorem ready_spec {ops : Array Oper} {L : List Nat} {i : Nat} (h : readyI ops L i = true) : ∃ o, ops[i]? = some o ∧ ∀ e ∈ o.after, Region.binds .any e = true → e.on ∉ L := by
  unfold readyI at h
  cases ho : ops[i]? with
  | none => rw [ho] at h; cases h
  | some o =>
    rw [ho] at h
    simp only [List.all_eq_true] at h
    refine ⟨o, rfl, fun e he hb hm => ?_⟩
    have := h e (by simpa using he)
    simp [hb, hm] at this
theorem ready_of {ops : Array Oper} {L : List Nat} {i : Nat} {o : Oper} (ho : ops[i]? = some o) (h : ∀ e ∈ o.after, Region.binds .any e = true → e.on ∉ L) : readyI ops L i = true := by
  unfold readyI
  rw [ho]
  simp only [List.all_eq_true]
  intro e he
  have := h e (by simpa using he)
  cases hb : Region.binds .any e with
  | false => rfl
  | true => simp [this hb]
theorem ready_erase {ops : Array Oper} {L : List Nat} {i j : Nat} (h : readyI ops L i = true) : readyI ops (L.erase j) i = true := by
  obtain ⟨o, ho, h1⟩ := ready_spec h
  exact ready_of ho fun e he hb hm => h1 e he hb (List.mem_of_mem_erase hm)
def Closed (ops : Array Oper) (L : List Nat) : Prop := ∀ (m : Nat) (o : Oper), ops[m]? = some o → m ∉ L → ∀ e ∈ o.after, Region.binds .any e = true → e.on ∉ L
theorem closed_erase {ops : Array Oper} {L : List Nat} {i : Nat} (hn : L.Nodup) (hc : Closed ops L) (hr : readyI ops L i = true) : Closed ops (L.erase i) := fun m o ho hm e he hb hme => by
  obtain ⟨o', ho', h1⟩ := ready_spec hr
  have hL := List.mem_of_mem_erase hme
  by_cases hmi : m = i
  · subst hmi
    rw [ho] at ho'
    obtain rfl := Option.some.inj ho'
    exact h1 e he hb hL
  · exact hc m o ho (fun hmL => hm ((List.mem_erase_of_ne hmi).2 hmL)) e he hb hL
theorem nthA_inj {ops : Array Oper} {B : List (Nat × Oper)} (hB : ∀ (i : Nat) (x : Nat × Oper), nthA B i = some x → ops[i]? = some x.2) {i : Nat} {x : Nat × Oper} {o : Oper} (h : nthA B i = some x) (ho : ops[i]? = some o) : x.2 = o := by
  have := hB i x h
  rw [ho] at this
  exact (Option.some.inj this).symm
def FreeB (B : List (Nat × Oper)) (L : List Nat) (σ : St) : Prop := ∀ i ∈ L, ∀ x, nthA B i = some x → allocOp x.2.op = true → nthO σ.H x.1 = some (.row 0 [])
theorem exec1_free {ds : List (Option Tmp)} {n m : Nat} {o : Oper} (hs : simpleOp P Γ o.op = true) (hne : allocOp o.op = true → n ≠ m) {σ' : St} (hr : exec1 P Γ ds n o σ = some σ') (hf : nthO σ.H m = some (.row 0 [])) : nthO σ'.H m = some (.row 0 []) := by
  unfold simpleOp at hs
  simp only [Bool.or_eq_true] at hs
  rcases hs with (hs | hs) | hs
  · rw [exec1_plainR hs] at hr
    obtain ⟨v, _, rfl⟩ := Option.map_eq_some_iff.1 hr
    rw [put_H]; exact hf
  · rw [exec1_allocH hs (hne hs) hr]; exact hf
  · rw [exec1_storeR hs] at hr
    obtain ⟨v, hv, rfl⟩ := Option.map_eq_some_iff.1 hr
    rw [put_H]
    cases v with
    | none => exact hf
    | some v =>
      have hvm : v.1 ≠ m := fun e => by
        unfold store1 at hv
        split at hv
        · cases hv
        · cases hv
        · split at hv
          · obtain ⟨z, hz, hzv⟩ := Option.map_eq_some_iff.1 hv
            obtain rfl := Option.some.inj hzv
            unfold store0 at hz
            split at hz
            · split at hz
              · rename_i hn
                split at hz
                · obtain rfl := Option.some.inj hz
                  simp only at e
                  subst e
                  rw [hf] at hn; cases hn
                · cases hz
              · cases hz
            · split at hz
              · rename_i k es hn
                obtain ⟨e', he', hz⟩ := Option.bind_eq_some_iff.1 hz
                split at hz
                · obtain rfl := Option.some.inj hz
                  simp only at e
                  subst e
                  rw [hf] at hn
                  cases hn
                  simp at he'
                · cases hz
              · cases hz
            · cases hz
          · cases hv
      show nthO (setO σ.H v.1 v.2) m = _
      rw [setO_eq, nthO_eq, List.getElem?_set_ne hvm, ← nthO_eq]; exact hf
theorem simple_at {ops : Array Oper} (h : simpleR P Γ ops = true) {i : Nat} {o : Oper} (ho : ops[i]? = some o) : simpleOp P Γ o.op = true := by
  unfold simpleR at h
  rw [List.all_eq_true] at h
  exact h o (by simpa using Array.mem_of_getElem? ho)
theorem FreeB.step {ops : Array Oper} {B : List (Nat × Oper)} {L : List Nat} (hS : simpleR P Γ ops = true) (hB : ∀ (i : Nat) (x : Nat × Oper), nthA B i = some x → ops[i]? = some x.2)
    (hBa : ∀ (i j : Nat) (x y : Nat × Oper), nthA B i = some x → nthA B j = some y → i ≠ j → allocs P x.2.op = true → allocs P y.2.op = true → x.1 ≠ y.1)
    (hn : L.Nodup) {j : Nat} {y : Nat × Oper} (hy : nthA B j = some y) {ds : List (Option Tmp)} {σ' : St} (hr : exec1 P Γ ds y.1 y.2 σ = some σ') (hf : FreeB B L σ) : FreeB B (L.erase j) σ' := fun i hi x hx ha => by
  have hij : i ≠ j := fun e => by subst e; exact absurd hi (List.Nodup.not_mem_erase hn)
  have al : ∀ op : Op, allocOp op = true → allocs P op = true := fun op h => by cases op <;> simp [allocOp] at h <;> rfl
  exact exec1_free (simple_at hS (hB j y hy)) (fun hb => hBa j i y x hy hx (Ne.symm hij) (al _ hb) (al _ ha)) hr (hf i (List.mem_of_mem_erase hi) x hx ha)
theorem good_front {ops : Array Oper} {B : List (Nat × Oper)} {q : St → Prop} (hq : ∀ {σ τ : St}, simS σ τ → q σ → q τ) (hB : ∀ (i : Nat) (x : Nat × Oper), nthA B i = some x → ops[i]? = some x.2)
    (hBa : ∀ (i j : Nat) (x y : Nat × Oper), nthA B i = some x → nthA B j = some y → i ≠ j → allocs P x.2.op = true → allocs P y.2.op = true → x.1 ≠ y.1) :
    ∀ {f : Nat} {L : List Nat} {i : Nat} {x : Nat × Oper} {σ σ1 : St}, L.Nodup → (simpleR P Γ ops = true → FreeB B L σ) → Closed ops L → i ∈ L → readyI ops L i = true → (∀ y ∈ L, y ≠ i → ((ancs ops.toList []).getD y 0).testBit i = true ∨ commI P Γ ops i y = true) →
    nthA B i = some x → exec1 P Γ (dstsOf ops.toList) x.1 x.2 σ = some σ1 → GoodO P Γ ops B q f (L.erase i) σ1 → GoodO P Γ ops B q (f + 1) L σ := by
  intro f
  induction f with
  | zero =>
    intro L i x σ σ1 hn hfr hc hi hr hcom hx h1 hg j hj hrj
    have hL : L.erase i = [] := hg.1
    by_cases hji : j = i
    · subst hji; exact ⟨x, σ1, hx, h1, hg⟩
    · have := (List.mem_erase_of_ne hji).2 hj
      rw [hL] at this; cases this
  | succ f ih =>
    intro L i x σ σ1 hn hfr hc hi hr hcom hx h1 hg j hj hrj
    by_cases hji : j = i
    · subst hji; exact ⟨x, σ1, hx, h1, hg⟩
    · have hje := (List.mem_erase_of_ne hji).2 hj
      obtain ⟨y, σ2, hy, h2, hg2⟩ := hg j hje (ready_erase hrj)
      have hcm : commI P Γ ops i j = true := by
        rcases hcom j hj hji with h | h
        · exfalso
          obtain ⟨o, ho, hdone⟩ := ready_spec hrj
          exact ancs_spec (ops := ops) (D := fun m => m ∉ L) (fun m o ho hm e he hb => hc m o ho hm e he hb) (os := ops.toList) (ps := []) (aq := []) rfl rfl (fun m o hm => absurd hm (by simp)) j o ho hdone i h hi
        · exact h
      obtain ⟨oi, hoi, _⟩ := ready_spec hr
      obtain ⟨oj, hoj, _⟩ := ready_spec hrj
      have e1 := nthA_inj hB hx hoi
      have e2 := nthA_inj hB hy hoj
      unfold commI at hcm
      rw [hoi, hoj] at hcm
      simp only [Bool.and_eq_true, Bool.or_eq_true] at hcm
      obtain ⟨hk, hap⟩ := hcm
      rw [e1] at h1
      rw [e2] at h2
      have hsw : ∃ σ1' σ2', exec1 P Γ (dstsOf ops.toList) y.1 oj σ = some σ1' ∧ exec1 P Γ (dstsOf ops.toList) x.1 oi σ1' = some σ2' ∧ simS σ2 σ2' := by
        rcases hk with (⟨k1, k2⟩ | ⟨k1, k2⟩) | ⟨⟨k0, k1⟩, k2⟩
        · exact swap1 k1 k2 hap h1 h2
        · exact swapS k1 k2 hap h1 h2
        · exact swapA k1 k2 hap (hfr k0 j hj y hy (by rw [e2]; exact k2)) h1 h2
      obtain ⟨σ1', σ2', g1, g2, gs⟩ := hsw
      refine ⟨y, σ1', hy, by rw [e2]; exact g1, ?_⟩
      refine ih (L := L.erase j) (i := i) (x := x) (σ1 := σ2') (hn.erase j) (fun hS => FreeB.step hS hB hBa hn hy (by rw [e2]; exact g1) (hfr hS)) (closed_erase hn hc hrj) ((List.mem_erase_of_ne (Ne.symm hji)).2 hi) (ready_erase hr) (fun z hz hzi => hcom z (List.mem_of_mem_erase hz) hzi) hx (by rw [e1]; exact g2) ?_
      rw [List.erase_comm]
      exact good_sim hq gs hg2
theorem cov_sound {ops : Array Oper} {B : List (Nat × Oper)} {q : St → Prop} (hq : ∀ {σ τ : St}, simS σ τ → q σ → q τ) (hB : ∀ (i : Nat) (x : Nat × Oper), nthA B i = some x → ops[i]? = some x.2)
    (hBa : ∀ (i j : Nat) (x y : Nat × Oper), nthA B i = some x → nthA B j = some y → i ≠ j → allocs P x.2.op = true → allocs P y.2.op = true → x.1 ≠ y.1) :
    ∀ {f : Nat} {L : List Nat} {rs : List (List Nat)} {σ : St}, L.Nodup → (simpleR P Γ ops = true → FreeB B L σ) → Closed ops L → cov P Γ ops (ancs ops.toList []) f L rs = true → (∀ r ∈ rs, ∃ τ, runO P Γ (dstsOf ops.toList) B r σ = some τ ∧ q τ) → GoodO P Γ ops B q f L σ := by
  intro f
  induction f with
  | zero =>
    intro L rs σ hn hfr hc h hr
    simp only [cov, Bool.and_eq_true] at h
    obtain ⟨⟨h1, h2⟩, h3⟩ := h
    cases rs with
    | nil => simp at h2
    | cons r rs =>
      obtain ⟨τ, hτ, hqτ⟩ := hr r (by simp)
      have hre : r = [] := by
        have := (List.all_eq_true.1 h3) r (by simp)
        simpa using this
      subst hre
      simp only [runO, Option.some.injEq] at hτ
      subst hτ
      exact ⟨by simpa using h1, hqτ⟩
  | succ f ih =>
    intro L rs σ hn hfr hc h hr
    cases rs with
    | nil => simp [cov] at h
    | cons r0 rs =>
      cases r0 with
      | nil => simp [cov] at h
      | cons i r0 =>
        simp only [cov] at h
        split at h
        · rename_i hs
          simp only [Bool.and_eq_true, List.all_eq_true] at hs
          obtain ⟨⟨⟨s1, s2⟩, s3⟩, s4⟩ := hs
          obtain ⟨τ, hτ, _⟩ := hr (i :: r0) (by simp)
          simp only [runO] at hτ
          cases hx : nthA B i with
          | none => rw [hx] at hτ; simp at hτ
          | some x =>
            rw [hx] at hτ
            simp only [Option.bind_some] at hτ
            cases h1 : exec1 P Γ (dstsOf ops.toList) x.1 x.2 σ with
            | none => rw [h1] at hτ; simp at hτ
            | some σ1 =>
              refine good_front hq hB hBa hn hfr hc (by simpa using s2) s3 (fun y hy hne => ?_) hx h1 (ih (hn.erase i) (fun hS => FreeB.step hS hB hBa hn hx h1 (hfr hS)) (closed_erase hn hc s3) h fun r' hr' => ?_)
              · have := s4 y hy
                simp only [Bool.or_eq_true, beq_iff_eq] at this
                rcases this with (h | h) | h
                · exact absurd h hne
                · exact .inl h
                · exact .inr h
              · obtain ⟨r, hrm, rfl⟩ := List.mem_map.1 hr'
                obtain ⟨τ', hτ', hq'⟩ := hr r hrm
                have hh := s1 r hrm
                cases r with
                | nil => simp at hh
                | cons k r =>
                  have : k = i := by simpa using hh
                  subst this
                  simp only [runO, hx, Option.bind_some, h1] at hτ'
                  exact ⟨τ', hτ', hq'⟩
        · rename_i hs
          rw [List.all_eq_true] at h
          intro j hj hrj
          have hcj := h j hj
          rw [hrj] at hcj
          simp only [Bool.not_true, Bool.false_or] at hcj
          -- some order begins with j
          have hne : ∃ r, r ∈ (List.filterMap (fun r : List Nat => if r.head? = some j then some r.tail else none) ((i :: r0) :: rs)) := by
            cases hf : (List.filterMap (fun r : List Nat => if r.head? = some j then some r.tail else none) ((i :: r0) :: rs)) with
            | nil =>
              rw [hf] at hcj
              cases f <;> simp [cov] at hcj
            | cons a aq => exact ⟨a, by simp⟩
          have back : ∀ r', r' ∈ (List.filterMap (fun r : List Nat => if r.head? = some j then some r.tail else none) ((i :: r0) :: rs)) → ∃ τ, runO P Γ (dstsOf ops.toList) B (j :: r') σ = some τ ∧ q τ := fun r' hr' => by
            obtain ⟨r, hrm, hh⟩ := List.mem_filterMap.1 hr'
            split at hh
            · rename_i hd
              obtain rfl := Option.some.inj hh
              cases r with
              | nil => simp at hd
              | cons k r =>
                have : k = j := by simpa using hd
                subst this
                exact hr _ hrm
            · cases hh
          obtain ⟨r1, hr1⟩ := hne
          obtain ⟨τ, hτ, _⟩ := back r1 hr1
          simp only [runO] at hτ
          cases hx : nthA B j with
          | none => rw [hx] at hτ; simp at hτ
          | some x =>
            rw [hx] at hτ
            simp only [Option.bind_some] at hτ
            cases h1 : exec1 P Γ (dstsOf ops.toList) x.1 x.2 σ with
            | none => rw [h1] at hτ; simp at hτ
            | some σ1 =>
              refine ⟨x, σ1, rfl, h1, ih (hn.erase j) (fun hS => FreeB.step hS hB hBa hn hx h1 (hfr hS)) (closed_erase hn hc hrj) hcj fun r' hr' => ?_⟩
              obtain ⟨τ', hτ', hq'⟩ := back r' hr'
              simp only [runO, hx, Option.bind_some, h1] at hτ'
              exact ⟨τ', hτ', hq'⟩
theorem nthA_annS : ∀ (os : List Oper) (n i : Nat) (x : Nat × Oper), nthA (annS P n os) i = some x → os[i]? = some x.2 ∧ n ≤ x.1
  | [], _, _, _, h => by simp [annS, nthA] at h
  | o :: os, n, 0, x, h => by
    simp only [annS, nthA, Option.some.injEq] at h
    subst h; exact ⟨rfl, Nat.le_refl _⟩
  | o :: os, n, i + 1, x, h => by
    simp only [annS, nthA] at h
    obtain ⟨h1, h2⟩ := nthA_annS os _ i x h
    exact ⟨by simpa using h1, Nat.le_trans (nxt_le P o.op n) h2⟩
theorem nthA_apart : ∀ (os : List Oper) (n i j : Nat) (x y : Nat × Oper), nthA (annS P n os) i = some x → nthA (annS P n os) j = some y → i ≠ j → allocs P x.2.op = true → allocs P y.2.op = true → x.1 ≠ y.1
  | [], _, _, _, _, _, h, _, _, _, _ => by simp [annS, nthA] at h
  | o :: os, n, 0, 0, x, y, _, _, h, _, _ => absurd rfl h
  | o :: os, n, 0, j + 1, x, y, h, h', _, ha, _ => by
    simp only [annS, nthA, Option.some.injEq] at h h'
    subst h
    have := (nthA_annS os _ j y h').2
    have h2 : nxt P o.op n = n + 1 := by unfold nxt; rw [if_pos ha]
    show n ≠ y.1
    omega
  | o :: os, n, i + 1, 0, x, y, h, h', _, _, ha => by
    simp only [annS, nthA, Option.some.injEq] at h h'
    subst h'
    have := (nthA_annS os _ i x h).2
    have h2 : nxt P o.op n = n + 1 := by unfold nxt; rw [if_pos ha]
    show x.1 ≠ n
    omega
  | o :: os, n, i + 1, j + 1, x, y, h, h', hne, ha, hb => by
    simp only [annS, nthA] at h h'
    exact nthA_apart os _ i j x y h h' (by omega) ha hb
theorem nthA_ann : ∀ (os : List Oper) (n k i : Nat) (x : Nat × Oper), nthA (annS P n os) i = some x → (x.1, k + i, x.2) ∈ ann P n k os
  | [], _, _, _, _, h => by simp [annS, nthA] at h
  | o :: os, n, k, 0, x, h => by
    simp only [annS, nthA, Option.some.injEq] at h
    subst h; simp [ann]
  | o :: os, n, k, i + 1, x, h => by
    simp only [annS, nthA] at h
    have := nthA_ann os _ (k + 1) i x h
    simp only [ann, List.mem_cons]
    right
    rwa [show k + 1 + i = k + (i + 1) by omega] at this
theorem good_sound (hΓ : TabOK P Γ) (hfix : w0.fix = Γ.fix) {ops : Array Oper} (hok : dstOK nt ops = true) {B : List (Nat × Oper)} (hB : ∀ (i : Nat) (x : Nat × Oper), nthA B i = some x → ops[i]? = some x.2)
    (hBa : ∀ (i j : Nat) (x y : Nat × Oper), nthA B i = some x → nthA B j = some y → i ≠ j → allocs P x.2.op = true → allocs P y.2.op = true → x.1 ≠ y.1)
    (hlow : ∀ (i : Nat) (o : Oper), ops[i]? = some o → ∀ e ∈ o.after, Region.binds .any e = true → e.on < i) {q : St → Prop} {Q : Exit → Act → World → Prop} (hQ : ∀ τ φ' a' w', q τ → Conc N0 w0 nt τ φ' a' w' → Q .normal a' w') :
    ∀ (f fuel : Nat) (listed : Array Bool) {L : List Nat} {σ : St} {φ : List Own} {a : Act} {w : World}, L.length = f → f ≤ fuel → L.Nodup → (∀ i, listed.getD i true = false ↔ i ∈ L) → (∀ i ∈ L, i < ops.size) →
    Conc N0 w0 nt σ φ a w → (∀ i ∈ L, ∀ x, nthA B i = some x → allocs P x.2.op = true → φ[x.1]? = some .free) → GoodO P Γ ops B q f L σ → listed.size = ops.size → wpAny P .any ops Q fuel listed a w := by
  intro f
  induction f with
  | zero =>
    intro fuel listed L σ φ a w hlen hfu hn hl hsz hc hf hg hls
    have hnone : Region.ready .any ops listed = [] := by
      rw [List.eq_nil_iff_forall_not_mem]
      intro i hi
      have := (hl i).1 (mem_ready.1 hi).1
      rw [hg.1] at this; cases this
    cases fuel with
    | zero => exact ⟨hnone, hQ _ _ _ _ hg.2 hc⟩
    | succ fuel => exact ⟨fun _ => hQ _ _ _ _ hg.2 hc, fun i hi => by rw [hnone] at hi; cases hi⟩
  | succ f ih =>
    intro fuel listed L σ φ a w hlen hfu hn hl hsz hc hf hg hls
    cases fuel with
    | zero => omega
    | succ fuel =>
      have toReady : ∀ i ∈ L, readyI ops L i = true → i ∈ Region.ready .any ops listed := fun i hi hr => by
        obtain ⟨o, ho, h1⟩ := ready_spec hr
        rw [mem_ready]
        refine ⟨(hl i).2 hi, o, ho, fun e he hb => ?_⟩
        have h2 := h1 e he hb
        have h3 : listed.getD e.on true = true := by
          cases hg : listed.getD e.on true
          · exact absurd ((hl e.on).1 hg) h2
          · rfl
        have h4 := hlow i o ho e he hb
        have h5 : e.on < listed.size := by rw [hls]; have := hsz i hi; omega
        simpa [h5] using h3
      refine ⟨fun hnil => ?_, fun i hi => ?_⟩
      · exfalso
        -- the least of those that are left is ready
        have hne : L ≠ [] := fun e => by rw [e] at hlen; simp at hlen
        obtain ⟨m, hm, hmin⟩ : ∃ m ∈ L, ∀ y ∈ L, m ≤ y := by
          clear hg hf hl hn hlen hfu toReady hsz
          induction L with
          | nil => exact absurd rfl hne
          | cons x L ih2 =>
            cases L with
            | nil => exact ⟨x, by simp, fun y hy => by simp at hy; omega⟩
            | cons z L =>
              obtain ⟨m, hm, hmin⟩ := ih2 (by simp)
              by_cases hxm : x ≤ m
              · exact ⟨x, by simp, fun y hy => by
                  rcases List.mem_cons.1 hy with rfl | hy
                  · exact Nat.le_refl _
                  · have := hmin y hy; omega⟩
              · exact ⟨m, by simp [hm], fun y hy => by
                  rcases List.mem_cons.1 hy with rfl | hy
                  · omega
                  · exact hmin y hy⟩
        have hms := hsz m hm
        have := toReady m hm (ready_of (Array.getElem?_eq_getElem hms) fun e he hb hmem => by
          have h1 := hlow m _ (Array.getElem?_eq_getElem hms) e he hb
          have h2 := hmin _ hmem
          omega)
        rw [hnil] at this; cases this
      · obtain ⟨hun, oi, hoi, hall⟩ := mem_ready.1 hi
        have hiL := (hl i).1 hun
        have hri : readyI ops L i = true := ready_of hoi fun e he hb hmem => by
          have h1 := hall e he hb
          have h2 := (hl e.on).2 hmem
          have h4 := hlow i oi hoi e he hb
          have h5 : e.on < listed.size := by rw [hls]; have := hsz i hiL; omega
          simp [h5] at h1 h2
          rw [h1] at h2; cases h2
        obtain ⟨x, σ1, hx, h1, hg1⟩ := hg i hiL hri
        have hxo : ops[i]? = some x.2 := hB i x hx
        refine step_sound hΓ hfix hc hok (x := (x.1, i, x.2)) hxo (L := ((L.erase i).filterMap fun j => (nthA B j).map fun y => (y.1, j, y.2))) (fun ha => hf i hiL x hx ha) (fun y hy ha => ?_) (fun y hy ha hb => ?_) h1 fun φ' a' w' hc' hf' => ?_
        · obtain ⟨j, hj, hy'⟩ := List.mem_filterMap.1 hy
          obtain ⟨y', hy1, rfl⟩ := Option.map_eq_some_iff.1 hy'
          exact hf j (List.mem_of_mem_erase hj) y' hy1 ha
        · obtain ⟨j, hj, hy'⟩ := List.mem_filterMap.1 hy
          obtain ⟨y', hy1, rfl⟩ := Option.map_eq_some_iff.1 hy'
          have hji : j ≠ i := fun e => by subst e; exact absurd hj (List.Nodup.not_mem_erase hn)
          exact hBa j i y' x hy1 hx hji hb ha
        · refine ih fuel (listed.setIfInBounds i true) (L := L.erase i) (by rw [List.length_erase_of_mem hiL]; omega) (by omega) (hn.erase i) ?_ (fun j hj => hsz j (List.mem_of_mem_erase hj)) hc' (fun j hj y hy ha => hf' (y.1, j, y.2) (List.mem_filterMap.2 ⟨j, hj, by rw [hy]; rfl⟩) ha) hg1 (by simp [hls])
          intro j
          have his : i < listed.size := by rw [hls]; exact hsz i hiL
          by_cases hij : i = j
          · subst hij
            constructor
            · intro h; simp [his] at h
            · intro h; exact absurd h (List.Nodup.not_mem_erase hn)
          · rw [getD_set_ne true hij, hl j, List.mem_erase_of_ne (Ne.symm hij)]
def GoodD (P : Program) (Γ : Tab) (ops : Array Oper) (B : List (Nat × Oper)) (q : St → Prop) (D : List (Nat × Nat)) : Nat → List Nat → St → Prop
  | 0, L, σ => L = [] ∧ q σ
  | f + 1, L, σ => ∀ i ∈ L, readyI ops L i = true → blkD D L i = false → ∃ x σ', nthA B i = some x ∧ exec1 P Γ (dstsOf ops.toList) x.1 x.2 σ = some σ' ∧ GoodD P Γ ops B q D f (L.erase i) σ'
theorem goodD_sim {ops : Array Oper} {B : List (Nat × Oper)} {q : St → Prop} {D : List (Nat × Nat)} (hq : ∀ {σ τ : St}, simS σ τ → q σ → q τ) : ∀ {f : Nat} {L : List Nat} {σ τ : St}, simS σ τ → GoodD P Γ ops B q D f L σ → GoodD P Γ ops B q D f L τ
  | 0, L, σ, τ, hs, h => ⟨h.1, hq hs h.2⟩
  | f + 1, L, σ, τ, hs, h => fun i hi hr hb => by
    obtain ⟨x, σ', h1, h2, h3⟩ := h i hi hr hb
    obtain ⟨τ', h4, h5⟩ := exec1_sim hs h2
    exact ⟨x, τ', h1, h4, goodD_sim hq h5 h3⟩
theorem goodD_nil {ops : Array Oper} {B : List (Nat × Oper)} {q : St → Prop} : ∀ {f : Nat} {L : List Nat} {σ : St}, GoodD P Γ ops B q [] f L σ → GoodO P Γ ops B q f L σ
  | 0, L, σ, h => h
  | f + 1, L, σ, h => fun i hi hr => by
    obtain ⟨x, σ', h1, h2, h3⟩ := h i hi hr rfl
    exact ⟨x, σ', h1, h2, goodD_nil h3⟩
theorem goodD_drop {ops : Array Oper} {B : List (Nat × Oper)} {q : St → Prop} {D : List (Nat × Nat)} {c i : Nat} : ∀ {f : Nat} {L : List Nat} {σ : St}, c ∉ L → GoodD P Γ ops B q ((c, i) :: D) f L σ → GoodD P Γ ops B q D f L σ
  | 0, L, σ, _, h => h
  | f + 1, L, σ, hc, h => fun j hj hr hb => by
    have hcl : L.contains c = false := by simpa using hc
    obtain ⟨x, σ', h1, h2, h3⟩ := h j hj hr (by unfold blkD at hb ⊢; rw [List.any_cons, hb, hcl, Bool.and_false, Bool.false_or])
    exact ⟨x, σ', h1, h2, goodD_drop (fun hm => hc (List.mem_of_mem_erase hm)) h3⟩
theorem blkD_erase {D : List (Nat × Nat)} {L : List Nat} {j i : Nat} (h : blkD D L j = false) : blkD D (L.erase i) j = false := by
  unfold blkD at h ⊢
  rw [List.any_eq_false] at h ⊢
  intro p hp hh
  refine h p hp ?_
  simp only [Bool.and_eq_true] at hh ⊢
  refine ⟨hh.1, ?_⟩
  have := hh.2
  simp only [List.contains_iff_mem] at this ⊢
  exact List.mem_of_mem_erase this
theorem good_split {ops : Array Oper} {B : List (Nat × Oper)} {q : St → Prop} (hq : ∀ {σ τ : St}, simS σ τ → q σ → q τ) (hB : ∀ (i : Nat) (x : Nat × Oper), nthA B i = some x → ops[i]? = some x.2)
    (hBa : ∀ (i j : Nat) (x y : Nat × Oper), nthA B i = some x → nthA B j = some y → i ≠ j → allocs P x.2.op = true → allocs P y.2.op = true → x.1 ≠ y.1) (oc : Option Nat) :
    ∀ {f : Nat} {L : List Nat} {D : List (Nat × Nat)} {i : Nat} {x : Nat × Oper} {σ σ1 : St}, L.Nodup → (simpleR P Γ ops = true → FreeB B L σ) → Closed ops L → i ∈ L → readyI ops L i = true → blkD D L i = false → oc ≠ some i →
    (∀ y ∈ L, y ≠ i → oc ≠ some y → ((ancs ops.toList []).getD y 0).testBit i = true ∨ commI P Γ ops i y = true ∨ ∃ z, (i, z) ∈ D ∧ z ∈ L ∧ (z = y ∨ ((ancs ops.toList []).getD y 0).testBit z = true)) →
    nthA B i = some x → exec1 P Γ (dstsOf ops.toList) x.1 x.2 σ = some σ1 → GoodD P Γ ops B q D f (L.erase i) σ1 → (∀ c, oc = some c → GoodD P Γ ops B q ((c, i) :: D) (f + 1) L σ) → GoodD P Γ ops B q D (f + 1) L σ := by
  intro f
  induction f with
  | zero =>
    intro L D i x σ σ1 hn hfr hc hi hr hb hoi hcom hx h1 hg hg2 j hj hrj hbj
    have hL : L.erase i = [] := hg.1
    by_cases hji : j = i
    · subst hji; exact ⟨x, σ1, hx, h1, hg⟩
    · have := (List.mem_erase_of_ne hji).2 hj
      rw [hL] at this; cases this
  | succ f ih =>
    intro L D i x σ σ1 hn hfr hc hi hr hb hoi hcom hx h1 hg hg2 j hj hrj hbj
    by_cases hji : j = i
    · subst hji; exact ⟨x, σ1, hx, h1, hg⟩
    · by_cases hoj : oc = some j
      · obtain ⟨y, σ2, hy, h2, G2⟩ := hg2 j hoj j hj hrj (by
          unfold blkD at hbj ⊢
          rw [List.any_cons, hbj, Bool.or_false]
          have : (i == j) = false := by simpa using fun e => hji e.symm
          simp [this])
        exact ⟨y, σ2, hy, h2, goodD_drop (List.Nodup.not_mem_erase hn) G2⟩
      · have hje := (List.mem_erase_of_ne hji).2 hj
        obtain ⟨y, σ2, hy, h2, hgj⟩ := hg j hje (ready_erase hrj) (blkD_erase hbj)
        have hcm : commI P Γ ops i j = true := by
          have hanc : ∀ z, z ∈ L → ((ancs ops.toList []).getD j 0).testBit z = true → False := fun z hz h => by
            obtain ⟨o, ho, hdone⟩ := ready_spec hrj
            exact ancs_spec (ops := ops) (D := fun m => m ∉ L) (fun m o ho hm e he hb => hc m o ho hm e he hb) (os := ops.toList) (ps := []) (aq := []) rfl rfl (fun m o hm => absurd hm (by simp)) j o ho hdone z h hz
          rcases hcom j hj hji hoj with h | h | ⟨z, hz, hzL, h⟩
          · exact (hanc i hi h).elim
          · exact h
          · rcases h with rfl | h
            · unfold blkD at hbj
              rw [List.any_eq_false] at hbj
              exact absurd (by simpa using hi) (hbj (i, z) hz)
            · exact (hanc z hzL h).elim
        obtain ⟨oi, hoi', _⟩ := ready_spec hr
        obtain ⟨oj, hoj', _⟩ := ready_spec hrj
        have e1 := nthA_inj hB hx hoi'
        have e2 := nthA_inj hB hy hoj'
        unfold commI at hcm
        rw [hoi', hoj'] at hcm
        simp only [Bool.and_eq_true, Bool.or_eq_true] at hcm
        obtain ⟨hk, hap⟩ := hcm
        rw [e1] at h1
        rw [e2] at h2
        have hsw : ∃ σ1' σ2', exec1 P Γ (dstsOf ops.toList) y.1 oj σ = some σ1' ∧ exec1 P Γ (dstsOf ops.toList) x.1 oi σ1' = some σ2' ∧ simS σ2 σ2' := by
          rcases hk with (⟨k1, k2⟩ | ⟨k1, k2⟩) | ⟨⟨k0, k1⟩, k2⟩
          · exact swap1 k1 k2 hap h1 h2
          · exact swapS k1 k2 hap h1 h2
          · exact swapA k1 k2 hap (hfr k0 j hj y hy (by rw [e2]; exact k2)) h1 h2
        obtain ⟨σ1', σ2', g1, g2, gs⟩ := hsw
        have g1' : exec1 P Γ (dstsOf ops.toList) y.1 y.2 σ = some σ1' := by rw [e2]; exact g1
        refine ⟨y, σ1', hy, g1', ?_⟩
        refine ih (L := L.erase j) (D := D) (i := i) (x := x) (σ1 := σ2') (hn.erase j) (fun hS => FreeB.step hS hB hBa hn hy g1' (hfr hS)) (closed_erase hn hc hrj) ((List.mem_erase_of_ne (Ne.symm hji)).2 hi) (ready_erase hr) (blkD_erase hb) hoi (fun z hz hzi hoz => by
          rcases hcom z (List.mem_of_mem_erase hz) hzi hoz with h | h | ⟨u, hu, huL, h⟩
          · exact .inl h
          · exact .inr (.inl h)
          · refine .inr (.inr ⟨u, hu, (List.mem_erase_of_ne ?_).2 huL, h⟩)
            rintro rfl
            unfold blkD at hbj
            rw [List.any_eq_false] at hbj
            exact absurd (by simpa using hi) (hbj (i, u) hu)) hx (by rw [e1]; exact g2) ?_ ?_
        · rw [List.erase_comm]
          exact goodD_sim hq gs hgj
        · intro c hoc
          obtain ⟨y', σ2'', hy', h2', G2⟩ := hg2 c hoc j hj hrj (by
            unfold blkD at hbj ⊢
            rw [List.any_cons, hbj, Bool.or_false]
            have : (i == j) = false := by simpa using fun e => hji e.symm
            simp [this])
          rw [hy] at hy'
          obtain rfl := Option.some.inj hy'
          rw [g1'] at h2'
          obtain rfl := Option.some.inj h2'
          exact G2
theorem cov2_sound {ops : Array Oper} {B : List (Nat × Oper)} {q : St → Prop} (hq : ∀ {σ τ : St}, simS σ τ → q σ → q τ) (hB : ∀ (i : Nat) (x : Nat × Oper), nthA B i = some x → ops[i]? = some x.2)
    (hBa : ∀ (i j : Nat) (x y : Nat × Oper), nthA B i = some x → nthA B j = some y → i ≠ j → allocs P x.2.op = true → allocs P y.2.op = true → x.1 ≠ y.1) :
    ∀ {F : Nat} {L : List Nat} {D : List (Nat × Nat)} {rs : List (List Nat)} {σ : St}, L.Nodup → (simpleR P Γ ops = true → FreeB B L σ) → Closed ops L → cov2 P Γ ops (ancs ops.toList []) F L D rs = true → (∀ r ∈ rs, ∃ τ, runO P Γ (dstsOf ops.toList) B r σ = some τ ∧ q τ) → GoodD P Γ ops B q D L.length L σ := by
  intro F
  induction F with
  | zero => intro L D rs σ hn hfr hc h hr; simp [cov2] at h
  | succ F ih =>
    intro L D rs σ hn hfr hc h hr
    cases rs with
    | nil => simp [cov2] at h
    | cons r0 rs =>
      cases r0 with
      | nil =>
        simp only [cov2, Bool.and_eq_true, List.isEmpty_iff] at h
        obtain ⟨rfl, _⟩ := h
        obtain ⟨τ, hτ, hqτ⟩ := hr [] (by simp)
        simp only [runO, Option.some.injEq] at hτ
        subst hτ
        exact ⟨rfl, hqτ⟩
      | cons i r0 =>
        simp only [cov2, Bool.and_eq_true, Bool.not_eq_true'] at h
        obtain ⟨⟨⟨s2, s3⟩, s5⟩, h⟩ := h
        have hi : i ∈ L := by simpa using s2
        have hlen : L.length = (L.erase i).length + 1 := by
          rw [List.length_erase_of_mem hi]
          have := List.length_pos_of_mem hi
          omega
        obtain ⟨τ, hτ, _⟩ := hr (i :: r0) (by simp)
        simp only [runO] at hτ
        cases hx : nthA B i with
        | none => rw [hx] at hτ; simp at hτ
        | some x =>
          rw [hx] at hτ
          simp only [Option.bind_some] at hτ
          cases h1 : exec1 P Γ (dstsOf ops.toList) x.1 x.2 σ with
          | none => rw [h1] at hτ; simp at hτ
          | some σ1 =>
            have step : ∀ r, (i :: r) ∈ (i :: r0) :: rs → ∃ τ, runO P Γ (dstsOf ops.toList) B r σ1 = some τ ∧ q τ := fun r hrm => by
              obtain ⟨τ', hτ', hq'⟩ := hr _ hrm
              simp only [runO, hx, Option.bind_some, h1] at hτ'
              exact ⟨τ', hτ', hq'⟩
            rw [hlen]
            generalize hcs : L.filter (fun y => !(y == i || ((ancs ops.toList []).getD y 0).testBit i || commI P Γ ops i y || D.any fun p => p.1 == i && L.contains p.2 && (p.2 == y || ((ancs ops.toList []).getD y 0).testBit p.2))) = cs at h
            have hin : ∀ y ∈ L, y ≠ i → y ∉ cs → ((ancs ops.toList []).getD y 0).testBit i = true ∨ commI P Γ ops i y = true ∨ ∃ z, (i, z) ∈ D ∧ z ∈ L ∧ (z = y ∨ ((ancs ops.toList []).getD y 0).testBit z = true) := fun y hy hne hyc => by
              rw [← hcs, List.mem_filter] at hyc
              have hb : (y == i) = false := by simpa using hne
              cases ha : ((ancs ops.toList []).getD y 0).testBit i with
              | true => exact .inl rfl
              | false =>
                cases hcm : commI P Γ ops i y with
                | true => exact .inr (.inl rfl)
                | false =>
                  cases hd : (D.any fun p => p.1 == i && L.contains p.2 && (p.2 == y || ((ancs ops.toList []).getD y 0).testBit p.2)) with
                  | false => exact absurd ⟨hy, by rw [hb, ha, hcm, hd]; rfl⟩ hyc
                  | true =>
                    obtain ⟨⟨p1, p2⟩, hp, hpp⟩ := List.any_eq_true.1 hd
                    simp only [Bool.and_eq_true, Bool.or_eq_true, beq_iff_eq, List.contains_iff_mem] at hpp
                    obtain ⟨⟨rfl, h2⟩, h3⟩ := hpp
                    exact .inr (.inr ⟨p2, hp, h2, h3⟩)
            match cs, h, hcs, hin with
            | [], h, hcs, hin =>
              simp only [Bool.and_eq_true, List.all_eq_true] at h
              obtain ⟨hall, hcov⟩ := h
              refine good_split hq hB hBa none hn hfr hc hi s3 s5 (by simp) (fun y hy hne _ => hin y hy hne (by simp)) hx h1 (ih (hn.erase i) (fun hS => FreeB.step hS hB hBa hn hx h1 (hfr hS)) (closed_erase hn hc s3) hcov fun r' hr' => ?_) (fun c hc => by cases hc)
              obtain ⟨r, hrm, rfl⟩ := List.mem_map.1 hr'
              have hh := hall r hrm
              cases r with
              | nil => simp at hh
              | cons k r =>
                have : k = i := by simpa using hh
                subst this
                exact step r hrm
            | [c], h, hcs, hin =>
              simp only [Bool.and_eq_true] at h
              obtain ⟨hc1, hc2⟩ := h
              have hci : c ≠ i := fun e => by
                have : c ∈ L.filter (fun y => !(y == i || ((ancs ops.toList []).getD y 0).testBit i || commI P Γ ops i y || D.any fun p => p.1 == i && L.contains p.2 && (p.2 == y || ((ancs ops.toList []).getD y 0).testBit p.2))) := by rw [hcs]; simp
                rw [List.mem_filter] at this
                subst e
                simp at this
              refine good_split hq hB hBa (some c) hn hfr hc hi s3 s5 (by simpa using hci) (fun y hy hne hyc => hin y hy hne (by simp only [List.mem_cons, List.not_mem_nil, or_false]; intro e; exact hyc (by rw [e]))) hx h1 (ih (hn.erase i) (fun hS => FreeB.step hS hB hBa hn hx h1 (hfr hS)) (closed_erase hn hc s3) hc1 fun r' hr' => ?_) (fun c' hc' => ?_)
              · obtain ⟨r, hrm, hh⟩ := List.mem_filterMap.1 hr'
                split at hh
                · rename_i hd
                  obtain rfl := Option.some.inj hh
                  cases r with
                  | nil => simp at hd
                  | cons k r =>
                    have : k = i := by simpa using hd
                    subst this
                    exact step r hrm
                · cases hh
              · obtain rfl := Option.some.inj hc'
                have := ih (D := (c, i) :: D) hn hfr hc hc2 fun r hrm => hr r (List.mem_filter.1 hrm).1
                rw [hlen] at this
                exact this
            | _ :: _ :: _, h, _, _ => cases h
theorem ordsW_iff {ds : List (Option Tmp)} {B : List (Nat × Oper)} {q : St → Prop} : ∀ {os : List (List Nat)}, ordsW P Γ ds B σ q os → ∀ r ∈ os, ∃ τ, runO P Γ ds B r σ = some τ ∧ q τ
  | [], _, r, hr => by cases hr
  | o :: os, h, r, hr => by
    obtain ⟨⟨τ, h1, h2⟩, h3⟩ := h
    rcases List.mem_cons.1 hr with rfl | hr
    · exact ⟨τ, h1, h2⟩
    · exact ordsW_iff h3 r hr
theorem region_sound_ords (hΓ : TabOK P Γ) (hfix : w0.fix = Γ.fix) (hm : P.follows .mixedOrders = true) (h : Conc N0 w0 nt σ φ a w) {id : Nat} {ops : Array Oper} (hok : dstOK nt ops = true) {os : List (List Nat)} (hord : ordsOK P Γ ops os = true) {q : St → Prop}
    (hr : ordsW P Γ (dstsOf ops.toList) (annS P σ.H.length ops.toList) (pre P ops.toList σ) q os) {Q : Exit → Act → World → Prop} (hQ : ∀ τ φ' a' w', q τ → Conc N0 w0 nt τ φ' a' w' → Q .normal a' w') : (Code.region id ops true).wp P Q a w := by
  have hgr : Grew w { w with drawn := w.drawn + 1 } := Grew.drew w
  obtain ⟨φ', hc, hf, _⟩ := pre_sound (P := P) ops.toList 0 (h.grew hgr)
  refine wp_region_any hm ?_
  unfold ordsOK at hord
  rw [Bool.and_eq_true] at hord
  obtain ⟨hlow, hcov⟩ := hord
  rw [List.all_eq_true] at hlow
  have hB : ∀ (i : Nat) (x : Nat × Oper), nthA (annS P σ.H.length ops.toList) i = some x → ops[i]? = some x.2 := fun i x hx => by
    have := (nthA_annS _ _ _ _ hx).1
    simpa using this
  -- whatever the slots' history, all that is asked is asked of what the state says
  have hfr : simpleR P Γ ops = true → FreeB (annS P σ.H.length ops.toList) (List.range ops.size) (pre P ops.toList σ) := fun _ i _ x hx ha => by
    have h1 := nthA_ann ops.toList σ.H.length 0 i x hx
    exact free_obj hc (hf _ h1 (by
      have : allocOp x.2.op = true := ha
      revert this
      cases x.2.op <;> simp [allocOp, allocs]))
  have hcl : Closed ops (List.range ops.size) := fun m o ho hm => by
    have := (Array.getElem?_eq_some_iff.1 ho).1
    exact absurd (List.mem_range.2 this) hm
  have hrr : ∀ r ∈ os, ∃ τ, runO P Γ (dstsOf ops.toList) (annS P σ.H.length ops.toList) r (pre P ops.toList σ) = some τ ∧ ∃ τ', simS τ' τ ∧ q τ' := fun r hr' => by
    obtain ⟨τ, h1, h2⟩ := ordsW_iff hr r hr'
    exact ⟨τ, h1, τ, simS.refl τ, h2⟩
  have hg : GoodO P Γ ops (annS P σ.H.length ops.toList) (fun τ => ∃ τ', simS τ' τ ∧ q τ') ops.size (List.range ops.size) (pre P ops.toList σ) := by
    rw [Bool.or_eq_true] at hcov
    rcases hcov with hcov | hcov
    · exact cov_sound (q := fun τ => ∃ τ', simS τ' τ ∧ q τ') (B := annS P σ.H.length ops.toList) (fun hs ⟨τ', h1, h2⟩ => ⟨τ', h1.trans hs, h2⟩) hB (fun i j x y h1 h2 h3 h4 h5 => nthA_apart _ _ i j x y h1 h2 h3 h4 h5) (List.nodup_range) hfr hcl hcov hrr
    · have := goodD_nil (cov2_sound (q := fun τ => ∃ τ', simS τ' τ ∧ q τ') (B := annS P σ.H.length ops.toList) (fun hs ⟨τ', h1, h2⟩ => ⟨τ', h1.trans hs, h2⟩) hB (fun i j x y h1 h2 h3 h4 h5 => nthA_apart _ _ i j x y h1 h2 h3 h4 h5) (List.nodup_range) hfr hcl hcov hrr)
      rw [List.length_range] at this
      exact this
  refine good_sound hΓ hfix hok hB (fun i j x y h1 h2 h3 h4 h5 => nthA_apart _ _ i j x y h1 h2 h3 h4 h5) (fun i o ho e he hb => by
    have h1 := hlow i (by simpa using (Array.getElem?_eq_some_iff.1 ho).1)
    rw [ho] at h1
    simp only [List.all_eq_true] at h1
    have h2 := h1 e (by simpa using he)
    simpa [hb] using h2) (fun τ φ'' a'' w'' ⟨τ', h1, h2⟩ hc' => hQ τ' φ'' a'' w'' h2 (hc'.sim h1.symm)) ops.size ops.size _ (by simp) (Nat.le_refl _) List.nodup_range ?_ (fun i hi => List.mem_range.1 hi) hc (fun i hi x hx ha => ?_) hg (by simp)
  · intro i
    by_cases hi : i < ops.size <;> simp [hi]
  · have := nthA_ann ops.toList σ.H.length 0 i x hx
    exact hf _ this ha
end
end Go.Abs
