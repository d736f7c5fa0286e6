/- Soundness, fourteenth part: calls; one operation of a region, with its guard. -/
import Derived.Test.YtddkjenabjplmaaAbsP
namespace Go.Abs
open Go.RowKit

/-- A function of the program, with a body, that no rule of the model takes for itself. -/
def Callable (P : Program) (f : FuncId) : Prop := ∃ fn, P.funcs[f]? = some fn ∧ fn.body.isNone = false ∧ (fn.name == "runtime.NumGoroutine") = false

/-- What a function hands back, and that it changes nothing that was there: wherever its arguments lie. -/
def CallA (P : Program) (f : FuncId) (args : List A) (Post : A → Prop) : Prop :=
  ∀ (N : Nat → Prop) (w : World) (vs : List Value), (∀ b, N b → b < w.heap.size) → RepL ⟨N, [], w⟩ args vs →
    Calls P f vs.toArray w fun e w' => ∃ v r, e = .returned v ∧ Post r ∧ Rep ⟨N, [], w'⟩ r v ∧ Below w.heap.size w w'

/-- The table tells the truth. -/
def TabOK (P : Program) (Γ : Tab) : Prop := ∀ f args r, Γ f args = some r → Callable P f ∧ CallA P f args (· = r)

theorem run_callFunc {P : Program} {f : FuncId} (h : Callable P f) (args : Array Value) (w : World) : (callFunc f args).run P w = .ok (.enter f args) w := by
  obtain ⟨fn, h1, h2, h3⟩ := h
  have h2' : fn.body ≠ none := fun e => by rw [e] at h2; simp at h2
  have h3' : fn.name ≠ "runtime.NumGoroutine" := by simpa using h3
  simp [callFunc, h1, h2', h3']

mutual
theorem rep_flat {E E' : Env} : ∀ (x : A) (v : Value), x.flat = true → Rep E x v → Rep E' x v
  | .any, _, h, _ => by simp [A.flat] at h
  | .int _ _, v, _, hr => by simpa only [Rep] using hr
  | .bool _, v, _, hr => by simpa only [Rep] using hr
  | .str _, v, _, hr => by simpa only [Rep] using hr
  | .nils, v, _, hr => by simpa only [Rep] using hr
  | .nilp, v, _, hr => by simpa only [Rep] using hr
  | .agg cs, v, h, hr => by
    simp only [Rep] at hr ⊢
    obtain ⟨vs, hv, hl, h1⟩ := hr
    exact ⟨vs, hv, repL_flat cs vs (by simpa only [A.flat] using h) hl, h1⟩
  | .tup cs, v, h, hr => by
    simp only [Rep] at hr ⊢
    obtain ⟨vs, hv, hl⟩ := hr
    exact ⟨vs, hv, repL_flat cs vs (by simpa only [A.flat] using h) hl⟩
  | .slc _, _, h, _ => by simp [A.flat] at h
  | .clip _, _, h, _ => by simp [A.flat] at h
  | .dptr _, _, h, _ => by simp [A.flat] at h
  | .ref _ _, _, h, _ => by simp [A.flat] at h
  | .eref _ _ _, _, h, _ => by simp [A.flat] at h
  | .row _ _ _ _ _, _, h, _ => by simp [A.flat] at h
  | .fn _ _, _, h, _ => by simp [A.flat] at h
theorem repL_flat {E E' : Env} : ∀ (cs : List A) (vs : List Value), A.flat.flatL cs = true → RepL E cs vs → RepL E' cs vs
  | [], _, _, hr => by simpa only [RepL] using hr
  | c :: cs, vs, h, hr => by
    simp only [A.flat.flatL, Bool.and_eq_true] at h
    simp only [RepL] at hr ⊢
    obtain ⟨v, vs', hv, hc, hl⟩ := hr
    exact ⟨v, vs', hv, rep_flat c v h.1 hc, repL_flat cs vs' h.2 hl⟩
end

section
variable {P : Program} {Γ : Tab} {N0 : Nat → Prop} {w0 : World} {nt : Nat} {σ : St} {φ : List Own} {a : Act} {w : World}

/-- What an operation comes to: its end at once, or a call. -/
def GoodC (P : Program) (o : Oper) (a : Act) (w : World) (N0 : Nat → Prop) (w0 : World) (nt : Nat) (φ : List Own) (n : Nat) (σ' : St) : Prop :=
  GoodW P o a w N0 w0 nt φ n σ' ∨ ∃ f args, (Go.execOp a.eval o).run P w = .ok (.enter f args) w ∧
    Calls P f args w fun e w' => ∃ v φ', e = .returned v ∧ Conc N0 w0 nt σ' φ' (a.put o.dst v) w' ∧ ∀ m, m ≠ n → φ[m]? = some .free → φ'[m]? = some .free

theorem repL_append {E : Env} : ∀ {cs ds : List A} {vs us : List Value}, RepL E cs vs → RepL E ds us → RepL E (cs ++ ds) (vs ++ us) := RepL_append

theorem evL_rep (h : Conc N0 w0 nt σ φ a w) : ∀ xs : List Operand, RepL (envOf N0 φ w) (σ.evL xs) (xs.map a.eval)
  | [] => by simp [St.evL, RepL]
  | x :: xs => by
    simp only [St.evL, List.map_cons, RepL]
    exact ⟨_, _, rfl, h.ev x, evL_rep h xs⟩

theorem goodC_call (hΓ : TabOK P Γ) (h : Conc N0 w0 nt σ φ a w) {d : Option Tmp} {f : Operand} {xs : List Operand} {us : Array TypeId} {t : TypeId} {p : String} {af : Array Edge} {g : Option (Nat × Bool)} (hd : ∀ t, d = some t → t < nt) {n : Nat} {σ' : St}
    (hr : callV Γ σ d (σ.ev f) (σ.evL xs) = some σ') : GoodC P ⟨d, .call ⟨.value f, ⟨xs⟩, us⟩, t, p, af, g⟩ a w N0 w0 nt φ n σ' := by
  have hf := h.ev f
  cases hc : σ.ev f <;> simp only [hc, callV] at hr <;> try (simp at hr; done)
  rename_i q caps
  rw [hc] at hf
  simp only [Rep] at hf
  obtain ⟨cvs, hfv, hcr⟩ := hf
  have hargs := RepL_append (evL_rep h xs) hcr
  unfold callX at hr
  cases hv : viewL σ.H (σ.evL xs ++ caps) with
  | none => simp [hv] at hr
  | some bs =>
    simp only [hv, Option.bind_some] at hr
    cases hg : Γ q bs with
    | none => simp [hg] at hr
    | some r =>
      simp only [hg, Option.bind_some] at hr
      split at hr
      · rename_i hpf
        obtain rfl := Option.some.inj hr
        obtain ⟨hcall, hA⟩ := hΓ q bs r hg
        have hlt : ∀ b, (envOf N0 φ w).N b → b < w.heap.size := by
          rintro b (h0 | ⟨m, k, hm⟩)
          · exact Nat.lt_of_lt_of_le (h.n0 b h0) h.below.size
          · exact (h.own m b k hm).2
        right
        refine ⟨q, (xs.map a.eval ++ cvs).toArray, ?_, ?_⟩
        · have : (Go.execOp a.eval ⟨d, .call ⟨.value f, ⟨xs⟩, us⟩, t, p, af, g⟩).run P w = (callFunc q (xs.map a.eval ++ cvs).toArray).run P w := by
            simp only [Go.execOp, resolve, hfv, Deferred.ofValue, Sem.run_bind, Sem.run_pure, Result.andThen_ok, invoke]
            congr 2
            apply Array.ext'
            simp
          rw [this]
          exact run_callFunc hcall _ w
        · by_cases hp : A.pure.pureL (σ.evL xs ++ caps) = true
          · obtain ⟨hvr, _⟩ := viewL_sound h hv hargs (N' := (envOf N0 φ w).N) (fun _ hb => hb) (.inl hp)
            refine Calls.mono (hA (envOf N0 φ w).N w _ hlt hvr) ?_
            rintro e w' ⟨v, r', rfl, rfl, hrep, hbel⟩
            have g := Grew.of_below hbel
            refine ⟨v, φ, rfl, (h.grew g).put hd ?_, fun _ _ h => h⟩
            refine Rep.mono (K := fun _ => True) (E := ⟨(envOf N0 φ w).N, [], w'⟩) ?_ _ _ hrep (fun _ _ => trivial)
            exact {
              size := Nat.le_refl _
              blk := fun b _ hn => ⟨hn, rfl⟩
              refs := fun m o _ hm => by simp at hm
              own := fun m b k c e fr _ hm => by simp at hm }
          · have hflat : r.flat = true := by simpa [hp] using hpf
            obtain ⟨hvr, _⟩ := viewL_sound h hv hargs (N' := N0) (fun _ hb => .inl hb) (.inr (own_not_n0 h))
            refine Calls.mono (hA N0 w _ (fun b hb => hlt b (.inl hb)) hvr) ?_
            rintro e w' ⟨v, r', rfl, rfl, hrep, hbel⟩
            have g := Grew.of_below hbel
            exact ⟨v, φ, rfl, (h.grew g).put hd (rep_flat _ _ hflat hrep), fun _ _ h => h⟩
      · simp at hr

theorem execOp_sound (hΓ : TabOK P Γ) (h : Conc N0 w0 nt σ φ a w) {o : Oper} (hd : ∀ t, o.dst = some t → t < nt) {n : Nat} (hfree : allocs P o.op = true → φ[n]? = some .free) {σ' : St}
    (hr : execOp P Γ n o.dst o.op σ = some σ') : GoodC P o a w N0 w0 nt φ n σ' := by
  obtain ⟨d, op, t, p, af, g⟩ := o
  simp only at hd hfree hr
  unfold execOp at hr
  split at hr
  · exact .inl (goodW_alloc h hd (hfree rfl) hr)
  · exact .inl (goodW_boxOp h hd (hfree rfl) hr)
  · exact .inl (goodW_store h hd hr)
  · exact .inl (goodW_conv h hd (fun hb => hfree (by simpa [allocs] using hb)) hr)
  · exact .inl (goodW_append h hd (hfree rfl) hr)
  · exact goodC_call hΓ h hd hr
  · cases he : evalR P σ op with
    | none => simp [he] at hr
    | some r =>
      simp [he] at hr
      subst hr
      exact .inl (goodW_of_good h hd (o := ⟨d, op, t, p, af, g⟩) (evalR_sound h he))

theorem nthD_eq : ∀ (os : List Oper) (j : Nat), nthD (dstsOf os) j = (os[j]?).bind (·.dst)
  | [], j => by simp [dstsOf, nthD]
  | o :: os, 0 => by simp [dstsOf, nthD]
  | o :: os, j + 1 => by simp [dstsOf, nthD, nthD_eq os j]

theorem wanted_sound (h : Conc N0 w0 nt σ φ a w) {ops : Array Oper} {o : Oper} {b : Bool} (hw : wantA (dstsOf ops.toList) σ o.guard = some b) : Region.wanted o (yielded ops a.tmps) = b := by
  unfold wantA at hw
  unfold Region.wanted
  split at hw
  · rename_i hg
    simp only [hg]
    simpa using hw
  · rename_i j want hg
    simp only [hg]
    rw [nthD_eq] at hw
    unfold yielded
    have hops : ops.toList[j]? = ops[j]? := by simp
    rw [hops] at hw
    cases hj : (ops[j]?).bind (·.dst) with
    | none => simp [hj] at hw ⊢; exact hw
    | some t =>
      rw [hj] at hw
      simp only [Option.bind_some] at hw ⊢
      have hs := h.slots t
      have hget : a.tmps.getD t undef = (a.tmps[t]?).getD undef := by simp
      rw [hget] at hs
      cases ht : look σ.s t <;> rw [ht] at hw hs <;> simp only at hw <;> try (simp at hw; done)
      case bool c =>
        simp only [Rep] at hs
        cases hq : a.tmps[t]? with
        | none => simp [hq, undef] at hs
        | some v =>
          simp [hq] at hs
          subst hs
          simp at hw ⊢
          exact hw
      all_goals
        have hb := Option.some.inj hw
        subst hb
        cases hq : a.tmps[t]? with
        | none => rfl
        | some v =>
          simp only [hq, Option.getD_some] at hs
          cases v <;> first
            | rfl
            | (exfalso
               simp only [Rep] at hs
               first
                 | (simp at hs; done)
                 | (rcases hs with ⟨_, _, _, _, _, _, hs⟩ | ⟨_, _, _, _, _, _, hs, _⟩ <;> simp at hs; done)
                 | (obtain ⟨_, hs, _⟩ := hs; simp at hs; done)
                 | (obtain ⟨_, _, hs, _⟩ := hs; simp at hs; done)
                 | (obtain ⟨_, _, _, hs, _⟩ := hs; simp at hs; done)
                 | (obtain ⟨_, _, _, hs⟩ := hs; simp at hs; done))

/-- One operation of a region. -/
theorem exec1_sound (hΓ : TabOK P Γ) (h : Conc N0 w0 nt σ φ a w) {ops : Array Oper} {i : Nat} {o : Oper} (ho : ops[i]? = some o) (hd : ∀ t, o.dst = some t → t < nt) {n : Nat} (hfree : allocs P o.op = true → φ[n]? = some .free) {σ' : St}
    (hr : exec1 P Γ (dstsOf ops.toList) n o σ = some σ') {Q : Exit → Act → World → Prop} {K : Act → World → Prop}
    (hK : ∀ φ' a' w', Conc N0 w0 nt σ' φ' a' w' → (∀ m, m ≠ n → φ[m]? = some .free → φ'[m]? = some .free) → K a' w') : wpOp P ops Q i K a w := by
  unfold exec1 at hr
  unfold wpOp
  simp only [ho]
  cases hw : wantA (dstsOf ops.toList) σ o.guard with
  | none => simp [hw] at hr
  | some b =>
    rw [wanted_sound h hw]
    simp only [hw] at hr
    cases b with
    | false =>
      simp at hr
      subst hr
      simp only [Bool.false_eq_true, if_false]
      exact hK φ _ _ (h.put hd (rep_undef _)) (fun _ _ h => h)
    | true =>
      simp only [if_true] at hr ⊢
      left
      unfold Oper.wp
      rcases execOp_sound hΓ h hd hfree hr with ⟨v, w', φ', hrun, hc, hf⟩ | ⟨f, args, hrun, hcalls⟩
      · rcases hrun with hrun | ⟨hrun, rfl⟩
        · rw [hrun]; exact hK φ' _ _ hc hf
        · rw [hrun]; exact hK φ' _ _ hc hf
      · rw [hrun]
        simp only [Oper.upon]
        refine Calls.mono hcalls ?_
        rintro e w' ⟨v, φ', rfl, hc, hf⟩
        exact hK φ' _ _ hc hf
end

end Go.Abs
