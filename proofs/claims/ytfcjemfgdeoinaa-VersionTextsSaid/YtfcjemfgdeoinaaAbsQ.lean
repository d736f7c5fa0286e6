/- Soundness, fourteenth part: calls; one operation of a region, with its guard. -/
import Derived.Test.YtfcjemfgdeoinaaAbsPC
namespace Go.Abs
open Go.RowKit

/-- A function of the program, with a body, that no rule of the model takes for itself. -/
def Callable (P : Program) (f : FuncId) : Prop := ∃ fn, P.funcs[f]? = some fn ∧ fn.body.isNone = false ∧ (fn.name == "runtime.NumGoroutine") = false

/-- What a function hands back, and that it changes nothing that was there: wherever its arguments lie. -/
def CallA (P : Program) (f : FuncId) (args : List A) (Post : A → Prop) : Prop :=
  ∀ (N : Nat → Prop) (w : World) (vs : List Value), (∀ b, N b → b < w.heap.size) → RepL ⟨N, [], w⟩ args vs →
    Calls P f vs.toArray w fun e w' => ∃ v r, e = .returned v ∧ Post r ∧ Rep ⟨N, [], w'⟩ r v ∧ Grew w w'

/-- The objects of a heap, by their places. -/
structure HeapRel (N : Nat → Prop) (φ : List Own) (H : List Obj) (w : World) : Prop where
  len : φ.length = H.length
  objs : ∀ (n : Nat) (o : Obj) (p : Own), nthO H n = some o → φ[n]? = some p → ObjRel (envOf N φ w) o p
  own : ∀ n b k : Nat, φ[n]? = some (Own.loc b k) → b < w.heap.size ∧ ¬ N b
  inj : ∀ n m b k k' : Nat, φ[n]? = some (Own.loc b k) → φ[m]? = some (Own.loc b k') → n = m
/-- What a call that may write its objects leaves as it was. -/
structure TurnH (φ : List Own) (w : World) (S : List Nat) (φ' : List Own) (w' : World) : Prop where
  os : w'.os = w.os
  tape : w'.tape = w.tape
  output : w'.output = w.output
  drawn : w.drawn ≤ w'.drawn
  size : w.heap.size ≤ w'.heap.size
  block : ∀ b, b < w.heap.size → (∀ n k : Nat, φ[n]? ≠ some (Own.loc b k)) → w'.heap[b]? = w.heap[b]?
  shape : ∀ (b : Nat) (c : Array Value) (e : TypeId) (fr : Nat × Nat), w.heap[b]? = some (.cells c e fr) → ∃ c' fr', w'.heap[b]? = some (.cells c' e fr') ∧ c'.size = c.size
  own : ∀ n b k : Nat, φ'[n]? = some (Own.loc b k) → w.heap.size ≤ b ∨ ∃ m k' : Nat, φ[m]? = some (Own.loc b k')
  stay : ∀ (n : Nat) (p : Own), n ∉ S → φ[n]? = some p → φ'[n]? = some p
/-- What a function hands back, and what it makes of the objects that it is given. -/
def CallH (P : Program) (f : FuncId) (args : List A) (H : List Obj) (r : A) (H' : List Obj) (S : List Nat) : Prop :=
  ∀ (N : Nat → Prop) (φ : List Own) (w : World) (vs : List Value), (∀ b, N b → b < w.heap.size) → HeapRel N φ H w → (∀ n : Nat, φ[n]? ≠ some Own.free) → RepL (envOf N φ w) args vs →
    Calls P f vs.toArray w fun e w' => ∃ v φ', e = .returned v ∧ Rep (envOf N φ' w') r v ∧ HeapRel N φ' H' w' ∧ TurnH φ w S φ' w' ∧ H.length ≤ H'.length

/-- The table tells the truth. -/
structure TabOK (P : Program) (Γ : Tab) : Prop where
  f : ∀ f args r, Γ.f f args = some r → Callable P f ∧ CallA P f args (· = r)
  hp : ∀ f args H r H' S, Γ.hp f args H = some (r, H', S) → Callable P f ∧ CallH P f args H r H' S

theorem run_callFunc {P : Program} {f : FuncId} (h : Callable P f) (args : Array Value) (w : World) : (callFunc f args).run P w = .ok (.enter f args) w := by
  obtain ⟨fn, h1, h2, h3⟩ := h
  have h2' : fn.body ≠ none := fun e => by rw [e] at h2; simp at h2
  have h3' : fn.name ≠ "runtime.NumGoroutine" := by simpa using h3
  simp [callFunc, h1, h2', h3']

mutual
theorem rep_flat {E E' : Env} : ∀ (x : A) (v : Value), x.flat = true → Rep E x v → Rep E' x v
  | .any, _, h, _ => by simp [A.flat] at h
  | .int _ _, v, _, hr => by simpa only [Rep] using hr
  | .bool _, v, _, hr => by simpa only [Rep] using hr
  | .str _, v, _, hr => by simpa only [Rep] using hr
  | .nils, v, _, hr => by simpa only [Rep] using hr
  | .nilp, v, _, hr => by simpa only [Rep] using hr
  | .agg cs, v, h, hr => by
    simp only [Rep] at hr ⊢
    obtain ⟨vs, hv, hl, h1⟩ := hr
    exact ⟨vs, hv, repL_flat cs vs (by simpa only [A.flat] using h) hl, h1⟩
  | .tup cs, v, h, hr => by
    simp only [Rep] at hr ⊢
    obtain ⟨vs, hv, hl⟩ := hr
    exact ⟨vs, hv, repL_flat cs vs (by simpa only [A.flat] using h) hl⟩
  | .slc _, _, h, _ => by simp [A.flat] at h
  | .clip _, _, h, _ => by simp [A.flat] at h
  | .dptr _, _, h, _ => by simp [A.flat] at h
  | .ref _ _, _, h, _ => by simp [A.flat] at h
  | .eref _ _ _, _, h, _ => by simp [A.flat] at h
  | .row _ _ _ _ _, _, h, _ => by simp [A.flat] at h
  | .fn _ _, _, h, _ => by simp [A.flat] at h
theorem repL_flat {E E' : Env} : ∀ (cs : List A) (vs : List Value), A.flat.flatL cs = true → RepL E cs vs → RepL E' cs vs
  | [], _, _, hr => by simpa only [RepL] using hr
  | c :: cs, vs, h, hr => by
    simp only [A.flat.flatL, Bool.and_eq_true] at h
    simp only [RepL] at hr ⊢
    obtain ⟨v, vs', hv, hc, hl⟩ := hr
    exact ⟨v, vs', hv, rep_flat c v h.1 hc, repL_flat cs vs' h.2 hl⟩
end

section
variable {P : Program} {Γ : Tab} {N0 : Nat → Prop} {w0 : Base} {nt : Nat} {σ : St} {φ : List Own} {a : Act} {w : World}

/-- What an operation comes to: its end at once, or a call. -/
def GoodC (P : Program) (o : Oper) (a : Act) (w : World) (N0 : Nat → Prop) (w0 : Base) (nt : Nat) (φ : List Own) (n : Nat) (σ' : St) : Prop :=
  GoodW P o a w N0 w0 nt φ n σ' ∨ ∃ f args, (Go.execOp a.eval o).run P w = .ok (.enter f args) w ∧
    Calls P f args w fun e w' => ∃ v φ', e = .returned v ∧ Conc N0 w0 nt σ' φ' (a.put o.dst v) w' ∧ ∀ m, m ≠ n → φ[m]? = some .free → φ'[m]? = some .free

theorem repL_append {E : Env} : ∀ {cs ds : List A} {vs us : List Value}, RepL E cs vs → RepL E ds us → RepL E (cs ++ ds) (vs ++ us) := RepL_append

theorem evL_rep (h : Conc N0 w0 nt σ φ a w) : ∀ xs : List Operand, RepL (envOf N0 φ w) (σ.evL xs) (xs.map a.eval)
  | [] => by simp [St.evL, RepL]
  | x :: xs => by
    simp only [St.evL, List.map_cons, RepL]
    exact ⟨_, _, rfl, h.ev x, evL_rep h xs⟩

theorem goodC_call (hΓ : TabOK P Γ) (h : Conc N0 w0 nt σ φ a w) {d : Option Tmp} {f : Operand} {xs : List Operand} {us : Array TypeId} {t : TypeId} {p : String} {af : Array Edge} {g : Option (Nat × Bool)} (hd : ∀ t, d = some t → t < nt) {n : Nat} {σ' : St}
    (hr : callV Γ σ d (σ.ev f) (σ.evL xs) = some σ') : GoodC P ⟨d, .call ⟨.value f, ⟨xs⟩, us⟩, t, p, af, g⟩ a w N0 w0 nt φ n σ' := by
  have hf := h.ev f
  cases hc : σ.ev f <;> simp only [hc, callV] at hr <;> try (simp at hr; done)
  rename_i q caps
  rw [hc] at hf
  simp only [Rep] at hf
  obtain ⟨cvs, hfv, hcr⟩ := hf
  have hargs := RepL_append (evL_rep h xs) hcr
  unfold callX at hr
  cases hv : viewL σ.H (σ.evL xs ++ caps) with
  | none => simp [hv] at hr
  | some bs =>
    simp only [hv, Option.bind_some] at hr
    cases hg : Γ.f q bs with
    | none => simp [hg] at hr
    | some r =>
      simp only [hg, Option.bind_some] at hr
      split at hr
      · rename_i hpf
        obtain rfl := Option.some.inj hr
        obtain ⟨hcall, hA⟩ := hΓ.f q bs r hg
        have hlt : ∀ b, (envOf N0 φ w).N b → b < w.heap.size := by
          rintro b (h0 | ⟨m, k, hm⟩)
          · exact Nat.lt_of_lt_of_le (h.n0 b h0).1 h.below.size
          · exact (h.own m b k hm).2
        right
        refine ⟨q, (xs.map a.eval ++ cvs).toArray, ?_, ?_⟩
        · have : (Go.execOp a.eval ⟨d, .call ⟨.value f, ⟨xs⟩, us⟩, t, p, af, g⟩).run P w = (callFunc q (xs.map a.eval ++ cvs).toArray).run P w := by
            simp only [Go.execOp, resolve, hfv, Deferred.ofValue, Sem.run_bind, Sem.run_pure, Result.andThen_ok, invoke]
            congr 2
            apply Array.ext'
            simp
          rw [this]
          exact run_callFunc hcall _ w
        · by_cases hp : A.pure.pureL (σ.evL xs ++ caps) = true
          · obtain ⟨hvr, _⟩ := viewL_sound h hv hargs (N' := (envOf N0 φ w).N) (fun _ hb => hb) (.inl hp)
            refine Calls.mono (hA (envOf N0 φ w).N w _ hlt hvr) ?_
            rintro e w' ⟨v, r', rfl, rfl, hrep, hbel⟩
            have g := hbel
            refine ⟨v, φ, rfl, (h.grew g).put hd ?_, fun _ _ h => h⟩
            refine Rep.mono (K := fun _ => True) (E := ⟨(envOf N0 φ w).N, [], w'⟩) ?_ _ _ hrep (fun _ _ => trivial)
            exact {
              size := Nat.le_refl _
              blk := fun b _ hn => ⟨hn, rfl⟩
              refs := fun m o _ hm => by simp at hm
              own := fun m b k c e fr _ hm => by simp at hm }
          · have hflat : r.flat = true := by simpa [hp] using hpf
            obtain ⟨hvr, _⟩ := viewL_sound h hv hargs (N' := N0) (fun _ hb => .inl hb) (.inr (own_not_n0 h))
            refine Calls.mono (hA N0 w _ (fun b hb => hlt b (.inl hb)) hvr) ?_
            rintro e w' ⟨v, r', rfl, rfl, hrep, hbel⟩
            have g := hbel
            exact ⟨v, φ, rfl, (h.grew g).put hd (rep_flat _ _ hflat hrep), fun _ _ h => h⟩
      · simp at hr

end

end Go.Abs
