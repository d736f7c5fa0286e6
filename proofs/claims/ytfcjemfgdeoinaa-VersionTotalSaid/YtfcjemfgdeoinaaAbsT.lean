/- Soundness, seventeenth part: less known states; whole bodies; functions. -/
import Derived.Test.YtfcjemfgdeoinaaAbsS
namespace Go.Abs
open Go.RowKit

mutual
theorem A.under_mem {m n : Nat} : ∀ x : A, x.under m = true → x.mem n = true → n < m
  | .any, _, h => by simp [A.mem] at h
  | .int _ _, _, h => by simp [A.mem] at h
  | .bool _, _, h => by simp [A.mem] at h
  | .str _, _, h => by simp [A.mem] at h
  | .slc _, _, h => by simp [A.mem] at h
  | .clip _, _, h => by simp [A.mem] at h
  | .dptr _, _, h => by simp [A.mem] at h
  | .nils, _, h => by simp [A.mem] at h
  | .nilp, _, h => by simp [A.mem] at h
  | .ref _ _, hu, h => by simp [A.under] at hu; simp [A.mem] at h; omega
  | .eref _ _ _, hu, h => by simp [A.under] at hu; simp [A.mem] at h; omega
  | .row _ _ _ _ _, hu, h => by simp [A.under] at hu; simp [A.mem] at h; omega
  | .agg cs, hu, h => A.underL_mem cs (by simpa only [A.under] using hu) (by simpa only [A.mem] using h)
  | .fn _ cs, hu, h => A.underL_mem cs (by simpa only [A.under] using hu) (by simpa only [A.mem] using h)
  | .tup cs, hu, h => A.underL_mem cs (by simpa only [A.under] using hu) (by simpa only [A.mem] using h)
theorem A.underL_mem {m n : Nat} : ∀ cs : List A, A.under.underL m cs = true → A.mem.memL n cs = true → n < m
  | [], _, h => by simp [A.mem.memL] at h
  | c :: cs, hu, h => by
    simp only [A.under.underL, Bool.and_eq_true] at hu
    simp only [A.mem.memL, Bool.or_eq_true] at h
    rcases h with h | h
    · exact A.under_mem c hu.1 h
    · exact A.underL_mem cs hu.2 h
end

section
variable {P : Program} {Γ : Tab} {N0 : Nat → Prop} {w0 : Base} {nt : Nat} {σ τ : St} {φ : List Own} {a : Act} {w : World}

theorem leS_look {m : Nat} {s : List (Nat × A)} : ∀ {r : List (Nat × A)}, leS m s r → ∀ d, look r d = .any ∨ (look r d = look s d ∧ (look r d).under m = true)
  | [], _, d => .inl rfl
  | (e, y) :: r, h, d => by
    simp only [leS] at h
    simp only [look]
    split
    · rename_i he; subst he; exact .inr ⟨h.1.1.symm, h.1.2⟩
    · exact leS_look h.2 d
theorem leH_get {m : Nat} : ∀ {H G : List Obj}, leH m H G → ∀ (n : Nat) (y : Obj), G[n]? = some y → ∃ x, H[n]? = some x ∧ leO m x y
  | [], [], _, n, y, h => by simp at h
  | _ :: _, [], _, n, y, h => by simp at h
  | [], _ :: _, hl, _, _, _ => by simp [leH] at hl
  | x :: H, y :: G, hl, n, z, h => by
    simp only [leH] at hl
    cases n with
    | zero => simp at h; subst h; exact ⟨x, rfl, hl.1⟩
    | succ n => simpa using leH_get hl.2 n z (by simpa using h)
theorem leH_len {m : Nat} : ∀ {H G : List Obj}, leH m H G → G.length ≤ H.length
  | [], [], _ => by simp
  | _ :: _, [], _ => by simp
  | [], _ :: _, hl => by simp [leH] at hl
  | x :: H, y :: G, hl => by
    simp only [leH] at hl
    have := leH_len hl.2
    simp; exact this
theorem leL_get {m : Nat} : ∀ {xs ys : List A}, leL m xs ys → ∀ (i : Nat) (y : A), ys[i]? = some y → ∃ x, xs[i]? = some x ∧ (y = .any ∨ (x = y ∧ y.under m = true))
  | [], [], _, i, y, h => by simp at h
  | [], _ :: _, hl, _, _, _ => by simp [leL] at hl
  | _ :: _, [], hl, _, _, _ => by simp [leL] at hl
  | x :: xs, y :: ys, hl, i, z, h => by
    simp only [leL] at hl
    cases i with
    | zero => simp at h; subst h; exact ⟨x, rfl, hl.1⟩
    | succ i => simpa using leL_get hl.2 i z (by simpa using h)

theorem Conc.le_ext (_h : Conc N0 w0 nt σ φ a w) (m : Nat) : Ext (fun n => n < m) (envOf N0 φ w) (envOf N0 (φ.take m) w) := by
  have hget : ∀ n : Nat, (φ.take m)[n]? = if n < m then φ[n]? else none := fun n => by rw [List.getElem?_take]
  exact {
    size := Nat.le_refl _
    blk := fun b _ hn => ⟨by
      rintro (h0 | ⟨n, k, hm⟩)
      · exact hn (.inl h0)
      · rw [hget] at hm
        split at hm
        · exact hn (.inr ⟨n, k, hm⟩)
        · simp at hm, rfl⟩
    refs := fun n o hk hm _ => by
      show (φ.take m)[n]? = some o
      rw [hget, if_pos hk]; exact hm
    own := fun m b k c e fr _ hm hc => ⟨c, fr, hc, rfl⟩ }
theorem Conc.le (h : Conc N0 w0 nt σ φ a w) {nf : Nat} (hnf : ∀ n : Nat, w0.fix n = true → n < w0.φ0.length → n < nf) (hl : nf ≤ τ.H.length) (hle : σ.le τ) : Conc N0 w0 nt τ (φ.take τ.H.length) a w := by
  obtain ⟨hS, hH⟩ := hle
  have hget : ∀ m : Nat, (φ.take τ.H.length)[m]? = if m < τ.H.length then φ[m]? else none := fun m => by rw [List.getElem?_take]
  have hat : ∀ m b k : Nat, (φ.take τ.H.length)[m]? = some (Own.loc b k) → φ[m]? = some (.loc b k) := fun m b k hm => by
    rw [hget] at hm
    split at hm
    · exact hm
    · simp at hm
  have hext : Ext (fun m => m < τ.H.length) (envOf N0 φ w) (envOf N0 (φ.take τ.H.length) w) := {
    size := Nat.le_refl _
    blk := fun b _ hn => ⟨by
      rintro (h0 | ⟨m, k, hm⟩)
      · exact hn (.inl h0)
      · exact hn (.inr ⟨m, k, hat m b k hm⟩), rfl⟩
    refs := fun m o hk hm _ => by
      show (φ.take τ.H.length)[m]? = some o
      rw [hget, if_pos hk]; exact hm
    own := fun m b k c e fr _ hm hc => ⟨c, fr, hc, rfl⟩ }
  exact {
    slots := fun d => by
      rcases leS_look hS d with hd | ⟨hd, hu⟩
      · rw [hd]; simp only [Rep]
      · have := h.slots d
        rw [← hd] at this
        exact Rep.mono hext _ _ this fun n hn => A.under_mem _ hu hn
    size := h.size
    defers := h.defers
    len := by
      have := leH_len hH
      rw [List.length_take, h.len]
      omega
    objs := fun m o p hm hp => by
      rw [nthO_eq] at hm
      obtain ⟨x, hx, hxo⟩ := leH_get hH m o hm
      have hp' : φ[m]? = some p := by
        rw [hget] at hp
        split at hp
        · exact hp
        · simp at hp
      have hob := h.objs m x p (by rw [nthO_eq]; exact hx) hp'
      cases x with
      | row k es =>
        cases o with
        | box ys => simp [leO] at hxo
        | row k' ys =>
          simp only [leO] at hxo
          obtain ⟨rfl, rfl⟩ := hxo
          exact ObjRel.mono hext hob (fun b k _ c e fr hh => hh) (fun cs hcs => by cases hcs)
      | box xs =>
        cases o with
        | row k ys => simp [leO] at hxo
        | box ys =>
          simp only [leO] at hxo
          cases p with
          | nil => simp [ObjRel] at hob
          | free => simp [ObjRel] at hob
          | loc b k =>
            simp only [ObjRel] at hob ⊢
            refine ⟨hob.1, RepM_iff.2 fun i y hy => ?_⟩
            obtain ⟨z, hz, hzy⟩ := leL_get hxo i y hy
            obtain ⟨v, hv, h1, hr⟩ := RepM_iff.1 hob.2 i z hz
            refine ⟨v, hv, h1, ?_⟩
            rcases hzy with rfl | ⟨rfl, hu⟩
            · simp only [Rep]
            · exact Rep.mono hext _ _ hr fun n hn => A.under_mem _ hu hn
    own := fun m b k hm => h.own m b k (hat m b k hm)
    inj := fun m m' b k k' hm hm' => h.inj m m' b k k' (hat m b k hm) (hat m' b k' hm')
    n0 := h.n0
    fixd := fun n p hf hp hfree => by
      have := hnf n hf (List.getElem?_eq_some_iff.1 hp).1
      rw [hget, if_pos (by omega)]
      exact h.fixd n p hf hp hfree
    below := h.below }

theorem Conc.reslot (h : Conc N0 w0 nt σ φ a w) {d : Nat} {x : A} (hx : Rep (envOf N0 φ w) x (a.tmps.getD d undef)) : Conc N0 w0 nt ⟨(d, x) :: σ.s, σ.H⟩ φ a w :=
  { h with
    slots := fun t => by
      simp only [look]
      split
      · rename_i e; subst e; exact hx
      · exact h.slots t }

/-- A new nil row, with a name of its own. -/
theorem Conc.addNil (h : Conc N0 w0 nt σ φ a w) (k : Nat) : Conc N0 w0 nt ⟨σ.s, σ.H ++ [.row k []]⟩ (φ ++ [.nil]) a w := by
  have h1 := h.growOne
  have h2 := h1.newNil (n := σ.H.length) (k := k) (by rw [← h.len]; simp)
  have e1 : (St.setH { σ with H := σ.H ++ [.row 0 []] } σ.H.length (.row k [])) = ⟨σ.s, σ.H ++ [.row k []]⟩ := by
    simp [St.setH, setO_eq]
  have e2 : (φ ++ [Own.free]).set σ.H.length .nil = φ ++ [.nil] := by
    rw [← h.len]; simp
  rw [e1, e2] at h2
  exact h2

theorem Conc.to {nf : Nat} (hnf : ∀ n : Nat, w0.fix n = true → n < w0.φ0.length → n < nf) {σ τ : St} (ht : St.to nf σ τ) : ∀ {φ : List Own}, Conc N0 w0 nt σ φ a w → ∃ φ', Conc N0 w0 nt τ φ' a w := by
  induction ht with
  | le hl hle => intro φ h; exact ⟨_, h.le hnf hl hle⟩
  | @nil σ τ d k hd _ ih =>
    intro φ h
    have h1 := h.addNil k
    have hs := h.slots d
    rw [hd] at hs
    simp only [Rep] at hs
    refine ih (h1.reslot (d := d) (x := .row σ.H.length 0 k 0 false) ?_)
    rw [hs]
    simp only [Rep]
    exact .inl ⟨.nil, by show (φ ++ [Own.nil])[σ.H.length]? = _; rw [← h.len]; simp, by simp, trivial, fun _ => trivial, none, rfl⟩
  | @nilb σ τ m i k cs hm hi _ ih =>
    intro φ h
    have h1 := h.addNil k
    have hmlt : m < σ.H.length := by rw [nthO_eq] at hm; exact (List.getElem?_eq_some_iff.1 hm).1
    have hφm : φ[m]? = some (φ[m]'(by rw [h.len]; exact hmlt)) := List.getElem?_eq_getElem _
    have e1 : St.setH ⟨σ.s, σ.H ++ [.row k []]⟩ m (.box (setNth cs i (.row σ.H.length 0 k 0 false))) = ⟨σ.s, setO σ.H m (.box (setNth cs i (.row σ.H.length 0 k 0 false))) ++ [.row k []]⟩ := by
      simp only [St.setH, setO_eq]
      rw [List.set_append_left _ _ hmlt]
    have h2 := h1.setObj (n := m) (o := .box (setNth cs i (.row σ.H.length 0 k 0 false))) (fun p hp => by
      have hob := h1.objs m (.box cs) p (by rw [nthO_eq, List.getElem?_append_left hmlt, ← nthO_eq]; exact hm) hp
      cases p with
      | nil => simp [ObjRel] at hob
      | free => simp [ObjRel] at hob
      | loc b k' =>
        simp only [ObjRel] at hob ⊢
        refine ⟨hob.1, RepM_iff.2 fun j y hy => ?_⟩
        rw [setNth_eq, List.getElem?_set] at hy
        split at hy
        · rename_i e
          subst e
          split at hy
          · simp at hy
            subst hy
            obtain ⟨v, hv, h1', hr⟩ := RepM_iff.1 hob.2 i _ hi
            refine ⟨v, hv, h1', ?_⟩
            simp only [Rep] at hr
            subst hr
            simp only [Rep]
            exact .inl ⟨.nil, by show (φ ++ [Own.nil])[σ.H.length]? = _; rw [← h.len]; simp, by simp, trivial, fun _ => trivial, none, rfl⟩
          · simp at hy
        · exact RepM_iff.1 hob.2 j y hy)
    rw [e1] at h2
    exact ih h2

/-- What is asked of the ends of a piece of code, in the model. -/
def postC (N0 : Nat → Prop) (w0 : Base) (nt : Nat) (Q : Ex → St → Prop) : Exit → Act → World → Prop
  | .normal, a, w => ∃ τ φ, Q .normal τ ∧ Conc N0 w0 nt τ φ a w
  | .exit i, a, w => ∃ τ φ, Q (.exit i) τ ∧ Conc N0 w0 nt τ φ a w
  | .ret, a, w => ∃ τ φ, Q .ret τ ∧ Conc N0 w0 nt τ φ a w
  | _, _, _ => False

theorem wpA_sound (hΓ : TabOK P Γ) (hfx : w0.fix = Γ.fix) (hnf : ∀ n : Nat, w0.fix n = true → n < w0.φ0.length → n < Γ.nf) (hm : P.follows .mixedOrders = true) : ∀ (c : Code), codeOK P Γ nt c = true → ∀ (Q : Ex → St → Prop) (σ : St) (φ : List Own) (a : Act) (w : World), Conc N0 w0 nt σ φ a w → wpA P Γ c Q σ → c.wp P (postC N0 w0 nt Q) a w := by
  intro c
  induction c with
  | skip => intro _ Q σ φ a w h hw; exact wp_skip ⟨σ, φ, by simpa only [wpA] using hw, h⟩
  | label l => intro _ Q σ φ a w h hw; exact wp_label ⟨σ, φ, by simpa only [wpA] using hw, h⟩
  | exit id => intro _ Q σ φ a w h hw; exact wp_exit ⟨σ, φ, by simpa only [wpA] using hw, h⟩
  | ret => intro _ Q σ φ a w h hw; exact wp_ret ⟨σ, φ, by simpa only [wpA] using hw, h⟩
  | seq x y ihx ihy =>
    intro hok Q σ φ a w h hw
    simp only [codeOK, Bool.and_eq_true] at hok
    simp only [wpA] at hw
    refine wp_seq (wp_mono (ihx hok.1 _ σ φ a w h hw) fun e a' w' hq => ?_)
    cases e with
    | normal =>
      obtain ⟨τ, φ', hq, hc⟩ := hq
      exact ihy hok.2 _ τ φ' a' w' hc hq
    | exit i => exact hq
    | ret => exact hq
    | goto l => exact hq
    | panic c => exact hq
    | outgrown => exact hq
  | cond c x y ihx ihy =>
    intro hok Q σ φ a w h hw
    simp only [codeOK, Bool.and_eq_true] at hok
    simp only [wpA, condA] at hw
    obtain ⟨t, ht, h1, h2⟩ := hw
    have hev := h.ev c
    rw [ht] at hev
    simp only [Rep] at hev
    exact wp_cond_split hev (fun e => ihx hok.1 Q σ φ a w h (h1 e)) (fun e => ihy hok.2 Q σ φ a w h (h2 e))
  | block id x ih =>
    intro hok Q σ φ a w h hw
    simp only [codeOK] at hok
    simp only [wpA] at hw
    refine wp_block (wp_mono (ih hok _ σ φ a w h hw) fun e a' w' hq => ?_)
    cases e with
    | normal => exact hq
    | exit i =>
      obtain ⟨τ, φ', hq, hc⟩ := hq
      simp only [blockQ] at hq
      simp only [Exit.inBlock]
      split
      · rename_i e; rw [if_pos e] at hq; exact ⟨τ, φ', hq, hc⟩
      · rename_i e; rw [if_neg e] at hq; exact ⟨τ, φ', hq, hc⟩
    | ret => exact hq
    | goto l => exact hq
    | panic c => exact hq
    | outgrown => exact hq
  | loop x ih =>
    intro hok Q σ φ a w h hw
    simp only [codeOK] at hok
    simp only [wpA] at hw
    obtain ⟨ι, inv, μ, ⟨i₀, h0⟩, hstep⟩ := hw
    intro b k cs
    have key : ∀ n (i : ι) (σ : St) (φ : List Own) (a : Act) (w : World), μ i = n → Conc N0 w0 nt (inv i) φ a w →
        ∃ e a' w', postC N0 w0 nt Q e a' w' ∧ Arrives P (lone (b.at a (.code x :: .inLoop x :: k)) cs w) b k cs e a' w' := by
      intro n
      induction n using Nat.strongRecOn with
      | _ n ihn =>
        intro i σ φ a w hn hc
        obtain ⟨e, a₁, w₁, hq, harr⟩ := ih hok _ (inv i) φ a w hc (hstep i) b (.inLoop x :: k) cs
        cases e with
        | normal =>
          obtain ⟨τ, φ', ⟨j, hle, hlt⟩, hc'⟩ := hq
          obtain ⟨φ₂, hc₂⟩ := Conc.to hnf hle hc'
          obtain ⟨e₂, a₂, w₂, hq₂, harr₂⟩ := ihn (μ j) (hn ▸ hlt) j τ φ₂ a₁ w₁ rfl hc₂
          exact ⟨e₂, a₂, w₂, hq₂, .of_steps (Steps.trans harr (.one step_inLoop)) harr₂⟩
        | exit id => exact ⟨.exit id, a₁, w₁, (show postC N0 w0 nt Q (.exit id) a₁ w₁ from hq), .pass (x := .inLoop x) rfl (fun _ _ => .inl (by simp)) harr⟩
        | ret => exact ⟨.ret, a₁, w₁, (show postC N0 w0 nt Q .ret a₁ w₁ from hq), .pass (x := .inLoop x) rfl (fun _ _ => .inl (by simp)) harr⟩
        | goto l => exact hq.elim
        | panic c => exact hq.elim
        | outgrown => exact hq.elim
    obtain ⟨φ₀, hc₀⟩ := Conc.to hnf h0 h
    obtain ⟨e, a', w', hq, harr⟩ := key _ i₀ σ φ₀ a w rfl hc₀
    exact ⟨e, a', w', hq, .of_steps (.one step_loop) harr⟩
  | region id ops d =>
    intro hok Q σ φ a w h hw
    simp only [codeOK, Bool.and_eq_true, Bool.or_eq_true, Bool.not_eq_true'] at hok
    simp only [wpA] at hw
    obtain ⟨τ, hr, hQ⟩ := hw
    exact region_sound hΓ hfx hm h hok.1 (fun e => hok.2.resolve_left (by simp [e])) hr fun φ' a' w' hc => ⟨τ, φ', hQ, hc⟩
  | _ => intro _ Q σ φ a w h hw; simp only [wpA] at hw

def resS (tmps : Array Value) : ResultVar → Sem Value
  | .tmp t => pure (tmps.getD t undef)
  | .cell c t => do loadVar t (← asAddr (tmps.getD c undef))
theorem results_eq (fn : Func) (tmps : Array Value) : results fn tmps = (do
    let vs ← fn.results.mapM (resS tmps)
    pure (if h : vs.size = 1 then vs[0] else .tuple vs)) := rfl

theorem resA_sound (h : Conc N0 w0 nt σ φ a w) {r : ResultVar} {x : A} (hr : resA P σ r = some x) :
    ∃ v, (resS a.tmps r).run P w = .ok v w ∧ Rep ⟨N0, [], w⟩ x v := by
  cases r with
  | tmp t =>
    simp only [resA] at hr
    exact ⟨_, by simp only [resS, Sem.run_pure], (view_sound h hr (h.slots t) (N' := N0) ⟨fun b hb => .inl hb, .inr (own_not_n0 h)⟩).1⟩
  | cell c t =>
    simp only [resA] at hr
    unfold resC at hr
    split at hr
    · rename_i n off hl
      split at hr
      · rename_i cs ho
        cases hld : loadC P t (cs.drop off) with
        | none => simp [hld] at hr
        | some y =>
          simp only [hld, Option.bind_some] at hr
          have hs := h.slots c
          rw [hl] at hs
          simp only [Rep] at hs
          obtain ⟨b, k, hφ, hv⟩ := hs
          have hob := h.objs n _ _ ho hφ
          simp only [ObjRel] at hob
          have hm := RepM_drop (n := off) hob.2
          rw [Nat.zero_add] at hm
          obtain ⟨v, hrun, hrep, _⟩ := load_mem (E := envOf N0 φ w) hm hld
          refine ⟨v, ?_, (view_sound h hr hrep (N' := N0) ⟨fun b hb => .inl hb, .inr (own_not_n0 h)⟩).1⟩
          simp only [resS]
          rw [hv]
          simp only [asAddr, Sem.run_bind, Sem.run_pure, Result.andThen_ok]
          exact hrun
      · simp at hr
    · simp at hr

theorem resL_sound (h : Conc N0 w0 nt σ φ a w) : ∀ {rs : List ResultVar} {xs : List A}, resL P σ rs = some xs →
    ∃ vs : List Value, (rs.mapM (resS a.tmps)).run P w = .ok vs w ∧ RepL ⟨N0, [], w⟩ xs vs
  | [], xs, hr => by
    simp only [resL, Option.some.injEq] at hr
    subst hr
    exact ⟨[], by simp, by simp [RepL]⟩
  | r :: rs, xs, hr => by
    simp only [resL] at hr
    cases h1 : resA P σ r with
    | none => simp [h1] at hr
    | some x =>
      cases h2 : resL P σ rs with
      | none => simp [h1, h2] at hr
      | some ys =>
        simp [h1, h2] at hr
        subst hr
        obtain ⟨v, g1, g2⟩ := resA_sound h h1
        obtain ⟨vs, g3, g4⟩ := resL_sound h h2
        refine ⟨v :: vs, ?_, by simp only [RepL]; exact ⟨v, vs, rfl, g2, g4⟩⟩
        simp only [List.mapM_cons, Sem.run_bind, g1, Result.andThen_ok, Sem.run_pure, g3]

theorem results_sound (h : Conc N0 w0 nt σ φ a w) {fn : Func} {xs : List A} (hr : resL P σ fn.results.toList = some xs) :
    ∃ v, (results fn a.tmps).run P w = .ok v w ∧ Rep ⟨N0, [], w⟩ (resOf xs) v := by
  obtain ⟨vs, h1, h2⟩ := resL_sound h hr
  refine ⟨if h : vs.toArray.size = 1 then vs.toArray[0] else .tuple vs.toArray, ?_, ?_⟩
  · rw [results_eq, Sem.run_bind, Array.mapM_eq_mapM_toList, Sem.run_map]
    rw [h1]
    simp
  · obtain ⟨g1, g2⟩ := RepL_iff.1 h2
    cases xs with
    | nil =>
      have : vs = [] := List.length_eq_zero_iff.1 (by simpa using g1.symm)
      subst this
      simp [resOf, Rep, RepL]
    | cons x xs =>
      cases xs with
      | nil =>
        simp only [RepL] at h2
        obtain ⟨v, vs', rfl, hx, rfl⟩ := h2
        simpa [resOf] using hx
      | cons y ys =>
        rw [dif_neg (by simp at g1 ⊢; omega)]
        simp only [resOf, Rep]
        exact ⟨vs, rfl, h2⟩

theorem look_number : ∀ (args : List A) (i d : Nat), look (number i args) d = if i ≤ d ∧ d < i + args.length then args.getD (d - i) .any else .any
  | [], i, d => by simp [number, look]
  | x :: xs, i, d => by
    simp only [number, look, List.length_cons]
    split
    · rename_i h; subst h; simp
    · rename_i h
      rw [look_number xs (i + 1) d]
      by_cases hd : i + 1 ≤ d ∧ d < i + 1 + xs.length
      · rw [if_pos hd, if_pos (by omega), show d - i = (d - (i + 1)) + 1 by omega]
        simp
      · rw [if_neg hd, if_neg (by omega)]

/-- A function does what its body does on pure data. -/
theorem callA_of_body (hΓ : TabOK P Γ) (hm : P.follows .mixedOrders = true) {f : FuncId} {fn : Func} {c : Code} (hf : P.funcs[f]? = some fn) (hb : fn.body = some c) {args : List A} (hlen : args.length ≤ fn.ntmps)
    (hok : codeOK P Γ fn.ntmps c = true) {Post : A → Prop} (hw : wpA P Γ c (bodyA P fn Post) (startA args)) : CallA P f args Post := by
  intro N w vs hN hrep
  obtain ⟨g1, g2⟩ := RepL_iff.1 hrep
  refine calls_of_wp hf hb ?_
  have hext : Ext (fun _ => True) ⟨N, [], w⟩ (envOf N [] w) := {
    size := Nat.le_refl _
    blk := fun b _ hn => ⟨by
      rintro (h0 | ⟨m, k, hm⟩)
      · exact hn h0
      · simp at hm, rfl⟩
    refs := fun m o _ hm => by simp at hm
    own := fun m b k c e fr _ hm => by simp at hm }
  have hstart : Conc N { toWorld := w, M := fun _ => False, fix := Γ.fix, φ0 := [] } fn.ntmps (startA args) [] { tmps := vs.toArray ++ Array.replicate (fn.ntmps - vs.toArray.size) undef, defers := [] } w := {
    slots := fun d => by
      simp only [startA]
      rw [look_number]
      split
      · rename_i hd
        simp only [Nat.zero_add] at hd
        have hdv : d < vs.length := by omega
        have hx : args[d]? = some args[d] := List.getElem?_eq_getElem hd.2
        have hv : vs[d]? = some vs[d] := List.getElem?_eq_getElem hdv
        have := Rep.mono hext _ _ (g2 d _ _ hx hv) (fun _ _ => trivial)
        have e1 : args.getD (d - 0) .any = args[d] := by simp [hd.2]
        have e2 : (vs.toArray ++ Array.replicate (fn.ntmps - vs.toArray.size) undef).getD d undef = vs[d] := by
          simp [Array.getElem?_append, hdv]
        rw [e1, e2]
        exact this
      · simp only [Rep]
    size := by simp; omega
    defers := rfl
    len := rfl
    objs := fun n o p ho => by simp [startA, nthO] at ho
    own := fun n b k hn => by simp at hn
    inj := fun n m b k k' hn => by simp at hn
    n0 := fun b hb => ⟨hN b hb, fun h => h⟩
    fixd := fun n p _ hp => by simp at hp
    below := Kept.refl _ }
  refine wp_mono (wpA_sound hΓ rfl (fun n _ h => by simp at h) hm c hok _ _ _ _ _ hstart hw) fun e a' w' hq => ?_
  have fin : ∀ (τ : St) (φ : List Own), K? (resL P τ fn.results.toList) (fun rs => Post (resOf rs)) → Conc N { toWorld := w, M := fun _ => False, fix := Γ.fix, φ0 := [] } fn.ntmps τ φ a' w' →
      a'.defers = [] ∧ ∃ v, (results fn a'.tmps).run P w' = .ok v w' ∧ ∃ v' r, Ending.returned v = .returned v' ∧ Post r ∧ Rep ⟨N, [], w'⟩ r v' ∧ Grew w w' := by
    rintro τ φ ⟨xs, hx, hP⟩ hc
    obtain ⟨v, hv, hr⟩ := results_sound hc hx
    exact ⟨hc.defers, v, hv, v, _, rfl, hP, hr, ⟨hc.below.size, fun b hb => hc.below.block b hb (fun h => h), hc.below.os, hc.below.tape, hc.below.output, hc.below.drawn⟩⟩
  cases e with
  | normal =>
    obtain ⟨τ, φ, hq, hc⟩ := hq
    exact fin τ φ hq hc
  | ret =>
    obtain ⟨τ, φ, hq, hc⟩ := hq
    exact fin τ φ hq hc
  | exit i =>
    obtain ⟨τ, φ, hq, hc⟩ := hq
    exact hq.elim
  | goto l => exact hq.elim
  | panic c => exact hq.elim
  | outgrown => exact hq.elim

theorem rawA_sound (h : Conc N0 w0 nt σ φ a w) {r : ResultVar} {x : A} (hr : rawA P σ r = some x) :
    ∃ v, (resS a.tmps r).run P w = .ok v w ∧ Rep (envOf N0 φ w) x v := by
  cases r with
  | tmp t =>
    simp only [rawA, Option.some.injEq] at hr
    subst hr
    exact ⟨_, by simp only [resS, Sem.run_pure], h.slots t⟩
  | cell c t =>
    simp only [rawA] at hr
    unfold rawC at hr
    split at hr
    · rename_i n off hl
      split at hr
      · rename_i cs ho
        have hs := h.slots c
        rw [hl] at hs
        simp only [Rep] at hs
        obtain ⟨b, k, hφ, hv⟩ := hs
        have hob := h.objs n _ _ ho hφ
        simp only [ObjRel] at hob
        have hm := RepM_drop (n := off) hob.2
        rw [Nat.zero_add] at hm
        obtain ⟨v, hrun, hrep, _⟩ := load_mem (E := envOf N0 φ w) hm hr
        refine ⟨v, ?_, hrep⟩
        simp only [resS]
        rw [hv]
        simp only [asAddr, Sem.run_bind, Sem.run_pure, Result.andThen_ok]
        exact hrun
      · simp at hr
    · simp at hr
theorem rawL_sound (h : Conc N0 w0 nt σ φ a w) : ∀ {rs : List ResultVar} {xs : List A}, rawL P σ rs = some xs →
    ∃ vs : List Value, (rs.mapM (resS a.tmps)).run P w = .ok vs w ∧ RepL (envOf N0 φ w) xs vs
  | [], xs, hr => by
    simp only [rawL, Option.some.injEq] at hr
    subst hr
    exact ⟨[], by simp, by simp [RepL]⟩
  | r :: rs, xs, hr => by
    simp only [rawL] at hr
    obtain ⟨x, h1, hr⟩ := Option.bind_eq_some_iff.1 hr
    obtain ⟨ys, h2, rfl⟩ := Option.map_eq_some_iff.1 hr
    obtain ⟨v, g1, g2⟩ := rawA_sound h h1
    obtain ⟨vs, g3, g4⟩ := rawL_sound h h2
    refine ⟨v :: vs, ?_, by simp only [RepL]; exact ⟨v, vs, rfl, g2, g4⟩⟩
    simp only [List.mapM_cons, Sem.run_bind, g1, Result.andThen_ok, Sem.run_pure, g3]
theorem resultsRaw_sound (h : Conc N0 w0 nt σ φ a w) {fn : Func} {xs : List A} (hr : rawL P σ fn.results.toList = some xs) :
    ∃ v, (results fn a.tmps).run P w = .ok v w ∧ Rep (envOf N0 φ w) (resOf xs) v := by
  obtain ⟨vs, h1, h2⟩ := rawL_sound h hr
  refine ⟨if h : vs.toArray.size = 1 then vs.toArray[0] else .tuple vs.toArray, ?_, ?_⟩
  · rw [results_eq, Sem.run_bind, Array.mapM_eq_mapM_toList, Sem.run_map]
    rw [h1]
    simp
  · obtain ⟨g1, g2⟩ := RepL_iff.1 h2
    cases xs with
    | nil =>
      have : vs = [] := List.length_eq_zero_iff.1 (by simpa using g1.symm)
      subst this
      simp [resOf, Rep, RepL]
    | cons x xs =>
      cases xs with
      | nil =>
        simp only [RepL] at h2
        obtain ⟨v, vs', rfl, hx, rfl⟩ := h2
        simpa [resOf] using hx
      | cons y ys =>
        rw [dif_neg (by simp at g1 ⊢; omega)]
        simp only [resOf, Rep]
        exact ⟨vs, rfl, h2⟩

/-- A function does what its body does on its objects. -/
theorem callH_of_body (hΓ : TabOK P Γ) (hm : P.follows .mixedOrders = true) {f : FuncId} {fn : Func} {c : Code} (hf : P.funcs[f]? = some fn) (hb : fn.body = some c) {args : List A} {H H' : List Obj} {r : A} {S : List Nat} (hlen : args.length ≤ fn.ntmps)
    (hfix : ∀ n, n < H.length → n ∉ S → Γ.fix n = true) (hnf : H.length ≤ Γ.nf) (hl : Γ.nf ≤ H'.length)
    (hok : codeOK P Γ fn.ntmps c = true) (hw : wpA P Γ c (bodyH P fn r H') (startH args H)) : CallH P f args H r H' S := by
  intro N φ w vs hN hrel hfree hrep
  obtain ⟨g1, g2⟩ := RepL_iff.1 hrep
  refine calls_of_wp hf hb ?_
  have hφl : ∀ n : Nat, n < φ.length → n < Γ.nf := fun n hn => by have := hrel.len; omega
  have hstart : Conc N { toWorld := w, M := fun b => ∃ n k : Nat, φ[n]? = some (Own.loc b k), fix := Γ.fix, φ0 := φ } fn.ntmps (startH args H) φ { tmps := vs.toArray ++ Array.replicate (fn.ntmps - vs.toArray.size) undef, defers := [] } w := {
    slots := fun d => by
      simp only [startH]
      rw [look_number]
      split
      · rename_i hd
        simp only [Nat.zero_add] at hd
        have hdv : d < vs.length := by omega
        have hx : args[d]? = some args[d] := List.getElem?_eq_getElem hd.2
        have hv : vs[d]? = some vs[d] := List.getElem?_eq_getElem hdv
        have e1 : args.getD (d - 0) .any = args[d] := by simp [hd.2]
        have e2 : (vs.toArray ++ Array.replicate (fn.ntmps - vs.toArray.size) undef).getD d undef = vs[d] := by
          simp [Array.getElem?_append, hdv]
        rw [e1, e2]
        exact g2 d _ _ hx hv
      · simp only [Rep]
    size := by simp; omega
    defers := rfl
    len := hrel.len
    objs := hrel.objs
    own := fun n b k hn => ⟨.inr ⟨n, k, hn⟩, (hrel.own n b k hn).1⟩
    inj := hrel.inj
    n0 := fun b hb => ⟨hN b hb, fun ⟨n, k, hn⟩ => (hrel.own n b k hn).2 hb⟩
    fixd := fun n p _ hp _ => hp
    below := Kept.refl _ }
  refine wp_mono (wpA_sound hΓ rfl (fun n _ h => hφl n h) hm c hok _ _ _ _ _ hstart hw) fun e a' w' hq => ?_
  have fin : ∀ (τ : St) (φ' : List Own), K? (rawL P τ fn.results.toList) (fun rs => resOf rs = r ∧ r.under H'.length = true ∧ leH H'.length τ.H H') →
      Conc N { toWorld := w, M := fun b => ∃ n k : Nat, φ[n]? = some (Own.loc b k), fix := Γ.fix, φ0 := φ } fn.ntmps τ φ' a' w' →
      a'.defers = [] ∧ ∃ v, (results fn a'.tmps).run P w' = .ok v w' ∧ ∃ v' φ', Ending.returned v = .returned v' ∧ Rep (envOf N φ' w') r v' ∧ HeapRel N φ' H' w' ∧ TurnH φ w S φ' w' ∧ H.length ≤ H'.length := by
    rintro τ φ' ⟨xs, hx, rfl, hu, hle⟩ hc
    obtain ⟨v, hv, hr⟩ := resultsRaw_sound hc hx
    have hext := hc.le_ext H'.length
    have hc2 := hc.le (τ := ⟨[], H'⟩) (fun n _ h => hφl n h) hl ⟨trivial, hle⟩
    refine ⟨hc.defers, v, hv, v, φ'.take H'.length, rfl, Rep.mono hext _ _ hr fun n hn => A.under_mem _ hu hn, ?_, ?_, by omega⟩
    · exact {
        len := hc2.len
        objs := hc2.objs
        own := fun n b k hn => ⟨(hc2.own n b k hn).2, fun h0 => by
          rcases (hc2.own n b k hn).1 with h1 | h1
          · have := (hc2.n0 b h0).1; simp at this h1; omega
          · exact (hc2.n0 b h0).2 h1⟩
        inj := hc2.inj }
    · exact {
        os := hc2.below.os
        tape := hc2.below.tape
        output := hc2.below.output
        drawn := hc2.below.drawn
        size := hc2.below.size
        block := fun b hb hM => hc2.below.block b hb fun ⟨n, k, hn⟩ => hM n k hn
        shape := hc2.below.shape
        own := fun n b k hn => (hc2.own n b k hn).1
        stay := fun n p hn hp => by
          have hlt := (List.getElem?_eq_some_iff.1 hp).1
          exact hc2.fixd n p (hfix n (by rw [← hrel.len]; exact hlt) hn) hp (fun e => hfree n (by rw [hp, e])) }
  cases e with
  | normal =>
    obtain ⟨τ, φ', hq, hc⟩ := hq
    exact fin τ φ' hq hc
  | ret =>
    obtain ⟨τ, φ', hq, hc⟩ := hq
    exact fin τ φ' hq hc
  | exit i =>
    obtain ⟨τ, φ', hq, hc⟩ := hq
    exact hq.elim
  | goto l => exact hq.elim
  | panic c => exact hq.elim
  | outgrown => exact hq.elim
end

end Go.Abs
