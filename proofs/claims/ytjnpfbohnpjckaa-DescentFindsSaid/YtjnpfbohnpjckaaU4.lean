/- What the laws of this claim rest on: the abstract executor, its soundness, and what the functions compute on pure data. No condition. -/
import Derived.Test.YtjnpfbohnpjckaaU3
import Derived.Deep.Slices
import Derived.OpenShut
set_option linter.unusedVariables false
set_option linter.unusedSimpArgs false
namespace Go.Abs
open Go.RowKit
mutual
theorem A.under_mem {m n : Nat} : ∀ x : A, x.under m = true → x.mem n = true → n < m
  | .any, _, h => by simp [A.mem] at h
  | .int _ _, _, h => by simp [A.mem] at h
  | .bool _, _, h => by simp [A.mem] at h
  | .str _, _, h => by simp [A.mem] at h
  | .slc _, _, h => by simp [A.mem] at h
  | .clip _, _, h => by simp [A.mem] at h
  | .dptr _, _, h => by simp [A.mem] at h
  | .nils, _, h => by simp [A.mem] at h
  | .nilp, _, h => by simp [A.mem] at h
  | .emp _, _, h => by simp [A.mem] at h
  | .ref _ _, hu, h => by simp [A.under] at hu; simp [A.mem] at h; omega
  | .eref _ _ _, hu, h => by simp [A.under] at hu; simp [A.mem] at h; omega
  | .row _ _ _ _ _, hu, h => by simp [A.under] at hu; simp [A.mem] at h; omega
  | .agg cs, hu, h => A.underL_mem cs (by simpa only [A.under] using hu) (by simpa only [A.mem] using h)
  | .fn _ cs, hu, h => A.underL_mem cs (by simpa only [A.under] using hu) (by simpa only [A.mem] using h)
  | .tup cs, hu, h => A.underL_mem cs (by simpa only [A.under] using hu) (by simpa only [A.mem] using h)
theorem A.underL_mem {m n : Nat} : ∀ cs : List A, A.under.underL m cs = true → A.mem.memL n cs = true → n < m
  | [], _, h => by simp [A.mem.memL] at h
  | c :: cs, hu, h => by
    simp only [A.under.underL, Bool.and_eq_true] at hu
    simp only [A.mem.memL, Bool.or_eq_true] at h
    rcases h with h | h
    · exact A.under_mem c hu.1 h
    · exact A.underL_mem cs hu.2 h
end
section
variable {P : Program} {Γ : Tab} {N0 : Nat → Prop} {w0 : Base} {nt : Nat} {σ τ : St} {φ : List Own} {a : Act} {w : World}
theorem leS_look {m : Nat} {s : List (Nat × A)} : ∀ {r : List (Nat × A)}, leS m s r → ∀ d, look r d = .any ∨ (look r d = look s d ∧ (look r d).under m = true)
  | [], _, d => .inl rfl
  | (e, y) :: r, h, d => by
    simp only [leS] at h
    simp only [look]
    split
    · rename_i he; subst he; exact .inr ⟨h.1.1.symm, h.1.2⟩
    · exact leS_look h.2 d
theorem leH_get {m : Nat} : ∀ {H G : List Obj}, leH m H G → ∀ (n : Nat) (y : Obj), G[n]? = some y → ∃ x, H[n]? = some x ∧ leO m x y
  | [], [], _, n, y, h => by simp at h
  | _ :: _, [], _, n, y, h => by simp at h
  | [], _ :: _, hl, _, _, _ => by simp [leH] at hl
  | x :: H, y :: G, hl, n, z, h => by
    simp only [leH] at hl
    cases n with
    | zero => simp at h; subst h; exact ⟨x, rfl, hl.1⟩
    | succ n => simpa using leH_get hl.2 n z (by simpa using h)
theorem leH_len {m : Nat} : ∀ {H G : List Obj}, leH m H G → G.length ≤ H.length
  | [], [], _ => by simp
  | _ :: _, [], _ => by simp
  | [], _ :: _, hl => by simp [leH] at hl
  | x :: H, y :: G, hl => by
    simp only [leH] at hl
    have := leH_len hl.2
    simp; exact this
theorem leL_get {m : Nat} : ∀ {xs ys : List A}, leL m xs ys → ∀ (i : Nat) (y : A), ys[i]? = some y → ∃ x, xs[i]? = some x ∧ (y = .any ∨ (x = y ∧ y.under m = true))
  | [], [], _, i, y, h => by simp at h
  | [], _ :: _, hl, _, _, _ => by simp [leL] at hl
  | _ :: _, [], hl, _, _, _ => by simp [leL] at hl
  | x :: xs, y :: ys, hl, i, z, h => by
    simp only [leL] at hl
    cases i with
    | zero => simp at h; subst h; exact ⟨x, rfl, hl.1⟩
    | succ i => simpa using leL_get hl.2 i z (by simpa using h)
theorem Conc.le_ext (_h : Conc N0 w0 nt σ φ a w) (m : Nat) : Ext (fun n => n < m) (envOf N0 φ w) (envOf N0 (φ.take m) w) := by
  have hget : ∀ n : Nat, (φ.take m)[n]? = if n < m then φ[n]? else none := fun n => by rw [List.getElem?_take]
  exact {
    size := Nat.le_refl _
    blk := fun b _ hn => ⟨by
      rintro (h0 | ⟨n, k, hm⟩)
      · exact hn (.inl h0)
      · rw [hget] at hm
        split at hm
        · exact hn (.inr ⟨n, k, hm⟩)
        · simp at hm, rfl⟩
    refs := fun n o hk hm _ => by
      show (φ.take m)[n]? = some o
      rw [hget, if_pos hk]; exact hm
    own := fun m b k c e fr _ hm hc => ⟨c, fr, hc, rfl⟩ }
theorem Conc.le (h : Conc N0 w0 nt σ φ a w) {nf : Nat} (hnf : ∀ n : Nat, w0.fix n = true → n < w0.φ0.length → n < nf) (hl : nf ≤ τ.H.length) (hle : σ.le τ) : Conc N0 w0 nt τ (φ.take τ.H.length) a w := by
  obtain ⟨hS, hH⟩ := hle
  have hget : ∀ m : Nat, (φ.take τ.H.length)[m]? = if m < τ.H.length then φ[m]? else none := fun m => by rw [List.getElem?_take]
  have hat : ∀ m b k : Nat, (φ.take τ.H.length)[m]? = some (Own.loc b k) → φ[m]? = some (.loc b k) := fun m b k hm => by
    rw [hget] at hm
    split at hm
    · exact hm
    · simp at hm
  have hext : Ext (fun m => m < τ.H.length) (envOf N0 φ w) (envOf N0 (φ.take τ.H.length) w) := {
    size := Nat.le_refl _
    blk := fun b _ hn => ⟨by
      rintro (h0 | ⟨m, k, hm⟩)
      · exact hn (.inl h0)
      · exact hn (.inr ⟨m, k, hat m b k hm⟩), rfl⟩
    refs := fun m o hk hm _ => by
      show (φ.take τ.H.length)[m]? = some o
      rw [hget, if_pos hk]; exact hm
    own := fun m b k c e fr _ hm hc => ⟨c, fr, hc, rfl⟩ }
  exact {
    slots := fun d => by
      rcases leS_look hS d with hd | ⟨hd, hu⟩
      · rw [hd]; simp only [Rep]
      · have := h.slots d
        rw [← hd] at this
        exact Rep.mono hext _ _ this fun n hn => A.under_mem _ hu hn
    size := h.size
    defers := h.defers
    len := by
      have := leH_len hH
      rw [List.length_take, h.len]
      omega
    objs := fun m o p hm hp => by
      rw [nthO_eq] at hm
      obtain ⟨x, hx, hxo⟩ := leH_get hH m o hm
      have hp' : φ[m]? = some p := by
        rw [hget] at hp
        split at hp
        · exact hp
        · simp at hp
      have hob := h.objs m x p (by rw [nthO_eq]; exact hx) hp'
      cases x with
      | row k es =>
        cases o with
        | box ys => simp [leO] at hxo
        | row k' ys =>
          simp only [leO] at hxo
          obtain ⟨rfl, rfl⟩ := hxo
          exact ObjRel.mono hext hob (fun b k _ c e fr hh => hh) (fun cs hcs => by cases hcs)
      | box xs =>
        cases o with
        | row k ys => simp [leO] at hxo
        | box ys =>
          simp only [leO] at hxo
          cases p with
          | nil => simp [ObjRel] at hob
          | free => simp [ObjRel] at hob
          | loc b k =>
            simp only [ObjRel] at hob ⊢
            refine ⟨hob.1, RepM_iff.2 fun i y hy => ?_⟩
            obtain ⟨z, hz, hzy⟩ := leL_get hxo i y hy
            obtain ⟨v, hv, h1, hr⟩ := RepM_iff.1 hob.2 i z hz
            refine ⟨v, hv, h1, ?_⟩
            rcases hzy with rfl | ⟨rfl, hu⟩
            · simp only [Rep]
            · exact Rep.mono hext _ _ hr fun n hn => A.under_mem _ hu hn
    own := fun m b k hm => h.own m b k (hat m b k hm)
    inj := fun m m' b k k' hm hm' => h.inj m m' b k k' (hat m b k hm) (hat m' b k' hm')
    n0 := h.n0
    fixd := fun n p hf hp hfree => by
      have := hnf n hf (List.getElem?_eq_some_iff.1 hp).1
      rw [hget, if_pos (by omega)]
      exact h.fixd n p hf hp hfree
    below := h.below }
theorem Conc.reslot (h : Conc N0 w0 nt σ φ a w) {d : Nat} {x : A} (hx : Rep (envOf N0 φ w) x (a.tmps.getD d undef)) : Conc N0 w0 nt ⟨(d, x) :: σ.s, σ.H⟩ φ a w :=
  { h with
    slots := fun t => by
      simp only [look]
      split
      · rename_i e; subst e; exact hx
      · exact h.slots t }
theorem Conc.addNil (h : Conc N0 w0 nt σ φ a w) (k : Nat) : Conc N0 w0 nt ⟨σ.s, σ.H ++ [.row k []]⟩ (φ ++ [.nil]) a w := by
  have h1 := h.growOne
  have h2 := h1.newNil (n := σ.H.length) (k := k) (by rw [← h.len]; simp)
  have e1 : (St.setH { σ with H := σ.H ++ [.row 0 []] } σ.H.length (.row k [])) = ⟨σ.s, σ.H ++ [.row k []]⟩ := by
    simp [St.setH, setO_eq]
  have e2 : (φ ++ [Own.free]).set σ.H.length .nil = φ ++ [.nil] := by
    rw [← h.len]; simp
  rw [e1, e2] at h2
  exact h2
theorem look_back {ρ : List Nat} {m : Nat} : ∀ (s : List (Nat × A)) (d : Nat), look (s.map fun p => (p.1, p.2.back ρ m)) d = (look s d).back ρ m
  | [], d => by simp [look, A.back]
  | (e, x) :: s, d => by
    simp only [List.map_cons, look]
    split
    · rfl
    · exact look_back s d
theorem Conc.perm {nf : Nat} (hnf : ∀ n : Nat, w0.fix n = true → n < w0.φ0.length → n < nf) (h : Conc N0 w0 nt σ φ a w) {ρ : List Nat} (hl : σ.H.length = ρ.length) (hnd : ρ.Nodup) (hlt : ∀ n ∈ ρ, n < ρ.length) (hon : ∀ n, n < ρ.length → n ∈ ρ)
    (hk : ∀ i, i < nf → nthN ρ ρ.length i = i) : Conc N0 w0 nt (permSt ρ σ) (backG ρ φ φ) a w := by
  have hml : φ.length = σ.H.length := h.len
  have hle : ρ.length ≤ φ.length := by omega
  have hlt' : ∀ n ∈ ρ, n < φ.length := fun n hn => by have := hlt n hn; omega
  have hget : ∀ i, (backG ρ φ φ)[nthN ρ σ.H.length i]? = φ[i]? := fun i => by rw [← hml]; exact backG_new hle hnd hlt' i
  have hcase : ∀ (j : Nat) (p : Own), (backG ρ φ φ)[j]? = some p → ∃ i, j = nthN ρ σ.H.length i ∧ φ[i]? = some p := fun j p hj => by
    rcases backG_cases hle hnd hlt' hj with ⟨i, h1, h2⟩ | ⟨h1, h2, _⟩
    · exact ⟨i, by rw [← hml]; exact h1, h2⟩
    · exact absurd (hon j (by omega)) h1
  have hN : ∀ b, ¬ (envOf N0 φ w).N b → ¬ (envOf N0 (backG ρ φ φ) w).N b := fun b hb => by
    rintro (h0 | ⟨j, k, hj⟩)
    · exact hb (.inl h0)
    · obtain ⟨i, _, hi⟩ := hcase j _ hj
      exact hb (.inr ⟨i, k, hi⟩)
  have hφi : ∀ (i : Nat) (p : Own), φ[i]? = some p → (backG ρ φ φ)[nthN ρ σ.H.length i]? = some p := fun i p hp => by rw [hget]; exact hp
  exact {
    slots := fun d => by
      simp only [permSt]
      rw [look_back]
      exact rep_back (El := envOf N0 φ w) (E := envOf N0 (backG ρ φ φ) w) rfl hN hφi _ _ (h.slots d)
    size := h.size
    defers := h.defers
    len := by
      simp only [permSt]
      rw [backH_eq, backG_len hle, backG_len (by simp; omega), List.length_map]; omega
    objs := fun j o p ho hp => by
      simp only [permSt] at ho
      rw [nthO_eq, backH_eq] at ho
      obtain ⟨i, rfl, hi⟩ := hcase j p hp
      have := backG_new (ns := ρ) (os := σ.H.map (Obj.back ρ σ.H.length)) (xs := σ.H) (by simp; omega) hnd (fun n hn => by have := hlt n hn; omega) i
      rw [this, List.getElem?_map] at ho
      obtain ⟨o', ho', rfl⟩ := Option.map_eq_some_iff.1 ho
      exact objRel_back (El := envOf N0 φ w) (E := envOf N0 (backG ρ φ φ) w) rfl hN hφi (h.objs i o' p (by rw [nthO_eq]; exact ho') hi)
    own := fun n b k hn => by
      obtain ⟨i, _, hi⟩ := hcase n _ hn
      exact h.own i b k hi
    inj := fun n m b k k' hn hm => by
      obtain ⟨i, rfl, hi⟩ := hcase n _ hn
      obtain ⟨j, rfl, hj⟩ := hcase m _ hm
      rw [h.inj i j b k k' hi hj]
    n0 := h.n0
    fixd := fun n p hf hp hfree => by
      have h1 := hnf n hf (List.getElem?_eq_some_iff.1 hp).1
      have h2 := hk n h1
      rw [← hl] at h2
      have h3 := hφi n p (h.fixd n p hf hp hfree)
      rw [h2] at h3
      exact h3
    below := h.below }
theorem Conc.to {nf : Nat} (hnf : ∀ n : Nat, w0.fix n = true → n < w0.φ0.length → n < nf) {σ τ : St} (ht : St.to nf σ τ) : ∀ {φ : List Own}, Conc N0 w0 nt σ φ a w → ∃ φ', Conc N0 w0 nt τ φ' a w := by
  induction ht with
  | le hl hle => intro φ h; exact ⟨_, h.le hnf hl hle⟩
  | @nil σ τ d k hd _ ih =>
    intro φ h
    have h1 := h.addNil k
    have hs := h.slots d
    rw [hd] at hs
    simp only [Rep] at hs
    refine ih (h1.reslot (d := d) (x := .row σ.H.length 0 k 0 false) ?_)
    rw [hs]
    simp only [Rep]
    exact .inl ⟨.nil, by show (φ ++ [Own.nil])[σ.H.length]? = _; rw [← h.len]; simp, by simp, trivial, fun _ => trivial, none, rfl⟩
  | @nilb σ τ m i k cs hm hi _ ih =>
    intro φ h
    have h1 := h.addNil k
    have hmlt : m < σ.H.length := by rw [nthO_eq] at hm; exact (List.getElem?_eq_some_iff.1 hm).1
    have hφm : φ[m]? = some (φ[m]'(by rw [h.len]; exact hmlt)) := List.getElem?_eq_getElem _
    have e1 : St.setH ⟨σ.s, σ.H ++ [.row k []]⟩ m (.box (setNth cs i (.row σ.H.length 0 k 0 false))) = ⟨σ.s, setO σ.H m (.box (setNth cs i (.row σ.H.length 0 k 0 false))) ++ [.row k []]⟩ := by
      simp only [St.setH, setO_eq]
      rw [List.set_append_left _ _ hmlt]
    have h2 := h1.setObj (n := m) (o := .box (setNth cs i (.row σ.H.length 0 k 0 false))) (fun p hp => by
      have hob := h1.objs m (.box cs) p (by rw [nthO_eq, List.getElem?_append_left hmlt, ← nthO_eq]; exact hm) hp
      cases p with
      | nil => simp [ObjRel] at hob
      | free => simp [ObjRel] at hob
      | loc b k' =>
        simp only [ObjRel] at hob ⊢
        refine ⟨hob.1, RepM_iff.2 fun j y hy => ?_⟩
        rw [setNth_eq, List.getElem?_set] at hy
        split at hy
        · rename_i e
          subst e
          split at hy
          · simp at hy
            subst hy
            obtain ⟨v, hv, h1', hr⟩ := RepM_iff.1 hob.2 i _ hi
            refine ⟨v, hv, h1', ?_⟩
            simp only [Rep] at hr
            subst hr
            simp only [Rep]
            exact .inl ⟨.nil, by show (φ ++ [Own.nil])[σ.H.length]? = _; rw [← h.len]; simp, by simp, trivial, fun _ => trivial, none, rfl⟩
          · simp at hy
        · exact RepM_iff.1 hob.2 j y hy)
    rw [e1] at h2
    exact ih h2
  | @wk σ τ d es hd _ ih =>
    intro φ h
    have hs := h.slots d
    rw [hd] at hs
    refine ih (h.reslot (d := d) (x := .slc es) ?_)
    simp only [Rep] at hs ⊢
    obtain ⟨hp, a, hv, hl⟩ := hs
    exact ⟨hp, a, _, hv, Nat.le_refl _, hl⟩
  | @wkb σ τ m cs hm _ ih =>
    intro φ h
    exact ih (h.setObj (n := m) (o := .box (cs.map norm0)) (fun p hp => by
      have hob := h.objs m (.box cs) p hm hp
      cases p with
      | nil => simp [ObjRel] at hob
      | free => simp [ObjRel] at hob
      | loc b k' =>
        simp only [ObjRel] at hob ⊢
        refine ⟨hob.1, RepM_iff.2 fun j y hy => ?_⟩
        rw [List.getElem?_map] at hy
        obtain ⟨x, hx, rfl⟩ := Option.map_eq_some_iff.1 hy
        obtain ⟨v, hv, h1, hr⟩ := RepM_iff.1 hob.2 j x hx
        exact ⟨v, hv, h1, rep_norm0 hr⟩))
  | @perm σ τ ρ hl hnd hlt hon hk _ ih =>
    intro φ h
    exact ih (h.perm hnf hl hnd hlt hon hk)
  | @frz σ τ ρ H₀ hnd hH hρ _ ih =>
    intro φ h
    exact ih (h.frozen hnd hH (fun n hn hf => by
      rcases Nat.lt_or_ge n w0.φ0.length with hlt | hge
      · have := hnf n hf hlt
        have := hρ n hn
        omega
      · exact hge)).1
def postC (N0 : Nat → Prop) (w0 : Base) (nt : Nat) (Q : Ex → St → Prop) : Exit → Act → World → Prop
  | .normal, a, w => ∃ τ φ, Q .normal τ ∧ Conc N0 w0 nt τ φ a w
  | .exit i, a, w => ∃ τ φ, Q (.exit i) τ ∧ Conc N0 w0 nt τ φ a w
  | .ret, a, w => ∃ τ φ, Q .ret τ ∧ Conc N0 w0 nt τ φ a w
  | _, _, _ => False
theorem wpA_sound (hΓ : TabOK P Γ) (hfx : w0.fix = Γ.fix) (hnf : ∀ n : Nat, w0.fix n = true → n < w0.φ0.length → n < Γ.nf) (hm : P.follows .mixedOrders = true) : ∀ (c : Code), codeOK P Γ nt c = true → ∀ (Q : Ex → St → Prop) (σ : St) (φ : List Own) (a : Act) (w : World), Conc N0 w0 nt σ φ a w → wpA P Γ c Q σ → c.wp P (postC N0 w0 nt Q) a w := by
  intro c
  induction c with
  | skip => intro _ Q σ φ a w h hw; exact wp_skip ⟨σ, φ, by simpa only [wpA] using hw, h⟩
  | label l => intro _ Q σ φ a w h hw; exact wp_label ⟨σ, φ, by simpa only [wpA] using hw, h⟩
  | exit id => intro _ Q σ φ a w h hw; exact wp_exit ⟨σ, φ, by simpa only [wpA] using hw, h⟩
  | ret => intro _ Q σ φ a w h hw; exact wp_ret ⟨σ, φ, by simpa only [wpA] using hw, h⟩
  | seq x y ihx ihy =>
    intro hok Q σ φ a w h hw
    simp only [codeOK, Bool.and_eq_true] at hok
    simp only [wpA] at hw
    refine wp_seq (wp_mono (ihx hok.1 _ σ φ a w h hw) fun e a' w' hq => ?_)
    cases e with
    | normal =>
      obtain ⟨τ, φ', hq, hc⟩ := hq
      exact ihy hok.2 _ τ φ' a' w' hc hq
    | exit i => exact hq
    | ret => exact hq
    | goto l => exact hq
    | panic c => exact hq
    | outgrown => exact hq
  | cond c x y ihx ihy =>
    intro hok Q σ φ a w h hw
    simp only [codeOK, Bool.and_eq_true] at hok
    simp only [wpA, condA] at hw
    obtain ⟨t, ht, h1, h2⟩ := hw
    have hev := h.ev c
    rw [ht] at hev
    simp only [Rep] at hev
    exact wp_cond_split hev (fun e => ihx hok.1 Q σ φ a w h (h1 e)) (fun e => ihy hok.2 Q σ φ a w h (h2 e))
  | block id x ih =>
    intro hok Q σ φ a w h hw
    simp only [codeOK] at hok
    simp only [wpA] at hw
    refine wp_block (wp_mono (ih hok _ σ φ a w h hw) fun e a' w' hq => ?_)
    cases e with
    | normal => exact hq
    | exit i =>
      obtain ⟨τ, φ', hq, hc⟩ := hq
      simp only [blockQ] at hq
      simp only [Exit.inBlock]
      split
      · rename_i e; rw [if_pos e] at hq; exact ⟨τ, φ', hq, hc⟩
      · rename_i e; rw [if_neg e] at hq; exact ⟨τ, φ', hq, hc⟩
    | ret => exact hq
    | goto l => exact hq
    | panic c => exact hq
    | outgrown => exact hq
  | loop x ih =>
    intro hok Q σ φ a w h hw
    simp only [codeOK] at hok
    simp only [wpA] at hw
    obtain ⟨ι, inv, μ, ⟨i₀, h0⟩, hstep⟩ := hw
    intro b k cs
    have key : ∀ n (i : ι) (σ : St) (φ : List Own) (a : Act) (w : World), μ i = n → Conc N0 w0 nt (inv i) φ a w →
        ∃ e a' w', postC N0 w0 nt Q e a' w' ∧ Arrives P (lone (b.at a (.code x :: .inLoop x :: k)) cs w) b k cs e a' w' := by
      intro n
      induction n using Nat.strongRecOn with
      | _ n ihn =>
        intro i σ φ a w hn hc
        obtain ⟨e, a₁, w₁, hq, harr⟩ := ih hok _ (inv i) φ a w hc (hstep i) b (.inLoop x :: k) cs
        cases e with
        | normal =>
          obtain ⟨τ, φ', ⟨j, hle, hlt⟩, hc'⟩ := hq
          obtain ⟨φ₂, hc₂⟩ := Conc.to hnf hle hc'
          obtain ⟨e₂, a₂, w₂, hq₂, harr₂⟩ := ihn (μ j) (hn ▸ hlt) j τ φ₂ a₁ w₁ rfl hc₂
          exact ⟨e₂, a₂, w₂, hq₂, .of_steps (Steps.trans harr (.one step_inLoop)) harr₂⟩
        | exit id => exact ⟨.exit id, a₁, w₁, (show postC N0 w0 nt Q (.exit id) a₁ w₁ from hq), .pass (x := .inLoop x) rfl (fun _ _ => .inl (by simp)) harr⟩
        | ret => exact ⟨.ret, a₁, w₁, (show postC N0 w0 nt Q .ret a₁ w₁ from hq), .pass (x := .inLoop x) rfl (fun _ _ => .inl (by simp)) harr⟩
        | goto l => exact hq.elim
        | panic c => exact hq.elim
        | outgrown => exact hq.elim
    obtain ⟨φ₀, hc₀⟩ := Conc.to hnf h0 h
    obtain ⟨e, a', w', hq, harr⟩ := key _ i₀ σ φ₀ a w rfl hc₀
    exact ⟨e, a', w', hq, .of_steps (.one step_loop) harr⟩
  | region id ops d =>
    intro hok Q σ φ a w h hw
    simp only [codeOK, Bool.and_eq_true] at hok
    simp only [wpA] at hw
    obtain ⟨⟨hok1, hokf⟩, hok2⟩ := hok
    have key : ∀ (σ : St) (φ : List Own), Conc N0 w0 nt σ φ a w → regO P Γ (ordOf (Γ.ords id)) ops Q σ → (Code.region id ops d).wp P (postC N0 w0 nt Q) a w := fun σ φ h hw => by
      cases ho : ordOf (Γ.ords id) with
      | nil =>
        rw [ho] at hw hok2
        simp only [List.isEmpty_nil, if_true, Bool.or_eq_true, Bool.not_eq_true'] at hok2
        obtain ⟨τ, hr, hQ⟩ := hw
        exact region_sound hΓ hfx hm h hok1 (fun e => hok2.resolve_left (by simp [e])) hr fun φ' a' w' hc => ⟨τ, φ', hQ, hc⟩
      | cons o os =>
        rw [ho] at hw hok2
        simp only [List.isEmpty_cons, Bool.false_eq_true, if_false, Bool.and_eq_true] at hok2
        obtain ⟨rfl, hok3⟩ := hok2
        exact region_sound_ords hΓ hfx hm h hok1 hok3 hw fun τ φ' a' w' hq hc => ⟨τ, φ', hq, hc⟩
    unfold regW at hw
    unfold frzOK at hokf
    cases hf : frzOf (Γ.ords id) with
    | none => rw [hf] at hw; exact key σ φ h hw
    | some ρ =>
      rw [hf] at hw hokf
      simp only [Bool.and_eq_true, decide_eq_true_iff, List.all_eq_true] at hokf
      obtain ⟨H₀, hH, hw⟩ := hw
      exact key _ _ (h.frozen (hokf.1.filter _) hH (fun n hn hf => by
        have hn := (List.mem_filter.1 hn).1
        rcases Nat.lt_or_ge n w0.φ0.length with hlt | hge
        · have := hnf n hf hlt
          have := hokf.2 n hn
          omega
        · exact hge)).1 hw
  | _ => intro _ Q σ φ a w h hw; simp only [wpA] at hw
def resS (tmps : Array Value) : ResultVar → Sem Value
  | .tmp t => pure (tmps.getD t undef)
  | .cell c t => do loadVar t (← asAddr (tmps.getD c undef))
theorem results_eq (fn : Func) (tmps : Array Value) : results fn tmps = (do
    let vs ← fn.results.mapM (resS tmps)
    pure (if h : vs.size = 1 then vs[0] else .tuple vs)) := rfl
theorem resA_sound (h : Conc N0 w0 nt σ φ a w) {r : ResultVar} {x : A} (hr : resA P σ r = some x) :
    ∃ v, (resS a.tmps r).run P w = .ok v w ∧ Rep ⟨N0, [], w⟩ x v := by
  cases r with
  | tmp t =>
    simp only [resA] at hr
    exact ⟨_, by simp only [resS, Sem.run_pure], (view_sound h hr (h.slots t) (N' := N0) ⟨fun b hb => .inl hb, .inr (own_not_n0 h)⟩).1⟩
  | cell c t =>
    simp only [resA] at hr
    unfold resC at hr
    split at hr
    · rename_i n off hl
      split at hr
      · rename_i cs ho
        cases hld : loadC P t (cs.drop off) with
        | none => simp [hld] at hr
        | some y =>
          simp only [hld, Option.bind_some] at hr
          have hs := h.slots c
          rw [hl] at hs
          simp only [Rep] at hs
          obtain ⟨b, k, hφ, hv⟩ := hs
          have hob := h.objs n _ _ ho hφ
          simp only [ObjRel] at hob
          have hm := RepM_drop (n := off) hob.2
          rw [Nat.zero_add] at hm
          obtain ⟨v, hrun, hrep, _⟩ := load_mem (E := envOf N0 φ w) hm hld
          refine ⟨v, ?_, (view_sound h hr hrep (N' := N0) ⟨fun b hb => .inl hb, .inr (own_not_n0 h)⟩).1⟩
          simp only [resS]
          rw [hv]
          simp only [asAddr, Sem.run_bind, Sem.run_pure, Result.andThen_ok]
          exact hrun
      · simp at hr
    · simp at hr
theorem resL_sound (h : Conc N0 w0 nt σ φ a w) : ∀ {rs : List ResultVar} {xs : List A}, resL P σ rs = some xs →
    ∃ vs : List Value, (rs.mapM (resS a.tmps)).run P w = .ok vs w ∧ RepL ⟨N0, [], w⟩ xs vs
  | [], xs, hr => by
    simp only [resL, Option.some.injEq] at hr
    subst hr
    exact ⟨[], by simp, by simp [RepL]⟩
  | r :: rs, xs, hr => by
    simp only [resL] at hr
    cases h1 : resA P σ r with
    | none => simp [h1] at hr
    | some x =>
      cases h2 : resL P σ rs with
      | none => simp [h1, h2] at hr
      | some ys =>
        simp [h1, h2] at hr
        subst hr
        obtain ⟨v, g1, g2⟩ := resA_sound h h1
        obtain ⟨vs, g3, g4⟩ := resL_sound h h2
        refine ⟨v :: vs, ?_, by simp only [RepL]; exact ⟨v, vs, rfl, g2, g4⟩⟩
        simp only [List.mapM_cons, Sem.run_bind, g1, Result.andThen_ok, Sem.run_pure, g3]
theorem results_sound (h : Conc N0 w0 nt σ φ a w) {fn : Func} {xs : List A} (hr : resL P σ fn.results.toList = some xs) :
    ∃ v, (results fn a.tmps).run P w = .ok v w ∧ Rep ⟨N0, [], w⟩ (resOf xs) v := by
  obtain ⟨vs, h1, h2⟩ := resL_sound h hr
  refine ⟨if h : vs.toArray.size = 1 then vs.toArray[0] else .tuple vs.toArray, ?_, ?_⟩
  · rw [results_eq, Sem.run_bind, Array.mapM_eq_mapM_toList, Sem.run_map]
    rw [h1]
    simp
  · obtain ⟨g1, g2⟩ := RepL_iff.1 h2
    cases xs with
    | nil =>
      have : vs = [] := List.length_eq_zero_iff.1 (by simpa using g1.symm)
      subst this
      simp [resOf, Rep, RepL]
    | cons x xs =>
      cases xs with
      | nil =>
        simp only [RepL] at h2
        obtain ⟨v, vs', rfl, hx, rfl⟩ := h2
        simpa [resOf] using hx
      | cons y ys =>
        rw [dif_neg (by simp at g1 ⊢; omega)]
        simp only [resOf, Rep]
        exact ⟨vs, rfl, h2⟩
theorem look_number : ∀ (args : List A) (i d : Nat), look (number i args) d = if i ≤ d ∧ d < i + args.length then args.getD (d - i) .any else .any
  | [], i, d => by simp [number, look]
  | x :: xs, i, d => by
    simp only [number, look, List.length_cons]
    split
    · rename_i h; subst h; simp
    · rename_i h
      rw [look_number xs (i + 1) d]
      by_cases hd : i + 1 ≤ d ∧ d < i + 1 + xs.length
      · rw [if_pos hd, if_pos (by omega), show d - i = (d - (i + 1)) + 1 by omega]
        simp
      · rw [if_neg hd, if_neg (by omega)]
theorem callA_of_body (hΓ : TabOK P Γ) (hm : P.follows .mixedOrders = true) {f : FuncId} {fn : Func} {c : Code} (hf : P.funcs[f]? = some fn) (hb : fn.body = some c) {args : List A} (hlen : args.length ≤ fn.ntmps)
    (hok : codeOK P Γ fn.ntmps c = true) {Post : A → Prop} (hw : wpA P Γ c (bodyA P fn Post) (startA args)) : CallA P f args Post := by
  intro N w vs hN hrep
  obtain ⟨g1, g2⟩ := RepL_iff.1 hrep
  refine calls_of_wp hf hb ?_
  have hext : Ext (fun _ => True) ⟨N, [], w⟩ (envOf N [] w) := {
    size := Nat.le_refl _
    blk := fun b _ hn => ⟨by
      rintro (h0 | ⟨m, k, hm⟩)
      · exact hn h0
      · simp at hm, rfl⟩
    refs := fun m o _ hm => by simp at hm
    own := fun m b k c e fr _ hm => by simp at hm }
  have hstart : Conc N { toWorld := w, M := fun _ => False, fix := Γ.fix, φ0 := [] } fn.ntmps (startA args) [] { tmps := vs.toArray ++ Array.replicate (fn.ntmps - vs.toArray.size) undef, defers := [] } w := {
    slots := fun d => by
      simp only [startA]
      rw [look_number]
      split
      · rename_i hd
        simp only [Nat.zero_add] at hd
        have hdv : d < vs.length := by omega
        have hx : args[d]? = some args[d] := List.getElem?_eq_getElem hd.2
        have hv : vs[d]? = some vs[d] := List.getElem?_eq_getElem hdv
        have := Rep.mono hext _ _ (g2 d _ _ hx hv) (fun _ _ => trivial)
        have e1 : args.getD (d - 0) .any = args[d] := by simp [hd.2]
        have e2 : (vs.toArray ++ Array.replicate (fn.ntmps - vs.toArray.size) undef).getD d undef = vs[d] := by
          simp [Array.getElem?_append, hdv]
        rw [e1, e2]
        exact this
      · simp only [Rep]
    size := by simp; omega
    defers := rfl
    len := rfl
    objs := fun n o p ho => by simp [startA, nthO] at ho
    own := fun n b k hn => by simp at hn
    inj := fun n m b k k' hn => by simp at hn
    n0 := fun b hb => ⟨hN b hb, fun h => h⟩
    fixd := fun n p _ hp => by simp at hp
    below := Kept.refl _ }
  refine wp_mono (wpA_sound hΓ rfl (fun n _ h => by simp at h) hm c hok _ _ _ _ _ hstart hw) fun e a' w' hq => ?_
  have fin : ∀ (τ : St) (φ : List Own), K? (resL P τ fn.results.toList) (fun rs => Post (resOf rs)) → Conc N { toWorld := w, M := fun _ => False, fix := Γ.fix, φ0 := [] } fn.ntmps τ φ a' w' →
      a'.defers = [] ∧ ∃ v, (results fn a'.tmps).run P w' = .ok v w' ∧ ∃ v' r, Ending.returned v = .returned v' ∧ Post r ∧ Rep ⟨N, [], w'⟩ r v' ∧ Grew w w' := by
    rintro τ φ ⟨xs, hx, hP⟩ hc
    obtain ⟨v, hv, hr⟩ := results_sound hc hx
    exact ⟨hc.defers, v, hv, v, _, rfl, hP, hr, ⟨hc.below.size, fun b hb => hc.below.block b hb (fun h => h), hc.below.os, hc.below.tape, hc.below.output, hc.below.drawn⟩⟩
  cases e with
  | normal =>
    obtain ⟨τ, φ, hq, hc⟩ := hq
    exact fin τ φ hq hc
  | ret =>
    obtain ⟨τ, φ, hq, hc⟩ := hq
    exact fin τ φ hq hc
  | exit i =>
    obtain ⟨τ, φ, hq, hc⟩ := hq
    exact hq.elim
  | goto l => exact hq.elim
  | panic c => exact hq.elim
  | outgrown => exact hq.elim
theorem rawA_sound (h : Conc N0 w0 nt σ φ a w) {r : ResultVar} {x : A} (hr : rawA P σ r = some x) :
    ∃ v, (resS a.tmps r).run P w = .ok v w ∧ Rep (envOf N0 φ w) x v := by
  cases r with
  | tmp t =>
    simp only [rawA, Option.some.injEq] at hr
    subst hr
    exact ⟨_, by simp only [resS, Sem.run_pure], h.slots t⟩
  | cell c t =>
    simp only [rawA] at hr
    unfold rawC at hr
    split at hr
    · rename_i n off hl
      split at hr
      · rename_i cs ho
        have hs := h.slots c
        rw [hl] at hs
        simp only [Rep] at hs
        obtain ⟨b, k, hφ, hv⟩ := hs
        have hob := h.objs n _ _ ho hφ
        simp only [ObjRel] at hob
        have hm := RepM_drop (n := off) hob.2
        rw [Nat.zero_add] at hm
        obtain ⟨v, hrun, hrep, _⟩ := load_mem (E := envOf N0 φ w) hm hr
        refine ⟨v, ?_, hrep⟩
        simp only [resS]
        rw [hv]
        simp only [asAddr, Sem.run_bind, Sem.run_pure, Result.andThen_ok]
        exact hrun
      · simp at hr
    · simp at hr
theorem rawL_sound (h : Conc N0 w0 nt σ φ a w) : ∀ {rs : List ResultVar} {xs : List A}, rawL P σ rs = some xs →
    ∃ vs : List Value, (rs.mapM (resS a.tmps)).run P w = .ok vs w ∧ RepL (envOf N0 φ w) xs vs
  | [], xs, hr => by
    simp only [rawL, Option.some.injEq] at hr
    subst hr
    exact ⟨[], by simp, by simp [RepL]⟩
  | r :: rs, xs, hr => by
    simp only [rawL] at hr
    obtain ⟨x, h1, hr⟩ := Option.bind_eq_some_iff.1 hr
    obtain ⟨ys, h2, rfl⟩ := Option.map_eq_some_iff.1 hr
    obtain ⟨v, g1, g2⟩ := rawA_sound h h1
    obtain ⟨vs, g3, g4⟩ := rawL_sound h h2
    refine ⟨v :: vs, ?_, by simp only [RepL]; exact ⟨v, vs, rfl, g2, g4⟩⟩
    simp only [List.mapM_cons, Sem.run_bind, g1, Result.andThen_ok, Sem.run_pure, g3]
theorem resultsRaw_sound (h : Conc N0 w0 nt σ φ a w) {fn : Func} {xs : List A} (hr : rawL P σ fn.results.toList = some xs) :
    ∃ v, (results fn a.tmps).run P w = .ok v w ∧ Rep (envOf N0 φ w) (resOf xs) v := by
  obtain ⟨vs, h1, h2⟩ := rawL_sound h hr
  refine ⟨if h : vs.toArray.size = 1 then vs.toArray[0] else .tuple vs.toArray, ?_, ?_⟩
  · rw [results_eq, Sem.run_bind, Array.mapM_eq_mapM_toList, Sem.run_map]
    rw [h1]
    simp
  · obtain ⟨g1, g2⟩ := RepL_iff.1 h2
    cases xs with
    | nil =>
      have : vs = [] := List.length_eq_zero_iff.1 (by simpa using g1.symm)
      subst this
      simp [resOf, Rep, RepL]
    | cons x xs =>
      cases xs with
      | nil =>
        simp only [RepL] at h2
        obtain ⟨v, vs', rfl, hx, rfl⟩ := h2
        simpa [resOf] using hx
      | cons y ys =>
        rw [dif_neg (by simp at g1 ⊢; omega)]
        simp only [resOf, Rep]
        exact ⟨vs, rfl, h2⟩
theorem callH_of_body (hΓ : TabOK P Γ) (hm : P.follows .mixedOrders = true) {f : FuncId} {fn : Func} {c : Code} (hf : P.funcs[f]? = some fn) (hb : fn.body = some c) {args : List A} {H H' : List Obj} {r : A} {S : List Nat} (hlen : args.length ≤ fn.ntmps)
    (hfix : ∀ n, n < H.length → n ∉ S → Γ.fix n = true) (hnf : H.length ≤ Γ.nf) (hl : Γ.nf ≤ H'.length)
    (hok : codeOK P Γ fn.ntmps c = true) (hw : wpA P Γ c (bodyH P fn r H') (startH args H)) : CallH P f args H r H' S := by
  intro N φ w vs hN hrel hfree hrep
  obtain ⟨g1, g2⟩ := RepL_iff.1 hrep
  refine calls_of_wp hf hb ?_
  have hφl : ∀ n : Nat, n < φ.length → n < Γ.nf := fun n hn => by have := hrel.len; omega
  have hstart : Conc N { toWorld := w, M := fun b => ∃ n k : Nat, φ[n]? = some (Own.loc b k), fix := Γ.fix, φ0 := φ } fn.ntmps (startH args H) φ { tmps := vs.toArray ++ Array.replicate (fn.ntmps - vs.toArray.size) undef, defers := [] } w := {
    slots := fun d => by
      simp only [startH]
      rw [look_number]
      split
      · rename_i hd
        simp only [Nat.zero_add] at hd
        have hdv : d < vs.length := by omega
        have hx : args[d]? = some args[d] := List.getElem?_eq_getElem hd.2
        have hv : vs[d]? = some vs[d] := List.getElem?_eq_getElem hdv
        have e1 : args.getD (d - 0) .any = args[d] := by simp [hd.2]
        have e2 : (vs.toArray ++ Array.replicate (fn.ntmps - vs.toArray.size) undef).getD d undef = vs[d] := by
          simp [Array.getElem?_append, hdv]
        rw [e1, e2]
        exact g2 d _ _ hx hv
      · simp only [Rep]
    size := by simp; omega
    defers := rfl
    len := hrel.len
    objs := hrel.objs
    own := fun n b k hn => ⟨.inr ⟨n, k, hn⟩, (hrel.own n b k hn).1⟩
    inj := hrel.inj
    n0 := fun b hb => ⟨hN b hb, fun ⟨n, k, hn⟩ => (hrel.own n b k hn).2 hb⟩
    fixd := fun n p _ hp _ => hp
    below := Kept.refl _ }
  refine wp_mono (wpA_sound hΓ rfl (fun n _ h => hφl n h) hm c hok _ _ _ _ _ hstart hw) fun e a' w' hq => ?_
  have fin : ∀ (τ : St) (φ' : List Own), K? (rawL P τ fn.results.toList) (fun rs => resOf rs = r ∧ r.under H'.length = true ∧ leH H'.length τ.H H') →
      Conc N { toWorld := w, M := fun b => ∃ n k : Nat, φ[n]? = some (Own.loc b k), fix := Γ.fix, φ0 := φ } fn.ntmps τ φ' a' w' →
      a'.defers = [] ∧ ∃ v, (results fn a'.tmps).run P w' = .ok v w' ∧ ∃ v' φ', Ending.returned v = .returned v' ∧ Rep (envOf N φ' w') r v' ∧ HeapRel N φ' H' w' ∧ TurnH φ w S φ' w' ∧ H.length ≤ H'.length := by
    rintro τ φ' ⟨xs, hx, rfl, hu, hle⟩ hc
    obtain ⟨v, hv, hr⟩ := resultsRaw_sound hc hx
    have hext := hc.le_ext H'.length
    have hc2 := hc.le (τ := ⟨[], H'⟩) (fun n _ h => hφl n h) hl ⟨trivial, hle⟩
    refine ⟨hc.defers, v, hv, v, φ'.take H'.length, rfl, Rep.mono hext _ _ hr fun n hn => A.under_mem _ hu hn, ?_, ?_, by omega⟩
    · exact {
        len := hc2.len
        objs := hc2.objs
        own := fun n b k hn => ⟨(hc2.own n b k hn).2, fun h0 => by
          rcases (hc2.own n b k hn).1 with h1 | h1
          · have := (hc2.n0 b h0).1; simp at this h1; omega
          · exact (hc2.n0 b h0).2 h1⟩
        inj := hc2.inj }
    · exact {
        os := hc2.below.os
        tape := hc2.below.tape
        output := hc2.below.output
        drawn := hc2.below.drawn
        size := hc2.below.size
        block := fun b hb hM => hc2.below.block b hb fun ⟨n, k, hn⟩ => hM n k hn
        shape := hc2.below.shape
        own := fun n b k hn => (hc2.own n b k hn).1
        stay := fun n p hn hp => by
          have hlt := (List.getElem?_eq_some_iff.1 hp).1
          exact hc2.fixd n p (hfix n (by rw [← hrel.len]; exact hlt) hn) hp (fun e => hfree n (by rw [hp, e])) }
  cases e with
  | normal =>
    obtain ⟨τ, φ', hq, hc⟩ := hq
    exact fin τ φ' hq hc
  | ret =>
    obtain ⟨τ, φ', hq, hc⟩ := hq
    exact fin τ φ' hq hc
  | exit i =>
    obtain ⟨τ, φ', hq, hc⟩ := hq
    exact hq.elim
  | goto l => exact hq.elim
  | panic c => exact hq.elim
  | outgrown => exact hq.elim
end
end Go.Abs
namespace Go.Abs
open Go.RowKit
inductive CT where
  | int (k : IntKind)
  | bool
  | str
  | list (c : CT)
  | rows (cs : List CT)
mutual
def fits : CT → A → Prop
  | .int k, x => ∃ n, x = .int k n ∧ (Lit.int k n).wf = true
  | .bool, x => ∃ b, x = .bool b
  | .str, x => ∃ s, x = .str s ∧ s.length ≤ maxLen
  | .list c, x => ∃ es, x = .slc es ∧ es.length ≤ maxLen ∧ ∀ e ∈ es, fits c e
  | .rows cs, x => ∃ es, x = .slc es ∧ es.length ≤ maxLen ∧ ∀ e ∈ es, ∃ ys, e = .agg ys ∧ fitsL cs ys
def fitsL : List CT → List A → Prop
  | [], ys => ys = []
  | c :: cs, ys => ∃ y zs, ys = y :: zs ∧ fits c y ∧ fitsL cs zs
end
def flatGo (rec : TypeId → Option (List CT)) (size : TypeId → Nat) : List Field → Nat → Option (List CT)
  | [], _ => some []
  | f :: fs, off =>
    if f.offset = off then
      match rec f.type with
      | some ks => if ks.length = size f.type then (flatGo rec size fs (off + size f.type)).map (ks ++ ·) else none
      | none => none
    else none
def flatTy (P : Program) : Nat → TypeId → Option (List CT)
  | 0, _ => none
  | d + 1, t =>
    match P.underlying t with
    | some .bool => some [.bool]
    | some (.int k) => some [.int k]
    | some .string => some [.str]
    | some (.slice e) =>
      match tyAgg P e, flatTy P d e with
      | some true, some (c :: cs) => if (c :: cs).length = P.cellsOf e then some [.rows (c :: cs)] else none
      | some false, some [c] => if P.cellsOf e = 1 then some [.list c] else none
      | _, _ => none
    | some (.struct fs) => (flatGo (flatTy P d) P.cellsOf fs.toList 0).bind fun ks => if ks.length = P.cellsOf t then some ks else none
    | some (.array n e) =>
      match flatTy P d e with
      | some ks => if ks.length = P.cellsOf e ∧ n * ks.length = P.cellsOf t then some (List.replicate n ks).flatten else none
      | none => none
    | _ => none
theorem fitsL_append : ∀ {cs ds : List CT} {ys zs : List A}, fitsL cs ys → fitsL ds zs → fitsL (cs ++ ds) (ys ++ zs)
  | [], ds, ys, zs, h, h' => by simp only [fitsL] at h; subst h; simpa using h'
  | c :: cs, ds, ys, zs, h, h' => by
    simp only [fitsL] at h
    obtain ⟨y, us, rfl, h1, h2⟩ := h
    simp only [List.cons_append, fitsL]
    exact ⟨y, us ++ zs, rfl, h1, fitsL_append h2 h'⟩
section
variable {H : Type} {enc : TypeId × Value → H} {P : Program} {w : World} {sp : Nat → Bool} {held : Bool}
def Reads (w : World) (cts : List CT) (cs : List Value) : Prop := ∃ xs : List A, RepL ⟨fun _ => False, [], w⟩ xs cs ∧ fitsL cts xs ∧ A.pure.pureL xs = true ∧ ∀ u ∈ cs, u.oneCell' = true
theorem Reads.append {cts cts' : List CT} {cs cs' : List Value} (h : Reads w cts cs) (h' : Reads w cts' cs') : Reads w (cts ++ cts') (cs ++ cs') := by
  obtain ⟨xs, h1, h2, h3, h4⟩ := h
  obtain ⟨ys, g1, g2, g3, g4⟩ := h'
  refine ⟨xs ++ ys, RepL_append h1 g1, fitsL_append h2 g2, pureL_of fun j y hy => ?_, fun u hu => ?_⟩
  · rcases List.mem_append.1 (List.mem_of_getElem? hy) with hm | hm
    · obtain ⟨r, hr⟩ := List.getElem?_of_mem hm; exact pureL_getElem h3 hr
    · obtain ⟨r, hr⟩ := List.getElem?_of_mem hm; exact pureL_getElem g3 hr
  · rcases List.mem_append.1 hu with hu | hu
    · exact h4 u hu
    · exact g4 u hu
theorem Reads.nil : Reads w [] [] := ⟨[], by simp [RepL], by simp [fitsL], rfl, by simp⟩
theorem reads_struct {rec : TypeId → Option (List CT)} {size : TypeId → Nat} {cs : List Value} : ∀ {fs : List Field} {off : Nat} {ks : List CT}, flatGo rec size fs off = some ks →
    (∀ f ∈ fs, ∀ k, rec f.type = some k → Reads w k ((cs.drop f.offset).take (size f.type))) → off + ks.length = cs.length → Reads w ks (cs.drop off)
  | [], off, ks, h, _, hl => by
    simp only [flatGo, Option.some.injEq] at h
    subst h
    have : cs.drop off = [] := List.drop_of_length_le (by simp at hl; omega)
    rw [this]
    exact Reads.nil
  | f :: fs, off, ks, h, hf, hl => by
    simp only [flatGo] at h
    split at h
    · rename_i ho
      split at h
      · rename_i k hk
        split at h
        · rename_i hsz
          cases hg : flatGo rec size fs (off + size f.type) with
          | none => simp [hg] at h
          | some ks' =>
            simp [hg] at h
            subst h
            have h1 := hf f (by simp) k hk
            rw [ho] at h1
            have h2 := reads_struct hg (fun g hgm => hf g (by simp [hgm])) (by simp at hl; omega)
            have := h1.append h2
            rw [show cs.drop (off + size f.type) = (cs.drop off).drop (size f.type) by rw [List.drop_drop], List.take_append_drop] at this
            exact this
        · simp at h
      · simp at h
    · simp at h
theorem reads_array {ks : List CT} {k : Nat} (hk : ks.length = k) : ∀ {n : Nat} {cs : List Value}, cs.length = n * k → (∀ i, i < n → Reads w ks ((cs.drop (i * k)).take k)) → Reads w (List.replicate n ks).flatten cs
  | 0, cs, hl, _ => by
    have : cs = [] := List.length_eq_zero_iff.1 (by simpa using hl)
    subst this
    simpa using Reads.nil (w := w)
  | n + 1, cs, hl, h => by
    rw [List.replicate_succ, List.flatten_cons]
    have h0 := h 0 (by omega)
    simp only [Nat.zero_mul, List.drop_zero] at h0
    have hr := reads_array hk (n := n) (cs := cs.drop k) (by simp [hl, Nat.add_mul]) (fun i hi => by
      have := h (i + 1) (by omega)
      rw [List.drop_drop, show k + i * k = (i + 1) * k by rw [Nat.add_mul]; omega]
      exact this)
    have := h0.append hr
    rw [List.take_append_drop] at this
    exact this
theorem spot_of {a : Addr} {v : Value} (h : w.cell? a = some v) : a = ⟨a.block, a.off, none⟩ ∧ a.block < w.heap.size := by
  unfold World.cell? at h
  split at h
  · rename_i c e fr hb
    split at h
    · simp at h
    · rename_i hs
      obtain ⟨b, o, s⟩ := a
      have : s = none := by cases s <;> simp_all
      subst this
      refine ⟨rfl, ?_⟩
      rcases Nat.lt_or_ge b w.heap.size with h' | h'
      · exact h'
      · rw [Array.getElem?_eq_none h'] at hb; simp at hb
  · simp at h
theorem reads_slice {k len cap : Nat} {a : Addr} (hk : k ≠ 0) (hlc : len ≤ cap) {mk : List A → A} {cts : List CT} (hmk : ∀ ys, fitsL cts ys → (mk ys).cells = ys) (hmp : ∀ ys, fitsL cts ys → A.pure.pureL ys = true → (mk ys).pure = true)
    (hx : ∀ i, i < len → ∃ cs, w.cells? 0 (a.add (i * k)) k = some cs ∧ Reads w cts cs) : ∃ es : List A, Rep ⟨fun _ => False, [], w⟩ (.slc es) (.slice (some a) len cap) ∧ es.length = len ∧ (A.slc es).pure = true ∧ ∀ e ∈ es, ∃ ys, e = mk ys ∧ fitsL cts ys := by
  obtain ⟨X, hX⟩ := Go.Deep.choose_lt (α := List A) (p := fun i ys => ∃ cs, w.cells? 0 (a.add (i * k)) k = some cs ∧ RepL ⟨fun _ => False, [], w⟩ ys cs ∧ fitsL cts ys ∧ A.pure.pureL ys = true ∧ ∀ u ∈ cs, u.oneCell' = true) (fun i hi => by
    obtain ⟨cs, h1, ys, h2⟩ := hx i hi
    exact ⟨ys, cs, h1, h2⟩)
  refine ⟨(List.range len).map fun i => mk (X i), ?_, by simp, by simp [A.pure], ?_⟩
  · simp only [Rep]
    refine ⟨pureL_of fun i e he => ?_, some a, cap, by simp, by simpa using hlc, fun hne => ?_⟩
    · have := List.mem_of_getElem? he
      obtain ⟨j, hj, rfl⟩ := List.mem_map.1 this
      obtain ⟨cs, _, _, hf, hp, _⟩ := hX j (List.mem_range.1 hj)
      exact hmp _ hf hp
    · have hlen : 0 < len := by
        rcases Nat.eq_zero_or_pos len with h | h
        · subst h; simp at hne
        · exact h
      obtain ⟨cs0, h1, h2, _⟩ := hX 0 hlen
      obtain ⟨_, hl0, hg0⟩ := World.cells?_some h1
      have h0 := hg0 0 (by omega)
      rw [Go.Deep.add_add] at h0
      simp only [Nat.zero_mul, Nat.add_zero] at h0
      have ha0 : a.add 0 = a := by simp [Addr.add]
      rw [ha0, List.getElem?_eq_getElem (by omega)] at h0
      obtain ⟨hspot, hblk⟩ := spot_of h0
      refine ⟨a.block, a.off, by rw [← hspot], hblk, fun h => h, ?_⟩
      have hE : RepE ⟨fun _ => False, [], w⟩ k a.block a.off ((List.range len).map fun i => mk (X i)) := by
        refine RepE_iff.2 fun i e he => ?_
        have hi : i < len := by
          have := (List.getElem?_eq_some_iff.1 he).1
          simpa using this
        have he' : e = mk (X i) := by
          rw [List.getElem?_map, List.getElem?_range hi] at he
          simpa using he.symm
        subst he'
        obtain ⟨cs, g1, g2, g3, g4, g5⟩ := hX i hi
        obtain ⟨_, gl, gg⟩ := World.cells?_some g1
        have hyl : (X i).length = k := by rw [(RepL_iff.1 g2).1, gl]
        rw [hmk _ g3]
        refine ⟨hyl, RepM_of_vals (vs := cs) (fun j v hv => ?_) g2 g5⟩
        have hj : j < k := by
          have := (List.getElem?_eq_some_iff.1 hv).1
          omega
        have := gg j hj
        rw [Go.Deep.add_add, hspot, Addr.add_lit, hv] at this
        rw [Nat.add_assoc]
        exact this
      have hst : strideOf ((List.range len).map fun i => mk (X i)) = k := stride_of hE hne
      rw [hst]
      exact hE
  · intro e he
    obtain ⟨j, hj, rfl⟩ := List.mem_map.1 he
    obtain ⟨cs, _, _, hf, _⟩ := hX j (List.mem_range.1 hj)
    exact ⟨X j, rfl, hf⟩
theorem reads_of_trod : ∀ (d : Nat) {t : TypeId} {cts : List CT} {fuel : Nat} {cs : List Value} {x : DataW H × List MemPlace}, flatTy P d t = some cts → DataW.trod enc P w 0 sp held fuel t cs = some x → Reads w cts cs := by
  intro d
  induction d with
  | zero => intro t cts fuel cs x hf; simp [flatTy] at hf
  | succ d ih =>
    intro t cts fuel cs x hf h
    unfold flatTy at hf
    split at hf
    · rename_i hu
      obtain rfl := Option.some.inj hf
      obtain ⟨b, rfl, _⟩ := DataW.trod_bool hu h
      exact ⟨[.bool b], by simp [RepL, Rep], by simp [fitsL, fits], rfl, by simp [Value.oneCell']⟩
    · rename_i k hu
      obtain rfl := Option.some.inj hf
      obtain ⟨n, rfl, _, hn⟩ := DataW.trod_int hu h
      exact ⟨[.int k n], by simp [RepL, Rep], by simp [fitsL, fits, hn], rfl, by simp [Value.oneCell']⟩
    · rename_i hu
      obtain rfl := Option.some.inj hf
      obtain ⟨s, rfl, _, hs⟩ := DataW.trod_string hu h
      have hsl : s.data.toList.length ≤ maxLen := by rw [Array.length_toList]; exact hs
      refine ⟨[.str s.data.toList], by simp [RepL, Rep], ?_, rfl, by simp [Value.oneCell']⟩
      simp only [fitsL, fits]
      exact ⟨_, [], rfl, ⟨_, rfl, hsl⟩, rfl⟩
    · rename_i e hu
      have nilcase : ∀ c : CT, (∀ y : A, y = .slc [] → fits c y) → Reads w [c] [.slice none 0 0] := fun c hc => by
        refine ⟨[.slc []], ?_, ?_, rfl, by simp [Value.oneCell']⟩
        · simp only [RepL, Rep]
          exact ⟨_, [], rfl, ⟨rfl, none, 0, rfl, Nat.le_refl _, fun h => absurd rfl h⟩, rfl⟩
        · simp only [fitsL]
          exact ⟨_, [], rfl, hc _ rfl, rfl⟩
      rcases Go.Deep.open_slice hu h with ⟨rfl, _⟩ | ⟨a, len, cap, m, n, D, Pl, rfl, _, hlc, hcm, hm, _, hx⟩
      · split at hf
        · split at hf
          · obtain rfl := Option.some.inj hf
            exact nilcase _ fun y hy => by subst hy; simp only [fits]; exact ⟨[], rfl, by simp, by simp⟩
          · simp at hf
        · split at hf
          · obtain rfl := Option.some.inj hf
            exact nilcase _ fun y hy => by subst hy; simp only [fits]; exact ⟨[], rfl, by simp, by simp⟩
          · simp at hf
        · simp at hf
      · have hlm : len ≤ m := by rw [hm]; split <;> omega
        split at hf
        · rename_i c cs' hag hfe
          split at hf
          · rename_i hsz
            obtain rfl := Option.some.inj hf
            rw [← hsz] at hx
            obtain ⟨es, g1, g2, g3, g4⟩ := reads_slice (w := w) (k := (c :: cs').length) (a := a) (len := len) (cap := cap) (by simp) hlc (mk := A.agg) (cts := c :: cs') (fun ys _ => rfl) (fun ys _ h => by simpa only [A.pure] using h) (fun i hi => by
              obtain ⟨cs'', h1, h2⟩ := hx i (by omega)
              exact ⟨cs'', h1, ih hfe h2⟩)
            refine ⟨[.slc es], by simp only [RepL]; exact ⟨_, [], rfl, g1, rfl⟩, ?_, by simp only [A.pure.pureL, g3]; rfl, by simp [Value.oneCell']⟩
            simp only [fitsL, fits]
            exact ⟨_, [], rfl, ⟨es, rfl, by omega, g4⟩, rfl⟩
          · simp at hf
        · rename_i c hag hfe
          split at hf
          · rename_i hsz
            obtain rfl := Option.some.inj hf
            rw [hsz] at hx
            have hnag : ∀ y : A, fits c y → ∀ ys, y ≠ .agg ys := fun y hy ys e => by
              subst e
              cases c <;> simp [fits] at hy
            obtain ⟨es, g1, g2, g3, g4⟩ := reads_slice (w := w) (k := 1) (a := a) (len := len) (cap := cap) (by simp) hlc (mk := fun ys => ys.headD .any) (cts := [c]) (fun ys hys => by
              simp only [fitsL] at hys
              obtain ⟨y, zs, rfl, hy, rfl⟩ := hys
              have := hnag y hy
              cases y <;> first | rfl | exact absurd rfl (this _)) (fun ys hys hp => by
              simp only [fitsL] at hys
              obtain ⟨y, zs, rfl, hy, rfl⟩ := hys
              simpa [A.pure.pureL] using hp) (fun i hi => by
              obtain ⟨cs'', h1, h2⟩ := hx i (by omega)
              exact ⟨cs'', h1, ih hfe h2⟩)
            refine ⟨[.slc es], by simp only [RepL]; exact ⟨_, [], rfl, g1, rfl⟩, ?_, by simp only [A.pure.pureL, g3]; rfl, by simp [Value.oneCell']⟩
            simp only [fitsL, fits]
            refine ⟨_, [], rfl, ⟨es, rfl, by omega, fun e he => ?_⟩, rfl⟩
            obtain ⟨ys, he', hys⟩ := g4 e he
            simp only [fitsL] at hys
            obtain ⟨y, zs, rfl, hy, rfl⟩ := hys
            rw [he']
            exact hy
          · simp at hf
        · simp at hf
    · rename_i fs hu
      cases hg : flatGo (flatTy P d) P.cellsOf fs.toList 0 with
      | none => simp [hg] at hf
      | some ks =>
        simp only [hg, Option.bind_some] at hf
        split at hf
        · rename_i hsz
          obtain rfl := Option.some.inj hf
          obtain ⟨xs, n, _, _, hl, hxl, hx⟩ := DataW.trod_struct hu h
          have := reads_struct (w := w) (cs := cs) hg (fun f hfm k hk => by
            obtain ⟨i, hi⟩ := List.getElem?_of_mem hfm
            have hxi := hx i f (by simpa using hi)
            have hlt : i < xs.length := by
              rw [hxl]
              have := (List.getElem?_eq_some_iff.1 hi).1
              simpa using this
            rw [List.getElem?_eq_getElem hlt] at hxi
            exact ih hk hxi) (by omega)
          simpa using this
        · simp at hf
    · rename_i n e hu
      split at hf
      · rename_i ks hk
        split at hf
        · rename_i hsz
          obtain rfl := Option.some.inj hf
          obtain ⟨xs, m, _, _, hl, hxl, hx⟩ := DataW.trod_array hu h
          refine reads_array (k := P.cellsOf e) hsz.1 (by rw [hl, ← hsz.2, hsz.1]) fun i hi => ?_
          have hxi := hx i hi
          rw [List.getElem?_eq_getElem (by omega)] at hxi
          exact ih hk hxi
        · simp at hf
      · simp at hf
    · simp at hf
end
end Go.Abs
namespace Go.Abs
open Go.RowKit
section
variable {H : Type} {enc : TypeId × Value → H} {P : Program} {w : World} {sp : Nat → Bool} {held : Bool}
theorem okWide_one {r : Reach} {b0 : Nat} {t : TypeId} {v : Value} (ht : tyAgg P t = some false) (hval : Value.okWide P w r b0 t v) : v.cells.toList = [v] := by
  unfold Value.okWide at hval
  unfold tyAgg at ht
  split at hval
  · rename_i fs hu; simp only [hu] at ht; simp at ht
  · rename_i n e hu; simp only [hu] at ht; simp at ht
  · cases v <;> first
      | rfl
      | (exfalso
         unfold Cell.okWide at hval
         split at hval
         all_goals first
           | (rename_i h1 h2; cases h2; done)
           | skip
         unfold Cell.ok at hval
         split at hval <;> simp_all)
theorem open_cell {r : Reach} {b0 d : Nat} {t : TypeId} {v : Value} {x : DataW H} {ps : List MemPlace} {c : CT} (ht : tyAgg P t = some false) (hf : flatTy P d t = some [c]) (hval : Value.okWide P w r b0 t v)
    (h : DataW.Trod enc P w 0 sp held t v x ps) : ∃ y, Rep ⟨fun _ => False, [], w⟩ y v ∧ fits c y ∧ y.pure = true := by
  obtain ⟨fuel, h⟩ := h
  rw [okWide_one ht hval] at h
  obtain ⟨xs, h1, h2, h3, _⟩ := reads_of_trod d hf h
  simp only [fitsL] at h2
  obtain ⟨y, zs, rfl, hy, rfl⟩ := h2
  simp only [RepL] at h1
  obtain ⟨v', vs', hv, hr, rfl⟩ := h1
  simp at hv
  subst hv
  exact ⟨y, hr, hy, by simpa [A.pure.pureL] using h3⟩
theorem open_row {r : Reach} {b0 d : Nat} {t : TypeId} {v : Value} {x : DataW H} {ps : List MemPlace} {cts : List CT} (ht : tyAgg P t = some true) (hf : flatTy P d t = some cts) (hval : Value.okWide P w r b0 t v)
    (h : DataW.Trod enc P w 0 sp held t v x ps) : ∃ ys, Rep ⟨fun _ => False, [], w⟩ (.agg ys) v ∧ fitsL cts ys ∧ (A.agg ys).pure = true := by
  obtain ⟨fuel, h⟩ := h
  have : ∃ cs, v = .agg cs := by
    unfold Value.okWide at hval
    unfold tyAgg at ht
    split at hval
    · obtain ⟨cs, hv, _⟩ := hval; exact ⟨cs, hv⟩
    · obtain ⟨cs, hv, _⟩ := hval; exact ⟨cs, hv⟩
    · exfalso
      split at ht <;> simp_all
  obtain ⟨cs, rfl⟩ := this
  obtain ⟨xs, h1, h2, h3, h4⟩ := reads_of_trod d hf h
  refine ⟨xs, ?_, h2, by simpa only [A.pure] using h3⟩
  simp only [Rep]
  exact ⟨cs.toList, by simp, h1, h4⟩
end
theorem law_calls {P : Program} {f : FuncId} {args : List A} (h : CallA P f args (· = .bool true)) {W : World} {vs : List Value} (hr : RepL ⟨fun _ => False, [], W⟩ args vs) :
    Calls P f vs.toArray W fun e w' => e = .returned (.bool true) ∧ Below W.heap.size W w' := by
  refine Calls.mono (h (fun _ => False) W vs (fun b h => h.elim) hr) ?_
  rintro e w' ⟨v, r, rfl, rfl, hrep, hb⟩
  simp only [Rep] at hrep
  subst hrep
  exact ⟨rfl, hb.toBelow⟩
end Go.Abs
namespace Go.Abs
def tab0 : Tab := ⟨fun _ _ => none, fun _ _ _ => none, fun _ => false, fun _ => false, false, fun _ => false, 0, fun _ => []⟩
theorem tab0_ok (P : Program) : TabOK P tab0 := ⟨(fun _ _ _ h => by cases h), (fun _ _ _ _ _ _ h => by cases h)⟩
def Tab.add (Γ : Tab) (g : FuncId) (e : List A → Option A) : Tab := { Γ with f := fun h xs => if h = g then e xs else Γ.f h xs }
def Tab.addH (Γ : Tab) (g : FuncId) (e : List A → List Obj → Option (A × List Obj × List Nat)) : Tab := { Γ with hp := fun h xs H => if h = g then e xs H else Γ.hp h xs H }
abbrev Tab.pl (Γ Γ' : Tab) : Prop := (∀ g, Γ.eff g = false) ∧ (∀ g, Γ.frz g = false) ∧ Γ.effT = false ∧ (∀ n, Γ.fix n = false) ∧ Γ.nf = 0 ∧ (∀ n, Γ.ords n = []) ∧ Γ.hp = Γ'.hp
theorem Tab.add_eq {Γ : Tab} {g : FuncId} {e : List A → Option A} {xs : List A} : (Γ.add g e).f g xs = e xs := if_pos rfl
theorem Tab.add_ne {Γ : Tab} {g h : FuncId} {e : List A → Option A} {xs : List A} (hn : h ≠ g) : (Γ.add g e).f h xs = Γ.f h xs := if_neg hn
section
variable {P : Program} {Γ : Tab} {g : FuncId}
theorem TabOK.add (h : TabOK P Γ) {e : List A → Option A} (hc : Callable P g) (he : ∀ xs r, e xs = some r → CallA P g xs (· = r)) : TabOK P (Γ.add g e) where
  f := fun f xs r hr => by
    simp only [Tab.add] at hr
    split at hr
    · rename_i e; subst e; exact ⟨hc, he xs r hr⟩
    · exact h.f f xs r hr
  hp := h.hp
theorem TabOK.addH (h : TabOK P Γ) {e : List A → List Obj → Option (A × List Obj × List Nat)} (hc : Callable P g) (he : ∀ xs H r H' S, e xs H = some (r, H', S) → CallH P g xs H r H' S) : TabOK P (Γ.addH g e) where
  f := h.f
  hp := fun f xs H r H' S hr => by
    simp only [Tab.addH] at hr
    split at hr
    · rename_i e; subst e; exact ⟨hc, he xs H r H' S hr⟩
    · exact h.hp f xs H r H' S hr
end
open Classical in
noncomputable def entry {ι : Type} (enc : ι → List A) (ok : ι → Prop) (spec : ι → A) : List A → Option A := fun xs => if h : ∃ i, enc i = xs ∧ ok i then some (spec (Classical.choose h)) else none
theorem entry_ok {P : Program} {g : FuncId} {ι : Type} {enc : ι → List A} {ok : ι → Prop} {spec : ι → A} (h : ∀ i, ok i → CallA P g (enc i) (· = spec i)) : ∀ xs r, entry enc ok spec xs = some r → CallA P g xs (· = r) := fun xs r hr => by
  unfold entry at hr
  split at hr
  · rename_i hx
    obtain ⟨h1, h2⟩ := Classical.choose_spec hx
    obtain rfl := Option.some.inj hr
    have := h _ h2
    rw [h1] at this
    exact this
  · cases hr
theorem entry_eq {ι : Type} {enc : ι → List A} {ok : ι → Prop} {spec : ι → A} (hi : ∀ i j, enc i = enc j → i = j) (i : ι) (h : ok i) : entry enc ok spec (enc i) = some (spec i) := by
  have hx : ∃ j, enc j = enc i ∧ ok j := ⟨i, rfl, h⟩
  unfold entry
  rw [dif_pos hx]
  rw [hi _ _ (Classical.choose_spec hx).1]
theorem Tab.ent_eq {Γ : Tab} {g : FuncId} {ι : Type} {enc : ι → List A} {ok : ι → Prop} {spec : ι → A} (hi : ∀ i j, enc i = enc j → i = j) (i : ι) (h : ok i) : (Γ.add g (entry enc ok spec)).f g (enc i) = some (spec i) :=
  Tab.add_eq.trans (entry_eq hi i h)
open Classical in
noncomputable def entryH {ι : Type} (enc : ι → List A) (obs : ι → List Obj) (ok : ι → Prop) (spec : ι → A × List Obj × List Nat) : List A → List Obj → Option (A × List Obj × List Nat) := fun xs H =>
  if h : ∃ i, (enc i = xs ∧ obs i = H) ∧ ok i then some (spec (Classical.choose h)) else none
theorem entryH_ok {P : Program} {g : FuncId} {ι : Type} {enc : ι → List A} {obs : ι → List Obj} {ok : ι → Prop} {spec : ι → A × List Obj × List Nat} (h : ∀ i, ok i → CallH P g (enc i) (obs i) (spec i).1 (spec i).2.1 (spec i).2.2) :
    ∀ xs H r H' S, entryH enc obs ok spec xs H = some (r, H', S) → CallH P g xs H r H' S := fun xs H r H' S hr => by
  unfold entryH at hr
  split at hr
  · rename_i hx
    obtain ⟨⟨h1, h1'⟩, h2⟩ := Classical.choose_spec hx
    have hs := Option.some.inj hr
    have := h _ h2
    rw [h1, h1', hs] at this
    exact this
  · cases hr
theorem entryH_eq {ι : Type} {enc : ι → List A} {obs : ι → List Obj} {ok : ι → Prop} {spec : ι → A × List Obj × List Nat} (hi : ∀ i j, enc i = enc j → obs i = obs j → i = j) (i : ι) (h : ok i) : entryH enc obs ok spec (enc i) (obs i) = some (spec i) := by
  have hx : ∃ j, (enc j = enc i ∧ obs j = obs i) ∧ ok j := ⟨i, ⟨rfl, rfl⟩, h⟩
  unfold entryH
  rw [dif_pos hx]
  rw [hi _ _ (Classical.choose_spec hx).1.1 (Classical.choose_spec hx).1.2]
theorem Tab.addH_eq {Γ : Tab} {g : FuncId} {e : List A → List Obj → Option (A × List Obj × List Nat)} {xs : List A} {H : List Obj} : (Γ.addH g e).hp g xs H = e xs H := if_pos rfl
theorem Tab.addH_ne {Γ : Tab} {g h : FuncId} {e : List A → List Obj → Option (A × List Obj × List Nat)} {xs : List A} {H : List Obj} (hn : h ≠ g) : (Γ.addH g e).hp h xs H = Γ.hp h xs H := if_neg hn
attribute [go_sem] List.contains_nil List.contains_cons
theorem callable_of {P : Program} {f : FuncId} {fn : Func} (h1 : P.funcs[f]? = some fn) (h2 : fn.body.isNone = false) (h3 : (fn.name == "runtime.NumGoroutine") = false) : Callable P f := ⟨fn, h1, h2, h3⟩
theorem TabOK.ent {P : Program} {Γ : Tab} {g : FuncId} {fn : Func} {ι : Type} {enc : ι → List A} {ok : ι → Prop} {spec : ι → A} (h0 : TabOK P Γ) (h1 : P.funcs[g]? = some fn) (h2 : fn.body.isNone = false) (h3 : (fn.name == "runtime.NumGoroutine") = false) (h : ∀ i, ok i → CallA P g (enc i) (· = spec i)) :
    TabOK P (Γ.add g (entry enc ok spec)) := h0.add (callable_of h1 h2 h3) (entry_ok h)
@[go_sem] theorem isS2B_eq {P : Program} {s d : TypeId} : isS2B P s d = (tyStr P s && (tyElem P d).any (fun e => tyInt P e = some .u8)) := rfl
@[go_sem] theorem bne_bool {a b : Bool} : (a != b) = !(a == b) := rfl
@[go_sem] theorem bne_int {a b : Int} : (a != b) = !(a == b) := rfl
attribute [go_sem] Int.cast_ofNat_Int
attribute [go_sem] Option.any_some Option.any_none decide_true decide_false ne_eq Nat.succ_ne_self Nat.one_ne_zero beq_true beq_false Nat.zero_add Int.toNat_zero List.drop_zero true_implies false_implies implies_true not_true_eq_false not_false_eq_true Option.getD Int.toNat_natCast Int.natCast_nonneg
@[go_sem] theorem tab0_ords {n : Nat} : tab0.ords n = [] := rfl
theorem wrap_i64 {n : Int} (h : -9223372036854775808 ≤ n ∧ n < 9223372036854775808) : IntKind.i64.wrap n = n := by
  unfold IntKind.wrap; simp [IntKind.bits, IntKind.signed]; split <;> omega
theorem wrap_u64 {n : Int} (h : 0 ≤ n ∧ n < 18446744073709551616) : IntKind.u64.wrap n = n := by
  unfold IntKind.wrap; simp [IntKind.bits, IntKind.signed]; omega
theorem wrap_u8 {n : Int} (h : 0 ≤ n ∧ n < 256) : IntKind.u8.wrap n = n := by
  unfold IntKind.wrap; simp [IntKind.bits, IntKind.signed]; omega
theorem map_inj {α : Type} {f : α → A} (h : ∀ x y, f x = f y → x = y) : ∀ {l m : List α}, (l.map f = m.map f) = (l = m)
  | [], [] => by simp
  | [], _ :: _ => by simp
  | _ :: _, [] => by simp
  | x :: l, y :: m => by
    simp only [List.map_cons, List.cons.injEq, map_inj h]
    exact propext ⟨fun ⟨a, b⟩ => ⟨h _ _ a, b⟩, fun ⟨a, b⟩ => ⟨by rw [a], b⟩⟩
@[simp] theorem map_str_inj {l m : List (List UInt8)} : (l.map A.str = m.map A.str) = (l = m) := map_inj (fun _ _ h => by simpa using h)
@[simp] theorem map_bool_inj {l m : List Bool} : (l.map A.bool = m.map A.bool) = (l = m) := map_inj (fun _ _ h => by simpa using h)
theorem list_of {α : Type} {f : α → A} {P : α → Prop} : ∀ {es : List A}, (∀ e ∈ es, ∃ a, e = f a ∧ P a) → ∃ l : List α, es = l.map f ∧ ∀ a ∈ l, P a
  | [], _ => ⟨[], rfl, by simp⟩
  | e :: es, h => by
    obtain ⟨a, rfl, ha⟩ := h e (by simp)
    obtain ⟨l, rfl, hl⟩ := list_of (es := es) fun x hx => h x (by simp [hx])
    exact ⟨a :: l, rfl, fun b hb => by
      rcases List.mem_cons.1 hb with rfl | hb
      · exact ha
      · exact hl b hb⟩
theorem maxLen_le : maxLen ≤ 9223372036854775807 := by decide
theorem bytesOfA_bytesA : ∀ s : List UInt8, bytesOfA (bytesA s) = some s
  | [] => rfl
  | c :: s => by
    have := bytesOfA_bytesA s
    simp only [bytesA] at this
    simp [bytesA, bytesOfA, encU8, byteOfA, this]
end Go.Abs
namespace Go.Proofs.Ytjnpfbohnpjckaa
open Go.Abs
set_option linter.unusedSimpArgs false
set_option linter.unusedVariables false
set_option maxRecDepth 20000
def T0 : Tab := tab0
theorem T0_ok : TabOK Try.prog T0 := tab0_ok _
@[go_sem] theorem T0_eq : T0 = tab0 := rfl
theorem ok_key_Right : codeOK Try.prog T0 Try.f55.ntmps (Try.f55.body.getD .skip) = true := by kernel_rfl
theorem c_key_Right (s : List UInt8) (hs : s.length ≤ 9223372036854775807) : CallA Try.prog 55 [.str s] (· = .bool (decide (1 ≤ s.length ∧ s.length ≤ 16))) := by
  refine callA_of_body T0_ok mixed Try.func55 rfl (Nat.le_of_ble_eq_true rfl) ok_key_Right ?_
  unfold Try.f55
  by_cases h : (1 : Int) ≤ s.length
  · simp -implicitDefEqProofs (disch := (first | omega | decide)) only [go_sem, ↓reduceIte, seval, h]
    apply decide_eq_decide.2
    omega
  · simp -implicitDefEqProofs (disch := (first | omega | decide)) only [go_sem, ↓reduceIte, seval, h]
    symm
    apply decide_eq_false
    omega
theorem ok_key_Edge : codeOK Try.prog T0 Try.f66.ntmps (Try.f66.body.getD .skip) = true := by kernel_rfl
theorem c_key_Edge (s : List UInt8) (hs : s.length ≤ 9223372036854775807) : CallA Try.prog 66 [.str s] (· = .bool (decide (s.length ≤ 17))) := by
  refine callA_of_body T0_ok mixed Try.func66 rfl (Nat.le_of_ble_eq_true rfl) ok_key_Edge ?_
  unfold Try.f66
  simp -implicitDefEqProofs (disch := (first | omega | decide)) only [go_sem, ↓reduceIte, seval]
  apply decide_eq_decide.2
  omega
def cmpB : List UInt8 → List UInt8 → Int
  | [], [] => 0
  | [], _ :: _ => -1
  | _ :: _, [] => 1
  | a :: x, b :: y => if a < b then -1 else if b < a then 1 else cmpB x y
theorem cmpB_drop {a b : List UInt8} {k : Nat} (ha : k < a.length) (hb : k < b.length) : cmpB (a.drop k) (b.drop k) = if a[k] < b[k] then -1 else if b[k] < a[k] then 1 else cmpB (a.drop (k+1)) (b.drop (k+1)) := by
  rw [List.drop_eq_getElem_cons ha, List.drop_eq_getElem_cons hb]; rfl
theorem ok_key_Cmp : codeOK Try.prog T0 Try.f40.ntmps (Try.f40.body.getD .skip) = true := by kernel_rfl
theorem c_key_Cmp (a b : List UInt8) (ha : a.length ≤ 9223372036854775807) (hb : b.length ≤ 9223372036854775807) : CallA Try.prog 40 [.str a, .str b] (· = .int .i64 (cmpB a b)) := by
  refine callA_of_body T0_ok mixed Try.func40 rfl (Nat.le_of_ble_eq_true rfl) ok_key_Cmp ?_
  unfold Try.f40
  simp -implicitDefEqProofs (disch := (first | omega | decide)) only [go_sem, ↓reduceIte, seval]
  refine wpA_loop [0,1,10] (ι := {k : Nat // k ≤ a.length ∧ k ≤ b.length ∧ cmpB a b = cmpB (a.drop k) (b.drop k)}) (fun k => [(11, .int .i64 k.1)]) (fun _ => []) (fun k => a.length - k.1) ⟨0, by simp⟩ (by simp [T0, tab0]) ?_ ?_
  · simp -implicitDefEqProofs (disch := (first | omega | decide)) only [go_sem, ↓reduceIte, seval]
  · rintro ⟨k, hk1, hk2, hk3⟩
    by_cases hk : k < a.length ∧ k < b.length
    · obtain ⟨hka, hkb⟩ := hk
      have hmin : (k:Int) < if (b.length:Int) < a.length then (b.length : Int) else a.length := by split <;> omega
      have e1 : a[k]? = some a[k] := List.getElem?_eq_getElem hka
      have e2 : b[k]? = some b[k] := List.getElem?_eq_getElem hkb
      rw [cmpB_drop hka hkb] at hk3
      simp -implicitDefEqProofs (disch := (first | omega | decide)) only [go_sem, ↓reduceIte, seval, hmin, encU8, wrap_i64]
      simp only [decide_eq_true_eq, decide_eq_false_iff_not, Int.ofNat_lt]
      refine ⟨fun h => ?_, fun h => ⟨fun h' => ?_, fun h' => ⟨⟨k + 1, hka, hkb, ?_⟩, by simp, by simp; omega⟩⟩⟩
      · have : a[k] < b[k] := h
        rw [hk3, if_pos this]
      · have g : ¬ a[k] < b[k] := h
        have g' : b[k] < a[k] := h'
        rw [hk3, if_neg g, if_pos g']
      · have g : ¬ a[k] < b[k] := h
        have g' : ¬ b[k] < a[k] := h'
        rw [hk3, if_neg g, if_neg g']
    · have hmin : ¬ ((k:Int) < if (b.length:Int) < a.length then (b.length : Int) else a.length) := by split <;> omega
      simp -implicitDefEqProofs (disch := (first | omega | decide)) only [go_sem, ↓reduceIte, seval, hmin, encU8, wrap_i64]
      simp only [decide_eq_true_eq, decide_eq_false_iff_not, Int.ofNat_lt]
      rw [hk3]
      by_cases h1 : k < a.length
      · have h2 : b.drop k = [] := List.drop_of_length_le (by omega)
        rw [h2, List.drop_eq_getElem_cons h1]
        simp only [cmpB]
        refine ⟨fun h => ?_, fun h => ⟨fun _ => trivial, fun h' => ?_⟩⟩ <;> exfalso <;> omega
      · have h2 : a.drop k = [] := List.drop_of_length_le (by omega)
        rw [h2]
        by_cases h3 : k < b.length
        · rw [List.drop_eq_getElem_cons h3]
          simp only [cmpB]
          refine ⟨fun _ => trivial, fun h => ⟨fun h' => ?_, fun h' => ?_⟩⟩ <;> exfalso <;> omega
        · have h4 : b.drop k = [] := List.drop_of_length_le (by omega)
          rw [h4]
          simp only [cmpB]
          refine ⟨fun h => ?_, fun h => ⟨fun h' => ?_, fun _ => trivial⟩⟩ <;> exfalso <;> omega
noncomputable def T06a : Tab := T0
theorem T06a_ok : TabOK Try.prog T06a := T0_ok
noncomputable def T06b : Tab := T06a.add 55 (entry (fun (s : List UInt8) => [.str s]) (fun s => s.length ≤ 9223372036854775807) (fun s => .bool (decide (1 ≤ s.length ∧ s.length ≤ 16))))
theorem T06b_ok : TabOK Try.prog T06b := T06a_ok.ent Try.func55 (by kernel_rfl) (by kernel_rfl) fun s h => c_key_Right s h
theorem T06b_key_Right (s : List UInt8) (h : s.length ≤ 9223372036854775807) : T06b.f 55 [.str s] = some (.bool (decide (1 ≤ s.length ∧ s.length ≤ 16))) := Tab.ent_eq (Γ := T06a) (fun i j h => by simpa [Prod.ext_iff, and_assoc] using h) s h
noncomputable def T06c : Tab := T06b.add 66 (entry (fun (s : List UInt8) => [.str s]) (fun s => s.length ≤ 9223372036854775807) (fun s => .bool (decide (s.length ≤ 17))))
theorem T06c_ok : TabOK Try.prog T06c := T06b_ok.ent Try.func66 (by kernel_rfl) (by kernel_rfl) fun s h => c_key_Edge s h
theorem T06c_key_Edge (s : List UInt8) (h : s.length ≤ 9223372036854775807) : T06c.f 66 [.str s] = some (.bool (decide (s.length ≤ 17))) := Tab.ent_eq (Γ := T06b) (fun i j h => by simpa [Prod.ext_iff, and_assoc] using h) s h
noncomputable def T06d : Tab := T06c.add 40 (entry (fun (p : List UInt8 × List UInt8) => [.str p.1, .str p.2]) (fun p => p.1.length ≤ 9223372036854775807 ∧ p.2.length ≤ 9223372036854775807) (fun p => .int .i64 (cmpB p.1 p.2)))
theorem T06d_ok : TabOK Try.prog T06d := T06c_ok.ent Try.func40 (by kernel_rfl) (by kernel_rfl) fun p h => c_key_Cmp p.1 p.2 h.1 h.2
@[go_sem] theorem T06d_old {g : FuncId} {xs : List A} (h : g ≠ 40) : T06d.f g xs = T06c.f g xs := Tab.add_ne h
theorem T06d_key_Cmp (p : List UInt8 × List UInt8) (h : p.1.length ≤ 9223372036854775807 ∧ p.2.length ≤ 9223372036854775807) : T06d.f 40 [.str p.1, .str p.2] = some (.int .i64 (cmpB p.1 p.2)) := Tab.ent_eq (Γ := T06c) (fun i j h => by simpa [Prod.ext_iff, and_assoc] using h) p h
noncomputable def T06e : Tab := T06d
theorem T06e_ok : TabOK Try.prog T06e := T06d_ok
@[go_sem] theorem T06e_old {g : FuncId} {xs : List A} : T06e.f g xs = T06d.f g xs := rfl
@[go_sem] theorem t_key_Edge {s : List UInt8} (h : s.length ≤ 9223372036854775807) : T06c.f 66 [.str s] = some (.bool (decide (s.length ≤ 17))) := T06c_key_Edge s h
@[go_sem] theorem t_key_Cmp {a b : List UInt8} (h : a.length ≤ 9223372036854775807) (h' : b.length ≤ 9223372036854775807) : T06d.f 40 [.str a, .str b] = some (.int .i64 (cmpB a b)) := T06d_key_Cmp (a, b) ⟨h, h'⟩
set_option maxHeartbeats 4000000
theorem ok_ref06_Right : codeOK Try.prog T0 Try.f43.ntmps (Try.f43.body.getD .skip) = true := by kernel_rfl
theorem c_ref06_Right (s : List UInt8) (hs : s.length ≤ 9223372036854775807) : CallA Try.prog 43 [.str s] (· = .bool (decide (1 ≤ s.length ∧ s.length ≤ 16))) := by
  refine callA_of_body T0_ok mixed Try.func43 rfl (Nat.le_of_ble_eq_true rfl) ok_ref06_Right ?_
  unfold Try.f43
  by_cases h : (1 : Int) ≤ s.length
  · simp -implicitDefEqProofs (disch := (first | omega | decide)) only [go_sem, ↓reduceIte, seval, h]
    apply decide_eq_decide.2
    omega
  · simp -implicitDefEqProofs (disch := (first | omega | decide)) only [go_sem, ↓reduceIte, seval, h]
    symm
    apply decide_eq_false
    omega
theorem ok_ref06_Less : codeOK Try.prog T0 Try.f28.ntmps (Try.f28.body.getD .skip) = true := by kernel_rfl
theorem c_ref06_Less (a b : List UInt8) (ha : a.length ≤ 9223372036854775807) (hb : b.length ≤ 9223372036854775807) : CallA Try.prog 28 [.str a, .str b] (· = .bool (cmpB a b == -1)) := by
  refine callA_of_body T0_ok mixed Try.func28 rfl (Nat.le_of_ble_eq_true rfl) ok_ref06_Less ?_
  unfold Try.f28
  simp -implicitDefEqProofs (disch := (first | omega | decide)) only [go_sem, ↓reduceIte, seval]
  refine wpA_loop [0,1] (ι := {k : Nat // k ≤ a.length ∧ k ≤ b.length ∧ cmpB a b = cmpB (a.drop k) (b.drop k)}) (fun k => [(5, .int .i64 k.1)]) (fun _ => []) (fun k => a.length - k.1) ⟨0, by simp⟩ (by simp [T0, tab0]) ?_ ?_
  · simp -implicitDefEqProofs (disch := (first | omega | decide)) only [go_sem, ↓reduceIte, seval]
  · rintro ⟨k, hk1, hk2, hk3⟩
    by_cases hk : (k : Int) < a.length
    · have hka : k < a.length := by omega
      by_cases hk' : (b.length : Int) ≤ k
      · simp -implicitDefEqProofs (disch := (first | omega | decide)) only [go_sem, ↓reduceIte, seval, hk, hk', encU8, wrap_i64]
        have h2 : b.drop k = [] := List.drop_of_length_le (by omega)
        rw [hk3, h2, List.drop_eq_getElem_cons hka]
        rfl
      · have hkb : k < b.length := by omega
        have e1 : a[k]? = some a[k] := List.getElem?_eq_getElem hka
        have e2 : b[k]? = some b[k] := List.getElem?_eq_getElem hkb
        rw [cmpB_drop hka hkb] at hk3
        simp -implicitDefEqProofs (disch := (first | omega | decide)) only [go_sem, ↓reduceIte, seval, hk, hk', encU8, wrap_i64]
        refine ⟨fun h => ?_, fun h => ⟨⟨k + 1, hka, hkb, ?_⟩, by simp, by simp; omega⟩⟩
        · have hne : ¬ ((a[k].toNat : Int) = b[k].toNat) := by simpa using h
          have t : ∀ u v : UInt8, (u < v) = (u.toNat < v.toNat) := fun u v => rfl
          simp only [t] at hk3
          by_cases hl : a[k].toNat < b[k].toNat
          · rw [hk3, if_pos hl, decide_eq_true (by omega)]; rfl
          · rw [hk3, if_neg hl, if_pos (by omega), decide_eq_false (by omega)]; rfl
        · have he : ((a[k].toNat : Int) = b[k].toNat) := by simpa using h
          have t : ∀ u v : UInt8, (u < v) = (u.toNat < v.toNat) := fun u v => rfl
          simp only [t] at hk3
          rw [hk3, if_neg (by omega), if_neg (by omega)]
    · simp -implicitDefEqProofs (disch := (first | omega | decide)) only [go_sem, ↓reduceIte, seval, hk, encU8, wrap_i64]
      have h2 : a.drop k = [] := List.drop_of_length_le (by omega)
      rw [hk3, h2]
      by_cases h3 : k < b.length
      · rw [List.drop_eq_getElem_cons h3, decide_eq_true (by omega)]; rfl
      · rw [List.drop_of_length_le (by omega), decide_eq_false (by omega)]; rfl
noncomputable def T06f : Tab := T06e.add 43 (entry (fun (s : List UInt8) => [.str s]) (fun s => s.length ≤ 9223372036854775807) (fun s => .bool (decide (1 ≤ s.length ∧ s.length ≤ 16))))
theorem T06f_ok : TabOK Try.prog T06f := T06e_ok.ent Try.func43 (by kernel_rfl) (by kernel_rfl) fun s h => c_ref06_Right s h
@[go_sem] theorem T06f_old {g : FuncId} {xs : List A} (h : g ≠ 43) : T06f.f g xs = T06e.f g xs := Tab.add_ne h
theorem T06f_ref06_Right (s : List UInt8) (h : s.length ≤ 9223372036854775807) : T06f.f 43 [.str s] = some (.bool (decide (1 ≤ s.length ∧ s.length ≤ 16))) := Tab.ent_eq (Γ := T06e) (fun i j h => by simpa [Prod.ext_iff, and_assoc] using h) s h
noncomputable def T06g : Tab := T06f.add 28 (entry (fun (p : List UInt8 × List UInt8) => [.str p.1, .str p.2]) (fun p => p.1.length ≤ 9223372036854775807 ∧ p.2.length ≤ 9223372036854775807) (fun p => .bool (cmpB p.1 p.2 == -1)))
theorem T06g_ok : TabOK Try.prog T06g := T06f_ok.ent Try.func28 (by kernel_rfl) (by kernel_rfl) fun p h => c_ref06_Less p.1 p.2 h.1 h.2
@[go_sem] theorem T06g_old {g : FuncId} {xs : List A} (h : g ≠ 28) : T06g.f g xs = T06f.f g xs := Tab.add_ne h
theorem T06g_ref06_Less (p : List UInt8 × List UInt8) (h : p.1.length ≤ 9223372036854775807 ∧ p.2.length ≤ 9223372036854775807) : T06g.f 28 [.str p.1, .str p.2] = some (.bool (cmpB p.1 p.2 == -1)) := Tab.ent_eq (Γ := T06f) (fun i j h => by simpa [Prod.ext_iff, and_assoc] using h) p h
noncomputable def T06h : Tab := T06g
theorem T06h_ok : TabOK Try.prog T06h := T06g_ok
@[go_sem] theorem T06h_old {g : FuncId} {xs : List A} : T06h.f g xs = T06g.f g xs := rfl
noncomputable def T06i : Tab := T06h
theorem T06i_ok : TabOK Try.prog T06i := T06h_ok
@[go_sem] theorem T06i_old {g : FuncId} {xs : List A} : T06i.f g xs = T06h.f g xs := rfl
@[go_sem] theorem t_ref06_Less {a b : List UInt8} (h : a.length ≤ 9223372036854775807) (h' : b.length ≤ 9223372036854775807) : T06g.f 28 [.str a, .str b] = some (.bool (cmpB a b == -1)) := T06g_ref06_Less (a, b) ⟨h, h'⟩
theorem cmpB_cons (a b : UInt8) (x y : List UInt8) : cmpB (a :: x) (b :: y) = if a.toNat < b.toNat then -1 else if b.toNat < a.toNat then 1 else cmpB x y := by
  simp only [cmpB]
  by_cases h1 : a.toNat < b.toNat
  · rw [if_pos h1, if_pos (show a < b from h1)]
  · rw [if_neg h1, if_neg (show ¬ a < b from h1)]
    by_cases h2 : b.toNat < a.toNat
    · rw [if_pos h2, if_pos (show b < a from h2)]
    · rw [if_neg h2, if_neg (show ¬ b < a from h2)]
theorem cmp_cases : ∀ a b : List UInt8, cmpB a b = -1 ∨ cmpB a b = 0 ∨ cmpB a b = 1
  | [], [] => .inr (.inl rfl)
  | [], _ :: _ => .inl rfl
  | _ :: _, [] => .inr (.inr rfl)
  | a :: x, b :: y => by
    simp only [cmpB]
    split
    · exact .inl rfl
    · split
      · exact .inr (.inr rfl)
      · exact cmp_cases x y
theorem cmp_neg : ∀ a b : List UInt8, cmpB b a = - cmpB a b
  | [], [] => rfl
  | [], _ :: _ => rfl
  | _ :: _, [] => rfl
  | a :: x, b :: y => by
    have ih := cmp_neg x y
    simp only [cmpB_cons]
    by_cases h1 : a.toNat < b.toNat
    · rw [if_neg (by omega), if_pos h1, if_pos h1]; rfl
    · by_cases h2 : b.toNat < a.toNat
      · rw [if_pos h2, if_neg h1, if_pos h2]
      · rw [if_neg h2, if_neg h1, if_neg h1, if_neg h2]; exact ih
theorem cmp_zero : ∀ {a b : List UInt8}, cmpB a b = 0 ↔ a = b
  | [], [] => by simp [cmpB]
  | [], _ :: _ => by simp [cmpB]
  | _ :: _, [] => by simp [cmpB]
  | a :: x, b :: y => by
    have ih := cmp_zero (a := x) (b := y)
    simp only [cmpB_cons]
    by_cases h1 : a.toNat < b.toNat
    · rw [if_pos h1]
      have : a ≠ b := fun e => by subst e; omega
      simp [this]
    · by_cases h2 : b.toNat < a.toNat
      · rw [if_neg h1, if_pos h2]
        have : a ≠ b := fun e => by subst e; omega
        simp [this]
      · rw [if_neg h1, if_neg h2, ih]
        have : a = b := UInt8.toNat_inj.1 (by omega)
        simp [this]
theorem cmp_self (a : List UInt8) : cmpB a a = 0 := cmp_zero.2 rfl
theorem cmp_trans : ∀ {a b c : List UInt8}, cmpB a b = -1 → cmpB b c = -1 → cmpB a c = -1
  | [], [], _, h, _ => by simp [cmpB] at h
  | [], _ :: _, [], _, h => by simp [cmpB] at h
  | [], _ :: _, _ :: _, _, _ => rfl
  | _ :: _, [], _, h, _ => by simp [cmpB] at h
  | _ :: _, _ :: _, [], _, h => by simp [cmpB] at h
  | a :: x, b :: y, c :: z, h1, h2 => by
    have ih := @cmp_trans x y z
    simp only [cmpB_cons] at h1 h2 ⊢
    split at h1
    · split at h2
      · rw [if_pos (by omega)]
      · split at h2
        · simp at h2
        · rw [if_pos (by omega)]
    · split at h1
      · simp at h1
      · split at h2
        · rw [if_pos (by omega)]
        · split at h2
          · simp at h2
          · rw [if_neg (by omega), if_neg (by omega)]
            exact ih h1 h2
def ltB (a b : List UInt8) : Bool := cmpB a b == -1
theorem lt_irrefl (a : List UInt8) : ltB a a = false := by simp [ltB, cmp_self]
theorem lt_trans' {a b c : List UInt8} (h1 : ltB a b = true) (h2 : ltB b c = true) : ltB a c = true := by
  simp only [ltB, beq_iff_eq] at *; exact cmp_trans h1 h2
theorem lt_asymm' {a b : List UInt8} (h1 : ltB a b = true) : ltB b a = false := by
  simp only [ltB, beq_iff_eq] at h1
  simp [ltB, cmp_neg a b, h1]
theorem lt_tri (a b : List UInt8) : ltB a b = true ∨ a = b ∨ ltB b a = true := by
  rcases cmp_cases a b with h | h | h
  · exact .inl (by simp [ltB, h])
  · exact .inr (.inl (cmp_zero.1 h))
  · exact .inr (.inr (by simp [ltB, cmp_neg a b, h]))
theorem cmp_of_lt {a b : List UInt8} (h : ltB a b = true) : cmpB a b = -1 := by simpa [ltB] using h
theorem cmp_of_gt {a b : List UInt8} (h : ltB b a = true) : cmpB a b = 1 := by rw [cmp_neg, cmp_of_lt h]; rfl
noncomputable def T06j : Tab := T06i
theorem T06j_ok : TabOK Try.prog T06j := T06i_ok
@[go_sem] theorem T06j_old {g : FuncId} {xs : List A} : T06j.f g xs = T06i.f g xs := rfl
noncomputable def T06k : Tab := T06j
theorem T06k_ok : TabOK Try.prog T06k := T06j_ok
@[go_sem] theorem T06k_old {g : FuncId} {xs : List A} : T06k.f g xs = T06j.f g xs := rfl
noncomputable def T06l : Tab := T06k
theorem T06l_ok : TabOK Try.prog T06l := T06k_ok
@[go_sem] theorem T06l_old {g : FuncId} {xs : List A} : T06l.f g xs = T06k.f g xs := rfl
@[go_sem] theorem T06l_s : T06l.pl T06k := ⟨fun _ => rfl, fun _ => rfl, rfl, fun _ => rfl, rfl, fun _ => rfl, rfl⟩
@[go_sem] theorem cmp_lt0 {a b : List UInt8} : decide (cmpB a b < 0) = ltB a b := by
  rcases lt_tri a b with h | h | h
  · rw [cmp_of_lt h, h]; rfl
  · subst h; rw [cmp_self, lt_irrefl]; rfl
  · rw [cmp_of_gt h, lt_asymm' h]; rfl
@[go_sem] theorem cmp_ge0 {a b : List UInt8} : decide (0 ≤ cmpB a b) = !ltB a b := by
  rcases lt_tri a b with h | h | h
  · rw [cmp_of_lt h, h]; rfl
  · subst h; rw [cmp_self, lt_irrefl]; rfl
  · rw [cmp_of_gt h, lt_asymm' h]; rfl
@[go_sem] theorem cmp_eqm1 {a b : List UInt8} : (cmpB a b == -1) = ltB a b := rfl
structure Rng where
  lo : List UInt8
  hi : List UInt8
  op : Bool
  deriving DecidableEq
def Rng.enc (r : Rng) : A := .agg [.str r.lo, .str r.hi, .bool r.op]
@[go_sem] theorem Rng.enc_eq {a b : List UInt8} {c : Bool} : Rng.enc ⟨a, b, c⟩ = .agg [.str a, .str b, .bool c] := rfl
theorem Rng.enc_inj (r s : Rng) (h : r.enc = s.enc) : r = s := by
  cases r; cases s; simpa [Rng.enc] using h
def Rng.zero : Rng := ⟨[], [], false⟩
def Rng.ok (r : Rng) : Prop := r.lo.length ≤ 9223372036854775807 ∧ r.hi.length ≤ 9223372036854775807
def rightR (r : Rng) : Bool := decide (r.lo.length ≤ 17) && decide (r.hi.length ≤ 17) && (if r.op then r.hi == [] else ltB r.lo r.hi)
def hasR (r : Rng) (s : List UInt8) : Bool := rightR r && !ltB s r.lo && (r.op || ltB s r.hi)
def endsR (a b : Rng) : Int := if !rightR a || !rightR b || (a.op && b.op) then 0 else if a.op then 1 else if b.op then -1 else cmpB a.hi b.hi
theorem ok_span_All : codeOK Try.prog T0 Try.f25.ntmps (Try.f25.body.getD .skip) = true := by kernel_rfl
theorem c_span_All : CallA Try.prog 25 [] (· = .agg [.str [], .str [], .bool true]) := by
  refine callA_of_body T0_ok mixed Try.func25 rfl (Nat.le_of_ble_eq_true rfl) ok_span_All ?_
  unfold Try.f25
  simp -implicitDefEqProofs (disch := (first | omega | decide)) only [go_sem, ↓reduceIte, seval]
theorem ok_span_Right : codeOK Try.prog T06l Try.f50.ntmps (Try.f50.body.getD .skip) = true := by kernel_rfl
theorem c_span_Right (lo hi : List UInt8) (op : Bool) (h1 : lo.length ≤ 9223372036854775807) (h2 : hi.length ≤ 9223372036854775807) : CallA Try.prog 50 [.agg [.str lo, .str hi, .bool op]] (· = .bool (rightR ⟨lo, hi, op⟩)) := by
  refine callA_of_body T06l_ok mixed Try.func50 rfl (Nat.le_of_ble_eq_true rfl) ok_span_Right ?_
  unfold Try.f50
  by_cases g1 : lo.length ≤ 17
  · by_cases g2 : hi.length ≤ 17
    · cases op <;> simp -implicitDefEqProofs (disch := (first | omega | decide)) only [go_sem, ↓reduceIte, seval, g1, g2, rightR]
    · simp -implicitDefEqProofs (disch := (first | omega | decide)) only [go_sem, ↓reduceIte, seval, g1, g2, rightR]
  · simp -implicitDefEqProofs (disch := (first | omega | decide)) only [go_sem, ↓reduceIte, seval, g1, rightR]
theorem ok_ref07_Right : codeOK Try.prog T06l Try.f38.ntmps (Try.f38.body.getD .skip) = true := by kernel_rfl
theorem c_ref07_Right (lo hi : List UInt8) (op : Bool) (h1 : lo.length ≤ 9223372036854775807) (h2 : hi.length ≤ 9223372036854775807) : CallA Try.prog 38 [.agg [.str lo, .str hi, .bool op]] (· = .bool (rightR ⟨lo, hi, op⟩)) := by
  refine callA_of_body T06l_ok mixed Try.func38 rfl (Nat.le_of_ble_eq_true rfl) ok_ref07_Right ?_
  unfold Try.f38
  by_cases g1 : lo.length ≤ 17
  · have f1 : ¬ (17 : Int) < lo.length := by omega
    by_cases g2 : hi.length ≤ 17
    · have f2 : ¬ (17 : Int) < hi.length := by omega
      cases op <;> simp -implicitDefEqProofs (disch := (first | omega | decide)) only [go_sem, ↓reduceIte, seval, g1, g2, f1, f2, rightR]
    · have f2 : (17 : Int) < hi.length := by omega
      simp -implicitDefEqProofs (disch := (first | omega | decide)) only [go_sem, ↓reduceIte, seval, g1, g2, f1, f2, rightR]
  · have f1 : (17 : Int) < lo.length := by omega
    simp -implicitDefEqProofs (disch := (first | omega | decide)) only [go_sem, ↓reduceIte, seval, g1, f1, rightR]
noncomputable def T07a : Tab := T06l.add 25 (entry (fun (u : Unit) => []) (fun u => True) (fun u => .agg [.str [], .str [], .bool true]))
theorem T07a_ok : TabOK Try.prog T07a := T06l_ok.ent Try.func25 (by kernel_rfl) (by kernel_rfl) fun u h => c_span_All
@[go_sem] theorem T07a_old {g : FuncId} {xs : List A} (h : g ≠ 25) : T07a.f g xs = T06l.f g xs := Tab.add_ne h
noncomputable def T07b : Tab := T07a
theorem T07b_ok : TabOK Try.prog T07b := T07a_ok
@[go_sem] theorem T07b_old {g : FuncId} {xs : List A} : T07b.f g xs = T07a.f g xs := rfl
noncomputable def T07c : Tab := T07b
theorem T07c_ok : TabOK Try.prog T07c := T07b_ok
@[go_sem] theorem T07c_old {g : FuncId} {xs : List A} : T07c.f g xs = T07b.f g xs := rfl
noncomputable def T07d : Tab := T07c
theorem T07d_ok : TabOK Try.prog T07d := T07c_ok
@[go_sem] theorem T07d_old {g : FuncId} {xs : List A} : T07d.f g xs = T07c.f g xs := rfl
noncomputable def T07e : Tab := T07d
theorem T07e_ok : TabOK Try.prog T07e := T07d_ok
@[go_sem] theorem T07e_old {g : FuncId} {xs : List A} : T07e.f g xs = T07d.f g xs := rfl
noncomputable def T07f : Tab := T07e.add 50 (entry (fun (r : List UInt8 × List UInt8 × Bool) => [.agg [.str r.1, .str r.2.1, .bool r.2.2]]) (fun r => r.1.length ≤ 9223372036854775807 ∧ r.2.1.length ≤ 9223372036854775807) (fun r => .bool (rightR ⟨r.1, r.2.1, r.2.2⟩)))
theorem T07f_ok : TabOK Try.prog T07f := T07e_ok.ent Try.func50 (by kernel_rfl) (by kernel_rfl) fun r h => c_span_Right r.1 r.2.1 r.2.2 h.1 h.2
@[go_sem] theorem T07f_old {g : FuncId} {xs : List A} (h : g ≠ 50) : T07f.f g xs = T07e.f g xs := Tab.add_ne h
theorem T07f_span_Right (r : List UInt8 × List UInt8 × Bool) (h : r.1.length ≤ 9223372036854775807 ∧ r.2.1.length ≤ 9223372036854775807) : T07f.f 50 [.agg [.str r.1, .str r.2.1, .bool r.2.2]] = some (.bool (rightR ⟨r.1, r.2.1, r.2.2⟩)) := Tab.ent_eq (Γ := T07e) (fun i j h => by simpa [Prod.ext_iff, and_assoc] using h) r h
noncomputable def T07g : Tab := T07f.add 38 (entry (fun (r : List UInt8 × List UInt8 × Bool) => [.agg [.str r.1, .str r.2.1, .bool r.2.2]]) (fun r => r.1.length ≤ 9223372036854775807 ∧ r.2.1.length ≤ 9223372036854775807) (fun r => .bool (rightR ⟨r.1, r.2.1, r.2.2⟩)))
theorem T07g_ok : TabOK Try.prog T07g := T07f_ok.ent Try.func38 (by kernel_rfl) (by kernel_rfl) fun r h => c_ref07_Right r.1 r.2.1 r.2.2 h.1 h.2
@[go_sem] theorem T07g_old {g : FuncId} {xs : List A} (h : g ≠ 38) : T07g.f g xs = T07f.f g xs := Tab.add_ne h
@[go_sem] theorem T07g_s : T07g.pl T07f := ⟨fun _ => rfl, fun _ => rfl, rfl, fun _ => rfl, rfl, fun _ => rfl, rfl⟩
theorem T07g_ref07_Right (r : List UInt8 × List UInt8 × Bool) (h : r.1.length ≤ 9223372036854775807 ∧ r.2.1.length ≤ 9223372036854775807) : T07g.f 38 [.agg [.str r.1, .str r.2.1, .bool r.2.2]] = some (.bool (rightR ⟨r.1, r.2.1, r.2.2⟩)) := Tab.ent_eq (Γ := T07f) (fun i j h => by simpa [Prod.ext_iff, and_assoc] using h) r h
@[go_sem] theorem t_span_Right {lo hi : List UInt8} {op : Bool} (h1 : lo.length ≤ 9223372036854775807) (h2 : hi.length ≤ 9223372036854775807) : T07f.f 50 [.agg [.str lo, .str hi, .bool op]] = some (.bool (rightR ⟨lo, hi, op⟩)) := T07f_span_Right (lo, hi, op) ⟨h1, h2⟩
@[go_sem] theorem t_ref07_Right {lo hi : List UInt8} {op : Bool} (h1 : lo.length ≤ 9223372036854775807) (h2 : hi.length ≤ 9223372036854775807) : T07g.f 38 [.agg [.str lo, .str hi, .bool op]] = some (.bool (rightR ⟨lo, hi, op⟩)) := T07g_ref07_Right (lo, hi, op) ⟨h1, h2⟩
theorem ok_ref07_Has : codeOK Try.prog T07g Try.f21.ntmps (Try.f21.body.getD .skip) = true := by kernel_rfl
theorem c_ref07_Has (lo hi s : List UInt8) (op : Bool) (h1 : lo.length ≤ 9223372036854775807) (h2 : hi.length ≤ 9223372036854775807) (h3 : s.length ≤ 9223372036854775807) : CallA Try.prog 21 [.agg [.str lo, .str hi, .bool op], .str s] (· = .bool (hasR ⟨lo, hi, op⟩ s)) := by
  refine callA_of_body T07g_ok mixed Try.func21 rfl (Nat.le_of_ble_eq_true rfl) ok_ref07_Has ?_
  unfold Try.f21
  have e : hasR ⟨lo, hi, op⟩ s = (rightR ⟨lo, hi, op⟩ && !ltB s lo && (op || ltB s hi)) := rfl
  rw [e]
  cases g1 : rightR ⟨lo, hi, op⟩
  · simp -implicitDefEqProofs (disch := (first | omega | decide)) only [go_sem, ↓reduceIte, seval, g1, t_ref06_Less]
  · cases g2 : ltB s lo
    · cases g3 : op
      · rw [g3] at g1; simp -implicitDefEqProofs (disch := (first | omega | decide)) only [go_sem, ↓reduceIte, seval, g1, g2, g3]
      · rw [g3] at g1; simp -implicitDefEqProofs (disch := (first | omega | decide)) only [go_sem, ↓reduceIte, seval, g1, g2, g3]
    · simp -implicitDefEqProofs (disch := (first | omega | decide)) only [go_sem, ↓reduceIte, seval, g1, g2]
theorem ok_span_Ends : codeOK Try.prog T07g Try.f53.ntmps (Try.f53.body.getD .skip) = true := by kernel_rfl
theorem c_span_Ends (a b : Rng) (ha : a.ok) (hb : b.ok) : CallA Try.prog 53 [.agg [.str a.lo, .str a.hi, .bool a.op], .agg [.str b.lo, .str b.hi, .bool b.op]] (· = .int .i64 (endsR a b)) := by
  refine callA_of_body T07g_ok mixed Try.func53 rfl (Nat.le_of_ble_eq_true rfl) ok_span_Ends ?_
  unfold Try.f53
  obtain ⟨lo, hi, op⟩ := a
  obtain ⟨lo', hi', op'⟩ := b
  obtain ⟨h1, h2⟩ := ha
  obtain ⟨h3, h4⟩ := hb
  simp only at h1 h2 h3 h4 ⊢
  unfold endsR
  cases g1 : rightR ⟨lo, hi, op⟩
  · simp -implicitDefEqProofs (disch := (first | omega | decide)) only [go_sem, ↓reduceIte, seval, g1]
  · cases g2 : rightR ⟨lo', hi', op'⟩
    · simp -implicitDefEqProofs (disch := (first | omega | decide)) only [go_sem, ↓reduceIte, seval, g1, g2]
    · cases op <;> cases op' <;> simp -implicitDefEqProofs (disch := (first | omega | decide)) only [go_sem, ↓reduceIte, seval, g1, g2]
noncomputable def T07h : Tab := T07g
theorem T07h_ok : TabOK Try.prog T07h := T07g_ok
@[go_sem] theorem T07h_old {g : FuncId} {xs : List A} : T07h.f g xs = T07g.f g xs := rfl
noncomputable def T07i : Tab := T07h.add 21 (entry (fun (r : List UInt8 × List UInt8 × Bool × List UInt8) => [.agg [.str r.1, .str r.2.1, .bool r.2.2.1], .str r.2.2.2]) (fun r => r.1.length ≤ 9223372036854775807 ∧ r.2.1.length ≤ 9223372036854775807 ∧ r.2.2.2.length ≤ 9223372036854775807) (fun r => .bool (hasR ⟨r.1, r.2.1, r.2.2.1⟩ r.2.2.2)))
theorem T07i_ok : TabOK Try.prog T07i := T07h_ok.ent Try.func21 (by kernel_rfl) (by kernel_rfl) fun r h => c_ref07_Has r.1 r.2.1 r.2.2.2 r.2.2.1 h.1 h.2.1 h.2.2
@[go_sem] theorem T07i_old {g : FuncId} {xs : List A} (h : g ≠ 21) : T07i.f g xs = T07h.f g xs := Tab.add_ne h
theorem T07i_ref07_Has (r : List UInt8 × List UInt8 × Bool × List UInt8) (h : r.1.length ≤ 9223372036854775807 ∧ r.2.1.length ≤ 9223372036854775807 ∧ r.2.2.2.length ≤ 9223372036854775807) : T07i.f 21 [.agg [.str r.1, .str r.2.1, .bool r.2.2.1], .str r.2.2.2] = some (.bool (hasR ⟨r.1, r.2.1, r.2.2.1⟩ r.2.2.2)) := Tab.ent_eq (Γ := T07h) (fun i j h => by simpa [Prod.ext_iff, and_assoc] using h) r h
@[go_sem] theorem t_ref07_Has {lo hi s : List UInt8} {op : Bool} (h1 : lo.length ≤ 9223372036854775807) (h2 : hi.length ≤ 9223372036854775807) (h3 : s.length ≤ 9223372036854775807) : T07i.f 21 [.agg [.str lo, .str hi, .bool op], .str s] = some (.bool (hasR ⟨lo, hi, op⟩ s)) := T07i_ref07_Has (lo, hi, op, s) ⟨h1, h2, h3⟩
noncomputable def T07j : Tab := T07i.add 53 (entry (fun (r : (List UInt8 × List UInt8 × Bool) × List UInt8 × List UInt8 × Bool) => [.agg [.str r.1.1, .str r.1.2.1, .bool r.1.2.2], .agg [.str r.2.1, .str r.2.2.1, .bool r.2.2.2]]) (fun r => Rng.ok ⟨r.1.1, r.1.2.1, r.1.2.2⟩ ∧ Rng.ok ⟨r.2.1, r.2.2.1, r.2.2.2⟩) (fun r => .int .i64 (endsR ⟨r.1.1, r.1.2.1, r.1.2.2⟩ ⟨r.2.1, r.2.2.1, r.2.2.2⟩)))
theorem T07j_ok : TabOK Try.prog T07j := T07i_ok.ent Try.func53 (by kernel_rfl) (by kernel_rfl) fun r h => c_span_Ends ⟨r.1.1, r.1.2.1, r.1.2.2⟩ ⟨r.2.1, r.2.2.1, r.2.2.2⟩ h.1 h.2
@[go_sem] theorem T07j_old {g : FuncId} {xs : List A} (h : g ≠ 53) : T07j.f g xs = T07i.f g xs := Tab.add_ne h
theorem T07j_span_Ends (r : (List UInt8 × List UInt8 × Bool) × List UInt8 × List UInt8 × Bool) (h : Rng.ok ⟨r.1.1, r.1.2.1, r.1.2.2⟩ ∧ Rng.ok ⟨r.2.1, r.2.2.1, r.2.2.2⟩) : T07j.f 53 [.agg [.str r.1.1, .str r.1.2.1, .bool r.1.2.2], .agg [.str r.2.1, .str r.2.2.1, .bool r.2.2.2]] = some (.int .i64 (endsR ⟨r.1.1, r.1.2.1, r.1.2.2⟩ ⟨r.2.1, r.2.2.1, r.2.2.2⟩)) := Tab.ent_eq (Γ := T07i) (fun i j h => by simpa [Prod.ext_iff, and_assoc] using h) r h
@[go_sem] theorem t_span_Ends {lo hi lo' hi' : List UInt8} {op op' : Bool} (h1 : lo.length ≤ 9223372036854775807) (h2 : hi.length ≤ 9223372036854775807) (h3 : lo'.length ≤ 9223372036854775807) (h4 : hi'.length ≤ 9223372036854775807) : T07j.f 53 [.agg [.str lo, .str hi, .bool op], .agg [.str lo', .str hi', .bool op']] = some (.int .i64 (endsR ⟨lo, hi, op⟩ ⟨lo', hi', op'⟩)) := T07j_span_Ends ((lo, hi, op), lo', hi', op') ⟨⟨h1, h2⟩, h3, h4⟩
noncomputable def T07 : Tab := T07j
theorem T07_ok : TabOK Try.prog T07 := T07j_ok
@[go_sem] theorem T07_old {g : FuncId} {xs : List A} : T07.f g xs = T07j.f g xs := rfl
@[go_sem] theorem T07_s : T07.pl T07j := ⟨fun _ => rfl, fun _ => rfl, rfl, fun _ => rfl, rfl, fun _ => rfl, rfl⟩
theorem not_lt_trans {a b c : List UInt8} (h1 : ltB b a = false) (h2 : ltB c b = false) : ltB c a = false := by
  cases h : ltB c a with
  | false => rfl
  | true =>
    rcases lt_tri c b with g | g | g
    · rw [g] at h2; cases h2
    · subst g; rw [h] at h1; cases h1
    · rw [lt_trans' g h] at h1; cases h1
theorem ltB_nil (s : List UInt8) : ltB s [] = false := by cases s <;> rfl
def upTo (r : Rng) (s : List UInt8) : Bool := r.op || ltB s r.hi
theorem hasR_eq (r : Rng) (s : List UInt8) : hasR r s = (rightR r && (!ltB s r.lo && upTo r s)) := by
  simp [hasR, upTo, Bool.and_assoc]
theorem ends_lt {a b : Rng} (ha : rightR a = true) (hb : rightR b = true) : endsR a b < 0 ↔ a.op = false ∧ (b.op = true ∨ ltB a.hi b.hi = true) := by
  unfold endsR
  rw [ha, hb]
  cases a.op <;> cases b.op <;> simp
  have := @cmp_lt0 a.hi b.hi
  rw [← decide_eq_true_iff (p := cmpB a.hi b.hi < 0), this]
theorem right_parts {r : Rng} (h : rightR r = true) : r.lo.length ≤ 17 ∧ r.hi.length ≤ 17 ∧ (r.op = true → r.hi = []) ∧ (r.op = false → ltB r.lo r.hi = true) := by
  simp only [rightR, Bool.and_eq_true, decide_eq_true_eq] at h
  obtain ⟨⟨h1, h2⟩, h3⟩ := h
  refine ⟨h1, h2, fun e => ?_, fun e => ?_⟩
  · rw [e] at h3; simpa using h3
  · rw [e] at h3; simpa using h3
theorem right_mk {r : Rng} (h1 : r.lo.length ≤ 17) (h2 : r.hi.length ≤ 17) (h3 : r.op = true → r.hi = []) (h4 : r.op = false → ltB r.lo r.hi = true) : rightR r = true := by
  simp only [rightR, Bool.and_eq_true, decide_eq_true_eq]
  refine ⟨⟨h1, h2⟩, ?_⟩
  cases ho : r.op with
  | true => simp [h3 ho]
  | false => simp [h4 ho]
end Go.Proofs.Ytjnpfbohnpjckaa
namespace Go.Iv
set_option linter.unusedSimpArgs false
set_option linter.unusedVariables false
set_option linter.unusedSectionVars false
structure Lin {α : Type} (lt : α → α → Bool) : Prop where
  irr : ∀ x, lt x x = false
  tr : ∀ x y z, lt x y = true → lt y z = true → lt x z = true
  tri : ∀ x y, lt x y = true ∨ x = y ∨ lt y x = true
section
variable {α : Type} (lt : α → α → Bool)
def below (x : α) : Option α → Bool
  | none => true
  | some h => lt x h
def memI (i : α × Option α) (x : α) : Bool := !lt x i.1 && below lt x i.2
def mem (l : List (α × Option α)) (x : α) : Bool := l.any (memI lt · x)
def Can : List (α × Option α) → Prop
  | [] => True
  | [i] => below lt i.1 i.2 = true
  | i :: j :: l => below lt i.1 i.2 = true ∧ (∃ h, i.2 = some h ∧ lt h j.1 = true) ∧ Can (j :: l)
end
section
variable {α : Type} {lt : α → α → Bool} (hl : Lin lt)
include hl
theorem asymm {x y : α} (h : lt x y = true) : lt y x = false := by
  cases e : lt y x
  · rfl
  · have := hl.tr x y x h e
    rw [hl.irr] at this; cases this
theorem eq_of_not {x y : α} (h : lt x y = false) (h' : lt y x = false) : x = y := by
  rcases hl.tri x y with h1 | h1 | h1
  · rw [h] at h1; cases h1
  · exact h1
  · rw [h'] at h1; cases h1
theorem not_lt_tr {x y z : α} (h : lt x y = false) (h' : lt y z = false) : lt x z = false := by
  cases e : lt x z
  · rfl
  · rcases hl.tri x y with h1 | h1 | h1
    · rw [h] at h1; cases h1
    · subst h1; rw [e] at h'; cases h'
    · have := hl.tr y x z h1 e; rw [this] at h'; cases h'
theorem lt_of_lt_of_not {x y z : α} (h : lt x y = true) (h' : lt z y = false) : lt x z = true := by
  rcases hl.tri x z with h1 | h1 | h1
  · exact h1
  · subst h1; rw [h] at h'; cases h'
  · have := hl.tr z x y h1 h; rw [this] at h'; cases h'
theorem can_tail {i : α × Option α} : ∀ {l : List (α × Option α)}, Can lt (i :: l) → Can lt l
  | [], _ => trivial
  | _ :: _, h => h.2.2
theorem can_head {i : α × Option α} : ∀ {l : List (α × Option α)}, Can lt (i :: l) → below lt i.1 i.2 = true
  | [], h => h
  | _ :: _, h => h.1
theorem can_low : ∀ {l : List (α × Option α)} {i : α × Option α} {x : α}, Can lt (i :: l) → mem lt (i :: l) x = true → lt x i.1 = false
  | l, i, x, h, hm => by
    simp only [mem, List.any_cons, Bool.or_eq_true] at hm
    rcases hm with hm | hm
    · simp only [memI, Bool.and_eq_true, Bool.not_eq_true'] at hm; exact hm.1
    · cases l with
      | nil => cases hm
      | cons j l =>
        obtain ⟨h1, ⟨e, he, hlt⟩, h2⟩ := h
        have hlow := can_low h2 hm
        have hi : lt i.1 e = true := by rw [he] at h1; exact h1
        have hij := hl.tr _ _ _ hi hlt
        cases hx : lt x i.1
        · rfl
        · have h4 := hl.tr _ _ _ hx hij
          rw [h4] at hlow; cases hlow
theorem can_gap {i j : α × Option α} {l : List (α × Option α)} {x : α} (h : Can lt (i :: j :: l)) (hx : below lt x i.2 = true ∨ i.2 = some x) : mem lt (j :: l) x = false := by
  obtain ⟨h1, ⟨e, he, hlt⟩, h2⟩ := h
  cases hm : mem lt (j :: l) x
  · rfl
  · have h3 := can_low hl h2 hm
    rw [he] at hx
    rcases hx with hx | hx
    · have := hl.tr _ _ _ hx hlt; rw [h3] at this; cases this
    · rw [Option.some.inj hx] at hlt; rw [h3] at hlt; cases hlt
theorem can_rest {i : α × Option α} {l : List (α × Option α)} {x : α} (h : Can lt (i :: l)) : mem lt l x = (mem lt (i :: l) x && !memI lt i x) := by
  simp only [mem, List.any_cons]
  cases hi : memI lt i x
  · simp
  · simp only [Bool.true_or, Bool.not_true, Bool.and_false]
    cases l with
    | nil => rfl
    | cons j l =>
      simp only [memI, Bool.and_eq_true] at hi
      exact can_gap hl h (.inl hi.2)
theorem mem_head {i : α × Option α} {l : List (α × Option α)} (h : Can lt (i :: l)) : mem lt (i :: l) i.1 = true := by
  simp [mem, memI, hl.irr, can_head hl h]
theorem not_mem_end {i : α × Option α} {l : List (α × Option α)} {e : α} (h : Can lt (i :: l)) (he : i.2 = some e) : mem lt (i :: l) e = false := by
  have h1 : memI lt i e = false := by simp [memI, he, below, hl.irr]
  show (memI lt i e || mem lt l e) = false
  rw [h1, Bool.false_or]
  cases l with
  | nil => rfl
  | cons j l => exact can_gap hl h (.inr he)
theorem end_le {i j : α × Option α} {l m : List (α × Option α)} (h : Can lt (i :: l)) (h' : Can lt (j :: m)) (hm : ∀ x, mem lt (i :: l) x = mem lt (j :: m) x) (h0 : i.1 = j.1) {e : α} (he : i.2 = some e) : ∃ e', j.2 = some e' ∧ lt e e' = false := by
  have hn := not_mem_end hl h he
  rw [hm] at hn
  have hie : lt i.1 e = true := by have := can_head hl h; rw [he] at this; exact this
  simp only [mem, List.any_cons, Bool.or_eq_false_iff] at hn
  have hn1 := hn.1
  simp only [memI, ← h0, asymm hl hie, Bool.not_false, Bool.true_and] at hn1
  cases hj : j.2 with
  | none => rw [hj] at hn1; simp [below] at hn1
  | some e' => rw [hj] at hn1; exact ⟨e', rfl, hn1⟩
theorem can_unique : ∀ {l m : List (α × Option α)}, Can lt l → Can lt m → (∀ x, mem lt l x = mem lt m x) → l = m
  | [], [], _, _, _ => rfl
  | [], j :: m, _, h, hm => by
    have := mem_head hl h
    rw [← hm] at this; simp [mem] at this
  | i :: l, [], h, _, hm => by
    have := mem_head hl h
    rw [hm] at this; simp [mem] at this
  | i :: l, j :: m, h, h', hm => by
    have e1 : i.1 = j.1 := by
      have h1 := mem_head hl h
      rw [hm] at h1
      have h2 := mem_head hl h'
      rw [← hm] at h2
      exact eq_of_not hl (can_low hl h' h1) (can_low hl h h2)
    have e2 : i.2 = j.2 := by
      cases hi : i.2 with
      | none =>
        cases hj : j.2 with
        | none => rfl
        | some e =>
          obtain ⟨e', h1, _⟩ := end_le hl h' h (fun x => (hm x).symm) e1.symm hj
          rw [hi] at h1; cases h1
      | some e =>
        obtain ⟨e', h1, h2⟩ := end_le hl h h' hm e1 hi
        obtain ⟨e'', h3, h4⟩ := end_le hl h' h (fun x => (hm x).symm) e1.symm h1
        rw [hi] at h3
        obtain rfl := Option.some.inj h3
        rw [h1, eq_of_not hl h2 h4]
    have e3 : i = j := Prod.ext e1 e2
    subst e3
    rw [can_unique (can_tail hl h) (can_tail hl h') (fun x => by rw [can_rest hl h, can_rest hl h', hm])]
end
def scan {α : Type} (p : α → Bool) : Option α → List α → List (α × Option α)
  | none, [] => []
  | some s, [] => [(s, none)]
  | none, e :: es => if p e then scan p (some e) es else scan p none es
  | some s, e :: es => if p e then scan p (some s) es else (s, some e) :: scan p none es
def floor {α : Type} (lt : α → α → Bool) (d : Option α) : List α → α → Option α
  | [], _ => d
  | e :: es, x => if lt x e then d else floor lt (some e) es x
def Rise {α : Type} (lt : α → α → Bool) : Option α → List α → Prop
  | _, [] => True
  | none, e :: es => Rise lt (some e) es
  | some d, e :: es => lt d e = true ∧ Rise lt (some e) es
section
variable {α : Type} {lt : α → α → Bool} (hl : Lin lt) {p : α → Bool}
include hl
theorem le_lt {x y z : α} (h : lt y x = false) (h' : lt y z = true) : lt x z = true := by
  rcases hl.tri x y with h1 | h1 | h1
  · exact hl.tr _ _ _ h1 h'
  · subst h1; exact h'
  · rw [h] at h1; cases h1
theorem scan_low {x : α} : ∀ {es : List α} {d : α}, Rise lt (some d) es → lt d x = false → mem lt (scan p none es) x = false ∧ ∀ s, lt d s = false → mem lt (scan p (some s) es) x = !lt x s
  | [], _, _, _ => ⟨rfl, fun s _ => by simp [scan, mem, memI, below]⟩
  | e :: es, d, h, hx => by
    have hxe : lt x e = true := le_lt hl hx h.1
    have ih := scan_low h.2 (asymm hl hxe)
    refine ⟨?_, fun s hs => ?_⟩
    · simp only [scan]
      split
      · rw [ih.2 e (hl.irr e), hxe]; rfl
      · exact ih.1
    · simp only [scan]
      split
      · exact ih.2 s (asymm hl (le_lt hl hs h.1))
      · show (memI lt (s, some e) x || mem lt (scan p none es) x) = _
        rw [ih.1]; simp [memI, below, hxe]
theorem scan_mid {x : α} : ∀ {es : List α} {d : α}, Rise lt (some d) es → lt x d = false →
    (p d = false → mem lt (scan p none es) x = ((floor lt (some d) es x).map p).getD false) ∧
    (p d = true → ∀ s, lt d s = false → mem lt (scan p (some s) es) x = ((floor lt (some d) es x).map p).getD false)
  | [], d, _, hx => ⟨fun h => by simp [scan, mem, floor, h], fun h s hs => by simp [scan, mem, memI, below, floor, h, not_lt_tr hl hx hs]⟩
  | e :: es, d, h, hx => by
    refine ⟨fun hp => ?_, fun hp s hs => ?_⟩
    · cases hxe : lt x e
      · have ih := scan_mid h.2 hxe
        cases he : p e
        · simp only [floor, scan, hxe, he, Bool.false_eq_true, ↓reduceIte]; exact ih.1 he
        · simp only [floor, scan, hxe, he, Bool.false_eq_true, ↓reduceIte]; exact ih.2 he e (hl.irr e)
      · have lo := scan_low (p := p) hl h.2 (asymm hl hxe)
        cases he : p e
        · simp only [floor, scan, hxe, he, hp, Bool.false_eq_true, ↓reduceIte, Option.map_some, Option.getD_some]; exact lo.1
        · simp only [floor, scan, hxe, he, hp, Bool.false_eq_true, ↓reduceIte, Option.map_some, Option.getD_some]
          rw [lo.2 e (hl.irr e), hxe]; rfl
    · have hse := le_lt hl hs h.1
      cases hxe : lt x e
      · have ih := scan_mid h.2 hxe
        cases he : p e
        · simp only [floor, scan, hxe, he, Bool.false_eq_true, ↓reduceIte]
          rw [← ih.1 he]
          show (memI lt (s, some e) x || mem lt (scan p none es) x) = _
          simp [memI, below, hxe]
        · simp only [floor, scan, hxe, he, Bool.false_eq_true, ↓reduceIte]; exact ih.2 he s (asymm hl hse)
      · have lo := scan_low (p := p) hl h.2 (asymm hl hxe)
        cases he : p e
        · simp only [floor, scan, hxe, he, hp, Bool.false_eq_true, ↓reduceIte, Option.map_some, Option.getD_some]
          show (memI lt (s, some e) x || mem lt (scan p none es) x) = _
          simp [memI, below, hxe, not_lt_tr hl hx hs]
        · simp only [floor, scan, hxe, he, hp, Bool.false_eq_true, ↓reduceIte, Option.map_some, Option.getD_some]
          rw [lo.2 s (asymm hl hse), not_lt_tr hl hx hs]; rfl
theorem scan_mem {x : α} : ∀ {es : List α}, Rise lt none es → mem lt (scan p none es) x = ((floor lt none es x).map p).getD false
  | [], _ => rfl
  | e :: es, h => by
    cases hxe : lt x e
    · have ih := scan_mid (p := p) hl h hxe
      cases he : p e
      · simp only [floor, scan, hxe, he, Bool.false_eq_true, ↓reduceIte]; exact ih.1 he
      · simp only [floor, scan, hxe, he, Bool.false_eq_true, ↓reduceIte]; exact ih.2 he e (hl.irr e)
    · have lo := scan_low (p := p) hl h (asymm hl hxe)
      cases he : p e
      · simp only [floor, scan, hxe, he, Bool.false_eq_true, ↓reduceIte, Option.map_none, Option.getD_none]; exact lo.1
      · simp only [floor, scan, hxe, he, Bool.false_eq_true, ↓reduceIte, Option.map_none, Option.getD_none]
        rw [lo.2 e (hl.irr e), hxe]; rfl
theorem can_scan : ∀ {es : List α} {d : α}, Rise lt (some d) es →
    (Can lt (scan p none es) ∧ ∀ j l, scan p none es = j :: l → lt d j.1 = true) ∧ ∀ s, lt d s = false → Can lt (scan p (some s) es) ∧ ∀ j l, scan p (some s) es = j :: l → j.1 = s
  | [], d, _ => ⟨⟨trivial, fun _ _ h => by simp [scan] at h⟩, fun s _ => ⟨rfl, fun j l h => by simp only [scan, List.cons.injEq] at h; rw [← h.1]⟩⟩
  | e :: es, d, h => by
    have ih := can_scan h.2
    refine ⟨?_, fun s hs => ?_⟩
    · simp only [scan]
      split
      · have := ih.2 e (hl.irr e)
        exact ⟨this.1, fun j l hj => by rw [this.2 j l hj]; exact h.1⟩
      · exact ⟨ih.1.1, fun j l hj => hl.tr _ _ _ h.1 (ih.1.2 j l hj)⟩
    · have hse := le_lt hl hs h.1
      simp only [scan]
      split
      · exact ih.2 s (asymm hl hse)
      · refine ⟨?_, fun j l hj => by simp only [List.cons.injEq] at hj; rw [← hj.1]⟩
        cases hr : scan p none es with
        | nil => exact hse
        | cons j l => exact ⟨hse, ⟨e, rfl, ih.1.2 j l hr⟩, by rw [← hr]; exact ih.1.1⟩
theorem scan_can : ∀ {es : List α}, Rise lt none es → Can lt (scan p none es)
  | [], _ => trivial
  | e :: es, h => by
    have := can_scan (p := p) hl h
    simp only [scan]
    split
    · exact (this.2 e (hl.irr e)).1
    · exact this.1.1
theorem scan_all {es : List α} (h : Rise lt none es) {P : α → Bool} (hP : ∀ x, P x = ((floor lt none es x).map P).getD false) : ∀ x, mem lt (scan P none es) x = P x := fun x => by
  rw [scan_mem hl h, ← hP x]
end
def maxE {α : Type} (lt : α → α → Bool) : Option α → Option α → Option α
  | some a, some b => if lt a b then some b else some a
  | _, _ => none
def touch {α : Type} (lt : α → α → Bool) (c : Option α) (r : α) : Bool :=
  match c with
  | none => true
  | some h => !lt h r
section
variable {α : Type} {lt : α → α → Bool} (hl : Lin lt)
include hl
theorem below_max {x : α} (c r : Option α) : below lt x (maxE lt c r) = (below lt x c || below lt x r) := by
  cases c with
  | none => cases r <;> simp [maxE, below]
  | some a =>
    cases r with
    | none => simp [maxE, below]
    | some b =>
      cases hab : lt a b
      · simp only [maxE, hab, Bool.false_eq_true, ↓reduceIte, below]
        cases hxb : lt x b
        · simp
        · have hxa : lt x a = true := by
            cases e : lt x a
            · have := not_lt_tr hl e hab; rw [hxb] at this; cases this
            · rfl
          rw [hxa]; rfl
      · simp only [maxE, hab, ↓reduceIte, below]
        cases hxa : lt x a
        · simp
        · rw [hl.tr _ _ _ hxa hab]; rfl
theorem memI_join {c r : α × Option α} {x : α} (h : lt r.1 c.1 = false) (ht : touch lt c.2 r.1 = true) : memI lt (c.1, maxE lt c.2 r.2) x = (memI lt c x || memI lt r x) := by
  simp only [memI, below_max hl]
  cases h1 : lt x c.1
  · cases h2 : below lt x c.2
    · cases h3 : lt x r.1
      · simp
      · cases hc : c.2 with
        | none => rw [hc] at h2; cases h2
        | some e =>
          rw [hc] at h2 ht
          simp only [below] at h2
          simp only [touch, Bool.not_eq_true'] at ht
          have := not_lt_tr hl h2 ht
          rw [h3] at this; cases this
    · simp
  · have : lt x r.1 = true := lt_of_lt_of_not hl h1 h
    simp [this]
end
end Go.Iv
namespace Go.Proofs.Ytjnpfbohnpjckaa
open Go.Abs
set_option linter.unusedSimpArgs false
set_option linter.unusedVariables false
theorem linB : Iv.Lin ltB := ⟨lt_irrefl, fun _ _ _ h1 h2 => lt_trans' h1 h2, lt_tri⟩
def ivR (r : Rng) : List UInt8 × Option (List UInt8) := (r.lo, if r.op then none else some r.hi)
def hasRs (l : List Rng) (s : List UInt8) : Bool := l.any (hasR · s)
def goRs : Option Rng → List Rng → Bool
  | _, [] => true
  | p, r :: rs => rightR r && (match p with | none => true | some q => !(q.op || !ltB q.hi r.lo)) && goRs (some r) rs
def rightRs (l : List Rng) : Bool := goRs none l
def RS : List Rng → Prop
  | [] => True
  | [r] => rightR r = true
  | r :: q :: l => rightR r = true ∧ (q.op = false ∧ ltB q.hi r.lo = true) ∧ RS (q :: l)
theorem goRs_snoc : ∀ (l : List Rng) (p : Option Rng) (q r : Rng), goRs p (l ++ [q, r]) = (goRs p (l ++ [q]) && (rightR r && !(q.op || !ltB q.hi r.lo)))
  | [], p, q, r => by cases p <;> simp [goRs, Bool.and_assoc]
  | x :: l, p, q, r => by
    simp only [List.cons_append, goRs, goRs_snoc l (some x) q r, Bool.and_assoc]
theorem rightRs_rev : ∀ {l : List Rng}, rightRs l.reverse = true ↔ RS l
  | [] => by simp [rightRs, goRs, RS]
  | [r] => by simp [rightRs, goRs, RS]
  | r :: q :: l => by
    have ih := @rightRs_rev (q :: l)
    simp only [List.reverse_cons, List.append_assoc, List.cons_append, List.nil_append, rightRs] at ih ⊢
    rw [goRs_snoc, Bool.and_eq_true, ih, RS, Bool.and_eq_true]
    simp
    exact ⟨fun ⟨a, b, c, d⟩ => ⟨b, ⟨c, d⟩, a⟩, fun ⟨b, ⟨c, d⟩, a⟩ => ⟨a, b, c, d⟩⟩
theorem rs_tail {r : Rng} : ∀ {l : List Rng}, RS (r :: l) → RS l
  | [], _ => trivial
  | _ :: _, h => h.2.2
theorem rs_one {r : Rng} : ∀ {l : List Rng}, RS (r :: l) → rightR r = true
  | [], h => h
  | _ :: _, h => h.1
theorem iv_ok {r : Rng} (h : rightR r = true) : Iv.below ltB r.lo (ivR r).2 = true := by
  have := (right_parts h).2.2.2
  unfold ivR
  cases ho : r.op
  · simp only [Bool.false_eq_true, if_false, Iv.below]; exact this ho
  · rfl
theorem iv_inj {r q : Rng} (hr : rightR r = true) (hq : rightR q = true) (h : ivR r = ivR q) : r = q := by
  obtain ⟨_, _, h1, _⟩ := right_parts hr
  obtain ⟨_, _, h2, _⟩ := right_parts hq
  obtain ⟨lo, hi, op⟩ := r
  obtain ⟨lo', hi', op'⟩ := q
  simp only [ivR, Prod.mk.injEq] at h
  obtain ⟨rfl, h⟩ := h
  cases op <;> cases op' <;> simp at h h1 h2
  · rw [h]
  · rw [h1, h2]
theorem hasR_iv (r : Rng) (s : List UInt8) : hasR r s = (rightR r && Iv.memI ltB (ivR r) s) := by
  unfold hasR Iv.memI ivR
  cases r.op <;> simp [Iv.below, Bool.and_assoc]
theorem hasRs_iv (l : List Rng) (s : List UInt8) : hasRs l s = Iv.mem ltB ((l.filter rightR).map ivR) s := by
  induction l with
  | nil => rfl
  | cons r l ih =>
    simp only [hasRs, List.any_cons] at ih ⊢
    rw [ih, hasR_iv]
    cases h : rightR r
    · simp [List.filter_cons, h]
    · simp [List.filter_cons, h, Iv.mem]
theorem goRs_can : ∀ {l : List Rng} {p : Option Rng}, goRs p l = true ↔ (∀ r ∈ l, rightR r = true) ∧ Iv.Can ltB (l.map ivR) ∧ ∀ q, p = some q → ∀ r, l.head? = some r → q.op = false ∧ ltB q.hi r.lo = true
  | [], p => by simp [goRs, Iv.Can]
  | r :: l, p => by
    have ih := @goRs_can l (some r)
    simp only [goRs, Bool.and_eq_true, ih]
    constructor
    · rintro ⟨⟨h1, h2⟩, h3, h4, h5⟩
      refine ⟨fun q hq => ?_, ?_, fun q hq r' hr' => ?_⟩
      · rcases List.mem_cons.1 hq with rfl | hq
        · exact h1
        · exact h3 q hq
      · cases l with
        | nil => exact iv_ok h1
        | cons r' l =>
          obtain ⟨k1, k2⟩ := h5 r rfl r' rfl
          exact ⟨iv_ok h1, ⟨r.hi, by simp [ivR, k1], k2⟩, h4⟩
      · subst hq
        simp at hr'
        subst hr'
        simpa using h2
    · rintro ⟨h1, h2, h3⟩
      refine ⟨⟨h1 r (by simp), ?_⟩, fun q hq => h1 q (by simp [hq]), Iv.can_tail linB h2, fun q hq r' hr' => ?_⟩
      · cases p with
        | none => rfl
        | some q => have := h3 q rfl r rfl; simp [this]
      · obtain rfl := Option.some.inj hq
        cases l with
        | nil => simp at hr'
        | cons r'' l =>
          simp at hr'
          subst hr'
          obtain ⟨_, ⟨h, k1, k2⟩, _⟩ := h2
          simp only [ivR] at k1
          cases ho : r.op with
          | true => rw [ho] at k1; simp at k1
          | false =>
            rw [ho] at k1
            simp at k1
            subst k1
            exact ⟨rfl, k2⟩
theorem rightRs_can {l : List Rng} : rightRs l = true ↔ (∀ r ∈ l, rightR r = true) ∧ Iv.Can ltB (l.map ivR) := by
  unfold rightRs
  rw [goRs_can]
  simp
theorem filter_right {l : List Rng} (h : ∀ r ∈ l, rightR r = true) : l.filter rightR = l := List.filter_eq_self.2 h
theorem map_iv_inj : ∀ {l m : List Rng}, (∀ r ∈ l, rightR r = true) → (∀ r ∈ m, rightR r = true) → l.map ivR = m.map ivR → l = m
  | [], [], _, _, _ => rfl
  | [], _ :: _, _, _, h => by simp at h
  | _ :: _, [], _, _, h => by simp at h
  | r :: l, q :: m, h1, h2, h => by
    simp only [List.map_cons, List.cons.injEq] at h
    rw [iv_inj (h1 r (by simp)) (h2 q (by simp)) h.1, map_iv_inj (fun x hx => h1 x (by simp [hx])) (fun x hx => h2 x (by simp [hx])) h.2]
theorem rightRs_unique {l m : List Rng} (h : rightRs l = true) (h' : rightRs m = true) (hm : ∀ s, hasRs l s = hasRs m s) : l = m := by
  obtain ⟨a1, a2⟩ := rightRs_can.1 h
  obtain ⟨b1, b2⟩ := rightRs_can.1 h'
  refine map_iv_inj a1 b1 (Iv.can_unique linB a2 b2 fun s => ?_)
  have := hm s
  rwa [hasRs_iv, hasRs_iv, filter_right a1, filter_right b1] at this
open Classical in
/-- The right list of the texts that are meant, if there is one. -/
noncomputable def setS (p : List UInt8 → Bool) : List Rng := if h : ∃ l, rightRs l = true ∧ ∀ n, hasRs l n = p n then Classical.choose h else []
def IsS (p : List UInt8 → Bool) : Prop := ∃ l, rightRs l = true ∧ ∀ n, hasRs l n = p n
theorem setS_right (p : List UInt8 → Bool) : rightRs (setS p) = true := by
  unfold setS
  split
  · rename_i h; exact (Classical.choose_spec h).1
  · rfl
theorem setS_has {p : List UInt8 → Bool} (h : IsS p) (n : List UInt8) : hasRs (setS p) n = p n := by
  unfold setS
  rw [dif_pos (show ∃ l, rightRs l = true ∧ ∀ n, hasRs l n = p n from h)]; exact (Classical.choose_spec h).2 n
theorem setS_eq {p : List UInt8 → Bool} {l : List Rng} (h : rightRs l = true) (hp : ∀ n, hasRs l n = p n) : l = setS p :=
  rightRs_unique h (setS_right p) fun n => by rw [hp, setS_has ⟨l, h, hp⟩]
theorem hasRs_cons (r : Rng) (l : List Rng) (s : List UInt8) : hasRs (r :: l) s = (hasR r s || hasRs l s) := rfl
theorem hasRs_nil (s : List UInt8) : hasRs [] s = false := rfl
theorem hasRs_rev (l : List Rng) (s : List UInt8) : hasRs l.reverse s = hasRs l s := by simp [hasRs]
theorem hasRs_iff {l : List Rng} {s : List UInt8} : hasRs l s = true ↔ ∃ r ∈ l, hasR r s = true := by simp [hasRs]
theorem hasRs_perm {l m : List Rng} (h : l.Perm m) (s : List UInt8) : hasRs l s = hasRs m s := by
  rw [Bool.eq_iff_iff, hasRs_iff, hasRs_iff]
  exact ⟨fun ⟨r, hr, h1⟩ => ⟨r, h.mem_iff.1 hr, h1⟩, fun ⟨r, hr, h1⟩ => ⟨r, h.mem_iff.2 hr, h1⟩⟩
theorem hasR_right {r : Rng} {s : List UInt8} (h : hasR r s = true) : rightR r = true := by
  rw [hasR_eq] at h; simp only [Bool.and_eq_true] at h; exact h.1
theorem hasRs_filter (l : List Rng) (s : List UInt8) : hasRs (l.filter rightR) s = hasRs l s := by
  rw [Bool.eq_iff_iff, hasRs_iff, hasRs_iff]
  exact ⟨fun ⟨r, hr, h1⟩ => ⟨r, (List.mem_filter.1 hr).1, h1⟩, fun ⟨r, hr, h1⟩ => ⟨r, List.mem_filter.2 ⟨hr, hasR_right h1⟩, h1⟩⟩
def mergeR (q r : Rng) : Rng := if endsR q r < 0 then ⟨q.lo, r.hi, r.op⟩ else q
def pushS : List Rng → Rng → List Rng
  | [], r => [r]
  | q :: qs, r => if q.op || !ltB q.hi r.lo then mergeR q r :: qs else r :: q :: qs
def lowS (l : List Rng) (x : List UInt8) : Prop := match l with | [] => True | q :: _ => ltB x q.lo = false
theorem merge_lo (q r : Rng) : (mergeR q r).lo = q.lo := by unfold mergeR; split <;> rfl
theorem merge_iv {q r : Rng} (hq : rightR q = true) (hr : rightR r = true) : ivR (mergeR q r) = (q.lo, Iv.maxE ltB (ivR q).2 (ivR r).2) := by
  have he := ends_lt hq hr
  unfold mergeR
  by_cases h : endsR q r < 0
  · rw [if_pos h]
    obtain ⟨h1, h2⟩ := he.1 h
    unfold ivR
    rw [h1]
    cases ho : r.op with
    | true => simp [Iv.maxE]
    | false =>
      rw [ho] at h2
      have h3 : ltB q.hi r.hi = true := by simpa using h2
      simp [Iv.maxE, h3]
  · rw [if_neg h]
    unfold ivR
    cases ho : q.op with
    | true => simp [Iv.maxE]
    | false =>
      have h2 : ¬ (r.op = true ∨ ltB q.hi r.hi = true) := fun h3 => h (he.2 ⟨ho, h3⟩)
      have h3 : r.op = false := by
        cases hx : r.op
        · rfl
        · exact absurd (.inl hx) h2
      have h4 : ltB q.hi r.hi = false := by
        cases hx : ltB q.hi r.hi
        · rfl
        · exact absurd (.inr hx) h2
      simp [Iv.maxE, h3, h4]
theorem merge_right {q r : Rng} (hq : rightR q = true) (hr : rightR r = true) : rightR (mergeR q r) = true := by
  obtain ⟨a1, a2, a3, a4⟩ := right_parts hq
  obtain ⟨b1, b2, b3, b4⟩ := right_parts hr
  have he := ends_lt hq hr
  unfold mergeR
  by_cases h : endsR q r < 0
  · rw [if_pos h]
    obtain ⟨h1, h2⟩ := he.1 h
    refine right_mk a1 b2 b3 fun ho => ?_
    have ho' : r.op = false := ho
    rw [ho'] at h2
    have h3 : ltB q.hi r.hi = true := by simpa using h2
    exact lt_trans' (a4 h1) h3
  · rw [if_neg h]; exact hq
theorem touch_iff {q r : Rng} : (q.op || !ltB q.hi r.lo) = Iv.touch ltB (ivR q).2 (ivR r).1 := by
  unfold ivR
  cases q.op <;> simp [Iv.touch]
theorem pushS_right {l : List Rng} {r : Rng} (h : RS l) (hr : rightR r = true) (hf : lowS l r.lo) : RS (pushS l r) ∧ lowS (pushS l r) r.lo ∧ ∀ s, hasRs (pushS l r) s = (hasRs l s || hasR r s) := by
  cases l with
  | nil => exact ⟨hr, lt_irrefl _, fun s => by simp [pushS, hasRs]⟩
  | cons q qs =>
    have hq := rs_one h
    have hf' : ltB r.lo q.lo = false := hf
    simp only [pushS]
    cases hc : (q.op || !ltB q.hi r.lo) with
    | true =>
      rw [if_pos rfl]
      have hm := merge_right hq hr
      refine ⟨?_, ?_, fun s => ?_⟩
      · cases qs with
        | nil => exact hm
        | cons p ps => exact ⟨hm, ⟨h.2.1.1, by rw [merge_lo]; exact h.2.1.2⟩, h.2.2⟩
      · show ltB r.lo (mergeR q r).lo = false
        rw [merge_lo]; exact hf'
      · rw [hasRs_cons, hasRs_cons, hasR_iv, hasR_iv q, hasR_iv r, hm, hq, hr]
        simp only [Bool.true_and]
        rw [merge_iv hq hr]
        have := Iv.memI_join linB (c := ivR q) (r := ivR r) (x := s) hf' (by rw [← touch_iff]; exact hc)
        have e : (ivR q).1 = q.lo := rfl
        rw [e] at this
        rw [this]
        cases Iv.memI ltB (ivR q) s <;> cases Iv.memI ltB (ivR r) s <;> cases hasRs qs s <;> rfl
    | false =>
      rw [if_neg (by simp)]
      have hc' : q.op = false ∧ ltB q.hi r.lo = true := by simpa using hc
      refine ⟨⟨hr, hc', h⟩, lt_irrefl _, fun s => ?_⟩
      rw [hasRs_cons r]; cases hasR r s <;> cases hasRs (q :: qs) s <;> rfl
theorem pushS_len (l : List Rng) (r : Rng) : (pushS l r).length ≤ l.length + 1 := by
  cases l with
  | nil => simp [pushS]
  | cons q qs => simp only [pushS]; split <;> simp
theorem foldS_push : ∀ {l : List Rng} {a : List Rng}, RS a → (∀ r ∈ l, rightR r = true) → l.Pairwise (fun x y => ltB y.lo x.lo = false) → (∀ r ∈ l, lowS a r.lo) → RS (l.foldl pushS a) ∧ ∀ s, hasRs (l.foldl pushS a) s = (hasRs a s || hasRs l s)
  | [], a, h, _, _, _ => ⟨h, fun s => by simp [hasRs]⟩
  | r :: l, a, h, ho, hs, hf => by
    obtain ⟨h1, h2, h3⟩ := pushS_right h (ho r (by simp)) (hf r (by simp))
    rw [List.pairwise_cons] at hs
    obtain ⟨h4, h5⟩ := foldS_push (l := l) h1 (fun q hq => ho q (by simp [hq])) hs.2 (fun q hq => by
      have := hs.1 q hq
      revert h2
      cases pushS a r with
      | nil => intro _; trivial
      | cons p ps => intro h2; exact not_lt_trans h2 this)
    refine ⟨h4, fun n => ?_⟩
    rw [List.foldl_cons, h5, h3, hasRs_cons]
    simp only [Bool.or_assoc]
theorem foldS_all {l : List Rng} (ho : ∀ r ∈ l, rightR r = true) (hs : l.Pairwise (fun x y => ltB y.lo x.lo = false)) : (l.foldl pushS []).reverse = setS (hasRs l) := by
  obtain ⟨h1, h2⟩ := foldS_push (a := []) trivial ho hs (fun _ _ => trivial)
  exact setS_eq (rightRs_rev.2 h1) fun n => by rw [hasRs_rev, h2]; simp [hasRs]
def toR (i : List UInt8 × Option (List UInt8)) : Rng := ⟨i.1, i.2.getD [], i.2.isNone⟩
theorem iv_toR (i : List UInt8 × Option (List UInt8)) : ivR (toR i) = i := by
  obtain ⟨a, b⟩ := i
  cases b <;> rfl
def stS (P : List UInt8 → Bool) (st : List Rng × Bool) (e : List UInt8) : List Rng × Bool :=
  (if P e && !st.2 then ⟨e, [], true⟩ :: st.1 else if !P e && st.2 then (match st.1 with | q :: qs => ⟨q.lo, e, false⟩ :: qs | [] => []) else st.1, P e)
def mkS (P : List UInt8 → Bool) (es : List (List UInt8)) : List Rng × Bool := es.foldl (stS P) ([], false)
theorem stS_scan (P : List UInt8 → Bool) : ∀ (es : List (List UInt8)) (acc : List Rng), (es.foldl (stS P) (acc, false)).1.reverse = acc.reverse ++ (Iv.scan P none es).map toR ∧
    ∀ s, (es.foldl (stS P) (⟨s, [], true⟩ :: acc, true)).1.reverse = acc.reverse ++ (Iv.scan P (some s) es).map toR
  | [], acc => ⟨by simp [Iv.scan], fun s => by simp [Iv.scan, toR]⟩
  | e :: es, acc => by
    refine ⟨?_, fun s => ?_⟩
    · simp only [List.foldl_cons, stS, Iv.scan]
      cases hp : P e with
      | true => simp only [Bool.not_false, Bool.and_self, if_true]; exact (stS_scan P es acc).2 e
      | false => simp only [Bool.not_false, Bool.and_true, Bool.and_false, Bool.false_eq_true, if_false]; exact (stS_scan P es acc).1
    · simp only [List.foldl_cons, stS, Iv.scan]
      cases hp : P e with
      | true => simp only [Bool.not_true, Bool.and_false, Bool.false_and, Bool.false_eq_true, if_false, if_true]; exact (stS_scan P es acc).2 s
      | false =>
        simp only [Bool.not_true, Bool.and_self, Bool.and_false, Bool.not_false, Bool.false_eq_true, if_false, if_true]
        rw [(stS_scan P es (⟨s, e, false⟩ :: acc)).1]
        simp [toR]
theorem mkS_scan (P : List UInt8 → Bool) (es : List (List UInt8)) : (mkS P es).1.reverse = (Iv.scan P none es).map toR := by
  have := (stS_scan P es []).1
  rw [List.reverse_nil, List.nil_append] at this
  exact this
theorem mkS_step (P : List UInt8 → Bool) (es : List (List UInt8)) (k : Nat) (h : k < es.length) : mkS P (es.take (k + 1)) = stS P (mkS P (es.take k)) es[k] := by
  unfold mkS
  rw [← List.take_append_getElem h, List.foldl_append]; rfl
theorem stS_len (P : List UInt8 → Bool) (st : List Rng × Bool) (e : List UInt8) : (stS P st e).1.length ≤ st.1.length + 1 := by
  simp only [stS]
  split
  · simp
  · split
    · split <;> simp_all
    · omega
theorem mkS_len (P : List UInt8 → Bool) : ∀ (es : List (List UInt8)) (st : List Rng × Bool), (es.foldl (stS P) st).1.length ≤ st.1.length + es.length
  | [], st => by simp
  | e :: es, st => by
    have h1 := mkS_len P es (stS P st e)
    have h2 := stS_len P st e
    simp only [List.foldl_cons, List.length_cons]; omega
theorem mkS_was (P : List UInt8 → Bool) : ∀ (es : List (List UInt8)) (st : List Rng × Bool), (st.2 = true → st.1 ≠ []) → (es.foldl (stS P) st).2 = true → (es.foldl (stS P) st).1 ≠ []
  | [], st, h, h' => h h'
  | e :: es, st, h, h' => by
    refine mkS_was P es (stS P st e) (fun h2 => ?_) h'
    have hp : P e = true := h2
    simp only [stS, hp]
    cases hs : st.2 with
    | true => simp; exact h hs
    | false => simp
theorem pw_rise : ∀ {es : List (List UInt8)}, es.Pairwise (fun x y => ltB x y = true) → Iv.Rise ltB none es
  | [], _ => trivial
  | e :: es, h => by
    have key : ∀ {es : List (List UInt8)} {d : List UInt8}, (d :: es).Pairwise (fun x y => ltB x y = true) → Iv.Rise ltB (some d) es := by
      intro es
      induction es with
      | nil => intro d _; trivial
      | cons e es ih =>
        intro d h
        rw [List.pairwise_cons] at h
        exact ⟨h.1 e (by simp), ih h.2⟩
    exact key h
theorem floor_spec : ∀ {es : List (List UInt8)} {x : List UInt8} {d : Option (List UInt8)}, es.Pairwise (fun a b => ltB a b = true) → (∀ e, d = some e → ltB x e = false ∧ ∀ y ∈ es, ltB e y = true) →
    match Iv.floor ltB d es x with
    | none => d = none ∧ ∀ y ∈ es, ltB x y = true
    | some e => (d = some e ∨ e ∈ es) ∧ ltB x e = false ∧ ∀ y ∈ es, ltB e y = true → ltB x y = true
  | [], x, d, _, h => by
    cases d with
    | none => exact ⟨rfl, fun y hy => by cases hy⟩
    | some e => exact ⟨.inl rfl, (h e rfl).1, fun y hy => by cases hy⟩
  | e :: es, x, d, hp, h => by
    rw [List.pairwise_cons] at hp
    simp only [Iv.floor]
    cases hx : ltB x e with
    | true =>
      rw [if_pos rfl]
      have hlow : ∀ y ∈ e :: es, ltB x y = true := fun y hy => by
        rcases List.mem_cons.1 hy with rfl | hy
        · exact hx
        · exact lt_trans' hx (hp.1 y hy)
      cases d with
      | none => exact ⟨rfl, hlow⟩
      | some e' => exact ⟨.inl rfl, (h e' rfl).1, fun y hy _ => hlow y hy⟩
    | false =>
      rw [if_neg (by simp)]
      have ih := @floor_spec es x (some e) hp.2 (fun e' he' => by
        obtain rfl := Option.some.inj he'
        exact ⟨hx, hp.1⟩)
      cases hf : Iv.floor ltB (some e) es x with
      | none => rw [hf] at ih; exact absurd ih.1 (by simp)
      | some e' =>
        rw [hf] at ih
        obtain ⟨h1, h2, h3⟩ := ih
        refine ⟨.inr ?_, h2, fun y hy hl => ?_⟩
        · rcases h1 with h1 | h1
          · obtain rfl := Option.some.inj h1; simp
          · simp [h1]
        · rcases List.mem_cons.1 hy with rfl | hy
          · rcases h1 with h1 | h1
            · obtain rfl := Option.some.inj h1
              rw [lt_irrefl] at hl; cases hl
            · have := hp.1 e' h1
              rw [lt_asymm' this] at hl; cases hl
          · exact h3 y hy hl
theorem can_valid : ∀ {l : List (List UInt8 × Option (List UInt8))}, Iv.Can ltB l → ∀ i ∈ l, Iv.below ltB i.1 i.2 = true
  | [], _, i, hi => by cases hi
  | j :: l, h, i, hi => by
    rcases List.mem_cons.1 hi with rfl | hi
    · exact Iv.can_head linB h
    · exact can_valid (Iv.can_tail linB h) i hi
theorem scan_es (P : List UInt8 → Bool) : ∀ (es : List (List UInt8)) (st : Option (List UInt8)), ∀ i ∈ Iv.scan P st es, (i.1 ∈ es ∨ st = some i.1) ∧ ∀ e, i.2 = some e → e ∈ es
  | [], none, i, hi => by cases hi
  | [], some s, i, hi => by
    simp only [Iv.scan, List.mem_singleton] at hi
    subst hi
    exact ⟨.inr rfl, fun e he => by cases he⟩
  | x :: es, none, i, hi => by
    simp only [Iv.scan] at hi
    split at hi
    · obtain ⟨h1, h2⟩ := scan_es P es (some x) i hi
      refine ⟨.inl ?_, fun e he => by simp [h2 e he]⟩
      rcases h1 with h1 | h1
      · simp [h1]
      · obtain rfl := Option.some.inj h1; simp
    · obtain ⟨h1, h2⟩ := scan_es P es none i hi
      refine ⟨.inl ?_, fun e he => by simp [h2 e he]⟩
      rcases h1 with h1 | h1
      · simp [h1]
      · cases h1
  | x :: es, some s, i, hi => by
    simp only [Iv.scan] at hi
    split at hi
    · obtain ⟨h1, h2⟩ := scan_es P es (some s) i hi
      refine ⟨?_, fun e he => by simp [h2 e he]⟩
      rcases h1 with h1 | h1
      · exact .inl (by simp [h1])
      · exact .inr h1
    · rcases List.mem_cons.1 hi with rfl | hi
      · exact ⟨.inr rfl, fun e he => by
          have : x = e := by simpa using he
          simp [this]⟩
      · obtain ⟨h1, h2⟩ := scan_es P es none i hi
        refine ⟨.inl ?_, fun e he => by simp [h2 e he]⟩
        rcases h1 with h1 | h1
        · simp [h1]
        · cases h1
theorem mkS_set {P : List UInt8 → Bool} {es : List (List UInt8)} (up : es.Pairwise (fun x y => ltB x y = true)) (hnil : [] ∈ es) (hlen : ∀ e ∈ es, e.length ≤ 17)
    (flat : ∀ x, ∀ e ∈ es, ltB x e = false → (∀ y ∈ es, ltB e y = true → ltB x y = true) → P x = P e) : (mkS P es).1.reverse = setS P ∧ IsS P := by
  have hall := Iv.scan_all linB (pw_rise up) (P := P) (fun x => by
    have hf := floor_spec (x := x) (d := none) up (fun e he => by cases he)
    cases hx : Iv.floor ltB none es x with
    | none =>
      rw [hx] at hf
      have := hf.2 [] hnil
      rw [ltB_nil] at this; cases this
    | some e =>
      rw [hx] at hf
      obtain ⟨h1, h2, h3⟩ := hf
      rcases h1 with h1 | h1
      · cases h1
      · exact flat x e h1 h2 h3)
  have hcan := Iv.scan_can linB (p := P) (pw_rise up)
  have hmem := scan_es P es none
  rw [mkS_scan]
  generalize Iv.scan P none es = L at *
  have e : (L.map toR).map ivR = L := by
    rw [List.map_map]
    have : (ivR ∘ toR) = id := funext iv_toR
    rw [this, List.map_id]
  have hr : ∀ r ∈ L.map toR, rightR r = true := fun r hr => by
    obtain ⟨i, hi, rfl⟩ := List.mem_map.1 hr
    obtain ⟨h1, h2⟩ := hmem i hi
    have hv := can_valid hcan i hi
    obtain ⟨a, b⟩ := i
    have ha : a ∈ es := by
      rcases h1 with h1 | h1
      · exact h1
      · cases h1
    cases b with
    | none => exact right_mk (hlen a ha) (by simp [toR]) (fun _ => rfl) (fun h => by simp [toR] at h)
    | some b => exact right_mk (hlen a ha) (hlen b (h2 b rfl)) (fun h => by simp [toR] at h) (fun _ => hv)
  have h1 : rightRs (L.map toR) = true := rightRs_can.2 ⟨hr, by rw [e]; exact hcan⟩
  have h2 : ∀ s, hasRs (L.map toR) s = P s := fun s => by
    rw [hasRs_iv, filter_right hr, e]; exact hall s
  exact ⟨setS_eq h1 h2, ⟨_, h1, h2⟩⟩
theorem hasRs_flat {l : List Rng} {es : List (List UInt8)} (he : ∀ r ∈ l, rightR r = true → r.lo ∈ es ∧ (r.op = false → r.hi ∈ es)) {x e : List UInt8} (h1 : ltB x e = false) (h2 : ∀ y ∈ es, ltB e y = true → ltB x y = true) : hasRs l x = hasRs l e := by
  have same : ∀ y ∈ es, ltB x y = ltB e y := fun y hy => by
    cases h : ltB e y
    · exact not_lt_trans h h1
    · exact h2 y hy h
  have key : ∀ r ∈ l, hasR r x = hasR r e := fun r hr => by
    cases hrr : rightR r with
    | false => rw [hasR_eq, hasR_eq, hrr]; rfl
    | true =>
      obtain ⟨k1, k2⟩ := he r hr hrr
      rw [hasR_eq, hasR_eq, same _ k1]
      unfold upTo
      cases ho : r.op with
      | true => rfl
      | false => rw [same _ (k2 ho)]
  clear he
  induction l with
  | nil => rfl
  | cons r l ih =>
    rw [hasRs_cons, hasRs_cons, key r (by simp), ih (fun q hq => key q (by simp [hq]))]
def putB : List (List UInt8) → List UInt8 → List (List UInt8)
  | [], n => [n]
  | x :: xs, n => if ltB x n then x :: putB xs n else if x = n then x :: xs else n :: x :: xs
theorem putB_len (l : List (List UInt8)) (n : List UInt8) : (putB l n).length ≤ l.length + 1 := by
  induction l with
  | nil => simp [putB]
  | cons x xs ih =>
    simp only [putB]
    split
    · simp; omega
    · split <;> simp
theorem putB_mem (l : List (List UInt8)) (n x : List UInt8) : x ∈ putB l n ↔ x = n ∨ x ∈ l := by
  induction l with
  | nil => simp [putB]
  | cons y ys ih =>
    simp only [putB]
    split
    · rw [List.mem_cons, ih, List.mem_cons]
      exact ⟨fun h => by rcases h with h | h | h <;> simp [h], fun h => by rcases h with h | h | h <;> simp [h]⟩
    · split
      · rename_i h1 h2; subst h2; simp
      · simp
theorem putB_up {l : List (List UInt8)} {n : List UInt8} (h : l.Pairwise (fun x y => ltB x y = true)) : (putB l n).Pairwise (fun x y => ltB x y = true) := by
  induction l with
  | nil => simp [putB]
  | cons y ys ih =>
    rw [List.pairwise_cons] at h
    simp only [putB]
    split
    · rename_i h1
      rw [List.pairwise_cons]
      refine ⟨fun x hx => ?_, ih h.2⟩
      rcases (putB_mem ys n x).1 hx with rfl | hx
      · exact h1
      · exact h.1 x hx
    · split
      · exact List.pairwise_cons.2 h
      · rename_i h1 h2
        have hlt : ltB n y = true := by
          rcases lt_tri y n with h3 | h3 | h3
          · exact absurd h3 (by simpa using h1)
          · exact absurd h3 h2
          · exact h3
        rw [List.pairwise_cons]
        refine ⟨fun x hx => ?_, List.pairwise_cons.2 h⟩
        rcases List.mem_cons.1 hx with rfl | hx
        · exact hlt
        · exact lt_trans' hlt (h.1 x hx)
def putE (es : List (List UInt8)) (r : Rng) : List (List UInt8) := if rightR r then (if r.op then putB es r.lo else putB (putB es r.lo) r.hi) else es
def edgesS (a b : List Rng) : List (List UInt8) := (a ++ b).foldl putE [[]]
theorem putE_up {es : List (List UInt8)} {r : Rng} (h : es.Pairwise (fun x y => ltB x y = true)) : (putE es r).Pairwise (fun x y => ltB x y = true) := by
  unfold putE
  split
  · split
    · exact putB_up h
    · exact putB_up (putB_up h)
  · exact h
theorem putE_mem (es : List (List UInt8)) (r : Rng) (x : List UInt8) : x ∈ putE es r ↔ x ∈ es ∨ (rightR r = true ∧ (x = r.lo ∨ (r.op = false ∧ x = r.hi))) := by
  unfold putE
  cases h : rightR r with
  | false => simp
  | true =>
    cases ho : r.op with
    | true => simp [putB_mem]; exact ⟨fun h => h.symm, fun h => h.symm⟩
    | false =>
      simp [putB_mem]
      constructor
      · rintro (h | h | h)
        · exact .inr (.inr h)
        · exact .inr (.inl h)
        · exact .inl h
      · rintro (h | h | h)
        · exact .inr (.inr h)
        · exact .inr (.inl h)
        · exact .inl h
theorem putE_len (es : List (List UInt8)) (r : Rng) : (putE es r).length ≤ es.length + 2 := by
  have h1 := putB_len es r.lo
  have h2 := putB_len (putB es r.lo) r.hi
  unfold putE
  split
  · split <;> omega
  · omega
theorem foldE_len : ∀ (l : List Rng) (es : List (List UInt8)), (l.foldl putE es).length ≤ es.length + 2 * l.length
  | [], es => by simp
  | r :: l, es => by
    have h1 := foldE_len l (putE es r)
    have h2 := putE_len es r
    simp only [List.foldl_cons, List.length_cons]; omega
theorem foldE_up : ∀ (l : List Rng) (es : List (List UInt8)), es.Pairwise (fun x y => ltB x y = true) → (l.foldl putE es).Pairwise (fun x y => ltB x y = true)
  | [], es, h => h
  | r :: l, es, h => foldE_up l _ (putE_up h)
theorem foldE_mem : ∀ (l : List Rng) (es : List (List UInt8)) (x : List UInt8), x ∈ l.foldl putE es ↔ x ∈ es ∨ ∃ r ∈ l, rightR r = true ∧ (x = r.lo ∨ (r.op = false ∧ x = r.hi))
  | [], es, x => by simp
  | r :: l, es, x => by
    rw [List.foldl_cons, foldE_mem l, putE_mem]
    simp only [List.mem_cons, exists_eq_or_imp, or_assoc]
theorem edgesS_up (a b : List Rng) : (edgesS a b).Pairwise (fun x y => ltB x y = true) := foldE_up _ _ (by simp)
theorem edgesS_nil (a b : List Rng) : [] ∈ edgesS a b := (foldE_mem _ _ _).2 (.inl (by simp))
theorem edgesS_len17 (a b : List Rng) : ∀ e ∈ edgesS a b, e.length ≤ 17 := fun e he => by
  rcases (foldE_mem _ _ _).1 he with h | ⟨r, _, h1, h2⟩
  · simp at h; subst h; simp
  · obtain ⟨k1, k2, _, _⟩ := right_parts h1
    rcases h2 with rfl | ⟨_, rfl⟩
    · exact k1
    · exact k2
theorem edgesS_all (a b : List Rng) : ∀ r ∈ a ++ b, rightR r = true → r.lo ∈ edgesS a b ∧ (r.op = false → r.hi ∈ edgesS a b) := fun r hr h => ⟨(foldE_mem _ _ _).2 (.inr ⟨r, hr, h, .inl rfl⟩), fun ho => (foldE_mem _ _ _).2 (.inr ⟨r, hr, h, .inr ⟨ho, rfl⟩⟩)⟩
theorem edgesS_len (a b : List Rng) : (edgesS a b).length ≤ 1 + 2 * (a.length + b.length) := by
  have := foldE_len (a ++ b) [[]]
  rw [List.length_append] at this
  exact this
theorem mk_of {kp : Bool → Bool → Bool} {a b : List Rng} {es : List (List UInt8)} (up : es.Pairwise (fun x y => ltB x y = true)) (hnil : [] ∈ es) (hlen : ∀ e ∈ es, e.length ≤ 17)
    (ha : ∀ r ∈ a, rightR r = true → r.lo ∈ es ∧ (r.op = false → r.hi ∈ es)) (hb : ∀ r ∈ b, rightR r = true → r.lo ∈ es ∧ (r.op = false → r.hi ∈ es)) :
    (mkS (fun s => kp (hasRs a s) (hasRs b s)) es).1.reverse = setS (fun s => kp (hasRs a s) (hasRs b s)) ∧ IsS (fun s => kp (hasRs a s) (hasRs b s)) :=
  mkS_set up hnil hlen fun x e _ h1 h2 => by rw [hasRs_flat ha h1 h2, hasRs_flat hb h1 h2]
theorem isS_kp (kp : Bool → Bool → Bool) (a b : List Rng) : IsS (fun s => kp (hasRs a s) (hasRs b s)) :=
  (mk_of (edgesS_up a b) (edgesS_nil a b) (edgesS_len17 a b) (fun r hr => edgesS_all a b r (by simp [hr])) (fun r hr => edgesS_all a b r (by simp [hr]))).2
theorem isS_has (l : List Rng) : IsS (hasRs l) := isS_kp (fun x _ => x) l l
set_option maxRecDepth 20000
set_option maxHeartbeats 4000000
def okL (l : List Rng) : Prop := ∀ r ∈ l, r.ok
theorem rng_get {l : List Rng} {k : Nat} (h : k < l.length) : (l.map Rng.enc)[k]? = some (.agg [.str l[k].lo, .str l[k].hi, .bool l[k].op]) := by
  rw [List.getElem?_map, List.getElem?_eq_getElem h]; rfl
theorem okL_get {l : List Rng} {k : Nat} (h : okL l) (hk : k < l.length) : l[k].lo.length ≤ 9223372036854775807 ∧ l[k].hi.length ≤ 9223372036854775807 := h _ (List.getElem_mem hk)
@[simp] theorem map_rng_inj {l m : List Rng} : (l.map Rng.enc = m.map Rng.enc) = (l = m) := map_inj Rng.enc_inj
theorem ok_ref08_Has : codeOK Try.prog T07 Try.f22.ntmps (Try.f22.body.getD .skip) = true := by kernel_rfl
theorem c_ref08_Has (l : List Rng) (s : List UInt8) (hl : l.length ≤ 4611686018427387904) (hok : okL l) (hs : s.length ≤ 9223372036854775807) : CallA Try.prog 22 [.slc (l.map Rng.enc), .str s] (· = .bool (hasRs l s)) := by
  refine callA_of_body T07_ok mixed Try.func22 rfl (Nat.le_of_ble_eq_true rfl) ok_ref08_Has ?_
  unfold Try.f22
  simp -implicitDefEqProofs (disch := (first | omega | decide)) only [go_sem, ↓reduceIte, seval, List.length_map]
  refine wpA_loop [0, 1] (ι := {k : Nat // k ≤ l.length ∧ hasRs l s = hasRs (l.drop k) s}) (fun p => [(5, .int .i64 p.1), (4, .bool false)]) (fun _ => []) (fun p => l.length - p.1) ⟨0, by omega, rfl⟩ (Nat.zero_le _) ?_ ?_
  · simp -implicitDefEqProofs (disch := (first | omega | decide)) only [go_sem, ↓reduceIte, seval]
  · rintro ⟨k, hk, hd⟩
    simp only
    by_cases hlt : k < l.length
    · have hlt' : (k : Int) < (l.length : Int) := by omega
      have e1 := rng_get hlt
      have ok1 := okL_get hok hlt
      rw [List.drop_eq_getElem_cons hlt, hasRs_cons] at hd
      generalize hx : l[k] = x at *
      obtain ⟨lo, hi, op⟩ := x
      simp only at ok1
      cases h1 : hasR ⟨lo, hi, op⟩ s with
      | true =>
        have hh : hasRs l s = true := by rw [hd, h1]; rfl
        simp -implicitDefEqProofs (disch := (first | omega | decide)) only [go_sem, ↓reduceIte, seval, hlt', e1, ok1, h1, hh, wrap_i64, List.length_map]
      | false =>
        simp -implicitDefEqProofs (disch := (first | omega | decide)) only [go_sem, ↓reduceIte, seval, hlt', e1, ok1, h1, wrap_i64, List.length_map]
        exact ⟨⟨k + 1, hlt, by rw [hd, h1]; rfl⟩, by simp, by show l.length - (k + 1) < l.length - k; omega⟩
    · have hlt' : ¬ (k : Int) < (l.length : Int) := by omega
      have hh : hasRs l s = false := by rw [hd, List.drop_of_length_le (by omega)]; rfl
      simp -implicitDefEqProofs (disch := (first | omega | decide)) only [go_sem, ↓reduceIte, seval, hlt', hh, List.length_map]
def sameRs (a b : List Rng) : Bool := decide (a = b)
theorem ok_ref08_Same : codeOK Try.prog T07 Try.f14.ntmps (Try.f14.body.getD .skip) = true := by kernel_rfl
theorem c_ref08_Same (a b : List Rng) (hl : a.length ≤ 4611686018427387904) (hb : b.length ≤ 4611686018427387904) : CallA Try.prog 14 [.slc (a.map Rng.enc), .slc (b.map Rng.enc)] (· = .bool (sameRs a b)) := by
  refine callA_of_body T07_ok mixed Try.func14 rfl (Nat.le_of_ble_eq_true rfl) ok_ref08_Same ?_
  unfold Try.f14
  cases h0 : ((a.length : Int) == (b.length : Int)) with
  | false =>
    have hne : a.length ≠ b.length := by
      have : (a.length : Int) ≠ (b.length : Int) := by simpa using h0
      omega
    have hh : sameRs a b = false := by unfold sameRs; simp; intro e; exact hne (by rw [e])
    simp -implicitDefEqProofs (disch := (first | omega | decide)) only [go_sem, ↓reduceIte, seval, h0, hh, List.length_map]
  | true =>
    have he : a.length = b.length := by
      have : (a.length : Int) = (b.length : Int) := by simpa using h0
      omega
    simp -implicitDefEqProofs (disch := (first | omega | decide)) only [go_sem, ↓reduceIte, seval, h0, List.length_map]
    refine wpA_loop [0, 1] (ι := {k : Nat // k ≤ a.length ∧ a.take k = b.take k}) (fun p => [(5, .int .i64 p.1)]) (fun _ => []) (fun p => a.length - p.1) ⟨0, by omega, rfl⟩ (Nat.zero_le _) ?_ ?_
    · simp -implicitDefEqProofs (disch := (first | omega | decide)) only [go_sem, ↓reduceIte, seval]
    · rintro ⟨k, hk, hd⟩
      simp only
      by_cases hlt : k < a.length
      · have hlt' : (k : Int) < (a.length : Int) := by omega
        have hlt2 : (k : Int) < (b.length : Int) := by omega
        have hltb : k < b.length := by omega
        have e1 := rng_get hlt
        have e2 := rng_get hltb
        have t1 := (List.take_append_getElem hlt).symm
        have t2 := (List.take_append_getElem hltb).symm
        have hno : a[k] ≠ b[k] → sameRs a b = false := fun h => by
          unfold sameRs; simp; intro e; subst e; exact h rfl
        generalize hx : a[k] = x at *
        generalize hy : b[k] = y at *
        obtain ⟨f, t, o⟩ := x
        obtain ⟨f', t', o'⟩ := y
        cases h1 : f == f' with
        | false =>
          have hh := hno (by have : f ≠ f' := by simpa using h1
                             simp [this])
          simp -implicitDefEqProofs (disch := (first | omega | decide)) only [go_sem, ↓reduceIte, seval, hlt', hlt2, e1, e2, h1, hh, List.length_map]
        | true =>
          cases h2 : t == t' with
          | false =>
            have hh := hno (by have : t ≠ t' := by simpa using h2
                               simp [this])
            simp -implicitDefEqProofs (disch := (first | omega | decide)) only [go_sem, ↓reduceIte, seval, hlt', hlt2, e1, e2, h1, h2, hh, List.length_map]
          | true =>
            cases h3 : o == o' with
            | false =>
              have hh := hno (by have : o ≠ o' := by simpa using h3
                                 simp [this])
              simp -implicitDefEqProofs (disch := (first | omega | decide)) only [go_sem, ↓reduceIte, seval, hlt', hlt2, e1, e2, h1, h2, h3, hh, List.length_map]
            | true =>
              obtain rfl : f = f' := by simpa using h1
              obtain rfl : t = t' := by simpa using h2
              obtain rfl : o = o' := by simpa using h3
              simp -implicitDefEqProofs (disch := (first | omega | decide)) only [go_sem, ↓reduceIte, seval, hlt', hlt2, e1, e2, h1, h2, h3, wrap_i64, List.length_map]
              exact ⟨⟨k + 1, hlt, by rw [t1, t2, hd]⟩, by simp, by show a.length - (k + 1) < a.length - k; omega⟩
      · have hlt' : ¬ (k : Int) < (a.length : Int) := by omega
        have hh : sameRs a b = true := by
          rw [List.take_of_length_le (by omega), List.take_of_length_le (by omega)] at hd
          simp [sameRs, hd]
        simp -implicitDefEqProofs (disch := (first | omega | decide)) only [go_sem, ↓reduceIte, seval, hlt', hh, List.length_map]
end Go.Proofs.Ytjnpfbohnpjckaa
namespace Go.Abs
theorem callH_pure {P : Program} {f : FuncId} {xs ys : List A} {r : A} (h : CallA P f ys (· = r)) (hx : ∀ (E : Env) (vs : List Value), RepL E xs vs → RepL E ys vs) (hp : r.pure = true) : CallH P f xs [] r [] [] := by
  intro N φ w vs hN hrel hfree hrep
  have e1 : φ = [] := List.length_eq_zero_iff.1 hrel.len
  subst e1
  have hN' : ∀ b, (envOf N [] w).N b → b < w.heap.size := fun b hb => by
    rcases hb with hb | ⟨n, k, hn⟩
    · exact hN b hb
    · simp at hn
  refine Calls.mono (h (envOf N [] w).N w vs hN' (hx _ _ hrep)) ?_
  rintro e w' ⟨v, r', rfl, rfl, hr, hg⟩
  refine ⟨v, [], rfl, ?_, ?_, ?_, Nat.le_refl _⟩
  · exact hr
  · exact { len := rfl, objs := fun n o p ho => by cases n <;> simp [nthO] at ho, own := fun n b k hn => by simp at hn, inj := fun n m b k k' hn => by simp at hn }
  · exact {
      os := hg.os
      tape := hg.tape
      output := hg.output
      drawn := hg.drawn
      size := hg.size
      block := fun b hb _ => hg.block b hb
      shape := fun b c e fr hb => ⟨c, fr, by rw [hg.block b (Array.getElem?_eq_some_iff.1 hb).1]; exact hb, rfl⟩
      own := fun n b k hn => by simp at hn
      stay := fun n p _ hn => hn }
theorem rep_clip_slc {E : Env} {es : List A} {v : Value} (h : Rep E (.clip es) v) : Rep E (.slc es) v := by
  simp only [Rep] at h ⊢
  obtain ⟨hp, a, hv, hl⟩ := h
  exact ⟨hp, a, _, hv, Nat.le_refl _, hl⟩
theorem setNth_last {x v : A} : ∀ {l : List A}, setNth (l ++ [x]) l.length v = l ++ [v]
  | [] => rfl
  | y :: l => by simp only [List.cons_append, List.length_cons, setNth, setNth_last]
theorem get_last {x : A} : ∀ {l : List A}, (l ++ [x])[l.length]? = some x
  | [] => rfl
  | y :: l => by simp [get_last]
end Go.Abs
namespace Go.Proofs.Ytjnpfbohnpjckaa
open Go.Abs
set_option linter.unusedSimpArgs false
set_option linter.unusedVariables false
set_option maxRecDepth 20000
set_option maxHeartbeats 4000000
theorem strB (l : List (List UInt8)) : ((l.map A.str).isEmpty || strideOf (l.map A.str) == 1) = true := by
  cases l <;> rfl
theorem putB_close {l : List (List UInt8)} {n : List UInt8} {k : Nat} (hk : k ≤ l.length) (hd : putB l n = l.take k ++ n :: l.drop k) : k + 1 ≤ ((l.take k).map A.str ++ [A.str n]).length ∧ k + 1 + (l.length - k) ≤ (((l.take k).map A.str ++ [A.str n]).take (k + 1) ++ (l.drop k).map A.str).length ∧
    (((l.take k).map A.str ++ [A.str n]).take (k + 1) ++ (l.drop k).map A.str).take (k + 1 + (l.length - k)) = (putB l n).map A.str := by
  have e : ((l.take k).map A.str ++ [A.str n]).length = k + 1 := by simp; omega
  rw [List.take_of_length_le (Nat.le_of_eq e)]
  have e2 : ((l.take k).map A.str ++ [A.str n] ++ (l.drop k).map A.str).length = k + 1 + (l.length - k) := by
    rw [List.length_append, e, List.length_map, List.length_drop]
  rw [List.take_of_length_le (Nat.le_of_eq e2)]
  exact ⟨by omega, by omega, by rw [hd]; simp⟩
theorem ok_ref08_put : codeOK Try.prog T07 Try.f76.ntmps (Try.f76.body.getD .skip) = true := by kernel_rfl
theorem c_ref08_put (l : List (List UInt8)) (n : List UInt8) (hl : l.length ≤ 1000000) (hok : ∀ x ∈ l, x.length ≤ 9223372036854775807) (hn : n.length ≤ 9223372036854775807) : CallA Try.prog 76 [.slc (l.map .str), .str n] (· = .slc ((putB l n).map .str)) := by
  refine callA_of_body T07_ok mixed Try.func76 rfl (Nat.le_of_ble_eq_true rfl) ok_ref08_put ?_
  unfold Try.f76
  simp -implicitDefEqProofs (disch := (first | omega | decide)) only [go_sem, ↓reduceIte, seval, List.length_map]
  refine wpA_loop [0, 1, 4] (ι := {k : Nat // k ≤ l.length ∧ putB l n = l.take k ++ putB (l.drop k) n}) (fun p => [(5, .int .i64 p.1)]) (fun _ => []) (fun p => l.length - p.1) ⟨0, by omega, rfl⟩ (Nat.zero_le _) ?_ ?_
  · simp -implicitDefEqProofs (disch := (first | omega | decide)) only [go_sem, ↓reduceIte, seval]
  · rintro ⟨k, hk, hd⟩
    simp only
    by_cases hlt : k < l.length
    · have hlt' : (k : Int) < (l.length : Int) := by omega
      have e1 : (l.map A.str)[k]? = some (.str l[k]) := by
        rw [List.getElem?_map, List.getElem?_eq_getElem hlt]; rfl
      have ok1 := hok _ (List.getElem_mem hlt)
      have tk : (l.take k).length = k := by rw [List.length_take]; omega
      have t1 := (List.take_append_getElem hlt).symm
      rw [List.drop_eq_getElem_cons hlt] at hd
      generalize hx : l[k] = x at *
      simp only [putB] at hd
      cases h1 : ltB x n with
      | true =>
        rw [if_pos h1] at hd
        simp -implicitDefEqProofs (disch := (first | omega | decide)) only [go_sem, ↓reduceIte, seval, hlt', e1, ok1, h1, wrap_i64, List.length_map]
        exact ⟨⟨k + 1, hlt, by rw [hd, t1, List.append_assoc]; rfl⟩, by simp, by show l.length - (k + 1) < l.length - k; omega⟩
      | false =>
        rw [if_neg (by rw [h1]; simp)] at hd
        cases h2 : x == n with
        | true =>
          simp -implicitDefEqProofs (disch := (first | omega | decide)) only [go_sem, ↓reduceIte, seval, hlt', e1, ok1, h1, h2, wrap_i64, List.length_map]
          have hxn : x = n := by simpa using h2
          rw [if_pos hxn, ← hx, ← List.drop_eq_getElem_cons hlt, List.take_append_drop] at hd
          rw [hd]
        | false =>
          have hxn : x ≠ n := by simpa using h2
          have l1 : (l.take k).length = k := tk
          have l2 : (l.drop k).length = l.length - k := List.length_drop ..
          simp -implicitDefEqProofs (disch := (first | omega | decide)) only [go_sem, ↓reduceIte, seval, hlt', e1, ok1, h1, h2, wrap_i64, ← List.map_take, ← List.map_drop, strB, List.length_map, List.take_length, l1, l2]
          obtain ⟨c1, c2, c3⟩ := putB_close hk (by rw [hd, if_neg hxn, ← hx, ← List.drop_eq_getElem_cons hlt])
          exact ⟨by omega, by omega, ⟨by omega, by omega⟩, ⟨by omega, by omega⟩, ⟨c1, by omega⟩, c2, c3⟩
    · have hlt' : ¬ (k : Int) < (l.length : Int) := by omega
      have l1 : (l.take k).length = k := by rw [List.length_take]; omega
      have l2 : (l.drop k).length = l.length - k := List.length_drop ..
      have l3 : l.drop k = [] := List.drop_of_length_le (by omega)
      obtain ⟨c1, c2, c3⟩ := putB_close hk (by rw [hd, l3]; rfl)
      simp -implicitDefEqProofs (disch := (first | omega | decide)) only [go_sem, ↓reduceIte, seval, hlt', wrap_i64, ← List.map_take, ← List.map_drop, strB, List.length_map, List.take_length, l1, l2]
      exact ⟨by omega, by omega, ⟨by omega, by omega⟩, ⟨by omega, by omega⟩, ⟨c1, by omega⟩, c2, c3⟩
noncomputable def T08a : Tab := T07.add 76 (entry (fun (v : List (List UInt8) × List UInt8) => [.slc (v.1.map .str), .str v.2]) (fun v => v.1.length ≤ 1000000 ∧ (∀ x ∈ v.1, x.length ≤ 9223372036854775807) ∧ v.2.length ≤ 9223372036854775807) (fun v => .slc ((putB v.1 v.2).map .str)))
theorem T08a_ok : TabOK Try.prog T08a := T07_ok.ent Try.func76 (by kernel_rfl) (by kernel_rfl) fun v h => c_ref08_put v.1 v.2 h.1 h.2.1 h.2.2
@[go_sem] theorem T08a_old {g : FuncId} {xs : List A} (h : g ≠ 76) : T08a.f g xs = T07.f g xs := Tab.add_ne h
@[go_sem] theorem T08a_s : T08a.pl T07 := ⟨fun _ => rfl, fun _ => rfl, rfl, fun _ => rfl, rfl, fun _ => rfl, rfl⟩
theorem T08a_ref08_put (v : List (List UInt8) × List UInt8) (h : v.1.length ≤ 1000000 ∧ (∀ x ∈ v.1, x.length ≤ 9223372036854775807) ∧ v.2.length ≤ 9223372036854775807) : T08a.f 76 [.slc (v.1.map .str), .str v.2] = some (.slc ((putB v.1 v.2).map .str)) := Tab.ent_eq (Γ := T07) (fun i j h => by simpa [Prod.ext_iff, and_assoc] using h) v h
theorem t_ref08_put {l : List (List UInt8)} {n : List UInt8} (h : l.length ≤ 1000000) (h1 : ∀ x ∈ l, x.length ≤ 9223372036854775807) (h2 : n.length ≤ 9223372036854775807) : T08a.f 76 [.slc (l.map .str), .str n] = some (.slc ((putB l n).map .str)) := T08a_ref08_put (l, n) ⟨h, h1, h2⟩
theorem foldE_ok : ∀ (l : List Rng) (es : List (List UInt8)), (∀ x ∈ es, x.length ≤ 9223372036854775807) → ∀ x ∈ l.foldl putE es, x.length ≤ 9223372036854775807 := fun l es h x hx => by
  rcases (foldE_mem l es x).1 hx with hx | ⟨r, _, h1, h2⟩
  · exact h x hx
  · obtain ⟨k1, k2, _, _⟩ := right_parts h1
    rcases h2 with rfl | ⟨_, rfl⟩ <;> omega
theorem foldE_step (l : List Rng) (es : List (List UInt8)) (k : Nat) (h : k < l.length) : (l.take (k + 1)).foldl putE es = putE ((l.take k).foldl putE es) l[k] := by
  rw [← List.take_append_getElem h, List.foldl_append]; rfl
theorem ok_ref08_Edges : codeOK Try.prog T08a Try.f61.ntmps (Try.f61.body.getD .skip) = true := by kernel_rfl
theorem c_ref08_Edges (a b : List Rng) (ha : a.length ≤ 1000) (hb : b.length ≤ 1000) (oka : okL a) (okb : okL b) : CallA Try.prog 61 [.slc (a.map Rng.enc), .slc (b.map Rng.enc)] (· = .slc ((edgesS a b).map .str)) := by
  refine callA_of_body T08a_ok mixed Try.func61 rfl (Nat.le_of_ble_eq_true rfl) ok_ref08_Edges ?_
  unfold Try.f61
  simp -implicitDefEqProofs (disch := (first | omega | decide)) only [go_sem, ↓reduceIte, seval, List.length_map]
  refine wpA_loop_clip 5 [A.str []] rfl ?_
  refine wpA_loop [0, 1, 4] (ι := {k : Nat // k ≤ (a ++ b).length}) (fun p => [(6, .int .i64 p.1), (5, .slc ((((a ++ b).take p.1).foldl putE [[]]).map .str))]) (fun _ => []) (fun p => (a ++ b).length - p.1) ⟨0, by omega⟩ (Nat.zero_le _) ?_ ?_
  · simp -implicitDefEqProofs (disch := (first | omega | decide)) only [go_sem, ↓reduceIte, seval]
    first | done | rfl | exact ⟨rfl, rfl⟩ | simp [A.under]
  · rintro ⟨k, hk⟩
    simp only
    have hsum : (a ++ b).length = a.length + b.length := List.length_append
    have hw : IntKind.i64.wrap ((a.length : Int) + (b.length : Int)) = (((a ++ b).length : Nat) : Int) := by rw [wrap_i64 (by omega)]; omega
    have hlen := foldE_len ((a ++ b).take k) [[]]
    have hok := foldE_ok ((a ++ b).take k) [[]] (by simp)
    rw [List.length_take, Nat.min_eq_left hk, List.length_singleton] at hlen
    by_cases hlt : k < (a ++ b).length
    · have hlt' : (k : Int) < (((a ++ b).length : Nat) : Int) := by omega
      have hst := foldE_step (a ++ b) [[]] k hlt
      have hokx : (a ++ b)[k].ok := by
        have := List.getElem_mem hlt
        rcases List.mem_append.1 this with h | h
        · exact oka _ h
        · exact okb _ h
      have next : ∀ es', ((a ++ b).take (k + 1)).foldl putE [[]] = es' → ∃ j : {k : Nat // k ≤ (a ++ b).length}, ((k : Int) + 1 = (j.1 : Int) ∧ es'.map A.str = (((a ++ b).take j.1).foldl putE [[]]).map A.str) ∧ (a ++ b).length - j.1 < (a ++ b).length - k := fun es' h => ⟨⟨k + 1, hlt⟩, ⟨by simp, by rw [h]⟩, by show (a ++ b).length - (k + 1) < _; omega⟩
      generalize hes : ((a ++ b).take k).foldl putE [[]] = es at *
      by_cases hka : k < a.length
      · have hka' : (k : Int) < (a.length : Int) := by omega
        have e1 := rng_get hka
        have ex : (a ++ b)[k] = a[k] := List.getElem_append_left hka
        rw [ex] at hst hokx
        generalize hx : a[k] = x at *
        obtain ⟨lo, hi, op⟩ := x
        have ok1 : lo.length ≤ 9223372036854775807 ∧ hi.length ≤ 9223372036854775807 := hokx
        have p1 := t_ref08_put (l := es) (n := lo) (by omega) hok ok1.1
        have p2 := t_ref08_put (l := putB es lo) (n := hi) (by have := putB_len es lo; omega) (fun x hx => by
          rcases (putB_mem es lo x).1 hx with rfl | hx
          · exact ok1.1
          · exact hok x hx) ok1.2
        cases h1 : rightR ⟨lo, hi, op⟩ with
        | false =>
          have hs := next es (by rw [hst]; unfold putE; rw [h1]; rfl)
          simp -implicitDefEqProofs (disch := (first | omega | decide)) only [go_sem, ↓reduceIte, seval, hw, hlt', hka', e1, ok1, h1, wrap_i64, List.length_map]
          exact hs
        | true =>
          cases op with
          | true =>
            have hs := next (putB es lo) (by rw [hst]; unfold putE; rw [h1]; rfl)
            simp -implicitDefEqProofs (disch := (first | omega | decide)) only [go_sem, ↓reduceIte, seval, hw, hlt', hka', e1, ok1, h1, p1, wrap_i64, List.length_map]
            exact hs
          | false =>
            have hs := next (putB (putB es lo) hi) (by rw [hst]; unfold putE; rw [h1]; rfl)
            simp -implicitDefEqProofs (disch := (first | omega | decide)) only [go_sem, ↓reduceIte, seval, hw, hlt', hka', e1, ok1, h1, p1, p2, wrap_i64, List.length_map]
            exact hs
      · have hka' : ¬ (k : Int) < (a.length : Int) := by omega
        have hkb : k - a.length < b.length := by omega
        have e1 := rng_get hkb
        have ex : (a ++ b)[k] = b[k - a.length] := List.getElem_append_right (by omega)
        have t0 : ((k : Int) - (a.length : Int)).toNat = k - a.length := by omega
        have t1 : (0 : Int) ≤ (k : Int) - (a.length : Int) := by omega
        rw [ex] at hst hokx
        generalize hx : b[k - a.length] = x at *
        obtain ⟨lo, hi, op⟩ := x
        have ok1 : lo.length ≤ 9223372036854775807 ∧ hi.length ≤ 9223372036854775807 := hokx
        have p1 := t_ref08_put (l := es) (n := lo) (by omega) hok ok1.1
        have p2 := t_ref08_put (l := putB es lo) (n := hi) (by have := putB_len es lo; omega) (fun x hx => by
          rcases (putB_mem es lo x).1 hx with rfl | hx
          · exact ok1.1
          · exact hok x hx) ok1.2
        cases h1 : rightR ⟨lo, hi, op⟩ with
        | false =>
          have hs := next es (by rw [hst]; unfold putE; rw [h1]; rfl)
          simp -implicitDefEqProofs (disch := (first | omega | decide)) only [go_sem, ↓reduceIte, seval, hw, hlt', hka', e1, t0, t1, ok1, h1, wrap_i64, List.length_map]
          exact hs
        | true =>
          cases op with
          | true =>
            have hs := next (putB es lo) (by rw [hst]; unfold putE; rw [h1]; rfl)
            simp -implicitDefEqProofs (disch := (first | omega | decide)) only [go_sem, ↓reduceIte, seval, hw, hlt', hka', e1, t0, t1, ok1, h1, p1, wrap_i64, List.length_map]
            exact hs
          | false =>
            have hs := next (putB (putB es lo) hi) (by rw [hst]; unfold putE; rw [h1]; rfl)
            simp -implicitDefEqProofs (disch := (first | omega | decide)) only [go_sem, ↓reduceIte, seval, hw, hlt', hka', e1, t0, t1, ok1, h1, p1, p2, wrap_i64, List.length_map]
            exact hs
    · have hlt' : ¬ (k : Int) < (((a ++ b).length : Nat) : Int) := by omega
      have hfin : ((a ++ b).take k).foldl putE [[]] = edgesS a b := by rw [List.take_of_length_le (by omega)]; rfl
      simp -implicitDefEqProofs (disch := (first | omega | decide)) only [go_sem, ↓reduceIte, seval, hw, hlt', hfin, List.length_map]
end Go.Proofs.Ytjnpfbohnpjckaa
namespace Go.Proofs.Ytjnpfbohnpjckaa
open Go.Abs
set_option linter.unusedSimpArgs false
set_option linter.unusedVariables false
set_option maxRecDepth 20000
set_option maxHeartbeats 4000000
def opS (op : Int) (x y : Bool) : Bool := if op = 1 then x || y else if op = 2 then x && y else if op = 3 then x && !y else !x && !y
noncomputable def T08b : Tab := T08a.add 22 (entry (fun (v : List Rng × List UInt8) => [.slc (v.1.map Rng.enc), .str v.2]) (fun v => v.1.length ≤ 4611686018427387904 ∧ okL v.1 ∧ v.2.length ≤ 9223372036854775807) (fun v => .bool (hasRs v.1 v.2)))
theorem T08b_ok : TabOK Try.prog T08b := T08a_ok.ent Try.func22 (by kernel_rfl) (by kernel_rfl) fun v h => c_ref08_Has v.1 v.2 h.1 h.2.1 h.2.2
@[go_sem] theorem T08b_old {g : FuncId} {xs : List A} (h : g ≠ 22) : T08b.f g xs = T08a.f g xs := Tab.add_ne h
@[go_sem] theorem T08b_s : T08b.pl T08a := ⟨fun _ => rfl, fun _ => rfl, rfl, fun _ => rfl, rfl, fun _ => rfl, rfl⟩
theorem T08b_ref08_Has (v : List Rng × List UInt8) (h : v.1.length ≤ 4611686018427387904 ∧ okL v.1 ∧ v.2.length ≤ 9223372036854775807) : T08b.f 22 [.slc (v.1.map Rng.enc), .str v.2] = some (.bool (hasRs v.1 v.2)) := Tab.ent_eq (Γ := T08a) (fun i j h => by simpa [Prod.ext_iff, and_assoc] using h) v h
theorem t_ref08_Has {l : List Rng} {s : List UInt8} (h : l.length ≤ 4611686018427387904) (h1 : okL l) (h2 : s.length ≤ 9223372036854775807) : T08b.f 22 [.slc (l.map Rng.enc), .str s] = some (.bool (hasRs l s)) := T08b_ref08_Has (l, s) ⟨h, h1, h2⟩
theorem ok_ref08_In : codeOK Try.prog T08b Try.f62.ntmps (Try.f62.body.getD .skip) = true := by kernel_rfl
theorem c_ref08_In (op : Int) (a b : List Rng) (s : List UInt8) (ha : a.length ≤ 1000) (hb : b.length ≤ 1000) (oka : okL a) (okb : okL b) (hs : s.length ≤ 9223372036854775807) : CallA Try.prog 62 [.int .i64 op, .slc (a.map Rng.enc), .slc (b.map Rng.enc), .str s] (· = .bool (opS op (hasRs a s) (hasRs b s))) := by
  refine callA_of_body T08b_ok mixed Try.func62 rfl (Nat.le_of_ble_eq_true rfl) ok_ref08_In ?_
  unfold Try.f62
  have h1 := t_ref08_Has (l := a) (s := s) (by omega) oka hs
  have h2 := t_ref08_Has (l := b) (s := s) (by omega) okb hs
  unfold opS
  generalize hasRs a s = x at *
  generalize hasRs b s = y at *
  by_cases o1 : op = 1
  · subst o1
    cases x <;> simp -implicitDefEqProofs (disch := (first | omega | decide)) only [go_sem, ↓reduceIte, seval, h1, h2]
  · have n1 : (op == 1) = false := by simpa using o1
    by_cases o2 : op = 2
    · subst o2
      cases x <;> simp -implicitDefEqProofs (disch := (first | omega | decide)) only [go_sem, ↓reduceIte, seval, h1, h2]
    · have n2 : (op == 2) = false := by simpa using o2
      by_cases o3 : op = 3
      · subst o3
        cases x <;> simp -implicitDefEqProofs (disch := (first | omega | decide)) only [go_sem, ↓reduceIte, seval, h1, h2]
      · have n3 : (op == 3) = false := by simpa using o3
        cases x <;> simp -implicitDefEqProofs (disch := (first | omega | decide)) only [go_sem, ↓reduceIte, seval, h1, h2, n1, n2, n3, o1, o2, o3]
noncomputable def T08c : Tab := T08b.add 62 (entry (fun (v : Int × List Rng × List Rng × List UInt8) => [.int .i64 v.1, .slc (v.2.1.map Rng.enc), .slc (v.2.2.1.map Rng.enc), .str v.2.2.2]) (fun v => v.2.1.length ≤ 1000 ∧ v.2.2.1.length ≤ 1000 ∧ okL v.2.1 ∧ okL v.2.2.1 ∧ v.2.2.2.length ≤ 9223372036854775807) (fun v => .bool (opS v.1 (hasRs v.2.1 v.2.2.2) (hasRs v.2.2.1 v.2.2.2))))
theorem T08c_ok : TabOK Try.prog T08c := T08b_ok.ent Try.func62 (by kernel_rfl) (by kernel_rfl) fun v h => c_ref08_In v.1 v.2.1 v.2.2.1 v.2.2.2 h.1 h.2.1 h.2.2.1 h.2.2.2.1 h.2.2.2.2
@[go_sem] theorem T08c_old {g : FuncId} {xs : List A} (h : g ≠ 62) : T08c.f g xs = T08b.f g xs := Tab.add_ne h
theorem T08c_ref08_In (v : Int × List Rng × List Rng × List UInt8) (h : v.2.1.length ≤ 1000 ∧ v.2.2.1.length ≤ 1000 ∧ okL v.2.1 ∧ okL v.2.2.1 ∧ v.2.2.2.length ≤ 9223372036854775807) : T08c.f 62 [.int .i64 v.1, .slc (v.2.1.map Rng.enc), .slc (v.2.2.1.map Rng.enc), .str v.2.2.2] = some (.bool (opS v.1 (hasRs v.2.1 v.2.2.2) (hasRs v.2.2.1 v.2.2.2))) := Tab.ent_eq (Γ := T08b) (fun i j h => by simpa [Prod.ext_iff, and_assoc] using h) v h
theorem t_ref08_In {op : Int} {a b : List Rng} {s : List UInt8} (ha : a.length ≤ 1000) (hb : b.length ≤ 1000) (oka : okL a) (okb : okL b) (hs : s.length ≤ 9223372036854775807) : T08c.f 62 [.int .i64 op, .slc (a.map Rng.enc), .slc (b.map Rng.enc), .str s] = some (.bool (opS op (hasRs a s) (hasRs b s))) := T08c_ref08_In (op, a, b, s) ⟨ha, hb, oka, okb, hs⟩
noncomputable def T08d : Tab := T08c.add 61 (entry (fun (v : List Rng × List Rng) => [.slc (v.1.map Rng.enc), .slc (v.2.map Rng.enc)]) (fun v => v.1.length ≤ 1000 ∧ v.2.length ≤ 1000 ∧ okL v.1 ∧ okL v.2) (fun v => .slc ((edgesS v.1 v.2).map .str)))
theorem T08d_ok : TabOK Try.prog T08d := T08c_ok.ent Try.func61 (by kernel_rfl) (by kernel_rfl) fun v h => c_ref08_Edges v.1 v.2 h.1 h.2.1 h.2.2.1 h.2.2.2
@[go_sem] theorem T08d_old {g : FuncId} {xs : List A} (h : g ≠ 61) : T08d.f g xs = T08c.f g xs := Tab.add_ne h
@[go_sem] theorem T08d_s : T08d.pl T08c := ⟨fun _ => rfl, fun _ => rfl, rfl, fun _ => rfl, rfl, fun _ => rfl, rfl⟩
theorem T08d_ref08_Edges (v : List Rng × List Rng) (h : v.1.length ≤ 1000 ∧ v.2.length ≤ 1000 ∧ okL v.1 ∧ okL v.2) : T08d.f 61 [.slc (v.1.map Rng.enc), .slc (v.2.map Rng.enc)] = some (.slc ((edgesS v.1 v.2).map .str)) := Tab.ent_eq (Γ := T08c) (fun i j h => by simpa [Prod.ext_iff, and_assoc] using h) v h
theorem t_ref08_Edges {a b : List Rng} (ha : a.length ≤ 1000) (hb : b.length ≤ 1000) (oka : okL a) (okb : okL b) : T08d.f 61 [.slc (a.map Rng.enc), .slc (b.map Rng.enc)] = some (.slc ((edgesS a b).map .str)) := T08d_ref08_Edges (a, b) ⟨ha, hb, oka, okb⟩
def rowS (acc : List Rng) : List A := acc.reverse.map Rng.enc
theorem rowS_cons (q : Rng) (qs : List Rng) : rowS (q :: qs) = rowS qs ++ [.agg [.str q.lo, .str q.hi, .bool q.op]] := by
  simp [rowS, Rng.enc]
theorem rowS_len (l : List Rng) : (rowS l).length = l.length := by simp [rowS]
theorem rowS_nil : rowS [] = [] := rfl
theorem str_get {l : List (List UInt8)} {k : Nat} (h : k < l.length) : (l.map A.str)[k]? = some (.str l[k]) := by
  rw [List.getElem?_map, List.getElem?_eq_getElem h]; rfl
section
variable (q : Rng) (qs : List Rng)
theorem rowS_get' (x : A) : (rowS qs ++ [x])[qs.length]? = some x := by
  have := get_last (x := x) (l := rowS qs)
  rwa [rowS_len] at this
theorem rowS_set (x v : A) : setNth (rowS qs ++ [x]) qs.length v = rowS qs ++ [v] := by
  have := setNth_last (x := x) (v := v) (l := rowS qs)
  rwa [rowS_len] at this
theorem rowS_full (x : A) : (rowS qs ++ [x]).length = qs.length + 1 := by rw [List.length_append, rowS_len]; rfl
theorem rowS_take (x : A) : (rowS qs ++ [x]).take (qs.length + 1) = rowS qs ++ [x] := List.take_of_length_le (Nat.le_of_eq (rowS_full qs x))
end
theorem ok_ref08_Make : codeOK Try.prog T08d Try.f45.ntmps (Try.f45.body.getD .skip) = true := by kernel_rfl
theorem c_ref08_Make (op : Int) (a b : List Rng) (ha : a.length ≤ 1000) (hb : b.length ≤ 1000) (oka : okL a) (okb : okL b) : CallA Try.prog 45 [.int .i64 op, .slc (a.map Rng.enc), .slc (b.map Rng.enc)] (· = .slc ((setS fun s => opS op (hasRs a s) (hasRs b s)).map Rng.enc)) := by
  refine callA_of_body T08d_ok mixed Try.func45 rfl (Nat.le_of_ble_eq_true rfl) ok_ref08_Make ?_
  unfold Try.f45
  have he := t_ref08_Edges ha hb oka okb
  have hel := edgesS_len a b
  have h17 := edgesS_len17 a b
  have hset := (mk_of (kp := opS op) (a := a) (b := b) (edgesS_up a b) (edgesS_nil a b) h17 (fun r hr => edgesS_all a b r (by simp [hr])) (fun r hr => edgesS_all a b r (by simp [hr]))).1
  simp -implicitDefEqProofs (disch := (first | omega | decide)) only [go_sem, ↓reduceIte, seval, he, List.length_map]
  rw [← hset]
  generalize edgesS a b = e at *
  have hP : ∀ s : List UInt8, s.length ≤ 17 → T08c.f 62 [.int .i64 op, .slc (a.map Rng.enc), .slc (b.map Rng.enc), .str s] = some (.bool ((fun s => opS op (hasRs a s) (hasRs b s)) s)) := fun s hs => t_ref08_In ha hb oka okb (by omega)
  generalize (fun s => opS op (hasRs a s) (hasRs b s)) = P at *
  clear hset
  refine wpA_loop_nil 8 3 rfl ?_
  refine wpA_loop [0, 1, 2, 6, 7] (ι := {k : Nat // k ≤ e.length}) (fun p => [(10, .int .i64 p.1), (9, .bool (mkS P (e.take p.1)).2), (8, .row 0 0 3 (mkS P (e.take p.1)).1.length false)]) (fun p => [(0, .row 3 (rowS (mkS P (e.take p.1)).1))]) (fun p => e.length - p.1) ⟨0, by omega⟩ (Nat.zero_le _) ?_ ?_
  · simp -implicitDefEqProofs (disch := (first | omega | decide)) only [go_sem, ↓reduceIte, seval, List.take_zero]
    simp [mkS, rowS]
  · rintro ⟨k, hk⟩
    simp only
    have hlen := mkS_len P (e.take k) ([], false)
    have hwas := mkS_was P (e.take k) ([], false) (by simp)
    have hml : (mkS P (e.take k)).1.length ≤ k := by
      have : (mkS P (e.take k)).1.length ≤ 0 + (e.take k).length := hlen
      rw [List.length_take] at this; omega
    have hwas' : (mkS P (e.take k)).2 = true → (mkS P (e.take k)).1 ≠ [] := hwas
    clear hlen hwas
    by_cases hlt : k < e.length
    · have hlt' : (k : Int) < (e.length : Int) := by omega
      have e1 := str_get hlt
      have hs17 := h17 _ (List.getElem_mem hlt)
      have hp := hP _ hs17
      have hst := mkS_step P e k hlt
      have next : ∀ st, mkS P (e.take (k + 1)) = st → ∃ j : {k : Nat // k ≤ e.length}, (((k : Int) + 1 = (j.1 : Int) ∧ st.2 = (mkS P (e.take j.1)).2 ∧ st.1.length = (mkS P (e.take j.1)).1.length) ∧ rowS st.1 = rowS (mkS P (e.take j.1)).1) ∧ e.length - j.1 < e.length - k := fun st h => ⟨⟨k + 1, hlt⟩, ⟨⟨by simp, by rw [h], by rw [h]⟩, by rw [h]⟩, by show e.length - (k + 1) < e.length - k; omega⟩
      have nx := next _ hst
      clear next hst hP
      generalize mkS P (e.take k) = st at *
      generalize e[k] = s at *
      obtain ⟨m, was⟩ := st
      simp only at hml hwas' nx ⊢
      simp only [stS] at nx
      cases hps : P s <;> rw [hps] at hp nx <;> cases was
      · simp -implicitDefEqProofs (disch := (first | omega | decide)) only [go_sem, ↓reduceIte, seval, hlt', e1, hp, wrap_i64, List.length_map]
        exact nx
      · cases m with
        | nil => exact absurd rfl (hwas' rfl)
        | cons q qs =>
          rw [rowS_cons]
          have c1 : (((qs.length + 1 : Nat) : Int) - 1).toNat = qs.length := by omega
          have c2 : (0 : Int) ≤ ((qs.length + 1 : Nat) : Int) - 1 := by omega
          have c3 : ((qs.length + 1 : Nat) : Int) - 1 < ((qs.length + 1 : Nat) : Int) := by omega
          have hq : qs.length + 1 ≤ k := hml
          simp -implicitDefEqProofs (disch := (first | omega | decide)) only [go_sem, ↓reduceIte, seval, hlt', e1, hp, c1, c2, c3, rowS_get', rowS_set, wrap_i64, List.length_map]
          obtain ⟨j, h⟩ := nx
          refine ⟨j, ?_⟩
          simpa [rowS_cons] using h
      · cases m with
        | nil =>
          rw [rowS_nil]
          simp -implicitDefEqProofs (disch := (first | omega | decide)) only [go_sem, ↓reduceIte, seval, hlt', e1, hp, wrap_i64, List.length_map]
          exact nx
        | cons q qs =>
          rw [rowS_cons]
          have hq : qs.length + 1 ≤ k := hml
          simp -implicitDefEqProofs (disch := (first | omega | decide)) only [go_sem, ↓reduceIte, seval, hlt', e1, hp, rowS_full, rowS_take, wrap_i64, List.length_map]
          refine ⟨⟨Nat.le_refl _, by omega⟩, ?_⟩
          obtain ⟨j, h⟩ := nx
          refine ⟨j, ?_⟩
          simpa [rowS_cons] using h
      · simp -implicitDefEqProofs (disch := (first | omega | decide)) only [go_sem, ↓reduceIte, seval, hlt', e1, hp, wrap_i64, List.length_map]
        exact nx
    · have hlt' : ¬ (k : Int) < (e.length : Int) := by omega
      rw [List.take_of_length_le (by omega)] at *
      have hll : (mkS P e).1.length = (rowS (mkS P e).1).length := by rw [rowS_len]
      simp -implicitDefEqProofs (disch := (first | omega | decide)) only [go_sem, ↓reduceIte, seval, hlt', wrap_i64, hll, List.length_map, List.take_length]
      exact ⟨Nat.le_refl _, rfl⟩
end Go.Proofs.Ytjnpfbohnpjckaa
