/- Soundness, sixteenth part: regions; whole bodies; calls. -/
import Derived.Test.YtfcjemfgdeoinaaAbsR
namespace Go.Abs
open Go.RowKit

def depOn (o : Oper) (j : Nat) : Bool := o.after.toList.any fun e => Region.binds .any e && e.on == j
def pairOK (P : Program) (Γ : Tab) (ops : Array Oper) (oi : Oper) (j : Nat) : Bool :=
  match ops[j]? with
  | some oj => depOn oi j || ((plainOp P Γ oj.op && plainOp P Γ oi.op || plainOp P Γ oj.op && allocOp oi.op || allocOp oj.op && allocOp oi.op || hless oj.op && storeOp oi.op) && oj.apart ops oi)
  | none => true
/-- May the operations come in any order that the edges leave? -/
def orderOK (P : Program) (Γ : Tab) (ops : Array Oper) : Bool :=
  (List.range ops.size).all fun i =>
    match ops[i]? with
    | some oi => (oi.after.toList.all fun e => !Region.binds .any e || decide (e.on < i)) && (List.range i).all (pairOK P Γ ops oi)
    | none => true
def dstOK (nt : Nat) (ops : Array Oper) : Bool := ops.toList.all fun o => match o.dst with | some d => decide (d < nt) | none => true
def codeOK (P : Program) (Γ : Tab) (nt : Nat) : Code → Bool
  | .seq a b => codeOK P Γ nt a && codeOK P Γ nt b
  | .cond _ a b => codeOK P Γ nt a && codeOK P Γ nt b
  | .block _ c => codeOK P Γ nt c
  | .loop c => codeOK P Γ nt c
  | .region _ ops d => dstOK nt ops && (!d || orderOK P Γ ops)
  | _ => true

section
variable {P : Program} {Γ : Tab} {N0 : Nat → Prop} {w0 : Base} {nt : Nat} {σ τ : St} {φ : List Own} {a : Act} {w : World}

theorem dstOK_spec {ops : Array Oper} (h : dstOK nt ops = true) {i : Nat} {o : Oper} (ho : ops[i]? = some o) : ∀ t, o.dst = some t → t < nt := fun t ht => by
  unfold dstOK at h
  rw [List.all_eq_true] at h
  have := h o (by simpa using Array.mem_of_getElem? ho)
  simp only [ht, decide_eq_true_eq] at this
  exact this

theorem Conc.sim (h : Conc N0 w0 nt σ φ a w) (hs : simS σ τ) : Conc N0 w0 nt τ φ a w :=
  { h with
    slots := fun d => by rw [← hs.1 d]; exact h.slots d
    len := by rw [← hs.2]; exact h.len
    objs := fun n o p ho hp => h.objs n o p (by rw [hs.2]; exact ho) hp }

theorem exec1_name {ds : List (Option Tmp)} {n n' : Nat} {o : Oper} (h : allocs P o.op = false) : exec1 P Γ ds n o σ = exec1 P Γ ds n' o σ := by
  unfold exec1
  split
  · rfl
  · rename_i b hb
    cases b with
    | false => rfl
    | true =>
      simp only [if_true]
      unfold execOp
      split
      · rename_i h'; rw [h'] at h; simp [allocs] at h
      · rename_i h'; rw [h'] at h; simp [allocs] at h
      · rfl
      · rename_i h'
        rw [h'] at h
        simp only [allocs] at h
        simp only [convX, h, Bool.false_eq_true, if_false]
      · rename_i h'; rw [h'] at h; simp [allocs] at h
      · rfl
      · rfl
      · rfl

/-- One operation, and which names stay free. -/
theorem step_sound (hΓ : TabOK P Γ) (hfix : w0.fix = Γ.fix) (h : Conc N0 w0 nt σ φ a w) {ops : Array Oper} (hok : dstOK nt ops = true) {x : Nat × Nat × Oper} (ho : ops[x.2.1]? = some x.2.2) {L : List (Nat × Nat × Oper)}
    (hfx : allocs P x.2.2.op = true → φ[x.1]? = some .free) (hfL : ∀ y ∈ L, allocs P y.2.2.op = true → φ[y.1]? = some .free) (hne : ∀ y ∈ L, allocs P x.2.2.op = true → allocs P y.2.2.op = true → y.1 ≠ x.1) {σ' : St}
    (hr : exec1 P Γ (dstsOf ops.toList) x.1 x.2.2 σ = some σ') {Q : Exit → Act → World → Prop} {K : Act → World → Prop}
    (hK : ∀ φ' a' w', Conc N0 w0 nt σ' φ' a' w' → (∀ y ∈ L, allocs P y.2.2.op = true → φ'[y.1]? = some .free) → K a' w') : wpOp P ops Q x.2.1 K a w := by
  by_cases hal : allocs P x.2.2.op = true
  · exact exec1_sound hΓ h ho (dstOK_spec hok ho) hfix (fun _ => hfx hal) hr fun φ' a' w' hc hf => hK φ' a' w' hc fun y hy ha => hf y.1 (hne y hy hal ha) (hfL y hy ha)
  · have hal' : allocs P x.2.2.op = false := by simpa using hal
    rw [exec1_name (n' := φ.length) hal'] at hr
    refine exec1_sound hΓ h ho (dstOK_spec hok ho) hfix (fun ha => absurd ha hal) hr fun φ' a' w' hc hf => hK φ' a' w' hc fun y hy ha => hf y.1 (fun e => ?_) (hfL y hy ha)
    have := (List.getElem?_eq_some_iff.1 (hfL y hy ha)).1
    omega

/-- In the text's order. -/
theorem text_sound (hΓ : TabOK P Γ) (hfix : w0.fix = Γ.fix) {ops : Array Oper} (hok : dstOK nt ops = true) {Q : Exit → Act → World → Prop} {τ : St} : ∀ {L : List (Nat × Nat × Oper)} {σ : St} {φ : List Own} {a : Act} {w : World},
    Conc N0 w0 nt σ φ a w → (∀ x ∈ L, ops[x.2.1]? = some x.2.2) → L.Pairwise (fun x y => x.2.1 < y.2.1 ∧ (allocs P x.2.2.op = true → x.1 < y.1)) →
    (∀ y ∈ L, allocs P y.2.2.op = true → φ[y.1]? = some .free) → runL P Γ (dstsOf ops.toList) L σ = some τ → (∀ φ' a' w', Conc N0 w0 nt τ φ' a' w' → Q .normal a' w') → wpOps P ops Q (L.map (·.2.1)) a w
  | [], σ, φ, a, w, h, _, _, _, hr, hQ => by
    simp only [runL, Option.some.injEq] at hr
    subst hr
    exact hQ φ a w h
  | x :: L, σ, φ, a, w, h, hops, hp, hf, hr, hQ => by
    rw [List.map_cons, wpOps_cons]
    simp only [runL] at hr
    rw [List.pairwise_cons] at hp
    cases h1 : exec1 P Γ (dstsOf ops.toList) x.1 x.2.2 σ with
    | none => simp [h1] at hr
    | some σ1 =>
      simp only [h1, Option.bind_some] at hr
      refine step_sound hΓ hfix h hok (hops x (by simp)) (L := L) (hf x (by simp)) (fun y hy => hf y (by simp [hy])) (fun y hy ha _ e => ?_) h1 fun φ' a' w' hc hf' => ?_
      · have := (hp.1 y hy).2 ha
        omega
      · exact text_sound hΓ hfix hok hc (fun y hy => hops y (by simp [hy])) hp.2 hf' hr hQ

theorem depOn_spec {o : Oper} {j : Nat} (h : depOn o j = true) : ∃ e ∈ o.after, Region.binds .any e = true ∧ e.on = j := by
  unfold depOn at h
  rw [List.any_eq_true] at h
  obtain ⟨e, he, hb⟩ := h
  simp only [Bool.and_eq_true, beq_iff_eq] at hb
  exact ⟨e, by simpa using he, hb⟩

theorem orderOK_spec {ops : Array Oper} (h : orderOK P Γ ops = true) {i : Nat} {oi : Oper} (hi : ops[i]? = some oi) :
    (∀ e ∈ oi.after, Region.binds .any e = true → e.on < i) ∧ ∀ (j : Nat) (oj : Oper), j < i → ops[j]? = some oj → depOn oi j = true ∨ ((plainOp P Γ oj.op = true ∧ plainOp P Γ oi.op = true ∨ plainOp P Γ oj.op = true ∧ allocOp oi.op = true ∨ allocOp oj.op = true ∧ allocOp oi.op = true ∨ hless oj.op = true ∧ storeOp oi.op = true) ∧ oj.apart ops oi = true) := by
  unfold orderOK at h
  rw [List.all_eq_true] at h
  have h1 := h i (by simpa using (Array.getElem?_eq_some_iff.1 hi).1)
  simp only [hi, Bool.and_eq_true] at h1
  obtain ⟨h2, h3⟩ := h1
  rw [List.all_eq_true] at h2 h3
  refine ⟨fun e he hb => ?_, fun j oj hj hoj => ?_⟩
  · have := h2 e (by simpa using he)
    simpa [hb] using this
  · have := h3 j (by simpa using hj)
    unfold pairOK at this
    simp only [hoj, Bool.or_eq_true, Bool.and_eq_true] at this
    rcases this with h | ⟨((h4 | h4) | h4) | h4, h6⟩
    · exact .inl h
    · exact .inr ⟨.inl h4, h6⟩
    · exact .inr ⟨.inr (.inl h4), h6⟩
    · exact .inr ⟨.inr (.inr (.inl h4)), h6⟩
    · exact .inr ⟨.inr (.inr (.inr h4)), h6⟩

theorem allocs_of {op : Op} (h : allocOp op = true) : allocs P op = true := by
  cases op <;> simp [allocOp] at h <;> rfl
theorem free_obj (h : Conc N0 w0 nt σ φ a w) {n : Nat} (hn : φ[n]? = some .free) : nthO σ.H n = some (.row 0 []) := by
  have hlt : n < σ.H.length := by rw [← h.len]; exact (List.getElem?_eq_some_iff.1 hn).1
  have ho : nthO σ.H n = some σ.H[n] := by rw [nthO_eq]; exact List.getElem?_eq_getElem hlt
  have := h.objs n _ _ ho hn
  rw [ho]
  cases hh : σ.H[n] with
  | box cs => rw [hh] at this; simp [ObjRel] at this
  | row k es => rw [hh] at this; simp only [ObjRel] at this; rw [this.1, this.2]

/-- In any order that the edges leave. -/
theorem any_sound (hΓ : TabOK P Γ) (hfix : w0.fix = Γ.fix) {ops : Array Oper} (hok : dstOK nt ops = true) (hord : orderOK P Γ ops = true) {Q : Exit → Act → World → Prop} : ∀ (fuel : Nat) (listed : Array Bool) {L : List (Nat × Nat × Oper)} {σ τ : St} {φ : List Own} {a : Act} {w : World},
    L.length ≤ fuel → (∀ i, listed.getD i true = false ↔ ∃ x ∈ L, x.2.1 = i) →
    Conc N0 w0 nt σ φ a w → (∀ x ∈ L, ops[x.2.1]? = some x.2.2) → L.Pairwise (fun x y => x.2.1 < y.2.1 ∧ (allocs P x.2.2.op = true → x.1 < y.1)) →
    (∀ y ∈ L, allocs P y.2.2.op = true → φ[y.1]? = some .free) → runL P Γ (dstsOf ops.toList) L σ = some τ → (∀ φ' a' w', Conc N0 w0 nt τ φ' a' w' → Q .normal a' w') → listed.size = ops.size → wpAny P .any ops Q fuel listed a w := by
  intro fuel
  -- the first of those that are left is ready
  have first : ∀ (listed : Array Bool) (x : Nat × Nat × Oper) (L : List (Nat × Nat × Oper)), (∀ i, listed.getD i true = false ↔ ∃ y ∈ x :: L, y.2.1 = i) → (∀ y ∈ x :: L, ops[y.2.1]? = some y.2.2) →
      (x :: L).Pairwise (fun x y => x.2.1 < y.2.1 ∧ (allocs P x.2.2.op = true → x.1 < y.1)) → listed.size = ops.size → x.2.1 ∈ Region.ready .any ops listed := by
    intro listed x L hl hops hp hsz
    rw [mem_ready]
    refine ⟨(hl x.2.1).2 ⟨x, by simp, rfl⟩, x.2.2, hops x (by simp), fun e he hb => ?_⟩
    have hlt := (orderOK_spec hord (hops x (by simp))).1 e he hb
    have hxs : x.2.1 < ops.size := (Array.getElem?_eq_some_iff.1 (hops x (by simp))).1
    cases hg : listed.getD e.on true with
    | false =>
      obtain ⟨y, hy, hye⟩ := (hl e.on).1 hg
      rcases List.mem_cons.1 hy with rfl | hy
      · omega
      · have := ((List.pairwise_cons.1 hp).1 y hy).1
        omega
    | true =>
      have he : e.on < listed.size := by omega
      simpa [he] using hg
  induction fuel with
  | zero =>
    intro listed L σ τ φ a w hlen hl hc hops hp hf hr hQ hsz
    have hL : L = [] := List.length_eq_zero_iff.1 (by omega)
    subst hL
    simp only [runL, Option.some.injEq] at hr
    subst hr
    refine ⟨?_, hQ φ a w hc⟩
    rw [List.eq_nil_iff_forall_not_mem]
    intro i hi
    obtain ⟨x, hx, _⟩ := (hl i).1 (mem_ready.1 hi).1
    cases hx
  | succ fuel ih =>
    intro listed L σ τ φ a w hlen hl hc hops hp hf hr hQ hsz
    refine ⟨fun hnil => ?_, fun i hi => ?_⟩
    · cases L with
      | nil =>
        simp only [runL, Option.some.injEq] at hr
        subst hr
        exact hQ φ a w hc
      | cons x L =>
        have := first listed x L hl hops hp hsz
        rw [hnil] at this
        cases this
    · obtain ⟨hun, oi, hoi, hall⟩ := mem_ready.1 hi
      obtain ⟨x, hx, rfl⟩ := (hl i).1 hun
      have hxo := hops x hx
      rw [hoi] at hxo
      obtain rfl := Option.some.inj hxo
      obtain ⟨L1, L2, rfl⟩ := List.append_of_mem hx
      have hpp := List.pairwise_append.1 hp
      have hp2 := List.pairwise_cons.1 hpp.2.1
      obtain ⟨σ1, τ', g1, g2, gs⟩ := moveFront (fun y hy => by
        have hlt := (hpp.2.2 y hy x (by simp)).1
        have hyo := hops y (by simp [hy])
        rcases (orderOK_spec hord hoi).2 y.2.1 y.2.2 hlt hyo with hdep | hind
        · exfalso
          obtain ⟨e, he, hb, heq⟩ := depOn_spec hdep
          have h1 := hall e he hb
          have h2 := (hl y.2.1).2 ⟨y, by simp [hy], rfl⟩
          rw [heq] at h1
          have hlt' : y.2.1 < listed.size := by rw [hsz]; exact (Array.getElem?_eq_some_iff.1 hyo).1
          simp [hlt'] at h1 h2
          rw [h1] at h2
          cases h2
        · refine ⟨?_, hind.2⟩
          rcases hind.1 with h' | h' | ⟨h1, h2⟩ | h'
          · exact .inl h'
          · exact .inr (.inl h')
          · have hne := (hpp.2.2 y hy x (by simp)).2 (allocs_of h1)
            exact .inr (.inr (.inl ⟨h1, h2, by omega⟩))
          · exact .inr (.inr (.inr h'))) (fun ha => free_obj hc (hf x hx (allocs_of ha))) hr
      refine step_sound hΓ hfix hc hok hoi (L := L1 ++ L2) (hf x hx) (fun y hy => hf y (by
        rcases List.mem_append.1 hy with hy | hy
        · simp [hy]
        · simp [hy])) (fun y hy ha hb e => ?_) g1 fun φ' a' w' hc' hf' => ?_
      · rcases List.mem_append.1 hy with hy | hy
        · have := (hpp.2.2 y hy x (by simp)).2 hb
          omega
        · have := (hp2.1 y hy).2 ha
          omega
      · refine ih (listed.setIfInBounds x.2.1 true) (L := L1 ++ L2) (τ := τ') ?_ ?_ hc' ?_ ?_ hf' g2 ?_ (by simp [hsz])
        · simp at hlen ⊢; omega
        · intro i
          have hxs : x.2.1 < listed.size := by rw [hsz]; exact (Array.getElem?_eq_some_iff.1 hoi).1
          by_cases hxi : x.2.1 = i
          · subst hxi
            constructor
            · intro h; simp [hxs] at h
            · rintro ⟨y, hy, hye⟩
              exfalso
              rcases List.mem_append.1 hy with hy | hy
              · have := (hpp.2.2 y hy x (by simp)).1
                omega
              · have := (hp2.1 y hy).1
                omega
          · rw [getD_set_ne true hxi, hl i]
            constructor
            · rintro ⟨y, hy, hye⟩
              refine ⟨y, ?_, hye⟩
              rcases List.mem_append.1 hy with hy | hy
              · simp [hy]
              · rcases List.mem_cons.1 hy with rfl | hy
                · exact absurd hye hxi
                · simp [hy]
            · rintro ⟨y, hy, hye⟩
              refine ⟨y, ?_, hye⟩
              rcases List.mem_append.1 hy with hy | hy
              · simp [hy]
              · simp [hy]
        · intro y hy
          refine hops y ?_
          rcases List.mem_append.1 hy with hy | hy
          · simp [hy]
          · simp [hy]
        · rw [List.pairwise_append]
          exact ⟨hpp.1, hp2.2, fun y hy z hz => hpp.2.2 y hy z (by simp [hz])⟩
        · exact fun φ'' a'' w'' hc'' => hQ φ'' a'' w'' (hc''.sim gs.symm)

theorem Conc.growOne (h : Conc N0 w0 nt σ φ a w) : Conc N0 w0 nt { σ with H := σ.H ++ [.row 0 []] } (φ ++ [.free]) a w := by
  have hget : ∀ m : Nat, (φ ++ [Own.free])[m]? = if m = φ.length then some .free else φ[m]? := fun m => by
    rw [List.getElem?_append]
    split
    · rw [if_neg (by omega)]
    · split
      · rename_i h1 h2; subst h2; simp
      · rename_i h1 h2
        rw [List.getElem?_eq_none (by simp; omega), List.getElem?_eq_none (by omega)]
  have hat : ∀ m b k : Nat, (φ ++ [Own.free])[m]? = some (Own.loc b k) → φ[m]? = some (.loc b k) := fun m b k hm => by
    rw [hget] at hm
    split at hm
    · simp at hm
    · exact hm
  have hext : Ext (fun _ => True) (envOf N0 φ w) (envOf N0 (φ ++ [.free]) w) := {
    size := Nat.le_refl _
    blk := fun b _ hn => ⟨by
      rintro (h0 | ⟨m, k, hm⟩)
      · exact hn (.inl h0)
      · exact hn (.inr ⟨m, k, hat m b k hm⟩), rfl⟩
    refs := fun m o _ hm _ => by
      have hlt : m < φ.length := (List.getElem?_eq_some_iff.1 hm).1
      show (φ ++ [Own.free])[m]? = some o
      rw [hget, if_neg (by omega)]; exact hm
    own := fun m b k c e fr _ hm hc => ⟨c, fr, hc, rfl⟩ }
  exact {
    slots := fun d => Rep.mono hext _ _ (h.slots d) (fun _ _ => trivial)
    size := h.size
    defers := h.defers
    len := by simp [h.len]
    objs := fun m o p hm hp => by
      rw [hget] at hp
      rw [nthO_eq, List.getElem?_append] at hm
      split at hp
      · rename_i e
        simp at hp
        subst hp
        rw [if_neg (by rw [← h.len]; omega), show m - σ.H.length = 0 by rw [← h.len]; omega] at hm
        simp at hm
        subst hm
        simp [ObjRel]
      · rename_i e
        have hlt : m < φ.length := (List.getElem?_eq_some_iff.1 hp).1
        rw [if_pos (by rw [← h.len]; exact hlt)] at hm
        exact ObjRel.mono hext (h.objs m o p (by rw [nthO_eq]; exact hm) hp) (fun b k _ c e fr hh => hh) (fun _ _ _ _ => trivial)
    own := fun m b k hm => h.own m b k (hat m b k hm)
    inj := fun m m' b k k' hm hm' => h.inj m m' b k k' (hat m b k hm) (hat m' b k' hm')
    n0 := h.n0
    fixd := fun m p hf hp hfree => by
      have := h.fixd m p hf hp hfree
      have hlt : m < φ.length := (List.getElem?_eq_some_iff.1 this).1
      rw [List.getElem?_append_left hlt]; exact this
    below := h.below }

theorem growH_len (op : Op) : (grow P op σ).H.length = nxt P op σ.H.length := by
  unfold grow nxt
  split <;> simp

theorem pre_sound : ∀ (os : List Oper) (i : Nat) {σ : St} {φ : List Own}, Conc N0 w0 nt σ φ a w → ∃ φ', Conc N0 w0 nt (pre P os σ) φ' a w ∧ (∀ y ∈ ann P σ.H.length i os, allocs P y.2.2.op = true → φ'[y.1]? = some .free) ∧
    ∀ m : Nat, φ[m]? = some Own.free → φ'[m]? = some Own.free
  | [], i, σ, φ, h => ⟨φ, h, by simp [ann], fun _ h => h⟩
  | o :: os, i, σ, φ, h => by
    have hg : ∃ φ1, Conc N0 w0 nt (grow P o.op σ) φ1 a w ∧ (allocs P o.op = true → φ1[σ.H.length]? = some .free) ∧ ∀ m : Nat, φ[m]? = some Own.free → φ1[m]? = some Own.free := by
      unfold grow
      split
      · refine ⟨φ ++ [.free], h.growOne, fun _ => by rw [← h.len]; simp, fun m hm => ?_⟩
        have hlt : m < φ.length := (List.getElem?_eq_some_iff.1 hm).1
        rw [List.getElem?_append_left hlt]
        exact hm
      · rename_i ha
        exact ⟨φ, h, fun h => absurd h ha, fun _ h => h⟩
    obtain ⟨φ1, h1, hf, hk⟩ := hg
    obtain ⟨φ', h2, hf2, hk2⟩ := pre_sound os (i + 1) h1
    refine ⟨φ', h2, fun y hy ha => ?_, fun m hm => hk2 m (hk m hm)⟩
    simp only [ann, List.mem_cons] at hy
    rcases hy with rfl | hy
    · exact hk2 _ (hf ha)
    · rw [growH_len] at hf2
      exact hf2 y hy ha

theorem region_sound (hΓ : TabOK P Γ) (hfix : w0.fix = Γ.fix) (hm : P.follows .mixedOrders = true) (h : Conc N0 w0 nt σ φ a w) {id : Nat} {ops : Array Oper} {d : Bool} (hok : dstOK nt ops = true) (hord : d = true → orderOK P Γ ops = true) {τ : St}
    (hr : runSeq P Γ (dstsOf ops.toList) ops.toList σ.H.length (pre P ops.toList σ) = some τ) {Q : Exit → Act → World → Prop} (hQ : ∀ φ' a' w', Conc N0 w0 nt τ φ' a' w' → Q .normal a' w') : (Code.region id ops d).wp P Q a w := by
  rw [runSeq_runL P Γ _ _ _ 0] at hr
  have hops : ∀ x ∈ ann P σ.H.length 0 ops.toList, ops[x.2.1]? = some x.2.2 := fun x hx => by
    have := (ann_mem P _ _ _ x hx).2.2
    simpa using this
  have hp := ann_pair P ops.toList σ.H.length 0
  have hidx := ann_idx P ops.toList σ.H.length 0
  simp only [Nat.zero_add, Array.length_toList] at hidx
  have hidx' : (ann P σ.H.length 0 ops.toList).map (·.2.1) = List.range ops.size := by rw [hidx]; simp
  cases d with
  | false =>
    obtain ⟨φ', hc, hf, _⟩ := pre_sound (P := P) ops.toList 0 h
    refine wp_region ?_
    rw [← hidx']
    exact text_sound hΓ hfix hok hc hops hp hf hr hQ
  | true =>
    have hgr : Grew w { w with drawn := w.drawn + 1 } := Grew.drew w
    obtain ⟨φ', hc, hf, _⟩ := pre_sound (P := P) ops.toList 0 (h.grew hgr)
    refine wp_region_any hm ?_
    refine any_sound hΓ hfix hok (hord rfl) ops.size _ (L := ann P σ.H.length 0 ops.toList) ?_ ?_ hc hops hp hf hr hQ (by simp)
    · have := congrArg List.length hidx'
      simp at this
      omega
    · intro i
      have hmem : (∃ x ∈ ann P σ.H.length 0 ops.toList, x.2.1 = i) ↔ i < ops.size := by
        rw [← List.mem_range, ← hidx', List.mem_map]
      rw [hmem]
      by_cases hi : i < ops.size <;> simp [hi]
end

end Go.Abs
