/- Soundness, sixteenth part: regions; whole bodies; calls. -/
import Derived.Test.YtbnmicpgbcfooaaAbsR
namespace Go.Abs
open Go.RowKit

def depOn (o : Oper) (j : Nat) : Bool := o.after.toList.any fun e => Region.binds .any e && e.on == j
/-- What an operation comes behind, as the bits of a number. -/
def ancOf (as : List Nat) (o : Oper) : Nat := o.after.toList.foldl (fun x e => if Region.binds .any e = true then x ||| 2 ^ e.on ||| as.getD e.on 0 else x) 0
def ancs : List Oper → List Nat → List Nat
  | [], as => as
  | o :: os, as => ancs os (as ++ [ancOf as o])
def pairOK (P : Program) (Γ : Tab) (ops : Array Oper) (m : Nat) (oi : Oper) (j : Nat) : Bool :=
  match ops[j]? with
  | some oj => m.testBit j || ((plainOp P Γ oj.op && plainOp P Γ oi.op || plainOp P Γ oj.op && allocOp oi.op || allocOp oj.op && allocOp oi.op || hless oj.op && storeOp oi.op) && oj.apart ops oi)
  | none => true
/-- May the operations come in any order that the edges leave? -/
def orderOK1 (P : Program) (Γ : Tab) (ops : Array Oper) (as : List Nat) : Bool :=
  (List.range ops.size).all fun i =>
    match ops[i]? with
    | some oi => (oi.after.toList.all fun e => !Region.binds .any e || decide (e.on < i)) && (List.range i).all (pairOK P Γ ops (as.getD i 0) oi)
    | none => true
def orderOK (P : Program) (Γ : Tab) (ops : Array Oper) : Bool := orderOK1 P Γ ops (ancs ops.toList [])
/-- Is all done that an operation waits for, if 'L' is left? -/
def readyI (ops : Array Oper) (L : List Nat) (i : Nat) : Bool :=
  match ops[i]? with
  | some o => o.after.toList.all fun e => !Region.binds .any e || !L.contains e.on
  | none => false
/-- May 'i' come behind 'y', where it stands ahead of it? -/
def commI (P : Program) (Γ : Tab) (ops : Array Oper) (i y : Nat) : Bool :=
  match ops[i]?, ops[y]? with
  | some a, some b => ((plainOp P Γ a.op && plainOp P Γ b.op) || (hless a.op && storeOp b.op)) && a.apart ops b
  | _, _ => false
/-- Are these orders all that need be looked at? -/
def cov (P : Program) (Γ : Tab) (ops : Array Oper) (as : List Nat) : Nat → List Nat → List (List Nat) → Bool
  | 0, L, rs => L.isEmpty && !rs.isEmpty && rs.all List.isEmpty
  | f + 1, L, rs =>
    match rs with
    | [] => false
    | [] :: _ => false
    | (i :: _) :: _ =>
      if (rs.all (fun r => r.head? == some i) && L.contains i && readyI ops L i && L.all (fun y => y == i || (as.getD y 0).testBit i || commI P Γ ops i y)) = true then cov P Γ ops as f (L.erase i) (rs.map List.tail)
      else L.all fun j => !readyI ops L j || cov P Γ ops as f (L.erase j) (rs.filterMap fun r => if r.head? = some j then some r.tail else none)
def ordsOK (P : Program) (Γ : Tab) (ops : Array Oper) (os : List (List Nat)) : Bool :=
  ((List.range ops.size).all fun i => match ops[i]? with | some o => o.after.toList.all fun e => !Region.binds .any e || decide (e.on < i) | none => true) &&
  cov P Γ ops (ancs ops.toList []) ops.size (List.range ops.size) os
def dstOK (nt : Nat) (ops : Array Oper) : Bool := ops.toList.all fun o => match o.dst with | some d => decide (d < nt) | none => true
def codeOK (P : Program) (Γ : Tab) (nt : Nat) : Code → Bool
  | .seq a b => codeOK P Γ nt a && codeOK P Γ nt b
  | .cond _ a b => codeOK P Γ nt a && codeOK P Γ nt b
  | .block _ c => codeOK P Γ nt c
  | .loop c => codeOK P Γ nt c
  | .region id ops d => dstOK nt ops && (if (Γ.ords id).isEmpty = true then (!d || orderOK P Γ ops) else (d && ordsOK P Γ ops (Γ.ords id)))
  | _ => true

section
variable {P : Program} {Γ : Tab} {N0 : Nat → Prop} {w0 : Base} {nt : Nat} {σ τ : St} {φ : List Own} {a : Act} {w : World}

theorem dstOK_spec {ops : Array Oper} (h : dstOK nt ops = true) {i : Nat} {o : Oper} (ho : ops[i]? = some o) : ∀ t, o.dst = some t → t < nt := fun t ht => by
  unfold dstOK at h
  rw [List.all_eq_true] at h
  have := h o (by simpa using Array.mem_of_getElem? ho)
  simp only [ht, decide_eq_true_eq] at this
  exact this

theorem Conc.sim (h : Conc N0 w0 nt σ φ a w) (hs : simS σ τ) : Conc N0 w0 nt τ φ a w :=
  { h with
    slots := fun d => by rw [← hs.1 d]; exact h.slots d
    len := by rw [← hs.2]; exact h.len
    objs := fun n o p ho hp => h.objs n o p (by rw [hs.2]; exact ho) hp }

theorem exec1_name {ds : List (Option Tmp)} {n n' : Nat} {o : Oper} (h : allocs P o.op = false) : exec1 P Γ ds n o σ = exec1 P Γ ds n' o σ := by
  unfold exec1
  split
  · rfl
  · rename_i b hb
    cases b with
    | false => rfl
    | true =>
      simp only [if_true]
      unfold execOp
      split
      · rename_i h'; rw [h'] at h; simp [allocs] at h
      · rename_i h'; rw [h'] at h; simp [allocs] at h
      · rfl
      · rename_i h'
        rw [h'] at h
        simp only [allocs] at h
        simp only [convX, h, Bool.false_eq_true, if_false]
      · rename_i h'; rw [h'] at h; simp [allocs] at h
      · rfl
      · rfl
      · rfl

/-- One operation, and which names stay free. -/
theorem step_sound (hΓ : TabOK P Γ) (hfix : w0.fix = Γ.fix) (h : Conc N0 w0 nt σ φ a w) {ops : Array Oper} (hok : dstOK nt ops = true) {x : Nat × Nat × Oper} (ho : ops[x.2.1]? = some x.2.2) {L : List (Nat × Nat × Oper)}
    (hfx : allocs P x.2.2.op = true → φ[x.1]? = some .free) (hfL : ∀ y ∈ L, allocs P y.2.2.op = true → φ[y.1]? = some .free) (hne : ∀ y ∈ L, allocs P x.2.2.op = true → allocs P y.2.2.op = true → y.1 ≠ x.1) {σ' : St}
    (hr : exec1 P Γ (dstsOf ops.toList) x.1 x.2.2 σ = some σ') {Q : Exit → Act → World → Prop} {K : Act → World → Prop}
    (hK : ∀ φ' a' w', Conc N0 w0 nt σ' φ' a' w' → (∀ y ∈ L, allocs P y.2.2.op = true → φ'[y.1]? = some .free) → K a' w') : wpOp P ops Q x.2.1 K a w := by
  by_cases hal : allocs P x.2.2.op = true
  · exact exec1_sound hΓ h ho (dstOK_spec hok ho) hfix (fun _ => hfx hal) hr fun φ' a' w' hc hf => hK φ' a' w' hc fun y hy ha => hf y.1 (hne y hy hal ha) (hfL y hy ha)
  · have hal' : allocs P x.2.2.op = false := by simpa using hal
    rw [exec1_name (n' := φ.length) hal'] at hr
    refine exec1_sound hΓ h ho (dstOK_spec hok ho) hfix (fun ha => absurd ha hal) hr fun φ' a' w' hc hf => hK φ' a' w' hc fun y hy ha => hf y.1 (fun e => ?_) (hfL y hy ha)
    have := (List.getElem?_eq_some_iff.1 (hfL y hy ha)).1
    omega

/-- In the text's order. -/
theorem text_sound (hΓ : TabOK P Γ) (hfix : w0.fix = Γ.fix) {ops : Array Oper} (hok : dstOK nt ops = true) {Q : Exit → Act → World → Prop} {τ : St} : ∀ {L : List (Nat × Nat × Oper)} {σ : St} {φ : List Own} {a : Act} {w : World},
    Conc N0 w0 nt σ φ a w → (∀ x ∈ L, ops[x.2.1]? = some x.2.2) → L.Pairwise (fun x y => x.2.1 < y.2.1 ∧ (allocs P x.2.2.op = true → x.1 < y.1)) →
    (∀ y ∈ L, allocs P y.2.2.op = true → φ[y.1]? = some .free) → runL P Γ (dstsOf ops.toList) L σ = some τ → (∀ φ' a' w', Conc N0 w0 nt τ φ' a' w' → Q .normal a' w') → wpOps P ops Q (L.map (·.2.1)) a w
  | [], σ, φ, a, w, h, _, _, _, hr, hQ => by
    simp only [runL, Option.some.injEq] at hr
    subst hr
    exact hQ φ a w h
  | x :: L, σ, φ, a, w, h, hops, hp, hf, hr, hQ => by
    rw [List.map_cons, wpOps_cons]
    simp only [runL] at hr
    rw [List.pairwise_cons] at hp
    cases h1 : exec1 P Γ (dstsOf ops.toList) x.1 x.2.2 σ with
    | none => simp [h1] at hr
    | some σ1 =>
      simp only [h1, Option.bind_some] at hr
      refine step_sound hΓ hfix h hok (hops x (by simp)) (L := L) (hf x (by simp)) (fun y hy => hf y (by simp [hy])) (fun y hy ha _ e => ?_) h1 fun φ' a' w' hc hf' => ?_
      · have := (hp.1 y hy).2 ha
        omega
      · exact text_sound hΓ hfix hok hc (fun y hy => hops y (by simp [hy])) hp.2 hf' hr hQ

theorem ancOf_spec {as : List Nat} {j : Nat} : ∀ {es : List Edge} {x : Nat}, (es.foldl (fun x e => if Region.binds .any e = true then x ||| 2 ^ e.on ||| as.getD e.on 0 else x) x).testBit j = true →
    x.testBit j = true ∨ ∃ e ∈ es, Region.binds .any e = true ∧ (e.on = j ∨ (as.getD e.on 0).testBit j = true)
  | [], x, h => .inl h
  | e :: es, x, h => by
    rw [List.foldl_cons] at h
    rcases ancOf_spec h with h | ⟨e', he', h'⟩
    · split at h
      · rename_i hb
        rw [Nat.testBit_or, Nat.testBit_or, Bool.or_eq_true, Bool.or_eq_true, Nat.testBit_two_pow] at h
        rcases h with (h | h) | h
        · exact .inl h
        · exact .inr ⟨e, by simp, hb, .inl (by simpa using h)⟩
        · exact .inr ⟨e, by simp, hb, .inr h⟩
      · exact .inl h
    · exact .inr ⟨e', by simp [he'], h'⟩
/-- Whatever an operation comes behind is done, if all that it waits for is done. -/
theorem ancs_spec {ops : Array Oper} {D : Nat → Prop} (hD : ∀ (m : Nat) (o : Oper), ops[m]? = some o → D m → ∀ e ∈ o.after, Region.binds .any e = true → D e.on) : ∀ {os ps : List Oper} {as : List Nat}, ops.toList = ps ++ os → as.length = ps.length →
    (∀ (m : Nat) (o : Oper), m < as.length → ops[m]? = some o → (∀ e ∈ o.after, Region.binds .any e = true → D e.on) → ∀ j, (as.getD m 0).testBit j = true → D j) →
    ∀ (m : Nat) (o : Oper), ops[m]? = some o → (∀ e ∈ o.after, Region.binds .any e = true → D e.on) → ∀ j, ((ancs os as).getD m 0).testBit j = true → D j
  | [], ps, as, hp, hl, h, m, o, ho, hd, j, hj => by
    have hm : m < as.length := by
      have h1 := (Array.getElem?_eq_some_iff.1 ho).1
      have h2 : ops.toList.length = ps.length := by rw [hp]; simp
      rw [Array.length_toList] at h2
      omega
    exact h m o hm ho hd j hj
  | q :: os, ps, as, hp, hl, h, m, o, ho, hd, j, hj => by
    simp only [ancs] at hj
    refine ancs_spec (os := os) (ps := ps ++ [q]) (as := as ++ [ancOf as q]) hD (by rw [hp]; simp) (by simp [hl]) ?_ m o ho hd j hj
    intro m' o' hm' ho' hd' j' hj'
    by_cases hlt : m' < as.length
    · rw [show (as ++ [ancOf as q]).getD m' 0 = as.getD m' 0 by simp [List.getD, List.getElem?_append_left hlt]] at hj'
      exact h m' o' hlt ho' hd' j' hj'
    · have hme : m' = as.length := by rw [List.length_append] at hm'; simp at hm'; omega
      subst hme
      have hq : ops[as.length]? = some q := by
        rw [← Array.getElem?_toList, hp, hl]; simp
      rw [ho'] at hq
      obtain rfl := Option.some.inj hq
      have e1 : (as ++ [ancOf as o']).getD as.length 0 = ancOf as o' := by simp [List.getD]
      rw [e1] at hj'
      rcases ancOf_spec hj' with h0 | ⟨e, he, hb, h1⟩
      · simp at h0
      · have he' : e ∈ o'.after := by simpa using he
        rcases h1 with rfl | h1
        · exact hd' e he' hb
        · by_cases hlt' : e.on < as.length
          · have hlt2 : e.on < ops.size := by
              have := congrArg List.length hp
              simp at this
              omega
            exact h e.on ops[e.on] hlt' (Array.getElem?_eq_getElem hlt2) (hD e.on _ (Array.getElem?_eq_getElem hlt2) (hd' e he' hb)) j' h1
          · rw [show as.getD e.on 0 = 0 by simp [List.getD, List.getElem?_eq_none (Nat.le_of_not_lt hlt')]] at h1
            simp at h1

theorem orderOK_spec {ops : Array Oper} (h : orderOK P Γ ops = true) {i : Nat} {oi : Oper} (hi : ops[i]? = some oi) :
    (∀ e ∈ oi.after, Region.binds .any e = true → e.on < i) ∧ ∀ (j : Nat) (oj : Oper), j < i → ops[j]? = some oj → ((ancs ops.toList []).getD i 0).testBit j = true ∨ ((plainOp P Γ oj.op = true ∧ plainOp P Γ oi.op = true ∨ plainOp P Γ oj.op = true ∧ allocOp oi.op = true ∨ allocOp oj.op = true ∧ allocOp oi.op = true ∨ hless oj.op = true ∧ storeOp oi.op = true) ∧ oj.apart ops oi = true) := by
  unfold orderOK orderOK1 at h
  rw [List.all_eq_true] at h
  have h1 := h i (by simpa using (Array.getElem?_eq_some_iff.1 hi).1)
  simp only [hi, Bool.and_eq_true] at h1
  obtain ⟨h2, h3⟩ := h1
  rw [List.all_eq_true] at h2 h3
  refine ⟨fun e he hb => ?_, fun j oj hj hoj => ?_⟩
  · have := h2 e (by simpa using he)
    simpa [hb] using this
  · have := h3 j (by simpa using hj)
    unfold pairOK at this
    simp only [hoj, Bool.or_eq_true, Bool.and_eq_true] at this
    rcases this with h | ⟨((h4 | h4) | h4) | h4, h6⟩
    · exact .inl h
    · exact .inr ⟨.inl h4, h6⟩
    · exact .inr ⟨.inr (.inl h4), h6⟩
    · exact .inr ⟨.inr (.inr (.inl h4)), h6⟩
    · exact .inr ⟨.inr (.inr (.inr h4)), h6⟩

theorem allocs_of {op : Op} (h : allocOp op = true) : allocs P op = true := by
  cases op <;> simp [allocOp] at h <;> rfl
theorem free_obj (h : Conc N0 w0 nt σ φ a w) {n : Nat} (hn : φ[n]? = some .free) : nthO σ.H n = some (.row 0 []) := by
  have hlt : n < σ.H.length := by rw [← h.len]; exact (List.getElem?_eq_some_iff.1 hn).1
  have ho : nthO σ.H n = some σ.H[n] := by rw [nthO_eq]; exact List.getElem?_eq_getElem hlt
  have := h.objs n _ _ ho hn
  rw [ho]
  cases hh : σ.H[n] with
  | box cs => rw [hh] at this; simp [ObjRel] at this
  | row k es => rw [hh] at this; simp only [ObjRel] at this; rw [this.1, this.2]

/-- In any order that the edges leave. -/
theorem any_sound (hΓ : TabOK P Γ) (hfix : w0.fix = Γ.fix) {ops : Array Oper} (hok : dstOK nt ops = true) (hord : orderOK P Γ ops = true) {Q : Exit → Act → World → Prop} : ∀ (fuel : Nat) (listed : Array Bool) {L : List (Nat × Nat × Oper)} {σ τ : St} {φ : List Own} {a : Act} {w : World},
    L.length ≤ fuel → (∀ i, listed.getD i true = false ↔ ∃ x ∈ L, x.2.1 = i) →
    Conc N0 w0 nt σ φ a w → (∀ x ∈ L, ops[x.2.1]? = some x.2.2) → L.Pairwise (fun x y => x.2.1 < y.2.1 ∧ (allocs P x.2.2.op = true → x.1 < y.1)) →
    (∀ y ∈ L, allocs P y.2.2.op = true → φ[y.1]? = some .free) → runL P Γ (dstsOf ops.toList) L σ = some τ → (∀ φ' a' w', Conc N0 w0 nt τ φ' a' w' → Q .normal a' w') → listed.size = ops.size → (∀ (m : Nat) (o : Oper), ops[m]? = some o → listed.getD m true = true → ∀ e ∈ o.after, Region.binds .any e = true → listed.getD e.on true = true) → wpAny P .any ops Q fuel listed a w := by
  intro fuel
  -- the first of those that are left is ready
  have first : ∀ (listed : Array Bool) (x : Nat × Nat × Oper) (L : List (Nat × Nat × Oper)), (∀ i, listed.getD i true = false ↔ ∃ y ∈ x :: L, y.2.1 = i) → (∀ y ∈ x :: L, ops[y.2.1]? = some y.2.2) →
      (x :: L).Pairwise (fun x y => x.2.1 < y.2.1 ∧ (allocs P x.2.2.op = true → x.1 < y.1)) → listed.size = ops.size → x.2.1 ∈ Region.ready .any ops listed := by
    intro listed x L hl hops hp hsz
    rw [mem_ready]
    refine ⟨(hl x.2.1).2 ⟨x, by simp, rfl⟩, x.2.2, hops x (by simp), fun e he hb => ?_⟩
    have hlt := (orderOK_spec hord (hops x (by simp))).1 e he hb
    have hxs : x.2.1 < ops.size := (Array.getElem?_eq_some_iff.1 (hops x (by simp))).1
    cases hg : listed.getD e.on true with
    | false =>
      obtain ⟨y, hy, hye⟩ := (hl e.on).1 hg
      rcases List.mem_cons.1 hy with rfl | hy
      · omega
      · have := ((List.pairwise_cons.1 hp).1 y hy).1
        omega
    | true =>
      have he : e.on < listed.size := by omega
      simpa [he] using hg
  induction fuel with
  | zero =>
    intro listed L σ τ φ a w hlen hl hc hops hp hf hr hQ hsz hcl
    have hL : L = [] := List.length_eq_zero_iff.1 (by omega)
    subst hL
    simp only [runL, Option.some.injEq] at hr
    subst hr
    refine ⟨?_, hQ φ a w hc⟩
    rw [List.eq_nil_iff_forall_not_mem]
    intro i hi
    obtain ⟨x, hx, _⟩ := (hl i).1 (mem_ready.1 hi).1
    cases hx
  | succ fuel ih =>
    intro listed L σ τ φ a w hlen hl hc hops hp hf hr hQ hsz hcl
    refine ⟨fun hnil => ?_, fun i hi => ?_⟩
    · cases L with
      | nil =>
        simp only [runL, Option.some.injEq] at hr
        subst hr
        exact hQ φ a w hc
      | cons x L =>
        have := first listed x L hl hops hp hsz
        rw [hnil] at this
        cases this
    · obtain ⟨hun, oi, hoi, hall⟩ := mem_ready.1 hi
      obtain ⟨x, hx, rfl⟩ := (hl i).1 hun
      have hxo := hops x hx
      rw [hoi] at hxo
      obtain rfl := Option.some.inj hxo
      obtain ⟨L1, L2, rfl⟩ := List.append_of_mem hx
      have hpp := List.pairwise_append.1 hp
      have hp2 := List.pairwise_cons.1 hpp.2.1
      obtain ⟨σ1, τ', g1, g2, gs⟩ := moveFront (fun y hy => by
        have hlt := (hpp.2.2 y hy x (by simp)).1
        have hyo := hops y (by simp [hy])
        rcases (orderOK_spec hord hoi).2 y.2.1 y.2.2 hlt hyo with hdep | hind
        · exfalso
          have h2 := (hl y.2.1).2 ⟨y, by simp [hy], rfl⟩
          have h1 := ancs_spec (ops := ops) (D := fun m => listed.getD m true = true) hcl (os := ops.toList) (ps := []) (as := []) rfl rfl (fun m o hm => absurd hm (by simp)) x.2.1 x.2.2 hoi (fun e he hb => by
            have h3 := hall e he hb
            have h4 := (orderOK_spec hord hoi).1 e he hb
            have h5 : e.on < listed.size := by rw [hsz]; have := (Array.getElem?_eq_some_iff.1 hoi).1; omega
            simpa [h5] using h3) y.2.1 hdep
          rw [h1] at h2
          cases h2
        · refine ⟨?_, hind.2⟩
          rcases hind.1 with h' | h' | ⟨h1, h2⟩ | h'
          · exact .inl h'
          · exact .inr (.inl h')
          · have hne := (hpp.2.2 y hy x (by simp)).2 (allocs_of h1)
            exact .inr (.inr (.inl ⟨h1, h2, by omega⟩))
          · exact .inr (.inr (.inr h'))) (fun ha => free_obj hc (hf x hx (allocs_of ha))) hr
      refine step_sound hΓ hfix hc hok hoi (L := L1 ++ L2) (hf x hx) (fun y hy => hf y (by
        rcases List.mem_append.1 hy with hy | hy
        · simp [hy]
        · simp [hy])) (fun y hy ha hb e => ?_) g1 fun φ' a' w' hc' hf' => ?_
      · rcases List.mem_append.1 hy with hy | hy
        · have := (hpp.2.2 y hy x (by simp)).2 hb
          omega
        · have := (hp2.1 y hy).2 ha
          omega
      · refine ih (listed.setIfInBounds x.2.1 true) (L := L1 ++ L2) (τ := τ') ?_ ?_ hc' ?_ ?_ hf' g2 ?_ (by simp [hsz]) ?_
        · simp at hlen ⊢; omega
        · intro i
          have hxs : x.2.1 < listed.size := by rw [hsz]; exact (Array.getElem?_eq_some_iff.1 hoi).1
          by_cases hxi : x.2.1 = i
          · subst hxi
            constructor
            · intro h; simp [hxs] at h
            · rintro ⟨y, hy, hye⟩
              exfalso
              rcases List.mem_append.1 hy with hy | hy
              · have := (hpp.2.2 y hy x (by simp)).1
                omega
              · have := (hp2.1 y hy).1
                omega
          · rw [getD_set_ne true hxi, hl i]
            constructor
            · rintro ⟨y, hy, hye⟩
              refine ⟨y, ?_, hye⟩
              rcases List.mem_append.1 hy with hy | hy
              · simp [hy]
              · rcases List.mem_cons.1 hy with rfl | hy
                · exact absurd hye hxi
                · simp [hy]
            · rintro ⟨y, hy, hye⟩
              refine ⟨y, ?_, hye⟩
              rcases List.mem_append.1 hy with hy | hy
              · simp [hy]
              · simp [hy]
        · intro y hy
          refine hops y ?_
          rcases List.mem_append.1 hy with hy | hy
          · simp [hy]
          · simp [hy]
        · rw [List.pairwise_append]
          exact ⟨hpp.1, hp2.2, fun y hy z hz => hpp.2.2 y hy z (by simp [hz])⟩
        · exact fun φ'' a'' w'' hc'' => hQ φ'' a'' w'' (hc''.sim gs.symm)
        · intro m o ho hm e he hb
          have hxs : x.2.1 < listed.size := by rw [hsz]; exact (Array.getElem?_eq_some_iff.1 hoi).1
          have key : listed.getD e.on true = true := by
            by_cases hxm : x.2.1 = m
            · subst hxm
              rw [hoi] at ho
              obtain rfl := Option.some.inj ho
              have h3 := hall e he hb
              have h4 := (orderOK_spec hord hoi).1 e he hb
              have h5 : e.on < listed.size := by rw [hsz]; have := (Array.getElem?_eq_some_iff.1 hoi).1; omega
              simpa [h5] using h3
            · rw [getD_set_ne true hxm] at hm
              exact hcl m o ho hm e he hb
          by_cases hxe : x.2.1 = e.on
          · rw [← hxe]; simp [hxs]
          · rw [getD_set_ne true hxe]; exact key

theorem Conc.growOne (h : Conc N0 w0 nt σ φ a w) : Conc N0 w0 nt { σ with H := σ.H ++ [.row 0 []] } (φ ++ [.free]) a w := by
  have hget : ∀ m : Nat, (φ ++ [Own.free])[m]? = if m = φ.length then some .free else φ[m]? := fun m => by
    rw [List.getElem?_append]
    split
    · rw [if_neg (by omega)]
    · split
      · rename_i h1 h2; subst h2; simp
      · rename_i h1 h2
        rw [List.getElem?_eq_none (by simp; omega), List.getElem?_eq_none (by omega)]
  have hat : ∀ m b k : Nat, (φ ++ [Own.free])[m]? = some (Own.loc b k) → φ[m]? = some (.loc b k) := fun m b k hm => by
    rw [hget] at hm
    split at hm
    · simp at hm
    · exact hm
  have hext : Ext (fun _ => True) (envOf N0 φ w) (envOf N0 (φ ++ [.free]) w) := {
    size := Nat.le_refl _
    blk := fun b _ hn => ⟨by
      rintro (h0 | ⟨m, k, hm⟩)
      · exact hn (.inl h0)
      · exact hn (.inr ⟨m, k, hat m b k hm⟩), rfl⟩
    refs := fun m o _ hm _ => by
      have hlt : m < φ.length := (List.getElem?_eq_some_iff.1 hm).1
      show (φ ++ [Own.free])[m]? = some o
      rw [hget, if_neg (by omega)]; exact hm
    own := fun m b k c e fr _ hm hc => ⟨c, fr, hc, rfl⟩ }
  exact {
    slots := fun d => Rep.mono hext _ _ (h.slots d) (fun _ _ => trivial)
    size := h.size
    defers := h.defers
    len := by simp [h.len]
    objs := fun m o p hm hp => by
      rw [hget] at hp
      rw [nthO_eq, List.getElem?_append] at hm
      split at hp
      · rename_i e
        simp at hp
        subst hp
        rw [if_neg (by rw [← h.len]; omega), show m - σ.H.length = 0 by rw [← h.len]; omega] at hm
        simp at hm
        subst hm
        simp [ObjRel]
      · rename_i e
        have hlt : m < φ.length := (List.getElem?_eq_some_iff.1 hp).1
        rw [if_pos (by rw [← h.len]; exact hlt)] at hm
        exact ObjRel.mono hext (h.objs m o p (by rw [nthO_eq]; exact hm) hp) (fun b k _ c e fr hh => hh) (fun _ _ _ _ => trivial)
    own := fun m b k hm => h.own m b k (hat m b k hm)
    inj := fun m m' b k k' hm hm' => h.inj m m' b k k' (hat m b k hm) (hat m' b k' hm')
    n0 := h.n0
    fixd := fun m p hf hp hfree => by
      have := h.fixd m p hf hp hfree
      have hlt : m < φ.length := (List.getElem?_eq_some_iff.1 this).1
      rw [List.getElem?_append_left hlt]; exact this
    below := h.below }

theorem growH_len (op : Op) : (grow P op σ).H.length = nxt P op σ.H.length := by
  unfold grow nxt
  split <;> simp

theorem pre_sound : ∀ (os : List Oper) (i : Nat) {σ : St} {φ : List Own}, Conc N0 w0 nt σ φ a w → ∃ φ', Conc N0 w0 nt (pre P os σ) φ' a w ∧ (∀ y ∈ ann P σ.H.length i os, allocs P y.2.2.op = true → φ'[y.1]? = some .free) ∧
    ∀ m : Nat, φ[m]? = some Own.free → φ'[m]? = some Own.free
  | [], i, σ, φ, h => ⟨φ, h, by simp [ann], fun _ h => h⟩
  | o :: os, i, σ, φ, h => by
    have hg : ∃ φ1, Conc N0 w0 nt (grow P o.op σ) φ1 a w ∧ (allocs P o.op = true → φ1[σ.H.length]? = some .free) ∧ ∀ m : Nat, φ[m]? = some Own.free → φ1[m]? = some Own.free := by
      unfold grow
      split
      · refine ⟨φ ++ [.free], h.growOne, fun _ => by rw [← h.len]; simp, fun m hm => ?_⟩
        have hlt : m < φ.length := (List.getElem?_eq_some_iff.1 hm).1
        rw [List.getElem?_append_left hlt]
        exact hm
      · rename_i ha
        exact ⟨φ, h, fun h => absurd h ha, fun _ h => h⟩
    obtain ⟨φ1, h1, hf, hk⟩ := hg
    obtain ⟨φ', h2, hf2, hk2⟩ := pre_sound os (i + 1) h1
    refine ⟨φ', h2, fun y hy ha => ?_, fun m hm => hk2 m (hk m hm)⟩
    simp only [ann, List.mem_cons] at hy
    rcases hy with rfl | hy
    · exact hk2 _ (hf ha)
    · rw [growH_len] at hf2
      exact hf2 y hy ha

theorem region_sound (hΓ : TabOK P Γ) (hfix : w0.fix = Γ.fix) (hm : P.follows .mixedOrders = true) (h : Conc N0 w0 nt σ φ a w) {id : Nat} {ops : Array Oper} {d : Bool} (hok : dstOK nt ops = true) (hord : d = true → orderOK P Γ ops = true) {τ : St}
    (hr : runSeq P Γ (dstsOf ops.toList) ops.toList σ.H.length (pre P ops.toList σ) = some τ) {Q : Exit → Act → World → Prop} (hQ : ∀ φ' a' w', Conc N0 w0 nt τ φ' a' w' → Q .normal a' w') : (Code.region id ops d).wp P Q a w := by
  rw [runSeq_runL P Γ _ _ _ 0] at hr
  have hops : ∀ x ∈ ann P σ.H.length 0 ops.toList, ops[x.2.1]? = some x.2.2 := fun x hx => by
    have := (ann_mem P _ _ _ x hx).2.2
    simpa using this
  have hp := ann_pair P ops.toList σ.H.length 0
  have hidx := ann_idx P ops.toList σ.H.length 0
  simp only [Nat.zero_add, Array.length_toList] at hidx
  have hidx' : (ann P σ.H.length 0 ops.toList).map (·.2.1) = List.range ops.size := by rw [hidx]; simp
  cases d with
  | false =>
    obtain ⟨φ', hc, hf, _⟩ := pre_sound (P := P) ops.toList 0 h
    refine wp_region ?_
    rw [← hidx']
    exact text_sound hΓ hfix hok hc hops hp hf hr hQ
  | true =>
    have hgr : Grew w { w with drawn := w.drawn + 1 } := Grew.drew w
    obtain ⟨φ', hc, hf, _⟩ := pre_sound (P := P) ops.toList 0 (h.grew hgr)
    refine wp_region_any hm ?_
    refine any_sound hΓ hfix hok (hord rfl) ops.size _ (L := ann P σ.H.length 0 ops.toList) ?_ ?_ hc hops hp hf hr hQ (by simp) (fun m o ho hm => by have := (Array.getElem?_eq_some_iff.1 ho).1; simp [this] at hm)
    · have := congrArg List.length hidx'
      simp at this
      omega
    · intro i
      have hmem : (∃ x ∈ ann P σ.H.length 0 ops.toList, x.2.1 = i) ↔ i < ops.size := by
        rw [← List.mem_range, ← hidx', List.mem_map]
      rw [hmem]
      by_cases hi : i < ops.size <;> simp [hi]

/-- Every order that the edges leave runs, and leads to 'q'. -/
def GoodO (P : Program) (Γ : Tab) (ops : Array Oper) (B : List (Nat × Oper)) (q : St → Prop) : Nat → List Nat → St → Prop
  | 0, L, σ => L = [] ∧ q σ
  | f + 1, L, σ => ∀ i ∈ L, readyI ops L i = true → ∃ x σ', nthA B i = some x ∧ exec1 P Γ (dstsOf ops.toList) x.1 x.2 σ = some σ' ∧ GoodO P Γ ops B q f (L.erase i) σ'
theorem good_sim {ops : Array Oper} {B : List (Nat × Oper)} {q : St → Prop} (hq : ∀ {σ τ : St}, simS σ τ → q σ → q τ) : ∀ {f : Nat} {L : List Nat} {σ τ : St}, simS σ τ → GoodO P Γ ops B q f L σ → GoodO P Γ ops B q f L τ
  | 0, L, σ, τ, hs, h => ⟨h.1, hq hs h.2⟩
  | f + 1, L, σ, τ, hs, h => fun i hi hr => by
    obtain ⟨x, σ', h1, h2, h3⟩ := h i hi hr
    obtain ⟨τ', h4, h5⟩ := exec1_sim hs h2
    exact ⟨x, τ', h1, h4, good_sim hq h5 h3⟩
theorem ready_spec {ops : Array Oper} {L : List Nat} {i : Nat} (h : readyI ops L i = true) : ∃ o, ops[i]? = some o ∧ ∀ e ∈ o.after, Region.binds .any e = true → e.on ∉ L := by
  unfold readyI at h
  cases ho : ops[i]? with
  | none => rw [ho] at h; cases h
  | some o =>
    rw [ho] at h
    simp only [List.all_eq_true] at h
    refine ⟨o, rfl, fun e he hb hm => ?_⟩
    have := h e (by simpa using he)
    simp [hb, hm] at this
theorem ready_of {ops : Array Oper} {L : List Nat} {i : Nat} {o : Oper} (ho : ops[i]? = some o) (h : ∀ e ∈ o.after, Region.binds .any e = true → e.on ∉ L) : readyI ops L i = true := by
  unfold readyI
  rw [ho]
  simp only [List.all_eq_true]
  intro e he
  have := h e (by simpa using he)
  cases hb : Region.binds .any e with
  | false => rfl
  | true => simp [this hb]
theorem ready_erase {ops : Array Oper} {L : List Nat} {i j : Nat} (h : readyI ops L i = true) : readyI ops (L.erase j) i = true := by
  obtain ⟨o, ho, h1⟩ := ready_spec h
  exact ready_of ho fun e he hb hm => h1 e he hb (List.mem_of_mem_erase hm)
/-- What is done is done with all that it waits for. -/
def Closed (ops : Array Oper) (L : List Nat) : Prop := ∀ (m : Nat) (o : Oper), ops[m]? = some o → m ∉ L → ∀ e ∈ o.after, Region.binds .any e = true → e.on ∉ L
theorem closed_erase {ops : Array Oper} {L : List Nat} {i : Nat} (hn : L.Nodup) (hc : Closed ops L) (hr : readyI ops L i = true) : Closed ops (L.erase i) := fun m o ho hm e he hb hme => by
  obtain ⟨o', ho', h1⟩ := ready_spec hr
  have hL := List.mem_of_mem_erase hme
  by_cases hmi : m = i
  · subst hmi
    rw [ho] at ho'
    obtain rfl := Option.some.inj ho'
    exact h1 e he hb hL
  · exact hc m o ho (fun hmL => hm ((List.mem_erase_of_ne hmi).2 hmL)) e he hb hL
theorem nthA_inj {ops : Array Oper} {B : List (Nat × Oper)} (hB : ∀ (i : Nat) (x : Nat × Oper), nthA B i = some x → ops[i]? = some x.2) {i : Nat} {x : Nat × Oper} {o : Oper} (h : nthA B i = some x) (ho : ops[i]? = some o) : x.2 = o := by
  have := hB i x h
  rw [ho] at this
  exact (Option.some.inj this).symm
/-- One that may come behind all that do not wait for it, put ahead. -/
theorem good_front {ops : Array Oper} {B : List (Nat × Oper)} {q : St → Prop} (hq : ∀ {σ τ : St}, simS σ τ → q σ → q τ) (hB : ∀ (i : Nat) (x : Nat × Oper), nthA B i = some x → ops[i]? = some x.2) :
    ∀ {f : Nat} {L : List Nat} {i : Nat} {x : Nat × Oper} {σ σ1 : St}, L.Nodup → Closed ops L → i ∈ L → readyI ops L i = true → (∀ y ∈ L, y ≠ i → ((ancs ops.toList []).getD y 0).testBit i = true ∨ commI P Γ ops i y = true) →
    nthA B i = some x → exec1 P Γ (dstsOf ops.toList) x.1 x.2 σ = some σ1 → GoodO P Γ ops B q f (L.erase i) σ1 → GoodO P Γ ops B q (f + 1) L σ := by
  intro f
  induction f with
  | zero =>
    intro L i x σ σ1 hn hc hi hr hcom hx h1 hg j hj hrj
    have hL : L.erase i = [] := hg.1
    by_cases hji : j = i
    · subst hji; exact ⟨x, σ1, hx, h1, hg⟩
    · have := (List.mem_erase_of_ne hji).2 hj
      rw [hL] at this; cases this
  | succ f ih =>
    intro L i x σ σ1 hn hc hi hr hcom hx h1 hg j hj hrj
    by_cases hji : j = i
    · subst hji; exact ⟨x, σ1, hx, h1, hg⟩
    · have hje := (List.mem_erase_of_ne hji).2 hj
      obtain ⟨y, σ2, hy, h2, hg2⟩ := hg j hje (ready_erase hrj)
      have hcm : commI P Γ ops i j = true := by
        rcases hcom j hj hji with h | h
        · exfalso
          obtain ⟨o, ho, hdone⟩ := ready_spec hrj
          exact ancs_spec (ops := ops) (D := fun m => m ∉ L) (fun m o ho hm e he hb => hc m o ho hm e he hb) (os := ops.toList) (ps := []) (as := []) rfl rfl (fun m o hm => absurd hm (by simp)) j o ho hdone i h hi
        · exact h
      obtain ⟨oi, hoi, _⟩ := ready_spec hr
      obtain ⟨oj, hoj, _⟩ := ready_spec hrj
      have e1 := nthA_inj hB hx hoi
      have e2 := nthA_inj hB hy hoj
      unfold commI at hcm
      rw [hoi, hoj] at hcm
      simp only [Bool.and_eq_true, Bool.or_eq_true] at hcm
      obtain ⟨hk, hap⟩ := hcm
      rw [e1] at h1
      rw [e2] at h2
      have hsw : ∃ σ1' σ2', exec1 P Γ (dstsOf ops.toList) y.1 oj σ = some σ1' ∧ exec1 P Γ (dstsOf ops.toList) x.1 oi σ1' = some σ2' ∧ simS σ2 σ2' := by
        rcases hk with ⟨k1, k2⟩ | ⟨k1, k2⟩
        · exact swap1 k1 k2 hap h1 h2
        · exact swapS k1 k2 hap h1 h2
      obtain ⟨σ1', σ2', g1, g2, gs⟩ := hsw
      refine ⟨y, σ1', hy, by rw [e2]; exact g1, ?_⟩
      refine ih (L := L.erase j) (i := i) (x := x) (σ1 := σ2') (hn.erase j) (closed_erase hn hc hrj) ((List.mem_erase_of_ne (Ne.symm hji)).2 hi) (ready_erase hr) (fun z hz hzi => hcom z (List.mem_of_mem_erase hz) hzi) hx (by rw [e1]; exact g2) ?_
      rw [List.erase_comm]
      exact good_sim hq gs hg2
theorem cov_sound {ops : Array Oper} {B : List (Nat × Oper)} {q : St → Prop} (hq : ∀ {σ τ : St}, simS σ τ → q σ → q τ) (hB : ∀ (i : Nat) (x : Nat × Oper), nthA B i = some x → ops[i]? = some x.2) :
    ∀ {f : Nat} {L : List Nat} {rs : List (List Nat)} {σ : St}, L.Nodup → Closed ops L → cov P Γ ops (ancs ops.toList []) f L rs = true → (∀ r ∈ rs, ∃ τ, runO P Γ (dstsOf ops.toList) B r σ = some τ ∧ q τ) → GoodO P Γ ops B q f L σ := by
  intro f
  induction f with
  | zero =>
    intro L rs σ hn hc h hr
    simp only [cov, Bool.and_eq_true] at h
    obtain ⟨⟨h1, h2⟩, h3⟩ := h
    cases rs with
    | nil => simp at h2
    | cons r rs =>
      obtain ⟨τ, hτ, hqτ⟩ := hr r (by simp)
      have hre : r = [] := by
        have := (List.all_eq_true.1 h3) r (by simp)
        simpa using this
      subst hre
      simp only [runO, Option.some.injEq] at hτ
      subst hτ
      exact ⟨by simpa using h1, hqτ⟩
  | succ f ih =>
    intro L rs σ hn hc h hr
    cases rs with
    | nil => simp [cov] at h
    | cons r0 rs =>
      cases r0 with
      | nil => simp [cov] at h
      | cons i r0 =>
        simp only [cov] at h
        split at h
        · rename_i hs
          simp only [Bool.and_eq_true, List.all_eq_true] at hs
          obtain ⟨⟨⟨s1, s2⟩, s3⟩, s4⟩ := hs
          obtain ⟨τ, hτ, _⟩ := hr (i :: r0) (by simp)
          simp only [runO] at hτ
          cases hx : nthA B i with
          | none => rw [hx] at hτ; simp at hτ
          | some x =>
            rw [hx] at hτ
            simp only [Option.bind_some] at hτ
            cases h1 : exec1 P Γ (dstsOf ops.toList) x.1 x.2 σ with
            | none => rw [h1] at hτ; simp at hτ
            | some σ1 =>
              refine good_front hq hB hn hc (by simpa using s2) s3 (fun y hy hne => ?_) hx h1 (ih (hn.erase i) (closed_erase hn hc s3) h fun r' hr' => ?_)
              · have := s4 y hy
                simp only [Bool.or_eq_true, beq_iff_eq] at this
                rcases this with (h | h) | h
                · exact absurd h hne
                · exact .inl h
                · exact .inr h
              · obtain ⟨r, hrm, rfl⟩ := List.mem_map.1 hr'
                obtain ⟨τ', hτ', hq'⟩ := hr r hrm
                have hh := s1 r hrm
                cases r with
                | nil => simp at hh
                | cons k r =>
                  have : k = i := by simpa using hh
                  subst this
                  simp only [runO, hx, Option.bind_some, h1] at hτ'
                  exact ⟨τ', hτ', hq'⟩
        · rename_i hs
          rw [List.all_eq_true] at h
          intro j hj hrj
          have hcj := h j hj
          rw [hrj] at hcj
          simp only [Bool.not_true, Bool.false_or] at hcj
          -- some order begins with j
          have hne : ∃ r, r ∈ (List.filterMap (fun r : List Nat => if r.head? = some j then some r.tail else none) ((i :: r0) :: rs)) := by
            cases hf : (List.filterMap (fun r : List Nat => if r.head? = some j then some r.tail else none) ((i :: r0) :: rs)) with
            | nil =>
              rw [hf] at hcj
              cases f <;> simp [cov] at hcj
            | cons a as => exact ⟨a, by simp⟩
          have back : ∀ r', r' ∈ (List.filterMap (fun r : List Nat => if r.head? = some j then some r.tail else none) ((i :: r0) :: rs)) → ∃ τ, runO P Γ (dstsOf ops.toList) B (j :: r') σ = some τ ∧ q τ := fun r' hr' => by
            obtain ⟨r, hrm, hh⟩ := List.mem_filterMap.1 hr'
            split at hh
            · rename_i hd
              obtain rfl := Option.some.inj hh
              cases r with
              | nil => simp at hd
              | cons k r =>
                have : k = j := by simpa using hd
                subst this
                exact hr _ hrm
            · cases hh
          obtain ⟨r1, hr1⟩ := hne
          obtain ⟨τ, hτ, _⟩ := back r1 hr1
          simp only [runO] at hτ
          cases hx : nthA B j with
          | none => rw [hx] at hτ; simp at hτ
          | some x =>
            rw [hx] at hτ
            simp only [Option.bind_some] at hτ
            cases h1 : exec1 P Γ (dstsOf ops.toList) x.1 x.2 σ with
            | none => rw [h1] at hτ; simp at hτ
            | some σ1 =>
              refine ⟨x, σ1, rfl, h1, ih (hn.erase j) (closed_erase hn hc hrj) hcj fun r' hr' => ?_⟩
              obtain ⟨τ', hτ', hq'⟩ := back r' hr'
              simp only [runO, hx, Option.bind_some, h1] at hτ'
              exact ⟨τ', hτ', hq'⟩
theorem nthA_annS : ∀ (os : List Oper) (n i : Nat) (x : Nat × Oper), nthA (annS P n os) i = some x → os[i]? = some x.2 ∧ n ≤ x.1
  | [], _, _, _, h => by simp [annS, nthA] at h
  | o :: os, n, 0, x, h => by
    simp only [annS, nthA, Option.some.injEq] at h
    subst h; exact ⟨rfl, Nat.le_refl _⟩
  | o :: os, n, i + 1, x, h => by
    simp only [annS, nthA] at h
    obtain ⟨h1, h2⟩ := nthA_annS os _ i x h
    exact ⟨by simpa using h1, Nat.le_trans (nxt_le P o.op n) h2⟩
theorem nthA_apart : ∀ (os : List Oper) (n i j : Nat) (x y : Nat × Oper), nthA (annS P n os) i = some x → nthA (annS P n os) j = some y → i ≠ j → allocs P x.2.op = true → allocs P y.2.op = true → x.1 ≠ y.1
  | [], _, _, _, _, _, h, _, _, _, _ => by simp [annS, nthA] at h
  | o :: os, n, 0, 0, x, y, _, _, h, _, _ => absurd rfl h
  | o :: os, n, 0, j + 1, x, y, h, h', _, ha, _ => by
    simp only [annS, nthA, Option.some.injEq] at h h'
    subst h
    have := (nthA_annS os _ j y h').2
    have h2 : nxt P o.op n = n + 1 := by unfold nxt; rw [if_pos ha]
    show n ≠ y.1
    omega
  | o :: os, n, i + 1, 0, x, y, h, h', _, _, ha => by
    simp only [annS, nthA, Option.some.injEq] at h h'
    subst h'
    have := (nthA_annS os _ i x h).2
    have h2 : nxt P o.op n = n + 1 := by unfold nxt; rw [if_pos ha]
    show x.1 ≠ n
    omega
  | o :: os, n, i + 1, j + 1, x, y, h, h', hne, ha, hb => by
    simp only [annS, nthA] at h h'
    exact nthA_apart os _ i j x y h h' (by omega) ha hb
theorem nthA_ann : ∀ (os : List Oper) (n k i : Nat) (x : Nat × Oper), nthA (annS P n os) i = some x → (x.1, k + i, x.2) ∈ ann P n k os
  | [], _, _, _, _, h => by simp [annS, nthA] at h
  | o :: os, n, k, 0, x, h => by
    simp only [annS, nthA, Option.some.injEq] at h
    subst h; simp [ann]
  | o :: os, n, k, i + 1, x, h => by
    simp only [annS, nthA] at h
    have := nthA_ann os _ (k + 1) i x h
    simp only [ann, List.mem_cons]
    right
    rwa [show k + 1 + i = k + (i + 1) by omega] at this
/-- From all orders of the abstract executor to the model's. -/
theorem good_sound (hΓ : TabOK P Γ) (hfix : w0.fix = Γ.fix) {ops : Array Oper} (hok : dstOK nt ops = true) {B : List (Nat × Oper)} (hB : ∀ (i : Nat) (x : Nat × Oper), nthA B i = some x → ops[i]? = some x.2)
    (hBa : ∀ (i j : Nat) (x y : Nat × Oper), nthA B i = some x → nthA B j = some y → i ≠ j → allocs P x.2.op = true → allocs P y.2.op = true → x.1 ≠ y.1)
    (hlow : ∀ (i : Nat) (o : Oper), ops[i]? = some o → ∀ e ∈ o.after, Region.binds .any e = true → e.on < i) {q : St → Prop} {Q : Exit → Act → World → Prop} (hQ : ∀ τ φ' a' w', q τ → Conc N0 w0 nt τ φ' a' w' → Q .normal a' w') :
    ∀ (f fuel : Nat) (listed : Array Bool) {L : List Nat} {σ : St} {φ : List Own} {a : Act} {w : World}, L.length = f → f ≤ fuel → L.Nodup → (∀ i, listed.getD i true = false ↔ i ∈ L) → (∀ i ∈ L, i < ops.size) →
    Conc N0 w0 nt σ φ a w → (∀ i ∈ L, ∀ x, nthA B i = some x → allocs P x.2.op = true → φ[x.1]? = some .free) → GoodO P Γ ops B q f L σ → listed.size = ops.size → wpAny P .any ops Q fuel listed a w := by
  intro f
  induction f with
  | zero =>
    intro fuel listed L σ φ a w hlen hfu hn hl hsz hc hf hg hls
    have hnone : Region.ready .any ops listed = [] := by
      rw [List.eq_nil_iff_forall_not_mem]
      intro i hi
      have := (hl i).1 (mem_ready.1 hi).1
      rw [hg.1] at this; cases this
    cases fuel with
    | zero => exact ⟨hnone, hQ _ _ _ _ hg.2 hc⟩
    | succ fuel => exact ⟨fun _ => hQ _ _ _ _ hg.2 hc, fun i hi => by rw [hnone] at hi; cases hi⟩
  | succ f ih =>
    intro fuel listed L σ φ a w hlen hfu hn hl hsz hc hf hg hls
    cases fuel with
    | zero => omega
    | succ fuel =>
      have toReady : ∀ i ∈ L, readyI ops L i = true → i ∈ Region.ready .any ops listed := fun i hi hr => by
        obtain ⟨o, ho, h1⟩ := ready_spec hr
        rw [mem_ready]
        refine ⟨(hl i).2 hi, o, ho, fun e he hb => ?_⟩
        have h2 := h1 e he hb
        have h3 : listed.getD e.on true = true := by
          cases hg : listed.getD e.on true
          · exact absurd ((hl e.on).1 hg) h2
          · rfl
        have h4 := hlow i o ho e he hb
        have h5 : e.on < listed.size := by rw [hls]; have := hsz i hi; omega
        simpa [h5] using h3
      refine ⟨fun hnil => ?_, fun i hi => ?_⟩
      · exfalso
        -- the least of those that are left is ready
        have hne : L ≠ [] := fun e => by rw [e] at hlen; simp at hlen
        obtain ⟨m, hm, hmin⟩ : ∃ m ∈ L, ∀ y ∈ L, m ≤ y := by
          clear hg hf hl hn hlen hfu toReady hsz
          induction L with
          | nil => exact absurd rfl hne
          | cons x L ih2 =>
            cases L with
            | nil => exact ⟨x, by simp, fun y hy => by simp at hy; omega⟩
            | cons z L =>
              obtain ⟨m, hm, hmin⟩ := ih2 (by simp)
              by_cases hxm : x ≤ m
              · exact ⟨x, by simp, fun y hy => by
                  rcases List.mem_cons.1 hy with rfl | hy
                  · exact Nat.le_refl _
                  · have := hmin y hy; omega⟩
              · exact ⟨m, by simp [hm], fun y hy => by
                  rcases List.mem_cons.1 hy with rfl | hy
                  · omega
                  · exact hmin y hy⟩
        have hms := hsz m hm
        have := toReady m hm (ready_of (Array.getElem?_eq_getElem hms) fun e he hb hmem => by
          have h1 := hlow m _ (Array.getElem?_eq_getElem hms) e he hb
          have h2 := hmin _ hmem
          omega)
        rw [hnil] at this; cases this
      · obtain ⟨hun, oi, hoi, hall⟩ := mem_ready.1 hi
        have hiL := (hl i).1 hun
        have hri : readyI ops L i = true := ready_of hoi fun e he hb hmem => by
          have h1 := hall e he hb
          have h2 := (hl e.on).2 hmem
          have h4 := hlow i oi hoi e he hb
          have h5 : e.on < listed.size := by rw [hls]; have := hsz i hiL; omega
          simp [h5] at h1 h2
          rw [h1] at h2; cases h2
        obtain ⟨x, σ1, hx, h1, hg1⟩ := hg i hiL hri
        have hxo : ops[i]? = some x.2 := hB i x hx
        refine step_sound hΓ hfix hc hok (x := (x.1, i, x.2)) hxo (L := ((L.erase i).filterMap fun j => (nthA B j).map fun y => (y.1, j, y.2))) (fun ha => hf i hiL x hx ha) (fun y hy ha => ?_) (fun y hy ha hb => ?_) h1 fun φ' a' w' hc' hf' => ?_
        · obtain ⟨j, hj, hy'⟩ := List.mem_filterMap.1 hy
          obtain ⟨y', hy1, rfl⟩ := Option.map_eq_some_iff.1 hy'
          exact hf j (List.mem_of_mem_erase hj) y' hy1 ha
        · obtain ⟨j, hj, hy'⟩ := List.mem_filterMap.1 hy
          obtain ⟨y', hy1, rfl⟩ := Option.map_eq_some_iff.1 hy'
          have hji : j ≠ i := fun e => by subst e; exact absurd hj (List.Nodup.not_mem_erase hn)
          exact hBa j i y' x hy1 hx hji hb ha
        · refine ih fuel (listed.setIfInBounds i true) (L := L.erase i) (by rw [List.length_erase_of_mem hiL]; omega) (by omega) (hn.erase i) ?_ (fun j hj => hsz j (List.mem_of_mem_erase hj)) hc' (fun j hj y hy ha => hf' (y.1, j, y.2) (List.mem_filterMap.2 ⟨j, hj, by rw [hy]; rfl⟩) ha) hg1 (by simp [hls])
          intro j
          have his : i < listed.size := by rw [hls]; exact hsz i hiL
          by_cases hij : i = j
          · subst hij
            constructor
            · intro h; simp [his] at h
            · intro h; exact absurd h (List.Nodup.not_mem_erase hn)
          · rw [getD_set_ne true hij, hl j, List.mem_erase_of_ne (Ne.symm hij)]
theorem ordsW_iff {ds : List (Option Tmp)} {B : List (Nat × Oper)} {q : St → Prop} : ∀ {os : List (List Nat)}, ordsW P Γ ds B σ q os → ∀ r ∈ os, ∃ τ, runO P Γ ds B r σ = some τ ∧ q τ
  | [], _, r, hr => by cases hr
  | o :: os, h, r, hr => by
    obtain ⟨⟨τ, h1, h2⟩, h3⟩ := h
    rcases List.mem_cons.1 hr with rfl | hr
    · exact ⟨τ, h1, h2⟩
    · exact ordsW_iff h3 r hr
theorem region_sound_ords (hΓ : TabOK P Γ) (hfix : w0.fix = Γ.fix) (hm : P.follows .mixedOrders = true) (h : Conc N0 w0 nt σ φ a w) {id : Nat} {ops : Array Oper} (hok : dstOK nt ops = true) {os : List (List Nat)} (hord : ordsOK P Γ ops os = true) {q : St → Prop}
    (hr : ordsW P Γ (dstsOf ops.toList) (annS P σ.H.length ops.toList) (pre P ops.toList σ) q os) {Q : Exit → Act → World → Prop} (hQ : ∀ τ φ' a' w', q τ → Conc N0 w0 nt τ φ' a' w' → Q .normal a' w') : (Code.region id ops true).wp P Q a w := by
  have hgr : Grew w { w with drawn := w.drawn + 1 } := Grew.drew w
  obtain ⟨φ', hc, hf, _⟩ := pre_sound (P := P) ops.toList 0 (h.grew hgr)
  refine wp_region_any hm ?_
  unfold ordsOK at hord
  rw [Bool.and_eq_true] at hord
  obtain ⟨hlow, hcov⟩ := hord
  rw [List.all_eq_true] at hlow
  have hB : ∀ (i : Nat) (x : Nat × Oper), nthA (annS P σ.H.length ops.toList) i = some x → ops[i]? = some x.2 := fun i x hx => by
    have := (nthA_annS _ _ _ _ hx).1
    simpa using this
  -- whatever the slots' history, all that is asked is asked of what the state says
  have hg := cov_sound (q := fun τ => ∃ τ', simS τ' τ ∧ q τ') (B := annS P σ.H.length ops.toList) (fun hs ⟨τ', h1, h2⟩ => ⟨τ', h1.trans hs, h2⟩) hB (List.nodup_range) (fun m o ho hm => by
    have := (Array.getElem?_eq_some_iff.1 ho).1
    exact absurd (List.mem_range.2 this) hm) hcov (fun r hr' => by
      obtain ⟨τ, h1, h2⟩ := ordsW_iff hr r hr'
      exact ⟨τ, h1, τ, simS.refl τ, h2⟩)
  refine good_sound hΓ hfix hok hB (fun i j x y h1 h2 h3 h4 h5 => nthA_apart _ _ i j x y h1 h2 h3 h4 h5) (fun i o ho e he hb => by
    have h1 := hlow i (by simpa using (Array.getElem?_eq_some_iff.1 ho).1)
    rw [ho] at h1
    simp only [List.all_eq_true] at h1
    have h2 := h1 e (by simpa using he)
    simpa [hb] using h2) (fun τ φ'' a'' w'' ⟨τ', h1, h2⟩ hc' => hQ τ' φ'' a'' w'' h2 (hc'.sim h1.symm)) ops.size ops.size _ (by simp) (Nat.le_refl _) List.nodup_range ?_ (fun i hi => List.mem_range.1 hi) hc (fun i hi x hx ha => ?_) hg (by simp)
  · intro i
    by_cases hi : i < ops.size <;> simp [hi]
  · have := nthA_ann ops.toList σ.H.length 0 i x hx
    exact hf _ this ha
end

end Go.Abs
