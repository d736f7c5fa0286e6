/- Soundness, fifteenth part: the operations of a region in any order that the model may take; less known states. -/
import Derived.Test.YtddkjenabjplmaaAbsQ
namespace Go.Abs
open Go.RowKit

/-- The operations of a region with their objects' names and their places. -/
def ann (P : Program) : Nat → Nat → List Oper → List (Nat × Nat × Oper)
  | _, _, [] => []
  | n, i, o :: os => (n, i, o) :: ann P (nxt P o.op n) (i + 1) os
def runL (P : Program) (Γ : Tab) (ds : List (Option Tmp)) : List (Nat × Nat × Oper) → St → Option St
  | [], σ => some σ
  | x :: xs, σ => (exec1 P Γ ds x.1 x.2.2 σ).bind (runL P Γ ds xs)

theorem runSeq_runL (P : Program) (Γ : Tab) (ds : List (Option Tmp)) : ∀ (os : List Oper) (n i : Nat) (σ : St), runSeq P Γ ds os n σ = runL P Γ ds (ann P n i os) σ
  | [], _, _, _ => rfl
  | o :: os, n, i, σ => by
    simp only [runSeq, ann, runL]
    congr 1
    funext τ
    exact runSeq_runL P Γ ds os _ (i + 1) τ

theorem nxt_le (P : Program) (op : Op) (n : Nat) : n ≤ nxt P op n := by unfold nxt; split <;> omega
theorem ann_mem (P : Program) : ∀ (os : List Oper) (n i : Nat) (x : Nat × Nat × Oper), x ∈ ann P n i os → n ≤ x.1 ∧ i ≤ x.2.1 ∧ os[x.2.1 - i]? = some x.2.2
  | [], _, _, x, h => by simp [ann] at h
  | o :: os, n, i, x, h => by
    simp only [ann, List.mem_cons] at h
    rcases h with rfl | h
    · simp
    · obtain ⟨h1, h2, h3⟩ := ann_mem P os _ _ x h
      have := nxt_le P o.op n
      refine ⟨by omega, by omega, ?_⟩
      rw [show x.2.1 - i = (x.2.1 - (i + 1)) + 1 by omega]
      simpa using h3
theorem ann_pair (P : Program) : ∀ (os : List Oper) (n i : Nat), (ann P n i os).Pairwise (fun x y => x.2.1 < y.2.1 ∧ (allocs P x.2.2.op = true → x.1 < y.1))
  | [], _, _ => by simp [ann]
  | o :: os, n, i => by
    simp only [ann, List.pairwise_cons]
    refine ⟨fun y hy => ?_, ann_pair P os _ _⟩
    obtain ⟨h1, h2, _⟩ := ann_mem P os _ _ y hy
    refine ⟨by show i < y.2.1; omega, fun ha => ?_⟩
    have ha' : allocs P o.op = true := ha
    simp only [nxt, ha', if_true] at h1
    show n < y.1
    omega
theorem ann_idx (P : Program) : ∀ (os : List Oper) (n i : Nat), (ann P n i os).map (·.2.1) = (List.range os.length).map (i + ·)
  | [], _, _ => by simp [ann]
  | o :: os, n, i => by
    simp only [ann, List.map_cons, List.length_cons, List.range_succ_eq_map, List.map_map]
    rw [ann_idx P os]
    simp
    intro a _
    omega

def simS (σ τ : St) : Prop := (∀ d, look σ.s d = look τ.s d) ∧ σ.H = τ.H
theorem simS.refl (σ : St) : simS σ σ := ⟨fun _ => rfl, rfl⟩
theorem simS.symm {σ τ : St} (h : simS σ τ) : simS τ σ := ⟨fun d => (h.1 d).symm, h.2.symm⟩
theorem simS.trans {σ τ ρ : St} (h : simS σ τ) (h' : simS τ ρ) : simS σ ρ := ⟨fun d => (h.1 d).trans (h'.1 d), h.2.trans h'.2⟩
theorem simS.put {σ τ : St} (h : simS σ τ) (d : Option Tmp) (v : A) : simS (σ.put d v) (τ.put d v) := by
  cases d with
  | none => exact h
  | some d => exact ⟨fun t => by simp only [St.put, look]; split <;> first | rfl | exact h.1 t, h.2⟩
theorem simS.setH {σ τ : St} (h : simS σ τ) (n : Nat) (o : Obj) : simS (σ.setH n o) (τ.setH n o) := ⟨h.1, by simp only [St.setH, h.2]⟩
theorem simS.scrub {σ τ : St} (h : simS σ τ) (n : Nat) : simS (σ.scrub n) (τ.scrub n) :=
  ⟨fun d => by
    show look (σ.s.map fun p => (p.1, scrubA n p.2)) d = look (τ.s.map fun p => (p.1, scrubA n p.2)) d
    rw [look_map, look_map, h.1 d], by simp only [St.scrub, h.2]⟩
theorem simS.ev {σ τ : St} (h : simS σ τ) (x : Operand) : σ.ev x = τ.ev x := by
  cases x <;> simp only [St.ev]
  exact h.1 _

section
variable {P : Program} {Γ : Tab} {σ τ : St}

theorem evL_congr : ∀ {xs : List Operand}, (∀ x ∈ xs, σ.ev x = τ.ev x) → σ.evL xs = τ.evL xs
  | [], _ => rfl
  | x :: xs, h => by simp only [St.evL]; rw [h x (by simp), evL_congr (xs := xs) fun y hy => h y (by simp [hy])]
theorem bd_congr {o : Option Operand} (h : ∀ x, o = some x → σ.ev x = τ.ev x) : σ.bd o = τ.bd o := by
  cases o with
  | none => rfl
  | some x => simp only [St.bd]; rw [h x rfl]
theorem fillS_congr {t : TypeId} : ∀ {ps : List (Nat × Operand)} {zs : List A}, (∀ p ∈ ps, σ.ev p.2 = τ.ev p.2) → fillS P t σ ps zs = fillS P t τ ps zs
  | [], _, _ => rfl
  | (i, x) :: ps, zs, h => by
    simp only [fillS]
    rw [show σ.ev x = τ.ev x from h (i, x) (by simp)]
    split
    · congr 1
      funext zs'
      exact fillS_congr fun p hp => h p (by simp [hp])
    · rfl
theorem fillA_congr {t : TypeId} : ∀ {ps : List (Nat × Operand)} {zs : List A}, (∀ p ∈ ps, σ.ev p.2 = τ.ev p.2) → fillA P t σ ps zs = fillA P t τ ps zs
  | [], _, _ => rfl
  | (i, x) :: ps, zs, h => by
    simp only [fillA]
    rw [show σ.ev x = τ.ev x from h (i, x) (by simp)]
    split
    · congr 1
      funext zs'
      exact fillA_congr fun p hp => h p (by simp [hp])
    · rfl
theorem fillE_congr {k : Nat} : ∀ {ps : List (Nat × Operand)} {zs : List A}, (∀ p ∈ ps, σ.ev p.2 = τ.ev p.2) → fillE k σ ps zs = fillE k τ ps zs
  | [], _, _ => rfl
  | (i, x) :: ps, zs, h => by
    simp only [fillE]
    rw [show σ.ev x = τ.ev x from h (i, x) (by simp)]
    split
    · exact fillE_congr fun p hp => h p (by simp [hp])
    · rfl
theorem evalR_congr {op : Op} (hH : σ.H = τ.H) (h : ∀ x ∈ op.operands, σ.ev x = τ.ev x) : evalR P σ op = evalR P τ op := by
  unfold evalR
  split <;> simp only [Op.operands] at h
  · rw [h _ (by simp)]
  · rw [h _ (by simp)]
  · rw [h _ (by simp), h _ (by simp), h _ (by simp)]
  · rename_i t ps
    have hp : ∀ p ∈ ps.toList, σ.ev p.2 = τ.ev p.2 := fun p hp => h p.2 (by simp only [List.mem_toArray, List.mem_map]; exact ⟨p, hp, rfl⟩)
    unfold buildA
    split
    · split
      · rw [fillA_congr hp]
      · rw [fillS_congr hp]
    · rfl
  · rename_i t len ps
    have hp : ∀ p ∈ ps.toList, σ.ev p.2 = τ.ev p.2 := fun p hp => h p.2 (by simp only [List.mem_toArray, List.mem_map]; exact ⟨p, hp, rfl⟩)
    unfold buildSliceA
    split
    · split
      · rw [fillE_congr hp]
      · rfl
    · rfl
  · rw [hH, h _ (by simp)]
  · rw [h _ (by simp)]
  · rw [h _ (by simp), h _ (by simp)]
  · rw [h _ (by simp)]
  · rw [hH, h _ (by simp)]
  · rename_i fn first captured
    rw [evL_congr (xs := first.toList) fun x hx => h x (by simp at hx; simp [hx]), evL_congr (xs := captured.toList) fun x hx => h x (by simp at hx; simp [hx])]
  · rename_i t x lo hi mx
    rw [h x (by simp), bd_congr (o := lo) fun y hy => h y (by subst hy; simp), bd_congr (o := hi) fun y hy => h y (by subst hy; simp), bd_congr (o := mx) fun y hy => h y (by subst hy; simp)]
  · rw [h _ (by simp)]
  · rw [h _ (by simp)]
  · rw [h _ (by simp), h _ (by simp)]
  · rw [h _ (by simp), h _ (by simp)]
  · rw [h _ (by simp)]
  · rw [h _ (by simp [Call.operands])]
  · rw [evL_congr fun x hx => h x (by simp [Call.operands, hx])]
  · rw [evL_congr fun x hx => h x (by simp [Call.operands, hx])]
  · rfl

/-- Operations that change nothing owned. -/
def plainOp (P : Program) : Op → Bool
  | .alloc _ => false
  | .box _ _ => false
  | .store _ _ _ => false
  | .convert src dst _ => !isS2B P src dst
  | .call ⟨.builtin .append, _, _⟩ => false
  | _ => true
def callW (Γ : Tab) (H : List Obj) (f : A) (as : List A) : Option A :=
  match f with
  | .fn g caps => (viewL H (as ++ caps)).bind fun bs => (Γ g bs).bind fun r => if (A.pure.pureL (as ++ caps) || r.flat) = true then some r else none
  | _ => none
def valX (P : Program) (Γ : Tab) (σ : St) (op : Op) : Option A :=
  match op with
  | .call ⟨.value f, ⟨xs⟩, _⟩ => callW Γ σ.H (σ.ev f) (σ.evL xs)
  | op => evalR P σ op

theorem callV_eq {d : Option Tmp} {f : A} {as : List A} : callV Γ σ d f as = (callW Γ σ.H f as).map (σ.put d) := by
  cases f <;> simp only [callV, callW, callX, Option.map_none]
  rename_i g caps
  cases viewL σ.H (as ++ caps) with
  | none => rfl
  | some bs =>
    simp only [Option.bind_some]
    cases Γ g bs with
    | none => rfl
    | some r => simp only [Option.bind_some]; split <;> rfl

theorem execOp_plain {n : Nat} {d : Option Tmp} {op : Op} (h : plainOp P op = true) : execOp P Γ n d op σ = (valX P Γ σ op).map (σ.put d) := by
  unfold execOp
  split
  · simp [plainOp] at h
  · simp [plainOp] at h
  · simp [plainOp] at h
  · rename_i src dst x
    simp only [plainOp, Bool.not_eq_true'] at h
    simp only [convX, h, Bool.false_eq_true, if_false, valX, evalR]
  · simp [plainOp] at h
  · exact callV_eq
  · rename_i h1 h2 h3 h4 h5 h6
    unfold valX
    split
    · rename_i f xs us
      exact absurd rfl (h6 f xs us)
    · rfl

theorem valX_congr {op : Op} (hH : σ.H = τ.H) (h : ∀ x ∈ op.operands, σ.ev x = τ.ev x) : valX P Γ σ op = valX P Γ τ op := by
  unfold valX
  split
  · simp only [Op.operands] at h
    rw [hH, h _ (by simp [Call.operands]), evL_congr fun x hx => h x (by simp [Call.operands, hx])]
  · exact evalR_congr hH h

theorem wantA_congr {ops : Array Oper} {o : Oper} (h : ∀ t ∈ o.looksAt ops, look σ.s t = look τ.s t) : wantA (dstsOf ops.toList) σ o.guard = wantA (dstsOf ops.toList) τ o.guard := by
  unfold wantA
  split
  · rfl
  · rename_i j want hg
    rw [nthD_eq]
    have hops : ops.toList[j]? = ops[j]? := by simp
    rw [hops]
    cases hj : (ops[j]?).bind (·.dst) with
    | none => rfl
    | some t =>
      simp only
      rw [h t (by simp [Oper.looksAt, hg, hj])]

theorem ev_looks {ops : Array Oper} {o : Oper} (h : ∀ t ∈ o.looksAt ops, look σ.s t = look τ.s t) : ∀ x ∈ o.op.operands, σ.ev x = τ.ev x := fun x hx => by
  cases x <;> simp only [St.ev]
  rename_i t
  exact h t (List.mem_append_left _ (List.mem_filterMap.2 ⟨.tmp t, by simpa using hx, rfl⟩))

def val1 (P : Program) (Γ : Tab) (ds : List (Option Tmp)) (o : Oper) (σ : St) : Option A :=
  match wantA ds σ o.guard with
  | none => none
  | some true => valX P Γ σ o.op
  | some false => some (.tup [])
theorem exec1_plainR {ds : List (Option Tmp)} {n : Nat} {o : Oper} (h : plainOp P o.op = true) : exec1 P Γ ds n o σ = (val1 P Γ ds o σ).map (σ.put o.dst) := by
  unfold exec1 val1
  cases wantA ds σ o.guard with
  | none => rfl
  | some b =>
    cases b with
    | true => simp only [if_true]; exact execOp_plain h
    | false => rfl
theorem val1_congr {ops : Array Oper} {o : Oper} (hH : σ.H = τ.H) (h : ∀ t ∈ o.looksAt ops, look σ.s t = look τ.s t) : val1 P Γ (dstsOf ops.toList) o σ = val1 P Γ (dstsOf ops.toList) o τ := by
  unfold val1
  rw [wantA_congr h, valX_congr hH (ev_looks h)]

theorem put_H (d : Option Tmp) (v : A) : (σ.put d v).H = σ.H := by cases d <;> rfl
theorem look_put {d : Option Tmp} {v : A} {t : Tmp} (h : ∀ e, d = some e → e ≠ t) : look (σ.put d v).s t = look σ.s t := by
  cases d with
  | none => rfl
  | some e => simp only [St.put, look]; rw [if_neg (h e rfl)]
theorem put_comm {x y : Option Tmp} {v u : A} (h : ∀ d, x = some d → y ≠ some d) : simS ((σ.put x v).put y u) ((σ.put y u).put x v) := by
  cases x with
  | none => exact simS.refl _
  | some d =>
    cases y with
    | none => exact simS.refl _
    | some e =>
      have hne : d ≠ e := fun he => h d rfl (he ▸ rfl)
      refine ⟨fun t => ?_, rfl⟩
      simp only [St.put, look]
      by_cases h1 : e = t
      · subst h1; simp [hne]
      · simp [h1]

/-- Two neighbours change places. -/
theorem swap1 {ops : Array Oper} {n m : Nat} {y x : Oper} (hy : plainOp P y.op = true) (hx : plainOp P x.op = true) (hap : y.apart ops x = true) {σ1 σ2 : St}
    (h1 : exec1 P Γ (dstsOf ops.toList) n y σ = some σ1) (h2 : exec1 P Γ (dstsOf ops.toList) m x σ1 = some σ2) :
    ∃ σ1' σ2', exec1 P Γ (dstsOf ops.toList) m x σ = some σ1' ∧ exec1 P Γ (dstsOf ops.toList) n y σ1' = some σ2' ∧ simS σ2 σ2' := by
  obtain ⟨a1, a2, a3⟩ := Oper.apart_spec hap
  rw [exec1_plainR hy] at h1
  rw [exec1_plainR hx] at h2
  cases hv : val1 P Γ (dstsOf ops.toList) y σ with
  | none => simp [hv] at h1
  | some v =>
    simp [hv] at h1
    subst h1
    cases hu : val1 P Γ (dstsOf ops.toList) x (σ.put y.dst v) with
    | none => simp [hu] at h2
    | some u =>
      simp [hu] at h2
      subst h2
      have hu' : val1 P Γ (dstsOf ops.toList) x σ = some u := by
        rw [← hu]
        exact val1_congr (put_H _ _).symm fun t ht => (look_put fun e he e' => a1 e he (e' ▸ ht)).symm
      have hv' : val1 P Γ (dstsOf ops.toList) y (σ.put x.dst u) = some v := by
        rw [← hv]
        exact val1_congr (put_H _ _) fun t ht => look_put fun e he e' => a3 e he (e' ▸ ht)
      refine ⟨σ.put x.dst u, (σ.put x.dst u).put y.dst v, by rw [exec1_plainR hx, hu']; rfl, by rw [exec1_plainR hy, hv']; rfl, ?_⟩
      exact put_comm a2

/-- States that look alike go on alike. -/
theorem execOp_sim {n : Nat} {d : Option Tmp} {op : Op} (hs : simS σ τ) {σ' : St} (h : execOp P Γ n d op σ = some σ') : ∃ τ', execOp P Γ n d op τ = some τ' ∧ simS σ' τ' := by
  by_cases hp : plainOp P op = true
  · rw [execOp_plain hp] at h ⊢
    rw [← valX_congr hs.2 (fun x _ => hs.ev x)]
    cases hv : valX P Γ σ op with
    | none => simp [hv] at h
    | some v =>
      simp [hv] at h
      subst h
      exact ⟨_, rfl, hs.put d v⟩
  · have hbox : ∀ x : A, boxA σ n d x = some σ' → ∃ τ', boxA τ n d x = some τ' ∧ simS σ' τ' := fun x h => by
      unfold boxA at h ⊢
      split at h
      · rename_i hv
        obtain rfl := Option.some.inj h
        rw [if_pos hv]
        exact ⟨_, rfl, (hs.setH n _).put d _⟩
      · simp at h
    unfold execOp at h ⊢
    split at h
    · cases hz : zeroA P _ with
      | none => rw [hz] at h; simp [allocA] at h
      | some z => rw [hz] at h; simp only [allocA] at h ⊢; exact hbox z h
    · simp only [← hs.ev]; exact hbox _ h
    · simp only [← hs.ev]
      unfold storeA at h ⊢
      split at h
      · simp only [← hs.2]
        split at h
        · split at h
          · rename_i hc
            obtain rfl := Option.some.inj h
            rw [if_pos hc]
            exact ⟨_, rfl, (hs.setH _ _).put d _⟩
          · simp at h
        · simp at h
      · simp only [← hs.2]
        split at h
        · rename_i k es ho
          obtain ⟨e, he, h⟩ := Option.bind_eq_some_iff.1 h
          simp only [he, Option.bind_some]
          split at h
          · rename_i hc
            obtain rfl := Option.some.inj h
            rw [if_pos hc]
            exact ⟨_, rfl, (hs.setH _ _).put d _⟩
          · simp at h
        · simp at h
      · simp at h
    · simp only [← hs.ev]
      unfold convX at h ⊢
      split at h
      · rename_i hb
        rw [if_pos hb]
        split at h
        · obtain rfl := Option.some.inj h
          exact ⟨_, rfl, (hs.setH _ _).put d _⟩
        · simp at h
      · rename_i hb
        rw [if_neg hb, ← hs.2]
        cases hv : convA P _ _ σ.H (σ.ev _) with
        | none => simp [hv] at h
        | some v =>
          simp [hv] at h
          subst h
          exact ⟨_, rfl, hs.put d v⟩
    · simp only [← hs.ev]
      unfold appendX at h ⊢
      split at h
      · split at h
        · split at h
          · simp at h
          · rename_i hc
            rw [if_neg hc]
            have hsrc : ∀ e tx k x, srcE P σ e tx k x = srcE P τ e tx k x := fun e tx k x => by unfold srcE; rw [hs.2]
            rw [← hsrc]
            cases hv : srcE P σ _ _ _ (σ.ev _) with
            | none => simp [hv] at h
            | some src =>
              simp only [hv, Option.bind_some] at h ⊢
              unfold appendA at h ⊢
              split at h
              · split at h
                · rename_i hq
                  obtain rfl := Option.some.inj h
                  rw [if_pos hq]
                  exact ⟨_, rfl, (hs.setH _ _).put d _⟩
                · simp at h
              · split at h
                · rename_i hq
                  obtain rfl := Option.some.inj h
                  rw [if_pos hq]
                  exact ⟨_, rfl, (hs.setH _ _).put d _⟩
                · simp at h
              · simp only [← hs.2]
                split at h
                · split at h
                  · rename_i hq
                    rw [if_pos hq]
                    split at h
                    · rename_i hcl
                      rw [if_pos hcl]
                      split at h
                      · simp at h
                      · rename_i hne
                        obtain rfl := Option.some.inj h
                        rw [if_neg hne]
                        exact ⟨_, rfl, (hs.setH _ _).put d _⟩
                    · rename_i hcl
                      obtain rfl := Option.some.inj h
                      rw [if_neg hcl]
                      exact ⟨_, rfl, ((hs.scrub _).setH _ _).put d _⟩
                  · simp at h
                · simp at h
              · simp at h
        · simp at h
      · simp at h
    · exact absurd (by simp [plainOp]) hp
    · rw [← evalR_congr hs.2 (fun x _ => hs.ev x)]
      cases hv : evalR P σ op with
      | none => simp [hv] at h
      | some v =>
        simp [hv] at h
        subst h
        exact ⟨_, rfl, hs.put d v⟩

theorem exec1_sim {ops : Array Oper} {n : Nat} {o : Oper} (hs : simS σ τ) {σ' : St} (h : exec1 P Γ (dstsOf ops.toList) n o σ = some σ') : ∃ τ', exec1 P Γ (dstsOf ops.toList) n o τ = some τ' ∧ simS σ' τ' := by
  unfold exec1 at h ⊢
  rw [← wantA_congr (σ := σ) (τ := τ) (ops := ops) (o := o) fun t _ => hs.1 t]
  cases hw : wantA (dstsOf ops.toList) σ o.guard with
  | none => simp [hw] at h
  | some b =>
    simp only [hw] at h ⊢
    cases b with
    | true => simp only [if_true] at h ⊢; exact execOp_sim hs h
    | false =>
      simp at h ⊢
      subst h
      exact hs.put _ _
theorem runL_sim {ops : Array Oper} : ∀ {L : List (Nat × Nat × Oper)} {σ τ σ' : St}, simS σ τ → runL P Γ (dstsOf ops.toList) L σ = some σ' → ∃ τ', runL P Γ (dstsOf ops.toList) L τ = some τ' ∧ simS σ' τ'
  | [], σ, τ, σ', hs, h => by simp only [runL, Option.some.injEq] at h; subst h; exact ⟨τ, rfl, hs⟩
  | x :: L, σ, τ, σ', hs, h => by
    simp only [runL] at h
    cases h1 : exec1 P Γ (dstsOf ops.toList) x.1 x.2.2 σ with
    | none => simp [h1] at h
    | some σ1 =>
      simp only [h1, Option.bind_some] at h
      obtain ⟨τ1, h2, hs1⟩ := exec1_sim hs h1
      obtain ⟨τ', h3, hs'⟩ := runL_sim hs1 h
      exact ⟨τ', by simp only [runL, h2, Option.bind_some]; exact h3, hs'⟩

/-- To the front. -/
theorem moveFront {ops : Array Oper} {x : Nat × Nat × Oper} {L2 : List (Nat × Nat × Oper)} : ∀ {L1 : List (Nat × Nat × Oper)} {σ τ : St},
    (∀ y ∈ L1, plainOp P y.2.2.op = true ∧ plainOp P x.2.2.op = true ∧ y.2.2.apart ops x.2.2 = true) →
    runL P Γ (dstsOf ops.toList) (L1 ++ x :: L2) σ = some τ → ∃ σ1 τ', exec1 P Γ (dstsOf ops.toList) x.1 x.2.2 σ = some σ1 ∧ runL P Γ (dstsOf ops.toList) (L1 ++ L2) σ1 = some τ' ∧ simS τ τ'
  | [], σ, τ, _, h => by
    simp only [List.nil_append, runL] at h ⊢
    cases h1 : exec1 P Γ (dstsOf ops.toList) x.1 x.2.2 σ with
    | none => simp [h1] at h
    | some σ1 =>
      simp only [h1, Option.bind_some] at h
      exact ⟨σ1, τ, rfl, h, simS.refl τ⟩
  | y :: L1, σ, τ, hi, h => by
    simp only [List.cons_append, runL] at h
    cases h1 : exec1 P Γ (dstsOf ops.toList) y.1 y.2.2 σ with
    | none => simp [h1] at h
    | some σa =>
      simp only [h1, Option.bind_some] at h
      obtain ⟨σb, τ', h2, h3, hs⟩ := moveFront (L1 := L1) (fun z hz => hi z (by simp [hz])) h
      obtain ⟨i1, i2, i3⟩ := hi y (by simp)
      obtain ⟨σ1', σ2', g1, g2, gs⟩ := swap1 i1 i2 i3 h1 h2
      obtain ⟨τ'', g3, gs'⟩ := runL_sim gs h3
      exact ⟨σ1', τ'', g1, by simp only [List.cons_append, runL, g2, Option.bind_some]; exact g3, hs.trans gs'⟩
end

end Go.Abs
