/- What the laws of this claim rest on: the abstract executor, its soundness, and what the functions compute on pure data. No condition. -/
import Derived.Test.YteconeampdidaaaU2
import Derived.Deep.Slices
import Derived.OpenShut
set_option linter.unusedVariables false
set_option linter.unusedSimpArgs false
namespace Go.Abs
open Go.RowKit
def ann (P : Program) : Nat → Nat → List Oper → List (Nat × Nat × Oper)
  | _, _, [] => []
  | n, i, o :: os => (n, i, o) :: ann P (nxt P o.op n) (i + 1) os
def runL (P : Program) (Γ : Tab) (ds : List (Option Tmp)) : List (Nat × Nat × Oper) → St → Option St
  | [], σ => some σ
  | x :: xs, σ => (exec1 P Γ ds x.1 x.2.2 σ).bind (runL P Γ ds xs)
theorem runSeq_runL (P : Program) (Γ : Tab) (ds : List (Option Tmp)) : ∀ (os : List Oper) (n i : Nat) (σ : St), runSeq P Γ ds os n σ = runL P Γ ds (ann P n i os) σ
  | [], _, _, _ => rfl
  | o :: os, n, i, σ => by
    simp only [runSeq, ann, runL]
    congr 1
    funext τ
    exact runSeq_runL P Γ ds os _ (i + 1) τ
theorem nxt_le (P : Program) (op : Op) (n : Nat) : n ≤ nxt P op n := by unfold nxt; split <;> omega
theorem ann_mem (P : Program) : ∀ (os : List Oper) (n i : Nat) (x : Nat × Nat × Oper), x ∈ ann P n i os → n ≤ x.1 ∧ i ≤ x.2.1 ∧ os[x.2.1 - i]? = some x.2.2
  | [], _, _, x, h => by simp [ann] at h
  | o :: os, n, i, x, h => by
    simp only [ann, List.mem_cons] at h
    rcases h with rfl | h
    · simp
    · obtain ⟨h1, h2, h3⟩ := ann_mem P os _ _ x h
      have := nxt_le P o.op n
      refine ⟨by omega, by omega, ?_⟩
      rw [show x.2.1 - i = (x.2.1 - (i + 1)) + 1 by omega]
      simpa using h3
theorem ann_pair (P : Program) : ∀ (os : List Oper) (n i : Nat), (ann P n i os).Pairwise (fun x y => x.2.1 < y.2.1 ∧ (allocs P x.2.2.op = true → x.1 < y.1))
  | [], _, _ => by simp [ann]
  | o :: os, n, i => by
    simp only [ann, List.pairwise_cons]
    refine ⟨fun y hy => ?_, ann_pair P os _ _⟩
    obtain ⟨h1, h2, _⟩ := ann_mem P os _ _ y hy
    refine ⟨by show i < y.2.1; omega, fun ha => ?_⟩
    have ha' : allocs P o.op = true := ha
    simp only [nxt, ha', if_true] at h1
    show n < y.1
    omega
theorem ann_idx (P : Program) : ∀ (os : List Oper) (n i : Nat), (ann P n i os).map (·.2.1) = (List.range os.length).map (i + ·)
  | [], _, _ => by simp [ann]
  | o :: os, n, i => by
    simp only [ann, List.map_cons, List.length_cons, List.range_succ_eq_map, List.map_map]
    rw [ann_idx P os]
    simp
    intro a _
    omega
def simS (σ τ : St) : Prop := (∀ d, look σ.s d = look τ.s d) ∧ σ.H = τ.H
theorem simS.refl (σ : St) : simS σ σ := ⟨fun _ => rfl, rfl⟩
theorem simS.symm {σ τ : St} (h : simS σ τ) : simS τ σ := ⟨fun d => (h.1 d).symm, h.2.symm⟩
theorem simS.trans {σ τ ρ : St} (h : simS σ τ) (h' : simS τ ρ) : simS σ ρ := ⟨fun d => (h.1 d).trans (h'.1 d), h.2.trans h'.2⟩
theorem simS.put {σ τ : St} (h : simS σ τ) (d : Option Tmp) (v : A) : simS (σ.put d v) (τ.put d v) := by
  cases d with
  | none => exact h
  | some d => exact ⟨fun t => by simp only [St.put, look]; split <;> first | rfl | exact h.1 t, h.2⟩
theorem simS.setH {σ τ : St} (h : simS σ τ) (n : Nat) (o : Obj) : simS (σ.setH n o) (τ.setH n o) := ⟨h.1, by simp only [St.setH, h.2]⟩
theorem simS.scrub {σ τ : St} (h : simS σ τ) (n : Nat) : simS (σ.scrub n) (τ.scrub n) :=
  ⟨fun d => by
    show look (σ.s.map fun p => (p.1, scrubA n p.2)) d = look (τ.s.map fun p => (p.1, scrubA n p.2)) d
    rw [look_map, look_map, h.1 d], by simp only [St.scrub, h.2]⟩
theorem simS.ev {σ τ : St} (h : simS σ τ) (x : Operand) : σ.ev x = τ.ev x := by
  cases x <;> simp only [St.ev]
  exact h.1 _
section
variable {P : Program} {Γ : Tab} {σ τ : St}
theorem evL_congr : ∀ {xs : List Operand}, (∀ x ∈ xs, σ.ev x = τ.ev x) → σ.evL xs = τ.evL xs
  | [], _ => rfl
  | x :: xs, h => by simp only [St.evL]; rw [h x (by simp), evL_congr (xs := xs) fun y hy => h y (by simp [hy])]
theorem bd_congr {o : Option Operand} (h : ∀ x, o = some x → σ.ev x = τ.ev x) : σ.bd o = τ.bd o := by
  cases o with
  | none => rfl
  | some x => simp only [St.bd]; rw [h x rfl]
theorem fillS_congr {t : TypeId} : ∀ {ps : List (Nat × Operand)} {zs : List A}, (∀ p ∈ ps, σ.ev p.2 = τ.ev p.2) → fillS P t σ ps zs = fillS P t τ ps zs
  | [], _, _ => rfl
  | (i, x) :: ps, zs, h => by
    simp only [fillS]
    rw [show σ.ev x = τ.ev x from h (i, x) (by simp)]
    split
    · congr 1
      funext zs'
      exact fillS_congr fun p hp => h p (by simp [hp])
    · rfl
theorem fillA_congr {t : TypeId} : ∀ {ps : List (Nat × Operand)} {zs : List A}, (∀ p ∈ ps, σ.ev p.2 = τ.ev p.2) → fillA P t σ ps zs = fillA P t τ ps zs
  | [], _, _ => rfl
  | (i, x) :: ps, zs, h => by
    simp only [fillA]
    rw [show σ.ev x = τ.ev x from h (i, x) (by simp)]
    split
    · congr 1
      funext zs'
      exact fillA_congr fun p hp => h p (by simp [hp])
    · rfl
theorem fillE_congr {k : Nat} : ∀ {ps : List (Nat × Operand)} {zs : List A}, (∀ p ∈ ps, σ.ev p.2 = τ.ev p.2) → fillE k σ ps zs = fillE k τ ps zs
  | [], _, _ => rfl
  | (i, x) :: ps, zs, h => by
    simp only [fillE]
    rw [show σ.ev x = τ.ev x from h (i, x) (by simp)]
    split
    · exact fillE_congr fun p hp => h p (by simp [hp])
    · rfl
theorem evalR_congr {op : Op} (hH : σ.H = τ.H) (h : ∀ x ∈ op.operands, σ.ev x = τ.ev x) : evalR P σ op = evalR P τ op := by
  unfold evalR
  split <;> simp only [Op.operands] at h
  · rw [h _ (by simp)]
  · rw [h _ (by simp)]
  · rw [h _ (by simp), h _ (by simp), h _ (by simp)]
  · rename_i t ps
    have hp : ∀ p ∈ ps.toList, σ.ev p.2 = τ.ev p.2 := fun p hp => h p.2 (by simp only [List.mem_toArray, List.mem_map]; exact ⟨p, hp, rfl⟩)
    unfold buildA
    split
    · split
      · rw [fillA_congr hp]
      · rw [fillS_congr hp]
    · rfl
  · rename_i t len ps
    have hp : ∀ p ∈ ps.toList, σ.ev p.2 = τ.ev p.2 := fun p hp => h p.2 (by simp only [List.mem_toArray, List.mem_map]; exact ⟨p, hp, rfl⟩)
    unfold buildSliceA
    split
    · split
      · rw [fillE_congr hp]
      · rfl
    · rfl
  · rw [hH, h _ (by simp)]
  · rw [h _ (by simp)]
  · rw [h _ (by simp), h _ (by simp)]
  · rw [h _ (by simp)]
  · rw [hH, h _ (by simp)]
  · rename_i fn first captured
    rw [evL_congr (xs := first.toList) fun x hx => h x (by simp at hx; simp [hx]), evL_congr (xs := captured.toList) fun x hx => h x (by simp at hx; simp [hx])]
  · rename_i t x lo hi mx
    rw [h x (by simp), bd_congr (o := lo) fun y hy => h y (by subst hy; simp), bd_congr (o := hi) fun y hy => h y (by subst hy; simp), bd_congr (o := mx) fun y hy => h y (by subst hy; simp)]
  · rw [h _ (by simp)]
  · rw [h _ (by simp)]
  · rw [h _ (by simp), h _ (by simp)]
  · rw [h _ (by simp), h _ (by simp)]
  · rw [h _ (by simp)]
  · rw [h _ (by simp [Call.operands])]
  · rw [evL_congr fun x hx => h x (by simp [Call.operands, hx])]
  · rw [evL_congr fun x hx => h x (by simp [Call.operands, hx])]
  · rfl
def plainOp (P : Program) (Γ : Tab) : Op → Bool
  | .alloc _ => false
  | .box _ _ => false
  | .store _ _ _ => false
  | .convert src dst _ => !isS2B P src dst
  | .call ⟨.builtin .append, _, _⟩ => false
  | .call ⟨.builtin .clear, _, _⟩ => false
  | .call ⟨.value f, _, _⟩ => !isEff Γ f
  | _ => true
def callW (Γ : Tab) (H : List Obj) (f : A) (aq : List A) : Option A :=
  match f with
  | .fn g caps => (viewL H (aq ++ caps)).bind fun bs => (Γ.f g bs).bind fun r => if (A.pure.pureL (aq ++ caps) || r.flat) = true then some r else none
  | _ => none
def valX (P : Program) (Γ : Tab) (σ : St) (op : Op) : Option A :=
  match op with
  | .call ⟨.value f, ⟨xs⟩, _⟩ => callW Γ σ.H (σ.ev f) (σ.evL xs)
  | op => evalR P σ op
theorem callV_eq {d : Option Tmp} {f : A} {aq : List A} : callV Γ σ d f aq = (callW Γ σ.H f aq).map (σ.put d) := by
  cases f <;> simp only [callV, callW, callX, Option.map_none]
  rename_i g caps
  cases viewL σ.H (aq ++ caps) with
  | none => rfl
  | some bs =>
    simp only [Option.bind_some]
    cases Γ.f g bs with
    | none => rfl
    | some r => simp only [Option.bind_some]; split <;> rfl
theorem execOp_plain {n : Nat} {d : Option Tmp} {op : Op} (h : plainOp P Γ op = true) : execOp P Γ n d op σ = (valX P Γ σ op).map (σ.put d) := by
  unfold execOp
  split
  · simp [plainOp] at h
  · simp [plainOp] at h
  · simp [plainOp] at h
  · rename_i src dst x
    simp only [plainOp, Bool.not_eq_true'] at h
    simp only [convX, h, Bool.false_eq_true, if_false, valX, evalR]
  · simp [plainOp] at h
  · simp [plainOp] at h
  · rename_i f xs us
    have hf : isEff Γ f = false := by simpa [plainOp] using h
    rw [if_neg (by simp [hf])]
    exact callV_eq
  · rename_i h1 h2 h3 h4 h5 h5' h6
    unfold valX
    split
    · rename_i f xs us
      exact absurd rfl (h6 f xs us)
    · rfl
theorem valX_congr {op : Op} (hH : σ.H = τ.H) (h : ∀ x ∈ op.operands, σ.ev x = τ.ev x) : valX P Γ σ op = valX P Γ τ op := by
  unfold valX
  split
  · simp only [Op.operands] at h
    rw [hH, h _ (by simp [Call.operands]), evL_congr fun x hx => h x (by simp [Call.operands, hx])]
  · exact evalR_congr hH h
theorem wantA_congr {ops : Array Oper} {o : Oper} (h : ∀ t ∈ o.looksAt ops, look σ.s t = look τ.s t) : wantA (dstsOf ops.toList) σ o.guard = wantA (dstsOf ops.toList) τ o.guard := by
  unfold wantA
  split
  · rfl
  · rename_i j want hg
    rw [nthD_eq]
    have hops : ops.toList[j]? = ops[j]? := by simp
    rw [hops]
    cases hj : (ops[j]?).bind (·.dst) with
    | none => rfl
    | some t =>
      simp only
      rw [h t (by simp [Oper.looksAt, hg, hj])]
theorem ev_looks {ops : Array Oper} {o : Oper} (h : ∀ t ∈ o.looksAt ops, look σ.s t = look τ.s t) : ∀ x ∈ o.op.operands, σ.ev x = τ.ev x := fun x hx => by
  cases x <;> simp only [St.ev]
  rename_i t
  exact h t (List.mem_append_left _ (List.mem_filterMap.2 ⟨.tmp t, by simpa using hx, rfl⟩))
def val1 (P : Program) (Γ : Tab) (ds : List (Option Tmp)) (o : Oper) (σ : St) : Option A :=
  match wantA ds σ o.guard with
  | none => none
  | some true => valX P Γ σ o.op
  | some false => some (.tup [])
theorem exec1_plainR {ds : List (Option Tmp)} {n : Nat} {o : Oper} (h : plainOp P Γ o.op = true) : exec1 P Γ ds n o σ = (val1 P Γ ds o σ).map (σ.put o.dst) := by
  unfold exec1 val1
  cases wantA ds σ o.guard with
  | none => rfl
  | some b =>
    cases b with
    | true => simp only [if_true]; exact execOp_plain h
    | false => rfl
theorem val1_congr {ops : Array Oper} {o : Oper} (hH : σ.H = τ.H) (h : ∀ t ∈ o.looksAt ops, look σ.s t = look τ.s t) : val1 P Γ (dstsOf ops.toList) o σ = val1 P Γ (dstsOf ops.toList) o τ := by
  unfold val1
  rw [wantA_congr h, valX_congr hH (ev_looks h)]
theorem put_H (d : Option Tmp) (v : A) : (σ.put d v).H = σ.H := by cases d <;> rfl
theorem look_put {d : Option Tmp} {v : A} {t : Tmp} (h : ∀ e, d = some e → e ≠ t) : look (σ.put d v).s t = look σ.s t := by
  cases d with
  | none => rfl
  | some e => simp only [St.put, look]; rw [if_neg (h e rfl)]
theorem put_comm {x y : Option Tmp} {v u : A} (h : ∀ d, x = some d → y ≠ some d) : simS ((σ.put x v).put y u) ((σ.put y u).put x v) := by
  cases x with
  | none => exact simS.refl _
  | some d =>
    cases y with
    | none => exact simS.refl _
    | some e =>
      have hne : d ≠ e := fun he => h d rfl (he ▸ rfl)
      refine ⟨fun t => ?_, rfl⟩
      simp only [St.put, look]
      by_cases h1 : e = t
      · subst h1; simp [hne]
      · simp [h1]
theorem swap1 {ops : Array Oper} {n m : Nat} {y x : Oper} (hy : plainOp P Γ y.op = true) (hx : plainOp P Γ x.op = true) (hap : y.apart ops x = true) {σ1 σ2 : St}
    (h1 : exec1 P Γ (dstsOf ops.toList) n y σ = some σ1) (h2 : exec1 P Γ (dstsOf ops.toList) m x σ1 = some σ2) :
    ∃ σ1' σ2', exec1 P Γ (dstsOf ops.toList) m x σ = some σ1' ∧ exec1 P Γ (dstsOf ops.toList) n y σ1' = some σ2' ∧ simS σ2 σ2' := by
  obtain ⟨a1, a2, a3⟩ := Oper.apart_spec hap
  rw [exec1_plainR hy] at h1
  rw [exec1_plainR hx] at h2
  cases hv : val1 P Γ (dstsOf ops.toList) y σ with
  | none => simp [hv] at h1
  | some v =>
    simp [hv] at h1
    subst h1
    cases hu : val1 P Γ (dstsOf ops.toList) x (σ.put y.dst v) with
    | none => simp [hu] at h2
    | some u =>
      simp [hu] at h2
      subst h2
      have hu' : val1 P Γ (dstsOf ops.toList) x σ = some u := by
        rw [← hu]
        exact val1_congr (put_H _ _).symm fun t ht => (look_put fun e he e' => a1 e he (e' ▸ ht)).symm
      have hv' : val1 P Γ (dstsOf ops.toList) y (σ.put x.dst u) = some v := by
        rw [← hv]
        exact val1_congr (put_H _ _) fun t ht => look_put fun e he e' => a3 e he (e' ▸ ht)
      refine ⟨σ.put x.dst u, (σ.put x.dst u).put y.dst v, by rw [exec1_plainR hx, hu']; rfl, by rw [exec1_plainR hy, hv']; rfl, ?_⟩
      exact put_comm a2
theorem scrubs_sim {ρ : List Nat} {m : Nat} : ∀ {S : List Nat} {σ τ : St}, simS σ τ → simS (scrubs ρ m σ S) (scrubs ρ m τ S)
  | [], _, _, h => h
  | i :: is, _, _, h => by simp only [scrubs]; exact scrubs_sim (h.scrub _)
theorem callHV_sim (hs : simS σ τ) {d : Option Tmp} {f : A} {aq : List A} {σ' : St} (h : callHV Γ σ d f aq = some σ') : ∃ τ', callHV Γ τ d f aq = some τ' ∧ simS σ' τ' := by
  cases f <;> simp only [callHV] at h ⊢ <;> try (simp at h; done)
  unfold callH callH1 at h ⊢
  rw [← hs.2]
  generalize reach σ.H 64 _ [] = ρ at h ⊢
  obtain ⟨as', h1, h⟩ := Option.bind_eq_some_iff.1 h
  obtain ⟨H₀, h2, h⟩ := Option.bind_eq_some_iff.1 h
  simp only [h1, h2, Option.bind_some]
  split at h
  · rename_i hfz
    rw [if_pos hfz]
    split at h
    · rename_i hfx
      rw [if_pos hfx]
      obtain ⟨bs, h3, h⟩ := Option.bind_eq_some_iff.1 h
      obtain ⟨r, h4, rfl⟩ := Option.map_eq_some_iff.1 h
      simp only [h3, Option.bind_some, h4, Option.map_some, Option.some.injEq]
      refine ⟨_, rfl, ?_⟩
      unfold callF2
      refine simS.put ⟨fun t => ?_, by simp only [hs.2]⟩ d r
      show look (σ.s.map fun p => (p.1, frzA ρ H₀ p.2)) t = look (τ.s.map fun p => (p.1, frzA ρ H₀ p.2)) t
      rw [look_frz, look_frz, hs.1 t]
    · simp at h
  · rename_i hfz
    rw [if_neg hfz]
    obtain ⟨⟨r, H', S⟩, h3, h⟩ := Option.bind_eq_some_iff.1 h
    simp only [h3, Option.bind_some]
    split at h
    · rename_i hm
      rw [if_pos hm]
      obtain rfl := Option.some.inj h
      refine ⟨_, rfl, ?_⟩
      unfold callH2
      have e := scrubs_sim (ρ := ρ) (m := σ.H.length) (S := S) hs
      show simS (St.put ⟨(scrubs ρ σ.H.length σ S).s, backH ρ σ.H.length ρ H' (scrubs ρ σ.H.length σ S).H⟩ d (r.back ρ σ.H.length))
        (St.put ⟨(scrubs ρ τ.H.length τ S).s, backH ρ τ.H.length ρ H' (scrubs ρ τ.H.length τ S).H⟩ d (r.back ρ τ.H.length))
      rw [show r.back ρ τ.H.length = r.back ρ σ.H.length by rw [hs.2]]
      refine simS.put ⟨fun t => ?_, ?_⟩ d _
      · show look (scrubs ρ σ.H.length σ S).s t = look (scrubs ρ τ.H.length τ S).s t
        rw [← hs.2]; exact e.1 t
      · show backH ρ σ.H.length ρ H' (scrubs ρ σ.H.length σ S).H = backH ρ τ.H.length ρ H' (scrubs ρ τ.H.length τ S).H
        rw [← hs.2, e.2]
    · simp at h
def allocOp : Op → Bool
  | .alloc _ => true
  | .box _ _ => true
  | _ => false
def alloc1 (P : Program) (ds : List (Option Tmp)) (n : Nat) (o : Oper) (σ : St) : Option (Option Obj × A) :=
  match wantA ds σ o.guard with
  | none => none
  | some false => some (none, .tup [])
  | some true =>
    match o.op with
    | .alloc t => (zeroA P t).bind fun z => if z.val = true then some (some (.box z.cells), .ref n 0) else none
    | .box _ x => if (σ.ev x).val = true then some (some (.box (σ.ev x).cells), .ref n 0) else none
    | _ => none
def layO (σ : St) (n : Nat) : Option Obj → St
  | some o => σ.setH n o
  | none => σ
theorem exec1_allocR {ds : List (Option Tmp)} {n : Nat} {o : Oper} (h : allocOp o.op = true) : exec1 P Γ ds n o σ = (alloc1 P ds n o σ).map fun x => (layO σ n x.1).put o.dst x.2 := by
  unfold exec1 alloc1
  cases wantA ds σ o.guard with
  | none => rfl
  | some b =>
    cases b with
    | false => rfl
    | true =>
      simp only [if_true]
      cases ho : o.op <;> rw [ho] at h <;> simp [allocOp] at h
      · simp only [execOp]
        cases zeroA P _ with
        | none => rfl
        | some z => simp only [allocA, boxA, Option.bind_some]; split <;> rfl
      · simp only [execOp, boxA]; split <;> rfl
theorem alloc1_congr {ops : Array Oper} {n : Nat} {o : Oper} (h : ∀ t ∈ o.looksAt ops, look σ.s t = look τ.s t) : alloc1 P (dstsOf ops.toList) n o σ = alloc1 P (dstsOf ops.toList) n o τ := by
  unfold alloc1
  rw [wantA_congr h]
  cases wantA (dstsOf ops.toList) τ o.guard with
  | none => rfl
  | some b =>
    cases b with
    | false => rfl
    | true =>
      simp only
      cases ho : o.op <;> try rfl
      rename_i t x
      have := ev_looks h x (by rw [ho]; simp [Op.operands])
      simp only [this]
def More (H H' : List Obj) (n : Nat) : Prop := nthO H n = some (.row 0 []) ∧ ∀ m, m ≠ n → nthO H' m = nthO H m
theorem More.lay {H : List Obj} {n : Nat} (h : nthO H n = some (.row 0 [])) (o : Obj) : More H (setO H n o) n :=
  ⟨h, fun m hm => by rw [setO_eq, nthO_eq, nthO_eq, List.getElem?_set_ne (Ne.symm hm)]⟩
section
variable {H H' : List Obj} {n : Nat}
theorem viewRow_more (h : More H H' n) {m off k len : Nat} {y : A} (hv : viewRow H m off k len = some y) : viewRow H' m off k len = some y := by
  by_cases hm : m = n
  · subst hm
    unfold viewRow at hv
    rw [h.1] at hv
    simp only at hv
    split at hv
    · rename_i hc; omega
    · cases hv
  · unfold viewRow at hv ⊢
    rw [h.2 m hm]; exact hv
theorem view0_more (h : More H H' n) {x y : A} (hv : view0 H x = some y) : view0 H' x = some y := by
  cases x <;> simp only [view0] at hv ⊢ <;> first | exact hv | exact viewRow_more h hv
theorem view0L_more (h : More H H' n) : ∀ {xs ys : List A}, view0L H xs = some ys → view0L H' xs = some ys
  | [], _, hv => by simpa only [view0L] using hv
  | x :: xs, ys, hv => by
    simp only [view0L] at hv ⊢
    obtain ⟨y, h1, hv⟩ := Option.bind_eq_some_iff.1 hv
    obtain ⟨zs, h2, rfl⟩ := Option.map_eq_some_iff.1 hv
    rw [view0_more h h1, view0L_more h h2]; rfl
theorem view1_more (h : More H H' n) {x y : A} (hv : view1 H x = some y) : view1 H' x = some y := by
  cases x <;> simp only [view1] at hv ⊢ <;> try exact view0_more h hv
  · obtain ⟨zs, h2, rfl⟩ := Option.map_eq_some_iff.1 hv
    rw [view0L_more h h2]; rfl
  · rename_i m off
    by_cases hm : m = n
    · subst hm; rw [h.1] at hv; cases hv
    · rw [h.2 m hm]
      split at hv
      · obtain ⟨zs, h2, rfl⟩ := Option.map_eq_some_iff.1 hv
        simp only [view0L_more h h2]; rfl
      · cases hv
  · rename_i m i off
    by_cases hm : m = n
    · subst hm; rw [h.1] at hv; simp at hv
    · rw [h.2 m hm]; exact hv
theorem view1L_more (h : More H H' n) : ∀ {xs ys : List A}, view1L H xs = some ys → view1L H' xs = some ys
  | [], _, hv => by simpa only [view1L] using hv
  | x :: xs, ys, hv => by
    simp only [view1L] at hv ⊢
    obtain ⟨y, h1, hv⟩ := Option.bind_eq_some_iff.1 hv
    obtain ⟨zs, h2, rfl⟩ := Option.map_eq_some_iff.1 hv
    rw [view1_more h h1, view1L_more h h2]; rfl
theorem view_more (h : More H H' n) {x y : A} (hv : view H x = some y) : view H' x = some y := by
  cases x <;> simp only [view] at hv ⊢ <;> try exact view1_more h hv
  obtain ⟨zs, h2, rfl⟩ := Option.map_eq_some_iff.1 hv
  rw [view1L_more h h2]; rfl
theorem viewL_more (h : More H H' n) : ∀ {xs ys : List A}, viewL H xs = some ys → viewL H' xs = some ys
  | [], _, hv => by simpa only [viewL] using hv
  | x :: xs, ys, hv => by
    simp only [viewL] at hv ⊢
    obtain ⟨y, h1, hv⟩ := Option.bind_eq_some_iff.1 hv
    obtain ⟨zs, h2, rfl⟩ := Option.map_eq_some_iff.1 hv
    rw [view_more h h1, viewL_more h h2]; rfl
theorem loadA_more (h : More H H' n) {t : TypeId} {x y : A} (hv : loadA P t H x = some y) : loadA P t H' x = some y := by
  unfold loadA at hv ⊢
  split at hv
  · exact hv
  · rename_i m off
    by_cases hm : m = n
    · subst hm; rw [h.1] at hv; simp at hv
    · simp only [h.2 m hm]; exact hv
  · rename_i m i off
    by_cases hm : m = n
    · subst hm; rw [h.1] at hv; simp at hv
    · simp only [h.2 m hm]; exact hv
  · cases hv
theorem convB_more (h : More H H' n) {b : Bool} {x y : A} (hv : convB b (view H x) = some y) : convB b (view H' x) = some y := by
  cases hx : view H x with
  | none => rw [hx] at hv; cases b <;> simp [convB] at hv
  | some z => rw [hx] at hv; rw [view_more h hx]; exact hv
theorem convA_more (h : More H H' n) {s d : TypeId} {x y : A} (hv : convA P s d H x = some y) : convA P s d H' x = some y := by
  cases x <;> simp only [convA] at hv ⊢ <;> first | exact hv | exact convB_more h hv
theorem valX_more (h : More H H' n) {s : List (Nat × A)} {op : Op} {y : A} (hv : valX P Γ ⟨s, H⟩ op = some y) : valX P Γ ⟨s, H'⟩ op = some y := by
  have hev : ∀ x : Operand, (St.mk s H').ev x = (St.mk s H).ev x := fun x => by cases x <;> rfl
  have hevL : ∀ xs : List Operand, (St.mk s H').evL xs = (St.mk s H).evL xs := fun xs => evL_congr fun x _ => hev x
  have hbd : ∀ x : Option Operand, (St.mk s H').bd x = (St.mk s H).bd x := fun x => bd_congr fun y _ => hev y
  have hfS : ∀ (t : TypeId) (ps : List (Nat × Operand)) (zs : List A), fillS P t ⟨s, H'⟩ ps zs = fillS P t ⟨s, H⟩ ps zs := fun t ps zs => fillS_congr fun p _ => hev p.2
  have hfA : ∀ (t : TypeId) (ps : List (Nat × Operand)) (zs : List A), fillA P t ⟨s, H'⟩ ps zs = fillA P t ⟨s, H⟩ ps zs := fun t ps zs => fillA_congr fun p _ => hev p.2
  have hfE : ∀ (k : Nat) (ps : List (Nat × Operand)) (zs : List A), fillE k ⟨s, H'⟩ ps zs = fillE k ⟨s, H⟩ ps zs := fun k ps zs => fillE_congr fun p _ => hev p.2
  unfold valX at hv ⊢
  split at hv
  · simp only [hev, hevL]
    unfold callW at hv ⊢
    split at hv
    · rename_i g caps hf
      obtain ⟨bs, h1, hv⟩ := Option.bind_eq_some_iff.1 hv
      simp only [viewL_more h h1, Option.bind_some]
      exact hv
    · cases hv
  · unfold evalR at hv ⊢
    split at hv <;> (try simp only [hev, hevL, hbd, buildA, buildSliceA, hfS, hfA, hfE] at hv ⊢) <;> first
      | exact hv
      | exact loadA_more h hv
      | exact convA_more h hv
end
theorem val1_more {n : Nat} {H' : List Obj} (h : More σ.H H' n) {ops : Array Oper} {o : Oper} {y : A} (hv : val1 P Γ (dstsOf ops.toList) o σ = some y) : val1 P Γ (dstsOf ops.toList) o ⟨σ.s, H'⟩ = some y := by
  unfold val1 at hv ⊢
  rw [wantA_congr (σ := ⟨σ.s, H'⟩) (τ := σ) (ops := ops) (o := o) fun t _ => rfl]
  cases hw : wantA (dstsOf ops.toList) σ o.guard with
  | none => rw [hw] at hv; cases hv
  | some b =>
    rw [hw] at hv
    cases b with
    | false => exact hv
    | true => exact valX_more (P := P) (Γ := Γ) h (s := σ.s) hv
theorem layO_s (n : Nat) (o : Option Obj) : (layO σ n o).s = σ.s := by cases o <;> rfl
theorem layO_put (n : Nat) (o : Option Obj) (d : Option Tmp) (v : A) : layO (σ.put d v) n o = (layO σ n o).put d v := by cases o <;> cases d <;> rfl
theorem swapA {ops : Array Oper} {n m : Nat} {y x : Oper} (hy : plainOp P Γ y.op = true) (hx : allocOp x.op = true) (hap : y.apart ops x = true) (hn : nthO σ.H m = some (.row 0 [])) {σ1 σ2 : St}
    (h1 : exec1 P Γ (dstsOf ops.toList) n y σ = some σ1) (h2 : exec1 P Γ (dstsOf ops.toList) m x σ1 = some σ2) :
    ∃ σ1' σ2', exec1 P Γ (dstsOf ops.toList) m x σ = some σ1' ∧ exec1 P Γ (dstsOf ops.toList) n y σ1' = some σ2' ∧ simS σ2 σ2' := by
  obtain ⟨a1, a2, a3⟩ := Oper.apart_spec hap
  rw [exec1_plainR hy] at h1
  rw [exec1_allocR hx] at h2
  obtain ⟨v, hv, rfl⟩ := Option.map_eq_some_iff.1 h1
  obtain ⟨⟨o, u⟩, hu, rfl⟩ := Option.map_eq_some_iff.1 h2
  have hu' : alloc1 P (dstsOf ops.toList) m x σ = some (o, u) := by
    rw [← hu]
    exact alloc1_congr fun t ht => (look_put fun e he e' => a1 e he (e' ▸ ht)).symm
  have hv1 : val1 P Γ (dstsOf ops.toList) y (layO σ m o) = some v := by
    cases o with
    | none => exact hv
    | some o => exact val1_more (P := P) (Γ := Γ) (n := m) (More.lay hn o) hv
  have hv' : val1 P Γ (dstsOf ops.toList) y ((layO σ m o).put x.dst u) = some v := by
    rw [← hv1]
    exact val1_congr (put_H _ _) fun t ht => look_put fun e he e' => a3 e he (e' ▸ ht)
  refine ⟨(layO σ m o).put x.dst u, ((layO σ m o).put x.dst u).put y.dst v, by rw [exec1_allocR hx, hu']; rfl, by rw [exec1_plainR hy, hv']; rfl, ?_⟩
  simp only [layO_put]
  exact put_comm a2
theorem swapAA {ops : Array Oper} {n m : Nat} {y x : Oper} (hy : allocOp y.op = true) (hx : allocOp x.op = true) (hap : y.apart ops x = true) (hne : n ≠ m) {σ1 σ2 : St}
    (h1 : exec1 P Γ (dstsOf ops.toList) n y σ = some σ1) (h2 : exec1 P Γ (dstsOf ops.toList) m x σ1 = some σ2) :
    ∃ σ1' σ2', exec1 P Γ (dstsOf ops.toList) m x σ = some σ1' ∧ exec1 P Γ (dstsOf ops.toList) n y σ1' = some σ2' ∧ simS σ2 σ2' := by
  obtain ⟨a1, a2, a3⟩ := Oper.apart_spec hap
  rw [exec1_allocR hy] at h1
  rw [exec1_allocR hx] at h2
  obtain ⟨⟨p, v⟩, hv, rfl⟩ := Option.map_eq_some_iff.1 h1
  obtain ⟨⟨o, u⟩, hu, rfl⟩ := Option.map_eq_some_iff.1 h2
  have hu' : alloc1 P (dstsOf ops.toList) m x σ = some (o, u) := by
    rw [← hu]
    refine alloc1_congr fun t ht => ?_
    rw [look_put fun e he e' => a1 e he (e' ▸ ht), layO_s]
  have hv' : alloc1 P (dstsOf ops.toList) n y ((layO σ m o).put x.dst u) = some (p, v) := by
    rw [← hv]
    refine alloc1_congr fun t ht => ?_
    rw [look_put fun e he e' => a3 e he (e' ▸ ht), layO_s]
  refine ⟨(layO σ m o).put x.dst u, (layO ((layO σ m o).put x.dst u) n p).put y.dst v, by rw [exec1_allocR hx, hu']; rfl, by rw [exec1_allocR hy, hv']; rfl, ?_⟩
  simp only [layO_put]
  have hc : layO (layO σ m o) n p = layO (layO σ n p) m o := by
    cases o <;> cases p <;> try rfl
    simp only [layO, St.setH, setO_eq]
    rw [List.set_comm _ _ (Ne.symm hne)]
  rw [hc]
  exact put_comm a2
theorem exec1_allocH {ds : List (Option Tmp)} {n m : Nat} {o : Oper} (h : allocOp o.op = true) (hne : n ≠ m) {σ' : St} (hr : exec1 P Γ ds n o σ = some σ') : nthO σ'.H m = nthO σ.H m := by
  rw [exec1_allocR h] at hr
  obtain ⟨⟨p, v⟩, _, rfl⟩ := Option.map_eq_some_iff.1 hr
  rw [put_H]
  cases p with
  | none => rfl
  | some p => simp only [layO, St.setH, setO_eq, nthO_eq]; rw [List.getElem?_set_ne hne]
def hless : Op → Bool
  | .alloc _ => false
  | .box _ _ => false
  | .store _ _ _ => false
  | .convert _ _ _ => false
  | .load _ _ => false
  | .call ⟨.builtin .append, _, _⟩ => false
  | .call ⟨.builtin .clear, _, _⟩ => false
  | .call ⟨.value _, _, _⟩ => false
  | _ => true
theorem hless_plain {op : Op} (h : hless op = true) : plainOp P Γ op = true := by
  unfold hless at h
  unfold plainOp
  split at h <;> simp_all
theorem valX_hless {op : Op} (hl : hless op = true) (h : ∀ x ∈ op.operands, σ.ev x = τ.ev x) : valX P Γ σ op = valX P Γ τ op := by
  have h1 : valX P Γ ⟨σ.s, τ.H⟩ op = valX P Γ τ op := valX_congr rfl fun x hx => by rw [← h x hx]; cases x <;> rfl
  rw [← h1]
  unfold valX
  split
  · simp [hless] at hl
  · unfold evalR
    have hev : ∀ x : Operand, (St.mk σ.s τ.H).ev x = σ.ev x := fun x => by cases x <;> rfl
    have hevL : ∀ xs : List Operand, (St.mk σ.s τ.H).evL xs = σ.evL xs := fun xs => evL_congr fun x _ => hev x
    have hbd : ∀ x : Option Operand, (St.mk σ.s τ.H).bd x = σ.bd x := fun x => bd_congr fun y _ => hev y
    have hfS : ∀ (t : TypeId) (ps : List (Nat × Operand)) (zs : List A), fillS P t ⟨σ.s, τ.H⟩ ps zs = fillS P t σ ps zs := fun t ps zs => fillS_congr fun p _ => hev p.2
    have hfA : ∀ (t : TypeId) (ps : List (Nat × Operand)) (zs : List A), fillA P t ⟨σ.s, τ.H⟩ ps zs = fillA P t σ ps zs := fun t ps zs => fillA_congr fun p _ => hev p.2
    have hfE : ∀ (k : Nat) (ps : List (Nat × Operand)) (zs : List A), fillE k ⟨σ.s, τ.H⟩ ps zs = fillE k σ ps zs := fun k ps zs => fillE_congr fun p _ => hev p.2
    split <;> first
      | rfl
      | (simp [hless] at hl; done)
      | simp only [hev, hevL, hbd, buildA, buildSliceA, hfS, hfA, hfE]
theorem val1_hless {ops : Array Oper} {o : Oper} (hl : hless o.op = true) (h : ∀ t ∈ o.looksAt ops, look σ.s t = look τ.s t) : val1 P Γ (dstsOf ops.toList) o σ = val1 P Γ (dstsOf ops.toList) o τ := by
  unfold val1
  rw [wantA_congr h, valX_hless hl (ev_looks h)]
def storeOp : Op → Bool
  | .store _ _ _ => true
  | _ => false
def store0 (H : List Obj) (size : Option Nat) (a v : A) : Option (Nat × Obj) :=
  match a with
  | .ref n off =>
    match nthO H n with
    | some (.box cs) => if size = some v.cells.length ∧ off + v.cells.length ≤ cs.length ∧ v.val = true then some (n, .box (spliceA cs off v.cells)) else none
    | _ => none
  | .eref n i off =>
    match nthO H n with
    | some (.row k es) => (es[i]?).bind fun e => if size = some v.cells.length ∧ off + v.cells.length ≤ e.cells.length ∧ v.cells.length ≠ 0 ∧ v.val = true ∧ v.pure = true then some (n, .row k (setNth es i (storeE e off v))) else none
    | _ => none
  | _ => none
theorem storeA_eq {d : Option Tmp} {size : Option Nat} {a v : A} : storeA σ d size a v = (store0 σ.H size a v).map fun x => (σ.setH x.1 x.2).put d (.tup []) := by
  cases a <;> simp only [storeA, store0, Option.map_none]
  · rename_i n off
    cases nthO σ.H n with
    | none => rfl
    | some o => cases o <;> simp only [Option.map_none] <;> split <;> rfl
  · rename_i n i off
    cases nthO σ.H n with
    | none => rfl
    | some o =>
      cases o <;> simp only [Option.map_none]
      rename_i k es
      cases es[i]? with
      | none => rfl
      | some e => simp only [Option.bind_some]; split <;> rfl
def store1 (P : Program) (ds : List (Option Tmp)) (o : Oper) (σ : St) : Option (Option (Nat × Obj)) :=
  match wantA ds σ o.guard with
  | none => none
  | some false => some none
  | some true =>
    match o.op with
    | .store t a x => (store0 σ.H (tySize P t) (σ.ev a) (σ.ev x)).map some
    | _ => none
def setO1 (σ : St) : Option (Nat × Obj) → St
  | some x => σ.setH x.1 x.2
  | none => σ
theorem exec1_storeR {ds : List (Option Tmp)} {n : Nat} {o : Oper} (h : storeOp o.op = true) : exec1 P Γ ds n o σ = (store1 P ds o σ).map fun x => (setO1 σ x).put o.dst (.tup []) := by
  unfold exec1 store1
  cases wantA ds σ o.guard with
  | none => rfl
  | some b =>
    cases b with
    | false => rfl
    | true =>
      simp only [if_true]
      cases ho : o.op <;> rw [ho] at h <;> simp [storeOp] at h
      simp only [execOp, storeA_eq]
      cases store0 σ.H _ _ _ <;> rfl
theorem store1_congr {ops : Array Oper} {o : Oper} (hH : σ.H = τ.H) (h : ∀ t ∈ o.looksAt ops, look σ.s t = look τ.s t) : store1 P (dstsOf ops.toList) o σ = store1 P (dstsOf ops.toList) o τ := by
  unfold store1
  rw [wantA_congr h]
  cases wantA (dstsOf ops.toList) τ o.guard with
  | none => rfl
  | some b =>
    cases b with
    | false => rfl
    | true =>
      simp only
      cases ho : o.op <;> try rfl
      rename_i t x y
      have h1 := ev_looks h x (by rw [ho]; simp [Op.operands])
      have h2 := ev_looks h y (by rw [ho]; simp [Op.operands])
      simp only [h1, h2, hH]
theorem setO1_s (o : Option (Nat × Obj)) : (setO1 σ o).s = σ.s := by cases o <;> rfl
theorem setO1_put (o : Option (Nat × Obj)) (d : Option Tmp) (v : A) : setO1 (σ.put d v) o = (setO1 σ o).put d v := by cases o <;> cases d <;> rfl
theorem swapS {ops : Array Oper} {n m : Nat} {y x : Oper} (hy : hless y.op = true) (hx : storeOp x.op = true) (hap : y.apart ops x = true) {σ1 σ2 : St}
    (h1 : exec1 P Γ (dstsOf ops.toList) n y σ = some σ1) (h2 : exec1 P Γ (dstsOf ops.toList) m x σ1 = some σ2) :
    ∃ σ1' σ2', exec1 P Γ (dstsOf ops.toList) m x σ = some σ1' ∧ exec1 P Γ (dstsOf ops.toList) n y σ1' = some σ2' ∧ simS σ2 σ2' := by
  obtain ⟨a1, a2, a3⟩ := Oper.apart_spec hap
  rw [exec1_plainR (hless_plain hy)] at h1
  rw [exec1_storeR hx] at h2
  obtain ⟨v, hv, rfl⟩ := Option.map_eq_some_iff.1 h1
  obtain ⟨o, hu, rfl⟩ := Option.map_eq_some_iff.1 h2
  have hu' : store1 P (dstsOf ops.toList) x σ = some o := by
    rw [← hu]
    exact store1_congr (put_H _ _).symm fun t ht => (look_put fun e he e' => a1 e he (e' ▸ ht)).symm
  have hv' : val1 P Γ (dstsOf ops.toList) y ((setO1 σ o).put x.dst (.tup [])) = some v := by
    rw [← hv]
    refine val1_hless hy fun t ht => ?_
    rw [look_put fun e he e' => a3 e he (e' ▸ ht), setO1_s]
  refine ⟨(setO1 σ o).put x.dst (.tup []), ((setO1 σ o).put x.dst (.tup [])).put y.dst v, by rw [exec1_storeR hx, hu']; rfl, by rw [exec1_plainR (hless_plain hy), hv']; rfl, ?_⟩
  simp only [setO1_put]
  exact put_comm a2
theorem execOp_sim {n : Nat} {d : Option Tmp} {op : Op} (hs : simS σ τ) {σ' : St} (h : execOp P Γ n d op σ = some σ') : ∃ τ', execOp P Γ n d op τ = some τ' ∧ simS σ' τ' := by
  by_cases hp : plainOp P Γ op = true
  · rw [execOp_plain hp] at h ⊢
    rw [← valX_congr hs.2 (fun x _ => hs.ev x)]
    cases hv : valX P Γ σ op with
    | none => simp [hv] at h
    | some v =>
      simp [hv] at h
      subst h
      exact ⟨_, rfl, hs.put d v⟩
  · have hbox : ∀ x : A, boxA σ n d x = some σ' → ∃ τ', boxA τ n d x = some τ' ∧ simS σ' τ' := fun x h => by
      unfold boxA at h ⊢
      split at h
      · rename_i hv
        obtain rfl := Option.some.inj h
        rw [if_pos hv]
        exact ⟨_, rfl, (hs.setH n _).put d _⟩
      · simp at h
    unfold execOp at h ⊢
    split at h
    · cases hz : zeroA P _ with
      | none => rw [hz] at h; simp [allocA] at h
      | some z => rw [hz] at h; simp only [allocA] at h ⊢; exact hbox z h
    · simp only [← hs.ev]; exact hbox _ h
    · simp only [← hs.ev]
      unfold storeA at h ⊢
      split at h
      · simp only [← hs.2]
        split at h
        · split at h
          · rename_i hc
            obtain rfl := Option.some.inj h
            rw [if_pos hc]
            exact ⟨_, rfl, (hs.setH _ _).put d _⟩
          · simp at h
        · simp at h
      · simp only [← hs.2]
        split at h
        · rename_i k es ho
          obtain ⟨e, he, h⟩ := Option.bind_eq_some_iff.1 h
          simp only [he, Option.bind_some]
          split at h
          · rename_i hc
            obtain rfl := Option.some.inj h
            rw [if_pos hc]
            exact ⟨_, rfl, (hs.setH _ _).put d _⟩
          · simp at h
        · simp at h
      · simp at h
    · simp only [← hs.ev]
      unfold convX at h ⊢
      split at h
      · rename_i hb
        rw [if_pos hb]
        split at h
        · obtain rfl := Option.some.inj h
          exact ⟨_, rfl, (hs.setH _ _).put d _⟩
        · simp at h
      · rename_i hb
        rw [if_neg hb, ← hs.2]
        cases hv : convA P _ _ σ.H (σ.ev _) with
        | none => simp [hv] at h
        | some v =>
          simp [hv] at h
          subst h
          exact ⟨_, rfl, hs.put d v⟩
    · simp only [← hs.ev]
      unfold appendX at h ⊢
      split at h
      · split at h
        · split at h
          · simp at h
          · rename_i hc
            rw [if_neg hc]
            have hsrc : ∀ e tx k x, srcE P σ e tx k x = srcE P τ e tx k x := fun e tx k x => by unfold srcE; rw [hs.2]
            rw [← hsrc]
            cases hv : srcE P σ _ _ _ (σ.ev _) with
            | none => simp [hv] at h
            | some src =>
              simp only [hv, Option.bind_some] at h ⊢
              unfold appendA at h ⊢
              split at h
              · split at h
                · rename_i hq
                  obtain rfl := Option.some.inj h
                  rw [if_pos hq]
                  exact ⟨_, rfl, (hs.setH _ _).put d _⟩
                · simp at h
              · split at h
                · rename_i hq
                  obtain rfl := Option.some.inj h
                  rw [if_pos hq]
                  exact ⟨_, rfl, (hs.setH _ _).put d _⟩
                · simp at h
              · simp only [← hs.2]
                split at h
                · split at h
                  · rename_i hq
                    rw [if_pos hq]
                    split at h
                    · rename_i hcl
                      rw [if_pos hcl]
                      split at h
                      · simp at h
                      · rename_i hne
                        obtain rfl := Option.some.inj h
                        rw [if_neg hne]
                        exact ⟨_, rfl, (hs.setH _ _).put d _⟩
                    · rename_i hcl
                      rw [if_neg hcl]
                      split at h
                      · simp at h
                      · rename_i hnf
                        obtain rfl := Option.some.inj h
                        rw [if_neg hnf]
                        exact ⟨_, rfl, ((hs.scrub _).setH _ _).put d _⟩
                  · simp at h
                · simp at h
              · simp at h
        · simp at h
      · simp at h
    · simp only [← hs.ev]
      unfold clearA at h ⊢
      simp only [← hs.2]
      split at h
      · split at h
        · split at h
          · split at h
            · split at h
              · rename_i hc
                obtain rfl := Option.some.inj h
                rw [if_pos hc]
                exact ⟨_, rfl, (hs.setH _ _).put d _⟩
              · simp at h
            · simp at h
          · simp at h
        · simp at h
      · simp at h
    · rename_i f xs us
      have hf : isEff Γ f = true := by simpa [plainOp] using hp
      rw [if_pos hf] at h ⊢
      simp only [← hs.ev, ← evL_congr (σ := σ) (τ := τ) (fun x _ => hs.ev x)]
      exact callHV_sim hs h
    · rw [← evalR_congr hs.2 (fun x _ => hs.ev x)]
      cases hv : evalR P σ op with
      | none => simp [hv] at h
      | some v =>
        simp [hv] at h
        subst h
        exact ⟨_, rfl, hs.put d v⟩
theorem exec1_sim {ops : Array Oper} {n : Nat} {o : Oper} (hs : simS σ τ) {σ' : St} (h : exec1 P Γ (dstsOf ops.toList) n o σ = some σ') : ∃ τ', exec1 P Γ (dstsOf ops.toList) n o τ = some τ' ∧ simS σ' τ' := by
  unfold exec1 at h ⊢
  rw [← wantA_congr (σ := σ) (τ := τ) (ops := ops) (o := o) fun t _ => hs.1 t]
  cases hw : wantA (dstsOf ops.toList) σ o.guard with
  | none => simp [hw] at h
  | some b =>
    simp only [hw] at h ⊢
    cases b with
    | true => simp only [if_true] at h ⊢; exact execOp_sim hs h
    | false =>
      simp at h ⊢
      subst h
      exact hs.put _ _
theorem runL_sim {ops : Array Oper} : ∀ {L : List (Nat × Nat × Oper)} {σ τ σ' : St}, simS σ τ → runL P Γ (dstsOf ops.toList) L σ = some σ' → ∃ τ', runL P Γ (dstsOf ops.toList) L τ = some τ' ∧ simS σ' τ'
  | [], σ, τ, σ', hs, h => by simp only [runL, Option.some.injEq] at h; subst h; exact ⟨τ, rfl, hs⟩
  | x :: L, σ, τ, σ', hs, h => by
    simp only [runL] at h
    cases h1 : exec1 P Γ (dstsOf ops.toList) x.1 x.2.2 σ with
    | none => simp [h1] at h
    | some σ1 =>
      simp only [h1, Option.bind_some] at h
      obtain ⟨τ1, h2, hs1⟩ := exec1_sim hs h1
      obtain ⟨τ', h3, hs'⟩ := runL_sim hs1 h
      exact ⟨τ', by simp only [runL, h2, Option.bind_some]; exact h3, hs'⟩
theorem moveFront {ops : Array Oper} {x : Nat × Nat × Oper} {L2 : List (Nat × Nat × Oper)} : ∀ {L1 : List (Nat × Nat × Oper)} {σ τ : St},
    (∀ y ∈ L1, (plainOp P Γ y.2.2.op = true ∧ plainOp P Γ x.2.2.op = true ∨ plainOp P Γ y.2.2.op = true ∧ allocOp x.2.2.op = true ∨ allocOp y.2.2.op = true ∧ allocOp x.2.2.op = true ∧ y.1 ≠ x.1 ∨ hless y.2.2.op = true ∧ storeOp x.2.2.op = true) ∧ y.2.2.apart ops x.2.2 = true) →
    (allocOp x.2.2.op = true → nthO σ.H x.1 = some (.row 0 [])) →
    runL P Γ (dstsOf ops.toList) (L1 ++ x :: L2) σ = some τ → ∃ σ1 τ', exec1 P Γ (dstsOf ops.toList) x.1 x.2.2 σ = some σ1 ∧ runL P Γ (dstsOf ops.toList) (L1 ++ L2) σ1 = some τ' ∧ simS τ τ'
  | [], σ, τ, _, _, h => by
    simp only [List.nil_append, runL] at h ⊢
    cases h1 : exec1 P Γ (dstsOf ops.toList) x.1 x.2.2 σ with
    | none => simp [h1] at h
    | some σ1 =>
      simp only [h1, Option.bind_some] at h
      exact ⟨σ1, τ, rfl, h, simS.refl τ⟩
  | y :: L1, σ, τ, hi, hnth, h => by
    simp only [List.cons_append, runL] at h
    cases h1 : exec1 P Γ (dstsOf ops.toList) y.1 y.2.2 σ with
    | none => simp [h1] at h
    | some σa =>
      simp only [h1, Option.bind_some] at h
      obtain ⟨i1, i3⟩ := hi y (by simp)
      obtain ⟨σb, τ', h2, h3, hs⟩ := moveFront (L1 := L1) (fun z hz => hi z (by simp [hz])) (fun ha => by
        rcases i1 with ⟨j1, j2⟩ | ⟨j1, _⟩ | ⟨j1, _, j3⟩ | ⟨j1, _⟩
        · rw [exec1_plainR j1] at h1
          obtain ⟨v, _, rfl⟩ := Option.map_eq_some_iff.1 h1
          rw [put_H]; exact hnth ha
        · rw [exec1_plainR j1] at h1
          obtain ⟨v, _, rfl⟩ := Option.map_eq_some_iff.1 h1
          rw [put_H]; exact hnth ha
        · rw [exec1_allocH j1 j3 h1]; exact hnth ha
        · rw [exec1_plainR (hless_plain j1)] at h1
          obtain ⟨v, _, rfl⟩ := Option.map_eq_some_iff.1 h1
          rw [put_H]; exact hnth ha) h
      have hsw : ∃ σ1' σ2', exec1 P Γ (dstsOf ops.toList) x.1 x.2.2 σ = some σ1' ∧ exec1 P Γ (dstsOf ops.toList) y.1 y.2.2 σ1' = some σ2' ∧ simS σb σ2' := by
        rcases i1 with ⟨j1, j2⟩ | ⟨j1, j2⟩ | ⟨j1, j2, j3⟩ | ⟨j1, j2⟩
        · exact swap1 j1 j2 i3 h1 h2
        · exact swapA j1 j2 i3 (hnth j2) h1 h2
        · exact swapAA j1 j2 i3 j3 h1 h2
        · exact swapS j1 j2 i3 h1 h2
      obtain ⟨σ1', σ2', g1, g2, gs⟩ := hsw
      obtain ⟨τ'', g3, gs'⟩ := runL_sim gs h3
      exact ⟨σ1', τ'', g1, by simp only [List.cons_append, runL, g2, Option.bind_some]; exact g3, hs.trans gs'⟩
end
end Go.Abs
namespace Go.Abs
open Go.RowKit
def ancOf (aq : List Nat) (o : Oper) : Nat := o.after.toList.foldl (fun x e => if Region.binds .any e = true then x ||| 2 ^ e.on ||| aq.getD e.on 0 else x) 0
def ancs : List Oper → List Nat → List Nat
  | [], aq => aq
  | o :: os, aq => ancs os (aq ++ [ancOf aq o])
def pairOK (P : Program) (Γ : Tab) (ops : Array Oper) (m : Nat) (oi : Oper) (j : Nat) : Bool :=
  match ops[j]? with
  | some oj => m.testBit j || ((plainOp P Γ oj.op && plainOp P Γ oi.op || plainOp P Γ oj.op && allocOp oi.op || allocOp oj.op && allocOp oi.op || hless oj.op && storeOp oi.op) && oj.apart ops oi)
  | none => true
def orderOK1 (P : Program) (Γ : Tab) (ops : Array Oper) (aq : List Nat) : Bool :=
  (List.range ops.size).all fun i =>
    match ops[i]? with
    | some oi => (oi.after.toList.all fun e => !Region.binds .any e || decide (e.on < i)) && (List.range i).all (pairOK P Γ ops (aq.getD i 0) oi)
    | none => true
def orderOK (P : Program) (Γ : Tab) (ops : Array Oper) : Bool := orderOK1 P Γ ops (ancs ops.toList [])
def readyI (ops : Array Oper) (L : List Nat) (i : Nat) : Bool :=
  match ops[i]? with
  | some o => o.after.toList.all fun e => !Region.binds .any e || !L.contains e.on
  | none => false
def simpleOp (P : Program) (Γ : Tab) (o : Op) : Bool := plainOp P Γ o || allocOp o || storeOp o
def simpleR (P : Program) (Γ : Tab) (ops : Array Oper) : Bool := ops.toList.all fun o => simpleOp P Γ o.op
def commI (P : Program) (Γ : Tab) (ops : Array Oper) (i y : Nat) : Bool :=
  match ops[i]?, ops[y]? with
  | some a, some b => ((plainOp P Γ a.op && plainOp P Γ b.op) || (hless a.op && storeOp b.op) || (simpleR P Γ ops && plainOp P Γ a.op && allocOp b.op)) && a.apart ops b
  | _, _ => false
def cov (P : Program) (Γ : Tab) (ops : Array Oper) (aq : List Nat) : Nat → List Nat → List (List Nat) → Bool
  | 0, L, rs => L.isEmpty && !rs.isEmpty && rs.all List.isEmpty
  | f + 1, L, rs =>
    match rs with
    | [] => false
    | [] :: _ => false
    | (i :: _) :: _ =>
      if (rs.all (fun r => r.head? == some i) && L.contains i && readyI ops L i && L.all (fun y => y == i || (aq.getD y 0).testBit i || commI P Γ ops i y)) = true then cov P Γ ops aq f (L.erase i) (rs.map List.tail)
      else L.all fun j => !readyI ops L j || cov P Γ ops aq f (L.erase j) (rs.filterMap fun r => if r.head? = some j then some r.tail else none)
def blkD (D : List (Nat × Nat)) (L : List Nat) (j : Nat) : Bool := D.any fun p => p.2 == j && L.contains p.1
def cov2 (P : Program) (Γ : Tab) (ops : Array Oper) (aq : List Nat) : Nat → List Nat → List (Nat × Nat) → List (List Nat) → Bool
  | 0, _, _, _ => false
  | f + 1, L, D, rs =>
    match rs with
    | [] => false
    | [] :: _ => L.isEmpty && rs.all List.isEmpty
    | (i :: _) :: _ =>
      (L.contains i && readyI ops L i && !blkD D L i) &&
      match L.filter (fun y => !(y == i || (aq.getD y 0).testBit i || commI P Γ ops i y || D.any fun p => p.1 == i && L.contains p.2 && (p.2 == y || (aq.getD y 0).testBit p.2))) with
      | [] => rs.all (fun r => r.head? == some i) && cov2 P Γ ops aq f (L.erase i) D (rs.map List.tail)
      | [c] => cov2 P Γ ops aq f (L.erase i) D (rs.filterMap fun r => if r.head? = some i then some r.tail else none) && cov2 P Γ ops aq f L ((c, i) :: D) (rs.filter fun r => r.head? != some i)
      | _ => false
def ordsOK (P : Program) (Γ : Tab) (ops : Array Oper) (os : List (List Nat)) : Bool :=
  ((List.range ops.size).all fun i => match ops[i]? with | some o => o.after.toList.all fun e => !Region.binds .any e || decide (e.on < i) | none => true) &&
  (cov P Γ ops (ancs ops.toList []) ops.size (List.range ops.size) os || cov2 P Γ ops (ancs ops.toList []) (3 * ops.size) (List.range ops.size) [] os)
def dstOK (nt : Nat) (ops : Array Oper) : Bool := ops.toList.all fun o => match o.dst with | some d => decide (d < nt) | none => true
def frzOK (Γ : Tab) (os : List (List Nat)) : Bool :=
  match frzOf os with
  | none => true
  | some ρ => decide ρ.Nodup && ρ.all fun n => decide (Γ.nf ≤ n)
def codeOK (P : Program) (Γ : Tab) (nt : Nat) : Code → Bool
  | .seq a b => codeOK P Γ nt a && codeOK P Γ nt b
  | .cond _ a b => codeOK P Γ nt a && codeOK P Γ nt b
  | .block _ c => codeOK P Γ nt c
  | .loop c => codeOK P Γ nt c
  | .region id ops d => (dstOK nt ops && frzOK Γ (Γ.ords id)) && (if (ordOf (Γ.ords id)).isEmpty = true then (!d || orderOK P Γ ops) else (d && ordsOK P Γ ops (ordOf (Γ.ords id))))
  | _ => true
section
variable {P : Program} {Γ : Tab} {N0 : Nat → Prop} {w0 : Base} {nt : Nat} {σ τ : St} {φ : List Own} {a : Act} {w : World}
theorem dstOK_spec {ops : Array Oper} (h : dstOK nt ops = true) {i : Nat} {o : Oper} (ho : ops[i]? = some o) : ∀ t, o.dst = some t → t < nt := fun t ht => by
  unfold dstOK at h
  rw [List.all_eq_true] at h
  have := h o (by simpa using Array.mem_of_getElem? ho)
  simp only [ht, decide_eq_true_eq] at this
  exact this
theorem Conc.sim (h : Conc N0 w0 nt σ φ a w) (hs : simS σ τ) : Conc N0 w0 nt τ φ a w :=
  { h with
    slots := fun d => by rw [← hs.1 d]; exact h.slots d
    len := by rw [← hs.2]; exact h.len
    objs := fun n o p ho hp => h.objs n o p (by rw [hs.2]; exact ho) hp }
theorem exec1_name {ds : List (Option Tmp)} {n n' : Nat} {o : Oper} (h : allocs P o.op = false) : exec1 P Γ ds n o σ = exec1 P Γ ds n' o σ := by
  unfold exec1
  split
  · rfl
  · rename_i b hb
    cases b with
    | false => rfl
    | true =>
      simp only [if_true]
      unfold execOp
      split
      · rename_i h'; rw [h'] at h; simp [allocs] at h
      · rename_i h'; rw [h'] at h; simp [allocs] at h
      · rfl
      · rename_i h'
        rw [h'] at h
        simp only [allocs] at h
        simp only [convX, h, Bool.false_eq_true, if_false]
      · rename_i h'; rw [h'] at h; simp [allocs] at h
      · rfl
      · rfl
      · rfl
theorem step_sound (hΓ : TabOK P Γ) (hfix : w0.fix = Γ.fix) (h : Conc N0 w0 nt σ φ a w) {ops : Array Oper} (hok : dstOK nt ops = true) {x : Nat × Nat × Oper} (ho : ops[x.2.1]? = some x.2.2) {L : List (Nat × Nat × Oper)}
    (hfx : allocs P x.2.2.op = true → φ[x.1]? = some .free) (hfL : ∀ y ∈ L, allocs P y.2.2.op = true → φ[y.1]? = some .free) (hne : ∀ y ∈ L, allocs P x.2.2.op = true → allocs P y.2.2.op = true → y.1 ≠ x.1) {σ' : St}
    (hr : exec1 P Γ (dstsOf ops.toList) x.1 x.2.2 σ = some σ') {Q : Exit → Act → World → Prop} {K : Act → World → Prop}
    (hK : ∀ φ' a' w', Conc N0 w0 nt σ' φ' a' w' → (∀ y ∈ L, allocs P y.2.2.op = true → φ'[y.1]? = some .free) → K a' w') : wpOp P ops Q x.2.1 K a w := by
  by_cases hal : allocs P x.2.2.op = true
  · exact exec1_sound hΓ h ho (dstOK_spec hok ho) hfix (fun _ => hfx hal) hr fun φ' a' w' hc hf => hK φ' a' w' hc fun y hy ha => hf y.1 (hne y hy hal ha) (hfL y hy ha)
  · have hal' : allocs P x.2.2.op = false := by simpa using hal
    rw [exec1_name (n' := φ.length) hal'] at hr
    refine exec1_sound hΓ h ho (dstOK_spec hok ho) hfix (fun ha => absurd ha hal) hr fun φ' a' w' hc hf => hK φ' a' w' hc fun y hy ha => hf y.1 (fun e => ?_) (hfL y hy ha)
    have := (List.getElem?_eq_some_iff.1 (hfL y hy ha)).1
    omega
theorem text_sound (hΓ : TabOK P Γ) (hfix : w0.fix = Γ.fix) {ops : Array Oper} (hok : dstOK nt ops = true) {Q : Exit → Act → World → Prop} {τ : St} : ∀ {L : List (Nat × Nat × Oper)} {σ : St} {φ : List Own} {a : Act} {w : World},
    Conc N0 w0 nt σ φ a w → (∀ x ∈ L, ops[x.2.1]? = some x.2.2) → L.Pairwise (fun x y => x.2.1 < y.2.1 ∧ (allocs P x.2.2.op = true → x.1 < y.1)) →
    (∀ y ∈ L, allocs P y.2.2.op = true → φ[y.1]? = some .free) → runL P Γ (dstsOf ops.toList) L σ = some τ → (∀ φ' a' w', Conc N0 w0 nt τ φ' a' w' → Q .normal a' w') → wpOps P ops Q (L.map (·.2.1)) a w
  | [], σ, φ, a, w, h, _, _, _, hr, hQ => by
    simp only [runL, Option.some.injEq] at hr
    subst hr
    exact hQ φ a w h
  | x :: L, σ, φ, a, w, h, hops, hp, hf, hr, hQ => by
    rw [List.map_cons, wpOps_cons]
    simp only [runL] at hr
    rw [List.pairwise_cons] at hp
    cases h1 : exec1 P Γ (dstsOf ops.toList) x.1 x.2.2 σ with
    | none => simp [h1] at hr
    | some σ1 =>
      simp only [h1, Option.bind_some] at hr
      refine step_sound hΓ hfix h hok (hops x (by simp)) (L := L) (hf x (by simp)) (fun y hy => hf y (by simp [hy])) (fun y hy ha _ e => ?_) h1 fun φ' a' w' hc hf' => ?_
      · have := (hp.1 y hy).2 ha
        omega
      · exact text_sound hΓ hfix hok hc (fun y hy => hops y (by simp [hy])) hp.2 hf' hr hQ
theorem ancOf_spec {aq : List Nat} {j : Nat} : ∀ {es : List Edge} {x : Nat}, (es.foldl (fun x e => if Region.binds .any e = true then x ||| 2 ^ e.on ||| aq.getD e.on 0 else x) x).testBit j = true →
    x.testBit j = true ∨ ∃ e ∈ es, Region.binds .any e = true ∧ (e.on = j ∨ (aq.getD e.on 0).testBit j = true)
  | [], x, h => .inl h
  | e :: es, x, h => by
    rw [List.foldl_cons] at h
    rcases ancOf_spec h with h | ⟨e', he', h'⟩
    · split at h
      · rename_i hb
        rw [Nat.testBit_or, Nat.testBit_or, Bool.or_eq_true, Bool.or_eq_true, Nat.testBit_two_pow] at h
        rcases h with (h | h) | h
        · exact .inl h
        · exact .inr ⟨e, by simp, hb, .inl (by simpa using h)⟩
        · exact .inr ⟨e, by simp, hb, .inr h⟩
      · exact .inl h
    · exact .inr ⟨e', by simp [he'], h'⟩
theorem ancs_spec {ops : Array Oper} {D : Nat → Prop} (hD : ∀ (m : Nat) (o : Oper), ops[m]? = some o → D m → ∀ e ∈ o.after, Region.binds .any e = true → D e.on) : ∀ {os ps : List Oper} {aq : List Nat}, ops.toList = ps ++ os → aq.length = ps.length →
    (∀ (m : Nat) (o : Oper), m < aq.length → ops[m]? = some o → (∀ e ∈ o.after, Region.binds .any e = true → D e.on) → ∀ j, (aq.getD m 0).testBit j = true → D j) →
    ∀ (m : Nat) (o : Oper), ops[m]? = some o → (∀ e ∈ o.after, Region.binds .any e = true → D e.on) → ∀ j, ((ancs os aq).getD m 0).testBit j = true → D j
  | [], ps, aq, hp, hl, h, m, o, ho, hd, j, hj => by
    have hm : m < aq.length := by
      have h1 := (Array.getElem?_eq_some_iff.1 ho).1
      have h2 : ops.toList.length = ps.length := by rw [hp]; simp
      rw [Array.length_toList] at h2
      omega
    exact h m o hm ho hd j hj
  | q :: os, ps, aq, hp, hl, h, m, o, ho, hd, j, hj => by
    simp only [ancs] at hj
    refine ancs_spec (os := os) (ps := ps ++ [q]) (aq := aq ++ [ancOf aq q]) hD (by rw [hp]; simp) (by simp [hl]) ?_ m o ho hd j hj
    intro m' o' hm' ho' hd' j' hj'
    by_cases hlt : m' < aq.length
    · rw [show (aq ++ [ancOf aq q]).getD m' 0 = aq.getD m' 0 by simp [List.getD, List.getElem?_append_left hlt]] at hj'
      exact h m' o' hlt ho' hd' j' hj'
    · have hme : m' = aq.length := by rw [List.length_append] at hm'; simp at hm'; omega
      subst hme
      have hq : ops[aq.length]? = some q := by
        rw [← Array.getElem?_toList, hp, hl]; simp
      rw [ho'] at hq
      obtain rfl := Option.some.inj hq
      have e1 : (aq ++ [ancOf aq o']).getD aq.length 0 = ancOf aq o' := by simp [List.getD]
      rw [e1] at hj'
      rcases ancOf_spec hj' with h0 | ⟨e, he, hb, h1⟩
      · simp at h0
      · have he' : e ∈ o'.after := by simpa using he
        rcases h1 with rfl | h1
        · exact hd' e he' hb
        · by_cases hlt' : e.on < aq.length
          · have hlt2 : e.on < ops.size := by
              have := congrArg List.length hp
              simp at this
              omega
            exact h e.on ops[e.on] hlt' (Array.getElem?_eq_getElem hlt2) (hD e.on _ (Array.getElem?_eq_getElem hlt2) (hd' e he' hb)) j' h1
          · rw [show aq.getD e.on 0 = 0 by simp [List.getD, List.getElem?_eq_none (Nat.le_of_not_lt hlt')]] at h1
            simp at h1
theorem orderOK_spec {ops : Array Oper} (h : orderOK P Γ ops = true) {i : Nat} {oi : Oper} (hi : ops[i]? = some oi) :
    (∀ e ∈ oi.after, Region.binds .any e = true → e.on < i) ∧ ∀ (j : Nat) (oj : Oper), j < i → ops[j]? = some oj → ((ancs ops.toList []).getD i 0).testBit j = true ∨ ((plainOp P Γ oj.op = true ∧ plainOp P Γ oi.op = true ∨ plainOp P Γ oj.op = true ∧ allocOp oi.op = true ∨ allocOp oj.op = true ∧ allocOp oi.op = true ∨ hless oj.op = true ∧ storeOp oi.op = true) ∧ oj.apart ops oi = true) := by
  unfold orderOK orderOK1 at h
  rw [List.all_eq_true] at h
  have h1 := h i (by simpa using (Array.getElem?_eq_some_iff.1 hi).1)
  simp only [hi, Bool.and_eq_true] at h1
  obtain ⟨h2, h3⟩ := h1
  rw [List.all_eq_true] at h2 h3
  refine ⟨fun e he hb => ?_, fun j oj hj hoj => ?_⟩
  · have := h2 e (by simpa using he)
    simpa [hb] using this
  · have := h3 j (by simpa using hj)
    unfold pairOK at this
    simp only [hoj, Bool.or_eq_true, Bool.and_eq_true] at this
    rcases this with h | ⟨((h4 | h4) | h4) | h4, h6⟩
    · exact .inl h
    · exact .inr ⟨.inl h4, h6⟩
    · exact .inr ⟨.inr (.inl h4), h6⟩
    · exact .inr ⟨.inr (.inr (.inl h4)), h6⟩
    · exact .inr ⟨.inr (.inr (.inr h4)), h6⟩
theorem allocs_of {op : Op} (h : allocOp op = true) : allocs P op = true := by
  cases op <;> simp [allocOp] at h <;> rfl
theorem free_obj (h : Conc N0 w0 nt σ φ a w) {n : Nat} (hn : φ[n]? = some .free) : nthO σ.H n = some (.row 0 []) := by
  have hlt : n < σ.H.length := by rw [← h.len]; exact (List.getElem?_eq_some_iff.1 hn).1
  have ho : nthO σ.H n = some σ.H[n] := by rw [nthO_eq]; exact List.getElem?_eq_getElem hlt
  have := h.objs n _ _ ho hn
  rw [ho]
  cases hh : σ.H[n] with
  | box cs => rw [hh] at this; simp [ObjRel] at this
  | row k es => rw [hh] at this; simp only [ObjRel] at this; rw [this.1, this.2]
theorem any_sound (hΓ : TabOK P Γ) (hfix : w0.fix = Γ.fix) {ops : Array Oper} (hok : dstOK nt ops = true) (hord : orderOK P Γ ops = true) {Q : Exit → Act → World → Prop} : ∀ (fuel : Nat) (listed : Array Bool) {L : List (Nat × Nat × Oper)} {σ τ : St} {φ : List Own} {a : Act} {w : World},
    L.length ≤ fuel → (∀ i, listed.getD i true = false ↔ ∃ x ∈ L, x.2.1 = i) →
    Conc N0 w0 nt σ φ a w → (∀ x ∈ L, ops[x.2.1]? = some x.2.2) → L.Pairwise (fun x y => x.2.1 < y.2.1 ∧ (allocs P x.2.2.op = true → x.1 < y.1)) →
    (∀ y ∈ L, allocs P y.2.2.op = true → φ[y.1]? = some .free) → runL P Γ (dstsOf ops.toList) L σ = some τ → (∀ φ' a' w', Conc N0 w0 nt τ φ' a' w' → Q .normal a' w') → listed.size = ops.size → (∀ (m : Nat) (o : Oper), ops[m]? = some o → listed.getD m true = true → ∀ e ∈ o.after, Region.binds .any e = true → listed.getD e.on true = true) → wpAny P .any ops Q fuel listed a w := by
  intro fuel
  -- the first of those that are left is ready
  have first : ∀ (listed : Array Bool) (x : Nat × Nat × Oper) (L : List (Nat × Nat × Oper)), (∀ i, listed.getD i true = false ↔ ∃ y ∈ x :: L, y.2.1 = i) → (∀ y ∈ x :: L, ops[y.2.1]? = some y.2.2) →
      (x :: L).Pairwise (fun x y => x.2.1 < y.2.1 ∧ (allocs P x.2.2.op = true → x.1 < y.1)) → listed.size = ops.size → x.2.1 ∈ Region.ready .any ops listed := by
    intro listed x L hl hops hp hsz
    rw [mem_ready]
    refine ⟨(hl x.2.1).2 ⟨x, by simp, rfl⟩, x.2.2, hops x (by simp), fun e he hb => ?_⟩
    have hlt := (orderOK_spec hord (hops x (by simp))).1 e he hb
    have hxs : x.2.1 < ops.size := (Array.getElem?_eq_some_iff.1 (hops x (by simp))).1
    cases hg : listed.getD e.on true with
    | false =>
      obtain ⟨y, hy, hye⟩ := (hl e.on).1 hg
      rcases List.mem_cons.1 hy with rfl | hy
      · omega
      · have := ((List.pairwise_cons.1 hp).1 y hy).1
        omega
    | true =>
      have he : e.on < listed.size := by omega
      simpa [he] using hg
  induction fuel with
  | zero =>
    intro listed L σ τ φ a w hlen hl hc hops hp hf hr hQ hsz hcl
    have hL : L = [] := List.length_eq_zero_iff.1 (by omega)
    subst hL
    simp only [runL, Option.some.injEq] at hr
    subst hr
    refine ⟨?_, hQ φ a w hc⟩
    rw [List.eq_nil_iff_forall_not_mem]
    intro i hi
    obtain ⟨x, hx, _⟩ := (hl i).1 (mem_ready.1 hi).1
    cases hx
  | succ fuel ih =>
    intro listed L σ τ φ a w hlen hl hc hops hp hf hr hQ hsz hcl
    refine ⟨fun hnil => ?_, fun i hi => ?_⟩
    · cases L with
      | nil =>
        simp only [runL, Option.some.injEq] at hr
        subst hr
        exact hQ φ a w hc
      | cons x L =>
        have := first listed x L hl hops hp hsz
        rw [hnil] at this
        cases this
    · obtain ⟨hun, oi, hoi, hall⟩ := mem_ready.1 hi
      obtain ⟨x, hx, rfl⟩ := (hl i).1 hun
      have hxo := hops x hx
      rw [hoi] at hxo
      obtain rfl := Option.some.inj hxo
      obtain ⟨L1, L2, rfl⟩ := List.append_of_mem hx
      have hpp := List.pairwise_append.1 hp
      have hp2 := List.pairwise_cons.1 hpp.2.1
      obtain ⟨σ1, τ', g1, g2, gs⟩ := moveFront (fun y hy => by
        have hlt := (hpp.2.2 y hy x (by simp)).1
        have hyo := hops y (by simp [hy])
        rcases (orderOK_spec hord hoi).2 y.2.1 y.2.2 hlt hyo with hdep | hind
        · exfalso
          have h2 := (hl y.2.1).2 ⟨y, by simp [hy], rfl⟩
          have h1 := ancs_spec (ops := ops) (D := fun m => listed.getD m true = true) hcl (os := ops.toList) (ps := []) (aq := []) rfl rfl (fun m o hm => absurd hm (by simp)) x.2.1 x.2.2 hoi (fun e he hb => by
            have h3 := hall e he hb
            have h4 := (orderOK_spec hord hoi).1 e he hb
            have h5 : e.on < listed.size := by rw [hsz]; have := (Array.getElem?_eq_some_iff.1 hoi).1; omega
            simpa [h5] using h3) y.2.1 hdep
          rw [h1] at h2
          cases h2
        · refine ⟨?_, hind.2⟩
          rcases hind.1 with h' | h' | ⟨h1, h2⟩ | h'
          · exact .inl h'
          · exact .inr (.inl h')
          · have hne := (hpp.2.2 y hy x (by simp)).2 (allocs_of h1)
            exact .inr (.inr (.inl ⟨h1, h2, by omega⟩))
          · exact .inr (.inr (.inr h'))) (fun ha => free_obj hc (hf x hx (allocs_of ha))) hr
      refine step_sound hΓ hfix hc hok hoi (L := L1 ++ L2) (hf x hx) (fun y hy => hf y (by
        rcases List.mem_append.1 hy with hy | hy
        · simp [hy]
        · simp [hy])) (fun y hy ha hb e => ?_) g1 fun φ' a' w' hc' hf' => ?_
      · rcases List.mem_append.1 hy with hy | hy
        · have := (hpp.2.2 y hy x (by simp)).2 hb
          omega
        · have := (hp2.1 y hy).2 ha
          omega
      · refine ih (listed.setIfInBounds x.2.1 true) (L := L1 ++ L2) (τ := τ') ?_ ?_ hc' ?_ ?_ hf' g2 ?_ (by simp [hsz]) ?_
        · simp at hlen ⊢; omega
        · intro i
          have hxs : x.2.1 < listed.size := by rw [hsz]; exact (Array.getElem?_eq_some_iff.1 hoi).1
          by_cases hxi : x.2.1 = i
          · subst hxi
            constructor
            · intro h; simp [hxs] at h
            · rintro ⟨y, hy, hye⟩
              exfalso
              rcases List.mem_append.1 hy with hy | hy
              · have := (hpp.2.2 y hy x (by simp)).1
                omega
              · have := (hp2.1 y hy).1
                omega
          · rw [getD_set_ne true hxi, hl i]
            constructor
            · rintro ⟨y, hy, hye⟩
              refine ⟨y, ?_, hye⟩
              rcases List.mem_append.1 hy with hy | hy
              · simp [hy]
              · rcases List.mem_cons.1 hy with rfl | hy
                · exact absurd hye hxi
                · simp [hy]
            · rintro ⟨y, hy, hye⟩
              refine ⟨y, ?_, hye⟩
              rcases List.mem_append.1 hy with hy | hy
              · simp [hy]
              · simp [hy]
        · intro y hy
          refine hops y ?_
          rcases List.mem_append.1 hy with hy | hy
          · simp [hy]
          · simp [hy]
        · rw [List.pairwise_append]
          exact ⟨hpp.1, hp2.2, fun y hy z hz => hpp.2.2 y hy z (by simp [hz])⟩
        · exact fun φ'' a'' w'' hc'' => hQ φ'' a'' w'' (hc''.sim gs.symm)
        · intro m o ho hm e he hb
          have hxs : x.2.1 < listed.size := by rw [hsz]; exact (Array.getElem?_eq_some_iff.1 hoi).1
          have key : listed.getD e.on true = true := by
            by_cases hxm : x.2.1 = m
            · subst hxm
              rw [hoi] at ho
              obtain rfl := Option.some.inj ho
              have h3 := hall e he hb
              have h4 := (orderOK_spec hord hoi).1 e he hb
              have h5 : e.on < listed.size := by rw [hsz]; have := (Array.getElem?_eq_some_iff.1 hoi).1; omega
              simpa [h5] using h3
            · rw [getD_set_ne true hxm] at hm
              exact hcl m o ho hm e he hb
          by_cases hxe : x.2.1 = e.on
          · rw [← hxe]; simp [hxs]
          · rw [getD_set_ne true hxe]; exact key
theorem Conc.growOne (h : Conc N0 w0 nt σ φ a w) : Conc N0 w0 nt { σ with H := σ.H ++ [.row 0 []] } (φ ++ [.free]) a w := by
  have hget : ∀ m : Nat, (φ ++ [Own.free])[m]? = if m = φ.length then some .free else φ[m]? := fun m => by
    rw [List.getElem?_append]
    split
    · rw [if_neg (by omega)]
    · split
      · rename_i h1 h2; subst h2; simp
      · rename_i h1 h2
        rw [List.getElem?_eq_none (by simp; omega), List.getElem?_eq_none (by omega)]
  have hat : ∀ m b k : Nat, (φ ++ [Own.free])[m]? = some (Own.loc b k) → φ[m]? = some (.loc b k) := fun m b k hm => by
    rw [hget] at hm
    split at hm
    · simp at hm
    · exact hm
  have hext : Ext (fun _ => True) (envOf N0 φ w) (envOf N0 (φ ++ [.free]) w) := {
    size := Nat.le_refl _
    blk := fun b _ hn => ⟨by
      rintro (h0 | ⟨m, k, hm⟩)
      · exact hn (.inl h0)
      · exact hn (.inr ⟨m, k, hat m b k hm⟩), rfl⟩
    refs := fun m o _ hm _ => by
      have hlt : m < φ.length := (List.getElem?_eq_some_iff.1 hm).1
      show (φ ++ [Own.free])[m]? = some o
      rw [hget, if_neg (by omega)]; exact hm
    own := fun m b k c e fr _ hm hc => ⟨c, fr, hc, rfl⟩ }
  exact {
    slots := fun d => Rep.mono hext _ _ (h.slots d) (fun _ _ => trivial)
    size := h.size
    defers := h.defers
    len := by simp [h.len]
    objs := fun m o p hm hp => by
      rw [hget] at hp
      rw [nthO_eq, List.getElem?_append] at hm
      split at hp
      · rename_i e
        simp at hp
        subst hp
        rw [if_neg (by rw [← h.len]; omega), show m - σ.H.length = 0 by rw [← h.len]; omega] at hm
        simp at hm
        subst hm
        simp [ObjRel]
      · rename_i e
        have hlt : m < φ.length := (List.getElem?_eq_some_iff.1 hp).1
        rw [if_pos (by rw [← h.len]; exact hlt)] at hm
        exact ObjRel.mono hext (h.objs m o p (by rw [nthO_eq]; exact hm) hp) (fun b k _ c e fr hh => hh) (fun _ _ _ _ => trivial)
    own := fun m b k hm => h.own m b k (hat m b k hm)
    inj := fun m m' b k k' hm hm' => h.inj m m' b k k' (hat m b k hm) (hat m' b k' hm')
    n0 := h.n0
    fixd := fun m p hf hp hfree => by
      have := h.fixd m p hf hp hfree
      have hlt : m < φ.length := (List.getElem?_eq_some_iff.1 this).1
      rw [List.getElem?_append_left hlt]; exact this
    below := h.below }
theorem growH_len (op : Op) : (grow P op σ).H.length = nxt P op σ.H.length := by
  unfold grow nxt
  split <;> simp
theorem pre_sound : ∀ (os : List Oper) (i : Nat) {σ : St} {φ : List Own}, Conc N0 w0 nt σ φ a w → ∃ φ', Conc N0 w0 nt (pre P os σ) φ' a w ∧ (∀ y ∈ ann P σ.H.length i os, allocs P y.2.2.op = true → φ'[y.1]? = some .free) ∧
    ∀ m : Nat, φ[m]? = some Own.free → φ'[m]? = some Own.free
  | [], i, σ, φ, h => ⟨φ, h, by simp [ann], fun _ h => h⟩
  | o :: os, i, σ, φ, h => by
    have hg : ∃ φ1, Conc N0 w0 nt (grow P o.op σ) φ1 a w ∧ (allocs P o.op = true → φ1[σ.H.length]? = some .free) ∧ ∀ m : Nat, φ[m]? = some Own.free → φ1[m]? = some Own.free := by
      unfold grow
      split
      · refine ⟨φ ++ [.free], h.growOne, fun _ => by rw [← h.len]; simp, fun m hm => ?_⟩
        have hlt : m < φ.length := (List.getElem?_eq_some_iff.1 hm).1
        rw [List.getElem?_append_left hlt]
        exact hm
      · rename_i ha
        exact ⟨φ, h, fun h => absurd h ha, fun _ h => h⟩
    obtain ⟨φ1, h1, hf, hk⟩ := hg
    obtain ⟨φ', h2, hf2, hk2⟩ := pre_sound os (i + 1) h1
    refine ⟨φ', h2, fun y hy ha => ?_, fun m hm => hk2 m (hk m hm)⟩
    simp only [ann, List.mem_cons] at hy
    rcases hy with rfl | hy
    · exact hk2 _ (hf ha)
    · rw [growH_len] at hf2
      exact hf2 y hy ha
theorem region_sound (hΓ : TabOK P Γ) (hfix : w0.fix = Γ.fix) (hm : P.follows .mixedOrders = true) (h : Conc N0 w0 nt σ φ a w) {id : Nat} {ops : Array Oper} {d : Bool} (hok : dstOK nt ops = true) (hord : d = true → orderOK P Γ ops = true) {τ : St}
    (hr : runSeq P Γ (dstsOf ops.toList) ops.toList σ.H.length (pre P ops.toList σ) = some τ) {Q : Exit → Act → World → Prop} (hQ : ∀ φ' a' w', Conc N0 w0 nt τ φ' a' w' → Q .normal a' w') : (Code.region id ops d).wp P Q a w := by
  rw [runSeq_runL P Γ _ _ _ 0] at hr
  have hops : ∀ x ∈ ann P σ.H.length 0 ops.toList, ops[x.2.1]? = some x.2.2 := fun x hx => by
    have := (ann_mem P _ _ _ x hx).2.2
    simpa using this
  have hp := ann_pair P ops.toList σ.H.length 0
  have hidx := ann_idx P ops.toList σ.H.length 0
  simp only [Nat.zero_add, Array.length_toList] at hidx
  have hidx' : (ann P σ.H.length 0 ops.toList).map (·.2.1) = List.range ops.size := by rw [hidx]; simp
  cases d with
  | false =>
    obtain ⟨φ', hc, hf, _⟩ := pre_sound (P := P) ops.toList 0 h
    refine wp_region ?_
    rw [← hidx']
    exact text_sound hΓ hfix hok hc hops hp hf hr hQ
  | true =>
    have hgr : Grew w { w with drawn := w.drawn + 1 } := Grew.drew w
    obtain ⟨φ', hc, hf, _⟩ := pre_sound (P := P) ops.toList 0 (h.grew hgr)
    refine wp_region_any hm ?_
    refine any_sound hΓ hfix hok (hord rfl) ops.size _ (L := ann P σ.H.length 0 ops.toList) ?_ ?_ hc hops hp hf hr hQ (by simp) (fun m o ho hm => by have := (Array.getElem?_eq_some_iff.1 ho).1; simp [this] at hm)
    · have := congrArg List.length hidx'
      simp at this
      omega
    · intro i
      have hmem : (∃ x ∈ ann P σ.H.length 0 ops.toList, x.2.1 = i) ↔ i < ops.size := by
        rw [← List.mem_range, ← hidx', List.mem_map]
      rw [hmem]
      by_cases hi : i < ops.size <;> simp [hi]
def GoodO (P : Program) (Γ : Tab) (ops : Array Oper) (B : List (Nat × Oper)) (q : St → Prop) : Nat → List Nat → St → Prop
  | 0, L, σ => L = [] ∧ q σ
  | f + 1, L, σ => ∀ i ∈ L, readyI ops L i = true → ∃ x σ', nthA B i = some x ∧ exec1 P Γ (dstsOf ops.toList) x.1 x.2 σ = some σ' ∧ GoodO P Γ ops B q f (L.erase i) σ'
theorem good_sim {ops : Array Oper} {B : List (Nat × Oper)} {q : St → Prop} (hq : ∀ {σ τ : St}, simS σ τ → q σ → q τ) : ∀ {f : Nat} {L : List Nat} {σ τ : St}, simS σ τ → GoodO P Γ ops B q f L σ → GoodO P Γ ops B q f L τ
  | 0, L, σ, τ, hs, h => ⟨h.1, hq hs h.2⟩
  | f + 1, L, σ, τ, hs, h => fun i hi hr => by
    obtain ⟨x, σ', h1, h2, h3⟩ := h i hi hr
    obtain ⟨τ', h4, h5⟩ := exec1_sim hs h2
    exact ⟨x, τ', h1, h4, good_sim hq h5 h3⟩
theorem ready_spec {ops : Array Oper} {L : List Nat} {i : Nat} (h : readyI ops L i = true) : ∃ o, ops[i]? = some o ∧ ∀ e ∈ o.after, Region.binds .any e = true → e.on ∉ L := by
  unfold readyI at h
  cases ho : ops[i]? with
  | none => rw [ho] at h; cases h
  | some o =>
    rw [ho] at h
    simp only [List.all_eq_true] at h
    refine ⟨o, rfl, fun e he hb hm => ?_⟩
    have := h e (by simpa using he)
    simp [hb, hm] at this
theorem ready_of {ops : Array Oper} {L : List Nat} {i : Nat} {o : Oper} (ho : ops[i]? = some o) (h : ∀ e ∈ o.after, Region.binds .any e = true → e.on ∉ L) : readyI ops L i = true := by
  unfold readyI
  rw [ho]
  simp only [List.all_eq_true]
  intro e he
  have := h e (by simpa using he)
  cases hb : Region.binds .any e with
  | false => rfl
  | true => simp [this hb]
theorem ready_erase {ops : Array Oper} {L : List Nat} {i j : Nat} (h : readyI ops L i = true) : readyI ops (L.erase j) i = true := by
  obtain ⟨o, ho, h1⟩ := ready_spec h
  exact ready_of ho fun e he hb hm => h1 e he hb (List.mem_of_mem_erase hm)
def Closed (ops : Array Oper) (L : List Nat) : Prop := ∀ (m : Nat) (o : Oper), ops[m]? = some o → m ∉ L → ∀ e ∈ o.after, Region.binds .any e = true → e.on ∉ L
theorem closed_erase {ops : Array Oper} {L : List Nat} {i : Nat} (hn : L.Nodup) (hc : Closed ops L) (hr : readyI ops L i = true) : Closed ops (L.erase i) := fun m o ho hm e he hb hme => by
  obtain ⟨o', ho', h1⟩ := ready_spec hr
  have hL := List.mem_of_mem_erase hme
  by_cases hmi : m = i
  · subst hmi
    rw [ho] at ho'
    obtain rfl := Option.some.inj ho'
    exact h1 e he hb hL
  · exact hc m o ho (fun hmL => hm ((List.mem_erase_of_ne hmi).2 hmL)) e he hb hL
theorem nthA_inj {ops : Array Oper} {B : List (Nat × Oper)} (hB : ∀ (i : Nat) (x : Nat × Oper), nthA B i = some x → ops[i]? = some x.2) {i : Nat} {x : Nat × Oper} {o : Oper} (h : nthA B i = some x) (ho : ops[i]? = some o) : x.2 = o := by
  have := hB i x h
  rw [ho] at this
  exact (Option.some.inj this).symm
def FreeB (B : List (Nat × Oper)) (L : List Nat) (σ : St) : Prop := ∀ i ∈ L, ∀ x, nthA B i = some x → allocOp x.2.op = true → nthO σ.H x.1 = some (.row 0 [])
theorem exec1_free {ds : List (Option Tmp)} {n m : Nat} {o : Oper} (hs : simpleOp P Γ o.op = true) (hne : allocOp o.op = true → n ≠ m) {σ' : St} (hr : exec1 P Γ ds n o σ = some σ') (hf : nthO σ.H m = some (.row 0 [])) : nthO σ'.H m = some (.row 0 []) := by
  unfold simpleOp at hs
  simp only [Bool.or_eq_true] at hs
  rcases hs with (hs | hs) | hs
  · rw [exec1_plainR hs] at hr
    obtain ⟨v, _, rfl⟩ := Option.map_eq_some_iff.1 hr
    rw [put_H]; exact hf
  · rw [exec1_allocH hs (hne hs) hr]; exact hf
  · rw [exec1_storeR hs] at hr
    obtain ⟨v, hv, rfl⟩ := Option.map_eq_some_iff.1 hr
    rw [put_H]
    cases v with
    | none => exact hf
    | some v =>
      have hvm : v.1 ≠ m := fun e => by
        unfold store1 at hv
        split at hv
        · cases hv
        · cases hv
        · split at hv
          · obtain ⟨z, hz, hzv⟩ := Option.map_eq_some_iff.1 hv
            obtain rfl := Option.some.inj hzv
            unfold store0 at hz
            split at hz
            · split at hz
              · rename_i hn
                split at hz
                · obtain rfl := Option.some.inj hz
                  simp only at e
                  subst e
                  rw [hf] at hn; cases hn
                · cases hz
              · cases hz
            · split at hz
              · rename_i k es hn
                obtain ⟨e', he', hz⟩ := Option.bind_eq_some_iff.1 hz
                split at hz
                · obtain rfl := Option.some.inj hz
                  simp only at e
                  subst e
                  rw [hf] at hn
                  cases hn
                  simp at he'
                · cases hz
              · cases hz
            · cases hz
          · cases hv
      show nthO (setO σ.H v.1 v.2) m = _
      rw [setO_eq, nthO_eq, List.getElem?_set_ne hvm, ← nthO_eq]; exact hf
theorem simple_at {ops : Array Oper} (h : simpleR P Γ ops = true) {i : Nat} {o : Oper} (ho : ops[i]? = some o) : simpleOp P Γ o.op = true := by
  unfold simpleR at h
  rw [List.all_eq_true] at h
  exact h o (by simpa using Array.mem_of_getElem? ho)
theorem FreeB.step {ops : Array Oper} {B : List (Nat × Oper)} {L : List Nat} (hS : simpleR P Γ ops = true) (hB : ∀ (i : Nat) (x : Nat × Oper), nthA B i = some x → ops[i]? = some x.2)
    (hBa : ∀ (i j : Nat) (x y : Nat × Oper), nthA B i = some x → nthA B j = some y → i ≠ j → allocs P x.2.op = true → allocs P y.2.op = true → x.1 ≠ y.1)
    (hn : L.Nodup) {j : Nat} {y : Nat × Oper} (hy : nthA B j = some y) {ds : List (Option Tmp)} {σ' : St} (hr : exec1 P Γ ds y.1 y.2 σ = some σ') (hf : FreeB B L σ) : FreeB B (L.erase j) σ' := fun i hi x hx ha => by
  have hij : i ≠ j := fun e => by subst e; exact absurd hi (List.Nodup.not_mem_erase hn)
  have al : ∀ op : Op, allocOp op = true → allocs P op = true := fun op h => by cases op <;> simp [allocOp] at h <;> rfl
  exact exec1_free (simple_at hS (hB j y hy)) (fun hb => hBa j i y x hy hx (Ne.symm hij) (al _ hb) (al _ ha)) hr (hf i (List.mem_of_mem_erase hi) x hx ha)
theorem good_front {ops : Array Oper} {B : List (Nat × Oper)} {q : St → Prop} (hq : ∀ {σ τ : St}, simS σ τ → q σ → q τ) (hB : ∀ (i : Nat) (x : Nat × Oper), nthA B i = some x → ops[i]? = some x.2)
    (hBa : ∀ (i j : Nat) (x y : Nat × Oper), nthA B i = some x → nthA B j = some y → i ≠ j → allocs P x.2.op = true → allocs P y.2.op = true → x.1 ≠ y.1) :
    ∀ {f : Nat} {L : List Nat} {i : Nat} {x : Nat × Oper} {σ σ1 : St}, L.Nodup → (simpleR P Γ ops = true → FreeB B L σ) → Closed ops L → i ∈ L → readyI ops L i = true → (∀ y ∈ L, y ≠ i → ((ancs ops.toList []).getD y 0).testBit i = true ∨ commI P Γ ops i y = true) →
    nthA B i = some x → exec1 P Γ (dstsOf ops.toList) x.1 x.2 σ = some σ1 → GoodO P Γ ops B q f (L.erase i) σ1 → GoodO P Γ ops B q (f + 1) L σ := by
  intro f
  induction f with
  | zero =>
    intro L i x σ σ1 hn hfr hc hi hr hcom hx h1 hg j hj hrj
    have hL : L.erase i = [] := hg.1
    by_cases hji : j = i
    · subst hji; exact ⟨x, σ1, hx, h1, hg⟩
    · have := (List.mem_erase_of_ne hji).2 hj
      rw [hL] at this; cases this
  | succ f ih =>
    intro L i x σ σ1 hn hfr hc hi hr hcom hx h1 hg j hj hrj
    by_cases hji : j = i
    · subst hji; exact ⟨x, σ1, hx, h1, hg⟩
    · have hje := (List.mem_erase_of_ne hji).2 hj
      obtain ⟨y, σ2, hy, h2, hg2⟩ := hg j hje (ready_erase hrj)
      have hcm : commI P Γ ops i j = true := by
        rcases hcom j hj hji with h | h
        · exfalso
          obtain ⟨o, ho, hdone⟩ := ready_spec hrj
          exact ancs_spec (ops := ops) (D := fun m => m ∉ L) (fun m o ho hm e he hb => hc m o ho hm e he hb) (os := ops.toList) (ps := []) (aq := []) rfl rfl (fun m o hm => absurd hm (by simp)) j o ho hdone i h hi
        · exact h
      obtain ⟨oi, hoi, _⟩ := ready_spec hr
      obtain ⟨oj, hoj, _⟩ := ready_spec hrj
      have e1 := nthA_inj hB hx hoi
      have e2 := nthA_inj hB hy hoj
      unfold commI at hcm
      rw [hoi, hoj] at hcm
      simp only [Bool.and_eq_true, Bool.or_eq_true] at hcm
      obtain ⟨hk, hap⟩ := hcm
      rw [e1] at h1
      rw [e2] at h2
      have hsw : ∃ σ1' σ2', exec1 P Γ (dstsOf ops.toList) y.1 oj σ = some σ1' ∧ exec1 P Γ (dstsOf ops.toList) x.1 oi σ1' = some σ2' ∧ simS σ2 σ2' := by
        rcases hk with (⟨k1, k2⟩ | ⟨k1, k2⟩) | ⟨⟨k0, k1⟩, k2⟩
        · exact swap1 k1 k2 hap h1 h2
        · exact swapS k1 k2 hap h1 h2
        · exact swapA k1 k2 hap (hfr k0 j hj y hy (by rw [e2]; exact k2)) h1 h2
      obtain ⟨σ1', σ2', g1, g2, gs⟩ := hsw
      refine ⟨y, σ1', hy, by rw [e2]; exact g1, ?_⟩
      refine ih (L := L.erase j) (i := i) (x := x) (σ1 := σ2') (hn.erase j) (fun hS => FreeB.step hS hB hBa hn hy (by rw [e2]; exact g1) (hfr hS)) (closed_erase hn hc hrj) ((List.mem_erase_of_ne (Ne.symm hji)).2 hi) (ready_erase hr) (fun z hz hzi => hcom z (List.mem_of_mem_erase hz) hzi) hx (by rw [e1]; exact g2) ?_
      rw [List.erase_comm]
      exact good_sim hq gs hg2
theorem cov_sound {ops : Array Oper} {B : List (Nat × Oper)} {q : St → Prop} (hq : ∀ {σ τ : St}, simS σ τ → q σ → q τ) (hB : ∀ (i : Nat) (x : Nat × Oper), nthA B i = some x → ops[i]? = some x.2)
    (hBa : ∀ (i j : Nat) (x y : Nat × Oper), nthA B i = some x → nthA B j = some y → i ≠ j → allocs P x.2.op = true → allocs P y.2.op = true → x.1 ≠ y.1) :
    ∀ {f : Nat} {L : List Nat} {rs : List (List Nat)} {σ : St}, L.Nodup → (simpleR P Γ ops = true → FreeB B L σ) → Closed ops L → cov P Γ ops (ancs ops.toList []) f L rs = true → (∀ r ∈ rs, ∃ τ, runO P Γ (dstsOf ops.toList) B r σ = some τ ∧ q τ) → GoodO P Γ ops B q f L σ := by
  intro f
  induction f with
  | zero =>
    intro L rs σ hn hfr hc h hr
    simp only [cov, Bool.and_eq_true] at h
    obtain ⟨⟨h1, h2⟩, h3⟩ := h
    cases rs with
    | nil => simp at h2
    | cons r rs =>
      obtain ⟨τ, hτ, hqτ⟩ := hr r (by simp)
      have hre : r = [] := by
        have := (List.all_eq_true.1 h3) r (by simp)
        simpa using this
      subst hre
      simp only [runO, Option.some.injEq] at hτ
      subst hτ
      exact ⟨by simpa using h1, hqτ⟩
  | succ f ih =>
    intro L rs σ hn hfr hc h hr
    cases rs with
    | nil => simp [cov] at h
    | cons r0 rs =>
      cases r0 with
      | nil => simp [cov] at h
      | cons i r0 =>
        simp only [cov] at h
        split at h
        · rename_i hs
          simp only [Bool.and_eq_true, List.all_eq_true] at hs
          obtain ⟨⟨⟨s1, s2⟩, s3⟩, s4⟩ := hs
          obtain ⟨τ, hτ, _⟩ := hr (i :: r0) (by simp)
          simp only [runO] at hτ
          cases hx : nthA B i with
          | none => rw [hx] at hτ; simp at hτ
          | some x =>
            rw [hx] at hτ
            simp only [Option.bind_some] at hτ
            cases h1 : exec1 P Γ (dstsOf ops.toList) x.1 x.2 σ with
            | none => rw [h1] at hτ; simp at hτ
            | some σ1 =>
              refine good_front hq hB hBa hn hfr hc (by simpa using s2) s3 (fun y hy hne => ?_) hx h1 (ih (hn.erase i) (fun hS => FreeB.step hS hB hBa hn hx h1 (hfr hS)) (closed_erase hn hc s3) h fun r' hr' => ?_)
              · have := s4 y hy
                simp only [Bool.or_eq_true, beq_iff_eq] at this
                rcases this with (h | h) | h
                · exact absurd h hne
                · exact .inl h
                · exact .inr h
              · obtain ⟨r, hrm, rfl⟩ := List.mem_map.1 hr'
                obtain ⟨τ', hτ', hq'⟩ := hr r hrm
                have hh := s1 r hrm
                cases r with
                | nil => simp at hh
                | cons k r =>
                  have : k = i := by simpa using hh
                  subst this
                  simp only [runO, hx, Option.bind_some, h1] at hτ'
                  exact ⟨τ', hτ', hq'⟩
        · rename_i hs
          rw [List.all_eq_true] at h
          intro j hj hrj
          have hcj := h j hj
          rw [hrj] at hcj
          simp only [Bool.not_true, Bool.false_or] at hcj
          -- some order begins with j
          have hne : ∃ r, r ∈ (List.filterMap (fun r : List Nat => if r.head? = some j then some r.tail else none) ((i :: r0) :: rs)) := by
            cases hf : (List.filterMap (fun r : List Nat => if r.head? = some j then some r.tail else none) ((i :: r0) :: rs)) with
            | nil =>
              rw [hf] at hcj
              cases f <;> simp [cov] at hcj
            | cons a aq => exact ⟨a, by simp⟩
          have back : ∀ r', r' ∈ (List.filterMap (fun r : List Nat => if r.head? = some j then some r.tail else none) ((i :: r0) :: rs)) → ∃ τ, runO P Γ (dstsOf ops.toList) B (j :: r') σ = some τ ∧ q τ := fun r' hr' => by
            obtain ⟨r, hrm, hh⟩ := List.mem_filterMap.1 hr'
            split at hh
            · rename_i hd
              obtain rfl := Option.some.inj hh
              cases r with
              | nil => simp at hd
              | cons k r =>
                have : k = j := by simpa using hd
                subst this
                exact hr _ hrm
            · cases hh
          obtain ⟨r1, hr1⟩ := hne
          obtain ⟨τ, hτ, _⟩ := back r1 hr1
          simp only [runO] at hτ
          cases hx : nthA B j with
          | none => rw [hx] at hτ; simp at hτ
          | some x =>
            rw [hx] at hτ
            simp only [Option.bind_some] at hτ
            cases h1 : exec1 P Γ (dstsOf ops.toList) x.1 x.2 σ with
            | none => rw [h1] at hτ; simp at hτ
            | some σ1 =>
              refine ⟨x, σ1, rfl, h1, ih (hn.erase j) (fun hS => FreeB.step hS hB hBa hn hx h1 (hfr hS)) (closed_erase hn hc hrj) hcj fun r' hr' => ?_⟩
              obtain ⟨τ', hτ', hq'⟩ := back r' hr'
              simp only [runO, hx, Option.bind_some, h1] at hτ'
              exact ⟨τ', hτ', hq'⟩
theorem nthA_annS : ∀ (os : List Oper) (n i : Nat) (x : Nat × Oper), nthA (annS P n os) i = some x → os[i]? = some x.2 ∧ n ≤ x.1
  | [], _, _, _, h => by simp [annS, nthA] at h
  | o :: os, n, 0, x, h => by
    simp only [annS, nthA, Option.some.injEq] at h
    subst h; exact ⟨rfl, Nat.le_refl _⟩
  | o :: os, n, i + 1, x, h => by
    simp only [annS, nthA] at h
    obtain ⟨h1, h2⟩ := nthA_annS os _ i x h
    exact ⟨by simpa using h1, Nat.le_trans (nxt_le P o.op n) h2⟩
theorem nthA_apart : ∀ (os : List Oper) (n i j : Nat) (x y : Nat × Oper), nthA (annS P n os) i = some x → nthA (annS P n os) j = some y → i ≠ j → allocs P x.2.op = true → allocs P y.2.op = true → x.1 ≠ y.1
  | [], _, _, _, _, _, h, _, _, _, _ => by simp [annS, nthA] at h
  | o :: os, n, 0, 0, x, y, _, _, h, _, _ => absurd rfl h
  | o :: os, n, 0, j + 1, x, y, h, h', _, ha, _ => by
    simp only [annS, nthA, Option.some.injEq] at h h'
    subst h
    have := (nthA_annS os _ j y h').2
    have h2 : nxt P o.op n = n + 1 := by unfold nxt; rw [if_pos ha]
    show n ≠ y.1
    omega
  | o :: os, n, i + 1, 0, x, y, h, h', _, _, ha => by
    simp only [annS, nthA, Option.some.injEq] at h h'
    subst h'
    have := (nthA_annS os _ i x h).2
    have h2 : nxt P o.op n = n + 1 := by unfold nxt; rw [if_pos ha]
    show x.1 ≠ n
    omega
  | o :: os, n, i + 1, j + 1, x, y, h, h', hne, ha, hb => by
    simp only [annS, nthA] at h h'
    exact nthA_apart os _ i j x y h h' (by omega) ha hb
theorem nthA_ann : ∀ (os : List Oper) (n k i : Nat) (x : Nat × Oper), nthA (annS P n os) i = some x → (x.1, k + i, x.2) ∈ ann P n k os
  | [], _, _, _, _, h => by simp [annS, nthA] at h
  | o :: os, n, k, 0, x, h => by
    simp only [annS, nthA, Option.some.injEq] at h
    subst h; simp [ann]
  | o :: os, n, k, i + 1, x, h => by
    simp only [annS, nthA] at h
    have := nthA_ann os _ (k + 1) i x h
    simp only [ann, List.mem_cons]
    right
    rwa [show k + 1 + i = k + (i + 1) by omega] at this
theorem good_sound (hΓ : TabOK P Γ) (hfix : w0.fix = Γ.fix) {ops : Array Oper} (hok : dstOK nt ops = true) {B : List (Nat × Oper)} (hB : ∀ (i : Nat) (x : Nat × Oper), nthA B i = some x → ops[i]? = some x.2)
    (hBa : ∀ (i j : Nat) (x y : Nat × Oper), nthA B i = some x → nthA B j = some y → i ≠ j → allocs P x.2.op = true → allocs P y.2.op = true → x.1 ≠ y.1)
    (hlow : ∀ (i : Nat) (o : Oper), ops[i]? = some o → ∀ e ∈ o.after, Region.binds .any e = true → e.on < i) {q : St → Prop} {Q : Exit → Act → World → Prop} (hQ : ∀ τ φ' a' w', q τ → Conc N0 w0 nt τ φ' a' w' → Q .normal a' w') :
    ∀ (f fuel : Nat) (listed : Array Bool) {L : List Nat} {σ : St} {φ : List Own} {a : Act} {w : World}, L.length = f → f ≤ fuel → L.Nodup → (∀ i, listed.getD i true = false ↔ i ∈ L) → (∀ i ∈ L, i < ops.size) →
    Conc N0 w0 nt σ φ a w → (∀ i ∈ L, ∀ x, nthA B i = some x → allocs P x.2.op = true → φ[x.1]? = some .free) → GoodO P Γ ops B q f L σ → listed.size = ops.size → wpAny P .any ops Q fuel listed a w := by
  intro f
  induction f with
  | zero =>
    intro fuel listed L σ φ a w hlen hfu hn hl hsz hc hf hg hls
    have hnone : Region.ready .any ops listed = [] := by
      rw [List.eq_nil_iff_forall_not_mem]
      intro i hi
      have := (hl i).1 (mem_ready.1 hi).1
      rw [hg.1] at this; cases this
    cases fuel with
    | zero => exact ⟨hnone, hQ _ _ _ _ hg.2 hc⟩
    | succ fuel => exact ⟨fun _ => hQ _ _ _ _ hg.2 hc, fun i hi => by rw [hnone] at hi; cases hi⟩
  | succ f ih =>
    intro fuel listed L σ φ a w hlen hfu hn hl hsz hc hf hg hls
    cases fuel with
    | zero => omega
    | succ fuel =>
      have toReady : ∀ i ∈ L, readyI ops L i = true → i ∈ Region.ready .any ops listed := fun i hi hr => by
        obtain ⟨o, ho, h1⟩ := ready_spec hr
        rw [mem_ready]
        refine ⟨(hl i).2 hi, o, ho, fun e he hb => ?_⟩
        have h2 := h1 e he hb
        have h3 : listed.getD e.on true = true := by
          cases hg : listed.getD e.on true
          · exact absurd ((hl e.on).1 hg) h2
          · rfl
        have h4 := hlow i o ho e he hb
        have h5 : e.on < listed.size := by rw [hls]; have := hsz i hi; omega
        simpa [h5] using h3
      refine ⟨fun hnil => ?_, fun i hi => ?_⟩
      · exfalso
        -- the least of those that are left is ready
        have hne : L ≠ [] := fun e => by rw [e] at hlen; simp at hlen
        obtain ⟨m, hm, hmin⟩ : ∃ m ∈ L, ∀ y ∈ L, m ≤ y := by
          clear hg hf hl hn hlen hfu toReady hsz
          induction L with
          | nil => exact absurd rfl hne
          | cons x L ih2 =>
            cases L with
            | nil => exact ⟨x, by simp, fun y hy => by simp at hy; omega⟩
            | cons z L =>
              obtain ⟨m, hm, hmin⟩ := ih2 (by simp)
              by_cases hxm : x ≤ m
              · exact ⟨x, by simp, fun y hy => by
                  rcases List.mem_cons.1 hy with rfl | hy
                  · exact Nat.le_refl _
                  · have := hmin y hy; omega⟩
              · exact ⟨m, by simp [hm], fun y hy => by
                  rcases List.mem_cons.1 hy with rfl | hy
                  · omega
                  · exact hmin y hy⟩
        have hms := hsz m hm
        have := toReady m hm (ready_of (Array.getElem?_eq_getElem hms) fun e he hb hmem => by
          have h1 := hlow m _ (Array.getElem?_eq_getElem hms) e he hb
          have h2 := hmin _ hmem
          omega)
        rw [hnil] at this; cases this
      · obtain ⟨hun, oi, hoi, hall⟩ := mem_ready.1 hi
        have hiL := (hl i).1 hun
        have hri : readyI ops L i = true := ready_of hoi fun e he hb hmem => by
          have h1 := hall e he hb
          have h2 := (hl e.on).2 hmem
          have h4 := hlow i oi hoi e he hb
          have h5 : e.on < listed.size := by rw [hls]; have := hsz i hiL; omega
          simp [h5] at h1 h2
          rw [h1] at h2; cases h2
        obtain ⟨x, σ1, hx, h1, hg1⟩ := hg i hiL hri
        have hxo : ops[i]? = some x.2 := hB i x hx
        refine step_sound hΓ hfix hc hok (x := (x.1, i, x.2)) hxo (L := ((L.erase i).filterMap fun j => (nthA B j).map fun y => (y.1, j, y.2))) (fun ha => hf i hiL x hx ha) (fun y hy ha => ?_) (fun y hy ha hb => ?_) h1 fun φ' a' w' hc' hf' => ?_
        · obtain ⟨j, hj, hy'⟩ := List.mem_filterMap.1 hy
          obtain ⟨y', hy1, rfl⟩ := Option.map_eq_some_iff.1 hy'
          exact hf j (List.mem_of_mem_erase hj) y' hy1 ha
        · obtain ⟨j, hj, hy'⟩ := List.mem_filterMap.1 hy
          obtain ⟨y', hy1, rfl⟩ := Option.map_eq_some_iff.1 hy'
          have hji : j ≠ i := fun e => by subst e; exact absurd hj (List.Nodup.not_mem_erase hn)
          exact hBa j i y' x hy1 hx hji hb ha
        · refine ih fuel (listed.setIfInBounds i true) (L := L.erase i) (by rw [List.length_erase_of_mem hiL]; omega) (by omega) (hn.erase i) ?_ (fun j hj => hsz j (List.mem_of_mem_erase hj)) hc' (fun j hj y hy ha => hf' (y.1, j, y.2) (List.mem_filterMap.2 ⟨j, hj, by rw [hy]; rfl⟩) ha) hg1 (by simp [hls])
          intro j
          have his : i < listed.size := by rw [hls]; exact hsz i hiL
          by_cases hij : i = j
          · subst hij
            constructor
            · intro h; simp [his] at h
            · intro h; exact absurd h (List.Nodup.not_mem_erase hn)
          · rw [getD_set_ne true hij, hl j, List.mem_erase_of_ne (Ne.symm hij)]
def GoodD (P : Program) (Γ : Tab) (ops : Array Oper) (B : List (Nat × Oper)) (q : St → Prop) (D : List (Nat × Nat)) : Nat → List Nat → St → Prop
  | 0, L, σ => L = [] ∧ q σ
  | f + 1, L, σ => ∀ i ∈ L, readyI ops L i = true → blkD D L i = false → ∃ x σ', nthA B i = some x ∧ exec1 P Γ (dstsOf ops.toList) x.1 x.2 σ = some σ' ∧ GoodD P Γ ops B q D f (L.erase i) σ'
theorem goodD_sim {ops : Array Oper} {B : List (Nat × Oper)} {q : St → Prop} {D : List (Nat × Nat)} (hq : ∀ {σ τ : St}, simS σ τ → q σ → q τ) : ∀ {f : Nat} {L : List Nat} {σ τ : St}, simS σ τ → GoodD P Γ ops B q D f L σ → GoodD P Γ ops B q D f L τ
  | 0, L, σ, τ, hs, h => ⟨h.1, hq hs h.2⟩
  | f + 1, L, σ, τ, hs, h => fun i hi hr hb => by
    obtain ⟨x, σ', h1, h2, h3⟩ := h i hi hr hb
    obtain ⟨τ', h4, h5⟩ := exec1_sim hs h2
    exact ⟨x, τ', h1, h4, goodD_sim hq h5 h3⟩
theorem goodD_nil {ops : Array Oper} {B : List (Nat × Oper)} {q : St → Prop} : ∀ {f : Nat} {L : List Nat} {σ : St}, GoodD P Γ ops B q [] f L σ → GoodO P Γ ops B q f L σ
  | 0, L, σ, h => h
  | f + 1, L, σ, h => fun i hi hr => by
    obtain ⟨x, σ', h1, h2, h3⟩ := h i hi hr rfl
    exact ⟨x, σ', h1, h2, goodD_nil h3⟩
theorem goodD_drop {ops : Array Oper} {B : List (Nat × Oper)} {q : St → Prop} {D : List (Nat × Nat)} {c i : Nat} : ∀ {f : Nat} {L : List Nat} {σ : St}, c ∉ L → GoodD P Γ ops B q ((c, i) :: D) f L σ → GoodD P Γ ops B q D f L σ
  | 0, L, σ, _, h => h
  | f + 1, L, σ, hc, h => fun j hj hr hb => by
    have hcl : L.contains c = false := by simpa using hc
    obtain ⟨x, σ', h1, h2, h3⟩ := h j hj hr (by unfold blkD at hb ⊢; rw [List.any_cons, hb, hcl, Bool.and_false, Bool.false_or])
    exact ⟨x, σ', h1, h2, goodD_drop (fun hm => hc (List.mem_of_mem_erase hm)) h3⟩
theorem blkD_erase {D : List (Nat × Nat)} {L : List Nat} {j i : Nat} (h : blkD D L j = false) : blkD D (L.erase i) j = false := by
  unfold blkD at h ⊢
  rw [List.any_eq_false] at h ⊢
  intro p hp hh
  refine h p hp ?_
  simp only [Bool.and_eq_true] at hh ⊢
  refine ⟨hh.1, ?_⟩
  have := hh.2
  simp only [List.contains_iff_mem] at this ⊢
  exact List.mem_of_mem_erase this
theorem good_split {ops : Array Oper} {B : List (Nat × Oper)} {q : St → Prop} (hq : ∀ {σ τ : St}, simS σ τ → q σ → q τ) (hB : ∀ (i : Nat) (x : Nat × Oper), nthA B i = some x → ops[i]? = some x.2)
    (hBa : ∀ (i j : Nat) (x y : Nat × Oper), nthA B i = some x → nthA B j = some y → i ≠ j → allocs P x.2.op = true → allocs P y.2.op = true → x.1 ≠ y.1) (oc : Option Nat) :
    ∀ {f : Nat} {L : List Nat} {D : List (Nat × Nat)} {i : Nat} {x : Nat × Oper} {σ σ1 : St}, L.Nodup → (simpleR P Γ ops = true → FreeB B L σ) → Closed ops L → i ∈ L → readyI ops L i = true → blkD D L i = false → oc ≠ some i →
    (∀ y ∈ L, y ≠ i → oc ≠ some y → ((ancs ops.toList []).getD y 0).testBit i = true ∨ commI P Γ ops i y = true ∨ ∃ z, (i, z) ∈ D ∧ z ∈ L ∧ (z = y ∨ ((ancs ops.toList []).getD y 0).testBit z = true)) →
    nthA B i = some x → exec1 P Γ (dstsOf ops.toList) x.1 x.2 σ = some σ1 → GoodD P Γ ops B q D f (L.erase i) σ1 → (∀ c, oc = some c → GoodD P Γ ops B q ((c, i) :: D) (f + 1) L σ) → GoodD P Γ ops B q D (f + 1) L σ := by
  intro f
  induction f with
  | zero =>
    intro L D i x σ σ1 hn hfr hc hi hr hb hoi hcom hx h1 hg hg2 j hj hrj hbj
    have hL : L.erase i = [] := hg.1
    by_cases hji : j = i
    · subst hji; exact ⟨x, σ1, hx, h1, hg⟩
    · have := (List.mem_erase_of_ne hji).2 hj
      rw [hL] at this; cases this
  | succ f ih =>
    intro L D i x σ σ1 hn hfr hc hi hr hb hoi hcom hx h1 hg hg2 j hj hrj hbj
    by_cases hji : j = i
    · subst hji; exact ⟨x, σ1, hx, h1, hg⟩
    · by_cases hoj : oc = some j
      · obtain ⟨y, σ2, hy, h2, G2⟩ := hg2 j hoj j hj hrj (by
          unfold blkD at hbj ⊢
          rw [List.any_cons, hbj, Bool.or_false]
          have : (i == j) = false := by simpa using fun e => hji e.symm
          simp [this])
        exact ⟨y, σ2, hy, h2, goodD_drop (List.Nodup.not_mem_erase hn) G2⟩
      · have hje := (List.mem_erase_of_ne hji).2 hj
        obtain ⟨y, σ2, hy, h2, hgj⟩ := hg j hje (ready_erase hrj) (blkD_erase hbj)
        have hcm : commI P Γ ops i j = true := by
          have hanc : ∀ z, z ∈ L → ((ancs ops.toList []).getD j 0).testBit z = true → False := fun z hz h => by
            obtain ⟨o, ho, hdone⟩ := ready_spec hrj
            exact ancs_spec (ops := ops) (D := fun m => m ∉ L) (fun m o ho hm e he hb => hc m o ho hm e he hb) (os := ops.toList) (ps := []) (aq := []) rfl rfl (fun m o hm => absurd hm (by simp)) j o ho hdone z h hz
          rcases hcom j hj hji hoj with h | h | ⟨z, hz, hzL, h⟩
          · exact (hanc i hi h).elim
          · exact h
          · rcases h with rfl | h
            · unfold blkD at hbj
              rw [List.any_eq_false] at hbj
              exact absurd (by simpa using hi) (hbj (i, z) hz)
            · exact (hanc z hzL h).elim
        obtain ⟨oi, hoi', _⟩ := ready_spec hr
        obtain ⟨oj, hoj', _⟩ := ready_spec hrj
        have e1 := nthA_inj hB hx hoi'
        have e2 := nthA_inj hB hy hoj'
        unfold commI at hcm
        rw [hoi', hoj'] at hcm
        simp only [Bool.and_eq_true, Bool.or_eq_true] at hcm
        obtain ⟨hk, hap⟩ := hcm
        rw [e1] at h1
        rw [e2] at h2
        have hsw : ∃ σ1' σ2', exec1 P Γ (dstsOf ops.toList) y.1 oj σ = some σ1' ∧ exec1 P Γ (dstsOf ops.toList) x.1 oi σ1' = some σ2' ∧ simS σ2 σ2' := by
          rcases hk with (⟨k1, k2⟩ | ⟨k1, k2⟩) | ⟨⟨k0, k1⟩, k2⟩
          · exact swap1 k1 k2 hap h1 h2
          · exact swapS k1 k2 hap h1 h2
          · exact swapA k1 k2 hap (hfr k0 j hj y hy (by rw [e2]; exact k2)) h1 h2
        obtain ⟨σ1', σ2', g1, g2, gs⟩ := hsw
        have g1' : exec1 P Γ (dstsOf ops.toList) y.1 y.2 σ = some σ1' := by rw [e2]; exact g1
        refine ⟨y, σ1', hy, g1', ?_⟩
        refine ih (L := L.erase j) (D := D) (i := i) (x := x) (σ1 := σ2') (hn.erase j) (fun hS => FreeB.step hS hB hBa hn hy g1' (hfr hS)) (closed_erase hn hc hrj) ((List.mem_erase_of_ne (Ne.symm hji)).2 hi) (ready_erase hr) (blkD_erase hb) hoi (fun z hz hzi hoz => by
          rcases hcom z (List.mem_of_mem_erase hz) hzi hoz with h | h | ⟨u, hu, huL, h⟩
          · exact .inl h
          · exact .inr (.inl h)
          · refine .inr (.inr ⟨u, hu, (List.mem_erase_of_ne ?_).2 huL, h⟩)
            rintro rfl
            unfold blkD at hbj
            rw [List.any_eq_false] at hbj
            exact absurd (by simpa using hi) (hbj (i, u) hu)) hx (by rw [e1]; exact g2) ?_ ?_
        · rw [List.erase_comm]
          exact goodD_sim hq gs hgj
        · intro c hoc
          obtain ⟨y', σ2'', hy', h2', G2⟩ := hg2 c hoc j hj hrj (by
            unfold blkD at hbj ⊢
            rw [List.any_cons, hbj, Bool.or_false]
            have : (i == j) = false := by simpa using fun e => hji e.symm
            simp [this])
          rw [hy] at hy'
          obtain rfl := Option.some.inj hy'
          rw [g1'] at h2'
          obtain rfl := Option.some.inj h2'
          exact G2
theorem cov2_sound {ops : Array Oper} {B : List (Nat × Oper)} {q : St → Prop} (hq : ∀ {σ τ : St}, simS σ τ → q σ → q τ) (hB : ∀ (i : Nat) (x : Nat × Oper), nthA B i = some x → ops[i]? = some x.2)
    (hBa : ∀ (i j : Nat) (x y : Nat × Oper), nthA B i = some x → nthA B j = some y → i ≠ j → allocs P x.2.op = true → allocs P y.2.op = true → x.1 ≠ y.1) :
    ∀ {F : Nat} {L : List Nat} {D : List (Nat × Nat)} {rs : List (List Nat)} {σ : St}, L.Nodup → (simpleR P Γ ops = true → FreeB B L σ) → Closed ops L → cov2 P Γ ops (ancs ops.toList []) F L D rs = true → (∀ r ∈ rs, ∃ τ, runO P Γ (dstsOf ops.toList) B r σ = some τ ∧ q τ) → GoodD P Γ ops B q D L.length L σ := by
  intro F
  induction F with
  | zero => intro L D rs σ hn hfr hc h hr; simp [cov2] at h
  | succ F ih =>
    intro L D rs σ hn hfr hc h hr
    cases rs with
    | nil => simp [cov2] at h
    | cons r0 rs =>
      cases r0 with
      | nil =>
        simp only [cov2, Bool.and_eq_true, List.isEmpty_iff] at h
        obtain ⟨rfl, _⟩ := h
        obtain ⟨τ, hτ, hqτ⟩ := hr [] (by simp)
        simp only [runO, Option.some.injEq] at hτ
        subst hτ
        exact ⟨rfl, hqτ⟩
      | cons i r0 =>
        simp only [cov2, Bool.and_eq_true, Bool.not_eq_true'] at h
        obtain ⟨⟨⟨s2, s3⟩, s5⟩, h⟩ := h
        have hi : i ∈ L := by simpa using s2
        have hlen : L.length = (L.erase i).length + 1 := by
          rw [List.length_erase_of_mem hi]
          have := List.length_pos_of_mem hi
          omega
        obtain ⟨τ, hτ, _⟩ := hr (i :: r0) (by simp)
        simp only [runO] at hτ
        cases hx : nthA B i with
        | none => rw [hx] at hτ; simp at hτ
        | some x =>
          rw [hx] at hτ
          simp only [Option.bind_some] at hτ
          cases h1 : exec1 P Γ (dstsOf ops.toList) x.1 x.2 σ with
          | none => rw [h1] at hτ; simp at hτ
          | some σ1 =>
            have step : ∀ r, (i :: r) ∈ (i :: r0) :: rs → ∃ τ, runO P Γ (dstsOf ops.toList) B r σ1 = some τ ∧ q τ := fun r hrm => by
              obtain ⟨τ', hτ', hq'⟩ := hr _ hrm
              simp only [runO, hx, Option.bind_some, h1] at hτ'
              exact ⟨τ', hτ', hq'⟩
            rw [hlen]
            generalize hcs : L.filter (fun y => !(y == i || ((ancs ops.toList []).getD y 0).testBit i || commI P Γ ops i y || D.any fun p => p.1 == i && L.contains p.2 && (p.2 == y || ((ancs ops.toList []).getD y 0).testBit p.2))) = cs at h
            have hin : ∀ y ∈ L, y ≠ i → y ∉ cs → ((ancs ops.toList []).getD y 0).testBit i = true ∨ commI P Γ ops i y = true ∨ ∃ z, (i, z) ∈ D ∧ z ∈ L ∧ (z = y ∨ ((ancs ops.toList []).getD y 0).testBit z = true) := fun y hy hne hyc => by
              rw [← hcs, List.mem_filter] at hyc
              have hb : (y == i) = false := by simpa using hne
              cases ha : ((ancs ops.toList []).getD y 0).testBit i with
              | true => exact .inl rfl
              | false =>
                cases hcm : commI P Γ ops i y with
                | true => exact .inr (.inl rfl)
                | false =>
                  cases hd : (D.any fun p => p.1 == i && L.contains p.2 && (p.2 == y || ((ancs ops.toList []).getD y 0).testBit p.2)) with
                  | false => exact absurd ⟨hy, by rw [hb, ha, hcm, hd]; rfl⟩ hyc
                  | true =>
                    obtain ⟨⟨p1, p2⟩, hp, hpp⟩ := List.any_eq_true.1 hd
                    simp only [Bool.and_eq_true, Bool.or_eq_true, beq_iff_eq, List.contains_iff_mem] at hpp
                    obtain ⟨⟨rfl, h2⟩, h3⟩ := hpp
                    exact .inr (.inr ⟨p2, hp, h2, h3⟩)
            match cs, h, hcs, hin with
            | [], h, hcs, hin =>
              simp only [Bool.and_eq_true, List.all_eq_true] at h
              obtain ⟨hall, hcov⟩ := h
              refine good_split hq hB hBa none hn hfr hc hi s3 s5 (by simp) (fun y hy hne _ => hin y hy hne (by simp)) hx h1 (ih (hn.erase i) (fun hS => FreeB.step hS hB hBa hn hx h1 (hfr hS)) (closed_erase hn hc s3) hcov fun r' hr' => ?_) (fun c hc => by cases hc)
              obtain ⟨r, hrm, rfl⟩ := List.mem_map.1 hr'
              have hh := hall r hrm
              cases r with
              | nil => simp at hh
              | cons k r =>
                have : k = i := by simpa using hh
                subst this
                exact step r hrm
            | [c], h, hcs, hin =>
              simp only [Bool.and_eq_true] at h
              obtain ⟨hc1, hc2⟩ := h
              have hci : c ≠ i := fun e => by
                have : c ∈ L.filter (fun y => !(y == i || ((ancs ops.toList []).getD y 0).testBit i || commI P Γ ops i y || D.any fun p => p.1 == i && L.contains p.2 && (p.2 == y || ((ancs ops.toList []).getD y 0).testBit p.2))) := by rw [hcs]; simp
                rw [List.mem_filter] at this
                subst e
                simp at this
              refine good_split hq hB hBa (some c) hn hfr hc hi s3 s5 (by simpa using hci) (fun y hy hne hyc => hin y hy hne (by simp only [List.mem_cons, List.not_mem_nil, or_false]; intro e; exact hyc (by rw [e]))) hx h1 (ih (hn.erase i) (fun hS => FreeB.step hS hB hBa hn hx h1 (hfr hS)) (closed_erase hn hc s3) hc1 fun r' hr' => ?_) (fun c' hc' => ?_)
              · obtain ⟨r, hrm, hh⟩ := List.mem_filterMap.1 hr'
                split at hh
                · rename_i hd
                  obtain rfl := Option.some.inj hh
                  cases r with
                  | nil => simp at hd
                  | cons k r =>
                    have : k = i := by simpa using hd
                    subst this
                    exact step r hrm
                · cases hh
              · obtain rfl := Option.some.inj hc'
                have := ih (D := (c, i) :: D) hn hfr hc hc2 fun r hrm => hr r (List.mem_filter.1 hrm).1
                rw [hlen] at this
                exact this
            | _ :: _ :: _, h, _, _ => cases h
theorem ordsW_iff {ds : List (Option Tmp)} {B : List (Nat × Oper)} {q : St → Prop} : ∀ {os : List (List Nat)}, ordsW P Γ ds B σ q os → ∀ r ∈ os, ∃ τ, runO P Γ ds B r σ = some τ ∧ q τ
  | [], _, r, hr => by cases hr
  | o :: os, h, r, hr => by
    obtain ⟨⟨τ, h1, h2⟩, h3⟩ := h
    rcases List.mem_cons.1 hr with rfl | hr
    · exact ⟨τ, h1, h2⟩
    · exact ordsW_iff h3 r hr
theorem region_sound_ords (hΓ : TabOK P Γ) (hfix : w0.fix = Γ.fix) (hm : P.follows .mixedOrders = true) (h : Conc N0 w0 nt σ φ a w) {id : Nat} {ops : Array Oper} (hok : dstOK nt ops = true) {os : List (List Nat)} (hord : ordsOK P Γ ops os = true) {q : St → Prop}
    (hr : ordsW P Γ (dstsOf ops.toList) (annS P σ.H.length ops.toList) (pre P ops.toList σ) q os) {Q : Exit → Act → World → Prop} (hQ : ∀ τ φ' a' w', q τ → Conc N0 w0 nt τ φ' a' w' → Q .normal a' w') : (Code.region id ops true).wp P Q a w := by
  have hgr : Grew w { w with drawn := w.drawn + 1 } := Grew.drew w
  obtain ⟨φ', hc, hf, _⟩ := pre_sound (P := P) ops.toList 0 (h.grew hgr)
  refine wp_region_any hm ?_
  unfold ordsOK at hord
  rw [Bool.and_eq_true] at hord
  obtain ⟨hlow, hcov⟩ := hord
  rw [List.all_eq_true] at hlow
  have hB : ∀ (i : Nat) (x : Nat × Oper), nthA (annS P σ.H.length ops.toList) i = some x → ops[i]? = some x.2 := fun i x hx => by
    have := (nthA_annS _ _ _ _ hx).1
    simpa using this
  -- whatever the slots' history, all that is asked is asked of what the state says
  have hfr : simpleR P Γ ops = true → FreeB (annS P σ.H.length ops.toList) (List.range ops.size) (pre P ops.toList σ) := fun _ i _ x hx ha => by
    have h1 := nthA_ann ops.toList σ.H.length 0 i x hx
    exact free_obj hc (hf _ h1 (by
      have : allocOp x.2.op = true := ha
      revert this
      cases x.2.op <;> simp [allocOp, allocs]))
  have hcl : Closed ops (List.range ops.size) := fun m o ho hm => by
    have := (Array.getElem?_eq_some_iff.1 ho).1
    exact absurd (List.mem_range.2 this) hm
  have hrr : ∀ r ∈ os, ∃ τ, runO P Γ (dstsOf ops.toList) (annS P σ.H.length ops.toList) r (pre P ops.toList σ) = some τ ∧ ∃ τ', simS τ' τ ∧ q τ' := fun r hr' => by
    obtain ⟨τ, h1, h2⟩ := ordsW_iff hr r hr'
    exact ⟨τ, h1, τ, simS.refl τ, h2⟩
  have hg : GoodO P Γ ops (annS P σ.H.length ops.toList) (fun τ => ∃ τ', simS τ' τ ∧ q τ') ops.size (List.range ops.size) (pre P ops.toList σ) := by
    rw [Bool.or_eq_true] at hcov
    rcases hcov with hcov | hcov
    · exact cov_sound (q := fun τ => ∃ τ', simS τ' τ ∧ q τ') (B := annS P σ.H.length ops.toList) (fun hs ⟨τ', h1, h2⟩ => ⟨τ', h1.trans hs, h2⟩) hB (fun i j x y h1 h2 h3 h4 h5 => nthA_apart _ _ i j x y h1 h2 h3 h4 h5) (List.nodup_range) hfr hcl hcov hrr
    · have := goodD_nil (cov2_sound (q := fun τ => ∃ τ', simS τ' τ ∧ q τ') (B := annS P σ.H.length ops.toList) (fun hs ⟨τ', h1, h2⟩ => ⟨τ', h1.trans hs, h2⟩) hB (fun i j x y h1 h2 h3 h4 h5 => nthA_apart _ _ i j x y h1 h2 h3 h4 h5) (List.nodup_range) hfr hcl hcov hrr)
      rw [List.length_range] at this
      exact this
  refine good_sound hΓ hfix hok hB (fun i j x y h1 h2 h3 h4 h5 => nthA_apart _ _ i j x y h1 h2 h3 h4 h5) (fun i o ho e he hb => by
    have h1 := hlow i (by simpa using (Array.getElem?_eq_some_iff.1 ho).1)
    rw [ho] at h1
    simp only [List.all_eq_true] at h1
    have h2 := h1 e (by simpa using he)
    simpa [hb] using h2) (fun τ φ'' a'' w'' ⟨τ', h1, h2⟩ hc' => hQ τ' φ'' a'' w'' h2 (hc'.sim h1.symm)) ops.size ops.size _ (by simp) (Nat.le_refl _) List.nodup_range ?_ (fun i hi => List.mem_range.1 hi) hc (fun i hi x hx ha => ?_) hg (by simp)
  · intro i
    by_cases hi : i < ops.size <;> simp [hi]
  · have := nthA_ann ops.toList σ.H.length 0 i x hx
    exact hf _ this ha
end
end Go.Abs
namespace Go.Abs
open Go.RowKit
mutual
theorem A.under_mem {m n : Nat} : ∀ x : A, x.under m = true → x.mem n = true → n < m
  | .any, _, h => by simp [A.mem] at h
  | .int _ _, _, h => by simp [A.mem] at h
  | .bool _, _, h => by simp [A.mem] at h
  | .str _, _, h => by simp [A.mem] at h
  | .slc _, _, h => by simp [A.mem] at h
  | .clip _, _, h => by simp [A.mem] at h
  | .dptr _, _, h => by simp [A.mem] at h
  | .nils, _, h => by simp [A.mem] at h
  | .nilp, _, h => by simp [A.mem] at h
  | .emp _, _, h => by simp [A.mem] at h
  | .ref _ _, hu, h => by simp [A.under] at hu; simp [A.mem] at h; omega
  | .eref _ _ _, hu, h => by simp [A.under] at hu; simp [A.mem] at h; omega
  | .row _ _ _ _ _, hu, h => by simp [A.under] at hu; simp [A.mem] at h; omega
  | .agg cs, hu, h => A.underL_mem cs (by simpa only [A.under] using hu) (by simpa only [A.mem] using h)
  | .fn _ cs, hu, h => A.underL_mem cs (by simpa only [A.under] using hu) (by simpa only [A.mem] using h)
  | .tup cs, hu, h => A.underL_mem cs (by simpa only [A.under] using hu) (by simpa only [A.mem] using h)
theorem A.underL_mem {m n : Nat} : ∀ cs : List A, A.under.underL m cs = true → A.mem.memL n cs = true → n < m
  | [], _, h => by simp [A.mem.memL] at h
  | c :: cs, hu, h => by
    simp only [A.under.underL, Bool.and_eq_true] at hu
    simp only [A.mem.memL, Bool.or_eq_true] at h
    rcases h with h | h
    · exact A.under_mem c hu.1 h
    · exact A.underL_mem cs hu.2 h
end
section
variable {P : Program} {Γ : Tab} {N0 : Nat → Prop} {w0 : Base} {nt : Nat} {σ τ : St} {φ : List Own} {a : Act} {w : World}
theorem leS_look {m : Nat} {s : List (Nat × A)} : ∀ {r : List (Nat × A)}, leS m s r → ∀ d, look r d = .any ∨ (look r d = look s d ∧ (look r d).under m = true)
  | [], _, d => .inl rfl
  | (e, y) :: r, h, d => by
    simp only [leS] at h
    simp only [look]
    split
    · rename_i he; subst he; exact .inr ⟨h.1.1.symm, h.1.2⟩
    · exact leS_look h.2 d
theorem leH_get {m : Nat} : ∀ {H G : List Obj}, leH m H G → ∀ (n : Nat) (y : Obj), G[n]? = some y → ∃ x, H[n]? = some x ∧ leO m x y
  | [], [], _, n, y, h => by simp at h
  | _ :: _, [], _, n, y, h => by simp at h
  | [], _ :: _, hl, _, _, _ => by simp [leH] at hl
  | x :: H, y :: G, hl, n, z, h => by
    simp only [leH] at hl
    cases n with
    | zero => simp at h; subst h; exact ⟨x, rfl, hl.1⟩
    | succ n => simpa using leH_get hl.2 n z (by simpa using h)
theorem leH_len {m : Nat} : ∀ {H G : List Obj}, leH m H G → G.length ≤ H.length
  | [], [], _ => by simp
  | _ :: _, [], _ => by simp
  | [], _ :: _, hl => by simp [leH] at hl
  | x :: H, y :: G, hl => by
    simp only [leH] at hl
    have := leH_len hl.2
    simp; exact this
theorem leL_get {m : Nat} : ∀ {xs ys : List A}, leL m xs ys → ∀ (i : Nat) (y : A), ys[i]? = some y → ∃ x, xs[i]? = some x ∧ (y = .any ∨ (x = y ∧ y.under m = true))
  | [], [], _, i, y, h => by simp at h
  | [], _ :: _, hl, _, _, _ => by simp [leL] at hl
  | _ :: _, [], hl, _, _, _ => by simp [leL] at hl
  | x :: xs, y :: ys, hl, i, z, h => by
    simp only [leL] at hl
    cases i with
    | zero => simp at h; subst h; exact ⟨x, rfl, hl.1⟩
    | succ i => simpa using leL_get hl.2 i z (by simpa using h)
theorem Conc.le_ext (_h : Conc N0 w0 nt σ φ a w) (m : Nat) : Ext (fun n => n < m) (envOf N0 φ w) (envOf N0 (φ.take m) w) := by
  have hget : ∀ n : Nat, (φ.take m)[n]? = if n < m then φ[n]? else none := fun n => by rw [List.getElem?_take]
  exact {
    size := Nat.le_refl _
    blk := fun b _ hn => ⟨by
      rintro (h0 | ⟨n, k, hm⟩)
      · exact hn (.inl h0)
      · rw [hget] at hm
        split at hm
        · exact hn (.inr ⟨n, k, hm⟩)
        · simp at hm, rfl⟩
    refs := fun n o hk hm _ => by
      show (φ.take m)[n]? = some o
      rw [hget, if_pos hk]; exact hm
    own := fun m b k c e fr _ hm hc => ⟨c, fr, hc, rfl⟩ }
theorem Conc.le (h : Conc N0 w0 nt σ φ a w) {nf : Nat} (hnf : ∀ n : Nat, w0.fix n = true → n < w0.φ0.length → n < nf) (hl : nf ≤ τ.H.length) (hle : σ.le τ) : Conc N0 w0 nt τ (φ.take τ.H.length) a w := by
  obtain ⟨hS, hH⟩ := hle
  have hget : ∀ m : Nat, (φ.take τ.H.length)[m]? = if m < τ.H.length then φ[m]? else none := fun m => by rw [List.getElem?_take]
  have hat : ∀ m b k : Nat, (φ.take τ.H.length)[m]? = some (Own.loc b k) → φ[m]? = some (.loc b k) := fun m b k hm => by
    rw [hget] at hm
    split at hm
    · exact hm
    · simp at hm
  have hext : Ext (fun m => m < τ.H.length) (envOf N0 φ w) (envOf N0 (φ.take τ.H.length) w) := {
    size := Nat.le_refl _
    blk := fun b _ hn => ⟨by
      rintro (h0 | ⟨m, k, hm⟩)
      · exact hn (.inl h0)
      · exact hn (.inr ⟨m, k, hat m b k hm⟩), rfl⟩
    refs := fun m o hk hm _ => by
      show (φ.take τ.H.length)[m]? = some o
      rw [hget, if_pos hk]; exact hm
    own := fun m b k c e fr _ hm hc => ⟨c, fr, hc, rfl⟩ }
  exact {
    slots := fun d => by
      rcases leS_look hS d with hd | ⟨hd, hu⟩
      · rw [hd]; simp only [Rep]
      · have := h.slots d
        rw [← hd] at this
        exact Rep.mono hext _ _ this fun n hn => A.under_mem _ hu hn
    size := h.size
    defers := h.defers
    len := by
      have := leH_len hH
      rw [List.length_take, h.len]
      omega
    objs := fun m o p hm hp => by
      rw [nthO_eq] at hm
      obtain ⟨x, hx, hxo⟩ := leH_get hH m o hm
      have hp' : φ[m]? = some p := by
        rw [hget] at hp
        split at hp
        · exact hp
        · simp at hp
      have hob := h.objs m x p (by rw [nthO_eq]; exact hx) hp'
      cases x with
      | row k es =>
        cases o with
        | box ys => simp [leO] at hxo
        | row k' ys =>
          simp only [leO] at hxo
          obtain ⟨rfl, rfl⟩ := hxo
          exact ObjRel.mono hext hob (fun b k _ c e fr hh => hh) (fun cs hcs => by cases hcs)
      | box xs =>
        cases o with
        | row k ys => simp [leO] at hxo
        | box ys =>
          simp only [leO] at hxo
          cases p with
          | nil => simp [ObjRel] at hob
          | free => simp [ObjRel] at hob
          | loc b k =>
            simp only [ObjRel] at hob ⊢
            refine ⟨hob.1, RepM_iff.2 fun i y hy => ?_⟩
            obtain ⟨z, hz, hzy⟩ := leL_get hxo i y hy
            obtain ⟨v, hv, h1, hr⟩ := RepM_iff.1 hob.2 i z hz
            refine ⟨v, hv, h1, ?_⟩
            rcases hzy with rfl | ⟨rfl, hu⟩
            · simp only [Rep]
            · exact Rep.mono hext _ _ hr fun n hn => A.under_mem _ hu hn
    own := fun m b k hm => h.own m b k (hat m b k hm)
    inj := fun m m' b k k' hm hm' => h.inj m m' b k k' (hat m b k hm) (hat m' b k' hm')
    n0 := h.n0
    fixd := fun n p hf hp hfree => by
      have := hnf n hf (List.getElem?_eq_some_iff.1 hp).1
      rw [hget, if_pos (by omega)]
      exact h.fixd n p hf hp hfree
    below := h.below }
theorem Conc.reslot (h : Conc N0 w0 nt σ φ a w) {d : Nat} {x : A} (hx : Rep (envOf N0 φ w) x (a.tmps.getD d undef)) : Conc N0 w0 nt ⟨(d, x) :: σ.s, σ.H⟩ φ a w :=
  { h with
    slots := fun t => by
      simp only [look]
      split
      · rename_i e; subst e; exact hx
      · exact h.slots t }
theorem Conc.addNil (h : Conc N0 w0 nt σ φ a w) (k : Nat) : Conc N0 w0 nt ⟨σ.s, σ.H ++ [.row k []]⟩ (φ ++ [.nil]) a w := by
  have h1 := h.growOne
  have h2 := h1.newNil (n := σ.H.length) (k := k) (by rw [← h.len]; simp)
  have e1 : (St.setH { σ with H := σ.H ++ [.row 0 []] } σ.H.length (.row k [])) = ⟨σ.s, σ.H ++ [.row k []]⟩ := by
    simp [St.setH, setO_eq]
  have e2 : (φ ++ [Own.free]).set σ.H.length .nil = φ ++ [.nil] := by
    rw [← h.len]; simp
  rw [e1, e2] at h2
  exact h2
theorem look_back {ρ : List Nat} {m : Nat} : ∀ (s : List (Nat × A)) (d : Nat), look (s.map fun p => (p.1, p.2.back ρ m)) d = (look s d).back ρ m
  | [], d => by simp [look, A.back]
  | (e, x) :: s, d => by
    simp only [List.map_cons, look]
    split
    · rfl
    · exact look_back s d
theorem Conc.perm {nf : Nat} (hnf : ∀ n : Nat, w0.fix n = true → n < w0.φ0.length → n < nf) (h : Conc N0 w0 nt σ φ a w) {ρ : List Nat} (hl : σ.H.length = ρ.length) (hnd : ρ.Nodup) (hlt : ∀ n ∈ ρ, n < ρ.length) (hon : ∀ n, n < ρ.length → n ∈ ρ)
    (hk : ∀ i, i < nf → nthN ρ ρ.length i = i) : Conc N0 w0 nt (permSt ρ σ) (backG ρ φ φ) a w := by
  have hml : φ.length = σ.H.length := h.len
  have hle : ρ.length ≤ φ.length := by omega
  have hlt' : ∀ n ∈ ρ, n < φ.length := fun n hn => by have := hlt n hn; omega
  have hget : ∀ i, (backG ρ φ φ)[nthN ρ σ.H.length i]? = φ[i]? := fun i => by rw [← hml]; exact backG_new hle hnd hlt' i
  have hcase : ∀ (j : Nat) (p : Own), (backG ρ φ φ)[j]? = some p → ∃ i, j = nthN ρ σ.H.length i ∧ φ[i]? = some p := fun j p hj => by
    rcases backG_cases hle hnd hlt' hj with ⟨i, h1, h2⟩ | ⟨h1, h2, _⟩
    · exact ⟨i, by rw [← hml]; exact h1, h2⟩
    · exact absurd (hon j (by omega)) h1
  have hN : ∀ b, ¬ (envOf N0 φ w).N b → ¬ (envOf N0 (backG ρ φ φ) w).N b := fun b hb => by
    rintro (h0 | ⟨j, k, hj⟩)
    · exact hb (.inl h0)
    · obtain ⟨i, _, hi⟩ := hcase j _ hj
      exact hb (.inr ⟨i, k, hi⟩)
  have hφi : ∀ (i : Nat) (p : Own), φ[i]? = some p → (backG ρ φ φ)[nthN ρ σ.H.length i]? = some p := fun i p hp => by rw [hget]; exact hp
  exact {
    slots := fun d => by
      simp only [permSt]
      rw [look_back]
      exact rep_back (El := envOf N0 φ w) (E := envOf N0 (backG ρ φ φ) w) rfl hN hφi _ _ (h.slots d)
    size := h.size
    defers := h.defers
    len := by
      simp only [permSt]
      rw [backH_eq, backG_len hle, backG_len (by simp; omega), List.length_map]; omega
    objs := fun j o p ho hp => by
      simp only [permSt] at ho
      rw [nthO_eq, backH_eq] at ho
      obtain ⟨i, rfl, hi⟩ := hcase j p hp
      have := backG_new (ns := ρ) (os := σ.H.map (Obj.back ρ σ.H.length)) (xs := σ.H) (by simp; omega) hnd (fun n hn => by have := hlt n hn; omega) i
      rw [this, List.getElem?_map] at ho
      obtain ⟨o', ho', rfl⟩ := Option.map_eq_some_iff.1 ho
      exact objRel_back (El := envOf N0 φ w) (E := envOf N0 (backG ρ φ φ) w) rfl hN hφi (h.objs i o' p (by rw [nthO_eq]; exact ho') hi)
    own := fun n b k hn => by
      obtain ⟨i, _, hi⟩ := hcase n _ hn
      exact h.own i b k hi
    inj := fun n m b k k' hn hm => by
      obtain ⟨i, rfl, hi⟩ := hcase n _ hn
      obtain ⟨j, rfl, hj⟩ := hcase m _ hm
      rw [h.inj i j b k k' hi hj]
    n0 := h.n0
    fixd := fun n p hf hp hfree => by
      have h1 := hnf n hf (List.getElem?_eq_some_iff.1 hp).1
      have h2 := hk n h1
      rw [← hl] at h2
      have h3 := hφi n p (h.fixd n p hf hp hfree)
      rw [h2] at h3
      exact h3
    below := h.below }
theorem Conc.to {nf : Nat} (hnf : ∀ n : Nat, w0.fix n = true → n < w0.φ0.length → n < nf) {σ τ : St} (ht : St.to nf σ τ) : ∀ {φ : List Own}, Conc N0 w0 nt σ φ a w → ∃ φ', Conc N0 w0 nt τ φ' a w := by
  induction ht with
  | le hl hle => intro φ h; exact ⟨_, h.le hnf hl hle⟩
  | @nil σ τ d k hd _ ih =>
    intro φ h
    have h1 := h.addNil k
    have hs := h.slots d
    rw [hd] at hs
    simp only [Rep] at hs
    refine ih (h1.reslot (d := d) (x := .row σ.H.length 0 k 0 false) ?_)
    rw [hs]
    simp only [Rep]
    exact .inl ⟨.nil, by show (φ ++ [Own.nil])[σ.H.length]? = _; rw [← h.len]; simp, by simp, trivial, fun _ => trivial, none, rfl⟩
  | @nilb σ τ m i k cs hm hi _ ih =>
    intro φ h
    have h1 := h.addNil k
    have hmlt : m < σ.H.length := by rw [nthO_eq] at hm; exact (List.getElem?_eq_some_iff.1 hm).1
    have hφm : φ[m]? = some (φ[m]'(by rw [h.len]; exact hmlt)) := List.getElem?_eq_getElem _
    have e1 : St.setH ⟨σ.s, σ.H ++ [.row k []]⟩ m (.box (setNth cs i (.row σ.H.length 0 k 0 false))) = ⟨σ.s, setO σ.H m (.box (setNth cs i (.row σ.H.length 0 k 0 false))) ++ [.row k []]⟩ := by
      simp only [St.setH, setO_eq]
      rw [List.set_append_left _ _ hmlt]
    have h2 := h1.setObj (n := m) (o := .box (setNth cs i (.row σ.H.length 0 k 0 false))) (fun p hp => by
      have hob := h1.objs m (.box cs) p (by rw [nthO_eq, List.getElem?_append_left hmlt, ← nthO_eq]; exact hm) hp
      cases p with
      | nil => simp [ObjRel] at hob
      | free => simp [ObjRel] at hob
      | loc b k' =>
        simp only [ObjRel] at hob ⊢
        refine ⟨hob.1, RepM_iff.2 fun j y hy => ?_⟩
        rw [setNth_eq, List.getElem?_set] at hy
        split at hy
        · rename_i e
          subst e
          split at hy
          · simp at hy
            subst hy
            obtain ⟨v, hv, h1', hr⟩ := RepM_iff.1 hob.2 i _ hi
            refine ⟨v, hv, h1', ?_⟩
            simp only [Rep] at hr
            subst hr
            simp only [Rep]
            exact .inl ⟨.nil, by show (φ ++ [Own.nil])[σ.H.length]? = _; rw [← h.len]; simp, by simp, trivial, fun _ => trivial, none, rfl⟩
          · simp at hy
        · exact RepM_iff.1 hob.2 j y hy)
    rw [e1] at h2
    exact ih h2
  | @wk σ τ d es hd _ ih =>
    intro φ h
    have hs := h.slots d
    rw [hd] at hs
    refine ih (h.reslot (d := d) (x := .slc es) ?_)
    simp only [Rep] at hs ⊢
    obtain ⟨hp, a, hv, hl⟩ := hs
    exact ⟨hp, a, _, hv, Nat.le_refl _, hl⟩
  | @wkb σ τ m cs hm _ ih =>
    intro φ h
    exact ih (h.setObj (n := m) (o := .box (cs.map norm0)) (fun p hp => by
      have hob := h.objs m (.box cs) p hm hp
      cases p with
      | nil => simp [ObjRel] at hob
      | free => simp [ObjRel] at hob
      | loc b k' =>
        simp only [ObjRel] at hob ⊢
        refine ⟨hob.1, RepM_iff.2 fun j y hy => ?_⟩
        rw [List.getElem?_map] at hy
        obtain ⟨x, hx, rfl⟩ := Option.map_eq_some_iff.1 hy
        obtain ⟨v, hv, h1, hr⟩ := RepM_iff.1 hob.2 j x hx
        exact ⟨v, hv, h1, rep_norm0 hr⟩))
  | @perm σ τ ρ hl hnd hlt hon hk _ ih =>
    intro φ h
    exact ih (h.perm hnf hl hnd hlt hon hk)
  | @frz σ τ ρ H₀ hnd hH hρ _ ih =>
    intro φ h
    exact ih (h.frozen hnd hH (fun n hn hf => by
      rcases Nat.lt_or_ge n w0.φ0.length with hlt | hge
      · have := hnf n hf hlt
        have := hρ n hn
        omega
      · exact hge)).1
def postC (N0 : Nat → Prop) (w0 : Base) (nt : Nat) (Q : Ex → St → Prop) : Exit → Act → World → Prop
  | .normal, a, w => ∃ τ φ, Q .normal τ ∧ Conc N0 w0 nt τ φ a w
  | .exit i, a, w => ∃ τ φ, Q (.exit i) τ ∧ Conc N0 w0 nt τ φ a w
  | .ret, a, w => ∃ τ φ, Q .ret τ ∧ Conc N0 w0 nt τ φ a w
  | _, _, _ => False
theorem wpA_sound (hΓ : TabOK P Γ) (hfx : w0.fix = Γ.fix) (hnf : ∀ n : Nat, w0.fix n = true → n < w0.φ0.length → n < Γ.nf) (hm : P.follows .mixedOrders = true) : ∀ (c : Code), codeOK P Γ nt c = true → ∀ (Q : Ex → St → Prop) (σ : St) (φ : List Own) (a : Act) (w : World), Conc N0 w0 nt σ φ a w → wpA P Γ c Q σ → c.wp P (postC N0 w0 nt Q) a w := by
  intro c
  induction c with
  | skip => intro _ Q σ φ a w h hw; exact wp_skip ⟨σ, φ, by simpa only [wpA] using hw, h⟩
  | label l => intro _ Q σ φ a w h hw; exact wp_label ⟨σ, φ, by simpa only [wpA] using hw, h⟩
  | exit id => intro _ Q σ φ a w h hw; exact wp_exit ⟨σ, φ, by simpa only [wpA] using hw, h⟩
  | ret => intro _ Q σ φ a w h hw; exact wp_ret ⟨σ, φ, by simpa only [wpA] using hw, h⟩
  | seq x y ihx ihy =>
    intro hok Q σ φ a w h hw
    simp only [codeOK, Bool.and_eq_true] at hok
    simp only [wpA] at hw
    refine wp_seq (wp_mono (ihx hok.1 _ σ φ a w h hw) fun e a' w' hq => ?_)
    cases e with
    | normal =>
      obtain ⟨τ, φ', hq, hc⟩ := hq
      exact ihy hok.2 _ τ φ' a' w' hc hq
    | exit i => exact hq
    | ret => exact hq
    | goto l => exact hq
    | panic c => exact hq
    | outgrown => exact hq
  | cond c x y ihx ihy =>
    intro hok Q σ φ a w h hw
    simp only [codeOK, Bool.and_eq_true] at hok
    simp only [wpA, condA] at hw
    obtain ⟨t, ht, h1, h2⟩ := hw
    have hev := h.ev c
    rw [ht] at hev
    simp only [Rep] at hev
    exact wp_cond_split hev (fun e => ihx hok.1 Q σ φ a w h (h1 e)) (fun e => ihy hok.2 Q σ φ a w h (h2 e))
  | block id x ih =>
    intro hok Q σ φ a w h hw
    simp only [codeOK] at hok
    simp only [wpA] at hw
    refine wp_block (wp_mono (ih hok _ σ φ a w h hw) fun e a' w' hq => ?_)
    cases e with
    | normal => exact hq
    | exit i =>
      obtain ⟨τ, φ', hq, hc⟩ := hq
      simp only [blockQ] at hq
      simp only [Exit.inBlock]
      split
      · rename_i e; rw [if_pos e] at hq; exact ⟨τ, φ', hq, hc⟩
      · rename_i e; rw [if_neg e] at hq; exact ⟨τ, φ', hq, hc⟩
    | ret => exact hq
    | goto l => exact hq
    | panic c => exact hq
    | outgrown => exact hq
  | loop x ih =>
    intro hok Q σ φ a w h hw
    simp only [codeOK] at hok
    simp only [wpA] at hw
    obtain ⟨ι, inv, μ, ⟨i₀, h0⟩, hstep⟩ := hw
    intro b k cs
    have key : ∀ n (i : ι) (σ : St) (φ : List Own) (a : Act) (w : World), μ i = n → Conc N0 w0 nt (inv i) φ a w →
        ∃ e a' w', postC N0 w0 nt Q e a' w' ∧ Arrives P (lone (b.at a (.code x :: .inLoop x :: k)) cs w) b k cs e a' w' := by
      intro n
      induction n using Nat.strongRecOn with
      | _ n ihn =>
        intro i σ φ a w hn hc
        obtain ⟨e, a₁, w₁, hq, harr⟩ := ih hok _ (inv i) φ a w hc (hstep i) b (.inLoop x :: k) cs
        cases e with
        | normal =>
          obtain ⟨τ, φ', ⟨j, hle, hlt⟩, hc'⟩ := hq
          obtain ⟨φ₂, hc₂⟩ := Conc.to hnf hle hc'
          obtain ⟨e₂, a₂, w₂, hq₂, harr₂⟩ := ihn (μ j) (hn ▸ hlt) j τ φ₂ a₁ w₁ rfl hc₂
          exact ⟨e₂, a₂, w₂, hq₂, .of_steps (Steps.trans harr (.one step_inLoop)) harr₂⟩
        | exit id => exact ⟨.exit id, a₁, w₁, (show postC N0 w0 nt Q (.exit id) a₁ w₁ from hq), .pass (x := .inLoop x) rfl (fun _ _ => .inl (by simp)) harr⟩
        | ret => exact ⟨.ret, a₁, w₁, (show postC N0 w0 nt Q .ret a₁ w₁ from hq), .pass (x := .inLoop x) rfl (fun _ _ => .inl (by simp)) harr⟩
        | goto l => exact hq.elim
        | panic c => exact hq.elim
        | outgrown => exact hq.elim
    obtain ⟨φ₀, hc₀⟩ := Conc.to hnf h0 h
    obtain ⟨e, a', w', hq, harr⟩ := key _ i₀ σ φ₀ a w rfl hc₀
    exact ⟨e, a', w', hq, .of_steps (.one step_loop) harr⟩
  | region id ops d =>
    intro hok Q σ φ a w h hw
    simp only [codeOK, Bool.and_eq_true] at hok
    simp only [wpA] at hw
    obtain ⟨⟨hok1, hokf⟩, hok2⟩ := hok
    have key : ∀ (σ : St) (φ : List Own), Conc N0 w0 nt σ φ a w → regO P Γ (ordOf (Γ.ords id)) ops Q σ → (Code.region id ops d).wp P (postC N0 w0 nt Q) a w := fun σ φ h hw => by
      cases ho : ordOf (Γ.ords id) with
      | nil =>
        rw [ho] at hw hok2
        simp only [List.isEmpty_nil, if_true, Bool.or_eq_true, Bool.not_eq_true'] at hok2
        obtain ⟨τ, hr, hQ⟩ := hw
        exact region_sound hΓ hfx hm h hok1 (fun e => hok2.resolve_left (by simp [e])) hr fun φ' a' w' hc => ⟨τ, φ', hQ, hc⟩
      | cons o os =>
        rw [ho] at hw hok2
        simp only [List.isEmpty_cons, Bool.false_eq_true, if_false, Bool.and_eq_true] at hok2
        obtain ⟨rfl, hok3⟩ := hok2
        exact region_sound_ords hΓ hfx hm h hok1 hok3 hw fun τ φ' a' w' hq hc => ⟨τ, φ', hq, hc⟩
    unfold regW at hw
    unfold frzOK at hokf
    cases hf : frzOf (Γ.ords id) with
    | none => rw [hf] at hw; exact key σ φ h hw
    | some ρ =>
      rw [hf] at hw hokf
      simp only [Bool.and_eq_true, decide_eq_true_iff, List.all_eq_true] at hokf
      obtain ⟨H₀, hH, hw⟩ := hw
      exact key _ _ (h.frozen (hokf.1.filter _) hH (fun n hn hf => by
        have hn := (List.mem_filter.1 hn).1
        rcases Nat.lt_or_ge n w0.φ0.length with hlt | hge
        · have := hnf n hf hlt
          have := hokf.2 n hn
          omega
        · exact hge)).1 hw
  | _ => intro _ Q σ φ a w h hw; simp only [wpA] at hw
def resS (tmps : Array Value) : ResultVar → Sem Value
  | .tmp t => pure (tmps.getD t undef)
  | .cell c t => do loadVar t (← asAddr (tmps.getD c undef))
theorem results_eq (fn : Func) (tmps : Array Value) : results fn tmps = (do
    let vs ← fn.results.mapM (resS tmps)
    pure (if h : vs.size = 1 then vs[0] else .tuple vs)) := rfl
theorem resA_sound (h : Conc N0 w0 nt σ φ a w) {r : ResultVar} {x : A} (hr : resA P σ r = some x) :
    ∃ v, (resS a.tmps r).run P w = .ok v w ∧ Rep ⟨N0, [], w⟩ x v := by
  cases r with
  | tmp t =>
    simp only [resA] at hr
    exact ⟨_, by simp only [resS, Sem.run_pure], (view_sound h hr (h.slots t) (N' := N0) ⟨fun b hb => .inl hb, .inr (own_not_n0 h)⟩).1⟩
  | cell c t =>
    simp only [resA] at hr
    unfold resC at hr
    split at hr
    · rename_i n off hl
      split at hr
      · rename_i cs ho
        cases hld : loadC P t (cs.drop off) with
        | none => simp [hld] at hr
        | some y =>
          simp only [hld, Option.bind_some] at hr
          have hs := h.slots c
          rw [hl] at hs
          simp only [Rep] at hs
          obtain ⟨b, k, hφ, hv⟩ := hs
          have hob := h.objs n _ _ ho hφ
          simp only [ObjRel] at hob
          have hm := RepM_drop (n := off) hob.2
          rw [Nat.zero_add] at hm
          obtain ⟨v, hrun, hrep, _⟩ := load_mem (E := envOf N0 φ w) hm hld
          refine ⟨v, ?_, (view_sound h hr hrep (N' := N0) ⟨fun b hb => .inl hb, .inr (own_not_n0 h)⟩).1⟩
          simp only [resS]
          rw [hv]
          simp only [asAddr, Sem.run_bind, Sem.run_pure, Result.andThen_ok]
          exact hrun
      · simp at hr
    · simp at hr
theorem resL_sound (h : Conc N0 w0 nt σ φ a w) : ∀ {rs : List ResultVar} {xs : List A}, resL P σ rs = some xs →
    ∃ vs : List Value, (rs.mapM (resS a.tmps)).run P w = .ok vs w ∧ RepL ⟨N0, [], w⟩ xs vs
  | [], xs, hr => by
    simp only [resL, Option.some.injEq] at hr
    subst hr
    exact ⟨[], by simp, by simp [RepL]⟩
  | r :: rs, xs, hr => by
    simp only [resL] at hr
    cases h1 : resA P σ r with
    | none => simp [h1] at hr
    | some x =>
      cases h2 : resL P σ rs with
      | none => simp [h1, h2] at hr
      | some ys =>
        simp [h1, h2] at hr
        subst hr
        obtain ⟨v, g1, g2⟩ := resA_sound h h1
        obtain ⟨vs, g3, g4⟩ := resL_sound h h2
        refine ⟨v :: vs, ?_, by simp only [RepL]; exact ⟨v, vs, rfl, g2, g4⟩⟩
        simp only [List.mapM_cons, Sem.run_bind, g1, Result.andThen_ok, Sem.run_pure, g3]
theorem results_sound (h : Conc N0 w0 nt σ φ a w) {fn : Func} {xs : List A} (hr : resL P σ fn.results.toList = some xs) :
    ∃ v, (results fn a.tmps).run P w = .ok v w ∧ Rep ⟨N0, [], w⟩ (resOf xs) v := by
  obtain ⟨vs, h1, h2⟩ := resL_sound h hr
  refine ⟨if h : vs.toArray.size = 1 then vs.toArray[0] else .tuple vs.toArray, ?_, ?_⟩
  · rw [results_eq, Sem.run_bind, Array.mapM_eq_mapM_toList, Sem.run_map]
    rw [h1]
    simp
  · obtain ⟨g1, g2⟩ := RepL_iff.1 h2
    cases xs with
    | nil =>
      have : vs = [] := List.length_eq_zero_iff.1 (by simpa using g1.symm)
      subst this
      simp [resOf, Rep, RepL]
    | cons x xs =>
      cases xs with
      | nil =>
        simp only [RepL] at h2
        obtain ⟨v, vs', rfl, hx, rfl⟩ := h2
        simpa [resOf] using hx
      | cons y ys =>
        rw [dif_neg (by simp at g1 ⊢; omega)]
        simp only [resOf, Rep]
        exact ⟨vs, rfl, h2⟩
theorem look_number : ∀ (args : List A) (i d : Nat), look (number i args) d = if i ≤ d ∧ d < i + args.length then args.getD (d - i) .any else .any
  | [], i, d => by simp [number, look]
  | x :: xs, i, d => by
    simp only [number, look, List.length_cons]
    split
    · rename_i h; subst h; simp
    · rename_i h
      rw [look_number xs (i + 1) d]
      by_cases hd : i + 1 ≤ d ∧ d < i + 1 + xs.length
      · rw [if_pos hd, if_pos (by omega), show d - i = (d - (i + 1)) + 1 by omega]
        simp
      · rw [if_neg hd, if_neg (by omega)]
theorem callA_of_body (hΓ : TabOK P Γ) (hm : P.follows .mixedOrders = true) {f : FuncId} {fn : Func} {c : Code} (hf : P.funcs[f]? = some fn) (hb : fn.body = some c) {args : List A} (hlen : args.length ≤ fn.ntmps)
    (hok : codeOK P Γ fn.ntmps c = true) {Post : A → Prop} (hw : wpA P Γ c (bodyA P fn Post) (startA args)) : CallA P f args Post := by
  intro N w vs hN hrep
  obtain ⟨g1, g2⟩ := RepL_iff.1 hrep
  refine calls_of_wp hf hb ?_
  have hext : Ext (fun _ => True) ⟨N, [], w⟩ (envOf N [] w) := {
    size := Nat.le_refl _
    blk := fun b _ hn => ⟨by
      rintro (h0 | ⟨m, k, hm⟩)
      · exact hn h0
      · simp at hm, rfl⟩
    refs := fun m o _ hm => by simp at hm
    own := fun m b k c e fr _ hm => by simp at hm }
  have hstart : Conc N { toWorld := w, M := fun _ => False, fix := Γ.fix, φ0 := [] } fn.ntmps (startA args) [] { tmps := vs.toArray ++ Array.replicate (fn.ntmps - vs.toArray.size) undef, defers := [] } w := {
    slots := fun d => by
      simp only [startA]
      rw [look_number]
      split
      · rename_i hd
        simp only [Nat.zero_add] at hd
        have hdv : d < vs.length := by omega
        have hx : args[d]? = some args[d] := List.getElem?_eq_getElem hd.2
        have hv : vs[d]? = some vs[d] := List.getElem?_eq_getElem hdv
        have := Rep.mono hext _ _ (g2 d _ _ hx hv) (fun _ _ => trivial)
        have e1 : args.getD (d - 0) .any = args[d] := by simp [hd.2]
        have e2 : (vs.toArray ++ Array.replicate (fn.ntmps - vs.toArray.size) undef).getD d undef = vs[d] := by
          simp [Array.getElem?_append, hdv]
        rw [e1, e2]
        exact this
      · simp only [Rep]
    size := by simp; omega
    defers := rfl
    len := rfl
    objs := fun n o p ho => by simp [startA, nthO] at ho
    own := fun n b k hn => by simp at hn
    inj := fun n m b k k' hn => by simp at hn
    n0 := fun b hb => ⟨hN b hb, fun h => h⟩
    fixd := fun n p _ hp => by simp at hp
    below := Kept.refl _ }
  refine wp_mono (wpA_sound hΓ rfl (fun n _ h => by simp at h) hm c hok _ _ _ _ _ hstart hw) fun e a' w' hq => ?_
  have fin : ∀ (τ : St) (φ : List Own), K? (resL P τ fn.results.toList) (fun rs => Post (resOf rs)) → Conc N { toWorld := w, M := fun _ => False, fix := Γ.fix, φ0 := [] } fn.ntmps τ φ a' w' →
      a'.defers = [] ∧ ∃ v, (results fn a'.tmps).run P w' = .ok v w' ∧ ∃ v' r, Ending.returned v = .returned v' ∧ Post r ∧ Rep ⟨N, [], w'⟩ r v' ∧ Grew w w' := by
    rintro τ φ ⟨xs, hx, hP⟩ hc
    obtain ⟨v, hv, hr⟩ := results_sound hc hx
    exact ⟨hc.defers, v, hv, v, _, rfl, hP, hr, ⟨hc.below.size, fun b hb => hc.below.block b hb (fun h => h), hc.below.os, hc.below.tape, hc.below.output, hc.below.drawn⟩⟩
  cases e with
  | normal =>
    obtain ⟨τ, φ, hq, hc⟩ := hq
    exact fin τ φ hq hc
  | ret =>
    obtain ⟨τ, φ, hq, hc⟩ := hq
    exact fin τ φ hq hc
  | exit i =>
    obtain ⟨τ, φ, hq, hc⟩ := hq
    exact hq.elim
  | goto l => exact hq.elim
  | panic c => exact hq.elim
  | outgrown => exact hq.elim
theorem rawA_sound (h : Conc N0 w0 nt σ φ a w) {r : ResultVar} {x : A} (hr : rawA P σ r = some x) :
    ∃ v, (resS a.tmps r).run P w = .ok v w ∧ Rep (envOf N0 φ w) x v := by
  cases r with
  | tmp t =>
    simp only [rawA, Option.some.injEq] at hr
    subst hr
    exact ⟨_, by simp only [resS, Sem.run_pure], h.slots t⟩
  | cell c t =>
    simp only [rawA] at hr
    unfold rawC at hr
    split at hr
    · rename_i n off hl
      split at hr
      · rename_i cs ho
        have hs := h.slots c
        rw [hl] at hs
        simp only [Rep] at hs
        obtain ⟨b, k, hφ, hv⟩ := hs
        have hob := h.objs n _ _ ho hφ
        simp only [ObjRel] at hob
        have hm := RepM_drop (n := off) hob.2
        rw [Nat.zero_add] at hm
        obtain ⟨v, hrun, hrep, _⟩ := load_mem (E := envOf N0 φ w) hm hr
        refine ⟨v, ?_, hrep⟩
        simp only [resS]
        rw [hv]
        simp only [asAddr, Sem.run_bind, Sem.run_pure, Result.andThen_ok]
        exact hrun
      · simp at hr
    · simp at hr
theorem rawL_sound (h : Conc N0 w0 nt σ φ a w) : ∀ {rs : List ResultVar} {xs : List A}, rawL P σ rs = some xs →
    ∃ vs : List Value, (rs.mapM (resS a.tmps)).run P w = .ok vs w ∧ RepL (envOf N0 φ w) xs vs
  | [], xs, hr => by
    simp only [rawL, Option.some.injEq] at hr
    subst hr
    exact ⟨[], by simp, by simp [RepL]⟩
  | r :: rs, xs, hr => by
    simp only [rawL] at hr
    obtain ⟨x, h1, hr⟩ := Option.bind_eq_some_iff.1 hr
    obtain ⟨ys, h2, rfl⟩ := Option.map_eq_some_iff.1 hr
    obtain ⟨v, g1, g2⟩ := rawA_sound h h1
    obtain ⟨vs, g3, g4⟩ := rawL_sound h h2
    refine ⟨v :: vs, ?_, by simp only [RepL]; exact ⟨v, vs, rfl, g2, g4⟩⟩
    simp only [List.mapM_cons, Sem.run_bind, g1, Result.andThen_ok, Sem.run_pure, g3]
theorem resultsRaw_sound (h : Conc N0 w0 nt σ φ a w) {fn : Func} {xs : List A} (hr : rawL P σ fn.results.toList = some xs) :
    ∃ v, (results fn a.tmps).run P w = .ok v w ∧ Rep (envOf N0 φ w) (resOf xs) v := by
  obtain ⟨vs, h1, h2⟩ := rawL_sound h hr
  refine ⟨if h : vs.toArray.size = 1 then vs.toArray[0] else .tuple vs.toArray, ?_, ?_⟩
  · rw [results_eq, Sem.run_bind, Array.mapM_eq_mapM_toList, Sem.run_map]
    rw [h1]
    simp
  · obtain ⟨g1, g2⟩ := RepL_iff.1 h2
    cases xs with
    | nil =>
      have : vs = [] := List.length_eq_zero_iff.1 (by simpa using g1.symm)
      subst this
      simp [resOf, Rep, RepL]
    | cons x xs =>
      cases xs with
      | nil =>
        simp only [RepL] at h2
        obtain ⟨v, vs', rfl, hx, rfl⟩ := h2
        simpa [resOf] using hx
      | cons y ys =>
        rw [dif_neg (by simp at g1 ⊢; omega)]
        simp only [resOf, Rep]
        exact ⟨vs, rfl, h2⟩
theorem callH_of_body (hΓ : TabOK P Γ) (hm : P.follows .mixedOrders = true) {f : FuncId} {fn : Func} {c : Code} (hf : P.funcs[f]? = some fn) (hb : fn.body = some c) {args : List A} {H H' : List Obj} {r : A} {S : List Nat} (hlen : args.length ≤ fn.ntmps)
    (hfix : ∀ n, n < H.length → n ∉ S → Γ.fix n = true) (hnf : H.length ≤ Γ.nf) (hl : Γ.nf ≤ H'.length)
    (hok : codeOK P Γ fn.ntmps c = true) (hw : wpA P Γ c (bodyH P fn r H') (startH args H)) : CallH P f args H r H' S := by
  intro N φ w vs hN hrel hfree hrep
  obtain ⟨g1, g2⟩ := RepL_iff.1 hrep
  refine calls_of_wp hf hb ?_
  have hφl : ∀ n : Nat, n < φ.length → n < Γ.nf := fun n hn => by have := hrel.len; omega
  have hstart : Conc N { toWorld := w, M := fun b => ∃ n k : Nat, φ[n]? = some (Own.loc b k), fix := Γ.fix, φ0 := φ } fn.ntmps (startH args H) φ { tmps := vs.toArray ++ Array.replicate (fn.ntmps - vs.toArray.size) undef, defers := [] } w := {
    slots := fun d => by
      simp only [startH]
      rw [look_number]
      split
      · rename_i hd
        simp only [Nat.zero_add] at hd
        have hdv : d < vs.length := by omega
        have hx : args[d]? = some args[d] := List.getElem?_eq_getElem hd.2
        have hv : vs[d]? = some vs[d] := List.getElem?_eq_getElem hdv
        have e1 : args.getD (d - 0) .any = args[d] := by simp [hd.2]
        have e2 : (vs.toArray ++ Array.replicate (fn.ntmps - vs.toArray.size) undef).getD d undef = vs[d] := by
          simp [Array.getElem?_append, hdv]
        rw [e1, e2]
        exact g2 d _ _ hx hv
      · simp only [Rep]
    size := by simp; omega
    defers := rfl
    len := hrel.len
    objs := hrel.objs
    own := fun n b k hn => ⟨.inr ⟨n, k, hn⟩, (hrel.own n b k hn).1⟩
    inj := hrel.inj
    n0 := fun b hb => ⟨hN b hb, fun ⟨n, k, hn⟩ => (hrel.own n b k hn).2 hb⟩
    fixd := fun n p _ hp _ => hp
    below := Kept.refl _ }
  refine wp_mono (wpA_sound hΓ rfl (fun n _ h => hφl n h) hm c hok _ _ _ _ _ hstart hw) fun e a' w' hq => ?_
  have fin : ∀ (τ : St) (φ' : List Own), K? (rawL P τ fn.results.toList) (fun rs => resOf rs = r ∧ r.under H'.length = true ∧ leH H'.length τ.H H') →
      Conc N { toWorld := w, M := fun b => ∃ n k : Nat, φ[n]? = some (Own.loc b k), fix := Γ.fix, φ0 := φ } fn.ntmps τ φ' a' w' →
      a'.defers = [] ∧ ∃ v, (results fn a'.tmps).run P w' = .ok v w' ∧ ∃ v' φ', Ending.returned v = .returned v' ∧ Rep (envOf N φ' w') r v' ∧ HeapRel N φ' H' w' ∧ TurnH φ w S φ' w' ∧ H.length ≤ H'.length := by
    rintro τ φ' ⟨xs, hx, rfl, hu, hle⟩ hc
    obtain ⟨v, hv, hr⟩ := resultsRaw_sound hc hx
    have hext := hc.le_ext H'.length
    have hc2 := hc.le (τ := ⟨[], H'⟩) (fun n _ h => hφl n h) hl ⟨trivial, hle⟩
    refine ⟨hc.defers, v, hv, v, φ'.take H'.length, rfl, Rep.mono hext _ _ hr fun n hn => A.under_mem _ hu hn, ?_, ?_, by omega⟩
    · exact {
        len := hc2.len
        objs := hc2.objs
        own := fun n b k hn => ⟨(hc2.own n b k hn).2, fun h0 => by
          rcases (hc2.own n b k hn).1 with h1 | h1
          · have := (hc2.n0 b h0).1; simp at this h1; omega
          · exact (hc2.n0 b h0).2 h1⟩
        inj := hc2.inj }
    · exact {
        os := hc2.below.os
        tape := hc2.below.tape
        output := hc2.below.output
        drawn := hc2.below.drawn
        size := hc2.below.size
        block := fun b hb hM => hc2.below.block b hb fun ⟨n, k, hn⟩ => hM n k hn
        shape := hc2.below.shape
        own := fun n b k hn => (hc2.own n b k hn).1
        stay := fun n p hn hp => by
          have hlt := (List.getElem?_eq_some_iff.1 hp).1
          exact hc2.fixd n p (hfix n (by rw [← hrel.len]; exact hlt) hn) hp (fun e => hfree n (by rw [hp, e])) }
  cases e with
  | normal =>
    obtain ⟨τ, φ', hq, hc⟩ := hq
    exact fin τ φ' hq hc
  | ret =>
    obtain ⟨τ, φ', hq, hc⟩ := hq
    exact fin τ φ' hq hc
  | exit i =>
    obtain ⟨τ, φ', hq, hc⟩ := hq
    exact hq.elim
  | goto l => exact hq.elim
  | panic c => exact hq.elim
  | outgrown => exact hq.elim
end
end Go.Abs
namespace Go.Abs
open Go.RowKit
inductive CT where
  | int (k : IntKind)
  | bool
  | str
  | list (c : CT)
  | rows (cs : List CT)
mutual
def fits : CT → A → Prop
  | .int k, x => ∃ n, x = .int k n ∧ (Lit.int k n).wf = true
  | .bool, x => ∃ b, x = .bool b
  | .str, x => ∃ s, x = .str s ∧ s.length ≤ maxLen
  | .list c, x => ∃ es, x = .slc es ∧ es.length ≤ maxLen ∧ ∀ e ∈ es, fits c e
  | .rows cs, x => ∃ es, x = .slc es ∧ es.length ≤ maxLen ∧ ∀ e ∈ es, ∃ ys, e = .agg ys ∧ fitsL cs ys
def fitsL : List CT → List A → Prop
  | [], ys => ys = []
  | c :: cs, ys => ∃ y zs, ys = y :: zs ∧ fits c y ∧ fitsL cs zs
end
def flatGo (rec : TypeId → Option (List CT)) (size : TypeId → Nat) : List Field → Nat → Option (List CT)
  | [], _ => some []
  | f :: fs, off =>
    if f.offset = off then
      match rec f.type with
      | some ks => if ks.length = size f.type then (flatGo rec size fs (off + size f.type)).map (ks ++ ·) else none
      | none => none
    else none
def flatTy (P : Program) : Nat → TypeId → Option (List CT)
  | 0, _ => none
  | d + 1, t =>
    match P.underlying t with
    | some .bool => some [.bool]
    | some (.int k) => some [.int k]
    | some .string => some [.str]
    | some (.slice e) =>
      match tyAgg P e, flatTy P d e with
      | some true, some (c :: cs) => if (c :: cs).length = P.cellsOf e then some [.rows (c :: cs)] else none
      | some false, some [c] => if P.cellsOf e = 1 then some [.list c] else none
      | _, _ => none
    | some (.struct fs) => (flatGo (flatTy P d) P.cellsOf fs.toList 0).bind fun ks => if ks.length = P.cellsOf t then some ks else none
    | some (.array n e) =>
      match flatTy P d e with
      | some ks => if ks.length = P.cellsOf e ∧ n * ks.length = P.cellsOf t then some (List.replicate n ks).flatten else none
      | none => none
    | _ => none
theorem fitsL_append : ∀ {cs ds : List CT} {ys zs : List A}, fitsL cs ys → fitsL ds zs → fitsL (cs ++ ds) (ys ++ zs)
  | [], ds, ys, zs, h, h' => by simp only [fitsL] at h; subst h; simpa using h'
  | c :: cs, ds, ys, zs, h, h' => by
    simp only [fitsL] at h
    obtain ⟨y, us, rfl, h1, h2⟩ := h
    simp only [List.cons_append, fitsL]
    exact ⟨y, us ++ zs, rfl, h1, fitsL_append h2 h'⟩
section
variable {H : Type} {enc : TypeId × Value → H} {P : Program} {w : World} {sp : Nat → Bool} {held : Bool}
def Reads (w : World) (cts : List CT) (cs : List Value) : Prop := ∃ xs : List A, RepL ⟨fun _ => False, [], w⟩ xs cs ∧ fitsL cts xs ∧ A.pure.pureL xs = true ∧ ∀ u ∈ cs, u.oneCell' = true
theorem Reads.append {cts cts' : List CT} {cs cs' : List Value} (h : Reads w cts cs) (h' : Reads w cts' cs') : Reads w (cts ++ cts') (cs ++ cs') := by
  obtain ⟨xs, h1, h2, h3, h4⟩ := h
  obtain ⟨ys, g1, g2, g3, g4⟩ := h'
  refine ⟨xs ++ ys, RepL_append h1 g1, fitsL_append h2 g2, pureL_of fun j y hy => ?_, fun u hu => ?_⟩
  · rcases List.mem_append.1 (List.mem_of_getElem? hy) with hm | hm
    · obtain ⟨r, hr⟩ := List.getElem?_of_mem hm; exact pureL_getElem h3 hr
    · obtain ⟨r, hr⟩ := List.getElem?_of_mem hm; exact pureL_getElem g3 hr
  · rcases List.mem_append.1 hu with hu | hu
    · exact h4 u hu
    · exact g4 u hu
theorem Reads.nil : Reads w [] [] := ⟨[], by simp [RepL], by simp [fitsL], rfl, by simp⟩
theorem reads_struct {rec : TypeId → Option (List CT)} {size : TypeId → Nat} {cs : List Value} : ∀ {fs : List Field} {off : Nat} {ks : List CT}, flatGo rec size fs off = some ks →
    (∀ f ∈ fs, ∀ k, rec f.type = some k → Reads w k ((cs.drop f.offset).take (size f.type))) → off + ks.length = cs.length → Reads w ks (cs.drop off)
  | [], off, ks, h, _, hl => by
    simp only [flatGo, Option.some.injEq] at h
    subst h
    have : cs.drop off = [] := List.drop_of_length_le (by simp at hl; omega)
    rw [this]
    exact Reads.nil
  | f :: fs, off, ks, h, hf, hl => by
    simp only [flatGo] at h
    split at h
    · rename_i ho
      split at h
      · rename_i k hk
        split at h
        · rename_i hsz
          cases hg : flatGo rec size fs (off + size f.type) with
          | none => simp [hg] at h
          | some ks' =>
            simp [hg] at h
            subst h
            have h1 := hf f (by simp) k hk
            rw [ho] at h1
            have h2 := reads_struct hg (fun g hgm => hf g (by simp [hgm])) (by simp at hl; omega)
            have := h1.append h2
            rw [show cs.drop (off + size f.type) = (cs.drop off).drop (size f.type) by rw [List.drop_drop], List.take_append_drop] at this
            exact this
        · simp at h
      · simp at h
    · simp at h
theorem reads_array {ks : List CT} {k : Nat} (hk : ks.length = k) : ∀ {n : Nat} {cs : List Value}, cs.length = n * k → (∀ i, i < n → Reads w ks ((cs.drop (i * k)).take k)) → Reads w (List.replicate n ks).flatten cs
  | 0, cs, hl, _ => by
    have : cs = [] := List.length_eq_zero_iff.1 (by simpa using hl)
    subst this
    simpa using Reads.nil (w := w)
  | n + 1, cs, hl, h => by
    rw [List.replicate_succ, List.flatten_cons]
    have h0 := h 0 (by omega)
    simp only [Nat.zero_mul, List.drop_zero] at h0
    have hr := reads_array hk (n := n) (cs := cs.drop k) (by simp [hl, Nat.add_mul]) (fun i hi => by
      have := h (i + 1) (by omega)
      rw [List.drop_drop, show k + i * k = (i + 1) * k by rw [Nat.add_mul]; omega]
      exact this)
    have := h0.append hr
    rw [List.take_append_drop] at this
    exact this
theorem spot_of {a : Addr} {v : Value} (h : w.cell? a = some v) : a = ⟨a.block, a.off, none⟩ ∧ a.block < w.heap.size := by
  unfold World.cell? at h
  split at h
  · rename_i c e fr hb
    split at h
    · simp at h
    · rename_i hs
      obtain ⟨b, o, s⟩ := a
      have : s = none := by cases s <;> simp_all
      subst this
      refine ⟨rfl, ?_⟩
      rcases Nat.lt_or_ge b w.heap.size with h' | h'
      · exact h'
      · rw [Array.getElem?_eq_none h'] at hb; simp at hb
  · simp at h
theorem reads_slice {k len cap : Nat} {a : Addr} (hk : k ≠ 0) (hlc : len ≤ cap) {mk : List A → A} {cts : List CT} (hmk : ∀ ys, fitsL cts ys → (mk ys).cells = ys) (hmp : ∀ ys, fitsL cts ys → A.pure.pureL ys = true → (mk ys).pure = true)
    (hx : ∀ i, i < len → ∃ cs, w.cells? 0 (a.add (i * k)) k = some cs ∧ Reads w cts cs) : ∃ es : List A, Rep ⟨fun _ => False, [], w⟩ (.slc es) (.slice (some a) len cap) ∧ es.length = len ∧ (A.slc es).pure = true ∧ ∀ e ∈ es, ∃ ys, e = mk ys ∧ fitsL cts ys := by
  obtain ⟨X, hX⟩ := Go.Deep.choose_lt (α := List A) (p := fun i ys => ∃ cs, w.cells? 0 (a.add (i * k)) k = some cs ∧ RepL ⟨fun _ => False, [], w⟩ ys cs ∧ fitsL cts ys ∧ A.pure.pureL ys = true ∧ ∀ u ∈ cs, u.oneCell' = true) (fun i hi => by
    obtain ⟨cs, h1, ys, h2⟩ := hx i hi
    exact ⟨ys, cs, h1, h2⟩)
  refine ⟨(List.range len).map fun i => mk (X i), ?_, by simp, by simp [A.pure], ?_⟩
  · simp only [Rep]
    refine ⟨pureL_of fun i e he => ?_, some a, cap, by simp, by simpa using hlc, fun hne => ?_⟩
    · have := List.mem_of_getElem? he
      obtain ⟨j, hj, rfl⟩ := List.mem_map.1 this
      obtain ⟨cs, _, _, hf, hp, _⟩ := hX j (List.mem_range.1 hj)
      exact hmp _ hf hp
    · have hlen : 0 < len := by
        rcases Nat.eq_zero_or_pos len with h | h
        · subst h; simp at hne
        · exact h
      obtain ⟨cs0, h1, h2, _⟩ := hX 0 hlen
      obtain ⟨_, hl0, hg0⟩ := World.cells?_some h1
      have h0 := hg0 0 (by omega)
      rw [Go.Deep.add_add] at h0
      simp only [Nat.zero_mul, Nat.add_zero] at h0
      have ha0 : a.add 0 = a := by simp [Addr.add]
      rw [ha0, List.getElem?_eq_getElem (by omega)] at h0
      obtain ⟨hspot, hblk⟩ := spot_of h0
      refine ⟨a.block, a.off, by rw [← hspot], hblk, fun h => h, ?_⟩
      have hE : RepE ⟨fun _ => False, [], w⟩ k a.block a.off ((List.range len).map fun i => mk (X i)) := by
        refine RepE_iff.2 fun i e he => ?_
        have hi : i < len := by
          have := (List.getElem?_eq_some_iff.1 he).1
          simpa using this
        have he' : e = mk (X i) := by
          rw [List.getElem?_map, List.getElem?_range hi] at he
          simpa using he.symm
        subst he'
        obtain ⟨cs, g1, g2, g3, g4, g5⟩ := hX i hi
        obtain ⟨_, gl, gg⟩ := World.cells?_some g1
        have hyl : (X i).length = k := by rw [(RepL_iff.1 g2).1, gl]
        rw [hmk _ g3]
        refine ⟨hyl, RepM_of_vals (vs := cs) (fun j v hv => ?_) g2 g5⟩
        have hj : j < k := by
          have := (List.getElem?_eq_some_iff.1 hv).1
          omega
        have := gg j hj
        rw [Go.Deep.add_add, hspot, Addr.add_lit, hv] at this
        rw [Nat.add_assoc]
        exact this
      have hst : strideOf ((List.range len).map fun i => mk (X i)) = k := stride_of hE hne
      rw [hst]
      exact hE
  · intro e he
    obtain ⟨j, hj, rfl⟩ := List.mem_map.1 he
    obtain ⟨cs, _, _, hf, _⟩ := hX j (List.mem_range.1 hj)
    exact ⟨X j, rfl, hf⟩
theorem reads_of_trod : ∀ (d : Nat) {t : TypeId} {cts : List CT} {fuel : Nat} {cs : List Value} {x : DataW H × List MemPlace}, flatTy P d t = some cts → DataW.trod enc P w 0 sp held fuel t cs = some x → Reads w cts cs := by
  intro d
  induction d with
  | zero => intro t cts fuel cs x hf; simp [flatTy] at hf
  | succ d ih =>
    intro t cts fuel cs x hf h
    unfold flatTy at hf
    split at hf
    · rename_i hu
      obtain rfl := Option.some.inj hf
      obtain ⟨b, rfl, _⟩ := DataW.trod_bool hu h
      exact ⟨[.bool b], by simp [RepL, Rep], by simp [fitsL, fits], rfl, by simp [Value.oneCell']⟩
    · rename_i k hu
      obtain rfl := Option.some.inj hf
      obtain ⟨n, rfl, _, hn⟩ := DataW.trod_int hu h
      exact ⟨[.int k n], by simp [RepL, Rep], by simp [fitsL, fits, hn], rfl, by simp [Value.oneCell']⟩
    · rename_i hu
      obtain rfl := Option.some.inj hf
      obtain ⟨s, rfl, _, hs⟩ := DataW.trod_string hu h
      have hsl : s.data.toList.length ≤ maxLen := by rw [Array.length_toList]; exact hs
      refine ⟨[.str s.data.toList], by simp [RepL, Rep], ?_, rfl, by simp [Value.oneCell']⟩
      simp only [fitsL, fits]
      exact ⟨_, [], rfl, ⟨_, rfl, hsl⟩, rfl⟩
    · rename_i e hu
      have nilcase : ∀ c : CT, (∀ y : A, y = .slc [] → fits c y) → Reads w [c] [.slice none 0 0] := fun c hc => by
        refine ⟨[.slc []], ?_, ?_, rfl, by simp [Value.oneCell']⟩
        · simp only [RepL, Rep]
          exact ⟨_, [], rfl, ⟨rfl, none, 0, rfl, Nat.le_refl _, fun h => absurd rfl h⟩, rfl⟩
        · simp only [fitsL]
          exact ⟨_, [], rfl, hc _ rfl, rfl⟩
      rcases Go.Deep.open_slice hu h with ⟨rfl, _⟩ | ⟨a, len, cap, m, n, D, Pl, rfl, _, hlc, hcm, hm, _, hx⟩
      · split at hf
        · split at hf
          · obtain rfl := Option.some.inj hf
            exact nilcase _ fun y hy => by subst hy; simp only [fits]; exact ⟨[], rfl, by simp, by simp⟩
          · simp at hf
        · split at hf
          · obtain rfl := Option.some.inj hf
            exact nilcase _ fun y hy => by subst hy; simp only [fits]; exact ⟨[], rfl, by simp, by simp⟩
          · simp at hf
        · simp at hf
      · have hlm : len ≤ m := by rw [hm]; split <;> omega
        split at hf
        · rename_i c cs' hag hfe
          split at hf
          · rename_i hsz
            obtain rfl := Option.some.inj hf
            rw [← hsz] at hx
            obtain ⟨es, g1, g2, g3, g4⟩ := reads_slice (w := w) (k := (c :: cs').length) (a := a) (len := len) (cap := cap) (by simp) hlc (mk := A.agg) (cts := c :: cs') (fun ys _ => rfl) (fun ys _ h => by simpa only [A.pure] using h) (fun i hi => by
              obtain ⟨cs'', h1, h2⟩ := hx i (by omega)
              exact ⟨cs'', h1, ih hfe h2⟩)
            refine ⟨[.slc es], by simp only [RepL]; exact ⟨_, [], rfl, g1, rfl⟩, ?_, by simp only [A.pure.pureL, g3]; rfl, by simp [Value.oneCell']⟩
            simp only [fitsL, fits]
            exact ⟨_, [], rfl, ⟨es, rfl, by omega, g4⟩, rfl⟩
          · simp at hf
        · rename_i c hag hfe
          split at hf
          · rename_i hsz
            obtain rfl := Option.some.inj hf
            rw [hsz] at hx
            have hnag : ∀ y : A, fits c y → ∀ ys, y ≠ .agg ys := fun y hy ys e => by
              subst e
              cases c <;> simp [fits] at hy
            obtain ⟨es, g1, g2, g3, g4⟩ := reads_slice (w := w) (k := 1) (a := a) (len := len) (cap := cap) (by simp) hlc (mk := fun ys => ys.headD .any) (cts := [c]) (fun ys hys => by
              simp only [fitsL] at hys
              obtain ⟨y, zs, rfl, hy, rfl⟩ := hys
              have := hnag y hy
              cases y <;> first | rfl | exact absurd rfl (this _)) (fun ys hys hp => by
              simp only [fitsL] at hys
              obtain ⟨y, zs, rfl, hy, rfl⟩ := hys
              simpa [A.pure.pureL] using hp) (fun i hi => by
              obtain ⟨cs'', h1, h2⟩ := hx i (by omega)
              exact ⟨cs'', h1, ih hfe h2⟩)
            refine ⟨[.slc es], by simp only [RepL]; exact ⟨_, [], rfl, g1, rfl⟩, ?_, by simp only [A.pure.pureL, g3]; rfl, by simp [Value.oneCell']⟩
            simp only [fitsL, fits]
            refine ⟨_, [], rfl, ⟨es, rfl, by omega, fun e he => ?_⟩, rfl⟩
            obtain ⟨ys, he', hys⟩ := g4 e he
            simp only [fitsL] at hys
            obtain ⟨y, zs, rfl, hy, rfl⟩ := hys
            rw [he']
            exact hy
          · simp at hf
        · simp at hf
    · rename_i fs hu
      cases hg : flatGo (flatTy P d) P.cellsOf fs.toList 0 with
      | none => simp [hg] at hf
      | some ks =>
        simp only [hg, Option.bind_some] at hf
        split at hf
        · rename_i hsz
          obtain rfl := Option.some.inj hf
          obtain ⟨xs, n, _, _, hl, hxl, hx⟩ := DataW.trod_struct hu h
          have := reads_struct (w := w) (cs := cs) hg (fun f hfm k hk => by
            obtain ⟨i, hi⟩ := List.getElem?_of_mem hfm
            have hxi := hx i f (by simpa using hi)
            have hlt : i < xs.length := by
              rw [hxl]
              have := (List.getElem?_eq_some_iff.1 hi).1
              simpa using this
            rw [List.getElem?_eq_getElem hlt] at hxi
            exact ih hk hxi) (by omega)
          simpa using this
        · simp at hf
    · rename_i n e hu
      split at hf
      · rename_i ks hk
        split at hf
        · rename_i hsz
          obtain rfl := Option.some.inj hf
          obtain ⟨xs, m, _, _, hl, hxl, hx⟩ := DataW.trod_array hu h
          refine reads_array (k := P.cellsOf e) hsz.1 (by rw [hl, ← hsz.2, hsz.1]) fun i hi => ?_
          have hxi := hx i hi
          rw [List.getElem?_eq_getElem (by omega)] at hxi
          exact ih hk hxi
        · simp at hf
      · simp at hf
    · simp at hf
end
end Go.Abs
namespace Go.Abs
open Go.RowKit
section
variable {H : Type} {enc : TypeId × Value → H} {P : Program} {w : World} {sp : Nat → Bool} {held : Bool}
theorem okWide_one {r : Reach} {b0 : Nat} {t : TypeId} {v : Value} (ht : tyAgg P t = some false) (hval : Value.okWide P w r b0 t v) : v.cells.toList = [v] := by
  unfold Value.okWide at hval
  unfold tyAgg at ht
  split at hval
  · rename_i fs hu; simp only [hu] at ht; simp at ht
  · rename_i n e hu; simp only [hu] at ht; simp at ht
  · cases v <;> first
      | rfl
      | (exfalso
         unfold Cell.okWide at hval
         split at hval
         all_goals first
           | (rename_i h1 h2; cases h2; done)
           | skip
         unfold Cell.ok at hval
         split at hval <;> simp_all)
theorem open_cell {r : Reach} {b0 d : Nat} {t : TypeId} {v : Value} {x : DataW H} {ps : List MemPlace} {c : CT} (ht : tyAgg P t = some false) (hf : flatTy P d t = some [c]) (hval : Value.okWide P w r b0 t v)
    (h : DataW.Trod enc P w 0 sp held t v x ps) : ∃ y, Rep ⟨fun _ => False, [], w⟩ y v ∧ fits c y ∧ y.pure = true := by
  obtain ⟨fuel, h⟩ := h
  rw [okWide_one ht hval] at h
  obtain ⟨xs, h1, h2, h3, _⟩ := reads_of_trod d hf h
  simp only [fitsL] at h2
  obtain ⟨y, zs, rfl, hy, rfl⟩ := h2
  simp only [RepL] at h1
  obtain ⟨v', vs', hv, hr, rfl⟩ := h1
  simp at hv
  subst hv
  exact ⟨y, hr, hy, by simpa [A.pure.pureL] using h3⟩
theorem open_row {r : Reach} {b0 d : Nat} {t : TypeId} {v : Value} {x : DataW H} {ps : List MemPlace} {cts : List CT} (ht : tyAgg P t = some true) (hf : flatTy P d t = some cts) (hval : Value.okWide P w r b0 t v)
    (h : DataW.Trod enc P w 0 sp held t v x ps) : ∃ ys, Rep ⟨fun _ => False, [], w⟩ (.agg ys) v ∧ fitsL cts ys ∧ (A.agg ys).pure = true := by
  obtain ⟨fuel, h⟩ := h
  have : ∃ cs, v = .agg cs := by
    unfold Value.okWide at hval
    unfold tyAgg at ht
    split at hval
    · obtain ⟨cs, hv, _⟩ := hval; exact ⟨cs, hv⟩
    · obtain ⟨cs, hv, _⟩ := hval; exact ⟨cs, hv⟩
    · exfalso
      split at ht <;> simp_all
  obtain ⟨cs, rfl⟩ := this
  obtain ⟨xs, h1, h2, h3, h4⟩ := reads_of_trod d hf h
  refine ⟨xs, ?_, h2, by simpa only [A.pure] using h3⟩
  simp only [Rep]
  exact ⟨cs.toList, by simp, h1, h4⟩
end
theorem law_calls {P : Program} {f : FuncId} {args : List A} (h : CallA P f args (· = .bool true)) {W : World} {vs : List Value} (hr : RepL ⟨fun _ => False, [], W⟩ args vs) :
    Calls P f vs.toArray W fun e w' => e = .returned (.bool true) ∧ Below W.heap.size W w' := by
  refine Calls.mono (h (fun _ => False) W vs (fun b h => h.elim) hr) ?_
  rintro e w' ⟨v, r, rfl, rfl, hrep, hb⟩
  simp only [Rep] at hrep
  subst hrep
  exact ⟨rfl, hb.toBelow⟩
end Go.Abs
