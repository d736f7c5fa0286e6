/- Soundness, fifteenth part: the operations of a region in any order that the model may take; less known states. -/
import Derived.Test.YtbnmicpgbcfooaaAbsQX
namespace Go.Abs
open Go.RowKit

/-- The operations of a region with their objects' names and their places. -/
def ann (P : Program) : Nat → Nat → List Oper → List (Nat × Nat × Oper)
  | _, _, [] => []
  | n, i, o :: os => (n, i, o) :: ann P (nxt P o.op n) (i + 1) os
def runL (P : Program) (Γ : Tab) (ds : List (Option Tmp)) : List (Nat × Nat × Oper) → St → Option St
  | [], σ => some σ
  | x :: xs, σ => (exec1 P Γ ds x.1 x.2.2 σ).bind (runL P Γ ds xs)

theorem runSeq_runL (P : Program) (Γ : Tab) (ds : List (Option Tmp)) : ∀ (os : List Oper) (n i : Nat) (σ : St), runSeq P Γ ds os n σ = runL P Γ ds (ann P n i os) σ
  | [], _, _, _ => rfl
  | o :: os, n, i, σ => by
    simp only [runSeq, ann, runL]
    congr 1
    funext τ
    exact runSeq_runL P Γ ds os _ (i + 1) τ

theorem nxt_le (P : Program) (op : Op) (n : Nat) : n ≤ nxt P op n := by unfold nxt; split <;> omega
theorem ann_mem (P : Program) : ∀ (os : List Oper) (n i : Nat) (x : Nat × Nat × Oper), x ∈ ann P n i os → n ≤ x.1 ∧ i ≤ x.2.1 ∧ os[x.2.1 - i]? = some x.2.2
  | [], _, _, x, h => by simp [ann] at h
  | o :: os, n, i, x, h => by
    simp only [ann, List.mem_cons] at h
    rcases h with rfl | h
    · simp
    · obtain ⟨h1, h2, h3⟩ := ann_mem P os _ _ x h
      have := nxt_le P o.op n
      refine ⟨by omega, by omega, ?_⟩
      rw [show x.2.1 - i = (x.2.1 - (i + 1)) + 1 by omega]
      simpa using h3
theorem ann_pair (P : Program) : ∀ (os : List Oper) (n i : Nat), (ann P n i os).Pairwise (fun x y => x.2.1 < y.2.1 ∧ (allocs P x.2.2.op = true → x.1 < y.1))
  | [], _, _ => by simp [ann]
  | o :: os, n, i => by
    simp only [ann, List.pairwise_cons]
    refine ⟨fun y hy => ?_, ann_pair P os _ _⟩
    obtain ⟨h1, h2, _⟩ := ann_mem P os _ _ y hy
    refine ⟨by show i < y.2.1; omega, fun ha => ?_⟩
    have ha' : allocs P o.op = true := ha
    simp only [nxt, ha', if_true] at h1
    show n < y.1
    omega
theorem ann_idx (P : Program) : ∀ (os : List Oper) (n i : Nat), (ann P n i os).map (·.2.1) = (List.range os.length).map (i + ·)
  | [], _, _ => by simp [ann]
  | o :: os, n, i => by
    simp only [ann, List.map_cons, List.length_cons, List.range_succ_eq_map, List.map_map]
    rw [ann_idx P os]
    simp
    intro a _
    omega

def simS (σ τ : St) : Prop := (∀ d, look σ.s d = look τ.s d) ∧ σ.H = τ.H
theorem simS.refl (σ : St) : simS σ σ := ⟨fun _ => rfl, rfl⟩
theorem simS.symm {σ τ : St} (h : simS σ τ) : simS τ σ := ⟨fun d => (h.1 d).symm, h.2.symm⟩
theorem simS.trans {σ τ ρ : St} (h : simS σ τ) (h' : simS τ ρ) : simS σ ρ := ⟨fun d => (h.1 d).trans (h'.1 d), h.2.trans h'.2⟩
theorem simS.put {σ τ : St} (h : simS σ τ) (d : Option Tmp) (v : A) : simS (σ.put d v) (τ.put d v) := by
  cases d with
  | none => exact h
  | some d => exact ⟨fun t => by simp only [St.put, look]; split <;> first | rfl | exact h.1 t, h.2⟩
theorem simS.setH {σ τ : St} (h : simS σ τ) (n : Nat) (o : Obj) : simS (σ.setH n o) (τ.setH n o) := ⟨h.1, by simp only [St.setH, h.2]⟩
theorem simS.scrub {σ τ : St} (h : simS σ τ) (n : Nat) : simS (σ.scrub n) (τ.scrub n) :=
  ⟨fun d => by
    show look (σ.s.map fun p => (p.1, scrubA n p.2)) d = look (τ.s.map fun p => (p.1, scrubA n p.2)) d
    rw [look_map, look_map, h.1 d], by simp only [St.scrub, h.2]⟩
theorem simS.ev {σ τ : St} (h : simS σ τ) (x : Operand) : σ.ev x = τ.ev x := by
  cases x <;> simp only [St.ev]
  exact h.1 _

section
variable {P : Program} {Γ : Tab} {σ τ : St}

theorem evL_congr : ∀ {xs : List Operand}, (∀ x ∈ xs, σ.ev x = τ.ev x) → σ.evL xs = τ.evL xs
  | [], _ => rfl
  | x :: xs, h => by simp only [St.evL]; rw [h x (by simp), evL_congr (xs := xs) fun y hy => h y (by simp [hy])]
theorem bd_congr {o : Option Operand} (h : ∀ x, o = some x → σ.ev x = τ.ev x) : σ.bd o = τ.bd o := by
  cases o with
  | none => rfl
  | some x => simp only [St.bd]; rw [h x rfl]
theorem fillS_congr {t : TypeId} : ∀ {ps : List (Nat × Operand)} {zs : List A}, (∀ p ∈ ps, σ.ev p.2 = τ.ev p.2) → fillS P t σ ps zs = fillS P t τ ps zs
  | [], _, _ => rfl
  | (i, x) :: ps, zs, h => by
    simp only [fillS]
    rw [show σ.ev x = τ.ev x from h (i, x) (by simp)]
    split
    · congr 1
      funext zs'
      exact fillS_congr fun p hp => h p (by simp [hp])
    · rfl
theorem fillA_congr {t : TypeId} : ∀ {ps : List (Nat × Operand)} {zs : List A}, (∀ p ∈ ps, σ.ev p.2 = τ.ev p.2) → fillA P t σ ps zs = fillA P t τ ps zs
  | [], _, _ => rfl
  | (i, x) :: ps, zs, h => by
    simp only [fillA]
    rw [show σ.ev x = τ.ev x from h (i, x) (by simp)]
    split
    · congr 1
      funext zs'
      exact fillA_congr fun p hp => h p (by simp [hp])
    · rfl
theorem fillE_congr {k : Nat} : ∀ {ps : List (Nat × Operand)} {zs : List A}, (∀ p ∈ ps, σ.ev p.2 = τ.ev p.2) → fillE k σ ps zs = fillE k τ ps zs
  | [], _, _ => rfl
  | (i, x) :: ps, zs, h => by
    simp only [fillE]
    rw [show σ.ev x = τ.ev x from h (i, x) (by simp)]
    split
    · exact fillE_congr fun p hp => h p (by simp [hp])
    · rfl
theorem evalR_congr {op : Op} (hH : σ.H = τ.H) (h : ∀ x ∈ op.operands, σ.ev x = τ.ev x) : evalR P σ op = evalR P τ op := by
  unfold evalR
  split <;> simp only [Op.operands] at h
  · rw [h _ (by simp)]
  · rw [h _ (by simp)]
  · rw [h _ (by simp), h _ (by simp), h _ (by simp)]
  · rename_i t ps
    have hp : ∀ p ∈ ps.toList, σ.ev p.2 = τ.ev p.2 := fun p hp => h p.2 (by simp only [List.mem_toArray, List.mem_map]; exact ⟨p, hp, rfl⟩)
    unfold buildA
    split
    · split
      · rw [fillA_congr hp]
      · rw [fillS_congr hp]
    · rfl
  · rename_i t len ps
    have hp : ∀ p ∈ ps.toList, σ.ev p.2 = τ.ev p.2 := fun p hp => h p.2 (by simp only [List.mem_toArray, List.mem_map]; exact ⟨p, hp, rfl⟩)
    unfold buildSliceA
    split
    · split
      · rw [fillE_congr hp]
      · rfl
    · rfl
  · rw [hH, h _ (by simp)]
  · rw [h _ (by simp)]
  · rw [h _ (by simp), h _ (by simp)]
  · rw [h _ (by simp)]
  · rw [hH, h _ (by simp)]
  · rename_i fn first captured
    rw [evL_congr (xs := first.toList) fun x hx => h x (by simp at hx; simp [hx]), evL_congr (xs := captured.toList) fun x hx => h x (by simp at hx; simp [hx])]
  · rename_i t x lo hi mx
    rw [h x (by simp), bd_congr (o := lo) fun y hy => h y (by subst hy; simp), bd_congr (o := hi) fun y hy => h y (by subst hy; simp), bd_congr (o := mx) fun y hy => h y (by subst hy; simp)]
  · rw [h _ (by simp)]
  · rw [h _ (by simp)]
  · rw [h _ (by simp), h _ (by simp)]
  · rw [h _ (by simp), h _ (by simp)]
  · rw [h _ (by simp)]
  · rw [h _ (by simp [Call.operands])]
  · rw [evL_congr fun x hx => h x (by simp [Call.operands, hx])]
  · rw [evL_congr fun x hx => h x (by simp [Call.operands, hx])]
  · rfl

/-- Operations that change nothing owned. -/
def plainOp (P : Program) (Γ : Tab) : Op → Bool
  | .alloc _ => false
  | .box _ _ => false
  | .store _ _ _ => false
  | .convert src dst _ => !isS2B P src dst
  | .call ⟨.builtin .append, _, _⟩ => false
  | .call ⟨.builtin .clear, _, _⟩ => false
  | .call ⟨.value f, _, _⟩ => !isEff Γ f
  | _ => true
def callW (Γ : Tab) (H : List Obj) (f : A) (as : List A) : Option A :=
  match f with
  | .fn g caps => (viewL H (as ++ caps)).bind fun bs => (Γ.f g bs).bind fun r => if (A.pure.pureL (as ++ caps) || r.flat) = true then some r else none
  | _ => none
def valX (P : Program) (Γ : Tab) (σ : St) (op : Op) : Option A :=
  match op with
  | .call ⟨.value f, ⟨xs⟩, _⟩ => callW Γ σ.H (σ.ev f) (σ.evL xs)
  | op => evalR P σ op

theorem callV_eq {d : Option Tmp} {f : A} {as : List A} : callV Γ σ d f as = (callW Γ σ.H f as).map (σ.put d) := by
  cases f <;> simp only [callV, callW, callX, Option.map_none]
  rename_i g caps
  cases viewL σ.H (as ++ caps) with
  | none => rfl
  | some bs =>
    simp only [Option.bind_some]
    cases Γ.f g bs with
    | none => rfl
    | some r => simp only [Option.bind_some]; split <;> rfl

theorem execOp_plain {n : Nat} {d : Option Tmp} {op : Op} (h : plainOp P Γ op = true) : execOp P Γ n d op σ = (valX P Γ σ op).map (σ.put d) := by
  unfold execOp
  split
  · simp [plainOp] at h
  · simp [plainOp] at h
  · simp [plainOp] at h
  · rename_i src dst x
    simp only [plainOp, Bool.not_eq_true'] at h
    simp only [convX, h, Bool.false_eq_true, if_false, valX, evalR]
  · simp [plainOp] at h
  · simp [plainOp] at h
  · rename_i f xs us
    have hf : isEff Γ f = false := by simpa [plainOp] using h
    rw [if_neg (by simp [hf])]
    exact callV_eq
  · rename_i h1 h2 h3 h4 h5 h5' h6
    unfold valX
    split
    · rename_i f xs us
      exact absurd rfl (h6 f xs us)
    · rfl

theorem valX_congr {op : Op} (hH : σ.H = τ.H) (h : ∀ x ∈ op.operands, σ.ev x = τ.ev x) : valX P Γ σ op = valX P Γ τ op := by
  unfold valX
  split
  · simp only [Op.operands] at h
    rw [hH, h _ (by simp [Call.operands]), evL_congr fun x hx => h x (by simp [Call.operands, hx])]
  · exact evalR_congr hH h

theorem wantA_congr {ops : Array Oper} {o : Oper} (h : ∀ t ∈ o.looksAt ops, look σ.s t = look τ.s t) : wantA (dstsOf ops.toList) σ o.guard = wantA (dstsOf ops.toList) τ o.guard := by
  unfold wantA
  split
  · rfl
  · rename_i j want hg
    rw [nthD_eq]
    have hops : ops.toList[j]? = ops[j]? := by simp
    rw [hops]
    cases hj : (ops[j]?).bind (·.dst) with
    | none => rfl
    | some t =>
      simp only
      rw [h t (by simp [Oper.looksAt, hg, hj])]

theorem ev_looks {ops : Array Oper} {o : Oper} (h : ∀ t ∈ o.looksAt ops, look σ.s t = look τ.s t) : ∀ x ∈ o.op.operands, σ.ev x = τ.ev x := fun x hx => by
  cases x <;> simp only [St.ev]
  rename_i t
  exact h t (List.mem_append_left _ (List.mem_filterMap.2 ⟨.tmp t, by simpa using hx, rfl⟩))

def val1 (P : Program) (Γ : Tab) (ds : List (Option Tmp)) (o : Oper) (σ : St) : Option A :=
  match wantA ds σ o.guard with
  | none => none
  | some true => valX P Γ σ o.op
  | some false => some (.tup [])
theorem exec1_plainR {ds : List (Option Tmp)} {n : Nat} {o : Oper} (h : plainOp P Γ o.op = true) : exec1 P Γ ds n o σ = (val1 P Γ ds o σ).map (σ.put o.dst) := by
  unfold exec1 val1
  cases wantA ds σ o.guard with
  | none => rfl
  | some b =>
    cases b with
    | true => simp only [if_true]; exact execOp_plain h
    | false => rfl
theorem val1_congr {ops : Array Oper} {o : Oper} (hH : σ.H = τ.H) (h : ∀ t ∈ o.looksAt ops, look σ.s t = look τ.s t) : val1 P Γ (dstsOf ops.toList) o σ = val1 P Γ (dstsOf ops.toList) o τ := by
  unfold val1
  rw [wantA_congr h, valX_congr hH (ev_looks h)]

theorem put_H (d : Option Tmp) (v : A) : (σ.put d v).H = σ.H := by cases d <;> rfl
theorem look_put {d : Option Tmp} {v : A} {t : Tmp} (h : ∀ e, d = some e → e ≠ t) : look (σ.put d v).s t = look σ.s t := by
  cases d with
  | none => rfl
  | some e => simp only [St.put, look]; rw [if_neg (h e rfl)]
theorem put_comm {x y : Option Tmp} {v u : A} (h : ∀ d, x = some d → y ≠ some d) : simS ((σ.put x v).put y u) ((σ.put y u).put x v) := by
  cases x with
  | none => exact simS.refl _
  | some d =>
    cases y with
    | none => exact simS.refl _
    | some e =>
      have hne : d ≠ e := fun he => h d rfl (he ▸ rfl)
      refine ⟨fun t => ?_, rfl⟩
      simp only [St.put, look]
      by_cases h1 : e = t
      · subst h1; simp [hne]
      · simp [h1]

/-- Two neighbours change places. -/
theorem swap1 {ops : Array Oper} {n m : Nat} {y x : Oper} (hy : plainOp P Γ y.op = true) (hx : plainOp P Γ x.op = true) (hap : y.apart ops x = true) {σ1 σ2 : St}
    (h1 : exec1 P Γ (dstsOf ops.toList) n y σ = some σ1) (h2 : exec1 P Γ (dstsOf ops.toList) m x σ1 = some σ2) :
    ∃ σ1' σ2', exec1 P Γ (dstsOf ops.toList) m x σ = some σ1' ∧ exec1 P Γ (dstsOf ops.toList) n y σ1' = some σ2' ∧ simS σ2 σ2' := by
  obtain ⟨a1, a2, a3⟩ := Oper.apart_spec hap
  rw [exec1_plainR hy] at h1
  rw [exec1_plainR hx] at h2
  cases hv : val1 P Γ (dstsOf ops.toList) y σ with
  | none => simp [hv] at h1
  | some v =>
    simp [hv] at h1
    subst h1
    cases hu : val1 P Γ (dstsOf ops.toList) x (σ.put y.dst v) with
    | none => simp [hu] at h2
    | some u =>
      simp [hu] at h2
      subst h2
      have hu' : val1 P Γ (dstsOf ops.toList) x σ = some u := by
        rw [← hu]
        exact val1_congr (put_H _ _).symm fun t ht => (look_put fun e he e' => a1 e he (e' ▸ ht)).symm
      have hv' : val1 P Γ (dstsOf ops.toList) y (σ.put x.dst u) = some v := by
        rw [← hv]
        exact val1_congr (put_H _ _) fun t ht => look_put fun e he e' => a3 e he (e' ▸ ht)
      refine ⟨σ.put x.dst u, (σ.put x.dst u).put y.dst v, by rw [exec1_plainR hx, hu']; rfl, by rw [exec1_plainR hy, hv']; rfl, ?_⟩
      exact put_comm a2

theorem scrubs_sim {ρ : List Nat} {m : Nat} : ∀ {S : List Nat} {σ τ : St}, simS σ τ → simS (scrubs ρ m σ S) (scrubs ρ m τ S)
  | [], _, _, h => h
  | i :: is, _, _, h => by simp only [scrubs]; exact scrubs_sim (h.scrub _)
theorem callHV_sim (hs : simS σ τ) {d : Option Tmp} {f : A} {as : List A} {σ' : St} (h : callHV Γ σ d f as = some σ') : ∃ τ', callHV Γ τ d f as = some τ' ∧ simS σ' τ' := by
  cases f <;> simp only [callHV] at h ⊢ <;> try (simp at h; done)
  unfold callH callH1 at h ⊢
  rw [← hs.2]
  generalize reach σ.H 64 _ [] = ρ at h ⊢
  obtain ⟨as', h1, h⟩ := Option.bind_eq_some_iff.1 h
  obtain ⟨H₀, h2, h⟩ := Option.bind_eq_some_iff.1 h
  simp only [h1, h2, Option.bind_some]
  split at h
  · rename_i hfz
    rw [if_pos hfz]
    split at h
    · rename_i hfx
      rw [if_pos hfx]
      obtain ⟨bs, h3, h⟩ := Option.bind_eq_some_iff.1 h
      obtain ⟨r, h4, rfl⟩ := Option.map_eq_some_iff.1 h
      simp only [h3, Option.bind_some, h4, Option.map_some, Option.some.injEq]
      refine ⟨_, rfl, ?_⟩
      unfold callF2
      refine simS.put ⟨fun t => ?_, by simp only [hs.2]⟩ d r
      show look (σ.s.map fun p => (p.1, frzA ρ H₀ p.2)) t = look (τ.s.map fun p => (p.1, frzA ρ H₀ p.2)) t
      rw [look_frz, look_frz, hs.1 t]
    · simp at h
  · rename_i hfz
    rw [if_neg hfz]
    obtain ⟨⟨r, H', S⟩, h3, h⟩ := Option.bind_eq_some_iff.1 h
    simp only [h3, Option.bind_some]
    split at h
    · rename_i hm
      rw [if_pos hm]
      obtain rfl := Option.some.inj h
      refine ⟨_, rfl, ?_⟩
      unfold callH2
      have e := scrubs_sim (ρ := ρ) (m := σ.H.length) (S := S) hs
      show simS (St.put ⟨(scrubs ρ σ.H.length σ S).s, backH ρ σ.H.length ρ H' (scrubs ρ σ.H.length σ S).H⟩ d (r.back ρ σ.H.length))
        (St.put ⟨(scrubs ρ τ.H.length τ S).s, backH ρ τ.H.length ρ H' (scrubs ρ τ.H.length τ S).H⟩ d (r.back ρ τ.H.length))
      rw [show r.back ρ τ.H.length = r.back ρ σ.H.length by rw [hs.2]]
      refine simS.put ⟨fun t => ?_, ?_⟩ d _
      · show look (scrubs ρ σ.H.length σ S).s t = look (scrubs ρ τ.H.length τ S).s t
        rw [← hs.2]; exact e.1 t
      · show backH ρ σ.H.length ρ H' (scrubs ρ σ.H.length σ S).H = backH ρ τ.H.length ρ H' (scrubs ρ τ.H.length τ S).H
        rw [← hs.2, e.2]
    · simp at h

/-- Operations that lay a new variable. -/
def allocOp : Op → Bool
  | .alloc _ => true
  | .box _ _ => true
  | _ => false
/-- What such an operation lays, and hands back. -/
def alloc1 (P : Program) (ds : List (Option Tmp)) (n : Nat) (o : Oper) (σ : St) : Option (Option Obj × A) :=
  match wantA ds σ o.guard with
  | none => none
  | some false => some (none, .tup [])
  | some true =>
    match o.op with
    | .alloc t => (zeroA P t).bind fun z => if z.val = true then some (some (.box z.cells), .ref n 0) else none
    | .box _ x => if (σ.ev x).val = true then some (some (.box (σ.ev x).cells), .ref n 0) else none
    | _ => none
def layO (σ : St) (n : Nat) : Option Obj → St
  | some o => σ.setH n o
  | none => σ
theorem exec1_allocR {ds : List (Option Tmp)} {n : Nat} {o : Oper} (h : allocOp o.op = true) : exec1 P Γ ds n o σ = (alloc1 P ds n o σ).map fun x => (layO σ n x.1).put o.dst x.2 := by
  unfold exec1 alloc1
  cases wantA ds σ o.guard with
  | none => rfl
  | some b =>
    cases b with
    | false => rfl
    | true =>
      simp only [if_true]
      cases ho : o.op <;> rw [ho] at h <;> simp [allocOp] at h
      · simp only [execOp]
        cases zeroA P _ with
        | none => rfl
        | some z => simp only [allocA, boxA, Option.bind_some]; split <;> rfl
      · simp only [execOp, boxA]; split <;> rfl
theorem alloc1_congr {ops : Array Oper} {n : Nat} {o : Oper} (h : ∀ t ∈ o.looksAt ops, look σ.s t = look τ.s t) : alloc1 P (dstsOf ops.toList) n o σ = alloc1 P (dstsOf ops.toList) n o τ := by
  unfold alloc1
  rw [wantA_congr h]
  cases wantA (dstsOf ops.toList) τ o.guard with
  | none => rfl
  | some b =>
    cases b with
    | false => rfl
    | true =>
      simp only
      cases ho : o.op <;> try rfl
      rename_i t x
      have := ev_looks h x (by rw [ho]; simp [Op.operands])
      simp only [this]

/-- An object more: what was found is found. -/
def More (H H' : List Obj) (n : Nat) : Prop := nthO H n = some (.row 0 []) ∧ ∀ m, m ≠ n → nthO H' m = nthO H m
theorem More.lay {H : List Obj} {n : Nat} (h : nthO H n = some (.row 0 [])) (o : Obj) : More H (setO H n o) n :=
  ⟨h, fun m hm => by rw [setO_eq, nthO_eq, nthO_eq, List.getElem?_set_ne (Ne.symm hm)]⟩
section
variable {H H' : List Obj} {n : Nat}
theorem viewRow_more (h : More H H' n) {m off k len : Nat} {y : A} (hv : viewRow H m off k len = some y) : viewRow H' m off k len = some y := by
  by_cases hm : m = n
  · subst hm
    unfold viewRow at hv
    rw [h.1] at hv
    simp only at hv
    split at hv
    · rename_i hc; omega
    · cases hv
  · unfold viewRow at hv ⊢
    rw [h.2 m hm]; exact hv
theorem view0_more (h : More H H' n) {x y : A} (hv : view0 H x = some y) : view0 H' x = some y := by
  cases x <;> simp only [view0] at hv ⊢ <;> first | exact hv | exact viewRow_more h hv
theorem view0L_more (h : More H H' n) : ∀ {xs ys : List A}, view0L H xs = some ys → view0L H' xs = some ys
  | [], _, hv => by simpa only [view0L] using hv
  | x :: xs, ys, hv => by
    simp only [view0L] at hv ⊢
    obtain ⟨y, h1, hv⟩ := Option.bind_eq_some_iff.1 hv
    obtain ⟨zs, h2, rfl⟩ := Option.map_eq_some_iff.1 hv
    rw [view0_more h h1, view0L_more h h2]; rfl
theorem view1_more (h : More H H' n) {x y : A} (hv : view1 H x = some y) : view1 H' x = some y := by
  cases x <;> simp only [view1] at hv ⊢ <;> try exact view0_more h hv
  · obtain ⟨zs, h2, rfl⟩ := Option.map_eq_some_iff.1 hv
    rw [view0L_more h h2]; rfl
  · rename_i m off
    by_cases hm : m = n
    · subst hm; rw [h.1] at hv; cases hv
    · rw [h.2 m hm]
      split at hv
      · obtain ⟨zs, h2, rfl⟩ := Option.map_eq_some_iff.1 hv
        simp only [view0L_more h h2]; rfl
      · cases hv
  · rename_i m i off
    by_cases hm : m = n
    · subst hm; rw [h.1] at hv; simp at hv
    · rw [h.2 m hm]; exact hv
theorem view1L_more (h : More H H' n) : ∀ {xs ys : List A}, view1L H xs = some ys → view1L H' xs = some ys
  | [], _, hv => by simpa only [view1L] using hv
  | x :: xs, ys, hv => by
    simp only [view1L] at hv ⊢
    obtain ⟨y, h1, hv⟩ := Option.bind_eq_some_iff.1 hv
    obtain ⟨zs, h2, rfl⟩ := Option.map_eq_some_iff.1 hv
    rw [view1_more h h1, view1L_more h h2]; rfl
theorem view_more (h : More H H' n) {x y : A} (hv : view H x = some y) : view H' x = some y := by
  cases x <;> simp only [view] at hv ⊢ <;> try exact view1_more h hv
  obtain ⟨zs, h2, rfl⟩ := Option.map_eq_some_iff.1 hv
  rw [view1L_more h h2]; rfl
theorem viewL_more (h : More H H' n) : ∀ {xs ys : List A}, viewL H xs = some ys → viewL H' xs = some ys
  | [], _, hv => by simpa only [viewL] using hv
  | x :: xs, ys, hv => by
    simp only [viewL] at hv ⊢
    obtain ⟨y, h1, hv⟩ := Option.bind_eq_some_iff.1 hv
    obtain ⟨zs, h2, rfl⟩ := Option.map_eq_some_iff.1 hv
    rw [view_more h h1, viewL_more h h2]; rfl
theorem loadA_more (h : More H H' n) {t : TypeId} {x y : A} (hv : loadA P t H x = some y) : loadA P t H' x = some y := by
  unfold loadA at hv ⊢
  split at hv
  · exact hv
  · rename_i m off
    by_cases hm : m = n
    · subst hm; rw [h.1] at hv; simp at hv
    · simp only [h.2 m hm]; exact hv
  · rename_i m i off
    by_cases hm : m = n
    · subst hm; rw [h.1] at hv; simp at hv
    · simp only [h.2 m hm]; exact hv
  · cases hv
theorem convB_more (h : More H H' n) {b : Bool} {x y : A} (hv : convB b (view H x) = some y) : convB b (view H' x) = some y := by
  cases hx : view H x with
  | none => rw [hx] at hv; cases b <;> simp [convB] at hv
  | some z => rw [hx] at hv; rw [view_more h hx]; exact hv
theorem convA_more (h : More H H' n) {s d : TypeId} {x y : A} (hv : convA P s d H x = some y) : convA P s d H' x = some y := by
  cases x <;> simp only [convA] at hv ⊢ <;> first | exact hv | exact convB_more h hv
theorem valX_more (h : More H H' n) {s : List (Nat × A)} {op : Op} {y : A} (hv : valX P Γ ⟨s, H⟩ op = some y) : valX P Γ ⟨s, H'⟩ op = some y := by
  have hev : ∀ x : Operand, (St.mk s H').ev x = (St.mk s H).ev x := fun x => by cases x <;> rfl
  have hevL : ∀ xs : List Operand, (St.mk s H').evL xs = (St.mk s H).evL xs := fun xs => evL_congr fun x _ => hev x
  have hbd : ∀ x : Option Operand, (St.mk s H').bd x = (St.mk s H).bd x := fun x => bd_congr fun y _ => hev y
  have hfS : ∀ (t : TypeId) (ps : List (Nat × Operand)) (zs : List A), fillS P t ⟨s, H'⟩ ps zs = fillS P t ⟨s, H⟩ ps zs := fun t ps zs => fillS_congr fun p _ => hev p.2
  have hfA : ∀ (t : TypeId) (ps : List (Nat × Operand)) (zs : List A), fillA P t ⟨s, H'⟩ ps zs = fillA P t ⟨s, H⟩ ps zs := fun t ps zs => fillA_congr fun p _ => hev p.2
  have hfE : ∀ (k : Nat) (ps : List (Nat × Operand)) (zs : List A), fillE k ⟨s, H'⟩ ps zs = fillE k ⟨s, H⟩ ps zs := fun k ps zs => fillE_congr fun p _ => hev p.2
  unfold valX at hv ⊢
  split at hv
  · simp only [hev, hevL]
    unfold callW at hv ⊢
    split at hv
    · rename_i g caps hf
      obtain ⟨bs, h1, hv⟩ := Option.bind_eq_some_iff.1 hv
      simp only [viewL_more h h1, Option.bind_some]
      exact hv
    · cases hv
  · unfold evalR at hv ⊢
    split at hv <;> (try simp only [hev, hevL, hbd, buildA, buildSliceA, hfS, hfA, hfE] at hv ⊢) <;> first
      | exact hv
      | exact loadA_more h hv
      | exact convA_more h hv
end
theorem val1_more {n : Nat} {H' : List Obj} (h : More σ.H H' n) {ops : Array Oper} {o : Oper} {y : A} (hv : val1 P Γ (dstsOf ops.toList) o σ = some y) : val1 P Γ (dstsOf ops.toList) o ⟨σ.s, H'⟩ = some y := by
  unfold val1 at hv ⊢
  rw [wantA_congr (σ := ⟨σ.s, H'⟩) (τ := σ) (ops := ops) (o := o) fun t _ => rfl]
  cases hw : wantA (dstsOf ops.toList) σ o.guard with
  | none => rw [hw] at hv; cases hv
  | some b =>
    rw [hw] at hv
    cases b with
    | false => exact hv
    | true => exact valX_more (P := P) (Γ := Γ) h (s := σ.s) hv

theorem layO_s (n : Nat) (o : Option Obj) : (layO σ n o).s = σ.s := by cases o <;> rfl
theorem layO_put (n : Nat) (o : Option Obj) (d : Option Tmp) (v : A) : layO (σ.put d v) n o = (layO σ n o).put d v := by cases o <;> cases d <;> rfl
/-- A new variable is laid ahead of what doesn't know it. -/
theorem swapA {ops : Array Oper} {n m : Nat} {y x : Oper} (hy : plainOp P Γ y.op = true) (hx : allocOp x.op = true) (hap : y.apart ops x = true) (hn : nthO σ.H m = some (.row 0 [])) {σ1 σ2 : St}
    (h1 : exec1 P Γ (dstsOf ops.toList) n y σ = some σ1) (h2 : exec1 P Γ (dstsOf ops.toList) m x σ1 = some σ2) :
    ∃ σ1' σ2', exec1 P Γ (dstsOf ops.toList) m x σ = some σ1' ∧ exec1 P Γ (dstsOf ops.toList) n y σ1' = some σ2' ∧ simS σ2 σ2' := by
  obtain ⟨a1, a2, a3⟩ := Oper.apart_spec hap
  rw [exec1_plainR hy] at h1
  rw [exec1_allocR hx] at h2
  obtain ⟨v, hv, rfl⟩ := Option.map_eq_some_iff.1 h1
  obtain ⟨⟨o, u⟩, hu, rfl⟩ := Option.map_eq_some_iff.1 h2
  have hu' : alloc1 P (dstsOf ops.toList) m x σ = some (o, u) := by
    rw [← hu]
    exact alloc1_congr fun t ht => (look_put fun e he e' => a1 e he (e' ▸ ht)).symm
  have hv1 : val1 P Γ (dstsOf ops.toList) y (layO σ m o) = some v := by
    cases o with
    | none => exact hv
    | some o => exact val1_more (P := P) (Γ := Γ) (n := m) (More.lay hn o) hv
  have hv' : val1 P Γ (dstsOf ops.toList) y ((layO σ m o).put x.dst u) = some v := by
    rw [← hv1]
    exact val1_congr (put_H _ _) fun t ht => look_put fun e he e' => a3 e he (e' ▸ ht)
  refine ⟨(layO σ m o).put x.dst u, ((layO σ m o).put x.dst u).put y.dst v, by rw [exec1_allocR hx, hu']; rfl, by rw [exec1_plainR hy, hv']; rfl, ?_⟩
  simp only [layO_put]
  exact put_comm a2
theorem swapAA {ops : Array Oper} {n m : Nat} {y x : Oper} (hy : allocOp y.op = true) (hx : allocOp x.op = true) (hap : y.apart ops x = true) (hne : n ≠ m) {σ1 σ2 : St}
    (h1 : exec1 P Γ (dstsOf ops.toList) n y σ = some σ1) (h2 : exec1 P Γ (dstsOf ops.toList) m x σ1 = some σ2) :
    ∃ σ1' σ2', exec1 P Γ (dstsOf ops.toList) m x σ = some σ1' ∧ exec1 P Γ (dstsOf ops.toList) n y σ1' = some σ2' ∧ simS σ2 σ2' := by
  obtain ⟨a1, a2, a3⟩ := Oper.apart_spec hap
  rw [exec1_allocR hy] at h1
  rw [exec1_allocR hx] at h2
  obtain ⟨⟨p, v⟩, hv, rfl⟩ := Option.map_eq_some_iff.1 h1
  obtain ⟨⟨o, u⟩, hu, rfl⟩ := Option.map_eq_some_iff.1 h2
  have hu' : alloc1 P (dstsOf ops.toList) m x σ = some (o, u) := by
    rw [← hu]
    refine alloc1_congr fun t ht => ?_
    rw [look_put fun e he e' => a1 e he (e' ▸ ht), layO_s]
  have hv' : alloc1 P (dstsOf ops.toList) n y ((layO σ m o).put x.dst u) = some (p, v) := by
    rw [← hv]
    refine alloc1_congr fun t ht => ?_
    rw [look_put fun e he e' => a3 e he (e' ▸ ht), layO_s]
  refine ⟨(layO σ m o).put x.dst u, (layO ((layO σ m o).put x.dst u) n p).put y.dst v, by rw [exec1_allocR hx, hu']; rfl, by rw [exec1_allocR hy, hv']; rfl, ?_⟩
  simp only [layO_put]
  have hc : layO (layO σ m o) n p = layO (layO σ n p) m o := by
    cases o <;> cases p <;> try rfl
    simp only [layO, St.setH, setO_eq]
    rw [List.set_comm _ _ (Ne.symm hne)]
  rw [hc]
  exact put_comm a2
theorem exec1_allocH {ds : List (Option Tmp)} {n m : Nat} {o : Oper} (h : allocOp o.op = true) (hne : n ≠ m) {σ' : St} (hr : exec1 P Γ ds n o σ = some σ') : nthO σ'.H m = nthO σ.H m := by
  rw [exec1_allocR h] at hr
  obtain ⟨⟨p, v⟩, _, rfl⟩ := Option.map_eq_some_iff.1 hr
  rw [put_H]
  cases p with
  | none => rfl
  | some p => simp only [layO, St.setH, setO_eq, nthO_eq]; rw [List.getElem?_set_ne hne]

/-- Operations that do not look at objects. -/
def hless : Op → Bool
  | .alloc _ => false
  | .box _ _ => false
  | .store _ _ _ => false
  | .convert _ _ _ => false
  | .load _ _ => false
  | .call ⟨.builtin .append, _, _⟩ => false
  | .call ⟨.builtin .clear, _, _⟩ => false
  | .call ⟨.value _, _, _⟩ => false
  | _ => true
theorem hless_plain {op : Op} (h : hless op = true) : plainOp P Γ op = true := by
  unfold hless at h
  unfold plainOp
  split at h <;> simp_all
theorem valX_hless {op : Op} (hl : hless op = true) (h : ∀ x ∈ op.operands, σ.ev x = τ.ev x) : valX P Γ σ op = valX P Γ τ op := by
  have h1 : valX P Γ ⟨σ.s, τ.H⟩ op = valX P Γ τ op := valX_congr rfl fun x hx => by rw [← h x hx]; cases x <;> rfl
  rw [← h1]
  unfold valX
  split
  · simp [hless] at hl
  · unfold evalR
    have hev : ∀ x : Operand, (St.mk σ.s τ.H).ev x = σ.ev x := fun x => by cases x <;> rfl
    have hevL : ∀ xs : List Operand, (St.mk σ.s τ.H).evL xs = σ.evL xs := fun xs => evL_congr fun x _ => hev x
    have hbd : ∀ x : Option Operand, (St.mk σ.s τ.H).bd x = σ.bd x := fun x => bd_congr fun y _ => hev y
    have hfS : ∀ (t : TypeId) (ps : List (Nat × Operand)) (zs : List A), fillS P t ⟨σ.s, τ.H⟩ ps zs = fillS P t σ ps zs := fun t ps zs => fillS_congr fun p _ => hev p.2
    have hfA : ∀ (t : TypeId) (ps : List (Nat × Operand)) (zs : List A), fillA P t ⟨σ.s, τ.H⟩ ps zs = fillA P t σ ps zs := fun t ps zs => fillA_congr fun p _ => hev p.2
    have hfE : ∀ (k : Nat) (ps : List (Nat × Operand)) (zs : List A), fillE k ⟨σ.s, τ.H⟩ ps zs = fillE k σ ps zs := fun k ps zs => fillE_congr fun p _ => hev p.2
    split <;> first
      | rfl
      | (simp [hless] at hl; done)
      | simp only [hev, hevL, hbd, buildA, buildSliceA, hfS, hfA, hfE]
theorem val1_hless {ops : Array Oper} {o : Oper} (hl : hless o.op = true) (h : ∀ t ∈ o.looksAt ops, look σ.s t = look τ.s t) : val1 P Γ (dstsOf ops.toList) o σ = val1 P Γ (dstsOf ops.toList) o τ := by
  unfold val1
  rw [wantA_congr h, valX_hless hl (ev_looks h)]
def storeOp : Op → Bool
  | .store _ _ _ => true
  | _ => false
/-- What a store turns. -/
def store0 (H : List Obj) (size : Option Nat) (a v : A) : Option (Nat × Obj) :=
  match a with
  | .ref n off =>
    match nthO H n with
    | some (.box cs) => if size = some v.cells.length ∧ off + v.cells.length ≤ cs.length ∧ v.val = true then some (n, .box (spliceA cs off v.cells)) else none
    | _ => none
  | .eref n i off =>
    match nthO H n with
    | some (.row k es) => (es[i]?).bind fun e => if size = some v.cells.length ∧ off + v.cells.length ≤ e.cells.length ∧ v.cells.length ≠ 0 ∧ v.val = true ∧ v.pure = true then some (n, .row k (setNth es i (storeE e off v))) else none
    | _ => none
  | _ => none
theorem storeA_eq {d : Option Tmp} {size : Option Nat} {a v : A} : storeA σ d size a v = (store0 σ.H size a v).map fun x => (σ.setH x.1 x.2).put d (.tup []) := by
  cases a <;> simp only [storeA, store0, Option.map_none]
  · rename_i n off
    cases nthO σ.H n with
    | none => rfl
    | some o => cases o <;> simp only [Option.map_none] <;> split <;> rfl
  · rename_i n i off
    cases nthO σ.H n with
    | none => rfl
    | some o =>
      cases o <;> simp only [Option.map_none]
      rename_i k es
      cases es[i]? with
      | none => rfl
      | some e => simp only [Option.bind_some]; split <;> rfl
def store1 (P : Program) (ds : List (Option Tmp)) (o : Oper) (σ : St) : Option (Option (Nat × Obj)) :=
  match wantA ds σ o.guard with
  | none => none
  | some false => some none
  | some true =>
    match o.op with
    | .store t a x => (store0 σ.H (tySize P t) (σ.ev a) (σ.ev x)).map some
    | _ => none
def setO1 (σ : St) : Option (Nat × Obj) → St
  | some x => σ.setH x.1 x.2
  | none => σ
theorem exec1_storeR {ds : List (Option Tmp)} {n : Nat} {o : Oper} (h : storeOp o.op = true) : exec1 P Γ ds n o σ = (store1 P ds o σ).map fun x => (setO1 σ x).put o.dst (.tup []) := by
  unfold exec1 store1
  cases wantA ds σ o.guard with
  | none => rfl
  | some b =>
    cases b with
    | false => rfl
    | true =>
      simp only [if_true]
      cases ho : o.op <;> rw [ho] at h <;> simp [storeOp] at h
      simp only [execOp, storeA_eq]
      cases store0 σ.H _ _ _ <;> rfl
theorem store1_congr {ops : Array Oper} {o : Oper} (hH : σ.H = τ.H) (h : ∀ t ∈ o.looksAt ops, look σ.s t = look τ.s t) : store1 P (dstsOf ops.toList) o σ = store1 P (dstsOf ops.toList) o τ := by
  unfold store1
  rw [wantA_congr h]
  cases wantA (dstsOf ops.toList) τ o.guard with
  | none => rfl
  | some b =>
    cases b with
    | false => rfl
    | true =>
      simp only
      cases ho : o.op <;> try rfl
      rename_i t x y
      have h1 := ev_looks h x (by rw [ho]; simp [Op.operands])
      have h2 := ev_looks h y (by rw [ho]; simp [Op.operands])
      simp only [h1, h2, hH]
theorem setO1_s (o : Option (Nat × Obj)) : (setO1 σ o).s = σ.s := by cases o <;> rfl
theorem setO1_put (o : Option (Nat × Obj)) (d : Option Tmp) (v : A) : setO1 (σ.put d v) o = (setO1 σ o).put d v := by cases o <;> cases d <;> rfl
theorem swapS {ops : Array Oper} {n m : Nat} {y x : Oper} (hy : hless y.op = true) (hx : storeOp x.op = true) (hap : y.apart ops x = true) {σ1 σ2 : St}
    (h1 : exec1 P Γ (dstsOf ops.toList) n y σ = some σ1) (h2 : exec1 P Γ (dstsOf ops.toList) m x σ1 = some σ2) :
    ∃ σ1' σ2', exec1 P Γ (dstsOf ops.toList) m x σ = some σ1' ∧ exec1 P Γ (dstsOf ops.toList) n y σ1' = some σ2' ∧ simS σ2 σ2' := by
  obtain ⟨a1, a2, a3⟩ := Oper.apart_spec hap
  rw [exec1_plainR (hless_plain hy)] at h1
  rw [exec1_storeR hx] at h2
  obtain ⟨v, hv, rfl⟩ := Option.map_eq_some_iff.1 h1
  obtain ⟨o, hu, rfl⟩ := Option.map_eq_some_iff.1 h2
  have hu' : store1 P (dstsOf ops.toList) x σ = some o := by
    rw [← hu]
    exact store1_congr (put_H _ _).symm fun t ht => (look_put fun e he e' => a1 e he (e' ▸ ht)).symm
  have hv' : val1 P Γ (dstsOf ops.toList) y ((setO1 σ o).put x.dst (.tup [])) = some v := by
    rw [← hv]
    refine val1_hless hy fun t ht => ?_
    rw [look_put fun e he e' => a3 e he (e' ▸ ht), setO1_s]
  refine ⟨(setO1 σ o).put x.dst (.tup []), ((setO1 σ o).put x.dst (.tup [])).put y.dst v, by rw [exec1_storeR hx, hu']; rfl, by rw [exec1_plainR (hless_plain hy), hv']; rfl, ?_⟩
  simp only [setO1_put]
  exact put_comm a2

/-- States that look alike go on alike. -/
theorem execOp_sim {n : Nat} {d : Option Tmp} {op : Op} (hs : simS σ τ) {σ' : St} (h : execOp P Γ n d op σ = some σ') : ∃ τ', execOp P Γ n d op τ = some τ' ∧ simS σ' τ' := by
  by_cases hp : plainOp P Γ op = true
  · rw [execOp_plain hp] at h ⊢
    rw [← valX_congr hs.2 (fun x _ => hs.ev x)]
    cases hv : valX P Γ σ op with
    | none => simp [hv] at h
    | some v =>
      simp [hv] at h
      subst h
      exact ⟨_, rfl, hs.put d v⟩
  · have hbox : ∀ x : A, boxA σ n d x = some σ' → ∃ τ', boxA τ n d x = some τ' ∧ simS σ' τ' := fun x h => by
      unfold boxA at h ⊢
      split at h
      · rename_i hv
        obtain rfl := Option.some.inj h
        rw [if_pos hv]
        exact ⟨_, rfl, (hs.setH n _).put d _⟩
      · simp at h
    unfold execOp at h ⊢
    split at h
    · cases hz : zeroA P _ with
      | none => rw [hz] at h; simp [allocA] at h
      | some z => rw [hz] at h; simp only [allocA] at h ⊢; exact hbox z h
    · simp only [← hs.ev]; exact hbox _ h
    · simp only [← hs.ev]
      unfold storeA at h ⊢
      split at h
      · simp only [← hs.2]
        split at h
        · split at h
          · rename_i hc
            obtain rfl := Option.some.inj h
            rw [if_pos hc]
            exact ⟨_, rfl, (hs.setH _ _).put d _⟩
          · simp at h
        · simp at h
      · simp only [← hs.2]
        split at h
        · rename_i k es ho
          obtain ⟨e, he, h⟩ := Option.bind_eq_some_iff.1 h
          simp only [he, Option.bind_some]
          split at h
          · rename_i hc
            obtain rfl := Option.some.inj h
            rw [if_pos hc]
            exact ⟨_, rfl, (hs.setH _ _).put d _⟩
          · simp at h
        · simp at h
      · simp at h
    · simp only [← hs.ev]
      unfold convX at h ⊢
      split at h
      · rename_i hb
        rw [if_pos hb]
        split at h
        · obtain rfl := Option.some.inj h
          exact ⟨_, rfl, (hs.setH _ _).put d _⟩
        · simp at h
      · rename_i hb
        rw [if_neg hb, ← hs.2]
        cases hv : convA P _ _ σ.H (σ.ev _) with
        | none => simp [hv] at h
        | some v =>
          simp [hv] at h
          subst h
          exact ⟨_, rfl, hs.put d v⟩
    · simp only [← hs.ev]
      unfold appendX at h ⊢
      split at h
      · split at h
        · split at h
          · simp at h
          · rename_i hc
            rw [if_neg hc]
            have hsrc : ∀ e tx k x, srcE P σ e tx k x = srcE P τ e tx k x := fun e tx k x => by unfold srcE; rw [hs.2]
            rw [← hsrc]
            cases hv : srcE P σ _ _ _ (σ.ev _) with
            | none => simp [hv] at h
            | some src =>
              simp only [hv, Option.bind_some] at h ⊢
              unfold appendA at h ⊢
              split at h
              · split at h
                · rename_i hq
                  obtain rfl := Option.some.inj h
                  rw [if_pos hq]
                  exact ⟨_, rfl, (hs.setH _ _).put d _⟩
                · simp at h
              · split at h
                · rename_i hq
                  obtain rfl := Option.some.inj h
                  rw [if_pos hq]
                  exact ⟨_, rfl, (hs.setH _ _).put d _⟩
                · simp at h
              · simp only [← hs.2]
                split at h
                · split at h
                  · rename_i hq
                    rw [if_pos hq]
                    split at h
                    · rename_i hcl
                      rw [if_pos hcl]
                      split at h
                      · simp at h
                      · rename_i hne
                        obtain rfl := Option.some.inj h
                        rw [if_neg hne]
                        exact ⟨_, rfl, (hs.setH _ _).put d _⟩
                    · rename_i hcl
                      rw [if_neg hcl]
                      split at h
                      · simp at h
                      · rename_i hnf
                        obtain rfl := Option.some.inj h
                        rw [if_neg hnf]
                        exact ⟨_, rfl, ((hs.scrub _).setH _ _).put d _⟩
                  · simp at h
                · simp at h
              · simp at h
        · simp at h
      · simp at h
    · simp only [← hs.ev]
      unfold clearA at h ⊢
      simp only [← hs.2]
      split at h
      · split at h
        · split at h
          · split at h
            · split at h
              · rename_i hc
                obtain rfl := Option.some.inj h
                rw [if_pos hc]
                exact ⟨_, rfl, (hs.setH _ _).put d _⟩
              · simp at h
            · simp at h
          · simp at h
        · simp at h
      · simp at h
    · rename_i f xs us
      have hf : isEff Γ f = true := by simpa [plainOp] using hp
      rw [if_pos hf] at h ⊢
      simp only [← hs.ev, ← evL_congr (σ := σ) (τ := τ) (fun x _ => hs.ev x)]
      exact callHV_sim hs h
    · rw [← evalR_congr hs.2 (fun x _ => hs.ev x)]
      cases hv : evalR P σ op with
      | none => simp [hv] at h
      | some v =>
        simp [hv] at h
        subst h
        exact ⟨_, rfl, hs.put d v⟩

theorem exec1_sim {ops : Array Oper} {n : Nat} {o : Oper} (hs : simS σ τ) {σ' : St} (h : exec1 P Γ (dstsOf ops.toList) n o σ = some σ') : ∃ τ', exec1 P Γ (dstsOf ops.toList) n o τ = some τ' ∧ simS σ' τ' := by
  unfold exec1 at h ⊢
  rw [← wantA_congr (σ := σ) (τ := τ) (ops := ops) (o := o) fun t _ => hs.1 t]
  cases hw : wantA (dstsOf ops.toList) σ o.guard with
  | none => simp [hw] at h
  | some b =>
    simp only [hw] at h ⊢
    cases b with
    | true => simp only [if_true] at h ⊢; exact execOp_sim hs h
    | false =>
      simp at h ⊢
      subst h
      exact hs.put _ _
theorem runL_sim {ops : Array Oper} : ∀ {L : List (Nat × Nat × Oper)} {σ τ σ' : St}, simS σ τ → runL P Γ (dstsOf ops.toList) L σ = some σ' → ∃ τ', runL P Γ (dstsOf ops.toList) L τ = some τ' ∧ simS σ' τ'
  | [], σ, τ, σ', hs, h => by simp only [runL, Option.some.injEq] at h; subst h; exact ⟨τ, rfl, hs⟩
  | x :: L, σ, τ, σ', hs, h => by
    simp only [runL] at h
    cases h1 : exec1 P Γ (dstsOf ops.toList) x.1 x.2.2 σ with
    | none => simp [h1] at h
    | some σ1 =>
      simp only [h1, Option.bind_some] at h
      obtain ⟨τ1, h2, hs1⟩ := exec1_sim hs h1
      obtain ⟨τ', h3, hs'⟩ := runL_sim hs1 h
      exact ⟨τ', by simp only [runL, h2, Option.bind_some]; exact h3, hs'⟩

/-- To the front. -/
theorem moveFront {ops : Array Oper} {x : Nat × Nat × Oper} {L2 : List (Nat × Nat × Oper)} : ∀ {L1 : List (Nat × Nat × Oper)} {σ τ : St},
    (∀ y ∈ L1, (plainOp P Γ y.2.2.op = true ∧ plainOp P Γ x.2.2.op = true ∨ plainOp P Γ y.2.2.op = true ∧ allocOp x.2.2.op = true ∨ allocOp y.2.2.op = true ∧ allocOp x.2.2.op = true ∧ y.1 ≠ x.1 ∨ hless y.2.2.op = true ∧ storeOp x.2.2.op = true) ∧ y.2.2.apart ops x.2.2 = true) →
    (allocOp x.2.2.op = true → nthO σ.H x.1 = some (.row 0 [])) →
    runL P Γ (dstsOf ops.toList) (L1 ++ x :: L2) σ = some τ → ∃ σ1 τ', exec1 P Γ (dstsOf ops.toList) x.1 x.2.2 σ = some σ1 ∧ runL P Γ (dstsOf ops.toList) (L1 ++ L2) σ1 = some τ' ∧ simS τ τ'
  | [], σ, τ, _, _, h => by
    simp only [List.nil_append, runL] at h ⊢
    cases h1 : exec1 P Γ (dstsOf ops.toList) x.1 x.2.2 σ with
    | none => simp [h1] at h
    | some σ1 =>
      simp only [h1, Option.bind_some] at h
      exact ⟨σ1, τ, rfl, h, simS.refl τ⟩
  | y :: L1, σ, τ, hi, hnth, h => by
    simp only [List.cons_append, runL] at h
    cases h1 : exec1 P Γ (dstsOf ops.toList) y.1 y.2.2 σ with
    | none => simp [h1] at h
    | some σa =>
      simp only [h1, Option.bind_some] at h
      obtain ⟨i1, i3⟩ := hi y (by simp)
      obtain ⟨σb, τ', h2, h3, hs⟩ := moveFront (L1 := L1) (fun z hz => hi z (by simp [hz])) (fun ha => by
        rcases i1 with ⟨j1, j2⟩ | ⟨j1, _⟩ | ⟨j1, _, j3⟩ | ⟨j1, _⟩
        · rw [exec1_plainR j1] at h1
          obtain ⟨v, _, rfl⟩ := Option.map_eq_some_iff.1 h1
          rw [put_H]; exact hnth ha
        · rw [exec1_plainR j1] at h1
          obtain ⟨v, _, rfl⟩ := Option.map_eq_some_iff.1 h1
          rw [put_H]; exact hnth ha
        · rw [exec1_allocH j1 j3 h1]; exact hnth ha
        · rw [exec1_plainR (hless_plain j1)] at h1
          obtain ⟨v, _, rfl⟩ := Option.map_eq_some_iff.1 h1
          rw [put_H]; exact hnth ha) h
      have hsw : ∃ σ1' σ2', exec1 P Γ (dstsOf ops.toList) x.1 x.2.2 σ = some σ1' ∧ exec1 P Γ (dstsOf ops.toList) y.1 y.2.2 σ1' = some σ2' ∧ simS σb σ2' := by
        rcases i1 with ⟨j1, j2⟩ | ⟨j1, j2⟩ | ⟨j1, j2, j3⟩ | ⟨j1, j2⟩
        · exact swap1 j1 j2 i3 h1 h2
        · exact swapA j1 j2 i3 (hnth j2) h1 h2
        · exact swapAA j1 j2 i3 j3 h1 h2
        · exact swapS j1 j2 i3 h1 h2
      obtain ⟨σ1', σ2', g1, g2, gs⟩ := hsw
      obtain ⟨τ'', g3, gs'⟩ := runL_sim gs h3
      exact ⟨σ1', τ'', g1, by simp only [List.cons_append, runL, g2, Option.bind_some]; exact g3, hs.trans gs'⟩
end

end Go.Abs
