/- What the laws of this claim rest on: the abstract executor, its soundness, and what the functions compute on pure data. No condition. -/
import Derived.Test.YtjnpfbohnpjckaaU9
import Derived.Test.YtjnpfbohnpjckaaU10
set_option linter.unusedVariables false
set_option linter.unusedSimpArgs false
namespace Go.Proofs.Ytjnpfbohnpjckaa
open Go.Abs
set_option linter.unusedSimpArgs false
set_option linter.unusedVariables false
set_option maxRecDepth 100000
set_option maxHeartbeats 4000000
theorem rep_tree {E : Env} : ∀ {T : Tn}, Tr E.w T → (∀ b ∈ T.blocks, ¬ E.N b) → Rep E (encM T.er) (.pointer (ptrT T))
  | .leaf, _, _ => by simp only [Tn.er, encM, Rep, ptrT]
  | .node b x l r o, h, hn => by
    obtain ⟨h1, h2, h3⟩ := h
    have i2 := rep_tree h2 (fun b hb => hn b (by simp [Tn.blocks, hb]))
    have i3 := rep_tree h3 (fun b hb => hn b (by simp [Tn.blocks, hb]))
    have hs : (Tm.node x l.er r.er o).s = (Tn.node b x l r o).s := er_s (.node b x l r o)
    simp only [Tn.er, encM, er_h, er_n, hs]
    simp only [Rep]
    refine ⟨by simp [A.pure.pureL, A.pure, encM_pure], b, 0, rfl, h1.lt, hn b (by simp [Tn.blocks]), ?_⟩
    simp only [RepM, Nat.zero_add]
    refine ⟨⟨_, h1.cell 0, rfl, ?_⟩, ⟨_, h1.cell 1, rfl, ?_⟩, ⟨_, h1.cell 2, rfl, ?_⟩, ⟨_, h1.cell 3, rfl, ?_⟩, ⟨_, h1.cell 4, rfl, ?_⟩, ⟨_, h1.cell 5, rfl, ?_⟩, ⟨_, h1.cell 6, rfl, ?_⟩, ⟨_, h1.cell 7, rfl, i2⟩, ⟨_, h1.cell 8, rfl, i3⟩, ⟨_, h1.cell 9, rfl, ?_⟩, ⟨_, h1.cell 10, rfl, ?_⟩, ⟨_, h1.cell 11, rfl, ?_⟩, ⟨_, h1.cell 12, rfl, ?_⟩, trivial⟩ <;> simp only [Rep] <;> rfl
theorem c_New_bad (l : List It) (hl : l.length ≤ 4611686018427387904) (ho : okI l) (hr : rightL18 l = false) (seed bits : Int) : CallA Try.prog 8 [.slc (l.map It.enc), .int .u64 seed, .int .i64 bits] (· = .tup [.nilp, .int .i64 2]) := by
  intro N w vs hN hrep
  simp only [RepL] at hrep
  obtain ⟨v, _, rfl, hv, s, _, rfl, hs, b, _, rfl, hb, rfl⟩ := hrep
  simp only [Rep] at hs hb
  subst hs hb
  have hv' := hv
  simp only [Rep, List.length_map] at hv'
  obtain ⟨_, a, cap, rfl, _, _⟩ := hv'
  refine (new_bad N l hl ho hr a cap seed bits w hN hv).mono ?_
  rintro e w' ⟨rfl, hg⟩
  refine ⟨_, _, rfl, rfl, ?_, hg⟩
  simp only [Rep, RepL]
  exact ⟨[.pointer none, .int .i64 2], rfl, _, _, rfl, rfl, _, _, rfl, rfl, rfl⟩
theorem h_New_raw (l : List It) (hl : l.length ≤ 100) (ho : okI l) (hr : rightL18 l = true) (hri : ∀ x ∈ l, rightI x = true) (hrise : ∀ (i j : Nat) (x y : It), i < j → l[i]? = some x → l[j]? = some y → cmpB y.key x.key = 1) (seed bits : Int) :
    CallH Try.prog 8 [.slc (l.map It.enc), .int .u64 seed, .int .i64 bits] [] (.tup [.ref 0 0, .int .i64 0]) [.box [treeA (treeF l seed) seed bits, .row 1 0 5 1 false, .nils, .int .i64 0], .row 5 [Pt.enc ⟨0, l.length, ⟨[], [], true⟩⟩]] [] := by
  intro N φ w vs hN hrel hfree hrep
  have hφ : φ = [] := List.length_eq_zero_iff.1 hrel.len
  subst hφ
  simp only [RepL] at hrep
  obtain ⟨v, _, rfl, hv, s, _, rfl, hs, b, _, rfl, hb, rfl⟩ := hrep
  simp only [Rep] at hs hb
  subst hs hb
  have hv' := hv
  simp only [Rep, List.length_map] at hv'
  obtain ⟨_, a, cap, rfl, _, _⟩ := hv'
  have hN' : ∀ b, (envOf N [] w).N b → b < w.heap.size := fun b hb => by
    rcases hb with hb | ⟨n, k, h⟩
    · exact hN b hb
    · simp at h
  refine (new_good (envOf N [] w).N l hl ho hr hri hrise a cap seed bits w hN' hv).mono ?_
  rintro e w' ⟨tb, rb, T, rfl, ht, htr, R, D, hT, hTr, _, her, hbl, W⟩
  have hown : ∀ n b k : Nat, ([Own.loc (rb + 1) 0, Own.loc rb 5] : List Own)[n]? = some (.loc b k) → (n = 0 ∧ b = rb + 1) ∨ (n = 1 ∧ b = rb) := fun n b k h => by
    match n, h with
    | 0, h => simp at h; exact .inl ⟨rfl, h.1.symm⟩
    | 1, h => simp at h; exact .inr ⟨rfl, h.1.symm⟩
    | n + 2, h => simp at h
  have hNN : ∀ b, (envOf N [Own.loc (rb + 1) 0, Own.loc rb 5] w').N b → b < w.heap.size ∨ b = rb ∨ b = rb + 1 := fun b hb => by
    rcases hb with hb | ⟨n, k, h⟩
    · exact .inl (hN b hb)
    · rcases hown n b k h with ⟨_, h⟩ | ⟨_, h⟩
      · exact .inr (.inr h)
      · exact .inr (.inl h)
  have hR := (Array.getElem?_eq_some_iff.1 R).1
  have hD := (Array.getElem?_eq_some_iff.1 D).1
  have rT := rep_tree (E := envOf N [Own.loc (rb + 1) 0, Own.loc rb 5] w') hTr (fun b hb h => by have := hbl b hb; rcases hNN b h with h | h | h <;> omega)
  rw [her] at rT
  refine ⟨_, [.loc (rb + 1) 0, .loc rb 5], rfl, ?_, ⟨rfl, ?_, ?_, ?_⟩, ⟨W.os, W.tape, W.output, fun _ => W.drawn, W.size, fun b hb _ => W.block b hb id, ?_, ?_, fun n p _ h => by simp at h⟩, by simp⟩
  · simp only [Rep, RepL]
    exact ⟨[.pointer (some ⟨rb + 1, 0, none⟩), .int .i64 0], rfl, _, _, rfl, ⟨rb + 1, 0, rfl, rfl⟩, _, _, rfl, rfl, rfl⟩
  · intro n o p ho hp
    match n, ho, hp with
    | 0, ho, hp =>
      simp [nthO] at ho hp
      subst ho hp
      refine ⟨⟨_, _, _, D, ?_⟩, ?_⟩
      · exact ⟨fun j hj h => by omega, fun _ h => by omega⟩
      · simp only [RepM, Nat.zero_add]
        have c0 : w'.cell? ⟨rb + 1, 0, none⟩ = some (.pointer (some ⟨tb, 0, none⟩)) := by simp [World.cell?, D]
        have c1 : w'.cell? ⟨rb + 1, 1, none⟩ = some (.slice (some ⟨rb, 0, none⟩) 1 1) := by simp [World.cell?, D]
        have c2 : w'.cell? ⟨rb + 1, 2, none⟩ = some (.slice none 0 0) := by simp [World.cell?, D]
        have c3 : w'.cell? ⟨rb + 1, 3, none⟩ = some (.int .i64 0) := by simp [World.cell?, D]
        refine ⟨⟨_, c0, rfl, ?_⟩, ⟨_, c1, rfl, ?_⟩, ⟨_, c2, rfl, ?_⟩, ⟨_, c3, rfl, ?_⟩, trivial⟩
        · simp only [treeA, Rep]
          refine ⟨by simp [A.pure.pureL, A.pure, encM_pure], tb, 0, rfl, hT.lt, fun h => by rcases hNN tb h with h | h | h <;> omega, ?_⟩
          simp only [RepM, Nat.zero_add]
          refine ⟨⟨_, hT.cell 0, rfl, rT⟩, ⟨_, hT.cell 1, rfl, ?_⟩, ⟨_, hT.cell 2, rfl, ?_⟩, trivial⟩ <;> simp only [Rep] <;> rfl
        · simp only [Rep]
          refine .inr ⟨rb, 1, _, _, _, rfl, by simp, by omega, by simp, R, by simp⟩
        · simp only [Rep]
        · simp only [Rep]
    | 1, ho, hp =>
      simp [nthO] at ho hp
      subst ho hp
      refine ⟨rfl, by simp [A.pure.pureL, A.pure, Pt.enc], ⟨_, _, _, R, fun j hj h => by omega, fun _ h => by omega⟩, ?_⟩
      simp only [Pt.enc]
      rw [RepE_agg]
      have c0 : w'.cell? ⟨rb, 0, none⟩ = some (.int .i64 0) := by simp [World.cell?, R]
      have c1 : w'.cell? ⟨rb, 1, none⟩ = some (.int .i64 l.length) := by simp [World.cell?, R]
      have c2 : w'.cell? ⟨rb, 2, none⟩ = some (strV []) := by simp [World.cell?, R]
      have c3 : w'.cell? ⟨rb, 3, none⟩ = some (strV []) := by simp [World.cell?, R]
      have c4 : w'.cell? ⟨rb, 4, none⟩ = some (.bool true) := by simp [World.cell?, R]
      refine ⟨⟨rfl, ?_⟩, by simp only [RepE]⟩
      simp only [RepM, Nat.zero_add]
      refine ⟨⟨_, c0, rfl, ?_⟩, ⟨_, c1, rfl, ?_⟩, ⟨_, c2, rfl, ?_⟩, ⟨_, c3, rfl, ?_⟩, ⟨_, c4, rfl, ?_⟩, trivial⟩ <;> simp only [Rep] <;> rfl
    | n + 2, ho, hp => simp at hp
  · intro n b k h
    rcases hown n b k h with ⟨_, rfl⟩ | ⟨_, rfl⟩
    · exact ⟨hD, fun h => by have := hN _ h; have := W.size; omega⟩
    · exact ⟨hR, fun h => by have := hN _ h; have := W.size; omega⟩
  · intro n m b k k' h h'
    rcases hown n b k h with ⟨_, h1⟩ | ⟨_, h1⟩ <;> rcases hown m b k' h' with ⟨_, h2⟩ | ⟨_, h2⟩ <;> omega
  · intro b c e fr h
    have hb := (Array.getElem?_eq_some_iff.1 h).1
    exact ⟨c, fr, (W.block b hb id).trans h, rfl⟩
  · intro n b k h
    rcases hown n b k h with ⟨_, rfl⟩ | ⟨_, rfl⟩
    · exact .inl (by omega)
    · exact .inl (by omega)
theorem h_New (l : List It) (hl : l.length ≤ 100) (ho : okI l) (hr : rightL18 l = true) (hri : ∀ x ∈ l, rightI x = true) (hrise : ∀ (i j : Nat) (x y : It), i < j → l[i]? = some x → l[j]? = some y → cmpB y.key x.key = 1) (seed bits : Int) :
    CallH Try.prog 8 [.slc (l.map It.enc), .int .u64 seed, .int .i64 bits] [] (.tup [.ref 0 0, .int .i64 0]) (dsO (treeF l seed) seed bits [⟨0, l.length, ⟨[], [], true⟩⟩] 1 [] 0) [] :=
  callH_boxnilR 2 3 (fun o h => by simp at h; exact ⟨_, _, h⟩) rfl (h_New_raw l hl ho hr hri hrise seed bits)
set_option maxRecDepth 20000
set_option maxHeartbeats 16000000
theorem level_itsM (x : It) (l r : Tm) (o : Int) : (levelM x l r o).its = l.its ++ (x, o) :: r.its := by
  unfold levelM
  split
  · cases r <;> simp [Tm.its]
  · rfl
theorem insM_its : ∀ (t : Tm) (x : It) (o : Int), (insM t x o).its = t.its ++ [(x, o)]
  | .leaf, _, _ => rfl
  | .node y l r p, x, o => by simp only [insM, level_itsM, insM_its r, Tm.its]; simp
theorem treeF_its (l : List It) (seed : Int) : (treeF l seed).its = l.map fun x => (x, hashI seed x) := by
  have h : ∀ (l : List It) (t : Tm), (l.foldl (fun t x => insM t x (hashI seed x)) t).its = t.its ++ l.map fun x => (x, hashI seed x) := by
    intro l
    induction l with
    | nil => intro t; simp
    | cons x l ih => intro t; rw [List.foldl_cons, ih, insM_its]; simp
  exact h l .leaf
theorem treeF_inj {l l' : List It} {seed seed' : Int} (h : treeF l seed = treeF l' seed') : l = l' := by
  have := congrArg (fun t => t.its.map (·.1)) h
  simp only [treeF_its, List.map_map] at this
  have e : ∀ (s : Int) (m : List It), List.map ((fun x : It × Int => x.1) ∘ fun x => (x, hashI s x)) m = m := fun s m => by
    rw [show ((fun x : It × Int => x.1) ∘ fun x => (x, hashI s x)) = id from rfl, List.map_id]
  rwa [e, e] at this
noncomputable def TN : Tab := { W32c with ords := ordsT }
theorem TN_ok : TabOK Try.prog TN := ⟨W32c_ok.f, W32c_ok.hp⟩
@[go_sem] theorem TN_f : TN.f = W32c.f := rfl
@[go_sem] theorem TN_eff {g : FuncId} : TN.eff g = false := rfl
@[go_sem] theorem TN_ords0 : TN.ords 0 = [] := rfl
@[go_sem] theorem TN_ords1 : TN.ords 1 = [] := rfl
@[go_sem] theorem TN_ords2 : TN.ords 2 = [] := rfl
@[go_sem] theorem TN_ords3 : TN.ords 3 = [] := rfl
theorem ok_Tell_TN : codeOK Try.prog TN Try.f13.ntmps (Try.f13.body.getD .skip) = true := by kernel_rfl
noncomputable def TQ : Tab := { W32c with ords := ordsT, fix := fun n => n == 0, nf := 1 }
theorem TQ_ok : TabOK Try.prog TQ := ⟨W32c_ok.f, W32c_ok.hp⟩
@[go_sem] theorem TQ_f : TQ.f = W32c.f := rfl
@[go_sem] theorem TQ_eff {g : FuncId} : TQ.eff g = false := rfl
@[go_sem] theorem TQ_ords0 : TQ.ords 0 = [] := rfl
@[go_sem] theorem TQ_ords1 : TQ.ords 1 = [] := rfl
@[go_sem] theorem TQ_ords2 : TQ.ords 2 = [] := rfl
@[go_sem] theorem TQ_ords3 : TQ.ords 3 = [] := rfl
theorem ok_Tell_TQ : codeOK Try.prog TQ Try.f13.ntmps (Try.f13.body.getD .skip) = true := by kernel_rfl
theorem c_Tell_nil (b : Bool) : CallA Try.prog 13 [.nilp, .bool b] (· = .bool false) := by
  refine callA_of_body TN_ok mixed Try.func13 rfl (Nat.le_of_ble_eq_true rfl) ok_Tell_TN ?_
  unfold Try.f13
  have gN := w_Next (x := .nil) trivial
  simp only [DX.enc, nextA, noQ] at gN
  simp -implicitDefEqProofs (maxSteps := 6000000) (disch := (first | omega | decide)) only [go_sem, ↓reduceIte, seval, gN]
theorem c_Tell_dplain (b : Bool) : CallA Try.prog 13 [.dptr [.nilp, .slc [], .slc [], .int .i64 0], .bool b] (· = .bool false) := by
  refine callA_of_body TN_ok mixed Try.func13 rfl (Nat.le_of_ble_eq_true rfl) ok_Tell_TN ?_
  unfold Try.f13
  have gN := w_Next (x := .plain) trivial
  simp only [DX.enc, nextA, noQ] at gN
  simp -implicitDefEqProofs (maxSteps := 6000000) (disch := (first | omega | decide)) only [go_sem, ↓reduceIte, seval, gN]
theorem c_Tell_frz (d : Ds) (hd : d.ok) (ho : d.os = []) (b : Bool) : CallA Try.prog 13 [.dptr d.cells, .bool b] (· = .bool false) := by
  refine callA_of_body TN_ok mixed Try.func13 rfl (Nat.le_of_ble_eq_true rfl) ok_Tell_TN ?_
  unfold Try.f13
  have gN := w_Next (x := .some d) hd
  simp only [DX.enc, nextA, noQ, ho, List.getLast?_nil] at gN
  generalize d.cells = C at *
  simp -implicitDefEqProofs (maxSteps := 6000000) (disch := (first | omega | decide)) only [go_sem, ↓reduceIte, seval, gN]
theorem h_Tell_plain (b : Bool) : CallH Try.prog 13 [.ref 0 0, .bool b] [.box [.nilp, .nils, .nils, .int .i64 0]] (.bool false) [.box [.nilp, .nils, .nils, .int .i64 0]] [] := by
  refine callH_of_body TQ_ok mixed Try.func13 rfl (Nat.le_of_ble_eq_true rfl) (fun n h h' => by have h : n < 1 := h; simp at h'; have e : n = 0 := (by omega); subst e; rfl) (by show 1 ≤ 1; simp) (by show 1 ≤ 1; simp) ok_Tell_TQ ?_
  unfold Try.f13
  have gN := w_Next (x := .plain) trivial
  simp only [DX.enc, nextA, noQ] at gN
  simp -implicitDefEqProofs (maxSteps := 6000000) (disch := (first | omega | decide)) only [go_sem, ↓reduceIte, seval, gN]
theorem h_Tell_none (l : List It) (seed bits : Int) (es : List Pt) (fs : List Rng) (a : Nat) (b : Bool) (h1 : okT32 (treeF l seed) l seed) (hf : fs.length ≤ 999) (hfr : ∀ r ∈ fs, rightR r = true) (ha : a ≤ 999) :
    CallH Try.prog 13 [.ref 0 0, .bool b] (dsO (treeF l seed) seed bits es 0 fs a) (.bool false) (dsO (treeF l seed) seed bits es 0 fs a) [1, 2] := by
  refine callH_of_body TT_ok mixed Try.func13 rfl (Nat.le_of_ble_eq_true rfl) (fun n h h' => by have h : n < 3 := h; simp at h'; have e : n = 0 := (by omega); subst e; rfl) (by show 3 ≤ 3; simp) (by show 3 ≤ 3; simp) ok_descent_Descent_Tell ?_
  unfold Try.f13
  have gN := w_Next (x := .some ⟨treeF l seed, l, seed, bits, [], fs, a⟩) ⟨h1, (fun p hp => by cases hp), by simp, by simp only; omega, hfr, by simp only; omega⟩
  have eN : nextA (.some ⟨treeF l seed, l, seed, bits, [], fs, a⟩) = noQ := by unfold nextA; simp
  rw [eN] at gN
  unfold DX.enc Ds.cells noQ treeA at gN
  simp only [List.map_nil] at gN
  unfold dsO treeA
  generalize treeF l seed = T at *
  simp -implicitDefEqProofs (maxSteps := 6000000) (disch := (first | omega | decide)) only [go_sem, ↓reduceIte, seval, gN, List.length_map, Nat.zero_le, Nat.le_refl]
def tellS (l : List It) (es : List Pt) (n : Nat) (fs : List Rng) (a : Nat) (b : Bool) : Bool × List Pt × Nat × List Rng × Nat :=
  match n with
  | 0 => (false, es, 0, fs, a)
  | m + 1 =>
    match es[m]? with
    | none => (false, es, 0, fs, a)
    | some p =>
      if b = true then (true, es, m, fs, a + 1)
      else if p.t < p.f + 2 then (true, es, m, fs ++ [p.r], a + 1)
      else (true, es.take m ++ [⟨p.f + (p.t - p.f) / 2, p.t, ⟨keyI l (p.f + (p.t - p.f) / 2), p.r.hi, p.r.op⟩⟩, ⟨p.f, p.f + (p.t - p.f) / 2, ⟨p.r.lo, keyI l (p.f + (p.t - p.f) / 2), false⟩⟩], m + 2, fs, a + 1)
structure DV where
  l : List It
  seed : Int
  bits : Int
  es : List Pt
  n : Nat
  fs : List Rng
  a : Nat
def DV.ok (v : DV) : Prop := okT32 (treeF v.l v.seed) v.l v.seed ∧ v.n ≤ v.es.length ∧ (∀ q ∈ v.es.take v.n, rightR q.r = true ∧ q.f ≤ q.t ∧ q.t ≤ v.l.length) ∧ v.es.length ≤ 1000 ∧ v.fs.length ≤ 999 ∧ (∀ r ∈ v.fs, rightR r = true) ∧ v.a ≤ 999
def DV.obs (v : DV) : List Go.Abs.Obj := dsO (treeF v.l v.seed) v.seed v.bits v.es v.n v.fs v.a
def DV.tell (v : DV) (b : Bool) : DV := { v with es := (tellS v.l v.es v.n v.fs v.a b).2.1, n := (tellS v.l v.es v.n v.fs v.a b).2.2.1, fs := (tellS v.l v.es v.n v.fs v.a b).2.2.2.1, a := (tellS v.l v.es v.n v.fs v.a b).2.2.2.2 }
def DV.told (v : DV) (b : Bool) : Bool := (tellS v.l v.es v.n v.fs v.a b).1
theorem h_Tell_own (v : DV) (h : v.ok) (b : Bool) : CallH Try.prog 13 [.ref 0 0, .bool b] v.obs (.bool (v.told b)) (v.tell b).obs [1, 2] := by
  obtain ⟨l, seed, bits, es, n, fs, a⟩ := v
  obtain ⟨h1, h2, h3, h4, h5, h6, h7⟩ := h
  simp only at h1 h2 h3 h4 h5 h6 h7
  unfold DV.obs DV.tell DV.told
  simp only
  cases n with
  | zero => exact h_Tell_none l seed bits es fs a b h1 h5 h6 h7
  | succ m =>
    have hm : m < es.length := h2
    have hp : es[m]? = some es[m] := List.getElem?_eq_getElem hm
    have hmem : es[m] ∈ es.take (m + 1) := by
      rw [List.mem_take_iff_getElem]
      exact ⟨m, by omega, rfl⟩
    obtain ⟨p1, p2, p3⟩ := h3 _ hmem
    have hz : es[m].r ≠ ⟨[], [], false⟩ := fun e => by rw [e] at p1; exact absurd p1 (by decide)
    have hr : ∀ q ∈ es.take (m + 1), rightR q.r = true := fun q hq => (h3 q hq).1
    have hln : l.length ≤ 1000 := by have := h1.2.2.1; have h2 := congrArg List.length h1.1; rw [Tm.n_eq, List.length_map] at h2; omega
    generalize es[m] = p at *
    unfold tellS
    simp only [hp]
    cases b with
    | true =>
      rw [if_pos rfl]
      exact h_Tell_same (treeF l seed) l seed bits es m fs a p h1 hp hr h4 h5 h6 h7 hz
    | false =>
      rw [if_neg (by decide)]
      by_cases c : p.t < p.f + 2
      · rw [if_pos c]
        exact h_Tell_small (treeF l seed) l seed bits es m fs a p h1 hp hr h4 h5 h6 h7 hz c ⟨by omega, by omega⟩
      · rw [if_neg c]
        have hx : l[p.f + (p.t - p.f) / 2]? = some l[p.f + (p.t - p.f) / 2] := List.getElem?_eq_getElem (by omega)
        have := h_Tell_big (treeF l seed) l seed bits es m fs a p h1 hp hr h4 h5 h6 h7 hz (by omega) p3 _ hx
        unfold keyI
        rw [hx]
        exact this
inductive TX where
  | own (v : DV) (b : Bool)
  | nil (b : Bool)
  | plain (b : Bool)
  | frz (d : Ds) (b : Bool)
  | dplain (b : Bool)
def TX.enc : TX → List A
  | .own _ b => [.ref 0 0, .bool b]
  | .nil b => [.nilp, .bool b]
  | .plain b => [.ref 0 0, .bool b]
  | .frz d b => [.dptr d.cells, .bool b]
  | .dplain b => [.dptr [.nilp, .slc [], .slc [], .int .i64 0], .bool b]
def TX.obs : TX → List Go.Abs.Obj
  | .own v _ => v.obs
  | .nil _ => []
  | .plain _ => [.box [.nilp, .nils, .nils, .int .i64 0]]
  | .frz _ _ => []
  | .dplain _ => []
def TX.ok : TX → Prop
  | .own v _ => v.ok
  | .frz d _ => d.ok ∧ d.os = []
  | _ => True
def TX.spec : TX → A × List Go.Abs.Obj × List Nat
  | .own v b => (.bool (v.told b), (v.tell b).obs, [1, 2])
  | .nil _ => (.bool false, [], [])
  | .plain _ => (.bool false, [.box [.nilp, .nils, .nils, .int .i64 0]], [])
  | .frz _ _ => (.bool false, [], [])
  | .dplain _ => (.bool false, [], [])
theorem DV.obs_inj {v u : DV} (h : v.obs = u.obs) : v = u := by
  obtain ⟨l, s, b, es, n, fs, a⟩ := v
  obtain ⟨l', s', b', es', n', fs', a'⟩ := u
  simp [DV.obs, dsO, treeA] at h
  obtain ⟨⟨⟨h1, h2, h3⟩, h4, h5, h6⟩, h7, h8⟩ := h
  subst h2 h3 h4 h7 h8
  rw [treeF_inj h1, show a = a' by omega]
theorem h_Tell (x : TX) (h : x.ok) : CallH Try.prog 13 x.enc x.obs x.spec.1 x.spec.2.1 x.spec.2.2 := by
  cases x with
  | own v b => exact h_Tell_own v h b
  | nil b => exact callH_pure (c_Tell_nil b) (fun _ _ h => h) rfl
  | plain b => exact h_Tell_plain b
  | frz d b => exact callH_pure (c_Tell_frz d h.1 h.2 b) (fun _ _ h => h) rfl
  | dplain b => exact callH_pure (c_Tell_dplain b) (fun _ _ h => h) rfl
theorem goI_up : ∀ {l : List It} {p : Option (List UInt8)}, goI p l = true ↔ (∀ x ∈ l, rightI x = true) ∧ l.Pairwise (fun x y => ltB x.key y.key = true) ∧ ∀ k, p = some k → ∀ x ∈ l, ltB k x.key = true
  | [], p => by simp [goI]
  | x :: l, p => by
    simp only [goI, Bool.and_eq_true, goI_up (l := l), List.pairwise_cons, List.mem_cons, forall_eq_or_imp]
    constructor
    · rintro ⟨⟨h1, h2⟩, h3, h4, h5⟩
      have h6 := h5 x.key rfl
      refine ⟨⟨h1, h3⟩, ⟨h6, h4⟩, ?_⟩
      rintro k rfl
      exact ⟨h2, fun y hy => lt_trans' h2 (h6 y hy)⟩
    · rintro ⟨⟨h1, h2⟩, ⟨h3, h4⟩, h5⟩
      refine ⟨⟨h1, ?_⟩, h2, h4, ?_⟩
      · cases p with
        | none => rfl
        | some k => exact (h5 k rfl).1
      · rintro k hk y hy
        obtain rfl := Option.some.inj hk
        exact h3 y hy
theorem good18 {l : List It} (h : rightL18 l = true) : (∀ x ∈ l, rightI x = true) ∧ l.Pairwise (fun x y => ltB x.key y.key = true) := by
  have := goI_up.1 h
  exact ⟨this.1, this.2.1⟩
theorem rightI_key {x : It} (h : rightI x = true) : 1 ≤ x.key.length ∧ x.key.length ≤ 16 := by
  unfold rightI at h
  simp only [Bool.and_eq_true, decide_eq_true_eq] at h
  omega
theorem ok_tree {l : List It} {seed : Int} (h : rightL18 l = true) (hl : l.length ≤ 1000) : okT32 (treeF l seed) l seed := by
  obtain ⟨h1, h2⟩ := good18 h
  refine ⟨treeF_its l seed, ?_, ?_, ?_⟩
  · unfold risesK
    rw [treeF_its, List.pairwise_map]
    exact h2
  · rw [← Tm.n_eq, treeF_its, List.length_map]; exact hl
  · intro p hp
    rw [treeF_its] at hp
    obtain ⟨x, hx, rfl⟩ := List.mem_map.1 hp
    have := rightI_key (h1 x hx)
    simp only
    omega
noncomputable def Y32a : Tab := W32c.add 10 (entry (fun (v : List It × Int × Int × List Bool) => [.slc (v.1.map It.enc), .int .u64 v.2.1, .int .i64 v.2.2.1, .slc (v.2.2.2.map .bool)]) (fun v => RV.ok v) (fun v => wkA v.1 v.2.1 v.2.2.1 v.2.2.2))
theorem Y32a_ok : TabOK Try.prog Y32a := W32c_ok.ent Try.func10 (by kernel_rfl) (by kernel_rfl) fun v h => c_Run v.1 v.2.1 v.2.2.1 v.2.2.2 h
@[go_sem] theorem Y32a_old {g : FuncId} {xs : List A} (h : g ≠ 10) : Y32a.f g xs = W32c.f g xs := Tab.add_ne h
theorem Y32a_ref32_Run (v : List It × Int × Int × List Bool) (h : RV.ok v) : Y32a.f 10 [.slc (v.1.map It.enc), .int .u64 v.2.1, .int .i64 v.2.2.1, .slc (v.2.2.2.map .bool)] = some (wkA v.1 v.2.1 v.2.2.1 v.2.2.2) := Tab.ent_eq (Γ := W32c) (fun i j h => by simpa [Prod.ext_iff, and_assoc] using h) v h
def dv0 (l : List It) (seed bits : Int) : DV := ⟨l, seed, bits, [⟨0, l.length, ⟨[], [], true⟩⟩], 1, [], 0⟩
def newS (v : List It × Int × Int) : A × List Go.Abs.Obj × List Nat := if rightL18 v.1 = true then (.tup [.ref 0 0, .int .i64 0], (dv0 v.1 v.2.1 v.2.2).obs, []) else (.tup [.nilp, .int .i64 2], [], [])
theorem h_NewX (v : List It × Int × Int) (h : v.1.length ≤ 100 ∧ okI v.1) : CallH Try.prog 8 [.slc (v.1.map It.enc), .int .u64 v.2.1, .int .i64 v.2.2] [] (newS v).1 (newS v).2.1 (newS v).2.2 := by
  unfold newS
  by_cases hr : rightL18 v.1 = true
  · rw [if_pos hr]
    obtain ⟨h1, h2⟩ := good18 hr
    refine h_New v.1 h.1 h.2 hr h1 (fun i j x y hij hi hj => ?_) v.2.1 v.2.2
    obtain ⟨hil, rfl⟩ := List.getElem?_eq_some_iff.1 hi
    obtain ⟨hjl, rfl⟩ := List.getElem?_eq_some_iff.1 hj
    exact cmp_of_gt (List.pairwise_iff_getElem.1 h2 i j hil hjl hij)
  · rw [if_neg hr]
    exact callH_pure (c_New_bad v.1 (Nat.le_trans h.1 (by decide)) h.2 (by simpa using hr) v.2.1 v.2.2) (fun _ _ h => h) rfl
def slA (b : Bool) (es : List A) : A := if b = true then .clip es else .slc es
theorem callH_args {P : Program} {f : FuncId} {xs ys : List A} {H H' : List Go.Abs.Obj} {r : A} {S : List Nat} (h : CallH P f ys H r H' S) (hx : ∀ (E : Env) (vs : List Value), RepL E xs vs → RepL E ys vs) : CallH P f xs H r H' S :=
  fun N φ w vs hN hrel hfree hrep => h N φ w vs hN hrel hfree (hx _ _ hrep)
theorem slA_slc (b : Bool) (es : List A) {E : Env} {v : Value} (h : Rep E (slA b es) v) : Rep E (.slc es) v := by
  cases b with
  | false => exact h
  | true =>
    simp only [slA, if_true, Rep] at h ⊢
    obtain ⟨hp, a, rfl, h2⟩ := h
    exact ⟨hp, a, es.length, rfl, Nat.le_refl _, h2⟩
abbrev NV := (List It × Int × Int) × Bool
def NV.enc (v : NV) : List A := [slA v.2 (v.1.1.map It.enc), .int .u64 v.1.2.1, .int .i64 v.1.2.2]
noncomputable def YN : Tab := Y32a.addH 8 (entryH NV.enc (fun _ => []) (fun v => v.1.1.length ≤ 100 ∧ okI v.1.1) (fun v => newS v.1))
theorem YN_ok : TabOK Try.prog YN := Y32a_ok.addH (callable_of Try.func8 (by kernel_rfl) (by kernel_rfl)) (entryH_ok fun v h => callH_args (h_NewX v.1 h) fun E vs hr => by
  simp only [NV.enc, RepL] at hr ⊢
  obtain ⟨v1, vs1, e1, h1, hr⟩ := hr
  exact ⟨v1, vs1, e1, slA_slc _ _ h1, hr⟩)
noncomputable def YT : Tab := YN.addH 13 (entryH TX.enc TX.obs TX.ok TX.spec)
theorem YT_ok : TabOK Try.prog YT := YN_ok.addH (callable_of Try.func13 (by kernel_rfl) (by kernel_rfl)) (entryH_ok fun v h => h_Tell v h)
noncomputable def LQ : Tab := { YT with eff := fun f => f == 8 || f == 13 || f == 15, frz := fun f => f == 15 }
theorem LQ_ok : TabOK Try.prog LQ := ⟨YT_ok.f, YT_ok.hp⟩
@[go_sem] theorem LQ_f : LQ.f = Y32a.f := rfl
@[go_sem] theorem LQ_eff {g : FuncId} : LQ.eff g = (g == 8 || g == 13 || g == 15) := rfl
@[go_sem] theorem LQ_frz {g : FuncId} : LQ.frz g = (g == 15) := rfl
@[go_sem] theorem LQ_fix {n : Nat} : LQ.fix n = false := rfl
@[go_sem] theorem LQ_ords {n : Nat} : LQ.ords n = [] := rfl
theorem eq_entryH {ι : Type} {enc : ι → List A} {obs : ι → List Go.Abs.Obj} {ok : ι → Prop} {spec : ι → A × List Go.Abs.Obj × List Nat} (hi : ∀ i j, ok i → ok j → enc i = enc j → obs i = obs j → spec i = spec j) (i : ι) (h : ok i) : entryH enc obs ok spec (enc i) (obs i) = some (spec i) := by
  have hx : ∃ j, (enc j = enc i ∧ obs j = obs i) ∧ ok j := ⟨i, ⟨rfl, rfl⟩, h⟩
  unfold entryH
  rw [dif_pos hx, hi _ _ (Classical.choose_spec hx).2 h (Classical.choose_spec hx).1.1 (Classical.choose_spec hx).1.2]
theorem l_NewX (v : NV) (h : v.1.1.length ≤ 100 ∧ okI v.1.1) : LQ.hp 8 v.enc [] = some (newS v.1) := by
  have h1 : YT.hp 8 v.enc [] = YN.hp 8 v.enc [] := Tab.addH_ne (by decide)
  have h2 : YN.hp 8 v.enc [] = _ := Tab.addH_eq
  have h0 : LQ.hp 8 v.enc [] = YT.hp 8 v.enc [] := rfl
  exact h0.trans (h1.trans (h2.trans (entryH_eq (enc := NV.enc) (obs := fun _ => []) (fun a b e _ => by
    obtain ⟨⟨a1, a2, a3⟩, a4⟩ := a
    obtain ⟨⟨b1, b2, b3⟩, b4⟩ := b
    cases a4 <;> cases b4 <;> simp [NV.enc, slA] at e
    · obtain ⟨rfl, rfl, rfl⟩ := e
      rfl
    · obtain ⟨rfl, rfl, rfl⟩ := e
      rfl) v h)))
theorem l_New (v : List It × Int × Int) (h : v.1.length ≤ 100 ∧ okI v.1) : LQ.hp 8 [.slc (v.1.map It.enc), .int .u64 v.2.1, .int .i64 v.2.2] [] = some (newS v) := l_NewX (v, false) h
theorem l_NewC (v : List It × Int × Int) (h : v.1.length ≤ 100 ∧ okI v.1) : LQ.hp 8 [.clip (v.1.map It.enc), .int .u64 v.2.1, .int .i64 v.2.2] [] = some (newS v) := l_NewX (v, true) h
theorem l_Tell (x : TX) (h : x.ok) : LQ.hp 13 x.enc x.obs = some x.spec := by
  have h2 : YT.hp 13 x.enc x.obs = _ := Tab.addH_eq
  have h0 : LQ.hp 13 x.enc x.obs = YT.hp 13 x.enc x.obs := rfl
  exact h0.trans (h2.trans (eq_entryH (enc := TX.enc) (obs := TX.obs) (fun a b ha hb e e' => by
    cases a with
    | own v x =>
      cases b with
      | own u y =>
        simp [TX.enc] at e
        rw [DV.obs_inj e', e]
      | plain y => simp [TX.obs, DV.obs, dsO] at e'
      | nil y => simp [TX.enc] at e
      | frz d y => simp [TX.enc] at e
      | dplain y => simp [TX.enc] at e
    | plain x =>
      cases b with
      | own u y => simp [TX.obs, DV.obs, dsO] at e'
      | plain y => rfl
      | nil y => simp [TX.enc] at e
      | frz d y => simp [TX.enc] at e
      | dplain y => simp [TX.enc] at e
    | nil x =>
      cases b with
      | own u y => simp [TX.enc] at e
      | plain y => simp [TX.enc] at e
      | nil y => rfl
      | frz d y => rfl
      | dplain y => rfl
    | frz d x =>
      cases b with
      | own u y => simp [TX.enc] at e
      | plain y => simp [TX.enc] at e
      | nil y => rfl
      | frz d y => rfl
      | dplain y => rfl
    | dplain x =>
      cases b with
      | own u y => simp [TX.enc] at e
      | plain y => simp [TX.enc] at e
      | nil y => rfl
      | frz d y => rfl
      | dplain y => rfl) x h))
def rgD (l : List It) (f t : Nat) : Rng := ⟨if f = 0 then [] else keyI l f, if t = l.length then [] else keyI l t, decide (t = l.length)⟩
theorem keyI_eq {l : List It} {m : Nat} (h : m < l.length) : keyI l m = l[m].key := by unfold keyI; rw [List.getElem?_eq_getElem h]
theorem keyI_lt {l : List It} (hl : rightL18 l = true) {i j : Nat} (h : i < j) (hj : j < l.length) : ltB (keyI l i) (keyI l j) = true := by
  rw [keyI_eq (by omega), keyI_eq hj]
  exact List.pairwise_iff_getElem.1 (good18 hl).2 i j (by omega) hj h
theorem keyI_len {l : List It} (hl : rightL18 l = true) {j : Nat} (hj : j < l.length) : 1 ≤ (keyI l j).length ∧ (keyI l j).length ≤ 16 := by
  rw [keyI_eq hj]
  exact rightI_key ((good18 hl).1 _ (List.getElem_mem hj))
theorem keyI_len' {l : List It} (hl : rightL18 l = true) (j : Nat) : (keyI l j).length ≤ 16 := by
  rcases Nat.lt_or_ge j l.length with h | h
  · exact (keyI_len hl h).2
  · unfold keyI; rw [List.getElem?_eq_none h]; simp
theorem lt_nil {k : List UInt8} (h : 1 ≤ k.length) : ltB [] k = true := by
  cases k with
  | nil => simp at h
  | cons => rfl
theorem rgD_right {l : List It} (hl : rightL18 l = true) {f t : Nat} (h1 : f ≤ t) (h2 : t ≤ l.length) (h3 : f < t ∨ l = []) : rightR (rgD l f t) = true := by
  have a1 : (rgD l f t).lo.length ≤ 17 := by
    unfold rgD; simp only; split
    · simp
    · have := keyI_len' hl f; omega
  have a2 : (rgD l f t).hi.length ≤ 17 := by
    unfold rgD; simp only; split
    · simp
    · have := keyI_len' hl t; omega
  unfold rightR
  rw [decide_eq_true a1, decide_eq_true a2]
  simp only [Bool.true_and]
  unfold rgD
  by_cases ht : t = l.length
  · simp [ht]
  · have htl : t < l.length := by omega
    have hft : f < t := by
      rcases h3 with h | h
      · exact h
      · rw [h] at htl; simp at htl
    simp only [ht, decide_false, if_false]
    by_cases hf : f = 0
    · simp only [hf, if_true]
      exact lt_nil (keyI_len hl htl).1
    · simp only [hf, if_false]
      exact keyI_lt hl hft htl
theorem rgD_hi {l : List It} {f t m : Nat} (h1 : f < m) : (⟨keyI l m, (rgD l f t).hi, (rgD l f t).op⟩ : Rng) = rgD l m t := by
  unfold rgD
  rw [if_neg (show ¬ m = 0 by omega)]
theorem rgD_lo {l : List It} {f t m : Nat} (h1 : m < l.length) : (⟨(rgD l f t).lo, keyI l m, false⟩ : Rng) = rgD l f m := by
  unfold rgD
  rw [if_neg (show ¬ m = l.length by omega), decide_eq_false (show ¬ m = l.length by omega)]
def DV.st (v : DV) : List Pt := v.es.take v.n
def okP (l : List It) (p : Pt) : Prop := p.f ≤ p.t ∧ p.t ≤ l.length ∧ (p.f < p.t ∨ l = []) ∧ p.r = rgD l p.f p.t
structure DV.Good (v : DV) : Prop where
  l : rightL18 v.l = true
  len : v.l.length ≤ 100
  n : v.n ≤ v.es.length
  es : v.es.length ≤ v.a + 1
  p : ∀ q ∈ v.st, okP v.l q
  fl : v.fs.length ≤ v.a
  fr : ∀ r ∈ v.fs, rightR r = true
theorem DV.Good.ok {v : DV} (h : v.Good) (ha : v.a ≤ 990) : v.ok := by
  refine ⟨ok_tree h.l (by have := h.len; omega), h.n, fun q hq => ?_, by have := h.es; omega, by have := h.fl; omega, h.fr, by omega⟩
  obtain ⟨h1, h2, h3, h4⟩ := h.p q hq
  exact ⟨by rw [h4]; exact rgD_right h.l h1 h2 h3, h1, h2⟩
def lowP (l : List It) (p : Pt) : Pt := ⟨p.f, p.f + (p.t - p.f) / 2, ⟨p.r.lo, keyI l (p.f + (p.t - p.f) / 2), false⟩⟩
def highP (l : List It) (p : Pt) : Pt := ⟨p.f + (p.t - p.f) / 2, p.t, ⟨keyI l (p.f + (p.t - p.f) / 2), p.r.hi, p.r.op⟩⟩
theorem low_ok {l : List It} {p : Pt} (h : okP l p) (h2 : ¬ p.t < p.f + 2) : okP l (lowP l p) := by
  obtain ⟨a, b, c, d⟩ := h
  refine ⟨by simp only [lowP]; omega, by simp only [lowP]; omega, .inl (by simp only [lowP]; omega), ?_⟩
  simp only [lowP]
  rw [d]
  exact rgD_lo (by omega)
theorem high_ok {l : List It} {p : Pt} (h : okP l p) (h2 : ¬ p.t < p.f + 2) : okP l (highP l p) := by
  obtain ⟨a, b, c, d⟩ := h
  refine ⟨by simp only [highP]; omega, by simp only [highP]; omega, .inl (by simp only [highP]; omega), ?_⟩
  simp only [highP]
  rw [d]
  exact rgD_hi (by omega)
theorem tell_st {v : DV} {rest : List Pt} {p : Pt} (hn : v.n ≤ v.es.length) (h : v.st = rest ++ [p]) (b : Bool) :
    v.told b = true ∧ (v.tell b).l = v.l ∧ (v.tell b).a = v.a + 1 ∧ (v.tell b).n ≤ (v.tell b).es.length ∧ (v.tell b).es.length ≤ v.es.length + 1 ∧
    (v.tell b).st = (if b = true then rest else if p.t < p.f + 2 then rest else rest ++ [highP v.l p, lowP v.l p]) ∧
    (v.tell b).fs = (if b = true then v.fs else if p.t < p.f + 2 then v.fs ++ [p.r] else v.fs) := by
  obtain ⟨l, seed, bits, es, n, fs, a⟩ := v
  simp only [DV.st] at hn h
  have hlen := congrArg List.length h
  rw [List.length_take, List.length_append, List.length_singleton, Nat.min_eq_left hn] at hlen
  subst hlen
  have hm : rest.length < es.length := by omega
  have e1 : es[rest.length]? = some p := by
    have := congrArg (fun x => x[rest.length]?) h
    simp only [List.getElem?_take, if_pos (Nat.lt_succ_self _)] at this
    rw [this]; simp
  have e2 : es.take rest.length = rest := by
    have := congrArg (List.take rest.length) h
    rw [List.take_take, Nat.min_eq_left (by omega)] at this
    rw [this]; simp
  unfold DV.tell DV.told tellS DV.st
  simp only [e1]
  cases b with
  | true => simp [e2]; omega
  | false =>
    simp only [Bool.false_eq_true, if_false]
    by_cases c : p.t < p.f + 2
    · simp [c, e2]; omega
    · simp [c, e2, highP, lowP]
      exact ⟨by omega, List.take_of_length_le (by simp)⟩
theorem tell_none {v : DV} (hn : v.n ≤ v.es.length) (h : v.st = []) (b : Bool) : v.told b = false ∧ v.tell b = v := by
  obtain ⟨l, seed, bits, es, n, fs, a⟩ := v
  simp only [DV.st] at hn h
  have hlen := congrArg List.length h
  rw [List.length_take, Nat.min_eq_left hn] at hlen
  simp only [List.length_nil] at hlen
  subst hlen
  exact ⟨rfl, rfl⟩
theorem DV.Good.tell {v : DV} (h : v.Good) (b : Bool) : (v.tell b).Good := by
  rcases List.eq_nil_or_concat v.st with hs | ⟨rest, p, hs⟩
  · rw [(tell_none h.n hs b).2]; exact h
  · rw [List.concat_eq_append] at hs
    obtain ⟨h1, h2, h3, h4, h5, h6, h7⟩ := tell_st h.n hs b
    have hp := h.p p (by rw [hs]; simp)
    have hrest : ∀ q ∈ rest, okP v.l q := fun q hq => h.p q (by rw [hs]; simp [hq])
    have hpr : rightR p.r = true := by
      obtain ⟨a1, a2, a3, a4⟩ := hp
      rw [a4]; exact rgD_right h.l a1 a2 a3
    refine ⟨by rw [h2]; exact h.l, by rw [h2]; exact h.len, h4, by rw [h3]; have := h.es; omega, ?_, ?_, ?_⟩
    · rw [h6, h2]
      intro q hq
      split at hq
      · exact hrest q hq
      · split at hq
        · exact hrest q hq
        · rename_i hc
          simp only [List.mem_append, List.mem_cons, List.not_mem_nil, or_false] at hq
          rcases hq with hq | rfl | rfl
          · exact hrest q hq
          · exact high_ok hp hc
          · exact low_ok hp hc
    · rw [h7, h3]
      have := h.fl
      split
      · omega
      · split
        · simp; omega
        · omega
    · rw [h7]
      intro r hr
      split at hr
      · exact h.fr r hr
      · split at hr
        · rcases List.mem_append.1 hr with hr | hr
          · exact h.fr r hr
          · rw [List.mem_singleton.1 hr]; exact hpr
        · exact h.fr r hr
theorem good0 {l : List It} (hl : rightL18 l = true) (h : l.length ≤ 100) (seed bits : Int) : (dv0 l seed bits).Good := by
  refine ⟨hl, h, by simp [dv0], by simp [dv0], ?_, by simp [dv0], by simp [dv0]⟩
  intro q hq
  simp [dv0, DV.st] at hq
  subst hq
  refine ⟨by simp [dv0], by simp [dv0], ?_, by simp [rgD, dv0]⟩
  cases l with
  | nil => exact .inr rfl
  | cons x l => exact .inl (by simp [dv0])
def vk (l : List It) (seed bits : Int) (ws : List Bool) (k : Nat) : DV := (ws.take k).foldl DV.tell (dv0 l seed bits)
theorem vk_next {l : List It} {seed bits : Int} {ws : List Bool} {k : Nat} {b : Bool} (h : ws[k]? = some b) : vk l seed bits ws (k + 1) = (vk l seed bits ws k).tell b := by
  unfold vk
  rw [List.take_add_one, h, List.foldl_append]
  rfl
theorem vk_good {l : List It} (hl : rightL18 l = true) (h : l.length ≤ 100) (seed bits : Int) (ws : List Bool) : ∀ k, (vk l seed bits ws k).Good ∧ (vk l seed bits ws k).a ≤ k ∧ (vk l seed bits ws k).l = l ∧ (vk l seed bits ws k).seed = seed ∧ (vk l seed bits ws k).bits = bits
  | 0 => ⟨good0 hl h seed bits, Nat.le_refl _, rfl, rfl, rfl⟩
  | k + 1 => by
    obtain ⟨i1, i2, i3, i4, i5⟩ := vk_good hl h seed bits ws k
    rcases hk : ws[k]? with _ | b
    · have e : vk l seed bits ws (k + 1) = vk l seed bits ws k := by
        unfold vk
        have := List.getElem?_eq_none_iff.1 hk
        rw [List.take_of_length_le (by omega), List.take_of_length_le (by omega)]
      rw [e]
      exact ⟨i1, by omega, i3, i4, i5⟩
    · rw [vk_next hk]
      refine ⟨i1.tell b, ?_, i3, i4, i5⟩
      rcases List.eq_nil_or_concat (vk l seed bits ws k).st with hs | ⟨rest, p, hs⟩
      · rw [(tell_none i1.n hs b).2]; omega
      · rw [List.concat_eq_append] at hs
        rw [(tell_st i1.n hs b).2.2.1]; omega
theorem goW_run (l : List It) (ws : List Bool) (v : Nat → DV) (hl : ∀ i, (v i).l = l) (hn : ∀ i, (v i).n ≤ (v i).es.length) (hv : ∀ i b, ws[i]? = some b → v (i + 1) = (v i).tell b) :
    ∀ (b f t : Nat) (r : Rng) (qs fs : List Rng) (rest : List Pt), t - f < b → qs.length ≤ ws.length → (v qs.length).st = rest ++ [⟨f, t, r⟩] → (v qs.length).fs = fs →
      (∀ i, qs.length ≤ i → i < (goW l ws b f t r qs fs).1.length → ∃ rest p, (v i).st = rest ++ [p] ∧ (goW l ws b f t r qs fs).1[i]? = some p.r) ∧
      qs <+: (goW l ws b f t r qs fs).1 ∧
      ((goW l ws b f t r qs fs).2.2 = true → (v (goW l ws b f t r qs fs).1.length).st = rest ∧ (v (goW l ws b f t r qs fs).1.length).fs = (goW l ws b f t r qs fs).2.1 ∧ (goW l ws b f t r qs fs).1.length ≤ ws.length) ∧
      ((goW l ws b f t r qs fs).2.2 = false → (goW l ws b f t r qs fs).1.length = ws.length + 1 ∧ (v ws.length).fs = (goW l ws b f t r qs fs).2.1 ∧ (v ws.length).st ≠ [])
  | 0, f, t, r, qs, fs, rest, hb, _, _, _ => absurd hb (Nat.not_lt_zero _)
  | b + 1, f, t, r, qs, fs, rest, hb, hq, hs, hf => by
    have base : ∀ i, qs.length ≤ i → i < (qs ++ [r]).length → ∃ rest p, (v i).st = rest ++ [p] ∧ (qs ++ [r])[i]? = some p.r := fun i h1 h2 => by
      simp at h2
      have e : i = qs.length := by omega
      subst e
      exact ⟨rest, ⟨f, t, r⟩, hs, by simp⟩
    unfold goW
    by_cases c1 : ws.length < qs.length + 1
    · rw [if_pos c1]
      have e : ws.length = qs.length := by omega
      refine ⟨base, ⟨[r], rfl⟩, by simp, fun _ => ⟨by simp; omega, by rw [e]; exact hf, by rw [e, hs]; simp⟩⟩
    · rw [if_neg c1]
      have hlt : qs.length < ws.length := by omega
      have e0 : ws[qs.length]? = some ws[qs.length] := List.getElem?_eq_getElem hlt
      have T := tell_st (hn qs.length) hs ws[qs.length]
      rw [← hv _ _ e0] at T
      obtain ⟨-, -, -, -, -, t6, t7⟩ := T
      rw [e0]
      have hlen : (qs ++ [r]).length = qs.length + 1 := by simp
      cases ha : ws[qs.length] with
      | true =>
        rw [ha] at t6 t7
        rw [if_pos rfl] at t6 t7
        rw [if_pos rfl]
        refine ⟨base, ⟨[r], rfl⟩, fun _ => ⟨by simp only [hlen]; exact t6, by simp only [hlen]; rw [t7]; exact hf, by simp; omega⟩, by simp⟩
      | false =>
        rw [ha] at t6 t7
        rw [if_neg (by decide)] at t6 t7
        rw [if_neg (by simp)]
        by_cases c3 : t < f + 2
        · rw [if_pos c3] at t6 t7
          rw [if_pos c3]
          refine ⟨base, ⟨[r], rfl⟩, fun _ => ⟨by simp only [hlen]; exact t6, by simp only [hlen]; rw [t7, hf], by simp; omega⟩, by simp⟩
        · rw [if_neg c3] at t6 t7
          rw [if_neg c3]
          rw [hl] at t6
          simp only [highP, lowP] at t6
          have i1 := goW_run l ws v hl hn hv b f (f + (t - f) / 2) ⟨r.lo, keyI l (f + (t - f) / 2), false⟩ (qs ++ [r]) fs (rest ++ [⟨f + (t - f) / 2, t, ⟨keyI l (f + (t - f) / 2), r.hi, r.op⟩⟩]) (by omega) (by simp; omega) (by rw [hlen, t6]; simp) (by rw [hlen, t7]; exact hf)
          generalize goW l ws b f (f + (t - f) / 2) ⟨r.lo, keyI l (f + (t - f) / 2), false⟩ (qs ++ [r]) fs = g at *
          obtain ⟨q, fs', d⟩ := g
          obtain ⟨j1, j2, j3, j4⟩ := i1
          simp only at j1 j2 j3 j4
          have jb : ∀ i, qs.length ≤ i → i < q.length → ∃ rest p, (v i).st = rest ++ [p] ∧ q[i]? = some p.r := fun i h1 h2 => by
            by_cases hi : i < (qs ++ [r]).length
            · obtain ⟨r1, p1, a1, a2⟩ := base i h1 hi
              refine ⟨r1, p1, a1, ?_⟩
              obtain ⟨s, rfl⟩ := j2
              rw [List.getElem?_append_left hi]; exact a2
            · exact j1 i (by omega) h2
          have hpre : qs <+: q := List.IsPrefix.trans (⟨[r], rfl⟩ : qs <+: qs ++ [r]) j2
          cases d with
          | false => exact ⟨jb, hpre, by simp, fun _ => j4 rfl⟩
          | true =>
            obtain ⟨k1, k2, k3⟩ := j3 rfl
            obtain ⟨m1, m2, m3, m4⟩ := goW_run l ws v hl hn hv b (f + (t - f) / 2) t ⟨keyI l (f + (t - f) / 2), r.hi, r.op⟩ q fs' rest (by omega) k3 k1 k2
            simp only
            refine ⟨fun i h1 h2 => ?_, List.IsPrefix.trans hpre m2, m3, m4⟩
            by_cases hi : i < q.length
            · obtain ⟨r1, p1, a1, a2⟩ := jb i h1 hi
              refine ⟨r1, p1, a1, ?_⟩
              obtain ⟨s, e⟩ := m2
              rw [← e, List.getElem?_append_left hi]; exact a2
            · exact m1 i (by omega) h2
set_option maxHeartbeats 32000000
def la32 : List It := [⟨[97], 1, 1, 1, 0, false, []⟩, ⟨[98], 1, 2, 1, 0, false, []⟩]
theorem la_right : rightL18 la32 = true := by decide
def av1 : DV := ⟨la32, 3, 64, [⟨1, 2, ⟨[98], [], true⟩⟩, ⟨0, 1, ⟨[], [98], false⟩⟩], 2, [], 1⟩
def av2 : DV := ⟨la32, 3, 64, [⟨1, 2, ⟨[98], [], true⟩⟩, ⟨0, 1, ⟨[], [98], false⟩⟩], 1, [], 2⟩
def av3 : DV := ⟨la32, 3, 64, [⟨1, 2, ⟨[98], [], true⟩⟩, ⟨0, 1, ⟨[], [98], false⟩⟩], 0, [⟨[98], [], true⟩], 3⟩
theorem av_1 : (dv0 la32 3 64).tell false = av1 := rfl
theorem av_2 : av1.tell true = av2 := rfl
theorem av_3 : av2.tell false = av3 := rfl
theorem av_4 : av3.tell true = av3 := rfl
theorem ok_law32_awake : codeOK Try.prog LQ Try.f6.ntmps (Try.f6.body.getD .skip) = true := by kernel_rfl
theorem c_awake32 : CallA Try.prog 6 [] (· = .bool true) := by
  refine callA_of_body LQ_ok mixed Try.func6 rfl (Nat.le_of_ble_eq_true rfl) ok_law32_awake ?_
  unfold Try.f6
  have G0 := good0 la_right (by decide) 3 64
  have G1 : av1.Good := av_1 ▸ G0.tell false
  have G2 : av2.Good := av_2 ▸ G1.tell true
  have G3 : av3.Good := av_3 ▸ G2.tell false
  have hT := ok_tree (seed := 3) la_right (by decide)
  have n0 := l_NewC (la32, 3, 64) ⟨by decide, fun x hx => rightI_ok ((good18 la_right).1 x hx)⟩
  have n1 := w_Next (x := .some ⟨treeF la32 3, la32, 3, 64, [⟨0, 2, ⟨[], [], true⟩⟩], [], 0⟩) ⟨hT, (by intro p hp; simp at hp; subst hp; decide), by decide, by decide, (by intro r hr; cases hr), by decide⟩
  have t1 := l_Tell (.own (dv0 la32 3 64) false) (G0.ok (by decide))
  have t2 := l_Tell (.own av1 true) (G1.ok (by decide))
  have t3 := l_Tell (.own av2 false) (G2.ok (by decide))
  have t4 := l_Tell (.own av3 true) (G3.ok (by decide))
  have f1 := w_Found (x := .some ⟨treeF la32 3, la32, 3, 64, [], [⟨[98], [], true⟩], 3⟩) ⟨hT, (by intro p hp; cases hp), by decide, by decide, (by intro r hr; simp at hr; subst hr; decide), by decide⟩
  have f2 := w_Asked (x := .some ⟨treeF la32 3, la32, 3, 64, [], [⟨[98], [], true⟩], 3⟩) ⟨hT, (by intro p hp; cases hp), by decide, by decide, (by intro r hr; simp at hr; subst hr; decide), by decide⟩
  have e1 : setS (hasRs [⟨[98], [], true⟩]) = [⟨[98], [], true⟩] := (setS_eq (l := [⟨[98], [], true⟩]) (p := hasRs [⟨[98], [], true⟩]) rfl fun _ => rfl).symm
  have e2 : newS (la32, 3, 64) = (.tup [.ref 0 0, .int .i64 0], (dv0 la32 3 64).obs, []) := if_pos la_right
  have e3 : nextA (.some ⟨treeF la32 3, la32, 3, 64, [⟨0, 2, ⟨[], [], true⟩⟩], [], 0⟩) = .tup [.agg [.str [], .str [], .bool true, .int .u64 (sum21 la32 ⟨[], [], true⟩ 3 64)], .bool true] := rfl
  rw [e2] at n0
  rw [e3] at n1
  simp only [DX.fs] at f1
  rw [e1] at f1
  have u1 : (dv0 la32 3 64).told false = true := rfl
  have u2 : av1.told true = true := rfl
  have u3 : av2.told false = true := rfl
  have u4 : av3.told true = false := rfl
  simp only [TX.enc, TX.obs, TX.spec, u1, u2, u3, u4, av_1, av_2, av_3, av_4] at t1 t2 t3 t4
  unfold dv0 at n0 t1
  unfold av1 at t1 t2
  unfold av2 at t2 t3
  unfold av3 at t3 t4
  clear hT G0 G1 G2 G3 e1 e2 e3 u1 u2 u3 u4
  simp only [DV.obs, dsO, treeA, DX.enc, Ds.cells, DX.a, Pt.enc, Rng.enc, List.map_cons, List.map_nil, List.length_cons, List.length_nil] at n0 n1 t1 t2 t3 t4 f1 f2
  generalize treeF la32 3 = T at *
  generalize sum21 la32 ⟨[], [], true⟩ 3 64 = S at *
  simp only [la32, It.enc, List.map_cons, List.map_nil, List.length_cons, List.length_nil] at n0 n1 t1 t2 t3 t4 f1 f2
  have z0 : ((0 : Nat) : Int) = 0 := rfl
  have z1 : ((1 : Nat) : Int) = 1 := rfl
  have z2 : ((2 : Nat) : Int) = 2 := rfl
  have z3 : ((3 : Nat) : Int) = 3 := rfl
  simp only [Nat.zero_add, Nat.reduceAdd, z0, z1, z2, z3] at n0 n1 t1 t2 t3 t4 f1 f2
  clear z0 z1 z2 z3
  simp -implicitDefEqProofs (maxSteps := 6000000) (disch := (first | omega | decide)) only [go_sem, ↓reduceIte, seval, n0, n1, t1, t2, t3, t4, f1, f2]
set_option maxHeartbeats 64000000
theorem asks_facts {l : List It} (hl : rightL18 l = true) (h : l.length ≤ 100) (seed bits : Int) (ws : List Bool) :
    (∀ k, k < (runW l ws).1.length → ∃ rest p, (vk l seed bits ws k).st = rest ++ [p] ∧ (runW l ws).1[k]? = some p.r) ∧
    ((runW l ws).2.2 = true → (vk l seed bits ws (runW l ws).1.length).st = [] ∧ (vk l seed bits ws (runW l ws).1.length).fs = (runW l ws).2.1 ∧ (runW l ws).1.length ≤ ws.length) ∧
    ((runW l ws).2.2 = false → (runW l ws).1.length = ws.length + 1 ∧ (vk l seed bits ws ws.length).fs = (runW l ws).2.1 ∧ (vk l seed bits ws ws.length).st ≠ []) := by
  have G := vk_good hl h seed bits ws
  obtain ⟨a1, _, a3, a4⟩ := goW_run l ws (vk l seed bits ws) (fun i => (G i).2.2.1) (fun i => (G i).1.n) (fun i b hb => vk_next hb) (l.length + 1) 0 l.length ⟨[], [], true⟩ [] [] [] (by omega) (Nat.zero_le _) rfl rfl
  exact ⟨fun k hk => a1 k (Nat.zero_le _) hk, a3, a4⟩
theorem vk_past {l : List It} {seed bits : Int} {ws : List Bool} {k : Nat} (h : ws.length ≤ k) : vk l seed bits ws k = vk l seed bits ws ws.length := by
  unfold vk
  rw [List.take_of_length_le h, List.take_length]
theorem asks_a {l : List It} (hl : rightL18 l = true) (h : l.length ≤ 100) (seed bits : Int) (ws : List Bool) : ∀ k, k ≤ (runW l ws).1.length → (vk l seed bits ws k).a = min k ws.length
  | 0, _ => by simp [vk, dv0]
  | k + 1, hk => by
    have ih := asks_a hl h seed bits ws k (by omega)
    obtain ⟨rest, p, hs, _⟩ := (asks_facts hl h seed bits ws).1 k (by omega)
    rcases Nat.lt_or_ge k ws.length with hw | hw
    · rw [vk_next (List.getElem?_eq_getElem hw), (tell_st ((vk_good hl h seed bits ws k).1.n) hs _).2.2.1, ih]
      omega
    · rw [vk_past (show ws.length ≤ k + 1 by omega), ← vk_past hw, ih]; omega
theorem setS_len (l : List Rng) : (setS (hasRs l)).length ≤ l.length := by
  rw [← srtR_all, List.length_reverse]
  have h1 := foldS_len (srtR l) []
  have h2 := (srtR_perm l).length_eq
  have h3 := List.length_filter_le rightR l
  rw [List.length_nil] at h1
  omega
noncomputable def YU : Tab := LQ.add 6 (entry (fun _ : Unit => []) (fun _ => True) (fun _ => .bool true))
theorem YU_ok : TabOK Try.prog YU := LQ_ok.ent Try.func6 (by kernel_rfl) (by kernel_rfl) fun _ _ => c_awake32
@[go_sem] theorem YU_old {g : FuncId} {xs : List A} (h : g ≠ 6) : YU.f g xs = Y32a.f g xs := Tab.add_ne h
theorem u_awake : YU.f 6 [] = some (.bool true) := Tab.add_eq.trans (entry_eq (enc := fun _ : Unit => []) (fun _ _ _ => rfl) () trivial)
noncomputable def LD : Tab := { YU with eff := fun f => f == 8 || f == 13, frz := fun _ => false, ords := fun n => if n = 25 then [[999999, 1, 2, 3, 5]] else [] }
theorem LD_ok : TabOK Try.prog LD := ⟨YU_ok.f, YU_ok.hp⟩
@[go_sem] theorem LD_f : LD.f = YU.f := rfl
@[go_sem] theorem LD_hp : LD.hp = LQ.hp := rfl
@[go_sem] theorem LD_eff {g : FuncId} : LD.eff g = (g == 8 || g == 13) := rfl
@[go_sem] theorem LD_frz {g : FuncId} : LD.frz g = false := rfl
@[go_sem] theorem LD_fix {n : Nat} : LD.fix n = false := rfl
@[go_sem] theorem LD_ords25 : LD.ords 25 = [[999999, 1, 2, 3, 5]] := rfl
@[go_sem] theorem LD_ords0 : LD.ords 0 = [] := rfl
@[go_sem] theorem LD_ords1 : LD.ords 1 = [] := rfl
@[go_sem] theorem LD_ords3 : LD.ords 3 = [] := rfl
@[go_sem] theorem LD_ords4 : LD.ords 4 = [] := rfl
@[go_sem] theorem LD_ords5 : LD.ords 5 = [] := rfl
@[go_sem] theorem LD_ords6 : LD.ords 6 = [] := rfl
@[go_sem] theorem LD_ords7 : LD.ords 7 = [] := rfl
@[go_sem] theorem LD_ords8 : LD.ords 8 = [] := rfl
@[go_sem] theorem LD_ords9 : LD.ords 9 = [] := rfl
@[go_sem] theorem LD_ords11 : LD.ords 11 = [] := rfl
@[go_sem] theorem LD_ords12 : LD.ords 12 = [] := rfl
@[go_sem] theorem LD_ords13 : LD.ords 13 = [] := rfl
@[go_sem] theorem LD_ords14 : LD.ords 14 = [] := rfl
@[go_sem] theorem LD_ords15 : LD.ords 15 = [] := rfl
@[go_sem] theorem LD_ords16 : LD.ords 16 = [] := rfl
@[go_sem] theorem LD_ords18 : LD.ords 18 = [] := rfl
@[go_sem] theorem LD_ords20 : LD.ords 20 = [] := rfl
@[go_sem] theorem LD_ords21 : LD.ords 21 = [] := rfl
@[go_sem] theorem LD_ords22 : LD.ords 22 = [] := rfl
@[go_sem] theorem LD_ords23 : LD.ords 23 = [] := rfl
@[go_sem] theorem LD_ords24 : LD.ords 24 = [] := rfl
theorem rem70 {s : Int} (h : 0 ≤ s) (h2 : s < 18446744073709551616) : IntKind.i64.wrap (s.tmod 70) = s.tmod 70 ∧ 0 ≤ s.tmod 70 := by
  have h3 : s.tmod 70 = s % 70 := Int.tmod_eq_emod_of_nonneg h
  rw [h3]
  exact ⟨by rw [wrap_i64]; omega, by omega⟩
theorem ok_law32_DescentAsks : codeOK Try.prog LD Try.f3.ntmps (Try.f3.body.getD .skip) = true := by kernel_rfl
theorem c_Asks (l : List It) (s0 s1 : Int) (ws : List Bool) (hl : l.length ≤ 9223372036854775807) (ho : okI l) (hw : ws.length ≤ 9223372036854775807) (h1 : 0 ≤ s1) (h2 : s1 < 18446744073709551616) :
    CallA Try.prog 3 [.slc (l.map It.enc), .agg [.int .u64 s0, .int .u64 s1], .slc (ws.map .bool)] (· = .bool true) := by
  refine callA_of_body LD_ok mixed Try.func3 rfl (Nat.le_of_ble_eq_true rfl) ok_law32_DescentAsks ?_
  unfold Try.f3
  obtain ⟨q1, q2⟩ := rem70 h1 h2
  have g0 := u_awake
  have g1 := i_rLong (l := l) (m := 20) (by omega)
  cases hlong : longI l 20 with
  | true =>
    rw [hlong] at g1
    simp -implicitDefEqProofs (maxSteps := 6000000) (disch := (first | omega | decide)) only [go_sem, ↓reduceIte, seval, g0, g1, List.length_map]
  | false =>
    have hl20 : l.length ≤ 20 := by have := longI_len hlong; omega
    have g2 := i_rList (l := l) ⟨by omega, ho⟩
    rw [hlong] at g1
    by_cases hws : 60 < ws.length
    · have hws' : (60 : Int) < (ws.length : Int) := by omega
      simp -implicitDefEqProofs (maxSteps := 6000000) (disch := (first | omega | decide)) only [go_sem, ↓reduceIte, seval, g0, g1, hws', List.length_map]
    · have hws' : ¬ (60 : Int) < (ws.length : Int) := by omega
      generalize hb : s1.tmod 70 = bits at *
      have n0 := l_New (l, s0, bits) ⟨by simp only; omega, ho⟩
      unfold newS at n0
      simp only at n0
      cases hr : rightL18 l with
      | false =>
        rw [hr] at n0 g2
        rw [if_neg (by decide)] at n0
        simp -implicitDefEqProofs (maxSteps := 6000000) (disch := (first | omega | decide)) only [go_sem, ↓reduceIte, seval, g0, g1, g2, hws', hb, q1, n0, List.length_map]
      | true =>
        rw [hr] at n0 g2
        rw [if_pos rfl] at n0
        have hri := (good18 hr).1
        have rW : RV.ok (l, s0, bits, ws) := ⟨by simp only; omega, hri, by simp only; omega⟩
        have r1 := Y32a_ref32_Run (l, s0, bits, ws) rW
        have AF := asks_facts hr (show l.length ≤ 100 by omega) s0 bits ws
        have AA := asks_a hr (show l.length ≤ 100 by omega) s0 bits ws
        have VG := vk_good hr (show l.length ≤ 100 by omega) s0 bits ws
        have e0 : (dv0 l s0 bits).obs = (vk l s0 bits ws 0).obs := rfl
        have VN : ∀ k, vk l s0 bits ws (k + 1) = if h : k < ws.length then (vk l s0 bits ws k).tell ws[k] else vk l s0 bits ws k := fun k => by
          split
          · rename_i h; exact vk_next (List.getElem?_eq_getElem h)
          · rename_i h; rw [vk_past (show ws.length ≤ k + 1 by omega), ← vk_past (show ws.length ≤ k by omega)]
        have V0 : vk l s0 bits ws 0 = dv0 l s0 bits := rfl
        have QL := goW_inv l ws (l.length + 1) 0 l.length ⟨[], [], true⟩ [] [] (Nat.zero_le _) (Nat.le_refl _)
        simp only at r1
        unfold wkA at r1
        unfold runW at r1 AF AA
        generalize vk l s0 bits ws = v at *
        generalize goW l ws (l.length + 1) 0 l.length ⟨[], [], true⟩ [] [] = g at *
        obtain ⟨Q, F, done⟩ := g
        simp only at r1 AF AA QL
        have hT := ok_tree (seed := s0) hr (show l.length ≤ 1000 by omega)
        unfold dv0 at n0
        simp only [DV.obs, dsO, treeA, Pt.enc, Rng.enc, List.map_cons, List.map_nil, List.length_cons, List.length_nil] at n0
        generalize hTT : treeF l s0 = T at *
        have y1 : (v 0).es = [⟨0, l.length, ⟨[], [], true⟩⟩] := by rw [V0]; rfl
        have y2 : (v 0).n = 1 := by rw [V0]; rfl
        have y3 : (v 0).fs = [] := by rw [V0]; rfl
        have y4 : (v 0).a = 0 := by rw [V0]; rfl
        have tQ : List.take Q.length (Q.map (qe l s0 bits)) = Q.map (qe l s0 bits) := List.take_of_length_le (by simp)
        simp -implicitDefEqProofs (maxSteps := 6000000) (disch := (first | omega | decide)) only [go_sem, ↓reduceIte, seval, g0, g1, g2, hws', hb, q1, n0, r1, List.length_map]
        refine wpA_loop [2, 8, 10, 11, 66, 67] (ι := {k : Nat // k ≤ Q.length}) (fun k => [(68, .int .i64 (k.1 : Nat))])
          (fun k => [(1, .box [.dptr [encM T, .int .u64 s0, .int .i64 bits], .row 2 0 5 (v k.1).n false, .row 3 0 3 (v k.1).fs.length false, .int .i64 (v k.1).a]), (2, .row 5 ((v k.1).es.map Pt.enc)), (3, .row 3 ((v k.1).fs.map Rng.enc))])
          (fun k => Q.length - k.1) ⟨0, Nat.zero_le _⟩ (Nat.zero_le _) ?_ ?_
        · simp -implicitDefEqProofs (disch := (first | omega | decide)) only [go_sem, ↓reduceIte, seval, y1, y2, y3, y4, Pt.enc]
        · rintro ⟨k, hk⟩
          simp only at hk ⊢
          obtain ⟨kG, kA, kl, ks, kb⟩ := VG k
          have hQl : Q.length ≤ 61 := by omega
          have kok : (v k).ok := kG.ok (by omega)
          have kd : Ds.ok ⟨T, l, s0, bits, (v k).st, (v k).fs, (v k).a⟩ := by
            obtain ⟨o1, o2, o3, o4, o5, o6, o7⟩ := kok
            exact ⟨hT, fun p hp => (o3 p hp).1, by simp only [DV.st, List.length_take]; omega, by simp only; omega, o6, by simp only; omega⟩
          have n1 := w_Next (x := .some ⟨T, l, s0, bits, (v k).st, (v k).fs, (v k).a⟩) kd
          have a1 := w_Asked (x := .some ⟨T, l, s0, bits, (v k).st, (v k).fs, (v k).a⟩) kd
          have vt : List.take (v k).n ((v k).es.map Pt.enc) = (v k).st.map Pt.enc := List.map_take.symm
          have hn := kG.n
          have hfl : (v k).fs.length ≤ (v k).fs.length := Nat.le_refl _
          simp only [DX.enc, Ds.cells, treeA, DX.a] at n1 a1
          by_cases hkQ : k < Q.length
          · obtain ⟨rest, p, hs, hq⟩ := AF.1 k hkQ
            have hkQ' : (k : Int) < (Q.length : Int) := by omega
            have hqe : (Q.map (qe l s0 bits))[k]? = some (.agg [.str p.r.lo, .str p.r.hi, .bool p.r.op, .int .u64 (sum21 l p.r s0 bits)]) := by rw [List.getElem?_map, hq]; rfl
            have en : nextA (.some ⟨T, l, s0, bits, (v k).st, (v k).fs, (v k).a⟩) = .tup [.agg [.str p.r.lo, .str p.r.hi, .bool p.r.op, .int .u64 (sum21 l p.r s0 bits)], .bool true] := by
              unfold nextA; simp only; rw [hs, List.getLast?_append]; rfl
            rw [en] at n1
            have ha := AA k hk
            have vn := VN k
            generalize sum21 l p.r s0 bits = S at *
            obtain ⟨pf, pt, lo, hi, op⟩ := p
            simp only at hqe n1
            have k0 : (0 : Int) ≤ (k : Int) := by omega
            have k1 : ((k : Nat) : Int).toNat = k := Int.toNat_natCast _
            have k2 : IntKind.i64.wrap ((k : Int) + 1) = ((k + 1 : Nat) : Int) := by rw [wrap_i64 (by omega)]; omega
            by_cases hkw : k < ws.length
            · rw [dif_pos hkw] at vn
              have hak : (v k).a = k := by omega
              have hkw' : (k : Int) < (ws.length : Int) := by omega
              have hwk : (ws.map A.bool)[k]? = some (.bool ws[k]) := by rw [List.getElem?_map, List.getElem?_eq_getElem hkw]; rfl
              have t1 := l_Tell (.own (v k) ws[k]) kok
              have told := (tell_st hn hs ws[k]).1
              simp only [TX.enc, TX.obs, TX.spec, told] at t1
              rw [← vn] at t1
              have m2 := VG (k + 1)
              simp only [DV.obs, dsO, treeA, kl, ks, kb, hTT, m2.2.2.1, m2.2.2.2.1, m2.2.2.2.2] at t1
              rw [hak] at n1 a1 t1
              clear told vn hs hq en
              generalize v k = u at *
              generalize hu' : v (k + 1) = u' at *
              generalize ws[k] = b at *
              simp -implicitDefEqProofs (maxSteps := 6000000) (disch := (first | omega | decide)) only [go_sem, ↓reduceIte, seval, hkQ', hqe, n1, a1, vt, hn, hfl, hak, hkw', hwk, t1, k0, k1, k2, List.length_map, Nat.le_refl]
              refine ⟨⟨k + 1, hkQ⟩, ?_, by simp only; omega⟩
              simp [hu']
            · rw [dif_neg hkw] at vn
              have hak : (v k).a = k := by omega
              have hkw' : ¬ (k : Int) < (ws.length : Int) := by omega
              rw [hak] at n1 a1
              clear hs hq en
              generalize v k = u at *
              simp -implicitDefEqProofs (maxSteps := 6000000) (disch := (first | omega | decide)) only [go_sem, ↓reduceIte, seval, hkQ', hqe, n1, a1, vt, hn, hfl, hak, hkw', k0, k1, k2, List.length_map, Nat.le_refl]
              refine ⟨⟨k + 1, hkQ⟩, ?_, by simp only; omega⟩
              simp [vn, hak]
          · have hkQ' : ¬ (k : Int) < (Q.length : Int) := by omega
            have hke : k = Q.length := by omega
            have ha := AA k hk
            have n2 := w_Next (x := .nil) trivial
            have n3 := w_Asked (x := .nil) trivial
            have n4 := w_Asked (x := .plain) trivial
            have n5 := w_Found (x := .nil) trivial
            have n6 := w_Found (x := .plain) trivial
            have t2 := l_Tell (.nil true) trivial
            have t3 := l_Tell (.dplain true) trivial
            have e0 : setS (hasRs []) = [] := (setS_eq (l := []) (p := hasRs []) rfl fun _ => rfl).symm
            have f1 := w_Found (x := .some ⟨T, l, s0, bits, (v k).st, (v k).fs, (v k).a⟩) kd
            simp only [DX.enc, Ds.cells, treeA, DX.a, DX.fs, nextA, noQ, e0, List.map_nil, TX.enc, TX.obs, TX.spec] at n2 n3 n4 n5 n6 t2 t3 f1
            cases done with
            | true =>
              obtain ⟨b1, b2, b3⟩ := AF.2.1 rfl
              rw [← hke] at b1 b2 b3
              rw [b1] at n1 a1
              rw [b1] at vt
              have t4 := l_Tell (.frz ⟨T, l, s0, bits, [], (v k).fs, (v k).a⟩ true) ⟨by rw [b1] at kd; exact kd, rfl⟩
              rw [b1] at f1
              simp only [TX.enc, TX.obs, TX.spec, Ds.cells, treeA, List.map_nil] at t4
              have en : nextA (.some ⟨T, l, s0, bits, [], (v k).fs, (v k).a⟩) = noQ := by unfold nextA; simp
              rw [en] at n1
              simp only [noQ, List.map_nil] at n1 a1 f1 vt
              generalize v k = u at *
              have hkQl : (u.a : Int) = (Q.length : Int) := by omega
              rw [hkQl] at n1 a1 f1 t4
              have zl := setS_len F
              have sm := j_ref08_Same (a := setS (hasRs F)) (b := setS (hasRs F)) ⟨by omega, by omega⟩
              have ss : sameRs (setS (hasRs F)) (setS (hasRs F)) = true := by simp [sameRs]
              rw [ss] at sm
              subst b2
              generalize setS (hasRs u.fs) = Z at *
              have mn : (Q.length : Int) ≤ (ws.length : Int) := by omega
              have mn2 : ¬ (ws.length : Int) < (Q.length : Int) := by omega
              clear b1 ss zl
              simp -implicitDefEqProofs (maxSteps := 6000000) (disch := (first | omega | decide)) only [go_sem, ↓reduceIte, seval, hkQ', n1, n2, n3, n4, n5, n6, a1, f1, t2, t3, t4, vt, hn, hfl, sm, mn, mn2, hkQl, List.length_map, Nat.le_refl]
              decide
            | false =>
              obtain ⟨b1, b2, b3⟩ := AF.2.2 rfl
              have hkw : k = ws.length + 1 := by omega
              have vk1 : v k = v ws.length := by
                have := VN ws.length
                rw [dif_neg (Nat.lt_irrefl _)] at this
                rw [hkw]; exact this
              rw [← vk1] at b2 b3
              obtain ⟨rest, p, hs⟩ : ∃ rest p, (v k).st = rest ++ [p] := by
                rcases List.eq_nil_or_concat (v k).st with h | ⟨rest, p, h⟩
                · exact absurd h b3
                · exact ⟨rest, p, by rw [h, List.concat_eq_append]⟩
              have en : nextA (.some ⟨T, l, s0, bits, (v k).st, (v k).fs, (v k).a⟩) = .tup [.agg [.str p.r.lo, .str p.r.hi, .bool p.r.op, .int .u64 (sum21 l p.r s0 bits)], .bool true] := by
                unfold nextA; simp only; rw [hs, List.getLast?_append]; rfl
              rw [en] at n1
              generalize sum21 l p.r s0 bits = S at *
              obtain ⟨pf, pt, lo, hi, op⟩ := p
              simp only at n1
              clear hs en vk1 b3
              generalize v k = u at *
              have hkQl : (u.a : Int) = (ws.length : Int) := by omega
              rw [hkQl] at n1 a1 f1
              have zl := setS_len F
              have sm := j_ref08_Same (a := setS (hasRs F)) (b := setS (hasRs F)) ⟨by omega, by omega⟩
              have ss : sameRs (setS (hasRs F)) (setS (hasRs F)) = true := by simp [sameRs]
              rw [ss] at sm
              subst b2
              generalize setS (hasRs u.fs) = Z at *
              have mn : ¬ (Q.length : Int) ≤ (ws.length : Int) := by omega
              have mn2 : (ws.length : Int) < (Q.length : Int) := by omega
              clear ss zl
              simp -implicitDefEqProofs (maxSteps := 6000000) (disch := (first | omega | decide)) only [go_sem, ↓reduceIte, seval, hkQ', n1, n2, n3, n4, n5, n6, a1, f1, t2, t3, vt, hn, hfl, sm, mn, mn2, hkQl, List.length_map, Nat.le_refl]
              decide
def lvD (l : List It) : Nat → Nat → Nat → List Rng
  | 0, _, _ => []
  | b + 1, f, t => if t < f + 2 then [rgD l f t] else lvD l b f (f + (t - f) / 2) ++ lvD l b (f + (t - f) / 2) t
theorem falses_run (l : List It) (v : Nat → DV) (hl : ∀ i, (v i).l = l) (hn : ∀ i, (v i).n ≤ (v i).es.length) (hv : ∀ i, v (i + 1) = (v i).tell false) :
    ∀ (b f t : Nat) (rest : List Pt) (k : Nat), t - f < b → f ≤ t → t ≤ l.length → (v k).st = rest ++ [⟨f, t, rgD l f t⟩] →
      (v (k + (if t < f + 2 then 1 else 2 * (t - f) - 1))).st = rest ∧ (v (k + (if t < f + 2 then 1 else 2 * (t - f) - 1))).a = (v k).a + (if t < f + 2 then 1 else 2 * (t - f) - 1) ∧ (v (k + (if t < f + 2 then 1 else 2 * (t - f) - 1))).fs = (v k).fs ++ lvD l b f t
  | 0, f, t, rest, k, hb, _, _, _ => absurd hb (Nat.not_lt_zero _)
  | b + 1, f, t, rest, k, hb, h1, h2, hs => by
    obtain ⟨-, -, t3, -, -, t6, t7⟩ := tell_st (hn k) hs false
    rw [← hv k] at t3 t6 t7
    rw [if_neg (by decide)] at t6 t7
    unfold lvD
    by_cases c : t < f + 2
    · simp only [if_pos c] at t6 t7 ⊢
      exact ⟨t6, t3, t7⟩
    · simp only [if_neg c] at t6 t7 ⊢
      rw [hl] at t6
      simp only [highP, lowP] at t6
      rw [rgD_hi (show f < f + (t - f) / 2 by omega), rgD_lo (show f + (t - f) / 2 < l.length by omega)] at t6
      obtain ⟨a1, a2, a3⟩ := falses_run l v hl hn hv b f (f + (t - f) / 2) (rest ++ [⟨f + (t - f) / 2, t, rgD l (f + (t - f) / 2) t⟩]) (k + 1) (by omega) (by omega) (by omega) (by rw [t6]; simp)
      generalize hq : (if f + (t - f) / 2 < f + 2 then 1 else 2 * (f + (t - f) / 2 - f) - 1) = q at *
      obtain ⟨b1, b2, b3⟩ := falses_run l v hl hn hv b (f + (t - f) / 2) t rest (k + 1 + q) (by omega) (by omega) h2 a1
      generalize hq' : (if t < f + (t - f) / 2 + 2 then 1 else 2 * (t - (f + (t - f) / 2)) - 1) = q' at *
      have e1 : q = 2 * ((t - f) / 2) - 1 := by rw [← hq]; split <;> omega
      have e2 : q' = 2 * (t - f - (t - f) / 2) - 1 := by rw [← hq']; split <;> omega
      have e : k + (2 * (t - f) - 1) = k + 1 + q + q' := by omega
      rw [e]
      refine ⟨b1, by rw [b2, a2, t3]; omega, by rw [b3, a3, t7, List.append_assoc]⟩
theorem hasR_split {l : List It} (hl : rightL18 l = true) {f m t : Nat} (h1 : f < m) (h2 : m < t) (h3 : t ≤ l.length) (s : List UInt8) : hasR (rgD l f t) s = (hasR (rgD l f m) s || hasR (rgD l m t) s) := by
  unfold hasR
  rw [rgD_right hl (by omega) h3 (.inl (by omega)), rgD_right hl (by omega) (by omega) (.inl h1), rgD_right hl (by omega) h3 (.inl h2)]
  simp only [Bool.true_and]
  have hml : m < l.length := by omega
  have e1 : (rgD l f m).hi = keyI l m := by unfold rgD; simp only; rw [if_neg (by omega)]
  have e2 : (rgD l f m).op = false := by unfold rgD; simp only; rw [decide_eq_false (by omega)]
  have e3 : (rgD l m t).lo = keyI l m := by unfold rgD; simp only; rw [if_neg (by omega)]
  have e4 : (rgD l f m).lo = (rgD l f t).lo := rfl
  have e5 : (rgD l m t).hi = (rgD l f t).hi := rfl
  have e6 : (rgD l m t).op = (rgD l f t).op := rfl
  rw [e1, e2, e3, e4, e5, e6]
  have u1 : ltB (rgD l f t).lo (keyI l m) = true := by
    unfold rgD; simp only
    split
    · exact lt_nil (keyI_len hl hml).1
    · exact keyI_lt hl h1 hml
  have u2 : (rgD l f t).op = true ∨ ltB (keyI l m) (rgD l f t).hi = true := by
    unfold rgD; simp only
    by_cases ht : t = l.length
    · exact .inl (by simp [ht])
    · rw [if_neg ht]; exact .inr (keyI_lt hl h2 (by omega))
  generalize (rgD l f t).lo = lo at *
  generalize (rgD l f t).hi = hi at *
  generalize (rgD l f t).op = op at *
  generalize keyI l m = k at *
  have v1 : ltB s lo = true → ltB s k = true := fun h => lt_trans' h u1
  have v2 : ltB s k = true → op = true ∨ ltB s hi = true := fun h => by
    rcases u2 with h' | h'
    · exact .inl h'
    · exact .inr (lt_trans' h h')
  cases h1 : ltB s lo <;> cases h2 : ltB s k <;> cases op <;> cases h3 : ltB s hi <;> simp_all
theorem lv_has {l : List It} (hl : rightL18 l = true) : ∀ (b f t : Nat), t - f < b → f ≤ t → t ≤ l.length → ∀ s, hasRs (lvD l b f t) s = hasR (rgD l f t) s
  | 0, f, t, hb, _, _ => absurd hb (Nat.not_lt_zero _)
  | b + 1, f, t, hb, h1, h2 => fun s => by
    unfold lvD
    by_cases c : t < f + 2
    · rw [if_pos c]; simp [hasRs]
    · rw [if_neg c, hasR_split hl (show f < f + (t - f) / 2 by omega) (show f + (t - f) / 2 < t by omega) h2]
      rw [← lv_has hl b f (f + (t - f) / 2) (by omega) (by omega) (by omega), ← lv_has hl b (f + (t - f) / 2) t (by omega) (by omega) h2]
      simp [hasRs]
theorem setS_every {p : List UInt8 → Bool} (h : ∀ s, p s = true) : setS p = [⟨[], [], true⟩] :=
  (setS_eq (l := [⟨[], [], true⟩]) (p := p) rfl fun s => by
    rw [h s]
    cases s <;> rfl).symm
noncomputable def LS : Tab := { YU with eff := fun f => f == 8 || f == 13 || f == 15, frz := fun f => f == 15 }
theorem LS_ok : TabOK Try.prog LS := ⟨YU_ok.f, YU_ok.hp⟩
@[go_sem] theorem LS_f : LS.f = YU.f := rfl
@[go_sem] theorem LS_hp : LS.hp = LQ.hp := rfl
@[go_sem] theorem LS_eff {g : FuncId} : LS.eff g = (g == 8 || g == 13 || g == 15) := rfl
@[go_sem] theorem LS_frz {g : FuncId} : LS.frz g = (g == 15) := rfl
@[go_sem] theorem LS_fix {n : Nat} : LS.fix n = false := rfl
@[go_sem] theorem LS_ords {n : Nat} : LS.ords n = [] := rfl
def nk (l : List It) (seed bits : Int) : Nat → DV
  | 0 => dv0 l seed bits
  | k + 1 => (nk l seed bits k).tell false
theorem nk_good {l : List It} (hl : rightL18 l = true) (h : l.length ≤ 100) (seed bits : Int) : ∀ k, (nk l seed bits k).Good ∧ (nk l seed bits k).a ≤ k ∧ (nk l seed bits k).l = l ∧ (nk l seed bits k).seed = seed ∧ (nk l seed bits k).bits = bits
  | 0 => ⟨good0 hl h seed bits, Nat.le_refl _, rfl, rfl, rfl⟩
  | k + 1 => by
    obtain ⟨i1, i2, i3, i4, i5⟩ := nk_good hl h seed bits k
    refine ⟨i1.tell false, ?_, i3, i4, i5⟩
    show ((nk l seed bits k).tell false).a ≤ k + 1
    rcases List.eq_nil_or_concat (nk l seed bits k).st with hs | ⟨rest, p, hs⟩
    · rw [(tell_none i1.n hs false).2]; omega
    · rw [List.concat_eq_append] at hs
      rw [(tell_st i1.n hs false).2.2.1]; omega
theorem nk_end {l : List It} (hl : rightL18 l = true) (h : l.length ≤ 100) (seed bits : Int) {k : Nat} (hk : max 1 (2 * l.length - 1) ≤ k) :
    (nk l seed bits k).st = [] ∧ (nk l seed bits k).a = max 1 (2 * l.length - 1) ∧ setS (hasRs (nk l seed bits k).fs) = [⟨[], [], true⟩] := by
  have G := nk_good hl h seed bits
  have e0 : (⟨[], [], true⟩ : Rng) = rgD l 0 l.length := by simp [rgD]
  have s0 : (nk l seed bits 0).st = [] ++ [⟨0, l.length, rgD l 0 l.length⟩] := by rw [← e0]; rfl
  obtain ⟨a1, a2, a3⟩ := falses_run l (nk l seed bits) (fun i => (G i).2.2.1) (fun i => (G i).1.n) (fun i => rfl) (l.length + 1) 0 l.length [] 0 (by omega) (Nat.zero_le _) (Nat.le_refl _) s0
  have eq : (if l.length < 0 + 2 then 1 else 2 * (l.length - 0) - 1) = max 1 (2 * l.length - 1) := by split <;> omega
  rw [eq, Nat.zero_add] at a1 a2 a3
  have z1 : (nk l seed bits 0).a = 0 := rfl
  have z2 : (nk l seed bits 0).fs = [] := rfl
  rw [z1, Nat.zero_add] at a2
  rw [z2, List.nil_append] at a3
  have stay : ∀ d, nk l seed bits (max 1 (2 * l.length - 1) + d) = nk l seed bits (max 1 (2 * l.length - 1)) := fun d => by
    induction d with
    | zero => rfl
    | succ d ih =>
      show (nk l seed bits (max 1 (2 * l.length - 1) + d)).tell false = _
      rw [ih, (tell_none (G _).1.n a1 false).2]
  obtain ⟨d, rfl⟩ : ∃ d, k = max 1 (2 * l.length - 1) + d := ⟨k - max 1 (2 * l.length - 1), by omega⟩
  rw [stay d]
  refine ⟨a1, a2, setS_every fun s => ?_⟩
  rw [a3, lv_has hl _ _ _ (by omega) (Nat.zero_le _) (Nat.le_refl _), ← e0]
  cases s <;> rfl
theorem ok_law32_DescentSame : codeOK Try.prog LS Try.f5.ntmps (Try.f5.body.getD .skip) = true := by kernel_rfl
theorem c_Same (l : List It) (s0 s1 : Int) (hl : l.length ≤ 9223372036854775807) (ho : okI l) (h1 : 0 ≤ s1) (h2 : s1 < 18446744073709551616) :
    CallA Try.prog 5 [.slc (l.map It.enc), .agg [.int .u64 s0, .int .u64 s1]] (· = .bool true) := by
  refine callA_of_body LS_ok mixed Try.func5 rfl (Nat.le_of_ble_eq_true rfl) ok_law32_DescentSame ?_
  unfold Try.f5
  obtain ⟨q1, q2⟩ := rem70 h1 h2
  have g0 := u_awake
  have g1 := i_rLong (l := l) (m := 30) (by omega)
  cases hlong : longI l 30 with
  | true =>
    rw [hlong] at g1
    simp -implicitDefEqProofs (maxSteps := 6000000) (disch := (first | omega | decide)) only [go_sem, ↓reduceIte, seval, g0, g1, List.length_map]
  | false =>
    have hl30 : l.length ≤ 30 := by have := longI_len hlong; omega
    have g2 := i_rList (l := l) ⟨by omega, ho⟩
    rw [hlong] at g1
    cases hr : rightL18 l with
    | false =>
      rw [hr] at g2
      simp -implicitDefEqProofs (maxSteps := 6000000) (disch := (first | omega | decide)) only [go_sem, ↓reduceIte, seval, g0, g1, g2, List.length_map]
    | true =>
      rw [hr] at g2
      generalize hb : s1.tmod 70 = bits at *
      have n0 := l_New (l, s0, bits) ⟨by simp only; omega, ho⟩
      unfold newS at n0
      simp only at n0
      rw [hr, if_pos rfl] at n0
      have hri := (good18 hr).1
      have hT := ok_tree (seed := s0) hr (show l.length ≤ 1000 by omega)
      have NG := nk_good hr (show l.length ≤ 100 by omega) s0 bits
      have NE := nk_end hr (show l.length ≤ 100 by omega) s0 bits (k := 2 * l.length + 1) (by omega)
      have N0 : nk l s0 bits 0 = dv0 l s0 bits := rfl
      have NS : ∀ k, nk l s0 bits (k + 1) = (nk l s0 bits k).tell false := fun _ => rfl
      generalize nk l s0 bits = v at *
      have G0 := (NG 0).1
      rw [N0] at G0
      have t1 := l_Tell (.own (dv0 l s0 bits) true) (G0.ok (by simp [dv0]))
      have e1 : (dv0 l s0 bits).tell true = ⟨l, s0, bits, [⟨0, l.length, ⟨[], [], true⟩⟩], 0, [], 1⟩ := rfl
      have e2 : (dv0 l s0 bits).told true = true := rfl
      have G1 := G0.tell true
      rw [e1] at G1
      have t2 := l_Tell (.own ⟨l, s0, bits, [⟨0, l.length, ⟨[], [], true⟩⟩], 0, [], 1⟩ true) (G1.ok (by simp))
      have e3 : (DV.mk l s0 bits [⟨0, l.length, ⟨[], [], true⟩⟩] 0 [] 1).told true = false := rfl
      have e4 : (DV.mk l s0 bits [⟨0, l.length, ⟨[], [], true⟩⟩] 0 [] 1).tell true = ⟨l, s0, bits, [⟨0, l.length, ⟨[], [], true⟩⟩], 0, [], 1⟩ := rfl
      simp only [TX.enc, TX.obs, TX.spec, e1, e2, e3, e4] at t1 t2
      have hk0 : Ds.ok ⟨treeF l s0, l, s0, bits, [⟨0, l.length, ⟨[], [], true⟩⟩], [], 0⟩ := ⟨hT, (by intro p hp; simp at hp; subst hp; rfl), by simp, by simp, (by intro r hr; cases hr), by simp⟩
      have hk1 : Ds.ok ⟨treeF l s0, l, s0, bits, [], [], 1⟩ := ⟨hT, (by intro p hp; cases hp), by simp, by simp, (by intro r hr; cases hr), by simp⟩
      have x1 := w_Next (x := .some ⟨treeF l s0, l, s0, bits, [⟨0, l.length, ⟨[], [], true⟩⟩], [], 0⟩) hk0
      have x2 := w_Asked (x := .some ⟨treeF l s0, l, s0, bits, [], [], 1⟩) hk1
      have x3 := w_Found (x := .some ⟨treeF l s0, l, s0, bits, [], [], 1⟩) hk1
      have e5 : setS (hasRs []) = [] := (setS_eq (l := []) (p := hasRs []) rfl fun _ => rfl).symm
      have e6 : nextA (.some ⟨treeF l s0, l, s0, bits, [⟨0, l.length, ⟨[], [], true⟩⟩], [], 0⟩) = .tup [.agg [.str [], .str [], .bool true, .int .u64 (sum21 l ⟨[], [], true⟩ s0 bits)], .bool true] := rfl
      rw [e6] at x1
      have x4 := s_Sum (l := l) (r := ⟨[], [], true⟩) (seed := s0) (bits := bits) ⟨by omega, by simp [Rng.ok], hri⟩
      unfold dv0 at n0 t1
      simp only [DV.obs, dsO, treeA, DX.enc, Ds.cells, DX.a, DX.fs, e5, Pt.enc, Rng.enc, List.map_cons, List.map_nil, List.length_cons, List.length_nil] at n0 t1 t2 x1 x2 x3 x4
      have y1 : (v 0).es = [⟨0, l.length, ⟨[], [], true⟩⟩] := by rw [N0]; rfl
      have y2 : (v 0).n = 1 := by rw [N0]; rfl
      have y3 : (v 0).fs = [] := by rw [N0]; rfl
      have y4 : (v 0).a = 0 := by rw [N0]; rfl
      clear G0 G1 e1 e2 e3 e4 e5 e6 hk0 hk1 N0
      generalize hTT : treeF l s0 = T at *
      generalize sum21 l ⟨[], [], true⟩ s0 bits = S at *
      have z0 : ((0 : Nat) : Int) = 0 := rfl
      have z1 : ((1 : Nat) : Int) = 1 := rfl
      simp only [Nat.zero_add, z0, z1] at n0 t1 t2 x1 x2 x3 x4
      simp -implicitDefEqProofs (maxSteps := 6000000) (disch := (first | omega | decide)) only [go_sem, ↓reduceIte, seval, g0, g1, g2, hb, q1, n0, t1, t2, x1, x2, x3, x4, List.length_map]
      have w1 : IntKind.i64.wrap (2 * (l.length : Int)) = 2 * (l.length : Int) := by rw [wrap_i64]; omega
      have w2 : IntKind.i64.wrap (2 * (l.length : Int) + 1) = 2 * (l.length : Int) + 1 := by rw [wrap_i64]; omega
      have w3 : IntKind.i64.wrap (2 * (l.length : Int) - 1) = 2 * (l.length : Int) - 1 := by rw [wrap_i64]; omega
      refine wpA_loop [0, 8] (ι := {k : Nat // k ≤ 2 * l.length + 1}) (fun k => [(12, .int .i64 (k.1 : Nat))])
        (fun k => [(4, .box [.dptr [encM T, .int .u64 s0, .int .i64 bits], .row 5 0 5 (v k.1).n false, .row 6 0 3 (v k.1).fs.length false, .int .i64 (v k.1).a]), (5, .row 5 ((v k.1).es.map Pt.enc)), (6, .row 3 ((v k.1).fs.map Rng.enc))])
        (fun k => 2 * l.length + 1 - k.1) ⟨0, Nat.zero_le _⟩ (Nat.zero_le _) ?_ ?_
      · simp -implicitDefEqProofs (disch := (first | omega | decide)) only [go_sem, ↓reduceIte, seval, y1, y2, y3, y4, Pt.enc]
      · rintro ⟨k, hk⟩
        simp only at hk ⊢
        obtain ⟨kG, kA, kl, ks, kb⟩ := NG k
        have kok : (v k).ok := kG.ok (by omega)
        have hn := kG.n
        have hfl : (v k).fs.length ≤ (v k).fs.length := Nat.le_refl _
        by_cases hkQ : k < 2 * l.length + 1
        · have hkQ' : (k : Int) < 2 * (l.length : Int) + 1 := by omega
          have t3 := l_Tell (.own (v k) false) kok
          have vn := NS k
          have m2 := NG (k + 1)
          have k2 : IntKind.i64.wrap ((k : Int) + 1) = ((k + 1 : Nat) : Int) := by rw [wrap_i64 (by omega)]; omega
          simp only [TX.enc, TX.obs, TX.spec] at t3
          rw [← vn] at t3
          simp only [DV.obs, dsO, treeA, kl, ks, kb, hTT, m2.2.2.1, m2.2.2.2.1, m2.2.2.2.2] at t3
          generalize (v k).told false = tb at *
          clear vn
          generalize v k = u at *
          generalize hu' : v (k + 1) = u' at *
          simp -implicitDefEqProofs (maxSteps := 6000000) (disch := (first | omega | decide)) only [go_sem, ↓reduceIte, seval, hkQ', t3, hn, hfl, w1, w2, k2, List.length_map, Nat.le_refl]
          refine ⟨⟨k + 1, hkQ⟩, ?_, by simp only; omega⟩
          simp [hu']
        · have hkQ' : ¬ (k : Int) < 2 * (l.length : Int) + 1 := by omega
          have hke : k = 2 * l.length + 1 := by omega
          rw [← hke] at NE
          obtain ⟨b1, b2, b3⟩ := NE
          have kd : Ds.ok ⟨T, l, s0, bits, (v k).st, (v k).fs, (v k).a⟩ := by
            obtain ⟨o1, o2, o3, o4, o5, o6, o7⟩ := kok
            exact ⟨hT, fun p hp => (o3 p hp).1, by simp only [DV.st, List.length_take]; omega, by simp only; omega, o6, by simp only; omega⟩
          have a1 := w_Asked (x := .some ⟨T, l, s0, bits, (v k).st, (v k).fs, (v k).a⟩) kd
          have f1 := w_Found (x := .some ⟨T, l, s0, bits, (v k).st, (v k).fs, (v k).a⟩) kd
          have vt : List.take (v k).n ((v k).es.map Pt.enc) = (v k).st.map Pt.enc := List.map_take.symm
          simp only [DX.enc, Ds.cells, treeA, DX.a, DX.fs] at a1 f1
          rw [b3] at f1
          rw [b1] at a1 f1 vt
          simp only [List.map_nil, List.map_cons, Rng.enc] at a1 f1 vt
          generalize v k = u at *
          by_cases hc : l.length ≤ 1
          · have ha : (u.a : Int) = 1 := by omega
            have mx : ¬ (1 : Int) < 2 * (l.length : Int) - 1 := by omega
            have mx2 : 2 * (l.length : Int) - 1 ≤ 1 := by omega
            rw [ha] at a1 f1
            simp -implicitDefEqProofs (maxSteps := 6000000) (disch := (first | omega | decide)) only [go_sem, ↓reduceIte, seval, hkQ', a1, f1, vt, hn, hfl, w1, w2, w3, ha, mx, mx2, List.length_map, Nat.le_refl]
          · have ha : (u.a : Int) = 2 * (l.length : Int) - 1 := by omega
            have mx : (1 : Int) < 2 * (l.length : Int) - 1 := by omega
            have mx2 : ¬ 2 * (l.length : Int) - 1 ≤ 1 := by omega
            rw [ha] at a1 f1
            simp -implicitDefEqProofs (maxSteps := 6000000) (disch := (first | omega | decide)) only [go_sem, ↓reduceIte, seval, hkQ', a1, f1, vt, hn, hfl, w1, w2, w3, ha, mx, mx2, List.length_map, Nat.le_refl]
theorem fits_its32 {x : A} (h : fits (.rows [.str, .int .i64, .int .i64, .int .i64, .int .i64, .bool, .str]) x) : ∃ l : List It, x = .slc (l.map It.enc) ∧ l.length ≤ maxLen ∧ okI l := by
  simp only [fits] at h
  obtain ⟨es, rfl, hl, he⟩ := h
  have ml := maxLen_le
  obtain ⟨l, rfl, hk⟩ := list_of (f := It.enc) (P := fun x => x.ok) (es := es) (fun e hx => by
    obtain ⟨ys, rfl, hy⟩ := he e hx
    simp only [fitsL] at hy
    obtain ⟨y1, z1, rfl, h1, y2, z2, rfl, h2, y3, z3, rfl, h3, y4, z4, rfl, h4, y5, z5, rfl, h5, y6, z6, rfl, h6, y7, z7, rfl, h7, rfl⟩ := hy
    simp only [fits] at h1 h2 h3 h4 h5 h6 h7
    obtain ⟨s, rfl, hs⟩ := h1
    obtain ⟨a, rfl, _⟩ := h2
    obtain ⟨b, rfl, _⟩ := h3
    obtain ⟨c, rfl, _⟩ := h4
    obtain ⟨d, rfl, _⟩ := h5
    obtain ⟨e, rfl⟩ := h6
    obtain ⟨t, rfl, ht⟩ := h7
    exact ⟨⟨s, a, b, c, d, e, t⟩, rfl, ⟨by show s.length ≤ _; omega, by show t.length ≤ _; omega⟩⟩)
  exact ⟨l, rfl, by simpa using hl, hk⟩
theorem fits_seed {x : List A} (h : fitsL [.int .u64, .int .u64] x) : ∃ a b : Int, x = [.int .u64 a, .int .u64 b] ∧ 0 ≤ b ∧ b < 18446744073709551616 := by
  simp only [fitsL] at h
  obtain ⟨y1, z1, rfl, h1, y2, z2, rfl, h2, rfl⟩ := h
  simp only [fits] at h1 h2
  obtain ⟨a, rfl, _⟩ := h1
  obtain ⟨b, rfl, hb⟩ := h2
  refine ⟨a, b, rfl, ?_⟩
  simp [Lit.wf] at hb
  have e1 : IntKind.u64.min = 0 := by decide
  have e2 : IntKind.u64.max = 18446744073709551615 := by decide
  omega
theorem fits_bools {x : A} (h : fits (.list .bool) x) : ∃ l : List Bool, x = .slc (l.map .bool) ∧ l.length ≤ maxLen := by
  simp only [fits] at h
  obtain ⟨es, rfl, hl, he⟩ := h
  obtain ⟨l, rfl, _⟩ := list_of (f := A.bool) (P := fun _ => True) (es := es) (fun e hx => by
    obtain ⟨b, rfl⟩ := he e hx
    exact ⟨b, rfl, trivial⟩)
  exact ⟨l, rfl, by simpa using hl⟩
theorem getK_mem : ∀ {l : List It}, l.Pairwise (fun x y => ltB x.key y.key = true) → ∀ {x : It}, x ∈ l → getK l x.key = some x
  | y :: l, h, x, hx => by
    unfold getK
    rw [List.find?_cons]
    rcases List.mem_cons.1 hx with rfl | hx
    · simp
    · have h1 := (List.pairwise_cons.1 h).1 x hx
      have h2 : (y.key == x.key) = false := by
        rw [Bool.eq_false_iff]
        intro e
        rw [eq_of_beq e, lt_irrefl] at h1
        simp at h1
      rw [h2]
      exact getK_mem (List.pairwise_cons.1 h).2 hx
theorem getK_of {l : List It} {k : List UInt8} {x : It} (h : getK l k = some x) : x ∈ l ∧ x.key = k := by
  unfold getK at h
  exact ⟨List.mem_of_find?_eq_some h, by have := List.find?_some h; exact eq_of_beq this⟩
theorem sorted_ext : ∀ {a b : List It}, a.Pairwise (fun x y => ltB x.key y.key = true) → b.Pairwise (fun x y => ltB x.key y.key = true) → (∀ x, x ∈ a ↔ x ∈ b) → a = b
  | [], [], _, _, _ => rfl
  | [], y :: b, _, _, h => absurd ((h y).2 (by simp)) (by simp)
  | x :: a, [], _, _, h => absurd ((h x).1 (by simp)) (by simp)
  | x :: a, y :: b, ha, hb, h => by
    obtain ⟨a1, a2⟩ := List.pairwise_cons.1 ha
    obtain ⟨b1, b2⟩ := List.pairwise_cons.1 hb
    have hxy : x = y := by
      rcases List.mem_cons.1 ((h x).1 (by simp)) with e | e
      · exact e
      · rcases List.mem_cons.1 ((h y).2 (by simp)) with e' | e'
        · exact e'.symm
        · have := lt_trans' (b1 x e) (a1 y e')
          rw [lt_irrefl] at this
          simp at this
    subst hxy
    rw [sorted_ext a2 b2 fun z => ⟨fun hz => ?_, fun hz => ?_⟩]
    · rcases List.mem_cons.1 ((h z).1 (List.mem_cons_of_mem _ hz)) with e | e
      · have := a1 z hz
        rw [e, lt_irrefl] at this
        simp at this
      · exact e
    · rcases List.mem_cons.1 ((h z).2 (List.mem_cons_of_mem _ hz)) with e | e
      · have := b1 z hz
        rw [e, lt_irrefl] at this
        simp at this
      · exact e
theorem mem_diff {l m : List It} {k : List UInt8} : k ∈ diffL l m ↔ (∃ x ∈ l, x.key = k ∧ getK m k ≠ some x) ∨ ∃ x ∈ m, x.key = k ∧ getK l k = none := by
  unfold diffL keyL difP goneP
  simp only [List.mem_append, List.mem_map, List.mem_filter, decide_eq_true_eq, Option.isNone_iff_eq_none]
  constructor
  · rintro (⟨x, ⟨h1, h2⟩, rfl⟩ | ⟨x, ⟨h1, h2⟩, rfl⟩)
    · exact .inl ⟨x, h1, rfl, h2⟩
    · exact .inr ⟨x, h1, rfl, h2⟩
  · rintro (⟨x, h1, rfl, h2⟩ | ⟨x, h1, rfl, h2⟩)
    · exact .inl ⟨x, ⟨h1, h2⟩, rfl⟩
    · exact .inr ⟨x, ⟨h1, h2⟩, rfl⟩
theorem in_same {l m : List It} (hl : rightL18 l = true) (hm : rightL18 m = true) (r : Rng) : inR21 l r = inR21 m r ↔ ∀ k ∈ diffL l m, hasR r k = false := by
  have pl := (good18 hl).2
  have pm := (good18 hm).2
  constructor
  · intro e k hk
    rw [Bool.eq_false_iff]
    intro hr
    rcases mem_diff.1 hk with ⟨x, h1, rfl, h2⟩ | ⟨x, h1, rfl, h2⟩
    · have : x ∈ inR21 m r := by rw [← e]; exact List.mem_filter.2 ⟨h1, hr⟩
      exact h2 (getK_mem pm (List.mem_filter.1 this).1)
    · have : x ∈ inR21 l r := by rw [e]; exact List.mem_filter.2 ⟨h1, hr⟩
      rw [getK_mem pl (List.mem_filter.1 this).1] at h2
      simp at h2
  · intro h
    refine sorted_ext (List.Pairwise.filter _ pl) (List.Pairwise.filter _ pm) fun x => ?_
    unfold inR21
    simp only [List.mem_filter]
    constructor
    · rintro ⟨h1, h2⟩
      refine ⟨?_, h2⟩
      by_cases hg : getK m x.key = some x
      · exact (getK_of hg).1
      · have := h x.key (mem_diff.2 (.inl ⟨x, h1, rfl, hg⟩))
        rw [this] at h2
        simp at h2
    · rintro ⟨h1, h2⟩
      refine ⟨?_, h2⟩
      cases hg : getK l x.key with
      | none =>
        have := h x.key (mem_diff.2 (.inr ⟨x, h1, rfl, hg⟩))
        rw [this] at h2
        simp at h2
      | some y =>
        obtain ⟨g1, g2⟩ := getK_of hg
        have hx := getK_mem pm h1
        by_cases e : y = x
        · rw [← e]; exact g1
        · have := h x.key (mem_diff.2 (.inl ⟨y, g1, g2, by rw [hx]; simp; exact fun h => e h.symm⟩))
          rw [this] at h2
          simp at h2
theorem filt_add (p q r : List UInt8 → Bool) (h : ∀ s, p s = (q s || r s)) (hd : ∀ s, q s = true → r s = false) : ∀ l : List (List UInt8), (l.filter p).length = (l.filter q).length + (l.filter r).length
  | [] => rfl
  | s :: l => by
    have ih := filt_add p q r h hd l
    simp only [List.filter_cons]
    have h1 := h s
    have h2 := hd s
    cases hq : q s <;> cases hr : r s <;> simp_all <;> omega
theorem hasR_apart {l : List It} {f m t : Nat} (h1 : f < m) (h2 : m < t) (h3 : t ≤ l.length) (s : List UInt8) (h : hasR (rgD l f m) s = true) : hasR (rgD l m t) s = false := by
  have e1 : (rgD l f m).hi = keyI l m := by unfold rgD; simp only; rw [if_neg (by omega)]
  have e2 : (rgD l f m).op = false := by unfold rgD; simp only; rw [decide_eq_false (by omega)]
  have e3 : (rgD l m t).lo = keyI l m := by unfold rgD; simp only; rw [if_neg (by omega)]
  unfold hasR at h ⊢
  rw [e1, e2] at h
  rw [e3]
  simp only [Bool.and_eq_true, Bool.false_or] at h
  rw [h.2]
  simp
def cntD (l : List It) (df : List (List UInt8)) (f t : Nat) : Nat := (df.filter (hasR (rgD l f t))).length
theorem oracle_run (l : List It) (hr : rightL18 l = true) (df : List (List UInt8)) (ans : Rng → Bool) (hans : ∀ r, ans r = false → ∃ k ∈ df, hasR r k = true)
    (v : Nat → DV) (hl : ∀ i, (v i).l = l) (hn : ∀ i, (v i).n ≤ (v i).es.length) (hv : ∀ i rest p, (v i).st = rest ++ [p] → v (i + 1) = (v i).tell (ans p.r)) :
    ∀ (b f t : Nat) (rest : List Pt) (k : Nat), t - f < b → f ≤ t → t ≤ l.length → (v k).st = rest ++ [⟨f, t, rgD l f t⟩] →
      ∃ (q : Nat) (F : List Rng), (v (k + q)).st = rest ∧ (v (k + q)).a = (v k).a + q ∧ (v (k + q)).fs = (v k).fs ++ F ∧
        (∀ d, t - f ≤ 2 ^ d → q ≤ 1 + 2 * cntD l df f t * d) ∧ (∀ r ∈ F, ans r = false) ∧
        (∀ i, k ≤ i → i < k + q → (v i).st ≠ []) ∧
        ((∀ i, k ≤ i → i < k + q → ∀ rest' p, (v i).st = rest' ++ [p] → ans p.r = true → ∀ s ∈ df, hasR p.r s = false) → ∀ s ∈ df, hasR (rgD l f t) s = true → ∃ r ∈ F, hasR r s = true)
  | 0, f, t, rest, k, hb, _, _, _ => absurd hb (Nat.not_lt_zero _)
  | b + 1, f, t, rest, k, hb, h1, h2, hs => by
    have T := tell_st (hn k) hs (ans (rgD l f t))
    have hvk := hv k rest _ hs
    simp only at hvk
    rw [← hvk] at T
    obtain ⟨-, -, t3, -, -, t6, t7⟩ := T
    have one : ∀ i, k ≤ i → i < k + 1 → (v i).st ≠ [] := fun i a1 a2 => by
      have : i = k := by omega
      subst this
      rw [hs]; simp
    cases ha : ans (rgD l f t) with
    | true =>
      rw [ha] at t6 t7
      simp only [if_true] at t6 t7
      refine ⟨1, [], t6, t3, by rw [t7]; simp, fun d hd => by omega, by simp, one, fun hc s hs' hR => ?_⟩
      have := hc k (Nat.le_refl _) (by omega) rest _ hs ha s hs'
      simp only at this
      rw [this] at hR
      simp at hR
    | false =>
      rw [ha] at t6 t7
      rw [if_neg (by decide)] at t6 t7
      by_cases c : t < f + 2
      · simp only [if_pos c] at t6 t7
        refine ⟨1, [rgD l f t], t6, t3, t7, fun d hd => by omega, by simp [ha], one, fun hc s hs' hR => ⟨_, by simp, hR⟩⟩
      · simp only [if_neg c] at t6 t7
        rw [hl] at t6
        simp only [highP, lowP] at t6
        have hm1 : f < f + (t - f) / 2 := by omega
        have hm2 : f + (t - f) / 2 < t := by omega
        rw [rgD_hi hm1, rgD_lo (show f + (t - f) / 2 < l.length by omega)] at t6
        obtain ⟨q1, F1, a1, a2, a3, a4, a5, a6, a7⟩ := oracle_run l hr df ans hans v hl hn hv b f (f + (t - f) / 2) (rest ++ [⟨f + (t - f) / 2, t, rgD l (f + (t - f) / 2) t⟩]) (k + 1) (by omega) (by omega) (by omega) (by rw [t6]; simp)
        obtain ⟨q2, F2, b1, b2, b3, b4, b5, b6, b7⟩ := oracle_run l hr df ans hans v hl hn hv b (f + (t - f) / 2) t rest (k + 1 + q1) (by omega) (by omega) h2 a1
        have e : k + (1 + q1 + q2) = k + 1 + q1 + q2 := by omega
        have hadd : cntD l df f t = cntD l df f (f + (t - f) / 2) + cntD l df (f + (t - f) / 2) t := filt_add _ _ _ (hasR_split hr hm1 hm2 h2) (hasR_apart hm1 hm2 h2) df
        have hpos : 1 ≤ cntD l df f t := by
          obtain ⟨s, s1, s2⟩ := hans _ ha
          exact List.length_pos_iff.2 (List.ne_nil_of_mem (List.mem_filter.2 ⟨s1, s2⟩))
        refine ⟨1 + q1 + q2, F1 ++ F2, by rw [e]; exact b1, by rw [e, b2, a2, t3]; omega, by rw [e, b3, a3, t7, List.append_assoc], fun d hd => ?_, ?_, ?_, ?_⟩
        · cases d with
          | zero => simp at hd; omega
          | succ d =>
            have hp : 2 ^ (d + 1) = 2 * 2 ^ d := by rw [Nat.pow_succ]; omega
            have c1 := a4 d (by omega)
            have c2 := b4 d (by omega)
            have c3 : 2 * cntD l df f t * (d + 1) = 2 * cntD l df f (f + (t - f) / 2) * d + 2 * cntD l df (f + (t - f) / 2) t * d + 2 * cntD l df f t := by
              rw [hadd]
              simp only [Nat.mul_add, Nat.add_mul, Nat.mul_one]
            omega
        · intro r h
          rcases List.mem_append.1 h with h | h
          · exact a5 r h
          · exact b5 r h
        · intro i i1 i2
          by_cases c1 : i < k + 1
          · exact one i i1 c1
          · by_cases c2 : i < k + 1 + q1
            · exact a6 i (by omega) c2
            · exact b6 i (by omega) (by omega)
        · intro hc s hs' hR
          rw [hasR_split hr hm1 hm2 h2] at hR
          rcases Bool.or_eq_true_iff.1 hR with hR | hR
          · obtain ⟨r, r1, r2⟩ := a7 (fun i i1 i2 => hc i (by omega) (by omega)) s hs' hR
            exact ⟨r, List.mem_append_left _ r1, r2⟩
          · obtain ⟨r, r1, r2⟩ := b7 (fun i i1 i2 => hc i (by omega) (by omega)) s hs' hR
            exact ⟨r, List.mem_append_right _ r1, r2⟩
theorem goRs_up : ∀ {l : List Rng} {p : Option Rng}, goRs p l = true → (∀ r ∈ l, rightR r = true) ∧ l.Pairwise (fun a b => a.op = false ∧ ltB a.hi b.lo = true) ∧ ∀ q, p = some q → ∀ r ∈ l, q.op = false ∧ ltB q.hi r.lo = true
  | [], p, _ => ⟨by simp, List.Pairwise.nil, by simp⟩
  | r :: l, p, h => by
    simp only [goRs, Bool.and_eq_true] at h
    obtain ⟨⟨h1, h2⟩, h3⟩ := h
    obtain ⟨i1, i2, i3⟩ := goRs_up h3
    have i3 := i3 r rfl
    refine ⟨fun x hx => ?_, List.pairwise_cons.2 ⟨i3, i2⟩, ?_⟩
    · rcases List.mem_cons.1 hx with rfl | hx
      · exact h1
      · exact i1 x hx
    · rintro q rfl x hx
      simp only [Bool.not_eq_true', Bool.or_eq_false_iff, Bool.not_eq_false'] at h2
      rcases List.mem_cons.1 hx with rfl | hx
      · exact h2
      · refine ⟨h2.1, ?_⟩
        obtain ⟨j1, j2⟩ := i3 x hx
        have h4 : ltB r.lo r.hi = true := by
          unfold rightR at h1
          simp only [j1, Bool.and_eq_true] at h1
          simpa using h1.2
        exact lt_trans' h2.2 (lt_trans' h4 j2)
theorem right_lt {r : Rng} (h : rightR r = true) (ho : r.op = false) : ltB r.lo r.hi = true := by
  unfold rightR at h
  simp only [ho, Bool.and_eq_true] at h
  simpa using h.2
theorem hasR_iff {r : Rng} {s : List UInt8} : hasR r s = true ↔ rightR r = true ∧ ltB s r.lo = false ∧ (r.op = true ∨ ltB s r.hi = true) := by
  unfold hasR
  simp only [Bool.and_eq_true, Bool.not_eq_true', Bool.or_eq_true, and_assoc]
theorem has_lo {r : Rng} (h : rightR r = true) : hasR r r.lo = true := by
  refine hasR_iff.2 ⟨h, lt_irrefl _, ?_⟩
  cases ho : r.op with
  | true => exact .inl rfl
  | false => exact .inr (right_lt h ho)
theorem gap {L : List Rng} (h1 : ∀ r ∈ L, rightR r = true) (h2 : L.Pairwise (fun a b => a.op = false ∧ ltB a.hi b.lo = true)) {i : Nat} (hi : i < L.length) (ho : L[i].op = false) : hasRs L L[i].hi = false := by
  rw [Bool.eq_false_iff]
  intro h
  unfold hasRs at h
  rw [List.any_eq_true] at h
  obtain ⟨r, hr, hs⟩ := h
  obtain ⟨m, hm, rfl⟩ := List.getElem_of_mem hr
  obtain ⟨a1, a2, a3⟩ := hasR_iff.1 hs
  have hP := List.pairwise_iff_getElem.1 h2
  have hlt := right_lt (h1 _ (List.getElem_mem hi)) ho
  rcases Nat.lt_trichotomy m i with c | c | c
  · obtain ⟨b1, b2⟩ := hP m i hm hi c
    rcases a3 with a3 | a3
    · rw [b1] at a3; simp at a3
    · have := lt_trans' (lt_trans' a3 b2) hlt
      rw [lt_irrefl] at this
      simp at this
  · subst c
    rcases a3 with a3 | a3
    · rw [ho] at a3; simp at a3
    · rw [lt_irrefl] at a3; simp at a3
  · obtain ⟨b1, b2⟩ := hP i m hi hm c
    rw [b2] at a2
    simp at a2
theorem found_has {fs : List Rng} {df : List (List UInt8)} (h : ∀ r ∈ fs, ∃ k ∈ df, hasR r k = true) {r' : Rng} (hr : r' ∈ setS (hasRs fs)) : ∃ k ∈ df, hasR r' k = true := by
  have hS : ∀ s, hasRs (setS (hasRs fs)) s = hasRs fs s := fun s => setS_has (isS_has fs) s
  obtain ⟨g1, g2, _⟩ := goRs_up (setS_right (hasRs fs))
  generalize setS (hasRs fs) = L at *
  obtain ⟨i, hi, rfl⟩ := List.getElem_of_mem hr
  have hlo := has_lo (g1 _ (List.getElem_mem hi))
  have p0 : hasRs fs L[i].lo = true := by
    rw [← hS]; unfold hasRs; rw [List.any_eq_true]
    exact ⟨_, List.getElem_mem hi, hlo⟩
  unfold hasRs at p0
  rw [List.any_eq_true] at p0
  obtain ⟨r, hrm, hr0⟩ := p0
  obtain ⟨k, hk, hrk⟩ := h r hrm
  refine ⟨k, hk, ?_⟩
  have pk : hasRs fs k = true := by unfold hasRs; rw [List.any_eq_true]; exact ⟨r, hrm, hrk⟩
  rw [← hS] at pk
  unfold hasRs at pk
  rw [List.any_eq_true] at pk
  obtain ⟨r2, hr2, h2⟩ := pk
  obtain ⟨j, hj, rfl⟩ := List.getElem_of_mem hr2
  have hP := List.pairwise_iff_getElem.1 g2
  obtain ⟨x1, x2, x3⟩ := hasR_iff.1 hr0
  obtain ⟨y1, y2, y3⟩ := hasR_iff.1 hrk
  obtain ⟨z1, z2, z3⟩ := hasR_iff.1 h2
  have mid : ∀ s, hasR r s = true → hasRs L s = true := fun s hs => by
    rw [hS]; unfold hasRs; rw [List.any_eq_true]; exact ⟨r, hrm, hs⟩
  rcases Nat.lt_trichotomy i j with c | c | c
  · exfalso
    obtain ⟨b1, b2⟩ := hP i j hi hj c
    have hlt := right_lt (g1 _ (List.getElem_mem hi)) b1
    have hg := gap g1 g2 hi b1
    have hyk : ltB L[i].hi k = true := by
      rcases cmp_cases L[j].lo k with e | e | e
      · exact lt_trans' b2 (by simpa [ltB] using e)
      · rw [← cmp_zero.1 e]; exact b2
      · have : ltB k L[j].lo = true := by unfold ltB; rw [cmp_neg, e]; rfl
        rw [z2] at this; simp at this
    have : hasR r L[i].hi = true := by
      refine hasR_iff.2 ⟨x1, ?_, ?_⟩
      · rw [Bool.eq_false_iff]; intro e
        rw [lt_trans' hlt e] at x2; simp at x2
      · rcases y3 with y3 | y3
        · exact .inl y3
        · exact .inr (lt_trans' hyk y3)
    rw [mid _ this] at hg
    simp at hg
  · subst c; exact h2
  · exfalso
    obtain ⟨b1, b2⟩ := hP j i hj hi c
    have hg := gap g1 g2 hj b1
    have hky : ltB k L[j].hi = true := by
      rcases z3 with z3 | z3
      · rw [b1] at z3; simp at z3
      · exact z3
    have : hasR r L[j].hi = true := by
      refine hasR_iff.2 ⟨x1, ?_, ?_⟩
      · rw [Bool.eq_false_iff]; intro e
        rw [lt_trans' hky e] at y2; simp at y2
      · rcases x3 with x3 | x3
        · exact .inl x3
        · exact .inr (lt_trans' b2 x3)
    rw [mid _ this] at hg
    simp at hg
noncomputable def YA : Tab := YU.add 16 (entry (fun v : List It × List It => [.slc (v.1.map It.enc), .slc (v.2.map It.enc)]) (fun v => v.1.length ≤ 1000 ∧ v.2.length ≤ 1000) (fun v => .slc ((diffL v.1 v.2).map .str)))
theorem YA_ok : TabOK Try.prog YA := YU_ok.ent Try.func16 (by kernel_rfl) (by kernel_rfl) fun v h => c_ref32_Differ v.1 v.2 h.1 h.2
@[go_sem] theorem YA_old {g : FuncId} {xs : List A} (h : g ≠ 16) : YA.f g xs = YU.f g xs := Tab.add_ne h
theorem y_Differ {l m : List It} (h : l.length ≤ 1000 ∧ m.length ≤ 1000) : YA.f 16 [.slc (l.map It.enc), .slc (m.map It.enc)] = some (.slc ((diffL l m).map .str)) :=
  Tab.add_eq.trans (entry_eq (enc := fun v : List It × List It => [.slc (v.1.map It.enc), .slc (v.2.map It.enc)]) (fun a b e => by simpa [Prod.ext_iff] using e) (l, m) h)
noncomputable def YB : Tab := YA.add 17 (entry (fun v : Nat => [.int .i64 v]) (fun v => v ≤ 64) (fun v => .int .i64 (logN v)))
theorem YB_ok : TabOK Try.prog YB := YA_ok.ent Try.func17 (by kernel_rfl) (by kernel_rfl) fun v h => c_ref01_Log v h
@[go_sem] theorem YB_old {g : FuncId} {xs : List A} (h : g ≠ 17) : YB.f g xs = YA.f g xs := Tab.add_ne h
theorem y_Log {n : Nat} (h : n ≤ 64) : YB.f 17 [.int .i64 n] = some (.int .i64 (logN n)) :=
  Tab.add_eq.trans (entry_eq (enc := fun v : Nat => [.int .i64 v]) (fun a b e => by simp at e; omega) n h)
noncomputable def YC : Tab := YB.add 19 (entry (fun v : List It × List It => [.slc (v.1.map It.enc), .slc (v.2.map It.enc)]) (fun v => v.1.length ≤ 1000 ∧ v.2.length ≤ 1000) (fun v => .bool (sameI v.1 v.2)))
theorem YC_ok : TabOK Try.prog YC := YB_ok.ent Try.func19 (by kernel_rfl) (by kernel_rfl) fun v h => c_ref18_Same v.1 v.2 (Nat.le_trans h.1 (by decide)) (Nat.le_trans h.2 (by decide))
@[go_sem] theorem YC_old {g : FuncId} {xs : List A} (h : g ≠ 19) : YC.f g xs = YB.f g xs := Tab.add_ne h
theorem y_Same {l m : List It} (h : l.length ≤ 1000 ∧ m.length ≤ 1000) : YC.f 19 [.slc (l.map It.enc), .slc (m.map It.enc)] = some (.bool (sameI l m)) :=
  Tab.add_eq.trans (entry_eq (enc := fun v : List It × List It => [.slc (v.1.map It.enc), .slc (v.2.map It.enc)]) (fun a b e => by simpa [Prod.ext_iff] using e) (l, m) h)
noncomputable def YD : Tab := YC.add 22 (entry (fun v : List Rng × List UInt8 => [.slc (v.1.map Rng.enc), .str v.2]) (fun v => v.1.length ≤ 1000 ∧ okL v.1 ∧ v.2.length ≤ 1000) (fun v => .bool (hasRs v.1 v.2)))
theorem YD_ok : TabOK Try.prog YD := YC_ok.ent Try.func22 (by kernel_rfl) (by kernel_rfl) fun v h => c_ref08_Has v.1 v.2 (Nat.le_trans h.1 (by decide)) h.2.1 (Nat.le_trans h.2.2 (by decide))
@[go_sem] theorem YD_old {g : FuncId} {xs : List A} (h : g ≠ 22) : YD.f g xs = YC.f g xs := Tab.add_ne h
theorem y_Has {l : List Rng} {k : List UInt8} (h : l.length ≤ 1000 ∧ okL l ∧ k.length ≤ 1000) : YD.f 22 [.slc (l.map Rng.enc), .str k] = some (.bool (hasRs l k)) :=
  Tab.add_eq.trans (entry_eq (enc := fun v : List Rng × List UInt8 => [.slc (v.1.map Rng.enc), .str v.2]) (fun a b e => by simpa [Prod.ext_iff] using e) (l, k) h)
noncomputable def LF : Tab := { YD with eff := fun f => f == 8 || f == 13 || f == 15, frz := fun f => f == 15 }
theorem LF_ok : TabOK Try.prog LF := ⟨YD_ok.f, YD_ok.hp⟩
@[go_sem] theorem LF_f : LF.f = YD.f := rfl
@[go_sem] theorem LF_hp : LF.hp = LQ.hp := rfl
@[go_sem] theorem LF_eff {g : FuncId} : LF.eff g = (g == 8 || g == 13 || g == 15) := rfl
@[go_sem] theorem LF_frz {g : FuncId} : LF.frz g = (g == 15) := rfl
@[go_sem] theorem LF_fix {n : Nat} : LF.fix n = false := rfl
@[go_sem] theorem LF_ords {n : Nat} : LF.ords n = [] := rfl
def ansO (l m : List It) (seed bits : Int) (r : Rng) : Bool := sum21 m r seed bits == sum21 l r seed bits
def qk (l m : List It) (seed bits : Int) : Nat → DV
  | 0 => dv0 l seed bits
  | k + 1 => match (qk l m seed bits k).st.getLast? with | some p => (qk l m seed bits k).tell (ansO l m seed bits p.r) | none => qk l m seed bits k
theorem qk_next {l m : List It} {seed bits : Int} {k : Nat} {rest : List Pt} {p : Pt} (h : (qk l m seed bits k).st = rest ++ [p]) : qk l m seed bits (k + 1) = (qk l m seed bits k).tell (ansO l m seed bits p.r) := by
  show (match (qk l m seed bits k).st.getLast? with | some p => (qk l m seed bits k).tell (ansO l m seed bits p.r) | none => qk l m seed bits k) = _
  rw [h, List.getLast?_append]
  rfl
theorem qk_good {l : List It} (hl : rightL18 l = true) (h : l.length ≤ 100) (m : List It) (seed bits : Int) : ∀ k, (qk l m seed bits k).Good ∧ (qk l m seed bits k).a ≤ k ∧ (qk l m seed bits k).l = l ∧ (qk l m seed bits k).seed = seed ∧ (qk l m seed bits k).bits = bits
  | 0 => ⟨good0 hl h seed bits, Nat.le_refl _, rfl, rfl, rfl⟩
  | k + 1 => by
    obtain ⟨i1, i2, i3, i4, i5⟩ := qk_good hl h m seed bits k
    rcases List.eq_nil_or_concat (qk l m seed bits k).st with hs | ⟨rest, p, hs⟩
    · have e : qk l m seed bits (k + 1) = qk l m seed bits k := by
        show (match (qk l m seed bits k).st.getLast? with | some p => (qk l m seed bits k).tell (ansO l m seed bits p.r) | none => qk l m seed bits k) = _
        rw [hs]; rfl
      rw [e]
      exact ⟨i1, by omega, i3, i4, i5⟩
    · rw [List.concat_eq_append] at hs
      rw [qk_next hs]
      exact ⟨i1.tell _, by rw [(tell_st i1.n hs _).2.2.1]; omega, i3, i4, i5⟩
theorem logN_pow {n : Nat} (h : n ≤ 32) : n ≤ 2 ^ logN n := by
  unfold logN
  split
  · omega
  · split
    · omega
    · split
      · omega
      · split
        · omega
        · split
          · omega
          · omega
theorem finds_facts {l m : List It} (hl : rightL18 l = true) (hm : rightL18 m = true) (h : l.length ≤ 32) (seed bits : Int) :
    ∃ q, q ≤ 1 + 2 * (diffL l m).length * logN l.length ∧ (qk l m seed bits q).st = [] ∧ (qk l m seed bits q).a = q ∧
      (∀ i, i < q → (qk l m seed bits i).st ≠ []) ∧
      (∀ r ∈ setS (hasRs (qk l m seed bits q).fs), ∃ k ∈ diffL l m, hasR r k = true) ∧
      ((∀ i, i < q → ∀ rest p, (qk l m seed bits i).st = rest ++ [p] → ansO l m seed bits p.r = true → inR21 l p.r = inR21 m p.r) → ∀ k ∈ diffL l m, hasRs (setS (hasRs (qk l m seed bits q).fs)) k = true) := by
  have G := qk_good hl (show l.length ≤ 100 by omega) m seed bits
  have e0 : (⟨[], [], true⟩ : Rng) = rgD l 0 l.length := by simp [rgD]
  have s0 : (qk l m seed bits 0).st = [] ++ [⟨0, l.length, rgD l 0 l.length⟩] := by rw [← e0]; rfl
  have hans : ∀ r, ansO l m seed bits r = false → ∃ k ∈ diffL l m, hasR r k = true := fun r hr => by
    by_cases hc : ∀ k ∈ diffL l m, hasR r k = false
    · have := (in_same hl hm r).2 hc
      unfold ansO sum21 at hr
      rw [this] at hr
      simp at hr
    · simp only [Classical.not_forall] at hc
      obtain ⟨k, hk, hk2⟩ := hc
      exact ⟨k, hk, by simpa using hk2⟩
  obtain ⟨q, F, a1, a2, a3, a4, a5, a6, a7⟩ := oracle_run l hl (diffL l m) (ansO l m seed bits) hans (qk l m seed bits) (fun i => (G i).2.2.1) (fun i => (G i).1.n) (fun i rest p hs => qk_next hs) (l.length + 1) 0 l.length [] 0 (by omega) (Nat.zero_le _) (Nat.le_refl _) s0
  have z1 : (qk l m seed bits 0).a = 0 := rfl
  have z2 : (qk l m seed bits 0).fs = [] := rfl
  simp only [Nat.zero_add, z1, z2, List.nil_append] at a1 a2 a3 a6 a7
  refine ⟨q, ?_, a1, a2, fun i hi => a6 i (Nat.zero_le _) hi, ?_, ?_⟩
  · have := a4 (logN l.length) (by rw [Nat.sub_zero]; exact logN_pow h)
    have hc : cntD l (diffL l m) 0 l.length ≤ (diffL l m).length := List.length_filter_le _ _
    have := Nat.mul_le_mul_right (logN l.length) (Nat.mul_le_mul_left 2 hc)
    omega
  · intro r hr
    rw [a3] at hr
    exact found_has (fun r hr => hans r (a5 r hr)) hr
  · intro hc k hk
    rw [setS_has (isS_has _), a3]
    obtain ⟨r, r1, r2⟩ := a7 (fun i _ hi rest p hs ha => (in_same hl hm p.r).1 (hc i hi rest p hs ha)) k hk (by rw [← e0]; cases k <;> rfl)
    unfold hasRs
    rw [List.any_eq_true]
    exact ⟨r, r1, r2⟩
def chB (l m : List It) (seed bits : Int) : Nat → Bool
  | 0 => false
  | k + 1 => chB l m seed bits k || (match (qk l m seed bits k).st.getLast? with | some p => ansO l m seed bits p.r && !sameI (inR21 l p.r) (inR21 m p.r) | none => false)
theorem chB_next {l m : List It} {seed bits : Int} {k : Nat} {rest : List Pt} {p : Pt} (h : (qk l m seed bits k).st = rest ++ [p]) : chB l m seed bits (k + 1) = (chB l m seed bits k || (ansO l m seed bits p.r && !sameI (inR21 l p.r) (inR21 m p.r))) := by
  show (chB l m seed bits k || (match (qk l m seed bits k).st.getLast? with | some p => ansO l m seed bits p.r && !sameI (inR21 l p.r) (inR21 m p.r) | none => false)) = _
  rw [h, List.getLast?_append]
  rfl
theorem chB_false {l m : List It} {seed bits : Int} : ∀ {q : Nat}, chB l m seed bits q = false → ∀ i, i < q → ∀ rest p, (qk l m seed bits i).st = rest ++ [p] → ansO l m seed bits p.r = true → inR21 l p.r = inR21 m p.r
  | 0, _, i, hi, _, _, _, _ => absurd hi (Nat.not_lt_zero _)
  | q + 1, h, i, hi, rest, p, hs, ha => by
    by_cases e : i = q
    · subst e
      rw [chB_next hs, ha] at h
      simp [sameI] at h
      exact h.2
    · refine chB_false (q := q) ?_ i (by omega) rest p hs ha
      have : (chB l m seed bits q || (match (qk l m seed bits q).st.getLast? with | some p => ansO l m seed bits p.r && !sameI (inR21 l p.r) (inR21 m p.r) | none => false)) = false := h
      exact (Bool.or_eq_false_iff.1 this).1
theorem ok_law32_DescentFinds : codeOK Try.prog LF Try.f4.ntmps (Try.f4.body.getD .skip) = true := by kernel_rfl
theorem c_Finds (l m : List It) (s0 s1 : Int) (hl : l.length ≤ 9223372036854775807) (ho : okI l) (hl' : m.length ≤ 9223372036854775807) (ho' : okI m) (h1 : 0 ≤ s1) (h2 : s1 < 18446744073709551616) :
    CallA Try.prog 4 [.slc (l.map It.enc), .slc (m.map It.enc), .agg [.int .u64 s0, .int .u64 s1]] (· = .bool true) := by
  refine callA_of_body LF_ok mixed Try.func4 rfl (Nat.le_of_ble_eq_true rfl) ok_law32_DescentFinds ?_
  unfold Try.f4
  obtain ⟨q1, q2⟩ := rem70 h1 h2
  have g0 := u_awake
  have g1 := i_rLong (l := l) (m := 24) (by omega)
  have g1' := i_rLong (l := m) (m := 24) (by omega)
  cases hlong : longI l 24 with
  | true =>
    rw [hlong] at g1
    simp -implicitDefEqProofs (maxSteps := 6000000) (disch := (first | omega | decide)) only [go_sem, ↓reduceIte, seval, g0, g1, List.length_map]
  | false =>
    have hl24 : l.length ≤ 24 := by have := longI_len hlong; omega
    rw [hlong] at g1
    have g2 := i_rList (l := l) ⟨by omega, ho⟩
    cases hlong' : longI m 24 with
    | true =>
      rw [hlong'] at g1'
      simp -implicitDefEqProofs (maxSteps := 6000000) (disch := (first | omega | decide)) only [go_sem, ↓reduceIte, seval, g0, g1, g1', List.length_map]
    | false =>
      have hm24 : m.length ≤ 24 := by have := longI_len hlong'; omega
      rw [hlong'] at g1'
      have g2' := i_rList (l := m) ⟨by omega, ho'⟩
      cases hr : rightL18 l with
      | false =>
        rw [hr] at g2
        simp -implicitDefEqProofs (maxSteps := 6000000) (disch := (first | omega | decide)) only [go_sem, ↓reduceIte, seval, g0, g1, g1', g2, List.length_map]
      | true =>
        rw [hr] at g2
        cases hr' : rightL18 m with
        | false =>
          rw [hr'] at g2'
          simp -implicitDefEqProofs (maxSteps := 6000000) (disch := (first | omega | decide)) only [go_sem, ↓reduceIte, seval, g0, g1, g1', g2, g2', List.length_map]
        | true =>
          rw [hr'] at g2'
          generalize hb : s1.tmod 70 = bits at *
          have n0 := l_New (l, s0, bits) ⟨by simp only; omega, ho⟩
          unfold newS at n0
          simp only at n0
          rw [hr, if_pos rfl] at n0
          have yd := y_Differ (l := l) (m := m) ⟨by omega, by omega⟩
          have yl := y_Log (n := l.length) (by omega)
          have hri := (good18 hr).1
          have hri' := (good18 hr').1
          have hT := ok_tree (seed := s0) hr (show l.length ≤ 1000 by omega)
          have QG := qk_good hr (show l.length ≤ 100 by omega) m s0 bits
          obtain ⟨q, f1, f2, f3, f4, f5, f6⟩ := finds_facts hr hr' (show l.length ≤ 32 by omega) s0 bits
          have Q0 : qk l m s0 bits 0 = dv0 l s0 bits := rfl
          have QN : ∀ k rest p, (qk l m s0 bits k).st = rest ++ [p] → qk l m s0 bits (k + 1) = (qk l m s0 bits k).tell (ansO l m s0 bits p.r) := fun k rest p h => qk_next h
          have C0 : chB l m s0 bits 0 = false := rfl
          have CN : ∀ k rest p, (qk l m s0 bits k).st = rest ++ [p] → chB l m s0 bits (k + 1) = (chB l m s0 bits k || (ansO l m s0 bits p.r && !sameI (inR21 l p.r) (inR21 m p.r))) := fun k rest p h => chB_next h
          have CF : chB l m s0 bits q = false → ∀ k ∈ diffL l m, hasRs (setS (hasRs (qk l m s0 bits q).fs)) k = true := fun h => f6 (chB_false h)
          have hDl : (diffL l m).length ≤ 48 := by
            unfold diffL
            rw [List.length_append, keyL_len, keyL_len]
            have h1 := List.length_filter_le (difP m) l
            have h2 := List.length_filter_le (goneP l) m
            omega
          have hLg := logN_le l.length
          generalize chB l m s0 bits = ch at *
          generalize qk l m s0 bits = v at *
          unfold dv0 at n0
          simp only [DV.obs, dsO, treeA, Pt.enc, Rng.enc, List.map_cons, List.map_nil, List.length_cons, List.length_nil] at n0
          generalize hTT : treeF l s0 = T at *
          have y1 : (v 0).es = [⟨0, l.length, ⟨[], [], true⟩⟩] := by rw [Q0]; rfl
          have y2 : (v 0).n = 1 := by rw [Q0]; rfl
          have y3 : (v 0).fs = [] := by rw [Q0]; rfl
          have y4 : (v 0).a = 0 := by rw [Q0]; rfl
          generalize hD : diffL l m = D at *
          generalize logN l.length = lg at *
          have hmost : 2 * D.length * lg ≤ 576 := by
            have := Nat.mul_le_mul (show 2 * D.length ≤ 96 by omega) hLg
            omega
          have w1 : IntKind.i64.wrap (2 * (D.length : Int)) = 2 * (D.length : Int) := by rw [wrap_i64]; omega
          have w2 : IntKind.i64.wrap (2 * (D.length : Int) * (lg : Int)) = ((2 * D.length * lg : Nat) : Int) := by
            have e : 2 * (D.length : Int) * (lg : Int) = ((2 * D.length * lg : Nat) : Int) := by push_cast; rfl
            rw [e, wrap_i64]; omega
          have w3 : IntKind.i64.wrap (1 + ((2 * D.length * lg : Nat) : Int)) = ((1 + 2 * D.length * lg : Nat) : Int) := by rw [wrap_i64] <;> omega
          simp -implicitDefEqProofs (maxSteps := 6000000) (disch := (first | omega | decide)) only [go_sem, ↓reduceIte, seval, g0, g1, g1', g2, g2', hb, q1, n0, yd, yl, w1, w2, w3, List.length_map]
          refine wpA_loop [0, 1, 5, 7, 8, 10, 11] (ι := {k : Nat // k ≤ q}) (fun k => [(13, .int .i64 (k.1 : Nat)), (12, .bool (ch k.1))])
            (fun k => [(1, .box [.dptr [encM T, .int .u64 s0, .int .i64 bits], .row 2 0 5 (v k.1).n false, .row 3 0 3 (v k.1).fs.length false, .int .i64 (v k.1).a]), (2, .row 5 ((v k.1).es.map Pt.enc)), (3, .row 3 ((v k.1).fs.map Rng.enc))])
            (fun k => q - k.1) ⟨0, Nat.zero_le _⟩ (Nat.zero_le _) ?_ ?_
          · simp -implicitDefEqProofs (disch := (first | omega | decide)) only [go_sem, ↓reduceIte, seval, y1, y2, y3, y4, C0, Pt.enc]
          · rintro ⟨k, hk⟩
            simp only at hk ⊢
            obtain ⟨kG, kA, kl, ks, kb⟩ := QG k
            have kok : (v k).ok := kG.ok (by omega)
            have kd : Ds.ok ⟨T, l, s0, bits, (v k).st, (v k).fs, (v k).a⟩ := by
              obtain ⟨o1, o2, o3, o4, o5, o6, o7⟩ := kok
              exact ⟨hT, fun p hp => (o3 p hp).1, by simp only [DV.st, List.length_take]; omega, by simp only; omega, o6, by simp only; omega⟩
            have n1 := w_Next (x := .some ⟨T, l, s0, bits, (v k).st, (v k).fs, (v k).a⟩) kd
            have vt : List.take (v k).n ((v k).es.map Pt.enc) = (v k).st.map Pt.enc := List.map_take.symm
            have hn := kG.n
            have hfl : (v k).fs.length ≤ (v k).fs.length := Nat.le_refl _
            have hle : (k : Int) ≤ ((1 + 2 * D.length * lg : Nat) : Int) := by omega
            simp only [DX.enc, Ds.cells, treeA] at n1
            by_cases hkq : k < q
            · obtain ⟨rest, p, hs⟩ : ∃ rest p, (v k).st = rest ++ [p] := by
                rcases List.eq_nil_or_concat (v k).st with h | ⟨rest, p, h⟩
                · exact absurd h (f4 k hkq)
                · exact ⟨rest, p, by rw [h, List.concat_eq_append]⟩
              have hpr : rightR p.r = true := by
                obtain ⟨a1, a2, a3, a4⟩ := kG.p p (by rw [hs]; simp)
                rw [kl] at a2 a3 a4
                rw [a4]; exact rgD_right hr a1 a2 a3
              have hpo : p.r.ok := by
                unfold rightR at hpr
                simp only [Bool.and_eq_true, decide_eq_true_eq] at hpr
                exact ⟨by omega, by omega⟩
              have en : nextA (.some ⟨T, l, s0, bits, (v k).st, (v k).fs, (v k).a⟩) = .tup [.agg [.str p.r.lo, .str p.r.hi, .bool p.r.op, .int .u64 (sum21 l p.r s0 bits)], .bool true] := by
                unfold nextA; simp only; rw [hs, List.getLast?_append]; rfl
              rw [en] at n1
              have vn := QN k rest p hs
              have cn := CN k rest p hs
              have x1 := s_Sum (l := m) (r := p.r) (seed := s0) (bits := bits) ⟨by omega, hpo, hri'⟩
              have x2 := s_In (l := l) (r := p.r) ⟨by omega, hpo, ho⟩
              have x3 := s_In (l := m) (r := p.r) ⟨by omega, hpo, ho'⟩
              have i1 : (inR21 l p.r).length ≤ 24 := Nat.le_trans (List.length_filter_le _ _) hl24
              have i2 : (inR21 m p.r).length ≤ 24 := Nat.le_trans (List.length_filter_le _ _) hm24
              have x4 := y_Same (l := inR21 l p.r) (m := inR21 m p.r) ⟨by omega, by omega⟩
              have t1 := l_Tell (.own (v k) (ansO l m s0 bits p.r)) kok
              have told := (tell_st hn hs (ansO l m s0 bits p.r)).1
              simp only [TX.enc, TX.obs, TX.spec, told] at t1
              rw [← vn] at t1
              have m2 := QG (k + 1)
              simp only [DV.obs, dsO, treeA, kl, ks, kb, hTT, m2.2.2.1, m2.2.2.2.1, m2.2.2.2.2] at t1
              have k2 : IntKind.i64.wrap ((k : Int) + 1) = ((k + 1 : Nat) : Int) := by rw [wrap_i64 (by omega)]; omega
              have ea : ansO l m s0 bits p.r = (sum21 m p.r s0 bits == sum21 l p.r s0 bits) := rfl
              clear told vn hs en
              generalize ansO l m s0 bits p.r = an at *
              generalize sum21 l p.r s0 bits = S1 at *
              generalize sum21 m p.r s0 bits = S2 at *
              generalize sameI (inR21 l p.r) (inR21 m p.r) = sm at *
              generalize inR21 l p.r = I1 at *
              generalize inR21 m p.r = I2 at *
              obtain ⟨pf, pt, lo, hi, op⟩ := p
              simp only [Rng.enc] at n1 x1 x2 x3
              generalize v k = u at *
              generalize hu' : v (k + 1) = u' at *
              generalize hc0 : ch k = c0 at *
              cases an <;> cases c0 <;> cases sm <;> (
                simp only [Bool.false_or, Bool.true_or, Bool.true_and, Bool.false_and, Bool.not_true, Bool.not_false] at cn
                simp -implicitDefEqProofs (maxSteps := 6000000) (disch := (first | omega | decide)) only [go_sem, ↓reduceIte, seval, hle, n1, x1, x2, x3, x4, vt, hn, hfl, t1, ea.symm, k2, List.length_map, Nat.le_refl]
                refine ⟨⟨k + 1, hkq⟩, ?_, by simp only; omega⟩
                simp [hu', cn])
            · have hke : k = q := by omega
              subst hke
              have en : nextA (.some ⟨T, l, s0, bits, (v k).st, (v k).fs, (v k).a⟩) = noQ := by unfold nextA; simp only; rw [f2]; rfl
              have a1 := w_Asked (x := .some ⟨T, l, s0, bits, (v k).st, (v k).fs, (v k).a⟩) kd
              have f1' := w_Found (x := .some ⟨T, l, s0, bits, (v k).st, (v k).fs, (v k).a⟩) kd
              rw [en] at n1
              simp only [DX.enc, Ds.cells, treeA, DX.a, DX.fs] at a1 f1'
              rw [f2] at n1 a1 f1' vt
              simp only [noQ, List.map_nil] at n1 a1 f1' vt
              have hle2 : ¬ ((1 + 2 * D.length * lg : Nat) : Int) < ((v k).a : Int) := by omega
              have zl := setS_len (v k).fs
              have zf := kG.fl
              obtain ⟨gr, _, _⟩ := goRs_up (setS_right (hasRs (v k).fs))
              have ZO : okL (setS (hasRs (v k).fs)) := fun r h => by
                have := gr r h
                unfold rightR at this
                simp only [Bool.and_eq_true, decide_eq_true_eq] at this
                exact ⟨by omega, by omega⟩
              have CF' := CF
              generalize setS (hasRs (v k).fs) = Z at *
              generalize v k = u at *
              generalize ch k = c0 at *
              simp -implicitDefEqProofs (maxSteps := 6000000) (disch := (first | omega | decide)) only [go_sem, ↓reduceIte, seval, hle, n1, a1, f1', vt, hn, hfl, hle2, List.length_map, Nat.le_refl]
              have DK : ∀ x ∈ D, x.length ≤ 16 := fun x hx => by
                rw [← hD] at hx
                rcases mem_diff.1 hx with ⟨y, h1, rfl, _⟩ | ⟨y, h1, rfl, _⟩
                · exact (rightI_key (hri y h1)).2
                · exact (rightI_key (hri' y h1)).2
              refine wpA_loop [8, 10, 12, 124, 125] (ι := {j : Nat // j ≤ Z.length}) (fun j => [(126, .int .i64 (j.1 : Nat))]) (fun _ => []) (fun j => Z.length - j.1) ⟨0, Nat.zero_le _⟩ (Nat.zero_le _) ?_ ?_
              · simp -implicitDefEqProofs (disch := (first | omega | decide)) only [go_sem, ↓reduceIte, seval]
              · rintro ⟨j, hj⟩
                simp only at hj ⊢
                have j0 : (0 : Int) ≤ (j : Int) := by omega
                have j1 : ((j : Nat) : Int).toNat = j := Int.toNat_natCast _
                have j2 : IntKind.i64.wrap ((j : Int) + 1) = ((j + 1 : Nat) : Int) := by rw [wrap_i64 (by omega)]; omega
                by_cases hjz : j < Z.length
                · have hjz' : (j : Int) < (Z.length : Int) := by omega
                  have ez : (Z.map Rng.enc)[j]? = some (.agg [.str Z[j].lo, .str Z[j].hi, .bool Z[j].op]) := by rw [List.getElem?_map, List.getElem?_eq_getElem hjz]; rfl
                  obtain ⟨zo1, zo2⟩ := ZO _ (List.getElem_mem hjz)
                  obtain ⟨kk, kk1, kk2⟩ := f5 _ (List.getElem_mem hjz)
                  have hany : D.any (hasR Z[j]) = true := List.any_eq_true.2 ⟨kk, kk1, kk2⟩
                  generalize Z[j] = r at *
                  obtain ⟨lo, hi, op⟩ := r
                  simp only at ez zo1 zo2
                  simp -implicitDefEqProofs (maxSteps := 6000000) (disch := (first | omega | decide)) only [go_sem, ↓reduceIte, seval, hjz', ez, j0, j1, j2, List.length_map, Nat.le_refl]
                  refine wpA_loop [8, 10, 12, 20, 124, 125, 126, 130, 131] (ι := {i : Nat // i ≤ D.length}) (fun i => [(132, .int .i64 (i.1 : Nat)), (21, .bool ((D.take i.1).any (hasR ⟨lo, hi, op⟩)))]) (fun _ => []) (fun i => D.length - i.1) ⟨0, Nat.zero_le _⟩ (Nat.zero_le _) ?_ ?_
                  · simp -implicitDefEqProofs (disch := (first | omega | decide)) only [go_sem, ↓reduceIte, seval]
                  · rintro ⟨i, hi'⟩
                    simp only at hi' ⊢
                    have i0 : (0 : Int) ≤ (i : Int) := by omega
                    have i1 : ((i : Nat) : Int).toNat = i := Int.toNat_natCast _
                    have i2 : IntKind.i64.wrap ((i : Int) + 1) = ((i + 1 : Nat) : Int) := by rw [wrap_i64 (by omega)]; omega
                    by_cases hid : i < D.length
                    · have hid' : (i : Int) < (D.length : Int) := by omega
                      have ed : (D.map A.str)[i]? = some (.str D[i]) := by rw [List.getElem?_map, List.getElem?_eq_getElem hid]; rfl
                      have hdk := DK _ (List.getElem_mem hid)
                      have g9 := t_ref07_Has (lo := lo) (hi := hi) (op := op) (s := D[i]) zo1 zo2 (by omega)
                      have en2 : (D.take (i + 1)).any (hasR ⟨lo, hi, op⟩) = ((D.take i).any (hasR ⟨lo, hi, op⟩) || hasR ⟨lo, hi, op⟩ D[i]) := by
                        rw [List.take_add_one, List.getElem?_eq_getElem hid, Option.toList_some, List.any_append, List.any_cons, List.any_nil, Bool.or_false]
                      generalize D[i] = s at *
                      generalize hasR ⟨lo, hi, op⟩ s = bb at *
                      cases hb0 : (D.take i).any (hasR ⟨lo, hi, op⟩) <;> cases bb <;> (
                        rw [hb0] at en2
                        simp -implicitDefEqProofs (maxSteps := 6000000) (disch := (first | omega | decide)) only [go_sem, ↓reduceIte, seval, hid', ed, g9, i0, i1, i2, List.length_map, Nat.le_refl]
                        refine ⟨⟨i + 1, hid⟩, ?_, by simp only; omega⟩
                        simp [en2])
                    · have hid' : ¬ (i : Int) < (D.length : Int) := by omega
                      have hall : (D.take i).any (hasR ⟨lo, hi, op⟩) = true := by rw [List.take_of_length_le (by omega)]; exact hany
                      rw [hall]
                      simp -implicitDefEqProofs (maxSteps := 6000000) (disch := (first | omega | decide)) only [go_sem, ↓reduceIte, seval, hid', j2, List.length_map, Nat.le_refl]
                      exact ⟨⟨j + 1, hjz⟩, by simp, by simp only; omega⟩
                · have hjz' : ¬ (j : Int) < (Z.length : Int) := by omega
                  simp -implicitDefEqProofs (maxSteps := 6000000) (disch := (first | omega | decide)) only [go_sem, ↓reduceIte, seval, hjz', List.length_map, Nat.le_refl]
                  refine wpA_loop [8, 12, 146, 147] (ι := {i : Nat // i ≤ D.length}) (fun i => [(148, .int .i64 (i.1 : Nat))]) (fun _ => []) (fun i => D.length - i.1) ⟨0, Nat.zero_le _⟩ (Nat.zero_le _) ?_ ?_
                  · simp -implicitDefEqProofs (disch := (first | omega | decide)) only [go_sem, ↓reduceIte, seval]
                  · rintro ⟨i, hi'⟩
                    simp only at hi' ⊢
                    have i0 : (0 : Int) ≤ (i : Int) := by omega
                    have i1 : ((i : Nat) : Int).toNat = i := Int.toNat_natCast _
                    have i2 : IntKind.i64.wrap ((i : Int) + 1) = ((i + 1 : Nat) : Int) := by rw [wrap_i64 (by omega)]; omega
                    by_cases hid : i < D.length
                    · have hid' : (i : Int) < (D.length : Int) := by omega
                      have ed : (D.map A.str)[i]? = some (.str D[i]) := by rw [List.getElem?_map, List.getElem?_eq_getElem hid]; rfl
                      have hdk := DK _ (List.getElem_mem hid)
                      have g9 := y_Has (l := Z) (k := D[i]) ⟨by omega, ZO, by omega⟩
                      have cf : c0 = false → hasRs Z D[i] = true := fun h => CF h _ (List.getElem_mem hid)
                      generalize D[i] = s at *
                      cases c0 with
                      | true =>
                        simp -implicitDefEqProofs (maxSteps := 6000000) (disch := (first | omega | decide)) only [go_sem, ↓reduceIte, seval, hid', ed, f1', i0, i1, i2, List.length_map, Nat.le_refl]
                        exact ⟨⟨i + 1, hid⟩, by simp, by simp only; omega⟩
                      | false =>
                        rw [cf rfl] at g9
                        simp -implicitDefEqProofs (maxSteps := 6000000) (disch := (first | omega | decide)) only [go_sem, ↓reduceIte, seval, hid', ed, g9, f1', i0, i1, i2, List.length_map, Nat.le_refl]
                        exact ⟨⟨i + 1, hid⟩, by simp, by simp only; omega⟩
                    · have hid' : ¬ (i : Int) < (D.length : Int) := by omega
                      simp -implicitDefEqProofs (maxSteps := 6000000) (disch := (first | omega | decide)) only [go_sem, ↓reduceIte, seval, hid', List.length_map, Nat.le_refl]
end Go.Proofs.Ytjnpfbohnpjckaa
