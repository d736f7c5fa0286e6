/- What the laws of this claim rest on: the abstract executor, its soundness, and what the functions compute on pure data. No condition. -/
import Derived.Test.YtmaipoimiiaofaaU4
import Derived.Shelf.SlSortCmp.NoneTotal
import Derived.Ground.SlsfProg
import Derived.Test.YtmaipoimiiaofaaProg
set_option linter.unusedVariables false
set_option linter.unusedSimpArgs false
namespace Go.Proofs.Ytmaipoimiiaofaa
open Go.Abs
set_option linter.unusedSimpArgs false
set_option linter.unusedVariables false
set_option maxRecDepth 20000
set_option maxHeartbeats 4000000
def okL (l : List Rng) : Prop := ∀ r ∈ l, r.ok
theorem rng_get {l : List Rng} {k : Nat} (h : k < l.length) : (l.map Rng.enc)[k]? = some (.agg [.str l[k].lo, .str l[k].hi, .bool l[k].op]) := by
  rw [List.getElem?_map, List.getElem?_eq_getElem h]; rfl
theorem okL_get {l : List Rng} {k : Nat} (h : okL l) (hk : k < l.length) : l[k].lo.length ≤ 9223372036854775807 ∧ l[k].hi.length ≤ 9223372036854775807 := h _ (List.getElem_mem hk)
@[simp] theorem map_rng_inj {l m : List Rng} : (l.map Rng.enc = m.map Rng.enc) = (l = m) := map_inj Rng.enc_inj
def prevR (l : List Rng) (k : Nat) : Option Rng := if k = 0 then none else l[k - 1]?
theorem prevR_succ {l : List Rng} {k : Nat} (h : k < l.length) : prevR l (k + 1) = some l[k] := by
  unfold prevR; rw [if_neg (by omega), show k + 1 - 1 = k by omega, List.getElem?_eq_getElem h]
theorem ok_ranges_Right : codeOK Try.prog T07 Try.f59.ntmps (Try.f59.body.getD .skip) = true := by kernel_rfl
theorem c_ranges_Right (l : List Rng) (hl : l.length ≤ 4611686018427387904) (hok : okL l) : CallA Try.prog 59 [.slc (l.map Rng.enc)] (· = .bool (rightRs l)) := by
  refine callA_of_body T07_ok mixed Try.func59 rfl (Nat.le_of_ble_eq_true rfl) ok_ranges_Right ?_
  unfold Try.f59
  simp -implicitDefEqProofs (maxSteps := 600000) (disch := (first | omega | decide)) only [go_sem, ↓reduceIte, seval, List.length_map]
  refine wpA_loop [0, 5, 6] (ι := {k : Nat // k ≤ l.length ∧ rightRs l = goRs (prevR l k) (l.drop k)}) (fun p => [(7, .int .i64 p.1), (2, .bool false)]) (fun _ => []) (fun p => l.length - p.1) ⟨0, by omega, rfl⟩ (Nat.zero_le _) ?_ ?_
  · simp -implicitDefEqProofs (maxSteps := 600000) (disch := (first | omega | decide)) only [go_sem, ↓reduceIte, seval]
  · rintro ⟨k, hk, hd⟩
    simp only
    by_cases hlt : k < l.length
    · have hlt' : (k : Int) < (l.length : Int) := by omega
      have e1 := rng_get hlt
      have ok1 := okL_get hok hlt
      have hprev := prevR_succ hlt
      rw [List.drop_eq_getElem_cons hlt] at hd
      simp only [goRs] at hd
      have next : rightRs l = goRs (some l[k]) (l.drop (k + 1)) → ∃ j : {k : Nat // k ≤ l.length ∧ rightRs l = goRs (prevR l k) (l.drop k)}, (k : Int) + 1 = (j.1 : Int) ∧ l.length - j.1 < l.length - k := fun h => ⟨⟨k + 1, hlt, by rw [hprev]; exact h⟩, by simp, by show l.length - (k + 1) < l.length - k; omega⟩
      generalize hx : l[k] = x at *
      obtain ⟨lo, hi, op⟩ := x
      simp only at ok1
      cases h1 : rightR ⟨lo, hi, op⟩ with
      | false =>
        have hh : rightRs l = false := by rw [hd, h1]; rfl
        simp -implicitDefEqProofs (maxSteps := 600000) (disch := (first | omega | decide)) only [go_sem, ↓reduceIte, seval, hlt', e1, ok1, h1, hh, wrap_i64, List.length_map]
      | true =>
        by_cases h0 : 0 < k
        · have h0' : (0 : Int) < (k : Int) := by omega
          have hk1 : k - 1 < l.length := by omega
          have e0 := rng_get hk1
          have ok0 := okL_get hok hk1
          have hpt : prevR l k = some l[k - 1] := by
            unfold prevR; rw [if_neg (by omega), List.getElem?_eq_getElem hk1]
          have t0 : ((k : Int) - 1).toNat = k - 1 := by omega
          have b0 : (0 : Int) ≤ (k : Int) - 1 := by omega
          have b1 : (k : Int) - 1 < (l.length : Int) := by omega
          rw [hpt] at hd
          generalize hy : l[k - 1] = y at *
          obtain ⟨lo', hi', op'⟩ := y
          simp only at ok0 hd
          cases h2 : op' with
          | true =>
            subst h2
            have hh : rightRs l = false := by rw [hd]; simp
            simp -implicitDefEqProofs (maxSteps := 600000) (disch := (first | omega | decide)) only [go_sem, ↓reduceIte, seval, hlt', e1, e0, ok0, ok1, h1, h0', t0, b0, b1, hh, wrap_i64, List.length_map]
          | false =>
            subst h2
            cases h3 : ltB hi' lo with
            | false =>
              have hh : rightRs l = false := by rw [hd, h3]; simp
              simp -implicitDefEqProofs (maxSteps := 600000) (disch := (first | omega | decide)) only [go_sem, ↓reduceIte, seval, hlt', e1, e0, ok0, ok1, h1, h3, h0', t0, b0, b1, hh, wrap_i64, List.length_map]
            | true =>
              simp -implicitDefEqProofs (maxSteps := 600000) (disch := (first | omega | decide)) only [go_sem, ↓reduceIte, seval, hlt', e1, e0, ok0, ok1, h1, h3, h0', t0, b0, b1, wrap_i64, List.length_map]
              exact next (by rw [hd, h1, h3]; simp)
        · have h0' : ¬ (0 : Int) < (k : Int) := by omega
          simp -implicitDefEqProofs (maxSteps := 600000) (disch := (first | omega | decide)) only [go_sem, ↓reduceIte, seval, hlt', e1, ok1, h1, h0', wrap_i64, List.length_map]
          have hk0 : k = 0 := by omega
          exact next (by rw [hd, h1]; simp [prevR, hk0])
    · have hlt' : ¬ (k : Int) < (l.length : Int) := by omega
      have hh : rightRs l = true := by
        rw [hd, List.drop_of_length_le (by omega)]; cases prevR l k <;> rfl
      simp -implicitDefEqProofs (maxSteps := 600000) (disch := (first | omega | decide)) only [go_sem, ↓reduceIte, seval, hlt', hh, List.length_map]
theorem ok_ref08_Has : codeOK Try.prog T07 Try.f16.ntmps (Try.f16.body.getD .skip) = true := by kernel_rfl
theorem c_ref08_Has (l : List Rng) (s : List UInt8) (hl : l.length ≤ 4611686018427387904) (hok : okL l) (hs : s.length ≤ 9223372036854775807) : CallA Try.prog 16 [.slc (l.map Rng.enc), .str s] (· = .bool (hasRs l s)) := by
  refine callA_of_body T07_ok mixed Try.func16 rfl (Nat.le_of_ble_eq_true rfl) ok_ref08_Has ?_
  unfold Try.f16
  simp -implicitDefEqProofs (maxSteps := 600000) (disch := (first | omega | decide)) only [go_sem, ↓reduceIte, seval, List.length_map]
  refine wpA_loop [0, 1] (ι := {k : Nat // k ≤ l.length ∧ hasRs l s = hasRs (l.drop k) s}) (fun p => [(5, .int .i64 p.1), (4, .bool false)]) (fun _ => []) (fun p => l.length - p.1) ⟨0, by omega, rfl⟩ (Nat.zero_le _) ?_ ?_
  · simp -implicitDefEqProofs (maxSteps := 600000) (disch := (first | omega | decide)) only [go_sem, ↓reduceIte, seval]
  · rintro ⟨k, hk, hd⟩
    simp only
    by_cases hlt : k < l.length
    · have hlt' : (k : Int) < (l.length : Int) := by omega
      have e1 := rng_get hlt
      have ok1 := okL_get hok hlt
      rw [List.drop_eq_getElem_cons hlt, hasRs_cons] at hd
      generalize hx : l[k] = x at *
      obtain ⟨lo, hi, op⟩ := x
      simp only at ok1
      cases h1 : hasR ⟨lo, hi, op⟩ s with
      | true =>
        have hh : hasRs l s = true := by rw [hd, h1]; rfl
        simp -implicitDefEqProofs (maxSteps := 600000) (disch := (first | omega | decide)) only [go_sem, ↓reduceIte, seval, hlt', e1, ok1, h1, hh, wrap_i64, List.length_map]
      | false =>
        simp -implicitDefEqProofs (maxSteps := 600000) (disch := (first | omega | decide)) only [go_sem, ↓reduceIte, seval, hlt', e1, ok1, h1, wrap_i64, List.length_map]
        exact ⟨⟨k + 1, hlt, by rw [hd, h1]; rfl⟩, by simp, by show l.length - (k + 1) < l.length - k; omega⟩
    · have hlt' : ¬ (k : Int) < (l.length : Int) := by omega
      have hh : hasRs l s = false := by rw [hd, List.drop_of_length_le (by omega)]; rfl
      simp -implicitDefEqProofs (maxSteps := 600000) (disch := (first | omega | decide)) only [go_sem, ↓reduceIte, seval, hlt', hh, List.length_map]
def sameRs (a b : List Rng) : Bool := decide (a = b)
theorem ok_ref08_Same : codeOK Try.prog T07 Try.f14.ntmps (Try.f14.body.getD .skip) = true := by kernel_rfl
theorem c_ref08_Same (a b : List Rng) (hl : a.length ≤ 4611686018427387904) (hb : b.length ≤ 4611686018427387904) : CallA Try.prog 14 [.slc (a.map Rng.enc), .slc (b.map Rng.enc)] (· = .bool (sameRs a b)) := by
  refine callA_of_body T07_ok mixed Try.func14 rfl (Nat.le_of_ble_eq_true rfl) ok_ref08_Same ?_
  unfold Try.f14
  cases h0 : ((a.length : Int) == (b.length : Int)) with
  | false =>
    have hne : a.length ≠ b.length := by
      have : (a.length : Int) ≠ (b.length : Int) := by simpa using h0
      omega
    have hh : sameRs a b = false := by unfold sameRs; simp; intro e; exact hne (by rw [e])
    simp -implicitDefEqProofs (maxSteps := 600000) (disch := (first | omega | decide)) only [go_sem, ↓reduceIte, seval, h0, hh, List.length_map]
  | true =>
    have he : a.length = b.length := by
      have : (a.length : Int) = (b.length : Int) := by simpa using h0
      omega
    simp -implicitDefEqProofs (maxSteps := 600000) (disch := (first | omega | decide)) only [go_sem, ↓reduceIte, seval, h0, List.length_map]
    refine wpA_loop [0, 1] (ι := {k : Nat // k ≤ a.length ∧ a.take k = b.take k}) (fun p => [(5, .int .i64 p.1)]) (fun _ => []) (fun p => a.length - p.1) ⟨0, by omega, rfl⟩ (Nat.zero_le _) ?_ ?_
    · simp -implicitDefEqProofs (maxSteps := 600000) (disch := (first | omega | decide)) only [go_sem, ↓reduceIte, seval]
    · rintro ⟨k, hk, hd⟩
      simp only
      by_cases hlt : k < a.length
      · have hlt' : (k : Int) < (a.length : Int) := by omega
        have hlt2 : (k : Int) < (b.length : Int) := by omega
        have hltb : k < b.length := by omega
        have e1 := rng_get hlt
        have e2 := rng_get hltb
        have t1 := (List.take_append_getElem hlt).symm
        have t2 := (List.take_append_getElem hltb).symm
        have hno : a[k] ≠ b[k] → sameRs a b = false := fun h => by
          unfold sameRs; simp; intro e; subst e; exact h rfl
        generalize hx : a[k] = x at *
        generalize hy : b[k] = y at *
        obtain ⟨f, t, o⟩ := x
        obtain ⟨f', t', o'⟩ := y
        cases h1 : f == f' with
        | false =>
          have hh := hno (by have : f ≠ f' := by simpa using h1
                             simp [this])
          simp -implicitDefEqProofs (maxSteps := 600000) (disch := (first | omega | decide)) only [go_sem, ↓reduceIte, seval, hlt', hlt2, e1, e2, h1, hh, List.length_map]
        | true =>
          cases h2 : t == t' with
          | false =>
            have hh := hno (by have : t ≠ t' := by simpa using h2
                               simp [this])
            simp -implicitDefEqProofs (maxSteps := 600000) (disch := (first | omega | decide)) only [go_sem, ↓reduceIte, seval, hlt', hlt2, e1, e2, h1, h2, hh, List.length_map]
          | true =>
            cases h3 : o == o' with
            | false =>
              have hh := hno (by have : o ≠ o' := by simpa using h3
                                 simp [this])
              simp -implicitDefEqProofs (maxSteps := 600000) (disch := (first | omega | decide)) only [go_sem, ↓reduceIte, seval, hlt', hlt2, e1, e2, h1, h2, h3, hh, List.length_map]
            | true =>
              obtain rfl : f = f' := by simpa using h1
              obtain rfl : t = t' := by simpa using h2
              obtain rfl : o = o' := by simpa using h3
              simp -implicitDefEqProofs (maxSteps := 600000) (disch := (first | omega | decide)) only [go_sem, ↓reduceIte, seval, hlt', hlt2, e1, e2, h1, h2, h3, wrap_i64, List.length_map]
              exact ⟨⟨k + 1, hlt, by rw [t1, t2, hd]⟩, by simp, by show a.length - (k + 1) < a.length - k; omega⟩
      · have hlt' : ¬ (k : Int) < (a.length : Int) := by omega
        have hh : sameRs a b = true := by
          rw [List.take_of_length_le (by omega), List.take_of_length_le (by omega)] at hd
          simp [sameRs, hd]
        simp -implicitDefEqProofs (maxSteps := 600000) (disch := (first | omega | decide)) only [go_sem, ↓reduceIte, seval, hlt', hh, List.length_map]
end Go.Proofs.Ytmaipoimiiaofaa
namespace Go.Abs
theorem callH_pure {P : Program} {f : FuncId} {xs ys : List A} {r : A} (h : CallA P f ys (· = r)) (hx : ∀ (E : Env) (vs : List Value), RepL E xs vs → RepL E ys vs) (hp : r.pure = true) : CallH P f xs [] r [] [] := by
  intro N φ w vs hN hrel hfree hrep
  have e1 : φ = [] := List.length_eq_zero_iff.1 hrel.len
  subst e1
  have hN' : ∀ b, (envOf N [] w).N b → b < w.heap.size := fun b hb => by
    rcases hb with hb | ⟨n, k, hn⟩
    · exact hN b hb
    · simp at hn
  refine Calls.mono (h (envOf N [] w).N w vs hN' (hx _ _ hrep)) ?_
  rintro e w' ⟨v, r', rfl, rfl, hr, hg⟩
  refine ⟨v, [], rfl, ?_, ?_, ?_, Nat.le_refl _⟩
  · exact hr
  · exact { len := rfl, objs := fun n o p ho => by cases n <;> simp [nthO] at ho, own := fun n b k hn => by simp at hn, inj := fun n m b k k' hn => by simp at hn }
  · exact {
      os := hg.os
      tape := hg.tape
      output := hg.output
      drawn := hg.drawn
      size := hg.size
      block := fun b hb _ => hg.block b hb
      shape := fun b c e fr hb => ⟨c, fr, by rw [hg.block b (Array.getElem?_eq_some_iff.1 hb).1]; exact hb, rfl⟩
      own := fun n b k hn => by simp at hn
      stay := fun n p _ hn => hn }
theorem rep_clip_slc {E : Env} {es : List A} {v : Value} (h : Rep E (.clip es) v) : Rep E (.slc es) v := by
  simp only [Rep] at h ⊢
  obtain ⟨hp, a, hv, hl⟩ := h
  exact ⟨hp, a, _, hv, Nat.le_refl _, hl⟩
theorem setNth_last {x v : A} : ∀ {l : List A}, setNth (l ++ [x]) l.length v = l ++ [v]
  | [] => rfl
  | y :: l => by simp only [List.cons_append, List.length_cons, setNth, setNth_last]
theorem get_last {x : A} : ∀ {l : List A}, (l ++ [x])[l.length]? = some x
  | [] => rfl
  | y :: l => by simp [get_last]
open Go.RowKit
structure SortTurn (b : Nat) (D : List Value) (w w' : World) : Prop where
  os : w'.os = w.os
  tape : w'.tape = w.tape
  output : w'.output = w.output
  drawn : w.drawn ≤ w'.drawn
  size : w.heap.size ≤ w'.heap.size
  block : ∀ c, c < w.heap.size → c ≠ b → w'.heap[c]? = w.heap[c]?
  self : ∀ (cc : Array Value) (e : TypeId) (fr : Nat × Nat), w.heap[b]? = some (.cells cc e fr) → ∃ cc', w'.heap[b]? = some (.cells cc' e fr) ∧ cc'.size = cc.size
  cells : w'.rangeAt b 0 D
theorem callH_sorted {P : Program} {f g : FuncId} {k : Nat} {c : Bool} {es es' : List A} {D : List Value} (hk : 0 < k) (hD : ∀ E, RowRel E k es' D) (hp : A.pure.pureL es' = true) (h1 : ∀ u ∈ D, u.oneCell' = true) (hlen : es'.length = es.length)
    (hnil : es = [] → ∀ (w : World) (q : Option Addr) (cap : Nat), Calls P f #[.slice q 0 cap, .func (.func g) #[] #[]] w fun e w' => e = .returned (.tuple #[]) ∧ w' = w)
    (hcall : ∀ (E : Env) (b cap : Nat) (cc : Array Value) (e : TypeId) (fr : Nat × Nat), es ≠ [] → E.w.heap[b]? = some (.cells cc e fr) → Unfrozen cc fr → RepE E k b 0 es → k * cap ≤ cc.size → es.length ≤ cap →
      Calls P f #[.slice (some ⟨b, 0, none⟩) es.length cap, .func (.func g) #[] #[]] E.w fun e w' => e = .returned (.tuple #[]) ∧ SortTurn b D E.w w') :
    CallH P f [.row 0 0 k es.length c, .fn g []] [.row k es] (.tup []) [.row k es'] [] := by
  intro N φ w vs hN hrel hfree hrep
  simp only [RepL] at hrep
  obtain ⟨v0, _, rfl, hv0, v1, _, rfl, hv1, rfl⟩ := hrep
  simp only [Rep, RepL] at hv1
  obtain ⟨us, rfl, rfl⟩ := hv1
  have hφl : φ.length = 1 := hrel.len
  have stay : ∀ (w' : World), w' = w → ∃ v φ', (Ending.returned (.tuple #[]) : Ending) = .returned v ∧ Rep (envOf N φ' w') (.tup []) v ∧ HeapRel N φ' [.row k es] w' ∧ TurnH φ w [] φ' w' ∧ 1 ≤ 1 := by
    rintro w' rfl
    exact ⟨_, φ, rfl, by simp [Rep, RepL], hrel, ⟨rfl, rfl, rfl, Nat.le_refl _, Nat.le_refl _, fun _ _ _ => rfl, fun _ c _ fr h => ⟨c, fr, h, rfl⟩, fun n b k hn => .inr ⟨n, k, hn⟩, fun _ _ _ h => h⟩, Nat.le_refl _⟩
  have nilcase : es = [] → ∀ (q : Option Addr) (cap : Nat), Calls P f #[.slice q 0 cap, .func (.func g) #[] #[]] w fun e w' => ∃ v φ', e = .returned v ∧ Rep (envOf N φ' w') (.tup []) v ∧ HeapRel N φ' [.row k es'] w' ∧ TurnH φ w [] φ' w' ∧ [Obj.row k es].length ≤ [Obj.row k es'].length := by
    intro hes q cap
    have hes' : es' = es := by subst hes; exact List.length_eq_zero_iff.1 (by simpa using hlen)
    rw [hes']
    refine Calls.mono (hnil hes w q cap) ?_
    rintro e w' ⟨rfl, hw⟩
    exact stay w' hw
  by_cases hes : es = []
  · have hl0 : es.length = 0 := by rw [hes]; rfl
    simp only [Rep] at hv0
    rcases hv0 with ⟨o, _, _, _, _, q, rfl⟩ | ⟨b, cap, c', e', fr, hφ, rfl, hlc, _, hb, hfit⟩
    · exact nilcase hes q 0
    · rw [hl0]; exact nilcase hes _ cap
  · simp only [Rep] at hv0
    rcases hv0 with ⟨o, _, _, h0, _⟩ | ⟨b, cap, c', e', fr, hφ, rfl, hlc, _, hb, hfit⟩
    · exact absurd (List.length_eq_zero_iff.1 h0) hes
    · have hob := hrel.objs 0 (.row k es) (.loc b k) rfl hφ
      simp only [ObjRel] at hob
      obtain ⟨_, hpe, ⟨cc, ee, ffr, hcc, hunf⟩, hE⟩ := hob
      have hb' : w.heap[b]? = some (.cells c' e' fr) := hb
      have hcc' : w.heap[b]? = some (.cells cc ee ffr) := hcc
      rw [hb'] at hcc'
      simp only [Option.some.injEq, Go.Obj.cells.injEq] at hcc'
      obtain ⟨rfl, rfl, rfl⟩ := hcc'
      rw [Nat.zero_mul] at hfit ⊢
      refine Calls.mono (hcall (envOf N φ w) b cap c' e' fr hes hb' hunf hE (by omega) hlc) ?_
      rintro e w' ⟨rfl, hT⟩
      obtain ⟨cc', hcc', hsz⟩ := hT.self c' e' fr hb'
      have hwid : w'.heap.size ≥ w.heap.size := hT.size
      refine ⟨_, φ, rfl, by simp [Rep, RepL], ?_, ?_, Nat.le_refl _⟩
      · exact {
          len := by simpa using hφl
          objs := fun n o p ho hp' => by
            cases n with
            | succ n => simp [nthO] at ho
            | zero =>
              simp only [nthO, Option.some.injEq] at ho
              subst ho
              have hφ' : φ[0]? = some (Own.loc b k) := hφ
              rw [hφ'] at hp'
              obtain rfl := Option.some.inj hp'
              simp only [ObjRel]
              refine ⟨trivial, hp, ⟨cc', e', fr, hcc', fun j hj => hunf j (by omega)⟩, ?_⟩
              exact RowRel.mem (hD (envOf N φ w')) hT.cells h1
          own := fun n b' k' hn => ⟨Nat.lt_of_lt_of_le (hrel.own n b' k' hn).1 hT.size, (hrel.own n b' k' hn).2⟩
          inj := hrel.inj }
      · exact {
          os := hT.os
          tape := hT.tape
          output := hT.output
          drawn := hT.drawn
          size := hT.size
          block := fun b' hb' hno => hT.block b' hb' fun e => by subst e; exact hno 0 k hφ
          shape := fun b' c₁ e₁ fr₁ h₁ => by
            by_cases hbb : b' = b
            · subst hbb
              obtain ⟨c₂, h₂, h₃⟩ := hT.self c₁ e₁ fr₁ h₁
              exact ⟨c₂, fr₁, h₂, h₃⟩
            · have : b' < w.heap.size := (Array.getElem?_eq_some_iff.1 h₁).1
              exact ⟨c₁, fr₁, by rw [hT.block b' this hbb]; exact h₁, rfl⟩
          own := fun n b' k' hn => .inr ⟨n, k', hn⟩
          stay := fun _ _ _ h => h }
def encV : A → Value
  | .int k n => .int k n
  | .bool b => .bool b
  | .str s => .string ⟨s.toArray⟩
  | _ => undef
def scalar : A → Bool
  | .int _ _ => true
  | .bool _ => true
  | .str _ => true
  | _ => false
theorem rep_scalar {E : Env} {x : A} {v : Value} (h : scalar x = true) : Rep E x v ↔ v = encV x := by
  cases x <;> simp [scalar] at h <;> simp [Rep, encV]
theorem one_scalar {x : A} (h : scalar x = true) : (encV x).oneCell' = true := by
  cases x <;> simp [scalar] at h <;> rfl
theorem pure_scalar {x : A} (h : scalar x = true) : x.pure = true := by
  cases x <;> simp [scalar] at h <;> simp [A.pure]
theorem repL_scalars {E : Env} : ∀ {xs : List A}, (∀ x ∈ xs, scalar x = true) → RepL E xs (xs.map encV)
  | [], _ => by simp [RepL]
  | x :: xs, h => by
    simp only [List.map_cons, RepL]
    exact ⟨_, _, rfl, (rep_scalar (h x (by simp))).2 rfl, repL_scalars fun y hy => h y (by simp [hy])⟩
theorem pureL_scalars : ∀ {xs : List A}, (∀ x ∈ xs, scalar x = true) → A.pure.pureL xs = true
  | [], _ => rfl
  | x :: xs, h => by
    simp only [A.pure.pureL, Bool.and_eq_true]
    exact ⟨pure_scalar (h x (by simp)), pureL_scalars fun y hy => h y (by simp [hy])⟩
theorem flatten_get {α : Type} {k : Nat} (hk : 0 < k) : ∀ {ls : List (List α)}, (∀ l ∈ ls, l.length = k) → ∀ j : Nat, ls.flatten[j]? = (ls[j / k]?).bind fun l => l[j % k]?
  | [], _, j => by simp
  | l :: ls, h, j => by
    have hl := h l (by simp)
    rw [List.flatten_cons]
    by_cases hj : j < k
    · rw [List.getElem?_append_left (by omega), Nat.div_eq_of_lt hj, Nat.mod_eq_of_lt hj]; simp
    · rw [List.getElem?_append_right (by omega), flatten_get hk (fun x hx => h x (by simp [hx])) (j - l.length), hl]
      have h1 : j / k = (j - k) / k + 1 := by rw [Nat.div_eq_sub_div hk (by omega)]
      have h2 : j % k = (j - k) % k := by rw [Nat.mod_eq_sub_mod (by omega)]
      rw [h1, h2]; simp
theorem rowRel_flat {E : Env} {k : Nat} {β : Type} {enc : β → List A} (hk : ∀ x, (enc x).length = k) (hs : ∀ x, ∀ a ∈ enc x, scalar a = true) : ∀ l : List β, RowRel E k (l.map fun x => .agg (enc x)) ((l.map fun x => (enc x).map encV).flatten)
  | [] => by simp [RowRel]
  | x :: l => by
    have h1 : ((enc x).map encV).length = k := by rw [List.length_map, hk]
    simp only [List.map_cons, RowRel, A.cells, List.flatten_cons]
    refine ⟨hk x, by rw [List.length_append]; omega, ?_, ?_⟩
    · rw [List.take_append_of_le_length (by omega), List.take_of_length_le (by omega)]
      exact repL_scalars (hs x)
    · rw [List.drop_append_of_le_length (by omega), List.drop_of_length_le (by omega)]
      exact rowRel_flat hk hs l
theorem rowRel_one {E : Env} {β : Type} {enc : β → A} (hs : ∀ x, scalar (enc x) = true) : ∀ l : List β, RowRel E 1 (l.map enc) (l.map fun x => encV (enc x))
  | [] => by simp [RowRel]
  | x :: l => by
    have hc : (enc x).cells = [enc x] := by have := hs x; cases h : enc x <;> rw [h] at this <;> simp [scalar] at this <;> rfl
    simp only [List.map_cons, RowRel, hc]
    refine ⟨rfl, by simp, ?_, ?_⟩
    · simp only [List.take_succ_cons, List.take_zero, RepL]
      exact ⟨_, [], rfl, (rep_scalar (hs x)).2 rfl, rfl⟩
    · simpa using rowRel_one hs l
theorem pureL_map {β : Type} {f : β → A} (h : ∀ x, (f x).pure = true) : ∀ l : List β, A.pure.pureL (l.map f) = true
  | [] => rfl
  | x :: l => by simp [A.pure.pureL, h x, pureL_map h l]
open Go.Sort in
theorem grew_grow {w w' : World} (g : Grew w w') : ∃ q os, w' = Sort.grow (w.drewN q) os := by
  refine ⟨w'.drawn - w.drawn, w'.heap.extract w.heap.size w'.heap.size, ?_⟩
  have hh : w.heap ++ w'.heap.extract w.heap.size w'.heap.size = w'.heap := by
    have hsz := g.size
    apply Array.ext_getElem?
    intro i
    by_cases hi : i < w.heap.size
    · rw [Array.getElem?_append_left hi, g.block i hi]
    · rw [Array.getElem?_append_right (by omega), Array.getElem?_extract]
      by_cases h2 : i < w'.heap.size
      · rw [if_pos (by omega), show w.heap.size + (i - w.heap.size) = i by omega]
      · rw [if_neg (by omega), Array.getElem?_eq_none (by omega)]
  have hd := g.drawn
  unfold Sort.grow World.drewN
  rw [show w.drawn + (w'.drawn - w.drawn) = w'.drawn by omega]
  obtain ⟨heap, tape, drawn, os, output⟩ := w'
  have h1 := g.os; have h2 := g.tape; have h3 := g.output
  simp only at h1 h2 h3 hh ⊢
  rw [hh, h1, h2, h3]
open Go.Sort in
theorem turn_of_put {w : World} {b n : Nat} {F F0 : Array Value} {os : Array Go.Obj} (h0 : Holds id w b 0 F0) (hs : F.size = F0.size) (hb : b < w.heap.size) : SortTurn b F.toList w (Sort.grow (putRow id (Sort.ahead w n) b 0 F) os) where
  os := rfl
  tape := rfl
  output := rfl
  drawn := Nat.le_add_right _ _
  size := by
    show w.heap.size ≤ ((w.heap.modify b _) ++ os).size
    simp
  block := fun c hc hne => by
    show ((w.heap.modify b _) ++ os)[c]? = _
    rw [Array.getElem?_append_left (by simpa using hc), Array.getElem?_modify, if_neg (Ne.symm hne)]
  self := fun cc e fr hcc => by
    refine ⟨putCells id 0 F cc, ?_, by simp [putCells]⟩
    show ((w.heap.modify b _) ++ os)[b]? = _
    rw [Array.getElem?_append_left (by simpa using hb), Array.getElem?_modify, if_pos rfl, hcc]
    rfl
  cells := fun j v hj => by
    have hjF : j < F.size := by
      have := (List.getElem?_eq_some_iff.1 hj).1
      simpa using this
    have h1 := cell?_putRow id (Sort.ahead w n) b 0 F0 F (holds_ahead id w n b 0 F0 h0) hs j hjF
    have h2 : (Sort.grow (putRow id (Sort.ahead w n) b 0 F) os).cell? ⟨b, 0 + j, none⟩ = (putRow id (Sort.ahead w n) b 0 F).cell? ⟨b, 0 + j, none⟩ := by
      unfold World.cell?
      show (match ((putRow id (Sort.ahead w n) b 0 F).heap ++ os)[b]? with | some (.cells c _ _) => _ | _ => none) = _
      rw [Array.getElem?_append_left (by simpa using hb)]
      rfl
    rw [h2, h1]
    have : F[j]! = v := by
      rw [getElem!_pos F j hjF]
      have := (List.getElem?_eq_some_iff.1 hj).2
      simpa using this
    rw [this]; rfl
theorem unfrozen_at {w : World} {b : Nat} {c : Array Value} {e : TypeId} {fr : Nat × Nat} (hb : w.heap[b]? = some (.cells c e fr)) (hf : Unfrozen c fr) {j : Nat} (hj : j < c.size) : w.frozen? ⟨b, j, none⟩ = false := by
  have := (there_of (w := w) (b := b) (off := j) (n := 1) hb hf (by omega) 0 (by omega)).2
  simpa using this
noncomputable def sortL {β : Type} [Inhabited β] (cf : β → β → Int) (l : List β) : List β := (Sort.pdq (Go.Proofs.ltOf cf) l.toArray 0 l.toArray.size (Lib.bitLen l.toArray.size) true true).toList
theorem sortL_spec {β : Type} [Inhabited β] {cf : β → β → Int} (hO : Sort.SWO (Go.Proofs.ltOf cf)) (l : List β) : (sortL cf l).Perm l ∧ (sortL cf l).Pairwise (fun x y => ¬ cf y x < 0) := by
  obtain ⟨⟨h1, _, h3⟩, h4⟩ := Sort.pdq_sorts (Go.Proofs.ltOf cf) hO l.toArray 0 l.toArray.size (Lib.bitLen l.toArray.size) true true (Nat.zero_le _) (Nat.le_refl _) (Or.inl rfl)
  refine ⟨?_, ?_⟩
  · unfold sortL
    have e : ∀ d : Array β, d.size = l.toArray.size → d.extract 0 l.toArray.size = d := fun d hd => by rw [← hd]; simp
    rw [e _ h1, e _ rfl] at h3
    simpa using h3
  · unfold sortL
    rw [List.pairwise_iff_getElem]
    intro i j hi hj hij
    have hj' : j < l.toArray.size := by rw [← h1]; simpa using hj
    have := h4 i j (Nat.zero_le _) hij hj'
    have hi2 : i < (Sort.pdq (Go.Proofs.ltOf cf) l.toArray 0 l.toArray.size (Lib.bitLen l.toArray.size) true true).size := by simpa using hi
    have hj2 : j < (Sort.pdq (Go.Proofs.ltOf cf) l.toArray 0 l.toArray.size (Lib.bitLen l.toArray.size) true true).size := by simpa using hj
    rw [getElem!_pos _ i hi2, getElem!_pos _ j hj2] at this
    simpa [Go.Proofs.ltOf] using this
open Go.Shelf Go.Lib Go.Sort Go.Proofs in
/-- slices.SortFunc of structs, by a function that captures nothing. -/
theorem sort_struct {P : Program} {ρ : Ren} {β : Type} [Inhabited β] (L : SlLaysF0.n6 P ρ) {k : Nat} (hk0 : 0 < k) (aE : ∀ w, (isAgg (ρ.t 24)).run P w = .ok true w) (zE : ∀ w, (Go.sizeOf (ρ.t 24)).run P w = .ok k w) (enc : β → List A) (hk : ∀ x, (enc x).length = k) (hs : ∀ x, ∀ a ∈ enc x, scalar a = true)
    (cf : β → β → Int) (hO : SWO (ltOf cf)) {g : FuncId} (hg : Callable P g) (hcmp : ∀ x y, CallA P g [.agg (enc x), .agg (enc y)] (· = .int .i64 (cf x y))) (l : List β) (hsz : l.length < 4611686018427387904) (c : Bool) :
    CallH P (ρ.f 6) [.row 0 0 k l.length c, .fn g []] [.row k (l.map fun x => .agg (enc x))] (.tup []) [.row k ((sortL cf l).map fun x => .agg (enc x))] [] := by
  have hperm := (sortL_spec hO l).1
  have hl1 : (l.map fun x => A.agg (enc x)).length = l.length := List.length_map _
  have hle : ∀ x, ((enc x).map encV).length = k := fun x => by rw [List.length_map, hk]
  have hone : ∀ x, ∀ v ∈ (enc x).map encV, v.oneCell' = true := fun x v hv => by
    obtain ⟨a, ha, rfl⟩ := List.mem_map.1 hv
    exact one_scalar (hs x a ha)
  have := callH_sorted (P := P) (f := ρ.f 6) (g := g) (k := k) (c := c) (es := l.map fun x => A.agg (enc x)) (es' := (sortL cf l).map fun x => A.agg (enc x)) (D := ((sortL cf l).map fun x => (enc x).map encV).flatten) hk0
    (fun E => rowRel_flat hk hs _) (pureL_map (fun x => by simp only [A.pure]; exact pureL_scalars (hs x)) _) (fun u hu => by
      obtain ⟨ys, hys, hu⟩ := List.mem_flatten.1 hu
      obtain ⟨x, _, rfl⟩ := List.mem_map.1 hys
      exact hone x u hu) (by rw [List.length_map, List.length_map]; exact hperm.length_eq)
    (fun _ w q cap => AnyF.slices_SortFunc_none L q cap _ w) ?_
  · rw [hl1] at this; exact this
  intro E b cap cc e fr hne hb hunf hE hfit hlc
  rw [hl1] at hlc ⊢
  have hbs : b < E.w.heap.size := (Array.getElem?_eq_some_iff.1 hb).1
  have hmul : l.length * k ≤ cc.size := Nat.le_trans (by rw [Nat.mul_comm]; exact Nat.mul_le_mul_left _ hlc) hfit
  have hH : HoldsK (fun x => (enc x).map encV) k E.w b 0 l.toArray := by
    intro j hj
    rw [size_flatK] at hj
    have hj' : j < l.length * k := by simpa using hj
    have hq : j / k < l.length := (Nat.div_lt_iff_lt_mul hk0).2 hj'
    have hr : j % k < k := Nat.mod_lt _ hk0
    refine ⟨?_, by rw [Nat.zero_add]; exact unfrozen_at hb hunf (by omega)⟩
    obtain ⟨_, hM⟩ := RepE_iff.1 hE (j / k) (.agg (enc l[j / k])) (by simp [hq])
    have hrl : j % k < (enc l[j / k]).length := by rw [hk]; exact hr
    obtain ⟨v, hv, _, hrep⟩ := RepM_iff.1 hM (j % k) _ (List.getElem?_eq_getElem (by simpa [A.cells] using hrl))
    have hv' := (rep_scalar (hs _ _ (List.getElem_mem _))).1 hrep
    rw [show 0 + j / k * k + j % k = 0 + j by rw [Nat.zero_add, Nat.zero_add, Nat.mul_comm]; exact Nat.div_add_mod j k] at hv
    rw [hv, hv', get_flatK _ _ _ _ hj]
    simp only [id]
    have e1 : l.toArray[j / k]! = l[j / k] := by rw [getElem!_pos _ _ (by simpa using hq)]; simp
    rw [e1, getElem!_pos _ _ (by rw [List.length_map]; exact hrl)]
    simp only [A.cells, List.getElem_map]
    rfl
  have hcl : CmpLays P g #[] (fun x => (enc x).map encV) k cf b 0 l.toArray.size E.w := by
    intro m os dk hdk x y
    have hrep : RepL ⟨fun _ => False, [], sortWorldK (fun x => (enc x).map encV) k E.w b 0 m dk os⟩ [.agg (enc x), .agg (enc y)] [.agg ((enc x).map encV).toArray, .agg ((enc y).map encV).toArray] := by
      simp only [RepL, Rep]
      exact ⟨_, _, rfl, ⟨_, rfl, repL_scalars (hs x), hone x⟩, _, _, rfl, ⟨_, rfl, repL_scalars (hs y), hone y⟩, rfl⟩
    refine Calls.mono (hcmp x y (fun _ => False) _ _ (fun b h => h.elim) hrep) ?_
    rintro e w' ⟨v, r, rfl, rfl, hr, hgr⟩
    simp only [Rep] at hr
    subst hr
    exact ⟨rfl, grew_grow hgr⟩
  have hmain := AnyQ.slices_SortFunc_eq L k aE zE (fun x => (enc x).map encV) hle hone cf hO g #[] b 0 cap l.toArray E.w (fun args w => run_callFunc hg args w) hcl hH hbs (by simpa using hsz)
  have hpsz : (pdq (ltOf cf) l.toArray 0 l.toArray.size (Lib.bitLen l.toArray.size) true true).size = l.toArray.size := (pdq_sorts (ltOf cf) hO l.toArray 0 l.toArray.size (Lib.bitLen l.toArray.size) true true (Nat.zero_le _) (Nat.le_refl _) (Or.inl rfl)).1.1
  have hsl : l.toArray.size = l.length := by simp
  rw [hsl] at hmain
  refine Calls.mono hmain ?_
  rintro e w' ⟨rfl, n, os, rfl⟩
  refine ⟨rfl, ?_⟩
  have hflat : ((sortL cf l).map fun x => (enc x).map encV).flatten = (flatK (fun x => (enc x).map encV) k (pdq (ltOf cf) l.toArray 0 l.length (Lib.bitLen l.length) true true)).toList := by
    rw [hsl] at hpsz
    have hsl2 : (sortL cf l) = (pdq (ltOf cf) l.toArray 0 l.length (Lib.bitLen l.length) true true).toList := by unfold sortL; rw [hsl]
    rw [hsl2]
    generalize pdq (ltOf cf) l.toArray 0 l.length (Lib.bitLen l.length) true true = d at hpsz ⊢
    apply List.ext_getElem?
    intro j
    rw [flatten_get hk0 (fun ys hys => by obtain ⟨x, _, rfl⟩ := List.mem_map.1 hys; exact hle x)]
    by_cases hj : j < d.size * k
    · have hq : j / k < d.size := (Nat.div_lt_iff_lt_mul hk0).2 hj
      have hr : j % k < k := Nat.mod_lt _ hk0
      have e1 : (flatK (fun x => (enc x).map encV) k d).toList[j]? = some ((flatK (fun x => (enc x).map encV) k d)[j]!) := by
        rw [getElem!_pos _ j (by rw [size_flatK]; exact hj)]; simp [hj]
      rw [e1, get_flatK _ _ _ _ hj]
      rw [getElem!_pos d _ hq]
      have hq' : j / k < d.toList.length := by simpa using hq
      simp only [List.getElem?_map, List.getElem?_eq_getElem hq', Option.map_some, Option.bind_some]
      rw [getElem!_pos _ _ (by simp only [List.length_map, hk]; exact hr)]
      rw [List.getElem?_eq_getElem (by simp only [List.length_map, hk]; exact hr)]
      simp
    · have hq : d.size ≤ j / k := by
        rcases Nat.lt_or_ge (j / k) d.size with h | h
        · exact absurd ((Nat.div_lt_iff_lt_mul hk0).1 h) hj
        · exact h
      have e1 : (flatK (fun x => (enc x).map encV) k d).toList[j]? = none := by
        rw [List.getElem?_eq_none]; rw [Array.length_toList, size_flatK]; omega
      rw [e1]
      simp [hq]
  rw [hflat]
  unfold sortWorldK putRowK
  exact turn_of_put hH (by rw [size_flatK, size_flatK]; rw [hsl] at hpsz; rw [hpsz, hsl]) hbs
open Go.Shelf Go.Lib Go.Sort Go.Proofs in
/-- slices.SortFunc of scalars. -/
theorem sort_scalar {P : Program} {ρ : Ren} {β : Type} [Inhabited β] (L : SlLaysF.n6 P ρ) (L0 : SlLaysF0.n6 P ρ) (enc : β → A) (hs : ∀ x, scalar (enc x) = true)
    (cf : β → β → Int) (hO : SWO (ltOf cf)) {g : FuncId} (hg : Callable P g) (hcmp : ∀ x y, CallA P g [enc x, enc y] (· = .int .i64 (cf x y))) (l : List β) (hsz : l.length < 4611686018427387904) (c : Bool) :
    CallH P (ρ.f 6) [.row 0 0 1 l.length c, .fn g []] [.row 1 (l.map enc)] (.tup []) [.row 1 ((sortL cf l).map enc)] [] := by
  have hperm := (sortL_spec hO l).1
  have hl1 : (l.map enc).length = l.length := List.length_map _
  have hcell : ∀ x, (enc x).cells = [enc x] := fun x => by have := hs x; cases h : enc x <;> rw [h] at this <;> simp [scalar] at this <;> rfl
  have := callH_sorted (P := P) (f := ρ.f 6) (g := g) (k := 1) (c := c) (es := l.map enc) (es' := (sortL cf l).map enc) (D := (sortL cf l).map fun x => encV (enc x)) (by omega)
    (fun E => rowRel_one hs _) (pureL_map (fun x => pure_scalar (hs x)) _) (fun u hu => by
      obtain ⟨x, _, rfl⟩ := List.mem_map.1 hu
      exact one_scalar (hs x)) (by rw [List.length_map, List.length_map]; exact hperm.length_eq)
    (fun _ w q cap => AnyF.slices_SortFunc_none L0 q cap _ w) ?_
  · rw [hl1] at this; exact this
  intro E b cap cc e fr hne hb hunf hE hfit hlc
  rw [hl1] at hlc ⊢
  have hbs : b < E.w.heap.size := (Array.getElem?_eq_some_iff.1 hb).1
  have hH : Holds (fun x => encV (enc x)) E.w b 0 l.toArray := by
    intro j hj
    have hj' : j < l.length := by simpa using hj
    refine ⟨?_, by rw [Nat.zero_add]; exact unfrozen_at hb hunf (by omega)⟩
    obtain ⟨_, hM⟩ := RepE_iff.1 hE j (enc l[j]) (by simp [hj'])
    rw [hcell] at hM
    obtain ⟨v, hv, _, hrep⟩ := RepM_one.1 hM
    have hv' := (rep_scalar (hs _)).1 hrep
    rw [Nat.mul_one] at hv
    rw [hv, hv', getElem!_pos l.toArray j hj]; simp
  have hcl : CmpLays1 P g #[] (fun x => encV (enc x)) cf b 0 l.toArray.size E.w := by
    intro m os dk hdk x y
    have hrep : RepL ⟨fun _ => False, [], sortWorld (fun x => encV (enc x)) E.w b 0 m dk os⟩ [enc x, enc y] [encV (enc x), encV (enc y)] := by
      simp only [RepL]
      exact ⟨_, _, rfl, (rep_scalar (hs x)).2 rfl, _, _, rfl, (rep_scalar (hs y)).2 rfl, rfl⟩
    refine Calls.mono (hcmp x y (fun _ => False) _ _ (fun b h => h.elim) hrep) ?_
    rintro e w' ⟨v, r, rfl, rfl, hr, hgr⟩
    simp only [Rep] at hr
    subst hr
    exact ⟨rfl, grew_grow hgr⟩
  have hmain := Any.slices_SortFunc_eq L (fun x => encV (enc x)) (fun x => one_scalar (hs x)) cf hO g #[] b 0 cap l.toArray E.w (fun args w => run_callFunc hg args w) hcl hH hbs (by simpa using hsz)
  have hpsz : (pdq (ltOf cf) l.toArray 0 l.toArray.size (Lib.bitLen l.toArray.size) true true).size = l.toArray.size := (pdq_sorts (ltOf cf) hO l.toArray 0 l.toArray.size (Lib.bitLen l.toArray.size) true true (Nat.zero_le _) (Nat.le_refl _) (Or.inl rfl)).1.1
  have hsl : l.toArray.size = l.length := by simp
  rw [hsl] at hmain hpsz
  refine Calls.mono hmain ?_
  rintro e w' ⟨rfl, n, os, rfl⟩
  refine ⟨rfl, ?_⟩
  have hsl2 : (sortL cf l) = (pdq (ltOf cf) l.toArray 0 l.length (Lib.bitLen l.length) true true).toList := by unfold sortL; rw [hsl]
  rw [hsl2]
  generalize pdq (ltOf cf) l.toArray 0 l.length (Lib.bitLen l.length) true true = d at hpsz ⊢
  have hput : ∀ (w : World) (d : Array β), putRow (fun x => encV (enc x)) w b 0 d = putRow id w b 0 (d.map fun x => encV (enc x)) := fun w d => by
    unfold putRow
    congr 1
    funext c
    unfold putCells
    apply Array.ext
    · simp
    · intro i h1 h2
      simp only [Array.getElem_mapIdx, Array.size_map, Nat.zero_le, true_and, Nat.zero_add, Nat.sub_zero, id]
      split
      · rename_i hi
        rw [getElem!_pos d i hi, getElem!_pos _ i (by simpa using hi)]; simp
      · rfl
  have hH' : Holds id E.w b 0 (l.toArray.map fun x => encV (enc x)) := fun j hj => by
    have hj' : j < l.toArray.size := by simpa using hj
    obtain ⟨h1, h2⟩ := hH j hj'
    refine ⟨?_, h2⟩
    rw [h1, getElem!_pos l.toArray j hj', getElem!_pos (l.toArray.map fun x => encV (enc x)) j hj]; simp
  have he : (d.toList.map fun x => encV (enc x)) = (d.map fun x => encV (enc x)).toList := by simp
  rw [he]
  unfold sortWorld
  rw [hput]
  exact turn_of_put hH' (by simp [hpsz]) hbs
end Go.Abs
namespace Go.Proofs.Ytmaipoimiiaofaa
set_option linter.unusedSimpArgs false
set_option linter.unusedVariables false
def compL {α : Type} [DecidableEq α] : List α → List α
  | [] => []
  | [x] => [x]
  | x :: y :: l => if x = y then compL (y :: l) else x :: compL (y :: l)
section
variable {α : Type} [DecidableEq α]
theorem compL_snoc : ∀ (l : List α) (x y : α), compL (l ++ [x, y]) = if x = y then compL (l ++ [x]) else compL (l ++ [x]) ++ [y]
  | [], x, y => by by_cases h : x = y <;> simp [compL, h]
  | [z], x, y => by
    by_cases h : x = y
    · by_cases h2 : z = x <;> simp [compL, h, h2]
    · by_cases h2 : z = x <;> simp [compL, h, h2]
  | z :: w :: l, x, y => by
    have ih := compL_snoc (w :: l) x y
    simp only [List.cons_append, compL] at ih ⊢
    by_cases h2 : z = w
    · rw [if_pos h2, if_pos h2]; exact ih
    · rw [if_neg h2, if_neg h2, ih]
      by_cases h : x = y <;> simp [h]
theorem compL_len : ∀ l : List α, (compL l).length ≤ l.length
  | [] => by simp [compL]
  | [x] => by simp [compL]
  | x :: y :: l => by
    have := compL_len (y :: l)
    simp only [compL]
    split <;> simp at * <;> omega
theorem compL_mem : ∀ {l : List α} {z : α}, z ∈ compL l ↔ z ∈ l
  | [], z => by simp [compL]
  | [x], z => by simp [compL]
  | x :: y :: l, z => by
    have ih := @compL_mem (y :: l) z
    simp only [compL]
    split
    · rename_i h; subst h; rw [ih]; simp
    · rw [List.mem_cons, ih, List.mem_cons (l := y :: l)]
end
theorem compL_step {α : Type} [DecidableEq α] {l : List α} {k : Nat} (h1 : 1 ≤ k) (h : k < l.length) : compL (l.take (k + 1)) = if l[k - 1] = l[k] then compL (l.take k) else compL (l.take k) ++ [l[k]] := by
  have e1 : l.take k = l.take (k - 1) ++ [l[k - 1]] := by
    have := List.take_append_getElem (l := l) (i := k - 1) (by omega)
    rw [show k - 1 + 1 = k by omega] at this
    exact this.symm
  have e2 : l.take (k + 1) = l.take (k - 1) ++ [l[k - 1], l[k]] := by
    rw [← List.take_append_getElem h, e1, List.append_assoc]; rfl
  rw [e2, compL_snoc, ← e1]
end Go.Proofs.Ytmaipoimiiaofaa
namespace Go.Proofs
open Go.Shelf
def Ytmaipoimiiaofaa.sortStr_ren : Go.Shelf.Ren := ⟨fun | 6 => 61 | 15 => 67 | 14 => 66 | 28 => 77 | 29 => 78 | 20 => 69 | 21 => 70 | 22 => 71 | 23 => 72 | 24 => 73 | 25 => 74 | 26 => 75 | 27 => 76 | 46 => 87 | 47 => 88 | 48 => 89 | 49 => 90 | 50 => 91 | 57 => 95 | n => n, fun | 22 => 56 | 24 => 9 | 25 => 69 | 3 => 3 | 39 => 80 | 0 => 0 | 53 => 91 | 55 => 93 | 4 => 4 | 46 => 84 | 45 => 83 | 50 => 88 | 5 => 5 | 9 => 9 | 66 => 99 | 70 => 103 | 76 => 107 | 77 => 108 | n => n, fun | n => n⟩
theorem Ytmaipoimiiaofaa.sortStr : Go.Proofs.SlLaysF.n6 Try.prog Ytmaipoimiiaofaa.sortStr_ren := {
  mixed := by kernel_rfl
  f6 := ⟨Try.f61.name, by decide, Try.func61.trans (congrArg some (by kernel_rfl))⟩
  f14 := ⟨Try.f66.name, by decide, Try.func66.trans (congrArg some (by kernel_rfl))⟩
  f15 := Try.func67.trans (congrArg some (by kernel_rfl))
  f20 := ⟨Try.f69.name, by decide, Try.func69.trans (congrArg some (by kernel_rfl))⟩
  f21 := ⟨Try.f70.name, by decide, Try.func70.trans (congrArg some (by kernel_rfl))⟩
  f22 := ⟨Try.f71.name, by decide, Try.func71.trans (congrArg some (by kernel_rfl))⟩
  f23 := ⟨Try.f72.name, by decide, Try.func72.trans (congrArg some (by kernel_rfl))⟩
  f24 := ⟨Try.f73.name, by decide, Try.func73.trans (congrArg some (by kernel_rfl))⟩
  f25 := ⟨Try.f74.name, by decide, Try.func74.trans (congrArg some (by kernel_rfl))⟩
  f26 := ⟨Try.f75.name, by decide, Try.func75.trans (congrArg some (by kernel_rfl))⟩
  f27 := ⟨Try.f76.name, by decide, Try.func76.trans (congrArg some (by kernel_rfl))⟩
  f28 := Try.func77.trans (congrArg some (by kernel_rfl))
  f29 := Try.func78.trans (congrArg some (by kernel_rfl))
  f46 := ⟨Try.f87.name, by decide, Try.func87.trans (congrArg some (by kernel_rfl))⟩
  f47 := Try.func88.trans (congrArg some (by kernel_rfl))
  f48 := Try.func89.trans (congrArg some (by kernel_rfl))
  f49 := ⟨Try.f90.name, by decide, Try.func90.trans (congrArg some (by kernel_rfl))⟩
  f50 := ⟨Try.f91.name, by decide, Try.func91.trans (congrArg some (by kernel_rfl))⟩
  f57 := ⟨Try.f95.name, by decide, Try.func95.trans (congrArg some (by kernel_rfl))⟩
  t0 := Try.underlying0
  a0 := Try.isAgg0
  z0 := Try.sizeOf0
  v0 := Try.zeroValue0
  t3 := Try.underlying3
  a3 := Try.isAgg3
  z3 := Try.sizeOf3
  v3 := Try.zeroValue3
  t4 := Try.underlying4
  a4 := Try.isAgg4
  z4 := Try.sizeOf4
  v4 := Try.zeroValue4
  t5 := Try.underlying5
  a5 := Try.isAgg5
  z5 := Try.sizeOf5
  v5 := Try.zeroValue5
  t9 := Try.underlying9
  a9 := Try.isAgg9
  z9 := Try.sizeOf9
  v9 := Try.zeroValue9
  t22 := Try.underlying56
  a22 := Try.isAgg56
  z22 := Try.sizeOf56
  v22 := Try.zeroValue56
  a24 := Try.isAgg9
  z24 := Try.sizeOf9
  t25 := Try.underlying69
  a25 := Try.isAgg69
  z25 := Try.sizeOf69
  v25 := Try.zeroValue69
  t39 := Try.underlying80
  a39 := Try.isAgg80
  z39 := Try.sizeOf80
  v39 := Try.zeroValue80
  t45 := Try.underlying83
  a45 := Try.isAgg83
  z45 := Try.sizeOf83
  v45 := Try.zeroValue83
  t46 := Try.underlying84
  a46 := Try.isAgg84
  z46 := Try.sizeOf84
  v46 := Try.zeroValue84
  t50 := Try.underlying88
  a50 := Try.isAgg88
  z50 := Try.sizeOf88
  v50 := Try.zeroValue88
  t53 := Try.underlying91
  a53 := Try.isAgg91
  z53 := Try.sizeOf91
  v53 := Try.zeroValue91
  t55 := Try.underlying93
  a55 := Try.isAgg93
  z55 := Try.sizeOf93
  v55 := Try.zeroValue93
  t66 := Try.underlying99
  a66 := Try.isAgg99
  z66 := Try.sizeOf99
  v66 := Try.zeroValue99
  t70 := Try.underlying103
  a70 := Try.isAgg103
  z70 := Try.sizeOf103
  v70 := Try.zeroValue103
  t76 := Try.underlying107
  a76 := Try.isAgg107
  z76 := Try.sizeOf107
  v76 := Try.zeroValue107
  t77 := Try.underlying108
  a77 := Try.isAgg108
  z77 := Try.sizeOf108
  v77 := Try.zeroValue108 }
def Ytmaipoimiiaofaa.sortStr0_ren : Go.Shelf.Ren := ⟨fun | 6 => 61 | 15 => 67 | 14 => 66 | 28 => 77 | 29 => 78 | 20 => 69 | 21 => 70 | 22 => 71 | 23 => 72 | 24 => 73 | 25 => 74 | 26 => 75 | 27 => 76 | 46 => 87 | 47 => 88 | 48 => 89 | 49 => 90 | 50 => 91 | 57 => 95 | n => n, fun | 22 => 56 | 24 => 9 | 25 => 69 | 3 => 3 | 39 => 80 | 0 => 0 | 53 => 91 | 55 => 93 | 4 => 4 | 46 => 84 | 45 => 83 | 50 => 88 | 5 => 5 | 9 => 9 | 66 => 99 | 70 => 103 | 76 => 107 | 77 => 108 | n => n, fun | n => n⟩
theorem Ytmaipoimiiaofaa.sortStr0 : Go.Proofs.SlLaysF0.n6 Try.prog Ytmaipoimiiaofaa.sortStr0_ren := {
  mixed := by kernel_rfl
  f6 := ⟨Try.f61.name, by decide, Try.func61.trans (congrArg some (by kernel_rfl))⟩
  f14 := ⟨Try.f66.name, by decide, Try.func66.trans (congrArg some (by kernel_rfl))⟩
  f15 := Try.func67.trans (congrArg some (by kernel_rfl))
  f20 := ⟨Try.f69.name, by decide, Try.func69.trans (congrArg some (by kernel_rfl))⟩
  f21 := ⟨Try.f70.name, by decide, Try.func70.trans (congrArg some (by kernel_rfl))⟩
  f22 := ⟨Try.f71.name, by decide, Try.func71.trans (congrArg some (by kernel_rfl))⟩
  f23 := ⟨Try.f72.name, by decide, Try.func72.trans (congrArg some (by kernel_rfl))⟩
  f24 := ⟨Try.f73.name, by decide, Try.func73.trans (congrArg some (by kernel_rfl))⟩
  f25 := ⟨Try.f74.name, by decide, Try.func74.trans (congrArg some (by kernel_rfl))⟩
  f26 := ⟨Try.f75.name, by decide, Try.func75.trans (congrArg some (by kernel_rfl))⟩
  f27 := ⟨Try.f76.name, by decide, Try.func76.trans (congrArg some (by kernel_rfl))⟩
  f28 := Try.func77.trans (congrArg some (by kernel_rfl))
  f29 := Try.func78.trans (congrArg some (by kernel_rfl))
  f46 := ⟨Try.f87.name, by decide, Try.func87.trans (congrArg some (by kernel_rfl))⟩
  f47 := Try.func88.trans (congrArg some (by kernel_rfl))
  f48 := Try.func89.trans (congrArg some (by kernel_rfl))
  f49 := ⟨Try.f90.name, by decide, Try.func90.trans (congrArg some (by kernel_rfl))⟩
  f50 := ⟨Try.f91.name, by decide, Try.func91.trans (congrArg some (by kernel_rfl))⟩
  f57 := ⟨Try.f95.name, by decide, Try.func95.trans (congrArg some (by kernel_rfl))⟩
  t0 := Try.underlying0
  a0 := Try.isAgg0
  z0 := Try.sizeOf0
  v0 := Try.zeroValue0
  t3 := Try.underlying3
  a3 := Try.isAgg3
  z3 := Try.sizeOf3
  v3 := Try.zeroValue3
  t4 := Try.underlying4
  a4 := Try.isAgg4
  z4 := Try.sizeOf4
  v4 := Try.zeroValue4
  t5 := Try.underlying5
  a5 := Try.isAgg5
  z5 := Try.sizeOf5
  v5 := Try.zeroValue5
  t9 := Try.underlying9
  a9 := Try.isAgg9
  z9 := Try.sizeOf9
  v9 := Try.zeroValue9
  t22 := Try.underlying56
  a22 := Try.isAgg56
  z22 := Try.sizeOf56
  v22 := Try.zeroValue56
  t25 := Try.underlying69
  a25 := Try.isAgg69
  z25 := Try.sizeOf69
  v25 := Try.zeroValue69
  t39 := Try.underlying80
  a39 := Try.isAgg80
  z39 := Try.sizeOf80
  v39 := Try.zeroValue80
  t45 := Try.underlying83
  a45 := Try.isAgg83
  z45 := Try.sizeOf83
  v45 := Try.zeroValue83
  t46 := Try.underlying84
  a46 := Try.isAgg84
  z46 := Try.sizeOf84
  v46 := Try.zeroValue84
  t50 := Try.underlying88
  a50 := Try.isAgg88
  z50 := Try.sizeOf88
  v50 := Try.zeroValue88
  t53 := Try.underlying91
  a53 := Try.isAgg91
  z53 := Try.sizeOf91
  v53 := Try.zeroValue91
  t55 := Try.underlying93
  a55 := Try.isAgg93
  z55 := Try.sizeOf93
  v55 := Try.zeroValue93
  t66 := Try.underlying99
  a66 := Try.isAgg99
  z66 := Try.sizeOf99
  v66 := Try.zeroValue99
  t70 := Try.underlying103
  a70 := Try.isAgg103
  z70 := Try.sizeOf103
  v70 := Try.zeroValue103
  t76 := Try.underlying107
  a76 := Try.isAgg107
  z76 := Try.sizeOf107
  v76 := Try.zeroValue107
  t77 := Try.underlying108
  a77 := Try.isAgg108
  z77 := Try.sizeOf108
  v77 := Try.zeroValue108 }
end Go.Proofs
namespace Go.Proofs.Ytmaipoimiiaofaa
open Go.Abs
set_option linter.unusedSimpArgs false
set_option linter.unusedVariables false
set_option maxRecDepth 20000
set_option maxHeartbeats 8000000
abbrev StrB := {s : List UInt8 // s.length ≤ 17}
instance : Inhabited StrB := ⟨⟨[], by decide⟩⟩
def cfS (a b : StrB) : Int := cmpB a.1 b.1
def StrB.enc (s : StrB) : A := .str s.1
theorem swoS : Go.Sort.SWO (Go.Proofs.ltOf cfS) := by
  have hl : ∀ a b, Go.Proofs.ltOf cfS a b = ltB a.1 b.1 := fun a b => by
    unfold Go.Proofs.ltOf cfS
    exact cmp_lt0
  refine ⟨fun x => ?_, fun x y z h1 h2 => ?_, fun x y z h1 h2 => ?_⟩
  · rw [hl]; exact lt_irrefl _
  · rw [hl] at *; exact lt_trans' h1 h2
  · rw [hl] at *; exact not_lt_trans h2 h1
theorem c_SortFunc_Str (l : List StrB) (hl : l.length < 4611686018427387904) : CallH Try.prog 61 [.row 0 0 1 l.length false, .fn 57 []] [.row 1 (l.map StrB.enc)]
    (.tup []) [.row 1 ((sortL cfS l).map StrB.enc)] [] :=
  sort_scalar Go.Proofs.Ytmaipoimiiaofaa.sortStr Go.Proofs.Ytmaipoimiiaofaa.sortStr0 StrB.enc (fun _ => rfl) cfS swoS (callable_of Try.func57 (by kernel_rfl) (by kernel_rfl)) (fun x y => c_key_Cmp x.1 y.1 (by have := x.2; omega) (by have := y.2; omega)) l hl false
def asB : (l : List (List UInt8)) → (∀ s ∈ l, s.length ≤ 17) → List StrB
  | [], _ => []
  | s :: l, h => ⟨s, h s (by simp)⟩ :: asB l (fun x hx => h x (by simp [hx]))
theorem asB_val : ∀ (l : List (List UInt8)) (h : ∀ s ∈ l, s.length ≤ 17), (asB l h).map (·.1) = l
  | [], _ => rfl
  | s :: l, h => by simp [asB, asB_val l]
theorem asB_enc (l : List (List UInt8)) (h : ∀ s ∈ l, s.length ≤ 17) : (asB l h).map StrB.enc = l.map A.str := by
  have := asB_val l h
  conv => rhs; rw [← this]
  rw [List.map_map]; rfl
theorem asB_len (l : List (List UInt8)) (h : ∀ s ∈ l, s.length ≤ 17) : (asB l h).length = l.length := by
  have := congrArg List.length (asB_val l h)
  simpa using this
open Classical in
/-- Texts, sorted. -/
noncomputable def sortT (l : List (List UInt8)) : List (List UInt8) := if h : ∀ s ∈ l, s.length ≤ 17 then (sortL cfS (asB l h)).map (·.1) else l
theorem sortT_spec {l : List (List UInt8)} (h : ∀ s ∈ l, s.length ≤ 17) : (sortT l).Perm l ∧ (sortT l).Pairwise (fun x y => ltB y x = false) := by
  unfold sortT
  rw [dif_pos h]
  obtain ⟨h1, h2⟩ := sortL_spec swoS (asB l h)
  refine ⟨?_, ?_⟩
  · have := h1.map (·.1)
    rwa [asB_val] at this
  · rw [List.pairwise_map]
    exact h2.imp fun {x y} hh => by
      unfold cfS at hh
      have := @cmp_lt0 y.1 x.1
      rw [← this]; exact decide_eq_false hh
theorem sortT_enc {l : List (List UInt8)} (h : ∀ s ∈ l, s.length ≤ 17) : (sortL cfS (asB l h)).map StrB.enc = (sortT l).map A.str := by
  unfold sortT
  rw [dif_pos h, List.map_map]; rfl
theorem comp_up : ∀ {l : List (List UInt8)}, l.Pairwise (fun x y => ltB y x = false) → (compL l).Pairwise (fun x y => ltB x y = true)
  | [], _ => by simp [compL]
  | [x], _ => by simp [compL]
  | x :: y :: l, h => by
    rw [List.pairwise_cons] at h
    have ih := comp_up h.2
    simp only [compL]
    split
    · exact ih
    · rename_i hne
      have hxy : ltB x y = true := by
        rcases lt_tri x y with h1 | h1 | h1
        · exact h1
        · exact absurd h1 hne
        · have := h.1 y (by simp); rw [h1] at this; cases this
      rw [List.pairwise_cons]
      refine ⟨fun z hz => ?_, ih⟩
      rw [compL_mem] at hz
      rcases List.mem_cons.1 hz with rfl | hz
      · exact hxy
      · exact lt_of_lt_not hxy ((List.pairwise_cons.1 h.2).1 z hz)
noncomputable def TCs : Tab := { T07 with fix := fun n => n == 0, nf := 1 }
theorem TCs_ok : TabOK Try.prog TCs := ⟨T07_ok.f, T07_ok.hp⟩
@[go_sem] theorem TCs_ords {n : Nat} : TCs.ords n = [] := rfl
theorem ok_slices_Compact_string_string : codeOK Try.prog TCs Try.f62.ntmps (Try.f62.body.getD .skip) = true := by kernel_rfl
theorem c_Compact_Str (l : List (List UInt8)) (hl : l.length ≤ 4611686018427387903) : CallH Try.prog 62 [.row 0 0 1 l.length false] [.row 1 (l.map A.str)]
    (.row 0 0 1 (compL l).length false) [.row 1 ((compL l ++ List.replicate (l.length - (compL l).length) ([] : List UInt8)).map A.str)] [] := by
  refine callH_of_body TCs_ok mixed Try.func62 rfl (Nat.le_of_ble_eq_true rfl) (fun n h _ => by simp at h; subst h; rfl) (by show _ ≤ 1; simp) (by show 1 ≤ _; simp) ok_slices_Compact_string_string ?_
  unfold Try.f62
  by_cases h2 : (l.length : Int) < 2
  · have hc : compL l = l := by
      match l, h2 with
      | [], _ => rfl
      | [x], _ => rfl
      | _ :: _ :: _, h => simp at h; omega
    rw [hc]
    simp -implicitDefEqProofs (maxSteps := 600000) (disch := (first | omega | decide)) only [go_sem, ↓reduceIte, seval, h2, List.length_map]
    simp
  · simp -implicitDefEqProofs (maxSteps := 600000) (disch := (first | omega | decide)) only [go_sem, ↓reduceIte, seval, h2, List.length_map]
    refine wpA_loop [0] (ι := {k : Nat // 1 ≤ k ∧ k ≤ l.length ∧ compL (l.take k) = l.take k}) (fun p => [(3, .int .i64 p.1)]) (fun _ => []) (fun p => l.length - p.1) ⟨1, by omega, by omega, by match l with | [] => rfl | [x] => rfl | x :: y :: l => rfl⟩ (by show 1 ≤ _; simp) ?_ ?_
    · simp -implicitDefEqProofs (maxSteps := 600000) (disch := (first | omega | decide)) only [go_sem, ↓reduceIte, seval]
    · rintro ⟨k, hk1, hk, hd⟩
      simp only
      by_cases hlt : k < l.length
      · have hlt' : (k : Int) < (l.length : Int) := by omega
        have hstep := compL_step hk1 hlt
        have e1 : (l.map A.str)[k]? = some (.str l[k]) := by
          rw [List.getElem?_map, List.getElem?_eq_getElem hlt]; rfl
        have e0 : (l.map A.str)[k - 1]? = some (.str l[k - 1]) := by
          rw [List.getElem?_map, List.getElem?_eq_getElem (by omega)]; rfl
        have t0 : ((k : Int) - 1).toNat = k - 1 := by omega
        have b0 : (0 : Int) ≤ (k : Int) - 1 := by omega
        have b1 : (k : Int) - 1 < (l.length : Int) := by omega
        generalize hx : l[k] = x at e1 hstep
        generalize hy : l[k - 1] = y at e0 hstep
        have next : y ≠ x → compL (l.take (k + 1)) = l.take (k + 1) := fun hne => by
          rw [hstep, if_neg hne, hd, ← hx]; exact List.take_append_getElem hlt
        cases h3 : x == y with
        | true =>
          obtain rfl : x = y := by simpa using h3
          have b2 : (k : Int) ≤ (l.length : Int) := by omega
          rw [if_pos rfl] at hstep
          have hlen : (compL (l.take (k + 1))).length = k := by rw [hstep, hd, List.length_take]; omega
          have tk : ((l.length : Int) - (k : Int)).toNat = l.length - k := by omega
          simp -implicitDefEqProofs (maxSteps := 600000) (disch := (first | omega | decide)) only [go_sem, ↓reduceIte, seval, hlt', e1, e0, t0, b0, b1, b2, tk, h3, wrap_i64, List.length_map, Int.le_refl]
          clear next e1 e0 hx hy h3 t0 b0
          refine wpA_loop [0, 4] (ι := {p : Nat × Nat × List (List UInt8) // 1 ≤ p.1 ∧ k + p.1 ≤ l.length ∧ p.2.1 = (compL (l.take (k + p.1))).length ∧ p.2.2.length = l.length ∧ p.2.2.take p.2.1 = compL (l.take (k + p.1)) ∧ p.2.2.drop (k + p.1 - 1) = l.drop (k + p.1 - 1) ∧ p.2.1 ≤ k + p.1 - 1}) (fun p => [(3, .int .i64 p.1.2.1), (5, .int .i64 p.1.1)]) (fun p => [(0, .row 1 (p.1.2.2.map A.str))]) (fun p => l.length - p.1.1) ⟨(1, k, l), by omega, hlt, hlen.symm, rfl, by rw [hstep, hd], rfl, by show k ≤ k + 1 - 1; omega⟩ (by show 1 ≤ _; simp) ?_ ?_
          · simp -implicitDefEqProofs (maxSteps := 600000) (disch := (first | omega | decide)) only [go_sem, ↓reduceIte, seval]
          · rintro ⟨⟨j, m, e⟩, hj1, hj, hm, he, htk, hdr, hmj⟩
            simp only at hj1 hj hm he htk hdr hmj
            have get : ∀ i, k + j - 1 ≤ i → e[i]? = l[i]? := fun i hi => by
              have := congrArg (fun x : List (List UInt8) => x[i - (k + j - 1)]?) hdr
              simp only [List.getElem?_drop] at this
              rwa [show k + j - 1 + (i - (k + j - 1)) = i by omega] at this
            by_cases hq : k + j < l.length
            · have hq' : (j : Int) < ((l.length - k : Nat) : Int) := by omega
              have hstep := compL_step (l := l) (k := k + j) (by omega) hq
              have e1 : (e.map A.str)[k + j]? = some (.str l[k + j]) := by
                rw [List.getElem?_map, get _ (by omega), List.getElem?_eq_getElem hq]; rfl
              have e0 : (e.map A.str)[k + (j - 1)]? = some (.str l[k + j - 1]) := by
                rw [List.getElem?_map, get _ (by omega), show k + (j - 1) = k + j - 1 by omega, List.getElem?_eq_getElem (by omega)]; rfl
              have t0 : ((j : Int) - 1).toNat = j - 1 := by omega
              have b0 : (0 : Int) ≤ (j : Int) - 1 := by omega
              have b3 : (j : Int) - 1 < ((l.length - k : Nat) : Int) := by omega
              generalize hx : l[k + j] = x at e1 hstep
              generalize hy : l[k + j - 1] = y at e0 hstep
              have hdr2 : e.drop (k + (j + 1) - 1) = l.drop (k + (j + 1) - 1) := by
                have := congrArg (List.drop 1) hdr
                rwa [List.drop_drop, List.drop_drop, show k + j - 1 + 1 = k + (j + 1) - 1 by omega] at this
              have b4 : (m : Int) < (l.length : Int) := by omega
              have b5 : m < e.length := by omega
              have next : y ≠ x → (m + 1 = (compL (l.take (k + (j + 1)))).length ∧ (e.set m x).length = l.length ∧ (e.set m x).take (m + 1) = compL (l.take (k + (j + 1))) ∧ (e.set m x).drop (k + (j + 1) - 1) = l.drop (k + (j + 1) - 1) ∧ m + 1 ≤ k + (j + 1) - 1) := fun hne => by
                rw [if_neg hne] at hstep
                have hstep' : compL (l.take (k + (j + 1))) = compL (l.take (k + j)) ++ [x] := hstep
                refine ⟨by rw [hstep', List.length_append, ← hm]; rfl, by rw [List.length_set, he], ?_, ?_, by omega⟩
                · rw [hstep', ← htk, ← List.take_append_getElem (by rw [List.length_set]; exact b5), List.take_set_of_le (Nat.le_refl _)]
                  simp
                · rw [List.drop_set_of_lt (by omega)]; exact hdr2
              have hset : setNth (e.map A.str) m (.str x) = (e.set m x).map A.str := by
                rw [setNth_eq, List.map_set]
              have em : (e.map A.str)[m]? = some (.str e[m]) := by
                rw [List.getElem?_map, List.getElem?_eq_getElem b5]; rfl
              cases h3 : x == y with
              | true =>
                obtain rfl : x = y := by simpa using h3
                rw [if_pos rfl] at hstep
                simp -implicitDefEqProofs (maxSteps := 600000) (disch := (first | omega | decide)) only [go_sem, ↓reduceIte, seval, hq', e1, e0, t0, b0, b3, h3, wrap_i64, List.length_map, Int.le_refl]
                exact ⟨⟨(j + 1, m, e), by show 1 ≤ j + 1; omega, by show k + (j + 1) ≤ _; omega, by show m = (compL (l.take (k + j + 1))).length; rw [hstep, hm], he, by show e.take m = compL (l.take (k + j + 1)); rw [hstep, htk], hdr2, by show m ≤ k + (j + 1) - 1; omega⟩, ⟨⟨rfl, by simp⟩, rfl⟩, by show l.length - (j + 1) < l.length - j; omega⟩
              | false =>
                have hne : x ≠ y := by simpa using h3
                simp -implicitDefEqProofs (maxSteps := 600000) (disch := (first | omega | decide)) only [go_sem, ↓reduceIte, seval, hq', e1, e0, t0, b0, b3, b4, h3, em, hset, wrap_i64, List.length_map, Int.le_refl]
                exact ⟨⟨(j + 1, m + 1, e.set m x), by show 1 ≤ j + 1; omega, by show k + (j + 1) ≤ _; omega, next (Ne.symm hne)⟩, ⟨⟨by simp, by simp⟩, rfl⟩, by show l.length - (j + 1) < l.length - j; omega⟩
            · have hq' : ¬ (j : Int) < ((l.length - k : Nat) : Int) := by omega
              have b4 : (m : Int) ≤ (l.length : Int) := by omega
              have tm : ((l.length : Int) - (m : Int)).toNat = l.length - m := by omega
              have hjl : k + j = l.length := by omega
              rw [hjl, List.take_of_length_le (Nat.le_refl _)] at hm htk
              have b6 : m + (l.length - m) = l.length := by omega
              have b7 : l.length ≤ e.length := by omega
              have b8 : (e.map A.str).drop l.length = [] := by rw [List.drop_of_length_le (by rw [List.length_map]; omega)]
              have tm0 : ((m : Int) - 0).toNat = m := by omega
              simp -implicitDefEqProofs (maxSteps := 600000) (disch := (first | omega | decide)) only [go_sem, ↓reduceIte, seval, hq', b4, tm, tm0, b6, b7, b8, List.length_map, Int.le_refl]
              refine ⟨hm, ?_⟩
              rw [List.map_append, ← htk, List.map_take, List.map_replicate, htk, ← hm]
        | false =>
          have hne : x ≠ y := by simpa using h3
          simp -implicitDefEqProofs (maxSteps := 600000) (disch := (first | omega | decide)) only [go_sem, ↓reduceIte, seval, hlt', e1, e0, t0, b0, b1, h3, wrap_i64, List.length_map]
          exact ⟨⟨k + 1, by omega, hlt, next (Ne.symm hne)⟩, by simp, by show l.length - (k + 1) < l.length - k; omega⟩
      · have hlt' : ¬ (k : Int) < (l.length : Int) := by omega
        have hc : compL l = l := by rw [List.take_of_length_le (by omega)] at hd; exact hd
        rw [hc]
        simp -implicitDefEqProofs (maxSteps := 600000) (disch := (first | omega | decide)) only [go_sem, ↓reduceIte, seval, hlt', List.length_map]
        simp
theorem ok_slices_insertionSortCmpFunc_string : codeOK Try.prog T07 Try.f69.ntmps (Try.f69.body.getD .skip) = true := by kernel_rfl
theorem c_ins1 (x : A) : CallA Try.prog 69 [.slc [x], .int .i64 0, .int .i64 1, .fn 57 []] (· = .tup []) := by
  refine callA_of_body T07_ok mixed Try.func69 rfl (Nat.le_of_ble_eq_true rfl) ok_slices_insertionSortCmpFunc_string ?_
  unfold Try.f69
  simp -implicitDefEqProofs (maxSteps := 600000) (disch := (first | omega | decide)) only [go_sem, ↓reduceIte, seval, wrap_i64]
  refine wpA_loop [] (ι := Unit) (fun _ => [(2, .int .i64 1), (8, .int .i64 1)]) (fun _ => []) (fun _ => 0) () (Nat.zero_le _) ?_ ?_
  · simp -implicitDefEqProofs (maxSteps := 600000) (disch := (first | omega | decide)) only [go_sem, ↓reduceIte, seval]
  · intro _
    simp -implicitDefEqProofs (maxSteps := 600000) (disch := (first | omega | decide)) only [go_sem, ↓reduceIte, seval, wrap_i64, resL_nil]
    try rfl
noncomputable def T08s : Tab := T07.add 69 (entry (fun (x : List UInt8) => [.slc [.str x], .int .i64 0, .int .i64 1, .fn 57 []]) (fun x => True) (fun x => .tup []))
theorem T08s_ok : TabOK Try.prog T08s := T07_ok.add (callable_of Try.func69 (by kernel_rfl) (by kernel_rfl)) (entry_ok fun x h => c_ins1 (.str x))
@[go_sem] theorem T08s_eff {g : FuncId} : T08s.eff g = false := rfl
@[go_sem] theorem T08s_ords {n : Nat} : T08s.ords n = [] := rfl
theorem T08s_slices_insertionSortCmpFunc_string (x : List UInt8) (h : True) : T08s.f 69 [.slc [.str x], .int .i64 0, .int .i64 1, .fn 57 []] = some (.tup []) :=
  (Tab.add_eq : T08s.f 69 [.slc [.str x], .int .i64 0, .int .i64 1, .fn 57 []] = (entry (fun (x : List UInt8) => [.slc [.str x], .int .i64 0, .int .i64 1, .fn 57 []]) (fun x => True) (fun x => .tup [])) [.slc [.str x], .int .i64 0, .int .i64 1, .fn 57 []]).trans (entry_eq (fun i j h => by first | (cases i; cases j; rfl; done) | simpa [Prod.ext_iff, and_assoc] using h | (simp at h; omega)) x h)
@[go_sem] theorem t_ins1 {x : List UInt8} : T08s.f 69 [.slc [.str x], .int .i64 0, .int .i64 1, .fn 57 []] = some (.tup []) := T08s_slices_insertionSortCmpFunc_string x trivial
theorem ok_slices_pdqsortCmpFunc_string : codeOK Try.prog T08s Try.f66.ntmps (Try.f66.body.getD .skip) = true := by kernel_rfl
theorem c_pdq1 (x : List UInt8) (n : Int) : CallA Try.prog 66 [.slc [.str x], .int .i64 0, .int .i64 1, .int .i64 n, .fn 57 []] (· = .tup []) := by
  refine callA_of_body T08s_ok mixed Try.func66 rfl (Nat.le_of_ble_eq_true rfl) ok_slices_pdqsortCmpFunc_string ?_
  unfold Try.f66
  simp -implicitDefEqProofs (maxSteps := 600000) (disch := (first | omega | decide)) only [go_sem, ↓reduceIte, seval, wrap_i64]
  refine wpA_loop [0] (ι := Unit) (fun _ => [(1, .int .i64 0), (2, .int .i64 1), (4, .fn 57 [])]) (fun _ => []) (fun _ => 0) () (Nat.zero_le _) ?_ ?_
  · simp -implicitDefEqProofs (maxSteps := 600000) (disch := (first | omega | decide)) only [go_sem, ↓reduceIte, seval]
  · intro _
    simp -implicitDefEqProofs (maxSteps := 600000) (disch := (first | omega | decide)) only [go_sem, ↓reduceIte, seval, wrap_i64, resL_nil]
    try rfl
theorem ok_math_bits_Len64 : codeOK Try.prog T08s Try.f78.ntmps (Try.f78.body.getD .skip) = true := by kernel_rfl
theorem c_len64 : CallA Try.prog 78 [.int .u64 1] (· = .int .i64 1) := by
  refine callA_of_body T08s_ok mixed Try.func78 rfl (Nat.le_of_ble_eq_true rfl) ok_math_bits_Len64 ?_
  unfold Try.f78
  have w8 : IntKind.u8.wrap 1 = 1 := by decide
  have w64 : IntKind.i64.wrap 1 = 1 := by decide
  simp -implicitDefEqProofs (maxSteps := 600000) (disch := (first | omega | decide)) only [go_sem, ↓reduceIte, seval, w8, w64, encU8]
  try decide
noncomputable def T08t : Tab := T08s.add 66 (entry (fun (v : List UInt8 × Int) => [.slc [.str v.1], .int .i64 0, .int .i64 1, .int .i64 v.2, .fn 57 []]) (fun v => True) (fun v => .tup []))
theorem T08t_ok : TabOK Try.prog T08t := T08s_ok.add (callable_of Try.func66 (by kernel_rfl) (by kernel_rfl)) (entry_ok fun v h => c_pdq1 v.1 v.2)
theorem T08t_slices_pdqsortCmpFunc_string (v : List UInt8 × Int) (h : True) : T08t.f 66 [.slc [.str v.1], .int .i64 0, .int .i64 1, .int .i64 v.2, .fn 57 []] = some (.tup []) :=
  (Tab.add_eq : T08t.f 66 [.slc [.str v.1], .int .i64 0, .int .i64 1, .int .i64 v.2, .fn 57 []] = (entry (fun (v : List UInt8 × Int) => [.slc [.str v.1], .int .i64 0, .int .i64 1, .int .i64 v.2, .fn 57 []]) (fun v => True) (fun v => .tup [])) [.slc [.str v.1], .int .i64 0, .int .i64 1, .int .i64 v.2, .fn 57 []]).trans (entry_eq (fun i j h => by first | (cases i; cases j; rfl; done) | simpa [Prod.ext_iff, and_assoc] using h | (simp at h; omega)) v h)
@[go_sem] theorem t_pdq1 {x : List UInt8} {n : Int} : T08t.f 66 [.slc [.str x], .int .i64 0, .int .i64 1, .int .i64 n, .fn 57 []] = some (.tup []) := T08t_slices_pdqsortCmpFunc_string (x, n) trivial
noncomputable def T08u : Tab := T08t.add 78 (entry (fun (u : Unit) => [.int .u64 1]) (fun u => True) (fun u => .int .i64 1))
theorem T08u_ok : TabOK Try.prog T08u := T08t_ok.add (callable_of Try.func78 (by kernel_rfl) (by kernel_rfl)) (entry_ok fun u h => c_len64)
@[go_sem] theorem T08u_old {g : FuncId} {xs : List A} (h : g ≠ 78) : T08u.f g xs = T08t.f g xs := Tab.add_ne h
@[go_sem] theorem T08u_eff {g : FuncId} : T08u.eff g = false := rfl
@[go_sem] theorem T08u_ords {n : Nat} : T08u.ords n = [] := rfl
theorem T08u_math_bits_Len64 (u : Unit) (h : True) : T08u.f 78 [.int .u64 1] = some (.int .i64 1) :=
  (Tab.add_eq : T08u.f 78 [.int .u64 1] = (entry (fun (u : Unit) => [.int .u64 1]) (fun u => True) (fun u => .int .i64 1)) [.int .u64 1]).trans (entry_eq (fun i j h => by first | (cases i; cases j; rfl; done) | simpa [Prod.ext_iff, and_assoc] using h | (simp at h; omega)) u h)
@[go_sem] theorem t_len64 : T08u.f 78 [.int .u64 1] = some (.int .i64 1) := T08u_math_bits_Len64 () trivial
theorem ok_math_bits_Len : codeOK Try.prog T08u Try.f67.ntmps (Try.f67.body.getD .skip) = true := by kernel_rfl
theorem c_len : CallA Try.prog 67 [.int .u64 1] (· = .int .i64 1) := by
  refine callA_of_body T08u_ok mixed Try.func67 rfl (Nat.le_of_ble_eq_true rfl) ok_math_bits_Len ?_
  unfold Try.f67
  simp -implicitDefEqProofs (maxSteps := 600000) (disch := (first | omega | decide)) only [go_sem, ↓reduceIte, seval]
noncomputable def T08v : Tab := T08u.add 67 (entry (fun (u : Unit) => [.int .u64 1]) (fun u => True) (fun u => .int .i64 1))
theorem T08v_ok : TabOK Try.prog T08v := T08u_ok.add (callable_of Try.func67 (by kernel_rfl) (by kernel_rfl)) (entry_ok fun u h => c_len)
@[go_sem] theorem T08v_old {g : FuncId} {xs : List A} (h : g ≠ 67) : T08v.f g xs = T08u.f g xs := Tab.add_ne h
@[go_sem] theorem T08v_eff {g : FuncId} : T08v.eff g = false := rfl
@[go_sem] theorem T08v_frz {g : FuncId} : T08v.frz g = false := rfl
@[go_sem] theorem T08v_ords {n : Nat} : T08v.ords n = [] := rfl
theorem T08v_math_bits_Len (u : Unit) (h : True) : T08v.f 67 [.int .u64 1] = some (.int .i64 1) :=
  (Tab.add_eq : T08v.f 67 [.int .u64 1] = (entry (fun (u : Unit) => [.int .u64 1]) (fun u => True) (fun u => .int .i64 1)) [.int .u64 1]).trans (entry_eq (fun i j h => by first | (cases i; cases j; rfl; done) | simpa [Prod.ext_iff, and_assoc] using h | (simp at h; omega)) u h)
@[go_sem] theorem t_len : T08v.f 67 [.int .u64 1] = some (.int .i64 1) := T08v_math_bits_Len () trivial
theorem ok_slices_SortFunc_string_string : codeOK Try.prog T08v Try.f61.ntmps (Try.f61.body.getD .skip) = true := by kernel_rfl
theorem c_sort1 (x : List UInt8) : CallA Try.prog 61 [.slc [.str x], .fn 57 []] (· = .tup []) := by
  refine callA_of_body T08v_ok mixed Try.func61 rfl (Nat.le_of_ble_eq_true rfl) ok_slices_SortFunc_string_string ?_
  unfold Try.f61
  have w64 : IntKind.u64.wrap 1 = 1 := by decide
  simp -implicitDefEqProofs (maxSteps := 600000) (disch := (first | omega | decide)) only [go_sem, ↓reduceIte, seval, w64, resL_nil]
  try rfl
theorem c_comp1 (x : List UInt8) : CallA Try.prog 62 [.slc [.str x]] (· = .slc [.str x]) := by
  refine callA_of_body T08v_ok mixed Try.func62 rfl (Nat.le_of_ble_eq_true rfl) (by kernel_rfl) ?_
  unfold Try.f62
  simp -implicitDefEqProofs (maxSteps := 600000) (disch := (first | omega | decide)) only [go_sem, ↓reduceIte, seval]
theorem repL_clip1 {E : Env} {es : List A} {ys : List A} {vs : List Value} (h : RepL E (.clip es :: ys) vs) : RepL E (.slc es :: ys) vs := by
  simp only [RepL] at h ⊢
  obtain ⟨v, vs', h1, h2, h3⟩ := h
  exact ⟨v, vs', h1, rep_clip_slc h2, h3⟩
abbrev StI := List StrB ⊕ List UInt8
def stE : StI → List A
  | .inl l => [.row 0 0 1 l.length false, .fn 57 []]
  | .inr x => [.clip [.str x], .fn 57 []]
def stO : StI → List Go.Abs.Obj
  | .inl l => [.row 1 (l.map StrB.enc)]
  | .inr _ => []
def stK : StI → Prop
  | .inl l => l.length < 4611686018427387904
  | .inr _ => True
noncomputable def stR : StI → A × List Go.Abs.Obj × List Nat
  | .inl l => (.tup [], [.row 1 ((sortL cfS l).map StrB.enc)], [])
  | .inr _ => (.tup [], [], [])
theorem strB_inj (x y : StrB) (h : x.enc = y.enc) : x = y := Subtype.ext (by simpa [StrB.enc] using h)
theorem st_inj (i j : StI) (h : stE i = stE j) (h' : stO i = stO j) : i = j := by
  cases i <;> cases j
  · simp only [stO, List.cons.injEq, Go.Abs.Obj.row.injEq, true_and, and_true] at h'
    rw [map_inj strB_inj] at h'
    rw [h']
  · simp [stO] at h'
  · simp [stO] at h'
  · simp [stE] at h
    rw [h]
abbrev CpI := List (List UInt8) ⊕ List UInt8
def cpE : CpI → List A
  | .inl l => [.row 0 0 1 l.length false]
  | .inr x => [.clip [.str x]]
def cpO : CpI → List Go.Abs.Obj
  | .inl l => [.row 1 (l.map A.str)]
  | .inr _ => []
def cpK : CpI → Prop
  | .inl l => l.length ≤ 4611686018427387903
  | .inr _ => True
def cpR : CpI → A × List Go.Abs.Obj × List Nat
  | .inl l => (.row 0 0 1 (compL l).length false, [.row 1 ((compL l ++ List.replicate (l.length - (compL l).length) ([] : List UInt8)).map A.str)], [])
  | .inr x => (.slc [.str x], [], [])
theorem cp_inj (i j : CpI) (h : cpE i = cpE j) (h' : cpO i = cpO j) : i = j := by
  cases i <;> cases j
  · simp only [cpO, List.cons.injEq, Go.Abs.Obj.row.injEq, true_and, and_true] at h'
    rw [map_str_inj] at h'
    rw [h']
  · simp [cpO] at h'
  · simp [cpO] at h'
  · simp [cpE] at h
    rw [h]
noncomputable def E8a : Tab := T08v.addH 61 (entryH stE stO stK stR)
noncomputable def E8b : Tab := E8a.addH 62 (entryH cpE cpO cpK cpR)
noncomputable def E8 : Tab := { E8b with eff := fun f => f == 61 || f == 62 }
theorem stH (i : StI) (h : stK i) : CallH Try.prog 61 (stE i) (stO i) (stR i).1 (stR i).2.1 (stR i).2.2 := by
  cases i with
  | inl l => simpa only [stE, stO, stR] using c_SortFunc_Str l h
  | inr x => simpa only [stE, stO, stR] using callH_pure (c_sort1 x) (fun E vs => repL_clip1) rfl
theorem cpH (i : CpI) (h : cpK i) : CallH Try.prog 62 (cpE i) (cpO i) (cpR i).1 (cpR i).2.1 (cpR i).2.2 := by
  cases i with
  | inl l => simpa only [cpE, cpO, cpR] using c_Compact_Str l h
  | inr x => simpa only [cpE, cpO, cpR] using callH_pure (c_comp1 x) (fun E vs => repL_clip1) rfl
theorem E8a_ok : TabOK Try.prog E8a := T08v_ok.addH (callable_of Try.func61 (by kernel_rfl) (by kernel_rfl)) (entryH_ok stH)
theorem E8b_ok : TabOK Try.prog E8b := E8a_ok.addH (callable_of Try.func62 (by kernel_rfl) (by kernel_rfl)) (entryH_ok cpH)
theorem E8_ok : TabOK Try.prog E8 := ⟨E8b_ok.f, E8b_ok.hp⟩
@[go_sem] theorem E8_eff {g : FuncId} : E8.eff g = (g == 61 || g == 62) := rfl
@[go_sem] theorem E8_frz {g : FuncId} : E8.frz g = T08v.frz g := rfl
@[go_sem] theorem E8_fix {n : Nat} : E8.fix n = false := rfl
@[go_sem] theorem E8_ords {n : Nat} : E8.ords n = [] := rfl
theorem E8_st (i : StI) (h : stK i) : E8.hp 61 (stE i) (stO i) = some (stR i) := by
  have h1 : E8b.hp 61 (stE i) (stO i) = E8a.hp 61 (stE i) (stO i) := Tab.addH_ne (by decide)
  have h2 : E8a.hp 61 (stE i) (stO i) = entryH stE stO stK stR (stE i) (stO i) := Tab.addH_eq
  have h3 := entryH_eq (enc := stE) (obs := stO) (ok := stK) (spec := stR) (fun i j h h' => st_inj i j h h') i h
  exact (show E8.hp 61 (stE i) (stO i) = E8b.hp 61 (stE i) (stO i) from rfl).trans (h1.trans (h2.trans h3))
theorem E8_cp (i : CpI) (h : cpK i) : E8.hp 62 (cpE i) (cpO i) = some (cpR i) := by
  have h2 : E8b.hp 62 (cpE i) (cpO i) = entryH cpE cpO cpK cpR (cpE i) (cpO i) := Tab.addH_eq
  have h3 := entryH_eq (enc := cpE) (obs := cpO) (ok := cpK) (spec := cpR) (fun i j h h' => cp_inj i j h h') i h
  exact (show E8.hp 62 (cpE i) (cpO i) = E8b.hp 62 (cpE i) (cpO i) from rfl).trans (h2.trans h3)
def rawS (es : List (List UInt8)) (r : Rng) : List (List UInt8) := es ++ (if r.op then [r.lo] else [r.lo, r.hi])
def rawE (es : List (List UInt8)) (l : List Rng) : List (List UInt8) := l.foldl rawS es
theorem rawE_step (l : List Rng) (es : List (List UInt8)) (k : Nat) (h : k < l.length) : rawE es (l.take (k + 1)) = rawS (rawE es (l.take k)) l[k] := by
  unfold rawE
  rw [← List.take_append_getElem h, List.foldl_append]; rfl
theorem rawE_len : ∀ (l : List Rng) (es : List (List UInt8)), es.length ≤ (rawE es l).length ∧ (rawE es l).length ≤ es.length + 2 * l.length
  | [], es => by simp [rawE]
  | r :: l, es => by
    have h1 := rawE_len l (rawS es r)
    have h2 : es.length + 1 ≤ (rawS es r).length ∧ (rawS es r).length ≤ es.length + 2 := by
      unfold rawS; rw [List.length_append]; split <;> simp
    have e : rawE es (r :: l) = rawE (rawS es r) l := rfl
    rw [e]; simp only [List.length_cons]; omega
theorem rawE_mem : ∀ (l : List Rng) (es : List (List UInt8)) (x : List UInt8), x ∈ rawE es l ↔ x ∈ es ∨ ∃ r ∈ l, x = r.lo ∨ (r.op = false ∧ x = r.hi)
  | [], es, x => by simp [rawE]
  | r :: l, es, x => by
    have e : rawE es (r :: l) = rawE (rawS es r) l := rfl
    rw [e, rawE_mem l]
    unfold rawS
    cases ho : r.op <;> simp [ho, or_assoc]
theorem rawE_app (a b : List Rng) (es : List (List UInt8)) : rawE es (a ++ b) = rawE (rawE es a) b := by unfold rawE; rw [List.foldl_append]
noncomputable def edgesT (a b : List Rng) : List (List UInt8) := compL (sortT (rawE [[]] (a ++ b)))
def sh5 (E : List (List UInt8)) : A := if E.length = 1 then .clip [.str []] else .row 1 0 1 E.length false
def shH (E : List (List UInt8)) : List Go.Abs.Obj := if E.length = 1 then [] else [.box [.any, .any, .any], .row 1 (E.map .str)]
theorem sh_one {E : List (List UInt8)} (h : E.length = 1) : sh5 E = .clip [.str []] ∧ shH E = [] := by simp [sh5, shH, h]
theorem sh_more {E : List (List UInt8)} (h : E.length ≠ 1) : sh5 E = .row 1 0 1 E.length false ∧ shH E = [.box [.any, .any, .any], .row 1 (E.map .str)] := by simp [sh5, shH, h]
theorem sh_under {E : List (List UInt8)} : (sh5 E).under (shH E).length = true := by
  by_cases h : E.length = 1
  · rw [(sh_one h).1]; simp [A.under]
  · rw [(sh_more h).1, (sh_more h).2]; simp [A.under]
def accE (a b : List Rng) (o : Nat) : List (List UInt8) := rawE [[]] (if o = 0 then [] else if o = 1 then a else a ++ b)
theorem accE0 (a b : List Rng) : accE a b 0 = [[]] := rfl
theorem acc_get (a b : List Rng) (o : Nat) (h : o < 2) : ∃ l, (List.drop o [A.slc (a.map Rng.enc), A.slc (b.map Rng.enc)]).head? = some (.slc (l.map Rng.enc)) ∧ rawE (accE a b o) l = accE a b (o + 1) ∧ (l = a ∨ l = b) := by
  rcases (by omega : o = 0 ∨ o = 1) with rfl | rfl
  · exact ⟨a, rfl, rfl, .inl rfl⟩
  · exact ⟨b, rfl, (rawE_app a b [[]]).symm, .inr rfl⟩
theorem raw_one {m : List Rng} (h : (rawE [[]] m).length = 1) : rawE [[]] m = [[]] := by
  cases m with
  | nil => rfl
  | cons r l =>
    have h1 := (rawE_len l (rawS [[]] r)).1
    have h2 : 2 ≤ (rawS [[]] r).length := by unfold rawS; split <;> simp
    have e : rawE [[]] (r :: l) = rawE (rawS [[]] r) l := rfl
    rw [e] at h; omega
theorem acc_raw (a b : List Rng) (o : Nat) : ∃ m, accE a b o = rawE [[]] m := ⟨_, rfl⟩
theorem ok_ranges_edges : codeOK Try.prog E8 Try.f56.ntmps (Try.f56.body.getD .skip) = true := by kernel_rfl
theorem c_ranges_edges (a b : List Rng) (ha : a.length ≤ 1000000) (hb : b.length ≤ 1000000) (ra : ∀ r ∈ a, rightR r = true) (rb : ∀ r ∈ b, rightR r = true) : CallA Try.prog 56 [.slc (a.map Rng.enc), .slc (b.map Rng.enc)] (· = .slc ((edgesT a b).map .str)) := by
  refine callA_of_body E8_ok mixed Try.func56 rfl (Nat.le_of_ble_eq_true rfl) ok_ranges_edges ?_
  unfold Try.f56
  simp -implicitDefEqProofs (maxSteps := 600000) (disch := (first | omega | decide)) only [go_sem, ↓reduceIte, seval, List.length_map]
  refine wpA_loopH [4, 13] (ι := {o : Nat // o ≤ 2}) (fun p => [(14, .int .i64 p.1), (5, sh5 (accE a b p.1))]) (fun p => shH (accE a b p.1)) (fun p => 2 - p.1) ⟨0, by omega⟩ (fun _ => Nat.zero_le _) ?_ ?_
  · simp only [accE0]
    simp -implicitDefEqProofs (maxSteps := 600000) (disch := (first | omega | decide)) only [go_sem, ↓reduceIte, seval, sh5, shH]
  · rintro ⟨o, ho⟩
    simp only
    by_cases ho2 : o < 2
    · have ho' : (o : Int) < 2 := by omega
      have ho0 : (0 : Int) ≤ (o : Int) := by omega
      obtain ⟨l, hd, hacc, hl⟩ := acc_get a b o ho2
      have hll : l.length ≤ 1000000 := by rcases hl with rfl | rfl <;> assumption
      have hlr : ∀ r ∈ l, rightR r = true := by rcases hl with rfl | rfl <;> assumption
      obtain ⟨m0, hm0⟩ := acc_raw a b o
      have hel : (accE a b o).length ≤ 3000001 := by
        unfold accE
        have h1 := (rawE_len (if o = 0 then [] else if o = 1 then a else a ++ b) [[]]).2
        have h2 : (if o = 0 then [] else if o = 1 then a else a ++ b).length ≤ 1000000 := by
          rcases (by omega : o = 0 ∨ o = 1) with rfl | rfl
          · simp
          · simpa using ha
        simp only [List.length_singleton] at h1
        omega
      have hfin : ∃ j : {o : Nat // o ≤ 2}, (o : Int) + 1 = (j.1 : Int) ∧ accE a b (o + 1) = accE a b j.1 ∧ 2 - j.1 < 2 - o := ⟨⟨o + 1, ho2⟩, by simp, rfl, by show 2 - (o + 1) < 2 - o; omega⟩
      rw [← hacc] at hfin
      generalize accE a b o = E0 at *
      have hE5 : (sh5 E0).under (shH E0).length = true := sh_under
      have hE5b : leH (shH E0).length (shH E0) (shH E0) := by
        by_cases hE0 : E0.length = 1
        · rw [(sh_one hE0).2]; simp [leH]
        · rw [(sh_more hE0).2]; simp [leH, leO, leL]
      simp -implicitDefEqProofs (maxSteps := 600000) (disch := (first | omega | decide)) only [go_sem, ↓reduceIte, seval, ho', ho0, hd, Nat.mul_one, List.length_map]
      refine wpA_loopH [4, 13, 14, 17, 18] (ι := {j : Nat // j ≤ l.length}) (fun p => [(19, .int .i64 p.1), (5, sh5 (rawE E0 (l.take p.1)))]) (fun p => shH (rawE E0 (l.take p.1))) (fun p => l.length - p.1) ⟨0, by omega⟩ (fun _ => Nat.zero_le _) ?_ ?_
      · have e : rawE E0 (l.take 0) = E0 := rfl
        simp only [e]
        simp -implicitDefEqProofs (maxSteps := 600000) (disch := (first | omega | decide)) only [go_sem, ↓reduceIte, seval, hE5, hE5b]
      · rintro ⟨j, hj⟩
        simp only
        obtain ⟨m1, hm1⟩ : ∃ m, rawE E0 (l.take j) = rawE [[]] m := ⟨m0 ++ l.take j, by rw [hm0, rawE_app]⟩
        have hlenE := (rawE_len (l.take j) E0).2
        rw [List.length_take, Nat.min_eq_left hj] at hlenE
        have hgeE := (rawE_len m1 [[]]).1
        rw [← hm1, List.length_singleton] at hgeE
        by_cases hlt : j < l.length
        · have hlt' : (j : Int) < (l.length : Int) := by omega
          have e1 := rng_get hlt
          have hrr := hlr _ (List.getElem_mem hlt)
          have hst := rawE_step l E0 j hlt
          have next : ∀ E', rawE E0 (l.take (j + 1)) = E' → E'.length ≠ 1 → ∃ i : {j : Nat // j ≤ l.length}, (j : Int) + 1 = (i.1 : Int) ∧ (sh5 (rawE E0 (l.take i.1)) = .row 1 0 1 E'.length false ∧ shH (rawE E0 (l.take i.1)) = [.box [.any, .any, .any], .row 1 (E'.map .str)]) ∧ l.length - i.1 < l.length - j := fun E' h1 h2 => ⟨⟨j + 1, hlt⟩, by simp, by rw [h1]; exact sh_more h2, by show l.length - (j + 1) < l.length - j; omega⟩
          generalize rawE E0 (l.take j) = E at *
          generalize hx : l[j] = x at *
          obtain ⟨lo, hi, op⟩ := x
          unfold rawS at hst
          by_cases hE : E.length = 1
          · have hE1 : E = [[]] := by rw [hm1] at hE ⊢; exact raw_one hE
            rw [(sh_one hE).1, (sh_one hE).2]
            subst hE1
            cases op with
            | true =>
              obtain ⟨i, n1, ⟨n2, n3⟩, n4⟩ := next _ hst (by simp)
              simp -implicitDefEqProofs (maxSteps := 600000) (disch := (first | omega | decide)) only [go_sem, ↓reduceIte, seval, hlt', e1, wrap_i64, List.length_map]
              refine ⟨i, ?_, n4⟩
              rw [n2, n3]
              simp -implicitDefEqProofs (maxSteps := 600000) (disch := (first | omega | decide)) only [go_sem, ↓reduceIte, seval, n1]
              try simp
            | false =>
              obtain ⟨i, n1, ⟨n2, n3⟩, n4⟩ := next _ hst (by simp)
              simp -implicitDefEqProofs (maxSteps := 600000) (disch := (first | omega | decide)) only [go_sem, ↓reduceIte, seval, hlt', e1, wrap_i64, List.length_map]
              refine ⟨i, ?_, n4⟩
              rw [n2, n3]
              simp -implicitDefEqProofs (maxSteps := 600000) (disch := (first | omega | decide)) only [go_sem, ↓reduceIte, seval, n1]
              try simp
          · rw [(sh_more hE).1, (sh_more hE).2]
            have tl : (E.map A.str).take E.length = E.map A.str := List.take_of_length_le (by simp)
            have tl2 : (E.map A.str ++ [A.str lo]).take (E.length + 1) = E.map A.str ++ [A.str lo] := List.take_of_length_le (by simp)
            have ll2 : (E.map A.str ++ [A.str lo]).length = E.length + 1 := by simp
            cases op with
            | true =>
              obtain ⟨i, n1, ⟨n2, n3⟩, n4⟩ := next _ hst (by rw [List.length_append]; show E.length + 1 ≠ 1; omega)
              simp -implicitDefEqProofs (maxSteps := 600000) (disch := (first | omega | decide)) only [go_sem, ↓reduceIte, seval, hlt', e1, tl, wrap_i64, List.length_map]
              refine ⟨⟨Nat.le_refl _, by omega⟩, i, ?_, n4⟩
              rw [n2, n3]
              simp -implicitDefEqProofs (maxSteps := 600000) (disch := (first | omega | decide)) only [go_sem, ↓reduceIte, seval, n1]
              try simp
            | false =>
              obtain ⟨i, n1, ⟨n2, n3⟩, n4⟩ := next _ hst (by simp)
              simp -implicitDefEqProofs (maxSteps := 600000) (disch := (first | omega | decide)) only [go_sem, ↓reduceIte, seval, hlt', e1, tl, tl2, ll2, wrap_i64, List.length_map]
              refine ⟨⟨Nat.le_refl _, by omega⟩, ⟨Nat.le_refl _, by omega⟩, i, ?_, n4⟩
              rw [n2, n3]
              simp -implicitDefEqProofs (maxSteps := 600000) (disch := (first | omega | decide)) only [go_sem, ↓reduceIte, seval, n1]
              try simp
        · have hlt' : ¬ (j : Int) < (l.length : Int) := by omega
          rw [List.take_of_length_le (by omega)] at *
          obtain ⟨i, n1, n2, n3⟩ := hfin
          rw [n2]
          have hU : (sh5 (accE a b i.1)).under (shH (accE a b i.1)).length = true := sh_under
          have hUb : leH (shH (accE a b i.1)).length (shH (accE a b i.1)) (shH (accE a b i.1)) := by
            by_cases hE0 : (accE a b i.1).length = 1
            · rw [(sh_one hE0).2]; simp [leH]
            · rw [(sh_more hE0).2]; simp [leH, leO, leL]
          have w : IntKind.i64.wrap ((o : Int) + 1) = (o : Int) + 1 := wrap_i64 (by omega)
          simp -implicitDefEqProofs (maxSteps := 600000) (disch := (first | omega | decide)) only [go_sem, ↓reduceIte, seval, hlt', w, List.length_map]
          refine ⟨i, ?_, n3⟩
          simp -implicitDefEqProofs (maxSteps := 600000) (disch := (first | omega | decide)) only [go_sem, ↓reduceIte, seval, n1, hU, hUb]
    · have ho' : ¬ (o : Int) < 2 := by omega
      have ho2' : o = 2 := by omega
      subst ho2'
      have hE2 : accE a b 2 = rawE [[]] (a ++ b) := rfl
      have h17 : ∀ s ∈ rawE [[]] (a ++ b), s.length ≤ 17 := fun s hs => by
        rcases (rawE_mem _ _ _).1 hs with h | ⟨r, hr, h⟩
        · simp at h; subst h; simp
        · have hrr : rightR r = true := by
            rcases List.mem_append.1 hr with hr | hr
            · exact ra r hr
            · exact rb r hr
          obtain ⟨k1, k2, _, _⟩ := right_parts hrr
          rcases h with rfl | ⟨_, rfl⟩
          · exact k1
          · exact k2
      have hel := (rawE_len (a ++ b) [[]]).2
      rw [List.length_append, List.length_singleton] at hel
      rw [hE2]
      unfold edgesT
      have hone := @raw_one (a ++ b)
      generalize rawE [[]] (a ++ b) = E at *
      by_cases hE : E.length = 1
      · have hE1 := hone hE
        rw [(sh_one hE).1, (sh_one hE).2]
        subst hE1
        have s1 := E8_st (.inr []) trivial
        have s2 := E8_cp (.inr []) trivial
        simp only [stE, stO, stR] at s1
        simp only [cpE, cpO, cpR] at s2
        have hs : sortT [[]] = [[]] := by
          have := (sortT_spec h17).1
          exact (List.perm_replicate (n := 1) (a := ([] : List UInt8))).1 this
        rw [hs]
        simp -implicitDefEqProofs (maxSteps := 600000) (disch := (first | omega | decide)) only [go_sem, ↓reduceIte, seval, ho', s1, s2, compL, List.contains_nil, List.contains_cons, List.length_map]
      · rw [(sh_more hE).1, (sh_more hE).2]
        have s1 := E8_st (.inl (asB E h17)) (by show (asB E h17).length < _; rw [asB_len]; omega)
        simp only [stE, stO, stR, asB_enc, asB_len, sortT_enc] at s1
        have hp := (sortT_spec h17).1.length_eq
        have s2 := E8_cp (.inl (sortT E)) (by show (sortT E).length ≤ _; rw [hp]; omega)
        simp only [cpE, cpO, cpR, hp] at s2
        have hcl : (compL (sortT E)).length = ((compL (sortT E)).map A.str).length := by simp
        simp -implicitDefEqProofs (maxSteps := 600000) (disch := (first | omega | decide)) only [go_sem, ↓reduceIte, seval, ho', s1, s2, List.contains_nil, List.contains_cons, List.length_map]
        refine ⟨by rw [List.length_append]; omega, ?_⟩
        rw [List.map_append, List.take_append_of_le_length (by simp), List.take_of_length_le (by simp)]
set_option maxHeartbeats 4000000
def findS : List Rng → List UInt8 → Nat
  | [], _ => 0
  | r :: l, s => if r.op || ltB s r.hi then 0 else findS l s + 1
theorem findS_le : ∀ (l : List Rng) (s : List UInt8), findS l s ≤ l.length
  | [], _ => Nat.le_refl _
  | r :: l, s => by
    have := findS_le l s
    simp only [findS, List.length_cons]; split <;> omega
theorem findS_lt : ∀ (l : List Rng) (s : List UInt8) (i : Nat) (h : i < l.length), i < findS l s → l[i].op = false ∧ ltB s l[i].hi = false
  | r :: l, s, i, h, hi => by
    simp only [findS] at hi
    split at hi
    · omega
    · rename_i hc
      cases i with
      | zero => simpa using hc
      | succ i => exact findS_lt l s i (by simpa using h) (by omega)
theorem findS_at : ∀ (l : List Rng) (s : List UInt8) (h : findS l s < l.length), (l[findS l s].op || ltB s l[findS l s].hi) = true
  | r :: l, s, h => by
    by_cases hc : (r.op || ltB s r.hi) = true
    · have e : findS (r :: l) s = 0 := by simp only [findS]; rw [if_pos hc]
      simp only [e]; exact hc
    · have e : findS (r :: l) s = findS l s + 1 := by simp only [findS]; rw [if_neg hc]
      simp only [e] at h ⊢
      exact findS_at l s (by simpa using h)
theorem right_later {l : List Rng} (h : rightRs l = true) {s : List UInt8} : ∀ (i j : Nat) (hi : i < l.length) (hj : j < l.length), i ≤ j → (l[i].op || ltB s l[i].hi) = true → (l[j].op || ltB s l[j].hi) = true := by
  intro i j hi hj hij hc
  obtain ⟨h1, h2⟩ := rightRs_can.1 h
  induction j with
  | zero => have : i = 0 := by omega
            subst this; exact hc
  | succ j ih =>
    rcases Nat.lt_or_eq_of_le hij with hlt | heq
    · have hj' : j < l.length := by omega
      have ih := ih hj' (by omega)
      -- neighbours
      have key : ∀ (l : List Rng), (∀ r ∈ l, rightR r = true) → Iv.Can ltB (l.map ivR) → ∀ (j : Nat) (h : j + 1 < l.length), l[j].op = false ∧ ltB l[j].hi l[j + 1].lo = true := by
        intro l
        induction l with
        | nil => intro _ _ j h; simp at h
        | cons r l ih2 =>
          intro g1 g2 j hj
          cases j with
          | zero =>
            cases l with
            | nil => simp at hj
            | cons q l =>
              obtain ⟨_, ⟨x, k1, k2⟩, _⟩ := g2
              simp only [ivR] at k1
              cases ho : r.op with
              | true => rw [ho] at k1; simp at k1
              | false =>
                rw [ho] at k1
                simp at k1
                subst k1
                exact ⟨ho, k2⟩
          | succ j => exact ih2 (fun q hq => g1 q (by simp [hq])) (Iv.can_tail linB g2) j (by simpa using hj)
      obtain ⟨k1, k2⟩ := key l h1 h2 j hj
      rw [k1, Bool.false_or] at ih
      have hr := h1 _ (List.getElem_mem hj)
      cases ho : l[j + 1].op with
      | true => rfl
      | false =>
        rw [Bool.false_or]
        exact lt_trans' (lt_trans' ih k2) ((right_parts hr).2.2.2 ho)
    · subst heq; exact hc
theorem findS_split {l : List Rng} (h : rightRs l = true) {s : List UInt8} {i : Nat} (hi : i < l.length) : (l[i].op || ltB s l[i].hi) = decide (findS l s ≤ i) := by
  by_cases hc : findS l s ≤ i
  · rw [decide_eq_true hc]
    exact right_later h _ _ (by omega) hi hc (findS_at l s (by omega))
  · rw [decide_eq_false hc]
    obtain ⟨h1, h2⟩ := findS_lt l s i hi (by omega)
    rw [h1, h2]; rfl
theorem find_has {l : List Rng} (h : rightRs l = true) (s : List UInt8) : hasRs l s = (if h : findS l s < l.length then !ltB s l[findS l s].lo else false) := by
  obtain ⟨h1, h2⟩ := rightRs_can.1 h
  split
  · rename_i hlt
    have hat := findS_at l s hlt
    have hr := h1 _ (List.getElem_mem hlt)
    cases hc : ltB s l[findS l s].lo with
    | false =>
      rw [Bool.not_false, hasRs_iff]
      refine ⟨_, List.getElem_mem hlt, ?_⟩
      rw [hasR_eq, hr, hc]
      unfold upTo
      rw [hat]; rfl
    | true =>
      rw [Bool.not_true, ← Bool.not_eq_true, hasRs_iff]
      rintro ⟨r, hr', hh⟩
      obtain ⟨j, hj, rfl⟩ := List.mem_iff_getElem.1 hr'
      rw [hasR_eq] at hh
      simp only [Bool.and_eq_true, Bool.not_eq_true'] at hh
      obtain ⟨g1, g2, g3⟩ := hh
      have g3' : (l[j].op || ltB s l[j].hi) = true := g3
      rw [findS_split h hj, decide_eq_true_iff] at g3'
      rcases Nat.lt_or_eq_of_le g3' with g | g
      · -- a later one begins above
        have key : ∀ (l : List Rng), (∀ r ∈ l, rightR r = true) → Iv.Can ltB (l.map ivR) → ∀ (i j : Nat) (hi : i < l.length) (hj : j < l.length), i < j → ltB l[i].lo l[j].lo = true := by
          intro l
          induction l with
          | nil => intro _ _ i j hi; simp at hi
          | cons r l ih =>
            intro a1 a2 i j hi hj hij
            cases j with
            | zero => omega
            | succ j =>
              have hj' : j < l.length := by simpa using hj
              have hmem : Iv.mem ltB (l.map ivR) (l[j]'hj').lo = true := by
                have : hasRs l (l[j]'hj').lo = true := hasRs_iff.2 ⟨l[j]'hj', List.getElem_mem _, right_has_lo (a1 _ (by simp))⟩
                rwa [hasRs_iv, filter_right (fun q hq => a1 q (by simp [hq]))] at this
              cases i with
              | zero =>
                cases l with
                | nil => simp at hj
                | cons q l =>
                  have low := Iv.can_low linB (Iv.can_tail linB a2) hmem
                  obtain ⟨b1, ⟨x, k1, k2⟩, _⟩ := a2
                  have b1' : ltB r.lo x = true := by rw [k1] at b1; exact b1
                  exact lt_of_lt_not (lt_trans' b1' k2) low
              | succ i => exact ih (fun q hq => a1 q (by simp [hq])) (Iv.can_tail linB a2) i j (by simpa using hi) (by simpa using hj) (by omega)
        have := key l h1 h2 _ j hlt hj g
        have := lt_trans' hc this
        rw [this] at g2; cases g2
      · have e : l[j] = l[findS l s] := by congr 1; exact g.symm
        rw [e, hc] at g2; cases g2
  · rename_i hge
    rw [← Bool.not_eq_true, hasRs_iff]
    rintro ⟨r, hr', hh⟩
    obtain ⟨j, hj, rfl⟩ := List.mem_iff_getElem.1 hr'
    rw [hasR_eq] at hh
    simp only [Bool.and_eq_true] at hh
    have g3' : (l[j].op || ltB s l[j].hi) = true := hh.2.2
    rw [findS_split h hj, decide_eq_true_iff] at g3'
    omega
theorem strB (l : List (List UInt8)) : ((l.map A.str).isEmpty || strideOf (l.map A.str) == 1) = true := by
  cases l <;> rfl
theorem putB_close {l : List (List UInt8)} {n : List UInt8} {k : Nat} (hk : k ≤ l.length) (hd : putB l n = l.take k ++ n :: l.drop k) : k + 1 ≤ ((l.take k).map A.str ++ [A.str n]).length ∧ k + 1 + (l.length - k) ≤ (((l.take k).map A.str ++ [A.str n]).take (k + 1) ++ (l.drop k).map A.str).length ∧
    (((l.take k).map A.str ++ [A.str n]).take (k + 1) ++ (l.drop k).map A.str).take (k + 1 + (l.length - k)) = (putB l n).map A.str := by
  have e : ((l.take k).map A.str ++ [A.str n]).length = k + 1 := by simp; omega
  rw [List.take_of_length_le (Nat.le_of_eq e)]
  have e2 : ((l.take k).map A.str ++ [A.str n] ++ (l.drop k).map A.str).length = k + 1 + (l.length - k) := by
    rw [List.length_append, e, List.length_map, List.length_drop]
  rw [List.take_of_length_le (Nat.le_of_eq e2)]
  exact ⟨by omega, by omega, by rw [hd]; simp⟩
theorem ok_ref08_put : codeOK Try.prog T07 Try.f54.ntmps (Try.f54.body.getD .skip) = true := by kernel_rfl
theorem c_ref08_put (l : List (List UInt8)) (n : List UInt8) (hl : l.length ≤ 1000000) (hok : ∀ x ∈ l, x.length ≤ 9223372036854775807) (hn : n.length ≤ 9223372036854775807) : CallA Try.prog 54 [.slc (l.map .str), .str n] (· = .slc ((putB l n).map .str)) := by
  refine callA_of_body T07_ok mixed Try.func54 rfl (Nat.le_of_ble_eq_true rfl) ok_ref08_put ?_
  unfold Try.f54
  simp -implicitDefEqProofs (maxSteps := 600000) (disch := (first | omega | decide)) only [go_sem, ↓reduceIte, seval, List.length_map]
  refine wpA_loop [0, 1, 4] (ι := {k : Nat // k ≤ l.length ∧ putB l n = l.take k ++ putB (l.drop k) n}) (fun p => [(5, .int .i64 p.1)]) (fun _ => []) (fun p => l.length - p.1) ⟨0, by omega, rfl⟩ (Nat.zero_le _) ?_ ?_
  · simp -implicitDefEqProofs (maxSteps := 600000) (disch := (first | omega | decide)) only [go_sem, ↓reduceIte, seval]
  · rintro ⟨k, hk, hd⟩
    simp only
    by_cases hlt : k < l.length
    · have hlt' : (k : Int) < (l.length : Int) := by omega
      have e1 : (l.map A.str)[k]? = some (.str l[k]) := by
        rw [List.getElem?_map, List.getElem?_eq_getElem hlt]; rfl
      have ok1 := hok _ (List.getElem_mem hlt)
      have tk : (l.take k).length = k := by rw [List.length_take]; omega
      have t1 := (List.take_append_getElem hlt).symm
      rw [List.drop_eq_getElem_cons hlt] at hd
      generalize hx : l[k] = x at *
      simp only [putB] at hd
      cases h1 : ltB x n with
      | true =>
        rw [if_pos h1] at hd
        simp -implicitDefEqProofs (maxSteps := 600000) (disch := (first | omega | decide)) only [go_sem, ↓reduceIte, seval, hlt', e1, ok1, h1, wrap_i64, List.length_map]
        exact ⟨⟨k + 1, hlt, by rw [hd, t1, List.append_assoc]; rfl⟩, by simp, by show l.length - (k + 1) < l.length - k; omega⟩
      | false =>
        rw [if_neg (by rw [h1]; simp)] at hd
        cases h2 : x == n with
        | true =>
          simp -implicitDefEqProofs (maxSteps := 600000) (disch := (first | omega | decide)) only [go_sem, ↓reduceIte, seval, hlt', e1, ok1, h1, h2, wrap_i64, List.length_map]
          have hxn : x = n := by simpa using h2
          rw [if_pos hxn, ← hx, ← List.drop_eq_getElem_cons hlt, List.take_append_drop] at hd
          rw [hd]
        | false =>
          have hxn : x ≠ n := by simpa using h2
          have l1 : (l.take k).length = k := tk
          have l2 : (l.drop k).length = l.length - k := List.length_drop ..
          simp -implicitDefEqProofs (maxSteps := 600000) (disch := (first | omega | decide)) only [go_sem, ↓reduceIte, seval, hlt', e1, ok1, h1, h2, wrap_i64, ← List.map_take, ← List.map_drop, strB, List.length_map, List.take_length, l1, l2]
          obtain ⟨c1, c2, c3⟩ := putB_close hk (by rw [hd, if_neg hxn, ← hx, ← List.drop_eq_getElem_cons hlt])
          exact ⟨by omega, by omega, ⟨by omega, by omega⟩, ⟨by omega, by omega⟩, ⟨c1, by omega⟩, c2, c3⟩
    · have hlt' : ¬ (k : Int) < (l.length : Int) := by omega
      have l1 : (l.take k).length = k := by rw [List.length_take]; omega
      have l2 : (l.drop k).length = l.length - k := List.length_drop ..
      have l3 : l.drop k = [] := List.drop_of_length_le (by omega)
      obtain ⟨c1, c2, c3⟩ := putB_close hk (by rw [hd, l3]; rfl)
      simp -implicitDefEqProofs (maxSteps := 600000) (disch := (first | omega | decide)) only [go_sem, ↓reduceIte, seval, hlt', wrap_i64, ← List.map_take, ← List.map_drop, strB, List.length_map, List.take_length, l1, l2]
      exact ⟨by omega, by omega, ⟨by omega, by omega⟩, ⟨by omega, by omega⟩, ⟨c1, by omega⟩, c2, c3⟩
noncomputable def T08a : Tab := T07.add 54 (entry (fun (v : List (List UInt8) × List UInt8) => [.slc (v.1.map .str), .str v.2]) (fun v => v.1.length ≤ 1000000 ∧ (∀ x ∈ v.1, x.length ≤ 9223372036854775807) ∧ v.2.length ≤ 9223372036854775807) (fun v => .slc ((putB v.1 v.2).map .str)))
theorem T08a_ok : TabOK Try.prog T08a := T07_ok.add (callable_of Try.func54 (by kernel_rfl) (by kernel_rfl)) (entry_ok fun v h => c_ref08_put v.1 v.2 h.1 h.2.1 h.2.2)
@[go_sem] theorem T08a_old {g : FuncId} {xs : List A} (h : g ≠ 54) : T08a.f g xs = T07.f g xs := Tab.add_ne h
@[go_sem] theorem T08a_eff {g : FuncId} : T08a.eff g = false := rfl
@[go_sem] theorem T08a_ords {n : Nat} : T08a.ords n = [] := rfl
theorem T08a_ref08_put (v : List (List UInt8) × List UInt8) (h : v.1.length ≤ 1000000 ∧ (∀ x ∈ v.1, x.length ≤ 9223372036854775807) ∧ v.2.length ≤ 9223372036854775807) : T08a.f 54 [.slc (v.1.map .str), .str v.2] = some (.slc ((putB v.1 v.2).map .str)) :=
  (Tab.add_eq : T08a.f 54 [.slc (v.1.map .str), .str v.2] = (entry (fun (v : List (List UInt8) × List UInt8) => [.slc (v.1.map .str), .str v.2]) (fun v => v.1.length ≤ 1000000 ∧ (∀ x ∈ v.1, x.length ≤ 9223372036854775807) ∧ v.2.length ≤ 9223372036854775807) (fun v => .slc ((putB v.1 v.2).map .str))) [.slc (v.1.map .str), .str v.2]).trans (entry_eq (fun i j h => by first | (cases i; cases j; rfl; done) | simpa [Prod.ext_iff, and_assoc] using h | (simp at h; omega)) v h)
theorem t_ref08_put {l : List (List UInt8)} {n : List UInt8} (h : l.length ≤ 1000000) (h1 : ∀ x ∈ l, x.length ≤ 9223372036854775807) (h2 : n.length ≤ 9223372036854775807) : T08a.f 54 [.slc (l.map .str), .str n] = some (.slc ((putB l n).map .str)) := T08a_ref08_put (l, n) ⟨h, h1, h2⟩
theorem foldE_ok : ∀ (l : List Rng) (es : List (List UInt8)), (∀ x ∈ es, x.length ≤ 9223372036854775807) → ∀ x ∈ l.foldl putE es, x.length ≤ 9223372036854775807 := fun l es h x hx => by
  rcases (foldE_mem l es x).1 hx with hx | ⟨r, _, h1, h2⟩
  · exact h x hx
  · obtain ⟨k1, k2, _, _⟩ := right_parts h1
    rcases h2 with rfl | ⟨_, rfl⟩ <;> omega
theorem foldE_step (l : List Rng) (es : List (List UInt8)) (k : Nat) (h : k < l.length) : (l.take (k + 1)).foldl putE es = putE ((l.take k).foldl putE es) l[k] := by
  rw [← List.take_append_getElem h, List.foldl_append]; rfl
theorem ok_ref08_Edges : codeOK Try.prog T08a Try.f37.ntmps (Try.f37.body.getD .skip) = true := by kernel_rfl
theorem c_ref08_Edges (a b : List Rng) (ha : a.length ≤ 1000) (hb : b.length ≤ 1000) (oka : okL a) (okb : okL b) : CallA Try.prog 37 [.slc (a.map Rng.enc), .slc (b.map Rng.enc)] (· = .slc ((edgesS a b).map .str)) := by
  refine callA_of_body T08a_ok mixed Try.func37 rfl (Nat.le_of_ble_eq_true rfl) ok_ref08_Edges ?_
  unfold Try.f37
  simp -implicitDefEqProofs (maxSteps := 600000) (disch := (first | omega | decide)) only [go_sem, ↓reduceIte, seval, List.length_map]
  refine wpA_loop_clip 5 [A.str []] rfl ?_
  refine wpA_loop [0, 1, 4] (ι := {k : Nat // k ≤ (a ++ b).length}) (fun p => [(6, .int .i64 p.1), (5, .slc ((((a ++ b).take p.1).foldl putE [[]]).map .str))]) (fun _ => []) (fun p => (a ++ b).length - p.1) ⟨0, by omega⟩ (Nat.zero_le _) ?_ ?_
  · simp -implicitDefEqProofs (maxSteps := 600000) (disch := (first | omega | decide)) only [go_sem, ↓reduceIte, seval]
    first | done | rfl | exact ⟨rfl, rfl⟩ | simp [A.under]
  · rintro ⟨k, hk⟩
    simp only
    have hsum : (a ++ b).length = a.length + b.length := List.length_append
    have hw : IntKind.i64.wrap ((a.length : Int) + (b.length : Int)) = (((a ++ b).length : Nat) : Int) := by rw [wrap_i64 (by omega)]; omega
    have hlen := foldE_len ((a ++ b).take k) [[]]
    have hok := foldE_ok ((a ++ b).take k) [[]] (by simp)
    rw [List.length_take, Nat.min_eq_left hk, List.length_singleton] at hlen
    by_cases hlt : k < (a ++ b).length
    · have hlt' : (k : Int) < (((a ++ b).length : Nat) : Int) := by omega
      have hst := foldE_step (a ++ b) [[]] k hlt
      have hokx : (a ++ b)[k].ok := by
        have := List.getElem_mem hlt
        rcases List.mem_append.1 this with h | h
        · exact oka _ h
        · exact okb _ h
      have next : ∀ es', ((a ++ b).take (k + 1)).foldl putE [[]] = es' → ∃ j : {k : Nat // k ≤ (a ++ b).length}, ((k : Int) + 1 = (j.1 : Int) ∧ es'.map A.str = (((a ++ b).take j.1).foldl putE [[]]).map A.str) ∧ (a ++ b).length - j.1 < (a ++ b).length - k := fun es' h => ⟨⟨k + 1, hlt⟩, ⟨by simp, by rw [h]⟩, by show (a ++ b).length - (k + 1) < _; omega⟩
      generalize hes : ((a ++ b).take k).foldl putE [[]] = es at *
      by_cases hka : k < a.length
      · have hka' : (k : Int) < (a.length : Int) := by omega
        have e1 := rng_get hka
        have ex : (a ++ b)[k] = a[k] := List.getElem_append_left hka
        rw [ex] at hst hokx
        generalize hx : a[k] = x at *
        obtain ⟨lo, hi, op⟩ := x
        have ok1 : lo.length ≤ 9223372036854775807 ∧ hi.length ≤ 9223372036854775807 := hokx
        have p1 := t_ref08_put (l := es) (n := lo) (by omega) hok ok1.1
        have p2 := t_ref08_put (l := putB es lo) (n := hi) (by have := putB_len es lo; omega) (fun x hx => by
          rcases (putB_mem es lo x).1 hx with rfl | hx
          · exact ok1.1
          · exact hok x hx) ok1.2
        cases h1 : rightR ⟨lo, hi, op⟩ with
        | false =>
          have hs := next es (by rw [hst]; unfold putE; rw [h1]; rfl)
          simp -implicitDefEqProofs (maxSteps := 600000) (disch := (first | omega | decide)) only [go_sem, ↓reduceIte, seval, hw, hlt', hka', e1, ok1, h1, wrap_i64, List.length_map]
          exact hs
        | true =>
          cases op with
          | true =>
            have hs := next (putB es lo) (by rw [hst]; unfold putE; rw [h1]; rfl)
            simp -implicitDefEqProofs (maxSteps := 600000) (disch := (first | omega | decide)) only [go_sem, ↓reduceIte, seval, hw, hlt', hka', e1, ok1, h1, p1, wrap_i64, List.length_map]
            exact hs
          | false =>
            have hs := next (putB (putB es lo) hi) (by rw [hst]; unfold putE; rw [h1]; rfl)
            simp -implicitDefEqProofs (maxSteps := 600000) (disch := (first | omega | decide)) only [go_sem, ↓reduceIte, seval, hw, hlt', hka', e1, ok1, h1, p1, p2, wrap_i64, List.length_map]
            exact hs
      · have hka' : ¬ (k : Int) < (a.length : Int) := by omega
        have hkb : k - a.length < b.length := by omega
        have e1 := rng_get hkb
        have ex : (a ++ b)[k] = b[k - a.length] := List.getElem_append_right (by omega)
        have t0 : ((k : Int) - (a.length : Int)).toNat = k - a.length := by omega
        have t1 : (0 : Int) ≤ (k : Int) - (a.length : Int) := by omega
        rw [ex] at hst hokx
        generalize hx : b[k - a.length] = x at *
        obtain ⟨lo, hi, op⟩ := x
        have ok1 : lo.length ≤ 9223372036854775807 ∧ hi.length ≤ 9223372036854775807 := hokx
        have p1 := t_ref08_put (l := es) (n := lo) (by omega) hok ok1.1
        have p2 := t_ref08_put (l := putB es lo) (n := hi) (by have := putB_len es lo; omega) (fun x hx => by
          rcases (putB_mem es lo x).1 hx with rfl | hx
          · exact ok1.1
          · exact hok x hx) ok1.2
        cases h1 : rightR ⟨lo, hi, op⟩ with
        | false =>
          have hs := next es (by rw [hst]; unfold putE; rw [h1]; rfl)
          simp -implicitDefEqProofs (maxSteps := 600000) (disch := (first | omega | decide)) only [go_sem, ↓reduceIte, seval, hw, hlt', hka', e1, t0, t1, ok1, h1, wrap_i64, List.length_map]
          exact hs
        | true =>
          cases op with
          | true =>
            have hs := next (putB es lo) (by rw [hst]; unfold putE; rw [h1]; rfl)
            simp -implicitDefEqProofs (maxSteps := 600000) (disch := (first | omega | decide)) only [go_sem, ↓reduceIte, seval, hw, hlt', hka', e1, t0, t1, ok1, h1, p1, wrap_i64, List.length_map]
            exact hs
          | false =>
            have hs := next (putB (putB es lo) hi) (by rw [hst]; unfold putE; rw [h1]; rfl)
            simp -implicitDefEqProofs (maxSteps := 600000) (disch := (first | omega | decide)) only [go_sem, ↓reduceIte, seval, hw, hlt', hka', e1, t0, t1, ok1, h1, p1, p2, wrap_i64, List.length_map]
            exact hs
    · have hlt' : ¬ (k : Int) < (((a ++ b).length : Nat) : Int) := by omega
      have hfin : ((a ++ b).take k).foldl putE [[]] = edgesS a b := by rw [List.take_of_length_le (by omega)]; rfl
      simp -implicitDefEqProofs (maxSteps := 600000) (disch := (first | omega | decide)) only [go_sem, ↓reduceIte, seval, hw, hlt', hfin, List.length_map]
end Go.Proofs.Ytmaipoimiiaofaa
namespace Go.Proofs.Ytmaipoimiiaofaa
open Go.Abs
set_option linter.unusedSimpArgs false
set_option linter.unusedVariables false
set_option maxRecDepth 20000
set_option maxHeartbeats 4000000
noncomputable def T08b : Tab := T08a.add 16 (entry (fun (v : List Rng × List UInt8) => [.slc (v.1.map Rng.enc), .str v.2]) (fun v => v.1.length ≤ 4611686018427387904 ∧ okL v.1 ∧ v.2.length ≤ 9223372036854775807) (fun v => .bool (hasRs v.1 v.2)))
theorem T08b_ok : TabOK Try.prog T08b := T08a_ok.add (callable_of Try.func16 (by kernel_rfl) (by kernel_rfl)) (entry_ok fun v h => c_ref08_Has v.1 v.2 h.1 h.2.1 h.2.2)
@[go_sem] theorem T08b_old {g : FuncId} {xs : List A} (h : g ≠ 16) : T08b.f g xs = T08a.f g xs := Tab.add_ne h
noncomputable def T08c : Tab := T08b
theorem T08c_ok : TabOK Try.prog T08c := T08b_ok
@[go_sem] theorem T08c_old {g : FuncId} {xs : List A} : T08c.f g xs = T08b.f g xs := rfl
noncomputable def T08d : Tab := T08c.add 37 (entry (fun (v : List Rng × List Rng) => [.slc (v.1.map Rng.enc), .slc (v.2.map Rng.enc)]) (fun v => v.1.length ≤ 1000 ∧ v.2.length ≤ 1000 ∧ okL v.1 ∧ okL v.2) (fun v => .slc ((edgesS v.1 v.2).map .str)))
theorem T08d_ok : TabOK Try.prog T08d := T08c_ok.add (callable_of Try.func37 (by kernel_rfl) (by kernel_rfl)) (entry_ok fun v h => c_ref08_Edges v.1 v.2 h.1 h.2.1 h.2.2.1 h.2.2.2)
@[go_sem] theorem T08d_old {g : FuncId} {xs : List A} (h : g ≠ 37) : T08d.f g xs = T08c.f g xs := Tab.add_ne h
def rowS (acc : List Rng) : List A := acc.reverse.map Rng.enc
theorem rowS_cons (q : Rng) (qs : List Rng) : rowS (q :: qs) = rowS qs ++ [.agg [.str q.lo, .str q.hi, .bool q.op]] := by
  simp [rowS, Rng.enc]
theorem rowS_len (l : List Rng) : (rowS l).length = l.length := by simp [rowS]
theorem rowS_nil : rowS [] = [] := rfl
theorem str_get {l : List (List UInt8)} {k : Nat} (h : k < l.length) : (l.map A.str)[k]? = some (.str l[k]) := by
  rw [List.getElem?_map, List.getElem?_eq_getElem h]; rfl
section
variable (q : Rng) (qs : List Rng)
theorem rowS_get' (x : A) : (rowS qs ++ [x])[qs.length]? = some x := by
  have := get_last (x := x) (l := rowS qs)
  rwa [rowS_len] at this
theorem rowS_set (x v : A) : setNth (rowS qs ++ [x]) qs.length v = rowS qs ++ [v] := by
  have := setNth_last (x := x) (v := v) (l := rowS qs)
  rwa [rowS_len] at this
theorem rowS_full (x : A) : (rowS qs ++ [x]).length = qs.length + 1 := by rw [List.length_append, rowS_len]; rfl
theorem rowS_take (x : A) : (rowS qs ++ [x]).take (qs.length + 1) = rowS qs ++ [x] := List.take_of_length_le (Nat.le_of_eq (rowS_full qs x))
end
end Go.Proofs.Ytmaipoimiiaofaa
namespace Go.Proofs
open Go.Shelf
def Ytmaipoimiiaofaa.sortRng_ren : Go.Shelf.Ren := ⟨fun | 6 => 63 | 15 => 67 | 14 => 68 | 28 => 77 | 29 => 78 | 20 => 79 | 21 => 80 | 22 => 81 | 23 => 82 | 24 => 83 | 25 => 84 | 26 => 85 | 27 => 86 | 46 => 92 | 47 => 88 | 48 => 89 | 49 => 93 | 50 => 94 | 57 => 96 | n => n, fun | 22 => 25 | 24 => 45 | 25 => 77 | 3 => 3 | 39 => 80 | 0 => 0 | 53 => 91 | 55 => 93 | 4 => 4 | 46 => 84 | 45 => 83 | 50 => 88 | 5 => 5 | 9 => 9 | 66 => 99 | 70 => 103 | 76 => 107 | 77 => 108 | n => n, fun | n => n⟩
theorem Ytmaipoimiiaofaa.sortRng : Go.Proofs.SlLaysF0.n6 Try.prog Ytmaipoimiiaofaa.sortRng_ren := {
  mixed := by kernel_rfl
  f6 := ⟨Try.f63.name, by decide, Try.func63.trans (congrArg some (by kernel_rfl))⟩
  f14 := ⟨Try.f68.name, by decide, Try.func68.trans (congrArg some (by kernel_rfl))⟩
  f15 := Try.func67.trans (congrArg some (by kernel_rfl))
  f20 := ⟨Try.f79.name, by decide, Try.func79.trans (congrArg some (by kernel_rfl))⟩
  f21 := ⟨Try.f80.name, by decide, Try.func80.trans (congrArg some (by kernel_rfl))⟩
  f22 := ⟨Try.f81.name, by decide, Try.func81.trans (congrArg some (by kernel_rfl))⟩
  f23 := ⟨Try.f82.name, by decide, Try.func82.trans (congrArg some (by kernel_rfl))⟩
  f24 := ⟨Try.f83.name, by decide, Try.func83.trans (congrArg some (by kernel_rfl))⟩
  f25 := ⟨Try.f84.name, by decide, Try.func84.trans (congrArg some (by kernel_rfl))⟩
  f26 := ⟨Try.f85.name, by decide, Try.func85.trans (congrArg some (by kernel_rfl))⟩
  f27 := ⟨Try.f86.name, by decide, Try.func86.trans (congrArg some (by kernel_rfl))⟩
  f28 := Try.func77.trans (congrArg some (by kernel_rfl))
  f29 := Try.func78.trans (congrArg some (by kernel_rfl))
  f46 := ⟨Try.f92.name, by decide, Try.func92.trans (congrArg some (by kernel_rfl))⟩
  f47 := Try.func88.trans (congrArg some (by kernel_rfl))
  f48 := Try.func89.trans (congrArg some (by kernel_rfl))
  f49 := ⟨Try.f93.name, by decide, Try.func93.trans (congrArg some (by kernel_rfl))⟩
  f50 := ⟨Try.f94.name, by decide, Try.func94.trans (congrArg some (by kernel_rfl))⟩
  f57 := ⟨Try.f96.name, by decide, Try.func96.trans (congrArg some (by kernel_rfl))⟩
  t0 := Try.underlying0
  a0 := Try.isAgg0
  z0 := Try.sizeOf0
  v0 := Try.zeroValue0
  t3 := Try.underlying3
  a3 := Try.isAgg3
  z3 := Try.sizeOf3
  v3 := Try.zeroValue3
  t4 := Try.underlying4
  a4 := Try.isAgg4
  z4 := Try.sizeOf4
  v4 := Try.zeroValue4
  t5 := Try.underlying5
  a5 := Try.isAgg5
  z5 := Try.sizeOf5
  v5 := Try.zeroValue5
  t9 := Try.underlying9
  a9 := Try.isAgg9
  z9 := Try.sizeOf9
  v9 := Try.zeroValue9
  t22 := Try.underlying25
  a22 := Try.isAgg25
  z22 := Try.sizeOf25
  v22 := Try.zeroValue25
  t25 := Try.underlying77
  a25 := Try.isAgg77
  z25 := Try.sizeOf77
  v25 := Try.zeroValue77
  t39 := Try.underlying80
  a39 := Try.isAgg80
  z39 := Try.sizeOf80
  v39 := Try.zeroValue80
  t45 := Try.underlying83
  a45 := Try.isAgg83
  z45 := Try.sizeOf83
  v45 := Try.zeroValue83
  t46 := Try.underlying84
  a46 := Try.isAgg84
  z46 := Try.sizeOf84
  v46 := Try.zeroValue84
  t50 := Try.underlying88
  a50 := Try.isAgg88
  z50 := Try.sizeOf88
  v50 := Try.zeroValue88
  t53 := Try.underlying91
  a53 := Try.isAgg91
  z53 := Try.sizeOf91
  v53 := Try.zeroValue91
  t55 := Try.underlying93
  a55 := Try.isAgg93
  z55 := Try.sizeOf93
  v55 := Try.zeroValue93
  t66 := Try.underlying99
  a66 := Try.isAgg99
  z66 := Try.sizeOf99
  v66 := Try.zeroValue99
  t70 := Try.underlying103
  a70 := Try.isAgg103
  z70 := Try.sizeOf103
  v70 := Try.zeroValue103
  t76 := Try.underlying107
  a76 := Try.isAgg107
  z76 := Try.sizeOf107
  v76 := Try.zeroValue107
  t77 := Try.underlying108
  a77 := Try.isAgg108
  z77 := Try.sizeOf108
  v77 := Try.zeroValue108 }
end Go.Proofs
namespace Go.Proofs.Ytmaipoimiiaofaa
open Go.Abs
set_option linter.unusedSimpArgs false
set_option linter.unusedVariables false
set_option maxRecDepth 20000
set_option maxHeartbeats 8000000
theorem ok_ranges_Of_1 : codeOK Try.prog T07 Try.f64.ntmps (Try.f64.body.getD .skip) = true := by kernel_rfl
theorem c_rOf1 (a b : Rng) (ha : a.ok) (hb : b.ok) : CallA Try.prog 64 [.agg [.str a.lo, .str a.hi, .bool a.op], .agg [.str b.lo, .str b.hi, .bool b.op]] (· = .int .i64 (cmpB a.lo b.lo)) := by
  refine callA_of_body T07_ok mixed Try.func64 rfl (Nat.le_of_ble_eq_true rfl) ok_ranges_Of_1 ?_
  unfold Try.f64
  obtain ⟨a1, a2⟩ := ha
  obtain ⟨b1, b2⟩ := hb
  simp -implicitDefEqProofs (maxSteps := 600000) (disch := (first | omega | decide)) only [go_sem, ↓reduceIte, seval, a1, b1]
abbrev RngB := {r : Rng // rightR r = true}
instance : Inhabited RngB := ⟨⟨⟨[], [], true⟩, by decide⟩⟩
def cfR (a b : RngB) : Int := cmpB a.1.lo b.1.lo
def RngB.cells (r : RngB) : List A := [.str r.1.lo, .str r.1.hi, .bool r.1.op]
theorem cmp_neg_iff {a b : List UInt8} : cmpB a b < 0 ↔ ltB a b = true := by
  have := @cmp_lt0 a b
  rw [← this, decide_eq_true_iff]
theorem swoR : Go.Sort.SWO (Go.Proofs.ltOf cfR) := by
  have hl : ∀ a b, Go.Proofs.ltOf cfR a b = ltB a.1.lo b.1.lo := fun a b => by
    unfold Go.Proofs.ltOf cfR
    exact cmp_lt0
  refine ⟨fun x => ?_, fun x y z h1 h2 => ?_, fun x y z h1 h2 => ?_⟩
  · rw [hl]; exact lt_irrefl _
  · rw [hl] at *; exact lt_trans' h1 h2
  · rw [hl] at *; exact not_lt_trans h2 h1
theorem rng_ok17 {r : Rng} (h : rightR r = true) : r.ok := by
  obtain ⟨k1, k2, _, _⟩ := right_parts h
  exact ⟨by omega, by omega⟩
theorem c_SortFunc_Rng (l : List RngB) (hl : l.length < 4611686018427387904) : CallH Try.prog 63 [.row 0 0 3 l.length false, .fn 64 []] [.row 3 (l.map fun x => .agg x.cells)]
    (.tup []) [.row 3 ((sortL cfR l).map fun x => .agg x.cells)] [] :=
  sort_struct Go.Proofs.Ytmaipoimiiaofaa.sortRng (by omega) Try.isAgg45 Try.sizeOf45 RngB.cells (fun _ => rfl) (fun x a ha => by
    simp only [RngB.cells, List.mem_cons, List.not_mem_nil, or_false] at ha
    rcases ha with rfl | rfl | rfl <;> rfl) cfR swoR (callable_of Try.func64 (by kernel_rfl) (by kernel_rfl)) (fun x y => c_rOf1 x.1 y.1 (rng_ok17 x.2) (rng_ok17 y.2)) l hl false
def pickR (l : List Rng) : List RngB := (l.filter rightR).attach.map fun x => ⟨x.1, (List.mem_filter.1 x.2).2⟩
theorem pickR_val (l : List Rng) : (pickR l).map (·.1) = l.filter rightR := by
  unfold pickR
  rw [List.map_map]
  exact List.attach_map_subtype_val _
theorem pickR_cells (l : List Rng) : (pickR l).map (fun x => A.agg x.cells) = (l.filter rightR).map Rng.enc := by
  rw [← pickR_val, List.map_map]; rfl
noncomputable def srtR (l : List Rng) : List Rng := (sortL cfR (pickR l)).map (·.1)
theorem srtR_cells (l : List Rng) : (sortL cfR (pickR l)).map (fun x => A.agg x.cells) = (srtR l).map Rng.enc := by
  unfold srtR; rw [List.map_map]; rfl
theorem srtR_perm (l : List Rng) : (srtR l).Perm (l.filter rightR) := by
  rw [← pickR_val]; exact (sortL_spec swoR (pickR l)).1.map _
theorem srtR_one (l : List Rng) : ∀ r ∈ srtR l, rightR r = true := fun r hr => by
  unfold srtR at hr
  obtain ⟨x, _, rfl⟩ := List.mem_map.1 hr
  exact x.2
theorem srtR_up (l : List Rng) : (srtR l).Pairwise (fun x y => ltB y.lo x.lo = false) := by
  unfold srtR
  rw [List.pairwise_map]
  exact (sortL_spec swoR (pickR l)).2.imp fun {x y} h => by
    unfold cfR at h
    rw [cmp_neg_iff] at h
    simpa using h
theorem srtR_has (l : List Rng) (s : List UInt8) : hasRs (srtR l) s = hasRs l s := by
  rw [hasRs_perm (srtR_perm l), hasRs_filter]
theorem srtR_all (l : List Rng) : ((srtR l).foldl pushS []).reverse = setS (hasRs l) := by
  rw [foldS_all (srtR_one l) (srtR_up l)]
  congr 1; funext s; exact srtR_has l s
def rgE (l : List RngB) : List A := [.row 0 0 3 l.length false, .fn 64 []]
def rgO (l : List RngB) : List Go.Abs.Obj := [.row 3 (l.map fun x => .agg x.cells)]
def rgK (l : List RngB) : Prop := l.length < 4611686018427387904
noncomputable def rgR (l : List RngB) : A × List Go.Abs.Obj × List Nat := (.tup [], [.row 3 ((sortL cfR l).map fun x => .agg x.cells)], [])
theorem rngB_inj (x y : RngB) (h : A.agg x.cells = A.agg y.cells) : x = y := Subtype.ext (Rng.enc_inj _ _ h)
theorem rgO_inj (i j : List RngB) (h : rgO i = rgO j) : i = j := by
  simp only [rgO, List.cons.injEq, Go.Abs.Obj.row.injEq, true_and, and_true] at h
  rwa [map_inj rngB_inj] at h
noncomputable def R8a : Tab := T07.addH 63 (entryH rgE rgO rgK rgR)
noncomputable def R8 : Tab := { R8a with eff := fun f => f == 63, ords := fun n => if n = 17 then [[0, 1, 2, 3, 4, 5, 6, 7, 8, 10, 11, 9, 12, 13, 14, 15], [0, 1, 2, 3, 4, 5, 6, 7, 8, 10, 11, 12, 9, 13, 14, 15]] else [] }
theorem R8a_ok : TabOK Try.prog R8a := T07_ok.addH (callable_of Try.func63 (by kernel_rfl) (by kernel_rfl)) (entryH_ok fun l h => c_SortFunc_Rng l h)
theorem R8_ok : TabOK Try.prog R8 := ⟨R8a_ok.f, R8a_ok.hp⟩
@[go_sem] theorem R8_f : R8.f = T07.f := rfl
@[go_sem] theorem R8_eff {g : FuncId} : R8.eff g = (g == 63) := rfl
@[go_sem] theorem R8_frz {g : FuncId} : R8.frz g = T07.frz g := rfl
@[go_sem] theorem R8_fix {n : Nat} : R8.fix n = false := rfl
@[go_sem] theorem R8_ords17 : R8.ords 17 = [[0, 1, 2, 3, 4, 5, 6, 7, 8, 10, 11, 9, 12, 13, 14, 15], [0, 1, 2, 3, 4, 5, 6, 7, 8, 10, 11, 12, 9, 13, 14, 15]] := rfl
@[go_sem] theorem R8_ords {n : Nat} (h : n ≠ 17) : R8.ords n = [] := if_neg h
theorem R8_sort {l : List Rng} {n : Nat} (hn : n = (l.filter rightR).length) (h : l.length < 4611686018427387904) : R8.hp 63 [.row 0 0 3 n false, .fn 64 []] [.row 3 ((l.filter rightR).map Rng.enc)] = some (.tup [], [.row 3 ((srtR l).map Rng.enc)], []) := by
  subst hn
  have hlen : (pickR l).length = (l.filter rightR).length := by rw [← pickR_val]; simp
  have h0 : R8a.hp 63 (rgE (pickR l)) (rgO (pickR l)) = entryH rgE rgO rgK rgR (rgE (pickR l)) (rgO (pickR l)) := Tab.addH_eq
  have h1 : R8.hp 63 (rgE (pickR l)) (rgO (pickR l)) = entryH rgE rgO rgK rgR (rgE (pickR l)) (rgO (pickR l)) := h0
  have h2 := h1.trans (entryH_eq (fun i j _ h => rgO_inj i j h) (pickR l) (show (pickR l).length < 4611686018427387904 by rw [hlen]; exact Nat.lt_of_le_of_lt (List.length_filter_le _ _) h))
  simp only [rgE, rgO, rgR, hlen, pickR_cells, srtR_cells] at h2
  exact h2
theorem foldS_step (l : List Rng) (k : Nat) (h : k < l.length) : (l.take (k + 1)).foldl pushS [] = pushS ((l.take k).foldl pushS []) l[k] := by
  rw [← List.take_append_getElem h, List.foldl_append]; rfl
theorem foldS_len : ∀ (l : List Rng) (a : List Rng), (l.foldl pushS a).length ≤ a.length + l.length
  | [], a => by simp
  | r :: l, a => by
    have h1 := foldS_len l (pushS a r)
    have h2 := pushS_len a r
    simp only [List.foldl_cons, List.length_cons]; omega
theorem ok_ranges_Of : codeOK Try.prog R8 Try.f60.ntmps (Try.f60.body.getD .skip) = true := by kernel_rfl
theorem c_ranges_Of (l : List Rng) (hl : l.length ≤ 1000000) (hok : okL l) : CallA Try.prog 60 [.slc (l.map Rng.enc)] (· = .slc ((setS (hasRs l)).map Rng.enc)) := by
  refine callA_of_body R8_ok mixed Try.func60 rfl (Nat.le_of_ble_eq_true rfl) ok_ranges_Of ?_
  unfold Try.f60
  simp -implicitDefEqProofs (maxSteps := 600000) (disch := (first | omega | decide)) only [go_sem, ↓reduceIte, seval, List.length_map]
  refine wpA_loop_nil 3 3 rfl ?_
  refine wpA_loop [2, 10, 11] (ι := {k : Nat // k ≤ l.length}) (fun p => [(12, .int .i64 p.1), (3, .row 0 0 3 ((l.take p.1).filter rightR).length false)]) (fun p => [(0, .row 3 (((l.take p.1).filter rightR).map Rng.enc))]) (fun p => l.length - p.1) ⟨0, by omega⟩ (Nat.zero_le _) ?_ ?_
  · simp -implicitDefEqProofs (maxSteps := 600000) (disch := (first | omega | decide)) only [go_sem, ↓reduceIte, seval]
    simp
  · rintro ⟨k, hk⟩
    simp only
    have hf : ((l.take k).filter rightR).length ≤ k := Nat.le_trans (List.length_filter_le _ _) (by rw [List.length_take]; omega)
    by_cases hlt : k < l.length
    · have hlt' : (k : Int) < (l.length : Int) := by omega
      have ht : l.take (k + 1) = l.take k ++ [l[k]] := (List.take_append_getElem hlt).symm
      have e1 := rng_get hlt
      have ok1 := okL_get hok hlt
      generalize hx : l[k] = x at *
      obtain ⟨lo, hi, op⟩ := x
      simp only at ok1
      cases h1 : rightR ⟨lo, hi, op⟩ with
      | true =>
        simp -implicitDefEqProofs (maxSteps := 600000) (disch := (first | omega | decide)) only [go_sem, ↓reduceIte, seval, hlt', e1, ok1, h1, wrap_i64, List.length_map]
        refine ⟨⟨Nat.le_refl _, by omega⟩, ⟨k + 1, hlt⟩, ⟨⟨by simp, ?_⟩, ?_⟩, by show l.length - (k + 1) < l.length - k; omega⟩
        · rw [ht, List.filter_append]; simp [h1]
        · rw [ht, List.filter_append, List.take_of_length_le (by simp)]; simp [h1, Rng.enc]
      | false =>
        simp -implicitDefEqProofs (maxSteps := 600000) (disch := (first | omega | decide)) only [go_sem, ↓reduceIte, seval, hlt', e1, ok1, h1, wrap_i64, List.length_map]
        refine ⟨⟨k + 1, hlt⟩, ⟨⟨by simp, ?_⟩, ?_⟩, by show l.length - (k + 1) < l.length - k; omega⟩
        · rw [ht, List.filter_append]; simp [h1]
        · rw [ht, List.filter_append]; simp [h1]
    · have hlt' : ¬ (k : Int) < (l.length : Int) := by omega
      rw [List.take_of_length_le (by omega)] at *
      have hs := R8_sort (l := l) rfl (by omega)
      have hp := (srtR_perm l).length_eq
      have hall := srtR_all l
      have hone := srtR_one l
      have hup := srtR_up l
      rw [← hp] at hf
      simp -implicitDefEqProofs (maxSteps := 600000) (disch := (first | omega | decide)) only [go_sem, ↓reduceIte, seval, hlt', hs, List.length_map, List.contains_nil, List.contains_cons]
      rw [← hp]
      generalize srtR l = s at *
      refine wpA_loop_nil 6 3 rfl ?_
      refine wpA_loop [2, 25, 26] (ι := {j : Nat // j ≤ s.length}) (fun p => [(27, .int .i64 p.1), (6, .row 1 0 3 ((s.take p.1).foldl pushS []).length false)]) (fun p => [(1, .row 3 (rowS ((s.take p.1).foldl pushS [])))]) (fun p => s.length - p.1) ⟨0, by omega⟩ (Nat.zero_le _) ?_ ?_
      · simp -implicitDefEqProofs (maxSteps := 600000) (disch := (first | omega | decide)) only [go_sem, ↓reduceIte, seval]
        simp [rowS]
      · rintro ⟨j, hj⟩
        simp only
        have hml := foldS_len (s.take j) []
        rw [List.length_take, List.length_nil, Nat.min_eq_left hj, Nat.zero_add] at hml
        by_cases hltj : j < s.length
        · have hltj' : (j : Int) < (s.length : Int) := by omega
          have e2 := rng_get hltj
          have hst := foldS_step s j hltj
          have ho := hone _ (List.getElem_mem hltj)
          have hR : RS ((s.take j).foldl pushS []) := (foldS_push (a := []) trivial (fun r hr => hone r (List.mem_of_mem_take hr)) (hup.sublist (List.take_sublist _ _)) (fun _ _ => trivial)).1
          have fin : ∀ m', (s.take (j + 1)).foldl pushS [] = m' → ∃ i : {j : Nat // j ≤ s.length}, (((j : Int) + 1 = (i.1 : Int) ∧ m'.length = ((s.take i.1).foldl pushS []).length) ∧ rowS m' = rowS ((s.take i.1).foldl pushS [])) ∧ s.length - i.1 < s.length - j := fun m' hm' => ⟨⟨j + 1, hltj⟩, ⟨⟨by simp, by rw [hm']⟩, by rw [hm']⟩, by show s.length - (j + 1) < s.length - j; omega⟩
          generalize hx : s[j] = x at *
          generalize (s.take j).foldl pushS [] = m at *
          have okx := rng_ok17 ho
          obtain ⟨lo, hi, op⟩ := x
          have okx' : lo.length ≤ 9223372036854775807 ∧ hi.length ≤ 9223372036854775807 := okx
          have fin' := fin _ hst
          cases m with
          | nil =>
            rw [rowS_nil]
            simp -implicitDefEqProofs (maxSteps := 600000) (disch := (first | omega | decide)) only [go_sem, ↓reduceIte, seval, hltj', e2, wrap_i64, List.length_map]
            exact fin'
          | cons q qs =>
            have hq := rs_one hR
            have okq := rng_ok17 hq
            obtain ⟨qlo, qhi, qop⟩ := q
            have okq' : qlo.length ≤ 9223372036854775807 ∧ qhi.length ≤ 9223372036854775807 := okq
            rw [rowS_cons] at *
            have hlq : qs.length + 1 ≤ j := hml
            have cz : (((qs.length + 1 : Nat) : Int) == 0) = false := by
              have : ((qs.length + 1 : Nat) : Int) ≠ 0 := by omega
              simpa using this
            have c1 : (((qs.length + 1 : Nat) : Int) - 1).toNat = qs.length := by omega
            have c2 : (0 : Int) ≤ ((qs.length + 1 : Nat) : Int) - 1 := by omega
            have c3 : ((qs.length + 1 : Nat) : Int) - 1 < ((qs.length + 1 : Nat) : Int) := by omega
            have merge : (qop || !ltB qhi lo) = true → pushS (⟨qlo, qhi, qop⟩ :: qs) ⟨lo, hi, op⟩ = mergeR ⟨qlo, qhi, qop⟩ ⟨lo, hi, op⟩ :: qs := fun h => by
              simp only [pushS]; rw [if_pos h]
            cases hqo : qop with
            | true =>
              subst hqo
              have hpj := merge (by simp)
              by_cases he : endsR ⟨qlo, qhi, true⟩ ⟨lo, hi, op⟩ < 0
              · have hm : mergeR ⟨qlo, qhi, true⟩ ⟨lo, hi, op⟩ = ⟨qlo, hi, op⟩ := by unfold mergeR; rw [if_pos he]
                rw [hpj, hm, rowS_cons] at fin'
                simp -implicitDefEqProofs (maxSteps := 600000) (disch := (first | omega | decide)) only [go_sem, ↓reduceIte, seval, hltj', e2, okx', okq', cz, c1, c2, c3, he, rowS_get', rowS_set, wrap_i64, List.length_map]
                exact fin'
              · have hm : mergeR ⟨qlo, qhi, true⟩ ⟨lo, hi, op⟩ = ⟨qlo, qhi, true⟩ := by unfold mergeR; rw [if_neg he]
                rw [hpj, hm, rowS_cons] at fin'
                simp -implicitDefEqProofs (maxSteps := 600000) (disch := (first | omega | decide)) only [go_sem, ↓reduceIte, seval, hltj', e2, okx', okq', cz, c1, c2, c3, he, rowS_get', rowS_set, wrap_i64, List.length_map]
                exact fin'
            | false =>
              subst hqo
              cases hto : ltB qhi lo with
              | false =>
                have hpj := merge (by rw [hto]; rfl)
                by_cases he : endsR ⟨qlo, qhi, false⟩ ⟨lo, hi, op⟩ < 0
                · have hm : mergeR ⟨qlo, qhi, false⟩ ⟨lo, hi, op⟩ = ⟨qlo, hi, op⟩ := by unfold mergeR; rw [if_pos he]
                  rw [hpj, hm, rowS_cons] at fin'
                  simp -implicitDefEqProofs (maxSteps := 600000) (disch := (first | omega | decide)) only [go_sem, ↓reduceIte, seval, hltj', e2, okx', okq', cz, c1, c2, c3, he, hto, rowS_get', rowS_set, wrap_i64, List.length_map]
                  exact fin'
                · have hm : mergeR ⟨qlo, qhi, false⟩ ⟨lo, hi, op⟩ = ⟨qlo, qhi, false⟩ := by unfold mergeR; rw [if_neg he]
                  rw [hpj, hm, rowS_cons] at fin'
                  simp -implicitDefEqProofs (maxSteps := 600000) (disch := (first | omega | decide)) only [go_sem, ↓reduceIte, seval, hltj', e2, okx', okq', cz, c1, c2, c3, he, hto, rowS_get', rowS_set, wrap_i64, List.length_map]
                  exact fin'
              | true =>
                have hpj : pushS (⟨qlo, qhi, false⟩ :: qs) ⟨lo, hi, op⟩ = ⟨lo, hi, op⟩ :: ⟨qlo, qhi, false⟩ :: qs := by
                  simp only [pushS]; rw [if_neg (by rw [hto]; simp)]
                rw [hpj, rowS_cons, rowS_cons] at fin'
                simp -implicitDefEqProofs (maxSteps := 600000) (disch := (first | omega | decide)) only [go_sem, ↓reduceIte, seval, hltj', e2, okx', okq', cz, c1, c2, c3, hto, rowS_get', rowS_set, rowS_full, rowS_take, wrap_i64, List.length_map]
                exact ⟨⟨Nat.le_refl _, by omega⟩, fin'⟩
        · have hltj' : ¬ (j : Int) < (s.length : Int) := by omega
          rw [List.take_of_length_le (by omega)] at *
          have hfin : rowS (s.foldl pushS []) = (setS (hasRs l)).map Rng.enc := by unfold rowS; rw [hall]
          have hll : (s.foldl pushS []).length = (rowS (s.foldl pushS [])).length := by rw [rowS_len]
          simp -implicitDefEqProofs (maxSteps := 600000) (disch := (first | omega | decide)) only [go_sem, ↓reduceIte, seval, hltj', wrap_i64, hll, List.length_map, List.take_length]
          rw [hfin]
          exact ⟨Nat.le_refl _, rfl⟩
set_option maxHeartbeats 4000000
theorem ok_ranges_Union_1 : codeOK Try.prog T07 Try.f42.ntmps (Try.f42.body.getD .skip) = true := by kernel_rfl
theorem c_rUnion1 (x y : Bool) : CallA Try.prog 42 [.bool x, .bool y] (· = .bool (x || y)) := by
  refine callA_of_body T07_ok mixed Try.func42 rfl (Nat.le_of_ble_eq_true rfl) ok_ranges_Union_1 ?_
  unfold Try.f42
  cases x <;> simp -implicitDefEqProofs (maxSteps := 600000) (disch := (first | omega | decide)) only [go_sem, ↓reduceIte, seval]
theorem ok_ranges_Meet_1 : codeOK Try.prog T07 Try.f41.ntmps (Try.f41.body.getD .skip) = true := by kernel_rfl
theorem c_rMeet1 (x y : Bool) : CallA Try.prog 41 [.bool x, .bool y] (· = .bool (x && y)) := by
  refine callA_of_body T07_ok mixed Try.func41 rfl (Nat.le_of_ble_eq_true rfl) ok_ranges_Meet_1 ?_
  unfold Try.f41
  cases x <;> simp -implicitDefEqProofs (maxSteps := 600000) (disch := (first | omega | decide)) only [go_sem, ↓reduceIte, seval]
theorem ok_ranges_Not_1 : codeOK Try.prog T07 Try.f43.ntmps (Try.f43.body.getD .skip) = true := by kernel_rfl
theorem c_rNot1 (x y : Bool) : CallA Try.prog 43 [.bool x, .bool y] (· = .bool (!x)) := by
  refine callA_of_body T07_ok mixed Try.func43 rfl (Nat.le_of_ble_eq_true rfl) ok_ranges_Not_1 ?_
  unfold Try.f43
  cases x <;> simp -implicitDefEqProofs (maxSteps := 600000) (disch := (first | omega | decide)) only [go_sem, ↓reduceIte, seval]
noncomputable def S8w : Tab := T07.add 42 (entry (fun (v : Bool × Bool) => [.bool v.1, .bool v.2]) (fun v => True) (fun v => .bool (v.1 || v.2)))
theorem S8w_ok : TabOK Try.prog S8w := T07_ok.add (callable_of Try.func42 (by kernel_rfl) (by kernel_rfl)) (entry_ok fun v h => c_rUnion1 v.1 v.2)
@[go_sem] theorem S8w_old {g : FuncId} {xs : List A} (h : g ≠ 42) : S8w.f g xs = T07.f g xs := Tab.add_ne h
theorem S8w_ranges_Union_1 (v : Bool × Bool) (h : True) : S8w.f 42 [.bool v.1, .bool v.2] = some (.bool (v.1 || v.2)) :=
  (Tab.add_eq : S8w.f 42 [.bool v.1, .bool v.2] = (entry (fun (v : Bool × Bool) => [.bool v.1, .bool v.2]) (fun v => True) (fun v => .bool (v.1 || v.2))) [.bool v.1, .bool v.2]).trans (entry_eq (fun i j h => by first | (cases i; cases j; rfl; done) | simpa [Prod.ext_iff, and_assoc] using h | (simp at h; omega)) v h)
noncomputable def S8x : Tab := S8w.add 41 (entry (fun (v : Bool × Bool) => [.bool v.1, .bool v.2]) (fun v => True) (fun v => .bool (v.1 && v.2)))
theorem S8x_ok : TabOK Try.prog S8x := S8w_ok.add (callable_of Try.func41 (by kernel_rfl) (by kernel_rfl)) (entry_ok fun v h => c_rMeet1 v.1 v.2)
@[go_sem] theorem S8x_old {g : FuncId} {xs : List A} (h : g ≠ 41) : S8x.f g xs = S8w.f g xs := Tab.add_ne h
theorem S8x_ranges_Meet_1 (v : Bool × Bool) (h : True) : S8x.f 41 [.bool v.1, .bool v.2] = some (.bool (v.1 && v.2)) :=
  (Tab.add_eq : S8x.f 41 [.bool v.1, .bool v.2] = (entry (fun (v : Bool × Bool) => [.bool v.1, .bool v.2]) (fun v => True) (fun v => .bool (v.1 && v.2))) [.bool v.1, .bool v.2]).trans (entry_eq (fun i j h => by first | (cases i; cases j; rfl; done) | simpa [Prod.ext_iff, and_assoc] using h | (simp at h; omega)) v h)
noncomputable def S8y : Tab := S8x
theorem S8y_ok : TabOK Try.prog S8y := S8x_ok
@[go_sem] theorem S8y_old {g : FuncId} {xs : List A} : S8y.f g xs = S8x.f g xs := rfl
noncomputable def S8z : Tab := S8y.add 43 (entry (fun (v : Bool × Bool) => [.bool v.1, .bool v.2]) (fun v => True) (fun v => .bool (!v.1)))
theorem S8z_ok : TabOK Try.prog S8z := S8y_ok.add (callable_of Try.func43 (by kernel_rfl) (by kernel_rfl)) (entry_ok fun v h => c_rNot1 v.1 v.2)
@[go_sem] theorem S8z_old {g : FuncId} {xs : List A} (h : g ≠ 43) : S8z.f g xs = S8y.f g xs := Tab.add_ne h
theorem S8z_ranges_Not_1 (v : Bool × Bool) (h : True) : S8z.f 43 [.bool v.1, .bool v.2] = some (.bool (!v.1)) :=
  (Tab.add_eq : S8z.f 43 [.bool v.1, .bool v.2] = (entry (fun (v : Bool × Bool) => [.bool v.1, .bool v.2]) (fun v => True) (fun v => .bool (!v.1))) [.bool v.1, .bool v.2]).trans (entry_eq (fun i j h => by first | (cases i; cases j; rfl; done) | simpa [Prod.ext_iff, and_assoc] using h | (simp at h; omega)) v h)
def isOpR (g : FuncId) : Bool := false || g == 42 || g == 41 || g == 43
def kpR (g : FuncId) : Bool → Bool → Bool := if g = 42 then (· || ·) else if g = 41 then (· && ·) else fun x _ => !x
theorem kpR_z {g : FuncId} (h : isOpR g = true) (x y : Bool) : S8z.f g [.bool x, .bool y] = some (.bool (kpR g x y)) := by
  by_cases e1 : g = 42
  · subst e1
    have h1 := S8w_ranges_Union_1 (x, y) trivial
    show S8z.f _ _ = some (.bool (x || y))
    simp -implicitDefEqProofs (maxSteps := 600000) (disch := (first | omega | decide)) only [go_sem, ↓reduceIte, seval, h1]
  by_cases e2 : g = 41
  · subst e2
    have h1 := S8x_ranges_Meet_1 (x, y) trivial
    show S8z.f _ _ = some (.bool (x && y))
    simp -implicitDefEqProofs (maxSteps := 600000) (disch := (first | omega | decide)) only [go_sem, ↓reduceIte, seval, h1]
  by_cases e4 : g = 43
  · subst e4
    have h1 := S8z_ranges_Not_1 (x, y) trivial
    show S8z.f _ _ = some (.bool (!x))
    simp -implicitDefEqProofs (maxSteps := 600000) (disch := (first | omega | decide)) only [go_sem, ↓reduceIte, seval, h1]
  exfalso
  simp_all [isOpR]
end Go.Proofs.Ytmaipoimiiaofaa
namespace Go.Proofs.Ytmaipoimiiaofaa
open Go.Abs
set_option linter.unusedSimpArgs false
set_option linter.unusedVariables false
set_option maxRecDepth 20000
set_option maxHeartbeats 8000000
theorem setS_len (l : List Rng) : (setS (hasRs l)).length ≤ l.length := by
  rw [← srtR_all, List.length_reverse]
  have h1 := foldS_len (srtR l) []
  have h2 := (srtR_perm l).length_eq
  have h3 := List.length_filter_le rightR l
  rw [List.length_nil] at h1
  omega
theorem setS_ok (p : List UInt8 → Bool) : okL (setS p) := fun r hr => rng_ok17 ((rightRs_can.1 (setS_right p)).1 r hr)
noncomputable def S8a : Tab := S8z.add 60 (entry (fun (l : List Rng) => [.slc (l.map Rng.enc)]) (fun l => l.length ≤ 1000000 ∧ okL l) (fun l => .slc ((setS (hasRs l)).map Rng.enc)))
theorem S8a_ok : TabOK Try.prog S8a := S8z_ok.add (callable_of Try.func60 (by kernel_rfl) (by kernel_rfl)) (entry_ok fun l h => c_ranges_Of l h.1 h.2)
@[go_sem] theorem S8a_old {g : FuncId} {xs : List A} (h : g ≠ 60) : S8a.f g xs = S8z.f g xs := Tab.add_ne h
theorem S8a_ranges_Of (l : List Rng) (h : l.length ≤ 1000000 ∧ okL l) : S8a.f 60 [.slc (l.map Rng.enc)] = some (.slc ((setS (hasRs l)).map Rng.enc)) :=
  (Tab.add_eq : S8a.f 60 [.slc (l.map Rng.enc)] = (entry (fun (l : List Rng) => [.slc (l.map Rng.enc)]) (fun l => l.length ≤ 1000000 ∧ okL l) (fun l => .slc ((setS (hasRs l)).map Rng.enc))) [.slc (l.map Rng.enc)]).trans (entry_eq (fun i j h => by first | (cases i; cases j; rfl; done) | simpa [Prod.ext_iff, and_assoc] using h | (simp at h; omega)) l h)
noncomputable def S8b : Tab := S8a.add 59 (entry (fun (l : List Rng) => [.slc (l.map Rng.enc)]) (fun l => l.length ≤ 1000000 ∧ okL l) (fun l => .bool (rightRs l)))
theorem S8b_ok : TabOK Try.prog S8b := S8a_ok.add (callable_of Try.func59 (by kernel_rfl) (by kernel_rfl)) (entry_ok fun l h => c_ranges_Right l (by omega) h.2)
@[go_sem] theorem S8b_old {g : FuncId} {xs : List A} (h : g ≠ 59) : S8b.f g xs = S8a.f g xs := Tab.add_ne h
@[go_sem] theorem S8b_eff {g : FuncId} : S8b.eff g = false := rfl
@[go_sem] theorem S8b_ords {n : Nat} : S8b.ords n = [] := rfl
theorem S8b_ranges_Right (l : List Rng) (h : l.length ≤ 1000000 ∧ okL l) : S8b.f 59 [.slc (l.map Rng.enc)] = some (.bool (rightRs l)) :=
  (Tab.add_eq : S8b.f 59 [.slc (l.map Rng.enc)] = (entry (fun (l : List Rng) => [.slc (l.map Rng.enc)]) (fun l => l.length ≤ 1000000 ∧ okL l) (fun l => .bool (rightRs l))) [.slc (l.map Rng.enc)]).trans (entry_eq (fun i j h => by first | (cases i; cases j; rfl; done) | simpa [Prod.ext_iff, and_assoc] using h | (simp at h; omega)) l h)
theorem s_ranges_Of {l : List Rng} (h : l.length ≤ 1000000) (h1 : okL l) : S8a.f 60 [.slc (l.map Rng.enc)] = some (.slc ((setS (hasRs l)).map Rng.enc)) := S8a_ranges_Of l ⟨h, h1⟩
theorem s_ranges_Right {l : List Rng} (h : l.length ≤ 1000000) (h1 : okL l) : S8b.f 59 [.slc (l.map Rng.enc)] = some (.bool (rightRs l)) := S8b_ranges_Right l ⟨h, h1⟩
theorem ok_ranges_right : codeOK Try.prog S8b Try.f55.ntmps (Try.f55.body.getD .skip) = true := by kernel_rfl
theorem c_ranges_right (l : List Rng) (h : l.length ≤ 1000000) (h1 : okL l) : CallA Try.prog 55 [.slc (l.map Rng.enc)] (· = .slc ((setS (hasRs l)).map Rng.enc)) := by
  refine callA_of_body S8b_ok mixed Try.func55 rfl (Nat.le_of_ble_eq_true rfl) ok_ranges_right ?_
  unfold Try.f55
  have e1 := s_ranges_Of h h1
  have e2 := s_ranges_Right h h1
  cases hr : rightRs l with
  | true =>
    rw [hr] at e2
    simp -implicitDefEqProofs (maxSteps := 600000) (disch := (first | omega | decide)) only [go_sem, ↓reduceIte, seval, e2, List.length_map]
    rw [setS_self hr]
  | false =>
    rw [hr] at e2
    simp -implicitDefEqProofs (maxSteps := 600000) (disch := (first | omega | decide)) only [go_sem, ↓reduceIte, seval, e1, e2, List.length_map]
noncomputable def S8c : Tab := S8b.add 55 (entry (fun (l : List Rng) => [.slc (l.map Rng.enc)]) (fun l => l.length ≤ 1000000 ∧ okL l) (fun l => .slc ((setS (hasRs l)).map Rng.enc)))
theorem S8c_ok : TabOK Try.prog S8c := S8b_ok.add (callable_of Try.func55 (by kernel_rfl) (by kernel_rfl)) (entry_ok fun l h => c_ranges_right l h.1 h.2)
@[go_sem] theorem S8c_old {g : FuncId} {xs : List A} (h : g ≠ 55) : S8c.f g xs = S8b.f g xs := Tab.add_ne h
theorem S8c_ranges_right (l : List Rng) (h : l.length ≤ 1000000 ∧ okL l) : S8c.f 55 [.slc (l.map Rng.enc)] = some (.slc ((setS (hasRs l)).map Rng.enc)) :=
  (Tab.add_eq : S8c.f 55 [.slc (l.map Rng.enc)] = (entry (fun (l : List Rng) => [.slc (l.map Rng.enc)]) (fun l => l.length ≤ 1000000 ∧ okL l) (fun l => .slc ((setS (hasRs l)).map Rng.enc))) [.slc (l.map Rng.enc)]).trans (entry_eq (fun i j h => by first | (cases i; cases j; rfl; done) | simpa [Prod.ext_iff, and_assoc] using h | (simp at h; omega)) l h)
theorem s_ranges_right {l : List Rng} (h : l.length ≤ 1000000) (h1 : okL l) : S8c.f 55 [.slc (l.map Rng.enc)] = some (.slc ((setS (hasRs l)).map Rng.enc)) := S8c_ranges_right l ⟨h, h1⟩
noncomputable def S8d : Tab := S8c.add 56 (entry (fun (v : List Rng × List Rng) => [.slc (v.1.map Rng.enc), .slc (v.2.map Rng.enc)]) (fun v => v.1.length ≤ 1000000 ∧ v.2.length ≤ 1000000 ∧ (∀ r ∈ v.1, rightR r = true) ∧ (∀ r ∈ v.2, rightR r = true)) (fun v => .slc ((edgesT v.1 v.2).map .str)))
theorem S8d_ok : TabOK Try.prog S8d := S8c_ok.add (callable_of Try.func56 (by kernel_rfl) (by kernel_rfl)) (entry_ok fun v h => c_ranges_edges v.1 v.2 h.1 h.2.1 h.2.2.1 h.2.2.2)
@[go_sem] theorem S8d_old {g : FuncId} {xs : List A} (h : g ≠ 56) : S8d.f g xs = S8c.f g xs := Tab.add_ne h
@[go_sem] theorem S8d_eff {g : FuncId} : S8d.eff g = false := rfl
@[go_sem] theorem S8d_effT : S8d.effT = false := rfl
@[go_sem] theorem S8d_fix {n : Nat} : S8d.fix n = false := rfl
@[go_sem] theorem S8d_ords {n : Nat} : S8d.ords n = [] := rfl
theorem S8d_ranges_edges (v : List Rng × List Rng) (h : v.1.length ≤ 1000000 ∧ v.2.length ≤ 1000000 ∧ (∀ r ∈ v.1, rightR r = true) ∧ (∀ r ∈ v.2, rightR r = true)) : S8d.f 56 [.slc (v.1.map Rng.enc), .slc (v.2.map Rng.enc)] = some (.slc ((edgesT v.1 v.2).map .str)) :=
  (Tab.add_eq : S8d.f 56 [.slc (v.1.map Rng.enc), .slc (v.2.map Rng.enc)] = (entry (fun (v : List Rng × List Rng) => [.slc (v.1.map Rng.enc), .slc (v.2.map Rng.enc)]) (fun v => v.1.length ≤ 1000000 ∧ v.2.length ≤ 1000000 ∧ (∀ r ∈ v.1, rightR r = true) ∧ (∀ r ∈ v.2, rightR r = true)) (fun v => .slc ((edgesT v.1 v.2).map .str))) [.slc (v.1.map Rng.enc), .slc (v.2.map Rng.enc)]).trans (entry_eq (fun i j h => by first | (cases i; cases j; rfl; done) | simpa [Prod.ext_iff, and_assoc] using h | (simp at h; omega)) v h)
theorem s_ranges_edges {a b : List Rng} (ha : a.length ≤ 1000000) (hb : b.length ≤ 1000000) (ra : ∀ r ∈ a, rightR r = true) (rb : ∀ r ∈ b, rightR r = true) : S8d.f 56 [.slc (a.map Rng.enc), .slc (b.map Rng.enc)] = some (.slc ((edgesT a b).map .str)) := S8d_ranges_edges (a, b) ⟨ha, hb, ra, rb⟩
section
variable {a b : List Rng} (ra : ∀ r ∈ a, rightR r = true) (rb : ∀ r ∈ b, rightR r = true)
include ra rb
theorem raw17 : ∀ s ∈ rawE [[]] (a ++ b), s.length ≤ 17 := fun s hs => by
  rcases (rawE_mem _ _ _).1 hs with h | ⟨r, hr, h⟩
  · simp at h; subst h; simp
  · have hrr : rightR r = true := by
      rcases List.mem_append.1 hr with hr | hr
      · exact ra r hr
      · exact rb r hr
    obtain ⟨k1, k2, _, _⟩ := right_parts hrr
    rcases h with rfl | ⟨_, rfl⟩
    · exact k1
    · exact k2
theorem edgesT_mem (x : List UInt8) : x ∈ edgesT a b ↔ x ∈ rawE [[]] (a ++ b) := by
  unfold edgesT
  rw [compL_mem]
  exact (sortT_spec (raw17 ra rb)).1.mem_iff
theorem edgesT_up : (edgesT a b).Pairwise (fun x y => ltB x y = true) := comp_up (sortT_spec (raw17 ra rb)).2
theorem edgesT_nil : [] ∈ edgesT a b := (edgesT_mem ra rb []).2 ((rawE_mem _ _ _).2 (.inl (by simp)))
theorem edgesT_17 : ∀ e ∈ edgesT a b, e.length ≤ 17 := fun e he => raw17 ra rb e ((edgesT_mem ra rb e).1 he)
theorem edgesT_all : ∀ r ∈ a ++ b, r.lo ∈ edgesT a b ∧ (r.op = false → r.hi ∈ edgesT a b) := fun r hr => ⟨(edgesT_mem ra rb _).2 ((rawE_mem _ _ _).2 (.inr ⟨r, hr, .inl rfl⟩)), fun ho => (edgesT_mem ra rb _).2 ((rawE_mem _ _ _).2 (.inr ⟨r, hr, .inr ⟨ho, rfl⟩⟩))⟩
theorem edgesT_len : (edgesT a b).length ≤ 1 + 2 * (a.length + b.length) := by
  have h1 := (sortT_spec (raw17 ra rb)).1.length_eq
  have h2 := (rawE_len (a ++ b) [[]]).2
  have h3 := compL_len (sortT (rawE [[]] (a ++ b)))
  rw [List.length_append, List.length_singleton] at h2
  unfold edgesT; omega
end
theorem findS_mono {l : List Rng} (h : rightRs l = true) {s t : List UInt8} (hst : ltB s t = true) : findS l s ≤ findS l t := by
  rcases Nat.lt_or_ge (findS l t) (findS l s) with hlt | hge
  · exfalso
    have hle := findS_le l s
    have h1 := findS_at l t (by omega)
    have h2 := findS_lt l s (findS l t) (by omega) hlt
    rw [h2.1, Bool.false_or] at h1
    have := lt_trans' hst h1
    rw [h2.2] at this; cases this
  · exact hge
theorem findS_here {l : List Rng} (h : rightRs l = true) (ok : okL l) (s : List UInt8) : ∃ lo hi op, (lo.length ≤ 9223372036854775807 ∧ hi.length ≤ 9223372036854775807) ∧
    ((((findS l s : Nat) : Int) < (l.length : Int) ∧ (l.map Rng.enc)[findS l s]? = some (.agg [.str lo, .str hi, .bool op]) ∧ ((op = true ∧ ((0 : Int) == 0) = true) ∨ (op = false ∧ ltB s hi = true)) ∧ hasRs l s = !ltB s lo) ∨
     (¬ ((findS l s : Nat) : Int) < (l.length : Int) ∧ (l.map Rng.enc)[findS l s]? = none ∧ hasRs l s = false)) := by
  have hf := find_has h s
  by_cases hlt : findS l s < l.length
  · rw [dif_pos hlt] at hf
    have hat := findS_at l s hlt
    have okx := okL_get ok hlt
    have e := rng_get hlt
    generalize l[findS l s] = x at *
    obtain ⟨lo, hi, op⟩ := x
    refine ⟨lo, hi, op, okx, .inl ⟨by omega, e, ?_, hf⟩⟩
    cases op with
    | true => exact .inl ⟨rfl, rfl⟩
    | false => exact .inr ⟨rfl, by simpa using hat⟩
  · rw [dif_neg hlt] at hf
    exact ⟨[], [], true, by simp, .inr ⟨by omega, by simp; omega, hf⟩⟩
theorem ok_ranges_sweep : codeOK Try.prog S8d Try.f40.ntmps (Try.f40.body.getD .skip) = true := by kernel_rfl
theorem c_rsweep (a b : List Rng) (g : FuncId) (kp : Bool → Bool → Bool) (hg : ∀ x y, S8d.f g [.bool x, .bool y] = some (.bool (kp x y))) (ha : a.length ≤ 100000) (hb : b.length ≤ 100000) (oka : okL a) (okb : okL b) :
    CallA Try.prog 40 [.slc (a.map Rng.enc), .slc (b.map Rng.enc), .fn g []] (· = .slc ((setS fun s => kp (hasRs a s) (hasRs b s)).map Rng.enc)) := by
  refine callA_of_body S8d_ok mixed Try.func40 rfl (Nat.le_of_ble_eq_true rfl) ok_ranges_sweep ?_
  unfold Try.f40
  have hfin : (fun s => kp (hasRs a s) (hasRs b s)) = fun s => kp (hasRs (setS (hasRs a)) s) (hasRs (setS (hasRs b)) s) := by funext s; rw [has_setS, has_setS]
  rw [hfin]
  have e1 := s_ranges_right (l := a) (by omega) oka
  have e2 := s_ranges_right (l := b) (by omega) okb
  have lu := setS_len a
  have lv := setS_len b
  have ru := setS_right (hasRs a)
  have rv := setS_right (hasRs b)
  have ou := setS_ok (hasRs a)
  have ov := setS_ok (hasRs b)
  generalize setS (hasRs a) = u at *
  generalize setS (hasRs b) = v at *
  have ru' := (rightRs_can.1 ru).1
  have rv' := (rightRs_can.1 rv).1
  have e3 := s_ranges_edges (a := u) (b := v) (by omega) (by omega) ru' rv'
  have hset := (mk_of (kp := kp) (a := u) (b := v) (edgesT_up ru' rv') (edgesT_nil ru' rv') (edgesT_17 ru' rv') (fun r hr _ => edgesT_all ru' rv' r (by simp [hr])) (fun r hr _ => edgesT_all ru' rv' r (by simp [hr]))).1
  have hup := edgesT_up ru' rv'
  have h17 := edgesT_17 ru' rv'
  have hel := edgesT_len ru' rv'
  simp -implicitDefEqProofs (maxSteps := 600000) (disch := (first | omega | decide)) only [go_sem, ↓reduceIte, seval, e1, e2, e3, List.length_map]
  rw [← hset]
  generalize edgesT u v = e at *
  clear e1 e2 e3 hset hfin
  refine wpA_loop_nil 8 3 rfl ?_
  refine wpA_loop [0, 1, 2, 6, 22, 23] (ι := {p : Nat × Nat × Nat // p.1 ≤ e.length ∧ ∀ s ∈ e.drop p.1, p.2.1 ≤ findS u s ∧ p.2.2 ≤ findS v s}) (fun p => [(24, .int .i64 p.1.1), (10, .int .i64 p.1.2.1), (11, .int .i64 p.1.2.2), (9, .bool (mkS (fun s => kp (hasRs u s) (hasRs v s)) (e.take p.1.1)).2), (8, .row 0 0 3 (mkS (fun s => kp (hasRs u s) (hasRs v s)) (e.take p.1.1)).1.length false)]) (fun p => [(0, .row 3 (rowS (mkS (fun s => kp (hasRs u s) (hasRs v s)) (e.take p.1.1)).1))]) (fun p => e.length - p.1.1) ⟨(0, 0, 0), Nat.zero_le _, fun s _ => ⟨Nat.zero_le _, Nat.zero_le _⟩⟩ (Nat.zero_le _) ?_ ?_
  · simp -implicitDefEqProofs (maxSteps := 600000) (disch := (first | omega | decide)) only [go_sem, ↓reduceIte, seval, List.take_zero]
    simp [mkS, rowS]
  · rintro ⟨⟨k, i, j⟩, hk, hij⟩
    simp only at hk hij ⊢
    have hlen := mkS_len (fun s => kp (hasRs u s) (hasRs v s)) (e.take k) ([], false)
    have hwas := mkS_was (fun s => kp (hasRs u s) (hasRs v s)) (e.take k) ([], false) (by simp)
    have hml : (mkS (fun s => kp (hasRs u s) (hasRs v s)) (e.take k)).1.length ≤ k := by
      have : (mkS (fun s => kp (hasRs u s) (hasRs v s)) (e.take k)).1.length ≤ 0 + (e.take k).length := hlen
      rw [List.length_take] at this; omega
    have hwas' : (mkS (fun s => kp (hasRs u s) (hasRs v s)) (e.take k)).2 = true → (mkS (fun s => kp (hasRs u s) (hasRs v s)) (e.take k)).1 ≠ [] := hwas
    clear hlen hwas
    by_cases hlt : k < e.length
    · have hlt' : (k : Int) < (e.length : Int) := by omega
      have es := str_get hlt
      have hs17 := h17 _ (List.getElem_mem hlt)
      have hst := mkS_step (fun s => kp (hasRs u s) (hasRs v s)) e k hlt
      have hd : e.drop k = e[k] :: e.drop (k + 1) := List.drop_eq_getElem_cons hlt
      have hi0 := hij e[k] (by rw [hd]; exact List.mem_cons_self)
      have hlater : ∀ s ∈ e.drop (k + 1), findS u e[k] ≤ findS u s ∧ findS v e[k] ≤ findS v s := fun s hs => by
        have hp : (e.drop k).Pairwise (fun x y => ltB x y = true) := hup.sublist (List.drop_sublist _ _)
        rw [hd, List.pairwise_cons] at hp
        exact ⟨findS_mono ru (hp.1 s hs), findS_mono rv (hp.1 s hs)⟩
      have next : ∀ st, mkS (fun s => kp (hasRs u s) (hasRs v s)) (e.take (k + 1)) = st → ∃ q : {p : Nat × Nat × Nat // p.1 ≤ e.length ∧ ∀ s ∈ e.drop p.1, p.2.1 ≤ findS u s ∧ p.2.2 ≤ findS v s}, (((k : Int) + 1 = (q.1.1 : Int) ∧ ((findS u e[k] : Nat) : Int) = (q.1.2.1 : Int) ∧ ((findS v e[k] : Nat) : Int) = (q.1.2.2 : Int) ∧ st.2 = (mkS (fun s => kp (hasRs u s) (hasRs v s)) (e.take q.1.1)).2 ∧ st.1.length = (mkS (fun s => kp (hasRs u s) (hasRs v s)) (e.take q.1.1)).1.length) ∧ rowS st.1 = rowS (mkS (fun s => kp (hasRs u s) (hasRs v s)) (e.take q.1.1)).1) ∧ e.length - q.1.1 < e.length - k := fun st h => ⟨⟨(k + 1, findS u e[k], findS v e[k]), hlt, hlater⟩, ⟨⟨by simp, rfl, rfl, by rw [h], by rw [h]⟩, by rw [h]⟩, by show e.length - (k + 1) < e.length - k; omega⟩
      have nx := next _ hst
      have fu := find_has ru e[k]
      have fv := find_has rv e[k]
      clear next hst hlater hd hij
      generalize mkS (fun s => kp (hasRs u s) (hasRs v s)) (e.take k) = st at *
      simp only [stS] at nx
      generalize e[k] = s at *
      obtain ⟨m, was⟩ := st
      simp only at hml hwas' nx ⊢
      have flu := findS_le u s
      have flv := findS_le v s
      simp -implicitDefEqProofs (maxSteps := 600000) (disch := (first | omega | decide)) only [go_sem, ↓reduceIte, seval, hlt', es, List.length_map]
      refine wpA_loop [0, 1, 2, 6, 13, 22, 23, 24, 9, 8, 11] (ι := {i : Nat // i ≤ findS u s}) (fun p => [(10, .int .i64 p.1)]) (fun _ => []) (fun p => u.length - p.1) ⟨i, hi0.1⟩ (Nat.zero_le _) ?_ ?_
      · simp -implicitDefEqProofs (maxSteps := 600000) (disch := (first | omega | decide)) only [go_sem, ↓reduceIte, seval]
      · rintro ⟨i', hi'⟩
        simp only
        by_cases hiu : i' < findS u s
        · have hiu2 : i' < u.length := by omega
          have hiu' : (i' : Int) < (u.length : Int) := by omega
          have eu := rng_get hiu2
          have oku := okL_get ou hiu2
          obtain ⟨p1, p2⟩ := findS_lt u s i' hiu2 hiu
          generalize hx : u[i'] = x at *
          obtain ⟨lo, hi, op⟩ := x
          simp only at oku p1 p2
          subst p1
          simp -implicitDefEqProofs (maxSteps := 600000) (disch := (first | omega | decide)) only [go_sem, ↓reduceIte, seval, hiu', eu, oku, p2, wrap_i64, List.length_map]
          exact ⟨⟨i' + 1, hiu⟩, by simp, by show u.length - (i' + 1) < u.length - i'; omega⟩
        · have hie : i' = findS u s := by omega
          subst hie
          obtain ⟨lo, hi, op, okU, U⟩ := findS_here ru ou s
          obtain ⟨lo', hi', op', okV, V⟩ := findS_here rv ov s
          rcases U with ⟨hu, gu, ⟨rfl, au⟩ | ⟨rfl, au⟩, xu⟩ | ⟨hu, gu, xu⟩
          all_goals (first | simp -implicitDefEqProofs (maxSteps := 600000) (disch := (first | omega | decide)) only [go_sem, ↓reduceIte, seval, hu, gu, au, okU, List.length_map] | simp -implicitDefEqProofs (maxSteps := 600000) (disch := (first | omega | decide)) only [go_sem, ↓reduceIte, seval, hu, gu, okU, List.length_map])
          all_goals (refine wpA_loop [0, 1, 2, 6, 13, 22, 23, 24, 9, 8, 10] (ι := {i : Nat // i ≤ findS v s}) (fun p => [(11, .int .i64 p.1)]) (fun _ => []) (fun p => v.length - p.1) ⟨j, hi0.2⟩ (Nat.zero_le _) ?_ ?_)
          all_goals first
            | (simp -implicitDefEqProofs (maxSteps := 600000) (disch := (first | omega | decide)) only [go_sem, ↓reduceIte, seval]; done)
            | skip
          all_goals (
            rintro ⟨j', hj'⟩
            simp only
            by_cases hjv : j' < findS v s
            · have hjv2 : j' < v.length := by omega
              have hjv' : (j' : Int) < (v.length : Int) := by omega
              have ev := rng_get hjv2
              have okv := okL_get ov hjv2
              obtain ⟨p1, p2⟩ := findS_lt v s j' hjv2 hjv
              generalize hx : v[j'] = x at *
              obtain ⟨lo2, hi2, op2⟩ := x
              simp only at okv p1 p2
              subst p1
              simp -implicitDefEqProofs (maxSteps := 600000) (disch := (first | omega | decide)) only [go_sem, ↓reduceIte, seval, hjv', ev, okv, p2, wrap_i64, List.length_map]
              exact ⟨⟨j' + 1, hjv⟩, by simp, by show v.length - (j' + 1) < v.length - j'; omega⟩
            · have hje : j' = findS v s := by omega
              subst hje
              rcases V with ⟨hv, gv, ⟨rfl, av⟩ | ⟨rfl, av⟩, xv⟩ | ⟨hv, gv, xv⟩
              all_goals (
                cases hP : kp (hasRs u s) (hasRs v s) <;> rw [hP] at nx <;> rw [xu, xv] at hP <;> cases was
                · have nx' := nx
                  simp only [Bool.not_false, Bool.not_true, Bool.and_true, Bool.and_false, Bool.false_eq_true, if_false, if_true] at nx'
                  clear nx
                  (first | simp -implicitDefEqProofs (maxSteps := 600000) (disch := (first | omega | decide)) only [go_sem, ↓reduceIte, seval, hu, gu, au, okU, hv, gv, av, okV, hg, hP, wrap_i64, List.length_map] | simp -implicitDefEqProofs (maxSteps := 600000) (disch := (first | omega | decide)) only [go_sem, ↓reduceIte, seval, hu, gu, au, okU, hv, gv, okV, hg, hP, wrap_i64, List.length_map] | simp -implicitDefEqProofs (maxSteps := 600000) (disch := (first | omega | decide)) only [go_sem, ↓reduceIte, seval, hu, gu, okU, hv, gv, av, okV, hg, hP, wrap_i64, List.length_map] | simp -implicitDefEqProofs (maxSteps := 600000) (disch := (first | omega | decide)) only [go_sem, ↓reduceIte, seval, hu, gu, okU, hv, gv, okV, hg, hP, wrap_i64, List.length_map])
                  exact nx'
                · cases m with
                  | nil => exact absurd rfl (hwas' rfl)
                  | cons qq qs =>
                    have hq : qs.length + 1 ≤ k := hml
                    have c1 : (((qs.length + 1 : Nat) : Int) - 1).toNat = qs.length := by omega
                    have c2 : (0 : Int) ≤ ((qs.length + 1 : Nat) : Int) - 1 := by omega
                    have c3 : ((qs.length + 1 : Nat) : Int) - 1 < ((qs.length + 1 : Nat) : Int) := by omega
                    have nx' := nx
                    simp only [Bool.not_false, Bool.not_true, Bool.and_true, Bool.and_false, Bool.and_self, Bool.false_and, Bool.false_eq_true, if_false, if_true, rowS_cons, List.length_cons] at nx'
                    clear nx
                    rw [rowS_cons]
                    (first | simp -implicitDefEqProofs (maxSteps := 600000) (disch := (first | omega | decide)) only [go_sem, ↓reduceIte, seval, hu, gu, au, okU, hv, gv, av, okV, hg, hP, c1, c2, c3, rowS_get', rowS_set, wrap_i64, List.length_map] | simp -implicitDefEqProofs (maxSteps := 600000) (disch := (first | omega | decide)) only [go_sem, ↓reduceIte, seval, hu, gu, au, okU, hv, gv, okV, hg, hP, c1, c2, c3, rowS_get', rowS_set, wrap_i64, List.length_map] | simp -implicitDefEqProofs (maxSteps := 600000) (disch := (first | omega | decide)) only [go_sem, ↓reduceIte, seval, hu, gu, okU, hv, gv, av, okV, hg, hP, c1, c2, c3, rowS_get', rowS_set, wrap_i64, List.length_map] | simp -implicitDefEqProofs (maxSteps := 600000) (disch := (first | omega | decide)) only [go_sem, ↓reduceIte, seval, hu, gu, okU, hv, gv, okV, hg, hP, c1, c2, c3, rowS_get', rowS_set, wrap_i64, List.length_map])
                    exact nx'
                · have nx' := nx
                  simp only [Bool.not_false, Bool.not_true, Bool.and_true, Bool.and_false, Bool.and_self, Bool.false_eq_true, if_false, if_true, rowS_cons, List.length_cons] at nx'
                  clear nx
                  have tk : (rowS m).take m.length = rowS m := List.take_of_length_le (Nat.le_of_eq (rowS_len m))
                  have rl := rowS_len m
                  (first | simp -implicitDefEqProofs (maxSteps := 600000) (disch := (first | omega | decide)) only [go_sem, ↓reduceIte, seval, hu, gu, au, okU, hv, gv, av, okV, hg, hP, tk, rl, wrap_i64, List.length_map] | simp -implicitDefEqProofs (maxSteps := 600000) (disch := (first | omega | decide)) only [go_sem, ↓reduceIte, seval, hu, gu, au, okU, hv, gv, okV, hg, hP, tk, rl, wrap_i64, List.length_map] | simp -implicitDefEqProofs (maxSteps := 600000) (disch := (first | omega | decide)) only [go_sem, ↓reduceIte, seval, hu, gu, okU, hv, gv, av, okV, hg, hP, tk, rl, wrap_i64, List.length_map] | simp -implicitDefEqProofs (maxSteps := 600000) (disch := (first | omega | decide)) only [go_sem, ↓reduceIte, seval, hu, gu, okU, hv, gv, okV, hg, hP, tk, rl, wrap_i64, List.length_map])
                  exact ⟨⟨Nat.le_refl _, by omega⟩, nx'⟩
                · have nx' := nx
                  simp only [Bool.not_false, Bool.not_true, Bool.and_true, Bool.and_false, Bool.false_and, Bool.false_eq_true, if_false, if_true] at nx'
                  clear nx
                  (first | simp -implicitDefEqProofs (maxSteps := 600000) (disch := (first | omega | decide)) only [go_sem, ↓reduceIte, seval, hu, gu, au, okU, hv, gv, av, okV, hg, hP, wrap_i64, List.length_map] | simp -implicitDefEqProofs (maxSteps := 600000) (disch := (first | omega | decide)) only [go_sem, ↓reduceIte, seval, hu, gu, au, okU, hv, gv, okV, hg, hP, wrap_i64, List.length_map] | simp -implicitDefEqProofs (maxSteps := 600000) (disch := (first | omega | decide)) only [go_sem, ↓reduceIte, seval, hu, gu, okU, hv, gv, av, okV, hg, hP, wrap_i64, List.length_map] | simp -implicitDefEqProofs (maxSteps := 600000) (disch := (first | omega | decide)) only [go_sem, ↓reduceIte, seval, hu, gu, okU, hv, gv, okV, hg, hP, wrap_i64, List.length_map])
                  exact nx'))
    · have hlt' : ¬ (k : Int) < (e.length : Int) := by omega
      rw [List.take_of_length_le (by omega)] at *
      have hll : (mkS (fun s => kp (hasRs u s) (hasRs v s)) e).1.length = (rowS (mkS (fun s => kp (hasRs u s) (hasRs v s)) e).1).length := by rw [rowS_len]
      simp -implicitDefEqProofs (maxSteps := 600000) (disch := (first | omega | decide)) only [go_sem, ↓reduceIte, seval, hlt', wrap_i64, hll, List.length_map, List.take_length]
      exact ⟨Nat.le_refl _, rfl⟩
end Go.Proofs.Ytmaipoimiiaofaa
namespace Go.Proofs.Ytmaipoimiiaofaa
open Go.Abs
set_option linter.unusedSimpArgs false
set_option linter.unusedVariables false
set_option linter.unusedSectionVars false
set_option maxRecDepth 20000
set_option maxHeartbeats 8000000
theorem kpR_d {g : FuncId} (h : isOpR g = true) (x y : Bool) : S8d.f g [.bool x, .bool y] = some (.bool (kpR g x y)) := by
  have hz := kpR_z h x y
  have ne : ∀ f : FuncId, isOpR f = false → g ≠ f := fun f hf e => by rw [e, hf] at h; cases h
  rw [S8d_old, S8c_old, S8b_old, S8a_old]
  all_goals first
    | exact hz
    | exact ne _ rfl
noncomputable def S8e : Tab := S8d.add 40 (entry (fun (v : List Rng × List Rng × FuncId) => [.slc (v.1.map Rng.enc), .slc (v.2.1.map Rng.enc), .fn v.2.2 []]) (fun v => v.1.length ≤ 100000 ∧ v.2.1.length ≤ 100000 ∧ okL v.1 ∧ okL v.2.1 ∧ isOpR v.2.2 = true) (fun v => .slc ((setS fun s => kpR v.2.2 (hasRs v.1 s) (hasRs v.2.1 s)).map Rng.enc)))
theorem S8e_ok : TabOK Try.prog S8e := S8d_ok.add (callable_of Try.func40 (by kernel_rfl) (by kernel_rfl)) (entry_ok fun v h => c_rsweep v.1 v.2.1 v.2.2 (kpR v.2.2) (kpR_d h.2.2.2.2) h.1 h.2.1 h.2.2.1 h.2.2.2.1)
@[go_sem] theorem S8e_eff {g : FuncId} : S8e.eff g = false := rfl
@[go_sem] theorem S8e_ords {n : Nat} : S8e.ords n = [] := rfl
theorem S8e_ranges_sweep (v : List Rng × List Rng × FuncId) (h : v.1.length ≤ 100000 ∧ v.2.1.length ≤ 100000 ∧ okL v.1 ∧ okL v.2.1 ∧ isOpR v.2.2 = true) : S8e.f 40 [.slc (v.1.map Rng.enc), .slc (v.2.1.map Rng.enc), .fn v.2.2 []] = some (.slc ((setS fun s => kpR v.2.2 (hasRs v.1 s) (hasRs v.2.1 s)).map Rng.enc)) :=
  (Tab.add_eq : S8e.f 40 [.slc (v.1.map Rng.enc), .slc (v.2.1.map Rng.enc), .fn v.2.2 []] = (entry (fun (v : List Rng × List Rng × FuncId) => [.slc (v.1.map Rng.enc), .slc (v.2.1.map Rng.enc), .fn v.2.2 []]) (fun v => v.1.length ≤ 100000 ∧ v.2.1.length ≤ 100000 ∧ okL v.1 ∧ okL v.2.1 ∧ isOpR v.2.2 = true) (fun v => .slc ((setS fun s => kpR v.2.2 (hasRs v.1 s) (hasRs v.2.1 s)).map Rng.enc))) [.slc (v.1.map Rng.enc), .slc (v.2.1.map Rng.enc), .fn v.2.2 []]).trans (entry_eq (fun i j h => by first | (cases i; cases j; rfl; done) | simpa [Prod.ext_iff, and_assoc] using h | (simp at h; omega)) v h)
section
variable {a b : List Rng} (ha : a.length ≤ 100000) (hb : b.length ≤ 100000) (oa : okL a) (ob : okL b)
include ha hb oa ob
theorem s_sweepU : S8e.f 40 [.slc (a.map Rng.enc), .slc (b.map Rng.enc), .fn 42 []] = some (.slc ((setS fun s => hasRs a s || hasRs b s).map Rng.enc)) := S8e_ranges_sweep (a, b, _) ⟨ha, hb, oa, ob, rfl⟩
theorem s_sweepM : S8e.f 40 [.slc (a.map Rng.enc), .slc (b.map Rng.enc), .fn 41 []] = some (.slc ((setS fun s => hasRs a s && hasRs b s).map Rng.enc)) := S8e_ranges_sweep (a, b, _) ⟨ha, hb, oa, ob, rfl⟩
end
theorem okL_nil : okL [] := fun _ h => by cases h
theorem s_sweepN {a : List Rng} (ha : a.length ≤ 100000) (oa : okL a) : S8e.f 40 [.slc (a.map Rng.enc), .slc [], .fn 43 []] = some (.slc ((setS fun s => !hasRs a s).map Rng.enc)) := S8e_ranges_sweep (a, [], _) ⟨ha, by simp, oa, okL_nil, rfl⟩
theorem ok_ranges_Union : codeOK Try.prog S8e Try.f21.ntmps (Try.f21.body.getD .skip) = true := by kernel_rfl
theorem c_ranges_Union (a b : List Rng) (ha : a.length ≤ 100000) (hb : b.length ≤ 100000) (oa : okL a) (ob : okL b) : CallA Try.prog 21 [.slc (a.map Rng.enc), .slc (b.map Rng.enc)] (· = .slc ((setS fun s => hasRs a s || hasRs b s).map Rng.enc)) := by
  refine callA_of_body S8e_ok mixed Try.func21 rfl (Nat.le_of_ble_eq_true rfl) ok_ranges_Union ?_
  unfold Try.f21
  have h := s_sweepU ha hb oa ob
  simp -implicitDefEqProofs (maxSteps := 600000) (disch := (first | omega | decide)) only [go_sem, ↓reduceIte, seval, h, List.length_map]
theorem ok_ranges_Meet : codeOK Try.prog S8e Try.f20.ntmps (Try.f20.body.getD .skip) = true := by kernel_rfl
theorem c_ranges_Meet (a b : List Rng) (ha : a.length ≤ 100000) (hb : b.length ≤ 100000) (oa : okL a) (ob : okL b) : CallA Try.prog 20 [.slc (a.map Rng.enc), .slc (b.map Rng.enc)] (· = .slc ((setS fun s => hasRs a s && hasRs b s).map Rng.enc)) := by
  refine callA_of_body S8e_ok mixed Try.func20 rfl (Nat.le_of_ble_eq_true rfl) ok_ranges_Meet ?_
  unfold Try.f20
  have h := s_sweepM ha hb oa ob
  simp -implicitDefEqProofs (maxSteps := 600000) (disch := (first | omega | decide)) only [go_sem, ↓reduceIte, seval, h, List.length_map]
theorem ok_ranges_Not : codeOK Try.prog S8e Try.f22.ntmps (Try.f22.body.getD .skip) = true := by kernel_rfl
theorem c_ranges_Not (a : List Rng) (ha : a.length ≤ 100000) (oa : okL a) : CallA Try.prog 22 [.slc (a.map Rng.enc)] (· = .slc ((setS fun s => !hasRs a s).map Rng.enc)) := by
  refine callA_of_body S8e_ok mixed Try.func22 rfl (Nat.le_of_ble_eq_true rfl) ok_ranges_Not ?_
  unfold Try.f22
  have h := s_sweepN ha oa
  simp -implicitDefEqProofs (maxSteps := 600000) (disch := (first | omega | decide)) only [go_sem, ↓reduceIte, seval, h, List.length_map]
noncomputable def R0 : Tab := T08d
theorem R0_ok : TabOK Try.prog R0 := T08d_ok
@[go_sem] theorem R0_old {g : FuncId} {xs : List A} : R0.f g xs = T08d.f g xs := rfl
noncomputable def RL0 : Tab := R0.add 60 (entry (fun (l : List Rng) => [.slc (l.map Rng.enc)]) (fun l => l.length ≤ 100000 ∧ okL l) (fun l => .slc ((setS (hasRs l)).map Rng.enc)))
theorem RL0_ok : TabOK Try.prog RL0 := R0_ok.add (callable_of Try.func60 (by kernel_rfl) (by kernel_rfl)) (entry_ok fun l h => c_ranges_Of l (by omega) h.2)
@[go_sem] theorem RL0_old {g : FuncId} {xs : List A} (h : g ≠ 60) : RL0.f g xs = R0.f g xs := Tab.add_ne h
noncomputable def RL1 : Tab := RL0.add 59 (entry (fun (l : List Rng) => [.slc (l.map Rng.enc)]) (fun l => l.length ≤ 100000 ∧ okL l) (fun l => .bool (rightRs l)))
theorem RL1_ok : TabOK Try.prog RL1 := RL0_ok.add (callable_of Try.func59 (by kernel_rfl) (by kernel_rfl)) (entry_ok fun l h => c_ranges_Right l (by omega) h.2)
@[go_sem] theorem RL1_old {g : FuncId} {xs : List A} (h : g ≠ 59) : RL1.f g xs = RL0.f g xs := Tab.add_ne h
noncomputable def RL2 : Tab := RL1
theorem RL2_ok : TabOK Try.prog RL2 := RL1_ok
@[go_sem] theorem RL2_old {g : FuncId} {xs : List A} : RL2.f g xs = RL1.f g xs := rfl
noncomputable def RL3 : Tab := RL2
theorem RL3_ok : TabOK Try.prog RL3 := RL2_ok
@[go_sem] theorem RL3_old {g : FuncId} {xs : List A} : RL3.f g xs = RL2.f g xs := rfl
noncomputable def RL4 : Tab := RL3
theorem RL4_ok : TabOK Try.prog RL4 := RL3_ok
@[go_sem] theorem RL4_old {g : FuncId} {xs : List A} : RL4.f g xs = RL3.f g xs := rfl
noncomputable def RL5 : Tab := RL4.add 14 (entry (fun (v : List Rng × List Rng) => [.slc (v.1.map Rng.enc), .slc (v.2.map Rng.enc)]) (fun v => v.1.length ≤ 100000 ∧ v.2.length ≤ 100000) (fun v => .bool (sameRs v.1 v.2)))
theorem RL5_ok : TabOK Try.prog RL5 := RL4_ok.add (callable_of Try.func14 (by kernel_rfl) (by kernel_rfl)) (entry_ok fun v h => c_ref08_Same v.1 v.2 (by omega) (by omega))
@[go_sem] theorem RL5_old {g : FuncId} {xs : List A} (h : g ≠ 14) : RL5.f g xs = RL4.f g xs := Tab.add_ne h
theorem RL5_ref08_Same (v : List Rng × List Rng) (h : v.1.length ≤ 100000 ∧ v.2.length ≤ 100000) : RL5.f 14 [.slc (v.1.map Rng.enc), .slc (v.2.map Rng.enc)] = some (.bool (sameRs v.1 v.2)) :=
  (Tab.add_eq : RL5.f 14 [.slc (v.1.map Rng.enc), .slc (v.2.map Rng.enc)] = (entry (fun (v : List Rng × List Rng) => [.slc (v.1.map Rng.enc), .slc (v.2.map Rng.enc)]) (fun v => v.1.length ≤ 100000 ∧ v.2.length ≤ 100000) (fun v => .bool (sameRs v.1 v.2))) [.slc (v.1.map Rng.enc), .slc (v.2.map Rng.enc)]).trans (entry_eq (fun i j h => by first | (cases i; cases j; rfl; done) | simpa [Prod.ext_iff, and_assoc] using h | (simp at h; omega)) v h)
@[go_sem] theorem r_ref08_Same {a : List Rng} {b : List Rng} (h : a.length ≤ 100000 ∧ b.length ≤ 100000) : RL5.f 14 [.slc (a.map Rng.enc), .slc (b.map Rng.enc)] = some (.bool (sameRs a b)) := RL5_ref08_Same (a, b) h
noncomputable def RL6 : Tab := RL5
theorem RL6_ok : TabOK Try.prog RL6 := RL5_ok
@[go_sem] theorem RL6_old {g : FuncId} {xs : List A} : RL6.f g xs = RL5.f g xs := rfl
noncomputable def RL7 : Tab := RL6.add 21 (entry (fun (v : List Rng × List Rng) => [.slc (v.1.map Rng.enc), .slc (v.2.map Rng.enc)]) (fun v => v.1.length ≤ 100000 ∧ v.2.length ≤ 100000 ∧ okL v.1 ∧ okL v.2) (fun v => .slc ((setS fun s => hasRs v.1 s || hasRs v.2 s).map Rng.enc)))
theorem RL7_ok : TabOK Try.prog RL7 := RL6_ok.add (callable_of Try.func21 (by kernel_rfl) (by kernel_rfl)) (entry_ok fun v h => c_ranges_Union v.1 v.2 h.1 h.2.1 h.2.2.1 h.2.2.2)
@[go_sem] theorem RL7_old {g : FuncId} {xs : List A} (h : g ≠ 21) : RL7.f g xs = RL6.f g xs := Tab.add_ne h
theorem RL7_ranges_Union (v : List Rng × List Rng) (h : v.1.length ≤ 100000 ∧ v.2.length ≤ 100000 ∧ okL v.1 ∧ okL v.2) : RL7.f 21 [.slc (v.1.map Rng.enc), .slc (v.2.map Rng.enc)] = some (.slc ((setS fun s => hasRs v.1 s || hasRs v.2 s).map Rng.enc)) :=
  (Tab.add_eq : RL7.f 21 [.slc (v.1.map Rng.enc), .slc (v.2.map Rng.enc)] = (entry (fun (v : List Rng × List Rng) => [.slc (v.1.map Rng.enc), .slc (v.2.map Rng.enc)]) (fun v => v.1.length ≤ 100000 ∧ v.2.length ≤ 100000 ∧ okL v.1 ∧ okL v.2) (fun v => .slc ((setS fun s => hasRs v.1 s || hasRs v.2 s).map Rng.enc))) [.slc (v.1.map Rng.enc), .slc (v.2.map Rng.enc)]).trans (entry_eq (fun i j h => by first | (cases i; cases j; rfl; done) | simpa [Prod.ext_iff, and_assoc] using h | (simp at h; omega)) v h)
@[go_sem] theorem r_ranges_Union {a : List Rng} {b : List Rng} (h : a.length ≤ 100000 ∧ b.length ≤ 100000 ∧ okL a ∧ okL b) : RL7.f 21 [.slc (a.map Rng.enc), .slc (b.map Rng.enc)] = some (.slc ((setS fun s => hasRs a s || hasRs b s).map Rng.enc)) := RL7_ranges_Union (a, b) h
noncomputable def RL8 : Tab := RL7.add 20 (entry (fun (v : List Rng × List Rng) => [.slc (v.1.map Rng.enc), .slc (v.2.map Rng.enc)]) (fun v => v.1.length ≤ 100000 ∧ v.2.length ≤ 100000 ∧ okL v.1 ∧ okL v.2) (fun v => .slc ((setS fun s => hasRs v.1 s && hasRs v.2 s).map Rng.enc)))
theorem RL8_ok : TabOK Try.prog RL8 := RL7_ok.add (callable_of Try.func20 (by kernel_rfl) (by kernel_rfl)) (entry_ok fun v h => c_ranges_Meet v.1 v.2 h.1 h.2.1 h.2.2.1 h.2.2.2)
@[go_sem] theorem RL8_old {g : FuncId} {xs : List A} (h : g ≠ 20) : RL8.f g xs = RL7.f g xs := Tab.add_ne h
theorem RL8_ranges_Meet (v : List Rng × List Rng) (h : v.1.length ≤ 100000 ∧ v.2.length ≤ 100000 ∧ okL v.1 ∧ okL v.2) : RL8.f 20 [.slc (v.1.map Rng.enc), .slc (v.2.map Rng.enc)] = some (.slc ((setS fun s => hasRs v.1 s && hasRs v.2 s).map Rng.enc)) :=
  (Tab.add_eq : RL8.f 20 [.slc (v.1.map Rng.enc), .slc (v.2.map Rng.enc)] = (entry (fun (v : List Rng × List Rng) => [.slc (v.1.map Rng.enc), .slc (v.2.map Rng.enc)]) (fun v => v.1.length ≤ 100000 ∧ v.2.length ≤ 100000 ∧ okL v.1 ∧ okL v.2) (fun v => .slc ((setS fun s => hasRs v.1 s && hasRs v.2 s).map Rng.enc))) [.slc (v.1.map Rng.enc), .slc (v.2.map Rng.enc)]).trans (entry_eq (fun i j h => by first | (cases i; cases j; rfl; done) | simpa [Prod.ext_iff, and_assoc] using h | (simp at h; omega)) v h)
@[go_sem] theorem r_ranges_Meet {a : List Rng} {b : List Rng} (h : a.length ≤ 100000 ∧ b.length ≤ 100000 ∧ okL a ∧ okL b) : RL8.f 20 [.slc (a.map Rng.enc), .slc (b.map Rng.enc)] = some (.slc ((setS fun s => hasRs a s && hasRs b s).map Rng.enc)) := RL8_ranges_Meet (a, b) h
noncomputable def RL9 : Tab := RL8
theorem RL9_ok : TabOK Try.prog RL9 := RL8_ok
@[go_sem] theorem RL9_old {g : FuncId} {xs : List A} : RL9.f g xs = RL8.f g xs := rfl
noncomputable def RL10 : Tab := RL9.add 22 (entry (fun (l : List Rng) => [.slc (l.map Rng.enc)]) (fun l => l.length ≤ 100000 ∧ okL l) (fun l => .slc ((setS fun s => !hasRs l s).map Rng.enc)))
theorem RL10_ok : TabOK Try.prog RL10 := RL9_ok.add (callable_of Try.func22 (by kernel_rfl) (by kernel_rfl)) (entry_ok fun l h => c_ranges_Not l h.1 h.2)
@[go_sem] theorem RL10_old {g : FuncId} {xs : List A} (h : g ≠ 22) : RL10.f g xs = RL9.f g xs := Tab.add_ne h
theorem RL10_ranges_Not (l : List Rng) (h : l.length ≤ 100000 ∧ okL l) : RL10.f 22 [.slc (l.map Rng.enc)] = some (.slc ((setS fun s => !hasRs l s).map Rng.enc)) :=
  (Tab.add_eq : RL10.f 22 [.slc (l.map Rng.enc)] = (entry (fun (l : List Rng) => [.slc (l.map Rng.enc)]) (fun l => l.length ≤ 100000 ∧ okL l) (fun l => .slc ((setS fun s => !hasRs l s).map Rng.enc))) [.slc (l.map Rng.enc)]).trans (entry_eq (fun i j h => by first | (cases i; cases j; rfl; done) | simpa [Prod.ext_iff, and_assoc] using h | (simp at h; omega)) l h)
@[go_sem] theorem r_ranges_Not {l : List Rng} (h : l.length ≤ 100000 ∧ okL l) : RL10.f 22 [.slc (l.map Rng.enc)] = some (.slc ((setS fun s => !hasRs l s).map Rng.enc)) := RL10_ranges_Not l h
noncomputable def RL11 : Tab := RL10
theorem RL11_ok : TabOK Try.prog RL11 := RL10_ok
@[go_sem] theorem RL11_old {g : FuncId} {xs : List A} : RL11.f g xs = RL10.f g xs := rfl
noncomputable def RL12 : Tab := RL11
theorem RL12_ok : TabOK Try.prog RL12 := RL11_ok
@[go_sem] theorem RL12_old {g : FuncId} {xs : List A} : RL12.f g xs = RL11.f g xs := rfl
@[go_sem] theorem RL12_eff {g : FuncId} : RL12.eff g = false := rfl
@[go_sem] theorem RL12_ords {n : Nat} : RL12.ords n = [] := rfl
end Go.Proofs.Ytmaipoimiiaofaa
namespace Go.Proofs.Ytmaipoimiiaofaa
open Go.Abs
set_option linter.unusedSimpArgs false
set_option linter.unusedVariables false
set_option maxRecDepth 20000
set_option maxHeartbeats 8000000
end Go.Proofs.Ytmaipoimiiaofaa
