/- What the laws of this claim rest on: the abstract executor, its soundness, and what the functions compute on pure data. No condition. -/
import Derived.Test.YtjnpfbohnpjckaaU4
import Derived.Shelf.SlSortCmp.NoneTotal
import Derived.Ground.SlsfProg
import Derived.Test.YtjnpfbohnpjckaaProg
set_option linter.unusedVariables false
set_option linter.unusedSimpArgs false
namespace Go.Abs
open Go.RowKit
structure SortTurn (b : Nat) (D : List Value) (w w' : World) : Prop where
  os : w'.os = w.os
  tape : w'.tape = w.tape
  output : w'.output = w.output
  drawn : w.drawn ≤ w'.drawn
  size : w.heap.size ≤ w'.heap.size
  block : ∀ c, c < w.heap.size → c ≠ b → w'.heap[c]? = w.heap[c]?
  self : ∀ (cc : Array Value) (e : TypeId) (fr : Nat × Nat), w.heap[b]? = some (.cells cc e fr) → ∃ cc', w'.heap[b]? = some (.cells cc' e fr) ∧ cc'.size = cc.size
  cells : w'.rangeAt b 0 D
theorem callH_sorted {P : Program} {f g : FuncId} {k : Nat} {c : Bool} {es es' : List A} {D : List Value} (hk : 0 < k) (hD : ∀ E, RowRel E k es' D) (hp : A.pure.pureL es' = true) (h1 : ∀ u ∈ D, u.oneCell' = true) (hlen : es'.length = es.length)
    (hnil : es = [] → ∀ (w : World) (q : Option Addr) (cap : Nat), Calls P f #[.slice q 0 cap, .func (.func g) #[] #[]] w fun e w' => e = .returned (.tuple #[]) ∧ w' = w)
    (hcall : ∀ (E : Env) (b cap : Nat) (cc : Array Value) (e : TypeId) (fr : Nat × Nat), es ≠ [] → E.w.heap[b]? = some (.cells cc e fr) → Unfrozen k cc fr → RepE E k b 0 es → k * cap ≤ cc.size → es.length ≤ cap →
      Calls P f #[.slice (some ⟨b, 0, none⟩) es.length cap, .func (.func g) #[] #[]] E.w fun e w' => e = .returned (.tuple #[]) ∧ SortTurn b D E.w w') :
    CallH P f [.row 0 0 k es.length c, .fn g []] [.row k es] (.tup []) [.row k es'] [] := by
  intro N φ w vs hN hrel hfree hrep
  simp only [RepL] at hrep
  obtain ⟨v0, _, rfl, hv0, v1, _, rfl, hv1, rfl⟩ := hrep
  simp only [Rep, RepL] at hv1
  obtain ⟨us, rfl, rfl⟩ := hv1
  have hφl : φ.length = 1 := hrel.len
  have stay : ∀ (w' : World), w' = w → ∃ v φ', (Ending.returned (.tuple #[]) : Ending) = .returned v ∧ Rep (envOf N φ' w') (.tup []) v ∧ HeapRel N φ' [.row k es] w' ∧ TurnH φ w [] φ' w' ∧ 1 ≤ 1 := by
    rintro w' rfl
    exact ⟨_, φ, rfl, by simp [Rep, RepL], hrel, ⟨rfl, rfl, rfl, fun _ => Nat.le_refl _, Nat.le_refl _, fun _ _ _ => rfl, fun _ c _ fr h => ⟨c, fr, h, rfl⟩, fun n b k hn => .inr ⟨n, k, hn⟩, fun _ _ _ h => h⟩, Nat.le_refl _⟩
  have nilcase : es = [] → ∀ (q : Option Addr) (cap : Nat), Calls P f #[.slice q 0 cap, .func (.func g) #[] #[]] w fun e w' => ∃ v φ', e = .returned v ∧ Rep (envOf N φ' w') (.tup []) v ∧ HeapRel N φ' [.row k es'] w' ∧ TurnH φ w [] φ' w' ∧ [Obj.row k es].length ≤ [Obj.row k es'].length := by
    intro hes q cap
    have hes' : es' = es := by subst hes; exact List.length_eq_zero_iff.1 (by simpa using hlen)
    rw [hes']
    refine Calls.mono (hnil hes w q cap) ?_
    rintro e w' ⟨rfl, hw⟩
    exact stay w' hw
  by_cases hes : es = []
  · have hl0 : es.length = 0 := by rw [hes]; rfl
    simp only [Rep] at hv0
    rcases hv0 with ⟨o, _, _, _, _, q, rfl⟩ | ⟨b, cap, c', e', fr, hφ, rfl, hlc, _, hb, hfit⟩
    · exact nilcase hes q 0
    · rw [hl0]; exact nilcase hes _ cap
  · simp only [Rep] at hv0
    rcases hv0 with ⟨o, _, _, h0, _⟩ | ⟨b, cap, c', e', fr, hφ, rfl, hlc, _, hb, hfit⟩
    · exact absurd (List.length_eq_zero_iff.1 h0) hes
    · have hob := hrel.objs 0 (.row k es) (.loc b k) rfl hφ
      simp only [ObjRel] at hob
      obtain ⟨_, hpe, ⟨cc, ee, ffr, hcc, hunf⟩, hE⟩ := hob
      have hb' : w.heap[b]? = some (.cells c' e' fr) := hb
      have hcc' : w.heap[b]? = some (.cells cc ee ffr) := hcc
      rw [hb'] at hcc'
      simp only [Option.some.injEq, Go.Obj.cells.injEq] at hcc'
      obtain ⟨rfl, rfl, rfl⟩ := hcc'
      rw [Nat.zero_mul] at hfit ⊢
      refine Calls.mono (hcall (envOf N φ w) b cap c' e' fr hes hb' hunf hE (by omega) hlc) ?_
      rintro e w' ⟨rfl, hT⟩
      obtain ⟨cc', hcc', hsz⟩ := hT.self c' e' fr hb'
      have hwid : w'.heap.size ≥ w.heap.size := hT.size
      refine ⟨_, φ, rfl, by simp [Rep, RepL], ?_, ?_, Nat.le_refl _⟩
      · exact {
          len := by simpa using hφl
          objs := fun n o p ho hp' => by
            cases n with
            | succ n => simp [nthO] at ho
            | zero =>
              simp only [nthO, Option.some.injEq] at ho
              subst ho
              have hφ' : φ[0]? = some (Own.loc b k) := hφ
              rw [hφ'] at hp'
              obtain rfl := Option.some.inj hp'
              simp only [ObjRel]
              refine ⟨trivial, hp, ⟨cc', e', fr, hcc', fun j hj => hunf.1 j (by omega), fun hk hh => hunf.2 hk (by omega)⟩, ?_⟩
              exact RowRel.mem (hD (envOf N φ w')) hT.cells h1
          own := fun n b' k' hn => ⟨Nat.lt_of_lt_of_le (hrel.own n b' k' hn).1 hT.size, (hrel.own n b' k' hn).2⟩
          inj := hrel.inj }
      · exact {
          os := hT.os
          tape := hT.tape
          output := hT.output
          drawn := fun _ => hT.drawn
          size := hT.size
          block := fun b' hb' hno => hT.block b' hb' fun e => by subst e; exact hno 0 k hφ
          shape := fun b' c₁ e₁ fr₁ h₁ => by
            by_cases hbb : b' = b
            · subst hbb
              obtain ⟨c₂, h₂, h₃⟩ := hT.self c₁ e₁ fr₁ h₁
              exact ⟨c₂, fr₁, h₂, h₃⟩
            · have : b' < w.heap.size := (Array.getElem?_eq_some_iff.1 h₁).1
              exact ⟨c₁, fr₁, by rw [hT.block b' this hbb]; exact h₁, rfl⟩
          own := fun n b' k' hn => .inr ⟨n, k', hn⟩
          stay := fun _ _ _ h => h }
def encV : A → Value
  | .int k n => .int k n
  | .bool b => .bool b
  | .str s => .string ⟨s.toArray⟩
  | _ => undef
def scalar : A → Bool
  | .int _ _ => true
  | .bool _ => true
  | .str _ => true
  | _ => false
theorem rep_scalar {E : Env} {x : A} {v : Value} (h : scalar x = true) : Rep E x v ↔ v = encV x := by
  cases x <;> simp [scalar] at h <;> simp [Rep, encV]
theorem one_scalar {x : A} (h : scalar x = true) : (encV x).oneCell' = true := by
  cases x <;> simp [scalar] at h <;> rfl
theorem pure_scalar {x : A} (h : scalar x = true) : x.pure = true := by
  cases x <;> simp [scalar] at h <;> simp [A.pure]
theorem repL_scalars {E : Env} : ∀ {xs : List A}, (∀ x ∈ xs, scalar x = true) → RepL E xs (xs.map encV)
  | [], _ => by simp [RepL]
  | x :: xs, h => by
    simp only [List.map_cons, RepL]
    exact ⟨_, _, rfl, (rep_scalar (h x (by simp))).2 rfl, repL_scalars fun y hy => h y (by simp [hy])⟩
theorem pureL_scalars : ∀ {xs : List A}, (∀ x ∈ xs, scalar x = true) → A.pure.pureL xs = true
  | [], _ => rfl
  | x :: xs, h => by
    simp only [A.pure.pureL, Bool.and_eq_true]
    exact ⟨pure_scalar (h x (by simp)), pureL_scalars fun y hy => h y (by simp [hy])⟩
theorem flatten_get {α : Type} {k : Nat} (hk : 0 < k) : ∀ {ls : List (List α)}, (∀ l ∈ ls, l.length = k) → ∀ j : Nat, ls.flatten[j]? = (ls[j / k]?).bind fun l => l[j % k]?
  | [], _, j => by simp
  | l :: ls, h, j => by
    have hl := h l (by simp)
    rw [List.flatten_cons]
    by_cases hj : j < k
    · rw [List.getElem?_append_left (by omega), Nat.div_eq_of_lt hj, Nat.mod_eq_of_lt hj]; simp
    · rw [List.getElem?_append_right (by omega), flatten_get hk (fun x hx => h x (by simp [hx])) (j - l.length), hl]
      have h1 : j / k = (j - k) / k + 1 := by rw [Nat.div_eq_sub_div hk (by omega)]
      have h2 : j % k = (j - k) % k := by rw [Nat.mod_eq_sub_mod (by omega)]
      rw [h1, h2]; simp
theorem rowRel_flat {E : Env} {k : Nat} {β : Type} {enc : β → List A} (hk : ∀ x, (enc x).length = k) (hs : ∀ x, ∀ a ∈ enc x, scalar a = true) : ∀ l : List β, RowRel E k (l.map fun x => .agg (enc x)) ((l.map fun x => (enc x).map encV).flatten)
  | [] => by simp [RowRel]
  | x :: l => by
    have h1 : ((enc x).map encV).length = k := by rw [List.length_map, hk]
    simp only [List.map_cons, RowRel, A.cells, List.flatten_cons]
    refine ⟨hk x, by rw [List.length_append]; omega, ?_, ?_⟩
    · rw [List.take_append_of_le_length (by omega), List.take_of_length_le (by omega)]
      exact repL_scalars (hs x)
    · rw [List.drop_append_of_le_length (by omega), List.drop_of_length_le (by omega)]
      exact rowRel_flat hk hs l
theorem rowRel_one {E : Env} {β : Type} {enc : β → A} (hs : ∀ x, scalar (enc x) = true) : ∀ l : List β, RowRel E 1 (l.map enc) (l.map fun x => encV (enc x))
  | [] => by simp [RowRel]
  | x :: l => by
    have hc : (enc x).cells = [enc x] := by have := hs x; cases h : enc x <;> rw [h] at this <;> simp [scalar] at this <;> rfl
    simp only [List.map_cons, RowRel, hc]
    refine ⟨rfl, by simp, ?_, ?_⟩
    · simp only [List.take_succ_cons, List.take_zero, RepL]
      exact ⟨_, [], rfl, (rep_scalar (hs x)).2 rfl, rfl⟩
    · simpa using rowRel_one hs l
theorem pureL_map {β : Type} {f : β → A} (h : ∀ x, (f x).pure = true) : ∀ l : List β, A.pure.pureL (l.map f) = true
  | [] => rfl
  | x :: l => by simp [A.pure.pureL, h x, pureL_map h l]
open Go.Sort in
theorem grew_grow (dr : DR) {w w' : World} (g : Grew w w') : ∃ q os, w' = Sort.grow (w.drewN q) os := by
  refine ⟨w'.drawn - w.drawn, w'.heap.extract w.heap.size w'.heap.size, ?_⟩
  have hh : w.heap ++ w'.heap.extract w.heap.size w'.heap.size = w'.heap := by
    have hsz := g.size
    apply Array.ext_getElem?
    intro i
    by_cases hi : i < w.heap.size
    · rw [Array.getElem?_append_left hi, g.block i hi]
    · rw [Array.getElem?_append_right (by omega), Array.getElem?_extract]
      by_cases h2 : i < w'.heap.size
      · rw [if_pos (by omega), show w.heap.size + (i - w.heap.size) = i by omega]
      · rw [if_neg (by omega), Array.getElem?_eq_none (by omega)]
  have hd := g.drawn dr
  unfold Sort.grow World.drewN
  rw [show w.drawn + (w'.drawn - w.drawn) = w'.drawn by omega]
  obtain ⟨heap, tape, drawn, os, output⟩ := w'
  have h1 := g.os; have h2 := g.tape; have h3 := g.output
  simp only at h1 h2 h3 hh ⊢
  rw [hh, h1, h2, h3]
open Go.Sort in
theorem turn_of_put {w : World} {b n : Nat} {F F0 : Array Value} {os : Array Go.Obj} (h0 : Holds id w b 0 F0) (hs : F.size = F0.size) (hb : b < w.heap.size) : SortTurn b F.toList w (Sort.grow (putRow id (Sort.ahead w n) b 0 F) os) where
  os := rfl
  tape := rfl
  output := rfl
  drawn := Nat.le_add_right _ _
  size := by
    show w.heap.size ≤ ((w.heap.modify b _) ++ os).size
    simp
  block := fun c hc hne => by
    show ((w.heap.modify b _) ++ os)[c]? = _
    rw [Array.getElem?_append_left (by simpa using hc), Array.getElem?_modify, if_neg (Ne.symm hne)]
  self := fun cc e fr hcc => by
    refine ⟨putCells id 0 F cc, ?_, by simp [putCells]⟩
    show ((w.heap.modify b _) ++ os)[b]? = _
    rw [Array.getElem?_append_left (by simpa using hb), Array.getElem?_modify, if_pos rfl, hcc]
    rfl
  cells := fun j v hj => by
    have hjF : j < F.size := by
      have := (List.getElem?_eq_some_iff.1 hj).1
      simpa using this
    have h1 := cell?_putRow id (Sort.ahead w n) b 0 F0 F (holds_ahead id w n b 0 F0 h0) hs j hjF
    have h2 : (Sort.grow (putRow id (Sort.ahead w n) b 0 F) os).cell? ⟨b, 0 + j, none⟩ = (putRow id (Sort.ahead w n) b 0 F).cell? ⟨b, 0 + j, none⟩ := by
      unfold World.cell?
      show (match ((putRow id (Sort.ahead w n) b 0 F).heap ++ os)[b]? with | some (.cells c _ _) => _ | _ => none) = _
      rw [Array.getElem?_append_left (by simpa using hb)]
      rfl
    rw [h2, h1]
    have : F[j]! = v := by
      rw [getElem!_pos F j hjF]
      have := (List.getElem?_eq_some_iff.1 hj).2
      simpa using this
    rw [this]; rfl
theorem unfrozen_at {w : World} {k b : Nat} {c : Array Value} {e : TypeId} {fr : Nat × Nat} (hb : w.heap[b]? = some (.cells c e fr)) (hf : Unfrozen k c fr) {j : Nat} (hj : j < c.size) : w.frozen? ⟨b, j, none⟩ = false := by
  have := (there_of (w := w) (b := b) (off := j) (n := 1) hb hf (by omega) 0 (by omega)).2
  simpa using this
noncomputable def sortL {β : Type} [Inhabited β] (cf : β → β → Int) (l : List β) : List β := (Sort.pdq (Go.Proofs.ltOf cf) l.toArray 0 l.toArray.size (Lib.bitLen l.toArray.size) true true).toList
theorem sortL_spec {β : Type} [Inhabited β] {cf : β → β → Int} (hO : Sort.SWO (Go.Proofs.ltOf cf)) (l : List β) : (sortL cf l).Perm l ∧ (sortL cf l).Pairwise (fun x y => ¬ cf y x < 0) := by
  obtain ⟨⟨h1, _, h3⟩, h4⟩ := Sort.pdq_sorts (Go.Proofs.ltOf cf) hO l.toArray 0 l.toArray.size (Lib.bitLen l.toArray.size) true true (Nat.zero_le _) (Nat.le_refl _) (Or.inl rfl)
  refine ⟨?_, ?_⟩
  · unfold sortL
    have e : ∀ d : Array β, d.size = l.toArray.size → d.extract 0 l.toArray.size = d := fun d hd => by rw [← hd]; simp
    rw [e _ h1, e _ rfl] at h3
    simpa using h3
  · unfold sortL
    rw [List.pairwise_iff_getElem]
    intro i j hi hj hij
    have hj' : j < l.toArray.size := by rw [← h1]; simpa using hj
    have := h4 i j (Nat.zero_le _) hij hj'
    have hi2 : i < (Sort.pdq (Go.Proofs.ltOf cf) l.toArray 0 l.toArray.size (Lib.bitLen l.toArray.size) true true).size := by simpa using hi
    have hj2 : j < (Sort.pdq (Go.Proofs.ltOf cf) l.toArray 0 l.toArray.size (Lib.bitLen l.toArray.size) true true).size := by simpa using hj
    rw [getElem!_pos _ i hi2, getElem!_pos _ j hj2] at this
    simpa [Go.Proofs.ltOf] using this
open Go.Shelf Go.Lib Go.Sort Go.Proofs in
/-- slices.SortFunc of structs, by a function that captures nothing. -/
theorem sort_struct (dr : DR) {P : Program} {ρ : Ren} {β : Type} [Inhabited β] (L : SlLaysF0.n6 P ρ) {k : Nat} (hk0 : 0 < k) (aE : ∀ w, (isAgg (ρ.t 24)).run P w = .ok true w) (zE : ∀ w, (Go.sizeOf (ρ.t 24)).run P w = .ok k w) (enc : β → List A) (hk : ∀ x, (enc x).length = k) (hs : ∀ x, ∀ a ∈ enc x, scalar a = true)
    (cf : β → β → Int) (hO : SWO (ltOf cf)) {g : FuncId} (hg : Callable P g) (hcmp : ∀ x y, CallA P g [.agg (enc x), .agg (enc y)] (· = .int .i64 (cf x y))) (l : List β) (hsz : l.length < 4611686018427387904) (c : Bool) :
    CallH P (ρ.f 6) [.row 0 0 k l.length c, .fn g []] [.row k (l.map fun x => .agg (enc x))] (.tup []) [.row k ((sortL cf l).map fun x => .agg (enc x))] [] := by
  have hperm := (sortL_spec hO l).1
  have hl1 : (l.map fun x => A.agg (enc x)).length = l.length := List.length_map _
  have hle : ∀ x, ((enc x).map encV).length = k := fun x => by rw [List.length_map, hk]
  have hone : ∀ x, ∀ v ∈ (enc x).map encV, v.oneCell' = true := fun x v hv => by
    obtain ⟨a, ha, rfl⟩ := List.mem_map.1 hv
    exact one_scalar (hs x a ha)
  have := callH_sorted (P := P) (f := ρ.f 6) (g := g) (k := k) (c := c) (es := l.map fun x => A.agg (enc x)) (es' := (sortL cf l).map fun x => A.agg (enc x)) (D := ((sortL cf l).map fun x => (enc x).map encV).flatten) hk0
    (fun E => rowRel_flat hk hs _) (pureL_map (fun x => by simp only [A.pure]; exact pureL_scalars (hs x)) _) (fun u hu => by
      obtain ⟨ys, hys, hu⟩ := List.mem_flatten.1 hu
      obtain ⟨x, _, rfl⟩ := List.mem_map.1 hys
      exact hone x u hu) (by rw [List.length_map, List.length_map]; exact hperm.length_eq)
    (fun _ w q cap => AnyF.slices_SortFunc_none L q cap _ w) ?_
  · rw [hl1] at this; exact this
  intro E b cap cc e fr hne hb hunf hE hfit hlc
  rw [hl1] at hlc ⊢
  have hbs : b < E.w.heap.size := (Array.getElem?_eq_some_iff.1 hb).1
  have hmul : l.length * k ≤ cc.size := Nat.le_trans (by rw [Nat.mul_comm]; exact Nat.mul_le_mul_left _ hlc) hfit
  have hH : HoldsK (fun x => (enc x).map encV) k E.w b 0 l.toArray := by
    intro j hj
    rw [size_flatK] at hj
    have hj' : j < l.length * k := by simpa using hj
    have hq : j / k < l.length := (Nat.div_lt_iff_lt_mul hk0).2 hj'
    have hr : j % k < k := Nat.mod_lt _ hk0
    refine ⟨?_, by rw [Nat.zero_add]; exact unfrozen_at hb hunf (by omega)⟩
    obtain ⟨_, hM⟩ := RepE_iff.1 hE (j / k) (.agg (enc l[j / k])) (by simp [hq])
    have hrl : j % k < (enc l[j / k]).length := by rw [hk]; exact hr
    obtain ⟨v, hv, _, hrep⟩ := RepM_iff.1 hM (j % k) _ (List.getElem?_eq_getElem (by simpa [A.cells] using hrl))
    have hv' := (rep_scalar (hs _ _ (List.getElem_mem _))).1 hrep
    rw [show 0 + j / k * k + j % k = 0 + j by rw [Nat.zero_add, Nat.zero_add, Nat.mul_comm]; exact Nat.div_add_mod j k] at hv
    rw [hv, hv', get_flatK _ _ _ _ hj]
    simp only [id]
    have e1 : l.toArray[j / k]! = l[j / k] := by rw [getElem!_pos _ _ (by simpa using hq)]; simp
    rw [e1, getElem!_pos _ _ (by rw [List.length_map]; exact hrl)]
    simp only [A.cells, List.getElem_map]
    rfl
  have hcl : CmpLays P g #[] (fun x => (enc x).map encV) k cf b 0 l.toArray.size E.w := by
    intro m os dk hdk x y
    have hrep : RepL ⟨fun _ => False, [], sortWorldK (fun x => (enc x).map encV) k E.w b 0 m dk os⟩ [.agg (enc x), .agg (enc y)] [.agg ((enc x).map encV).toArray, .agg ((enc y).map encV).toArray] := by
      simp only [RepL, Rep]
      exact ⟨_, _, rfl, ⟨_, rfl, repL_scalars (hs x), hone x⟩, _, _, rfl, ⟨_, rfl, repL_scalars (hs y), hone y⟩, rfl⟩
    refine Calls.mono (hcmp x y (fun _ => False) _ _ (fun b h => h.elim) hrep) ?_
    rintro e w' ⟨v, r, rfl, rfl, hr, hgr⟩
    simp only [Rep] at hr
    subst hr
    exact ⟨rfl, grew_grow dr hgr⟩
  have hmain := AnyQ.slices_SortFunc_eq L k aE zE (fun x => (enc x).map encV) hle hone cf hO g #[] b 0 cap l.toArray E.w (fun args w => run_callFunc hg args w) hcl hH hbs (by simpa using hsz)
  have hpsz : (pdq (ltOf cf) l.toArray 0 l.toArray.size (Lib.bitLen l.toArray.size) true true).size = l.toArray.size := (pdq_sorts (ltOf cf) hO l.toArray 0 l.toArray.size (Lib.bitLen l.toArray.size) true true (Nat.zero_le _) (Nat.le_refl _) (Or.inl rfl)).1.1
  have hsl : l.toArray.size = l.length := by simp
  rw [hsl] at hmain
  refine Calls.mono hmain ?_
  rintro e w' ⟨rfl, n, os, rfl⟩
  refine ⟨rfl, ?_⟩
  have hflat : ((sortL cf l).map fun x => (enc x).map encV).flatten = (flatK (fun x => (enc x).map encV) k (pdq (ltOf cf) l.toArray 0 l.length (Lib.bitLen l.length) true true)).toList := by
    rw [hsl] at hpsz
    have hsl2 : (sortL cf l) = (pdq (ltOf cf) l.toArray 0 l.length (Lib.bitLen l.length) true true).toList := by unfold sortL; rw [hsl]
    rw [hsl2]
    generalize pdq (ltOf cf) l.toArray 0 l.length (Lib.bitLen l.length) true true = d at hpsz ⊢
    apply List.ext_getElem?
    intro j
    rw [flatten_get hk0 (fun ys hys => by obtain ⟨x, _, rfl⟩ := List.mem_map.1 hys; exact hle x)]
    by_cases hj : j < d.size * k
    · have hq : j / k < d.size := (Nat.div_lt_iff_lt_mul hk0).2 hj
      have hr : j % k < k := Nat.mod_lt _ hk0
      have e1 : (flatK (fun x => (enc x).map encV) k d).toList[j]? = some ((flatK (fun x => (enc x).map encV) k d)[j]!) := by
        rw [getElem!_pos _ j (by rw [size_flatK]; exact hj)]; simp [hj]
      rw [e1, get_flatK _ _ _ _ hj]
      rw [getElem!_pos d _ hq]
      have hq' : j / k < d.toList.length := by simpa using hq
      simp only [List.getElem?_map, List.getElem?_eq_getElem hq', Option.map_some, Option.bind_some]
      rw [getElem!_pos _ _ (by simp only [List.length_map, hk]; exact hr)]
      rw [List.getElem?_eq_getElem (by simp only [List.length_map, hk]; exact hr)]
      simp
    · have hq : d.size ≤ j / k := by
        rcases Nat.lt_or_ge (j / k) d.size with h | h
        · exact absurd ((Nat.div_lt_iff_lt_mul hk0).1 h) hj
        · exact h
      have e1 : (flatK (fun x => (enc x).map encV) k d).toList[j]? = none := by
        rw [List.getElem?_eq_none]; rw [Array.length_toList, size_flatK]; omega
      rw [e1]
      simp [hq]
  rw [hflat]
  unfold sortWorldK putRowK
  exact turn_of_put hH (by rw [size_flatK, size_flatK]; rw [hsl] at hpsz; rw [hpsz, hsl]) hbs
open Go.Shelf Go.Lib Go.Sort Go.Proofs in
/-- slices.SortFunc of scalars. -/
theorem sort_scalar (dr : DR) {P : Program} {ρ : Ren} {β : Type} [Inhabited β] (L : SlLaysF.n6 P ρ) (L0 : SlLaysF0.n6 P ρ) (enc : β → A) (hs : ∀ x, scalar (enc x) = true)
    (cf : β → β → Int) (hO : SWO (ltOf cf)) {g : FuncId} (hg : Callable P g) (hcmp : ∀ x y, CallA P g [enc x, enc y] (· = .int .i64 (cf x y))) (l : List β) (hsz : l.length < 4611686018427387904) (c : Bool) :
    CallH P (ρ.f 6) [.row 0 0 1 l.length c, .fn g []] [.row 1 (l.map enc)] (.tup []) [.row 1 ((sortL cf l).map enc)] [] := by
  have hperm := (sortL_spec hO l).1
  have hl1 : (l.map enc).length = l.length := List.length_map _
  have hcell : ∀ x, (enc x).cells = [enc x] := fun x => by have := hs x; cases h : enc x <;> rw [h] at this <;> simp [scalar] at this <;> rfl
  have := callH_sorted (P := P) (f := ρ.f 6) (g := g) (k := 1) (c := c) (es := l.map enc) (es' := (sortL cf l).map enc) (D := (sortL cf l).map fun x => encV (enc x)) (by omega)
    (fun E => rowRel_one hs _) (pureL_map (fun x => pure_scalar (hs x)) _) (fun u hu => by
      obtain ⟨x, _, rfl⟩ := List.mem_map.1 hu
      exact one_scalar (hs x)) (by rw [List.length_map, List.length_map]; exact hperm.length_eq)
    (fun _ w q cap => AnyF.slices_SortFunc_none L0 q cap _ w) ?_
  · rw [hl1] at this; exact this
  intro E b cap cc e fr hne hb hunf hE hfit hlc
  rw [hl1] at hlc ⊢
  have hbs : b < E.w.heap.size := (Array.getElem?_eq_some_iff.1 hb).1
  have hH : Holds (fun x => encV (enc x)) E.w b 0 l.toArray := by
    intro j hj
    have hj' : j < l.length := by simpa using hj
    refine ⟨?_, by rw [Nat.zero_add]; exact unfrozen_at hb hunf (by omega)⟩
    obtain ⟨_, hM⟩ := RepE_iff.1 hE j (enc l[j]) (by simp [hj'])
    rw [hcell] at hM
    obtain ⟨v, hv, _, hrep⟩ := RepM_one.1 hM
    have hv' := (rep_scalar (hs _)).1 hrep
    rw [Nat.mul_one] at hv
    rw [hv, hv', getElem!_pos l.toArray j hj]; simp
  have hcl : CmpLays1 P g #[] (fun x => encV (enc x)) cf b 0 l.toArray.size E.w := by
    intro m os dk hdk x y
    have hrep : RepL ⟨fun _ => False, [], sortWorld (fun x => encV (enc x)) E.w b 0 m dk os⟩ [enc x, enc y] [encV (enc x), encV (enc y)] := by
      simp only [RepL]
      exact ⟨_, _, rfl, (rep_scalar (hs x)).2 rfl, _, _, rfl, (rep_scalar (hs y)).2 rfl, rfl⟩
    refine Calls.mono (hcmp x y (fun _ => False) _ _ (fun b h => h.elim) hrep) ?_
    rintro e w' ⟨v, r, rfl, rfl, hr, hgr⟩
    simp only [Rep] at hr
    subst hr
    exact ⟨rfl, grew_grow dr hgr⟩
  have hmain := Any.slices_SortFunc_eq L (fun x => encV (enc x)) (fun x => one_scalar (hs x)) cf hO g #[] b 0 cap l.toArray E.w (fun args w => run_callFunc hg args w) hcl hH hbs (by simpa using hsz)
  have hpsz : (pdq (ltOf cf) l.toArray 0 l.toArray.size (Lib.bitLen l.toArray.size) true true).size = l.toArray.size := (pdq_sorts (ltOf cf) hO l.toArray 0 l.toArray.size (Lib.bitLen l.toArray.size) true true (Nat.zero_le _) (Nat.le_refl _) (Or.inl rfl)).1.1
  have hsl : l.toArray.size = l.length := by simp
  rw [hsl] at hmain hpsz
  refine Calls.mono hmain ?_
  rintro e w' ⟨rfl, n, os, rfl⟩
  refine ⟨rfl, ?_⟩
  have hsl2 : (sortL cf l) = (pdq (ltOf cf) l.toArray 0 l.length (Lib.bitLen l.length) true true).toList := by unfold sortL; rw [hsl]
  rw [hsl2]
  generalize pdq (ltOf cf) l.toArray 0 l.length (Lib.bitLen l.length) true true = d at hpsz ⊢
  have hput : ∀ (w : World) (d : Array β), putRow (fun x => encV (enc x)) w b 0 d = putRow id w b 0 (d.map fun x => encV (enc x)) := fun w d => by
    unfold putRow
    congr 1
    funext c
    unfold putCells
    apply Array.ext
    · simp
    · intro i h1 h2
      simp only [Array.getElem_mapIdx, Array.size_map, Nat.zero_le, true_and, Nat.zero_add, Nat.sub_zero, id]
      split
      · rename_i hi
        rw [getElem!_pos d i hi, getElem!_pos _ i (by simpa using hi)]; simp
      · rfl
  have hH' : Holds id E.w b 0 (l.toArray.map fun x => encV (enc x)) := fun j hj => by
    have hj' : j < l.toArray.size := by simpa using hj
    obtain ⟨h1, h2⟩ := hH j hj'
    refine ⟨?_, h2⟩
    rw [h1, getElem!_pos l.toArray j hj', getElem!_pos (l.toArray.map fun x => encV (enc x)) j hj]; simp
  have he : (d.toList.map fun x => encV (enc x)) = (d.map fun x => encV (enc x)).toList := by simp
  rw [he]
  unfold sortWorld
  rw [hput]
  exact turn_of_put hH' (by simp [hpsz]) hbs
end Go.Abs
namespace Go.Proofs
open Go.Shelf
def Ytjnpfbohnpjckaa.sortRng_ren : Go.Shelf.Ren := ⟨fun | 6 => 51 | 15 => 68 | 14 => 67 | 28 => 85 | 29 => 86 | 20 => 77 | 21 => 78 | 22 => 79 | 23 => 80 | 24 => 81 | 25 => 82 | 26 => 83 | 27 => 84 | 46 => 91 | 47 => 92 | 48 => 93 | 49 => 94 | 50 => 95 | 57 => 99 | n => n, fun | 22 => 37 | 24 => 41 | 25 => 103 | 3 => 3 | 39 => 98 | 0 => 0 | 53 => 130 | 55 => 23 | 4 => 4 | 46 => 123 | 45 => 122 | 50 => 127 | 5 => 5 | 9 => 9 | 66 => 135 | 70 => 138 | 76 => 144 | 77 => 145 | n => n, fun | n => n⟩
theorem Ytjnpfbohnpjckaa.sortRng : Go.Proofs.SlLaysF0.n6 Try.prog Ytjnpfbohnpjckaa.sortRng_ren := {
  mixed := by kernel_rfl
  f6 := ⟨Try.f51.name, by decide, Try.func51.trans (congrArg some (by kernel_rfl))⟩
  f14 := ⟨Try.f67.name, by decide, Try.func67.trans (congrArg some (by kernel_rfl))⟩
  f15 := Try.func68.trans (congrArg some (by kernel_rfl))
  f20 := ⟨Try.f77.name, by decide, Try.func77.trans (congrArg some (by kernel_rfl))⟩
  f21 := ⟨Try.f78.name, by decide, Try.func78.trans (congrArg some (by kernel_rfl))⟩
  f22 := ⟨Try.f79.name, by decide, Try.func79.trans (congrArg some (by kernel_rfl))⟩
  f23 := ⟨Try.f80.name, by decide, Try.func80.trans (congrArg some (by kernel_rfl))⟩
  f24 := ⟨Try.f81.name, by decide, Try.func81.trans (congrArg some (by kernel_rfl))⟩
  f25 := ⟨Try.f82.name, by decide, Try.func82.trans (congrArg some (by kernel_rfl))⟩
  f26 := ⟨Try.f83.name, by decide, Try.func83.trans (congrArg some (by kernel_rfl))⟩
  f27 := ⟨Try.f84.name, by decide, Try.func84.trans (congrArg some (by kernel_rfl))⟩
  f28 := Try.func85.trans (congrArg some (by kernel_rfl))
  f29 := Try.func86.trans (congrArg some (by kernel_rfl))
  f46 := ⟨Try.f91.name, by decide, Try.func91.trans (congrArg some (by kernel_rfl))⟩
  f47 := Try.func92.trans (congrArg some (by kernel_rfl))
  f48 := Try.func93.trans (congrArg some (by kernel_rfl))
  f49 := ⟨Try.f94.name, by decide, Try.func94.trans (congrArg some (by kernel_rfl))⟩
  f50 := ⟨Try.f95.name, by decide, Try.func95.trans (congrArg some (by kernel_rfl))⟩
  f57 := ⟨Try.f99.name, by decide, Try.func99.trans (congrArg some (by kernel_rfl))⟩
  t0 := Try.underlying0
  a0 := Try.isAgg0
  z0 := Try.sizeOf0
  v0 := Try.zeroValue0
  t3 := Try.underlying3
  a3 := Try.isAgg3
  z3 := Try.sizeOf3
  v3 := Try.zeroValue3
  t4 := Try.underlying4
  a4 := Try.isAgg4
  z4 := Try.sizeOf4
  v4 := Try.zeroValue4
  t5 := Try.underlying5
  a5 := Try.isAgg5
  z5 := Try.sizeOf5
  v5 := Try.zeroValue5
  t9 := Try.underlying9
  a9 := Try.isAgg9
  z9 := Try.sizeOf9
  v9 := Try.zeroValue9
  t22 := Try.underlying37
  a22 := Try.isAgg37
  z22 := Try.sizeOf37
  v22 := Try.zeroValue37
  t25 := Try.underlying103
  a25 := Try.isAgg103
  z25 := Try.sizeOf103
  v25 := Try.zeroValue103
  t39 := Try.underlying98
  a39 := Try.isAgg98
  z39 := Try.sizeOf98
  v39 := Try.zeroValue98
  t45 := Try.underlying122
  a45 := Try.isAgg122
  z45 := Try.sizeOf122
  v45 := Try.zeroValue122
  t46 := Try.underlying123
  a46 := Try.isAgg123
  z46 := Try.sizeOf123
  v46 := Try.zeroValue123
  t50 := Try.underlying127
  a50 := Try.isAgg127
  z50 := Try.sizeOf127
  v50 := Try.zeroValue127
  t53 := Try.underlying130
  a53 := Try.isAgg130
  z53 := Try.sizeOf130
  v53 := Try.zeroValue130
  t55 := Try.underlying23
  a55 := Try.isAgg23
  z55 := Try.sizeOf23
  v55 := Try.zeroValue23
  t66 := Try.underlying135
  a66 := Try.isAgg135
  z66 := Try.sizeOf135
  v66 := Try.zeroValue135
  t70 := Try.underlying138
  a70 := Try.isAgg138
  z70 := Try.sizeOf138
  v70 := Try.zeroValue138
  t76 := Try.underlying144
  a76 := Try.isAgg144
  z76 := Try.sizeOf144
  v76 := Try.zeroValue144
  t77 := Try.underlying145
  a77 := Try.isAgg145
  z77 := Try.sizeOf145
  v77 := Try.zeroValue145 }
end Go.Proofs
namespace Go.Proofs.Ytjnpfbohnpjckaa
open Go.Abs
set_option linter.unusedSimpArgs false
set_option linter.unusedVariables false
set_option maxRecDepth 20000
set_option maxHeartbeats 8000000
theorem ok_ranges_Of_1 : codeOK Try.prog T07 Try.f52.ntmps (Try.f52.body.getD .skip) = true := by kernel_rfl
theorem c_rOf1 (a b : Rng) (ha : a.ok) (hb : b.ok) : CallA Try.prog 52 [.agg [.str a.lo, .str a.hi, .bool a.op], .agg [.str b.lo, .str b.hi, .bool b.op]] (· = .int .i64 (cmpB a.lo b.lo)) := by
  refine callA_of_body T07_ok mixed Try.func52 rfl (Nat.le_of_ble_eq_true rfl) ok_ranges_Of_1 ?_
  unfold Try.f52
  obtain ⟨a1, a2⟩ := ha
  obtain ⟨b1, b2⟩ := hb
  simp -implicitDefEqProofs (disch := (first | omega | decide)) only [go_sem, ↓reduceIte, seval, a1, b1]
abbrev RngB := {r : Rng // rightR r = true}
instance : Inhabited RngB := ⟨⟨⟨[], [], true⟩, by decide⟩⟩
def cfR (a b : RngB) : Int := cmpB a.1.lo b.1.lo
def RngB.cells (r : RngB) : List A := [.str r.1.lo, .str r.1.hi, .bool r.1.op]
theorem cmp_neg_iff {a b : List UInt8} : cmpB a b < 0 ↔ ltB a b = true := by
  have := @cmp_lt0 a b
  rw [← this, decide_eq_true_iff]
theorem swoR : Go.Sort.SWO (Go.Proofs.ltOf cfR) := by
  have hl : ∀ a b, Go.Proofs.ltOf cfR a b = ltB a.1.lo b.1.lo := fun a b => by
    unfold Go.Proofs.ltOf cfR
    exact cmp_lt0
  refine ⟨fun x => ?_, fun x y z h1 h2 => ?_, fun x y z h1 h2 => ?_⟩
  · rw [hl]; exact lt_irrefl _
  · rw [hl] at *; exact lt_trans' h1 h2
  · rw [hl] at *; exact not_lt_trans h2 h1
theorem rng_ok17 {r : Rng} (h : rightR r = true) : r.ok := by
  obtain ⟨k1, k2, _, _⟩ := right_parts h
  exact ⟨by omega, by omega⟩
theorem c_SortFunc_Rng (l : List RngB) (hl : l.length < 4611686018427387904) : CallH Try.prog 51 [.row 0 0 3 l.length false, .fn 52 []] [.row 3 (l.map fun x => .agg x.cells)]
    (.tup []) [.row 3 ((sortL cfR l).map fun x => .agg x.cells)] [] :=
  sort_struct trivial Go.Proofs.Ytjnpfbohnpjckaa.sortRng (by omega) Try.isAgg41 Try.sizeOf41 RngB.cells (fun _ => rfl) (fun x a ha => by
    simp only [RngB.cells, List.mem_cons, List.not_mem_nil, or_false] at ha
    rcases ha with rfl | rfl | rfl <;> rfl) cfR swoR (callable_of Try.func52 (by kernel_rfl) (by kernel_rfl)) (fun x y => c_rOf1 x.1 y.1 (rng_ok17 x.2) (rng_ok17 y.2)) l hl false
def pickR (l : List Rng) : List RngB := (l.filter rightR).attach.map fun x => ⟨x.1, (List.mem_filter.1 x.2).2⟩
theorem pickR_val (l : List Rng) : (pickR l).map (·.1) = l.filter rightR := by
  unfold pickR
  rw [List.map_map]
  exact List.attach_map_subtype_val _
theorem pickR_cells (l : List Rng) : (pickR l).map (fun x => A.agg x.cells) = (l.filter rightR).map Rng.enc := by
  rw [← pickR_val, List.map_map]; rfl
noncomputable def srtR (l : List Rng) : List Rng := (sortL cfR (pickR l)).map (·.1)
theorem srtR_cells (l : List Rng) : (sortL cfR (pickR l)).map (fun x => A.agg x.cells) = (srtR l).map Rng.enc := by
  unfold srtR; rw [List.map_map]; rfl
theorem srtR_perm (l : List Rng) : (srtR l).Perm (l.filter rightR) := by
  rw [← pickR_val]; exact (sortL_spec swoR (pickR l)).1.map _
theorem srtR_one (l : List Rng) : ∀ r ∈ srtR l, rightR r = true := fun r hr => by
  unfold srtR at hr
  obtain ⟨x, _, rfl⟩ := List.mem_map.1 hr
  exact x.2
theorem srtR_up (l : List Rng) : (srtR l).Pairwise (fun x y => ltB y.lo x.lo = false) := by
  unfold srtR
  rw [List.pairwise_map]
  exact (sortL_spec swoR (pickR l)).2.imp fun {x y} h => by
    unfold cfR at h
    rw [cmp_neg_iff] at h
    simpa using h
theorem srtR_has (l : List Rng) (s : List UInt8) : hasRs (srtR l) s = hasRs l s := by
  rw [hasRs_perm (srtR_perm l), hasRs_filter]
theorem srtR_all (l : List Rng) : ((srtR l).foldl pushS []).reverse = setS (hasRs l) := by
  rw [foldS_all (srtR_one l) (srtR_up l)]
  congr 1; funext s; exact srtR_has l s
def rgE (l : List RngB) : List A := [.row 0 0 3 l.length false, .fn 52 []]
def rgO (l : List RngB) : List Go.Abs.Obj := [.row 3 (l.map fun x => .agg x.cells)]
def rgK (l : List RngB) : Prop := l.length < 4611686018427387904
noncomputable def rgR (l : List RngB) : A × List Go.Abs.Obj × List Nat := (.tup [], [.row 3 ((sortL cfR l).map fun x => .agg x.cells)], [])
theorem rngB_inj (x y : RngB) (h : A.agg x.cells = A.agg y.cells) : x = y := Subtype.ext (Rng.enc_inj _ _ h)
theorem rgO_inj (i j : List RngB) (h : rgO i = rgO j) : i = j := by
  simp only [rgO, List.cons.injEq, Go.Abs.Obj.row.injEq, true_and, and_true] at h
  rwa [map_inj rngB_inj] at h
noncomputable def R8a : Tab := T07.addH 51 (entryH rgE rgO rgK rgR)
noncomputable def R8 : Tab := { R8a with eff := fun f => f == 51, ords := fun n => if n = 17 then [[0, 1, 2, 3, 4, 5, 6, 7, 8, 10, 11, 9, 12, 13, 14, 15], [0, 1, 2, 3, 4, 5, 6, 7, 8, 10, 11, 12, 9, 13, 14, 15]] else [] }
theorem R8a_ok : TabOK Try.prog R8a := T07_ok.addH (callable_of Try.func51 (by kernel_rfl) (by kernel_rfl)) (entryH_ok fun l h => c_SortFunc_Rng l h)
theorem R8_ok : TabOK Try.prog R8 := ⟨R8a_ok.f, R8a_ok.hp⟩
@[go_sem] theorem R8_f : R8.f = T07.f := rfl
@[go_sem] theorem R8_eff {g : FuncId} : R8.eff g = (g == 51) := rfl
@[go_sem] theorem R8_frz {g : FuncId} : R8.frz g = T07.frz g := rfl
@[go_sem] theorem R8_fix {n : Nat} : R8.fix n = false := rfl
@[go_sem] theorem R8_ords17 : R8.ords 17 = [[0, 1, 2, 3, 4, 5, 6, 7, 8, 10, 11, 9, 12, 13, 14, 15], [0, 1, 2, 3, 4, 5, 6, 7, 8, 10, 11, 12, 9, 13, 14, 15]] := rfl
@[go_sem] theorem R8_ords {n : Nat} (h : n ≠ 17) : R8.ords n = [] := if_neg h
theorem R8_sort {l : List Rng} {n : Nat} (hn : n = (l.filter rightR).length) (h : l.length < 4611686018427387904) : R8.hp 51 [.row 0 0 3 n false, .fn 52 []] [.row 3 ((l.filter rightR).map Rng.enc)] = some (.tup [], [.row 3 ((srtR l).map Rng.enc)], []) := by
  subst hn
  have hlen : (pickR l).length = (l.filter rightR).length := by rw [← pickR_val]; simp
  have h0 : R8a.hp 51 (rgE (pickR l)) (rgO (pickR l)) = entryH rgE rgO rgK rgR (rgE (pickR l)) (rgO (pickR l)) := Tab.addH_eq
  have h1 : R8.hp 51 (rgE (pickR l)) (rgO (pickR l)) = entryH rgE rgO rgK rgR (rgE (pickR l)) (rgO (pickR l)) := h0
  have h2 := h1.trans (entryH_eq (fun i j _ h => rgO_inj i j h) (pickR l) (show (pickR l).length < 4611686018427387904 by rw [hlen]; exact Nat.lt_of_le_of_lt (List.length_filter_le _ _) h))
  simp only [rgE, rgO, rgR, hlen, pickR_cells, srtR_cells] at h2
  exact h2
theorem foldS_step (l : List Rng) (k : Nat) (h : k < l.length) : (l.take (k + 1)).foldl pushS [] = pushS ((l.take k).foldl pushS []) l[k] := by
  rw [← List.take_append_getElem h, List.foldl_append]; rfl
theorem foldS_len : ∀ (l : List Rng) (a : List Rng), (l.foldl pushS a).length ≤ a.length + l.length
  | [], a => by simp
  | r :: l, a => by
    have h1 := foldS_len l (pushS a r)
    have h2 := pushS_len a r
    simp only [List.foldl_cons, List.length_cons]; omega
theorem ok_ranges_Of : codeOK Try.prog R8 Try.f34.ntmps (Try.f34.body.getD .skip) = true := by kernel_rfl
theorem c_ranges_Of (l : List Rng) (hl : l.length ≤ 1000000) (hok : okL l) : CallA Try.prog 34 [.slc (l.map Rng.enc)] (· = .slc ((setS (hasRs l)).map Rng.enc)) := by
  refine callA_of_body R8_ok mixed Try.func34 rfl (Nat.le_of_ble_eq_true rfl) ok_ranges_Of ?_
  unfold Try.f34
  simp -implicitDefEqProofs (disch := (first | omega | decide)) only [go_sem, ↓reduceIte, seval, List.length_map]
  refine wpA_loop_nil 3 3 rfl ?_
  refine wpA_loop [2, 10, 11] (ι := {k : Nat // k ≤ l.length}) (fun p => [(12, .int .i64 p.1), (3, .row 0 0 3 ((l.take p.1).filter rightR).length false)]) (fun p => [(0, .row 3 (((l.take p.1).filter rightR).map Rng.enc))]) (fun p => l.length - p.1) ⟨0, by omega⟩ (Nat.zero_le _) ?_ ?_
  · simp -implicitDefEqProofs (disch := (first | omega | decide)) only [go_sem, ↓reduceIte, seval]
    simp
  · rintro ⟨k, hk⟩
    simp only
    have hf : ((l.take k).filter rightR).length ≤ k := Nat.le_trans (List.length_filter_le _ _) (by rw [List.length_take]; omega)
    by_cases hlt : k < l.length
    · have hlt' : (k : Int) < (l.length : Int) := by omega
      have ht : l.take (k + 1) = l.take k ++ [l[k]] := (List.take_append_getElem hlt).symm
      have e1 := rng_get hlt
      have ok1 := okL_get hok hlt
      generalize hx : l[k] = x at *
      obtain ⟨lo, hi, op⟩ := x
      simp only at ok1
      cases h1 : rightR ⟨lo, hi, op⟩ with
      | true =>
        simp -implicitDefEqProofs (disch := (first | omega | decide)) only [go_sem, ↓reduceIte, seval, hlt', e1, ok1, h1, wrap_i64, List.length_map]
        refine ⟨⟨Nat.le_refl _, by omega⟩, ⟨k + 1, hlt⟩, ⟨⟨by simp, ?_⟩, ?_⟩, by show l.length - (k + 1) < l.length - k; omega⟩
        · rw [ht, List.filter_append]; simp [h1]
        · rw [ht, List.filter_append, List.take_of_length_le (by simp)]; simp [h1, Rng.enc]
      | false =>
        simp -implicitDefEqProofs (disch := (first | omega | decide)) only [go_sem, ↓reduceIte, seval, hlt', e1, ok1, h1, wrap_i64, List.length_map]
        refine ⟨⟨k + 1, hlt⟩, ⟨⟨by simp, ?_⟩, ?_⟩, by show l.length - (k + 1) < l.length - k; omega⟩
        · rw [ht, List.filter_append]; simp [h1]
        · rw [ht, List.filter_append]; simp [h1]
    · have hlt' : ¬ (k : Int) < (l.length : Int) := by omega
      rw [List.take_of_length_le (by omega)] at *
      have hs := R8_sort (l := l) rfl (by omega)
      have hp := (srtR_perm l).length_eq
      have hall := srtR_all l
      have hone := srtR_one l
      have hup := srtR_up l
      rw [← hp] at hf
      simp -implicitDefEqProofs (disch := (first | omega | decide)) only [go_sem, ↓reduceIte, seval, hlt', hs, List.length_map, List.contains_nil, List.contains_cons]
      rw [← hp]
      generalize srtR l = s at *
      refine wpA_loop_nil 6 3 rfl ?_
      refine wpA_loop [2, 25, 26] (ι := {j : Nat // j ≤ s.length}) (fun p => [(27, .int .i64 p.1), (6, .row 1 0 3 ((s.take p.1).foldl pushS []).length false)]) (fun p => [(1, .row 3 (rowS ((s.take p.1).foldl pushS [])))]) (fun p => s.length - p.1) ⟨0, by omega⟩ (Nat.zero_le _) ?_ ?_
      · simp -implicitDefEqProofs (disch := (first | omega | decide)) only [go_sem, ↓reduceIte, seval]
        simp [rowS]
      · rintro ⟨j, hj⟩
        simp only
        have hml := foldS_len (s.take j) []
        rw [List.length_take, List.length_nil, Nat.min_eq_left hj, Nat.zero_add] at hml
        by_cases hltj : j < s.length
        · have hltj' : (j : Int) < (s.length : Int) := by omega
          have e2 := rng_get hltj
          have hst := foldS_step s j hltj
          have ho := hone _ (List.getElem_mem hltj)
          have hR : RS ((s.take j).foldl pushS []) := (foldS_push (a := []) trivial (fun r hr => hone r (List.mem_of_mem_take hr)) (hup.sublist (List.take_sublist _ _)) (fun _ _ => trivial)).1
          have fin : ∀ m', (s.take (j + 1)).foldl pushS [] = m' → ∃ i : {j : Nat // j ≤ s.length}, (((j : Int) + 1 = (i.1 : Int) ∧ m'.length = ((s.take i.1).foldl pushS []).length) ∧ rowS m' = rowS ((s.take i.1).foldl pushS [])) ∧ s.length - i.1 < s.length - j := fun m' hm' => ⟨⟨j + 1, hltj⟩, ⟨⟨by simp, by rw [hm']⟩, by rw [hm']⟩, by show s.length - (j + 1) < s.length - j; omega⟩
          generalize hx : s[j] = x at *
          generalize (s.take j).foldl pushS [] = m at *
          have okx := rng_ok17 ho
          obtain ⟨lo, hi, op⟩ := x
          have okx' : lo.length ≤ 9223372036854775807 ∧ hi.length ≤ 9223372036854775807 := okx
          have fin' := fin _ hst
          cases m with
          | nil =>
            rw [rowS_nil]
            simp -implicitDefEqProofs (disch := (first | omega | decide)) only [go_sem, ↓reduceIte, seval, hltj', e2, wrap_i64, List.length_map]
            exact fin'
          | cons q qs =>
            have hq := rs_one hR
            have okq := rng_ok17 hq
            obtain ⟨qlo, qhi, qop⟩ := q
            have okq' : qlo.length ≤ 9223372036854775807 ∧ qhi.length ≤ 9223372036854775807 := okq
            rw [rowS_cons] at *
            have hlq : qs.length + 1 ≤ j := hml
            have cz : (((qs.length + 1 : Nat) : Int) == 0) = false := by
              have : ((qs.length + 1 : Nat) : Int) ≠ 0 := by omega
              simpa using this
            have c1 : (((qs.length + 1 : Nat) : Int) - 1).toNat = qs.length := by omega
            have c2 : (0 : Int) ≤ ((qs.length + 1 : Nat) : Int) - 1 := by omega
            have c3 : ((qs.length + 1 : Nat) : Int) - 1 < ((qs.length + 1 : Nat) : Int) := by omega
            have merge : (qop || !ltB qhi lo) = true → pushS (⟨qlo, qhi, qop⟩ :: qs) ⟨lo, hi, op⟩ = mergeR ⟨qlo, qhi, qop⟩ ⟨lo, hi, op⟩ :: qs := fun h => by
              simp only [pushS]; rw [if_pos h]
            cases hqo : qop with
            | true =>
              subst hqo
              have hpj := merge (by simp)
              by_cases he : endsR ⟨qlo, qhi, true⟩ ⟨lo, hi, op⟩ < 0
              · have hm : mergeR ⟨qlo, qhi, true⟩ ⟨lo, hi, op⟩ = ⟨qlo, hi, op⟩ := by unfold mergeR; rw [if_pos he]
                rw [hpj, hm, rowS_cons] at fin'
                simp -implicitDefEqProofs (maxSteps := 600000) (disch := (first | omega | decide)) only [go_sem, ↓reduceIte, seval, hltj', e2, okx', okq', cz, c1, c2, c3, he, rowS_get', rowS_set, wrap_i64, List.length_map]
                exact fin'
              · have hm : mergeR ⟨qlo, qhi, true⟩ ⟨lo, hi, op⟩ = ⟨qlo, qhi, true⟩ := by unfold mergeR; rw [if_neg he]
                rw [hpj, hm, rowS_cons] at fin'
                simp -implicitDefEqProofs (disch := (first | omega | decide)) only [go_sem, ↓reduceIte, seval, hltj', e2, okx', okq', cz, c1, c2, c3, he, rowS_get', rowS_set, wrap_i64, List.length_map]
                exact fin'
            | false =>
              subst hqo
              cases hto : ltB qhi lo with
              | false =>
                have hpj := merge (by rw [hto]; rfl)
                by_cases he : endsR ⟨qlo, qhi, false⟩ ⟨lo, hi, op⟩ < 0
                · have hm : mergeR ⟨qlo, qhi, false⟩ ⟨lo, hi, op⟩ = ⟨qlo, hi, op⟩ := by unfold mergeR; rw [if_pos he]
                  rw [hpj, hm, rowS_cons] at fin'
                  simp -implicitDefEqProofs (maxSteps := 600000) (disch := (first | omega | decide)) only [go_sem, ↓reduceIte, seval, hltj', e2, okx', okq', cz, c1, c2, c3, he, hto, rowS_get', rowS_set, wrap_i64, List.length_map]
                  exact fin'
                · have hm : mergeR ⟨qlo, qhi, false⟩ ⟨lo, hi, op⟩ = ⟨qlo, qhi, false⟩ := by unfold mergeR; rw [if_neg he]
                  rw [hpj, hm, rowS_cons] at fin'
                  simp -implicitDefEqProofs (disch := (first | omega | decide)) only [go_sem, ↓reduceIte, seval, hltj', e2, okx', okq', cz, c1, c2, c3, he, hto, rowS_get', rowS_set, wrap_i64, List.length_map]
                  exact fin'
              | true =>
                have hpj : pushS (⟨qlo, qhi, false⟩ :: qs) ⟨lo, hi, op⟩ = ⟨lo, hi, op⟩ :: ⟨qlo, qhi, false⟩ :: qs := by
                  simp only [pushS]; rw [if_neg (by rw [hto]; simp)]
                rw [hpj, rowS_cons, rowS_cons] at fin'
                simp -implicitDefEqProofs (disch := (first | omega | decide)) only [go_sem, ↓reduceIte, seval, hltj', e2, okx', okq', cz, c1, c2, c3, hto, rowS_get', rowS_set, rowS_full, rowS_take, wrap_i64, List.length_map]
                exact ⟨⟨Nat.le_refl _, by omega⟩, fin'⟩
        · have hltj' : ¬ (j : Int) < (s.length : Int) := by omega
          rw [List.take_of_length_le (by omega)] at *
          have hfin : rowS (s.foldl pushS []) = (setS (hasRs l)).map Rng.enc := by unfold rowS; rw [hall]
          have hll : (s.foldl pushS []).length = (rowS (s.foldl pushS [])).length := by rw [rowS_len]
          simp -implicitDefEqProofs (disch := (first | omega | decide)) only [go_sem, ↓reduceIte, seval, hltj', wrap_i64, hll, List.length_map, List.take_length]
          rw [hfin]
          exact ⟨Nat.le_refl _, rfl⟩
set_option maxHeartbeats 4000000
def T12z : Tab := tab0
theorem T12z_ok : TabOK Try.prog T12z := tab0_ok _
@[go_sem] theorem T12z_eq : T12z = tab0 := rfl
structure Ver where
  r : Int
  c : Int
  deriving DecidableEq, Inhabited
def Ver.cells (v : Ver) : List A := [.int .i64 v.r, .int .i64 v.c]
def Ver.enc (v : Ver) : A := .agg v.cells
@[go_sem] theorem Ver.enc_eq {a b : Int} : Ver.enc ⟨a, b⟩ = .agg [.int .i64 a, .int .i64 b] := rfl
theorem Ver.enc_inj (v w : Ver) (h : v.enc = w.enc) : v = w := by
  cases v; cases w; simpa [Ver.enc, Ver.cells] using h
def rightV (v : Ver) : Bool := decide (1 ≤ v.r) && decide (v.r ≤ 16) && decide (1 ≤ v.c) && decide (v.c ≤ 1099511627776)
theorem ok_version_Right : codeOK Try.prog T12z Try.f56.ntmps (Try.f56.body.getD .skip) = true := by kernel_rfl
theorem c_version_Right (r c : Int) : CallA Try.prog 56 [.agg [.int .i64 r, .int .i64 c]] (· = .bool (rightV ⟨r, c⟩)) := by
  refine callA_of_body T12z_ok mixed Try.func56 rfl (Nat.le_of_ble_eq_true rfl) ok_version_Right ?_
  unfold Try.f56
  by_cases h1 : 1 ≤ r
  · by_cases h2 : r ≤ 16
    · by_cases h3 : 1 ≤ c
      · simp -implicitDefEqProofs (disch := (first | omega | decide)) only [go_sem, ↓reduceIte, seval, h1, h2, h3, rightV]
      · simp -implicitDefEqProofs (disch := (first | omega | decide)) only [go_sem, ↓reduceIte, seval, h1, h2, h3, rightV]
    · simp -implicitDefEqProofs (disch := (first | omega | decide)) only [go_sem, ↓reduceIte, seval, h1, h2, rightV]
  · simp -implicitDefEqProofs (disch := (first | omega | decide)) only [go_sem, ↓reduceIte, seval, h1, rightV]
theorem ok_ref12_Right : codeOK Try.prog T12z Try.f44.ntmps (Try.f44.body.getD .skip) = true := by kernel_rfl
theorem c_ref12_Right (r c : Int) : CallA Try.prog 44 [.agg [.int .i64 r, .int .i64 c]] (· = .bool (rightV ⟨r, c⟩)) := by
  refine callA_of_body T12z_ok mixed Try.func44 rfl (Nat.le_of_ble_eq_true rfl) ok_ref12_Right ?_
  unfold Try.f44
  by_cases h1 : 1 ≤ r
  · by_cases h2 : r ≤ 16
    · by_cases h3 : 1 ≤ c
      · simp -implicitDefEqProofs (disch := (first | omega | decide)) only [go_sem, ↓reduceIte, seval, h1, h2, h3, rightV]
      · simp -implicitDefEqProofs (disch := (first | omega | decide)) only [go_sem, ↓reduceIte, seval, h1, h2, h3, rightV]
    · simp -implicitDefEqProofs (disch := (first | omega | decide)) only [go_sem, ↓reduceIte, seval, h1, h2, rightV]
  · simp -implicitDefEqProofs (disch := (first | omega | decide)) only [go_sem, ↓reduceIte, seval, h1, rightV]
set_option maxHeartbeats 8000000
structure It where
  key : List UInt8
  rep : Int
  cnt : Int
  rank : Int
  prio : Int
  dead : Bool
  body : List UInt8
  deriving DecidableEq
def It.enc (x : It) : A := .agg [.str x.key, .int .i64 x.rep, .int .i64 x.cnt, .int .i64 x.rank, .int .i64 x.prio, .bool x.dead, .str x.body]
theorem It.enc_inj (r s : It) (h : r.enc = s.enc) : r = s := by
  obtain ⟨a, b, c, d, e, f, g⟩ := r
  obtain ⟨a', b', c', d', e', f', g'⟩ := s
  simpa [It.enc] using h
@[simp] theorem It.enc_iff {r s : It} : (r.enc = s.enc) = (r = s) := propext ⟨It.enc_inj r s, fun h => by rw [h]⟩
@[simp] theorem map_It_inj {l m : List It} : (l.map It.enc = m.map It.enc) = (l = m) := map_inj It.enc_inj
def It.ok (x : It) : Prop := x.key.length ≤ 9223372036854775807 ∧ x.body.length ≤ 9223372036854775807
def okI (l : List It) : Prop := ∀ x ∈ l, x.ok
theorem it_get {l : List It} {k : Nat} (h : k < l.length) : (l.map It.enc)[k]? = some (.agg [.str l[k].key, .int .i64 l[k].rep, .int .i64 l[k].cnt, .int .i64 l[k].rank, .int .i64 l[k].prio, .bool l[k].dead, .str l[k].body]) := by
  rw [List.getElem?_map, List.getElem?_eq_getElem h]; rfl
def rightI (x : It) : Bool := decide (1 ≤ x.key.length ∧ x.key.length ≤ 16) && rightV ⟨x.rep, x.cnt⟩ && decide (1 ≤ x.rank) && decide (x.rank ≤ 1099511627776) && decide (0 ≤ x.prio) && decide (x.prio ≤ 255) && decide (x.body.length ≤ 64) && (!x.dead || x.body == [])
def goI : Option (List UInt8) → List It → Bool
  | _, [] => true
  | p, x :: l => rightI x && (match p with | none => true | some k => ltB k x.key) && goI (some x.key) l
def rightL18 (l : List It) : Bool := goI none l
def longI (l : List It) (m : Int) : Bool := decide (m < (l.length : Int)) || l.any fun x => decide (60 < x.key.length) || decide (200 < x.body.length)
theorem longI_len {l : List It} {m : Int} (h : longI l m = false) : ¬ m < (l.length : Int) := by
  unfold longI at h
  simp only [Bool.or_eq_false_iff, decide_eq_false_iff_not] at h
  exact h.1
noncomputable def R0 : Tab := T08d.add 45 (entry (fun (v : Int × List Rng × List Rng) => [.int .i64 v.1, .slc (v.2.1.map Rng.enc), .slc (v.2.2.map Rng.enc)]) (fun v => v.2.1.length ≤ 1000 ∧ v.2.2.length ≤ 1000 ∧ okL v.2.1 ∧ okL v.2.2) (fun v => .slc ((setS fun s => opS v.1 (hasRs v.2.1 s) (hasRs v.2.2 s)).map Rng.enc)))
theorem R0_ok : TabOK Try.prog R0 := T08d_ok.ent Try.func45 (by kernel_rfl) (by kernel_rfl) fun v h => c_ref08_Make v.1 v.2.1 v.2.2 h.1 h.2.1 h.2.2.1 h.2.2.2
@[go_sem] theorem R0_old {g : FuncId} {xs : List A} (h : g ≠ 45) : R0.f g xs = T08d.f g xs := Tab.add_ne h
@[go_sem] theorem R0_s : R0.pl T08d := ⟨fun _ => rfl, fun _ => rfl, rfl, fun _ => rfl, rfl, fun _ => rfl, rfl⟩
theorem R0_ref08_Make (v : Int × List Rng × List Rng) (h : v.2.1.length ≤ 1000 ∧ v.2.2.length ≤ 1000 ∧ okL v.2.1 ∧ okL v.2.2) : R0.f 45 [.int .i64 v.1, .slc (v.2.1.map Rng.enc), .slc (v.2.2.map Rng.enc)] = some (.slc ((setS fun s => opS v.1 (hasRs v.2.1 s) (hasRs v.2.2 s)).map Rng.enc)) := Tab.ent_eq (Γ := T08d) (fun i j h => by simpa [Prod.ext_iff, and_assoc] using h) v h
theorem r_Make {op : Int} {a b : List Rng} (h : a.length ≤ 1000 ∧ b.length ≤ 1000 ∧ okL a ∧ okL b) : R0.f 45 [.int .i64 op, .slc (a.map Rng.enc), .slc (b.map Rng.enc)] = some (.slc ((setS fun s => opS op (hasRs a s) (hasRs b s)).map Rng.enc)) := R0_ref08_Make (op, a, b) h
theorem r_Make1 {a b : List Rng} (h : a.length ≤ 1000 ∧ b.length ≤ 1000 ∧ okL a ∧ okL b) : R0.f 45 [.int .i64 1, .slc (a.map Rng.enc), .slc (b.map Rng.enc)] = some (.slc ((setS fun s => hasRs a s || hasRs b s).map Rng.enc)) := r_Make (op := 1) h
theorem okL_nil : okL [] := fun _ h => by cases h
theorem r_Make10 {a : List Rng} (h : a.length ≤ 1000) (oa : okL a) : R0.f 45 [.int .i64 1, .slc (a.map Rng.enc), .slc []] = some (.slc ((setS (hasRs a)).map Rng.enc)) := by
  have h1 := r_Make1 (a := a) (b := []) ⟨h, by simp, oa, okL_nil⟩
  have e : (fun s => hasRs a s || hasRs [] s) = hasRs a := by
    funext s; rw [hasRs_nil, Bool.or_false]
  rw [e] at h1; exact h1
theorem ok_ref08_Of : codeOK Try.prog R0 Try.f30.ntmps (Try.f30.body.getD .skip) = true := by kernel_rfl
theorem c_ref08_Of (a : List Rng) (h : a.length ≤ 1000) (oa : okL a) : CallA Try.prog 30 [.slc (a.map Rng.enc)] (· = .slc ((setS (hasRs a)).map Rng.enc)) := by
  refine callA_of_body R0_ok mixed Try.func30 rfl (Nat.le_of_ble_eq_true rfl) ok_ref08_Of ?_
  unfold Try.f30
  have h1 := r_Make10 h oa
  simp -implicitDefEqProofs (disch := (first | omega | decide)) only [go_sem, ↓reduceIte, seval, h1, List.length_map]
noncomputable def J32a : Tab := R0.add 30 (entry (fun (l : List Rng) => [.slc (l.map Rng.enc)]) (fun l => l.length ≤ 1000 ∧ okL l) (fun l => .slc ((setS (hasRs l)).map Rng.enc)))
theorem J32a_ok : TabOK Try.prog J32a := R0_ok.ent Try.func30 (by kernel_rfl) (by kernel_rfl) fun l h => c_ref08_Of l h.1 h.2
@[go_sem] theorem J32a_old {g : FuncId} {xs : List A} (h : g ≠ 30) : J32a.f g xs = R0.f g xs := Tab.add_ne h
theorem J32a_ref08_Of (l : List Rng) (h : l.length ≤ 1000 ∧ okL l) : J32a.f 30 [.slc (l.map Rng.enc)] = some (.slc ((setS (hasRs l)).map Rng.enc)) := Tab.ent_eq (Γ := R0) (fun i j h => by simpa [Prod.ext_iff, and_assoc] using h) l h
noncomputable def J32b : Tab := J32a.add 34 (entry (fun (l : List Rng) => [.slc (l.map Rng.enc)]) (fun l => l.length ≤ 100000 ∧ okL l) (fun l => .slc ((setS (hasRs l)).map Rng.enc)))
theorem J32b_ok : TabOK Try.prog J32b := J32a_ok.ent Try.func34 (by kernel_rfl) (by kernel_rfl) fun l h => c_ranges_Of l (by omega) h.2
@[go_sem] theorem J32b_old {g : FuncId} {xs : List A} (h : g ≠ 34) : J32b.f g xs = J32a.f g xs := Tab.add_ne h
theorem J32b_ranges_Of (l : List Rng) (h : l.length ≤ 100000 ∧ okL l) : J32b.f 34 [.slc (l.map Rng.enc)] = some (.slc ((setS (hasRs l)).map Rng.enc)) := Tab.ent_eq (Γ := J32a) (fun i j h => by simpa [Prod.ext_iff, and_assoc] using h) l h
noncomputable def J32c : Tab := J32b.add 14 (entry (fun (v : List Rng × List Rng) => [.slc (v.1.map Rng.enc), .slc (v.2.map Rng.enc)]) (fun v => v.1.length ≤ 4611686018427387904 ∧ v.2.length ≤ 4611686018427387904) (fun v => .bool (sameRs v.1 v.2)))
theorem J32c_ok : TabOK Try.prog J32c := J32b_ok.ent Try.func14 (by kernel_rfl) (by kernel_rfl) fun v h => c_ref08_Same v.1 v.2 h.1 h.2
@[go_sem] theorem J32c_old {g : FuncId} {xs : List A} (h : g ≠ 14) : J32c.f g xs = J32b.f g xs := Tab.add_ne h
theorem J32c_ref08_Same (v : List Rng × List Rng) (h : v.1.length ≤ 4611686018427387904 ∧ v.2.length ≤ 4611686018427387904) : J32c.f 14 [.slc (v.1.map Rng.enc), .slc (v.2.map Rng.enc)] = some (.bool (sameRs v.1 v.2)) := Tab.ent_eq (Γ := J32b) (fun i j h => by simpa [Prod.ext_iff, and_assoc] using h) v h
noncomputable def J32d : Tab := J32c.add 55 (entry (fun (s : List UInt8) => [.str s]) (fun s => s.length ≤ 9223372036854775807) (fun s => .bool (decide (1 ≤ s.length ∧ s.length ≤ 16))))
theorem J32d_ok : TabOK Try.prog J32d := J32c_ok.ent Try.func55 (by kernel_rfl) (by kernel_rfl) fun s h => c_key_Right s h
@[go_sem] theorem J32d_old {g : FuncId} {xs : List A} (h : g ≠ 55) : J32d.f g xs = J32c.f g xs := Tab.add_ne h
theorem J32d_key_Right (s : List UInt8) (h : s.length ≤ 9223372036854775807) : J32d.f 55 [.str s] = some (.bool (decide (1 ≤ s.length ∧ s.length ≤ 16))) := Tab.ent_eq (Γ := J32c) (fun i j h => by simpa [Prod.ext_iff, and_assoc] using h) s h
noncomputable def J32e : Tab := J32d.add 43 (entry (fun (s : List UInt8) => [.str s]) (fun s => s.length ≤ 9223372036854775807) (fun s => .bool (decide (1 ≤ s.length ∧ s.length ≤ 16))))
theorem J32e_ok : TabOK Try.prog J32e := J32d_ok.ent Try.func43 (by kernel_rfl) (by kernel_rfl) fun s h => c_ref06_Right s h
@[go_sem] theorem J32e_old {g : FuncId} {xs : List A} (h : g ≠ 43) : J32e.f g xs = J32d.f g xs := Tab.add_ne h
theorem J32e_ref06_Right (s : List UInt8) (h : s.length ≤ 9223372036854775807) : J32e.f 43 [.str s] = some (.bool (decide (1 ≤ s.length ∧ s.length ≤ 16))) := Tab.ent_eq (Γ := J32d) (fun i j h => by simpa [Prod.ext_iff, and_assoc] using h) s h
noncomputable def J32f : Tab := J32e.add 56 (entry (fun (v : Int × Int) => [.agg [.int .i64 v.1, .int .i64 v.2]]) (fun v => True) (fun v => .bool (rightV ⟨v.1, v.2⟩)))
theorem J32f_ok : TabOK Try.prog J32f := J32e_ok.ent Try.func56 (by kernel_rfl) (by kernel_rfl) fun v h => c_version_Right v.1 v.2
@[go_sem] theorem J32f_old {g : FuncId} {xs : List A} (h : g ≠ 56) : J32f.f g xs = J32e.f g xs := Tab.add_ne h
theorem J32f_version_Right (v : Int × Int) (h : True) : J32f.f 56 [.agg [.int .i64 v.1, .int .i64 v.2]] = some (.bool (rightV ⟨v.1, v.2⟩)) := Tab.ent_eq (Γ := J32e) (fun i j h => by simpa [Prod.ext_iff, and_assoc] using h) v h
noncomputable def J32g : Tab := J32f.add 44 (entry (fun (v : Int × Int) => [.agg [.int .i64 v.1, .int .i64 v.2]]) (fun v => True) (fun v => .bool (rightV ⟨v.1, v.2⟩)))
theorem J32g_ok : TabOK Try.prog J32g := J32f_ok.ent Try.func44 (by kernel_rfl) (by kernel_rfl) fun v h => c_ref12_Right v.1 v.2
@[go_sem] theorem J32g_old {g : FuncId} {xs : List A} (h : g ≠ 44) : J32g.f g xs = J32f.f g xs := Tab.add_ne h
@[go_sem] theorem J32g_s : J32g.pl J32f := ⟨fun _ => rfl, fun _ => rfl, rfl, fun _ => rfl, rfl, fun _ => rfl, rfl⟩
theorem J32g_ref12_Right (v : Int × Int) (h : True) : J32g.f 44 [.agg [.int .i64 v.1, .int .i64 v.2]] = some (.bool (rightV ⟨v.1, v.2⟩)) := Tab.ent_eq (Γ := J32f) (fun i j h => by simpa [Prod.ext_iff, and_assoc] using h) v h
theorem j_rOf {l : List Rng} (h : l.length ≤ 100000 ∧ okL l) : J32b.f 34 [.slc (l.map Rng.enc)] = some (.slc ((setS (hasRs l)).map Rng.enc)) := J32b_ranges_Of l h
theorem j_ref08_Of {l : List Rng} (h : l.length ≤ 1000 ∧ okL l) : J32a.f 30 [.slc (l.map Rng.enc)] = some (.slc ((setS (hasRs l)).map Rng.enc)) := J32a_ref08_Of l h
theorem j_ref08_Same {a b : List Rng} (h : a.length ≤ 4611686018427387904 ∧ b.length ≤ 4611686018427387904) : J32c.f 14 [.slc (a.map Rng.enc), .slc (b.map Rng.enc)] = some (.bool (sameRs a b)) := J32c_ref08_Same (a, b) h
@[go_sem] theorem p_key_Right {s : List UInt8} (h : s.length ≤ 9223372036854775807) : J32d.f 55 [.str s] = some (.bool (decide (1 ≤ s.length ∧ s.length ≤ 16))) := J32d_key_Right s h
@[go_sem] theorem p_ref06_Right {s : List UInt8} (h : s.length ≤ 9223372036854775807) : J32e.f 43 [.str s] = some (.bool (decide (1 ≤ s.length ∧ s.length ≤ 16))) := J32e_ref06_Right s h
@[go_sem] theorem k_version_Right {r c : Int} : J32f.f 56 [.agg [.int .i64 r, .int .i64 c]] = some (.bool (rightV ⟨r, c⟩)) := J32f_version_Right (r, c) trivial
@[go_sem] theorem k_ref12_Right {r c : Int} : J32g.f 44 [.agg [.int .i64 r, .int .i64 c]] = some (.bool (rightV ⟨r, c⟩)) := J32g_ref12_Right (r, c) trivial
theorem p_ref06_Less {a b : List UInt8} (h : a.length ≤ 9223372036854775807 ∧ b.length ≤ 9223372036854775807) : T06g.f 28 [.str a, .str b] = some (.bool (cmpB a b == -1)) := T06g_ref06_Less (a, b) h
theorem p_key_Cmp {a b : List UInt8} (h : a.length ≤ 9223372036854775807 ∧ b.length ≤ 9223372036854775807) : T06d.f 40 [.str a, .str b] = some (.int .i64 (cmpB a b)) := T06d_key_Cmp (a, b) h
theorem ok_item_Right : codeOK Try.prog J32g Try.f39.ntmps (Try.f39.body.getD .skip) = true := by kernel_rfl
theorem c_item_Right (x : It) (h : x.ok) : CallA Try.prog 39 [x.enc] (· = .bool (rightI x)) := by
  refine callA_of_body J32g_ok mixed Try.func39 rfl (Nat.le_of_ble_eq_true rfl) ok_item_Right ?_
  unfold Try.f39
  obtain ⟨key, rep, cnt, rank, prio, dead, body⟩ := x
  obtain ⟨h1, h2⟩ := h
  simp only [It.enc] at h1 h2 ⊢
  have g1 := p_key_Right h1
  simp only [rightI]
  cases e1 : decide (1 ≤ key.length ∧ key.length ≤ 16) with
  | false => rw [e1] at g1; simp -implicitDefEqProofs (disch := (first | omega | decide)) only [go_sem, ↓reduceIte, seval, g1]
  | true =>
    rw [e1] at g1
    cases e2 : rightV ⟨rep, cnt⟩ with
    | false => simp -implicitDefEqProofs (disch := (first | omega | decide)) only [go_sem, ↓reduceIte, seval, g1, e2]
    | true =>
      by_cases e3 : 1 ≤ rank
      · have e3' : ¬ rank < 1 := by omega
        by_cases e4 : rank ≤ 1099511627776
        · have e4' : ¬ 1099511627776 < rank := by omega
          by_cases e5 : 0 ≤ prio
          · have e5' : ¬ prio < 0 := by omega
            by_cases e6 : prio ≤ 255
            · have e6' : ¬ 255 < prio := by omega
              by_cases e7 : body.length ≤ 64
              · have e7' : (body.length : Int) ≤ 64 := by omega
                cases dead <;> cases e8 : body == [] <;> simp -implicitDefEqProofs (disch := (first | omega | decide)) only [go_sem, ↓reduceIte, seval, g1, e2, e3, e4, e5, e6, e7, e3', e4', e5', e6', e7', e8]
              · have e7' : ¬ (body.length : Int) ≤ 64 := by omega
                simp -implicitDefEqProofs (disch := (first | omega | decide)) only [go_sem, ↓reduceIte, seval, g1, e2, e3, e4, e5, e6, e7, e3', e4', e5', e6', e7']
            · have e6' : 255 < prio := by omega
              simp -implicitDefEqProofs (disch := (first | omega | decide)) only [go_sem, ↓reduceIte, seval, g1, e2, e3, e4, e5, e6, e3', e4', e5', e6']
          · have e5' : prio < 0 := by omega
            simp -implicitDefEqProofs (disch := (first | omega | decide)) only [go_sem, ↓reduceIte, seval, g1, e2, e3, e4, e5, e3', e4', e5']
        · have e4' : 1099511627776 < rank := by omega
          simp -implicitDefEqProofs (disch := (first | omega | decide)) only [go_sem, ↓reduceIte, seval, g1, e2, e3, e4, e3', e4']
      · have e3' : rank < 1 := by omega
        simp -implicitDefEqProofs (disch := (first | omega | decide)) only [go_sem, ↓reduceIte, seval, g1, e2, e3, e3']
theorem ok_ref18_Right : codeOK Try.prog J32g Try.f27.ntmps (Try.f27.body.getD .skip) = true := by kernel_rfl
theorem c_ref18_Right (x : It) (h : x.ok) : CallA Try.prog 27 [x.enc] (· = .bool (rightI x)) := by
  refine callA_of_body J32g_ok mixed Try.func27 rfl (Nat.le_of_ble_eq_true rfl) ok_ref18_Right ?_
  unfold Try.f27
  obtain ⟨key, rep, cnt, rank, prio, dead, body⟩ := x
  obtain ⟨h1, h2⟩ := h
  simp only [It.enc] at h1 h2 ⊢
  have g1 := p_ref06_Right h1
  simp only [rightI]
  cases e1 : decide (1 ≤ key.length ∧ key.length ≤ 16) with
  | false => rw [e1] at g1; simp -implicitDefEqProofs (disch := (first | omega | decide)) only [go_sem, ↓reduceIte, seval, g1]
  | true =>
    rw [e1] at g1
    cases e2 : rightV ⟨rep, cnt⟩ with
    | false => simp -implicitDefEqProofs (disch := (first | omega | decide)) only [go_sem, ↓reduceIte, seval, g1, e2]
    | true =>
      by_cases e3 : 1 ≤ rank
      · have e3' : ¬ rank < 1 := by omega
        by_cases e4 : rank ≤ 1099511627776
        · have e4' : ¬ 1099511627776 < rank := by omega
          by_cases e5 : 0 ≤ prio
          · have e5' : ¬ prio < 0 := by omega
            by_cases e6 : prio ≤ 255
            · have e6' : ¬ 255 < prio := by omega
              have e8' : decide ((0 : Int) < (body.length : Int)) = !(body == []) := by
                cases body with
                | nil => rfl
                | cons a b => simp
              by_cases e7 : body.length ≤ 64
              · have e7' : (body.length : Int) ≤ 64 := by omega
                cases dead <;> cases e8 : body == [] <;> rw [e8] at e8' <;> simp -implicitDefEqProofs (disch := (first | omega | decide)) only [go_sem, ↓reduceIte, seval, g1, e2, e3, e4, e5, e6, e7, e3', e4', e5', e6', e7', e8, e8']
              · have e7' : ¬ (body.length : Int) ≤ 64 := by omega
                simp -implicitDefEqProofs (disch := (first | omega | decide)) only [go_sem, ↓reduceIte, seval, g1, e2, e3, e4, e5, e6, e7, e3', e4', e5', e6', e7']
            · have e6' : 255 < prio := by omega
              simp -implicitDefEqProofs (disch := (first | omega | decide)) only [go_sem, ↓reduceIte, seval, g1, e2, e3, e4, e5, e6, e3', e4', e5', e6']
          · have e5' : prio < 0 := by omega
            simp -implicitDefEqProofs (disch := (first | omega | decide)) only [go_sem, ↓reduceIte, seval, g1, e2, e3, e4, e5, e3', e4', e5']
        · have e4' : 1099511627776 < rank := by omega
          simp -implicitDefEqProofs (disch := (first | omega | decide)) only [go_sem, ↓reduceIte, seval, g1, e2, e3, e4, e3', e4']
      · have e3' : rank < 1 := by omega
        simp -implicitDefEqProofs (disch := (first | omega | decide)) only [go_sem, ↓reduceIte, seval, g1, e2, e3, e3']
noncomputable def T18a : Tab := J32g.add 39 (entry (fun (x : It) => [x.enc]) (fun x => x.ok) (fun x => .bool (rightI x)))
theorem T18a_ok : TabOK Try.prog T18a := J32g_ok.ent Try.func39 (by kernel_rfl) (by kernel_rfl) fun x h => c_item_Right x h
@[go_sem] theorem T18a_old {g : FuncId} {xs : List A} (h : g ≠ 39) : T18a.f g xs = J32g.f g xs := Tab.add_ne h
theorem T18a_item_Right (x : It) (h : x.ok) : T18a.f 39 [x.enc] = some (.bool (rightI x)) := Tab.ent_eq (Γ := J32g) (fun i j h => by simpa [Prod.ext_iff, and_assoc] using h) x h
noncomputable def T18b : Tab := T18a.add 27 (entry (fun (x : It) => [x.enc]) (fun x => x.ok) (fun x => .bool (rightI x)))
theorem T18b_ok : TabOK Try.prog T18b := T18a_ok.ent Try.func27 (by kernel_rfl) (by kernel_rfl) fun x h => c_ref18_Right x h
@[go_sem] theorem T18b_old {g : FuncId} {xs : List A} (h : g ≠ 27) : T18b.f g xs = T18a.f g xs := Tab.add_ne h
@[go_sem] theorem T18b_s : T18b.pl T18a := ⟨fun _ => rfl, fun _ => rfl, rfl, fun _ => rfl, rfl, fun _ => rfl, rfl⟩
theorem T18b_ref18_Right (x : It) (h : x.ok) : T18b.f 27 [x.enc] = some (.bool (rightI x)) := Tab.ent_eq (Γ := T18a) (fun i j h => by simpa [Prod.ext_iff, and_assoc] using h) x h
theorem i_Right {key body : List UInt8} {rep cnt rank prio : Int} {dead : Bool} (h : It.ok ⟨key, rep, cnt, rank, prio, dead, body⟩) : T18a.f 39 [.agg [.str key, .int .i64 rep, .int .i64 cnt, .int .i64 rank, .int .i64 prio, .bool dead, .str body]] = some (.bool (rightI ⟨key, rep, cnt, rank, prio, dead, body⟩)) := T18a_item_Right _ h
theorem i_rRight {key body : List UInt8} {rep cnt rank prio : Int} {dead : Bool} (h : It.ok ⟨key, rep, cnt, rank, prio, dead, body⟩) : T18b.f 27 [.agg [.str key, .int .i64 rep, .int .i64 cnt, .int .i64 rank, .int .i64 prio, .bool dead, .str body]] = some (.bool (rightI ⟨key, rep, cnt, rank, prio, dead, body⟩)) := T18b_ref18_Right _ h
theorem ok_ref18_Long : codeOK Try.prog T18b Try.f7.ntmps (Try.f7.body.getD .skip) = true := by kernel_rfl
theorem c_ref18_Long (l : List It) (m : Int) (hl : l.length ≤ 9223372036854775807) : CallA Try.prog 7 [.slc (l.map It.enc), .int .i64 m] (· = .bool (longI l m)) := by
  refine callA_of_body T18b_ok mixed Try.func7 rfl (Nat.le_of_ble_eq_true rfl) ok_ref18_Long ?_
  unfold Try.f7
  by_cases h0 : m < (l.length : Int)
  · have hh : longI l m = true := by simp [longI, h0]
    simp -implicitDefEqProofs (disch := (first | omega | decide)) only [go_sem, ↓reduceIte, seval, h0, hh, List.length_map]
  · have hh : longI l m = l.any fun x => decide (60 < x.key.length) || decide (200 < x.body.length) := by simp [longI, h0]
    simp -implicitDefEqProofs (disch := (first | omega | decide)) only [go_sem, ↓reduceIte, seval, h0, List.length_map]
    rw [hh]
    refine wpA_loop [0] (ι := {k : Nat // k ≤ l.length ∧ (l.any fun x => decide (60 < x.key.length) || decide (200 < x.body.length)) = ((l.drop k).any fun x => decide (60 < x.key.length) || decide (200 < x.body.length))}) (fun p => [(5, .int .i64 p.1), (4, .bool false)]) (fun _ => []) (fun p => l.length - p.1) ⟨0, by omega, rfl⟩ (Nat.zero_le _) ?_ ?_
    · simp -implicitDefEqProofs (disch := (first | omega | decide)) only [go_sem, ↓reduceIte, seval]
    · rintro ⟨k, hk, hd⟩
      simp only
      by_cases hlt : k < l.length
      · have hlt' : (k : Int) < (l.length : Int) := by omega
        have e1 := it_get hlt
        rw [List.drop_eq_getElem_cons hlt, List.any_cons] at hd
        generalize hx : l[k] = x at *
        obtain ⟨key, rep, cnt, rank, prio, dead, body⟩ := x
        simp only at hd e1
        by_cases h1 : 60 < key.length
        · have h1' : (60 : Int) < (key.length : Int) := by omega
          rw [decide_eq_true h1, Bool.true_or, Bool.true_or] at hd
          simp -implicitDefEqProofs (disch := (first | omega | decide)) only [go_sem, ↓reduceIte, seval, hlt', e1, h1', hd, wrap_i64, List.length_map]
        · have h1' : ¬ (60 : Int) < (key.length : Int) := by omega
          by_cases h2 : 200 < body.length
          · have h2' : (200 : Int) < (body.length : Int) := by omega
            rw [decide_eq_true h2, Bool.or_true, Bool.true_or] at hd
            simp -implicitDefEqProofs (disch := (first | omega | decide)) only [go_sem, ↓reduceIte, seval, hlt', e1, h1', h2', hd, wrap_i64, List.length_map]
          · have h2' : ¬ (200 : Int) < (body.length : Int) := by omega
            rw [decide_eq_false h1, decide_eq_false h2, Bool.or_false, Bool.false_or] at hd
            simp -implicitDefEqProofs (disch := (first | omega | decide)) only [go_sem, ↓reduceIte, seval, hlt', e1, h1', h2', wrap_i64, List.length_map]
            exact ⟨⟨k + 1, hlt, hd⟩, by simp, by show l.length - (k + 1) < l.length - k; omega⟩
      · have hlt' : ¬ (k : Int) < (l.length : Int) := by omega
        rw [List.drop_of_length_le (by omega)] at hd
        simp -implicitDefEqProofs (disch := (first | omega | decide)) only [go_sem, ↓reduceIte, seval, hlt', hd, List.length_map]
def prevI (l : List It) (k : Nat) : Option (List UInt8) := match k with | 0 => none | j + 1 => (l[j]?).map (·.key)
theorem ok_ref18_List : codeOK Try.prog T18b Try.f9.ntmps (Try.f9.body.getD .skip) = true := by kernel_rfl
theorem c_ref18_List (l : List It) (hl : l.length ≤ 4611686018427387904) (ho : okI l) : CallA Try.prog 9 [.slc (l.map It.enc)] (· = .bool (rightL18 l)) := by
  refine callA_of_body T18b_ok mixed Try.func9 rfl (Nat.le_of_ble_eq_true rfl) ok_ref18_List ?_
  unfold Try.f9
  simp -implicitDefEqProofs (disch := (first | omega | decide)) only [go_sem, ↓reduceIte, seval, List.length_map]
  refine wpA_loop [0] (ι := {k : Nat // k ≤ l.length ∧ rightL18 l = goI (prevI l k) (l.drop k)}) (fun p => [(3, .int .i64 p.1)]) (fun _ => []) (fun p => l.length - p.1) ⟨0, by omega, rfl⟩ (Nat.zero_le _) ?_ ?_
  · simp -implicitDefEqProofs (disch := (first | omega | decide)) only [go_sem, ↓reduceIte, seval]
  · rintro ⟨k, hk, hd⟩
    simp only
    by_cases hlt : k < l.length
    · have hlt' : (k : Int) < (l.length : Int) := by omega
      have e1 := it_get hlt
      have hox := ho _ (List.getElem_mem hlt)
      have hpk : prevI l (k + 1) = some l[k].key := by simp [prevI, hlt]
      rw [List.drop_eq_getElem_cons hlt] at hd
      simp only [goI] at hd
      rw [← hpk] at hd
      generalize hx : l[k] = x at *
      obtain ⟨key, rep, cnt, rank, prio, dead, body⟩ := x
      have g1 := i_rRight hox
      simp only at hd e1 hox
      cases hr : rightI ⟨key, rep, cnt, rank, prio, dead, body⟩ with
      | false =>
        rw [hr] at g1 hd
        rw [Bool.false_and, Bool.false_and] at hd
        simp -implicitDefEqProofs (disch := (first | omega | decide)) only [go_sem, ↓reduceIte, seval, hlt', e1, g1, hd, List.length_map]
      | true =>
        rw [hr] at g1 hd
        cases k with
        | zero =>
          rw [show prevI l 0 = none from rfl, Bool.true_and, Bool.true_and] at hd
          have hlt0 : (0 : Int) < (l.length : Int) := by omega
          simp -implicitDefEqProofs (disch := (first | omega | decide)) only [go_sem, ↓reduceIte, seval, hlt', hlt0, e1, g1, wrap_i64, List.length_map]
          exact ⟨⟨1, hlt, hd⟩, by simp, by show l.length - 1 < l.length - 0; omega⟩
        | succ j =>
          have hj : j < l.length := by omega
          have e2 := it_get hj
          have hoy := ho _ (List.getElem_mem hj)
          have hpj : prevI l (j + 1) = some l[j].key := by simp [prevI, hj]
          rw [hpj] at hd
          generalize hy : l[j] = y at *
          obtain ⟨key', rep', cnt', rank', prio', dead', body'⟩ := y
          simp only at hd e2 hoy
          have c0 : (0 : Int) < ((j + 1 : Nat) : Int) := by omega
          have c1 : (((j + 1 : Nat) : Int) - 1).toNat = j := by omega
          have c2 : (0 : Int) ≤ ((j + 1 : Nat) : Int) - 1 := by omega
          have c3 : ((j + 1 : Nat) : Int) - 1 < (l.length : Int) := by omega
          have g2 := p_ref06_Less (a := key') (b := key) ⟨hoy.1, hox.1⟩
          have e3 : (cmpB key' key == -1) = ltB key' key := rfl
          rw [e3] at g2
          cases hb : ltB key' key with
          | false =>
            rw [hb] at g2 hd
            rw [Bool.and_false, Bool.false_and] at hd
            simp -implicitDefEqProofs (disch := (first | omega | decide)) only [go_sem, ↓reduceIte, seval, hlt', e1, e2, g1, g2, c0, c1, c2, c3, hd, wrap_i64, List.length_map]
          | true =>
            rw [hb] at g2 hd
            rw [Bool.and_true, Bool.true_and] at hd
            simp -implicitDefEqProofs (disch := (first | omega | decide)) only [go_sem, ↓reduceIte, seval, hlt', e1, e2, g1, g2, c0, c1, c2, c3, wrap_i64, List.length_map]
            exact ⟨⟨j + 1 + 1, hlt, hd⟩, by simp, by show l.length - (j + 1 + 1) < l.length - (j + 1); omega⟩
    · have hlt' : ¬ (k : Int) < (l.length : Int) := by omega
      rw [List.drop_of_length_le (by omega)] at hd
      have hd : rightL18 l = true := hd
      simp -implicitDefEqProofs (disch := (first | omega | decide)) only [go_sem, ↓reduceIte, seval, hlt', hd, List.length_map]
noncomputable def T18c : Tab := T18b.add 7 (entry (fun (v : List It × Int) => [.slc (v.1.map It.enc), .int .i64 v.2]) (fun v => v.1.length ≤ 9223372036854775807) (fun v => .bool (longI v.1 v.2)))
theorem T18c_ok : TabOK Try.prog T18c := T18b_ok.ent Try.func7 (by kernel_rfl) (by kernel_rfl) fun v h => c_ref18_Long v.1 v.2 h
@[go_sem] theorem T18c_old {g : FuncId} {xs : List A} (h : g ≠ 7) : T18c.f g xs = T18b.f g xs := Tab.add_ne h
theorem T18c_ref18_Long (v : List It × Int) (h : v.1.length ≤ 9223372036854775807) : T18c.f 7 [.slc (v.1.map It.enc), .int .i64 v.2] = some (.bool (longI v.1 v.2)) := Tab.ent_eq (Γ := T18b) (fun i j h => by simpa [Prod.ext_iff, and_assoc] using h) v h
noncomputable def T18d : Tab := T18c.add 9 (entry (fun (l : List It) => [.slc (l.map It.enc)]) (fun l => l.length ≤ 4611686018427387904 ∧ okI l) (fun l => .bool (rightL18 l)))
theorem T18d_ok : TabOK Try.prog T18d := T18c_ok.ent Try.func9 (by kernel_rfl) (by kernel_rfl) fun l h => c_ref18_List l h.1 h.2
@[go_sem] theorem T18d_old {g : FuncId} {xs : List A} (h : g ≠ 9) : T18d.f g xs = T18c.f g xs := Tab.add_ne h
@[go_sem] theorem T18d_s : T18d.pl T18c := ⟨fun _ => rfl, fun _ => rfl, rfl, fun _ => rfl, rfl, fun _ => rfl, rfl⟩
theorem T18d_ref18_List (l : List It) (h : l.length ≤ 4611686018427387904 ∧ okI l) : T18d.f 9 [.slc (l.map It.enc)] = some (.bool (rightL18 l)) := Tab.ent_eq (Γ := T18c) (fun i j h => by simpa [Prod.ext_iff, and_assoc] using h) l h
theorem i_rLong {l : List It} {m : Int} (h : l.length ≤ 9223372036854775807) : T18c.f 7 [.slc (l.map It.enc), .int .i64 m] = some (.bool (longI l m)) := T18c_ref18_Long (l, m) h
theorem i_rList {l : List It} (h : l.length ≤ 4611686018427387904 ∧ okI l) : T18d.f 9 [.slc (l.map It.enc)] = some (.bool (rightL18 l)) := T18d_ref18_List l h
theorem ok_item_List : codeOK Try.prog T18d Try.f23.ntmps (Try.f23.body.getD .skip) = true := by kernel_rfl
theorem c_item_List (l : List It) (hl : l.length ≤ 4611686018427387904) (ho : okI l) : CallA Try.prog 23 [.slc (l.map It.enc)] (· = .bool (rightL18 l)) := by
  refine callA_of_body T18d_ok mixed Try.func23 rfl (Nat.le_of_ble_eq_true rfl) ok_item_List ?_
  unfold Try.f23
  simp -implicitDefEqProofs (disch := (first | omega | decide)) only [go_sem, ↓reduceIte, seval, List.length_map]
  refine wpA_loop [0, 5, 6] (ι := {k : Nat // k ≤ l.length ∧ rightL18 l = goI (prevI l k) (l.drop k)}) (fun p => [(7, .int .i64 p.1)]) (fun _ => []) (fun p => l.length - p.1) ⟨0, by omega, rfl⟩ (Nat.zero_le _) ?_ ?_
  · simp -implicitDefEqProofs (disch := (first | omega | decide)) only [go_sem, ↓reduceIte, seval]
  · rintro ⟨k, hk, hd⟩
    simp only
    by_cases hlt : k < l.length
    · have hlt' : (k : Int) < (l.length : Int) := by omega
      have e1 := it_get hlt
      have hox := ho _ (List.getElem_mem hlt)
      have hpk : prevI l (k + 1) = some l[k].key := by simp [prevI, hlt]
      rw [List.drop_eq_getElem_cons hlt] at hd
      simp only [goI] at hd
      rw [← hpk] at hd
      generalize hx : l[k] = x at *
      obtain ⟨key, rep, cnt, rank, prio, dead, body⟩ := x
      have g1 := i_Right hox
      simp only at hd e1 hox
      cases hr : rightI ⟨key, rep, cnt, rank, prio, dead, body⟩ with
      | false =>
        rw [hr] at g1 hd
        rw [Bool.false_and, Bool.false_and] at hd
        simp -implicitDefEqProofs (disch := (first | omega | decide)) only [go_sem, ↓reduceIte, seval, hlt', e1, g1, hd, List.length_map]
      | true =>
        rw [hr] at g1 hd
        cases k with
        | zero =>
          rw [show prevI l 0 = none from rfl, Bool.true_and, Bool.true_and] at hd
          have hlt0 : (0 : Int) < (l.length : Int) := by omega
          simp -implicitDefEqProofs (disch := (first | omega | decide)) only [go_sem, ↓reduceIte, seval, hlt', hlt0, e1, g1, wrap_i64, List.length_map]
          exact ⟨⟨1, hlt, hd⟩, by simp, by show l.length - 1 < l.length - 0; omega⟩
        | succ j =>
          have hj : j < l.length := by omega
          have e2 := it_get hj
          have hoy := ho _ (List.getElem_mem hj)
          have hpj : prevI l (j + 1) = some l[j].key := by simp [prevI, hj]
          rw [hpj] at hd
          generalize hy : l[j] = y at *
          obtain ⟨key', rep', cnt', rank', prio', dead', body'⟩ := y
          simp only at hd e2 hoy
          have c0 : (0 : Int) < ((j + 1 : Nat) : Int) := by omega
          have c1 : (((j + 1 : Nat) : Int) - 1).toNat = j := by omega
          have c2 : (0 : Int) ≤ ((j + 1 : Nat) : Int) - 1 := by omega
          have c3 : ((j + 1 : Nat) : Int) - 1 < (l.length : Int) := by omega
          have g2 := p_key_Cmp (a := key') (b := key) ⟨hoy.1, hox.1⟩
          cases hb : ltB key' key with
          | false =>
            rw [hb] at hd
            rw [Bool.and_false, Bool.false_and] at hd
            simp -implicitDefEqProofs (disch := (first | omega | decide)) only [go_sem, ↓reduceIte, seval, hlt', e1, e2, g1, g2, hb, c0, c1, c2, c3, hd, wrap_i64, List.length_map]
          | true =>
            rw [hb] at hd
            rw [Bool.and_true, Bool.true_and] at hd
            simp -implicitDefEqProofs (disch := (first | omega | decide)) only [go_sem, ↓reduceIte, seval, hlt', e1, e2, g1, g2, hb, c0, c1, c2, c3, wrap_i64, List.length_map]
            exact ⟨⟨j + 1 + 1, hlt, hd⟩, by simp, by show l.length - (j + 1 + 1) < l.length - (j + 1); omega⟩
    · have hlt' : ¬ (k : Int) < (l.length : Int) := by omega
      rw [List.drop_of_length_le (by omega)] at hd
      have hd : rightL18 l = true := hd
      simp -implicitDefEqProofs (disch := (first | omega | decide)) only [go_sem, ↓reduceIte, seval, hlt', hd, List.length_map]
def sameI (a b : List It) : Bool := decide (a = b)
theorem sameI_len {a b : List It} (h : a.length ≠ b.length) : sameI a b = false := decide_eq_false fun e => h (by rw [e])
theorem sameI_cons (x y : It) (a b : List It) : sameI (x :: a) (y :: b) = (decide (x = y) && sameI a b) := by
  unfold sameI; rw [Bool.eq_iff_iff]; simp
theorem it_eq {x y : It} : decide (x = y) = (x.key == y.key && (x.rep == y.rep && (x.cnt == y.cnt && (x.rank == y.rank && (x.prio == y.prio && (x.dead == y.dead && x.body == y.body)))))) := by
  obtain ⟨a, b, c, d, e, f, g⟩ := x
  obtain ⟨a', b', c', d', e', f', g'⟩ := y
  rw [Bool.eq_iff_iff, decide_eq_true_iff]
  simp [and_assoc]
theorem ok_ref18_Same : codeOK Try.prog T18d Try.f19.ntmps (Try.f19.body.getD .skip) = true := by kernel_rfl
theorem c_ref18_Same (a b : List It) (ha : a.length ≤ 4611686018427387904) (hb : b.length ≤ 4611686018427387904) : CallA Try.prog 19 [.slc (a.map It.enc), .slc (b.map It.enc)] (· = .bool (sameI a b)) := by
  refine callA_of_body T18d_ok mixed Try.func19 rfl (Nat.le_of_ble_eq_true rfl) ok_ref18_Same ?_
  unfold Try.f19
  cases h0 : ((a.length : Int) == (b.length : Int)) with
  | false =>
    have hne : a.length ≠ b.length := fun e => by rw [e] at h0; simp at h0
    rw [sameI_len hne]
    simp -implicitDefEqProofs (disch := (first | omega | decide)) only [go_sem, ↓reduceIte, seval, h0, List.length_map]
  | true =>
    have hlen : a.length = b.length := by simp at h0; omega
    simp -implicitDefEqProofs (disch := (first | omega | decide)) only [go_sem, ↓reduceIte, seval, h0, List.length_map]
    refine wpA_loop [0, 1] (ι := {k : Nat // k ≤ a.length ∧ sameI a b = sameI (a.drop k) (b.drop k)}) (fun p => [(5, .int .i64 p.1)]) (fun _ => []) (fun p => a.length - p.1) ⟨0, by omega, rfl⟩ (Nat.zero_le _) ?_ ?_
    · simp -implicitDefEqProofs (disch := (first | omega | decide)) only [go_sem, ↓reduceIte, seval]
    · rintro ⟨k, hk, hd⟩
      simp only
      by_cases hlt : k < a.length
      · have hlt' : (k : Int) < (a.length : Int) := by omega
        have hltb : k < b.length := by omega
        have hltb' : (k : Int) < (b.length : Int) := by omega
        have p1 : (0 : Int) ≤ (k : Int) := by omega
        have t1 : ((k : Nat) : Int).toNat = k := Int.toNat_natCast _
        have e1 := it_get hlt
        have e2 := it_get hltb
        rw [List.drop_eq_getElem_cons hlt, List.drop_eq_getElem_cons hltb] at hd
        rw [sameI_cons, it_eq] at hd
        generalize a[k] = x at *
        generalize b[k] = y at *
        cases k1 : (x.key == y.key && (x.rep == y.rep && (x.cnt == y.cnt && (x.rank == y.rank && (x.prio == y.prio && (x.dead == y.dead && x.body == y.body)))))) with
        | false =>
          rw [k1, Bool.false_and] at hd
          rw [hd]
          simp -implicitDefEqProofs (disch := (first | omega | decide)) only [go_sem, ↓reduceIte, seval, hlt', hltb', p1, t1, e1, e2, k1, List.length_map]
        | true =>
          rw [k1, Bool.true_and] at hd
          simp -implicitDefEqProofs (disch := (first | omega | decide)) only [go_sem, ↓reduceIte, seval, hlt', hltb', p1, t1, e1, e2, k1, wrap_i64, List.length_map]
          exact ⟨⟨k + 1, hlt, hd⟩, by simp, by show a.length - (k + 1) < a.length - k; omega⟩
      · have hlt' : ¬ (k : Int) < (a.length : Int) := by omega
        rw [List.drop_of_length_le (by omega), List.drop_of_length_le (by omega)] at hd
        have hd : sameI a b = true := hd
        rw [hd]
        simp -implicitDefEqProofs (disch := (first | omega | decide)) only [go_sem, ↓reduceIte, seval, hlt', List.length_map]
end Go.Proofs.Ytjnpfbohnpjckaa
namespace Go.Abs
end Go.Abs
namespace Go.Proofs.Ytjnpfbohnpjckaa
open Go.Abs
set_option linter.unusedSimpArgs false
set_option linter.unusedVariables false
set_option maxRecDepth 20000
set_option maxHeartbeats 16000000
def vb (n : Nat) : List UInt8 := if n < 128 then [UInt8.ofNat n] else UInt8.ofNat (n % 128 + 128) :: vb (n / 128)
termination_by n
decreasing_by omega
theorem vb_lt {n : Nat} (h : n < 128) : vb n = [UInt8.ofNat n] := by rw [vb, if_pos h]
theorem vb_ge {n : Nat} (h : ¬ n < 128) : vb n = UInt8.ofNat (n % 128 + 128) :: vb (n / 128) := by rw [vb, if_neg h]
theorem vb_len : ∀ (k n : Nat), n < 128 ^ (k + 1) → (vb n).length ≤ k + 1
  | 0, n, h => by rw [vb_lt (by simpa using h)]; simp
  | k + 1, n, h => by
    by_cases h1 : n < 128
    · rw [vb_lt h1]; simp
    · rw [vb_ge h1]
      have := vb_len k (n / 128) (by rw [Nat.pow_succ] at h; exact Nat.div_lt_of_lt_mul (by rw [Nat.mul_comm]; exact h))
      simp; omega
theorem vb_bound {n : Nat} (h : n ≤ 9223372036854775807) : (vb n).length ≤ 10 := by
  have := vb_len 9 n (Nat.lt_of_le_of_lt h (by decide))
  omega
theorem byte_at {l : List UInt8} {k : Nat} (h : k < l.length) : (bytesA l)[k]? = some (.int .u8 l[k].toNat) := by
  simp [bytesA, encU8, h]
theorem row_byte (l : List UInt8) (c : UInt8) : bytesA l ++ [.int .u8 (c.toNat : Int)] = bytesA (l ++ [c]) := by simp [bytesA, encU8]
theorem bytes_app (l m : List UInt8) : bytesA (l ++ m) = bytesA l ++ bytesA m := by simp [bytesA]
@[go_sem] theorem take_byte {l : List UInt8} : List.take l.length (bytesA l) = bytesA l := List.take_of_length_le (by simp [bytesA])
theorem len_byte (l : List UInt8) : (bytesA l).length = l.length := by simp [bytesA]
theorem ofNat8 {n : Nat} (h : n < 256) : ((UInt8.ofNat n).toNat : Int) = (n : Int) := by
  have : (UInt8.ofNat n).toNat = n := by simp [UInt8.toNat_ofNat, Nat.mod_eq_of_lt h]
  rw [this]
noncomputable def H32o : Tab := { T18d with nf := 1 }
theorem H32o_ok : TabOK Try.prog H32o := ⟨T18d_ok.f, T18d_ok.hp⟩
@[go_sem] theorem H32o_fix {n : Nat} : H32o.fix n = false := rfl
@[go_sem] theorem H32o_ords {n : Nat} : H32o.ords n = [] := rfl
theorem wrap_u8_128 {n : Nat} (h : n < 128) : IntKind.u8.wrap (IntKind.u8.wrap (n : Int) + 128) = ((UInt8.ofNat (n + 128)).toNat : Int) := by
  have a : IntKind.u8.wrap (n : Int) = (n : Int) := wrap_u8 (by omega)
  rw [a, wrap_u8 (by omega), ofNat8 (by omega)]; omega
theorem ok_varint_one : codeOK Try.prog H32o Try.f90.ntmps (Try.f90.body.getD .skip) = true := by kernel_rfl
theorem h_one (b : List UInt8) (n : Nat) (hb : b.length ≤ 1000000) (hn : n ≤ 9223372036854775807) : CallH Try.prog 90 [.row 0 0 1 b.length false, .int .i64 n] [.row 1 (bytesA b)] (.row 0 0 1 (b ++ vb n).length false) [.row 1 (bytesA (b ++ vb n))] [0] := by
  refine callH_of_body H32o_ok mixed Try.func90 rfl (Nat.le_of_ble_eq_true rfl) (by intro n h h'; simp at h h'; omega) (by exact Nat.le_refl _) (Nat.le_refl _) ok_varint_one ?_
  unfold Try.f90
  have hlb := vb_bound hn
  have hll : (b ++ vb n).length ≤ 1000010 := by rw [List.length_append]; omega
  generalize hR : b ++ vb n = R at *
  simp -implicitDefEqProofs (disch := (first | omega | decide)) only [go_sem, ↓reduceIte, seval]
  refine wpA_loop [] (ι := {p : List UInt8 × Nat // p.1 ++ vb p.2 = R ∧ p.2 ≤ n}) (fun p => [(0, .row 0 0 1 p.1.1.length false), (1, .int .i64 p.1.2)]) (fun p => [(0, .row 1 (bytesA p.1.1))]) (fun p => p.1.2) ⟨(b, n), hR, Nat.le_refl _⟩ (by exact Nat.le_refl _) ?_ ?_
  · simp -implicitDefEqProofs (disch := (first | omega | decide)) only [go_sem, ↓reduceIte, seval]
  · rintro ⟨⟨c, m⟩, h1, h2⟩
    simp only at h1 h2 ⊢
    have hcl : c.length ≤ 1000010 := by have := congrArg List.length h1; rw [List.length_append] at this; omega
    by_cases hm : m < 128
    · have q1 : ¬ (128 : Int) ≤ (m : Int) := by omega
      rw [vb_lt hm] at h1
      have q2 : IntKind.u8.wrap (m : Int) = ((UInt8.ofNat m).toNat : Int) := by rw [wrap_u8 (by omega), ofNat8 (by omega)]
      simp -implicitDefEqProofs (disch := (first | omega | decide)) only [go_sem, ↓reduceIte, seval, q1, q2, len_byte]
      have e : bytesA c ++ [.int .u8 ((UInt8.ofNat m).toNat : Int)] = bytesA R := by rw [row_byte, h1]
      exact ⟨⟨Nat.le_refl _, by omega⟩, by rw [← h1]; simp, e⟩
    · have q1 : (128 : Int) ≤ (m : Int) := by omega
      rw [vb_ge hm] at h1
      have q2 : (m : Int).tmod 128 = ((m % 128 : Nat) : Int) := by rw [Int.tmod_eq_emod_of_nonneg (by omega)]; omega
      have q3 := wrap_u8_128 (n := m % 128) (by omega)
      have q4 : IntKind.i64.wrap ((m : Int).tdiv 128) = ((m / 128 : Nat) : Int) := by rw [Int.tdiv_eq_ediv_of_nonneg (by omega), wrap_i64 (by omega)]; omega
      simp -implicitDefEqProofs (disch := (first | omega | decide)) only [go_sem, ↓reduceIte, seval, q1, q2, q3, q4, len_byte]
      exact ⟨⟨Nat.le_refl _, by omega⟩, ⟨(c ++ [UInt8.ofNat (m % 128 + 128)], m / 128), by rw [List.append_assoc]; exact h1, by simp only; omega⟩, ⟨⟨by simp, rfl⟩, row_byte _ _⟩, by show m / 128 < m; omega⟩
noncomputable def H32a : Tab := T18d.addH 90 (entryH (fun v : List UInt8 × Nat => [.row 0 0 1 v.1.length false, .int .i64 v.2]) (fun v => [.row 1 (bytesA v.1)]) (fun v => v.1.length ≤ 1000000 ∧ v.2 ≤ 9223372036854775807) (fun v => (.row 0 0 1 (v.1 ++ vb v.2).length false, [.row 1 (bytesA (v.1 ++ vb v.2))], [0])))
theorem H32a_ok : TabOK Try.prog H32a := T18d_ok.addH (callable_of Try.func90 (by kernel_rfl) (by kernel_rfl)) (entryH_ok fun v h => h_one v.1 v.2 h.1 h.2)
noncomputable def H32b : Tab := { H32a with eff := fun f => f == 90 }
theorem H32b_ok : TabOK Try.prog H32b := ⟨H32a_ok.f, H32a_ok.hp⟩
@[go_sem] theorem H32b_eff {g : FuncId} : H32b.eff g = (g == 90) := rfl
@[go_sem] theorem H32b_frz {g : FuncId} : H32b.frz g = false := rfl
@[go_sem] theorem H32b_fix {n : Nat} : H32b.fix n = false := rfl
@[go_sem] theorem H32b_ords {n : Nat} : H32b.ords n = [] := rfl
theorem bytesA_inj {a b : List UInt8} (h : bytesA a = bytesA b) : a = b := by
  have h1 := congrArg bytesOfA h
  rw [bytesOfA_bytesA, bytesOfA_bytesA] at h1
  exact Option.some.inj h1
theorem g_one {b : List UInt8} {n : Nat} (h : b.length ≤ 1000000 ∧ n ≤ 9223372036854775807) : H32b.hp 90 [.row 0 0 1 b.length false, .int .i64 n] [.row 1 (bytesA b)] = some (.row 0 0 1 (b ++ vb n).length false, [.row 1 (bytesA (b ++ vb n))], [0]) := by
  have h2 : H32a.hp 90 [.row 0 0 1 b.length false, .int .i64 n] [.row 1 (bytesA b)] = _ := Tab.addH_eq
  exact h2.trans (entryH_eq (enc := fun v : List UInt8 × Nat => [.row 0 0 1 v.1.length false, .int .i64 v.2]) (obs := fun v => [.row 1 (bytesA v.1)]) (fun a b e e' => by
    obtain ⟨a1, a2⟩ := a
    obtain ⟨b1, b2⟩ := b
    simp at e e'
    have := bytesA_inj e'
    subst this
    rw [show a2 = b2 by omega]) (b, n) h)
theorem stB (l : List UInt8) : ((bytesA l).isEmpty || strideOf (bytesA l) == 1) = true := by cases l <;> rfl
theorem ok_varint_Text : codeOK Try.prog H32b Try.f75.ntmps (Try.f75.body.getD .skip) = true := by kernel_rfl
theorem c_varint_Text (b s : List UInt8) (hb : b.length ≤ 1000) (hs : s.length ≤ 100000) : CallA Try.prog 75 [.slc (bytesA b), .slc [.str s]] (· = .slc (bytesA (b ++ (vb s.length ++ s)))) := by
  refine callA_of_body H32b_ok mixed Try.func75 rfl (Nat.le_of_ble_eq_true rfl) ok_varint_Text ?_
  unfold Try.f75
  have st := stB b
  have g1 := g_one (b := b) (n := s.length) ⟨by omega, by omega⟩
  have hl := vb_bound (n := s.length) (by omega)
  have hl2 : (b ++ vb s.length).length ≤ 1010 := by rw [List.length_append]; omega
  have e0 : bytesA (b ++ (vb s.length ++ s)) = bytesA (b ++ vb s.length) ++ bytesA s := by rw [← bytes_app, List.append_assoc]
  rw [e0]
  clear e0
  generalize b ++ vb s.length = R at *
  simp -implicitDefEqProofs (disch := (first | omega | decide)) only [go_sem, ↓reduceIte, seval, st, len_byte]
  refine ⟨by omega, ?_⟩
  refine wpA_loop [1, 11, 12] (ι := {p : Nat × List UInt8 // (p.1 = 0 ∧ p.2 = b) ∨ (p.1 = 1 ∧ p.2 = R ++ s)}) (fun p => [(13, .int .i64 p.1.1), (5, .row 0 0 1 p.1.2.length false)]) (fun p => [(0, .row 1 (bytesA p.1.2))]) (fun p => 1 - p.1.1) ⟨(0, b), .inl ⟨rfl, rfl⟩⟩ (Nat.zero_le _) ?_ ?_
  · simp -implicitDefEqProofs (disch := (first | omega | decide)) only [go_sem, ↓reduceIte, seval]
  · rintro ⟨⟨k, c⟩, h | h⟩
    · obtain ⟨h1, h2⟩ := h
      simp only at h1 h2
      subst h1
      subst h2
      simp -implicitDefEqProofs (disch := (first | omega | decide)) only [go_sem, ↓reduceIte, seval, g1, len_byte, wrap_i64]
      refine ⟨⟨Nat.le_refl _, by omega⟩, ⟨(1, R ++ s), .inr ⟨rfl, rfl⟩⟩, ⟨by simp, by rw [bytes_app]⟩, by simp⟩
    · obtain ⟨h1, h2⟩ := h
      simp only at h1 h2
      subst h1
      subst h2
      have tk : List.take (R ++ s).length (bytesA (R ++ s)) = bytesA R ++ bytesA s := by rw [take_byte, bytes_app]
      simp -implicitDefEqProofs (disch := (first | omega | decide)) only [go_sem, ↓reduceIte, seval, tk, len_byte, Nat.le_refl]
def Nat.toA (n : Nat) : A := .int .i64 (n : Int)
theorem nat_get {l : List Nat} {k : Nat} (h : k < l.length) : (l.map Nat.toA)[k]? = some (.int .i64 (l[k] : Int)) := by
  rw [List.getElem?_map, List.getElem?_eq_getElem h]; rfl
def vbs (ns : List Nat) : List UInt8 := ns.flatMap vb
theorem vbs_snoc {l : List Nat} {k : Nat} (h : k < l.length) : vbs (l.take (k + 1)) = vbs (l.take k) ++ vb l[k] := by
  unfold vbs
  rw [← List.take_append_getElem h, List.flatMap_append]; simp
theorem vbs_len {l : List Nat} (h : ∀ n ∈ l, n ≤ 9223372036854775807) : (vbs l).length ≤ 10 * l.length := by
  induction l with
  | nil => simp [vbs]
  | cons n l ih =>
    have h1 := vb_bound (h n (by simp))
    have h2 := ih fun m hm => h m (by simp [hm])
    have e : vbs (n :: l) = vb n ++ vbs l := by simp [vbs]
    rw [e, List.length_append, List.length_cons]; omega
theorem ok_varint_Put : codeOK Try.prog H32b Try.f98.ntmps (Try.f98.body.getD .skip) = true := by kernel_rfl
theorem c_varint_Put (b : List UInt8) (ns : List Nat) (hb : b.length ≤ 1000) (hns : ns.length ≤ 100) (hn : ∀ n ∈ ns, n ≤ 281474976710656) : CallA Try.prog 98 [.slc (bytesA b), .slc (ns.map Nat.toA)] (· = .tup [.slc (bytesA (b ++ vbs ns)), .int .i64 0]) := by
  refine callA_of_body H32b_ok mixed Try.func98 rfl (Nat.le_of_ble_eq_true rfl) ok_varint_Put ?_
  unfold Try.f98
  have st := stB b
  simp -implicitDefEqProofs (disch := (first | omega | decide)) only [go_sem, ↓reduceIte, seval, List.length_map]
  refine wpA_loop [0, 1, 11, 12] (ι := {k : Nat // k ≤ ns.length}) (fun p => [(13, .int .i64 p.1)]) (fun _ => []) (fun p => ns.length - p.1) ⟨0, by omega⟩ (Nat.zero_le _) ?_ ?_
  · simp -implicitDefEqProofs (disch := (first | omega | decide)) only [go_sem, ↓reduceIte, seval]
    try rfl
  · rintro ⟨k, hk⟩
    simp only
    by_cases hlt : k < ns.length
    · have q1 : (k : Int) < (ns.length : Int) := by omega
      have q2 : (0 : Int) ≤ (k : Int) := by omega
      have q3 : ((k : Nat) : Int).toNat = k := Int.toNat_natCast _
      have q4 : IntKind.i64.wrap ((k : Int) + 1) = (k : Int) + 1 := by rw [wrap_i64]; omega
      have e1 := nat_get hlt
      have hm := hn _ (List.getElem_mem hlt)
      generalize ns[k] = x at *
      have r1 : ¬ (x : Int) < 0 := by omega
      have r2 : ¬ (281474976710656 : Int) < (x : Int) := by omega
      simp -implicitDefEqProofs (disch := (first | omega | decide)) only [go_sem, ↓reduceIte, seval, q1, q2, q3, q4, e1, r1, r2, List.length_map]
      exact ⟨⟨k + 1, hlt⟩, by simp, by show ns.length - (k + 1) < ns.length - k; omega⟩
    · have q1 : ¬ (k : Int) < (ns.length : Int) := by omega
      simp -implicitDefEqProofs (disch := (first | omega | decide)) only [go_sem, ↓reduceIte, seval, q1, st, len_byte, List.length_map]
      refine ⟨by omega, ?_⟩
      refine wpA_loop [1, 27, 28] (ι := {k : Nat // k ≤ ns.length}) (fun p => [(29, .int .i64 p.1), (8, .row 0 0 1 (b ++ vbs (ns.take p.1)).length false)]) (fun p => [(0, .row 1 (bytesA (b ++ vbs (ns.take p.1))))]) (fun p => ns.length - p.1) ⟨0, by omega⟩ (Nat.zero_le _) ?_ ?_
      · simp -implicitDefEqProofs (disch := (first | omega | decide)) only [go_sem, ↓reduceIte, seval]
        first | done | (simp [vbs]; done)
      · rintro ⟨k, hk⟩
        simp only
        have hvl := vbs_len (l := ns.take k) (fun n h => by have := hn n (List.mem_of_mem_take h); omega)
        rw [List.length_take] at hvl
        have hol : (b ++ vbs (ns.take k)).length ≤ 3000 := by rw [List.length_append]; omega
        by_cases hlt : k < ns.length
        · have q1 : (k : Int) < (ns.length : Int) := by omega
          have q2 : (0 : Int) ≤ (k : Int) := by omega
          have q3 : ((k : Nat) : Int).toNat = k := Int.toNat_natCast _
          have q4 : IntKind.i64.wrap ((k : Int) + 1) = (k : Int) + 1 := by rw [wrap_i64]; omega
          have e1 := nat_get hlt
          have hm := hn _ (List.getElem_mem hlt)
          have hsn := vbs_snoc hlt
          generalize ns[k] = x at *
          have g1 := g_one (b := b ++ vbs (ns.take k)) (n := x) ⟨by omega, by omega⟩
          have e2 : b ++ vbs (ns.take (k + 1)) = b ++ vbs (ns.take k) ++ vb x := by rw [hsn, List.append_assoc]
          generalize b ++ vbs (ns.take k) = O at *
          generalize O ++ vb x = O' at *
          simp -implicitDefEqProofs (disch := (first | omega | decide)) only [go_sem, ↓reduceIte, seval, q1, q2, q3, q4, e1, g1, List.length_map]
          exact ⟨⟨k + 1, hlt⟩, ⟨⟨by simp, by rw [e2]⟩, by rw [e2]⟩, by show ns.length - (k + 1) < ns.length - k; omega⟩
        · have q1 : ¬ (k : Int) < (ns.length : Int) := by omega
          have e0 : ns.take k = ns := List.take_of_length_le (by omega)
          rw [e0] at *
          generalize b ++ vbs ns = O at *
          simp -implicitDefEqProofs (disch := (first | omega | decide)) only [go_sem, ↓reduceIte, seval, q1, len_byte, List.length_map, Nat.le_refl]
theorem natA_inj {a b : List Nat} (h : a.map Nat.toA = b.map Nat.toA) : a = b := by
  have hinj : ∀ x y : Nat, Nat.toA x = Nat.toA y → x = y := fun x y h => by simp [Nat.toA] at h; omega
  rw [map_inj hinj] at h
  exact h
noncomputable def H32c : Tab := T18d.add 75 (entry (fun v : List UInt8 × List UInt8 => [.slc (bytesA v.1), .slc [.str v.2]]) (fun v => v.1.length ≤ 1000 ∧ v.2.length ≤ 100000) (fun v => .slc (bytesA (v.1 ++ (vb v.2.length ++ v.2)))))
theorem H32c_ok : TabOK Try.prog H32c := T18d_ok.ent Try.func75 (by kernel_rfl) (by kernel_rfl) fun v h => c_varint_Text v.1 v.2 h.1 h.2
@[go_sem] theorem H32c_old {g : FuncId} {xs : List A} (h : g ≠ 75) : H32c.f g xs = T18d.f g xs := Tab.add_ne h
theorem g_Text {b s : List UInt8} (h : b.length ≤ 1000 ∧ s.length ≤ 100000) : H32c.f 75 [.slc (bytesA b), .slc [.str s]] = some (.slc (bytesA (b ++ (vb s.length ++ s)))) :=
  Tab.ent_eq (Γ := T18d) (g := 75) (enc := fun v : List UInt8 × List UInt8 => [.slc (bytesA v.1), .slc [.str v.2]]) (ok := fun v => v.1.length ≤ 1000 ∧ v.2.length ≤ 100000) (spec := fun v => .slc (bytesA (v.1 ++ (vb v.2.length ++ v.2)))) (fun i j h => by
    simp at h
    exact Prod.ext (bytesA_inj h.1) h.2) (b, s) h
noncomputable def H32d : Tab := H32c.add 98 (entry (fun v : List UInt8 × List Nat => [.slc (bytesA v.1), .slc (v.2.map Nat.toA)]) (fun v => v.1.length ≤ 1000 ∧ v.2.length ≤ 100 ∧ ∀ n ∈ v.2, n ≤ 281474976710656) (fun v => .tup [.slc (bytesA (v.1 ++ vbs v.2)), .int .i64 0]))
theorem H32d_ok : TabOK Try.prog H32d := H32c_ok.ent Try.func98 (by kernel_rfl) (by kernel_rfl) fun v h => c_varint_Put v.1 v.2 h.1 h.2.1 h.2.2
@[go_sem] theorem H32d_old {g : FuncId} {xs : List A} (h : g ≠ 98) : H32d.f g xs = H32c.f g xs := Tab.add_ne h
@[go_sem] theorem H32d_s : H32d.pl H32c := ⟨fun _ => rfl, fun _ => rfl, rfl, fun _ => rfl, rfl, fun _ => rfl, rfl⟩
theorem g_vPut {b : List UInt8} {ns : List Nat} (h : b.length ≤ 1000 ∧ ns.length ≤ 100 ∧ ∀ n ∈ ns, n ≤ 281474976710656) : H32d.f 98 [.slc (bytesA b), .slc (ns.map Nat.toA)] = some (.tup [.slc (bytesA (b ++ vbs ns)), .int .i64 0]) :=
  Tab.ent_eq (Γ := H32c) (g := 98) (enc := fun v : List UInt8 × List Nat => [.slc (bytesA v.1), .slc (v.2.map Nat.toA)]) (ok := fun v => v.1.length ≤ 1000 ∧ v.2.length ≤ 100 ∧ ∀ n ∈ v.2, n ≤ 281474976710656) (spec := fun v => .tup [.slc (bytesA (v.1 ++ vbs v.2)), .int .i64 0]) (fun i j h => by
    simp at h
    exact Prod.ext (bytesA_inj h.1) (natA_inj h.2)) (b, ns) h
theorem ok_icode_put : codeOK Try.prog H32d Try.f89.ntmps (Try.f89.body.getD .skip) = true := by kernel_rfl
theorem c_icode_put (b : List UInt8) (ns : List Nat) (h : b.length ≤ 1000 ∧ ns.length ≤ 100 ∧ ∀ n ∈ ns, n ≤ 281474976710656) : CallA Try.prog 89 [.slc (bytesA b), .slc (ns.map Nat.toA)] (· = .slc (bytesA (b ++ vbs ns))) := by
  refine callA_of_body H32d_ok mixed Try.func89 rfl (Nat.le_of_ble_eq_true rfl) ok_icode_put ?_
  unfold Try.f89
  have g1 := g_vPut h
  simp -implicitDefEqProofs (disch := (first | omega | decide)) only [go_sem, ↓reduceIte, seval, g1]
noncomputable def H32e : Tab := H32d.add 89 (entry (fun v : List UInt8 × List Nat => [.slc (bytesA v.1), .slc (v.2.map Nat.toA)]) (fun v => v.1.length ≤ 1000 ∧ v.2.length ≤ 100 ∧ ∀ n ∈ v.2, n ≤ 281474976710656) (fun v => .slc (bytesA (v.1 ++ vbs v.2))))
theorem H32e_ok : TabOK Try.prog H32e := H32d_ok.ent Try.func89 (by kernel_rfl) (by kernel_rfl) fun v h => c_icode_put v.1 v.2 h
@[go_sem] theorem H32e_old {g : FuncId} {xs : List A} (h : g ≠ 89) : H32e.f g xs = H32d.f g xs := Tab.add_ne h
@[go_sem] theorem H32e_s : H32e.pl H32d := ⟨fun _ => rfl, fun _ => rfl, rfl, fun _ => rfl, rfl, fun _ => rfl, rfl⟩
theorem g_iput {b : List UInt8} {ns : List Nat} (h : b.length ≤ 1000 ∧ ns.length ≤ 100 ∧ ∀ n ∈ ns, n ≤ 281474976710656) : H32e.f 89 [.slc (bytesA b), .slc (ns.map Nat.toA)] = some (.slc (bytesA (b ++ vbs ns))) :=
  Tab.ent_eq (Γ := H32d) (g := 89) (enc := fun v : List UInt8 × List Nat => [.slc (bytesA v.1), .slc (v.2.map Nat.toA)]) (ok := fun v => v.1.length ≤ 1000 ∧ v.2.length ≤ 100 ∧ ∀ n ∈ v.2, n ≤ 281474976710656) (spec := fun v => .slc (bytesA (v.1 ++ vbs v.2))) (fun i j h => by
    simp at h
    exact Prod.ext (bytesA_inj h.1) (natA_inj h.2)) (b, ns) h
def itN (x : It) : List Nat := [x.rep.toNat, x.cnt.toNat, x.rank.toNat, x.prio.toNat, if x.dead = true then 1 else 0]
def itB (x : It) : List UInt8 := vb x.key.length ++ x.key ++ (vbs (itN x) ++ (vb x.body.length ++ x.body))
theorem rightI_iff {x : It} (h : rightI x = true) : (1 ≤ x.key.length ∧ x.key.length ≤ 16) ∧ (1 ≤ x.rep ∧ x.rep ≤ 16) ∧ (1 ≤ x.cnt ∧ x.cnt ≤ 1099511627776) ∧ (1 ≤ x.rank ∧ x.rank ≤ 1099511627776) ∧ (0 ≤ x.prio ∧ x.prio ≤ 255) ∧ x.body.length ≤ 64 := by
  unfold rightI rightV at h
  simp only [Bool.and_eq_true, decide_eq_true_eq] at h
  obtain ⟨⟨⟨⟨⟨⟨⟨h1, h2⟩, h3⟩, h4⟩, h5⟩, h6⟩, h7⟩, h8⟩ := h
  try simp at h2
  omega
theorem ok_icode_rest : codeOK Try.prog H32e Try.f74.ntmps (Try.f74.body.getD .skip) = true := by kernel_rfl
theorem c_icode_rest (b : List UInt8) (x : It) (hb : b.length ≤ 100) (hx : rightI x = true) : CallA Try.prog 74 [.slc (bytesA b), x.enc] (· = .slc (bytesA (b ++ (vbs (itN x) ++ (vb x.body.length ++ x.body))))) := by
  refine callA_of_body H32e_ok mixed Try.func74 rfl (Nat.le_of_ble_eq_true rfl) ok_icode_rest ?_
  unfold Try.f74
  obtain ⟨h1, h2, h3, h4, h5, h6⟩ := rightI_iff hx
  have hok : b.length ≤ 1000 ∧ (itN x).length ≤ 100 ∧ ∀ n ∈ itN x, n ≤ 281474976710656 := by
    refine ⟨by omega, by simp [itN], fun n hn => ?_⟩
    simp only [itN, List.mem_cons, List.not_mem_nil, or_false] at hn
    rcases hn with rfl | rfl | rfl | rfl | rfl
    · omega
    · omega
    · omega
    · omega
    · split <;> omega
  have g1 := g_iput hok
  have hvl := vbs_len (l := itN x) (fun n hn => by have := hok.2.2 n hn; omega)
  have hil : (itN x).length = 5 := rfl
  have g2 := g_Text (b := b ++ vbs (itN x)) (s := x.body) ⟨by rw [List.length_append]; omega, by omega⟩
  have e0 : b ++ (vbs (itN x) ++ (vb x.body.length ++ x.body)) = b ++ vbs (itN x) ++ (vb x.body.length ++ x.body) := by simp
  rw [e0]
  generalize b ++ vbs (itN x) = R at *
  have e1 : (itN x).map Nat.toA = [.int .i64 x.rep, .int .i64 x.cnt, .int .i64 x.rank, .int .i64 x.prio, .int .i64 (if x.dead = true then 1 else 0)] := by
    simp only [itN, List.map_cons, List.map_nil, Nat.toA]
    rw [Int.toNat_of_nonneg (by omega), Int.toNat_of_nonneg (by omega), Int.toNat_of_nonneg (by omega), Int.toNat_of_nonneg (by omega)]
    congr 5
    split <;> rfl
  rw [e1] at g1
  obtain ⟨key, rep, cnt, rank, prio, dead, body⟩ := x
  try simp only at g1 g2
  try simp only [It.enc]
  clear e0 e1 hok hvl hil hx
  cases dead with
  | true =>
    simp only [if_true] at g1
    simp -implicitDefEqProofs (disch := (first | omega | decide)) only [go_sem, ↓reduceIte, seval, g1, g2]
  | false =>
    simp only [Bool.false_eq_true, if_false] at g1
    simp -implicitDefEqProofs (disch := (first | omega | decide)) only [go_sem, ↓reduceIte, seval, g1, g2]
theorem itB_eq (x : It) : itB x = [] ++ (vb x.key.length ++ x.key) ++ (vbs (itN x) ++ (vb x.body.length ++ x.body)) := rfl
noncomputable def H32f : Tab := H32e.add 74 (entry (fun v : List UInt8 × It => [.slc (bytesA v.1), v.2.enc]) (fun v => v.1.length ≤ 100 ∧ rightI v.2 = true) (fun v => .slc (bytesA (v.1 ++ (vbs (itN v.2) ++ (vb v.2.body.length ++ v.2.body))))))
theorem H32f_ok : TabOK Try.prog H32f := H32e_ok.ent Try.func74 (by kernel_rfl) (by kernel_rfl) fun v h => c_icode_rest v.1 v.2 h.1 h.2
@[go_sem] theorem H32f_old {g : FuncId} {xs : List A} (h : g ≠ 74) : H32f.f g xs = H32e.f g xs := Tab.add_ne h
@[go_sem] theorem H32f_s : H32f.pl H32e := ⟨fun _ => rfl, fun _ => rfl, rfl, fun _ => rfl, rfl, fun _ => rfl, rfl⟩
theorem g_irest {b : List UInt8} {x : It} (h : b.length ≤ 100 ∧ rightI x = true) : H32f.f 74 [.slc (bytesA b), x.enc] = some (.slc (bytesA (b ++ (vbs (itN x) ++ (vb x.body.length ++ x.body))))) :=
  Tab.ent_eq (Γ := H32e) (g := 74) (enc := fun v : List UInt8 × It => [.slc (bytesA v.1), v.2.enc]) (ok := fun v => v.1.length ≤ 100 ∧ rightI v.2 = true) (spec := fun v => .slc (bytesA (v.1 ++ (vbs (itN v.2) ++ (vb v.2.body.length ++ v.2.body))))) (fun i j h => by
    simp at h
    exact Prod.ext (bytesA_inj h.1) h.2) (b, x) h
theorem ok_icode_Item : codeOK Try.prog H32f Try.f59.ntmps (Try.f59.body.getD .skip) = true := by kernel_rfl
theorem c_icode_Item (x : It) (hx : rightI x = true) : CallA Try.prog 59 [x.enc] (· = .tup [.slc (bytesA (itB x)), .int .i64 0]) := by
  refine callA_of_body H32f_ok mixed Try.func59 rfl (Nat.le_of_ble_eq_true rfl) ok_icode_Item ?_
  unfold Try.f59
  obtain ⟨h1, h2, h3, h4, h5, h6⟩ := rightI_iff hx
  have g0 : T18a.f 39 [x.enc] = some (.bool (rightI x)) := T18a_item_Right x ⟨by omega, by omega⟩
  rw [hx] at g0
  have g1 := g_Text (b := []) (s := x.key) ⟨by simp, by omega⟩
  have hvl := vb_bound (n := x.key.length) (by omega)
  have g2 := g_irest (b := [] ++ (vb x.key.length ++ x.key)) (x := x) ⟨by simp; omega, hx⟩
  rw [itB_eq]
  have eb : bytesA [] = [] := rfl
  rw [eb] at g1
  generalize ([] : List UInt8) ++ (vb x.key.length ++ x.key) = R at *
  generalize R ++ (vbs (itN x) ++ (vb x.body.length ++ x.body)) = R2 at *
  obtain ⟨key, rep, cnt, rank, prio, dead, body⟩ := x
  simp only [It.enc] at g0 g2 ⊢
  simp only at g1
  clear hx h1 h2 h3 h4 h5 h6 hvl eb
  simp -implicitDefEqProofs (disch := (first | omega | decide)) only [go_sem, ↓reduceIte, seval, g0, g1, g2]
def xo (a b : Int) : Int := IntKind.u64.wrap ((BitVec.ofInt 64 a ^^^ BitVec.ofInt 64 b).toNat)
def hst (h : Int) (c : UInt8) : Int := IntKind.u64.wrap (xo h c.toNat * 1099511628211)
def hfold (seed : Int) (b : List UInt8) : Int := b.foldl hst (xo 14695981039346656037 seed)
def hend (h : Int) : Int := xo h (h / 4294967296)
def hashB (seed : Int) (b : List UInt8) : Int := hend (hfold seed b)
theorem wrap_range (x : Int) : 0 ≤ IntKind.u64.wrap x ∧ IntKind.u64.wrap x < 18446744073709551616 := by
  unfold IntKind.wrap
  simp [IntKind.bits, IntKind.signed]; omega
theorem hfold_range (seed : Int) (b : List UInt8) : 0 ≤ hfold seed b ∧ hfold seed b < 18446744073709551616 := by
  unfold hfold
  have : ∀ (l : List UInt8) (h : Int), (0 ≤ h ∧ h < 18446744073709551616) → 0 ≤ l.foldl hst h ∧ l.foldl hst h < 18446744073709551616 := fun l => by
    induction l with
    | nil => intro h hh; exact hh
    | cons c l ih => intro h _; exact ih _ (wrap_range _)
  exact this b _ (wrap_range _)
theorem hfold_snoc (seed : Int) {b : List UInt8} {k : Nat} (h : k < b.length) : hfold seed (b.take (k + 1)) = hst (hfold seed (b.take k)) b[k] := by
  unfold hfold
  rw [← List.take_append_getElem h, List.foldl_append]; rfl
theorem ok_hash_Of : codeOK Try.prog H32f Try.f60.ntmps (Try.f60.body.getD .skip) = true := by kernel_rfl
theorem c_hash_Of (seed : Int) (b : List UInt8) (hb : b.length ≤ 1000000) : CallA Try.prog 60 [.int .u64 seed, .slc [.slc (bytesA b)]] (· = .int .u64 (hashB seed b)) := by
  refine callA_of_body H32f_ok mixed Try.func60 rfl (Nat.le_of_ble_eq_true rfl) ok_hash_Of ?_
  unfold Try.f60
  simp -implicitDefEqProofs (disch := (first | omega | decide)) only [go_sem, ↓reduceIte, seval]
  refine wpA_loop [0, 12, 13] (ι := {p : Nat × Int // (p.1 = 0 ∧ p.2 = hfold seed []) ∨ (p.1 = 1 ∧ p.2 = hfold seed b)}) (fun p => [(14, .int .i64 p.1.1), (5, .int .u64 p.1.2)]) (fun _ => []) (fun p => 1 - p.1.1) ⟨(0, hfold seed []), .inl ⟨rfl, rfl⟩⟩ (Nat.zero_le _) ?_ ?_
  · simp -implicitDefEqProofs (disch := (first | omega | decide)) only [go_sem, ↓reduceIte, seval]
    rfl
  · rintro ⟨⟨k, c⟩, h | h⟩
    · obtain ⟨h1, h2⟩ := h
      simp only at h1 h2
      subst h1
      subst h2
      simp -implicitDefEqProofs (disch := (first | omega | decide)) only [go_sem, ↓reduceIte, seval]
      refine wpA_loop [0, 12, 13, 14, 18, 19] (ι := {k : Nat // k ≤ b.length}) (fun p => [(20, .int .i64 p.1), (5, .int .u64 (hfold seed (b.take p.1)))]) (fun _ => []) (fun p => b.length - p.1) ⟨0, by omega⟩ (Nat.zero_le _) ?_ ?_
      · simp -implicitDefEqProofs (disch := (first | omega | decide)) only [go_sem, ↓reduceIte, seval, len_byte]
      · rintro ⟨k, hk⟩
        simp only
        by_cases hlt : k < b.length
        · have q1 : (k : Int) < (b.length : Int) := by omega
          have q2 : (0 : Int) ≤ (k : Int) := by omega
          have q3 : ((k : Nat) : Int).toNat = k := Int.toNat_natCast _
          have q4 : IntKind.i64.wrap ((k : Int) + 1) = (k : Int) + 1 := by rw [wrap_i64]; omega
          have e1 := byte_at hlt
          have hsn := hfold_snoc seed hlt
          generalize hfold seed (b.take k) = h at *
          generalize b[k] = c at *
          have hc : IntKind.u64.wrap (c.toNat : Int) = (c.toNat : Int) := wrap_u64 (by have := c.toNat_lt; omega)
          simp -implicitDefEqProofs (disch := (first | omega | decide)) only [go_sem, ↓reduceIte, seval, q1, q2, q3, q4, e1, len_byte]
          exact ⟨⟨k + 1, hlt⟩, ⟨by simp, by rw [hsn, hc]; rfl⟩, by show b.length - (k + 1) < b.length - k; omega⟩
        · have q1 : ¬ (k : Int) < (b.length : Int) := by omega
          have e0 : b.take k = b := List.take_of_length_le (by omega)
          rw [e0]
          simp -implicitDefEqProofs (disch := (first | omega | decide)) only [go_sem, ↓reduceIte, seval, q1, wrap_i64, len_byte]
          exact ⟨⟨(1, hfold seed b), .inr ⟨rfl, rfl⟩⟩, ⟨by simp, rfl⟩, by simp⟩
    · obtain ⟨h1, h2⟩ := h
      simp only at h1 h2
      subst h1
      subst h2
      have hr := hfold_range seed b
      unfold hashB
      generalize hfold seed b = h at *
      simp -implicitDefEqProofs (disch := (first | omega | decide)) only [go_sem, ↓reduceIte, seval]
      rw [show (2 : Int) ^ min 32 64 = 4294967296 from rfl, Int.fdiv_eq_ediv_of_nonneg _ (by decide)]
      rfl
noncomputable def H32g : Tab := H32f.add 60 (entry (fun v : Int × List UInt8 => [.int .u64 v.1, .slc [.slc (bytesA v.2)]]) (fun v => v.2.length ≤ 1000000) (fun v => .int .u64 (hashB v.1 v.2)))
theorem H32g_ok : TabOK Try.prog H32g := H32f_ok.ent Try.func60 (by kernel_rfl) (by kernel_rfl) fun v h => c_hash_Of v.1 v.2 h
@[go_sem] theorem H32g_old {g : FuncId} {xs : List A} (h : g ≠ 60) : H32g.f g xs = H32f.f g xs := Tab.add_ne h
theorem g_hOf {seed : Int} {b : List UInt8} (h : b.length ≤ 1000000) : H32g.f 60 [.int .u64 seed, .slc [.slc (bytesA b)]] = some (.int .u64 (hashB seed b)) :=
  Tab.ent_eq (Γ := H32f) (g := 60) (enc := fun v : Int × List UInt8 => [.int .u64 v.1, .slc [.slc (bytesA v.2)]]) (ok := fun v => v.2.length ≤ 1000000) (spec := fun v => .int .u64 (hashB v.1 v.2)) (fun i j h => by
    simp at h
    exact Prod.ext h.1 (bytesA_inj h.2)) (seed, b) h
noncomputable def H32h : Tab := H32g.add 59 (entry (fun (x : It) => [x.enc]) (fun x => rightI x = true) (fun x => .tup [.slc (bytesA (itB x)), .int .i64 0]))
theorem H32h_ok : TabOK Try.prog H32h := H32g_ok.ent Try.func59 (by kernel_rfl) (by kernel_rfl) fun x h => c_icode_Item x h
@[go_sem] theorem H32h_old {g : FuncId} {xs : List A} (h : g ≠ 59) : H32h.f g xs = H32g.f g xs := Tab.add_ne h
@[go_sem] theorem H32h_s : H32h.pl H32g := ⟨fun _ => rfl, fun _ => rfl, rfl, fun _ => rfl, rfl, fun _ => rfl, rfl⟩
theorem H32h_icode_Item (x : It) (h : rightI x = true) : H32h.f 59 [x.enc] = some (.tup [.slc (bytesA (itB x)), .int .i64 0]) := Tab.ent_eq (Γ := H32g) (fun i j h => by simpa [Prod.ext_iff, and_assoc] using h) x h
theorem itB_len {x : It} (h : rightI x = true) : (itB x).length ≤ 1000 := by
  obtain ⟨h1, h2, h3, h4, h5, h6⟩ := rightI_iff h
  have hv : ∀ n ∈ itN x, n ≤ 9223372036854775807 := fun n hn => by
    simp only [itN, List.mem_cons, List.not_mem_nil, or_false] at hn
    rcases hn with rfl | rfl | rfl | rfl | rfl
    · omega
    · omega
    · omega
    · omega
    · split <;> omega
  have a := vbs_len hv
  have b := vb_bound (n := x.key.length) (by omega)
  have c := vb_bound (n := x.body.length) (by omega)
  have d : (itN x).length = 5 := rfl
  unfold itB
  simp only [List.length_append]; omega
def hashI (seed : Int) (x : It) : Int := hashB seed (itB x)
theorem ok_hash_Item : codeOK Try.prog H32h Try.f42.ntmps (Try.f42.body.getD .skip) = true := by kernel_rfl
theorem c_hash_Item (seed : Int) (x : It) (hx : rightI x = true) : CallA Try.prog 42 [.int .u64 seed, x.enc] (· = .int .u64 (hashI seed x)) := by
  refine callA_of_body H32h_ok mixed Try.func42 rfl (Nat.le_of_ble_eq_true rfl) ok_hash_Item ?_
  unfold Try.f42
  have g1 := H32h_icode_Item x hx
  have g2 := g_hOf (seed := seed) (b := itB x) (by have := itB_len hx; omega)
  unfold hashI
  generalize itB x = B at *
  obtain ⟨key, rep, cnt, rank, prio, dead, body⟩ := x
  simp only [It.enc] at g1 ⊢
  clear hx
  simp -implicitDefEqProofs (disch := (first | omega | decide)) only [go_sem, ↓reduceIte, seval, g1, g2]
noncomputable def H32i : Tab := H32h.add 42 (entry (fun (v : Int × It) => [.int .u64 v.1, v.2.enc]) (fun v => rightI v.2 = true) (fun v => .int .u64 (hashI v.1 v.2)))
theorem H32i_ok : TabOK Try.prog H32i := H32h_ok.ent Try.func42 (by kernel_rfl) (by kernel_rfl) fun v h => c_hash_Item v.1 v.2 h
@[go_sem] theorem H32i_old {g : FuncId} {xs : List A} (h : g ≠ 42) : H32i.f g xs = H32h.f g xs := Tab.add_ne h
@[go_sem] theorem H32i_s : H32i.pl H32h := ⟨fun _ => rfl, fun _ => rfl, rfl, fun _ => rfl, rfl, fun _ => rfl, rfl⟩
def cutN (bits : Int) : Nat := if bits ≤ 0 then 0 else if 64 ≤ bits then 64 else bits.toNat
def cutH (h bits : Int) : Int := h % (2 : Int) ^ cutN bits
theorem ok_nat_Hold : codeOK Try.prog H32i Try.f65.ntmps (Try.f65.body.getD .skip) = true := by kernel_rfl
theorem c_Hold (n : Int) : CallA Try.prog 65 [.int .i64 n, .int .i64 0, .int .i64 64] (· = .int .i64 (cutN n)) := by
  refine callA_of_body H32i_ok mixed Try.func65 rfl (Nat.le_of_ble_eq_true rfl) ok_nat_Hold ?_
  unfold Try.f65
  have e : (if (if (64 : Int) < n then (64 : Int) else n) > 0 then (if (64 : Int) < n then (64 : Int) else n) else 0) = (cutN n : Int) := by
    unfold cutN
    by_cases h1 : n ≤ 0
    · rw [if_pos h1, if_neg (show ¬ (64 : Int) < n by omega), if_neg (by omega)]; rfl
    · by_cases h2 : 64 ≤ n
      · rw [if_neg h1, if_pos h2]
        by_cases h3 : (64 : Int) < n
        · rw [if_pos h3]; rfl
        · rw [if_neg h3, if_pos (by omega)]; show n = 64; omega
      · rw [if_neg h1, if_neg h2, if_neg (show ¬ (64 : Int) < n by omega), if_pos (by omega)]; omega
  simp -implicitDefEqProofs (disch := (first | omega | decide)) only [go_sem, ↓reduceIte, seval, e]
  try exact e
noncomputable def H32j : Tab := H32i.add 65 (entry (fun (n : Int) => [.int .i64 n, .int .i64 0, .int .i64 64]) (fun n => True) (fun n => .int .i64 (cutN n)))
theorem H32j_ok : TabOK Try.prog H32j := H32i_ok.ent Try.func65 (by kernel_rfl) (by kernel_rfl) fun n h => c_Hold n
@[go_sem] theorem H32j_old {g : FuncId} {xs : List A} (h : g ≠ 65) : H32j.f g xs = H32i.f g xs := Tab.add_ne h
@[go_sem] theorem H32j_s : H32j.pl H32i := ⟨fun _ => rfl, fun _ => rfl, rfl, fun _ => rfl, rfl, fun _ => rfl, rfl⟩
theorem H32j_nat_Hold (n : Int) (h : True) : H32j.f 65 [.int .i64 n, .int .i64 0, .int .i64 64] = some (.int .i64 (cutN n)) := Tab.ent_eq (Γ := H32i) (fun i j h => by simpa [Prod.ext_iff, and_assoc] using h) n h
theorem cutN_le (n : Int) : cutN n ≤ 64 := by
  unfold cutN
  split
  · omega
  · split <;> omega
theorem and_mask (h : Int) (hr : 0 ≤ h ∧ h < 18446744073709551616) {n : Nat} (hn : n < 64) : IntKind.u64.wrap ((BitVec.ofInt 64 h &&& BitVec.ofInt 64 ((2 : Int) ^ n - 1)).toNat) = h % (2 : Int) ^ n := by
  obtain ⟨m, rfl⟩ : ∃ m : Nat, h = (m : Int) := ⟨h.toNat, by omega⟩
  have hp : (2 : Nat) ^ n < 2 ^ 64 := Nat.pow_lt_pow_right (by decide) hn
  have h1 : 1 ≤ (2 : Nat) ^ n := Nat.one_le_two_pow
  have e1 : ((2 : Int) ^ n - 1) = (((2 : Nat) ^ n - 1 : Nat) : Int) := by rw [Int.ofNat_sub h1]; simp
  have e2 : (BitVec.ofInt 64 (m : Int) &&& BitVec.ofInt 64 ((2 : Int) ^ n - 1)).toNat = m % 2 ^ n := by
    rw [e1, BitVec.toNat_and, BitVec.ofInt_natCast, BitVec.ofInt_natCast, BitVec.toNat_ofNat, BitVec.toNat_ofNat, Nat.mod_eq_of_lt (a := m) (by omega), Nat.mod_eq_of_lt (a := 2 ^ n - 1) (by omega), Nat.and_two_pow_sub_one_eq_mod]
  rw [e2]
  have h3 : m % 2 ^ n < 2 ^ n := Nat.mod_lt _ (by omega)
  rw [wrap_u64 (by omega)]
  simp
theorem ok_hash_Cut : codeOK Try.prog H32j Try.f47.ntmps (Try.f47.body.getD .skip) = true := by kernel_rfl
theorem c_hash_Cut (h bits : Int) (hr : 0 ≤ h ∧ h < 18446744073709551616) : CallA Try.prog 47 [.int .u64 h, .int .i64 bits] (· = .int .u64 (cutH h bits)) := by
  refine callA_of_body H32j_ok mixed Try.func47 rfl (Nat.le_of_ble_eq_true rfl) ok_hash_Cut ?_
  unfold Try.f47
  have g1 := H32j_nat_Hold bits trivial
  have hle := cutN_le bits
  unfold cutH
  generalize cutN bits = n at *
  by_cases h1 : n = 64
  · subst h1
    have e : h % (2 : Int) ^ 64 = h := Int.emod_eq_of_lt hr.1 (by exact hr.2)
    rw [e]
    simp -implicitDefEqProofs (disch := (first | omega | decide)) only [go_sem, ↓reduceIte, seval, g1]
  · have q1 : ((n : Int) == 64) = false := by simp; omega
    have q2 : ¬ (n : Int) < 0 := by omega
    have q3 := and_mask h hr (n := n) (by omega)
    have hp : (2 : Nat) ^ n < 2 ^ 64 := Nat.pow_lt_pow_right (by decide) (by omega)
    have h1p : 1 ≤ (2 : Nat) ^ n := Nat.one_le_two_pow
    have hc : ((2 : Int) ^ n) = (((2 : Nat) ^ n : Nat) : Int) := by simp
    have q4 : IntKind.u64.wrap (1 * (2 : Int) ^ min n 64) = (2 : Int) ^ n := by
      rw [Nat.min_eq_left (by omega), Int.one_mul, hc, wrap_u64 (by omega)]
    have q5 : IntKind.u64.wrap ((2 : Int) ^ n - 1) = (2 : Int) ^ n - 1 := by
      rw [hc, wrap_u64 (by omega)]
    simp -implicitDefEqProofs (disch := (first | omega | decide)) only [go_sem, ↓reduceIte, seval, g1, q1, q2]
    rw [q4, q5]
    exact q3
noncomputable def H32k : Tab := H32j.add 47 (entry (fun (v : Int × Int) => [.int .u64 v.1, .int .i64 v.2]) (fun v => 0 ≤ v.1 ∧ v.1 < 18446744073709551616) (fun v => .int .u64 (cutH v.1 v.2)))
theorem H32k_ok : TabOK Try.prog H32k := H32j_ok.ent Try.func47 (by kernel_rfl) (by kernel_rfl) fun v h => c_hash_Cut v.1 v.2 h
@[go_sem] theorem H32k_old {g : FuncId} {xs : List A} (h : g ≠ 47) : H32k.f g xs = H32j.f g xs := Tab.add_ne h
theorem H32k_hash_Cut (v : Int × Int) (h : 0 ≤ v.1 ∧ v.1 < 18446744073709551616) : H32k.f 47 [.int .u64 v.1, .int .i64 v.2] = some (.int .u64 (cutH v.1 v.2)) := Tab.ent_eq (Γ := H32j) (fun i j h => by simpa [Prod.ext_iff, and_assoc] using h) v h
theorem vb_ne (n : Nat) : vb n ≠ [] := by
  by_cases h : n < 128
  · rw [vb_lt h]; simp
  · rw [vb_ge h]; simp
noncomputable def GB (m : Nat) : Tab := H32k.add 96 (entry (fun n : Nat => [.int .i64 (n : Int)]) (fun n => n < m) (fun n => .slc (bytesA (vb n))))
theorem GB_new {m n : Nat} (h : n < m) : (GB m).f 96 [.int .i64 (n : Int)] = some (.slc (bytesA (vb n))) :=
  Tab.ent_eq (Γ := H32k) (g := 96) (enc := fun n : Nat => [.int .i64 (n : Int)]) (ok := fun n => n < m) (spec := fun n => .slc (bytesA (vb n))) (fun i j h => by simp at h; omega) n h
@[go_sem] theorem GB_s {m : Nat} : (GB m).pl H32k := ⟨fun _ => rfl, fun _ => rfl, rfl, fun _ => rfl, rfl, fun _ => rfl, rfl⟩
theorem ok_Bytes (m : Nat) : codeOK Try.prog (GB m) Try.f96.ntmps (Try.f96.body.getD .skip) = true := by kernel_rfl
theorem c_ref02_Bytes : ∀ (n : Nat), n ≤ 9223372036854775807 → CallA Try.prog 96 [.int .i64 (n : Int)] (· = .slc (bytesA (vb n))) := by
  intro n
  induction n using Nat.strongRecOn with
  | _ n ih =>
    intro hn
    have hok : TabOK Try.prog (GB n) := H32k_ok.ent Try.func96 (by kernel_rfl) (by kernel_rfl) fun k hk => ih k hk (by omega)
    refine callA_of_body hok mixed Try.func96 rfl (Nat.le_of_ble_eq_true rfl) (ok_Bytes n) ?_
    unfold Try.f96
    by_cases h : n < 128
    · have q1 : (n : Int) < 128 := by omega
      have q2 : IntKind.u8.wrap (n : Int) = ((UInt8.ofNat n).toNat : Int) := by rw [wrap_u8 (by omega), ofNat8 (by omega)]
      have e : bytesA (vb n) = [.int .u8 ((UInt8.ofNat n).toNat : Int)] := by rw [vb_lt h]; rfl
      rw [e]
      simp -implicitDefEqProofs (disch := (first | omega | decide)) only [go_sem, ↓reduceIte, seval, q1, q2]
    · have q1 : ¬ (n : Int) < 128 := by omega
      have q2 : (n : Int).tmod 128 = ((n % 128 : Nat) : Int) := by rw [Int.tmod_eq_emod_of_nonneg (by omega)]; omega
      have q3 : IntKind.u8.wrap (IntKind.i64.wrap (128 + ((n % 128 : Nat) : Int))) = ((UInt8.ofNat (n % 128 + 128)).toNat : Int) := by
        rw [wrap_i64 (by omega), wrap_u8 (by omega), ofNat8 (by omega)]; omega
      have q4 : IntKind.i64.wrap ((n : Int).tdiv 128) = ((n / 128 : Nat) : Int) := by rw [Int.tdiv_eq_ediv_of_nonneg (by omega), wrap_i64 (by omega)]; omega
      have g1 := GB_new (m := n) (n := n / 128) (by omega)
      have hne : (bytesA (vb (n / 128)) = []) = False := by
        refine eq_false fun h2 => ?_
        have := congrArg List.length h2
        rw [len_byte] at this
        exact vb_ne _ (List.length_eq_zero_iff.1 this)
      have hl := vb_bound (n := n / 128) (by omega)
      have st := stB (vb (n / 128))
      have e : bytesA (vb n) = .int .u8 ((UInt8.ofNat (n % 128 + 128)).toNat : Int) :: bytesA (vb (n / 128)) := by rw [vb_ge h]; rfl
      rw [e]
      have hl2 : (bytesA (vb (n / 128))).length ≤ 10 := by rw [len_byte]; exact hl
      generalize bytesA (vb (n / 128)) = R at *
      generalize (n / 128 : Nat) = n2 at *
      generalize (n % 128 : Nat) = n3 at *
      simp -implicitDefEqProofs (disch := (first | omega | decide)) only [go_sem, ↓reduceIte, seval, q1, q2, q3, q4, g1, hne, st, List.take_length]
      exact ⟨by omega, by omega, List.take_of_length_le (by simp; omega)⟩
noncomputable def R32a : Tab := H32k.add 96 (entry (fun (n : Nat) => [.int .i64 (n : Int)]) (fun n => n ≤ 9223372036854775807) (fun n => .slc (bytesA (vb n))))
theorem R32a_ok : TabOK Try.prog R32a := H32k_ok.ent Try.func96 (by kernel_rfl) (by kernel_rfl) fun n h => c_ref02_Bytes n h
@[go_sem] theorem R32a_old {g : FuncId} {xs : List A} (h : g ≠ 96) : R32a.f g xs = H32k.f g xs := Tab.add_ne h
@[go_sem] theorem R32a_s : R32a.pl H32k := ⟨fun _ => rfl, fun _ => rfl, rfl, fun _ => rfl, rfl, fun _ => rfl, rfl⟩
theorem R32a_ref02_Bytes (n : Nat) (h : n ≤ 9223372036854775807) : R32a.f 96 [.int .i64 (n : Int)] = some (.slc (bytesA (vb n))) := Tab.ent_eq (Γ := H32k) (fun i j h => by first | (cases i; cases j; rfl; done) | simpa [Prod.ext_iff, and_assoc] using h | (simp at h; omega) | (simp at h; exact Prod.ext h.1 (Prod.ext h.2.1 (by omega)))) n h
theorem r_Bytes {n : Nat} (h : n ≤ 9223372036854775807) : R32a.f 96 [.int .i64 (n : Int)] = some (.slc (bytesA (vb n))) := R32a_ref02_Bytes n h
theorem ok_ref02_Put : codeOK Try.prog R32a Try.f97.ntmps (Try.f97.body.getD .skip) = true := by kernel_rfl
theorem h_ref02_Put (ns : List Nat) (hns : ns.length ≤ 100) (hn : ∀ n ∈ ns, n ≤ 281474976710656) : CallH Try.prog 97 [.slc (ns.map Nat.toA)] [] (.row 0 0 1 (vbs ns).length false) [.row 1 (bytesA (vbs ns))] [] := by
  refine callH_of_body R32a_ok mixed Try.func97 rfl (Nat.le_of_ble_eq_true rfl) (by intro n h h'; cases h) (by exact Nat.le_refl _) (Nat.zero_le _) ok_ref02_Put ?_
  unfold Try.f97
  simp -implicitDefEqProofs (disch := (first | omega | decide)) only [go_sem, ↓reduceIte, seval, List.length_map]
  refine wpA_loop_nil 3 1 rfl ?_
  refine wpA_loop [0] (ι := {k : Nat // k ≤ ns.length}) (fun p => [(4, .int .i64 p.1), (3, .row 0 0 1 (vbs (ns.take p.1)).length false)]) (fun p => [(0, .row 1 (bytesA (vbs (ns.take p.1))))]) (fun p => ns.length - p.1) ⟨0, by omega⟩ (Nat.zero_le _) ?_ ?_
  · simp -implicitDefEqProofs (disch := (first | omega | decide)) only [go_sem, ↓reduceIte, seval]
    first | done | (simp [vbs, bytesA]; done)
  · rintro ⟨k, hk⟩
    simp only
    have hvl := vbs_len (l := ns.take k) (fun n h => by have := hn n (List.mem_of_mem_take h); omega)
    rw [List.length_take] at hvl
    by_cases hlt : k < ns.length
    · have q1 : (k : Int) < (ns.length : Int) := by omega
      have q2 : (0 : Int) ≤ (k : Int) := by omega
      have q3 : ((k : Nat) : Int).toNat = k := Int.toNat_natCast _
      have q4 : IntKind.i64.wrap ((k : Int) + 1) = (k : Int) + 1 := by rw [wrap_i64]; omega
      have e1 := nat_get hlt
      have hm := hn _ (List.getElem_mem hlt)
      have hsn := vbs_snoc hlt
      generalize ns[k] = x at *
      have g1 := r_Bytes (n := x) (by omega)
      have hl2 := vb_bound (n := x) (by omega)
      have st := stB (vb x)
      have hO : (vbs (ns.take k)).length ≤ 1000 := by omega
      generalize vbs (ns.take k) = O at *
      generalize vb x = R at *
      simp -implicitDefEqProofs (disch := (first | omega | decide)) only [go_sem, ↓reduceIte, seval, q1, q2, q3, q4, e1, g1, st, len_byte, List.length_map]
      exact ⟨⟨Nat.le_refl _, by omega⟩, ⟨k + 1, hlt⟩, ⟨⟨by simp, by rw [hsn, List.length_append]⟩, by rw [hsn, bytes_app]⟩, by show ns.length - (k + 1) < ns.length - k; omega⟩
    · have q1 : ¬ (k : Int) < (ns.length : Int) := by omega
      have e0 : ns.take k = ns := List.take_of_length_le (by omega)
      rw [e0] at *
      generalize vbs ns = O at *
      simp -implicitDefEqProofs (disch := (first | omega | decide)) only [go_sem, ↓reduceIte, seval, q1, len_byte, List.length_map, Nat.le_refl]
theorem ok_b1_ref02_Bytes : codeOK Try.prog R32a Try.f96.ntmps (Try.f96.body.getD .skip) = true := by kernel_rfl
theorem h_Bytes1 (n : Nat) (h : n < 128) : CallH Try.prog 96 [.int .i64 (n : Int)] [] (.clip (bytesA [UInt8.ofNat n])) [] [] := by
  refine callH_of_body R32a_ok mixed Try.func96 rfl (Nat.le_of_ble_eq_true rfl) (by intro n h h'; cases h) (by exact Nat.le_refl _) (Nat.le_refl _) ok_b1_ref02_Bytes ?_
  unfold Try.f96
  have q1 : (n : Int) < 128 := by omega
  have q2 : IntKind.u8.wrap (n : Int) = ((UInt8.ofNat n).toNat : Int) := by rw [wrap_u8 (by omega), ofNat8 (by omega)]
  have e : bytesA [UInt8.ofNat n] = [.int .u8 ((UInt8.ofNat n).toNat : Int)] := rfl
  rw [e]
  simp -implicitDefEqProofs (disch := (first | omega | decide)) only [go_sem, ↓reduceIte, seval, q1, q2]
theorem callH_clip {P : Program} {f : FuncId} {es : List A} {H H' : List Go.Abs.Obj} {r : A} {S : List Nat} (h : CallH P f [.slc es] H r H' S) : CallH P f [.clip es] H r H' S := fun N φ w vs hN hrel hfree hrep => by
  refine h N φ w vs hN hrel hfree ?_
  simp only [RepL] at hrep ⊢
  obtain ⟨v, vs', h1, h2, h3⟩ := hrep
  exact ⟨v, vs', h1, rep_clip_slc h2, h3⟩
noncomputable def R32b0 : Tab := (R32a.addH 96 (entryH (fun n : Nat => [.int .i64 (n : Int)]) (fun _ => []) (fun n => n < 128) (fun n => (.clip (bytesA [UInt8.ofNat n]), [], [])))).addH 97 (entryH (fun ns : List Nat => [.clip (ns.map Nat.toA)]) (fun _ => []) (fun ns => ns.length ≤ 100 ∧ ∀ n ∈ ns, n ≤ 281474976710656) (fun ns => (.row 0 0 1 (vbs ns).length false, [.row 1 (bytesA (vbs ns))], [])))
theorem R32b0_ok : TabOK Try.prog R32b0 := (R32a_ok.addH (callable_of Try.func96 (by kernel_rfl) (by kernel_rfl)) (entryH_ok fun n h => h_Bytes1 n h)).addH (callable_of Try.func97 (by kernel_rfl) (by kernel_rfl)) (entryH_ok fun ns h => callH_clip (h_ref02_Put ns h.1 h.2))
noncomputable def R32b : Tab := { R32b0 with eff := fun f => f == 96 }
theorem R32b_ok : TabOK Try.prog R32b := ⟨R32b0_ok.f, R32b0_ok.hp⟩
@[go_sem] theorem R32b_eff {g : FuncId} : R32b.eff g = (g == 96) := rfl
@[go_sem] theorem R32b_frz {g : FuncId} : R32b.frz g = false := rfl
@[go_sem] theorem R32b_fix {n : Nat} : R32b.fix n = false := rfl
@[go_sem] theorem R32b_ords {n : Nat} : R32b.ords n = [] := rfl
theorem rb_Bytes {n : Nat} (h : n < 128) : R32b.hp 96 [.int .i64 (n : Int)] [] = some (.clip (bytesA [UInt8.ofNat n]), [], []) := by
  have h1 : R32b0.hp 96 [.int .i64 (n : Int)] [] = (R32a.addH 96 (entryH (fun n : Nat => [.int .i64 (n : Int)]) (fun _ => []) (fun n => n < 128) (fun n => (.clip (bytesA [UInt8.ofNat n]), [], [])))).hp 96 [.int .i64 (n : Int)] [] := Tab.addH_ne (by decide)
  have h0 : R32b.hp 96 [.int .i64 (n : Int)] [] = R32b0.hp 96 [.int .i64 (n : Int)] [] := rfl
  exact h0.trans (h1.trans (Tab.addH_eq.trans (entryH_eq (enc := fun n : Nat => [.int .i64 (n : Int)]) (obs := fun _ => []) (fun i j h _ => by simp at h; omega) n h)))
def tU (R s : List UInt8) : Nat → A
  | 0 => .clip (bytesA R)
  | k + 1 => .row 0 0 1 (R ++ s.take (k + 1)).length false
def tH (R s : List UInt8) : Nat → List Go.Abs.Obj
  | 0 => []
  | k + 1 => [.row 1 (bytesA (R ++ s.take (k + 1)))]
theorem ok_ref02_Text : codeOK Try.prog R32b Try.f87.ntmps (Try.f87.body.getD .skip) = true := by kernel_rfl
theorem h_Text1 (s : List UInt8) (hs : s.length < 128) (h0 : s ≠ []) : CallH Try.prog 87 [.str s] [] (.row 0 0 1 (vb s.length ++ s).length false) [.row 1 (bytesA (vb s.length ++ s))] [] := by
  refine callH_of_body R32b_ok mixed Try.func87 rfl (Nat.le_of_ble_eq_true rfl) (by intro n h h'; cases h) (by exact Nat.le_refl _) (Nat.zero_le _) ok_ref02_Text ?_
  unfold Try.f87
  have g1 := rb_Bytes hs
  rw [vb_lt hs]
  generalize hR : [UInt8.ofNat s.length] = R at *
  have hRl : R.length = 1 := by rw [← hR]; rfl
  have stR := stB R
  clear hR
  simp -implicitDefEqProofs (disch := (first | omega | decide)) only [go_sem, ↓reduceIte, seval, g1]
  refine wpA_loopH [0] (ι := {k : Nat // k ≤ s.length}) (fun p => [(4, .int .i64 p.1), (3, tU R s p.1)]) (fun p => tH R s p.1) (fun p => s.length - p.1) ⟨0, by omega⟩ (fun _ => Nat.zero_le _) ?_ ?_
  · simp only [tU, tH]
    simp -implicitDefEqProofs (disch := (first | omega | decide)) only [go_sem, ↓reduceIte, seval]
  · rintro ⟨k, hk⟩
    simp only
    by_cases hlt : k < s.length
    · have q1 : (k : Int) < (s.length : Int) := by omega
      have q2 : (0 : Int) ≤ (k : Int) := by omega
      have q3 : ((k : Nat) : Int).toNat = k := Int.toNat_natCast _
      have q4 : IntKind.i64.wrap ((k : Int) + 1) = (k : Int) + 1 := by rw [wrap_i64]; omega
      have e1 : s[k]? = some s[k] := List.getElem?_eq_getElem hlt
      have hsn : s.take (k + 1) = s.take k ++ [s[k]] := (List.take_append_getElem hlt).symm
      generalize s[k] = c at *
      cases k with
      | zero =>
        simp only [tU, tH]
        have q5 : ((0 : Nat) : Int) = 0 := rfl
        rw [q5] at *
        have e2 : s[0]? = some c := e1
        have q1' : (0 : Int) < (s.length : Int) := by omega
        have e4 : R ++ s.take (0 + 1) = R ++ [c] := by rw [hsn]; rfl
        simp -implicitDefEqProofs (disch := (first | omega | decide)) only [go_sem, ↓reduceIte, seval, q1', q4, e2, stR, len_byte, encU8, wrap_i64]
        refine ⟨by omega, ⟨0 + 1, hlt⟩, ?_, by show s.length - (0 + 1) < s.length - 0; omega⟩
        change (_ ∧ (_ = A.row 0 0 1 (R ++ s.take (0 + 1)).length false ∧ A.under 1 (A.row 0 0 1 (R ++ s.take (0 + 1)).length false) = true)) ∧ leH 1 _ [Go.Abs.Obj.row 1 (bytesA (R ++ s.take (0 + 1)))]
        rw [e4]
        refine ⟨⟨by simp, by simp, rfl⟩, ?_⟩
        have := row_byte R c
        simp only [go_sem]
        exact this
      | succ k =>
        simp only [tU, tH]
        have hO : (R ++ s.take (k + 1)).length ≤ 200 := by rw [List.length_append, List.length_take]; omega
        have e3 : R ++ s.take (k + 1 + 1) = R ++ s.take (k + 1) ++ [c] := by rw [hsn, List.append_assoc]
        generalize hOO : R ++ s.take (k + 1) = O at *
        simp -implicitDefEqProofs (disch := (first | omega | decide)) only [go_sem, ↓reduceIte, seval, q1, q2, q3, q4, e1, len_byte, encU8]
        refine ⟨⟨Nat.le_refl _, by omega⟩, ⟨k + 1 + 1, hlt⟩, ?_, by show s.length - (k + 1 + 1) < s.length - (k + 1); omega⟩
        change (_ ∧ (_ = A.row 0 0 1 (R ++ s.take (k + 1 + 1)).length false ∧ A.under 1 (A.row 0 0 1 (R ++ s.take (k + 1 + 1)).length false) = true)) ∧ leH 1 _ [Go.Abs.Obj.row 1 (bytesA (R ++ s.take (k + 1 + 1)))]
        rw [e3]
        refine ⟨⟨by simp, by simp, rfl⟩, ?_⟩
        have := row_byte O c
        simp only [go_sem]
        exact this
    · have q1 : ¬ (k : Int) < (s.length : Int) := by omega
      obtain rfl : k = s.length := by omega
      obtain ⟨m, hm⟩ : ∃ m, s.length = m + 1 := ⟨s.length - 1, by have := List.length_pos_iff.2 h0; omega⟩
      have ht : s.take (m + 1) = s := List.take_of_length_le (by omega)
      have e5 : tU R s s.length = .row 0 0 1 (R ++ s).length false := by rw [hm]; simp only [tU]; rw [ht]
      have e6 : tH R s s.length = [.row 1 (bytesA (R ++ s))] := by rw [hm]; simp only [tH]; rw [ht]
      rw [e5, e6]
      simp -implicitDefEqProofs (disch := (first | omega | decide)) only [go_sem, ↓reduceIte, seval, q1]
theorem h_Text0 : CallH Try.prog 87 [.str []] [] (.clip (bytesA [0])) [] [] := by
  refine callH_of_body R32b_ok mixed Try.func87 rfl (Nat.le_of_ble_eq_true rfl) (by intro n h h'; cases h) (by exact Nat.le_refl _) (Nat.zero_le _) ok_ref02_Text ?_
  unfold Try.f87
  have g1 : R32b.hp 96 [.int .i64 0] [] = some (.clip (bytesA [0]), [], []) := rb_Bytes (n := 0) (by omega)
  generalize bytesA [0] = R at *
  simp -implicitDefEqProofs (disch := (first | omega | decide)) only [go_sem, ↓reduceIte, seval, g1]
  refine wpA_loopH [0] (ι := Unit) (fun _ => [(4, .int .i64 0), (3, .clip R)]) (fun _ => []) (fun _ => 0) () (fun _ => Nat.zero_le _) ?_ ?_
  · simp -implicitDefEqProofs (disch := (first | omega | decide)) only [go_sem, ↓reduceIte, seval]
  · rintro ⟨⟩
    simp -implicitDefEqProofs (disch := (first | omega | decide)) only [go_sem, ↓reduceIte, seval]
noncomputable def R32c0 : Tab := R32b0.addH 87 (entryH (fun s : List UInt8 => [.str s]) (fun _ => []) (fun s => s.length < 128) (fun s => if s = [] then (.clip (bytesA [0]), [], []) else (.row 0 0 1 (vb s.length ++ s).length false, [.row 1 (bytesA (vb s.length ++ s))], [])))
theorem R32c0_ok : TabOK Try.prog R32c0 := R32b0_ok.addH (callable_of Try.func87 (by kernel_rfl) (by kernel_rfl)) (entryH_ok fun s h => by
  by_cases e : s = []
  · subst e; exact h_Text0
  · rw [if_neg e]; exact h_Text1 s h e)
noncomputable def R32c : Tab := { R32c0 with eff := fun f => f == 87 || f == 97 }
theorem R32c_ok : TabOK Try.prog R32c := ⟨R32c0_ok.f, R32c0_ok.hp⟩
@[go_sem] theorem R32c_eff {g : FuncId} : R32c.eff g = (g == 87 || g == 97) := rfl
@[go_sem] theorem R32c_frz {g : FuncId} : R32c.frz g = false := rfl
@[go_sem] theorem R32c_fix {n : Nat} : R32c.fix n = false := rfl
@[go_sem] theorem R32c_ords {n : Nat} : R32c.ords n = [] := rfl
theorem rc_Text {s : List UInt8} (h : s.length < 128) : R32c.hp 87 [.str s] [] = some (if s = [] then (.clip (bytesA [0]), [], []) else (.row 0 0 1 (vb s.length ++ s).length false, [.row 1 (bytesA (vb s.length ++ s))], [])) := by
  have h0 : R32c.hp 87 [.str s] [] = R32c0.hp 87 [.str s] [] := rfl
  exact h0.trans (Tab.addH_eq.trans (entryH_eq (enc := fun s : List UInt8 => [.str s]) (obs := fun _ => []) (fun i j h _ => by simpa using h) s h))
theorem rc_Put {ns : List Nat} (h : ns.length ≤ 100 ∧ ∀ n ∈ ns, n ≤ 281474976710656) : R32c.hp 97 [.clip (ns.map Nat.toA)] [] = some (.row 0 0 1 (vbs ns).length false, [.row 1 (bytesA (vbs ns))], []) := by
  have h0 : R32c.hp 97 [.clip (ns.map Nat.toA)] [] = R32c0.hp 97 [.clip (ns.map Nat.toA)] [] := rfl
  have h1 : R32c0.hp 97 [.clip (ns.map Nat.toA)] [] = R32b0.hp 97 [.clip (ns.map Nat.toA)] [] := Tab.addH_ne (by decide)
  exact h0.trans (h1.trans (Tab.addH_eq.trans (entryH_eq (enc := fun ns : List Nat => [.clip (ns.map Nat.toA)]) (obs := fun _ => []) (fun i j h _ => by simp at h; exact natA_inj h) ns h)))
theorem itN_ok {x : It} (h : rightI x = true) : (itN x).length ≤ 100 ∧ ∀ n ∈ itN x, n ≤ 281474976710656 := by
  obtain ⟨h1, h2, h3, h4, h5, h6⟩ := rightI_iff h
  refine ⟨by simp [itN], fun n hn => ?_⟩
  simp only [itN, List.mem_cons, List.not_mem_nil, or_false] at hn
  rcases hn with rfl | rfl | rfl | rfl | rfl
  · omega
  · omega
  · omega
  · omega
  · split <;> omega
theorem itN_map {x : It} (h : rightI x = true) : (itN x).map Nat.toA = [.int .i64 x.rep, .int .i64 x.cnt, .int .i64 x.rank, .int .i64 x.prio, .int .i64 (if x.dead = true then 1 else 0)] := by
  obtain ⟨h1, h2, h3, h4, h5, h6⟩ := rightI_iff h
  simp only [itN, List.map_cons, List.map_nil, Nat.toA]
  rw [Int.toNat_of_nonneg (by omega), Int.toNat_of_nonneg (by omega), Int.toNat_of_nonneg (by omega), Int.toNat_of_nonneg (by omega)]
  congr 5
  split <;> rfl
theorem ok_ref19_rest : codeOK Try.prog R32c Try.f88.ntmps (Try.f88.body.getD .skip) = true := by kernel_rfl
theorem c_ref19_rest (x : It) (hx : rightI x = true) : CallA Try.prog 88 [x.enc] (· = .slc (bytesA (vbs (itN x) ++ (vb x.body.length ++ x.body)))) := by
  refine callA_of_body R32c_ok mixed Try.func88 rfl (Nat.le_of_ble_eq_true rfl) ok_ref19_rest ?_
  unfold Try.f88
  obtain ⟨h1, h2, h3, h4, h5, h6⟩ := rightI_iff hx
  have g1 := rc_Put (itN_ok hx)
  rw [itN_map hx] at g1
  have g2 := rc_Text (s := x.body) (by omega)
  have hvl := vbs_len (l := itN x) (fun n hn => by have := (itN_ok hx).2 n hn; omega)
  have hil : (itN x).length = 5 := rfl
  have hvb := vb_bound (n := x.body.length) (by omega)
  have hb0 : x.body = [] → vb x.body.length ++ x.body = [0] := fun h => by rw [h, vb_lt (by simp)]; rfl
  generalize hT : vb x.body.length ++ x.body = T at *
  have hTl : T.length ≤ 200 := by rw [← hT, List.length_append]; omega
  have hNl : (vbs (itN x)).length ≤ 50 := by omega
  have ebb := bytes_app (vbs (itN x)) T
  rw [ebb]
  generalize vbs (itN x) = N at *
  clear hT hvl hil hvb
  obtain ⟨key, rep, cnt, rank, prio, dead, body⟩ := x
  simp only at g1 g2 hb0
  simp only [It.enc]
  have k1 : (bytesA N ++ bytesA T).length = N.length + T.length := by simp [len_byte]
  have k2 : List.take (N.length + T.length) (bytesA N ++ bytesA T) = bytesA N ++ bytesA T := List.take_of_length_le (by simp [len_byte])
  clear ebb hx h1 h2 h3 h4 h5 h6
  have stT := stB T
  by_cases hb : body = []
  · have hT0 := hb0 hb
    subst hT0
    rw [if_pos hb] at g2
    have e0 : ([0] : List UInt8).length = 1 := rfl
    generalize ([0] : List UInt8) = Z at *
    cases dead with
    | true =>
      simp only [if_true] at g1
      simp -implicitDefEqProofs (disch := (first | omega | decide)) only [go_sem, ↓reduceIte, seval, g1, g2, stT, len_byte, k1, k2, Nat.le_refl]
      try omega
    | false =>
      simp only [Bool.false_eq_true, if_false] at g1
      simp -implicitDefEqProofs (disch := (first | omega | decide)) only [go_sem, ↓reduceIte, seval, g1, g2, stT, len_byte, k1, k2, Nat.le_refl]
      try omega
  · rw [if_neg hb] at g2
    cases dead with
    | true =>
      simp only [if_true] at g1
      simp -implicitDefEqProofs (disch := (first | omega | decide)) only [go_sem, ↓reduceIte, seval, g1, g2, stT, len_byte, k1, k2, Nat.le_refl]
      try omega
    | false =>
      simp only [Bool.false_eq_true, if_false] at g1
      simp -implicitDefEqProofs (disch := (first | omega | decide)) only [go_sem, ↓reduceIte, seval, g1, g2, stT, len_byte, k1, k2, Nat.le_refl]
      try omega
noncomputable def R32d : Tab := R32a.add 88 (entry (fun (x : It) => [x.enc]) (fun x => rightI x = true) (fun x => .slc (bytesA (vbs (itN x) ++ (vb x.body.length ++ x.body)))))
theorem R32d_ok : TabOK Try.prog R32d := R32a_ok.ent Try.func88 (by kernel_rfl) (by kernel_rfl) fun x h => c_ref19_rest x h
@[go_sem] theorem R32d_old {g : FuncId} {xs : List A} (h : g ≠ 88) : R32d.f g xs = R32a.f g xs := Tab.add_ne h
theorem R32d_ref19_rest (x : It) (h : rightI x = true) : R32d.f 88 [x.enc] = some (.slc (bytesA (vbs (itN x) ++ (vb x.body.length ++ x.body)))) := Tab.ent_eq (Γ := R32a) (fun i j h => by simpa [Prod.ext_iff, and_assoc] using h) x h
noncomputable def R32e : Tab := { R32d with hp := R32c0.hp, eff := fun f => f == 87 }
theorem R32e_ok : TabOK Try.prog R32e := ⟨R32d_ok.f, R32c0_ok.hp⟩
@[go_sem] theorem R32e_f : R32e.f = R32d.f := rfl
@[go_sem] theorem R32e_hp : R32e.hp = R32c.hp := rfl
@[go_sem] theorem R32e_eff {g : FuncId} : R32e.eff g = (g == 87) := rfl
@[go_sem] theorem R32e_frz {g : FuncId} : R32e.frz g = false := rfl
@[go_sem] theorem R32e_fix {n : Nat} : R32e.fix n = false := rfl
@[go_sem] theorem R32e_ords {n : Nat} : R32e.ords n = [] := rfl
theorem ok_ref19_Item : codeOK Try.prog R32e Try.f70.ntmps (Try.f70.body.getD .skip) = true := by kernel_rfl
theorem c_ref19_Item (x : It) (hx : rightI x = true) : CallA Try.prog 70 [x.enc] (· = .slc (bytesA (itB x))) := by
  refine callA_of_body R32e_ok mixed Try.func70 rfl (Nat.le_of_ble_eq_true rfl) ok_ref19_Item ?_
  unfold Try.f70
  obtain ⟨h1, h2, h3, h4, h5, h6⟩ := rightI_iff hx
  have g1 := rc_Text (s := x.key) (by omega)
  rw [if_neg (fun h => by rw [h] at h1; simp at h1)] at g1
  have g2 := R32d_ref19_rest x hx
  have hl := itB_len hx
  unfold itB at hl ⊢
  rw [bytes_app]
  rw [List.length_append] at hl
  generalize vb x.key.length ++ x.key = R at *
  generalize vbs (itN x) ++ (vb x.body.length ++ x.body) = Q at *
  have stQ := stB Q
  have k2 : List.take (R.length + Q.length) (bytesA R ++ bytesA Q) = bytesA R ++ bytesA Q := List.take_of_length_le (by simp [len_byte])
  have k1 : (bytesA R ++ bytesA Q).length = R.length + Q.length := by simp [len_byte]
  obtain ⟨key, rep, cnt, rank, prio, dead, body⟩ := x
  simp only [It.enc] at g2 ⊢
  simp only at g1
  clear hx h1 h2 h3 h4 h5 h6
  simp -implicitDefEqProofs (disch := (first | omega | decide)) only [go_sem, ↓reduceIte, seval, g1, g2, stQ, k1, k2, len_byte, Nat.le_refl]
  try omega
noncomputable def R32g : Tab := R32d.add 70 (entry (fun (x : It) => [x.enc]) (fun x => rightI x = true) (fun x => .slc (bytesA (itB x))))
theorem R32g_ok : TabOK Try.prog R32g := R32d_ok.ent Try.func70 (by kernel_rfl) (by kernel_rfl) fun x h => c_ref19_Item x h
@[go_sem] theorem R32g_old {g : FuncId} {xs : List A} (h : g ≠ 70) : R32g.f g xs = R32d.f g xs := Tab.add_ne h
@[go_sem] theorem R32g_s : R32g.pl R32d := ⟨fun _ => rfl, fun _ => rfl, rfl, fun _ => rfl, rfl, fun _ => rfl, rfl⟩
theorem R32g_ref19_Item (x : It) (h : rightI x = true) : R32g.f 70 [x.enc] = some (.slc (bytesA (itB x))) := Tab.ent_eq (Γ := R32d) (fun i j h => by simpa [Prod.ext_iff, and_assoc] using h) x h
theorem tdiv_hi {h : Int} (hr : 0 ≤ h ∧ h < 18446744073709551616) : IntKind.u64.wrap (h.tdiv 4294967296) = h / 4294967296 := by
  rw [Int.tdiv_eq_ediv_of_nonneg hr.1, wrap_u64 (by omega)]
theorem ok_ref20_Of : codeOK Try.prog R32g Try.f69.ntmps (Try.f69.body.getD .skip) = true := by kernel_rfl
theorem c_ref20_Of (seed : Int) (b : List UInt8) (hb : b.length ≤ 1000000) : CallA Try.prog 69 [.int .u64 seed, .slc (bytesA b)] (· = .int .u64 (hashB seed b)) := by
  refine callA_of_body R32g_ok mixed Try.func69 rfl (Nat.le_of_ble_eq_true rfl) ok_ref20_Of ?_
  unfold Try.f69
  simp -implicitDefEqProofs (disch := (first | omega | decide)) only [go_sem, ↓reduceIte, seval]
  refine wpA_loop [1] (ι := {k : Nat // k ≤ b.length}) (fun p => [(6, .int .i64 p.1), (5, .int .u64 (hfold seed (b.take p.1)))]) (fun _ => []) (fun p => b.length - p.1) ⟨0, by omega⟩ (Nat.zero_le _) ?_ ?_
  · simp -implicitDefEqProofs (disch := (first | omega | decide)) only [go_sem, ↓reduceIte, seval]
    rfl
  · rintro ⟨k, hk⟩
    simp only
    by_cases hlt : k < b.length
    · have q1 : (k : Int) < (b.length : Int) := by omega
      have q2 : (0 : Int) ≤ (k : Int) := by omega
      have q3 : ((k : Nat) : Int).toNat = k := Int.toNat_natCast _
      have q4 : IntKind.i64.wrap ((k : Int) + 1) = (k : Int) + 1 := by rw [wrap_i64]; omega
      have e1 := byte_at hlt
      have hsn := hfold_snoc seed hlt
      generalize hfold seed (b.take k) = h at *
      generalize b[k] = c at *
      have hc : IntKind.u64.wrap (c.toNat : Int) = (c.toNat : Int) := wrap_u64 (by have := c.toNat_lt; omega)
      simp -implicitDefEqProofs (disch := (first | omega | decide)) only [go_sem, ↓reduceIte, seval, q1, q2, q3, q4, e1, len_byte]
      exact ⟨⟨k + 1, hlt⟩, ⟨by simp, by rw [hsn, hc]; rfl⟩, by show b.length - (k + 1) < b.length - k; omega⟩
    · have q1 : ¬ (k : Int) < (b.length : Int) := by omega
      have e0 : b.take k = b := List.take_of_length_le (by omega)
      rw [e0]
      have hr := hfold_range seed b
      have e9 := tdiv_hi hr
      unfold hashB
      generalize hfold seed b = h at *
      simp -implicitDefEqProofs (disch := (first | omega | decide)) only [go_sem, ↓reduceIte, seval, q1, len_byte]
      rw [e9]
      rfl
noncomputable def R32h : Tab := R32g.add 69 (entry (fun v : Int × List UInt8 => [.int .u64 v.1, .slc (bytesA v.2)]) (fun v => v.2.length ≤ 1000000) (fun v => .int .u64 (hashB v.1 v.2)))
theorem R32h_ok : TabOK Try.prog R32h := R32g_ok.ent Try.func69 (by kernel_rfl) (by kernel_rfl) fun v h => c_ref20_Of v.1 v.2 h
@[go_sem] theorem R32h_old {g : FuncId} {xs : List A} (h : g ≠ 69) : R32h.f g xs = R32g.f g xs := Tab.add_ne h
@[go_sem] theorem R32h_s : R32h.pl R32g := ⟨fun _ => rfl, fun _ => rfl, rfl, fun _ => rfl, rfl, fun _ => rfl, rfl⟩
theorem r_hOf {seed : Int} {b : List UInt8} (h : b.length ≤ 1000000) : R32h.f 69 [.int .u64 seed, .slc (bytesA b)] = some (.int .u64 (hashB seed b)) :=
  Tab.ent_eq (Γ := R32g) (g := 69) (enc := fun v : Int × List UInt8 => [.int .u64 v.1, .slc (bytesA v.2)]) (ok := fun v => v.2.length ≤ 1000000) (spec := fun v => .int .u64 (hashB v.1 v.2)) (fun i j h => by
    simp at h
    exact Prod.ext h.1 (bytesA_inj h.2)) (seed, b) h
theorem ok_ref20_Item : codeOK Try.prog R32h Try.f54.ntmps (Try.f54.body.getD .skip) = true := by kernel_rfl
theorem c_ref20_Item (seed : Int) (x : It) (hx : rightI x = true) : CallA Try.prog 54 [.int .u64 seed, x.enc] (· = .int .u64 (hashI seed x)) := by
  refine callA_of_body R32h_ok mixed Try.func54 rfl (Nat.le_of_ble_eq_true rfl) ok_ref20_Item ?_
  unfold Try.f54
  obtain ⟨h1, h2, h3, h4, h5, h6⟩ := rightI_iff hx
  have g0 : T18b.f 27 [x.enc] = some (.bool (rightI x)) := T18b_ref18_Right x ⟨by omega, by omega⟩
  rw [hx] at g0
  have g1 := R32g_ref19_Item x hx
  have g2 := r_hOf (seed := seed) (b := itB x) (by have := itB_len hx; omega)
  unfold hashI
  generalize itB x = B at *
  obtain ⟨key, rep, cnt, rank, prio, dead, body⟩ := x
  simp only [It.enc] at g0 g1 ⊢
  clear hx h1 h2 h3 h4 h5 h6
  simp -implicitDefEqProofs (disch := (first | omega | decide)) only [go_sem, ↓reduceIte, seval, g0, g1, g2]
noncomputable def R32i : Tab := R32h.add 54 (entry (fun (v : Int × It) => [.int .u64 v.1, v.2.enc]) (fun v => rightI v.2 = true) (fun v => .int .u64 (hashI v.1 v.2)))
theorem R32i_ok : TabOK Try.prog R32i := R32h_ok.ent Try.func54 (by kernel_rfl) (by kernel_rfl) fun v h => c_ref20_Item v.1 v.2 h
@[go_sem] theorem R32i_old {g : FuncId} {xs : List A} (h : g ≠ 54) : R32i.f g xs = R32h.f g xs := Tab.add_ne h
@[go_sem] theorem R32i_s : R32i.pl R32h := ⟨fun _ => rfl, fun _ => rfl, rfl, fun _ => rfl, rfl, fun _ => rfl, rfl⟩
theorem R32i_ref20_Item (v : Int × It) (h : rightI v.2 = true) : R32i.f 54 [.int .u64 v.1, v.2.enc] = some (.int .u64 (hashI v.1 v.2)) := Tab.ent_eq (Γ := R32h) (fun i j h => by simpa [Prod.ext_iff, and_assoc] using h) v h
theorem r_hItem {seed : Int} {x : It} (h : rightI x = true) : R32i.f 54 [.int .u64 seed, x.enc] = some (.int .u64 (hashI seed x)) := R32i_ref20_Item (seed, x) h
def sumI (seed : Int) (l : List It) : Int := l.foldl (fun s x => IntKind.u64.wrap (s + hashI seed x)) 0
theorem sumI_snoc (seed : Int) {l : List It} {k : Nat} (h : k < l.length) : sumI seed (l.take (k + 1)) = IntKind.u64.wrap (sumI seed (l.take k) + hashI seed l[k]) := by
  unfold sumI
  rw [← List.take_append_getElem h, List.foldl_append]; rfl
theorem ok_ref20_Sum : codeOK Try.prog R32i Try.f37.ntmps (Try.f37.body.getD .skip) = true := by kernel_rfl
theorem c_ref20_Sum (seed : Int) (l : List It) (hl : l.length ≤ 1000000) (hr : ∀ x ∈ l, rightI x = true) : CallA Try.prog 37 [.int .u64 seed, .slc (l.map It.enc)] (· = .int .u64 (sumI seed l)) := by
  refine callA_of_body R32i_ok mixed Try.func37 rfl (Nat.le_of_ble_eq_true rfl) ok_ref20_Sum ?_
  unfold Try.f37
  simp -implicitDefEqProofs (disch := (first | omega | decide)) only [go_sem, ↓reduceIte, seval, List.length_map]
  refine wpA_loop [0, 1] (ι := {k : Nat // k ≤ l.length}) (fun p => [(6, .int .i64 p.1), (5, .int .u64 (sumI seed (l.take p.1)))]) (fun _ => []) (fun p => l.length - p.1) ⟨0, by omega⟩ (Nat.zero_le _) ?_ ?_
  · simp -implicitDefEqProofs (disch := (first | omega | decide)) only [go_sem, ↓reduceIte, seval]
    rfl
  · rintro ⟨k, hk⟩
    simp only
    by_cases hlt : k < l.length
    · have q1 : (k : Int) < (l.length : Int) := by omega
      have q2 : (0 : Int) ≤ (k : Int) := by omega
      have q3 : ((k : Nat) : Int).toNat = k := Int.toNat_natCast _
      have q4 : IntKind.i64.wrap ((k : Int) + 1) = (k : Int) + 1 := by rw [wrap_i64]; omega
      have e1 := it_get hlt
      have hsn := sumI_snoc seed hlt
      have g1 := r_hItem (seed := seed) (hr _ (List.getElem_mem hlt))
      generalize sumI seed (l.take k) = S at *
      generalize l[k] = x at *
      generalize hashI seed x = H at *
      obtain ⟨key, rep, cnt, rank, prio, dead, body⟩ := x
      simp only [It.enc] at g1
      simp only at e1
      simp -implicitDefEqProofs (disch := (first | omega | decide)) only [go_sem, ↓reduceIte, seval, q1, q2, q3, q4, e1, g1, List.length_map]
      exact ⟨⟨k + 1, hlt⟩, ⟨by simp, by rw [hsn]⟩, by show l.length - (k + 1) < l.length - k; omega⟩
    · have q1 : ¬ (k : Int) < (l.length : Int) := by omega
      have e0 : l.take k = l := List.take_of_length_le (by omega)
      rw [e0]
      simp -implicitDefEqProofs (disch := (first | omega | decide)) only [go_sem, ↓reduceIte, seval, q1, List.length_map]
noncomputable def R32j : Tab := R32i.add 37 (entry (fun (v : Int × List It) => [.int .u64 v.1, .slc (v.2.map It.enc)]) (fun v => v.2.length ≤ 1000000 ∧ ∀ x ∈ v.2, rightI x = true) (fun v => .int .u64 (sumI v.1 v.2)))
theorem R32j_ok : TabOK Try.prog R32j := R32i_ok.ent Try.func37 (by kernel_rfl) (by kernel_rfl) fun v h => c_ref20_Sum v.1 v.2 h.1 h.2
@[go_sem] theorem R32j_old {g : FuncId} {xs : List A} (h : g ≠ 37) : R32j.f g xs = R32i.f g xs := Tab.add_ne h
@[go_sem] theorem R32j_s : R32j.pl R32i := ⟨fun _ => rfl, fun _ => rfl, rfl, fun _ => rfl, rfl, fun _ => rfl, rfl⟩
theorem R32j_ref20_Sum (v : Int × List It) (h : v.2.length ≤ 1000000 ∧ ∀ x ∈ v.2, rightI x = true) : R32j.f 37 [.int .u64 v.1, .slc (v.2.map It.enc)] = some (.int .u64 (sumI v.1 v.2)) := Tab.ent_eq (Γ := R32i) (fun i j h => by simpa [Prod.ext_iff, and_assoc] using h) v h
theorem sumI_range (seed : Int) (l : List It) : 0 ≤ sumI seed l ∧ sumI seed l < 18446744073709551616 := by
  unfold sumI
  have : ∀ (l : List It) (s : Int), (0 ≤ s ∧ s < 18446744073709551616) → 0 ≤ l.foldl (fun s x => IntKind.u64.wrap (s + hashI seed x)) s ∧ l.foldl (fun s x => IntKind.u64.wrap (s + hashI seed x)) s < 18446744073709551616 := fun l => by
    induction l with
    | nil => intro s h; exact h
    | cons x l ih => intro s _; exact ih _ (wrap_range _)
  exact this l 0 (by decide)
theorem cutH_nat (m : Nat) (bits : Int) : cutH (m : Int) bits = ((m % 2 ^ cutN bits : Nat) : Int) := by
  unfold cutH
  simp
theorem ok_ref20_Cut : codeOK Try.prog R32j Try.f36.ntmps (Try.f36.body.getD .skip) = true := by kernel_rfl
theorem c_ref20_Cut (h bits : Int) (hr : 0 ≤ h ∧ h < 18446744073709551616) : CallA Try.prog 36 [.int .u64 h, .int .i64 bits] (· = .int .u64 (cutH h bits)) := by
  refine callA_of_body R32j_ok mixed Try.func36 rfl (Nat.le_of_ble_eq_true rfl) ok_ref20_Cut ?_
  unfold Try.f36
  obtain ⟨m, rfl⟩ : ∃ m : Nat, h = (m : Int) := ⟨h.toNat, by omega⟩
  have hm : m < 2 ^ 64 := by omega
  rw [cutH_nat]
  have hN : ∀ k : Nat, k ≤ cutN bits → (k < cutN bits ↔ k < 64 ∧ (k : Int) < bits) := fun k hk => by
    unfold cutN at hk ⊢
    by_cases h1 : bits ≤ 0
    · rw [if_pos h1] at *; omega
    · by_cases h2 : 64 ≤ bits
      · rw [if_neg h1, if_pos h2] at *; omega
      · rw [if_neg h1, if_neg h2] at *; omega
  have hN64 := cutN_le bits
  generalize cutN bits = N at *
  simp -implicitDefEqProofs (disch := (first | omega | decide)) only [go_sem, ↓reduceIte, seval]
  refine wpA_loop [1] (ι := {k : Nat // k ≤ N}) (fun p => [(7, .int .i64 p.1), (5, .int .u64 ((m % 2 ^ p.1 : Nat) : Int)), (6, .int .u64 (IntKind.u64.wrap ((2 ^ p.1 : Nat) : Int))), (0, .int .u64 ((m / 2 ^ p.1 : Nat) : Int))]) (fun _ => []) (fun p => N - p.1) ⟨0, by omega⟩ (Nat.zero_le _) ?_ ?_
  · have e1 : ((m % 2 ^ 0 : Nat) : Int) = 0 := by simp
    have e2 : IntKind.u64.wrap ((2 ^ 0 : Nat) : Int) = 1 := by rw [wrap_u64] <;> simp
    have e3 : ((m / 2 ^ 0 : Nat) : Int) = (m : Int) := by simp
    simp only [e1, e2, e3]
    simp -implicitDefEqProofs (disch := (first | omega | decide)) only [go_sem, ↓reduceIte, seval]
    try rfl
  · rintro ⟨k, hk⟩
    simp only
    by_cases hlt : k < N
    · obtain ⟨a1, a2⟩ := (hN k hk).1 hlt
      have q1 : (k : Int) < 64 := by omega
      have q4 : IntKind.i64.wrap ((k : Int) + 1) = (k : Int) + 1 := by rw [wrap_i64]; omega
      have hp : (2 : Nat) ^ k < 2 ^ 64 := Nat.pow_lt_pow_right (by decide) a1
      have hp1 : (2 : Nat) ^ (k + 1) ≤ 2 ^ 64 := Nat.pow_le_pow_right (by decide) a1
      have e1 : m % 2 ^ (k + 1) = m % 2 ^ k + 2 ^ k * (m / 2 ^ k % 2) := Nat.mod_pow_succ
      have e2 : m / 2 ^ (k + 1) = m / 2 ^ k / 2 := by rw [Nat.pow_succ, Nat.div_div_eq_div_mul]
      have e3 : (2 : Nat) ^ (k + 1) = 2 ^ k * 2 := Nat.pow_succ ..
      have hlt1 : m % 2 ^ (k + 1) < 2 ^ (k + 1) := Nat.mod_lt _ (Nat.two_pow_pos (k + 1))
      have hdm : m / 2 ^ k ≤ m := Nat.div_le_self _ _
      obtain ⟨A1, hA⟩ : ∃ A1, m % 2 ^ (k + 1) = A1 := ⟨_, rfl⟩
      obtain ⟨D1, hD⟩ : ∃ D1, m / 2 ^ (k + 1) = D1 := ⟨_, rfl⟩
      obtain ⟨P1, hP1⟩ : ∃ P1, (2 : Nat) ^ (k + 1) = P1 := ⟨_, rfl⟩
      rw [hA] at e1 hlt1
      rw [hD] at e2
      rw [hP1] at e3 hlt1 hp1
      generalize m % 2 ^ k = A0 at *
      generalize m / 2 ^ k = D0 at *
      generalize (2 : Nat) ^ k = P0 at *
      have hw : IntKind.u64.wrap (P0 : Int) = (P0 : Int) := wrap_u64 (by omega)
      rw [hw]
      have e4 : (P0 : Int) * 2 = (P1 : Int) := by omega
      have q5 : (D0 : Int).tmod 2 = ((D0 % 2 : Nat) : Int) := by rw [Int.tmod_eq_emod_of_nonneg (by omega)]; omega
      have q6 : IntKind.u64.wrap ((D0 : Int).tdiv 2) = (D1 : Int) := by rw [Int.tdiv_eq_ediv_of_nonneg (by omega), wrap_u64 (by omega)]; omega
      by_cases hb : D0 % 2 = 1
      · have q7 : (((D0 % 2 : Nat) : Int) == 1) = true := by simp; omega
        have q8 : IntKind.u64.wrap ((A0 : Int) + (P0 : Int)) = (A1 : Int) := by
          rw [hb, Nat.mul_one] at e1
          rw [wrap_u64 (by omega)]; omega
        simp -implicitDefEqProofs (disch := (first | omega | decide)) only [go_sem, ↓reduceIte, seval, q1, a2, q4, q5, q6, q7, q8, e4]
        exact ⟨⟨k + 1, hlt⟩, ⟨by simp, by rw [hA], by rw [hP1], by rw [hD]⟩, by show N - (k + 1) < N - k; omega⟩
      · have q7 : (((D0 % 2 : Nat) : Int) == 1) = false := by simp; omega
        have hb0 : D0 % 2 = 0 := by omega
        rw [hb0, Nat.mul_zero, Nat.add_zero] at e1
        simp -implicitDefEqProofs (disch := (first | omega | decide)) only [go_sem, ↓reduceIte, seval, q1, a2, q4, q5, q6, q7, e4]
        exact ⟨⟨k + 1, hlt⟩, ⟨by simp, by rw [hA, e1], by rw [hP1], by rw [hD]⟩, by show N - (k + 1) < N - k; omega⟩
    · obtain rfl : k = N := by omega
      have hno : ¬ (k < 64 ∧ (k : Int) < bits) := fun h => hlt ((hN k (Nat.le_refl _)).2 h)
      by_cases a1 : (k : Int) < 64
      · have a2 : ¬ (k : Int) < bits := fun h => hno ⟨by omega, h⟩
        simp -implicitDefEqProofs (disch := (first | omega | decide)) only [go_sem, ↓reduceIte, seval, a1, a2]
      · simp -implicitDefEqProofs (disch := (first | omega | decide)) only [go_sem, ↓reduceIte, seval, a1]
noncomputable def R32k : Tab := R32j.add 36 (entry (fun (v : Int × Int) => [.int .u64 v.1, .int .i64 v.2]) (fun v => 0 ≤ v.1 ∧ v.1 < 18446744073709551616) (fun v => .int .u64 (cutH v.1 v.2)))
theorem R32k_ok : TabOK Try.prog R32k := R32j_ok.ent Try.func36 (by kernel_rfl) (by kernel_rfl) fun v h => c_ref20_Cut v.1 v.2 h
@[go_sem] theorem R32k_old {g : FuncId} {xs : List A} (h : g ≠ 36) : R32k.f g xs = R32j.f g xs := Tab.add_ne h
@[go_sem] theorem R32k_s : R32k.pl R32j := ⟨fun _ => rfl, fun _ => rfl, rfl, fun _ => rfl, rfl, fun _ => rfl, rfl⟩
theorem R32k_ref20_Cut (v : Int × Int) (h : 0 ≤ v.1 ∧ v.1 < 18446744073709551616) : R32k.f 36 [.int .u64 v.1, .int .i64 v.2] = some (.int .u64 (cutH v.1 v.2)) := Tab.ent_eq (Γ := R32j) (fun i j h => by simpa [Prod.ext_iff, and_assoc] using h) v h
end Go.Proofs.Ytjnpfbohnpjckaa
