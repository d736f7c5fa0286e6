/- Calls that rearrange a slice in place (the library's sort): from a contract on worlds to one on pure data. -/
import Derived.Test.YtfcjemfgdeoinaaAbsY
import Derived.Shelf.SlSortCmp.NoneTotal
namespace Go.Abs
open Go.RowKit

/-- The world behind: block b's cells from its begin on hold D; all else is as it was. -/
structure SortTurn (b : Nat) (D : List Value) (w w' : World) : Prop where
  os : w'.os = w.os
  tape : w'.tape = w.tape
  output : w'.output = w.output
  drawn : w.drawn ≤ w'.drawn
  size : w.heap.size ≤ w'.heap.size
  block : ∀ c, c < w.heap.size → c ≠ b → w'.heap[c]? = w.heap[c]?
  self : ∀ (cc : Array Value) (e : TypeId) (fr : Nat × Nat), w.heap[b]? = some (.cells cc e fr) → ∃ cc', w'.heap[b]? = some (.cells cc' e fr) ∧ cc'.size = cc.size
  cells : w'.rangeAt b 0 D

theorem callH_sorted {P : Program} {f g : FuncId} {k : Nat} {c : Bool} {es es' : List A} {D : List Value} (hk : 0 < k) (hD : ∀ E, RowRel E k es' D) (hp : A.pure.pureL es' = true) (h1 : ∀ u ∈ D, u.oneCell' = true) (hlen : es'.length = es.length)
    (hnil : es = [] → ∀ (w : World) (q : Option Addr) (cap : Nat), Calls P f #[.slice q 0 cap, .func (.func g) #[] #[]] w fun e w' => e = .returned (.tuple #[]) ∧ w' = w)
    (hcall : ∀ (E : Env) (b cap : Nat) (cc : Array Value) (e : TypeId) (fr : Nat × Nat), es ≠ [] → E.w.heap[b]? = some (.cells cc e fr) → Unfrozen cc fr → RepE E k b 0 es → k * cap ≤ cc.size → es.length ≤ cap →
      Calls P f #[.slice (some ⟨b, 0, none⟩) es.length cap, .func (.func g) #[] #[]] E.w fun e w' => e = .returned (.tuple #[]) ∧ SortTurn b D E.w w') :
    CallH P f [.row 0 0 k es.length c, .fn g []] [.row k es] (.tup []) [.row k es'] [] := by
  intro N φ w vs hN hrel hfree hrep
  simp only [RepL] at hrep
  obtain ⟨v0, _, rfl, hv0, v1, _, rfl, hv1, rfl⟩ := hrep
  simp only [Rep, RepL] at hv1
  obtain ⟨us, rfl, rfl⟩ := hv1
  have hφl : φ.length = 1 := hrel.len
  have stay : ∀ (w' : World), w' = w → ∃ v φ', (Ending.returned (.tuple #[]) : Ending) = .returned v ∧ Rep (envOf N φ' w') (.tup []) v ∧ HeapRel N φ' [.row k es] w' ∧ TurnH φ w [] φ' w' ∧ 1 ≤ 1 := by
    rintro w' rfl
    exact ⟨_, φ, rfl, by simp [Rep, RepL], hrel, ⟨rfl, rfl, rfl, Nat.le_refl _, Nat.le_refl _, fun _ _ _ => rfl, fun _ c _ fr h => ⟨c, fr, h, rfl⟩, fun n b k hn => .inr ⟨n, k, hn⟩, fun _ _ _ h => h⟩, Nat.le_refl _⟩
  have nilcase : es = [] → ∀ (q : Option Addr) (cap : Nat), Calls P f #[.slice q 0 cap, .func (.func g) #[] #[]] w fun e w' => ∃ v φ', e = .returned v ∧ Rep (envOf N φ' w') (.tup []) v ∧ HeapRel N φ' [.row k es'] w' ∧ TurnH φ w [] φ' w' ∧ [Obj.row k es].length ≤ [Obj.row k es'].length := by
    intro hes q cap
    have hes' : es' = es := by subst hes; exact List.length_eq_zero_iff.1 (by simpa using hlen)
    rw [hes']
    refine Calls.mono (hnil hes w q cap) ?_
    rintro e w' ⟨rfl, hw⟩
    exact stay w' hw
  by_cases hes : es = []
  · have hl0 : es.length = 0 := by rw [hes]; rfl
    simp only [Rep] at hv0
    rcases hv0 with ⟨o, _, _, _, _, q, rfl⟩ | ⟨b, cap, c', e', fr, hφ, rfl, hlc, _, hb, hfit⟩
    · exact nilcase hes q 0
    · rw [hl0]; exact nilcase hes _ cap
  · simp only [Rep] at hv0
    rcases hv0 with ⟨o, _, _, h0, _⟩ | ⟨b, cap, c', e', fr, hφ, rfl, hlc, _, hb, hfit⟩
    · exact absurd (List.length_eq_zero_iff.1 h0) hes
    · have hob := hrel.objs 0 (.row k es) (.loc b k) rfl hφ
      simp only [ObjRel] at hob
      obtain ⟨_, hpe, ⟨cc, ee, ffr, hcc, hunf⟩, hE⟩ := hob
      have hb' : w.heap[b]? = some (.cells c' e' fr) := hb
      have hcc' : w.heap[b]? = some (.cells cc ee ffr) := hcc
      rw [hb'] at hcc'
      simp only [Option.some.injEq, Go.Obj.cells.injEq] at hcc'
      obtain ⟨rfl, rfl, rfl⟩ := hcc'
      rw [Nat.zero_mul] at hfit ⊢
      refine Calls.mono (hcall (envOf N φ w) b cap c' e' fr hes hb' hunf hE (by omega) hlc) ?_
      rintro e w' ⟨rfl, hT⟩
      obtain ⟨cc', hcc', hsz⟩ := hT.self c' e' fr hb'
      have hwid : w'.heap.size ≥ w.heap.size := hT.size
      refine ⟨_, φ, rfl, by simp [Rep, RepL], ?_, ?_, Nat.le_refl _⟩
      · exact {
          len := by simpa using hφl
          objs := fun n o p ho hp' => by
            cases n with
            | succ n => simp [nthO] at ho
            | zero =>
              simp only [nthO, Option.some.injEq] at ho
              subst ho
              have hφ' : φ[0]? = some (Own.loc b k) := hφ
              rw [hφ'] at hp'
              obtain rfl := Option.some.inj hp'
              simp only [ObjRel]
              refine ⟨trivial, hp, ⟨cc', e', fr, hcc', fun j hj => hunf j (by omega)⟩, ?_⟩
              exact RowRel.mem (hD (envOf N φ w')) hT.cells h1
          own := fun n b' k' hn => ⟨Nat.lt_of_lt_of_le (hrel.own n b' k' hn).1 hT.size, (hrel.own n b' k' hn).2⟩
          inj := hrel.inj }
      · exact {
          os := hT.os
          tape := hT.tape
          output := hT.output
          drawn := hT.drawn
          size := hT.size
          block := fun b' hb' hno => hT.block b' hb' fun e => by subst e; exact hno 0 k hφ
          shape := fun b' c₁ e₁ fr₁ h₁ => by
            by_cases hbb : b' = b
            · subst hbb
              obtain ⟨c₂, h₂, h₃⟩ := hT.self c₁ e₁ fr₁ h₁
              exact ⟨c₂, fr₁, h₂, h₃⟩
            · have : b' < w.heap.size := (Array.getElem?_eq_some_iff.1 h₁).1
              exact ⟨c₁, fr₁, by rw [hT.block b' this hbb]; exact h₁, rfl⟩
          own := fun n b' k' hn => .inr ⟨n, k', hn⟩
          stay := fun _ _ _ h => h }

/-- A scalar's value. -/
def encV : A → Value
  | .int k n => .int k n
  | .bool b => .bool b
  | .str s => .string ⟨s.toArray⟩
  | _ => undef
def scalar : A → Bool
  | .int _ _ => true
  | .bool _ => true
  | .str _ => true
  | _ => false
theorem rep_scalar {E : Env} {x : A} {v : Value} (h : scalar x = true) : Rep E x v ↔ v = encV x := by
  cases x <;> simp [scalar] at h <;> simp [Rep, encV]
theorem one_scalar {x : A} (h : scalar x = true) : (encV x).oneCell' = true := by
  cases x <;> simp [scalar] at h <;> rfl
theorem pure_scalar {x : A} (h : scalar x = true) : x.pure = true := by
  cases x <;> simp [scalar] at h <;> simp [A.pure]
theorem repL_scalars {E : Env} : ∀ {xs : List A}, (∀ x ∈ xs, scalar x = true) → RepL E xs (xs.map encV)
  | [], _ => by simp [RepL]
  | x :: xs, h => by
    simp only [List.map_cons, RepL]
    exact ⟨_, _, rfl, (rep_scalar (h x (by simp))).2 rfl, repL_scalars fun y hy => h y (by simp [hy])⟩
theorem pureL_scalars : ∀ {xs : List A}, (∀ x ∈ xs, scalar x = true) → A.pure.pureL xs = true
  | [], _ => rfl
  | x :: xs, h => by
    simp only [A.pure.pureL, Bool.and_eq_true]
    exact ⟨pure_scalar (h x (by simp)), pureL_scalars fun y hy => h y (by simp [hy])⟩

theorem flatten_get {α : Type} {k : Nat} (hk : 0 < k) : ∀ {ls : List (List α)}, (∀ l ∈ ls, l.length = k) → ∀ j : Nat, ls.flatten[j]? = (ls[j / k]?).bind fun l => l[j % k]?
  | [], _, j => by simp
  | l :: ls, h, j => by
    have hl := h l (by simp)
    rw [List.flatten_cons]
    by_cases hj : j < k
    · rw [List.getElem?_append_left (by omega), Nat.div_eq_of_lt hj, Nat.mod_eq_of_lt hj]; simp
    · rw [List.getElem?_append_right (by omega), flatten_get hk (fun x hx => h x (by simp [hx])) (j - l.length), hl]
      have h1 : j / k = (j - k) / k + 1 := by rw [Nat.div_eq_sub_div hk (by omega)]
      have h2 : j % k = (j - k) % k := by rw [Nat.mod_eq_sub_mod (by omega)]
      rw [h1, h2]; simp

theorem rowRel_flat {E : Env} {k : Nat} {β : Type} {enc : β → List A} (hk : ∀ x, (enc x).length = k) (hs : ∀ x, ∀ a ∈ enc x, scalar a = true) : ∀ l : List β, RowRel E k (l.map fun x => .agg (enc x)) ((l.map fun x => (enc x).map encV).flatten)
  | [] => by simp [RowRel]
  | x :: l => by
    have h1 : ((enc x).map encV).length = k := by rw [List.length_map, hk]
    simp only [List.map_cons, RowRel, A.cells, List.flatten_cons]
    refine ⟨hk x, by rw [List.length_append]; omega, ?_, ?_⟩
    · rw [List.take_append_of_le_length (by omega), List.take_of_length_le (by omega)]
      exact repL_scalars (hs x)
    · rw [List.drop_append_of_le_length (by omega), List.drop_of_length_le (by omega)]
      exact rowRel_flat hk hs l
theorem rowRel_one {E : Env} {β : Type} {enc : β → A} (hs : ∀ x, scalar (enc x) = true) : ∀ l : List β, RowRel E 1 (l.map enc) (l.map fun x => encV (enc x))
  | [] => by simp [RowRel]
  | x :: l => by
    have hc : (enc x).cells = [enc x] := by have := hs x; cases h : enc x <;> rw [h] at this <;> simp [scalar] at this <;> rfl
    simp only [List.map_cons, RowRel, hc]
    refine ⟨rfl, by simp, ?_, ?_⟩
    · simp only [List.take_succ_cons, List.take_zero, RepL]
      exact ⟨_, [], rfl, (rep_scalar (hs x)).2 rfl, rfl⟩
    · simpa using rowRel_one hs l
theorem pureL_map {β : Type} {f : β → A} (h : ∀ x, (f x).pure = true) : ∀ l : List β, A.pure.pureL (l.map f) = true
  | [] => rfl
  | x :: l => by simp [A.pure.pureL, h x, pureL_map h l]

open Go.Sort in
theorem grew_grow {w w' : World} (g : Grew w w') : ∃ q os, w' = Sort.grow (w.drewN q) os := by
  refine ⟨w'.drawn - w.drawn, w'.heap.extract w.heap.size w'.heap.size, ?_⟩
  have hh : w.heap ++ w'.heap.extract w.heap.size w'.heap.size = w'.heap := by
    have hsz := g.size
    apply Array.ext_getElem?
    intro i
    by_cases hi : i < w.heap.size
    · rw [Array.getElem?_append_left hi, g.block i hi]
    · rw [Array.getElem?_append_right (by omega), Array.getElem?_extract]
      by_cases h2 : i < w'.heap.size
      · rw [if_pos (by omega), show w.heap.size + (i - w.heap.size) = i by omega]
      · rw [if_neg (by omega), Array.getElem?_eq_none (by omega)]
  have hd := g.drawn
  unfold Sort.grow World.drewN
  rw [show w.drawn + (w'.drawn - w.drawn) = w'.drawn by omega]
  obtain ⟨heap, tape, drawn, os, output⟩ := w'
  have h1 := g.os; have h2 := g.tape; have h3 := g.output
  simp only at h1 h2 h3 hh ⊢
  rw [hh, h1, h2, h3]

open Go.Sort in
theorem turn_of_put {w : World} {b n : Nat} {F F0 : Array Value} {os : Array Go.Obj} (h0 : Holds id w b 0 F0) (hs : F.size = F0.size) (hb : b < w.heap.size) : SortTurn b F.toList w (Sort.grow (putRow id (Sort.ahead w n) b 0 F) os) where
  os := rfl
  tape := rfl
  output := rfl
  drawn := Nat.le_add_right _ _
  size := by
    show w.heap.size ≤ ((w.heap.modify b _) ++ os).size
    simp
  block := fun c hc hne => by
    show ((w.heap.modify b _) ++ os)[c]? = _
    rw [Array.getElem?_append_left (by simpa using hc), Array.getElem?_modify, if_neg (Ne.symm hne)]
  self := fun cc e fr hcc => by
    refine ⟨putCells id 0 F cc, ?_, by simp [putCells]⟩
    show ((w.heap.modify b _) ++ os)[b]? = _
    rw [Array.getElem?_append_left (by simpa using hb), Array.getElem?_modify, if_pos rfl, hcc]
    rfl
  cells := fun j v hj => by
    have hjF : j < F.size := by
      have := (List.getElem?_eq_some_iff.1 hj).1
      simpa using this
    have h1 := cell?_putRow id (Sort.ahead w n) b 0 F0 F (holds_ahead id w n b 0 F0 h0) hs j hjF
    have h2 : (Sort.grow (putRow id (Sort.ahead w n) b 0 F) os).cell? ⟨b, 0 + j, none⟩ = (putRow id (Sort.ahead w n) b 0 F).cell? ⟨b, 0 + j, none⟩ := by
      unfold World.cell?
      show (match ((putRow id (Sort.ahead w n) b 0 F).heap ++ os)[b]? with | some (.cells c _ _) => _ | _ => none) = _
      rw [Array.getElem?_append_left (by simpa using hb)]
      rfl
    rw [h2, h1]
    have : F[j]! = v := by
      rw [getElem!_pos F j hjF]
      have := (List.getElem?_eq_some_iff.1 hj).2
      simpa using this
    rw [this]; rfl

theorem unfrozen_at {w : World} {b : Nat} {c : Array Value} {e : TypeId} {fr : Nat × Nat} (hb : w.heap[b]? = some (.cells c e fr)) (hf : Unfrozen c fr) {j : Nat} (hj : j < c.size) : w.frozen? ⟨b, j, none⟩ = false := by
  have := (there_of (w := w) (b := b) (off := j) (n := 1) hb hf (by omega) 0 (by omega)).2
  simpa using this

/-- What the library's sort leaves, of elements that are told apart by less alone as far as 'cf' does. -/
noncomputable def sortL {β : Type} [Inhabited β] (cf : β → β → Int) (l : List β) : List β := (Sort.pdq (Go.Proofs.ltOf cf) l.toArray 0 l.toArray.size (Lib.bitLen l.toArray.size) true true).toList
theorem sortL_spec {β : Type} [Inhabited β] {cf : β → β → Int} (hO : Sort.SWO (Go.Proofs.ltOf cf)) (l : List β) : (sortL cf l).Perm l ∧ (sortL cf l).Pairwise (fun x y => ¬ cf y x < 0) := by
  obtain ⟨⟨h1, _, h3⟩, h4⟩ := Sort.pdq_sorts (Go.Proofs.ltOf cf) hO l.toArray 0 l.toArray.size (Lib.bitLen l.toArray.size) true true (Nat.zero_le _) (Nat.le_refl _) (Or.inl rfl)
  refine ⟨?_, ?_⟩
  · unfold sortL
    have e : ∀ d : Array β, d.size = l.toArray.size → d.extract 0 l.toArray.size = d := fun d hd => by rw [← hd]; simp
    rw [e _ h1, e _ rfl] at h3
    simpa using h3
  · unfold sortL
    rw [List.pairwise_iff_getElem]
    intro i j hi hj hij
    have hj' : j < l.toArray.size := by rw [← h1]; simpa using hj
    have := h4 i j (Nat.zero_le _) hij hj'
    have hi2 : i < (Sort.pdq (Go.Proofs.ltOf cf) l.toArray 0 l.toArray.size (Lib.bitLen l.toArray.size) true true).size := by simpa using hi
    have hj2 : j < (Sort.pdq (Go.Proofs.ltOf cf) l.toArray 0 l.toArray.size (Lib.bitLen l.toArray.size) true true).size := by simpa using hj
    rw [getElem!_pos _ i hi2, getElem!_pos _ j hj2] at this
    simpa [Go.Proofs.ltOf] using this

open Go.Shelf Go.Lib Go.Sort Go.Proofs in
/-- slices.SortFunc of structs, by a function that captures nothing. -/
theorem sort_struct {P : Program} {ρ : Ren} {β : Type} [Inhabited β] (L : SlLaysF0.n6 P ρ) {k : Nat} (hk0 : 0 < k) (aE : ∀ w, (isAgg (ρ.t 24)).run P w = .ok true w) (zE : ∀ w, (Go.sizeOf (ρ.t 24)).run P w = .ok k w) (enc : β → List A) (hk : ∀ x, (enc x).length = k) (hs : ∀ x, ∀ a ∈ enc x, scalar a = true)
    (cf : β → β → Int) (hO : SWO (ltOf cf)) {g : FuncId} (hg : Callable P g) (hcmp : ∀ x y, CallA P g [.agg (enc x), .agg (enc y)] (· = .int .i64 (cf x y))) (l : List β) (hsz : l.length < 4611686018427387904) (c : Bool) :
    CallH P (ρ.f 6) [.row 0 0 k l.length c, .fn g []] [.row k (l.map fun x => .agg (enc x))] (.tup []) [.row k ((sortL cf l).map fun x => .agg (enc x))] [] := by
  have hperm := (sortL_spec hO l).1
  have hl1 : (l.map fun x => A.agg (enc x)).length = l.length := List.length_map _
  have hle : ∀ x, ((enc x).map encV).length = k := fun x => by rw [List.length_map, hk]
  have hone : ∀ x, ∀ v ∈ (enc x).map encV, v.oneCell' = true := fun x v hv => by
    obtain ⟨a, ha, rfl⟩ := List.mem_map.1 hv
    exact one_scalar (hs x a ha)
  have := callH_sorted (P := P) (f := ρ.f 6) (g := g) (k := k) (c := c) (es := l.map fun x => A.agg (enc x)) (es' := (sortL cf l).map fun x => A.agg (enc x)) (D := ((sortL cf l).map fun x => (enc x).map encV).flatten) hk0
    (fun E => rowRel_flat hk hs _) (pureL_map (fun x => by simp only [A.pure]; exact pureL_scalars (hs x)) _) (fun u hu => by
      obtain ⟨ys, hys, hu⟩ := List.mem_flatten.1 hu
      obtain ⟨x, _, rfl⟩ := List.mem_map.1 hys
      exact hone x u hu) (by rw [List.length_map, List.length_map]; exact hperm.length_eq)
    (fun _ w q cap => AnyF.slices_SortFunc_none L q cap _ w) ?_
  · rw [hl1] at this; exact this
  intro E b cap cc e fr hne hb hunf hE hfit hlc
  rw [hl1] at hlc ⊢
  have hbs : b < E.w.heap.size := (Array.getElem?_eq_some_iff.1 hb).1
  have hmul : l.length * k ≤ cc.size := Nat.le_trans (by rw [Nat.mul_comm]; exact Nat.mul_le_mul_left _ hlc) hfit
  have hH : HoldsK (fun x => (enc x).map encV) k E.w b 0 l.toArray := by
    intro j hj
    rw [size_flatK] at hj
    have hj' : j < l.length * k := by simpa using hj
    have hq : j / k < l.length := (Nat.div_lt_iff_lt_mul hk0).2 hj'
    have hr : j % k < k := Nat.mod_lt _ hk0
    refine ⟨?_, by rw [Nat.zero_add]; exact unfrozen_at hb hunf (by omega)⟩
    obtain ⟨_, hM⟩ := RepE_iff.1 hE (j / k) (.agg (enc l[j / k])) (by simp [hq])
    have hrl : j % k < (enc l[j / k]).length := by rw [hk]; exact hr
    obtain ⟨v, hv, _, hrep⟩ := RepM_iff.1 hM (j % k) _ (List.getElem?_eq_getElem (by simpa [A.cells] using hrl))
    have hv' := (rep_scalar (hs _ _ (List.getElem_mem _))).1 hrep
    rw [show 0 + j / k * k + j % k = 0 + j by rw [Nat.zero_add, Nat.zero_add, Nat.mul_comm]; exact Nat.div_add_mod j k] at hv
    rw [hv, hv', get_flatK _ _ _ _ hj]
    simp only [id]
    have e1 : l.toArray[j / k]! = l[j / k] := by rw [getElem!_pos _ _ (by simpa using hq)]; simp
    rw [e1, getElem!_pos _ _ (by rw [List.length_map]; exact hrl)]
    simp only [A.cells, List.getElem_map]
    rfl
  have hcl : CmpLays P g #[] (fun x => (enc x).map encV) k cf b 0 l.toArray.size E.w := by
    intro m os dk hdk x y
    have hrep : RepL ⟨fun _ => False, [], sortWorldK (fun x => (enc x).map encV) k E.w b 0 m dk os⟩ [.agg (enc x), .agg (enc y)] [.agg ((enc x).map encV).toArray, .agg ((enc y).map encV).toArray] := by
      simp only [RepL, Rep]
      exact ⟨_, _, rfl, ⟨_, rfl, repL_scalars (hs x), hone x⟩, _, _, rfl, ⟨_, rfl, repL_scalars (hs y), hone y⟩, rfl⟩
    refine Calls.mono (hcmp x y (fun _ => False) _ _ (fun b h => h.elim) hrep) ?_
    rintro e w' ⟨v, r, rfl, rfl, hr, hgr⟩
    simp only [Rep] at hr
    subst hr
    exact ⟨rfl, grew_grow hgr⟩
  have hmain := AnyQ.slices_SortFunc_eq L k aE zE (fun x => (enc x).map encV) hle hone cf hO g #[] b 0 cap l.toArray E.w (fun args w => run_callFunc hg args w) hcl hH hbs (by simpa using hsz)
  have hpsz : (pdq (ltOf cf) l.toArray 0 l.toArray.size (Lib.bitLen l.toArray.size) true true).size = l.toArray.size := (pdq_sorts (ltOf cf) hO l.toArray 0 l.toArray.size (Lib.bitLen l.toArray.size) true true (Nat.zero_le _) (Nat.le_refl _) (Or.inl rfl)).1.1
  have hsl : l.toArray.size = l.length := by simp
  rw [hsl] at hmain
  refine Calls.mono hmain ?_
  rintro e w' ⟨rfl, n, os, rfl⟩
  refine ⟨rfl, ?_⟩
  have hflat : ((sortL cf l).map fun x => (enc x).map encV).flatten = (flatK (fun x => (enc x).map encV) k (pdq (ltOf cf) l.toArray 0 l.length (Lib.bitLen l.length) true true)).toList := by
    rw [hsl] at hpsz
    have hsl2 : (sortL cf l) = (pdq (ltOf cf) l.toArray 0 l.length (Lib.bitLen l.length) true true).toList := by unfold sortL; rw [hsl]
    rw [hsl2]
    generalize pdq (ltOf cf) l.toArray 0 l.length (Lib.bitLen l.length) true true = d at hpsz ⊢
    apply List.ext_getElem?
    intro j
    rw [flatten_get hk0 (fun ys hys => by obtain ⟨x, _, rfl⟩ := List.mem_map.1 hys; exact hle x)]
    by_cases hj : j < d.size * k
    · have hq : j / k < d.size := (Nat.div_lt_iff_lt_mul hk0).2 hj
      have hr : j % k < k := Nat.mod_lt _ hk0
      have e1 : (flatK (fun x => (enc x).map encV) k d).toList[j]? = some ((flatK (fun x => (enc x).map encV) k d)[j]!) := by
        rw [getElem!_pos _ j (by rw [size_flatK]; exact hj)]; simp [hj]
      rw [e1, get_flatK _ _ _ _ hj]
      rw [getElem!_pos d _ hq]
      have hq' : j / k < d.toList.length := by simpa using hq
      simp only [List.getElem?_map, List.getElem?_eq_getElem hq', Option.map_some, Option.bind_some]
      rw [getElem!_pos _ _ (by simp only [List.length_map, hk]; exact hr)]
      rw [List.getElem?_eq_getElem (by simp only [List.length_map, hk]; exact hr)]
      simp
    · have hq : d.size ≤ j / k := by
        rcases Nat.lt_or_ge (j / k) d.size with h | h
        · exact absurd ((Nat.div_lt_iff_lt_mul hk0).1 h) hj
        · exact h
      have e1 : (flatK (fun x => (enc x).map encV) k d).toList[j]? = none := by
        rw [List.getElem?_eq_none]; rw [Array.length_toList, size_flatK]; omega
      rw [e1]
      simp [hq]
  rw [hflat]
  unfold sortWorldK putRowK
  exact turn_of_put hH (by rw [size_flatK, size_flatK]; rw [hsl] at hpsz; rw [hpsz, hsl]) hbs

open Go.Shelf Go.Lib Go.Sort Go.Proofs in
/-- slices.SortFunc of scalars. -/
theorem sort_scalar {P : Program} {ρ : Ren} {β : Type} [Inhabited β] (L : SlLaysF.n6 P ρ) (L0 : SlLaysF0.n6 P ρ) (enc : β → A) (hs : ∀ x, scalar (enc x) = true)
    (cf : β → β → Int) (hO : SWO (ltOf cf)) {g : FuncId} (hg : Callable P g) (hcmp : ∀ x y, CallA P g [enc x, enc y] (· = .int .i64 (cf x y))) (l : List β) (hsz : l.length < 4611686018427387904) (c : Bool) :
    CallH P (ρ.f 6) [.row 0 0 1 l.length c, .fn g []] [.row 1 (l.map enc)] (.tup []) [.row 1 ((sortL cf l).map enc)] [] := by
  have hperm := (sortL_spec hO l).1
  have hl1 : (l.map enc).length = l.length := List.length_map _
  have hcell : ∀ x, (enc x).cells = [enc x] := fun x => by have := hs x; cases h : enc x <;> rw [h] at this <;> simp [scalar] at this <;> rfl
  have := callH_sorted (P := P) (f := ρ.f 6) (g := g) (k := 1) (c := c) (es := l.map enc) (es' := (sortL cf l).map enc) (D := (sortL cf l).map fun x => encV (enc x)) (by omega)
    (fun E => rowRel_one hs _) (pureL_map (fun x => pure_scalar (hs x)) _) (fun u hu => by
      obtain ⟨x, _, rfl⟩ := List.mem_map.1 hu
      exact one_scalar (hs x)) (by rw [List.length_map, List.length_map]; exact hperm.length_eq)
    (fun _ w q cap => AnyF.slices_SortFunc_none L0 q cap _ w) ?_
  · rw [hl1] at this; exact this
  intro E b cap cc e fr hne hb hunf hE hfit hlc
  rw [hl1] at hlc ⊢
  have hbs : b < E.w.heap.size := (Array.getElem?_eq_some_iff.1 hb).1
  have hH : Holds (fun x => encV (enc x)) E.w b 0 l.toArray := by
    intro j hj
    have hj' : j < l.length := by simpa using hj
    refine ⟨?_, by rw [Nat.zero_add]; exact unfrozen_at hb hunf (by omega)⟩
    obtain ⟨_, hM⟩ := RepE_iff.1 hE j (enc l[j]) (by simp [hj'])
    rw [hcell] at hM
    obtain ⟨v, hv, _, hrep⟩ := RepM_one.1 hM
    have hv' := (rep_scalar (hs _)).1 hrep
    rw [Nat.mul_one] at hv
    rw [hv, hv', getElem!_pos l.toArray j hj]; simp
  have hcl : CmpLays1 P g #[] (fun x => encV (enc x)) cf b 0 l.toArray.size E.w := by
    intro m os dk hdk x y
    have hrep : RepL ⟨fun _ => False, [], sortWorld (fun x => encV (enc x)) E.w b 0 m dk os⟩ [enc x, enc y] [encV (enc x), encV (enc y)] := by
      simp only [RepL]
      exact ⟨_, _, rfl, (rep_scalar (hs x)).2 rfl, _, _, rfl, (rep_scalar (hs y)).2 rfl, rfl⟩
    refine Calls.mono (hcmp x y (fun _ => False) _ _ (fun b h => h.elim) hrep) ?_
    rintro e w' ⟨v, r, rfl, rfl, hr, hgr⟩
    simp only [Rep] at hr
    subst hr
    exact ⟨rfl, grew_grow hgr⟩
  have hmain := Any.slices_SortFunc_eq L (fun x => encV (enc x)) (fun x => one_scalar (hs x)) cf hO g #[] b 0 cap l.toArray E.w (fun args w => run_callFunc hg args w) hcl hH hbs (by simpa using hsz)
  have hpsz : (pdq (ltOf cf) l.toArray 0 l.toArray.size (Lib.bitLen l.toArray.size) true true).size = l.toArray.size := (pdq_sorts (ltOf cf) hO l.toArray 0 l.toArray.size (Lib.bitLen l.toArray.size) true true (Nat.zero_le _) (Nat.le_refl _) (Or.inl rfl)).1.1
  have hsl : l.toArray.size = l.length := by simp
  rw [hsl] at hmain hpsz
  refine Calls.mono hmain ?_
  rintro e w' ⟨rfl, n, os, rfl⟩
  refine ⟨rfl, ?_⟩
  have hsl2 : (sortL cf l) = (pdq (ltOf cf) l.toArray 0 l.length (Lib.bitLen l.length) true true).toList := by unfold sortL; rw [hsl]
  rw [hsl2]
  generalize pdq (ltOf cf) l.toArray 0 l.length (Lib.bitLen l.length) true true = d at hpsz ⊢
  have hput : ∀ (w : World) (d : Array β), putRow (fun x => encV (enc x)) w b 0 d = putRow id w b 0 (d.map fun x => encV (enc x)) := fun w d => by
    unfold putRow
    congr 1
    funext c
    unfold putCells
    apply Array.ext
    · simp
    · intro i h1 h2
      simp only [Array.getElem_mapIdx, Array.size_map, Nat.zero_le, true_and, Nat.zero_add, Nat.sub_zero, id]
      split
      · rename_i hi
        rw [getElem!_pos d i hi, getElem!_pos _ i (by simpa using hi)]; simp
      · rfl
  have hH' : Holds id E.w b 0 (l.toArray.map fun x => encV (enc x)) := fun j hj => by
    have hj' : j < l.toArray.size := by simpa using hj
    obtain ⟨h1, h2⟩ := hH j hj'
    refine ⟨?_, h2⟩
    rw [h1, getElem!_pos l.toArray j hj', getElem!_pos (l.toArray.map fun x => encV (enc x)) j hj]; simp
  have he : (d.toList.map fun x => encV (enc x)) = (d.map fun x => encV (enc x)).toList := by simp
  rw [he]
  unfold sortWorld
  rw [hput]
  exact turn_of_put hH' (by simp [hpsz]) hbs
end Go.Abs
