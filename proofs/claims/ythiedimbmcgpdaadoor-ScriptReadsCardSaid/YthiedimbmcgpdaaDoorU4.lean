/- What the laws of this claim rest on: the abstract executor, its soundness, and what the functions compute on pure data. No condition. -/
import Derived.Test.YthiedimbmcgpdaaDoorU3
import Derived.Deep.Slices
import Derived.OpenShut
import Derived.Shelf.Strings.OnBuilder
import Derived.Shelf.Strings.Split
import Derived.Shelf.Small.Strs
import Derived.Ground.NamesProg
import Derived.Test.YthiedimbmcgpdaaDoorProg
import Derived.Lib.Join
import Derived.Lib.SplitLaws
set_option linter.unusedVariables false
set_option linter.unusedSimpArgs false
namespace Go.Abs
open Go.RowKit
inductive CT where
  | int (k : IntKind)
  | bool
  | str
  | list (c : CT)
  | rows (cs : List CT)
mutual
def fits : CT → A → Prop
  | .int k, x => ∃ n, x = .int k n ∧ (Lit.int k n).wf = true
  | .bool, x => ∃ b, x = .bool b
  | .str, x => ∃ s, x = .str s ∧ s.length ≤ maxLen
  | .list c, x => ∃ es, x = .slc es ∧ es.length ≤ maxLen ∧ ∀ e ∈ es, fits c e
  | .rows cs, x => ∃ es, x = .slc es ∧ es.length ≤ maxLen ∧ ∀ e ∈ es, ∃ ys, e = .agg ys ∧ fitsL cs ys
def fitsL : List CT → List A → Prop
  | [], ys => ys = []
  | c :: cs, ys => ∃ y zs, ys = y :: zs ∧ fits c y ∧ fitsL cs zs
end
def flatGo (rec : TypeId → Option (List CT)) (size : TypeId → Nat) : List Field → Nat → Option (List CT)
  | [], _ => some []
  | f :: fs, off =>
    if f.offset = off then
      match rec f.type with
      | some ks => if ks.length = size f.type then (flatGo rec size fs (off + size f.type)).map (ks ++ ·) else none
      | none => none
    else none
def flatTy (P : Program) : Nat → TypeId → Option (List CT)
  | 0, _ => none
  | d + 1, t =>
    match P.underlying t with
    | some .bool => some [.bool]
    | some (.int k) => some [.int k]
    | some .string => some [.str]
    | some (.slice e) =>
      match tyAgg P e, flatTy P d e with
      | some true, some (c :: cs) => if (c :: cs).length = P.cellsOf e then some [.rows (c :: cs)] else none
      | some false, some [c] => if P.cellsOf e = 1 then some [.list c] else none
      | _, _ => none
    | some (.struct fs) => (flatGo (flatTy P d) P.cellsOf fs.toList 0).bind fun ks => if ks.length = P.cellsOf t then some ks else none
    | some (.array n e) =>
      match flatTy P d e with
      | some ks => if ks.length = P.cellsOf e ∧ n * ks.length = P.cellsOf t then some (List.replicate n ks).flatten else none
      | none => none
    | _ => none
theorem fitsL_append : ∀ {cs ds : List CT} {ys zs : List A}, fitsL cs ys → fitsL ds zs → fitsL (cs ++ ds) (ys ++ zs)
  | [], ds, ys, zs, h, h' => by simp only [fitsL] at h; subst h; simpa using h'
  | c :: cs, ds, ys, zs, h, h' => by
    simp only [fitsL] at h
    obtain ⟨y, us, rfl, h1, h2⟩ := h
    simp only [List.cons_append, fitsL]
    exact ⟨y, us ++ zs, rfl, h1, fitsL_append h2 h'⟩
section
variable {H : Type} {enc : TypeId × Value → H} {P : Program} {w : World} {sp : Nat → Bool} {held : Bool}
def Reads (w : World) (cts : List CT) (cs : List Value) : Prop := ∃ xs : List A, RepL ⟨fun _ => False, [], w⟩ xs cs ∧ fitsL cts xs ∧ A.pure.pureL xs = true ∧ ∀ u ∈ cs, u.oneCell' = true
theorem Reads.append {cts cts' : List CT} {cs cs' : List Value} (h : Reads w cts cs) (h' : Reads w cts' cs') : Reads w (cts ++ cts') (cs ++ cs') := by
  obtain ⟨xs, h1, h2, h3, h4⟩ := h
  obtain ⟨ys, g1, g2, g3, g4⟩ := h'
  refine ⟨xs ++ ys, RepL_append h1 g1, fitsL_append h2 g2, pureL_of fun j y hy => ?_, fun u hu => ?_⟩
  · rcases List.mem_append.1 (List.mem_of_getElem? hy) with hm | hm
    · obtain ⟨r, hr⟩ := List.getElem?_of_mem hm; exact pureL_getElem h3 hr
    · obtain ⟨r, hr⟩ := List.getElem?_of_mem hm; exact pureL_getElem g3 hr
  · rcases List.mem_append.1 hu with hu | hu
    · exact h4 u hu
    · exact g4 u hu
theorem Reads.nil : Reads w [] [] := ⟨[], by simp [RepL], by simp [fitsL], rfl, by simp⟩
theorem reads_struct {rec : TypeId → Option (List CT)} {size : TypeId → Nat} {cs : List Value} : ∀ {fs : List Field} {off : Nat} {ks : List CT}, flatGo rec size fs off = some ks →
    (∀ f ∈ fs, ∀ k, rec f.type = some k → Reads w k ((cs.drop f.offset).take (size f.type))) → off + ks.length = cs.length → Reads w ks (cs.drop off)
  | [], off, ks, h, _, hl => by
    simp only [flatGo, Option.some.injEq] at h
    subst h
    have : cs.drop off = [] := List.drop_of_length_le (by simp at hl; omega)
    rw [this]
    exact Reads.nil
  | f :: fs, off, ks, h, hf, hl => by
    simp only [flatGo] at h
    split at h
    · rename_i ho
      split at h
      · rename_i k hk
        split at h
        · rename_i hsz
          cases hg : flatGo rec size fs (off + size f.type) with
          | none => simp [hg] at h
          | some ks' =>
            simp [hg] at h
            subst h
            have h1 := hf f (by simp) k hk
            rw [ho] at h1
            have h2 := reads_struct hg (fun g hgm => hf g (by simp [hgm])) (by simp at hl; omega)
            have := h1.append h2
            rw [show cs.drop (off + size f.type) = (cs.drop off).drop (size f.type) by rw [List.drop_drop], List.take_append_drop] at this
            exact this
        · simp at h
      · simp at h
    · simp at h
theorem reads_array {ks : List CT} {k : Nat} (hk : ks.length = k) : ∀ {n : Nat} {cs : List Value}, cs.length = n * k → (∀ i, i < n → Reads w ks ((cs.drop (i * k)).take k)) → Reads w (List.replicate n ks).flatten cs
  | 0, cs, hl, _ => by
    have : cs = [] := List.length_eq_zero_iff.1 (by simpa using hl)
    subst this
    simpa using Reads.nil (w := w)
  | n + 1, cs, hl, h => by
    rw [List.replicate_succ, List.flatten_cons]
    have h0 := h 0 (by omega)
    simp only [Nat.zero_mul, List.drop_zero] at h0
    have hr := reads_array hk (n := n) (cs := cs.drop k) (by simp [hl, Nat.add_mul]) (fun i hi => by
      have := h (i + 1) (by omega)
      rw [List.drop_drop, show k + i * k = (i + 1) * k by rw [Nat.add_mul]; omega]
      exact this)
    have := h0.append hr
    rw [List.take_append_drop] at this
    exact this
theorem spot_of {a : Addr} {v : Value} (h : w.cell? a = some v) : a = ⟨a.block, a.off, none⟩ ∧ a.block < w.heap.size := by
  unfold World.cell? at h
  split at h
  · rename_i c e fr hb
    split at h
    · simp at h
    · rename_i hs
      obtain ⟨b, o, s⟩ := a
      have : s = none := by cases s <;> simp_all
      subst this
      refine ⟨rfl, ?_⟩
      rcases Nat.lt_or_ge b w.heap.size with h' | h'
      · exact h'
      · rw [Array.getElem?_eq_none h'] at hb; simp at hb
  · simp at h
theorem reads_slice {k len cap : Nat} {a : Addr} (hk : k ≠ 0) (hlc : len ≤ cap) {mk : List A → A} {cts : List CT} (hmk : ∀ ys, fitsL cts ys → (mk ys).cells = ys) (hmp : ∀ ys, fitsL cts ys → A.pure.pureL ys = true → (mk ys).pure = true)
    (hx : ∀ i, i < len → ∃ cs, w.cells? 0 (a.add (i * k)) k = some cs ∧ Reads w cts cs) : ∃ es : List A, Rep ⟨fun _ => False, [], w⟩ (.slc es) (.slice (some a) len cap) ∧ es.length = len ∧ (A.slc es).pure = true ∧ ∀ e ∈ es, ∃ ys, e = mk ys ∧ fitsL cts ys := by
  obtain ⟨X, hX⟩ := Go.Deep.choose_lt (α := List A) (p := fun i ys => ∃ cs, w.cells? 0 (a.add (i * k)) k = some cs ∧ RepL ⟨fun _ => False, [], w⟩ ys cs ∧ fitsL cts ys ∧ A.pure.pureL ys = true ∧ ∀ u ∈ cs, u.oneCell' = true) (fun i hi => by
    obtain ⟨cs, h1, ys, h2⟩ := hx i hi
    exact ⟨ys, cs, h1, h2⟩)
  refine ⟨(List.range len).map fun i => mk (X i), ?_, by simp, by simp [A.pure], ?_⟩
  · simp only [Rep]
    refine ⟨pureL_of fun i e he => ?_, some a, cap, by simp, by simpa using hlc, fun hne => ?_⟩
    · have := List.mem_of_getElem? he
      obtain ⟨j, hj, rfl⟩ := List.mem_map.1 this
      obtain ⟨cs, _, _, hf, hp, _⟩ := hX j (List.mem_range.1 hj)
      exact hmp _ hf hp
    · have hlen : 0 < len := by
        rcases Nat.eq_zero_or_pos len with h | h
        · subst h; simp at hne
        · exact h
      obtain ⟨cs0, h1, h2, _⟩ := hX 0 hlen
      obtain ⟨_, hl0, hg0⟩ := World.cells?_some h1
      have h0 := hg0 0 (by omega)
      rw [Go.Deep.add_add] at h0
      simp only [Nat.zero_mul, Nat.add_zero] at h0
      have ha0 : a.add 0 = a := by simp [Addr.add]
      rw [ha0, List.getElem?_eq_getElem (by omega)] at h0
      obtain ⟨hspot, hblk⟩ := spot_of h0
      refine ⟨a.block, a.off, by rw [← hspot], hblk, fun h => h, ?_⟩
      have hE : RepE ⟨fun _ => False, [], w⟩ k a.block a.off ((List.range len).map fun i => mk (X i)) := by
        refine RepE_iff.2 fun i e he => ?_
        have hi : i < len := by
          have := (List.getElem?_eq_some_iff.1 he).1
          simpa using this
        have he' : e = mk (X i) := by
          rw [List.getElem?_map, List.getElem?_range hi] at he
          simpa using he.symm
        subst he'
        obtain ⟨cs, g1, g2, g3, g4, g5⟩ := hX i hi
        obtain ⟨_, gl, gg⟩ := World.cells?_some g1
        have hyl : (X i).length = k := by rw [(RepL_iff.1 g2).1, gl]
        rw [hmk _ g3]
        refine ⟨hyl, RepM_of_vals (vs := cs) (fun j v hv => ?_) g2 g5⟩
        have hj : j < k := by
          have := (List.getElem?_eq_some_iff.1 hv).1
          omega
        have := gg j hj
        rw [Go.Deep.add_add, hspot, Addr.add_lit, hv] at this
        rw [Nat.add_assoc]
        exact this
      have hst : strideOf ((List.range len).map fun i => mk (X i)) = k := stride_of hE hne
      rw [hst]
      exact hE
  · intro e he
    obtain ⟨j, hj, rfl⟩ := List.mem_map.1 he
    obtain ⟨cs, _, _, hf, _⟩ := hX j (List.mem_range.1 hj)
    exact ⟨X j, rfl, hf⟩
theorem reads_of_trod : ∀ (d : Nat) {t : TypeId} {cts : List CT} {fuel : Nat} {cs : List Value} {x : DataW H × List MemPlace}, flatTy P d t = some cts → DataW.trod enc P w 0 sp held fuel t cs = some x → Reads w cts cs := by
  intro d
  induction d with
  | zero => intro t cts fuel cs x hf; simp [flatTy] at hf
  | succ d ih =>
    intro t cts fuel cs x hf h
    unfold flatTy at hf
    split at hf
    · rename_i hu
      obtain rfl := Option.some.inj hf
      obtain ⟨b, rfl, _⟩ := DataW.trod_bool hu h
      exact ⟨[.bool b], by simp [RepL, Rep], by simp [fitsL, fits], rfl, by simp [Value.oneCell']⟩
    · rename_i k hu
      obtain rfl := Option.some.inj hf
      obtain ⟨n, rfl, _, hn⟩ := DataW.trod_int hu h
      exact ⟨[.int k n], by simp [RepL, Rep], by simp [fitsL, fits, hn], rfl, by simp [Value.oneCell']⟩
    · rename_i hu
      obtain rfl := Option.some.inj hf
      obtain ⟨s, rfl, _, hs⟩ := DataW.trod_string hu h
      have hsl : s.data.toList.length ≤ maxLen := by rw [Array.length_toList]; exact hs
      refine ⟨[.str s.data.toList], by simp [RepL, Rep], ?_, rfl, by simp [Value.oneCell']⟩
      simp only [fitsL, fits]
      exact ⟨_, [], rfl, ⟨_, rfl, hsl⟩, rfl⟩
    · rename_i e hu
      have nilcase : ∀ c : CT, (∀ y : A, y = .slc [] → fits c y) → Reads w [c] [.slice none 0 0] := fun c hc => by
        refine ⟨[.slc []], ?_, ?_, rfl, by simp [Value.oneCell']⟩
        · simp only [RepL, Rep]
          exact ⟨_, [], rfl, ⟨rfl, none, 0, rfl, Nat.le_refl _, fun h => absurd rfl h⟩, rfl⟩
        · simp only [fitsL]
          exact ⟨_, [], rfl, hc _ rfl, rfl⟩
      rcases Go.Deep.open_slice hu h with ⟨rfl, _⟩ | ⟨a, len, cap, m, n, D, Pl, rfl, _, hlc, hcm, hm, _, hx⟩
      · split at hf
        · split at hf
          · obtain rfl := Option.some.inj hf
            exact nilcase _ fun y hy => by subst hy; simp only [fits]; exact ⟨[], rfl, by simp, by simp⟩
          · simp at hf
        · split at hf
          · obtain rfl := Option.some.inj hf
            exact nilcase _ fun y hy => by subst hy; simp only [fits]; exact ⟨[], rfl, by simp, by simp⟩
          · simp at hf
        · simp at hf
      · have hlm : len ≤ m := by rw [hm]; split <;> omega
        split at hf
        · rename_i c cs' hag hfe
          split at hf
          · rename_i hsz
            obtain rfl := Option.some.inj hf
            rw [← hsz] at hx
            obtain ⟨es, g1, g2, g3, g4⟩ := reads_slice (w := w) (k := (c :: cs').length) (a := a) (len := len) (cap := cap) (by simp) hlc (mk := A.agg) (cts := c :: cs') (fun ys _ => rfl) (fun ys _ h => by simpa only [A.pure] using h) (fun i hi => by
              obtain ⟨cs'', h1, h2⟩ := hx i (by omega)
              exact ⟨cs'', h1, ih hfe h2⟩)
            refine ⟨[.slc es], by simp only [RepL]; exact ⟨_, [], rfl, g1, rfl⟩, ?_, by simp only [A.pure.pureL, g3]; rfl, by simp [Value.oneCell']⟩
            simp only [fitsL, fits]
            exact ⟨_, [], rfl, ⟨es, rfl, by omega, g4⟩, rfl⟩
          · simp at hf
        · rename_i c hag hfe
          split at hf
          · rename_i hsz
            obtain rfl := Option.some.inj hf
            rw [hsz] at hx
            have hnag : ∀ y : A, fits c y → ∀ ys, y ≠ .agg ys := fun y hy ys e => by
              subst e
              cases c <;> simp [fits] at hy
            obtain ⟨es, g1, g2, g3, g4⟩ := reads_slice (w := w) (k := 1) (a := a) (len := len) (cap := cap) (by simp) hlc (mk := fun ys => ys.headD .any) (cts := [c]) (fun ys hys => by
              simp only [fitsL] at hys
              obtain ⟨y, zs, rfl, hy, rfl⟩ := hys
              have := hnag y hy
              cases y <;> first | rfl | exact absurd rfl (this _)) (fun ys hys hp => by
              simp only [fitsL] at hys
              obtain ⟨y, zs, rfl, hy, rfl⟩ := hys
              simpa [A.pure.pureL] using hp) (fun i hi => by
              obtain ⟨cs'', h1, h2⟩ := hx i (by omega)
              exact ⟨cs'', h1, ih hfe h2⟩)
            refine ⟨[.slc es], by simp only [RepL]; exact ⟨_, [], rfl, g1, rfl⟩, ?_, by simp only [A.pure.pureL, g3]; rfl, by simp [Value.oneCell']⟩
            simp only [fitsL, fits]
            refine ⟨_, [], rfl, ⟨es, rfl, by omega, fun e he => ?_⟩, rfl⟩
            obtain ⟨ys, he', hys⟩ := g4 e he
            simp only [fitsL] at hys
            obtain ⟨y, zs, rfl, hy, rfl⟩ := hys
            rw [he']
            exact hy
          · simp at hf
        · simp at hf
    · rename_i fs hu
      cases hg : flatGo (flatTy P d) P.cellsOf fs.toList 0 with
      | none => simp [hg] at hf
      | some ks =>
        simp only [hg, Option.bind_some] at hf
        split at hf
        · rename_i hsz
          obtain rfl := Option.some.inj hf
          obtain ⟨xs, n, _, _, hl, hxl, hx⟩ := DataW.trod_struct hu h
          have := reads_struct (w := w) (cs := cs) hg (fun f hfm k hk => by
            obtain ⟨i, hi⟩ := List.getElem?_of_mem hfm
            have hxi := hx i f (by simpa using hi)
            have hlt : i < xs.length := by
              rw [hxl]
              have := (List.getElem?_eq_some_iff.1 hi).1
              simpa using this
            rw [List.getElem?_eq_getElem hlt] at hxi
            exact ih hk hxi) (by omega)
          simpa using this
        · simp at hf
    · rename_i n e hu
      split at hf
      · rename_i ks hk
        split at hf
        · rename_i hsz
          obtain rfl := Option.some.inj hf
          obtain ⟨xs, m, _, _, hl, hxl, hx⟩ := DataW.trod_array hu h
          refine reads_array (k := P.cellsOf e) hsz.1 (by rw [hl, ← hsz.2, hsz.1]) fun i hi => ?_
          have hxi := hx i hi
          rw [List.getElem?_eq_getElem (by omega)] at hxi
          exact ih hk hxi
        · simp at hf
      · simp at hf
    · simp at hf
end
end Go.Abs
namespace Go.Abs
open Go.RowKit
section
variable {H : Type} {enc : TypeId × Value → H} {P : Program} {w : World} {sp : Nat → Bool} {held : Bool}
theorem okWide_one {r : Reach} {b0 : Nat} {t : TypeId} {v : Value} (ht : tyAgg P t = some false) (hval : Value.okWide P w r b0 t v) : v.cells.toList = [v] := by
  unfold Value.okWide at hval
  unfold tyAgg at ht
  split at hval
  · rename_i fs hu; simp only [hu] at ht; simp at ht
  · rename_i n e hu; simp only [hu] at ht; simp at ht
  · cases v <;> first
      | rfl
      | (exfalso
         unfold Cell.okWide at hval
         split at hval
         all_goals first
           | (rename_i h1 h2; cases h2; done)
           | skip
         unfold Cell.ok at hval
         split at hval <;> simp_all)
theorem open_cell {r : Reach} {b0 d : Nat} {t : TypeId} {v : Value} {x : DataW H} {ps : List MemPlace} {c : CT} (ht : tyAgg P t = some false) (hf : flatTy P d t = some [c]) (hval : Value.okWide P w r b0 t v)
    (h : DataW.Trod enc P w 0 sp held t v x ps) : ∃ y, Rep ⟨fun _ => False, [], w⟩ y v ∧ fits c y ∧ y.pure = true := by
  obtain ⟨fuel, h⟩ := h
  rw [okWide_one ht hval] at h
  obtain ⟨xs, h1, h2, h3, _⟩ := reads_of_trod d hf h
  simp only [fitsL] at h2
  obtain ⟨y, zs, rfl, hy, rfl⟩ := h2
  simp only [RepL] at h1
  obtain ⟨v', vs', hv, hr, rfl⟩ := h1
  simp at hv
  subst hv
  exact ⟨y, hr, hy, by simpa [A.pure.pureL] using h3⟩
end
theorem law_calls {P : Program} {f : FuncId} {args : List A} (h : CallA P f args (· = .bool true)) {W : World} {vs : List Value} (hr : RepL ⟨fun _ => False, [], W⟩ args vs) :
    Calls P f vs.toArray W fun e w' => e = .returned (.bool true) ∧ Below W.heap.size W w' := by
  refine Calls.mono (h (fun _ => False) W vs (fun b h => h.elim) hr) ?_
  rintro e w' ⟨v, r, rfl, rfl, hrep, hb⟩
  simp only [Rep] at hrep
  subst hrep
  exact ⟨rfl, hb.toBelow⟩
end Go.Abs
namespace Go.Abs
def tab0 : Tab := ⟨fun _ _ => none, fun _ _ _ => none, fun _ => false, fun _ => false, false, fun _ => false, 0, fun _ => []⟩
theorem tab0_ok (P : Program) : TabOK P tab0 := ⟨(fun _ _ _ h => by cases h), (fun _ _ _ _ _ _ h => by cases h)⟩
def Tab.add (Γ : Tab) (g : FuncId) (e : List A → Option A) : Tab := { Γ with f := fun h xs => if h = g then e xs else Γ.f h xs }
def Tab.addH (Γ : Tab) (g : FuncId) (e : List A → List Obj → Option (A × List Obj × List Nat)) : Tab := { Γ with hp := fun h xs H => if h = g then e xs H else Γ.hp h xs H }
abbrev Tab.pl (Γ Γ' : Tab) : Prop := (∀ g, Γ.eff g = false) ∧ (∀ g, Γ.frz g = false) ∧ Γ.effT = false ∧ (∀ n, Γ.fix n = false) ∧ Γ.nf = 0 ∧ (∀ n, Γ.ords n = []) ∧ Γ.hp = Γ'.hp
theorem Tab.add_eq {Γ : Tab} {g : FuncId} {e : List A → Option A} {xs : List A} : (Γ.add g e).f g xs = e xs := if_pos rfl
theorem Tab.add_ne {Γ : Tab} {g h : FuncId} {e : List A → Option A} {xs : List A} (hn : h ≠ g) : (Γ.add g e).f h xs = Γ.f h xs := if_neg hn
section
variable {P : Program} {Γ : Tab} {g : FuncId}
theorem TabOK.add (h : TabOK P Γ) {e : List A → Option A} (hc : Callable P g) (he : ∀ xs r, e xs = some r → CallA P g xs (· = r)) : TabOK P (Γ.add g e) where
  f := fun f xs r hr => by
    simp only [Tab.add] at hr
    split at hr
    · rename_i e; subst e; exact ⟨hc, he xs r hr⟩
    · exact h.f f xs r hr
  hp := h.hp
theorem TabOK.addH (h : TabOK P Γ) {e : List A → List Obj → Option (A × List Obj × List Nat)} (hc : Callable P g) (he : ∀ xs H r H' S, e xs H = some (r, H', S) → CallH P g xs H r H' S) : TabOK P (Γ.addH g e) where
  f := h.f
  hp := fun f xs H r H' S hr => by
    simp only [Tab.addH] at hr
    split at hr
    · rename_i e; subst e; exact ⟨hc, he xs H r H' S hr⟩
    · exact h.hp f xs H r H' S hr
end
open Classical in
noncomputable def entry {ι : Type} (enc : ι → List A) (ok : ι → Prop) (spec : ι → A) : List A → Option A := fun xs => if h : ∃ i, enc i = xs ∧ ok i then some (spec (Classical.choose h)) else none
theorem entry_ok {P : Program} {g : FuncId} {ι : Type} {enc : ι → List A} {ok : ι → Prop} {spec : ι → A} (h : ∀ i, ok i → CallA P g (enc i) (· = spec i)) : ∀ xs r, entry enc ok spec xs = some r → CallA P g xs (· = r) := fun xs r hr => by
  unfold entry at hr
  split at hr
  · rename_i hx
    obtain ⟨h1, h2⟩ := Classical.choose_spec hx
    obtain rfl := Option.some.inj hr
    have := h _ h2
    rw [h1] at this
    exact this
  · cases hr
theorem entry_eq {ι : Type} {enc : ι → List A} {ok : ι → Prop} {spec : ι → A} (hi : ∀ i j, enc i = enc j → i = j) (i : ι) (h : ok i) : entry enc ok spec (enc i) = some (spec i) := by
  have hx : ∃ j, enc j = enc i ∧ ok j := ⟨i, rfl, h⟩
  unfold entry
  rw [dif_pos hx]
  rw [hi _ _ (Classical.choose_spec hx).1]
theorem Tab.ent_eq {Γ : Tab} {g : FuncId} {ι : Type} {enc : ι → List A} {ok : ι → Prop} {spec : ι → A} (hi : ∀ i j, enc i = enc j → i = j) (i : ι) (h : ok i) : (Γ.add g (entry enc ok spec)).f g (enc i) = some (spec i) :=
  Tab.add_eq.trans (entry_eq hi i h)
open Classical in
noncomputable def entryH {ι : Type} (enc : ι → List A) (obs : ι → List Obj) (ok : ι → Prop) (spec : ι → A × List Obj × List Nat) : List A → List Obj → Option (A × List Obj × List Nat) := fun xs H =>
  if h : ∃ i, (enc i = xs ∧ obs i = H) ∧ ok i then some (spec (Classical.choose h)) else none
theorem entryH_ok {P : Program} {g : FuncId} {ι : Type} {enc : ι → List A} {obs : ι → List Obj} {ok : ι → Prop} {spec : ι → A × List Obj × List Nat} (h : ∀ i, ok i → CallH P g (enc i) (obs i) (spec i).1 (spec i).2.1 (spec i).2.2) :
    ∀ xs H r H' S, entryH enc obs ok spec xs H = some (r, H', S) → CallH P g xs H r H' S := fun xs H r H' S hr => by
  unfold entryH at hr
  split at hr
  · rename_i hx
    obtain ⟨⟨h1, h1'⟩, h2⟩ := Classical.choose_spec hx
    have hs := Option.some.inj hr
    have := h _ h2
    rw [h1, h1', hs] at this
    exact this
  · cases hr
theorem entryH_eq {ι : Type} {enc : ι → List A} {obs : ι → List Obj} {ok : ι → Prop} {spec : ι → A × List Obj × List Nat} (hi : ∀ i j, enc i = enc j → obs i = obs j → i = j) (i : ι) (h : ok i) : entryH enc obs ok spec (enc i) (obs i) = some (spec i) := by
  have hx : ∃ j, (enc j = enc i ∧ obs j = obs i) ∧ ok j := ⟨i, ⟨rfl, rfl⟩, h⟩
  unfold entryH
  rw [dif_pos hx]
  rw [hi _ _ (Classical.choose_spec hx).1.1 (Classical.choose_spec hx).1.2]
theorem Tab.addH_eq {Γ : Tab} {g : FuncId} {e : List A → List Obj → Option (A × List Obj × List Nat)} {xs : List A} {H : List Obj} : (Γ.addH g e).hp g xs H = e xs H := if_pos rfl
attribute [go_sem] List.contains_nil List.contains_cons
theorem callable_of {P : Program} {f : FuncId} {fn : Func} (h1 : P.funcs[f]? = some fn) (h2 : fn.body.isNone = false) (h3 : (fn.name == "runtime.NumGoroutine") = false) : Callable P f := ⟨fn, h1, h2, h3⟩
theorem TabOK.ent {P : Program} {Γ : Tab} {g : FuncId} {fn : Func} {ι : Type} {enc : ι → List A} {ok : ι → Prop} {spec : ι → A} (h0 : TabOK P Γ) (h1 : P.funcs[g]? = some fn) (h2 : fn.body.isNone = false) (h3 : (fn.name == "runtime.NumGoroutine") = false) (h : ∀ i, ok i → CallA P g (enc i) (· = spec i)) :
    TabOK P (Γ.add g (entry enc ok spec)) := h0.add (callable_of h1 h2 h3) (entry_ok h)
@[go_sem] theorem isS2B_eq {P : Program} {s d : TypeId} : isS2B P s d = (tyStr P s && (tyElem P d).any (fun e => tyInt P e = some .u8)) := rfl
@[go_sem] theorem isB2S_eq {P : Program} {s d : TypeId} : isB2S P s d = ((tyElem P s).any (fun e => tyInt P e = some .u8) && tyStr P d) := rfl
@[go_sem] theorem bne_str {a b : List UInt8} : (a != b) = !(a == b) := rfl
@[go_sem] theorem bne_int {a b : Int} : (a != b) = !(a == b) := rfl
attribute [go_sem] Int.cast_ofNat_Int
attribute [go_sem] Option.any_some Option.any_none decide_true decide_false ne_eq Nat.succ_ne_self Nat.one_ne_zero beq_true beq_false Nat.zero_add Int.toNat_zero List.drop_zero true_implies false_implies implies_true not_true_eq_false not_false_eq_true Option.getD Int.toNat_natCast Int.natCast_nonneg
@[go_sem] theorem tab0_ords {n : Nat} : tab0.ords n = [] := rfl
theorem wrap_i64 {n : Int} (h : -9223372036854775808 ≤ n ∧ n < 9223372036854775808) : IntKind.i64.wrap n = n := by
  unfold IntKind.wrap; simp [IntKind.bits, IntKind.signed]; split <;> omega
theorem wrap_u8 {n : Int} (h : 0 ≤ n ∧ n < 256) : IntKind.u8.wrap n = n := by
  unfold IntKind.wrap; simp [IntKind.bits, IntKind.signed]; omega
theorem map_inj {α : Type} {f : α → A} (h : ∀ x y, f x = f y → x = y) : ∀ {l m : List α}, (l.map f = m.map f) = (l = m)
  | [], [] => by simp
  | [], _ :: _ => by simp
  | _ :: _, [] => by simp
  | x :: l, y :: m => by
    simp only [List.map_cons, List.cons.injEq, map_inj h]
    exact propext ⟨fun ⟨a, b⟩ => ⟨h _ _ a, b⟩, fun ⟨a, b⟩ => ⟨by rw [a], b⟩⟩
@[simp] theorem map_str_inj {l m : List (List UInt8)} : (l.map A.str = m.map A.str) = (l = m) := map_inj (fun _ _ h => by simpa using h)
theorem list_of {α : Type} {f : α → A} {P : α → Prop} : ∀ {es : List A}, (∀ e ∈ es, ∃ a, e = f a ∧ P a) → ∃ l : List α, es = l.map f ∧ ∀ a ∈ l, P a
  | [], _ => ⟨[], rfl, by simp⟩
  | e :: es, h => by
    obtain ⟨a, rfl, ha⟩ := h e (by simp)
    obtain ⟨l, rfl, hl⟩ := list_of (es := es) fun x hx => h x (by simp [hx])
    exact ⟨a :: l, rfl, fun b hb => by
      rcases List.mem_cons.1 hb with rfl | hb
      · exact ha
      · exact hl b hb⟩
theorem fits_str {x : A} (h : fits .str x) : ∃ s : List UInt8, x = .str s ∧ s.length ≤ maxLen := by
  simpa only [fits] using h
theorem maxLen_le : maxLen ≤ 9223372036854775807 := by decide
theorem bytesOfA_bytesA : ∀ s : List UInt8, bytesOfA (bytesA s) = some s
  | [] => rfl
  | c :: s => by
    have := bytesOfA_bytesA s
    simp only [bytesA] at this
    simp [bytesA, bytesOfA, encU8, byteOfA, this]
theorem bytesA_len (s : List UInt8) : (bytesA s).length = s.length := by simp [bytesA]
end Go.Abs
namespace Go.Abs
open Go.RowKit Go.Shelf Go.Proofs
def mkS (s : List UInt8) : ByteArray := ⟨s.toArray⟩
theorem mkS_size (s : List UInt8) : (mkS s).size = s.length := by show s.toArray.size = _; simp
theorem mkS_map (xs : List (List UInt8)) : (xs.map mkS).map (fun x => x.data.toList) = xs := by
  rw [List.map_map]
  have : ((fun x : ByteArray => x.data.toList) ∘ mkS) = id := by funext x; rfl
  rw [this, List.map_id]
theorem grew_below (hdr : ¬ DR) {w w' : World} (h : Below w.heap.size w w') : Grew w w' := ⟨h.size, h.block, h.os, h.tape, h.output, fun d => absurd d hdr⟩
theorem callA_str2 {P : Program} {f : FuncId} (s t : List UInt8) (r : A) (v : Value) (hr : ∀ E, Rep E r v) (h : ∀ w, Calls P f #[.string (mkS s), .string (mkS t)] w fun e w' => e = .returned v ∧ w' = w) : CallA P f [.str s, .str t] (· = r) := by
  intro N w vs _ hrep
  simp only [RepL, Rep] at hrep
  obtain ⟨_, _, rfl, rfl, _, _, rfl, rfl, rfl⟩ := hrep
  refine Calls.mono (h w) ?_
  rintro e w' ⟨rfl, rfl⟩
  exact ⟨v, r, rfl, rfl, hr _, Grew.refl _⟩
theorem callA_contains1 {P : Program} {ρ : Ren} (L : Lays.n144 P ρ) (s : List UInt8) (c : UInt8) : CallA P (ρ.f 144) [.str s, .str [c]] (· = .bool (decide (0 ≤ Lib.indexByte s c))) :=
  callA_str2 s [c] _ (.bool (decide (0 ≤ Lib.indexByte s c))) (fun E => by simp only [Rep]) fun w => Any.strings_Contains_one L (mkS s) c w
theorem callA_indexByte {P : Program} {ρ : Ren} (L : Lays.n137 P ρ) (s : List UInt8) (c : Int) : CallA P (ρ.f 137) [.str s, .int .u8 c] (· = .int .i64 (Lib.indexByte s c.toNat.toUInt8)) := by
  intro N w vs _ hrep
  simp only [RepL, Rep] at hrep
  obtain ⟨_, _, rfl, rfl, _, _, rfl, rfl, rfl⟩ := hrep
  refine Calls.mono (Any.strings_IndexByte L (mkS s) c w) ?_
  rintro e w' ⟨rfl, rfl⟩
  exact ⟨_, _, rfl, rfl, by simp only [Rep]; rfl, Grew.refl _⟩
theorem rows_str {E : Env} {xs : List (List UInt8)} {b off : Nat} {k : Nat} (hk : k = 1) (h : RepE E k b off (xs.map .str)) (j : Nat) (x : List UInt8) (hx : xs[j]? = some x) : E.w.cell? ⟨b, off + j, none⟩ = some (.string (mkS x)) := by
  subst hk
  obtain ⟨_, hM⟩ := RepE_iff.1 h j (.str x) (by rw [List.getElem?_map, hx]; rfl)
  obtain ⟨v, hv, _, hr⟩ := RepM_one.1 hM
  simp only [Rep] at hr
  rw [Nat.mul_one] at hv
  rw [hv, hr]; rfl
theorem callA_join (hdr : ¬ DR) {P : Program} {ρ : Ren} (L : Lays.n156 P ρ) (X : Builder.Extra P ρ) (xs : List (List UInt8)) (sep : List UInt8) (hN : xs.length ≤ 140737488355328) (hlen : (Lib.join xs sep).length ≤ 140737488355328) :
    CallA P (ρ.f 156) [.slc (xs.map .str), .str sep] (· = .str (Lib.join xs sep)) := by
  intro N w vs _ hrep
  simp only [RepL] at hrep
  obtain ⟨v0, _, rfl, hv0, v1, _, rfl, hv1, rfl⟩ := hrep
  simp only [Rep] at hv0 hv1
  subst hv1
  obtain ⟨_, a, cap, rfl, hcap, hne⟩ := hv0
  rw [List.length_map] at hcap ⊢
  cases xs with
  | nil =>
    refine Calls.mono (Any.strings_Join_none L X a cap (mkS sep) w) ?_
    rintro e w' ⟨rfl, rfl⟩
    exact ⟨_, _, rfl, rfl, by simp only [Rep]; rfl, Grew.refl _⟩
  | cons x r =>
    obtain ⟨b, off, rfl, hb, _, hE⟩ := hne (by simp)
    have hc := Any.strings_Join L X b off cap ((x :: r).map mkS) (mkS sep) w (fun j y hy => by
      rw [List.getElem?_map] at hy
      obtain ⟨y', h1, rfl⟩ := Option.map_eq_some_iff.1 hy
      exact rows_str rfl hE j y' h1) hb (by rw [List.length_map]; exact hN) (by rw [List.length_map]; exact hcap) (by rw [mkS_map]; exact hlen)
    rw [mkS_map, List.length_map] at hc
    refine Calls.mono hc ?_
    rintro e w' ⟨rfl, hB⟩
    exact ⟨_, _, rfl, rfl, by simp only [Rep]; rfl, grew_below hdr hB⟩
open Go.Shelf Go.RowKit Go.Lib in
set_option maxHeartbeats 1000000 in
/-- strings.Split at a separator of one byte. -/
theorem split_one {P : Program} {ρ : Ren} (L : Lays.n146 P ρ) (hi9 : (P.info? (ρ.t 9)).map (fun i => (i.zero, i.size, i.bytes)) = some (some (.string ByteArray.empty), 1, 16)) (s : ByteArray) (b : UInt8) (w : World) (hs : s.size < 4294967281) :
    Calls P (ρ.f 146) #[.string s, .string ⟨#[b]⟩] w fun e w' =>
      e = .returned (.slice (some ⟨w.heap.size, 0, none⟩) (Lib.countB s ⟨#[b]⟩ + 1) (Lib.countB s ⟨#[b]⟩ + 1)) ∧ w' = w.alloc (.cells ((Lib.splitB ⟨#[b]⟩ 0 (Lib.countB s ⟨#[b]⟩) s).map Value.string).toArray (ρ.t 9)) := by
  have h1 : 1 ≤ (⟨#[b]⟩ : ByteArray).size := Nat.le_refl _
  have hle := Lib.countB_le ⟨#[b]⟩ h1 s.size s (Nat.le_refl _)
  have hlen := Lib.splitB_all ⟨#[b]⟩ h1 0 _ s rfl
  have hI : ∀ (x : ByteArray) (c : Array Value), x.size ≤ s.size → Calls P (ρ.f 143) #[.string x, .string ⟨#[b]⟩] (w.alloc (.cells c (ρ.t 9))) fun e w' => e = .returned (.int .i64 (Lib.indexB x ⟨#[b]⟩)) ∧ w' = w.alloc (.cells c (ρ.t 9)) := fun x c _ => by
    refine Calls.mono (Any.strings_Index_one { L with } x b _) ?_
    rintro e w' ⟨rfl, rfl⟩
    refine ⟨?_, rfl⟩
    show _ = Ending.returned (Value.int .i64 (Lib.index x.data.toList [b]))
    rw [Lib.index_one]
  have hC : Calls P (ρ.f 138) #[.string s, .string ⟨#[b]⟩] w fun e w' => e = .returned (.int .i64 (Lib.countB s ⟨#[b]⟩)) ∧ w' = w := by
    refine (Any.strings_Count_one { L with } s b w).mono fun e w' ⟨he, hw⟩ => ⟨?_, hw⟩
    rw [he]
    show _ = Ending.returned (Value.int .i64 ((Lib.count s.data.toList [b] : Nat) : Int))
    rw [Lib.count_one]
    rfl
  have c := Any.strings_genSplit_core { L with } hi9 s ⟨#[b]⟩ 0 (-1) (Lib.countB s ⟨#[b]⟩ + 1) w hs h1 (Nat.zero_le _) hI hC (by decide) (by decide) (by rw [if_pos (by decide)]; omega)
  rw [Nat.add_sub_cancel, hlen] at c
  have e2 : Lib.cellsOf (Lib.splitB ⟨#[b]⟩ 0 (Lib.countB s ⟨#[b]⟩) s) (Lib.countB s ⟨#[b]⟩ + 1) = ((Lib.splitB ⟨#[b]⟩ 0 (Lib.countB s ⟨#[b]⟩) s).map Value.string).toArray := by rw [← hlen]; exact Lib.cellsOf_full _
  rw [e2] at c
  have t3 := L.t3; have t9 := L.t9; have t31 := L.t31
  have a3 := L.a3; have a9 := L.a9; have a31 := L.a31
  have z3 := L.z3; have v3 := L.v3; have z9 := L.z9; have v9 := L.v9; have z31 := L.z31; have v31 := L.v31
  have e221 : ∀ args w, (callFunc (ρ.f 221) args).run P w = .ok (.enter (ρ.f 221) args) w := enters_of L.f221 (by kernel_rfl) rfl
  go_enter L.f146, Body.n146_ntmps ρ
  go_wp2_with (go_at_fn (ρ.f 221); refine c.mono ?_; rintro e w' ⟨rfl, hw⟩; rw [hw])
  go_ret
  exact ⟨rfl, rfl⟩
theorem callA_split {P : Program} {ρ : Ren} (L : Lays.n146 P ρ) (hi9 : (P.info? (ρ.t 9)).map (fun i => (i.zero, i.size, i.bytes)) = some (some (.string ByteArray.empty), 1, 16)) (s : List UInt8) (b : UInt8) (hs : s.length < 4294967281) :
    CallA P (ρ.f 146) [.str s, .str [b]] (· = .slc ((Lib.split s [b]).map .str)) := by
  intro N w vs hN hrep
  simp only [RepL, Rep] at hrep
  obtain ⟨_, _, rfl, rfl, _, _, rfl, rfl, rfl⟩ := hrep
  refine Calls.mono (split_one L hi9 (mkS s) b w (by rw [mkS_size]; exact hs)) ?_
  rintro e w' ⟨rfl, rfl⟩
  have hd := Lib.splitB_data ⟨#[b]⟩ 0 (Lib.countB (mkS s) ⟨#[b]⟩) (mkS s)
  have hlen := Lib.splitB_all ⟨#[b]⟩ (Nat.le_refl _) 0 _ (mkS s) rfl
  generalize hq : Lib.splitB ⟨#[b]⟩ 0 (Lib.countB (mkS s) ⟨#[b]⟩) (mkS s) = q at hd hlen ⊢
  have hd' : Lib.split s [b] = q.map (fun x => x.data.toList) := hd.symm
  rw [hd']
  refine ⟨_, _, rfl, rfl, ?_, Grew.alloc _ _⟩
  simp only [Rep]
  have hst : strideOf ((q.map (fun x => x.data.toList)).map A.str) = 1 := by
    cases q with
    | nil => simp at hlen
    | cons x r => rfl
  have hp : A.pure.pureL ((q.map (fun x => x.data.toList)).map A.str) = true := by
    generalize q.map (fun x => x.data.toList) = l
    induction l with
    | nil => rfl
    | cons x l ih => simp [A.pure.pureL, A.pure, ih]
  refine ⟨hp, some ⟨w.heap.size, 0, none⟩, Lib.countB (mkS s) ⟨#[b]⟩ + 1, ?_, ?_, fun _ => ⟨_, _, rfl, ?_, ?_, ?_⟩⟩
  · rw [List.length_map, List.length_map, hlen]
  · rw [List.length_map, List.length_map, hlen]; exact Nat.le_refl _
  · show w.heap.size < (w.heap.push _).size
    simp
  · intro hn
    exact absurd (hN _ hn) (Nat.lt_irrefl _)
  · rw [hst]
    refine RepE_iff.2 fun j e he => ?_
    rw [List.getElem?_map, List.getElem?_map] at he
    obtain ⟨x, hx, rfl⟩ := Option.map_eq_some_iff.1 he
    obtain ⟨y, hy, rfl⟩ := Option.map_eq_some_iff.1 hx
    refine ⟨rfl, RepM_one.2 ⟨.string y, ?_, rfl, ?_⟩⟩
    · show (World.alloc w _).cell? ⟨w.heap.size, 0 + j * 1, none⟩ = _
      have h0 : (World.alloc w (.cells (q.map Value.string).toArray (ρ.t 9))).heap[w.heap.size]? = some (.cells (q.map Value.string).toArray (ρ.t 9)) := by
        show (w.heap.push _)[w.heap.size]? = _
        simp
      simp only [World.cell?, h0]
      simp [hy]
    · simp only [Rep]
end Go.Abs
namespace Go.Proofs
open Go.Shelf
def YthiedimbmcgpdaaDoor.joinL_ren : Go.Shelf.Ren := ⟨fun | 156 => 29 | 165 => 42 | 166 => 37 | 169 => 38 | 240 => 46 | 241 => 50 | 276 => 53 | 277 => 58 | n => n, fun | 31 => 27 | 9 => 9 | 3 => 3 | 4 => 4 | 0 => 0 | 20 => 20 | 72 => 67 | 76 => 70 | 70 => 65 | 37 => 34 | 75 => 69 | 127 => 80 | 164 => 82 | 5 => 5 | 80 => 72 | n => n, fun | n => n⟩
theorem YthiedimbmcgpdaaDoor.joinL : Go.Proofs.Lays.n156 Tryd.prog YthiedimbmcgpdaaDoor.joinL_ren := {
  mixed := by kernel_rfl
  f156 := Tryd.func29.trans (congrArg some (by kernel_rfl))
  f165 := Tryd.func42.trans (congrArg some (by kernel_rfl))
  f166 := Tryd.func37.trans (congrArg some (by kernel_rfl))
  f169 := Tryd.func38.trans (congrArg some (by kernel_rfl))
  f240 := Tryd.func46.trans (congrArg some (by kernel_rfl))
  f241 := Tryd.func50.trans (congrArg some (by kernel_rfl))
  f276 := Tryd.func53.trans (congrArg some (by kernel_rfl))
  f277 := Tryd.func58.trans (congrArg some (by kernel_rfl))
  t0 := Tryd.underlying0
  a0 := Tryd.isAgg0
  z0 := Tryd.sizeOf0
  v0 := Tryd.zeroValue0
  t3 := Tryd.underlying3
  a3 := Tryd.isAgg3
  z3 := Tryd.sizeOf3
  v3 := Tryd.zeroValue3
  t4 := Tryd.underlying4
  a4 := Tryd.isAgg4
  z4 := Tryd.sizeOf4
  v4 := Tryd.zeroValue4
  t9 := Tryd.underlying9
  a9 := Tryd.isAgg9
  z9 := Tryd.sizeOf9
  v9 := Tryd.zeroValue9
  t20 := Tryd.underlying20
  a20 := Tryd.isAgg20
  z20 := Tryd.sizeOf20
  v20 := Tryd.zeroValue20
  t31 := Tryd.underlying27
  a31 := Tryd.isAgg27
  z31 := Tryd.sizeOf27
  v31 := Tryd.zeroValue27
  t37 := Tryd.underlying34
  a37 := Tryd.isAgg34
  z37 := Tryd.sizeOf34
  v37 := Tryd.zeroValue34
  t70 := Tryd.underlying65
  a70 := Tryd.isAgg65
  z70 := Tryd.sizeOf65
  v70 := Tryd.zeroValue65
  t72 := Tryd.underlying67
  a72 := Tryd.isAgg67
  z72 := Tryd.sizeOf67
  v72 := Tryd.zeroValue67
  t75 := Tryd.underlying69
  a75 := Tryd.isAgg69
  z75 := Tryd.sizeOf69
  v75 := Tryd.zeroValue69
  t76 := Tryd.underlying70
  a76 := Tryd.isAgg70
  z76 := Tryd.sizeOf70
  v76 := Tryd.zeroValue70
  t127 := Tryd.underlying80
  a127 := Tryd.isAgg80
  z127 := Tryd.sizeOf80
  v127 := Tryd.zeroValue80
  t164 := Tryd.underlying82
  a164 := Tryd.isAgg82
  z164 := Tryd.sizeOf82
  v164 := Tryd.zeroValue82 }
def YthiedimbmcgpdaaDoor.splitL_ren : Go.Shelf.Ren := ⟨fun | 146 => 30 | 221 => 43 | 268 => 51 | 138 => 52 | 143 => 41 | 195 => 59 | 197 => 60 | 218 => 61 | 219 => 49 | 260 => 63 | 217 => 48 | 225 => 55 | 224 => 56 | 267 => 57 | 266 => 54 | 314 => 62 | n => n, fun | 9 => 9 | 31 => 27 | 3 => 3 | 4 => 4 | 0 => 0 | 105 => 88 | 21 => 21 | 5 => 5 | 46 => 85 | 119 => 93 | 139 => 96 | 138 => 95 | 146 => 91 | 51 => 90 | n => n, fun | 1 => 0 | 3 => 1 | 4 => 2 | n => n⟩
theorem YthiedimbmcgpdaaDoor.splitL : Go.Proofs.Lays.n146 Tryd.prog YthiedimbmcgpdaaDoor.splitL_ren := {
  mixed := by kernel_rfl
  f138 := Tryd.func52.trans (congrArg some (by kernel_rfl))
  f143 := Tryd.func41.trans (congrArg some (by kernel_rfl))
  f146 := Tryd.func30.trans (congrArg some (by kernel_rfl))
  f195 := Tryd.func59.trans (congrArg some (by kernel_rfl))
  f197 := Tryd.func60.trans (congrArg some (by kernel_rfl))
  f217 := Tryd.func48.trans (congrArg some (by kernel_rfl))
  f218 := Tryd.func61.trans (congrArg some (by kernel_rfl))
  f219 := Tryd.func49.trans (congrArg some (by kernel_rfl))
  f221 := Tryd.func43.trans (congrArg some (by kernel_rfl))
  f224 := Tryd.func56.trans (congrArg some (by kernel_rfl))
  f225 := Tryd.func55.trans (congrArg some (by kernel_rfl))
  f260 := Tryd.func63.trans (congrArg some (by kernel_rfl))
  f266 := Tryd.func54.trans (congrArg some (by kernel_rfl))
  f267 := Tryd.func57.trans (congrArg some (by kernel_rfl))
  f268 := Tryd.func51.trans (congrArg some (by kernel_rfl))
  f314 := Tryd.func62.trans (congrArg some (by kernel_rfl))
  t0 := Tryd.underlying0
  a0 := Tryd.isAgg0
  z0 := Tryd.sizeOf0
  v0 := Tryd.zeroValue0
  t3 := Tryd.underlying3
  a3 := Tryd.isAgg3
  z3 := Tryd.sizeOf3
  v3 := Tryd.zeroValue3
  t4 := Tryd.underlying4
  a4 := Tryd.isAgg4
  z4 := Tryd.sizeOf4
  v4 := Tryd.zeroValue4
  t5 := Tryd.underlying5
  a5 := Tryd.isAgg5
  z5 := Tryd.sizeOf5
  v5 := Tryd.zeroValue5
  t9 := Tryd.underlying9
  a9 := Tryd.isAgg9
  z9 := Tryd.sizeOf9
  v9 := Tryd.zeroValue9
  t21 := Tryd.underlying21
  a21 := Tryd.isAgg21
  z21 := Tryd.sizeOf21
  v21 := Tryd.zeroValue21
  t31 := Tryd.underlying27
  a31 := Tryd.isAgg27
  z31 := Tryd.sizeOf27
  v31 := Tryd.zeroValue27
  t46 := Tryd.underlying85
  a46 := Tryd.isAgg85
  z46 := Tryd.sizeOf85
  v46 := Tryd.zeroValue85
  t51 := Tryd.underlying90
  a51 := Tryd.isAgg90
  z51 := Tryd.sizeOf90
  v51 := Tryd.zeroValue90
  t105 := Tryd.underlying88
  a105 := Tryd.isAgg88
  z105 := Tryd.sizeOf88
  v105 := Tryd.zeroValue88
  t119 := Tryd.underlying93
  a119 := Tryd.isAgg93
  z119 := Tryd.sizeOf93
  t138 := Tryd.underlying95
  a138 := Tryd.isAgg95
  z138 := Tryd.sizeOf95
  v138 := Tryd.zeroValue95
  t139 := Tryd.underlying96
  a139 := Tryd.isAgg96
  z139 := Tryd.sizeOf96
  v139 := Tryd.zeroValue96
  t146 := Tryd.underlying91
  a146 := Tryd.isAgg91
  z146 := Tryd.sizeOf91
  v146 := Tryd.zeroValue91
  g1 := by kernel_rfl
  g3 := by kernel_rfl
  g4 := by kernel_rfl }
def YthiedimbmcgpdaaDoor.containsL_ren : Go.Shelf.Ren := ⟨fun | 144 => 28 | 143 => 41 | 219 => 49 | 217 => 48 | 225 => 55 | 224 => 56 | 267 => 57 | 266 => 54 | 314 => 62 | n => n, fun | 9 => 9 | 4 => 4 | 3 => 3 | 5 => 5 | 46 => 85 | 146 => 91 | 51 => 90 | n => n, fun | 1 => 0 | n => n⟩
theorem YthiedimbmcgpdaaDoor.containsL : Go.Proofs.Lays.n144 Tryd.prog YthiedimbmcgpdaaDoor.containsL_ren := {
  mixed := by kernel_rfl
  f143 := Tryd.func41.trans (congrArg some (by kernel_rfl))
  f144 := Tryd.func28.trans (congrArg some (by kernel_rfl))
  f217 := Tryd.func48.trans (congrArg some (by kernel_rfl))
  f219 := Tryd.func49.trans (congrArg some (by kernel_rfl))
  f224 := Tryd.func56.trans (congrArg some (by kernel_rfl))
  f225 := Tryd.func55.trans (congrArg some (by kernel_rfl))
  f266 := Tryd.func54.trans (congrArg some (by kernel_rfl))
  f267 := Tryd.func57.trans (congrArg some (by kernel_rfl))
  f314 := Tryd.func62.trans (congrArg some (by kernel_rfl))
  t3 := Tryd.underlying3
  a3 := Tryd.isAgg3
  z3 := Tryd.sizeOf3
  v3 := Tryd.zeroValue3
  t4 := Tryd.underlying4
  a4 := Tryd.isAgg4
  z4 := Tryd.sizeOf4
  v4 := Tryd.zeroValue4
  t5 := Tryd.underlying5
  a5 := Tryd.isAgg5
  z5 := Tryd.sizeOf5
  v5 := Tryd.zeroValue5
  t9 := Tryd.underlying9
  a9 := Tryd.isAgg9
  z9 := Tryd.sizeOf9
  v9 := Tryd.zeroValue9
  t46 := Tryd.underlying85
  a46 := Tryd.isAgg85
  z46 := Tryd.sizeOf85
  v46 := Tryd.zeroValue85
  t51 := Tryd.underlying90
  a51 := Tryd.isAgg90
  z51 := Tryd.sizeOf90
  v51 := Tryd.zeroValue90
  t146 := Tryd.underlying91
  a146 := Tryd.isAgg91
  z146 := Tryd.sizeOf91
  v146 := Tryd.zeroValue91
  g1 := by kernel_rfl }
def YthiedimbmcgpdaaDoor.indexByteL_ren : Go.Shelf.Ren := ⟨fun | 137 => 40 | 217 => 48 | 266 => 54 | n => n, fun | 9 => 9 | 5 => 5 | 3 => 3 | n => n, fun | n => n⟩
theorem YthiedimbmcgpdaaDoor.indexByteL : Go.Proofs.Lays.n137 Tryd.prog YthiedimbmcgpdaaDoor.indexByteL_ren := {
  mixed := by kernel_rfl
  f137 := Tryd.func40.trans (congrArg some (by kernel_rfl))
  f217 := Tryd.func48.trans (congrArg some (by kernel_rfl))
  f266 := Tryd.func54.trans (congrArg some (by kernel_rfl))
  t3 := Tryd.underlying3
  a3 := Tryd.isAgg3
  z3 := Tryd.sizeOf3
  v3 := Tryd.zeroValue3
  t5 := Tryd.underlying5
  a5 := Tryd.isAgg5
  z5 := Tryd.sizeOf5
  v5 := Tryd.zeroValue5
  t9 := Tryd.underlying9
  a9 := Tryd.isAgg9
  z9 := Tryd.sizeOf9
  v9 := Tryd.zeroValue9 }
def YthiedimbmcgpdaaDoor.indexL_ren : Go.Shelf.Ren := ⟨fun | 143 => 41 | 219 => 49 | 217 => 48 | 225 => 55 | 224 => 56 | 267 => 57 | 266 => 54 | 314 => 62 | n => n, fun | 9 => 9 | 3 => 3 | 4 => 4 | 5 => 5 | 46 => 85 | 146 => 91 | 51 => 90 | n => n, fun | 1 => 0 | n => n⟩
theorem YthiedimbmcgpdaaDoor.indexL : Go.Proofs.Lays.n143 Tryd.prog YthiedimbmcgpdaaDoor.indexL_ren := {
  mixed := by kernel_rfl
  f143 := Tryd.func41.trans (congrArg some (by kernel_rfl))
  f217 := Tryd.func48.trans (congrArg some (by kernel_rfl))
  f219 := Tryd.func49.trans (congrArg some (by kernel_rfl))
  f224 := Tryd.func56.trans (congrArg some (by kernel_rfl))
  f225 := Tryd.func55.trans (congrArg some (by kernel_rfl))
  f266 := Tryd.func54.trans (congrArg some (by kernel_rfl))
  f267 := Tryd.func57.trans (congrArg some (by kernel_rfl))
  f314 := Tryd.func62.trans (congrArg some (by kernel_rfl))
  t3 := Tryd.underlying3
  a3 := Tryd.isAgg3
  z3 := Tryd.sizeOf3
  v3 := Tryd.zeroValue3
  t4 := Tryd.underlying4
  a4 := Tryd.isAgg4
  z4 := Tryd.sizeOf4
  v4 := Tryd.zeroValue4
  t5 := Tryd.underlying5
  a5 := Tryd.isAgg5
  z5 := Tryd.sizeOf5
  v5 := Tryd.zeroValue5
  t9 := Tryd.underlying9
  a9 := Tryd.isAgg9
  z9 := Tryd.sizeOf9
  v9 := Tryd.zeroValue9
  t46 := Tryd.underlying85
  a46 := Tryd.isAgg85
  z46 := Tryd.sizeOf85
  v46 := Tryd.zeroValue85
  t51 := Tryd.underlying90
  a51 := Tryd.isAgg90
  z51 := Tryd.sizeOf90
  v51 := Tryd.zeroValue90
  t146 := Tryd.underlying91
  a146 := Tryd.isAgg91
  z146 := Tryd.sizeOf91
  v146 := Tryd.zeroValue91
  g1 := by kernel_rfl }
end Go.Proofs
namespace Go.Abs
def plB (c : UInt8) : Bool := (decide (97 ≤ c.toNat) && decide (c.toNat ≤ 122)) || (decide (48 ≤ c.toNat) && decide (c.toNat ≤ 57))
def hexB (n : Nat) : UInt8 := if n < 10 then UInt8.ofNat (48 + n) else UInt8.ofNat (87 + n)
def wC (c : UInt8) : List UInt8 := if plB c = true then [c] else [45, hexB (c.toNat / 16), hexB (c.toNat % 16)]
def ofW (s : List UInt8) : List UInt8 := if s = [] then [95] else s.flatMap wC
def digB (c : UInt8) : Nat := if 48 ≤ c.toNat ∧ c.toNat ≤ 57 then c.toNat - 48 else if 97 ≤ c.toNat ∧ c.toNat ≤ 102 then c.toNat - 87 else 16
def escB (h l : UInt8) : Option UInt8 := if digB h < 16 ∧ digB l < 16 ∧ plB (UInt8.ofNat (16 * digB h + digB l)) = false then some (UInt8.ofNat (16 * digB h + digB l)) else none
def rdW : List UInt8 → Option (List UInt8)
  | [] => some []
  | [c] => if plB c = true then some [c] else none
  | [c, d] => if plB c = true then (rdW [d]).map (c :: ·) else none
  | c :: h :: l :: r => if c = 45 then (escB h l).bind fun x => (rdW r).map (x :: ·) else if plB c = true then (rdW (h :: l :: r)).map (c :: ·) else none
def readW (w : List UInt8) : Option (List UInt8) := if w = [95] then some [] else (rdW w).bind fun t => if t = [] then none else some t
theorem plB_45 : plB 45 = false := by decide
theorem plB_95 : plB 95 = false := by decide
theorem byte_ext {a b : UInt8} (h : a.toNat = b.toNat) : a = b := UInt8.toNat_inj.1 h
theorem ofNat_toNat' {n : Nat} (h : n < 256) : (UInt8.ofNat n).toNat = n := by simp [UInt8.toNat_ofNat']; omega
theorem hexB_toNat {n : Nat} (h : n < 16) : (hexB n).toNat = if n < 10 then 48 + n else 87 + n := by
  unfold hexB
  split
  · exact ofNat_toNat' (by omega)
  · exact ofNat_toNat' (by omega)
theorem digB_hexB {n : Nat} (h : n < 16) : digB (hexB n) = n := by
  unfold digB
  rw [hexB_toNat h]
  split <;> split <;> (try split) <;> omega
theorem digB_lt {c : UInt8} (h : digB c < 16) : hexB (digB c) = c := by
  apply byte_ext
  rw [hexB_toNat h]
  unfold digB at h ⊢
  split <;> split <;> (try split) <;> simp_all <;> omega
theorem rdW_plain {c : UInt8} (h : plB c = true) (t : List UInt8) : rdW (c :: t) = (rdW t).map (c :: ·) := by
  have h45 : c ≠ 45 := by rintro rfl; rw [plB_45] at h; cases h
  match t with
  | [] => simp [rdW, h]
  | [d] => simp [rdW, h]
  | d :: e :: r => rw [rdW, if_neg h45, if_pos h]
theorem rdW_esc {h l x : UInt8} (e : escB h l = some x) (t : List UInt8) : rdW (45 :: h :: l :: t) = (rdW t).map (x :: ·) := by
  rw [rdW, if_pos rfl, e]; rfl
theorem wC_esc {c : UInt8} (h : plB c = false) : escB (hexB (c.toNat / 16)) (hexB (c.toNat % 16)) = some c := by
  have h1 : c.toNat < 256 := c.toNat_lt
  have e : UInt8.ofNat (16 * (c.toNat / 16) + c.toNat % 16) = c := by
    apply byte_ext
    rw [ofNat_toNat' (by omega)]; omega
  unfold escB
  rw [digB_hexB (by omega), digB_hexB (by omega), e, if_pos ⟨by omega, by omega, h⟩]
theorem rdW_wC (c : UInt8) (t : List UInt8) : rdW (wC c ++ t) = (rdW t).map (c :: ·) := by
  unfold wC
  by_cases h : plB c = true
  · rw [if_pos h]; exact rdW_plain h t
  · rw [if_neg h]
    exact rdW_esc (wC_esc (by simpa using h)) t
theorem rdW_flat : ∀ s : List UInt8, rdW (s.flatMap wC) = some s
  | [] => rfl
  | c :: s => by rw [List.flatMap_cons, rdW_wC, rdW_flat s]; rfl
theorem escB_some {h l x : UInt8} (e : escB h l = some x) : wC x = [45, h, l] := by
  unfold escB at e
  split at e
  case isTrue g =>
    obtain ⟨g1, g2, g3⟩ := g
    simp only [Option.some.injEq] at e
    subst e
    unfold wC
    rw [g3, ofNat_toNat' (by omega)]
    have e1 : (16 * digB h + digB l) / 16 = digB h := by omega
    have e2 : (16 * digB h + digB l) % 16 = digB l := by omega
    rw [e1, e2, digB_lt g1, digB_lt g2]; simp
  case isFalse => cases e
theorem flat_rdW : ∀ (n : Nat) (w t : List UInt8), w.length ≤ n → rdW w = some t → t.flatMap wC = w
  | n, [], t, _, h => by
    simp only [rdW, Option.some.injEq] at h
    subst h; rfl
  | 0, c :: r, t, hn, h => by simp at hn
  | n + 1, c :: r, t, hn, h => by
    by_cases hp : plB c = true
    · rw [rdW_plain hp] at h
      obtain ⟨t', h1, h2⟩ := Option.map_eq_some_iff.1 h
      subst h2
      rw [List.flatMap_cons, flat_rdW n r t' (by simpa using hn) h1]
      unfold wC; rw [if_pos hp]; rfl
    · match r, h with
      | [], h => simp [rdW, hp] at h
      | [d], h => simp [rdW, hp] at h
      | h' :: l :: r', h =>
        rw [rdW] at h
        by_cases h45 : c = 45
        · rw [if_pos h45] at h
          obtain ⟨x, e1, e2⟩ := Option.bind_eq_some_iff.1 h
          obtain ⟨t', h1, h2⟩ := Option.map_eq_some_iff.1 e2
          subst h2
          rw [List.flatMap_cons, flat_rdW n r' t' (by simp at hn; omega) h1, escB_some e1, h45]; rfl
        · rw [if_neg h45, if_neg hp] at h; cases h
theorem readW_ofW (s : List UInt8) : readW (ofW s) = some s := by
  unfold ofW
  by_cases h : s = []
  · rw [if_pos h, h]; rfl
  · rw [if_neg h]
    unfold readW
    have hne : s.flatMap wC ≠ [95] := by
      intro e
      have h2 := rdW_flat s
      rw [e] at h2
      simp [rdW, plB_95] at h2
    rw [if_neg hne, rdW_flat]; simp [h]
theorem ofW_readW {w t : List UInt8} (h : readW w = some t) : ofW t = w := by
  unfold readW at h
  split at h
  case isTrue g => simp only [Option.some.injEq] at h; subst h; rw [g]; rfl
  case isFalse g =>
    obtain ⟨t', h1, h2⟩ := Option.bind_eq_some_iff.1 h
    split at h2
    case isTrue => cases h2
    case isFalse g2 =>
      simp only [Option.some.injEq] at h2
      subst h2
      unfold ofW
      rw [if_neg g2, flat_rdW _ _ _ (Nat.le_refl _) h1]
def mayB (w : List UInt8) : Bool := !w.isEmpty && w.all fun c => c != 32 && c != 10
def lineW : List (List UInt8) → List UInt8
  | [] => []
  | x :: r => x ++ r.flatMap (32 :: ·)
def splitW : List UInt8 → List (List UInt8)
  | [] => [[]]
  | c :: r => if c = 32 then [] :: splitW r else (c :: (splitW r).headD []) :: (splitW r).tail
def joinW (l : List (List UInt8)) : Option (List UInt8) := if l.all mayB = true then some (lineW l) else none
def wordsW (s : List UInt8) : Option (List (List UInt8)) := if s = [] then some [] else if (splitW s).all mayB = true then some (splitW s) else none
theorem splitW_ne (s : List UInt8) : splitW s ≠ [] := by
  cases s with
  | nil => simp [splitW]
  | cons c r => unfold splitW; split <;> simp
theorem splitW_eta (s : List UInt8) : splitW s = (splitW s).headD [] :: (splitW s).tail := by
  have := splitW_ne s
  cases h : splitW s with
  | nil => exact absurd h this
  | cons a b => rfl
theorem line_split : ∀ s : List UInt8, lineW (splitW s) = s
  | [] => rfl
  | c :: r => by
    have ih := line_split r
    rw [splitW_eta r] at ih
    unfold splitW
    by_cases h : c = 32
    · rw [if_pos h, splitW_eta r]
      simp only [lineW, List.flatMap_cons, List.nil_append, List.cons_append] at ih ⊢
      rw [ih, h]
    · rw [if_neg h]
      simp only [lineW, List.cons_append] at ih ⊢
      rw [ih]
theorem splitW_app : ∀ (x t : List UInt8), (∀ c ∈ x, c ≠ 32) → splitW (x ++ 32 :: t) = x :: splitW t
  | [], t, _ => by simp [splitW]
  | c :: x, t, h => by
    rw [List.cons_append, splitW, if_neg (h c (by simp)), splitW_app x t fun d hd => h d (by simp [hd])]; rfl
theorem splitW_one : ∀ (x : List UInt8), (∀ c ∈ x, c ≠ 32) → splitW x = [x]
  | [], _ => rfl
  | c :: x, h => by rw [splitW, if_neg (h c (by simp)), splitW_one x fun d hd => h d (by simp [hd])]; rfl
theorem may_no {x : List UInt8} (h : mayB x = true) : ∀ c ∈ x, c ≠ 32 := by
  intro c hc
  simp only [mayB, Bool.and_eq_true, List.all_eq_true] at h
  simpa using (h.2 c hc).1
theorem split_line : ∀ (x : List UInt8) (r : List (List UInt8)), (∀ y ∈ x :: r, mayB y = true) → splitW (lineW (x :: r)) = x :: r
  | x, [], h => by
    simp only [lineW, List.flatMap_nil, List.append_nil]
    exact splitW_one x (may_no (h x (by simp)))
  | x, y :: r, h => by
    have ih := split_line y r fun z hz => h z (by simp at hz ⊢; exact .inr hz)
    simp only [lineW, List.flatMap_cons, List.cons_append] at ih ⊢
    rw [splitW_app x _ (may_no (h x (by simp))), ih]
theorem line_ne {x : List UInt8} {r : List (List UInt8)} (h : mayB x = true) : lineW (x :: r) ≠ [] := by
  cases x with
  | nil => simp [mayB] at h
  | cons c x => simp [lineW]
theorem words_line {l : List (List UInt8)} (h : l.all mayB = true) : wordsW (lineW l) = some l := by
  cases l with
  | nil => rfl
  | cons x r =>
    simp only [List.all_eq_true] at h
    unfold wordsW
    rw [if_neg (line_ne (h x (by simp))), split_line x r h, if_pos (by simpa using h)]
theorem words_some {s : List UInt8} {l : List (List UInt8)} (h : wordsW s = some l) : l.all mayB = true ∧ lineW l = s := by
  unfold wordsW at h
  split at h
  case isTrue g => simp only [Option.some.injEq] at h; subst h; rw [g]; exact ⟨rfl, rfl⟩
  case isFalse g =>
    split at h
    case isTrue g2 => simp only [Option.some.injEq] at h; subst h; exact ⟨g2, line_split s⟩
    case isFalse => cases h
theorem line_snoc (l : List (List UInt8)) (x : List UInt8) : lineW (l ++ [x]) = if l = [] then x else lineW l ++ [32] ++ x := by
  cases l with
  | nil => simp [lineW]
  | cons y r => simp [lineW]
theorem join_eq_line (l : List (List UInt8)) : Lib.join l [32] = lineW l := by
  cases l with
  | nil => rfl
  | cons x r => rw [Lib.join_cons]; simp [Lib.joinTail, lineW, List.flatMap_def]
theorem index_one : ∀ (s : List UInt8) (c : UInt8), Lib.index s [c] = if c ∈ s then ((s.idxOf c : Nat) : Int) else -1
  | [], c => by simp [Lib.index]
  | b :: l, c => by
    rw [Lib.index, index_one l c]
    by_cases h : b = c
    · subst h; simp [List.isPrefixOf]
    · have h' : ¬ c = b := fun e => h e.symm
      have e0 : [c].isPrefixOf (b :: l) = false := by simp [List.isPrefixOf, h']
      rw [e0]
      by_cases hm : c ∈ l
      · have h3 : ¬ (((l.idxOf c : Nat) : Int) == -1) = true := by simp
        simp only [hm, if_true, List.mem_cons, h', false_or, Bool.false_eq_true, if_false]
        rw [if_neg h3, List.idxOf_cons, show (b == c) = false by simpa using h]; try simp
      · simp [hm, h']
theorem splitK_split : ∀ (k : Nat) (s : List UInt8), s.count 32 = k → Lib.splitK [32] 0 k s = splitW s
  | 0, s, h => by
    rw [Lib.splitK, splitW_one s fun c hc e => by subst e; exact absurd hc (List.count_eq_zero.1 h)]
  | k + 1, s, h => by
    have hm : (32 : UInt8) ∈ s := List.count_pos_iff.1 (by omega)
    obtain ⟨a, b, hs, hn⟩ : ∃ a b, s = a ++ 32 :: b ∧ ∀ c ∈ a, c ≠ 32 := by
      have hi := List.idxOf_lt_length_of_mem hm
      refine ⟨s.take (s.idxOf 32), s.drop (s.idxOf 32 + 1), ?_, ?_⟩
      · show s = s.take (s.idxOf 32) ++ 32 :: s.drop (s.idxOf 32 + 1)
        have e1 : s[s.idxOf 32] = 32 := by simp [List.getElem_idxOf]
        conv => lhs; rw [← List.take_append_drop (s.idxOf 32) s, List.drop_eq_getElem_cons hi, e1]
      · show ∀ c ∈ s.take (s.idxOf 32), c ≠ 32
        intro c hc e
        subst e
        obtain ⟨j, hj, hje⟩ := List.mem_iff_getElem.1 hc
        rw [List.length_take] at hj
        have := List.not_of_lt_findIdx (p := (· == (32 : UInt8))) (xs := s) (i := j) (by show j < s.idxOf 32; omega)
        simp only [List.getElem_take] at hje
        simp [hje] at this
    have hcount : b.count 32 = k := by
      rw [hs, List.count_append, List.count_cons_self] at h
      have : a.count 32 = 0 := List.count_eq_zero.2 fun hc => hn _ hc rfl
      omega
    have hidx : s.idxOf 32 = a.length := by
      rw [hs, List.idxOf_append, if_neg (fun hc => hn _ hc rfl), List.idxOf_cons_self]; try simp
    rw [Lib.splitK, index_one, if_pos hm, if_neg (by simp), hidx]
    have e2 : s.take ((a.length : Int).toNat + 0) = a := by rw [hs]; simp
    have e3 : s.drop ((a.length : Int).toNat + [(32 : UInt8)].length) = b := by rw [hs]; simp
    rw [e2, e3, splitK_split k b hcount, hs, splitW_app a b hn]
end Go.Abs
namespace Go.Proofs.YthiedimbmcgpdaaDoor
open Go.Abs
set_option linter.unusedSimpArgs false
set_option linter.unusedVariables false
set_option maxRecDepth 20000
set_option maxHeartbeats 8000000
def T0 : Tab := tab0
theorem T0_ok : TabOK Tryd.prog T0 := tab0_ok _
@[go_sem] theorem T0_eq : T0 = tab0 := rfl
theorem dr_not : ¬ DR := id
theorem plB_int (c : UInt8) : plB c = ((decide ((97 : Int) ≤ (c.toNat : Int)) && decide ((c.toNat : Int) ≤ 122)) || (decide ((48 : Int) ≤ (c.toNat : Int)) && decide ((c.toNat : Int) ≤ 57))) := by
  unfold plB
  have e1 : decide (97 ≤ c.toNat) = decide ((97 : Int) ≤ (c.toNat : Int)) := by apply decide_eq_decide.2; omega
  have e2 : decide (c.toNat ≤ 122) = decide ((c.toNat : Int) ≤ 122) := by apply decide_eq_decide.2; omega
  have e3 : decide (48 ≤ c.toNat) = decide ((48 : Int) ≤ (c.toNat : Int)) := by apply decide_eq_decide.2; omega
  have e4 : decide (c.toNat ≤ 57) = decide ((c.toNat : Int) ≤ 57) := by apply decide_eq_decide.2; omega
  rw [e1, e2, e3, e4]
theorem ok_word_plain : codeOK Tryd.prog T0 Tryd.f25.ntmps (Tryd.f25.body.getD .skip) = true := by kernel_rfl
theorem c_word_plain (c : UInt8) : CallA Tryd.prog 25 [.int .u8 c.toNat] (· = .bool (plB c)) := by
  refine callA_of_body T0_ok mixed Tryd.func25 rfl (Nat.le_of_ble_eq_true rfl) ok_word_plain ?_
  unfold Tryd.f25
  rw [plB_int]
  by_cases h1 : (97 : Int) ≤ (c.toNat : Int) <;> by_cases h2 : (c.toNat : Int) ≤ 122 <;> by_cases h3 : (48 : Int) ≤ (c.toNat : Int) <;> by_cases h4 : (c.toNat : Int) ≤ 57 <;> simp -implicitDefEqProofs (disch := (first | omega | decide)) only [go_sem, ↓reduceIte, seval, h1, h2, h3, h4, Bool.and_true, Bool.and_false, Bool.true_and, Bool.false_and, Bool.or_true, Bool.or_false, Bool.true_or, Bool.false_or]
theorem ok_ref05_plain : codeOK Tryd.prog T0 Tryd.f26.ntmps (Tryd.f26.body.getD .skip) = true := by kernel_rfl
theorem c_ref05_plain (c : UInt8) : CallA Tryd.prog 26 [.int .u8 c.toNat] (· = .bool (plB c)) := by
  refine callA_of_body T0_ok mixed Tryd.func26 rfl (Nat.le_of_ble_eq_true rfl) ok_ref05_plain ?_
  unfold Tryd.f26
  rw [plB_int]
  by_cases h1 : (97 : Int) ≤ (c.toNat : Int) <;> by_cases h2 : (c.toNat : Int) ≤ 122 <;> by_cases h3 : (48 : Int) ≤ (c.toNat : Int) <;> by_cases h4 : (c.toNat : Int) ≤ 57 <;> simp -implicitDefEqProofs (disch := (first | omega | decide)) only [go_sem, ↓reduceIte, seval, h1, h2, h3, h4, Bool.and_true, Bool.and_false, Bool.true_and, Bool.false_and, Bool.or_true, Bool.or_false, Bool.true_or, Bool.false_or]
theorem ok_ref05_hex : codeOK Tryd.prog T0 Tryd.f27.ntmps (Tryd.f27.body.getD .skip) = true := by kernel_rfl
theorem c_ref05_hex (n : Nat) (h : n < 16) : CallA Tryd.prog 27 [.int .i64 n] (· = .int .u8 (hexB n).toNat) := by
  refine callA_of_body T0_ok mixed Tryd.func27 rfl (Nat.le_of_ble_eq_true rfl) ok_ref05_hex ?_
  unfold Tryd.f27
  have hh := hexB_toNat h
  by_cases h1 : (n : Int) < 10
  · rw [if_pos (by omega)] at hh
    have hw : IntKind.u8.wrap (48 + (n : Int)) = ((hexB n).toNat : Int) := by rw [wrap_u8 (by omega), hh]; omega
    simp -implicitDefEqProofs (disch := (first | omega | decide)) only [go_sem, ↓reduceIte, seval, h1, hw, wrap_i64]
  · rw [if_neg (by omega)] at hh
    have hw : IntKind.u8.wrap (87 + (n : Int)) = ((hexB n).toNat : Int) := by rw [wrap_u8 (by omega), hh]; omega
    simp -implicitDefEqProofs (disch := (first | omega | decide)) only [go_sem, ↓reduceIte, seval, h1, hw, wrap_i64]
def digitsL : List UInt8 := [48, 49, 50, 51, 52, 53, 54, 55, 56, 57, 97, 98, 99, 100, 101, 102]
theorem digitsL_at {n : Nat} (h : n < 16) : digitsL[n]? = some (hexB n) := by
  have : ∀ m : Fin 16, digitsL[m.1]? = some (hexB m.1) := by decide
  exact this ⟨n, h⟩
theorem digits_index (c : UInt8) : Lib.indexByte digitsL c = if digB c < 16 then (digB c : Int) else -1 := by
  have h : ∀ m : Fin 256, Lib.indexByte digitsL (UInt8.ofNat m.1) = if digB (UInt8.ofNat m.1) < 16 then (digB (UInt8.ofNat m.1) : Int) else -1 := by decide +kernel
  have := h ⟨c.toNat, c.toNat_lt⟩
  simpa using this
noncomputable def T5a : Tab := T0.add 40 (entry (fun (p : List UInt8 × Int) => [.str p.1, .int .u8 p.2]) (fun p => True) (fun p => .int .i64 (Lib.indexByte p.1 p.2.toNat.toUInt8)))
theorem T5a_ok : TabOK Tryd.prog T5a := T0_ok.ent Tryd.func40 (by kernel_rfl) (by kernel_rfl) fun p h => callA_indexByte YthiedimbmcgpdaaDoor.indexByteL p.1 p.2
theorem T5a_strings_IndexByte (p : List UInt8 × Int) (h : True) : T5a.f 40 [.str p.1, .int .u8 p.2] = some (.int .i64 (Lib.indexByte p.1 p.2.toNat.toUInt8)) := Tab.ent_eq (Γ := T0) (fun i j h => by simpa [Prod.ext_iff, and_assoc] using h) p h
noncomputable def T5b : Tab := T5a.add 25 (entry (fun (c : UInt8) => [.int .u8 (c.toNat : Int)]) (fun c => True) (fun c => .bool (plB c)))
theorem T5b_ok : TabOK Tryd.prog T5b := T5a_ok.ent Tryd.func25 (by kernel_rfl) (by kernel_rfl) fun c h => c_word_plain c
@[go_sem] theorem T5b_old {g : FuncId} {xs : List A} (h : g ≠ 25) : T5b.f g xs = T5a.f g xs := Tab.add_ne h
theorem T5b_word_plain (c : UInt8) (h : True) : T5b.f 25 [.int .u8 (c.toNat : Int)] = some (.bool (plB c)) := Tab.ent_eq (Γ := T5a) (fun i j h => by exact UInt8.toNat_inj.1 (by simp at h; omega)) c h
noncomputable def T5c : Tab := T5b.add 26 (entry (fun (c : UInt8) => [.int .u8 (c.toNat : Int)]) (fun c => True) (fun c => .bool (plB c)))
theorem T5c_ok : TabOK Tryd.prog T5c := T5b_ok.ent Tryd.func26 (by kernel_rfl) (by kernel_rfl) fun c h => c_ref05_plain c
@[go_sem] theorem T5c_old {g : FuncId} {xs : List A} (h : g ≠ 26) : T5c.f g xs = T5b.f g xs := Tab.add_ne h
theorem T5c_ref05_plain (c : UInt8) (h : True) : T5c.f 26 [.int .u8 (c.toNat : Int)] = some (.bool (plB c)) := Tab.ent_eq (Γ := T5b) (fun i j h => by exact UInt8.toNat_inj.1 (by simp at h; omega)) c h
noncomputable def T5d : Tab := T5c.add 27 (entry (fun (n : Nat) => [.int .i64 (n : Int)]) (fun n => n < 16) (fun n => .int .u8 ((hexB n).toNat : Int)))
theorem T5d_ok : TabOK Tryd.prog T5d := T5c_ok.ent Tryd.func27 (by kernel_rfl) (by kernel_rfl) fun n h => c_ref05_hex n h
@[go_sem] theorem T5d_old {g : FuncId} {xs : List A} (h : g ≠ 27) : T5d.f g xs = T5c.f g xs := Tab.add_ne h
@[go_sem] theorem T5d_s : T5d.pl T5c := ⟨fun _ => rfl, fun _ => rfl, rfl, fun _ => rfl, rfl, fun _ => rfl, rfl⟩
theorem T5d_ref05_hex (n : Nat) (h : n < 16) : T5d.f 27 [.int .i64 (n : Int)] = some (.int .u8 ((hexB n).toNat : Int)) := Tab.ent_eq (Γ := T5c) (fun i j h => by first | (cases i; cases j; rfl; done) | simpa [Prod.ext_iff, and_assoc] using h | (simp at h; omega) | (simp at h; exact Prod.ext h.1 (Prod.ext h.2.1 (by omega)))) n h
def digI (c : UInt8) : Int := if digB c < 16 then (digB c : Int) else -1
theorem t5_index (c : UInt8) : T5a.f 40 [.str digitsL, .int .u8 (c.toNat : Int)] = some (.int .i64 (digI c)) := by
  have h := T5a_strings_IndexByte (digitsL, (c.toNat : Int)) trivial
  have e : ((c.toNat : Int)).toNat.toUInt8 = c := by simp
  simp only [e, digits_index] at h
  exact h
theorem ok_word_digit : codeOK Tryd.prog T5d Tryd.f24.ntmps (Tryd.f24.body.getD .skip) = true := by kernel_rfl
theorem c_word_digit (c : UInt8) : CallA Tryd.prog 24 [.int .u8 c.toNat] (· = .int .i64 (digI c)) := by
  refine callA_of_body T5d_ok mixed Tryd.func24 rfl (Nat.le_of_ble_eq_true rfl) ok_word_digit ?_
  unfold Tryd.f24
  have g := t5_index c
  unfold digitsL at g
  simp -implicitDefEqProofs (disch := (first | omega | decide)) only [go_sem, ↓reduceIte, seval, g]
noncomputable def T5e : Tab := T5d.add 24 (entry (fun (c : UInt8) => [.int .u8 (c.toNat : Int)]) (fun c => True) (fun c => .int .i64 (digI c)))
theorem T5e_ok : TabOK Tryd.prog T5e := T5d_ok.ent Tryd.func24 (by kernel_rfl) (by kernel_rfl) fun c h => c_word_digit c
@[go_sem] theorem T5e_old {g : FuncId} {xs : List A} (h : g ≠ 24) : T5e.f g xs = T5d.f g xs := Tab.add_ne h
@[go_sem] theorem T5e_s : T5e.pl T5d := ⟨fun _ => rfl, fun _ => rfl, rfl, fun _ => rfl, rfl, fun _ => rfl, rfl⟩
theorem T5e_word_digit (c : UInt8) (h : True) : T5e.f 24 [.int .u8 (c.toNat : Int)] = some (.int .i64 (digI c)) := Tab.ent_eq (Γ := T5d) (fun i j h => by exact UInt8.toNat_inj.1 (by simp at h; omega)) c h
theorem t5_plain (c : UInt8) : T5b.f 25 [.int .u8 (c.toNat : Int)] = some (.bool (plB c)) := T5b_word_plain c trivial
theorem t5_rplain (c : UInt8) : T5c.f 26 [.int .u8 (c.toNat : Int)] = some (.bool (plB c)) := T5c_ref05_plain c trivial
theorem t5_hex {n : Nat} (h : n < 16) : T5d.f 27 [.int .i64 (n : Int)] = some (.int .u8 ((hexB n).toNat : Int)) := T5d_ref05_hex n h
theorem wC_len (c : UInt8) : (wC c).length ≤ 3 := by unfold wC; split <;> simp
theorem flat_take {s : List UInt8} {k : Nat} (h : k < s.length) : (s.take (k + 1)).flatMap wC = (s.take k).flatMap wC ++ wC s[k] := by
  rw [← List.take_append_getElem h, List.flatMap_append]; simp
theorem flat_len : ∀ s : List UInt8, (s.flatMap wC).length ≤ 3 * s.length
  | [] => by simp
  | c :: s => by
    have := flat_len s
    have := wC_len c
    simp only [List.flatMap_cons, List.length_append, List.length_cons]; omega
theorem div16 (c : UInt8) : (c.toNat : Int).tdiv 16 = ((c.toNat / 16 : Nat) : Int) ∧ (c.toNat : Int).tmod 16 = ((c.toNat % 16 : Nat) : Int) ∧ c.toNat / 16 < 16 ∧ c.toNat % 16 < 16 := by
  have := c.toNat_lt
  exact ⟨by rw [Int.tdiv_eq_ediv_of_nonneg (by omega)]; omega, by rw [Int.tmod_eq_emod_of_nonneg (by omega)]; omega, by omega, by omega⟩
theorem bytes_take (s : List UInt8) {n : Nat} (h : n = s.length) : (bytesA s).take n = bytesA s := List.take_of_length_le (by rw [bytesA_len]; omega)
theorem ok_word_Of : codeOK Tryd.prog T5d Tryd.f9.ntmps (Tryd.f9.body.getD .skip) = true := by kernel_rfl
theorem c_word_Of (s : List UInt8) (hs : s.length ≤ 1000000000) : CallA Tryd.prog 9 [.str s] (· = .str (ofW s)) := by
  refine callA_of_body T5d_ok mixed Tryd.func9 rfl (Nat.le_of_ble_eq_true rfl) ok_word_Of ?_
  unfold Tryd.f9
  by_cases h0 : s = []
  · subst h0
    simp -implicitDefEqProofs (disch := (first | omega | decide)) only [go_sem, ↓reduceIte, seval]
    rfl
  · have hne : (s == []) = false := by simpa using h0
    have hw : ofW s = s.flatMap wC := by unfold ofW; rw [if_neg h0]
    simp -implicitDefEqProofs (disch := (first | omega | decide)) only [go_sem, ↓reduceIte, seval, hne]
    refine wpA_loop_nil 3 1 rfl ?_
    refine wpA_loop [0, 9] (ι := {k : Nat // k ≤ s.length}) (fun k => [(10, .int .i64 k.1), (3, .row 0 0 1 ((s.take k.1).flatMap wC).length false)]) (fun k => [(0, .row 1 (bytesA ((s.take k.1).flatMap wC)))]) (fun k => s.length - k.1) ⟨0, by omega⟩ (Nat.zero_le _) ?_ ?_
    · simp -implicitDefEqProofs (disch := (first | omega | decide)) only [go_sem, ↓reduceIte, seval]
      try exact ⟨rfl, rfl⟩
    · rintro ⟨k, hk⟩
      simp only
      by_cases hlt : k < s.length
      · have hlt' : (k : Int) < (s.length : Int) := by omega
        have e1 : s[k]? = some s[k] := List.getElem?_eq_getElem hlt
        have hn := flat_take hlt
        have hfl := flat_len (s.take k)
        rw [List.length_take] at hfl
        generalize s[k] = c at *
        generalize (s.take k).flatMap wC = out at *
        have gp := t5_plain c
        have b0 := bytesA_len out
        have b1 : (bytesA out).take out.length = bytesA out := bytes_take out rfl
        cases hp : plB c with
        | true =>
          rw [hp] at gp
          have hw1 : wC c = [c] := by unfold wC; rw [if_pos hp]
          rw [hw1] at hn
          have b2 : bytesA out ++ [A.int .u8 (c.toNat : Int)] = bytesA (out ++ [c]) := by simp [bytesA, encU8]
          simp -implicitDefEqProofs (disch := (first | omega | decide)) only [go_sem, ↓reduceIte, seval, hlt', e1, gp, b0, b1, b2, wrap_i64, encU8]
          exact ⟨⟨by omega, by omega⟩, ⟨k + 1, hlt⟩, ⟨⟨by simp, by rw [hn]; simp⟩, by rw [hn]⟩, by show s.length - (k + 1) < s.length - k; omega⟩
        | false =>
          rw [hp] at gp
          have hw1 : wC c = [45, hexB (c.toNat / 16), hexB (c.toNat % 16)] := by unfold wC; rw [hp]; rfl
          rw [hw1] at hn
          obtain ⟨d1, d2, d3, d4⟩ := div16 c
          have x1 := digitsL_at d3
          have x2 := digitsL_at d4
          unfold digitsL at x1 x2
          have w1 : IntKind.u8.wrap (((c.toNat / 16 : Nat) : Int)) = ((c.toNat / 16 : Nat) : Int) := wrap_u8 (by omega)
          have z16 : ¬ ((16 : Int) = 0) := by omega
          have b2 : bytesA out ++ [A.int .u8 45, A.int .u8 ((hexB (c.toNat / 16)).toNat : Int), A.int .u8 ((hexB (c.toNat % 16)).toNat : Int)] = bytesA (out ++ [45, hexB (c.toNat / 16), hexB (c.toNat % 16)]) := by simp [bytesA, encU8]
          simp -implicitDefEqProofs (disch := (first | omega | decide)) only [go_sem, ↓reduceIte, seval, hlt', e1, gp, d1, d2, x1, x2, w1, z16, b0, b1, b2, wrap_i64, encU8]
          exact ⟨⟨by omega, by omega⟩, ⟨k + 1, hlt⟩, ⟨⟨by simp, by rw [hn]; simp⟩, by rw [hn]⟩, by show s.length - (k + 1) < s.length - k; omega⟩
      · have hlt' : ¬ (k : Int) < (s.length : Int) := by omega
        rw [List.take_of_length_le (by omega), hw]
        generalize s.flatMap wC = out at *
        have b0 := bytesA_len out
        have b1 : (bytesA out).take out.length = bytesA out := bytes_take out rfl
        simp -implicitDefEqProofs (disch := (first | omega | decide)) only [go_sem, ↓reduceIte, seval, hlt', b0, b1, convB, bytesOfA_bytesA, Nat.le_refl, Option.map_some]
theorem ok_ref05_Of : codeOK Tryd.prog T5e Tryd.f10.ntmps (Tryd.f10.body.getD .skip) = true := by kernel_rfl
theorem c_ref05_Of (s : List UInt8) (hs : s.length ≤ 1000000000) : CallA Tryd.prog 10 [.str s] (· = .str (ofW s)) := by
  refine callA_of_body T5e_ok mixed Tryd.func10 rfl (Nat.le_of_ble_eq_true rfl) ok_ref05_Of ?_
  unfold Tryd.f10
  by_cases h0 : s = []
  · subst h0
    simp -implicitDefEqProofs (disch := (first | omega | decide)) only [go_sem, ↓reduceIte, seval]
    rfl
  · have hne : (s == []) = false := by simpa using h0
    have hw : ofW s = s.flatMap wC := by unfold ofW; rw [if_neg h0]
    simp -implicitDefEqProofs (disch := (first | omega | decide)) only [go_sem, ↓reduceIte, seval, hne]
    refine wpA_loop_nil 3 1 rfl ?_
    refine wpA_loop [0] (ι := {k : Nat // k ≤ s.length}) (fun k => [(4, .int .i64 k.1), (3, .row 0 0 1 ((s.take k.1).flatMap wC).length false)]) (fun k => [(0, .row 1 (bytesA ((s.take k.1).flatMap wC)))]) (fun k => s.length - k.1) ⟨0, by omega⟩ (Nat.zero_le _) ?_ ?_
    · simp -implicitDefEqProofs (disch := (first | omega | decide)) only [go_sem, ↓reduceIte, seval]
      try exact ⟨rfl, rfl⟩
    · rintro ⟨k, hk⟩
      simp only
      by_cases hlt : k < s.length
      · have hlt' : (k : Int) < (s.length : Int) := by omega
        have e1 : s[k]? = some s[k] := List.getElem?_eq_getElem hlt
        have hn := flat_take hlt
        have hfl := flat_len (s.take k)
        rw [List.length_take] at hfl
        generalize s[k] = c at *
        generalize (s.take k).flatMap wC = out at *
        have gp := t5_rplain c
        have b0 := bytesA_len out
        have b1 : (bytesA out).take out.length = bytesA out := bytes_take out rfl
        cases hp : plB c with
        | true =>
          rw [hp] at gp
          have hw1 : wC c = [c] := by unfold wC; rw [if_pos hp]
          rw [hw1] at hn
          have b2 : bytesA out ++ [A.int .u8 (c.toNat : Int)] = bytesA (out ++ [c]) := by simp [bytesA, encU8]
          simp -implicitDefEqProofs (disch := (first | omega | decide)) only [go_sem, ↓reduceIte, seval, hlt', e1, gp, b0, b1, b2, wrap_i64, encU8]
          exact ⟨⟨by omega, by omega⟩, ⟨k + 1, hlt⟩, ⟨⟨by simp, by rw [hn]; simp⟩, by rw [hn]⟩, by show s.length - (k + 1) < s.length - k; omega⟩
        | false =>
          rw [hp] at gp
          have hw1 : wC c = [45, hexB (c.toNat / 16), hexB (c.toNat % 16)] := by unfold wC; rw [hp]; rfl
          rw [hw1] at hn
          obtain ⟨d1, d2, d3, d4⟩ := div16 c
          have x1 := t5_hex d3
          have x2 := t5_hex d4
          have w1 : IntKind.i64.wrap (((c.toNat / 16 : Nat) : Int)) = ((c.toNat / 16 : Nat) : Int) := wrap_i64 (by omega)
          have w2 : IntKind.i64.wrap (c.toNat : Int) = (c.toNat : Int) := wrap_i64 (by have := c.toNat_lt; omega)
          have z16 : ¬ ((16 : Int) = 0) := by omega
          have b2 : bytesA out ++ [A.int .u8 45] = bytesA (out ++ [45]) := by simp [bytesA, encU8]
          have b3 : bytesA (out ++ [45]) ++ [A.int .u8 ((hexB (c.toNat / 16)).toNat : Int)] = bytesA (out ++ [45, hexB (c.toNat / 16)]) := by simp [bytesA, encU8]
          have b4 : bytesA (out ++ [45, hexB (c.toNat / 16)]) ++ [A.int .u8 ((hexB (c.toNat % 16)).toNat : Int)] = bytesA (out ++ [45, hexB (c.toNat / 16), hexB (c.toNat % 16)]) := by simp [bytesA, encU8]
          have l1 : (bytesA (out ++ [45])).length = out.length + 1 := by rw [bytesA_len]; simp
          have l2 : (bytesA (out ++ [45, hexB (c.toNat / 16)])).length = out.length + 2 := by rw [bytesA_len]; simp
          have t1 : (bytesA (out ++ [45])).take (out.length + 1) = bytesA (out ++ [45]) := List.take_of_length_le (by omega)
          have t2 : (bytesA (out ++ [45, hexB (c.toNat / 16)])).take (out.length + 1 + 1) = bytesA (out ++ [45, hexB (c.toNat / 16)]) := List.take_of_length_le (by omega)
          simp -implicitDefEqProofs (disch := (first | omega | decide)) only [go_sem, ↓reduceIte, seval, hlt', e1, gp, d1, d2, x1, x2, w1, w2, z16, b0, b1, b2, b3, b4, l1, l2, t1, t2, wrap_i64, encU8]
          exact ⟨⟨by omega, by omega⟩, ⟨by omega, by omega⟩, ⟨by omega, by omega⟩, ⟨k + 1, hlt⟩, ⟨⟨by simp, by rw [hn]; simp⟩, by rw [hn]⟩, by show s.length - (k + 1) < s.length - k; omega⟩
      · have hlt' : ¬ (k : Int) < (s.length : Int) := by omega
        rw [List.take_of_length_le (by omega), hw]
        generalize s.flatMap wC = out at *
        have b0 := bytesA_len out
        have b1 : (bytesA out).take out.length = bytesA out := bytes_take out rfl
        simp -implicitDefEqProofs (disch := (first | omega | decide)) only [go_sem, ↓reduceIte, seval, hlt', b0, b1, convB, bytesOfA_bytesA, Nat.le_refl, Option.map_some]
noncomputable def T5f : Tab := T5e.add 9 (entry (fun (s : List UInt8) => [.str s]) (fun s => s.length ≤ 1000000000) (fun s => .str (ofW s)))
theorem T5f_ok : TabOK Tryd.prog T5f := T5e_ok.ent Tryd.func9 (by kernel_rfl) (by kernel_rfl) fun s h => c_word_Of s h
@[go_sem] theorem T5f_old {g : FuncId} {xs : List A} (h : g ≠ 9) : T5f.f g xs = T5e.f g xs := Tab.add_ne h
theorem T5f_word_Of (s : List UInt8) (h : s.length ≤ 1000000000) : T5f.f 9 [.str s] = some (.str (ofW s)) := Tab.ent_eq (Γ := T5e) (fun i j h => by simpa [Prod.ext_iff, and_assoc] using h) s h
noncomputable def T5g : Tab := T5f.add 10 (entry (fun (s : List UInt8) => [.str s]) (fun s => s.length ≤ 1000000000) (fun s => .str (ofW s)))
theorem T5g_ok : TabOK Tryd.prog T5g := T5f_ok.ent Tryd.func10 (by kernel_rfl) (by kernel_rfl) fun s h => c_ref05_Of s h
@[go_sem] theorem T5g_old {g : FuncId} {xs : List A} (h : g ≠ 10) : T5g.f g xs = T5f.f g xs := Tab.add_ne h
@[go_sem] theorem T5g_s : T5g.pl T5f := ⟨fun _ => rfl, fun _ => rfl, rfl, fun _ => rfl, rfl, fun _ => rfl, rfl⟩
theorem T5g_ref05_Of (s : List UInt8) (h : s.length ≤ 1000000000) : T5g.f 10 [.str s] = some (.str (ofW s)) := Tab.ent_eq (Γ := T5f) (fun i j h => by simpa [Prod.ext_iff, and_assoc] using h) s h
theorem t5_Of {s : List UInt8} (h : s.length ≤ 1000000000) : T5f.f 9 [.str s] = some (.str (ofW s)) := T5f_word_Of s h
theorem t5_rOf {s : List UInt8} (h : s.length ≤ 1000000000) : T5g.f 10 [.str s] = some (.str (ofW s)) := T5g_ref05_Of s h
def rdA : Option (List UInt8) → A
  | none => .tup [.str [], .bool false]
  | some t => .tup [.str t, .bool true]
theorem rdW_notesc {c : UInt8} {r : List UInt8} (h : ¬ (c = 45 ∧ 2 ≤ r.length)) : rdW (c :: r) = if plB c = true then (rdW r).map (c :: ·) else none := by
  by_cases hp : plB c = true
  · rw [rdW_plain hp, if_pos hp]
  · rw [if_neg hp]
    match r, h with
    | [], h => simp [rdW, hp]
    | [d], h => simp [rdW, hp]
    | d :: e :: r, h =>
      have h45 : c ≠ 45 := fun e => h ⟨e, by simp⟩
      rw [rdW, if_neg h45, if_neg hp]
theorem digI_of {c : UInt8} (h : digB c < 16) : digI c = (digB c : Int) := by unfold digI; rw [if_pos h]
theorem digI_no {c : UInt8} (h : ¬ digB c < 16) : digI c = -1 := by unfold digI; rw [if_neg h]
theorem t5_digit (c : UInt8) : T5e.f 24 [.int .u8 (c.toNat : Int)] = some (.int .i64 (digI c)) := T5e_word_digit c trivial
theorem readW_go {w : List UInt8} (h : w ≠ [95]) {r : List UInt8} (he : rdW w = some r) : readW w = if r = [] then none else some r := by
  unfold readW; rw [if_neg h, he]; rfl
theorem readW_no {w : List UInt8} (h : w ≠ [95]) (he : rdW w = none) : readW w = none := by
  unfold readW; rw [if_neg h, he]; rfl
theorem ok_word_Read : codeOK Tryd.prog T5g Tryd.f8.ntmps (Tryd.f8.body.getD .skip) = true := by kernel_rfl
theorem c_word_Read (w : List UInt8) (hs : w.length ≤ 1000000000) : CallA Tryd.prog 8 [.str w] (· = rdA (readW w)) := by
  refine callA_of_body T5g_ok mixed Tryd.func8 rfl (Nat.le_of_ble_eq_true rfl) ok_word_Read ?_
  unfold Tryd.f8
  by_cases h0 : w = [95]
  · subst h0
    simp -implicitDefEqProofs (disch := (first | omega | decide)) only [go_sem, ↓reduceIte, seval]
    rfl
  · have hne : (w == [95]) = false := by simpa using h0
    simp -implicitDefEqProofs (disch := (first | omega | decide)) only [go_sem, ↓reduceIte, seval, hne]
    refine wpA_loop_nil 4 1 rfl ?_
    refine wpA_loop [0] (ι := {p : Nat × List UInt8 // p.1 ≤ w.length ∧ rdW w = (rdW (w.drop p.1)).map (p.2 ++ ·) ∧ p.2.length ≤ p.1}) (fun p => [(5, .int .i64 p.1.1), (4, .row 0 0 1 p.1.2.length false)]) (fun p => [(0, .row 1 (bytesA p.1.2))]) (fun p => w.length - p.1.1) ⟨(0, []), by omega, by simp, by simp⟩ (Nat.zero_le _) ?_ ?_
    · simp -implicitDefEqProofs (disch := (first | omega | decide)) only [go_sem, ↓reduceIte, seval]
      rfl
    · rintro ⟨⟨k, out⟩, hk, hd, hol⟩
      simp only at hk hd hol ⊢
      have b0 := bytesA_len out
      have b1 : (bytesA out).take out.length = bytesA out := bytes_take out rfl
      by_cases hlt : k < w.length
      · have hlt' : (k : Int) < (w.length : Int) := by omega
        have e1 : w[k]? = some w[k] := List.getElem?_eq_getElem hlt
        rw [List.drop_eq_getElem_cons hlt] at hd
        by_cases hesc : w[k] = 45 ∧ k + 2 < w.length
        · obtain ⟨h45, hk2⟩ := hesc
          have hk2' : (k : Int) + 2 < (w.length : Int) := by omega
          have e2 : w[k + 1]? = some w[k + 1] := List.getElem?_eq_getElem (by omega)
          have e3 : w[k + 2]? = some w[k + 2] := List.getElem?_eq_getElem (by omega)
          rw [List.drop_eq_getElem_cons (show k + 1 < w.length by omega), List.drop_eq_getElem_cons (show k + 1 + 1 < w.length by omega), h45, rdW, if_pos rfl] at hd
          rw [h45] at e1
          generalize w[k + 1] = x at *
          generalize w[k + 1 + 1] = y at *
          have c1 : ((k : Int) + 1).toNat = k + 1 := by omega
          have c2 : ((k : Int) + 2).toNat = k + 2 := by omega
          have p1 : (0 : Int) ≤ (k : Int) + 1 := by omega
          have p2 : (0 : Int) ≤ (k : Int) + 2 := by omega
          have gx := t5_digit x
          have gy := t5_digit y
          by_cases hx : digB x < 16
          · rw [digI_of hx] at gx
            by_cases hy : digB y < 16
            · rw [digI_of hy] at gy
              have hz : (UInt8.ofNat (16 * digB x + digB y)).toNat = 16 * digB x + digB y := ofNat_toNat' (by omega)
              have w1 : IntKind.u8.wrap (16 * (digB x : Int) + (digB y : Int)) = ((UInt8.ofNat (16 * digB x + digB y)).toNat : Int) := by rw [wrap_u8 (by omega), hz]; omega
              have n1 : ¬ (digB x : Int) < 0 := by omega
              have n2 : ¬ (digB y : Int) < 0 := by omega
              have gp := t5_plain (UInt8.ofNat (16 * digB x + digB y))
              cases hp : plB (UInt8.ofNat (16 * digB x + digB y)) with
              | true =>
                rw [hp] at gp
                have he : escB x y = none := by unfold escB; rw [if_neg (fun h => by rw [h.2.2] at hp; cases hp)]
                rw [he] at hd
                rw [readW_no h0 (by rw [hd]; rfl)]
                simp -implicitDefEqProofs (disch := (first | omega | decide)) only [go_sem, ↓reduceIte, seval, hlt', e1, hk2', e2, e3, c1, c2, p1, p2, gx, gy, n1, n2, w1, gp, wrap_i64, encU8]
                rfl
              | false =>
                rw [hp] at gp
                have he : escB x y = some (UInt8.ofNat (16 * digB x + digB y)) := by unfold escB; rw [if_pos ⟨hx, hy, hp⟩]
                rw [he] at hd
                generalize UInt8.ofNat (16 * digB x + digB y) = z at *
                have b2 : bytesA out ++ [A.int .u8 (z.toNat : Int)] = bytesA (out ++ [z]) := by simp [bytesA, encU8]
                simp -implicitDefEqProofs (maxSteps := 600000) (disch := (first | omega | decide)) only [go_sem, ↓reduceIte, seval, hlt', e1, hk2', e2, e3, c1, c2, p1, p2, gx, gy, n1, n2, w1, gp, b0, b1, b2, wrap_i64, encU8]
                refine ⟨⟨by omega, by omega⟩, ⟨(k + 3, out ++ [z]), by simp only; omega, ?_, by simp; omega⟩, ⟨⟨by simp; omega, by simp⟩, rfl⟩, by show w.length - (k + 3) < w.length - k; omega⟩
                simp only [Option.bind_some, Option.map_map] at hd
                rw [hd]
                show _ = Option.map _ (rdW (w.drop (k + 3)))
                congr 1
                funext u; simp
            · rw [digI_no hy] at gy
              have n1 : ¬ (digB x : Int) < 0 := by omega
              have he : escB x y = none := by unfold escB; rw [if_neg (by simp [hy])]
              rw [he] at hd
              rw [readW_no h0 (by rw [hd]; rfl)]
              simp -implicitDefEqProofs (disch := (first | omega | decide)) only [go_sem, ↓reduceIte, seval, hlt', e1, hk2', e2, e3, c1, c2, p1, p2, gx, gy, n1, wrap_i64, encU8]
              rfl
          · rw [digI_no hx] at gx
            have he : escB x y = none := by unfold escB; rw [if_neg (by simp [hx])]
            rw [he] at hd
            rw [readW_no h0 (by rw [hd]; rfl)]
            simp -implicitDefEqProofs (disch := (first | omega | decide)) only [go_sem, ↓reduceIte, seval, hlt', e1, hk2', e2, e3, c1, c2, p1, p2, gx, gy, wrap_i64, encU8]
            rfl
        · rw [rdW_notesc (fun ⟨a, b⟩ => hesc ⟨a, by rw [List.length_drop] at b; omega⟩)] at hd
          generalize w[k] = c at *
          have gp := t5_plain c
          have hesc' : c = 45 → ¬ (k : Int) + 2 < (w.length : Int) := fun e h => hesc ⟨e, by omega⟩
          cases hp : plB c with
          | false =>
            rw [hp] at gp hd
            rw [readW_no h0 (by rw [hd]; rfl)]
            by_cases hc : c = 45
            · have hk2' := hesc' hc
              subst hc
              have gp' : T5b.f 25 [.int .u8 45] = some (.bool false) := gp
              simp -implicitDefEqProofs (disch := (first | omega | decide)) only [go_sem, ↓reduceIte, seval, hlt', e1, hk2', gp', wrap_i64, encU8]
              rfl
            · have hc' : ((c.toNat : Int) == 45) = false := by
                simp only [beq_eq_false_iff_ne, ne_eq]
                intro h
                apply hc
                apply UInt8.toNat_inj.1
                have : c.toNat = 45 := by omega
                rw [this]; rfl
              simp -implicitDefEqProofs (disch := (first | omega | decide)) only [go_sem, ↓reduceIte, seval, hlt', e1, hc', gp, wrap_i64, encU8]
              rfl
          | true =>
            rw [hp] at gp hd
            have hc' : ((c.toNat : Int) == 45) = false := by
              simp only [beq_eq_false_iff_ne, ne_eq]
              intro h
              have : c = 45 := UInt8.toNat_inj.1 (by have : c.toNat = 45 := by omega
                                                     rw [this]; rfl)
              rw [this, plB_45] at hp; cases hp
            have b2 : bytesA out ++ [A.int .u8 (c.toNat : Int)] = bytesA (out ++ [c]) := by simp [bytesA, encU8]
            simp -implicitDefEqProofs (disch := (first | omega | decide)) only [go_sem, ↓reduceIte, seval, hlt', e1, hc', gp, b0, b1, b2, wrap_i64, encU8]
            refine ⟨⟨by omega, by omega⟩, ⟨(k + 1, out ++ [c]), by simp only; omega, ?_, by simp; omega⟩, ⟨⟨by simp, by simp⟩, rfl⟩, by show w.length - (k + 1) < w.length - k; omega⟩
            rw [hd, if_pos rfl, Option.map_map]
            show _ = Option.map _ (rdW (w.drop (k + 1)))
            congr 1
            funext u; simp
      · have hlt' : ¬ (k : Int) < (w.length : Int) := by omega
        rw [List.drop_of_length_le (by omega)] at hd
        simp only [rdW, Option.map_some, List.append_nil] at hd
        rw [readW_go h0 hd]
        by_cases ho : out = []
        · subst ho
          simp -implicitDefEqProofs (disch := (first | omega | decide)) only [go_sem, ↓reduceIte, seval, hlt', b0, b1, convB, bytesOfA_bytesA, Nat.le_refl, Option.map_some]
          exact ⟨[], rfl, rfl⟩
        · rw [if_neg ho]
          have hl : (0 : Int) < (out.length : Int) := by have := List.length_pos_iff.2 ho; omega
          simp -implicitDefEqProofs (disch := (first | omega | decide)) only [go_sem, ↓reduceIte, seval, hlt', hl, b0, b1, convB, bytesOfA_bytesA, Nat.le_refl, Option.map_some]
          rfl
noncomputable def T5h : Tab := T5g.add 8 (entry (fun (s : List UInt8) => [.str s]) (fun s => s.length ≤ 1000000000) (fun s => rdA (readW s)))
theorem T5h_ok : TabOK Tryd.prog T5h := T5g_ok.ent Tryd.func8 (by kernel_rfl) (by kernel_rfl) fun s h => c_word_Read s h
@[go_sem] theorem T5h_old {g : FuncId} {xs : List A} (h : g ≠ 8) : T5h.f g xs = T5g.f g xs := Tab.add_ne h
theorem T5h_word_Read (s : List UInt8) (h : s.length ≤ 1000000000) : T5h.f 8 [.str s] = some (rdA (readW s)) := Tab.ent_eq (Γ := T5g) (fun i j h => by simpa [Prod.ext_iff, and_assoc] using h) s h
theorem t5_Read {s : List UInt8} (h : s.length ≤ 1000000000) : T5h.f 8 [.str s] = some (rdA (readW s)) := T5h_word_Read s h
theorem extraB : Builder.Extra Tryd.prog YthiedimbmcgpdaaDoor.joinL_ren where
  sizeBuilder := by kernel_rfl
  liesBuilder := by kernel_rfl
  t5 := Tryd.underlying5
  a5 := Tryd.isAgg5
  z5 := Tryd.sizeOf5
  v5 := Tryd.zeroValue5
  infoByte := by kernel_rfl
  cellsByte := by kernel_rfl
  sizeByte := by kernel_rfl
  neB5 := by decide
theorem indexByte_has : ∀ (s : List UInt8) (c : UInt8), decide (0 ≤ Lib.indexByte s c) = s.contains c := by
  intro s c
  induction s with
  | nil => rfl
  | cons b l ih =>
    have hg := Lib.indexByte_ge l c
    unfold Lib.indexByte
    rw [List.contains_cons, ← ih]
    by_cases h : b = c
    · subst h; simp
    · have h1 : (b == c) = false := by simpa using h
      have h2 : (c == b) = false := by simpa using fun e => h e.symm
      rw [h1, h2]
      simp only [Bool.false_eq_true, if_false, Bool.false_or]
      apply decide_eq_decide.2
      split
      · rename_i e; have := beq_iff_eq.1 e; omega
      · rename_i e
        have e' : ¬ Lib.indexByte l c = -1 := by simpa using e
        omega
noncomputable def T5i : Tab := T5h.add 28 (entry (fun (p : List UInt8 × UInt8) => [.str p.1, .str [p.2]]) (fun p => True) (fun p => .bool (decide (0 ≤ Lib.indexByte p.1 p.2))))
theorem T5i_ok : TabOK Tryd.prog T5i := T5h_ok.ent Tryd.func28 (by kernel_rfl) (by kernel_rfl) fun p h => callA_contains1 YthiedimbmcgpdaaDoor.containsL p.1 p.2
@[go_sem] theorem T5i_old {g : FuncId} {xs : List A} (h : g ≠ 28) : T5i.f g xs = T5h.f g xs := Tab.add_ne h
theorem T5i_strings_Contains (p : List UInt8 × UInt8) (h : True) : T5i.f 28 [.str p.1, .str [p.2]] = some (.bool (decide (0 ≤ Lib.indexByte p.1 p.2))) := Tab.ent_eq (Γ := T5h) (fun i j h => by simpa [Prod.ext_iff, and_assoc] using h) p h
noncomputable def T5j : Tab := T5i.add 29 (entry (fun (p : List (List UInt8) × List UInt8) => [.slc (p.1.map .str), .str p.2]) (fun p => p.1.length ≤ 140737488355328 ∧ (Lib.join p.1 p.2).length ≤ 140737488355328) (fun p => .str (Lib.join p.1 p.2)))
theorem T5j_ok : TabOK Tryd.prog T5j := T5i_ok.ent Tryd.func29 (by kernel_rfl) (by kernel_rfl) fun p h => callA_join dr_not YthiedimbmcgpdaaDoor.joinL extraB p.1 p.2 h.1 h.2
@[go_sem] theorem T5j_old {g : FuncId} {xs : List A} (h : g ≠ 29) : T5j.f g xs = T5i.f g xs := Tab.add_ne h
theorem T5j_strings_Join (p : List (List UInt8) × List UInt8) (h : p.1.length ≤ 140737488355328 ∧ (Lib.join p.1 p.2).length ≤ 140737488355328) : T5j.f 29 [.slc (p.1.map .str), .str p.2] = some (.str (Lib.join p.1 p.2)) := Tab.ent_eq (Γ := T5i) (fun i j h => by simpa [Prod.ext_iff, and_assoc] using h) p h
noncomputable def T5k : Tab := T5j.add 30 (entry (fun (p : List UInt8 × UInt8) => [.str p.1, .str [p.2]]) (fun p => p.1.length < 4294967281) (fun p => .slc ((Lib.split p.1 [p.2]).map .str)))
theorem T5k_ok : TabOK Tryd.prog T5k := T5j_ok.ent Tryd.func30 (by kernel_rfl) (by kernel_rfl) fun p h => callA_split YthiedimbmcgpdaaDoor.splitL (by kernel_rfl) p.1 p.2 h
@[go_sem] theorem T5k_old {g : FuncId} {xs : List A} (h : g ≠ 30) : T5k.f g xs = T5j.f g xs := Tab.add_ne h
@[go_sem] theorem T5k_s : T5k.pl T5j := ⟨fun _ => rfl, fun _ => rfl, rfl, fun _ => rfl, rfl, fun _ => rfl, rfl⟩
theorem T5k_strings_Split (p : List UInt8 × UInt8) (h : p.1.length < 4294967281) : T5k.f 30 [.str p.1, .str [p.2]] = some (.slc ((Lib.split p.1 [p.2]).map .str)) := Tab.ent_eq (Γ := T5j) (fun i j h => by simpa [Prod.ext_iff, and_assoc] using h) p h
theorem t5_has (s : List UInt8) (c : UInt8) : T5i.f 28 [.str s, .str [c]] = some (.bool (s.contains c)) := by
  have := T5i_strings_Contains (s, c) trivial
  rw [← indexByte_has]; exact this
theorem t5_join {l : List (List UInt8)} (h1 : l.length ≤ 1000000) (h2 : (lineW l).length ≤ 140737488355328) : T5j.f 29 [.slc (l.map .str), .str [32]] = some (.str (lineW l)) := by
  have := T5j_strings_Join (l, [32]) ⟨by simp only; omega, by rw [join_eq_line]; exact h2⟩
  rw [← join_eq_line]; exact this
theorem t5_split {s : List UInt8} (h : s.length ≤ 1000000000) : T5k.f 30 [.str s, .str [32]] = some (.slc ((splitW s).map .str)) := by
  have := T5k_strings_Split (s, 32) (by simp only; omega)
  have e : Lib.split s [32] = splitW s := by
    show Lib.splitK [32] 0 (Lib.count s [32]) s = _
    rw [Lib.count_one]
    exact splitK_split _ s rfl
  rw [← e]; exact this
theorem strs_get {l : List (List UInt8)} {k : Nat} (h : k < l.length) : (l.map A.str)[k]? = some (.str l[k]) := by
  rw [List.getElem?_map, List.getElem?_eq_getElem h]; rfl
theorem contains_all (w : List UInt8) (c : UInt8) : w.contains c = !(w.all fun d => d != c) := by
  induction w with
  | nil => rfl
  | cons d w ih =>
    rw [List.contains_cons, List.all_cons, ih]
    by_cases h : d = c
    · subst h; simp
    · have h1 : (c == d) = false := by simpa using fun e => h e.symm
      have h2 : (d != c) = true := by simpa using h
      rw [h1, h2]; simp
theorem mayB_eq (w : List UInt8) : mayB w = !(w == [] || w.contains 32 || w.contains 10) := by
  rw [contains_all, contains_all]
  unfold mayB
  have e : (w.all fun c => c != 32 && c != 10) = ((w.all fun d => d != 32) && (w.all fun d => d != 10)) := by
    induction w with
    | nil => rfl
    | cons d w ih =>
      simp only [List.all_cons, ih]
      cases (d != 32) <;> cases (d != 10) <;> simp
  rw [e]
  cases w with
  | nil => rfl
  | cons d w => simp
theorem ok_ref05_May : codeOK Tryd.prog T5k Tryd.f11.ntmps (Tryd.f11.body.getD .skip) = true := by kernel_rfl
theorem c_ref05_May (w : List UInt8) (hs : w.length ≤ 1000000000) : CallA Tryd.prog 11 [.str w] (· = .bool (mayB w)) := by
  refine callA_of_body T5k_ok mixed Tryd.func11 rfl (Nat.le_of_ble_eq_true rfl) ok_ref05_May ?_
  unfold Tryd.f11
  simp -implicitDefEqProofs (disch := (first | omega | decide)) only [go_sem, ↓reduceIte, seval]
  refine wpA_loop [0] (ι := {k : Nat // k ≤ w.length ∧ mayB w = (!w.isEmpty && (w.drop k).all fun c => c != 32 && c != 10)}) (fun k => [(3, .int .i64 k.1)]) (fun _ => []) (fun k => w.length - k.1) ⟨0, by omega, rfl⟩ (Nat.zero_le _) ?_ ?_
  · simp -implicitDefEqProofs (disch := (first | omega | decide)) only [go_sem, ↓reduceIte, seval]
  · rintro ⟨k, hk, hd⟩
    simp only
    by_cases hlt : k < w.length
    · have hlt' : (k : Int) < (w.length : Int) := by omega
      have e1 : w[k]? = some w[k] := List.getElem?_eq_getElem hlt
      have hne : w.isEmpty = false := by
        cases w with
        | nil => simp at hlt
        | cons _ _ => rfl
      rw [List.drop_eq_getElem_cons hlt, List.all_cons, hne, Bool.not_false, Bool.true_and] at hd
      generalize w[k] = c at *
      by_cases h32 : c = 32
      · subst h32
        have hm : mayB w = false := by rw [hd]; rfl
        rw [hm]
        have i1 : (((32 : UInt8).toNat : Int) == 32) = true := rfl
        simp -implicitDefEqProofs (disch := (first | omega | decide)) only [go_sem, ↓reduceIte, seval, hlt', e1, i1, wrap_i64, encU8]
      · have i1 : ((c.toNat : Int) == 32) = false := by
          simp only [beq_eq_false_iff_ne, ne_eq]
          intro h
          exact h32 (UInt8.toNat_inj.1 (by have : c.toNat = 32 := by omega
                                           rw [this]; rfl))
        by_cases h10 : c = 10
        · subst h10
          have hm : mayB w = false := by rw [hd]; rfl
          rw [hm]
          have i2 : (((10 : UInt8).toNat : Int) == 10) = true := rfl
          simp -implicitDefEqProofs (disch := (first | omega | decide)) only [go_sem, ↓reduceIte, seval, hlt', e1, i1, i2, wrap_i64, encU8]
        · have i2 : ((c.toNat : Int) == 10) = false := by
            simp only [beq_eq_false_iff_ne, ne_eq]
            intro h
            exact h10 (UInt8.toNat_inj.1 (by have : c.toNat = 10 := by omega
                                             rw [this]; rfl))
          have hb : (c != 32 && c != 10) = true := by simp [h32, h10]
          rw [hb, Bool.true_and] at hd
          simp -implicitDefEqProofs (disch := (first | omega | decide)) only [go_sem, ↓reduceIte, seval, hlt', e1, i1, i2, wrap_i64, encU8]
          exact ⟨⟨k + 1, hlt, by rw [hd, hne]; rfl⟩, by simp, by show w.length - (k + 1) < w.length - k; omega⟩
    · have hlt' : ¬ (k : Int) < (w.length : Int) := by omega
      rw [List.drop_of_length_le (by omega)] at hd
      rw [hd]
      simp -implicitDefEqProofs (disch := (first | omega | decide)) only [go_sem, ↓reduceIte, seval, hlt']
      cases w <;> simp
noncomputable def T5l : Tab := T5k.add 11 (entry (fun (s : List UInt8) => [.str s]) (fun s => s.length ≤ 1000000000) (fun s => .bool (mayB s)))
theorem T5l_ok : TabOK Tryd.prog T5l := T5k_ok.ent Tryd.func11 (by kernel_rfl) (by kernel_rfl) fun s h => c_ref05_May s h
@[go_sem] theorem T5l_old {g : FuncId} {xs : List A} (h : g ≠ 11) : T5l.f g xs = T5k.f g xs := Tab.add_ne h
@[go_sem] theorem T5l_s : T5l.pl T5k := ⟨fun _ => rfl, fun _ => rfl, rfl, fun _ => rfl, rfl, fun _ => rfl, rfl⟩
theorem line_take {l : List (List UInt8)} {k : Nat} (h : k < l.length) : lineW (l.take (k + 1)) = if k = 0 then l[k] else lineW (l.take k) ++ [32] ++ l[k] := by
  rw [← List.take_append_getElem h, line_snoc]
  by_cases h0 : k = 0
  · subst h0; simp
  · rw [if_neg (by cases l <;> simp at h ⊢; omega), if_neg h0]
theorem line_take_len (l : List (List UInt8)) (k : Nat) : (lineW (l.take k)).length ≤ (lineW l).length := by
  cases l with
  | nil => simp
  | cons x r =>
    cases k with
    | zero => simp [lineW]
    | succ k =>
      simp only [List.take_succ_cons, lineW, List.length_append]
      have : (List.flatMap (32 :: ·) (r.take k)).length ≤ (List.flatMap (32 :: ·) r).length := by
        conv => rhs; rw [← List.take_append_drop k r, List.flatMap_append, List.length_append]
        omega
      omega
theorem ok_ref05_Line : codeOK Tryd.prog T5l Tryd.f13.ntmps (Tryd.f13.body.getD .skip) = true := by kernel_rfl
theorem c_ref05_Line (l : List (List UInt8)) (hl : l.length ≤ 1000000) (hs : (lineW l).length ≤ 1000000000) : CallA Tryd.prog 13 [.slc (l.map .str)] (· = .str (lineW l)) := by
  refine callA_of_body T5l_ok mixed Tryd.func13 rfl (Nat.le_of_ble_eq_true rfl) ok_ref05_Line ?_
  unfold Tryd.f13
  simp -implicitDefEqProofs (disch := (first | omega | decide)) only [go_sem, ↓reduceIte, seval, List.length_map]
  refine wpA_loop [0] (ι := {k : Nat // k ≤ l.length}) (fun k => [(4, .int .i64 k.1), (3, .str (lineW (l.take k.1)))]) (fun _ => []) (fun k => l.length - k.1) ⟨0, by omega⟩ (Nat.zero_le _) ?_ ?_
  · simp -implicitDefEqProofs (disch := (first | omega | decide)) only [go_sem, ↓reduceIte, seval]
    try rfl
  · rintro ⟨k, hk⟩
    simp only
    by_cases hlt : k < l.length
    · have hlt' : (k : Int) < (l.length : Int) := by omega
      have e1 := strs_get hlt
      have hn := line_take hlt
      have h1 := line_take_len l (k + 1)
      generalize l[k] = x at *
      by_cases h0 : k = 0
      · subst h0
        rw [if_pos rfl] at hn
        have z0 : lineW (l.take 0) = [] := rfl
        have hx : ([] : List UInt8).length + x.length ≤ 9223372036854775807 := by rw [hn] at h1; simp; omega
        have hlt'' : (0 : Int) < (l.length : Int) := hlt'
        simp -implicitDefEqProofs (disch := (first | omega | decide)) only [go_sem, ↓reduceIte, seval, hlt'', e1, z0, hx, wrap_i64, List.length_map]
        exact ⟨hx, ⟨1, hlt⟩, ⟨rfl, by rw [hn]; rfl⟩, by show l.length - 1 < l.length - 0; omega⟩
      · rw [if_neg h0] at hn
        have hp : (0 : Int) < (k : Int) := by omega
        rw [hn] at h1
        generalize lineW (l.take k) = out at *
        have hx1 : out.length + [(32 : UInt8)].length ≤ 9223372036854775807 := by simp at h1 ⊢; omega
        have hx2 : (out ++ [(32 : UInt8)]).length + x.length ≤ 9223372036854775807 := by simp at h1 ⊢; omega
        simp -implicitDefEqProofs (disch := (first | omega | decide)) only [go_sem, ↓reduceIte, seval, hlt', e1, hp, hx1, hx2, wrap_i64, List.length_map]
        exact ⟨by simp at hx1; omega, ⟨k + 1, hlt⟩, ⟨by simp, by rw [hn]⟩, by show l.length - (k + 1) < l.length - k; omega⟩
    · have hlt' : ¬ (k : Int) < (l.length : Int) := by omega
      rw [List.take_of_length_le (by omega)]
      simp -implicitDefEqProofs (disch := (first | omega | decide)) only [go_sem, ↓reduceIte, seval, hlt', List.length_map]
noncomputable def T5m : Tab := T5l.add 13 (entry (fun (l : List (List UInt8)) => [.slc (l.map .str)]) (fun l => l.length ≤ 1000000 ∧ (lineW l).length ≤ 1000000000) (fun l => .str (lineW l)))
theorem T5m_ok : TabOK Tryd.prog T5m := T5l_ok.ent Tryd.func13 (by kernel_rfl) (by kernel_rfl) fun l h => c_ref05_Line l h.1 h.2
@[go_sem] theorem T5m_old {g : FuncId} {xs : List A} (h : g ≠ 13) : T5m.f g xs = T5l.f g xs := Tab.add_ne h
@[go_sem] theorem T5m_s : T5m.pl T5l := ⟨fun _ => rfl, fun _ => rfl, rfl, fun _ => rfl, rfl, fun _ => rfl, rfl⟩
theorem ok_word_Join : codeOK Tryd.prog T5m Tryd.f12.ntmps (Tryd.f12.body.getD .skip) = true := by kernel_rfl
theorem c_word_Join (l : List (List UInt8)) (hl : l.length ≤ 1000000) (hs : (lineW l).length ≤ 1000000000) : CallA Tryd.prog 12 [.slc (l.map .str)] (· = rdA (joinW l)) := by
  refine callA_of_body T5m_ok mixed Tryd.func12 rfl (Nat.le_of_ble_eq_true rfl) ok_word_Join ?_
  unfold Tryd.f12
  simp -implicitDefEqProofs (disch := (first | omega | decide)) only [go_sem, ↓reduceIte, seval, List.length_map]
  refine wpA_loop [0, 6, 7] (ι := {k : Nat // k ≤ l.length ∧ l.all mayB = (l.drop k).all mayB}) (fun k => [(8, .int .i64 k.1)]) (fun _ => []) (fun k => l.length - k.1) ⟨0, by omega, rfl⟩ (Nat.zero_le _) ?_ ?_
  · simp -implicitDefEqProofs (disch := (first | omega | decide)) only [go_sem, ↓reduceIte, seval]
  · rintro ⟨k, hk, hd⟩
    simp only
    by_cases hlt : k < l.length
    · have hlt' : (k : Int) < (l.length : Int) := by omega
      have e1 := strs_get hlt
      rw [List.drop_eq_getElem_cons hlt, List.all_cons] at hd
      generalize l[k] = x at *
      have g1 := t5_has x 32
      have g2 := t5_has x 10
      have hm := mayB_eq x
      cases hx : mayB x with
      | true =>
        rw [hx] at hm hd
        have hm' : (x == []) = false ∧ x.contains 32 = false ∧ x.contains 10 = false := by
          revert hm
          cases (x == []) <;> cases x.contains 32 <;> cases x.contains 10 <;> simp
        rw [hm'.2.1] at g1
        rw [hm'.2.2] at g2
        have hm1 := hm'.1
        simp -implicitDefEqProofs (disch := (first | omega | decide)) only [go_sem, ↓reduceIte, seval, hlt', e1, hm1, g1, g2, wrap_i64, List.length_map]
        exact ⟨⟨k + 1, hlt, by rw [hd, Bool.true_and]⟩, by simp, by show l.length - (k + 1) < l.length - k; omega⟩
      | false =>
        rw [hx] at hm hd
        have hj : joinW l = none := by unfold joinW; rw [hd, Bool.false_and]; rfl
        rw [hj]
        cases h1 : (x == []) with
        | true =>
          simp -implicitDefEqProofs (disch := (first | omega | decide)) only [go_sem, ↓reduceIte, seval, hlt', e1, h1, wrap_i64, List.length_map]
          rfl
        | false =>
          cases h2 : x.contains 32 with
          | true =>
            rw [h2] at g1
            simp -implicitDefEqProofs (disch := (first | omega | decide)) only [go_sem, ↓reduceIte, seval, hlt', e1, h1, g1, wrap_i64, List.length_map]
            rfl
          | false =>
            rw [h2] at g1
            have h3 : x.contains 10 = true := by
              revert hm; rw [h1, h2]; cases x.contains 10 <;> simp
            rw [h3] at g2
            simp -implicitDefEqProofs (disch := (first | omega | decide)) only [go_sem, ↓reduceIte, seval, hlt', e1, h1, g1, g2, wrap_i64, List.length_map]
            rfl
    · have hlt' : ¬ (k : Int) < (l.length : Int) := by omega
      rw [List.drop_of_length_le (by omega)] at hd
      have hj : joinW l = some (lineW l) := by unfold joinW; rw [hd]; rfl
      rw [hj]
      have g := t5_join hl (by omega)
      simp -implicitDefEqProofs (disch := (first | omega | decide)) only [go_sem, ↓reduceIte, seval, hlt', g, List.length_map]
      rfl
noncomputable def T5n : Tab := T5m.add 12 (entry (fun (l : List (List UInt8)) => [.slc (l.map .str)]) (fun l => l.length ≤ 1000000 ∧ (lineW l).length ≤ 1000000000) (fun l => rdA (joinW l)))
theorem T5n_ok : TabOK Tryd.prog T5n := T5m_ok.ent Tryd.func12 (by kernel_rfl) (by kernel_rfl) fun l h => c_word_Join l h.1 h.2
@[go_sem] theorem T5n_old {g : FuncId} {xs : List A} (h : g ≠ 12) : T5n.f g xs = T5m.f g xs := Tab.add_ne h
@[go_sem] theorem T5n_s : T5n.pl T5m := ⟨fun _ => rfl, fun _ => rfl, rfl, fun _ => rfl, rfl, fun _ => rfl, rfl⟩
theorem T5n_word_Join (l : List (List UInt8)) (h : l.length ≤ 1000000 ∧ (lineW l).length ≤ 1000000000) : T5n.f 12 [.slc (l.map .str)] = some (rdA (joinW l)) := Tab.ent_eq (Γ := T5m) (fun i j h => by simpa [Prod.ext_iff, and_assoc] using h) l h
theorem t5_Join {l : List (List UInt8)} (h1 : l.length ≤ 1000000) (h2 : (lineW l).length ≤ 1000000000) : T5n.f 12 [.slc (l.map .str)] = some (rdA (joinW l)) := T5n_word_Join l ⟨h1, h2⟩
def wordsA : Option (List (List UInt8)) → A
  | none => .tup [.slc [], .bool false]
  | some l => .tup [.slc (l.map .str), .bool true]
theorem splitW_len : ∀ s : List UInt8, (splitW s).length ≤ s.length + 1
  | [] => by simp [splitW]
  | c :: r => by
    have := splitW_len r
    have hn := splitW_ne r
    unfold splitW
    split
    · simp; omega
    · have : (splitW r).length = (splitW r).tail.length + 1 := by rw [splitW_eta r]; simp
      simp; omega
theorem ok_word_Split : codeOK Tryd.prog T5n Tryd.f14.ntmps (Tryd.f14.body.getD .skip) = true := by kernel_rfl
theorem c_word_Split (s : List UInt8) (hs : s.length ≤ 900000) : CallA Tryd.prog 14 [.str s] (· = wordsA (wordsW s)) := by
  refine callA_of_body T5n_ok mixed Tryd.func14 rfl (Nat.le_of_ble_eq_true rfl) ok_word_Split ?_
  unfold Tryd.f14
  by_cases h0 : s = []
  · subst h0
    simp -implicitDefEqProofs (disch := (first | omega | decide)) only [go_sem, ↓reduceIte, seval]
    rfl
  · have hne : (s == []) = false := by simpa using h0
    have hlen := splitW_len s
    have g1 := t5_split (s := s) (by omega)
    have g2 := t5_Join (l := splitW s) (by omega) (by rw [line_split]; omega)
    by_cases hm : (splitW s).all mayB = true
    · have e1 : wordsW s = some (splitW s) := by unfold wordsW; rw [if_neg h0, if_pos hm]
      have e2 : joinW (splitW s) = some s := by unfold joinW; rw [if_pos hm, line_split]
      rw [e1]
      rw [e2] at g2
      simp only [rdA] at g2
      simp -implicitDefEqProofs (disch := (first | omega | decide)) only [go_sem, ↓reduceIte, seval, hne, g1, g2]
      rfl
    · have e1 : wordsW s = none := by unfold wordsW; rw [if_neg h0, if_neg hm]
      have e2 : joinW (splitW s) = none := by unfold joinW; rw [if_neg hm]
      rw [e1]
      rw [e2] at g2
      simp only [rdA] at g2
      simp -implicitDefEqProofs (disch := (first | omega | decide)) only [go_sem, ↓reduceIte, seval, hne, g1, g2]
      rfl
noncomputable def T5o : Tab := T5n.add 14 (entry (fun (s : List UInt8) => [.str s]) (fun s => s.length ≤ 900000) (fun s => wordsA (wordsW s)))
theorem T5o_ok : TabOK Tryd.prog T5o := T5n_ok.ent Tryd.func14 (by kernel_rfl) (by kernel_rfl) fun s h => c_word_Split s h
@[go_sem] theorem T5o_old {g : FuncId} {xs : List A} (h : g ≠ 14) : T5o.f g xs = T5n.f g xs := Tab.add_ne h
@[go_sem] theorem T5o_s : T5o.pl T5n := ⟨fun _ => rfl, fun _ => rfl, rfl, fun _ => rfl, rfl, fun _ => rfl, rfl⟩
theorem T5o_word_Split (s : List UInt8) (h : s.length ≤ 900000) : T5o.f 14 [.str s] = some (wordsA (wordsW s)) := Tab.ent_eq (Γ := T5n) (fun i j h => by simpa [Prod.ext_iff, and_assoc] using h) s h
theorem t5_Split {s : List UInt8} (h : s.length ≤ 900000) : T5o.f 14 [.str s] = some (wordsA (wordsW s)) := T5o_word_Split s h
theorem ok_law05_awake : codeOK Tryd.prog T5o Tryd.f7.ntmps (Tryd.f7.body.getD .skip) = true := by kernel_rfl
theorem c_law05_awake : CallA Tryd.prog 7 [] (· = .bool true) := by
  refine callA_of_body T5o_ok mixed Tryd.func7 rfl (Nat.le_of_ble_eq_true rfl) ok_law05_awake ?_
  unfold Tryd.f7
  have g1 : T5h.f 8 [.str [97, 45, 50, 48, 45, 52, 50]] = some (.tup [.str [97, 32, 66], .bool true]) := t5_Read (by decide)
  have g2 : T5o.f 14 [.str [97, 32, 32, 98]] = some (.tup [.slc [], .bool false]) := t5_Split (by decide)
  have g3 : T5f.f 9 [.str [97, 32, 66]] = some (.str [97, 45, 50, 48, 45, 52, 50]) := t5_Of (by decide)
  have g4 : T5f.f 9 [.str []] = some (.str [95]) := t5_Of (by decide)
  simp -implicitDefEqProofs (disch := (first | omega | decide)) only [go_sem, ↓reduceIte, seval, g1, g2, g3, g4]
noncomputable def T5p : Tab := T5o.add 7 (entry (fun (u : Unit) => []) (fun u => True) (fun u => .bool true))
theorem T5p_ok : TabOK Tryd.prog T5p := T5o_ok.ent Tryd.func7 (by kernel_rfl) (by kernel_rfl) fun u h => c_law05_awake
@[go_sem] theorem T5p_old {g : FuncId} {xs : List A} (h : g ≠ 7) : T5p.f g xs = T5o.f g xs := Tab.add_ne h
theorem flat_ge : ∀ s : List UInt8, s.length ≤ (s.flatMap wC).length
  | [] => by simp
  | c :: s => by
    have := flat_ge s
    have : 1 ≤ (wC c).length := by unfold wC; split <;> simp
    simp only [List.flatMap_cons, List.length_append, List.length_cons]; omega
theorem ofW_len (s : List UInt8) : s.length ≤ (ofW s).length ∧ (ofW s).length ≤ 3 * s.length + 1 := by
  have h1 := flat_ge s
  have h2 := flat_len s
  unfold ofW
  split
  · rename_i h; subst h; simp
  · omega
theorem readW_len {w t : List UInt8} (h : readW w = some t) : t.length ≤ w.length := by
  have := (ofW_len t).1
  rw [ofW_readW h] at this; exact this
theorem mem_line {x : List UInt8} : ∀ {l : List (List UInt8)}, x ∈ l → x.length ≤ (lineW l).length
  | [], h => by cases h
  | [y], h => by simp only [List.mem_cons, List.not_mem_nil, or_false] at h; subst h; simp [lineW]
  | y :: z :: r, h => by
    have ih := @mem_line x (z :: r)
    simp only [lineW, List.flatMap_cons, List.length_append, List.cons_append, List.length_cons] at ih ⊢
    rcases List.mem_cons.1 h with rfl | h
    · omega
    · have := ih h; omega
theorem all_take_succ {α : Type} {l : List α} {k : Nat} (h : k < l.length) (p : α → Bool) : (l.take (k + 1)).all p = ((l.take k).all p && p l[k]) := by
  rw [← List.take_append_getElem h, List.all_append]; simp
theorem line_cnt : ∀ l : List (List UInt8), l.length ≤ (lineW l).length + 1
  | [] => by simp
  | [x] => by simp
  | x :: y :: r => by
    have ih := line_cnt (y :: r)
    simp only [lineW, List.flatMap_cons, List.length_append, List.cons_append, List.length_cons] at ih ⊢
    omega
end Go.Proofs.YthiedimbmcgpdaaDoor
namespace Go.Abs
def digD (n : Nat) : UInt8 := UInt8.ofNat (48 + n % 10)
def digN (n : Nat) : List UInt8 := if h : n < 10 then [digD n] else digN (n / 10) ++ [digD n]
termination_by n
decreasing_by omega
theorem digN_small {n : Nat} (h : n < 10) : digN n = [digD n] := by rw [digN, dif_pos h]
theorem digN_step {n : Nat} (h : ¬ n < 10) : digN n = digN (n / 10) ++ [digD n] := by rw [digN, dif_neg h]
theorem digD_val {n : Nat} : ((digD n).toNat : Int) = 48 + (n % 10 : Nat) := by
  unfold digD
  rw [UInt8.toNat_ofNat']
  omega
end Go.Abs
namespace Go.Proofs.YthiedimbmcgpdaaDoor
open Go.Abs
set_option linter.unusedSimpArgs false
set_option linter.unusedVariables false
structure Ev where
  kind : Int
  at_ : Int
  n : Int
  keep : Bool
  b : List UInt8
  deriving DecidableEq
def Ev.nil : Ev := ⟨0, 0, 0, false, []⟩
def MN : Int := 281474976710656
def plainE (v : Ev) : Ev :=
  if v.kind = 2 ∨ v.kind = 3 then ⟨v.kind, v.at_, 0, v.keep, []⟩
  else if v.kind = 4 ∨ v.kind = 7 then ⟨v.kind, v.at_, v.n, false, []⟩
  else if v.kind = 8 then ⟨v.kind, 0, v.n, false, v.b⟩
  else ⟨v.kind, 0, 0, false, []⟩
def rightE (v : Ev) : Bool := decide (1 ≤ v.kind ∧ v.kind ≤ 8 ∧ 0 ≤ v.at_ ∧ v.at_ ≤ MN ∧ 0 ≤ v.n ∧ v.n ≤ MN ∧ v.b.length ≤ 32768 ∧ plainE v = v)
def tickT : List UInt8 := [116, 105, 99, 107]
def sourceT : List UInt8 := [115, 111, 117, 114, 99, 101]
def targetT : List UInt8 := [116, 97, 114, 103, 101, 116]
def loseT : List UInt8 := [108, 111, 115, 101]
def crashT : List UInt8 := [99, 114, 97, 115, 104]
def powerT : List UInt8 := [112, 111, 119, 101, 114]
def injectT : List UInt8 := [105, 110, 106, 101, 99, 116]
def keepT : List UInt8 := [107, 101, 101, 112]
def wordsE (v : Ev) : List (List UInt8) :=
  if v.kind = 1 then [tickT]
  else if v.kind = 2 then [sourceT, digN v.at_.toNat]
  else if v.kind = 3 then [targetT, digN v.at_.toNat]
  else if v.kind = 4 then [loseT, digN v.n.toNat, digN v.at_.toNat]
  else if v.kind = 5 then [crashT, sourceT]
  else if v.kind = 6 then [crashT, targetT]
  else if v.kind = 7 then [powerT, digN v.n.toNat, digN v.at_.toNat]
  else if v.kind = 8 then [injectT, digN v.n.toNat, ofW v.b]
  else []
def wordsK (v : Ev) : List (List UInt8) := if v.keep = true then wordsE v ++ [keepT] else wordsE v
def lineE (v : Ev) : List UInt8 := lineW (wordsK v)
def numGo : List UInt8 → Nat → Nat
  | [], n => n
  | c :: r, n => if c.toNat < 48 ∨ 57 < c.toNat ∨ 281474976710656 < n then 0 else numGo r (10 * n + (c.toNat - 48))
def numS (s : List UInt8) : Nat := numGo s 0
def kindL (x last : List UInt8) : Int :=
  if x = tickT then 1 else if x = sourceT then 2 else if x = targetT then 3 else if x = loseT then 4 else if x = powerT then 7 else if x = injectT then 8 else if last = sourceT then 5 else 6
def candE (x : List UInt8) (r : List (List UInt8)) : Ev :=
  let last := (x :: r).getLast (by simp)
  let k := kindL x last
  let one : Int := match r with | y :: _ => numS y | [] => 0
  if k = 2 ∨ k = 3 then ⟨k, one, 0, decide (last = keepT), []⟩
  else if k = 4 ∨ k = 7 then ⟨k, numS last, one, false, []⟩
  else if k = 8 then ⟨k, 0, one, false, (readW last).getD []⟩
  else ⟨k, 0, 0, false, []⟩
def parseE (line : List UInt8) : Option Ev :=
  match wordsW line with
  | some (x :: r) => if rightE (candE x r) = true ∧ lineE (candE x r) = line then some (candE x r) else none
  | _ => none
theorem digD_rng (n : Nat) : 48 ≤ (digD n).toNat ∧ (digD n).toNat ≤ 57 := by
  have := @digD_val n
  omega
theorem digN_mem : ∀ (n : Nat), ∀ c ∈ digN n, 48 ≤ c.toNat ∧ c.toNat ≤ 57 := by
  intro n
  induction n using Nat.strongRecOn with
  | _ n ih =>
    by_cases h : n < 10
    · rw [digN_small h]; intro c hc; simp only [List.mem_cons, List.not_mem_nil, or_false] at hc; subst hc; exact digD_rng n
    · rw [digN_step h]
      intro c hc
      rcases List.mem_append.1 hc with h1 | h1
      · exact ih (n / 10) (by omega) c h1
      · simp only [List.mem_cons, List.not_mem_nil, or_false] at h1; subst h1; exact digD_rng n
theorem digN_ne (n : Nat) : digN n ≠ [] := by
  by_cases h : n < 10
  · rw [digN_small h]; simp
  · rw [digN_step h]; simp
theorem num_dig : ∀ (m : Nat) (t : List UInt8), m ≤ 281474976710656 → numGo (digN m ++ t) 0 = numGo t m := by
  intro m
  induction m using Nat.strongRecOn with
  | _ m ih =>
    intro t hm
    have hv := @digD_val m
    have hr := digD_rng m
    by_cases h : m < 10
    · rw [digN_small h]
      simp only [List.cons_append, List.nil_append, numGo]
      rw [if_neg (by omega)]
      congr 1; omega
    · rw [digN_step h, List.append_assoc, ih (m / 10) (by omega) _ (by omega)]
      simp only [List.cons_append, List.nil_append, numGo]
      rw [if_neg (by omega)]
      congr 1; omega
theorem numS_dig {m : Nat} (h : m ≤ 281474976710656) : numS (digN m) = m := by
  have := num_dig m [] h
  rw [List.append_nil] at this
  exact this
theorem may_dig (n : Nat) : mayB (digN n) = true := by
  simp only [mayB, Bool.and_eq_true, Bool.not_eq_true', List.isEmpty_eq_false_iff, List.all_eq_true]
  refine ⟨digN_ne n, fun c hc => ?_⟩
  have := digN_mem n c hc
  simp only [Bool.and_eq_true, bne_iff_ne, ne_eq]
  constructor <;> rintro rfl <;> simp at this
theorem wC_ok (c : UInt8) : ∀ d ∈ wC c, d ≠ 32 ∧ d ≠ 10 := by
  intro d hd
  unfold wC at hd
  have hx : ∀ n, n < 16 → hexB n ≠ 32 ∧ hexB n ≠ 10 := by
    intro n hn
    have h1 := hexB_toNat hn
    constructor <;> intro e <;> rw [e] at h1 <;> simp at h1 <;> split at h1 <;> omega
  have hc := c.toNat_lt
  split at hd
  case isTrue h =>
    simp only [List.mem_cons, List.not_mem_nil, or_false] at hd
    subst hd
    constructor <;> rintro rfl <;> simp [plB] at h
  case isFalse h =>
    simp only [List.mem_cons, List.not_mem_nil, or_false] at hd
    rcases hd with rfl | rfl | rfl
    · decide
    · exact hx _ (by omega)
    · exact hx _ (by omega)
theorem may_ofW (s : List UInt8) : mayB (ofW s) = true := by
  unfold ofW
  split
  · decide
  · rename_i h
    simp only [mayB, Bool.and_eq_true, Bool.not_eq_true', List.isEmpty_eq_false_iff, List.all_eq_true]
    constructor
    · cases s with
      | nil => exact absurd rfl h
      | cons c s => rw [List.flatMap_cons]; unfold wC; split <;> simp
    · intro c hc
      obtain ⟨d, _, hd⟩ := List.mem_flatMap.1 hc
      have := wC_ok d c hd
      simpa using this
theorem kind_cases {v : Ev} (h : rightE v = true) : v.kind = 1 ∨ v.kind = 2 ∨ v.kind = 3 ∨ v.kind = 4 ∨ v.kind = 5 ∨ v.kind = 6 ∨ v.kind = 7 ∨ v.kind = 8 := by
  simp only [rightE, decide_eq_true_eq] at h; omega
theorem words_may (v : Ev) : (wordsK v).all mayB = true := by
  have he : (wordsE v).all mayB = true := by
    have h1 := may_dig v.at_.toNat
    have h2 := may_dig v.n.toNat
    have h3 := may_ofW v.b
    have g1 : mayB tickT = true := rfl
    have g2 : mayB sourceT = true := rfl
    have g3 : mayB targetT = true := rfl
    have g4 : mayB loseT = true := rfl
    have g5 : mayB crashT = true := rfl
    have g6 : mayB powerT = true := rfl
    have g7 : mayB injectT = true := rfl
    unfold wordsE
    repeat' split
    all_goals simp only [List.all_cons, List.all_nil, h1, h2, h3, g1, g2, g3, g4, g5, g6, g7, Bool.and_self]
  unfold wordsK
  split
  · rw [List.all_append, he]; rfl
  · exact he
theorem dig_ne_keep (n : Nat) : digN n ≠ keepT := by
  intro e
  have := digN_mem n 107 (by rw [e]; decide)
  simp at this
theorem cand_two (x y : List UInt8) : candE x [y] = (let k := kindL x y; if k = 2 ∨ k = 3 then ⟨k, numS y, 0, decide (y = keepT), []⟩ else if k = 4 ∨ k = 7 then ⟨k, numS y, numS y, false, []⟩ else if k = 8 then ⟨k, 0, numS y, false, (readW y).getD []⟩ else ⟨k, 0, 0, false, []⟩) := rfl
theorem cand_three (x y z : List UInt8) : candE x [y, z] = (let k := kindL x z; if k = 2 ∨ k = 3 then ⟨k, numS y, 0, decide (z = keepT), []⟩ else if k = 4 ∨ k = 7 then ⟨k, numS z, numS y, false, []⟩ else if k = 8 then ⟨k, 0, numS y, false, (readW z).getD []⟩ else ⟨k, 0, 0, false, []⟩) := rfl
theorem kind_source (z : List UInt8) : kindL sourceT z = 2 := rfl
theorem kind_target (z : List UInt8) : kindL targetT z = 3 := rfl
theorem kind_lose (z : List UInt8) : kindL loseT z = 4 := rfl
theorem kind_power (z : List UInt8) : kindL powerT z = 7 := rfl
theorem kind_inject (z : List UInt8) : kindL injectT z = 8 := rfl
theorem zcast (n : Nat) : ((0 : Int) = (n : Int)) = (n = 0) := by apply propext; omega
theorem words_ne {v : Ev} (h : rightE v = true) : ∃ x r, wordsK v = x :: r ∧ candE x r = v := by
  have hk := kind_cases h
  simp only [rightE, decide_eq_true_eq] at h
  obtain ⟨_, _, h3, h4, h5, h6, h7, h8⟩ := h
  obtain ⟨k, a, n, kp, b⟩ := v
  simp only at hk h3 h4 h5 h6 h7
  obtain ⟨a, rfl⟩ := Int.eq_ofNat_of_zero_le h3
  obtain ⟨n, rfl⟩ := Int.eq_ofNat_of_zero_le h5
  have ha := numS_dig (m := a) (by unfold MN at h4; omega)
  have hn := numS_dig (m := n) (by unfold MN at h6; omega)
  have hka := dig_ne_keep a
  have hb := readW_ofW b
  clear h4 h6 h7 h3 h5
  rcases hk with rfl | rfl | rfl | rfl | rfl | rfl | rfl | rfl
  · simp [plainE, zcast] at h8
    obtain ⟨rfl, rfl, rfl, rfl⟩ := h8
    exact ⟨tickT, [], rfl, rfl⟩
  · simp [plainE, zcast] at h8
    obtain ⟨rfl, rfl⟩ := h8
    cases kp
    · refine ⟨sourceT, [digN a], rfl, ?_⟩
      rw [cand_two, kind_source, ha]; simp [hka]
    · refine ⟨sourceT, [digN a, keepT], rfl, ?_⟩
      rw [cand_three, kind_source, ha]; simp
  · simp [plainE, zcast] at h8
    obtain ⟨rfl, rfl⟩ := h8
    cases kp
    · refine ⟨targetT, [digN a], rfl, ?_⟩
      rw [cand_two, kind_target, ha]; simp [hka]
    · refine ⟨targetT, [digN a, keepT], rfl, ?_⟩
      rw [cand_three, kind_target, ha]; simp
  · simp [plainE, zcast] at h8
    obtain ⟨rfl, rfl⟩ := h8
    refine ⟨loseT, [digN n, digN a], rfl, ?_⟩
    rw [cand_three, kind_lose, ha, hn]; simp
  · simp [plainE, zcast] at h8
    obtain ⟨rfl, rfl, rfl, rfl⟩ := h8
    exact ⟨crashT, [sourceT], rfl, rfl⟩
  · simp [plainE, zcast] at h8
    obtain ⟨rfl, rfl, rfl, rfl⟩ := h8
    exact ⟨crashT, [targetT], rfl, rfl⟩
  · simp [plainE, zcast] at h8
    obtain ⟨rfl, rfl⟩ := h8
    refine ⟨powerT, [digN n, digN a], rfl, ?_⟩
    rw [cand_three, kind_power, ha, hn]; simp
  · simp [plainE, zcast] at h8
    obtain ⟨rfl, rfl⟩ := h8
    refine ⟨injectT, [digN n, ofW b], rfl, ?_⟩
    rw [cand_three, kind_inject, hn, hb]; simp
theorem words_lineE (v : Ev) : wordsW (lineE v) = some (wordsK v) := words_line (words_may v)
theorem parse_line {v : Ev} (h : rightE v = true) : parseE (lineE v) = some v := by
  obtain ⟨x, r, h1, h2⟩ := words_ne h
  unfold parseE
  rw [words_lineE, h1]
  simp only [h2, h, and_self, if_true]
def pieces : List UInt8 → List (List UInt8) × List UInt8
  | [] => ([], [])
  | c :: r => if c = 10 then ([] :: (pieces r).1, (pieces r).2) else
    match (pieces r).1 with
    | [] => ([], c :: (pieces r).2)
    | x :: xs => ((c :: x) :: xs, (pieces r).2)
def glue (ls : List (List UInt8)) : List UInt8 := ls.flatMap fun x => x ++ [10]
theorem glue_cons (x : List UInt8) (ls : List (List UInt8)) : glue (x :: ls) = x ++ 10 :: glue ls := by simp [glue]
theorem glue_append (a b : List (List UInt8)) : glue (a ++ b) = glue a ++ glue b := by simp [glue]
theorem pieces_line : ∀ (x r : List UInt8), (∀ c ∈ x, c ≠ 10) → pieces (x ++ 10 :: r) = (x :: (pieces r).1, (pieces r).2)
  | [], r, _ => by rw [List.nil_append, pieces, if_pos rfl]
  | c :: x, r, h => by
    rw [List.cons_append, pieces, if_neg (h c (by simp)), pieces_line x r fun d hd => h d (by simp [hd])]
theorem pieces_rest : ∀ (x : List UInt8), (∀ c ∈ x, c ≠ 10) → pieces x = ([], x)
  | [], _ => rfl
  | c :: x, h => by rw [pieces, if_neg (h c (by simp)), pieces_rest x fun d hd => h d (by simp [hd])]
theorem pieces_glue : ∀ (ls : List (List UInt8)) (x : List UInt8), (∀ y ∈ ls, ∀ c ∈ y, c ≠ 10) → (∀ c ∈ x, c ≠ 10) → pieces (glue ls ++ x) = (ls, x)
  | [], x, _, h => pieces_rest x h
  | y :: ls, x, h1, h2 => by
    rw [glue_cons, List.append_assoc, List.cons_append, pieces_line y _ (h1 y (by simp)), pieces_glue ls x (fun z hz => h1 z (by simp [hz])) h2]
theorem pieces_spec : ∀ s : List UInt8, glue (pieces s).1 ++ (pieces s).2 = s ∧ (∀ y ∈ (pieces s).1, ∀ c ∈ y, c ≠ 10) ∧ (∀ c ∈ (pieces s).2, c ≠ 10)
  | [] => ⟨rfl, by simp [pieces], by simp [pieces]⟩
  | c :: r => by
    obtain ⟨h1, h2, h3⟩ := pieces_spec r
    rw [pieces]
    by_cases h : c = 10
    · rw [if_pos h]
      refine ⟨by rw [glue_cons, h]; simp [h1], ?_, h3⟩
      intro y hy
      rcases List.mem_cons.1 hy with rfl | hy
      · intro c hc; cases hc
      · exact h2 y hy
    · rw [if_neg h]
      cases hp : (pieces r).1 with
      | nil =>
        simp only
        rw [hp] at h1
        refine ⟨by simp only [glue, List.flatMap_nil, List.nil_append] at h1 ⊢; rw [h1], by simp, ?_⟩
        intro d hd
        rcases List.mem_cons.1 hd with rfl | hd
        · exact h
        · exact h3 d hd
      | cons x xs =>
        simp only
        rw [hp] at h1 h2
        refine ⟨by rw [glue_cons] at h1 ⊢; simp only [List.cons_append, List.append_assoc] at h1 ⊢; rw [h1], ?_, h3⟩
        intro y hy
        rcases List.mem_cons.1 hy with rfl | hy
        · intro d hd
          rcases List.mem_cons.1 hd with rfl | hd
          · exact h
          · exact h2 x (by simp) d hd
        · exact h2 y (by simp [hy])
def textE (l : List Ev) : List UInt8 := glue (l.map lineE)
def readL (rest : List UInt8) : Nat → List (List UInt8) → List Ev → List Ev × Nat
  | n, [], acc => if rest = [] then (acc, 0) else ([], n + 1)
  | n, x :: ls, acc => match parseE x with
    | none => ([], n + 1)
    | some v => readL rest (n + 1) ls (acc ++ [v])
def readT (s : List UInt8) : List Ev × Nat := readL (pieces s).2 0 (pieces s).1 []
theorem may_no10 {x : List UInt8} (h : mayB x = true) : ∀ c ∈ x, c ≠ 10 := by
  intro c hc
  simp only [mayB, Bool.and_eq_true, List.all_eq_true] at h
  simpa using (h.2 c hc).2
theorem line_no10 : ∀ (l : List (List UInt8)), l.all mayB = true → ∀ c ∈ lineW l, c ≠ 10 := by
  intro l h c hc
  simp only [List.all_eq_true] at h
  cases l with
  | nil => cases hc
  | cons x r =>
    simp only [lineW, List.mem_append, List.mem_flatMap, List.mem_cons] at hc
    rcases hc with hc | ⟨y, hy, rfl | hc⟩
    · exact may_no10 (h x (by simp)) c hc
    · decide
    · exact may_no10 (h y (by simp [hy])) c hc
theorem readL_good (rest : List UInt8) : ∀ (l acc : List Ev) (n : Nat), (∀ v ∈ l, rightE v = true) → readL rest n (l.map lineE) acc = if rest = [] then (acc ++ l, 0) else ([], n + l.length + 1)
  | [], acc, n, _ => by simp [readL]
  | v :: l, acc, n, h => by
    rw [List.map_cons, readL, parse_line (h v (by simp))]
    simp only
    rw [readL_good rest l (acc ++ [v]) (n + 1) fun x hx => h x (by simp [hx])]
    simp only [List.append_assoc, List.cons_append, List.nil_append, List.length_cons, Nat.add_assoc, Nat.add_comm 1]
theorem read_text {l : List Ev} (h : ∀ v ∈ l, rightE v = true) : readT (textE l) = (l, 0) := by
  unfold readT textE
  have := pieces_glue (l.map lineE) [] (by
    intro y hy
    obtain ⟨v, _, rfl⟩ := List.mem_map.1 hy
    exact line_no10 _ (words_may v)) (by simp)
  rw [List.append_nil] at this
  rw [this, readL_good [] l [] 0 h]; simp
set_option maxRecDepth 20000
set_option maxHeartbeats 8000000
def Ev.enc (v : Ev) : A := .agg [.int .i64 v.kind, .int .i64 v.at_, .int .i64 v.n, .bool v.keep, .slc (bytesA v.b)]
theorem bytesA_inj {s t : List UInt8} (h : bytesA s = bytesA t) : s = t := by
  have h1 := bytesOfA_bytesA s
  rw [h, bytesOfA_bytesA] at h1
  exact (Option.some.inj h1).symm
theorem Ev.enc_inj (v w : Ev) (h : v.enc = w.enc) : v = w := by
  obtain ⟨a, b, c, d, e⟩ := v
  obtain ⟨a', b', c', d', e'⟩ := w
  simp only [Ev.enc, A.agg.injEq, List.cons.injEq, A.int.injEq, A.bool.injEq, A.slc.injEq, true_and, and_true] at h
  obtain ⟨h1, h2, h3, h4, h5⟩ := h
  rw [h1, h2, h3, h4, bytesA_inj h5]
theorem digN_le : ∀ (k n : Nat), n < 10 ^ k → 1 ≤ k → (digN n).length ≤ k
  | 0, n, h, h1 => by omega
  | k + 1, n, h, h1 => by
    by_cases h2 : n < 10
    · rw [digN_small h2]; simp
    · rw [digN_step h2, List.length_append]
      rw [Nat.pow_succ] at h
      have hk : 1 ≤ k := by
        cases k with
        | zero => simp at h; omega
        | succ k => omega
      have := digN_le k (n / 10) (by omega) hk
      simp only [List.length_cons, List.length_nil]; omega
theorem digN19 {n : Nat} (h : n ≤ 9223372036854775807) : (digN n).length ≤ 19 := by
  have e : (10 : Nat) ^ 19 = 10000000000000000000 := rfl
  exact digN_le 19 n (by rw [e]; omega) (by omega)
noncomputable def T41d (n : Nat) : Tab := T5p.add 45 (entry (fun m : Nat => [.int .i64 m]) (fun m => m < n) (fun m => .str (digN m)))
@[go_sem] theorem T41d_eff {n : Nat} {g : FuncId} : (T41d n).eff g = false := rfl
@[go_sem] theorem T41d_ords {n m : Nat} : (T41d n).ords m = [] := rfl
theorem T41d_get {n m : Nat} (h : m < n) : (T41d n).f 45 [.int .i64 (m : Int)] = some (.str (digN m)) :=
  Tab.add_eq.trans (entry_eq (enc := fun m : Nat => [A.int .i64 (m : Int)]) (fun i j h => by simp at h; omega) m h)
theorem ok_script_digits : codeOK Tryd.prog T5p Tryd.f45.ntmps (Tryd.f45.body.getD .skip) = true := by kernel_rfl
theorem c_script_digits (n : Nat) (hn : n ≤ 9223372036854775807) : CallA Tryd.prog 45 [.int .i64 n] (· = .str (digN n)) := by
  induction n using Nat.strongRecOn with
  | _ n ih =>
    have hT : TabOK Tryd.prog (T41d n) := T5p_ok.add (callable_of Tryd.func45 (by kernel_rfl) (by kernel_rfl)) (entry_ok fun m h => ih m h (by omega))
    refine callA_of_body hT mixed Tryd.func45 rfl (Nat.le_of_ble_eq_true rfl) ok_script_digits ?_
    unfold Tryd.f45
    have hone := bytesOfA_bytesA [digD n]
    simp only [bytesA, List.map_cons, List.map_nil, encU8, digD_val] at hone
    by_cases h : (n : Int) < 10
    · have hw : IntKind.u8.wrap (48 + (n : Int)) = 48 + ((n % 10 : Nat) : Int) := by rw [wrap_u8 (by omega)]; omega
      simp -implicitDefEqProofs (disch := (first | omega | decide)) only [go_sem, ↓reduceIte, seval, h, hw, hone, convB, wrap_i64, digN_small (show n < 10 by omega)]
    · have hd : ((n : Int).tdiv 10) = ((n / 10 : Nat) : Int) := by rw [Int.tdiv_eq_ediv_of_nonneg (by omega)]; omega
      have hm : ((n : Int).tmod 10) = ((n % 10 : Nat) : Int) := by rw [Int.tmod_eq_emod_of_nonneg (by omega)]; omega
      have g1 := T41d_get (n := n) (m := n / 10) (by omega)
      have g2 := T41d_get (n := n) (m := n % 10) (by omega)
      have l1 := digN19 (n := n / 10) (by omega)
      have e2 : digN (n % 10) = [digD n] := by rw [digN_small (by omega)]; unfold digD; rw [Nat.mod_mod]
      rw [e2] at g2
      have z10 : ¬ ((10 : Int) = 0) := by omega
      simp -implicitDefEqProofs (disch := (first | omega | decide)) only [go_sem, ↓reduceIte, seval, h, hd, hm, g1, g2, z10, wrap_i64, digN_step (show ¬ n < 10 by omega)]
      omega
noncomputable def T41a : Tab := T5p.add 45 (entry (fun (m : Nat) => [.int .i64 (m : Int)]) (fun m => m ≤ 9223372036854775807) (fun m => .str (digN m)))
theorem T41a_ok : TabOK Tryd.prog T41a := T5p_ok.ent Tryd.func45 (by kernel_rfl) (by kernel_rfl) fun m h => c_script_digits m h
@[go_sem] theorem T41a_old {g : FuncId} {xs : List A} (h : g ≠ 45) : T41a.f g xs = T5p.f g xs := Tab.add_ne h
@[go_sem] theorem T41a_s : T41a.pl T5p := ⟨fun _ => rfl, fun _ => rfl, rfl, fun _ => rfl, rfl, fun _ => rfl, rfl⟩
theorem T41a_script_digits (m : Nat) (h : m ≤ 9223372036854775807) : T41a.f 45 [.int .i64 (m : Int)] = some (.str (digN m)) := Tab.ent_eq (Γ := T5p) (fun i j h => by first | (cases i; cases j; rfl; done) | simpa [Prod.ext_iff, and_assoc] using h | (simp at h; omega) | (simp at h; exact Prod.ext h.1 (Prod.ext h.2.1 (by omega)))) m h
theorem t41_digits {n : Nat} (h : n ≤ 9223372036854775807) : T41a.f 45 [.int .i64 (n : Int)] = some (.str (digN n)) := T41a_script_digits n h
theorem ok_ref01_Digits : codeOK Tryd.prog T41a Tryd.f36.ntmps (Tryd.f36.body.getD .skip) = true := by kernel_rfl
theorem c_ref01_Digits (n : Nat) (hn : n ≤ 9223372036854775807) : CallA Tryd.prog 36 [.int .i64 n] (· = .str (digN n)) := by
  refine callA_of_body T41a_ok mixed Tryd.func36 rfl (Nat.le_of_ble_eq_true rfl) ok_ref01_Digits ?_
  unfold Tryd.f36
  simp -implicitDefEqProofs (disch := (first | omega | decide)) only [go_sem, ↓reduceIte, seval]
  refine wpA_loop [] (ι := {p : Nat × List UInt8 // p.1 ≤ n ∧ p.1 + p.2.length ≤ max n 1 ∧ ((p.2 = [] ∧ p.1 = n) ∨ (p.2 ≠ [] ∧ digN n = if p.1 = 0 then p.2 else digN p.1 ++ p.2))}) (fun p => [(0, .int .i64 p.1.1), (3, .str p.1.2)]) (fun _ => []) (fun p => p.1.1 + (if p.1.2 = [] then 1 else 0)) ⟨(n, []), by simp; omega⟩ (Nat.zero_le _) ?_ ?_
  · simp -implicitDefEqProofs (disch := (first | omega | decide)) only [go_sem, ↓reduceIte, seval]
  · rintro ⟨⟨m, s⟩, hm, hl, hd⟩
    simp only at hm hl hd
    have hone := bytesOfA_bytesA [digD m]
    simp only [bytesA, List.map_cons, List.map_nil, encU8, digD_val] at hone
    have hdv : ((m : Int).tdiv 10) = ((m / 10 : Nat) : Int) := by rw [Int.tdiv_eq_ediv_of_nonneg (by omega)]; omega
    have hmd : ((m : Int).tmod 10) = ((m % 10 : Nat) : Int) := by rw [Int.tmod_eq_emod_of_nonneg (by omega)]; omega
    have hw : IntKind.u8.wrap (48 + ((m % 10 : Nat) : Int)) = 48 + ((m % 10 : Nat) : Int) := wrap_u8 (by omega)
    have hge : ¬ ((m % 10 : Nat) : Int) < 0 := by omega
    have z10 : ¬ ((10 : Int) = 0) := by omega
    have hlen : [digD m].length = 1 := rfl
    cases hs : (s == ([] : List UInt8)) with
    | true =>
      have hs0 : s = [] := by simpa using hs
      subst hs0
      rcases hd with ⟨_, rfl⟩ | ⟨h, _⟩
      · simp -implicitDefEqProofs (disch := (first | omega | decide)) only [go_sem, ↓reduceIte, seval, hs, hdv, hmd, hw, hge, z10, hone, convB, wrap_i64]
        refine ⟨⟨(m / 10, [digD m]), Nat.div_le_self _ _, by simp; omega, .inr ⟨by simp, ?_⟩⟩, ⟨by simp, by simp⟩, ?_⟩
        · simp only
          split
          · rw [digN_small (by omega)]
          · rw [digN_step (by omega)]
        · simp; omega
      · exact absurd rfl h
    | false =>
      have hs0 : s ≠ [] := by simpa using hs
      rcases hd with ⟨h, _⟩ | ⟨_, hd⟩
      · exact absurd h hs0
      · by_cases h0 : (0 : Int) < (m : Int)
        · have hsl : 0 < s.length := List.length_pos_iff.2 hs0
          have hlen2 : ([digD m] ++ s).length = s.length + 1 := by simp
          simp -implicitDefEqProofs (disch := (first | omega | decide)) only [go_sem, ↓reduceIte, seval, hs, h0, hdv, hmd, hw, hge, z10, hone, convB, wrap_i64]
          refine ⟨by omega, ⟨(m / 10, digD m :: s), by show m / 10 ≤ n; omega, by simp; omega, .inr ⟨by simp, ?_⟩⟩, ⟨by simp, by simp⟩, ?_⟩
          · simp only
            rw [hd, if_neg (by omega)]
            split
            · rw [digN_small (by omega)]; rfl
            · rw [digN_step (show ¬ m < 10 by omega)]; simp
          · simp [hs0]; omega
        · have hm0 : m = 0 := by omega
          subst hm0
          rw [if_pos rfl] at hd
          simp -implicitDefEqProofs (disch := (first | omega | decide)) only [go_sem, ↓reduceIte, seval, hs, h0]
          rw [hd]
noncomputable def T41b : Tab := T41a.add 36 (entry (fun (m : Nat) => [.int .i64 (m : Int)]) (fun m => m ≤ 9223372036854775807) (fun m => .str (digN m)))
theorem T41b_ok : TabOK Tryd.prog T41b := T41a_ok.ent Tryd.func36 (by kernel_rfl) (by kernel_rfl) fun m h => c_ref01_Digits m h
@[go_sem] theorem T41b_old {g : FuncId} {xs : List A} (h : g ≠ 36) : T41b.f g xs = T41a.f g xs := Tab.add_ne h
@[go_sem] theorem T41b_s : T41b.pl T41a := ⟨fun _ => rfl, fun _ => rfl, rfl, fun _ => rfl, rfl, fun _ => rfl, rfl⟩
theorem T41b_ref01_Digits (m : Nat) (h : m ≤ 9223372036854775807) : T41b.f 36 [.int .i64 (m : Int)] = some (.str (digN m)) := Tab.ent_eq (Γ := T41a) (fun i j h => by first | (cases i; cases j; rfl; done) | simpa [Prod.ext_iff, and_assoc] using h | (simp at h; omega) | (simp at h; exact Prod.ext h.1 (Prod.ext h.2.1 (by omega)))) m h
theorem t41_rDigits {n : Nat} (h : n ≤ 9223372036854775807) : T41b.f 36 [.int .i64 (n : Int)] = some (.str (digN n)) := T41b_ref01_Digits n h
theorem ok_ref41_number : codeOK Tryd.prog T41b Tryd.f33.ntmps (Tryd.f33.body.getD .skip) = true := by kernel_rfl
theorem c_ref41_number (n : Int) : CallA Tryd.prog 33 [.int .i64 n] (· = .bool (decide (0 ≤ n) && decide (n ≤ MN))) := by
  refine callA_of_body T41b_ok mixed Tryd.func33 rfl (Nat.le_of_ble_eq_true rfl) ok_ref41_number ?_
  unfold Tryd.f33
  unfold MN
  by_cases h1 : (0 : Int) ≤ n <;> by_cases h2 : n ≤ 281474976710656 <;> simp -implicitDefEqProofs (disch := (first | omega | decide)) only [go_sem, ↓reduceIte, seval, h1, h2, Bool.and_self, Bool.and_true, Bool.and_false, Bool.false_and, Bool.true_and]
noncomputable def T41c : Tab := T41b.add 33 (entry (fun (n : Int) => [.int .i64 n]) (fun n => True) (fun n => .bool (decide (0 ≤ n) && decide (n ≤ MN))))
theorem T41c_ok : TabOK Tryd.prog T41c := T41b_ok.ent Tryd.func33 (by kernel_rfl) (by kernel_rfl) fun n h => c_ref41_number n
@[go_sem] theorem T41c_old {g : FuncId} {xs : List A} (h : g ≠ 33) : T41c.f g xs = T41b.f g xs := Tab.add_ne h
@[go_sem] theorem T41c_s : T41c.pl T41b := ⟨fun _ => rfl, fun _ => rfl, rfl, fun _ => rfl, rfl, fun _ => rfl, rfl⟩
theorem T41c_ref41_number (n : Int) (h : True) : T41c.f 33 [.int .i64 n] = some (.bool (decide (0 ≤ n) && decide (n ≤ MN))) := Tab.ent_eq (Γ := T41b) (fun i j h => by simpa [Prod.ext_iff, and_assoc] using h) n h
theorem t41_rnumber (n : Int) : T41c.f 33 [.int .i64 n] = some (.bool (decide (0 ≤ n) && decide (n ≤ MN))) := T41c_ref41_number n trivial
def numOk : List UInt8 → Nat → Bool
  | [], _ => true
  | c :: r, n => if c.toNat < 48 ∨ 57 < c.toNat ∨ 281474976710656 < n then false else numOk r (10 * n + (c.toNat - 48))
def numF (s : List UInt8) : Bool := numOk s 0 && decide ((numS s : Int) ≤ MN) && (digN (numS s) == s)
theorem ok_script_number : codeOK Tryd.prog T41c Tryd.f35.ntmps (Tryd.f35.body.getD .skip) = true := by kernel_rfl
theorem c_script_number (s : List UInt8) (hs : s.length ≤ 1000000000) : CallA Tryd.prog 35 [.str s] (· = .tup [.int .i64 (numS s), .bool (numF s)]) := by
  refine callA_of_body T41c_ok mixed Tryd.func35 rfl (Nat.le_of_ble_eq_true rfl) ok_script_number ?_
  unfold Tryd.f35
  simp -implicitDefEqProofs (disch := (first | omega | decide)) only [go_sem, ↓reduceIte, seval]
  refine wpA_loop [0, 7] (ι := {p : Nat × Nat // p.1 ≤ s.length ∧ p.2 ≤ 2814749767106569 ∧ numS s = numGo (s.drop p.1) p.2 ∧ numOk s 0 = numOk (s.drop p.1) p.2}) (fun p => [(8, .int .i64 p.1.1), (4, .int .i64 p.1.2)]) (fun _ => []) (fun p => s.length - p.1.1) ⟨(0, 0), by omega, by omega, rfl, rfl⟩ (Nat.zero_le _) ?_ ?_
  · simp -implicitDefEqProofs (disch := (first | omega | decide)) only [go_sem, ↓reduceIte, seval]
    try exact ⟨rfl, rfl⟩
  · rintro ⟨⟨k, n⟩, hk, hn, hd, ho⟩
    simp only at hk hn hd ho ⊢
    by_cases hlt : k < s.length
    · have hlt' : (k : Int) < (s.length : Int) := by omega
      have e1 : s[k]? = some s[k] := List.getElem?_eq_getElem hlt
      rw [List.drop_eq_getElem_cons hlt] at hd ho
      rw [numGo] at hd
      rw [numOk] at ho
      generalize s[k] = c at *
      by_cases h1 : (c.toNat : Int) < 48
      · rw [if_pos (by omega)] at hd ho
        have hf : numF s = false := by unfold numF; rw [ho]; rfl
        rw [hf, hd]
        simp -implicitDefEqProofs (disch := (first | omega | decide)) only [go_sem, ↓reduceIte, seval, hlt', e1, h1, wrap_i64, encU8]
      · by_cases h2 : (57 : Int) < (c.toNat : Int)
        · rw [if_pos (by omega)] at hd ho
          have hf : numF s = false := by unfold numF; rw [ho]; rfl
          rw [hf, hd]
          simp -implicitDefEqProofs (disch := (first | omega | decide)) only [go_sem, ↓reduceIte, seval, hlt', e1, h1, h2, wrap_i64, encU8]
        · by_cases h3 : (281474976710656 : Int) < (n : Int)
          · rw [if_pos (by omega)] at hd ho
            have hf : numF s = false := by unfold numF; rw [ho]; rfl
            rw [hf, hd]
            simp -implicitDefEqProofs (disch := (first | omega | decide)) only [go_sem, ↓reduceIte, seval, hlt', e1, h1, h2, h3, wrap_i64, encU8]
          · rw [if_neg (by omega)] at hd ho
            have w1 : IntKind.u8.wrap ((c.toNat : Int) - 48) = ((c.toNat - 48 : Nat) : Int) := by rw [wrap_u8 (by omega)]; omega
            simp -implicitDefEqProofs (disch := (first | omega | decide)) only [go_sem, ↓reduceIte, seval, hlt', e1, h1, h2, h3, w1, wrap_i64, encU8]
            exact ⟨⟨(k + 1, 10 * n + (c.toNat - 48)), hlt, by simp only; omega, hd, ho⟩, ⟨by simp, by simp⟩, by show s.length - (k + 1) < s.length - k; omega⟩
    · have hlt' : ¬ (k : Int) < (s.length : Int) := by omega
      rw [List.drop_of_length_le (by omega)] at hd ho
      simp only [numGo, numOk] at hd ho
      unfold numF MN
      rw [ho, hd, Bool.true_and]
      by_cases h1 : (n : Int) ≤ 281474976710656
      · have g := t41_digits (n := n) (by omega)
        simp -implicitDefEqProofs (disch := (first | omega | decide)) only [go_sem, ↓reduceIte, seval, hlt', h1, g, Bool.true_and]
      · simp -implicitDefEqProofs (disch := (first | omega | decide)) only [go_sem, ↓reduceIte, seval, hlt', h1, Bool.false_and]
noncomputable def T41e : Tab := T41c.add 35 (entry (fun (s : List UInt8) => [.str s]) (fun s => s.length ≤ 1000000000) (fun s => .tup [.int .i64 (numS s : Int), .bool (numF s)]))
theorem T41e_ok : TabOK Tryd.prog T41e := T41c_ok.ent Tryd.func35 (by kernel_rfl) (by kernel_rfl) fun s h => c_script_number s h
@[go_sem] theorem T41e_old {g : FuncId} {xs : List A} (h : g ≠ 35) : T41e.f g xs = T41c.f g xs := Tab.add_ne h
theorem T41e_script_number (s : List UInt8) (h : s.length ≤ 1000000000) : T41e.f 35 [.str s] = some (.tup [.int .i64 (numS s : Int), .bool (numF s)]) := Tab.ent_eq (Γ := T41c) (fun i j h => by simpa [Prod.ext_iff, and_assoc] using h) s h
theorem t41_number {s : List UInt8} (h : s.length ≤ 1000000000) : T41e.f 35 [.str s] = some (.tup [.int .i64 (numS s : Int), .bool (numF s)]) := T41e_script_number s h
noncomputable def P41 : Tab := { T41e with ords := fun n => if (n == 5 || n == 8 || n == 10) = true then [[0, 1, 2, 4, 3, 5, 6, 7], [0, 1, 2, 4, 5, 3, 6, 7]] else [] }
theorem P41_ok : TabOK Tryd.prog P41 := ⟨T41e_ok.f, T41e_ok.hp⟩
@[go_sem] theorem P41_ords5 : P41.ords 5 = [[0, 1, 2, 4, 3, 5, 6, 7], [0, 1, 2, 4, 5, 3, 6, 7]] := rfl
@[go_sem] theorem P41_ords8 : P41.ords 8 = [[0, 1, 2, 4, 3, 5, 6, 7], [0, 1, 2, 4, 5, 3, 6, 7]] := rfl
@[go_sem] theorem P41_ords10 : P41.ords 10 = [[0, 1, 2, 4, 3, 5, 6, 7], [0, 1, 2, 4, 5, 3, 6, 7]] := rfl
@[go_sem] theorem P41_ords {n : Nat} (h : (n == 5 || n == 8 || n == 10) = false) : P41.ords n = [] := if_neg (by rw [h]; decide)
theorem ok_script_plain : codeOK Tryd.prog P41 Tryd.f44.ntmps (Tryd.f44.body.getD .skip) = true := by kernel_rfl
theorem c_script_plain (v : Ev) (hb : v.b.length ≤ 1000000000) : CallA Tryd.prog 44 [v.enc] (· = (plainE v).enc) := by
  refine callA_of_body P41_ok mixed Tryd.func44 rfl (Nat.le_of_ble_eq_true rfl) ok_script_plain ?_
  unfold Tryd.f44
  obtain ⟨k, a, n, kp, b⟩ := v
  by_cases h2 : k = 2
  · subst h2
    simp only [Ev.enc]
    simp -implicitDefEqProofs (disch := (first | omega | decide)) only [go_sem, ↓reduceIte, seval]
    rfl
  by_cases h3 : k = 3
  · subst h3
    simp only [Ev.enc]
    simp -implicitDefEqProofs (disch := (first | omega | decide)) only [go_sem, ↓reduceIte, seval]
    rfl
  by_cases h4 : k = 4
  · subst h4
    simp only [Ev.enc]
    simp -implicitDefEqProofs (disch := (first | omega | decide)) only [go_sem, ↓reduceIte, seval]
    rfl
  by_cases h7 : k = 7
  · subst h7
    simp only [Ev.enc]
    simp -implicitDefEqProofs (disch := (first | omega | decide)) only [go_sem, ↓reduceIte, seval]
    rfl
  by_cases h8 : k = 8
  · subst h8
    simp only [Ev.enc]
    simp -implicitDefEqProofs (disch := (first | omega | decide)) only [go_sem, ↓reduceIte, seval]
    rfl
  have e2 : (k == 2) = false := by simpa using h2
  have e3 : (k == 3) = false := by simpa using h3
  have e4 : (k == 4) = false := by simpa using h4
  have e7 : (k == 7) = false := by simpa using h7
  have e8 : (k == 8) = false := by simpa using h8
  have hp : plainE ⟨k, a, n, kp, b⟩ = ⟨k, 0, 0, false, []⟩ := by unfold plainE; simp [h2, h3, h4, h7, h8]
  rw [hp]
  simp only [Ev.enc]
  simp -implicitDefEqProofs (disch := (first | omega | decide)) only [go_sem, ↓reduceIte, seval, e2, e3, e4, e7, e8]
  rfl
noncomputable def T41f : Tab := T41e.add 44 (entry (fun (v : Ev) => [v.enc]) (fun v => v.b.length ≤ 1000000000) (fun v => (plainE v).enc))
theorem T41f_ok : TabOK Tryd.prog T41f := T41e_ok.ent Tryd.func44 (by kernel_rfl) (by kernel_rfl) fun v h => c_script_plain v h
@[go_sem] theorem T41f_old {g : FuncId} {xs : List A} (h : g ≠ 44) : T41f.f g xs = T41e.f g xs := Tab.add_ne h
@[go_sem] theorem T41f_s : T41f.pl T41e := ⟨fun _ => rfl, fun _ => rfl, rfl, fun _ => rfl, rfl, fun _ => rfl, rfl⟩
theorem T41f_script_plain (v : Ev) (h : v.b.length ≤ 1000000000) : T41f.f 44 [v.enc] = some ((plainE v).enc) := Tab.ent_eq (Γ := T41e) (fun i j h => by exact Ev.enc_inj i j (List.cons.inj h).1) v h
theorem t41_plain {k a n : Int} {kp : Bool} {b : List UInt8} (h : b.length ≤ 1000000000) : T41f.f 44 [.agg [.int .i64 k, .int .i64 a, .int .i64 n, .bool kp, .slc (bytesA b)]] = some (.agg [.int .i64 (plainE ⟨k, a, n, kp, b⟩).kind, .int .i64 (plainE ⟨k, a, n, kp, b⟩).at_, .int .i64 (plainE ⟨k, a, n, kp, b⟩).n, .bool (plainE ⟨k, a, n, kp, b⟩).keep, .slc (bytesA (plainE ⟨k, a, n, kp, b⟩).b)]) := T41f_script_plain ⟨k, a, n, kp, b⟩ h
theorem plain_b (v : Ev) : (plainE v).b = v.b ∨ (plainE v).b = [] := by
  unfold plainE
  repeat' split
  all_goals simp
theorem plain_len (v : Ev) : (plainE v).b.length ≤ v.b.length := by
  rcases plain_b v with h | h <;> rw [h]
  · exact Nat.le_refl _
  · exact Nat.zero_le _
theorem plain_eq {v : Ev} : (plainE v = v) = ((plainE v).b.length = v.b.length ∧ (plainE v).at_ = v.at_ ∧ (plainE v).n = v.n ∧ (plainE v).keep = v.keep) := by
  apply propext
  constructor
  · intro h; rw [h]; exact ⟨rfl, rfl, rfl, rfl⟩
  · rintro ⟨h1, h2, h3, h4⟩
    have hk : (plainE v).kind = v.kind := by
      unfold plainE
      repeat' split
      all_goals rfl
    have hb : (plainE v).b = v.b := by
      rcases plain_b v with h | h
      · exact h
      · rw [h] at h1 ⊢
        exact (List.length_eq_zero_iff.1 h1.symm).symm
    generalize plainE v = w at *
    obtain ⟨a, b, c, d, e⟩ := v
    obtain ⟨a', b', c', d', e'⟩ := w
    simp only at h2 h3 h4 hk hb
    rw [h2, h3, h4, hk, hb]
theorem rightE_eq (v : Ev) : rightE v = decide (1 ≤ v.kind ∧ v.kind ≤ 8 ∧ 0 ≤ v.at_ ∧ v.at_ ≤ 281474976710656 ∧ 0 ≤ v.n ∧ v.n ≤ 281474976710656 ∧ v.b.length ≤ 32768 ∧ (plainE v).b.length = v.b.length ∧ (plainE v).at_ = v.at_ ∧ (plainE v).n = v.n ∧ (plainE v).keep = v.keep) := by
  unfold rightE MN
  apply decide_eq_decide.2
  rw [plain_eq]
theorem ok_script_right : codeOK Tryd.prog T41f Tryd.f31.ntmps (Tryd.f31.body.getD .skip) = true := by kernel_rfl
theorem c_script_right (v : Ev) (hb : v.b.length ≤ 1000000000) : CallA Tryd.prog 31 [v.enc] (· = .bool (rightE v)) := by
  refine callA_of_body T41f_ok mixed Tryd.func31 rfl (Nat.le_of_ble_eq_true rfl) ok_script_right ?_
  unfold Tryd.f31
  rw [rightE_eq]
  have hpl := plain_len v
  obtain ⟨k, a, n, kp, b⟩ := v
  have g := t41_plain (k := k) (a := a) (n := n) (kp := kp) (b := b) hb
  simp only at hpl hb ⊢
  generalize plainE ⟨k, a, n, kp, b⟩ = w at *
  obtain ⟨k', a', n', kp', b'⟩ := w
  simp only at g hpl ⊢
  have l1 := bytesA_len b
  have l2 := bytesA_len b'
  simp only [Ev.enc]
  by_cases h1 : k < 1
  · simp -implicitDefEqProofs (maxSteps := 600000) (disch := (first | omega | decide)) only [go_sem, ↓reduceIte, seval, g, h1, l1, l2]
    symm; apply decide_eq_false; omega
  by_cases h2 : 8 < k
  · simp -implicitDefEqProofs (maxSteps := 600000) (disch := (first | omega | decide)) only [go_sem, ↓reduceIte, seval, g, h1, h2, l1, l2]
    symm; apply decide_eq_false; omega
  by_cases h3 : (32768 : Int) < (b.length : Int)
  · simp -implicitDefEqProofs (maxSteps := 600000) (disch := (first | omega | decide)) only [go_sem, ↓reduceIte, seval, g, h1, h2, h3, l1, l2]
    symm; apply decide_eq_false; omega
  cases h4 : ((b'.length : Int) == (b.length : Int)) with
  | false =>
    have h4' : ¬ (b'.length : Int) = (b.length : Int) := by simpa using h4
    simp -implicitDefEqProofs (maxSteps := 600000) (disch := (first | omega | decide)) only [go_sem, ↓reduceIte, seval, g, h1, h2, h3, h4, l1, l2]
    symm; apply decide_eq_false; omega
  | true =>
    have h4' : b'.length = b.length := by have : (b'.length : Int) = (b.length : Int) := by simpa using h4
                                          omega
    by_cases h5 : a < 0
    · simp -implicitDefEqProofs (maxSteps := 600000) (disch := (first | omega | decide)) only [go_sem, ↓reduceIte, seval, g, h1, h2, h3, h4, h5, l1, l2]
      symm; apply decide_eq_false; omega
    by_cases h6 : 281474976710656 < a
    · simp -implicitDefEqProofs (maxSteps := 600000) (disch := (first | omega | decide)) only [go_sem, ↓reduceIte, seval, g, h1, h2, h3, h4, h5, h6, l1, l2]
      symm; apply decide_eq_false; omega
    by_cases h7 : n < 0
    · simp -implicitDefEqProofs (maxSteps := 600000) (disch := (first | omega | decide)) only [go_sem, ↓reduceIte, seval, g, h1, h2, h3, h4, h5, h6, h7, l1, l2]
      symm; apply decide_eq_false; omega
    by_cases h8 : 281474976710656 < n
    · simp -implicitDefEqProofs (maxSteps := 600000) (disch := (first | omega | decide)) only [go_sem, ↓reduceIte, seval, g, h1, h2, h3, h4, h5, h6, h7, h8, l1, l2]
      symm; apply decide_eq_false; omega
    cases h9 : a' == a with
    | false =>
      have h9' : ¬ a' = a := by simpa using h9
      simp -implicitDefEqProofs (maxSteps := 600000) (disch := (first | omega | decide)) only [go_sem, ↓reduceIte, seval, g, h1, h2, h3, h4, h5, h6, h7, h8, h9, l1, l2]
      symm; apply decide_eq_false; omega
    | true =>
      have h9' : a' = a := by simpa using h9
      cases h10 : n' == n with
      | false =>
        have h10' : ¬ n' = n := by simpa using h10
        simp -implicitDefEqProofs (maxSteps := 600000) (disch := (first | omega | decide)) only [go_sem, ↓reduceIte, seval, g, h1, h2, h3, h4, h5, h6, h7, h8, h9, h10, l1, l2]
        symm; apply decide_eq_false; omega
      | true =>
        have h10' : n' = n := by simpa using h10
        cases h11 : kp' == kp with
        | false =>
          have h11' : ¬ kp' = kp := by simpa using h11
          simp -implicitDefEqProofs (maxSteps := 600000) (disch := (first | omega | decide)) only [go_sem, ↓reduceIte, seval, g, h1, h2, h3, h4, h5, h6, h7, h8, h9, h10, h11, l1, l2]
          symm; apply decide_eq_false; rintro ⟨_, _, _, _, _, _, _, _, _, _, e⟩; exact h11' e
        | true =>
          have h11' : kp' = kp := by simpa using h11
          simp -implicitDefEqProofs (maxSteps := 600000) (disch := (first | omega | decide)) only [go_sem, ↓reduceIte, seval, g, h1, h2, h3, h4, h5, h6, h7, h8, h9, h10, h11, l1, l2]
          symm; apply decide_eq_true; exact ⟨by omega, by omega, by omega, by omega, by omega, by omega, by omega, h4', h9', h10', h11'⟩
noncomputable def T41g : Tab := T41f.add 31 (entry (fun (v : Ev) => [v.enc]) (fun v => v.b.length ≤ 1000000000) (fun v => .bool (rightE v)))
theorem T41g_ok : TabOK Tryd.prog T41g := T41f_ok.ent Tryd.func31 (by kernel_rfl) (by kernel_rfl) fun v h => c_script_right v h
@[go_sem] theorem T41g_old {g : FuncId} {xs : List A} (h : g ≠ 31) : T41g.f g xs = T41f.f g xs := Tab.add_ne h
@[go_sem] theorem T41g_s : T41g.pl T41f := ⟨fun _ => rfl, fun _ => rfl, rfl, fun _ => rfl, rfl, fun _ => rfl, rfl⟩
theorem T41g_script_right (v : Ev) (h : v.b.length ≤ 1000000000) : T41g.f 31 [v.enc] = some (.bool (rightE v)) := Tab.ent_eq (Γ := T41f) (fun i j h => by exact Ev.enc_inj i j (List.cons.inj h).1) v h
theorem t41_right {v : Ev} (h : v.b.length ≤ 1000000000) : T41g.f 31 [v.enc] = some (.bool (rightE v)) := T41g_script_right v h
theorem right_parts {v : Ev} (h : rightE v = true) : 1 ≤ v.kind ∧ v.kind ≤ 8 ∧ (∃ a : Nat, v.at_ = a ∧ a ≤ 281474976710656) ∧ (∃ n : Nat, v.n = n ∧ n ≤ 281474976710656) ∧ v.b.length ≤ 32768 ∧ plainE v = v := by
  simp only [rightE, decide_eq_true_eq] at h
  obtain ⟨h1, h2, h3, h4, h5, h6, h7, h8⟩ := h
  unfold MN at h4 h6
  exact ⟨h1, h2, ⟨v.at_.toNat, by omega, by omega⟩, ⟨v.n.toNat, by omega, by omega⟩, h7, h8⟩
theorem ok_script_words : codeOK Tryd.prog T41g Tryd.f32.ntmps (Tryd.f32.body.getD .skip) = true := by kernel_rfl
theorem c_script_words (v : Ev) (h : rightE v = true) : CallH Tryd.prog 32 [v.enc] [] (.clip ((wordsE v).map .str)) [] [] := by
  refine callH_of_body T41g_ok mixed Tryd.func32 rfl (Nat.le_of_ble_eq_true rfl) (by simp) (by simp) (Nat.le_refl 0) ok_script_words ?_
  unfold Tryd.f32
  have hk := kind_cases h
  obtain ⟨_, _, ⟨a, e1, l1⟩, ⟨n, e2, l2⟩, hb, _⟩ := right_parts h
  obtain ⟨k, a0, n0, kp, b⟩ := v
  simp only at e1 e2 hb hk
  subst e1; subst e2
  simp only [Ev.enc]
  have g1 := t41_digits (n := a) (by omega)
  have g2 := t41_digits (n := n) (by omega)
  have g3 := t5_Of (s := b) (by omega)
  have t1 : ((a : Nat) : Int).toNat = a := by simp
  have t2 : ((n : Nat) : Int).toNat = n := by simp
  unfold wordsE
  rcases hk with rfl | rfl | rfl | rfl | rfl | rfl | rfl | rfl
  · simp -implicitDefEqProofs (maxSteps := 600000) (disch := (first | omega | decide)) only [go_sem, ↓reduceIte, seval, g1, g2, List.map_cons, List.map_nil]
    try rfl
  · simp -implicitDefEqProofs (maxSteps := 600000) (disch := (first | omega | decide)) only [go_sem, ↓reduceIte, seval, g1, g2, t1, List.map_cons, List.map_nil]
    try rfl
  · simp -implicitDefEqProofs (maxSteps := 600000) (disch := (first | omega | decide)) only [go_sem, ↓reduceIte, seval, g1, g2, t1, List.map_cons, List.map_nil]
    try rfl
  · simp -implicitDefEqProofs (maxSteps := 600000) (disch := (first | omega | decide)) only [go_sem, ↓reduceIte, seval, g1, g2, t1, t2, List.map_cons, List.map_nil]
    try rfl
  · simp -implicitDefEqProofs (maxSteps := 600000) (disch := (first | omega | decide)) only [go_sem, ↓reduceIte, seval, g1, g2, List.map_cons, List.map_nil]
    try rfl
  · simp -implicitDefEqProofs (maxSteps := 600000) (disch := (first | omega | decide)) only [go_sem, ↓reduceIte, seval, g1, g2, List.map_cons, List.map_nil]
    try rfl
  · simp -implicitDefEqProofs (maxSteps := 600000) (disch := (first | omega | decide)) only [go_sem, ↓reduceIte, seval, g1, g2, t1, t2, List.map_cons, List.map_nil]
    try rfl
  · simp -implicitDefEqProofs (maxSteps := 600000) (disch := (first | omega | decide)) only [go_sem, ↓reduceIte, seval, g1, g2, g3, t2, convB, bytesOfA_bytesA, Option.map_some, List.map_cons, List.map_nil]
    try rfl
theorem line_bound {v : Ev} (h : rightE v = true) : (lineE v).length ≤ 3 * v.b.length + 100 := by
  have hk := kind_cases h
  obtain ⟨_, _, ⟨a, e1, l1⟩, ⟨n, e2, l2⟩, hb, _⟩ := right_parts h
  have d1 := digN19 (n := a) (by omega)
  have d2 := digN19 (n := n) (by omega)
  have d3 := (ofW_len v.b).2
  obtain ⟨k, a0, n0, kp, b⟩ := v
  simp only at e1 e2 hb hk d3 ⊢
  subst e1; subst e2
  have t1 : ((a : Nat) : Int).toNat = a := by simp
  have t2 : ((n : Nat) : Int).toNat = n := by simp
  unfold lineE wordsK
  rcases hk with rfl | rfl | rfl | rfl | rfl | rfl | rfl | rfl <;> cases kp <;> simp [wordsE, lineW, t1, t2, tickT, sourceT, targetT, loseT, crashT, powerT, injectT, keepT] <;> omega
noncomputable def T41wa : Tab := T41g.addH 32 (entryH (fun v : Ev => [v.enc]) (fun _ => []) (fun v => rightE v = true) (fun v => (.clip ((wordsE v).map .str), [], [])))
noncomputable def T41w : Tab := { T41wa with eff := fun f => f == 32 }
theorem T41wa_ok : TabOK Tryd.prog T41wa := T41g_ok.addH (callable_of Tryd.func32 (by kernel_rfl) (by kernel_rfl)) (entryH_ok fun v h => c_script_words v h)
theorem T41w_ok : TabOK Tryd.prog T41w := ⟨T41wa_ok.f, T41wa_ok.hp⟩
@[go_sem] theorem T41w_f : T41w.f = T41g.f := rfl
@[go_sem] theorem T41w_eff {g : FuncId} : T41w.eff g = (g == 32) := rfl
@[go_sem] theorem T41w_frz {g : FuncId} : T41w.frz g = false := rfl
@[go_sem] theorem T41w_ords {n : Nat} : T41w.ords n = [] := rfl
theorem T41w_words {v : Ev} (h : rightE v = true) : T41w.hp 32 [v.enc] [] = some (.clip ((wordsE v).map .str), [], []) := by
  have h0 : T41wa.hp 32 [v.enc] [] = entryH (fun v : Ev => [v.enc]) (fun _ => []) (fun v => rightE v = true) (fun v => (.clip ((wordsE v).map .str), [], [])) [v.enc] [] := Tab.addH_eq
  have h1 : T41w.hp 32 [v.enc] [] = _ := h0
  exact h1.trans (entryH_eq (enc := fun v : Ev => [v.enc]) (obs := fun _ => []) (fun i j e _ => Ev.enc_inj i j (List.cons.inj e).1) v h)
def lineA (v : Ev) : A := if rightE v = true then .tup [.str (lineE v), .int .i64 0] else .tup [.str [], .int .i64 2]
theorem words_len (v : Ev) : (wordsE v).length ≤ 3 := by
  unfold wordsE
  repeat' split
  all_goals simp
theorem ok_script_Line : codeOK Tryd.prog T41w Tryd.f16.ntmps (Tryd.f16.body.getD .skip) = true := by kernel_rfl
theorem c_script_Line (v : Ev) (hb : v.b.length ≤ 1000000000) : CallA Tryd.prog 16 [v.enc] (· = lineA v) := by
  refine callA_of_body T41w_ok mixed Tryd.func16 rfl (Nat.le_of_ble_eq_true rfl) ok_script_Line ?_
  unfold Tryd.f16
  have g1 := t41_right (v := v) hb
  unfold lineA
  cases hr : rightE v with
  | false =>
    rw [hr] at g1
    obtain ⟨k, a, n, kp, b⟩ := v
    simp only [Ev.enc] at g1 ⊢
    simp -implicitDefEqProofs (disch := (first | omega | decide)) only [go_sem, ↓reduceIte, seval, g1]
  | true =>
    rw [hr] at g1
    have g2 := T41w_words hr
    have hl := line_bound hr
    have hwl := words_len v
    have hj : joinW (wordsK v) = some (lineE v) := by unfold joinW; rw [if_pos (words_may v)]; rfl
    have hkl' : (wordsK v).length ≤ (wordsE v).length + 1 := by
      unfold wordsK
      split
      · simp
      · exact Nat.le_succ _
    have hkl : (wordsK v).length ≤ 4 := by omega
    have g3 := t5_Join (l := wordsK v) (by omega) (by show (lineE v).length ≤ _; have := (right_parts hr).2.2.2.2.1; omega)
    rw [hj] at g3
    simp only [rdA] at g3
    have hkk : wordsK v = if v.keep = true then wordsE v ++ [keepT] else wordsE v := rfl
    rw [hkk] at g3
    obtain ⟨k, a, n, kp, b⟩ := v
    simp only [Ev.enc] at g1 g2 g3 ⊢
    simp only at hwl hl hb
    generalize wordsE ⟨k, a, n, kp, b⟩ = ws at *
    generalize lineE ⟨k, a, n, kp, b⟩ = ln at *
    have st : strOK 1 (ws.map A.str) = true := by cases ws <;> rfl
    cases kp with
    | false =>
      simp only [Bool.false_eq_true, if_false] at g3
      simp -implicitDefEqProofs (disch := (first | omega | decide)) only [go_sem, ↓reduceIte, seval, g1, g2, g3, List.length_map]
    | true =>
      simp only [if_true] at g3
      unfold keepT at g3
      rw [List.map_append] at g3
      simp only [List.map_cons, List.map_nil] at g3
      have k1 : (ws.length + 1) * 16 ≤ 140737488355328 := by omega
      have k2 : ws.length + 1 ≤ (ws.map A.str ++ [A.str [107, 101, 101, 112]]).length := by simp
      have k3 : (ws.map A.str ++ [A.str [107, 101, 101, 112]]).take (ws.length + 1) = ws.map A.str ++ [A.str [107, 101, 101, 112]] := List.take_of_length_le (by simp)
      simp -implicitDefEqProofs (disch := (first | omega | decide)) only [go_sem, ↓reduceIte, seval, g1, g2, g3, st, k1, k2, k3, List.length_map]
noncomputable def T41h : Tab := T41g.add 16 (entry (fun (v : Ev) => [v.enc]) (fun v => v.b.length ≤ 1000000000) (fun v => lineA v))
theorem T41h_ok : TabOK Tryd.prog T41h := T41g_ok.ent Tryd.func16 (by kernel_rfl) (by kernel_rfl) fun v h => c_script_Line v h
@[go_sem] theorem T41h_old {g : FuncId} {xs : List A} (h : g ≠ 16) : T41h.f g xs = T41g.f g xs := Tab.add_ne h
@[go_sem] theorem T41h_s : T41h.pl T41g := ⟨fun _ => rfl, fun _ => rfl, rfl, fun _ => rfl, rfl, fun _ => rfl, rfl⟩
theorem T41h_script_Line (v : Ev) (h : v.b.length ≤ 1000000000) : T41h.f 16 [v.enc] = some (lineA v) := Tab.ent_eq (Γ := T41g) (fun i j h => by exact Ev.enc_inj i j (List.cons.inj h).1) v h
theorem t41_Line {v : Ev} (h : v.b.length ≤ 1000000000) : T41h.f 16 [v.enc] = some (lineA v) := T41h_script_Line v h
def outE (v : Ev) : Prop := v.kind < 1 ∨ 8 < v.kind ∨ v.at_ < 0 ∨ 281474976710656 < v.at_ ∨ v.n < 0 ∨ 281474976710656 < v.n ∨ 32768 < v.b.length
theorem right_out {v : Ev} (h : outE v) : rightE v = false := by
  rw [rightE_eq]
  apply decide_eq_false
  unfold outE at h
  omega
theorem right_in {k a n : Int} {kp : Bool} {b : List UInt8} (h : ¬ outE ⟨k, a, n, kp, b⟩) : rightE ⟨k, a, n, kp, b⟩ =
    (((k == 2 || k == 3) || (k == 4 || k == 7) || a == 0) && ((k == 4 || k == 7) || k == 8 || n == 0) && ((k == 2 || k == 3) || !kp) && (k == 8 || b.length == 0)) := by
  unfold outE at h
  simp only at h
  have hk : k = 1 ∨ k = 2 ∨ k = 3 ∨ k = 4 ∨ k = 5 ∨ k = 6 ∨ k = 7 ∨ k = 8 := by omega
  have e0 : ((0 : Int) = a) = (a = 0) := by apply propext; omega
  have e1 : ((0 : Int) = n) = (n = 0) := by apply propext; omega
  have e2 : (0 = b.length) = (b.length = 0) := by apply propext; omega
  have g1 : (0 : Int) ≤ a := by omega
  have g2 : a ≤ 281474976710656 := by omega
  have g3 : (0 : Int) ≤ n := by omega
  have g4 : n ≤ 281474976710656 := by omega
  have g5 : b.length ≤ 32768 := by omega
  rw [rightE_eq, Bool.eq_iff_iff]
  rcases hk with rfl | rfl | rfl | rfl | rfl | rfl | rfl | rfl <;> cases kp <;> simp [plainE, g1, g2, g3, g4, g5, e0, e1, e2, and_assoc] <;> (try exact ⟨fun h => by simp_all, fun h => by simp_all⟩)
theorem t41_rnum {n : Int} (h1 : 0 ≤ n) (h2 : n ≤ 281474976710656) : T41c.f 33 [.int .i64 n] = some (.bool true) := by
  have := t41_rnumber n
  rw [decide_eq_true h1, decide_eq_true (show n ≤ MN from h2)] at this; exact this
theorem t41_rnum0 {n : Int} (h : n < 0 ∨ 281474976710656 < n) : T41c.f 33 [.int .i64 n] = some (.bool false) := by
  have := t41_rnumber n
  have e : (decide (0 ≤ n) && decide (n ≤ MN)) = false := by
    unfold MN
    rcases h with h | h
    · rw [decide_eq_false (by omega)]; rfl
    · rw [decide_eq_false (show ¬ n ≤ 281474976710656 by omega), Bool.and_false]
  rw [e] at this; exact this
theorem ok_ref41_Right : codeOK Tryd.prog T41h Tryd.f17.ntmps (Tryd.f17.body.getD .skip) = true := by kernel_rfl
theorem c_ref41_Right (v : Ev) (hb : v.b.length ≤ 1000000000) : CallA Tryd.prog 17 [v.enc] (· = .bool (rightE v)) := by
  refine callA_of_body T41h_ok mixed Tryd.func17 rfl (Nat.le_of_ble_eq_true rfl) ok_ref41_Right ?_
  unfold Tryd.f17
  obtain ⟨k, a, n, kp, b⟩ := v
  simp only at hb
  have l1 := bytesA_len b
  by_cases h1 : k < 1
  · rw [right_out (.inl h1)]
    simp only [Ev.enc]
    simp -implicitDefEqProofs (disch := (first | omega | decide)) only [go_sem, ↓reduceIte, seval, h1]
  by_cases h2 : 8 < k
  · rw [right_out (.inr (.inl h2))]
    simp only [Ev.enc]
    simp -implicitDefEqProofs (disch := (first | omega | decide)) only [go_sem, ↓reduceIte, seval, h1, h2]
  by_cases h3 : a < 0 ∨ 281474976710656 < a
  · have g := t41_rnum0 h3
    rw [right_out (by unfold outE; simp only; omega)]
    simp only [Ev.enc]
    simp -implicitDefEqProofs (disch := (first | omega | decide)) only [go_sem, ↓reduceIte, seval, h1, h2, g]
  have g1 := t41_rnum (n := a) (by omega) (by omega)
  by_cases h4 : n < 0 ∨ 281474976710656 < n
  · have g := t41_rnum0 h4
    rw [right_out (by unfold outE; simp only; omega)]
    simp only [Ev.enc]
    simp -implicitDefEqProofs (maxSteps := 600000) (disch := (first | omega | decide)) only [go_sem, ↓reduceIte, seval, h1, h2, g1, g]
  have g2 := t41_rnum (n := n) (by omega) (by omega)
  by_cases h5 : (32768 : Int) < (b.length : Int)
  · rw [right_out (by unfold outE; simp only; omega)]
    simp only [Ev.enc]
    simp -implicitDefEqProofs (maxSteps := 600000) (disch := (first | omega | decide)) only [go_sem, ↓reduceIte, seval, h1, h2, g1, g2, h5, l1]
  rw [right_in (by unfold outE; simp only; omega)]
  simp only [Ev.enc]
  have hbl : (b.length == 0) = ((b.length : Int) == 0) := by
    rw [Bool.eq_iff_iff, beq_iff_eq, beq_iff_eq]; omega
  rw [hbl]
  have hk : k = 1 ∨ k = 2 ∨ k = 3 ∨ k = 4 ∨ k = 5 ∨ k = 6 ∨ k = 7 ∨ k = 8 := by omega
  clear h1 h2 h3 h4 hbl
  rcases hk with rfl | rfl | rfl | rfl | rfl | rfl | rfl | rfl
  · cases e1 : a == 0 with
    | false => simp -implicitDefEqProofs (maxSteps := 600000) (disch := (first | omega | decide)) only [go_sem, ↓reduceIte, seval, g1, g2, h5, l1, e1]
    | true => cases e2 : n == 0 with
      | false => simp -implicitDefEqProofs (maxSteps := 600000) (disch := (first | omega | decide)) only [go_sem, ↓reduceIte, seval, g1, g2, h5, l1, e1, e2]
      | true => cases kp with
        | true => simp -implicitDefEqProofs (maxSteps := 600000) (disch := (first | omega | decide)) only [go_sem, ↓reduceIte, seval, g1, g2, h5, l1, e1, e2]
        | false => cases e3 : (b.length : Int) == 0 <;> simp -implicitDefEqProofs (maxSteps := 600000) (disch := (first | omega | decide)) only [go_sem, ↓reduceIte, seval, g1, g2, h5, l1, e1, e2, e3]
  · cases e2 : n == 0 with
    | false => simp -implicitDefEqProofs (maxSteps := 600000) (disch := (first | omega | decide)) only [go_sem, ↓reduceIte, seval, g1, g2, h5, l1, e2]
    | true => cases e3 : (b.length : Int) == 0 <;> simp -implicitDefEqProofs (maxSteps := 600000) (disch := (first | omega | decide)) only [go_sem, ↓reduceIte, seval, g1, g2, h5, l1, e2, e3]
  · cases e2 : n == 0 with
    | false => simp -implicitDefEqProofs (maxSteps := 600000) (disch := (first | omega | decide)) only [go_sem, ↓reduceIte, seval, g1, g2, h5, l1, e2]
    | true => cases e3 : (b.length : Int) == 0 <;> simp -implicitDefEqProofs (maxSteps := 600000) (disch := (first | omega | decide)) only [go_sem, ↓reduceIte, seval, g1, g2, h5, l1, e2, e3]
  · cases kp with
    | true => simp -implicitDefEqProofs (maxSteps := 600000) (disch := (first | omega | decide)) only [go_sem, ↓reduceIte, seval, g1, g2, h5, l1]
    | false => cases e3 : (b.length : Int) == 0 <;> simp -implicitDefEqProofs (maxSteps := 600000) (disch := (first | omega | decide)) only [go_sem, ↓reduceIte, seval, g1, g2, h5, l1, e3]
  · cases e1 : a == 0 with
    | false => simp -implicitDefEqProofs (maxSteps := 600000) (disch := (first | omega | decide)) only [go_sem, ↓reduceIte, seval, g1, g2, h5, l1, e1]
    | true => cases e2 : n == 0 with
      | false => simp -implicitDefEqProofs (maxSteps := 600000) (disch := (first | omega | decide)) only [go_sem, ↓reduceIte, seval, g1, g2, h5, l1, e1, e2]
      | true => cases kp with
        | true => simp -implicitDefEqProofs (maxSteps := 600000) (disch := (first | omega | decide)) only [go_sem, ↓reduceIte, seval, g1, g2, h5, l1, e1, e2]
        | false => cases e3 : (b.length : Int) == 0 <;> simp -implicitDefEqProofs (maxSteps := 600000) (disch := (first | omega | decide)) only [go_sem, ↓reduceIte, seval, g1, g2, h5, l1, e1, e2, e3]
  · cases e1 : a == 0 with
    | false => simp -implicitDefEqProofs (maxSteps := 600000) (disch := (first | omega | decide)) only [go_sem, ↓reduceIte, seval, g1, g2, h5, l1, e1]
    | true => cases e2 : n == 0 with
      | false => simp -implicitDefEqProofs (maxSteps := 600000) (disch := (first | omega | decide)) only [go_sem, ↓reduceIte, seval, g1, g2, h5, l1, e1, e2]
      | true => cases kp with
        | true => simp -implicitDefEqProofs (maxSteps := 600000) (disch := (first | omega | decide)) only [go_sem, ↓reduceIte, seval, g1, g2, h5, l1, e1, e2]
        | false => cases e3 : (b.length : Int) == 0 <;> simp -implicitDefEqProofs (maxSteps := 600000) (disch := (first | omega | decide)) only [go_sem, ↓reduceIte, seval, g1, g2, h5, l1, e1, e2, e3]
  · cases kp with
    | true => simp -implicitDefEqProofs (maxSteps := 600000) (disch := (first | omega | decide)) only [go_sem, ↓reduceIte, seval, g1, g2, h5, l1]
    | false => cases e3 : (b.length : Int) == 0 <;> simp -implicitDefEqProofs (maxSteps := 600000) (disch := (first | omega | decide)) only [go_sem, ↓reduceIte, seval, g1, g2, h5, l1, e3]
  · cases e1 : a == 0 with
    | false => simp -implicitDefEqProofs (maxSteps := 600000) (disch := (first | omega | decide)) only [go_sem, ↓reduceIte, seval, g1, g2, h5, l1, e1]
    | true => cases kp <;> simp -implicitDefEqProofs (maxSteps := 600000) (disch := (first | omega | decide)) only [go_sem, ↓reduceIte, seval, g1, g2, h5, l1, e1]
noncomputable def T41i : Tab := T41h.add 17 (entry (fun (v : Ev) => [v.enc]) (fun v => v.b.length ≤ 1000000000) (fun v => .bool (rightE v)))
theorem T41i_ok : TabOK Tryd.prog T41i := T41h_ok.ent Tryd.func17 (by kernel_rfl) (by kernel_rfl) fun v h => c_ref41_Right v h
@[go_sem] theorem T41i_old {g : FuncId} {xs : List A} (h : g ≠ 17) : T41i.f g xs = T41h.f g xs := Tab.add_ne h
@[go_sem] theorem T41i_s : T41i.pl T41h := ⟨fun _ => rfl, fun _ => rfl, rfl, fun _ => rfl, rfl, fun _ => rfl, rfl⟩
theorem T41i_ref41_Right (v : Ev) (h : v.b.length ≤ 1000000000) : T41i.f 17 [v.enc] = some (.bool (rightE v)) := Tab.ent_eq (Γ := T41h) (fun i j h => by exact Ev.enc_inj i j (List.cons.inj h).1) v h
theorem t41_rRight {v : Ev} (h : v.b.length ≤ 1000000000) : T41i.f 17 [v.enc] = some (.bool (rightE v)) := T41i_ref41_Right v h
theorem ok_ref41_Line : codeOK Tryd.prog T41i Tryd.f19.ntmps (Tryd.f19.body.getD .skip) = true := by kernel_rfl
theorem c_ref41_Line (v : Ev) (h : rightE v = true) : CallA Tryd.prog 19 [v.enc] (· = .str (lineE v)) := by
  refine callA_of_body T41i_ok mixed Tryd.func19 rfl (Nat.le_of_ble_eq_true rfl) ok_ref41_Line ?_
  unfold Tryd.f19
  have hk := kind_cases h
  obtain ⟨_, _, ⟨a, e1, l1⟩, ⟨n, e2, l2⟩, hb, _⟩ := right_parts h
  obtain ⟨k, a0, n0, kp, b⟩ := v
  simp only at e1 e2 hb hk
  subst e1; subst e2
  have g1 := t41_rDigits (n := a) (by omega)
  have g2 := t41_rDigits (n := n) (by omega)
  have g3 := t5_rOf (s := b) (by omega)
  have d1 := digN19 (n := a) (by omega)
  have d2 := digN19 (n := n) (by omega)
  have d3 := (ofW_len b).2
  have t1 : ((a : Nat) : Int).toNat = a := by simp
  have t2 : ((n : Nat) : Int).toNat = n := by simp
  clear h
  rcases hk with rfl | rfl | rfl | rfl | rfl | rfl | rfl | rfl <;> cases kp <;> simp only [Ev.enc] <;> simp -implicitDefEqProofs (maxSteps := 600000) (disch := (first | omega | decide)) only [go_sem, ↓reduceIte, seval, g1, g2, g3, convB, bytesOfA_bytesA, Option.map_some]
  all_goals simp [lineE, wordsK, wordsE, lineW, t1, t2, tickT, sourceT, targetT, loseT, crashT, powerT, injectT, keepT]
  all_goals omega
noncomputable def T41j : Tab := T41i.add 19 (entry (fun (v : Ev) => [v.enc]) (fun v => rightE v = true) (fun v => .str (lineE v)))
theorem T41j_ok : TabOK Tryd.prog T41j := T41i_ok.ent Tryd.func19 (by kernel_rfl) (by kernel_rfl) fun v h => c_ref41_Line v h
@[go_sem] theorem T41j_old {g : FuncId} {xs : List A} (h : g ≠ 19) : T41j.f g xs = T41i.f g xs := Tab.add_ne h
@[go_sem] theorem T41j_s : T41j.pl T41i := ⟨fun _ => rfl, fun _ => rfl, rfl, fun _ => rfl, rfl, fun _ => rfl, rfl⟩
theorem T41j_ref41_Line (v : Ev) (h : rightE v = true) : T41j.f 19 [v.enc] = some (.str (lineE v)) := Tab.ent_eq (Γ := T41i) (fun i j h => by exact Ev.enc_inj i j (List.cons.inj h).1) v h
theorem t41_rLine {v : Ev} (h : rightE v = true) : T41j.f 19 [v.enc] = some (.str (lineE v)) := T41j_ref41_Line v h
def sameE (v w : Ev) : Bool := v.kind == w.kind && v.at_ == w.at_ && v.n == w.n && v.keep == w.keep && v.b == w.b
theorem same_self (v : Ev) : sameE v v = true := by simp [sameE]
theorem ok_ref41_Same : codeOK Tryd.prog T41j Tryd.f20.ntmps (Tryd.f20.body.getD .skip) = true := by kernel_rfl
theorem c_ref41_Same (v w : Ev) : CallA Tryd.prog 20 [v.enc, w.enc] (· = .bool (sameE v w)) := by
  refine callA_of_body T41j_ok mixed Tryd.func20 rfl (Nat.le_of_ble_eq_true rfl) ok_ref41_Same ?_
  unfold Tryd.f20
  obtain ⟨k, a, n, kp, b⟩ := v
  obtain ⟨k', a', n', kp', b'⟩ := w
  unfold sameE
  simp only [Ev.enc]
  cases h1 : k == k' with
  | false => simp -implicitDefEqProofs (disch := (first | omega | decide)) only [go_sem, ↓reduceIte, seval, h1, Bool.false_and]
  | true => cases h2 : a == a' with
    | false => simp -implicitDefEqProofs (disch := (first | omega | decide)) only [go_sem, ↓reduceIte, seval, h1, h2, Bool.false_and, Bool.true_and]
    | true => cases h3 : n == n' with
      | false => simp -implicitDefEqProofs (disch := (first | omega | decide)) only [go_sem, ↓reduceIte, seval, h1, h2, h3, Bool.false_and, Bool.true_and]
      | true => cases h4 : kp == kp' with
        | false => simp -implicitDefEqProofs (disch := (first | omega | decide)) only [go_sem, ↓reduceIte, seval, h1, h2, h3, h4, Bool.false_and, Bool.true_and]
        | true => simp -implicitDefEqProofs (maxSteps := 600000) (disch := (first | omega | decide)) only [go_sem, ↓reduceIte, seval, h1, h2, h3, h4, convB, bytesOfA_bytesA, Option.map_some, Bool.false_and, Bool.true_and]
noncomputable def T41k : Tab := T41j.add 20 (entry (fun (p : Ev × Ev) => [p.1.enc, p.2.enc]) (fun p => True) (fun p => .bool (sameE p.1 p.2)))
theorem T41k_ok : TabOK Tryd.prog T41k := T41j_ok.ent Tryd.func20 (by kernel_rfl) (by kernel_rfl) fun p h => c_ref41_Same p.1 p.2
@[go_sem] theorem T41k_old {g : FuncId} {xs : List A} (h : g ≠ 20) : T41k.f g xs = T41j.f g xs := Tab.add_ne h
@[go_sem] theorem T41k_s : T41k.pl T41j := ⟨fun _ => rfl, fun _ => rfl, rfl, fun _ => rfl, rfl, fun _ => rfl, rfl⟩
theorem T41k_ref41_Same (p : Ev × Ev) (h : True) : T41k.f 20 [p.1.enc, p.2.enc] = some (.bool (sameE p.1 p.2)) := Tab.ent_eq (Γ := T41j) (fun i j h => by exact Prod.ext (Ev.enc_inj _ _ (List.cons.inj h).1) (Ev.enc_inj _ _ (List.cons.inj (List.cons.inj h).2).1)) p h
theorem t41_Same (v w : Ev) : T41k.f 20 [v.enc, w.enc] = some (.bool (sameE v w)) := T41k_ref41_Same (v, w) trivial
theorem last_get (x : List UInt8) (r : List (List UInt8)) : ((x :: r).map A.str)[r.length]? = some (.str ((x :: r).getLast (by simp))) := by
  rw [List.getElem?_map]
  have : (x :: r)[r.length]? = some ((x :: r).getLast (by simp)) := by
    rw [List.getLast_eq_getElem, List.getElem?_eq_getElem (by simp)]; simp
  rw [this]; rfl
theorem ok_script_kind : codeOK Tryd.prog T41k Tryd.f34.ntmps (Tryd.f34.body.getD .skip) = true := by kernel_rfl
theorem c_script_kind (x : List UInt8) (r : List (List UInt8)) (hl : r.length ≤ 1000000) : CallA Tryd.prog 34 [.slc ((x :: r).map .str)] (· = .int .i64 (kindL x ((x :: r).getLast (by simp)))) := by
  refine callA_of_body T41k_ok mixed Tryd.func34 rfl (Nat.le_of_ble_eq_true rfl) ok_script_kind ?_
  unfold Tryd.f34
  have hg := last_get x r
  have h0 : ((x :: r).map A.str)[0]? = some (.str x) := rfl
  have hlen : ((x :: r).map A.str).length = r.length + 1 := by simp
  have c1 : ((r.length : Int) + 1 - 1) = (r.length : Int) := by omega
  have c2 : (0 : Int) ≤ (r.length : Int) := by omega
  have c3 : ((r.length + 1 : Nat) : Int) = (r.length : Int) + 1 := by omega
  generalize (x :: r).getLast (by simp) = last at *
  generalize (x :: r).map A.str = L at *
  unfold kindL
  by_cases e1 : x = tickT
  · rw [if_pos e1]
    have b1 : (x == [116, 105, 99, 107]) = true := by rw [e1]; rfl
    simp -implicitDefEqProofs (disch := (first | omega | decide)) only [go_sem, ↓reduceIte, seval, h0, b1]
  rw [if_neg e1]
  have b1 : (x == [116, 105, 99, 107]) = false := beq_eq_false_iff_ne.2 e1
  by_cases e2 : x = sourceT
  · rw [if_pos e2]
    have b2 : (x == [115, 111, 117, 114, 99, 101]) = true := by rw [e2]; rfl
    simp -implicitDefEqProofs (disch := (first | omega | decide)) only [go_sem, ↓reduceIte, seval, h0, b1, b2]
  rw [if_neg e2]
  have b2 : (x == [115, 111, 117, 114, 99, 101]) = false := beq_eq_false_iff_ne.2 e2
  by_cases e3 : x = targetT
  · rw [if_pos e3]
    have b3 : (x == [116, 97, 114, 103, 101, 116]) = true := by rw [e3]; rfl
    simp -implicitDefEqProofs (disch := (first | omega | decide)) only [go_sem, ↓reduceIte, seval, h0, b1, b2, b3]
  rw [if_neg e3]
  have b3 : (x == [116, 97, 114, 103, 101, 116]) = false := beq_eq_false_iff_ne.2 e3
  by_cases e4 : x = loseT
  · rw [if_pos e4]
    have b4 : (x == [108, 111, 115, 101]) = true := by rw [e4]; rfl
    simp -implicitDefEqProofs (disch := (first | omega | decide)) only [go_sem, ↓reduceIte, seval, h0, b1, b2, b3, b4]
  rw [if_neg e4]
  have b4 : (x == [108, 111, 115, 101]) = false := beq_eq_false_iff_ne.2 e4
  by_cases e5 : x = powerT
  · rw [if_pos e5]
    have b5 : (x == [112, 111, 119, 101, 114]) = true := by rw [e5]; rfl
    simp -implicitDefEqProofs (disch := (first | omega | decide)) only [go_sem, ↓reduceIte, seval, h0, b1, b2, b3, b4, b5]
  rw [if_neg e5]
  have b5 : (x == [112, 111, 119, 101, 114]) = false := beq_eq_false_iff_ne.2 e5
  by_cases e6 : x = injectT
  · rw [if_pos e6]
    have b6 : (x == [105, 110, 106, 101, 99, 116]) = true := by rw [e6]; rfl
    simp -implicitDefEqProofs (disch := (first | omega | decide)) only [go_sem, ↓reduceIte, seval, h0, b1, b2, b3, b4, b5, b6]
  rw [if_neg e6]
  have b6 : (x == [105, 110, 106, 101, 99, 116]) = false := beq_eq_false_iff_ne.2 e6
  by_cases e7 : last = sourceT
  · rw [if_pos e7]
    have b7 : (last == [115, 111, 117, 114, 99, 101]) = true := by rw [e7]; rfl
    simp -implicitDefEqProofs (disch := (first | omega | decide)) only [go_sem, ↓reduceIte, seval, h0, b1, b2, b3, b4, b5, b6, b7, hg, hlen, c1, c2, c3, wrap_i64]
  · rw [if_neg e7]
    have b7 : (last == [115, 111, 117, 114, 99, 101]) = false := beq_eq_false_iff_ne.2 e7
    simp -implicitDefEqProofs (disch := (first | omega | decide)) only [go_sem, ↓reduceIte, seval, h0, b1, b2, b3, b4, b5, b6, b7, hg, hlen, c1, c2, c3, wrap_i64]
def kindO (l : List (List UInt8)) : Int := match l with | x :: r => kindL x ((x :: r).getLast (by simp)) | [] => 0
noncomputable def T41l : Tab := T41k.add 34 (entry (fun (l : List (List UInt8)) => [.slc (l.map .str)]) (fun l => l ≠ [] ∧ l.length ≤ 1000000) (fun l => .int .i64 (kindO l)))
theorem T41l_ok : TabOK Tryd.prog T41l := T41k_ok.ent Tryd.func34 (by kernel_rfl) (by kernel_rfl) fun l h => (by obtain ⟨h1, h2⟩ := h; cases l with | nil => exact absurd rfl h1 | cons x r => exact c_script_kind x r (by simp at h2; omega))
@[go_sem] theorem T41l_old {g : FuncId} {xs : List A} (h : g ≠ 34) : T41l.f g xs = T41k.f g xs := Tab.add_ne h
@[go_sem] theorem T41l_s : T41l.pl T41k := ⟨fun _ => rfl, fun _ => rfl, rfl, fun _ => rfl, rfl, fun _ => rfl, rfl⟩
theorem T41l_script_kind (l : List (List UInt8)) (h : l ≠ [] ∧ l.length ≤ 1000000) : T41l.f 34 [.slc (l.map .str)] = some (.int .i64 (kindO l)) := Tab.ent_eq (Γ := T41k) (fun i j h => by simpa [Prod.ext_iff, and_assoc] using h) l h
theorem t41_kind {x : List UInt8} {r : List (List UInt8)} (h : r.length ≤ 100000) : T41l.f 34 [.slc ((x :: r).map .str)] = some (.int .i64 (kindL x ((x :: r).getLast (by simp)))) := T41l_script_kind (x :: r) ⟨by simp, by simp; omega⟩
end Go.Proofs.YthiedimbmcgpdaaDoor
