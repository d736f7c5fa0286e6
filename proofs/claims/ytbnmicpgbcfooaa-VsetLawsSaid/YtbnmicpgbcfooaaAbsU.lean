/- What came in, as pure data: an argument that reads as data, and whose type is made of integers, bools, strings, structs, arrays and slices of these. -/
import Derived.Test.YtbnmicpgbcfooaaAbsT
import Derived.Deep.Slices
import Derived.OpenShut
namespace Go.Abs
open Go.RowKit

/-- What a memory cell of a type holds: 'list': a slice whose elements are one cell; 'rows': one whose elements are structs or arrays. -/
inductive CT where
  | int (k : IntKind)
  | bool
  | str
  | list (c : CT)
  | rows (cs : List CT)

mutual
def fits : CT → A → Prop
  | .int k, x => ∃ n, x = .int k n ∧ (Lit.int k n).wf = true
  | .bool, x => ∃ b, x = .bool b
  | .str, x => ∃ s, x = .str s ∧ s.length ≤ maxLen
  | .list c, x => ∃ es, x = .slc es ∧ es.length ≤ maxLen ∧ ∀ e ∈ es, fits c e
  | .rows cs, x => ∃ es, x = .slc es ∧ es.length ≤ maxLen ∧ ∀ e ∈ es, ∃ ys, e = .agg ys ∧ fitsL cs ys
def fitsL : List CT → List A → Prop
  | [], ys => ys = []
  | c :: cs, ys => ∃ y zs, ys = y :: zs ∧ fits c y ∧ fitsL cs zs
end

def flatGo (rec : TypeId → Option (List CT)) (size : TypeId → Nat) : List Field → Nat → Option (List CT)
  | [], _ => some []
  | f :: fs, off =>
    if f.offset = off then
      match rec f.type with
      | some ks => if ks.length = size f.type then (flatGo rec size fs (off + size f.type)).map (ks ++ ·) else none
      | none => none
    else none
/-- The cells of a type. -/
def flatTy (P : Program) : Nat → TypeId → Option (List CT)
  | 0, _ => none
  | d + 1, t =>
    match P.underlying t with
    | some .bool => some [.bool]
    | some (.int k) => some [.int k]
    | some .string => some [.str]
    | some (.slice e) =>
      match tyAgg P e, flatTy P d e with
      | some true, some (c :: cs) => if (c :: cs).length = P.cellsOf e then some [.rows (c :: cs)] else none
      | some false, some [c] => if P.cellsOf e = 1 then some [.list c] else none
      | _, _ => none
    | some (.struct fs) => (flatGo (flatTy P d) P.cellsOf fs.toList 0).bind fun ks => if ks.length = P.cellsOf t then some ks else none
    | some (.array n e) =>
      match flatTy P d e with
      | some ks => if ks.length = P.cellsOf e ∧ n * ks.length = P.cellsOf t then some (List.replicate n ks).flatten else none
      | none => none
    | _ => none

theorem fitsL_length : ∀ {cs : List CT} {ys : List A}, fitsL cs ys → ys.length = cs.length
  | [], ys, h => by simp only [fitsL] at h; subst h; rfl
  | c :: cs, ys, h => by
    simp only [fitsL] at h
    obtain ⟨y, zs, rfl, _, h⟩ := h
    simp [fitsL_length h]
theorem fitsL_append : ∀ {cs ds : List CT} {ys zs : List A}, fitsL cs ys → fitsL ds zs → fitsL (cs ++ ds) (ys ++ zs)
  | [], ds, ys, zs, h, h' => by simp only [fitsL] at h; subst h; simpa using h'
  | c :: cs, ds, ys, zs, h, h' => by
    simp only [fitsL] at h
    obtain ⟨y, us, rfl, h1, h2⟩ := h
    simp only [List.cons_append, fitsL]
    exact ⟨y, us ++ zs, rfl, h1, fitsL_append h2 h'⟩

section
variable {H : Type} {enc : TypeId × Value → H} {P : Program} {w : World} {sp : Nat → Bool} {held : Bool}

/-- What is read is that data. -/
def Reads (w : World) (cts : List CT) (cs : List Value) : Prop := ∃ xs : List A, RepL ⟨fun _ => False, [], w⟩ xs cs ∧ fitsL cts xs ∧ A.pure.pureL xs = true ∧ ∀ u ∈ cs, u.oneCell' = true

theorem Reads.append {cts cts' : List CT} {cs cs' : List Value} (h : Reads w cts cs) (h' : Reads w cts' cs') : Reads w (cts ++ cts') (cs ++ cs') := by
  obtain ⟨xs, h1, h2, h3, h4⟩ := h
  obtain ⟨ys, g1, g2, g3, g4⟩ := h'
  refine ⟨xs ++ ys, RepL_append h1 g1, fitsL_append h2 g2, pureL_of fun j y hy => ?_, fun u hu => ?_⟩
  · rcases List.mem_append.1 (List.mem_of_getElem? hy) with hm | hm
    · obtain ⟨r, hr⟩ := List.getElem?_of_mem hm; exact pureL_getElem h3 hr
    · obtain ⟨r, hr⟩ := List.getElem?_of_mem hm; exact pureL_getElem g3 hr
  · rcases List.mem_append.1 hu with hu | hu
    · exact h4 u hu
    · exact g4 u hu
theorem Reads.nil : Reads w [] [] := ⟨[], by simp [RepL], by simp [fitsL], rfl, by simp⟩

theorem reads_struct {rec : TypeId → Option (List CT)} {size : TypeId → Nat} {cs : List Value} : ∀ {fs : List Field} {off : Nat} {ks : List CT}, flatGo rec size fs off = some ks →
    (∀ f ∈ fs, ∀ k, rec f.type = some k → Reads w k ((cs.drop f.offset).take (size f.type))) → off + ks.length = cs.length → Reads w ks (cs.drop off)
  | [], off, ks, h, _, hl => by
    simp only [flatGo, Option.some.injEq] at h
    subst h
    have : cs.drop off = [] := List.drop_of_length_le (by simp at hl; omega)
    rw [this]
    exact Reads.nil
  | f :: fs, off, ks, h, hf, hl => by
    simp only [flatGo] at h
    split at h
    · rename_i ho
      split at h
      · rename_i k hk
        split at h
        · rename_i hsz
          cases hg : flatGo rec size fs (off + size f.type) with
          | none => simp [hg] at h
          | some ks' =>
            simp [hg] at h
            subst h
            have h1 := hf f (by simp) k hk
            rw [ho] at h1
            have h2 := reads_struct hg (fun g hgm => hf g (by simp [hgm])) (by simp at hl; omega)
            have := h1.append h2
            rw [show cs.drop (off + size f.type) = (cs.drop off).drop (size f.type) by rw [List.drop_drop], List.take_append_drop] at this
            exact this
        · simp at h
      · simp at h
    · simp at h

theorem reads_array {ks : List CT} {k : Nat} (hk : ks.length = k) : ∀ {n : Nat} {cs : List Value}, cs.length = n * k → (∀ i, i < n → Reads w ks ((cs.drop (i * k)).take k)) → Reads w (List.replicate n ks).flatten cs
  | 0, cs, hl, _ => by
    have : cs = [] := List.length_eq_zero_iff.1 (by simpa using hl)
    subst this
    simpa using Reads.nil (w := w)
  | n + 1, cs, hl, h => by
    rw [List.replicate_succ, List.flatten_cons]
    have h0 := h 0 (by omega)
    simp only [Nat.zero_mul, List.drop_zero] at h0
    have hr := reads_array hk (n := n) (cs := cs.drop k) (by simp [hl, Nat.add_mul]) (fun i hi => by
      have := h (i + 1) (by omega)
      rw [List.drop_drop, show k + i * k = (i + 1) * k by rw [Nat.add_mul]; omega]
      exact this)
    have := h0.append hr
    rw [List.take_append_drop] at this
    exact this

theorem spot_of {a : Addr} {v : Value} (h : w.cell? a = some v) : a = ⟨a.block, a.off, none⟩ ∧ a.block < w.heap.size := by
  unfold World.cell? at h
  split at h
  · rename_i c e fr hb
    split at h
    · simp at h
    · rename_i hs
      obtain ⟨b, o, s⟩ := a
      have : s = none := by cases s <;> simp_all
      subst this
      refine ⟨rfl, ?_⟩
      rcases Nat.lt_or_ge b w.heap.size with h' | h'
      · exact h'
      · rw [Array.getElem?_eq_none h'] at hb; simp at hb
  · simp at h

theorem reads_slice {k len cap : Nat} {a : Addr} (hk : k ≠ 0) (hlc : len ≤ cap) {mk : List A → A} {cts : List CT} (hmk : ∀ ys, fitsL cts ys → (mk ys).cells = ys) (hmp : ∀ ys, fitsL cts ys → A.pure.pureL ys = true → (mk ys).pure = true)
    (hx : ∀ i, i < len → ∃ cs, w.cells? 0 (a.add (i * k)) k = some cs ∧ Reads w cts cs) : ∃ es : List A, Rep ⟨fun _ => False, [], w⟩ (.slc es) (.slice (some a) len cap) ∧ es.length = len ∧ (A.slc es).pure = true ∧ ∀ e ∈ es, ∃ ys, e = mk ys ∧ fitsL cts ys := by
  obtain ⟨X, hX⟩ := Go.Deep.choose_lt (α := List A) (p := fun i ys => ∃ cs, w.cells? 0 (a.add (i * k)) k = some cs ∧ RepL ⟨fun _ => False, [], w⟩ ys cs ∧ fitsL cts ys ∧ A.pure.pureL ys = true ∧ ∀ u ∈ cs, u.oneCell' = true) (fun i hi => by
    obtain ⟨cs, h1, ys, h2⟩ := hx i hi
    exact ⟨ys, cs, h1, h2⟩)
  refine ⟨(List.range len).map fun i => mk (X i), ?_, by simp, by simp [A.pure], ?_⟩
  · simp only [Rep]
    refine ⟨pureL_of fun i e he => ?_, some a, cap, by simp, by simpa using hlc, fun hne => ?_⟩
    · have := List.mem_of_getElem? he
      obtain ⟨j, hj, rfl⟩ := List.mem_map.1 this
      obtain ⟨cs, _, _, hf, hp, _⟩ := hX j (List.mem_range.1 hj)
      exact hmp _ hf hp
    · have hlen : 0 < len := by
        rcases Nat.eq_zero_or_pos len with h | h
        · subst h; simp at hne
        · exact h
      obtain ⟨cs0, h1, h2, _⟩ := hX 0 hlen
      obtain ⟨_, hl0, hg0⟩ := World.cells?_some h1
      have h0 := hg0 0 (by omega)
      rw [Go.Deep.add_add] at h0
      simp only [Nat.zero_mul, Nat.add_zero] at h0
      have ha0 : a.add 0 = a := by simp [Addr.add]
      rw [ha0, List.getElem?_eq_getElem (by omega)] at h0
      obtain ⟨hspot, hblk⟩ := spot_of h0
      refine ⟨a.block, a.off, by rw [← hspot], hblk, fun h => h, ?_⟩
      have hE : RepE ⟨fun _ => False, [], w⟩ k a.block a.off ((List.range len).map fun i => mk (X i)) := by
        refine RepE_iff.2 fun i e he => ?_
        have hi : i < len := by
          have := (List.getElem?_eq_some_iff.1 he).1
          simpa using this
        have he' : e = mk (X i) := by
          rw [List.getElem?_map, List.getElem?_range hi] at he
          simpa using he.symm
        subst he'
        obtain ⟨cs, g1, g2, g3, g4, g5⟩ := hX i hi
        obtain ⟨_, gl, gg⟩ := World.cells?_some g1
        have hyl : (X i).length = k := by rw [(RepL_iff.1 g2).1, gl]
        rw [hmk _ g3]
        refine ⟨hyl, RepM_of_vals (vs := cs) (fun j v hv => ?_) g2 g5⟩
        have hj : j < k := by
          have := (List.getElem?_eq_some_iff.1 hv).1
          omega
        have := gg j hj
        rw [Go.Deep.add_add, hspot, Addr.add_lit, hv] at this
        rw [Nat.add_assoc]
        exact this
      have hst : strideOf ((List.range len).map fun i => mk (X i)) = k := stride_of hE hne
      rw [hst]
      exact hE
  · intro e he
    obtain ⟨j, hj, rfl⟩ := List.mem_map.1 he
    obtain ⟨cs, _, _, hf, _⟩ := hX j (List.mem_range.1 hj)
    exact ⟨X j, rfl, hf⟩

theorem flat_one {e : TypeId} {d : Nat} {cts : List CT} (h : tyAgg P e = some false) (hf : flatTy P d e = some cts) : ∃ c, cts = [c] := by
  cases d with
  | zero => simp [flatTy] at hf
  | succ d =>
    unfold flatTy at hf
    unfold tyAgg at h
    split at hf <;> rename_i hu <;> (try simp only [hu] at h) <;> try (simp at h; done)
    · exact ⟨_, (Option.some.inj hf).symm⟩
    · exact ⟨_, (Option.some.inj hf).symm⟩
    · exact ⟨_, (Option.some.inj hf).symm⟩
    · split at hf
      · split at hf
        · exact ⟨_, (Option.some.inj hf).symm⟩
        · simp at hf
      · split at hf
        · exact ⟨_, (Option.some.inj hf).symm⟩
        · simp at hf
      · simp at hf
    · simp at hf

theorem reads_of_trod : ∀ (d : Nat) {t : TypeId} {cts : List CT} {fuel : Nat} {cs : List Value} {x : DataW H × List MemPlace}, flatTy P d t = some cts → DataW.trod enc P w 0 sp held fuel t cs = some x → Reads w cts cs := by
  intro d
  induction d with
  | zero => intro t cts fuel cs x hf; simp [flatTy] at hf
  | succ d ih =>
    intro t cts fuel cs x hf h
    unfold flatTy at hf
    split at hf
    · rename_i hu
      obtain rfl := Option.some.inj hf
      obtain ⟨b, rfl, _⟩ := DataW.trod_bool hu h
      exact ⟨[.bool b], by simp [RepL, Rep], by simp [fitsL, fits], rfl, by simp [Value.oneCell']⟩
    · rename_i k hu
      obtain rfl := Option.some.inj hf
      obtain ⟨n, rfl, _, hn⟩ := DataW.trod_int hu h
      exact ⟨[.int k n], by simp [RepL, Rep], by simp [fitsL, fits, hn], rfl, by simp [Value.oneCell']⟩
    · rename_i hu
      obtain rfl := Option.some.inj hf
      obtain ⟨s, rfl, _, hs⟩ := DataW.trod_string hu h
      have hsl : s.data.toList.length ≤ maxLen := by rw [Array.length_toList]; exact hs
      refine ⟨[.str s.data.toList], by simp [RepL, Rep], ?_, rfl, by simp [Value.oneCell']⟩
      simp only [fitsL, fits]
      exact ⟨_, [], rfl, ⟨_, rfl, hsl⟩, rfl⟩
    · rename_i e hu
      have nilcase : ∀ c : CT, (∀ y : A, y = .slc [] → fits c y) → Reads w [c] [.slice none 0 0] := fun c hc => by
        refine ⟨[.slc []], ?_, ?_, rfl, by simp [Value.oneCell']⟩
        · simp only [RepL, Rep]
          exact ⟨_, [], rfl, ⟨rfl, none, 0, rfl, Nat.le_refl _, fun h => absurd rfl h⟩, rfl⟩
        · simp only [fitsL]
          exact ⟨_, [], rfl, hc _ rfl, rfl⟩
      rcases Go.Deep.open_slice hu h with ⟨rfl, _⟩ | ⟨a, len, cap, m, n, D, Pl, rfl, _, hlc, hcm, hm, _, hx⟩
      · split at hf
        · split at hf
          · obtain rfl := Option.some.inj hf
            exact nilcase _ fun y hy => by subst hy; simp only [fits]; exact ⟨[], rfl, by simp, by simp⟩
          · simp at hf
        · split at hf
          · obtain rfl := Option.some.inj hf
            exact nilcase _ fun y hy => by subst hy; simp only [fits]; exact ⟨[], rfl, by simp, by simp⟩
          · simp at hf
        · simp at hf
      · have hlm : len ≤ m := by rw [hm]; split <;> omega
        split at hf
        · rename_i c cs' hag hfe
          split at hf
          · rename_i hsz
            obtain rfl := Option.some.inj hf
            rw [← hsz] at hx
            obtain ⟨es, g1, g2, g3, g4⟩ := reads_slice (w := w) (k := (c :: cs').length) (a := a) (len := len) (cap := cap) (by simp) hlc (mk := A.agg) (cts := c :: cs') (fun ys _ => rfl) (fun ys _ h => by simpa only [A.pure] using h) (fun i hi => by
              obtain ⟨cs'', h1, h2⟩ := hx i (by omega)
              exact ⟨cs'', h1, ih hfe h2⟩)
            refine ⟨[.slc es], by simp only [RepL]; exact ⟨_, [], rfl, g1, rfl⟩, ?_, by simp only [A.pure.pureL, g3]; rfl, by simp [Value.oneCell']⟩
            simp only [fitsL, fits]
            exact ⟨_, [], rfl, ⟨es, rfl, by omega, g4⟩, rfl⟩
          · simp at hf
        · rename_i c hag hfe
          split at hf
          · rename_i hsz
            obtain rfl := Option.some.inj hf
            rw [hsz] at hx
            have hnag : ∀ y : A, fits c y → ∀ ys, y ≠ .agg ys := fun y hy ys e => by
              subst e
              cases c <;> simp [fits] at hy
            obtain ⟨es, g1, g2, g3, g4⟩ := reads_slice (w := w) (k := 1) (a := a) (len := len) (cap := cap) (by simp) hlc (mk := fun ys => ys.headD .any) (cts := [c]) (fun ys hys => by
              simp only [fitsL] at hys
              obtain ⟨y, zs, rfl, hy, rfl⟩ := hys
              have := hnag y hy
              cases y <;> first | rfl | exact absurd rfl (this _)) (fun ys hys hp => by
              simp only [fitsL] at hys
              obtain ⟨y, zs, rfl, hy, rfl⟩ := hys
              simpa [A.pure.pureL] using hp) (fun i hi => by
              obtain ⟨cs'', h1, h2⟩ := hx i (by omega)
              exact ⟨cs'', h1, ih hfe h2⟩)
            refine ⟨[.slc es], by simp only [RepL]; exact ⟨_, [], rfl, g1, rfl⟩, ?_, by simp only [A.pure.pureL, g3]; rfl, by simp [Value.oneCell']⟩
            simp only [fitsL, fits]
            refine ⟨_, [], rfl, ⟨es, rfl, by omega, fun e he => ?_⟩, rfl⟩
            obtain ⟨ys, he', hys⟩ := g4 e he
            simp only [fitsL] at hys
            obtain ⟨y, zs, rfl, hy, rfl⟩ := hys
            rw [he']
            exact hy
          · simp at hf
        · simp at hf
    · rename_i fs hu
      cases hg : flatGo (flatTy P d) P.cellsOf fs.toList 0 with
      | none => simp [hg] at hf
      | some ks =>
        simp only [hg, Option.bind_some] at hf
        split at hf
        · rename_i hsz
          obtain rfl := Option.some.inj hf
          obtain ⟨xs, n, _, _, hl, hxl, hx⟩ := DataW.trod_struct hu h
          have := reads_struct (w := w) (cs := cs) hg (fun f hfm k hk => by
            obtain ⟨i, hi⟩ := List.getElem?_of_mem hfm
            have hxi := hx i f (by simpa using hi)
            have hlt : i < xs.length := by
              rw [hxl]
              have := (List.getElem?_eq_some_iff.1 hi).1
              simpa using this
            rw [List.getElem?_eq_getElem hlt] at hxi
            exact ih hk hxi) (by omega)
          simpa using this
        · simp at hf
    · rename_i n e hu
      split at hf
      · rename_i ks hk
        split at hf
        · rename_i hsz
          obtain rfl := Option.some.inj hf
          obtain ⟨xs, m, _, _, hl, hxl, hx⟩ := DataW.trod_array hu h
          refine reads_array (k := P.cellsOf e) hsz.1 (by rw [hl, ← hsz.2, hsz.1]) fun i hi => ?_
          have hxi := hx i hi
          rw [List.getElem?_eq_getElem (by omega)] at hxi
          exact ih hk hxi
        · simp at hf
      · simp at hf
    · simp at hf
end

end Go.Abs
