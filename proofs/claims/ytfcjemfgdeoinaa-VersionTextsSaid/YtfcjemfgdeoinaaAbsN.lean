/- Soundness, eleventh part: strings as bytes, append. -/
import Derived.Test.YtfcjemfgdeoinaaAbsM
import Derived.Deep.Upon
import Derived.Laws.IdiomStrings
namespace Go.Abs
open Go.RowKit

section
variable {P : Program} {N0 : Nat → Prop} {w0 : Base} {nt : Nat} {σ : St} {φ : List Own} {a : Act} {w : World}

theorem src_slice {E : Env} {tx e' : TypeId} (hk : P.underlying tx = some (.slice e')) {es : List A} {k : Nat} {q : Option Addr} {cap : Nat}
    (hr : es ≠ [] → ∃ b off, q = some ⟨b, off, none⟩ ∧ RepE E k b off es) : ∃ news, Src P k tx (.slice q es.length cap) es.length news E.w ∧ RowRel E k es news := by
  cases hes : es with
  | nil =>
    refine ⟨[], ?_, by simp [RowRel]⟩
    cases q with
    | none => exact Src.ofNil E.w hk cap
    | some q => exact Src.ofSlice E.w hk q 0 cap [] (by simp) (by simp) (by simp)
  | cons y ys =>
    rw [← hes]
    obtain ⟨b, off, rfl, hE⟩ := hr (by rw [hes]; simp)
    obtain ⟨vs, h1, h2, h3⟩ := RowRel.of_mem hE
    refine ⟨vs, Src.ofSlice E.w hk ⟨b, off, none⟩ es.length cap vs h1.length (fun j u hu => ?_) h3, h1⟩
    rw [Addr.add_lit]
    exact h2 j u hu

theorem bytes_row (E : Env) : ∀ s : List UInt8, RowRel E 1 (bytesA s) (s.map fun b => Value.int .u8 b.toNat)
  | [] => by simp [bytesA, RowRel]
  | c :: s => by
    simp only [bytesA, List.map_cons, RowRel]
    refine ⟨rfl, by simp, ?_, ?_⟩
    · simp [encU8, A.cells, RepL, Rep]
    · simpa [bytesA] using bytes_row E s
theorem bytes_pure : ∀ s : List UInt8, A.pure.pureL (bytesA s) = true
  | [] => rfl
  | c :: s => by simp only [bytesA, List.map_cons, A.pure.pureL, encU8, A.pure, Bool.true_and]; exact bytes_pure s

theorem src_sound (h : Conc N0 w0 nt σ φ a w) {e tx k : Nat} {x : Operand} {src : List A} (hs : srcE P σ e tx k (σ.ev x) = some src) :
    ∃ news, Src P k tx (a.eval x) src.length news w ∧ RowRel (envOf N0 φ w) k src news ∧ A.pure.pureL src = true := by
  have hx := h.ev x
  have strid : ∀ {es : List A}, strOK k es = true → es ≠ [] → strideOf es = k := fun {es} h1 h2 => by
    unfold strOK at h1
    cases es with
    | nil => exact absurd rfl h2
    | cons y ys => simpa using h1
  have hsl : ∀ {t : TypeId}, (tyElem P t).isSome = true → ∃ e', P.underlying t = some (.slice e') := fun {t} ht => by
    cases hq : tyElem P t with
    | none => simp [hq] at ht
    | some e' => exact ⟨e', tyElem_eq hq⟩
  cases hc : σ.ev x <;> simp only [hc, srcE] at hs <;> try (simp at hs; done)
  case str s =>
    split at hs
    · rename_i hcond
      obtain ⟨_, rfl, ht⟩ := hcond
      obtain rfl := Option.some.inj hs
      rw [hc] at hx
      simp only [Rep] at hx
      rw [hx]
      have := Src.ofString (P := P) w (tyStr_eq ht) ⟨s.toArray⟩
      refine ⟨byteCells ⟨s.toArray⟩, ?_, ?_, bytes_pure s⟩
      · simpa [bytesA, size_mk] using this
      · simpa [byteCells] using bytes_row (envOf N0 φ w) s
    · simp at hs
  case slc es =>
    split at hs
    · rename_i hcond
      obtain rfl := Option.some.inj hs
      obtain ⟨e', he'⟩ := hsl hcond.2
      rw [hc] at hx
      simp only [Rep] at hx
      obtain ⟨hp, q, cap, hv, hlc, hl⟩ := hx
      rw [hv]
      obtain ⟨news, h1, h2⟩ := src_slice (E := envOf N0 φ w) (k := k) (q := q) (cap := cap) he' (es := es) (fun hne => by
        obtain ⟨b, off, h1, _, _, h2⟩ := hl hne
        rw [strid hcond.1 hne] at h2
        exact ⟨b, off, h1, h2⟩)
      exact ⟨news, h1, h2, hp⟩
    · simp at hs
  case clip es =>
    split at hs
    · rename_i hcond
      obtain rfl := Option.some.inj hs
      obtain ⟨e', he'⟩ := hsl hcond.2
      rw [hc] at hx
      simp only [Rep] at hx
      obtain ⟨hp, q, hv, hl⟩ := hx
      rw [hv]
      obtain ⟨news, h1, h2⟩ := src_slice (E := envOf N0 φ w) (k := k) (q := q) (cap := es.length) he' (es := es) (fun hne => by
        obtain ⟨b, off, h1, _, _, h2⟩ := hl hne
        rw [strid hcond.1 hne] at h2
        exact ⟨b, off, h1, h2⟩)
      exact ⟨news, h1, h2, hp⟩
    · simp at hs
  case nils =>
    split at hs
    · rename_i hcond
      obtain rfl := Option.some.inj hs
      obtain ⟨e', he'⟩ := hsl hcond
      rw [hc] at hx
      simp only [Rep] at hx
      rw [hx]
      exact ⟨[], Src.ofNil w he' 0, by simp [RowRel], rfl⟩
    · simp at hs
  case row n off k' len cl =>
    split at hs
    · rename_i hcond
      obtain ⟨rfl, ht⟩ := hcond
      obtain ⟨e', he'⟩ := hsl ht
      unfold viewRow at hs
      split at hs
      · rename_i es hvr
        obtain rfl := Option.some.inj hs
        split at hvr
        · rename_i k'' fs ho
          split at hvr
          · rename_i hlen
            obtain ⟨rfl, hlen⟩ := hlen
            simp only [Option.some.injEq, A.slc.injEq] at hvr
            subst hvr
            rw [hc] at hx
            have hl : ((fs.drop off).take len).length = len := by simp; omega
            simp only [Rep] at hx
            rcases hx with ⟨o, hφ, hf, rfl, _, q, hv⟩ | ⟨b, cap, c', e'', fr, hφ, hv, hlc, _, hb, _⟩
            · rw [hv]
              obtain ⟨news, h1, h2⟩ := src_slice (E := envOf N0 φ w) (k := k'') (q := q) (cap := 0) he' (es := []) (fun hne => absurd rfl hne)
              exact ⟨news, by simpa [envOf] using h1, by simpa using h2, by simp [A.pure.pureL]⟩
            · have hob := h.objs n _ _ ho hφ
              simp only [ObjRel] at hob
              obtain ⟨_, hp, _, hE⟩ := hob
              have hE' := RepE_take (n := len) (RepE_drop (n := off) hE)
              have hp' := pureL_take (n := len) (pureL_drop (n := off) hp)
              rw [hv]
              obtain ⟨news, h1, h2⟩ := src_slice (E := envOf N0 φ w) (k := k'') (q := some ⟨b, off * k'', none⟩) (cap := cap) he' (es := (fs.drop off).take len) (fun _ => ⟨b, _, rfl, by simpa using hE'⟩)
              rw [hl] at h1
              exact ⟨news, by rw [hl]; exact h1, h2, hp'⟩
          · simp at hvr
        · simp at hvr
      · simp at hs
    · simp at hs

theorem grown_rel {E' : Env} {B k : Nat} {e : TypeId} {vs : List Value} {zs : Array Value} {es : List A} (hB : E'.w.heap[B]? = some (.cells (vs.toArray ++ zs) e (0, 0)))
    (hr : RowRel E' k es vs) (hone : ∀ u ∈ vs, u.oneCell' = true) (hp : A.pure.pureL es = true) : ObjRel E' (.row k es) (.loc B k) := by
  simp only [ObjRel]
  refine ⟨trivial, hp, ⟨_, e, (0, 0), hB, unfrozen_plain _⟩, RowRel.mem hr (fun j u hu => ?_) hone⟩
  have hlt := (List.getElem?_eq_some_iff.1 hu).1
  simp only [World.cell?, hB, Nat.zero_add]
  have := Array.getElem?_append_left (xs := vs.toArray) (ys := zs) (i := j) (by simpa using hlt)
  simp only [this]
  simpa using hu

/-- The types that an append asks. -/
structure AppTy (P : Program) (t e : TypeId) (k : Nat) (i : TypeInfo) (z : Value) : Prop where
  ty : P.underlying t = some (.slice e)
  info : P.info? e = some i
  size : i.size = k
  zero : i.zero = some z
  cells : z.cells.size = k
  pos : k ≠ 0
  bytes : i.bytes ≠ 0

theorem app_ty {t e : TypeId} {k : Nat} (he : tyElem P t = some e) (hk : tySize P e = some k) (h0 : k ≠ 0) (hb : tyBytes P e ≠ 0) (hz : zeroOK P e k = true) : ∃ i z, AppTy P t e k i z ∧ i.bytes = tyBytes P e := by
  have hty := tyElem_eq he
  unfold tySize at hk
  cases hi : P.info? e with
  | none => simp [hi] at hk
  | some i =>
    simp [hi] at hk
    unfold zeroOK at hz
    cases hzz : zeroA P e with
    | none => simp [hzz] at hz
    | some zz =>
      rw [hzz] at hz
      simp only [Bool.and_eq_true, beq_iff_eq] at hz
      have hz0 := hzz
      unfold zeroA at hz0
      simp only [hi, Option.bind_some] at hz0
      cases hiz : i.zero with
      | none => simp [hiz] at hz0
      | some z =>
        simp [hiz] at hz0
        have hrep := Rep_toA (envOf (fun _ => False) [] (default : World)) z
        rw [hz0] at hrep
        obtain ⟨_, _, h3⟩ := Rep_cells hrep hz.1
        have hbb : i.bytes = tyBytes P e := by simp [tyBytes, Program.bytesOf, hi]
        exact ⟨i, z, ⟨hty, hi, hk, hiz, by rw [h3]; exact hz.2, h0, by rw [hbb]; exact hb⟩, hbb⟩

theorem run_append2 {d : Option Tmp} {b x : Operand} {t tx ty : TypeId} {p : String} {af : Array Edge} {g : Option (Nat × Bool)} {v : Value} {w' : World}
    (h : (Builtin.append_ #[t, tx] ty #[a.eval b, a.eval x]).run P w = .ok v w') :
    (Go.execOp a.eval ⟨d, .call ⟨.builtin .append, ⟨[b, x]⟩, ⟨[t, tx]⟩⟩, ty, p, af, g⟩).run P w = .ok (.value v) w' := by
  obtain ⟨cs, hcs⟩ := run_builtin (P := P) (a := a) (w := w) (b := .append) (xs := [b, x]) (us := ⟨[t, tx]⟩) (d := d) (t := ty) (p := p) (af := af) (g := g)
  rw [hcs]
  exact run_v (s := Builtin.append_ #[t, tx] ty #[a.eval b, a.eval x]) h
end

end Go.Abs
