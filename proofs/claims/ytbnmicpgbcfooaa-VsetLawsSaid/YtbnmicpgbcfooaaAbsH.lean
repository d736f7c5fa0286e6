/- Soundness, fifth part: conversion, slices, indexes, fields, literals. -/
import Derived.Test.YtbnmicpgbcfooaaAbsG
namespace Go.Abs
open Go.RowKit

section
variable {P : Program} {N0 : Nat → Prop} {w0 : Base} {nt : Nat} {σ : St} {φ : List Own} {a : Act} {w : World}

theorem agg_isSome {t : TypeId} (h : (tyAgg P t).isSome = true) : ∃ d, P.underlying t = some d := by
  cases hu : P.underlying t with
  | some d => exact ⟨d, rfl⟩
  | none => simp [tyAgg, hu] at h

theorem bytes_vals {E : Env} {b : Nat} : ∀ {es : List A} {s : List UInt8} {off : Nat}, bytesOfA es = some s → RepE E 1 b off es → ∃ ns : List Int, E.w.rangeAt b off (ns.map (Value.int .u8)) ∧ ns.length = es.length ∧ ns.map (fun n => UInt8.ofNat n.toNat) = s
  | [], s, off, h, _ => by simp [bytesOfA] at h; subst h; exact ⟨[], fun j v hv => by simp at hv, rfl, rfl⟩
  | x :: xs, s, off, h, hE => by
    simp only [bytesOfA] at h
    cases hx : byteOfA x with
    | none => simp [hx] at h
    | some c =>
      simp only [hx, Option.bind_some] at h
      cases hl : bytesOfA xs with
      | none => simp [hl] at h
      | some s' =>
        simp [hl] at h
        subst h
        obtain ⟨⟨h1, hm⟩, hE'⟩ := RepE_cons.1 hE
        obtain ⟨ns, hr, hlen, hns⟩ := bytes_vals hl hE'
        unfold byteOfA at hx
        split at hx
        · rename_i n
          simp at hx
          subst hx
          simp only [A.cells] at hm
          obtain ⟨v, hv, _, hrep⟩ := RepM_one.1 hm
          rw [rep_int hrep] at hv
          refine ⟨n :: ns, fun j u hu => ?_, by simp [hlen], by simp [hns]⟩
          cases j with
          | zero => simp at hu; subst hu; simpa using hv
          | succ j =>
            have := hr j u (by simpa using hu)
            rwa [show off + 1 + j = off + (j + 1) by omega] at this
        · simp at hx

theorem foldl_bytes : ∀ (ns : List Int) (l : List UInt8), ns.foldl (fun (r : ByteArray) n => r.push (UInt8.ofNat n.toNat)) ⟨l.toArray⟩ = ⟨(l ++ ns.map fun n => UInt8.ofNat n.toNat).toArray⟩
  | [], l => by simp
  | n :: ns, l => by
    have e : (⟨l.toArray⟩ : ByteArray).push (UInt8.ofNat n.toNat) = ⟨(l ++ [UInt8.ofNat n.toNat]).toArray⟩ := by
      apply ByteArray.ext
      simp [ByteArray.push]
    rw [List.foldl_cons, e, foldl_bytes ns]
    simp

theorem good_convert (h : Conc N0 w0 nt σ φ a w) {d : Option Tmp} {src dst : Nat} {x : Operand} {t : TypeId} {p : String} {af : Array Edge} {g : Option (Nat × Bool)} {r : A}
    (hr : convA P src dst σ.H (σ.ev x) = some r) : Good P ⟨d, .convert src dst x, t, p, af, g⟩ a w N0 φ r := by
  have hx := h.ev x
  have b2s : ∀ v, σ.ev x = v → convB (isB2S P src dst) (view σ.H v) = some r → (∃ q l c, a.eval x = .slice q l c) → Good P ⟨d, .convert src dst x, t, p, af, g⟩ a w N0 φ r := by
    intro v hv hr hsl
    subst hv
    unfold convB at hr
    split at hr
    · rename_i hb
      split at hr
      · rename_i es hes
        cases hby : bytesOfA es with
        | none => simp [hby] at hr
        | some s =>
          simp [hby] at hr
          subst hr
          have hvw := (view_sound h hes hx (N' := N0) ⟨fun b hb => .inl hb, .inr (own_not_n0 h)⟩).1
          simp only [Rep] at hvw
          obtain ⟨_, q, cap, hval, _, hm⟩ := hvw
          unfold isB2S at hb
          simp only [Bool.and_eq_true] at hb
          obtain ⟨hb1, hb2⟩ := hb
          cases he : tyElem P src with
          | none => simp [he] at hb1
          | some e =>
            simp [he] at hb1
            have hu := tyElem_eq he
            have hue := tyInt_eq hb1
            have hud := tyStr_eq hb2
            have hconv : (convert src dst (a.eval x)).run P w = (Conv.bytesToString (a.eval x)).run P w := by
              rw [hval]
              simp [convert, run_underlying hu, run_underlying hue, run_underlying hud]
            refine good_same rfl (v := .string ⟨s.toArray⟩) ?_ (by simp only [Rep])
            rw [hconv, hval]
            by_cases hne : es = []
            · subst hne
              simp [bytesOfA] at hby
              subst hby
              cases q with
              | none => simp [Conv.bytesToString]; rfl
              | some q =>
                have := run_bytesToString (P := P) w q 0 cap [] (by simpa using run_loadCells_list (P := P) w q [] (by simp))
                simp only [List.foldl_nil] at this
                exact this
            · obtain ⟨b, off, rfl, hb, hnb, hE⟩ := hm hne
              have hst : strideOf es = 1 := by
                cases es with
                | nil => exact absurd rfl hne
                | cons e es =>
                  simp only [bytesOfA] at hby
                  cases e <;> simp_all [byteOfA, strideOf, A.cells]
              rw [hst] at hE
              obtain ⟨ns, hr, hlen, hns⟩ := bytes_vals hby hE
              have hl : (loadCells ⟨b, off, none⟩ es.length).run P w = .ok (ns.map (Value.int .u8)).toArray w := by
                have := run_loadCells_list (P := P) w ⟨b, off, none⟩ (ns.map (Value.int .u8)) (fun j v hv => by rw [Addr.add_mid]; exact hr j v hv)
                rwa [List.length_map, hlen] at this
              rw [run_bytesToString w _ _ _ ns hl]
              have := foldl_bytes ns []
              rw [show (ByteArray.empty : ByteArray) = ⟨([] : List UInt8).toArray⟩ from rfl, this, List.nil_append, hns]
      · simp at hr
    · simp at hr
  cases hc : σ.ev x <;> simp only [hc, convA] at hr
  case int k n =>
    split at hr
    · rename_i k' hk
      split at hr
      · rename_i hag
        obtain rfl := Option.some.inj hr
        rw [hc] at hx
        obtain ⟨ds, hds⟩ := agg_isSome hag
        refine good_same rfl (v := .int k' (k'.wrap n)) ?_ (by simp only [Rep])
        rw [rep_int hx]
        simp [convert, run_underlying hds, run_underlying (tyInt_eq hk), Conv.intToInt]
      · simp at hr
    · simp at hr
  case str s =>
    split at hr
    · rename_i hb
      simp only [Bool.and_eq_true] at hb
      obtain rfl := Option.some.inj hr
      rw [hc] at hx
      refine good_same rfl (v := a.eval x) ?_ hx
      rw [rep_str hx]
      simp [convert, run_underlying (tyStr_eq hb.1), run_underlying (tyStr_eq hb.2)]
    · simp at hr
  case slc es =>
    rw [hc] at hx
    simp only [Rep] at hx
    obtain ⟨_, q, cap, hv, _⟩ := hx
    exact b2s _ hc hr ⟨_, _, _, hv⟩
  case clip es =>
    rw [hc] at hx
    simp only [Rep] at hx
    obtain ⟨_, q, hv, _⟩ := hx
    exact b2s _ hc hr ⟨_, _, _, hv⟩
  case nils =>
    rw [hc] at hx
    simp only [Rep] at hx
    exact b2s _ hc hr ⟨_, _, _, hx⟩
  case row n off k len c =>
    rw [hc] at hx
    simp only [Rep] at hx
    rcases hx with ⟨_, _, _, _, _, q, hv⟩ | ⟨b, cap, _, _, _, _, hv, _⟩
    · exact b2s _ hc hr ⟨_, _, _, hv⟩
    · exact b2s _ hc hr ⟨_, _, _, hv⟩
  all_goals simp at hr

theorem good_field (h : Conc N0 w0 nt σ φ a w) {d : Option Tmp} {s f : Nat} {x : Operand} {t : TypeId} {p : String} {af : Array Edge} {g : Option (Nat × Bool)} {r : A}
    (hr : fieldA P (fieldInfo P s f) (σ.ev x) = some r) : Good P ⟨d, .field s x f, t, p, af, g⟩ a w N0 φ r := by
  unfold fieldA at hr
  split at hr
  · rename_i o ft cs hf hc
    have hx := h.ev x
    rw [hc] at hx
    simp only [Rep] at hx
    obtain ⟨vs, hv, hL, hone⟩ := hx
    obtain ⟨fs, fx, n, hu, hfx, rfl, rfl, hn, hn0⟩ := fieldInfo_eq hf
    have hfield : (Instr.field s (a.eval x) f).run P w = (part fx.type vs.toArray fx.offset).run P w := by
      rw [hv]
      simp [Instr.field, run_underlying hu, hfx, asAgg]
    unfold loadC at hr
    split at hr
    · rename_i hag
      rw [hn] at hr
      simp only at hr
      split at hr
      · rename_i hle
        obtain rfl := Option.some.inj hr
        refine good_same rfl (v := .agg ((vs.drop fx.offset).take n).toArray) ?_ ?_
        · rw [hfield]
          simp only [part, Sem.run_bind, run_isAgg_true hag, Result.andThen_ok, if_true, run_sizeOf hn, Sem.run_pure]
          congr 2
          apply Array.ext'
          simp [List.extract_eq_take_drop]
        · simp only [Rep]
          exact ⟨_, rfl, RepL_take (RepL_drop hL), fun u hu => hone u (List.mem_of_mem_drop (List.mem_of_mem_take hu))⟩
      · simp at hr
    · rename_i hag
      cases hd : cs.drop fx.offset with
      | nil => simp [hd] at hr
      | cons y ys =>
        simp [hd] at hr
        subst hr
        obtain ⟨g1, g2⟩ := RepL_iff.1 hL
        have hlt : fx.offset < cs.length := by
          rcases Nat.lt_or_ge fx.offset cs.length with h | h
          · exact h
          · rw [List.drop_eq_nil_of_le h] at hd; cases hd
        have hy : cs[fx.offset]? = some y := by
          have e := (List.drop_eq_getElem_cons hlt).symm.trans hd
          injection e with e1 e2
          rw [List.getElem?_eq_getElem hlt, e1]
        have hlt' : fx.offset < vs.length := by omega
        refine good_same rfl (v := vs[fx.offset]) ?_ (g2 _ _ _ hy (List.getElem?_eq_getElem hlt'))
        rw [hfield]
        simp [part, run_isAgg_false hag, hlt']
    · simp at hr
  · simp at hr

theorem good_index (h : Conc N0 w0 nt σ φ a w) {d : Option Tmp} {s : Nat} {x y : Operand} {t : TypeId} {p : String} {af : Array Edge} {g : Option (Nat × Bool)} {r : A}
    (hr : indexA P s (σ.ev x) (σ.ev y) = some r) : Good P ⟨d, .index s x y, t, p, af, g⟩ a w N0 φ r := by
  have hx := h.ev x
  have hy := h.ev y
  unfold indexA at hr
  split at hr
  · rename_i k i str hcy hcx
    rw [hcx] at hx; rw [hcy] at hy
    split at hr
    · rename_i hc
      cases hi : str[i.toNat]? with
      | none => simp [hi] at hr
      | some c =>
        simp [hi] at hr
        subst hr
        have hlt : i.toNat < str.length := (List.getElem?_eq_some_iff.1 hi).1
        have hcc : str[i.toNat] = c := by rw [List.getElem?_eq_getElem hlt] at hi; simpa using hi
        refine good_same rfl (v := .int .u8 c.toNat) ?_ (by simp only [encU8, Rep])
        rw [rep_str hx, rep_int hy, run_index_string w s _ k i (tyStr_eq hc.1), dif_pos ⟨hc.2, by rw [size_mk]; omega⟩]
        congr 2
        rw [← hcc]
        rfl
    · simp at hr
  · rename_i k i cs hcy hcx
    rw [hcx] at hx; rw [hcy] at hy
    simp only [Rep] at hx
    obtain ⟨vs, hv, hL, hone⟩ := hx
    split at hr
    · rename_i n e hn
      split at hr
      · rename_i kk hk
        split at hr
        · rename_i hc
          have hidx : (Instr.index s (a.eval x) (a.eval y)).run P w = (part e vs.toArray (i.toNat * kk)).run P w := by
            rw [hv, rep_int hy]
            simp [Instr.index, asIntOf, run_underlying (tyArr_eq hn), hc, run_sizeOf hk]
          generalize hoff : i.toNat * kk = o at hr hidx
          unfold loadC at hr
          split at hr
          · rename_i hag
            rw [hk] at hr
            simp only at hr
            split at hr
            · rename_i hle
              obtain rfl := Option.some.inj hr
              refine good_same rfl (v := .agg ((vs.drop o).take kk).toArray) ?_ ?_
              · rw [hidx]
                simp only [part, Sem.run_bind, run_isAgg_true hag, Result.andThen_ok, if_true, run_sizeOf hk, Sem.run_pure]
                congr 2
                apply Array.ext'
                simp [List.extract_eq_take_drop]
              · simp only [Rep]
                exact ⟨_, rfl, RepL_take (RepL_drop hL), fun u hu => hone u (List.mem_of_mem_drop (List.mem_of_mem_take hu))⟩
            · simp at hr
          · rename_i hag
            cases hd : cs.drop o with
            | nil => simp [hd] at hr
            | cons z zs =>
              simp [hd] at hr
              subst hr
              obtain ⟨g1, g2⟩ := RepL_iff.1 hL
              have hlt : o < cs.length := by
                rcases Nat.lt_or_ge o cs.length with h | h
                · exact h
                · rw [List.drop_eq_nil_of_le h] at hd; cases hd
              have hz : cs[o]? = some z := by
                have e := (List.drop_eq_getElem_cons hlt).symm.trans hd
                injection e with e1 e2
                rw [List.getElem?_eq_getElem hlt, e1]
              have hlt' : o < vs.length := by omega
              refine good_same rfl (v := vs[o]) ?_ (g2 _ _ _ hz (List.getElem?_eq_getElem hlt'))
              rw [hidx]
              simp [part, run_isAgg_false hag, hlt']
          · simp at hr
        · simp at hr
      · simp at hr
    · simp at hr
  · simp at hr

theorem good_indexAddr (h : Conc N0 w0 nt σ φ a w) {d : Option Tmp} {s : Nat} {x y : Operand} {t : TypeId} {p : String} {af : Array Edge} {g : Option (Nat × Bool)} {r : A}
    (hr : indexAddrA P s (σ.ev x) (σ.ev y) = some r) : Good P ⟨d, .indexAddr s x y, t, p, af, g⟩ a w N0 φ r := by
  have hx := h.ev x
  have hy := h.ev y
  unfold indexAddrA at hr
  split at hr
  · rename_i kd i hcy
    rw [hcy] at hy
    split at hr
    · rename_i e he
      split at hr
      · rename_i k hk
        have run : ∀ b off len cap, a.eval x = .slice (some ⟨b, off, none⟩) len cap → 0 ≤ i → i < len → (Instr.indexAt s (a.eval x) (a.eval y)).run P w = .ok (.pointer (some ⟨b, off + i.toNat * k, none⟩)) w := by
          intro b off len cap hv h0 h1
          rw [hv, rep_int hy]
          simp [Instr.indexAt, asIntOf, run_underlying (tyElem_eq he), h0, h1, run_sizeOf hk, Addr.add_mid]
        have data : ∀ (es : List A) (cap : Nat) (q : Option Addr), a.eval x = .slice q es.length cap → A.pure.pureL es = true →
            (es ≠ [] → ∃ b off, q = some ⟨b, off, none⟩ ∧ b < (envOf N0 φ w).w.heap.size ∧ ¬ (envOf N0 φ w).N b ∧ RepE (envOf N0 φ w) (strideOf es) b off es) → getE k i es = some r → Good P ⟨d, .indexAddr s x y, t, p, af, g⟩ a w N0 φ r := by
          intro es cap q hv hp hm hr
          unfold getE getI at hr
          split at hr
          · rename_i h0
            cases hi : es[i.toNat]? with
            | none => simp [hi] at hr
            | some z =>
              simp only [hi, Option.bind_some] at hr
              split at hr
              · rename_i hkz
                obtain rfl := Option.some.inj hr
                have hlt := (List.getElem?_eq_some_iff.1 hi).1
                obtain ⟨b, off, rfl, hb, hnb, hE⟩ := hm (by rintro rfl; simp at hlt)
                obtain ⟨hl, hmm⟩ := RepE_iff.1 hE _ _ hi
                rw [← hkz] at hl
                rw [← hl] at hmm
                refine good_same rfl (run b off _ cap hv h0 (by omega)) ?_
                simp only [Rep]
                exact ⟨pure_cells (pureL_getElem hp hi), b, _, rfl, hb, hnb, hmm⟩
              · simp at hr
          · simp at hr
        cases hc : σ.ev x <;> simp only [hc, indexAddrE] at hr <;> try (simp at hr; done)
        · rw [hc] at hx
          simp only [Rep] at hx
          obtain ⟨hp, q, cap, hv, _, hm⟩ := hx
          exact data _ cap q hv hp hm hr
        · rw [hc] at hx
          simp only [Rep] at hx
          obtain ⟨hp, q, hv, hm⟩ := hx
          exact data _ _ q hv hp hm hr
        · rename_i n off k' len c
          rw [hc] at hx
          split at hr
          · rename_i hcond
            obtain ⟨rfl, h0, h1⟩ := hcond
            obtain rfl := Option.some.inj hr
            simp only [Rep] at hx
            rcases hx with ⟨_, _, _, rfl, _⟩ | ⟨b, cap, _, _, _, hφ, hv, _⟩
            · omega
            · refine good_same rfl (run b _ _ cap hv h0 h1) ?_
              simp only [Rep]
              exact ⟨b, k, hφ, by rw [Nat.add_mul, Nat.add_zero]⟩
          · simp at hr
      · simp at hr
    · split at hr
      · rename_i n e hn
        split at hr
        · rename_i k hk
          have run : ∀ b off, a.eval x = .pointer (some ⟨b, off, none⟩) → 0 ≤ i → i < n → (Instr.indexAt s (a.eval x) (a.eval y)).run P w = .ok (.pointer (some ⟨b, off + i.toNat * k, none⟩)) w := by
            intro b off hv h0 h1
            rw [hv, rep_int hy]
            simp [Instr.indexAt, asIntOf, run_underlying (tyArr_eq hn), Instr.sureAddr, h0, h1, run_sizeOf hk, Addr.add_mid]
          cases hc : σ.ev x <;> simp only [hc, indexAddrR] at hr <;> try (simp at hr; done)
          · rename_i cs
            rw [hc] at hx
            simp only [Rep] at hx
            obtain ⟨hp, b, off, hv, hb, hnb, hm⟩ := hx
            split at hr
            · rename_i hcond
              obtain rfl := Option.some.inj hr
              refine good_same rfl (run b off hv hcond.1 hcond.2) ?_
              simp only [Rep]
              exact ⟨pureL_drop hp, b, _, rfl, hb, hnb, RepM_drop hm⟩
            · simp at hr
          · rename_i m off
            rw [hc] at hx
            simp only [Rep] at hx
            obtain ⟨b, kk, hφ, hv⟩ := hx
            split at hr
            · rename_i hcond
              obtain rfl := Option.some.inj hr
              refine good_same rfl (run b off hv hcond.1 hcond.2) ?_
              simp only [Rep]
              exact ⟨b, kk, hφ, rfl⟩
            · simp at hr
        · simp at hr
      · simp at hr
  · simp at hr
end

end Go.Abs
