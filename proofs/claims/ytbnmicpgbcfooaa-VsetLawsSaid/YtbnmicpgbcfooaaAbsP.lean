/- Soundness, thirteenth part: string to bytes; all operations but calls. -/
import Derived.Test.YtbnmicpgbcfooaaAbsO
namespace Go.Abs
open Go.RowKit

section
variable {P : Program} {N0 : Nat → Prop} {w0 : Base} {nt : Nat} {σ : St} {φ : List Own} {a : Act} {w : World}

theorem goodW_conv (h : Conc N0 w0 nt σ φ a w) {d : Option Tmp} {src dst : TypeId} {x : Operand} {t : TypeId} {p : String} {af : Array Edge} {g : Option (Nat × Bool)} (hd : ∀ t, d = some t → t < nt) {n : Nat}
    (hfree : isS2B P src dst = true → φ[n]? = some .free) {σ' : St} (hr : convX P σ n d src dst (σ.ev x) = some σ') : GoodW P ⟨d, .convert src dst x, t, p, af, g⟩ a w N0 w0 nt φ n σ' := by
  unfold convX at hr
  split at hr
  · rename_i hb
    have hfree := hfree hb
    have hx := h.ev x
    split at hr
    · rename_i s hs
      obtain rfl := Option.some.inj hr
      rw [hs] at hx
      simp only [Rep] at hx
      unfold isS2B at hb
      simp only [Bool.and_eq_true] at hb
      obtain ⟨hb1, hb2⟩ := hb
      cases he : tyElem P dst with
      | none => simp [he] at hb2
      | some e =>
        simp [he] at hb2
        have hlt : n < φ.length := (List.getElem?_eq_some_iff.1 hfree).1
        have hrun := run_bytes_of_string (P := P) w src dst e ⟨s.toArray⟩ (tyStr_eq hb1) (tyElem_eq he) (tyInt_eq hb2)
        have hge := grownCap_ge w (⟨s.toArray⟩ : ByteArray).size 0 e
        generalize hc : grownCap w (⟨s.toArray⟩ : ByteArray).size 0 e = c at hrun hge
        rw [size_mk] at hge
        have hsz : (bytesRow ⟨s.toArray⟩ c).size = c := by
          simp [bytesRow, size_mk]
          omega
        rw [hsz] at hrun
        have g : Grew w (w.drew.alloc (.cells (bytesRow ⟨s.toArray⟩ c) e (c, c + 1))) := (Grew.drew w).trans (Grew.alloc _ _)
        have hB : (w.drew.alloc (.cells (bytesRow ⟨s.toArray⟩ c) e (c, c + 1))).heap[w.heap.size]? = some (.cells (bytesRow ⟨s.toArray⟩ c) e (c, c + 1)) := heap_alloc_new w.drew _
        have hnew := h.newObj (k := 1) (o := .row 1 (bytesA s)) hfree g (Nat.le_refl _) (by simp) (by
          simp only [ObjRel]
          refine ⟨trivial, bytes_pure s, ⟨_, e, _, hB, fun j hj hh => by rw [hsz] at hj; omega⟩, RowRel.mem (bytes_row _ s) (fun j u hu => ?_) ?_⟩
          · show (w.drew.alloc (.cells (bytesRow ⟨s.toArray⟩ c) e (c, c + 1))).cell? ⟨w.heap.size, 0 + j, none⟩ = some u
            have hjl : j < s.length := by
              have := (List.getElem?_eq_some_iff.1 hu).1
              simpa using this
            have hat := bytesRow_at ⟨s.toArray⟩ c j (by simpa using hjl)
            have : u = .int .u8 (s[j].toNat : Int) := by
              rw [List.getElem?_map, List.getElem?_eq_getElem hjl] at hu
              simpa using hu.symm
            subst this
            simp only [World.cell?, hB, Nat.zero_add]
            simpa using hat
          · intro u hu
            obtain ⟨_, _, rfl⟩ := List.mem_map.1 hu
            rfl)
        refine ⟨.slice (some ⟨w.heap.size, 0, none⟩) s.length c, _, _, .inl (run_v (s := convert src dst (a.eval x)) ?_), hnew.put hd ?_, fun m hm hf => by rw [List.getElem?_set_ne (Ne.symm hm)]; exact hf⟩
        · rw [hx]; exact hrun
        · simp only [Rep]
          exact .inr ⟨w.heap.size, c, _, e, _, by show (φ.set n _)[n]? = _; simp [hlt], by simp, hge, by simp, hB, by rw [hsz]; omega⟩
    · simp at hr
  · cases hc : convA P src dst σ.H (σ.ev x) with
    | none => simp [hc] at hr
    | some r =>
      simp [hc] at hr
      subst hr
      exact goodW_of_good h hd (o := ⟨d, .convert src dst x, t, p, af, g⟩) (good_convert h hc)
end

end Go.Abs
