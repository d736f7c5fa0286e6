/- Soundness, thirteenth part: clear. -/
import Derived.Test.YtbnmicpgbcfooaaAbsP
namespace Go.Abs
open Go.RowKit

theorem RowRel.drop {E : Env} {k : Nat} : ∀ {n : Nat} {es : List A} {vs : List Value}, RowRel E k es vs → RowRel E k (es.drop n) (vs.drop (n * k))
  | 0, es, vs, h => by simpa using h
  | n + 1, [], vs, h => by simp only [RowRel] at h; subst h; simp [RowRel]
  | n + 1, e :: es, vs, h => by
    simp only [RowRel] at h
    obtain ⟨_, _, _, h4⟩ := h
    rw [List.drop_succ_cons, show (n + 1) * k = k + n * k by rw [Nat.add_mul, Nat.one_mul]; omega, ← List.drop_drop]
    exact RowRel.drop h4

theorem zeroCells_list {z : Array Value} {n : Nat} : (Builtin.zeroCells z n).toList = (List.replicate n z.toList).flatten := by
  unfold Builtin.zeroCells
  apply List.ext_getElem?
  intro j
  by_cases hz : z.size = 0
  · have hz' : z = #[] := by simpa using hz
    subst hz'
    simp
  · have hz0 : 0 < z.size := by omega
    simp only [Array.toList_map, Array.toList_range]
    rw [List.getElem?_map]
    by_cases hj : j < n * z.size
    · have hq : j / z.size < n := (Nat.div_lt_iff_lt_mul hz0).2 hj
      have hr : j % z.size < z.size := Nat.mod_lt _ hz0
      rw [List.getElem?_range hj]
      simp only [Option.map_some]
      have key : ∀ (m : Nat) (j : Nat), j < m * z.size → (List.replicate m z.toList).flatten[j]? = some (z[j % z.size]!) := by
        intro m
        induction m with
        | zero => intro j hj; omega
        | succ m ih =>
          intro j hj
          rw [List.replicate_succ, List.flatten_cons]
          by_cases h : j < z.size
          · rw [List.getElem?_append_left (by simpa using h), Nat.mod_eq_of_lt h, getElem!_pos z j h]; simp [h]
          · rw [List.getElem?_append_right (by simpa using h), Nat.mod_eq_sub_mod (by omega), Array.length_toList]
            exact ih _ (by rw [Nat.add_mul, Nat.one_mul] at hj; omega)
      rw [key n j hj]
    · rw [List.getElem?_eq_none (by simpa using hj), List.getElem?_eq_none (by
        rw [List.length_flatten, List.map_replicate, List.sum_replicate_nat]; simpa using hj)]
      rfl

section
variable {P : Program} {N0 : Nat → Prop} {w0 : Base} {nt : Nat} {σ : St} {φ : List Own} {a : Act} {w : World}

theorem goodW_clear (h : Conc N0 w0 nt σ φ a w) {d : Option Tmp} {x : Operand} {t ty : TypeId} {p : String} {af : Array Edge} {g : Option (Nat × Bool)} (hd : ∀ t, d = some t → t < nt) {nm : Nat}
    {σ' : St} (hr : clearA P σ d t (σ.ev x) = some σ') : GoodW P ⟨d, .call ⟨.builtin .clear, ⟨[x]⟩, ⟨[t]⟩⟩, ty, p, af, g⟩ a w N0 w0 nt φ nm σ' := by
  have hx := h.ev x
  unfold clearA at hr
  split at hr
  · rename_i n off k len cl hev
    rw [hev] at hx
    split at hr
    case h_2 => simp at hr
    rename_i e he
    split at hr
    case h_2 => simp at hr
    rename_i k' es ho
    split at hr
    · rename_i zz hz
      split at hr
      · rename_i hc
        obtain ⟨rfl, hzl, hk0, hzv, hzp, hle⟩ := hc
        obtain rfl := Option.some.inj hr
        have hty := tyElem_eq he
        obtain ⟨zv, hzr, hzrep⟩ := zeroA_eq (w := w) hz
        have hrep := hzrep (envOf N0 φ w)
        obtain ⟨r1, r2, r3⟩ := Rep_cells hrep hzv
        have hcall : ∀ {v : Value} {w' : World}, (Builtin.clear_ #[t] ty #[a.eval x]).run P w = .ok v w' → (Go.execOp a.eval ⟨d, .call ⟨.builtin .clear, ⟨[x]⟩, ⟨[t]⟩⟩, ty, p, af, g⟩).run P w = .ok (.value v) w' := fun {v w'} hrun => by
          obtain ⟨cs, hcs⟩ := run_builtin (P := P) (a := a) (w := w) (b := .clear) (xs := [x]) (us := ⟨[t]⟩) (d := d) (t := ty) (p := p) (af := af) (g := g)
          rw [hcs]
          exact run_v (s := Builtin.clear_ #[t] ty #[a.eval x]) hrun
        simp only [Rep] at hx
        have same : (es.take off ++ List.replicate 0 zz.norm ++ es.drop (off + 0)) = es := by simp
        rcases hx with ⟨o, hφ, hf, rfl, _, q, hv⟩ | ⟨b, cap, c', e', fr, hφ, hv, hlc, _, hb, hfit⟩
        · refine ⟨.tuple #[], w, φ, .inl (hcall ?_), ?_⟩
          · rw [hv]
            cases q <;> simp [Builtin.clear_, run_underlying hty]
          · rw [same]
            refine ⟨(h.setObj (fun p hp => h.objs n _ p ho hp)).put hd ?_, fun _ _ h => h⟩
            simp [Rep, RepL]
        · have hob := h.objs n _ _ ho hφ
          simp only [ObjRel] at hob
          obtain ⟨_, hp, ⟨cc, ee, ffr, hcc, hfr⟩, hE⟩ := hob
          by_cases hl0 : len = 0
          · subst hl0
            refine ⟨.tuple #[], w, φ, .inl (hcall ?_), ?_⟩
            · rw [hv]
              simp [Builtin.clear_, run_underlying hty]
            · rw [same]
              refine ⟨(h.setObj (fun p hp => h.objs n _ p ho hp)).put hd ?_, fun _ _ h => h⟩
              simp [Rep, RepL]
          · have hcc' : w.heap[b]? = some (.cells cc ee ffr) := hcc
            have hb' : w.heap[b]? = some (.cells c' e' fr) := hb
            rw [hb'] at hcc'
            simp only [Option.some.injEq, Go.Obj.cells.injEq] at hcc'
            obtain ⟨rfl, rfl, rfl⟩ := hcc'
            obtain ⟨vs, g1, g2, g3⟩ := RowRel.of_mem hE
            have hzc : zv.cells.size = k' := by rw [r3]; exact hzl
            have hnl : (List.replicate len zv.cells.toList).flatten.length = len * k' := by
              rw [List.length_flatten, List.map_replicate, List.sum_replicate_nat, Array.length_toList, hzc]
            have hmul : off * k' + len * k' ≤ c'.size := by
              have h1 : len * k' ≤ k' * cap := by rw [Nat.mul_comm k' cap]; exact Nat.mul_le_mul_right _ hlc
              omega
            have ht : w.there b (off * k') (List.replicate len zv.cells.toList).flatten.length := there_of hb' hfr (by rw [hnl]; exact hmul)
            have hone : ∀ u ∈ (List.replicate len zv.cells.toList).flatten, u.oneCell' = true := fun u hu => by
              obtain ⟨ys, hys, hu⟩ := List.mem_flatten.1 hu
              obtain ⟨_, rfl⟩ := List.mem_replicate.1 hys
              exact r2 u hu
            have hst := run_storeCells_cells (P := P) b (off * k') (List.replicate len zv.cells.toList).flatten 0 w (fun j hj => by rw [Nat.add_zero]; exact (ht j hj).1) (fun j hj => by rw [Nat.add_zero]; exact (ht j hj).2) hone
            rw [Nat.add_zero] at hst
            obtain ⟨cc'', hcc'', hss''⟩ := (setCells_heap (b := b) (List.replicate len zv.cells.toList).flatten (off * k') w).2.2.2.2.2.2 c' e' fr hb'
            have hext := h.ext_write (off * k') (List.replicate len zv.cells.toList).flatten hφ
            have hzn : RowRel (envOf N0 φ w) k' (List.replicate len zz.norm) (List.replicate len zv.cells.toList).flatten :=
              RowRel.replicate (by rw [norm_cells, List.length_map, hzl]) (by rw [norm_cells]; exact repL_norm0 r1) len
            have hvl := g1.length
            have hpz : A.pure.pureL (List.replicate len zz.norm) = true := pureL_of fun j y hy => by
              have := List.mem_of_getElem? hy
              obtain ⟨_, rfl⟩ := List.mem_replicate.1 this
              exact pure_norm hzp
            have hpp : A.pure.pureL (es.take off ++ List.replicate len zz.norm ++ es.drop (off + len)) = true := pureL_of fun j y hy => by
              rcases List.mem_append.1 (List.mem_of_getElem? hy) with hm | hm
              · rcases List.mem_append.1 hm with hm | hm
                · obtain ⟨r, hr⟩ := List.getElem?_of_mem (List.mem_of_mem_take hm); exact pureL_getElem hp hr
                · obtain ⟨r, hr⟩ := List.getElem?_of_mem hm; exact pureL_getElem hpz hr
              · obtain ⟨r, hr⟩ := List.getElem?_of_mem (List.mem_of_mem_drop hm); exact pureL_getElem hp hr
            have hw := h.write (o := .row k' (es.take off ++ List.replicate len zz.norm ++ es.drop (off + len))) (off := off * k') (vs := (List.replicate len zv.cells.toList).flatten) hφ (by
              simp only [ObjRel]
              refine ⟨trivial, hpp, ⟨cc'', e', fr, hcc'', fun j hj => hfr j (by omega)⟩, ?_⟩
              have hrel := ((g1.take (n := off)).append hzn).append (g1.drop (n := off + len))
              refine RowRel.mem (vs := vs.take (off * k') ++ (List.replicate len zv.cells.toList).flatten ++ vs.drop ((off + len) * k')) (RowRel.mono (E := envOf N0 φ w) (fun x v hx hr => Rep.mono hext x v hr (fun _ _ => trivial)) hpp hrel) ?_ ?_
              · intro j u hu
                show (w.setCells b (off * k') _).cell? ⟨b, 0 + j, none⟩ = some u
                have hlen1 : (vs.take (off * k')).length = off * k' := by
                  rw [List.length_take, hvl]
                  have : off * k' ≤ es.length * k' := Nat.mul_le_mul_right _ (by omega)
                  omega
                rw [setCells_cell ht, Nat.zero_add]
                rw [List.append_assoc, List.getElem?_append, hlen1] at hu
                split at hu
                · rename_i hj
                  rw [if_neg (by omega)]
                  rw [List.getElem?_take] at hu
                  rw [if_pos hj] at hu
                  have := g2 j u hu
                  simpa [envOf] using this
                · rename_i hj
                  rw [List.getElem?_append, hnl] at hu
                  split at hu
                  · rename_i hj2
                    rw [if_pos (by rw [hnl]; omega)]
                    exact hu
                  · rename_i hj2
                    rw [if_neg (by rw [hnl]; omega)]
                    rw [List.getElem?_drop] at hu
                    have e3 : (off + len) * k' + (j - off * k' - len * k') = j := by rw [Nat.add_mul]; omega
                    rw [e3] at hu
                    have := g2 j u hu
                    simpa [envOf] using this
              · intro u hu
                rcases List.mem_append.1 hu with hu | hu
                · rcases List.mem_append.1 hu with hu | hu
                  · exact g3 u (List.mem_of_mem_take hu)
                  · exact hone u hu
                · exact g3 u (List.mem_of_mem_drop hu))
            refine ⟨.tuple #[], _, φ, .inl (hcall ?_), hw.put hd (by simp [Rep, RepL]), fun _ _ h => h⟩
            rw [hv]
            obtain ⟨len', rfl⟩ : ∃ m, len = m + 1 := ⟨len - 1, by omega⟩
            have e0 : (#[t] : Array TypeId)[0]? = some t := rfl
            have e1 : (#[Value.slice (some ⟨b, off * k', none⟩) (len' + 1) cap] : Array Value)[0]? = some (Value.slice (some ⟨b, off * k', none⟩) (len' + 1) cap) := rfl
            simp only [Builtin.clear_, e0, e1, Sem.run_bind, run_underlying hty, Result.andThen_ok, hzr, zeroCells_list, hst, Sem.run_pure]
      · simp at hr
    · simp at hr
  · simp at hr
end

end Go.Abs
