/- Soundness, ninth part: stores, strings as bytes, append. -/
import Derived.Test.YtbnmicpgbcfooaaAbsK
namespace Go.Abs
open Go.RowKit

section
variable {P : Program} {N0 : Nat → Prop} {w0 : Base} {nt : Nat} {σ : St} {φ : List Own} {a : Act} {w : World}

theorem goodW_boxOp (h : Conc N0 w0 nt σ φ a w) {d : Option Tmp} {e : TypeId} {x : Operand} {t : TypeId} {p : String} {af : Array Edge} {g : Option (Nat × Bool)} (hd : ∀ t, d = some t → t < nt) {n : Nat} (hfree : φ[n]? = some .free) {σ' : St}
    (hr : boxA σ n d (σ.ev x) = some σ') : GoodW P ⟨d, .box e x, t, p, af, g⟩ a w N0 w0 nt φ n σ' :=
  goodW_box (o := ⟨d, .box e x, t, p, af, g⟩) h hd hfree (h.ev x) (run_v (by simp [Instr.box, newVar, newRow]; rfl)) hr

theorem goodW_alloc (h : Conc N0 w0 nt σ φ a w) {d : Option Tmp} {e : TypeId} {t : TypeId} {p : String} {af : Array Edge} {g : Option (Nat × Bool)} (hd : ∀ t, d = some t → t < nt) {n : Nat} (hfree : φ[n]? = some .free) {σ' : St}
    (hr : allocA σ n d (zeroA P e) = some σ') : GoodW P ⟨d, .alloc e, t, p, af, g⟩ a w N0 w0 nt φ n σ' := by
  cases hz : zeroA P e with
  | none => simp [hz, allocA] at hr
  | some z =>
    rw [hz] at hr
    simp only [allocA] at hr
    obtain ⟨zv, hzr, hzrep⟩ := zeroA_eq (w := w) hz
    refine goodW_box (o := ⟨d, .alloc e, t, p, af, g⟩) (e := e) h hd hfree (hzrep _) (run_v ?_) hr
    simp only [Instr.alloc, Sem.run_bind, hzr, Result.andThen_ok, newVar, newRow, run_newObj, Sem.run_pure]
    rfl

theorem run_storeAt {t : TypeId} {v : Value} {b off : Nat} (hsz : tySize P t = some v.cells.size) (ht : w.there b off v.cells.size) (h1 : ∀ u ∈ v.cells.toList, u.oneCell' = true) :
    (Instr.storeAt t (.pointer (some ⟨b, off, none⟩)) v).run P w = .ok () (w.setCells b off v.cells.toList) := by
  have := run_storeCells_cells (P := P) b off v.cells.toList 0 w (fun j hj => by simpa using (ht j (by simpa using hj)).1) (fun j hj => by simpa using (ht j (by simpa using hj)).2) h1
  simp only [Nat.add_zero] at this
  simp [Instr.storeAt, Instr.sureAddr, storeVar, run_sizeOf hsz, this]

theorem there_of {b off n : Nat} {c : Array Value} {e : TypeId} {fr : Nat × Nat} (hb : w.heap[b]? = some (.cells c e fr)) (hf : Unfrozen c fr) (hl : off + n ≤ c.size) : w.there b off n := fun j hj => by
  have hlt : off + j < c.size := by omega
  refine ⟨by simp [World.cell?, hb, hlt], ?_⟩
  simp only [World.frozen?, hb]
  have := hf (off + j) hlt
  simpa using this

theorem setCells_cell {b off : Nat} {vs : List Value} (ht : w.there b off vs.length) (o : Nat) : (w.setCells b off vs).cell? ⟨b, o, none⟩ = if off ≤ o ∧ o < off + vs.length then vs[o - off]? else w.cell? ⟨b, o, none⟩ := by
  split
  · rename_i hc
    have := World.cell?_setCells_in b vs off w (fun j hj => (ht j hj).1) (o - off) (by omega)
    rw [show off + (o - off) = o by omega] at this
    rw [this, List.getElem?_eq_getElem (by omega)]
  · rename_i hc
    exact World.cell?_setCells_out b vs off w ⟨b, o, none⟩ (fun _ _ => by
      show o < off ∨ off + vs.length ≤ o
      omega)

theorem repM_splice {E E' : Env} (hext : ∀ x v, Rep E x v → Rep E' x v) {b off : Nat} {vs : List Value} {cs ys : List A} {base : Nat} (hw : E'.w = E.w.setCells b (base + off) vs) (ht : E.w.there b (base + off) vs.length) (hm : RepM E b base cs) (hL : RepL E ys vs) (hone : ∀ u ∈ vs, u.oneCell' = true)
    (hle : off + ys.length ≤ cs.length) : RepM E' b base (spliceA cs off ys) := by
  obtain ⟨g1, g2⟩ := RepL_iff.1 hL
  refine RepM_iff.2 fun i x hx => ?_
  rw [hw, setCells_cell ht]
  unfold spliceA at hx
  by_cases h1 : i < off
  · rw [List.append_assoc, List.getElem?_append_left (by simp; omega), List.getElem?_take, if_pos h1] at hx
    rw [if_neg (by omega)]
    obtain ⟨v, hv, h2, hr⟩ := RepM_iff.1 hm i x hx
    exact ⟨v, hv, h2, hext x v hr⟩
  · by_cases h2 : i < off + ys.length
    · rw [List.append_assoc, List.getElem?_append_right (by simp; omega), List.getElem?_append_left (by simp; omega)] at hx
      have hlen : (cs.take off).length = off := by simp; omega
      rw [hlen] at hx
      rw [if_pos (by omega)]
      have hlt : i - off < vs.length := by omega
      refine ⟨vs[i - off], ?_, hone _ (List.getElem_mem _), hext _ _ (g2 (i - off) x _ hx (List.getElem?_eq_getElem hlt))⟩
      rw [show base + i - (base + off) = i - off by omega, List.getElem?_eq_getElem hlt]
    · rw [List.getElem?_append_right (by simp; omega), List.getElem?_drop] at hx
      have hlen : (cs.take off ++ ys).length = off + ys.length := by simp; omega
      rw [hlen, show off + ys.length + (i - (off + ys.length)) = i by omega] at hx
      rw [if_neg (by omega)]
      obtain ⟨v, hv, h3, hr⟩ := RepM_iff.1 hm i x hx
      exact ⟨v, hv, h3, hext x v hr⟩

theorem repM_size' {E : Env} {b base : Nat} {c : Array Value} {e : TypeId} {fr : Nat × Nat} {cs : List A} (hb : E.w.heap[b]? = some (.cells c e fr)) (hm : RepM E b base cs) : base + cs.length ≤ c.size ∨ cs = [] := by
  cases hcs : cs with
  | nil => exact .inr rfl
  | cons y ys =>
    left
    have hlt : cs.length - 1 < cs.length := by rw [hcs]; simp
    obtain ⟨v, hv, _⟩ := RepM_iff.1 hm (cs.length - 1) _ (List.getElem?_eq_getElem hlt)
    simp only [World.cell?, hb] at hv
    have : base + (cs.length - 1) < c.size := by
      rcases Nat.lt_or_ge (base + (cs.length - 1)) c.size with h | h
      · exact h
      · simp [Array.getElem?_eq_none h] at hv
    rw [← hcs]
    omega

theorem goodW_store (h : Conc N0 w0 nt σ φ a w) {d : Option Tmp} {s : TypeId} {x y : Operand} {t : TypeId} {p : String} {af : Array Edge} {g : Option (Nat × Bool)} (hd : ∀ t, d = some t → t < nt) {n : Nat} {σ' : St}
    (hr : storeA σ d (tySize P s) (σ.ev x) (σ.ev y) = some σ') : GoodW P ⟨d, .store s x y, t, p, af, g⟩ a w N0 w0 nt φ n σ' := by
  have hx := h.ev x
  have hy := h.ev y
  cases hc : σ.ev x <;> simp only [hc, storeA] at hr <;> try (simp at hr; done)
  · rename_i n off
    rw [hc] at hx
    simp only [Rep] at hx
    obtain ⟨b, k, hφ, hv⟩ := hx
    split at hr
    · rename_i cs ho
      split at hr
      · rename_i hcond
        obtain ⟨c1, c2, c3⟩ := hcond
        obtain rfl := Option.some.inj hr
        obtain ⟨r1, r2, r3⟩ := Rep_cells hy c3
        have hob := h.objs n _ _ ho hφ
        simp only [ObjRel] at hob
        obtain ⟨⟨c, e, fr, hb, hf⟩, hm⟩ := hob
        have hsz : cs.length ≤ c.size := by
          rcases repM_size' hb hm with h | h
          · omega
          · subst h; simp
        have ht : w.there b off (a.eval y).cells.size := there_of hb hf (by omega)
        have ht' : w.there b (0 + off) (a.eval y).cells.toList.length := by simpa using ht
        obtain ⟨cc', hcc', hss'⟩ := (setCells_heap (b := b) (a.eval y).cells.toList off w).2.2.2.2.2.2 c e fr hb
        have hext := h.ext_write off (a.eval y).cells.toList hφ
        have hw := h.write (o := .box (spliceA cs off (σ.ev y).cells)) (off := off) (vs := (a.eval y).cells.toList) hφ (by
          simp only [ObjRel]
          exact ⟨⟨cc', e, fr, hcc', fun j hj => hf j (by omega)⟩, repM_splice (fun x v hr => Rep.mono hext x v hr (fun _ _ => trivial)) (by simp [envOf]) ht' hm r1 r2 c2⟩)
        refine ⟨undef, _, φ, .inr ⟨?_, rfl⟩, hw.put hd (rep_undef _), fun _ _ h => h⟩
        refine run_u (s := Instr.storeAt s (a.eval x) (a.eval y)) ?_
        rw [hv]
        exact run_storeAt (by rw [r3]; exact c1) ht r2
      · simp at hr
    · simp at hr
  · rename_i n i off
    rw [hc] at hx
    simp only [Rep] at hx
    obtain ⟨b, k, hφ, hv⟩ := hx
    split at hr
    · rename_i k' es ho
      cases hi : es[i]? with
      | none => simp [hi] at hr
      | some e =>
        simp only [hi, Option.bind_some] at hr
        split at hr
        · rename_i hcond
          obtain ⟨c1, c2, c0, c3, c4⟩ := hcond
          obtain rfl := Option.some.inj hr
          obtain ⟨r1, r2, r3⟩ := Rep_cells hy c3
          have hob := h.objs n _ _ ho hφ
          simp only [ObjRel] at hob
          obtain ⟨rfl, hp, ⟨c, ee, fr, hb, hf⟩, hE⟩ := hob
          obtain ⟨hlen, hm⟩ := RepE_iff.1 hE i e hi
          rw [Nat.zero_add] at hm
          have hsz : i * k' + e.cells.length ≤ c.size := by
            rcases repM_size' hb hm with h | h
            · exact h
            · exfalso
              have h' : (σ.ev y).cells.length ≤ e.cells.length := by omega
              rw [h] at h'
              exact c0 (by simpa using h')
          have hb' : w.heap[b]? = some (.cells c ee fr) := hb
          have ht : w.there b (i * k' + off) (a.eval y).cells.size := there_of hb' hf (by omega)
          have ht' : w.there b (i * k' + off) (a.eval y).cells.toList.length := by simpa using ht
          obtain ⟨cc', hcc', hss'⟩ := (setCells_heap (b := b) (a.eval y).cells.toList (i * k' + off) w).2.2.2.2.2.2 c ee fr hb
          have hext := h.ext_write (i * k' + off) (a.eval y).cells.toList hφ
          have r1' : RepL (envOf N0 φ w) (σ.ev y).norm.cells (a.eval y).cells.toList := by rw [norm_cells]; exact repL_norm0 r1
          have hnl : (σ.ev y).norm.cells.length = (σ.ev y).cells.length := by rw [norm_cells, List.length_map]
          have hpe := pureL_getElem hp hi
          have hse : (storeE e off (σ.ev y)).cells = spliceA e.cells off (σ.ev y).norm.cells ∧ (storeE e off (σ.ev y)).pure = true := by
            cases e
            case agg cs =>
              simp only [storeE, A.cells, true_and, A.pure]
              refine pureL_of fun j z hz => ?_
              unfold spliceA at hz
              have hmem := List.mem_of_getElem? hz
              simp only [List.mem_append] at hmem
              have hpcs : A.pure.pureL cs = true := by simpa only [A.pure] using hpe
              have hpy := pure_cells (pure_norm c4)
              rcases hmem with (hm' | hm') | hm'
              · obtain ⟨q, hq⟩ := List.getElem?_of_mem (List.mem_of_mem_take hm'); exact pureL_getElem hpcs hq
              · obtain ⟨q, hq⟩ := List.getElem?_of_mem hm'; exact pureL_getElem hpy hq
              · obtain ⟨q, hq⟩ := List.getElem?_of_mem (List.mem_of_mem_drop hm'); exact pureL_getElem hpcs hq
            all_goals
              refine ⟨?_, pure_norm c4⟩
              have c2' : off + (σ.ev y).cells.length ≤ 1 := c2
              have e0 : off = 0 := by omega
              have e1 : (σ.ev y).norm.cells.length = 1 := by omega
              subst e0
              show (σ.ev y).norm.cells = List.take 0 _ ++ (σ.ev y).norm.cells ++ List.drop (0 + (σ.ev y).norm.cells.length) [_]
              rw [List.drop_of_length_le (by simp; omega)]
              simp
          have hw := h.write (o := .row k' (setNth es i (storeE e off (σ.ev y)))) (off := i * k' + off) (vs := (a.eval y).cells.toList) hφ (by
            simp only [ObjRel]
            refine ⟨trivial, ?_, ⟨cc', ee, fr, hcc', fun j hj => hf j (by omega)⟩, ?_⟩
            · rw [setNth_eq]
              refine pureL_of fun j z hz => ?_
              rw [List.getElem?_set] at hz
              split at hz
              · first
                  | (simp at hz; subst hz; exact hse.2)
                  | (split at hz
                     · simp at hz; subst hz; exact hse.2
                     · simp at hz)
              · exact pureL_getElem hp hz
            · rw [setNth_eq]
              refine RepE_iff.2 fun j z hz => ?_
              rw [List.getElem?_set] at hz
              by_cases hji : i = j
              · subst hji
                have hz' : z = storeE e off (σ.ev y) := by
                  have hlt := (List.getElem?_eq_some_iff.1 hi).1
                  simp [hlt] at hz
                  exact hz.symm
                subst hz'
                rw [hse.1, Nat.zero_add]
                refine ⟨by unfold spliceA; simp; omega, ?_⟩
                exact repM_splice (fun x v hr => Rep.mono hext x v hr (fun _ _ => trivial)) rfl ht' hm r1' r2 (by omega)
              · rw [if_neg hji] at hz
                obtain ⟨hl, hmm⟩ := RepE_iff.1 hE j z hz
                refine ⟨hl, RepM_iff.2 fun q u hu => ?_⟩
                obtain ⟨v, hv', h1, hrr⟩ := RepM_iff.1 hmm q u hu
                refine ⟨v, ?_, h1, Rep.mono hext u v hrr (fun _ _ => trivial)⟩
                show (w.setCells b (i * k' + off) (a.eval y).cells.toList).cell? _ = _
                have hq : q < k' := by rw [← hl]; exact (List.getElem?_eq_some_iff.1 hu).1
                have hlen' : (a.eval y).cells.toList.length = (σ.ev y).cells.length := by simpa using r3
                rw [setCells_cell ht', if_neg]
                · exact hv'
                · rintro ⟨q1, q2⟩
                  rw [hlen'] at q2
                  rcases Nat.lt_or_gt_of_ne hji with hlt | hgt
                  · have : (i + 1) * k' ≤ j * k' := Nat.mul_le_mul_right k' hlt
                    rw [Nat.add_mul, Nat.one_mul] at this
                    omega
                  · have : (j + 1) * k' ≤ i * k' := Nat.mul_le_mul_right k' hgt
                    rw [Nat.add_mul, Nat.one_mul] at this
                    omega)
          refine ⟨undef, _, φ, .inr ⟨?_, rfl⟩, hw.put hd (rep_undef _), fun _ _ h => h⟩
          refine run_u (s := Instr.storeAt s (a.eval x) (a.eval y)) ?_
          rw [hv]
          exact run_storeAt (by rw [r3]; exact c1) ht r2
        · simp at hr
    · simp at hr
end

end Go.Abs
