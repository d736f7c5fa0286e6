/- Soundness, twelfth part: append, string to bytes. -/
import Derived.Test.YtfcjemfgdeoinaaAbsN
namespace Go.Abs
open Go.RowKit

section
variable {P : Program} {N0 : Nat → Prop} {w0 : Base} {nt : Nat} {σ : St} {φ : List Own} {a : Act} {w : World}

theorem first0 {k cap : Nat} {q : Option Addr} : (Builtin.firstCells k 0 (.slice q 0 cap)).run P w = .ok (#[] : Array Value) w := by
  cases q with
  | none => exact run_firstCells_none w k 0 0 cap
  | some q =>
    have := run_firstCells_some (P := P) w k 0 q 0 cap [] (by simp) (by simp)
    simpa using this

theorem first_of {k len cap b off : Nat} {vs : List Value} (hl : vs.length = len * k) (hr : w.rangeAt b off vs) : (Builtin.firstCells k len (.slice (some ⟨b, off, none⟩) len cap)).run P w = .ok vs.toArray w :=
  run_firstCells_some w k len ⟨b, off, none⟩ len cap vs hl (fun j v hv => by rw [Addr.add_lit]; exact hr j v hv)

theorem app_grow {t e k tx ty : Nat} {i : TypeInfo} {z : Value} (hT : AppTy P t e k i z) {q : Option Addr} {sLen sCap n : Nat} {olds news : List Value} {x : Value}
    (hold : (Builtin.firstCells k sLen (.slice q sLen sCap)).run P w.drew = .ok olds.toArray w.drew) (hlo : olds.length = sLen * k) (hs : Src P k tx x n news w)
    (hg : sCap < sLen + n) (hby : (sLen + n) * i.bytes ≤ 140737488355328) :
    ∃ w' c zs, (Builtin.append_ #[t, tx] ty #[.slice q sLen sCap, x]).run P w = .ok (.slice (some ⟨w.heap.size, 0, none⟩) (sLen + n) c) w' ∧ Grew w w' ∧ w.heap.size < w'.heap.size ∧ sLen + n ≤ c ∧
      w'.heap[w.heap.size]? = some (.cells ((olds ++ news).toArray ++ zs) e (0, 0)) ∧ k * c ≤ ((olds ++ news).toArray ++ zs).size := by
  obtain ⟨h1, h2, rfl, h4, h5, h6, h7⟩ := hT
  have hb1 : 1 ≤ i.bytes := by omega
  have h63 : sLen + n ≤ 140737488355328 := Nat.le_trans (Nat.le_mul_of_pos_right _ hb1) hby
  have hge := grownCap_ge w (sLen + n) sCap e
  refine ⟨_, grownCap w (sLen + n) sCap e, Builtin.zeroCells z.cells (grownCap w (sLen + n) sCap e - (sLen + n)), run_append_grow_src (P := P) w t tx ty e i z h1 h2 h4 q sLen sCap olds hold x n news hs hg (by omega) (growslice_fits hg hby), ?_, ?_, hge, ?_, ?_⟩
  · exact (Grew.drew w).trans (Grew.alloc _ _)
  · simp
  · exact heap_alloc_new w.drew _
  · have hnl := hs.newsLen
    simp only [Array.size_append, List.size_toArray, List.length_append, hlo, hnl, size_zeroCells, h5]
    rw [← Nat.add_mul, ← Nat.add_mul, Nat.mul_comm]
    exact Nat.mul_le_mul_right _ (by omega)

theorem Conc.ext_nil (_h : Conc N0 w0 nt σ φ a w) {n : Nat} (hfree : φ[n]? = some .free) : Ext (fun _ => True) (envOf N0 φ w) (envOf N0 (φ.set n .nil) w) := by
  have hset := set_get (φ := φ) (n := n) (p := Own.nil) (List.getElem?_eq_some_iff.1 hfree).1
  exact {
    size := Nat.le_refl _
    blk := fun c hc hnc => ⟨by
      rintro (h0 | ⟨m, k', hm⟩)
      · exact hnc (.inl h0)
      · rw [hset] at hm
        split at hm
        · simp at hm
        · exact hnc (.inr ⟨m, k', hm⟩), rfl⟩
    refs := fun m p _ hm hp => by
      show (φ.set n Own.nil)[m]? = some p
      rw [hset]
      split
      · rename_i e; subst e
        have : φ[n]? = some p := hm
        rw [hfree] at this
        simp at this
        exact absurd this.symm hp
      · exact hm
    own := fun m c k' cc e fr _ hm hc => ⟨cc, fr, hc, rfl⟩ }

/-- A new nil row. -/
theorem Conc.newNil (h : Conc N0 w0 nt σ φ a w) {n k : Nat} (hfree : φ[n]? = some .free) : Conc N0 w0 nt (σ.setH n (.row k [])) (φ.set n .nil) a w := by
  have hset := set_get (φ := φ) (n := n) (p := Own.nil) (List.getElem?_eq_some_iff.1 hfree).1
  have hext := h.ext_nil hfree
  exact {
    slots := fun d => Rep.mono hext _ _ (h.slots d) (fun _ _ => trivial)
    size := h.size
    defers := h.defers
    len := by simp [St.setH, setO_eq, h.len]
    objs := fun m o' p hm hp => by
      rw [hset] at hp
      simp only [St.setH] at hm
      rw [setO_eq, nthO_eq, List.getElem?_set] at hm
      split at hp
      · rename_i e
        subst e
        simp at hp
        subst hp
        rw [if_pos rfl] at hm
        split at hm
        · simp at hm; subst hm; simp [ObjRel]
        · simp at hm
      · rename_i e
        rw [if_neg e] at hm
        exact ObjRel.mono hext (h.objs m o' p (by rw [nthO_eq]; exact hm) hp) (fun c k' hc cc ee fr hh => hh) (fun _ _ _ _ => trivial)
    own := fun m c k' hm => by
      rw [hset] at hm
      split at hm
      · simp at hm
      · exact h.own m c k' hm
    inj := fun m m' c k' k'' hm hm' => by
      rw [hset] at hm hm'
      split at hm <;> split at hm'
      · simp at hm
      · simp at hm
      · simp at hm'
      · exact h.inj m m' c k' k'' hm hm'
    n0 := h.n0
    fixd := fun m q hf hm hq => by
      have := h.fixd m q hf hm hq
      rw [hset]
      split
      · rename_i e; subst e; rw [hfree] at this; exact absurd (Option.some.inj this).symm hq
      · exact this
    below := h.below }

/-- More is known of an object. -/
theorem Conc.setObj (h : Conc N0 w0 nt σ φ a w) {n : Nat} {o : Obj} (ho : ∀ p, φ[n]? = some p → ObjRel (envOf N0 φ w) o p) : Conc N0 w0 nt (σ.setH n o) φ a w :=
  { h with
    slots := h.slots
    len := by simp [St.setH, setO_eq, h.len]
    objs := fun m o' p hm hp => by
      simp only [St.setH] at hm
      rw [setO_eq, nthO_eq, List.getElem?_set] at hm
      split at hm
      · rename_i e
        subst e
        split at hm
        · simp at hm; subst hm; exact ho p hp
        · simp at hm
      · exact h.objs m o' p (by rw [nthO_eq]; exact hm) hp }

theorem app_new (h : Conc N0 w0 nt σ φ a w) {d : Option Tmp} {b x : Operand} {t tx ty : TypeId} {p : String} {af : Array Edge} {g : Option (Nat × Bool)} (hd : ∀ t, d = some t → t < nt) {n : Nat} (hfree : φ[n]? = some .free)
    {e k : Nat} {i : TypeInfo} {z : Value} (hT : AppTy P t e k i z) {q : Option Addr} {es src : List A} {news : List Value} (hbv : a.eval b = .slice q es.length es.length)
    (hes : es ≠ [] → ∃ B off, q = some ⟨B, off, none⟩ ∧ RepE (envOf N0 φ w) k B off es) (hpe : A.pure.pureL es = true) (hc : es = [] ∨ src ≠ [])
    (hs : Src P k tx (a.eval x) src.length news w) (hn : RowRel (envOf N0 φ w) k src news) (hps : A.pure.pureL src = true) (hby : (es.length + src.length) * i.bytes ≤ 140737488355328) :
    GoodW P ⟨d, .call ⟨.builtin .append, ⟨[b, x]⟩, ⟨[t, tx]⟩⟩, ty, p, af, g⟩ a w N0 w0 nt φ n ((σ.setH n (.row k (es ++ src))).put d (.row n 0 k (es.length + src.length) false)) := by
  have hlt : n < φ.length := (List.getElem?_eq_some_iff.1 hfree).1
  by_cases hsrc : src = []
  · have hes0 : es = [] := by
      rcases hc with h | h
      · exact h
      · exact absurd hsrc h
    subst hes0
    subst hsrc
    have hn0 : news = [] := by simpa only [RowRel] using hn
    subst hn0
    have hrun := run_append_nothing (P := P) w t tx ty e i hT.ty hT.info q 0 0 (Nat.le_refl 0) (a.eval x) (by rw [hT.size]; exact hs)
    refine ⟨.slice q 0 0, w, φ.set n .nil, .inl ?_, ?_⟩
    · have := hbv
      simp only [List.length_nil] at this
      rw [← this] at hrun
      rw [← this]
      exact run_append2 hrun
    · refine ⟨(h.newNil hfree).put hd ?_, fun m hm hf => by rw [List.getElem?_set_ne (Ne.symm hm)]; exact hf⟩
      simp only [Rep]
      exact .inl ⟨.nil, by show (φ.set n _)[n]? = _; simp [hlt], by simp, by simp, fun _ => trivial, q, by simp⟩
  · have hold : ∃ olds, (Builtin.firstCells k es.length (.slice q es.length es.length)).run P w.drew = .ok olds.toArray w.drew ∧ RowRel (envOf N0 φ w) k es olds ∧ ∀ u ∈ olds, u.oneCell' = true := by
      by_cases he : es = []
      · subst he
        exact ⟨[], first0, by simp [RowRel], by simp⟩
      · obtain ⟨B, off, rfl, hE⟩ := hes he
        obtain ⟨vs, h1, h2, h3⟩ := RowRel.of_mem hE
        exact ⟨vs, first_of h1.length (fun j v hv => by have := h2 j v hv; simpa [envOf] using this), h1, h3⟩
    obtain ⟨olds, hf, hro, hoo⟩ := hold
    have hsl : 0 < src.length := by
      cases src with
      | nil => exact absurd rfl hsrc
      | cons => simp
    obtain ⟨w', c, zs, hrun, g, hsz, hle, hB, hcs⟩ := app_grow (ty := ty) hT hf hro.length hs (by omega) hby
    have hnew := h.newObj (k := k) (o := .row k (es ++ src)) hfree g (Nat.le_refl _) hsz (by
      have hext := h.ext_new (k := k) hfree g (Nat.le_refl _)
      refine grown_rel (E' := envOf N0 (φ.set n (.loc w.heap.size k)) w') hB ?_ ?_ ?_
      · refine RowRel.mono (E := envOf N0 φ w) (fun x v hx hr => Rep.mono hext x v hr (fun _ _ => trivial)) ?_ (hro.append hn)
        exact pureL_of fun j y hy => by
          rcases List.mem_append.1 (List.mem_of_getElem? hy) with hm | hm
          · obtain ⟨r, hr⟩ := List.getElem?_of_mem hm; exact pureL_getElem hpe hr
          · obtain ⟨r, hr⟩ := List.getElem?_of_mem hm; exact pureL_getElem hps hr
      · intro u hu
        rcases List.mem_append.1 hu with hu | hu
        · exact hoo u hu
        · exact hs.one u hu
      · exact pureL_of fun j y hy => by
          rcases List.mem_append.1 (List.mem_of_getElem? hy) with hm | hm
          · obtain ⟨r, hr⟩ := List.getElem?_of_mem hm; exact pureL_getElem hpe hr
          · obtain ⟨r, hr⟩ := List.getElem?_of_mem hm; exact pureL_getElem hps hr)
    refine ⟨_, w', _, .inl (run_append2 (by rw [hbv]; exact hrun)), hnew.put hd ?_, fun m hm hf => by rw [List.getElem?_set_ne (Ne.symm hm)]; exact hf⟩
    simp only [Rep]
    exact .inr ⟨w.heap.size, c, _, e, (0, 0), by show (φ.set n _)[n]? = _; simp [hlt], by simp, hle, by simp, hB, by simpa using hcs⟩

theorem app_old {n : Nat} (hfx : w0.fix n = false) (h : Conc N0 w0 nt σ φ a w) {d : Option Tmp} {b x : Operand} {t tx ty : TypeId} {p : String} {af : Array Edge} {g : Option (Nat × Bool)} (hd : ∀ t, d = some t → t < nt) {nm : Nat}
    {e k : Nat} {i : TypeInfo} {z : Value} (hT : AppTy P t e k i z) {len : Nat} {es src : List A} {news : List Value} (hbr : Rep (envOf N0 φ w) (.row n 0 k len false) (a.eval b))
    (ho : nthO σ.H n = some (.row k es)) (hlen : len ≤ es.length)
    (hs : Src P k tx (a.eval x) src.length news w) (hn : RowRel (envOf N0 φ w) k src news) (hps : A.pure.pureL src = true) (hby : (len + src.length) * i.bytes ≤ 140737488355328) :
    GoodW P ⟨d, .call ⟨.builtin .append, ⟨[b, x]⟩, ⟨[t, tx]⟩⟩, ty, p, af, g⟩ a w N0 w0 nt φ nm (((σ.scrub n).setH n (.row k (es.take len ++ src))).put d (.row n 0 k (len + src.length) false)) := by
  have h' := h.scrub n
  have hcl := clear_scrub σ n
  have hnlen : n < φ.length := by
    rw [h.len]
    rw [nthO_eq] at ho
    exact (List.getElem?_eq_some_iff.1 ho).1
  have grow : φ[n]? ≠ some .free → ∀ (q : Option Addr) (sCap : Nat) (olds : List Value), a.eval b = .slice q len sCap → (Builtin.firstCells k len (.slice q len sCap)).run P w.drew = .ok olds.toArray w.drew →
      RowRel (envOf N0 φ w) k (es.take len) olds → (∀ u ∈ olds, u.oneCell' = true) → A.pure.pureL (es.take len) = true → sCap < len + src.length →
      GoodW P ⟨d, .call ⟨.builtin .append, ⟨[b, x]⟩, ⟨[t, tx]⟩⟩, ty, p, af, g⟩ a w N0 w0 nt φ nm (((σ.scrub n).setH n (.row k (es.take len ++ src))).put d (.row n 0 k (len + src.length) false)) := by
    intro hnf q sCap olds hbv hf hro hoo hpe hg
    have hlt' : (es.take len).length = len := by simp; omega
    obtain ⟨w', c, zs, hrun, g, hsz, hle, hB, hcs⟩ := app_grow (ty := ty) hT hf (by rw [hro.length, hlt']) hs hg hby
    have hpp : A.pure.pureL (es.take len ++ src) = true := pureL_of fun j y hy => by
      rcases List.mem_append.1 (List.mem_of_getElem? hy) with hm | hm
      · obtain ⟨r, hr⟩ := List.getElem?_of_mem hm; exact pureL_getElem hpe hr
      · obtain ⟨r, hr⟩ := List.getElem?_of_mem hm; exact pureL_getElem hps hr
    obtain ⟨hnew, _⟩ := h'.rehome hfx hcl hnlen (p := .loc w.heap.size k) (o := .row k (es.take len ++ src)) g (fun B K e' => by
      simp only [Own.loc.injEq] at e'
      obtain ⟨rfl, rfl⟩ := e'
      exact ⟨Nat.le_refl _, hsz⟩) (fun hext => by
      refine grown_rel (E' := envOf N0 (φ.set n (.loc w.heap.size k)) w') hB ?_ ?_ hpp
      · exact RowRel.mono (E := envOf N0 φ w) (fun x v hx hr => Rep.mono hext x v hr (fun m hm => by rw [A.mem_of_pure m x hx] at hm; cases hm)) hpp (hro.append hn)
      · intro u hu
        rcases List.mem_append.1 hu with hu | hu
        · exact hoo u hu
        · exact hs.one u hu)
    refine ⟨_, w', _, .inl (run_append2 (by rw [hbv]; exact hrun)), hnew.put hd ?_, fun m hm hf => by rw [List.getElem?_set_ne (fun e => hnf (by rw [e]; exact hf))]; exact hf⟩
    simp only [Rep]
    exact .inr ⟨w.heap.size, c, _, e, (0, 0), by show (φ.set n _)[n]? = _; simp [hnlen], by simp, hle, by simp, hB, by simpa using hcs⟩
  simp only [Rep] at hbr
  rcases hbr with ⟨o, hφ, hf, rfl, _, q, hv⟩ | ⟨B, cap, c', e', fr, hφ, hv, hlc, _, hb, hfit⟩
  · by_cases hsrc : src = []
    · subst hsrc
      have hn0 : news = [] := by simpa only [RowRel] using hn
      subst hn0
      have hrun := run_append_nothing (P := P) w t tx ty e i hT.ty hT.info q 0 0 (Nat.le_refl 0) (a.eval x) (by rw [hT.size]; exact hs)
      refine ⟨.slice q 0 0, w, φ, .inl (run_append2 (by rw [hv]; exact hrun)), ?_⟩
      refine ⟨(h'.setObj (fun p hp => ?_)).put hd ?_, fun _ _ h => h⟩
      · have hob := h.objs n _ _ ho hp
        cases p with
        | nil => simp [ObjRel]
        | free =>
          have hφ' : φ[n]? = some o := hφ
          rw [hφ'] at hp
          simp at hp
          exact absurd hp hf
        | loc B k'' =>
          simp only [ObjRel] at hob ⊢
          exact ⟨hob.1, by simp [A.pure.pureL], hob.2.2.1, by simp [RepE]⟩
      · simp only [Rep]
        exact .inl ⟨o, hφ, hf, by simp, fun _ => trivial, q, by simp⟩
    · refine grow (fun e => hf (by have hφ' : φ[n]? = some o := hφ; rw [hφ'] at e; simpa using e)) q 0 [] hv first0 (by simp [RowRel]) (by simp) (by simp [A.pure.pureL]) ?_
      cases src with
      | nil => exact absurd rfl hsrc
      | cons => simp
  · have hob := h.objs n _ _ ho hφ
    simp only [ObjRel] at hob
    obtain ⟨_, hp, ⟨cc, ee, ffr, hcc, hfr⟩, hE⟩ := hob
    have hb' : w.heap[B]? = some (.cells c' e' fr) := hb
    have hcc' : w.heap[B]? = some (.cells cc ee ffr) := hcc
    rw [hb'] at hcc'
    simp only [Option.some.injEq, Go.Obj.cells.injEq] at hcc'
    obtain ⟨rfl, rfl, rfl⟩ := hcc'
    have hE' := RepE_take (n := len) hE
    have hp' := pureL_take (n := len) hp
    obtain ⟨olds, h1, h2, h3⟩ := RowRel.of_mem hE'
    have hlt' : (es.take len).length = len := by simp; omega
    have h1l : olds.length = len * k := by rw [h1.length, hlt']
    rw [Nat.zero_mul] at hv hfit
    by_cases hroom : len + src.length ≤ cap
    · have hnl := hs.newsLen
      have hmul : len * k + src.length * k ≤ k * cap := by
        rw [← Nat.add_mul, Nat.mul_comm k cap]
        exact Nat.mul_le_mul_right _ hroom
      have ht : w.there B (0 + len * k) news.length := there_of hb' hfr (by omega)
      have hrun := run_append_room_src (P := P) w t tx ty e i hT.ty hT.info B 0 len cap (a.eval x) src.length news (by rw [hT.size]; exact hs) hroom
        (fun j hj => by rw [hT.size]; exact (ht j hj).1) (fun j hj => by rw [hT.size]; exact (ht j hj).2)
      rw [hT.size] at hrun
      obtain ⟨cc'', hcc'', hss''⟩ := (setCells_heap (b := B) news (0 + len * k) w).2.2.2.2.2.2 c' e' fr hb'
      have hext := h.ext_write (0 + len * k) news hφ
      have hw := h'.write (o := .row k (es.take len ++ src)) (off := 0 + len * k) (vs := news) hφ (by
        simp only [ObjRel]
        have hpp : A.pure.pureL (es.take len ++ src) = true := pureL_of fun j y hy => by
          rcases List.mem_append.1 (List.mem_of_getElem? hy) with hm | hm
          · obtain ⟨r, hr⟩ := List.getElem?_of_mem hm; exact pureL_getElem hp' hr
          · obtain ⟨r, hr⟩ := List.getElem?_of_mem hm; exact pureL_getElem hps hr
        refine ⟨trivial, hpp, ⟨cc'', e', fr, hcc'', fun j hj => hfr j (by omega)⟩, ?_⟩
        refine RowRel.mem (vs := olds ++ news) (RowRel.mono (E := envOf N0 φ w) (fun x v hx hr => Rep.mono hext x v hr (fun _ _ => trivial)) hpp (h1.append hn)) ?_ ?_
        · intro j u hu
          show (w.setCells B (0 + len * k) news).cell? ⟨B, 0 + j, none⟩ = some u
          rw [setCells_cell ht]
          rw [List.getElem?_append] at hu
          split at hu
          · rename_i hj
            rw [if_neg (by omega)]
            exact h2 j u hu
          · rename_i hj
            have := (List.getElem?_eq_some_iff.1 hu).1
            rw [if_pos (by omega), show 0 + j - (0 + len * k) = j - olds.length by omega]
            exact hu
        · intro u hu
          rcases List.mem_append.1 hu with hu | hu
          · exact h3 u hu
          · exact hs.one u hu)
      refine ⟨_, _, φ, .inl (run_append2 (by rw [hv]; exact hrun)), hw.put hd ?_, fun _ _ h => h⟩
      simp only [Rep]
      exact .inr ⟨B, cap, cc'', e', fr, hφ, by simp, hroom, by simp, hcc'', by rw [hss'']; simpa using hfit⟩
    · exact grow (fun e => by have hφ' : φ[n]? = some (.loc B k) := hφ; rw [hφ'] at e; simp at e) _ cap olds hv (first_of h1l (fun j v hv => by have := h2 j v hv; simpa [envOf] using this)) h1 h3 hp' (by omega)

theorem goodW_append (h : Conc N0 w0 nt σ φ a w) {d : Option Tmp} {b x : Operand} {t tx ty : TypeId} {p : String} {af : Array Edge} {g : Option (Nat × Bool)} (hd : ∀ t, d = some t → t < nt) {n : Nat} (hfree : φ[n]? = some .free)
    {σ' : St} {fx : Nat → Bool} (hfx : w0.fix = fx) (hr : appendX P fx σ n d t tx (σ.ev b) (σ.ev x) = some σ') : GoodW P ⟨d, .call ⟨.builtin .append, ⟨[b, x]⟩, ⟨[t, tx]⟩⟩, ty, p, af, g⟩ a w N0 w0 nt φ n σ' := by
  unfold appendX at hr
  split at hr
  · rename_i e he
    split at hr
    · rename_i k hk
      split at hr
      · simp at hr
      · rename_i hc
        have hz : zeroOK P e k = true := by
          cases hzz : zeroOK P e k with
          | true => rfl
          | false => exact absurd (.inr (.inr hzz)) hc
        obtain ⟨i, z, hT, hbb⟩ := app_ty he hk (fun e' => hc (.inl e')) (fun e' => hc (.inr (.inl e'))) hz
        cases hsrc : srcE P σ e tx k (σ.ev x) with
        | none => simp [hsrc] at hr
        | some src =>
          simp only [hsrc, Option.bind_some] at hr
          obtain ⟨news, hs, hn, hps⟩ := src_sound h hsrc
          have hb := h.ev b
          rw [← hbb] at hr
          have strid : ∀ {es : List A}, strOK k es = true → es ≠ [] → strideOf es = k := fun {es} h1 h2 => by
            unfold strOK at h1
            cases es with
            | nil => exact absurd rfl h2
            | cons y ys => simpa using h1
          cases hev : σ.ev b <;> rw [hev] at hb <;> simp only [hev, appendA] at hr <;> try (simp at hr; done)
          case nils =>
            split at hr
            · rename_i hby
              obtain rfl := Option.some.inj hr
              simp only [Rep] at hb
              have := app_new h (p := p) (af := af) (g := g) (ty := ty) hd hfree hT (q := none) (es := []) (src := src) hb (fun hne => absurd rfl hne) rfl (.inl rfl) hs hn hps (by simpa using hby)
              simpa using this
            · simp at hr
          case clip es =>
            split at hr
            · rename_i hcond
              obtain ⟨hst, hc2, hby⟩ := hcond
              obtain rfl := Option.some.inj hr
              simp only [Rep] at hb
              obtain ⟨hpe, q, hv, hl⟩ := hb
              exact app_new h (p := p) (af := af) (g := g) (ty := ty) hd hfree hT (q := q) (es := es) (src := src) hv (fun hne => by
                obtain ⟨B, off, e1, _, _, e2⟩ := hl hne
                rw [strid hst hne] at e2
                exact ⟨B, off, e1, e2⟩) hpe hc2 hs hn hps hby
            · simp at hr
          case row m off k' len cl =>
            cases off with
            | succ off => simp at hr
            | zero =>
              simp only at hr
              split at hr
              · rename_i k'' es ho
                split at hr
                · rename_i hcond
                  obtain ⟨rfl, rfl, hlen, hby⟩ := hcond
                  split at hr
                  · rename_i hcl
                    subst hcl
                    split at hr
                    · simp at hr
                    · rename_i hne
                      obtain rfl := Option.some.inj hr
                      have hlt' : (es.take len).length = len := by simp; omega
                      simp only [Rep] at hb
                      rcases hb with ⟨o, hφ, hf, rfl, _, q, hv⟩ | ⟨B, cap, c', e', fr, hφ, hv, hlc, hcl, hb, hfit⟩
                      · have := app_new h (p := p) (af := af) (g := g) (ty := ty) hd hfree hT (q := q) (es := []) (src := src) hv (fun hne => absurd rfl hne) rfl (.inl rfl) hs hn hps (by simpa using hby)
                        simpa using this
                      · have hob := h.objs m _ _ ho hφ
                        simp only [ObjRel] at hob
                        obtain ⟨_, hp, _, hE⟩ := hob
                        have hcap := hcl trivial
                        subst hcap
                        have hE' := RepE_take (n := cap) hE
                        have hp' := pureL_take (n := cap) hp
                        have := app_new h (p := p) (af := af) (g := g) (ty := ty) hd hfree hT (q := some ⟨B, 0, none⟩) (es := es.take cap) (src := src) (by rw [hlt', hv]; simp) (fun _ => ⟨B, 0, rfl, hE'⟩) hp' (.inr hne) hs hn hps (by rw [hlt']; exact hby)
                        rw [hlt'] at this
                        exact this
                  · rename_i hcl
                    have hcl' : cl = false := by simpa using hcl
                    subst hcl'
                    split at hr
                    · simp at hr
                    · rename_i hnf
                      obtain rfl := Option.some.inj hr
                      exact app_old (by rw [hfx]; simpa using hnf) h hd hT hb ho hlen hs hn hps hby
                · simp at hr
              · simp at hr
    · simp at hr
  · simp at hr
end

end Go.Abs
