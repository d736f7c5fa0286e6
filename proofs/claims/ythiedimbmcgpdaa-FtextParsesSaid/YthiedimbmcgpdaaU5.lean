/- What the laws of this claim rest on: the abstract executor, its soundness, and what the functions compute on pure data. No condition. -/
import Derived.Test.YthiedimbmcgpdaaU4
import Derived.Lib.Join
import Derived.Lib.SplitLaws
set_option linter.unusedVariables false
set_option linter.unusedSimpArgs false
namespace Go.Proofs.Ythiedimbmcgpdaa
open Go.Abs
set_option linter.unusedSimpArgs false
set_option linter.unusedVariables false
def allT : List UInt8 := [97, 108, 108]
def noneT : List UInt8 := [110, 111, 110, 101]
def prefixT : List UInt8 := [112, 114, 101, 102, 105, 120]
def rangeT : List UInt8 := [114, 97, 110, 103, 101]
def fromT : List UInt8 := [102, 114, 111, 109]
def notT : List UInt8 := [110, 111, 116]
def andT : List UInt8 := [97, 110, 100]
def orT : List UInt8 := [111, 114]
def nameT (op : Int) : List UInt8 := if op = 1 then allT else if op = 2 then noneT else if op = 3 then prefixT else if op = 4 then rangeT else if op = 5 then fromT else if op = 6 then notT else if op = 7 then andT else if op = 8 then orT else []
def joinC : List (List UInt8) → List UInt8
  | [] => []
  | x :: r => x ++ r.flatMap (44 :: ·)
def txtN (n : Nd) (ts : List (List UInt8)) : List UInt8 :=
  if n.op = 3 ∨ n.op = 5 then nameT n.op ++ (40 :: ofW n.lo ++ [41])
  else if n.op = 4 then nameT n.op ++ (40 :: ofW n.lo ++ 44 :: ofW n.hi ++ [41])
  else if 6 ≤ n.op ∧ n.op ≤ 8 then nameT n.op ++ (40 :: joinC ts ++ [41])
  else nameT n.op
def stepT (st : List (List UInt8)) (n : Nd) : Option (List (List UInt8)) :=
  if okN n = true ∧ kN n ≤ st.length then some (st.take (st.length - kN n) ++ [txtN n (st.drop (st.length - kN n))]) else none
def runT : List (List UInt8) → List Nd → Option (List (List UInt8))
  | st, [] => some st
  | st, n :: l => (stepT st n).bind fun s => runT s l
def textF (l : List Nd) : List UInt8 := match runT [] l with | some [t] => t | _ => []
theorem runT_append : ∀ (l m : List Nd) (st : List (List UInt8)), runT st (l ++ m) = (runT st l).bind fun s => runT s m
  | [], m, st => rfl
  | n :: l, m, st => by
    show (stepT st n).bind _ = ((stepT st n).bind _).bind _
    cases h : stepT st n with
    | none => rfl
    | some s => exact runT_append l m s
theorem runT_one (st : List (List UInt8)) (n : Nd) : runT st [n] = stepT st n := by
  show (stepT st n).bind (fun s => runT s []) = stepT st n
  cases stepT st n <;> rfl
theorem runT_snoc (l : List Nd) (n : Nd) (st : List (List UInt8)) : runT st (l ++ [n]) = (runT st l).bind fun s => stepT s n := by
  rw [runT_append]
  cases runT st l with
  | none => rfl
  | some s => exact runT_one s n
theorem runT_of : ∀ {l : List Nd} {st s : List (List UInt8 → Bool)} {t : List (List UInt8)}, runN st l = some s → t.length = st.length → ∃ u, runT t l = some u ∧ u.length = s.length
  | [], st, s, t, h, hl => by
    simp only [runN, Option.some.injEq] at h
    exact ⟨t, rfl, by rw [hl, h]⟩
  | n :: l, st, s, t, h, hl => by
    have h : (stepN st n).bind (fun s => runN s l) = some s := h
    cases h1 : stepN st n with
    | none => rw [h1] at h; cases h
    | some s1 =>
      rw [h1] at h
      unfold stepN at h1
      split at h1
      case isTrue g =>
        simp only [Option.some.injEq] at h1
        subst h1
        have e : stepT t n = some (t.take (t.length - kN n) ++ [txtN n (t.drop (t.length - kN n))]) := by unfold stepT; rw [if_pos ⟨g.1, by rw [hl]; exact g.2⟩]
        obtain ⟨u, h2, h3⟩ := runT_of (l := l) (t := t.take (t.length - kN n) ++ [txtN n (t.drop (t.length - kN n))]) h (by simp [hl])
        exact ⟨u, by show (stepT t n).bind _ = _; rw [e]; exact h2, h3⟩
      case isFalse => cases h1
inductive Segs : List Nd → List (List UInt8) → Prop where
  | nil : Segs [] []
  | snoc {a m : List Nd} {ts us : List (List UInt8)} {n : Nd} : Segs a ts → Segs m us → n.kids = us.length → Segs (a ++ (m ++ [n])) (ts ++ [txtN n us])
theorem segs_nil {l : List Nd} (h : Segs l []) : l = [] := by
  generalize hx : ([] : List (List UInt8)) = x at h
  cases h with
  | nil => rfl
  | snoc _ _ _ => simp at hx
theorem segs_split {l : List Nd} {z : List (List UInt8)} (h : Segs l z) : ∀ x y, z = x ++ y → ∃ a m, l = a ++ m ∧ Segs a x ∧ Segs m y := by
  induction h with
  | nil =>
    intro x y e
    obtain ⟨rfl, rfl⟩ := List.append_eq_nil_iff.1 e.symm
    exact ⟨[], [], rfl, .nil, .nil⟩
  | @snoc a m ts us n h1 h2 h3 ih1 _ =>
    intro x y e
    rcases List.eq_nil_or_concat y with rfl | ⟨y', t, rfl⟩
    · rw [List.append_nil] at e
      subst e
      exact ⟨a ++ (m ++ [n]), [], by simp, .snoc h1 h2 h3, .nil⟩
    · rw [List.concat_eq_append, ← List.append_assoc] at e
      obtain ⟨e1, e2⟩ := List.append_inj' e rfl
      simp only [List.cons.injEq, and_true] at e2
      subst e2
      obtain ⟨a', m', rfl, h4, h5⟩ := ih1 x y' e1
      refine ⟨a', m' ++ (m ++ [n]), by simp, h4, ?_⟩
      rw [List.concat_eq_append]
      exact .snoc h5 h2 h3
theorem segs_append {a m : List Nd} {x y : List (List UInt8)} (h1 : Segs a x) (h2 : Segs m y) : Segs (a ++ m) (x ++ y) := by
  induction h2 with
  | nil => simpa using h1
  | snoc _ h4 h5 ih _ =>
    rename_i a' m' ts' us' n' _
    have := Segs.snoc ih h4 h5
    simpa only [List.append_assoc] using this
theorem segs_run {m : List Nd} {ts : List (List UInt8)} (h : Segs m ts) : (∀ n ∈ m, okN n = true) → ∀ st, runT st m = some (st ++ ts) := by
  induction h with
  | nil => intro _ st; simp [runT]
  | @snoc a m ts us n h1 h2 h3 ih1 ih2 =>
    intro ho st
    rw [runT_append, ih1 fun x hx => ho x (by simp [hx])]
    show runT (st ++ ts) (m ++ [n]) = _
    rw [runT_snoc, ih2 fun x hx => ho x (by simp [hx])]
    show stepT (st ++ ts ++ us) n = _
    have hk : kN n = us.length := by unfold kN; omega
    unfold stepT
    rw [if_pos ⟨ho n (by simp), by rw [hk]; simp; omega⟩, hk]
    have e : (st ++ ts ++ us).length - us.length = (st ++ ts).length := by rw [List.length_append]; omega
    rw [e, List.take_left, List.drop_left, List.append_assoc]
theorem run_segs : ∀ (k : Nat) {l : List Nd} {s : List (List UInt8)}, l.length = k → runT [] l = some s → Segs l s
  | 0, l, s, hl, h => by
    obtain rfl := List.length_eq_zero_iff.1 hl
    simp only [runT, Option.some.injEq] at h
    subst h; exact .nil
  | k + 1, l, s, hl, h => by
    obtain ⟨l', n, rfl⟩ : ∃ l' n, l = l' ++ [n] := ⟨l.dropLast, l.getLast (by intro e; rw [e] at hl; simp at hl), (List.dropLast_concat_getLast _).symm⟩
    rw [runT_snoc] at h
    cases h1 : runT [] l' with
    | none => rw [h1] at h; cases h
    | some t =>
      rw [h1] at h
      have h : stepT t n = some s := h
      have ih := run_segs k (by simpa using hl) h1
      unfold stepT at h
      split at h
      case isTrue g =>
        simp only [Option.some.injEq] at h
        subst h
        obtain ⟨a, m, rfl, h2, h3⟩ := segs_split ih (t.take (t.length - kN n)) (t.drop (t.length - kN n)) (List.take_append_drop _ _).symm
        rw [List.append_assoc]
        refine .snoc h2 h3 ?_
        have := (okN_kids g.1).1
        rw [List.length_drop, this]; omega
      case isFalse => cases h
theorem right_text {l : List Nd} (h : rightF l = true) : l.length ≤ 32 ∧ (∀ n ∈ l, okN n = true) ∧ runT [] l = some [textF l] ∧ Segs l [textF l] := by
  obtain ⟨v, h1, h2⟩ := rightF_iff.1 h
  obtain ⟨u, h3, h4⟩ := runT_of (t := []) h2 rfl
  obtain ⟨t, rfl⟩ := List.length_eq_one_iff.1 h4
  have e : textF l = t := by unfold textF; rw [h3]
  rw [e]
  exact ⟨h1, run_ok h2, h3, run_segs _ rfl h3⟩
def goB (c : UInt8) : Bool := !(c == 40 || c == 41 || c == 44)
structure PS where
  s : List UInt8
  bad : Bool
  l : List Nd
def runP (p : PS) : List UInt8 × PS := (p.s.takeWhile goB, { p with s := p.s.dropWhile goB })
def signP (c : UInt8) (p : PS) : Bool × PS := if p.bad = true then (false, p) else match p.s with | [] => (false, p) | d :: r => if d = c then (true, { p with s := r }) else (false, p)
def mustP (c : UInt8) (p : PS) : PS := if (signP c p).1 = true then (signP c p).2 else { p with bad := true }
def textP (p : PS) : List UInt8 × PS := match readW (runP p).1 with | some t => (t, (runP p).2) | none => ([], { (runP p).2 with bad := true })
def putP (n : Nd) (p : PS) : PS := if p.bad = true ∨ 32 ≤ p.l.length then { p with bad := true } else { p with l := p.l ++ [n] }
def opP (w : List UInt8) : Int := if w = allT then 1 else if w = noneT then 2 else if w = prefixT then 3 else if w = rangeT then 4 else if w = fromT then 5 else if w = notT then 6 else if w = andT then 7 else if w = orT then 8 else 0
def kidsP (f : PS → PS) : Nat → Nat → PS → Nat × PS
  | 0, k, p => (k, p)
  | m + 1, k, p => if (f p).bad = true then (k + 1, f p) else if (signP 44 (f p)).1 = true then kidsP f m (k + 1) (signP 44 (f p)).2 else (k + 1, (signP 44 (f p)).2)
def argsP (kids : PS → Nat × PS) (o : Int) (p : PS) : Nd × PS :=
  if o = 3 ∨ o = 5 then (⟨o, 0, (textP p).1, []⟩, (textP p).2)
  else if o = 4 then (⟨o, 0, (textP p).1, (textP (mustP 44 (textP p).2)).1⟩, (textP (mustP 44 (textP p).2)).2)
  else if 6 ≤ o then (⟨o, (kids p).1, [], []⟩, (kids p).2)
  else (⟨o, 0, [], []⟩, p)
def behindP (kids : PS → Nat × PS) (o : Int) (p : PS) : PS :=
  if 2 < o then putP (argsP kids o (mustP 40 p)).1 (mustP 41 (argsP kids o (mustP 40 p)).2) else putP (argsP kids o p).1 (argsP kids o p).2
def filterP : Nat → PS → PS
  | 0, p => { (runP p).2 with bad := true }
  | d + 1, p => if opP (runP p).1 = 0 ∨ p.bad = true then { (runP p).2 with bad := true } else behindP (fun q => kidsP (filterP d) (q.s.length + 1) 0 q) (opP (runP p).1) (runP p).2
def parseF (s : List UInt8) : Option (List Nd) :=
  if (filterP 32 ⟨s, false, []⟩).bad = true ∨ (filterP 32 ⟨s, false, []⟩).s ≠ [] ∨ rightF (filterP 32 ⟨s, false, []⟩).l = false then none else some (filterP 32 ⟨s, false, []⟩).l
theorem opP_name {w : List UInt8} (h : opP w ≠ 0) : nameT (opP w) = w ∧ 1 ≤ opP w ∧ opP w ≤ 8 := by
  unfold opP at h ⊢
  repeat' split
  all_goals first | (rename_i e; rw [e]; exact ⟨rfl, by decide, by decide⟩) | (exfalso; apply h; simp_all)
theorem name_op {o : Int} (h1 : 1 ≤ o) (h2 : o ≤ 8) : opP (nameT o) = o := by
  have : o = 1 ∨ o = 2 ∨ o = 3 ∨ o = 4 ∨ o = 5 ∨ o = 6 ∨ o = 7 ∨ o = 8 := by omega
  rcases this with rfl | rfl | rfl | rfl | rfl | rfl | rfl | rfl <;> rfl
theorem name_go (o : Int) : ∀ c ∈ nameT o, goB c = true := by
  unfold nameT
  repeat' split
  all_goals decide
theorem runP_app {x y : List UInt8} (h1 : ∀ c ∈ x, goB c = true) (h2 : ∀ c r, y = c :: r → goB c = false) (b : Bool) (l : List Nd) : runP ⟨x ++ y, b, l⟩ = (x, ⟨y, b, l⟩) := by
  have e : y.takeWhile goB = [] ∧ y.dropWhile goB = y := by
    cases y with
    | nil => exact ⟨rfl, rfl⟩
    | cons c r => have := h2 c r rfl; simp [this]
  unfold runP
  simp only
  rw [List.takeWhile_append_of_pos h1, List.dropWhile_append_of_pos h1, e.1, e.2, List.append_nil]
theorem runP_eq (p : PS) : p.s = (runP p).1 ++ (runP p).2.s := (List.takeWhile_append_dropWhile ..).symm
theorem go_ofW (s : List UInt8) : ∀ c ∈ ofW s, goB c = true := by
  intro c hc
  unfold ofW at hc
  split at hc
  · simp only [List.mem_cons, List.not_mem_nil, or_false] at hc; subst hc; decide
  · obtain ⟨d, _, hd⟩ := List.mem_flatMap.1 hc
    have hx : ∀ n, n < 16 → goB (hexB n) = true := by decide
    have hb := d.toNat_lt
    unfold wC at hd
    split at hd
    case isTrue h =>
      simp only [List.mem_cons, List.not_mem_nil, or_false] at hd
      subst hd
      unfold goB
      have : ∀ k : UInt8, plB k = false → ¬ c = k := by rintro k hk rfl; rw [hk] at h; cases h
      simp [this 40 (by decide), this 41 (by decide), this 44 (by decide)]
    case isFalse =>
      simp only [List.mem_cons, List.not_mem_nil, or_false] at hd
      rcases hd with rfl | rfl | rfl
      · decide
      · exact hx _ (by omega)
      · exact hx _ (by omega)
theorem sign_true {c : UInt8} {p : PS} (h : (signP c p).1 = true) : p.bad = false ∧ p.s = c :: (signP c p).2.s ∧ (signP c p).2 = { p with s := (signP c p).2.s } := by
  unfold signP at h ⊢
  split at h
  · cases h
  · rename_i hb
    rw [if_neg hb]
    split at h
    · cases h
    · rename_i d r e
      split at h
      · rename_i hd
        exact ⟨by simpa using hb, by simp [e, hd], by simp [e, hd]⟩
      · cases h
theorem sign_false {c : UInt8} {p : PS} (h : (signP c p).1 = false) : (signP c p).2 = p := by
  unfold signP at h ⊢
  split
  · rfl
  · rename_i hb
    rw [if_neg hb] at h
    split
    · rfl
    · split
      · rename_i e hd
        rw [e] at h; simp [hd] at h
      · rfl
theorem must_ok {c : UInt8} {p : PS} (h : (mustP c p).bad = false) : p.bad = false ∧ p.s = c :: (mustP c p).s ∧ (mustP c p).l = p.l := by
  unfold mustP at h ⊢
  split at h
  · rename_i g
    rw [if_pos g]
    obtain ⟨h1, h2, h3⟩ := sign_true g
    exact ⟨h1, h2, by rw [h3]⟩
  · cases h
theorem must_do (c : UInt8) (r : List UInt8) (l : List Nd) : mustP c ⟨c :: r, false, l⟩ = ⟨r, false, l⟩ := by simp [mustP, signP]
theorem text_ok {p : PS} (h : (textP p).2.bad = false) : p.bad = false ∧ p.s = ofW (textP p).1 ++ (textP p).2.s ∧ (textP p).2.l = p.l := by
  unfold textP at h ⊢
  have he := runP_eq p
  cases hr : readW (runP p).1 with
  | none => rw [hr] at h; cases h
  | some t =>
    rw [hr] at h
    simp only at h ⊢
    refine ⟨h, ?_, rfl⟩
    rw [ofW_readW hr]; exact he
theorem text_do (w r : List UInt8) (l : List Nd) (hr : ∀ c x, r = c :: x → goB c = false) : textP ⟨ofW w ++ r, false, l⟩ = (w, ⟨r, false, l⟩) := by
  unfold textP
  rw [runP_app (go_ofW w) hr]
  simp only [readW_ofW]
theorem put_ok {n : Nd} {p : PS} (h : (putP n p).bad = false) : p.bad = false ∧ (putP n p).s = p.s ∧ (putP n p).l = p.l ++ [n] := by
  unfold putP at h ⊢
  split at h
  · cases h
  · rename_i g
    rw [if_neg g]
    exact ⟨h, rfl, rfl⟩
def Takes (f : PS → PS) : Prop := ∀ p, (f p).bad = false → p.bad = false ∧ ∃ m t, (f p).l = p.l ++ m ∧ p.s = t ++ (f p).s ∧ Segs m [t]
theorem kids_takes {f : PS → PS} (hf : Takes f) : ∀ (m k : Nat) (p : PS), p.s.length < m → (kidsP f m k p).2.bad = false → p.bad = false ∧ ∃ a ts, (kidsP f m k p).2.l = p.l ++ a ∧ p.s = joinC ts ++ (kidsP f m k p).2.s ∧ Segs a ts ∧ (kidsP f m k p).1 = k + ts.length ∧ ts ≠ []
  | 0, k, p, hm, _ => by omega
  | m + 1, k, p, hm, h => by
    rw [kidsP] at h ⊢
    by_cases hb : (f p).bad = true
    · rw [if_pos hb] at h; rw [hb] at h; cases h
    · rw [if_neg hb] at h ⊢
      have hb' : (f p).bad = false := by simpa using hb
      obtain ⟨h1, a, t, h2, h3, h4⟩ := hf p hb'
      by_cases hs : (signP 44 (f p)).1 = true
      · rw [if_pos hs] at h ⊢
        obtain ⟨g1, g2, g3⟩ := sign_true hs
        have hl := congrArg List.length h3
        rw [g2] at hl
        simp only [List.length_append, List.length_cons] at hl
        obtain ⟨_, a', ts, e1, e2, e3, e4, e5⟩ := kids_takes hf m (k + 1) (signP 44 (f p)).2 (by omega) h
        refine ⟨h1, a ++ a', t :: ts, ?_, ?_, segs_append h4 e3, by rw [e4]; simp; omega, by simp⟩
        · rw [e1, g3]; simp only; rw [h2, List.append_assoc]
        · rw [h3, g2, e2]
          cases ts with
          | nil => exact absurd rfl e5
          | cons u us => simp [joinC]
      · rw [if_neg hs] at h ⊢
        have hs' : (signP 44 (f p)).1 = false := by simpa using hs
        rw [sign_false hs']
        exact ⟨h1, a, [t], h2, by rw [h3]; simp [joinC], h4, rfl, by simp⟩
theorem filter_takes : ∀ d, Takes (filterP d)
  | 0 => fun p h => by simp [filterP] at h
  | d + 1 => fun p h => by
    have ih := filter_takes d
    rw [filterP] at h ⊢
    split at h
    · cases h
    · rename_i g
      rw [if_neg g]
      have ho : opP (runP p).1 ≠ 0 := fun e => g (.inl e)
      have hpb : p.bad = false := by simpa using fun e => g (.inr e)
      obtain ⟨n1, n2, n3⟩ := opP_name ho
      have he := runP_eq p
      rw [← n1] at he
      generalize hoo : opP (runP p).1 = o at h n1 n2 n3 he ⊢
      have hql : (runP p).2.l = p.l := rfl
      generalize (runP p).2 = q at h he hql ⊢
      refine ⟨hpb, ?_⟩
      unfold behindP at h ⊢
      by_cases h2 : 2 < o
      · rw [if_pos h2] at h ⊢
        obtain ⟨a1, a2, a3⟩ := put_ok h
        obtain ⟨b1, b2, b3⟩ := must_ok a1
        by_cases h35 : o = 3 ∨ o = 5
        · simp only [argsP, if_pos h35] at a2 a3 b1 b2 b3 ⊢
          obtain ⟨c1, c2, c3⟩ := text_ok b1
          obtain ⟨d1, d2, d3⟩ := must_ok c1
          refine ⟨[⟨o, 0, (textP (mustP 40 q)).1, []⟩], nameT o ++ (40 :: ofW (textP (mustP 40 q)).1 ++ [41]), ?_, ?_, ?_⟩
          · rw [a3, b3, c3, d3, hql]
          · rw [he, d2, c2, b2, a2]; simp
          · have := Segs.snoc (a := []) (m := []) (ts := []) (us := []) (n := ⟨o, 0, (textP (mustP 40 q)).1, []⟩) .nil .nil rfl
            simp only [txtN, if_pos h35] at this
            simpa using this
        · by_cases h4 : o = 4
          · simp only [argsP, if_neg h35, if_pos h4] at a2 a3 b1 b2 b3 ⊢
            obtain ⟨c1, c2, c3⟩ := text_ok b1
            obtain ⟨d1, d2, d3⟩ := must_ok c1
            obtain ⟨e1, e2, e3⟩ := text_ok d1
            obtain ⟨f1, f2, f3⟩ := must_ok e1
            refine ⟨[⟨o, 0, (textP (mustP 40 q)).1, (textP (mustP 44 (textP (mustP 40 q)).2)).1⟩], nameT o ++ (40 :: ofW (textP (mustP 40 q)).1 ++ 44 :: ofW (textP (mustP 44 (textP (mustP 40 q)).2)).1 ++ [41]), ?_, ?_, ?_⟩
            · rw [a3, b3, c3, d3, e3, f3, hql]
            · rw [he, f2, e2, d2, c2, b2, a2]; simp
            · have := Segs.snoc (a := []) (m := []) (ts := []) (us := []) (n := ⟨o, 0, (textP (mustP 40 q)).1, (textP (mustP 44 (textP (mustP 40 q)).2)).1⟩) .nil .nil rfl
              simp only [txtN, if_neg h35, if_pos h4] at this
              simpa using this
          · have h6 : 6 ≤ o := by omega
            simp only [argsP, if_neg h35, if_neg h4, if_pos h6] at a2 a3 b1 b2 b3 ⊢
            obtain ⟨c1, x, ts, c2, c3, c4, c5, c6⟩ := kids_takes ih _ 0 (mustP 40 q) (Nat.lt_succ_self _) b1
            obtain ⟨d1, d2, d3⟩ := must_ok c1
            generalize kidsP (filterP d) ((mustP 40 q).s.length + 1) 0 (mustP 40 q) = K at a2 a3 b1 b2 b3 c2 c3 c5 ⊢
            refine ⟨x ++ [⟨o, (K.1 : Int), [], []⟩], nameT o ++ (40 :: joinC ts ++ [41]), ?_, ?_, ?_⟩
            · rw [a3, b3, c2, d3, hql, List.append_assoc]
            · rw [a2, he, d2, c3, b2]; simp
            · have := Segs.snoc (a := []) (ts := []) (n := ⟨o, (K.1 : Int), [], []⟩) .nil c4 (by simp only; rw [c5]; omega)
              simp only [txtN, if_neg h35, if_neg h4, if_pos (And.intro h6 n3)] at this
              simpa using this
      · rw [if_neg h2] at h ⊢
        obtain ⟨a1, a2, a3⟩ := put_ok h
        have e1 : ¬ (o = 3 ∨ o = 5) := by omega
        have e2 : ¬ o = 4 := by omega
        have e3 : ¬ 6 ≤ o := by omega
        have e4 : ¬ (6 ≤ o ∧ o ≤ 8) := by omega
        simp only [argsP, if_neg e1, if_neg e2, if_neg e3] at a1 a2 a3 ⊢
        refine ⟨[⟨o, 0, [], []⟩], nameT o, by rw [a3, hql], by rw [he, a2], ?_⟩
        have := Segs.snoc (a := []) (m := []) (ts := []) (us := []) (n := ⟨o, 0, [], []⟩) .nil .nil rfl
        simp only [txtN, if_neg e1, if_neg e2, if_neg e4] at this
        simpa using this
theorem parse_some {s : List UInt8} {l : List Nd} (h : parseF s = some l) : rightF l = true ∧ textF l = s := by
  unfold parseF at h
  split at h
  · cases h
  · rename_i g
    simp only [not_or, Bool.not_eq_true, ne_eq, Classical.not_not, Bool.not_eq_false] at g
    obtain ⟨g1, g2, g3⟩ := g
    simp only [Option.some.injEq] at h
    obtain ⟨_, m, t, h1, h2, h3⟩ := filter_takes 32 ⟨s, false, []⟩ g1
    rw [h] at h1 g3
    simp only [List.nil_append] at h1
    simp only [g2, List.append_nil] at h2
    subst h1; subst h2
    obtain ⟨_, r1, r2, _⟩ := right_text g3
    have := segs_run h3 r1 []
    rw [r2] at this
    simp only [List.nil_append, Option.some.injEq, List.cons.injEq, and_true] at this
    exact ⟨g3, this⟩
def Does (d : Nat) (f : PS → PS) : Prop := ∀ (m : List Nd) (t r : List UInt8) (l : List Nd), Segs m [t] → (∀ n ∈ m, okN n = true) → m.length ≤ d → l.length + m.length ≤ 32 → (∀ c x, r = c :: x → goB c = false) → f ⟨t ++ r, false, l⟩ = ⟨r, false, l ++ m⟩
theorem segs_ne {m : List Nd} {t : List UInt8} (h : Segs m [t]) : 1 ≤ m.length := by
  cases m with
  | nil =>
    have := segs_run h (by simp) []
    simp [runT] at this
  | cons _ _ => simp
theorem kids_does {d : Nat} {f : PS → PS} (hf : Does d f) : ∀ (ts : List (List UInt8)) (fuel k : Nat) (m : List Nd) (r : List UInt8) (l : List Nd), ts ≠ [] → ts.length ≤ fuel → Segs m ts → (∀ n ∈ m, okN n = true) → m.length ≤ d → l.length + m.length ≤ 32 →
    kidsP f fuel k ⟨joinC ts ++ 41 :: r, false, l⟩ = (k + ts.length, ⟨41 :: r, false, l ++ m⟩)
  | [], _, _, _, _, _, h, _, _, _, _, _ => absurd rfl h
  | t :: ts, 0, _, _, _, _, _, h, _, _, _, _ => by simp at h
  | t :: ts, fuel + 1, k, m, r, l, _, hfu, hs, ho, hd, hl => by
    obtain ⟨a, m', rfl, h1, h2⟩ := segs_split hs [t] ts rfl
    rw [List.length_append] at hd hl
    rw [kidsP]
    cases ts with
    | nil =>
      obtain rfl := segs_nil h2
      have e : f ⟨joinC [t] ++ 41 :: r, false, l⟩ = ⟨41 :: r, false, l ++ a⟩ := by
        have := hf a t (41 :: r) l h1 (fun n hn => ho n (by simp [hn])) (by omega) (by omega) (by intro c x e; simp only [List.cons.injEq] at e; rw [← e.1]; rfl)
        simpa [joinC] using this
      rw [e]
      simp [signP]
    | cons u us =>
      have e : f ⟨joinC (t :: u :: us) ++ 41 :: r, false, l⟩ = ⟨44 :: (joinC (u :: us) ++ 41 :: r), false, l ++ a⟩ := by
        have := hf a t (44 :: (joinC (u :: us) ++ 41 :: r)) l h1 (fun n hn => ho n (by simp [hn])) (by omega) (by omega) (by intro c x e; simp only [List.cons.injEq] at e; rw [← e.1]; rfl)
        simpa [joinC] using this
      rw [e]
      have e2 : signP 44 ⟨44 :: (joinC (u :: us) ++ 41 :: r), false, l ++ a⟩ = (true, ⟨joinC (u :: us) ++ 41 :: r, false, l ++ a⟩) := by simp [signP]
      rw [e2]
      simp only [Bool.false_eq_true, if_false, if_true]
      rw [kids_does hf (u :: us) fuel (k + 1) m' r (l ++ a) (by simp) (by simpa using hfu) h2 (fun n hn => ho n (by simp [hn])) (by omega) (by rw [List.length_append]; omega)]
      simp only [List.length_cons, List.append_assoc]
      congr 1
      omega
theorem joinC_len : ∀ ts : List (List UInt8), ts.length ≤ (joinC ts).length + 1
  | [] => by simp [joinC]
  | t :: ts => by
    have h : ts.length ≤ (ts.flatMap (44 :: ·)).length := by
      induction ts with
      | nil => simp
      | cons u us ih => simp only [List.flatMap_cons, List.length_append, List.length_cons]; omega
    simp only [joinC, List.length_append, List.length_cons]; omega
theorem okN_op {n : Nd} (h : okN n = true) : 1 ≤ n.op ∧ n.op ≤ 8 ∧ (n.op ≤ 5 → n.kids = 0) ∧ (6 ≤ n.op → 1 ≤ n.kids ∧ n.lo = [] ∧ n.hi = []) ∧ (n.op ≤ 2 → n.lo = [] ∧ n.hi = []) ∧ (n.op = 3 ∨ n.op = 5 → n.hi = []) := by
  unfold okN at h
  repeat' split at h
  all_goals simp only [Bool.and_eq_true, Bool.or_eq_true, beq_iff_eq, decide_eq_true_eq, Bool.not_eq_true', beq_eq_false_iff_ne, ne_eq, Bool.false_eq_true] at *
  · rename_i g; exact ⟨by omega, by omega, fun _ => h.1.1, fun _ => by omega, fun _ => ⟨h.1.2, h.2⟩, fun _ => h.2⟩
  · rename_i g; exact ⟨by omega, by omega, fun _ => h.1.1, fun _ => by omega, fun _ => by omega, fun _ => h.2⟩
  · rename_i g; exact ⟨by omega, by omega, fun _ => h.1, fun _ => by omega, fun _ => by omega, fun _ => by omega⟩
  · rename_i g; exact ⟨by omega, by omega, fun _ => h.1.1, fun _ => by omega, fun _ => by omega, fun _ => h.2⟩
  · rename_i g
    simp only [not_or, Classical.not_not] at g
    exact ⟨by omega, by omega, fun _ => by omega, fun _ => ⟨by omega, g.1, g.2⟩, fun _ => by omega, fun _ => by omega⟩
theorem filter_does : ∀ d, Does d (filterP d)
  | 0 => fun m t r l hs _ hd _ _ => by have := segs_ne hs; omega
  | d + 1 => fun m t r l hs ho hd hl hr => by
    have ih := filter_does d
    obtain ⟨us, m', n, rfl, rfl, h2, h3⟩ : ∃ us m' n, m = m' ++ [n] ∧ t = txtN n us ∧ Segs m' us ∧ n.kids = (us.length : Int) := by
      generalize hz : [t] = z at hs
      cases hs with
      | nil => simp at hz
      | @snoc a m ts us n g1 g2 g3 =>
        have e : ts = [] := by
          have := congrArg List.length hz
          simp at this
          exact this
        subst e
        obtain rfl := segs_nil g1
        simp only [List.nil_append, List.cons.injEq, and_true] at hz
        exact ⟨us, m, n, rfl, hz, g2, g3⟩
    obtain ⟨o1, o2, o3, o4, o5, o6⟩ := okN_op (ho n (by simp))
    rw [List.length_append] at hd hl
    simp only [List.length_cons, List.length_nil] at hd hl
    obtain ⟨o, k, lo, hi⟩ := n
    simp only at h3 o1 o2 o3 o4 o5 o6
    have hq : ∀ (y : List UInt8), (∀ c x, y = c :: x → goB c = false) → filterP (d + 1) ⟨nameT o ++ y, false, l⟩ = behindP (fun q => kidsP (filterP d) (q.s.length + 1) 0 q) o ⟨y, false, l⟩ := by
      intro y hy
      rw [filterP, runP_app (name_go o) hy]
      simp only [name_op o1 o2]
      rw [if_neg (by simp; omega)]
    have hput : ∀ (a : List Nd) (n : Nd) (s : List UInt8), a.length < 32 → putP n ⟨s, false, a⟩ = ⟨s, false, a ++ [n]⟩ := by
      intro a n s ha
      unfold putP
      rw [if_neg (by simp; omega)]
    have stop : ∀ (c : UInt8) (y : List UInt8), goB c = false → ∀ c' x, c :: y = c' :: x → goB c' = false := by
      intro c y hc c' x e
      simp only [List.cons.injEq] at e
      rw [← e.1]; exact hc
    by_cases h35 : o = 3 ∨ o = 5
    · have k0 := o3 (by omega)
      have us0 : us = [] := List.length_eq_zero_iff.1 (by omega)
      subst us0
      obtain rfl := segs_nil h2
      simp only [txtN, if_pos h35, List.append_assoc, List.cons_append]
      rw [hq _ (stop _ _ rfl)]
      unfold behindP
      rw [if_pos (by omega), must_do]
      simp only [argsP, if_pos h35]
      rw [text_do _ _ _ (stop _ _ rfl)]
      simp only [List.nil_append]
      rw [must_do, hput _ _ _ (by simp at hl; omega), k0, o6 h35]
    · by_cases h4 : o = 4
      · have k0 := o3 (by omega)
        have us0 : us = [] := List.length_eq_zero_iff.1 (by omega)
        subst us0
        obtain rfl := segs_nil h2
        simp only [txtN, if_neg h35, if_pos h4, List.append_assoc, List.cons_append]
        rw [hq _ (stop _ _ rfl)]
        unfold behindP
        rw [if_pos (by omega), must_do]
        simp only [argsP, if_neg h35, if_pos h4]
        rw [text_do _ _ _ (stop _ _ rfl)]
        simp only
        rw [must_do, text_do _ _ _ (stop _ _ rfl)]
        simp only [List.nil_append]
        rw [must_do, hput _ _ _ (by simp at hl; omega), k0]
      · by_cases h6 : 6 ≤ o
        · obtain ⟨k1, l0, h0⟩ := o4 h6
          have usn : us ≠ [] := by rintro rfl; simp at h3; omega
          simp only [txtN, if_neg h35, if_neg h4, if_pos (And.intro h6 o2), List.append_assoc, List.cons_append]
          rw [hq _ (stop _ _ rfl)]
          unfold behindP
          rw [if_pos (by omega), must_do]
          simp only [argsP, if_neg h35, if_neg h4, if_pos h6, List.nil_append]
          rw [kids_does ih us _ 0 m' r l usn (by have := joinC_len us; simp only [List.length_append, List.length_cons]; omega) h2 (fun n hn => ho n (by simp [hn])) (by omega) (by omega)]
          simp only [Nat.zero_add]
          rw [must_do, hput _ _ _ (by rw [List.length_append]; omega), ← h3, l0, h0, List.append_assoc]
        · have k0 := o3 (by omega)
          obtain ⟨l0, h0⟩ := o5 (by omega)
          have us0 : us = [] := List.length_eq_zero_iff.1 (by omega)
          subst us0
          obtain rfl := segs_nil h2
          have e4 : ¬ (6 ≤ o ∧ o ≤ 8) := by omega
          simp only [txtN, if_neg h35, if_neg h4, if_neg e4]
          rw [hq _ hr]
          unfold behindP
          rw [if_neg (by omega)]
          simp only [argsP, if_neg h35, if_neg h4, if_neg h6, List.nil_append]
          rw [hput _ _ _ (by simp at hl; omega), k0, l0, h0]
theorem parse_text {l : List Nd} (h : rightF l = true) : parseF (textF l) = some l := by
  obtain ⟨h1, h2, _, h4⟩ := right_text h
  have := filter_does 32 l (textF l) [] [] h4 h2 h1 (by simpa using h1) (by intro c x e; cases e)
  rw [List.append_nil, List.nil_append] at this
  unfold parseF
  rw [this]
  simp [h]
end Go.Proofs.Ythiedimbmcgpdaa
namespace Go.Abs
theorem index_one : ∀ (s : List UInt8) (c : UInt8), Lib.index s [c] = if c ∈ s then ((s.idxOf c : Nat) : Int) else -1
  | [], c => by simp [Lib.index]
  | b :: l, c => by
    rw [Lib.index, index_one l c]
    by_cases h : b = c
    · subst h; simp [List.isPrefixOf]
    · have h' : ¬ c = b := fun e => h e.symm
      have e0 : [c].isPrefixOf (b :: l) = false := by simp [List.isPrefixOf, h']
      rw [e0]
      by_cases hm : c ∈ l
      · have h3 : ¬ (((l.idxOf c : Nat) : Int) == -1) = true := by simp
        simp only [hm, if_true, List.mem_cons, h', false_or, Bool.false_eq_true, if_false]
        rw [if_neg h3, List.idxOf_cons, show (b == c) = false by simpa using h]; try simp
      · simp [hm, h']
end Go.Abs
namespace Go.Proofs.Ythiedimbmcgpdaa
open Go.Abs
set_option linter.unusedSimpArgs false
set_option linter.unusedVariables false
set_option maxRecDepth 20000
set_option maxHeartbeats 8000000
theorem dr_not : ¬ DR := id
theorem plB_int (c : UInt8) : plB c = ((decide ((97 : Int) ≤ (c.toNat : Int)) && decide ((c.toNat : Int) ≤ 122)) || (decide ((48 : Int) ≤ (c.toNat : Int)) && decide ((c.toNat : Int) ≤ 57))) := by
  unfold plB
  have e1 : decide (97 ≤ c.toNat) = decide ((97 : Int) ≤ (c.toNat : Int)) := by apply decide_eq_decide.2; omega
  have e2 : decide (c.toNat ≤ 122) = decide ((c.toNat : Int) ≤ 122) := by apply decide_eq_decide.2; omega
  have e3 : decide (48 ≤ c.toNat) = decide ((48 : Int) ≤ (c.toNat : Int)) := by apply decide_eq_decide.2; omega
  have e4 : decide (c.toNat ≤ 57) = decide ((c.toNat : Int) ≤ 57) := by apply decide_eq_decide.2; omega
  rw [e1, e2, e3, e4]
theorem ok_word_plain : codeOK Try.prog T0 Try.f20.ntmps (Try.f20.body.getD .skip) = true := by kernel_rfl
theorem c_word_plain (c : UInt8) : CallA Try.prog 20 [.int .u8 c.toNat] (· = .bool (plB c)) := by
  refine callA_of_body T0_ok mixed Try.func20 rfl (Nat.le_of_ble_eq_true rfl) ok_word_plain ?_
  unfold Try.f20
  rw [plB_int]
  by_cases h1 : (97 : Int) ≤ (c.toNat : Int) <;> by_cases h2 : (c.toNat : Int) ≤ 122 <;> by_cases h3 : (48 : Int) ≤ (c.toNat : Int) <;> by_cases h4 : (c.toNat : Int) ≤ 57 <;> simp -implicitDefEqProofs (disch := (first | omega | decide)) only [go_sem, ↓reduceIte, seval, h1, h2, h3, h4, Bool.and_true, Bool.and_false, Bool.true_and, Bool.false_and, Bool.or_true, Bool.or_false, Bool.true_or, Bool.false_or]
theorem ok_ref05_plain : codeOK Try.prog T0 Try.f40.ntmps (Try.f40.body.getD .skip) = true := by kernel_rfl
theorem c_ref05_plain (c : UInt8) : CallA Try.prog 40 [.int .u8 c.toNat] (· = .bool (plB c)) := by
  refine callA_of_body T0_ok mixed Try.func40 rfl (Nat.le_of_ble_eq_true rfl) ok_ref05_plain ?_
  unfold Try.f40
  rw [plB_int]
  by_cases h1 : (97 : Int) ≤ (c.toNat : Int) <;> by_cases h2 : (c.toNat : Int) ≤ 122 <;> by_cases h3 : (48 : Int) ≤ (c.toNat : Int) <;> by_cases h4 : (c.toNat : Int) ≤ 57 <;> simp -implicitDefEqProofs (disch := (first | omega | decide)) only [go_sem, ↓reduceIte, seval, h1, h2, h3, h4, Bool.and_true, Bool.and_false, Bool.true_and, Bool.false_and, Bool.or_true, Bool.or_false, Bool.true_or, Bool.false_or]
theorem ok_ref05_hex : codeOK Try.prog T0 Try.f41.ntmps (Try.f41.body.getD .skip) = true := by kernel_rfl
theorem c_ref05_hex (n : Nat) (h : n < 16) : CallA Try.prog 41 [.int .i64 n] (· = .int .u8 (hexB n).toNat) := by
  refine callA_of_body T0_ok mixed Try.func41 rfl (Nat.le_of_ble_eq_true rfl) ok_ref05_hex ?_
  unfold Try.f41
  have hh := hexB_toNat h
  by_cases h1 : (n : Int) < 10
  · rw [if_pos (by omega)] at hh
    have hw : IntKind.u8.wrap (48 + (n : Int)) = ((hexB n).toNat : Int) := by rw [wrap_u8 (by omega), hh]; omega
    simp -implicitDefEqProofs (disch := (first | omega | decide)) only [go_sem, ↓reduceIte, seval, h1, hw, wrap_i64]
  · rw [if_neg (by omega)] at hh
    have hw : IntKind.u8.wrap (87 + (n : Int)) = ((hexB n).toNat : Int) := by rw [wrap_u8 (by omega), hh]; omega
    simp -implicitDefEqProofs (disch := (first | omega | decide)) only [go_sem, ↓reduceIte, seval, h1, hw, wrap_i64]
def digitsL : List UInt8 := [48, 49, 50, 51, 52, 53, 54, 55, 56, 57, 97, 98, 99, 100, 101, 102]
theorem digitsL_at {n : Nat} (h : n < 16) : digitsL[n]? = some (hexB n) := by
  have : ∀ m : Fin 16, digitsL[m.1]? = some (hexB m.1) := by decide
  exact this ⟨n, h⟩
theorem digits_index (c : UInt8) : Lib.indexByte digitsL c = if digB c < 16 then (digB c : Int) else -1 := by
  have h : ∀ m : Fin 256, Lib.indexByte digitsL (UInt8.ofNat m.1) = if digB (UInt8.ofNat m.1) < 16 then (digB (UInt8.ofNat m.1) : Int) else -1 := by decide +kernel
  have := h ⟨c.toNat, c.toNat_lt⟩
  simpa using this
noncomputable def T5a : Tab := T0.add 51 (entry (fun (p : List UInt8 × Int) => [.str p.1, .int .u8 p.2]) (fun p => True) (fun p => .int .i64 (Lib.indexByte p.1 p.2.toNat.toUInt8)))
theorem T5a_ok : TabOK Try.prog T5a := T0_ok.ent Try.func51 (by kernel_rfl) (by kernel_rfl) fun p h => callA_indexByte Ythiedimbmcgpdaa.indexByteL p.1 p.2
theorem T5a_strings_IndexByte (p : List UInt8 × Int) (h : True) : T5a.f 51 [.str p.1, .int .u8 p.2] = some (.int .i64 (Lib.indexByte p.1 p.2.toNat.toUInt8)) := Tab.ent_eq (Γ := T0) (fun i j h => by simpa [Prod.ext_iff, and_assoc] using h) p h
noncomputable def T5b : Tab := T5a.add 20 (entry (fun (c : UInt8) => [.int .u8 (c.toNat : Int)]) (fun c => True) (fun c => .bool (plB c)))
theorem T5b_ok : TabOK Try.prog T5b := T5a_ok.ent Try.func20 (by kernel_rfl) (by kernel_rfl) fun c h => c_word_plain c
@[go_sem] theorem T5b_old {g : FuncId} {xs : List A} (h : g ≠ 20) : T5b.f g xs = T5a.f g xs := Tab.add_ne h
theorem T5b_word_plain (c : UInt8) (h : True) : T5b.f 20 [.int .u8 (c.toNat : Int)] = some (.bool (plB c)) := Tab.ent_eq (Γ := T5a) (fun i j h => by exact UInt8.toNat_inj.1 (by simp at h; omega)) c h
noncomputable def T5c : Tab := T5b.add 40 (entry (fun (c : UInt8) => [.int .u8 (c.toNat : Int)]) (fun c => True) (fun c => .bool (plB c)))
theorem T5c_ok : TabOK Try.prog T5c := T5b_ok.ent Try.func40 (by kernel_rfl) (by kernel_rfl) fun c h => c_ref05_plain c
@[go_sem] theorem T5c_old {g : FuncId} {xs : List A} (h : g ≠ 40) : T5c.f g xs = T5b.f g xs := Tab.add_ne h
theorem T5c_ref05_plain (c : UInt8) (h : True) : T5c.f 40 [.int .u8 (c.toNat : Int)] = some (.bool (plB c)) := Tab.ent_eq (Γ := T5b) (fun i j h => by exact UInt8.toNat_inj.1 (by simp at h; omega)) c h
noncomputable def T5d : Tab := T5c.add 41 (entry (fun (n : Nat) => [.int .i64 (n : Int)]) (fun n => n < 16) (fun n => .int .u8 ((hexB n).toNat : Int)))
theorem T5d_ok : TabOK Try.prog T5d := T5c_ok.ent Try.func41 (by kernel_rfl) (by kernel_rfl) fun n h => c_ref05_hex n h
@[go_sem] theorem T5d_old {g : FuncId} {xs : List A} (h : g ≠ 41) : T5d.f g xs = T5c.f g xs := Tab.add_ne h
@[go_sem] theorem T5d_s : T5d.pl T5c := ⟨fun _ => rfl, fun _ => rfl, rfl, fun _ => rfl, rfl, fun _ => rfl, rfl⟩
theorem T5d_ref05_hex (n : Nat) (h : n < 16) : T5d.f 41 [.int .i64 (n : Int)] = some (.int .u8 ((hexB n).toNat : Int)) := Tab.ent_eq (Γ := T5c) (fun i j h => by first | (cases i; cases j; rfl; done) | simpa [Prod.ext_iff, and_assoc] using h | (simp at h; omega) | (simp at h; exact Prod.ext h.1 (Prod.ext h.2.1 (by omega)))) n h
def digI (c : UInt8) : Int := if digB c < 16 then (digB c : Int) else -1
theorem t5_index (c : UInt8) : T5a.f 51 [.str digitsL, .int .u8 (c.toNat : Int)] = some (.int .i64 (digI c)) := by
  have h := T5a_strings_IndexByte (digitsL, (c.toNat : Int)) trivial
  have e : ((c.toNat : Int)).toNat.toUInt8 = c := by simp
  simp only [e, digits_index] at h
  exact h
theorem ok_word_digit : codeOK Try.prog T5d Try.f50.ntmps (Try.f50.body.getD .skip) = true := by kernel_rfl
theorem c_word_digit (c : UInt8) : CallA Try.prog 50 [.int .u8 c.toNat] (· = .int .i64 (digI c)) := by
  refine callA_of_body T5d_ok mixed Try.func50 rfl (Nat.le_of_ble_eq_true rfl) ok_word_digit ?_
  unfold Try.f50
  have g := t5_index c
  unfold digitsL at g
  simp -implicitDefEqProofs (disch := (first | omega | decide)) only [go_sem, ↓reduceIte, seval, g]
noncomputable def T5e : Tab := T5d.add 50 (entry (fun (c : UInt8) => [.int .u8 (c.toNat : Int)]) (fun c => True) (fun c => .int .i64 (digI c)))
theorem T5e_ok : TabOK Try.prog T5e := T5d_ok.ent Try.func50 (by kernel_rfl) (by kernel_rfl) fun c h => c_word_digit c
@[go_sem] theorem T5e_old {g : FuncId} {xs : List A} (h : g ≠ 50) : T5e.f g xs = T5d.f g xs := Tab.add_ne h
@[go_sem] theorem T5e_s : T5e.pl T5d := ⟨fun _ => rfl, fun _ => rfl, rfl, fun _ => rfl, rfl, fun _ => rfl, rfl⟩
theorem T5e_word_digit (c : UInt8) (h : True) : T5e.f 50 [.int .u8 (c.toNat : Int)] = some (.int .i64 (digI c)) := Tab.ent_eq (Γ := T5d) (fun i j h => by exact UInt8.toNat_inj.1 (by simp at h; omega)) c h
theorem t5_plain (c : UInt8) : T5b.f 20 [.int .u8 (c.toNat : Int)] = some (.bool (plB c)) := T5b_word_plain c trivial
theorem t5_rplain (c : UInt8) : T5c.f 40 [.int .u8 (c.toNat : Int)] = some (.bool (plB c)) := T5c_ref05_plain c trivial
theorem t5_hex {n : Nat} (h : n < 16) : T5d.f 41 [.int .i64 (n : Int)] = some (.int .u8 ((hexB n).toNat : Int)) := T5d_ref05_hex n h
theorem wC_len (c : UInt8) : (wC c).length ≤ 3 := by unfold wC; split <;> simp
theorem flat_take {s : List UInt8} {k : Nat} (h : k < s.length) : (s.take (k + 1)).flatMap wC = (s.take k).flatMap wC ++ wC s[k] := by
  rw [← List.take_append_getElem h, List.flatMap_append]; simp
theorem flat_len : ∀ s : List UInt8, (s.flatMap wC).length ≤ 3 * s.length
  | [] => by simp
  | c :: s => by
    have := flat_len s
    have := wC_len c
    simp only [List.flatMap_cons, List.length_append, List.length_cons]; omega
theorem div16 (c : UInt8) : (c.toNat : Int).tdiv 16 = ((c.toNat / 16 : Nat) : Int) ∧ (c.toNat : Int).tmod 16 = ((c.toNat % 16 : Nat) : Int) ∧ c.toNat / 16 < 16 ∧ c.toNat % 16 < 16 := by
  have := c.toNat_lt
  exact ⟨by rw [Int.tdiv_eq_ediv_of_nonneg (by omega)]; omega, by rw [Int.tmod_eq_emod_of_nonneg (by omega)]; omega, by omega, by omega⟩
theorem bytes_take (s : List UInt8) {n : Nat} (h : n = s.length) : (bytesA s).take n = bytesA s := List.take_of_length_le (by rw [bytesA_len]; omega)
theorem ok_word_Of : codeOK Try.prog T5d Try.f14.ntmps (Try.f14.body.getD .skip) = true := by kernel_rfl
theorem c_word_Of (s : List UInt8) (hs : s.length ≤ 1000000000) : CallA Try.prog 14 [.str s] (· = .str (ofW s)) := by
  refine callA_of_body T5d_ok mixed Try.func14 rfl (Nat.le_of_ble_eq_true rfl) ok_word_Of ?_
  unfold Try.f14
  by_cases h0 : s = []
  · subst h0
    simp -implicitDefEqProofs (disch := (first | omega | decide)) only [go_sem, ↓reduceIte, seval]
    rfl
  · have hne : (s == []) = false := by simpa using h0
    have hw : ofW s = s.flatMap wC := by unfold ofW; rw [if_neg h0]
    simp -implicitDefEqProofs (disch := (first | omega | decide)) only [go_sem, ↓reduceIte, seval, hne]
    refine wpA_loop_nil 3 1 rfl ?_
    refine wpA_loop [0, 9] (ι := {k : Nat // k ≤ s.length}) (fun k => [(10, .int .i64 k.1), (3, .row 0 0 1 ((s.take k.1).flatMap wC).length false)]) (fun k => [(0, .row 1 (bytesA ((s.take k.1).flatMap wC)))]) (fun k => s.length - k.1) ⟨0, by omega⟩ (Nat.zero_le _) ?_ ?_
    · simp -implicitDefEqProofs (disch := (first | omega | decide)) only [go_sem, ↓reduceIte, seval]
      try exact ⟨rfl, rfl⟩
    · rintro ⟨k, hk⟩
      simp only
      by_cases hlt : k < s.length
      · have hlt' : (k : Int) < (s.length : Int) := by omega
        have e1 : s[k]? = some s[k] := List.getElem?_eq_getElem hlt
        have hn := flat_take hlt
        have hfl := flat_len (s.take k)
        rw [List.length_take] at hfl
        generalize s[k] = c at *
        generalize (s.take k).flatMap wC = out at *
        have gp := t5_plain c
        have b0 := bytesA_len out
        have b1 : (bytesA out).take out.length = bytesA out := bytes_take out rfl
        cases hp : plB c with
        | true =>
          rw [hp] at gp
          have hw1 : wC c = [c] := by unfold wC; rw [if_pos hp]
          rw [hw1] at hn
          have b2 : bytesA out ++ [A.int .u8 (c.toNat : Int)] = bytesA (out ++ [c]) := by simp [bytesA, encU8]
          simp -implicitDefEqProofs (disch := (first | omega | decide)) only [go_sem, ↓reduceIte, seval, hlt', e1, gp, b0, b1, b2, wrap_i64, encU8]
          exact ⟨⟨by omega, by omega⟩, ⟨k + 1, hlt⟩, ⟨⟨by simp, by rw [hn]; simp⟩, by rw [hn]⟩, by show s.length - (k + 1) < s.length - k; omega⟩
        | false =>
          rw [hp] at gp
          have hw1 : wC c = [45, hexB (c.toNat / 16), hexB (c.toNat % 16)] := by unfold wC; rw [hp]; rfl
          rw [hw1] at hn
          obtain ⟨d1, d2, d3, d4⟩ := div16 c
          have x1 := digitsL_at d3
          have x2 := digitsL_at d4
          unfold digitsL at x1 x2
          have w1 : IntKind.u8.wrap (((c.toNat / 16 : Nat) : Int)) = ((c.toNat / 16 : Nat) : Int) := wrap_u8 (by omega)
          have z16 : ¬ ((16 : Int) = 0) := by omega
          have b2 : bytesA out ++ [A.int .u8 45, A.int .u8 ((hexB (c.toNat / 16)).toNat : Int), A.int .u8 ((hexB (c.toNat % 16)).toNat : Int)] = bytesA (out ++ [45, hexB (c.toNat / 16), hexB (c.toNat % 16)]) := by simp [bytesA, encU8]
          simp -implicitDefEqProofs (disch := (first | omega | decide)) only [go_sem, ↓reduceIte, seval, hlt', e1, gp, d1, d2, x1, x2, w1, z16, b0, b1, b2, wrap_i64, encU8]
          exact ⟨⟨by omega, by omega⟩, ⟨k + 1, hlt⟩, ⟨⟨by simp, by rw [hn]; simp⟩, by rw [hn]⟩, by show s.length - (k + 1) < s.length - k; omega⟩
      · have hlt' : ¬ (k : Int) < (s.length : Int) := by omega
        rw [List.take_of_length_le (by omega), hw]
        generalize s.flatMap wC = out at *
        have b0 := bytesA_len out
        have b1 : (bytesA out).take out.length = bytesA out := bytes_take out rfl
        simp -implicitDefEqProofs (disch := (first | omega | decide)) only [go_sem, ↓reduceIte, seval, hlt', b0, b1, convB, bytesOfA_bytesA, Nat.le_refl, Option.map_some]
theorem ok_ref05_Of : codeOK Try.prog T5e Try.f31.ntmps (Try.f31.body.getD .skip) = true := by kernel_rfl
theorem c_ref05_Of (s : List UInt8) (hs : s.length ≤ 1000000000) : CallA Try.prog 31 [.str s] (· = .str (ofW s)) := by
  refine callA_of_body T5e_ok mixed Try.func31 rfl (Nat.le_of_ble_eq_true rfl) ok_ref05_Of ?_
  unfold Try.f31
  by_cases h0 : s = []
  · subst h0
    simp -implicitDefEqProofs (disch := (first | omega | decide)) only [go_sem, ↓reduceIte, seval]
    rfl
  · have hne : (s == []) = false := by simpa using h0
    have hw : ofW s = s.flatMap wC := by unfold ofW; rw [if_neg h0]
    simp -implicitDefEqProofs (disch := (first | omega | decide)) only [go_sem, ↓reduceIte, seval, hne]
    refine wpA_loop_nil 3 1 rfl ?_
    refine wpA_loop [0] (ι := {k : Nat // k ≤ s.length}) (fun k => [(4, .int .i64 k.1), (3, .row 0 0 1 ((s.take k.1).flatMap wC).length false)]) (fun k => [(0, .row 1 (bytesA ((s.take k.1).flatMap wC)))]) (fun k => s.length - k.1) ⟨0, by omega⟩ (Nat.zero_le _) ?_ ?_
    · simp -implicitDefEqProofs (disch := (first | omega | decide)) only [go_sem, ↓reduceIte, seval]
      try exact ⟨rfl, rfl⟩
    · rintro ⟨k, hk⟩
      simp only
      by_cases hlt : k < s.length
      · have hlt' : (k : Int) < (s.length : Int) := by omega
        have e1 : s[k]? = some s[k] := List.getElem?_eq_getElem hlt
        have hn := flat_take hlt
        have hfl := flat_len (s.take k)
        rw [List.length_take] at hfl
        generalize s[k] = c at *
        generalize (s.take k).flatMap wC = out at *
        have gp := t5_rplain c
        have b0 := bytesA_len out
        have b1 : (bytesA out).take out.length = bytesA out := bytes_take out rfl
        cases hp : plB c with
        | true =>
          rw [hp] at gp
          have hw1 : wC c = [c] := by unfold wC; rw [if_pos hp]
          rw [hw1] at hn
          have b2 : bytesA out ++ [A.int .u8 (c.toNat : Int)] = bytesA (out ++ [c]) := by simp [bytesA, encU8]
          simp -implicitDefEqProofs (disch := (first | omega | decide)) only [go_sem, ↓reduceIte, seval, hlt', e1, gp, b0, b1, b2, wrap_i64, encU8]
          exact ⟨⟨by omega, by omega⟩, ⟨k + 1, hlt⟩, ⟨⟨by simp, by rw [hn]; simp⟩, by rw [hn]⟩, by show s.length - (k + 1) < s.length - k; omega⟩
        | false =>
          rw [hp] at gp
          have hw1 : wC c = [45, hexB (c.toNat / 16), hexB (c.toNat % 16)] := by unfold wC; rw [hp]; rfl
          rw [hw1] at hn
          obtain ⟨d1, d2, d3, d4⟩ := div16 c
          have x1 := t5_hex d3
          have x2 := t5_hex d4
          have w1 : IntKind.i64.wrap (((c.toNat / 16 : Nat) : Int)) = ((c.toNat / 16 : Nat) : Int) := wrap_i64 (by omega)
          have w2 : IntKind.i64.wrap (c.toNat : Int) = (c.toNat : Int) := wrap_i64 (by have := c.toNat_lt; omega)
          have z16 : ¬ ((16 : Int) = 0) := by omega
          have b2 : bytesA out ++ [A.int .u8 45] = bytesA (out ++ [45]) := by simp [bytesA, encU8]
          have b3 : bytesA (out ++ [45]) ++ [A.int .u8 ((hexB (c.toNat / 16)).toNat : Int)] = bytesA (out ++ [45, hexB (c.toNat / 16)]) := by simp [bytesA, encU8]
          have b4 : bytesA (out ++ [45, hexB (c.toNat / 16)]) ++ [A.int .u8 ((hexB (c.toNat % 16)).toNat : Int)] = bytesA (out ++ [45, hexB (c.toNat / 16), hexB (c.toNat % 16)]) := by simp [bytesA, encU8]
          have l1 : (bytesA (out ++ [45])).length = out.length + 1 := by rw [bytesA_len]; simp
          have l2 : (bytesA (out ++ [45, hexB (c.toNat / 16)])).length = out.length + 2 := by rw [bytesA_len]; simp
          have t1 : (bytesA (out ++ [45])).take (out.length + 1) = bytesA (out ++ [45]) := List.take_of_length_le (by omega)
          have t2 : (bytesA (out ++ [45, hexB (c.toNat / 16)])).take (out.length + 1 + 1) = bytesA (out ++ [45, hexB (c.toNat / 16)]) := List.take_of_length_le (by omega)
          simp -implicitDefEqProofs (disch := (first | omega | decide)) only [go_sem, ↓reduceIte, seval, hlt', e1, gp, d1, d2, x1, x2, w1, w2, z16, b0, b1, b2, b3, b4, l1, l2, t1, t2, wrap_i64, encU8]
          exact ⟨⟨by omega, by omega⟩, ⟨by omega, by omega⟩, ⟨by omega, by omega⟩, ⟨k + 1, hlt⟩, ⟨⟨by simp, by rw [hn]; simp⟩, by rw [hn]⟩, by show s.length - (k + 1) < s.length - k; omega⟩
      · have hlt' : ¬ (k : Int) < (s.length : Int) := by omega
        rw [List.take_of_length_le (by omega), hw]
        generalize s.flatMap wC = out at *
        have b0 := bytesA_len out
        have b1 : (bytesA out).take out.length = bytesA out := bytes_take out rfl
        simp -implicitDefEqProofs (disch := (first | omega | decide)) only [go_sem, ↓reduceIte, seval, hlt', b0, b1, convB, bytesOfA_bytesA, Nat.le_refl, Option.map_some]
noncomputable def T5f : Tab := T5e.add 14 (entry (fun (s : List UInt8) => [.str s]) (fun s => s.length ≤ 1000000000) (fun s => .str (ofW s)))
theorem T5f_ok : TabOK Try.prog T5f := T5e_ok.ent Try.func14 (by kernel_rfl) (by kernel_rfl) fun s h => c_word_Of s h
@[go_sem] theorem T5f_old {g : FuncId} {xs : List A} (h : g ≠ 14) : T5f.f g xs = T5e.f g xs := Tab.add_ne h
noncomputable def T5g : Tab := T5f.add 31 (entry (fun (s : List UInt8) => [.str s]) (fun s => s.length ≤ 1000000000) (fun s => .str (ofW s)))
theorem T5g_ok : TabOK Try.prog T5g := T5f_ok.ent Try.func31 (by kernel_rfl) (by kernel_rfl) fun s h => c_ref05_Of s h
@[go_sem] theorem T5g_old {g : FuncId} {xs : List A} (h : g ≠ 31) : T5g.f g xs = T5f.f g xs := Tab.add_ne h
@[go_sem] theorem T5g_s : T5g.pl T5f := ⟨fun _ => rfl, fun _ => rfl, rfl, fun _ => rfl, rfl, fun _ => rfl, rfl⟩
def rdA : Option (List UInt8) → A
  | none => .tup [.str [], .bool false]
  | some t => .tup [.str t, .bool true]
theorem rdW_notesc {c : UInt8} {r : List UInt8} (h : ¬ (c = 45 ∧ 2 ≤ r.length)) : rdW (c :: r) = if plB c = true then (rdW r).map (c :: ·) else none := by
  by_cases hp : plB c = true
  · rw [rdW_plain hp, if_pos hp]
  · rw [if_neg hp]
    match r, h with
    | [], h => simp [rdW, hp]
    | [d], h => simp [rdW, hp]
    | d :: e :: r, h =>
      have h45 : c ≠ 45 := fun e => h ⟨e, by simp⟩
      rw [rdW, if_neg h45, if_neg hp]
theorem digI_of {c : UInt8} (h : digB c < 16) : digI c = (digB c : Int) := by unfold digI; rw [if_pos h]
theorem digI_no {c : UInt8} (h : ¬ digB c < 16) : digI c = -1 := by unfold digI; rw [if_neg h]
theorem t5_digit (c : UInt8) : T5e.f 50 [.int .u8 (c.toNat : Int)] = some (.int .i64 (digI c)) := T5e_word_digit c trivial
theorem readW_go {w : List UInt8} (h : w ≠ [95]) {r : List UInt8} (he : rdW w = some r) : readW w = if r = [] then none else some r := by
  unfold readW; rw [if_neg h, he]; rfl
theorem readW_no {w : List UInt8} (h : w ≠ [95]) (he : rdW w = none) : readW w = none := by
  unfold readW; rw [if_neg h, he]; rfl
theorem ok_word_Read : codeOK Try.prog T5g Try.f39.ntmps (Try.f39.body.getD .skip) = true := by kernel_rfl
theorem c_word_Read (w : List UInt8) (hs : w.length ≤ 1000000000) : CallA Try.prog 39 [.str w] (· = rdA (readW w)) := by
  refine callA_of_body T5g_ok mixed Try.func39 rfl (Nat.le_of_ble_eq_true rfl) ok_word_Read ?_
  unfold Try.f39
  by_cases h0 : w = [95]
  · subst h0
    simp -implicitDefEqProofs (disch := (first | omega | decide)) only [go_sem, ↓reduceIte, seval]
    rfl
  · have hne : (w == [95]) = false := by simpa using h0
    simp -implicitDefEqProofs (disch := (first | omega | decide)) only [go_sem, ↓reduceIte, seval, hne]
    refine wpA_loop_nil 4 1 rfl ?_
    refine wpA_loop [0] (ι := {p : Nat × List UInt8 // p.1 ≤ w.length ∧ rdW w = (rdW (w.drop p.1)).map (p.2 ++ ·) ∧ p.2.length ≤ p.1}) (fun p => [(5, .int .i64 p.1.1), (4, .row 0 0 1 p.1.2.length false)]) (fun p => [(0, .row 1 (bytesA p.1.2))]) (fun p => w.length - p.1.1) ⟨(0, []), by omega, by simp, by simp⟩ (Nat.zero_le _) ?_ ?_
    · simp -implicitDefEqProofs (disch := (first | omega | decide)) only [go_sem, ↓reduceIte, seval]
      rfl
    · rintro ⟨⟨k, out⟩, hk, hd, hol⟩
      simp only at hk hd hol ⊢
      have b0 := bytesA_len out
      have b1 : (bytesA out).take out.length = bytesA out := bytes_take out rfl
      by_cases hlt : k < w.length
      · have hlt' : (k : Int) < (w.length : Int) := by omega
        have e1 : w[k]? = some w[k] := List.getElem?_eq_getElem hlt
        rw [List.drop_eq_getElem_cons hlt] at hd
        by_cases hesc : w[k] = 45 ∧ k + 2 < w.length
        · obtain ⟨h45, hk2⟩ := hesc
          have hk2' : (k : Int) + 2 < (w.length : Int) := by omega
          have e2 : w[k + 1]? = some w[k + 1] := List.getElem?_eq_getElem (by omega)
          have e3 : w[k + 2]? = some w[k + 2] := List.getElem?_eq_getElem (by omega)
          rw [List.drop_eq_getElem_cons (show k + 1 < w.length by omega), List.drop_eq_getElem_cons (show k + 1 + 1 < w.length by omega), h45, rdW, if_pos rfl] at hd
          rw [h45] at e1
          generalize w[k + 1] = x at *
          generalize w[k + 1 + 1] = y at *
          have c1 : ((k : Int) + 1).toNat = k + 1 := by omega
          have c2 : ((k : Int) + 2).toNat = k + 2 := by omega
          have p1 : (0 : Int) ≤ (k : Int) + 1 := by omega
          have p2 : (0 : Int) ≤ (k : Int) + 2 := by omega
          have gx := t5_digit x
          have gy := t5_digit y
          by_cases hx : digB x < 16
          · rw [digI_of hx] at gx
            by_cases hy : digB y < 16
            · rw [digI_of hy] at gy
              have hz : (UInt8.ofNat (16 * digB x + digB y)).toNat = 16 * digB x + digB y := ofNat_toNat' (by omega)
              have w1 : IntKind.u8.wrap (16 * (digB x : Int) + (digB y : Int)) = ((UInt8.ofNat (16 * digB x + digB y)).toNat : Int) := by rw [wrap_u8 (by omega), hz]; omega
              have n1 : ¬ (digB x : Int) < 0 := by omega
              have n2 : ¬ (digB y : Int) < 0 := by omega
              have gp := t5_plain (UInt8.ofNat (16 * digB x + digB y))
              cases hp : plB (UInt8.ofNat (16 * digB x + digB y)) with
              | true =>
                rw [hp] at gp
                have he : escB x y = none := by unfold escB; rw [if_neg (fun h => by rw [h.2.2] at hp; cases hp)]
                rw [he] at hd
                rw [readW_no h0 (by rw [hd]; rfl)]
                simp -implicitDefEqProofs (disch := (first | omega | decide)) only [go_sem, ↓reduceIte, seval, hlt', e1, hk2', e2, e3, c1, c2, p1, p2, gx, gy, n1, n2, w1, gp, wrap_i64, encU8]
                rfl
              | false =>
                rw [hp] at gp
                have he : escB x y = some (UInt8.ofNat (16 * digB x + digB y)) := by unfold escB; rw [if_pos ⟨hx, hy, hp⟩]
                rw [he] at hd
                generalize UInt8.ofNat (16 * digB x + digB y) = z at *
                have b2 : bytesA out ++ [A.int .u8 (z.toNat : Int)] = bytesA (out ++ [z]) := by simp [bytesA, encU8]
                simp -implicitDefEqProofs (maxSteps := 600000) (disch := (first | omega | decide)) only [go_sem, ↓reduceIte, seval, hlt', e1, hk2', e2, e3, c1, c2, p1, p2, gx, gy, n1, n2, w1, gp, b0, b1, b2, wrap_i64, encU8]
                refine ⟨⟨by omega, by omega⟩, ⟨(k + 3, out ++ [z]), by simp only; omega, ?_, by simp; omega⟩, ⟨⟨by simp; omega, by simp⟩, rfl⟩, by show w.length - (k + 3) < w.length - k; omega⟩
                simp only [Option.bind_some, Option.map_map] at hd
                rw [hd]
                show _ = Option.map _ (rdW (w.drop (k + 3)))
                congr 1
                funext u; simp
            · rw [digI_no hy] at gy
              have n1 : ¬ (digB x : Int) < 0 := by omega
              have he : escB x y = none := by unfold escB; rw [if_neg (by simp [hy])]
              rw [he] at hd
              rw [readW_no h0 (by rw [hd]; rfl)]
              simp -implicitDefEqProofs (disch := (first | omega | decide)) only [go_sem, ↓reduceIte, seval, hlt', e1, hk2', e2, e3, c1, c2, p1, p2, gx, gy, n1, wrap_i64, encU8]
              rfl
          · rw [digI_no hx] at gx
            have he : escB x y = none := by unfold escB; rw [if_neg (by simp [hx])]
            rw [he] at hd
            rw [readW_no h0 (by rw [hd]; rfl)]
            simp -implicitDefEqProofs (disch := (first | omega | decide)) only [go_sem, ↓reduceIte, seval, hlt', e1, hk2', e2, e3, c1, c2, p1, p2, gx, gy, wrap_i64, encU8]
            rfl
        · rw [rdW_notesc (fun ⟨a, b⟩ => hesc ⟨a, by rw [List.length_drop] at b; omega⟩)] at hd
          generalize w[k] = c at *
          have gp := t5_plain c
          have hesc' : c = 45 → ¬ (k : Int) + 2 < (w.length : Int) := fun e h => hesc ⟨e, by omega⟩
          cases hp : plB c with
          | false =>
            rw [hp] at gp hd
            rw [readW_no h0 (by rw [hd]; rfl)]
            by_cases hc : c = 45
            · have hk2' := hesc' hc
              subst hc
              have gp' : T5b.f 20 [.int .u8 45] = some (.bool false) := gp
              simp -implicitDefEqProofs (disch := (first | omega | decide)) only [go_sem, ↓reduceIte, seval, hlt', e1, hk2', gp', wrap_i64, encU8]
              rfl
            · have hc' : ((c.toNat : Int) == 45) = false := by
                simp only [beq_eq_false_iff_ne, ne_eq]
                intro h
                apply hc
                apply UInt8.toNat_inj.1
                have : c.toNat = 45 := by omega
                rw [this]; rfl
              simp -implicitDefEqProofs (disch := (first | omega | decide)) only [go_sem, ↓reduceIte, seval, hlt', e1, hc', gp, wrap_i64, encU8]
              rfl
          | true =>
            rw [hp] at gp hd
            have hc' : ((c.toNat : Int) == 45) = false := by
              simp only [beq_eq_false_iff_ne, ne_eq]
              intro h
              have : c = 45 := UInt8.toNat_inj.1 (by have : c.toNat = 45 := by omega
                                                     rw [this]; rfl)
              rw [this, plB_45] at hp; cases hp
            have b2 : bytesA out ++ [A.int .u8 (c.toNat : Int)] = bytesA (out ++ [c]) := by simp [bytesA, encU8]
            simp -implicitDefEqProofs (disch := (first | omega | decide)) only [go_sem, ↓reduceIte, seval, hlt', e1, hc', gp, b0, b1, b2, wrap_i64, encU8]
            refine ⟨⟨by omega, by omega⟩, ⟨(k + 1, out ++ [c]), by simp only; omega, ?_, by simp; omega⟩, ⟨⟨by simp, by simp⟩, rfl⟩, by show w.length - (k + 1) < w.length - k; omega⟩
            rw [hd, if_pos rfl, Option.map_map]
            show _ = Option.map _ (rdW (w.drop (k + 1)))
            congr 1
            funext u; simp
      · have hlt' : ¬ (k : Int) < (w.length : Int) := by omega
        rw [List.drop_of_length_le (by omega)] at hd
        simp only [rdW, Option.map_some, List.append_nil] at hd
        rw [readW_go h0 hd]
        by_cases ho : out = []
        · subst ho
          simp -implicitDefEqProofs (disch := (first | omega | decide)) only [go_sem, ↓reduceIte, seval, hlt', b0, b1, convB, bytesOfA_bytesA, Nat.le_refl, Option.map_some]
          exact ⟨[], rfl, rfl⟩
        · rw [if_neg ho]
          have hl : (0 : Int) < (out.length : Int) := by have := List.length_pos_iff.2 ho; omega
          simp -implicitDefEqProofs (disch := (first | omega | decide)) only [go_sem, ↓reduceIte, seval, hlt', hl, b0, b1, convB, bytesOfA_bytesA, Nat.le_refl, Option.map_some]
          rfl
theorem extraB11 : Go.Proofs.Builder.Extra Try.prog Ythiedimbmcgpdaa.joinL_ren where
  sizeBuilder := by kernel_rfl
  liesBuilder := by kernel_rfl
  t5 := Try.underlying5
  a5 := Try.isAgg5
  z5 := Try.sizeOf5
  v5 := Try.zeroValue5
  infoByte := by kernel_rfl
  cellsByte := by kernel_rfl
  sizeByte := by kernel_rfl
  neB5 := by decide
noncomputable def F11a : Tab := F9g.add 37 (entry (fun (s : List UInt8) => [.str s, .str [40, 41, 44]]) (fun s => s.length < 4294967281) (fun s => .int .i64 (Lib.indexAny s [40, 41, 44])))
theorem F11a_ok : TabOK Try.prog F11a := F9g_ok.ent Try.func37 (by kernel_rfl) (by kernel_rfl) fun s h => callA_indexAny dr_not s h
@[go_sem] theorem F11a_old {g : FuncId} {xs : List A} (h : g ≠ 37) : F11a.f g xs = F9g.f g xs := Tab.add_ne h
theorem F11a_strings_IndexAny (s : List UInt8) (h : s.length < 4294967281) : F11a.f 37 [.str s, .str [40, 41, 44]] = some (.int .i64 (Lib.indexAny s [40, 41, 44])) := Tab.ent_eq (Γ := F9g) (fun i j h => by simpa [Prod.ext_iff, and_assoc] using h) s h
noncomputable def F11b : Tab := F11a.add 14 (entry (fun (s : List UInt8) => [.str s]) (fun s => s.length ≤ 1000000000) (fun s => .str (ofW s)))
theorem F11b_ok : TabOK Try.prog F11b := F11a_ok.ent Try.func14 (by kernel_rfl) (by kernel_rfl) fun s h => c_word_Of s h
@[go_sem] theorem F11b_old {g : FuncId} {xs : List A} (h : g ≠ 14) : F11b.f g xs = F11a.f g xs := Tab.add_ne h
theorem F11b_word_Of (s : List UInt8) (h : s.length ≤ 1000000000) : F11b.f 14 [.str s] = some (.str (ofW s)) := Tab.ent_eq (Γ := F11a) (fun i j h => by simpa [Prod.ext_iff, and_assoc] using h) s h
noncomputable def F11c : Tab := F11b.add 31 (entry (fun (s : List UInt8) => [.str s]) (fun s => s.length ≤ 1000000000) (fun s => .str (ofW s)))
theorem F11c_ok : TabOK Try.prog F11c := F11b_ok.ent Try.func31 (by kernel_rfl) (by kernel_rfl) fun s h => c_ref05_Of s h
@[go_sem] theorem F11c_old {g : FuncId} {xs : List A} (h : g ≠ 31) : F11c.f g xs = F11b.f g xs := Tab.add_ne h
theorem F11c_ref05_Of (s : List UInt8) (h : s.length ≤ 1000000000) : F11c.f 31 [.str s] = some (.str (ofW s)) := Tab.ent_eq (Γ := F11b) (fun i j h => by simpa [Prod.ext_iff, and_assoc] using h) s h
noncomputable def F11d : Tab := F11c.add 39 (entry (fun (s : List UInt8) => [.str s]) (fun s => s.length ≤ 1000000000) (fun s => rdA (readW s)))
theorem F11d_ok : TabOK Try.prog F11d := F11c_ok.ent Try.func39 (by kernel_rfl) (by kernel_rfl) fun s h => c_word_Read s h
@[go_sem] theorem F11d_old {g : FuncId} {xs : List A} (h : g ≠ 39) : F11d.f g xs = F11c.f g xs := Tab.add_ne h
theorem F11d_word_Read (s : List UInt8) (h : s.length ≤ 1000000000) : F11d.f 39 [.str s] = some (rdA (readW s)) := Tab.ent_eq (Γ := F11c) (fun i j h => by simpa [Prod.ext_iff, and_assoc] using h) s h
noncomputable def F11e : Tab := F11d.add 15 (entry (fun (p : List (List UInt8) × List UInt8) => [.slc (p.1.map .str), .str p.2]) (fun p => p.1.length ≤ 140737488355328 ∧ (Lib.join p.1 p.2).length ≤ 140737488355328) (fun p => .str (Lib.join p.1 p.2)))
theorem F11e_ok : TabOK Try.prog F11e := F11d_ok.ent Try.func15 (by kernel_rfl) (by kernel_rfl) fun p h => callA_join dr_not Ythiedimbmcgpdaa.joinL extraB11 p.1 p.2 h.1 h.2
@[go_sem] theorem F11e_old {g : FuncId} {xs : List A} (h : g ≠ 15) : F11e.f g xs = F11d.f g xs := Tab.add_ne h
@[go_sem] theorem F11e_s : F11e.pl F11d := ⟨fun _ => rfl, fun _ => rfl, rfl, fun _ => rfl, rfl, fun _ => rfl, rfl⟩
theorem F11e_strings_Join (p : List (List UInt8) × List UInt8) (h : p.1.length ≤ 140737488355328 ∧ (Lib.join p.1 p.2).length ≤ 140737488355328) : F11e.f 15 [.slc (p.1.map .str), .str p.2] = some (.str (Lib.join p.1 p.2)) := Tab.ent_eq (Γ := F11d) (fun i j h => by simpa [Prod.ext_iff, and_assoc] using h) p h
theorem join_C (xs : List (List UInt8)) : Lib.join xs [44] = joinC xs := by
  cases xs with
  | nil => rfl
  | cons x r => rw [Lib.join_cons]; simp [Lib.joinTail, joinC, List.flatMap_def]
theorem t11_any {s : List UInt8} (h : s.length ≤ 1000000000) : F11a.f 37 [.str s, .str [40, 41, 44]] = some (.int .i64 (Lib.indexAny s [40, 41, 44])) := F11a_strings_IndexAny s (by omega)
theorem t11_Of {s : List UInt8} (h : s.length ≤ 1000000000) : F11b.f 14 [.str s] = some (.str (ofW s)) := F11b_word_Of s h
theorem t11_rOf {s : List UInt8} (h : s.length ≤ 1000000000) : F11c.f 31 [.str s] = some (.str (ofW s)) := F11c_ref05_Of s h
theorem t11_Read {s : List UInt8} (h : s.length ≤ 1000000000) : F11d.f 39 [.str s] = some (rdA (readW s)) := F11d_word_Read s h
theorem t11_join {l : List (List UInt8)} (h1 : l.length ≤ 1000000) (h2 : (joinC l).length ≤ 140737488355328) : F11e.f 15 [.slc (l.map .str), .str [44]] = some (.str (joinC l)) := by
  have := F11e_strings_Join (l, [44]) ⟨by simp only; omega, by rw [join_C]; exact h2⟩
  rw [← join_C]; exact this
theorem any_run : ∀ s : List UInt8, (Lib.indexAny s [40, 41, 44] = -1 ∧ s.takeWhile goB = s ∧ s.dropWhile goB = []) ∨ (Lib.indexAny s [40, 41, 44] = ((s.takeWhile goB).length : Int) ∧ (s.takeWhile goB).length ≤ s.length ∧ s.takeWhile goB = s.take (s.takeWhile goB).length ∧ s.dropWhile goB = s.drop (s.takeWhile goB).length)
  | [] => .inl ⟨rfl, rfl, rfl⟩
  | b :: l => by
    have ih := any_run l
    have hg : goB b = ![40, 41, 44].contains b := by
      unfold goB
      simp only [List.contains_cons, List.contains_nil, Bool.or_false, Bool.or_assoc]
    rw [Lib.indexAny, List.takeWhile_cons, List.dropWhile_cons]
    cases hc : [40, 41, 44].contains b with
    | true =>
      rw [hc] at hg
      have hg : goB b = false := hg
      rw [hg]
      exact .inr ⟨by simp, by simp, by simp, by simp⟩
    | false =>
      rw [hc] at hg
      have hg : goB b = true := hg
      rw [hg]
      simp only [Bool.false_eq_true, if_false, if_true]
      rcases ih with ⟨h1, h2, h3⟩ | ⟨h1, h2, h3, h4⟩
      · exact .inl ⟨by rw [h1]; rfl, by rw [h2], h3⟩
      · refine .inr ⟨?_, by simp only [List.length_cons]; omega, by rw [List.length_cons, List.take_succ_cons, ← h3], by rw [List.length_cons, List.drop_succ_cons, ← h4]⟩
        rw [h1, if_neg (by intro e; have := beq_iff_eq.1 e; omega)]
        simp
theorem ok_ftext_name : codeOK Try.prog F11e Try.f13.ntmps (Try.f13.body.getD .skip) = true := by kernel_rfl
theorem c_ftext_name (o : Int) : CallA Try.prog 13 [.int .i64 o] (· = .str (nameT o)) := by
  refine callA_of_body F11e_ok mixed Try.func13 rfl (Nat.le_of_ble_eq_true rfl) ok_ftext_name ?_
  unfold Try.f13
  unfold nameT
  by_cases h1 : o = 1
  · subst h1; simp -implicitDefEqProofs (disch := (first | omega | decide)) only [go_sem, ↓reduceIte, seval]
    try rfl
  by_cases h2 : o = 2
  · subst h2; simp -implicitDefEqProofs (disch := (first | omega | decide)) only [go_sem, ↓reduceIte, seval]
    try rfl
  by_cases h3 : o = 3
  · subst h3; simp -implicitDefEqProofs (disch := (first | omega | decide)) only [go_sem, ↓reduceIte, seval]
    try rfl
  by_cases h4 : o = 4
  · subst h4; simp -implicitDefEqProofs (disch := (first | omega | decide)) only [go_sem, ↓reduceIte, seval]
    try rfl
  by_cases h5 : o = 5
  · subst h5; simp -implicitDefEqProofs (disch := (first | omega | decide)) only [go_sem, ↓reduceIte, seval]
    try rfl
  by_cases h6 : o = 6
  · subst h6; simp -implicitDefEqProofs (disch := (first | omega | decide)) only [go_sem, ↓reduceIte, seval]
    try rfl
  by_cases h7 : o = 7
  · subst h7; simp -implicitDefEqProofs (disch := (first | omega | decide)) only [go_sem, ↓reduceIte, seval]
    try rfl
  by_cases h8 : o = 8
  · subst h8; simp -implicitDefEqProofs (disch := (first | omega | decide)) only [go_sem, ↓reduceIte, seval]
    try rfl
  have b1 : (o == 1) = false := by simpa using h1
  have b2 : (o == 2) = false := by simpa using h2
  have b3 : (o == 3) = false := by simpa using h3
  have b4 : (o == 4) = false := by simpa using h4
  have b5 : (o == 5) = false := by simpa using h5
  have b6 : (o == 6) = false := by simpa using h6
  have b7 : (o == 7) = false := by simpa using h7
  have b8 : (o == 8) = false := by simpa using h8
  rw [if_neg h1, if_neg h2, if_neg h3, if_neg h4, if_neg h5, if_neg h6, if_neg h7, if_neg h8]
  simp -implicitDefEqProofs (disch := (first | omega | decide)) only [go_sem, ↓reduceIte, seval, b1, b2, b3, b4, b5, b6, b7, b8]
noncomputable def F11f : Tab := F11e.add 13 (entry (fun (o : Int) => [.int .i64 o]) (fun o => True) (fun o => .str (nameT o)))
theorem F11f_ok : TabOK Try.prog F11f := F11e_ok.ent Try.func13 (by kernel_rfl) (by kernel_rfl) fun o h => c_ftext_name o
@[go_sem] theorem F11f_old {g : FuncId} {xs : List A} (h : g ≠ 13) : F11f.f g xs = F11e.f g xs := Tab.add_ne h
@[go_sem] theorem F11f_s : F11f.pl F11e := ⟨fun _ => rfl, fun _ => rfl, rfl, fun _ => rfl, rfl, fun _ => rfl, rfl⟩
theorem F11f_ftext_name (o : Int) (h : True) : F11f.f 13 [.int .i64 o] = some (.str (nameT o)) := Tab.ent_eq (Γ := F11e) (fun i j h => by simpa [Prod.ext_iff, and_assoc] using h) o h
theorem t11_name (o : Int) : F11f.f 13 [.int .i64 o] = some (.str (nameT o)) := F11f_ftext_name o trivial
theorem opP_step {w : List UInt8} {k : Nat} (h1 : 1 ≤ k) (h8 : k ≤ 8) (h : ∀ j : Nat, 1 ≤ j → j < k → nameT j ≠ w) : (nameT k = w → opP w = k) ∧ (k = 8 → nameT k ≠ w → opP w = 0) := by
  refine ⟨?_, ?_⟩
  · rintro rfl
    exact name_op (by omega) (by omega)
  · rintro rfl h9
    by_cases h0 : opP w = 0
    · exact h0
    · obtain ⟨g1, g2, g3⟩ := opP_name h0
      exfalso
      have : (opP w).toNat < 8 ∨ (opP w).toNat = 8 := by omega
      rcases this with hl | hl
      · exact h (opP w).toNat (by omega) hl (by rw [Int.toNat_of_nonneg (by omega)]; exact g1)
      · exact h9 (by have : ((8 : Nat) : Int) = opP w := by omega
                     rw [this]; exact g1)
theorem ok_ftext_op : codeOK Try.prog F11f Try.f25.ntmps (Try.f25.body.getD .skip) = true := by kernel_rfl
theorem c_ftext_op (w : List UInt8) : CallA Try.prog 25 [.str w] (· = .int .i64 (opP w)) := by
  refine callA_of_body F11f_ok mixed Try.func25 rfl (Nat.le_of_ble_eq_true rfl) ok_ftext_op ?_
  unfold Try.f25
  simp -implicitDefEqProofs (disch := (first | omega | decide)) only [go_sem, ↓reduceIte, seval]
  refine wpA_loop [0] (ι := {k : Nat // 1 ≤ k ∧ k ≤ 9 ∧ ∀ j : Nat, 1 ≤ j → j < k → nameT j ≠ w}) (fun k => [(3, .int .i64 k.1)]) (fun _ => []) (fun k => 9 - k.1) ⟨1, by omega, by omega, by omega⟩ (Nat.zero_le _) ?_ ?_
  · simp -implicitDefEqProofs (disch := (first | omega | decide)) only [go_sem, ↓reduceIte, seval]
  · rintro ⟨k, hk1, hk2, hk3⟩
    simp only
    have g := t11_name (k : Int)
    by_cases hlt : k ≤ 8
    · have hlt' : (k : Int) ≤ 8 := by omega
      obtain ⟨s1, s2⟩ := opP_step hk1 hlt hk3
      by_cases he : nameT k = w
      · have e := s1 he
        have hb : (nameT (k : Int) == w) = true := by simpa using he
        simp -implicitDefEqProofs (disch := (first | omega | decide)) only [go_sem, ↓reduceIte, seval, hlt', g, hb, wrap_i64]
        exact e.symm
      · have hb : (nameT (k : Int) == w) = false := by simpa using he
        simp -implicitDefEqProofs (disch := (first | omega | decide)) only [go_sem, ↓reduceIte, seval, hlt', g, hb, wrap_i64]
        refine ⟨⟨k + 1, by omega, by omega, ?_⟩, by simp, by show 9 - (k + 1) < 9 - k; omega⟩
        intro j h1 h2
        by_cases hj : j = k
        · subst hj; exact he
        · exact hk3 j h1 (by omega)
    · have hlt' : ¬ (k : Int) ≤ 8 := by omega
      obtain rfl : k = 9 := by omega
      have e := (opP_step (w := w) (k := 8) (by omega) (by omega) (fun j h1 h2 => hk3 j h1 (by omega))).2 rfl (hk3 8 (by omega) (by omega))
      simp -implicitDefEqProofs (disch := (first | omega | decide)) only [go_sem, ↓reduceIte, seval, hlt']
      exact e.symm
noncomputable def F11g : Tab := F11f.add 25 (entry (fun (w : List UInt8) => [.str w]) (fun w => True) (fun w => .int .i64 (opP w)))
theorem F11g_ok : TabOK Try.prog F11g := F11f_ok.ent Try.func25 (by kernel_rfl) (by kernel_rfl) fun w h => c_ftext_op w
@[go_sem] theorem F11g_old {g : FuncId} {xs : List A} (h : g ≠ 25) : F11g.f g xs = F11f.f g xs := Tab.add_ne h
@[go_sem] theorem F11g_s : F11g.pl F11f := ⟨fun _ => rfl, fun _ => rfl, rfl, fun _ => rfl, rfl, fun _ => rfl, rfl⟩
theorem F11g_ftext_op (w : List UInt8) (h : True) : F11g.f 25 [.str w] = some (.int .i64 (opP w)) := Tab.ent_eq (Γ := F11f) (fun i j h => by simpa [Prod.ext_iff, and_assoc] using h) w h
theorem t11_op (w : List UInt8) : F11g.f 25 [.str w] = some (.int .i64 (opP w)) := F11g_ftext_op w trivial
end Go.Proofs.Ythiedimbmcgpdaa
namespace Go.Abs
end Go.Abs
namespace Go.Proofs.Ythiedimbmcgpdaa
open Go.Abs
set_option linter.unusedSimpArgs false
set_option linter.unusedVariables false
set_option maxRecDepth 20000
set_option maxHeartbeats 8000000
def psO (p : PS) : List Go.Abs.Obj := [.box [.str p.s, .bool p.bad, .row 1 0 4 p.l.length false], .row 4 (p.l.map Nd.enc)]
theorem ps_inj {p q : PS} (h : psO p = psO q) : p = q := by
  obtain ⟨a, b, c⟩ := p
  obtain ⟨a', b', c'⟩ := q
  simp [psO] at h
  obtain ⟨⟨rfl, rfl, _⟩, h2⟩ := h
  rw [h2]
noncomputable def P0 : Tab := { F11g with eff := fun _ => false, fix := fun n => n == 0 || n == 1, nf := 2 }
theorem P0_ok : TabOK Try.prog P0 := ⟨F11g_ok.f, F11g_ok.hp⟩
@[go_sem] theorem P0_f : P0.f = F11g.f := rfl
@[go_sem] theorem P0_eff {g : FuncId} : P0.eff g = false := rfl
@[go_sem] theorem P0_ords {n : Nat} : P0.ords n = [] := rfl
theorem ok_run : codeOK Try.prog P0 Try.f26.ntmps (Try.f26.body.getD .skip) = true := by kernel_rfl
theorem h_run (p : PS) (hs : p.s.length ≤ 1000000000) : CallH Try.prog 26 [.ref 0 0] (psO p) (.str (runP p).1) (psO (runP p).2) [] := by
  refine callH_of_body P0_ok mixed Try.func26 rfl (Nat.le_of_ble_eq_true rfl) (fun n h h' => by have h : n < 2 := h; have e : n = 0 ∨ n = 1 := (by omega); rcases e with rfl | rfl <;> rfl) (by show 2 ≤ 2; simp) (by show 2 ≤ 2; simp) ok_run ?_
  unfold Try.f26
  obtain ⟨s, b, l⟩ := p
  simp only at hs
  have g := t11_any hs
  have ln : (l.map Nd.enc).length = l.length := List.length_map _
  unfold psO runP
  simp only
  rcases any_run s with ⟨h1, h2, h3⟩ | ⟨h1, h2, h3, h4⟩
  · rw [h1] at g
    rw [h2, h3]
    have c1 : s.take s.length = s := List.take_length
    have c2 : s.drop s.length = [] := List.drop_length
    simp -implicitDefEqProofs (disch := (first | omega | decide)) only [go_sem, ↓reduceIte, seval, g, c1, c2, ln, Int.le_refl]
    try trivial
  · rw [h1] at g
    rw [h3, h4]
    generalize (s.takeWhile goB).length = n at *
    have c0 : ¬ (n : Int) < 0 := by omega
    have c1 : (n : Int) ≤ (s.length : Int) := by omega
    have c2 : ((n : Nat) : Int).toNat = n := by simp
    have c3 : (0 : Int) ≤ (n : Int) := by omega
    have c4 : (s.drop n).take (s.length - n) = s.drop n := List.take_of_length_le (by rw [List.length_drop]; omega)
    have c5 : ((s.length : Int) - (n : Int)).toNat = s.length - n := by omega
    have c6 : s.take s.length = s := List.take_length
    simp -implicitDefEqProofs (disch := (first | omega | decide)) only [go_sem, ↓reduceIte, seval, g, c6, c0, c1, c2, c3, c4, c5, ln, List.drop_zero, Int.le_refl]
    try trivial
theorem ok_sign : codeOK Try.prog P0 Try.f38.ntmps (Try.f38.body.getD .skip) = true := by kernel_rfl
theorem h_sign (c : UInt8) (p : PS) (hs : p.s.length ≤ 1000000000) : CallH Try.prog 38 [.ref 0 0, .int .u8 c.toNat] (psO p) (.bool (signP c p).1) (psO (signP c p).2) [] := by
  refine callH_of_body P0_ok mixed Try.func38 rfl (Nat.le_of_ble_eq_true rfl) (fun n h h' => by have h : n < 2 := h; have e : n = 0 ∨ n = 1 := (by omega); rcases e with rfl | rfl <;> rfl) (by show 2 ≤ 2; simp) (by show 2 ≤ 2; simp) ok_sign ?_
  unfold Try.f38
  obtain ⟨s, b, l⟩ := p
  simp only at hs
  unfold psO signP
  simp only
  cases b with
  | true =>
    simp -implicitDefEqProofs (disch := (first | omega | decide)) only [go_sem, ↓reduceIte, seval]
    try trivial
  | false =>
    cases s with
    | nil =>
      simp -implicitDefEqProofs (disch := (first | omega | decide)) only [go_sem, ↓reduceIte, seval]
      try trivial
    | cons d r =>
      by_cases hd : d = c
      · subst hd
        have hb : ((d.toNat : Int) == (d.toNat : Int)) = true := by simp
        have e0 : ((d :: r) == ([] : List UInt8)) = false := rfl
        have c1 : (1 : Int) ≤ ((r.length + 1 : Nat) : Int) := by omega
        have c2 : r.take r.length = r := List.take_length
        simp -implicitDefEqProofs (disch := (first | omega | decide)) only [go_sem, ↓reduceIte, seval, hb, e0, c1, c2, encU8, List.length_cons, List.getElem?_cons_zero, Int.le_refl]
      · have hb : ((d.toNat : Int) == (c.toNat : Int)) = false := by
          rw [beq_eq_false_iff_ne]; intro e; exact hd (UInt8.toNat_inj.1 (by omega))
        have e0 : ((d :: r) == ([] : List UInt8)) = false := rfl
        simp -implicitDefEqProofs (disch := (first | omega | decide)) only [go_sem, ↓reduceIte, seval, hb, e0, encU8, hd, List.length_cons, List.getElem?_cons_zero]
noncomputable def Pa0 : Tab := F11g.addH 38 (entryH (fun v : PS × UInt8 => [.ref 0 0, .int .u8 (v.2.toNat : Int)]) (fun v => psO v.1) (fun v => v.1.s.length ≤ 1000000000) (fun v => (.bool (signP v.2 v.1).1, psO (signP v.2 v.1).2, [])))
theorem Pa0_ok : TabOK Try.prog Pa0 := F11g_ok.addH (callable_of Try.func38 (by kernel_rfl) (by kernel_rfl)) (entryH_ok fun v h => h_sign v.2 v.1 h)
noncomputable def Pa1 : Tab := Pa0.addH 26 (entryH (fun v : PS => [.ref 0 0]) (fun v => psO v) (fun v => v.s.length ≤ 1000000000) (fun v => (.str (runP v).1, psO (runP v).2, [])))
theorem Pa1_ok : TabOK Try.prog Pa1 := Pa0_ok.addH (callable_of Try.func26 (by kernel_rfl) (by kernel_rfl)) (entryH_ok fun v h => h_run v h)
noncomputable def Pa : Tab := { Pa1 with eff := fun f => f == 38 || f == 26, fix := fun n => n == 0 || n == 1, nf := 2 }
theorem Pa_ok : TabOK Try.prog Pa := ⟨Pa1_ok.f, Pa1_ok.hp⟩
@[go_sem] theorem Pa_f : Pa.f = F11g.f := rfl
@[go_sem] theorem Pa_eff {g : FuncId} : Pa.eff g = (g == 38 || g == 26) := rfl
@[go_sem] theorem Pa_frz {g : FuncId} : Pa.frz g = false := rfl
@[go_sem] theorem Pa_ords {n : Nat} : Pa.ords n = [] := rfl
theorem sg_inj (i j : PS × UInt8) (h : [A.ref 0 0, .int .u8 (i.2.toNat : Int)] = [A.ref 0 0, .int .u8 (j.2.toNat : Int)]) (h' : psO i.1 = psO j.1) : i = j := by
  have h1 := ps_inj h'
  simp only [List.cons.injEq, A.int.injEq, true_and, and_true] at h
  exact Prod.ext h1 (UInt8.toNat_inj.1 (by omega))
theorem pa_sign (c : UInt8) {p : PS} (h : p.s.length ≤ 1000000000) : Pa.hp 38 [.ref 0 0, .int .u8 (c.toNat : Int)] (psO p) = some (.bool (signP c p).1, psO (signP c p).2, []) := by
  have h0 : Pa1.hp 38 [.ref 0 0, .int .u8 (c.toNat : Int)] (psO p) = Pa0.hp 38 [.ref 0 0, .int .u8 (c.toNat : Int)] (psO p) := Tab.addH_ne (by decide)
  have h1 : Pa0.hp 38 [.ref 0 0, .int .u8 (c.toNat : Int)] (psO p) = _ := Tab.addH_eq
  have h2 : Pa.hp 38 [.ref 0 0, .int .u8 (c.toNat : Int)] (psO p) = _ := h0.trans h1
  exact h2.trans (entryH_eq (enc := fun v : PS × UInt8 => [.ref 0 0, .int .u8 (v.2.toNat : Int)]) (obs := fun v => psO v.1) sg_inj (p, c) h)
theorem pa_run {p : PS} (h : p.s.length ≤ 1000000000) : Pa.hp 26 [.ref 0 0] (psO p) = some (.str (runP p).1, psO (runP p).2, []) := by
  have h1 : Pa1.hp 26 [.ref 0 0] (psO p) = _ := Tab.addH_eq
  have h2 : Pa.hp 26 [.ref 0 0] (psO p) = _ := h1
  exact h2.trans (entryH_eq (enc := fun v : PS => [.ref 0 0]) (obs := fun v => psO v) (fun i j _ h' => ps_inj h') p h)
theorem ok_must : codeOK Try.prog Pa Try.f27.ntmps (Try.f27.body.getD .skip) = true := by kernel_rfl
theorem h_must (c : UInt8) (p : PS) (hs : p.s.length ≤ 1000000000) : CallH Try.prog 27 [.ref 0 0, .int .u8 c.toNat] (psO p) (.tup []) (psO (mustP c p)) [] := by
  refine callH_of_body Pa_ok mixed Try.func27 rfl (Nat.le_of_ble_eq_true rfl) (fun n h h' => by have h : n < 2 := h; have e : n = 0 ∨ n = 1 := (by omega); rcases e with rfl | rfl <;> rfl) (by show 2 ≤ 2; simp) (by show 2 ≤ 2; simp) ok_must ?_
  unfold Try.f27
  have g := pa_sign c hs
  unfold mustP
  cases hb : (signP c p).1 with
  | true =>
    rw [hb] at g
    simp only [if_true]
    generalize signP c p = q at *
    obtain ⟨r, s', b', l'⟩ := q
    obtain ⟨s, b, l⟩ := p
    unfold psO at g ⊢
    simp only at g ⊢
    simp -implicitDefEqProofs (disch := (first | omega | decide)) only [go_sem, ↓reduceIte, seval, g, List.length_map]
  | false =>
    rw [hb] at g
    have e := sign_false hb
    rw [e] at g
    simp only [Bool.false_eq_true, if_false]
    obtain ⟨s, b, l⟩ := p
    unfold psO at g ⊢
    simp only at g ⊢
    simp -implicitDefEqProofs (disch := (first | omega | decide)) only [go_sem, ↓reduceIte, seval, g, List.length_map]
theorem ok_text : codeOK Try.prog Pa Try.f28.ntmps (Try.f28.body.getD .skip) = true := by kernel_rfl
theorem h_text (p : PS) (hs : p.s.length ≤ 1000000000) : CallH Try.prog 28 [.ref 0 0] (psO p) (.str (textP p).1) (psO (textP p).2) [] := by
  refine callH_of_body Pa_ok mixed Try.func28 rfl (Nat.le_of_ble_eq_true rfl) (fun n h h' => by have h : n < 2 := h; have e : n = 0 ∨ n = 1 := (by omega); rcases e with rfl | rfl <;> rfl) (by show 2 ≤ 2; simp) (by show 2 ≤ 2; simp) ok_text ?_
  unfold Try.f28
  have g := pa_run hs
  have he := congrArg List.length (runP_eq p)
  rw [List.length_append] at he
  have g2 := t11_Read (s := (runP p).1) (by omega)
  unfold textP
  cases hr : readW (runP p).1 with
  | some t =>
    rw [hr] at g2
    simp only [rdA] at g2 ⊢
    generalize runP p = q at *
    obtain ⟨r, s', b', l'⟩ := q
    obtain ⟨s, b, l⟩ := p
    unfold psO at g ⊢
    simp only at g g2 ⊢
    simp -implicitDefEqProofs (disch := (first | omega | decide)) only [go_sem, ↓reduceIte, seval, g, g2, List.length_map]
  | none =>
    rw [hr] at g2
    simp only [rdA] at g2 ⊢
    generalize runP p = q at *
    obtain ⟨r, s', b', l'⟩ := q
    obtain ⟨s, b, l⟩ := p
    unfold psO at g ⊢
    simp only at g g2 ⊢
    simp -implicitDefEqProofs (disch := (first | omega | decide)) only [go_sem, ↓reduceIte, seval, g, g2, List.length_map]
noncomputable def Pp : Tab := { F11g with eff := fun _ => false, fix := fun n => n == 0, nf := 2, ords := fun n => if n = 4 then [[1,2,3,4,5,6,7,0,8,9,10], [1,2,3,4,5,6,0,7,8,9,10], [1,2,3,4,5,6,0,8,7,9,10], [1,2,3,4,5,6,0,8,9,7,10]] else [] }
theorem Pp_ok : TabOK Try.prog Pp := ⟨F11g_ok.f, F11g_ok.hp⟩
@[go_sem] theorem Pp_fix {n : Nat} : Pp.fix n = (n == 0) := rfl
@[go_sem] theorem Pp_ords4 : Pp.ords 4 = [[1,2,3,4,5,6,7,0,8,9,10], [1,2,3,4,5,6,0,7,8,9,10], [1,2,3,4,5,6,0,8,7,9,10], [1,2,3,4,5,6,0,8,9,7,10]] := rfl
@[go_sem] theorem Pp_ords {n : Nat} (h : n ≠ 4) : Pp.ords n = [] := if_neg h
theorem ok_put : codeOK Try.prog Pp Try.f30.ntmps (Try.f30.body.getD .skip) = true := by kernel_rfl
theorem h_put (n : Nd) (p : PS) (hl : p.l.length ≤ 32) : CallH Try.prog 30 [.ref 0 0, n.enc] (psO p) (.tup []) (psO (putP n p)) [1] := by
  refine callH_of_body Pp_ok mixed Try.func30 rfl (Nat.le_of_ble_eq_true rfl) (fun n h h' => by have h : n < 2 := h; simp at h'; have e : n = 0 := (by omega); subst e; rfl) (by show 2 ≤ 2; simp) (by show 2 ≤ 2; simp) ok_put ?_
  unfold Try.f30
  obtain ⟨s, b, l⟩ := p
  obtain ⟨o, k, lo, hi⟩ := n
  simp only at hl
  have tl : (l.map Nd.enc).take l.length = l.map Nd.enc := List.take_of_length_le (by simp)
  unfold putP psO
  simp only [Nd.enc]
  by_cases h32 : 32 ≤ l.length
  · have c1 : (32 : Int) ≤ (l.length : Int) := by omega
    have e : b = true ∨ 32 ≤ l.length := .inr h32
    rw [if_pos e]
    simp -implicitDefEqProofs (disch := (first | omega | decide)) only [go_sem, ↓reduceIte, seval, c1, tl, List.length_map]
  · have c1 : ¬ (32 : Int) ≤ (l.length : Int) := by omega
    cases b with
    | true =>
      have e : true = true ∨ 32 ≤ l.length := .inl rfl
      rw [if_pos e]
      simp -implicitDefEqProofs (disch := (first | omega | decide)) only [go_sem, ↓reduceIte, seval, c1, tl, List.length_map]
    | false =>
      have e : ¬ (false = true ∨ 32 ≤ l.length) := by simp; omega
      rw [if_neg e]
      simp -implicitDefEqProofs (disch := (first | omega | decide)) only [go_sem, ↓reduceIte, seval, c1, tl, List.length_map, List.map_append, List.length_append]
      exact ⟨Nat.le_refl _, by omega⟩
def okP (p : PS) : Prop := p.s.length ≤ 1000000000 ∧ p.l.length ≤ 32
def Shr (p q : PS) : Prop := q.s.length ≤ p.s.length ∧ (p.l.length ≤ 32 → q.l.length ≤ 32)
theorem Shr.refl (p : PS) : Shr p p := ⟨Nat.le_refl _, id⟩
theorem Shr.trans {p q r : PS} (h : Shr p q) (h' : Shr q r) : Shr p r := ⟨Nat.le_trans h'.1 h.1, fun g => h'.2 (h.2 g)⟩
theorem Shr.bad {p q : PS} (h : Shr p q) (b : Bool) : Shr p { q with bad := b } := h
theorem Shr.ok {p q : PS} (h : Shr p q) (hp : okP p) : okP q := ⟨Nat.le_trans h.1 hp.1, h.2 hp.2⟩
theorem run_shr (p : PS) : Shr p (runP p).2 := by
  have := congrArg List.length (runP_eq p)
  rw [List.length_append] at this
  exact ⟨by omega, id⟩
theorem sign_shr (c : UInt8) (p : PS) : Shr p (signP c p).2 := by
  cases h : (signP c p).1 with
  | true =>
    obtain ⟨_, h2, h3⟩ := sign_true h
    rw [h3]
    have := congrArg List.length h2
    rw [List.length_cons] at this
    exact ⟨by simp only; omega, id⟩
  | false => rw [sign_false h]; exact Shr.refl p
theorem must_shr (c : UInt8) (p : PS) : Shr p (mustP c p) := by
  unfold mustP
  split
  · exact sign_shr c p
  · exact (Shr.refl p).bad true
theorem text_shr (p : PS) : Shr p (textP p).2 := by
  unfold textP
  split
  · exact run_shr p
  · exact (run_shr p).bad true
theorem put_shr (n : Nd) (p : PS) : Shr p (putP n p) := by
  unfold putP
  split
  · exact (Shr.refl p).bad true
  · rename_i h
    exact ⟨Nat.le_refl _, fun _ => by simp only [List.length_append, List.length_cons, List.length_nil]; simp at h; omega⟩
theorem kids_shr {f : PS → PS} (hf : ∀ p, Shr p (f p)) : ∀ (m k : Nat) (p : PS), Shr p (kidsP f m k p).2
  | 0, k, p => Shr.refl p
  | m + 1, k, p => by
    rw [kidsP]
    split
    · exact hf p
    split
    · exact ((hf p).trans (sign_shr 44 _)).trans (kids_shr hf m _ _)
    · exact (hf p).trans (sign_shr 44 _)
theorem args_shr {K : PS → Nat × PS} (hK : ∀ p, Shr p (K p).2) (o : Int) (p : PS) : Shr p (argsP K o p).2 := by
  unfold argsP
  split
  · exact text_shr p
  split
  · exact ((text_shr p).trans (must_shr 44 _)).trans (text_shr _)
  split
  · exact hK p
  · exact Shr.refl p
theorem behind_shr {K : PS → Nat × PS} (hK : ∀ p, Shr p (K p).2) (o : Int) (p : PS) : Shr p (behindP K o p) := by
  unfold behindP
  split
  · exact (((must_shr 40 p).trans (args_shr hK o _)).trans (must_shr 41 _)).trans (put_shr _ _)
  · exact (args_shr hK o p).trans (put_shr _ _)
theorem filter_shr : ∀ (d : Nat) (p : PS), Shr p (filterP d p)
  | 0, p => (run_shr p).bad true
  | d + 1, p => by
    rw [filterP]
    split
    · exact (run_shr p).bad true
    · exact (run_shr p).trans (behind_shr (fun q => kids_shr (filter_shr d) _ _ _) _ _)
noncomputable def Pb1 : Tab := Pa1.addH 27 (entryH (fun v : PS × UInt8 => [.ref 0 0, .int .u8 (v.2.toNat : Int)]) (fun v => psO v.1) (fun v => v.1.s.length ≤ 1000000000) (fun v => (.tup [], psO (mustP v.2 v.1), [])))
theorem Pb1_ok : TabOK Try.prog Pb1 := Pa1_ok.addH (callable_of Try.func27 (by kernel_rfl) (by kernel_rfl)) (entryH_ok fun v h => h_must v.2 v.1 h)
noncomputable def Pb2 : Tab := Pb1.addH 28 (entryH (fun v : PS => [.ref 0 0]) (fun v => psO v) (fun v => v.s.length ≤ 1000000000) (fun v => (.str (textP v).1, psO (textP v).2, [])))
theorem Pb2_ok : TabOK Try.prog Pb2 := Pb1_ok.addH (callable_of Try.func28 (by kernel_rfl) (by kernel_rfl)) (entryH_ok fun v h => h_text v h)
noncomputable def Pb : Tab := Pb2.addH 30 (entryH (fun v : PS × Nd => [.ref 0 0, v.2.enc]) (fun v => psO v.1) (fun v => v.1.l.length ≤ 32) (fun v => (.tup [], psO (putP v.2 v.1), [1])))
theorem Pb_ok : TabOK Try.prog Pb := Pb2_ok.addH (callable_of Try.func30 (by kernel_rfl) (by kernel_rfl)) (entryH_ok fun v h => h_put v.2 v.1 h)
theorem pn_inj (i j : PS × Nd) (h : [A.ref 0 0, i.2.enc] = [A.ref 0 0, j.2.enc]) (h' : psO i.1 = psO j.1) : i = j := by
  have h1 := ps_inj h'
  simp only [List.cons.injEq, true_and, and_true] at h
  exact Prod.ext h1 (Nd.enc_inj _ _ h)
theorem pb_sign (c : UInt8) {p : PS} (h : p.s.length ≤ 1000000000) : Pb.hp 38 [.ref 0 0, .int .u8 (c.toNat : Int)] (psO p) = some (.bool (signP c p).1, psO (signP c p).2, []) := by
  have h1 : Pb.hp 38 [.ref 0 0, .int .u8 (c.toNat : Int)] (psO p) = Pb2.hp 38 [.ref 0 0, .int .u8 (c.toNat : Int)] (psO p) := Tab.addH_ne (by decide)
  have h2 : Pb2.hp 38 [.ref 0 0, .int .u8 (c.toNat : Int)] (psO p) = Pb1.hp 38 [.ref 0 0, .int .u8 (c.toNat : Int)] (psO p) := Tab.addH_ne (by decide)
  have h3 : Pb1.hp 38 [.ref 0 0, .int .u8 (c.toNat : Int)] (psO p) = Pa1.hp 38 [.ref 0 0, .int .u8 (c.toNat : Int)] (psO p) := Tab.addH_ne (by decide)
  exact h1.trans (h2.trans (h3.trans (pa_sign c h)))
theorem pb_run {p : PS} (h : p.s.length ≤ 1000000000) : Pb.hp 26 [.ref 0 0] (psO p) = some (.str (runP p).1, psO (runP p).2, []) := by
  have h1 : Pb.hp 26 [.ref 0 0] (psO p) = Pb2.hp 26 [.ref 0 0] (psO p) := Tab.addH_ne (by decide)
  have h2 : Pb2.hp 26 [.ref 0 0] (psO p) = Pb1.hp 26 [.ref 0 0] (psO p) := Tab.addH_ne (by decide)
  have h3 : Pb1.hp 26 [.ref 0 0] (psO p) = Pa1.hp 26 [.ref 0 0] (psO p) := Tab.addH_ne (by decide)
  exact h1.trans (h2.trans (h3.trans (pa_run h)))
theorem pb_must (c : UInt8) {p : PS} (h : p.s.length ≤ 1000000000) : Pb.hp 27 [.ref 0 0, .int .u8 (c.toNat : Int)] (psO p) = some (.tup [], psO (mustP c p), []) := by
  have h1 : Pb.hp 27 [.ref 0 0, .int .u8 (c.toNat : Int)] (psO p) = Pb2.hp 27 [.ref 0 0, .int .u8 (c.toNat : Int)] (psO p) := Tab.addH_ne (by decide)
  have h2 : Pb2.hp 27 [.ref 0 0, .int .u8 (c.toNat : Int)] (psO p) = Pb1.hp 27 [.ref 0 0, .int .u8 (c.toNat : Int)] (psO p) := Tab.addH_ne (by decide)
  have h3 : Pb1.hp 27 [.ref 0 0, .int .u8 (c.toNat : Int)] (psO p) = _ := Tab.addH_eq
  exact h1.trans (h2.trans (h3.trans (entryH_eq (enc := fun v : PS × UInt8 => [.ref 0 0, .int .u8 (v.2.toNat : Int)]) (obs := fun v => psO v.1) sg_inj (p, c) h)))
theorem pb_text {p : PS} (h : p.s.length ≤ 1000000000) : Pb.hp 28 [.ref 0 0] (psO p) = some (.str (textP p).1, psO (textP p).2, []) := by
  have h1 : Pb.hp 28 [.ref 0 0] (psO p) = Pb2.hp 28 [.ref 0 0] (psO p) := Tab.addH_ne (by decide)
  have h2 : Pb2.hp 28 [.ref 0 0] (psO p) = _ := Tab.addH_eq
  exact h1.trans (h2.trans (entryH_eq (enc := fun v : PS => [.ref 0 0]) (obs := fun v => psO v) (fun i j _ h' => ps_inj h') p h))
theorem pb_put (n : Nd) {p : PS} (h : p.l.length ≤ 32) : Pb.hp 30 [.ref 0 0, n.enc] (psO p) = some (.tup [], psO (putP n p), [1]) := by
  have h2 : Pb.hp 30 [.ref 0 0, n.enc] (psO p) = _ := Tab.addH_eq
  exact h2.trans (entryH_eq (enc := fun v : PS × Nd => [.ref 0 0, v.2.enc]) (obs := fun v => psO v.1) pn_inj (p, n) h)
noncomputable def Gk0 (d : Nat) : Tab := Pb.addH 17 (entryH (fun v : PS => [.ref 0 0, .int .i64 (d : Int)]) (fun v => psO v) (fun v => okP v) (fun v => (A.tup [], psO (filterP d v), [1])))
noncomputable def Gk (d : Nat) : Tab := { Gk0 d with eff := fun f => f == 38 || f == 26 || f == 27 || f == 28 || f == 30 || f == 17, fix := fun n => n == 0, nf := 2 }
@[go_sem] theorem Gk_eff {d : Nat} {g : FuncId} : (Gk d).eff g = (g == 38 || g == 26 || g == 27 || g == 28 || g == 30 || g == 17) := rfl
@[go_sem] theorem Gk_frz {d : Nat} {g : FuncId} : (Gk d).frz g = false := rfl
@[go_sem] theorem Gk_fix {d n : Nat} : (Gk d).fix n = (n == 0) := rfl
@[go_sem] theorem Gk_ords {d n : Nat} : (Gk d).ords n = [] := rfl
theorem Gk_old {d : Nat} {g : FuncId} {xs : List A} {H : List Go.Abs.Obj} (h : g ≠ 17) : (Gk d).hp g xs H = Pb.hp g xs H := Tab.addH_ne h
theorem Gk_new {d : Nat} {p : PS} (h : okP p) : (Gk d).hp 17 [.ref 0 0, .int .i64 (d : Int)] (psO p) = some ((fun v : PS => (A.tup [], psO (filterP d v), [1])) p) := by
  have h1 : (Gk0 d).hp 17 [.ref 0 0, .int .i64 (d : Int)] (psO p) = _ := Tab.addH_eq
  have h2 : (Gk d).hp 17 [.ref 0 0, .int .i64 (d : Int)] (psO p) = _ := h1
  exact h2.trans (entryH_eq (enc := fun v : PS => [.ref 0 0, .int .i64 (d : Int)]) (obs := fun v => psO v) (fun i j _ h' => ps_inj h') p h)
noncomputable def Gf0 (d : Nat) : Tab := Pb.addH 29 (entryH (fun v : PS => [.ref 0 0, .int .i64 (d : Int)]) (fun v => psO v) (fun v => okP v) (fun v => (A.int .i64 ((kidsP (filterP d) (v.s.length + 1) 0 v).1 : Int), psO (kidsP (filterP d) (v.s.length + 1) 0 v).2, [1])))
noncomputable def Gf (d : Nat) : Tab := { Gf0 d with eff := fun f => f == 38 || f == 26 || f == 27 || f == 28 || f == 30 || f == 29, fix := fun n => n == 0, nf := 2 }
@[go_sem] theorem Gf_f {d : Nat} : (Gf d).f = F11g.f := rfl
@[go_sem] theorem Gf_eff {d : Nat} {g : FuncId} : (Gf d).eff g = (g == 38 || g == 26 || g == 27 || g == 28 || g == 30 || g == 29) := rfl
@[go_sem] theorem Gf_frz {d : Nat} {g : FuncId} : (Gf d).frz g = false := rfl
@[go_sem] theorem Gf_fix {d n : Nat} : (Gf d).fix n = (n == 0) := rfl
@[go_sem] theorem Gf_ords {d n : Nat} : (Gf d).ords n = [] := rfl
theorem Gf_old {d : Nat} {g : FuncId} {xs : List A} {H : List Go.Abs.Obj} (h : g ≠ 29) : (Gf d).hp g xs H = Pb.hp g xs H := Tab.addH_ne h
theorem Gf_new {d : Nat} {p : PS} (h : okP p) : (Gf d).hp 29 [.ref 0 0, .int .i64 (d : Int)] (psO p) = some ((fun v : PS => (A.int .i64 ((kidsP (filterP d) (v.s.length + 1) 0 v).1 : Int), psO (kidsP (filterP d) (v.s.length + 1) 0 v).2, [1])) p) := by
  have h1 : (Gf0 d).hp 29 [.ref 0 0, .int .i64 (d : Int)] (psO p) = _ := Tab.addH_eq
  have h2 : (Gf d).hp 29 [.ref 0 0, .int .i64 (d : Int)] (psO p) = _ := h1
  exact h2.trans (entryH_eq (enc := fun v : PS => [.ref 0 0, .int .i64 (d : Int)]) (obs := fun v => psO v) (fun i j _ h' => ps_inj h') p h)
def FilH (d : Nat) : Prop := ∀ p, okP p → CallH Try.prog 17 [.ref 0 0, .int .i64 (d : Int)] (psO p) (.tup []) (psO (filterP d p)) [1]
def KidH (d : Nat) : Prop := ∀ p, okP p → CallH Try.prog 29 [.ref 0 0, .int .i64 (d : Int)] (psO p) (.int .i64 ((kidsP (filterP d) (p.s.length + 1) 0 p).1 : Int)) (psO (kidsP (filterP d) (p.s.length + 1) 0 p).2) [1]
theorem Gk_ok {d : Nat} (h : FilH d) : TabOK Try.prog (Gk d) := by
  have h0 : TabOK Try.prog (Gk0 d) := Pb_ok.addH (callable_of Try.func17 (by kernel_rfl) (by kernel_rfl)) (entryH_ok fun v hv => h v hv)
  exact ⟨h0.f, h0.hp⟩
theorem Gf_ok {d : Nat} (h : KidH d) : TabOK Try.prog (Gf d) := by
  have h0 : TabOK Try.prog (Gf0 d) := Pb_ok.addH (callable_of Try.func29 (by kernel_rfl) (by kernel_rfl)) (entryH_ok fun v hv => h v hv)
  exact ⟨h0.f, h0.hp⟩
theorem ok_kids (d : Nat) : codeOK Try.prog (Gk d) Try.f29.ntmps (Try.f29.body.getD .skip) = true := by kernel_rfl
theorem h_kids {d : Nat} (hF : FilH d) : KidH d := by
  intro p hp
  have hp1 := hp.1
  refine callH_of_body (Gk_ok hF) mixed Try.func29 rfl (Nat.le_of_ble_eq_true rfl) (fun n h h' => by have h : n < 2 := h; simp at h'; have e : n = 0 := (by omega); subst e; rfl) (by show 2 ≤ 2; simp) (by show 2 ≤ 2; simp) (ok_kids d) ?_
  unfold Try.f29
  generalize hR : kidsP (filterP d) (p.s.length + 1) 0 p = R
  unfold psO
  simp -implicitDefEqProofs (disch := (first | omega | decide)) only [go_sem, ↓reduceIte, seval]
  refine wpA_loop [0, 1] (ι := {v : Nat × Nat × PS // okP v.2.2 ∧ v.2.2.s.length < v.1 ∧ v.2.1 + v.2.2.s.length ≤ p.s.length ∧ kidsP (filterP d) v.1 v.2.1 v.2.2 = R}) (fun v => [(5, .int .i64 v.1.2.1)]) (fun v => [(0, .box [.str v.1.2.2.s, .bool v.1.2.2.bad, .row 1 0 4 v.1.2.2.l.length false]), (1, .row 4 (v.1.2.2.l.map Nd.enc))]) (fun v => v.1.1) ⟨(p.s.length + 1, 0, p), hp, Nat.lt_succ_self _, by simp, hR⟩ (by show 2 ≤ 2; simp) ?_ ?_
  · simp -implicitDefEqProofs (disch := (first | omega | decide)) only [go_sem, ↓reduceIte, seval]
  · rintro ⟨⟨m, k, q⟩, hq, hm, hk, hd⟩
    simp only at hq hm hk hd ⊢
    cases m with
    | zero => omega
    | succ m =>
      have hq' : okP (filterP d q) := (filter_shr d q).ok hq
      have hql := (filter_shr d q).1
      have g1 := Gk_new (d := d) hq
      have g2 : (Gk d).hp 38 [.ref 0 0, .int .u8 44] (psO (filterP d q)) = _ := (Gk_old (by decide)).trans (pb_sign 44 hq'.1)
      have hs := sign_shr 44 (filterP d q)
      rw [kidsP] at hd
      unfold psO at g1 g2
      simp only at g1
      generalize filterP d q = q1 at *
      cases hb : q1.bad with
      | true =>
        rw [if_pos hb] at hd
        rw [← hd]
        rw [hb] at g1
        simp -implicitDefEqProofs (disch := (first | omega | decide)) only [go_sem, ↓reduceIte, seval, g1, hb, wrap_i64, List.length_map]
        rfl
      | false =>
        rw [if_neg (by rw [hb]; simp)] at hd
        rw [hb] at g1 g2
        cases hc : (signP 44 q1).1 with
        | true =>
          rw [if_pos hc] at hd
          obtain ⟨_, s2, _⟩ := sign_true hc
          have s3 := congrArg List.length s2
          rw [List.length_cons] at s3
          rw [hc] at g2
          simp -implicitDefEqProofs (disch := (first | omega | decide)) only [go_sem, ↓reduceIte, seval, g1, g2, wrap_i64, List.length_map]
          exact ⟨⟨(m, k + 1, (signP 44 q1).2), hs.ok hq', by simp only; omega, by simp only; omega, hd⟩, ⟨by simp, ⟨rfl, rfl, rfl⟩, rfl⟩, Nat.lt_succ_self m⟩
        | false =>
          rw [if_neg (by rw [hc]; simp)] at hd
          rw [hc] at g2
          rw [← hd]
          simp -implicitDefEqProofs (disch := (first | omega | decide)) only [go_sem, ↓reduceIte, seval, g1, g2, wrap_i64, List.length_map]
          rfl
theorem ok_filter (d : Nat) : codeOK Try.prog (Gf d) Try.f17.ntmps (Try.f17.body.getD .skip) = true := by kernel_rfl
theorem gf_run {d : Nat} {p : PS} (h : p.s.length ≤ 1000000000) : (Gf d).hp 26 [.ref 0 0] (psO p) = some (.str (runP p).1, psO (runP p).2, []) := (Gf_old (by decide)).trans (pb_run h)
theorem gf_must40 {d : Nat} {p : PS} (h : p.s.length ≤ 1000000000) : (Gf d).hp 27 [.ref 0 0, .int .u8 40] (psO p) = some (.tup [], psO (mustP 40 p), []) := (Gf_old (by decide)).trans (pb_must 40 h)
theorem gf_must41 {d : Nat} {p : PS} (h : p.s.length ≤ 1000000000) : (Gf d).hp 27 [.ref 0 0, .int .u8 41] (psO p) = some (.tup [], psO (mustP 41 p), []) := (Gf_old (by decide)).trans (pb_must 41 h)
theorem gf_must44 {d : Nat} {p : PS} (h : p.s.length ≤ 1000000000) : (Gf d).hp 27 [.ref 0 0, .int .u8 44] (psO p) = some (.tup [], psO (mustP 44 p), []) := (Gf_old (by decide)).trans (pb_must 44 h)
theorem gf_text {d : Nat} {p : PS} (h : p.s.length ≤ 1000000000) : (Gf d).hp 28 [.ref 0 0] (psO p) = some (.str (textP p).1, psO (textP p).2, []) := (Gf_old (by decide)).trans (pb_text h)
theorem gf_put {d : Nat} (o k : Int) (lo hi : List UInt8) {p : PS} (h : p.l.length ≤ 32) : (Gf d).hp 30 [.ref 0 0, .agg [.int .i64 o, .int .i64 k, .str lo, .str hi]] (psO p) = some (.tup [], psO (putP ⟨o, k, lo, hi⟩ p), [1]) := (Gf_old (by decide)).trans (pb_put ⟨o, k, lo, hi⟩ h)
noncomputable def Pf : Tab := { Pb with eff := fun f => f == 38 || f == 26 || f == 27 || f == 28 || f == 30 || f == 29, fix := fun n => n == 0, nf := 2 }
theorem Pf_ok : TabOK Try.prog Pf := ⟨Pb_ok.f, Pb_ok.hp⟩
@[go_sem] theorem Pf_f : Pf.f = F11g.f := rfl
@[go_sem] theorem Pf_eff {g : FuncId} : Pf.eff g = (g == 38 || g == 26 || g == 27 || g == 28 || g == 30 || g == 29) := rfl
@[go_sem] theorem Pf_frz {g : FuncId} : Pf.frz g = false := rfl
@[go_sem] theorem Pf_ords {n : Nat} : Pf.ords n = [] := rfl
theorem ok_filter0 : codeOK Try.prog Pf Try.f17.ntmps (Try.f17.body.getD .skip) = true := by kernel_rfl
theorem h_filter0 : FilH 0 := by
  intro p hp
  have hp1 := hp.1
  refine callH_of_body Pf_ok mixed Try.func17 rfl (Nat.le_of_ble_eq_true rfl) (fun n h h' => by have h : n < 2 := h; simp at h'; have e : n = 0 := (by omega); subst e; rfl) (by show 2 ≤ 2; simp) (by show 2 ≤ 2; simp) ok_filter0 ?_
  unfold Try.f17
  have g1 : Pf.hp 26 [.ref 0 0] (psO p) = _ := pb_run hp1
  have g2 := t11_op (runP p).1
  rw [filterP]
  generalize opP (runP p).1 = o at *
  generalize (runP p).1 = w at *
  generalize (runP p).2 = q1 at *
  unfold psO at g1 ⊢
  cases hb : o == 0 with
  | true => simp -implicitDefEqProofs (disch := (first | omega | decide)) only [go_sem, ↓reduceIte, seval, g1, g2, hb, List.length_map]
  | false => simp -implicitDefEqProofs (disch := (first | omega | decide)) only [go_sem, ↓reduceIte, seval, g1, g2, hb, List.length_map]
theorem behind12 {K : PS → Nat × PS} {o : Int} {q : PS} (h : o = 1 ∨ o = 2) : behindP K o q = putP ⟨o, 0, [], []⟩ q := by
  rcases h with rfl | rfl <;> rfl
theorem behind35 {K : PS → Nat × PS} {o : Int} {q : PS} (h : o = 3 ∨ o = 5) : behindP K o q = putP ⟨o, 0, (textP (mustP 40 q)).1, []⟩ (mustP 41 (textP (mustP 40 q)).2) := by
  rcases h with rfl | rfl <;> rfl
theorem behind4 {K : PS → Nat × PS} {q : PS} : behindP K 4 q = putP ⟨4, 0, (textP (mustP 40 q)).1, (textP (mustP 44 (textP (mustP 40 q)).2)).1⟩ (mustP 41 (textP (mustP 44 (textP (mustP 40 q)).2)).2) := rfl
theorem behind678 {K : PS → Nat × PS} {o : Int} {q : PS} (h : o = 6 ∨ o = 7 ∨ o = 8) : behindP K o q = putP ⟨o, (K (mustP 40 q)).1, [], []⟩ (mustP 41 (K (mustP 40 q)).2) := by
  rcases h with rfl | rfl | rfl <;> rfl
theorem h_filterS {d : Nat} (hdb : d ≤ 1000) (hK : KidH d) : FilH (d + 1) := by
  intro p hp
  have hp1 := hp.1
  refine callH_of_body (Gf_ok hK) mixed Try.func17 rfl (Nat.le_of_ble_eq_true rfl) (fun n h h' => by have h : n < 2 := h; simp at h'; have e : n = 0 := (by omega); subst e; rfl) (by show 2 ≤ 2; simp) (by show 2 ≤ 2; simp) (ok_filter d) ?_
  unfold Try.f17
  have g1 := gf_run (d := d) hp1
  have g2 := t11_op (runP p).1
  have o1 := (run_shr p).ok hp
  have hd0 : ¬ ((d : Int) + 1) < 1 := by omega
  have hd1 : ((d + 1 : Nat) : Int) = (d : Int) + 1 := by omega
  have hd2 : (d : Int) + 1 - 1 = (d : Int) := by omega
  have hpb : (runP p).2.bad = p.bad := rfl
  rw [filterP]
  generalize hw : opP (runP p).1 = o at *
  have ho : o = 0 ∨ o = 1 ∨ o = 2 ∨ o = 3 ∨ o = 4 ∨ o = 5 ∨ o = 6 ∨ o = 7 ∨ o = 8 := by
    by_cases h0 : o = 0
    · exact .inl h0
    · have := opP_name (w := (runP p).1) (by rw [hw]; exact h0)
      rw [hw] at this; omega
  generalize (runP p).1 = w at *
  generalize (runP p).2 = q1 at *
  unfold psO at g1
  by_cases h0 : o = 0
  · subst h0
    rw [if_pos (.inl rfl)]
    unfold psO
    rw [hd1]
    simp -implicitDefEqProofs (disch := (first | omega | decide)) only [go_sem, ↓reduceIte, seval, g1, g2, hd0, List.length_map]
  · cases hb : q1.bad with
    | true =>
      rw [hb] at hpb
      rw [if_pos (.inr hpb.symm)]
      rw [hb] at g1
      have e0 : (o == 0) = false := by simpa using h0
      unfold psO
      rw [hd1]
      simp -implicitDefEqProofs (disch := (first | omega | decide)) only [go_sem, ↓reduceIte, seval, g1, g2, e0, hd0, List.length_map]
    | false =>
      rw [hb] at hpb
      rw [if_neg (by rw [← hpb]; simp; exact h0)]
      rw [hb] at g1
      have o2 := (must_shr 40 q1).ok o1
      have k1 := gf_must40 (d := d) o1.1
      unfold psO at k1
      rw [hb] at k1
      have a0 : 1 ≤ o := by omega
      rcases ho with rfl | ho
      · exact absurd rfl h0
      by_cases c12 : o = 1 ∨ o = 2
      · rw [behind12 c12]
        have k2 := gf_put (d := d) o 0 [] [] o1.2
        generalize putP ⟨o, 0, [], []⟩ q1 = r at *
        unfold psO at k2 ⊢
        rw [hb] at k2
        rw [hd1]
        rcases c12 with rfl | rfl
        · simp -implicitDefEqProofs (disch := (first | omega | decide)) only [go_sem, ↓reduceIte, seval, g1, g2, k2, hd0, List.length_map]
        · simp -implicitDefEqProofs (disch := (first | omega | decide)) only [go_sem, ↓reduceIte, seval, g1, g2, k2, hd0, List.length_map]
      by_cases c35 : o = 3 ∨ o = 5
      · rw [behind35 c35]
        generalize mustP 40 q1 = q2 at *
        have k2 := gf_text (d := d) o2.1
        have o3 := (text_shr q2).ok o2
        generalize textP q2 = t3 at *
        obtain ⟨lo, q3⟩ := t3
        simp only at k2 o3 ⊢
        have k3 := gf_must41 (d := d) o3.1
        have o4 := (must_shr 41 q3).ok o3
        generalize mustP 41 q3 = q4 at *
        have k4 := gf_put (d := d) o 0 lo [] o4.2
        generalize putP ⟨o, 0, lo, []⟩ q4 = r at *
        unfold psO at k2 k3 k4 ⊢
        rw [hd1]
        rcases c35 with rfl | rfl
        · simp -implicitDefEqProofs (maxSteps := 6000000) (disch := (first | omega | decide)) only [go_sem, ↓reduceIte, seval, g1, g2, k1, k2, k3, k4, hd0, List.length_map]
        · simp -implicitDefEqProofs (maxSteps := 6000000) (disch := (first | omega | decide)) only [go_sem, ↓reduceIte, seval, g1, g2, k1, k2, k3, k4, hd0, List.length_map]
      by_cases c4 : o = 4
      · subst c4
        rw [behind4]
        generalize mustP 40 q1 = q2 at *
        have k2 := gf_text (d := d) o2.1
        have o3 := (text_shr q2).ok o2
        generalize textP q2 = t3 at *
        obtain ⟨lo, q3⟩ := t3
        simp only at k2 o3 ⊢
        have k3 := gf_must44 (d := d) o3.1
        have o4 := (must_shr 44 q3).ok o3
        generalize mustP 44 q3 = q4 at *
        have k4 := gf_text (d := d) o4.1
        have o5 := (text_shr q4).ok o4
        generalize textP q4 = t5 at *
        obtain ⟨hi, q5⟩ := t5
        simp only at k4 o5 ⊢
        have k5 := gf_must41 (d := d) o5.1
        have o6 := (must_shr 41 q5).ok o5
        generalize mustP 41 q5 = q6 at *
        have k6 := gf_put (d := d) 4 0 lo hi o6.2
        generalize putP ⟨4, 0, lo, hi⟩ q6 = r at *
        unfold psO at k2 k3 k4 k5 k6 ⊢
        rw [hd1]
        simp -implicitDefEqProofs (maxSteps := 6000000) (disch := (first | omega | decide)) only [go_sem, ↓reduceIte, seval, g1, g2, k1, k2, k3, k4, k5, k6, hd0, List.length_map]
      have c678 : o = 6 ∨ o = 7 ∨ o = 8 := by omega
      rw [behind678 c678]
      generalize mustP 40 q1 = q2 at *
      have k2 := Gf_new (d := d) o2
      simp only at k2
      have o3 := (kids_shr (filter_shr d) (q2.s.length + 1) 0 q2).ok o2
      generalize kidsP (filterP d) (q2.s.length + 1) 0 q2 = t3 at *
      obtain ⟨k, q3⟩ := t3
      simp only at k2 o3 ⊢
      have k3 := gf_must41 (d := d) o3.1
      have o4 := (must_shr 41 q3).ok o3
      generalize mustP 41 q3 = q4 at *
      have k4 := gf_put (d := d) o (k : Int) [] [] o4.2
      generalize putP ⟨o, (k : Int), [], []⟩ q4 = r at *
      unfold psO at k2 k3 k4 ⊢
      rw [hd1]
      rcases c678 with rfl | rfl | rfl
      · simp -implicitDefEqProofs (maxSteps := 6000000) (disch := (first | omega | decide)) only [go_sem, ↓reduceIte, seval, g1, g2, k1, k2, k3, k4, hd0, hd2, wrap_i64, List.length_map]
      · simp -implicitDefEqProofs (maxSteps := 6000000) (disch := (first | omega | decide)) only [go_sem, ↓reduceIte, seval, g1, g2, k1, k2, k3, k4, hd0, hd2, wrap_i64, List.length_map]
      · simp -implicitDefEqProofs (maxSteps := 6000000) (disch := (first | omega | decide)) only [go_sem, ↓reduceIte, seval, g1, g2, k1, k2, k3, k4, hd0, hd2, wrap_i64, List.length_map]
theorem fil_kid : ∀ d : Nat, d ≤ 1000 → FilH d
  | 0, _ => h_filter0
  | d + 1, h => h_filterS (by omega) (h_kids (fil_kid d (by omega)))
theorem callH_boxin {P : Program} {f : FuncId} {xs ds : List A} {r : A} {H' : List Go.Abs.Obj} (i k : Nat) (hi : ds[i]? = some (.row 1 0 k 0 false)) (h : CallH P f xs [.box ds, .row k []] r H' [1]) :
    CallH P f xs [.box (setNth ds i .nils)] r H' [] := by
  intro N φ w vs hN hrel hfree hrep
  have e1 : φ.length = 1 := hrel.len
  obtain ⟨p0, rfl⟩ := List.length_eq_one_iff.1 e1
  have hat : ∀ (m b k : Nat), [p0, Own.nil][m]? = some (Own.loc b k) → [p0][m]? = some (.loc b k) := fun m b k hm => by
    match m, hm with
    | 0, hm => exact hm
    | 1, hm => simp at hm
    | _ + 2, hm => simp at hm
  have hold : ∀ (m : Nat) (p : Own), [p0][m]? = some p → [p0, Own.nil][m]? = some p := fun m p hm => by
    match m, hm with
    | 0, hm => exact hm
    | _ + 1, hm => simp at hm
  have hext : Ext (fun _ => True) (envOf N [p0] w) (envOf N [p0, .nil] w) := {
    size := Nat.le_refl _
    blk := fun b _ hn => ⟨by
      rintro (h0 | ⟨m, k', hm⟩)
      · exact hn (.inl h0)
      · exact hn (.inr ⟨m, k', hat m b k' hm⟩), rfl⟩
    refs := fun n o _ hn _ => hold n o hn
    own := fun n b k' c e fr _ _ hc => ⟨c, fr, hc, rfl⟩ }
  have hil : i < ds.length := (List.getElem?_eq_some_iff.1 hi).1
  have hrel1 : HeapRel N [p0, .nil] [.box ds, .row k []] w := {
    len := rfl
    objs := fun n o p ho hp => by
      match n, ho, hp with
      | 0, ho, hp =>
        simp only [nthO, Option.some.injEq] at ho
        subst ho
        have hp' : p0 = p := Option.some.inj hp
        subst hp'
        have hob := hrel.objs 0 _ p0 rfl rfl
        cases p0 with
        | nil => simp [ObjRel] at hob
        | free => simp [ObjRel] at hob
        | loc b kk =>
          simp only [ObjRel] at hob ⊢
          refine ⟨hob.1, RepM_iff.2 fun j y hy => ?_⟩
          by_cases hj : j = i
          · subst hj
            rw [hi] at hy
            obtain rfl := Option.some.inj hy
            obtain ⟨u, hu, h1', hr⟩ := RepM_iff.1 hob.2 j .nils (by rw [setNth_eq, List.getElem?_set, if_pos rfl, if_pos hil])
            refine ⟨u, hu, h1', ?_⟩
            simp only [Rep] at hr
            subst hr
            simp only [Rep]
            exact .inl ⟨.nil, rfl, by simp, trivial, fun _ => trivial, none, rfl⟩
          · obtain ⟨u, hu, h1', hr⟩ := RepM_iff.1 hob.2 j y (by rw [setNth_eq, List.getElem?_set, if_neg (fun e => hj e.symm)]; exact hy)
            exact ⟨u, hu, h1', Rep.mono hext _ _ hr fun _ _ => trivial⟩
      | 1, ho, hp =>
        simp only [nthO, Option.some.injEq] at ho
        subst ho
        have hp' : Own.nil = p := Option.some.inj hp
        subst hp'
        simp [ObjRel]
      | _ + 2, ho, hp => simp [nthO] at ho
    own := fun n b k' hn => hrel.own n b k' (hat n b k' hn)
    inj := fun n m b k' k'' hn hm => hrel.inj n m b k' k'' (hat n b k' hn) (hat m b k'' hm) }
  have hfree1 : ∀ n : Nat, [p0, Own.nil][n]? ≠ some Own.free := fun n => by
    match n with
    | 0 => exact hfree 0
    | 1 => simp
    | _ + 2 => simp
  refine Calls.mono (h N [p0, .nil] w vs hN hrel1 hfree1 (RepL.mono hext _ _ hrep fun _ _ => trivial)) ?_
  rintro e w' ⟨v, φ', rfl, hv, hrel', ht, hl⟩
  refine ⟨v, φ', rfl, hv, hrel', ?_, by simp at hl ⊢; omega⟩
  exact {
    os := ht.os
    tape := ht.tape
    output := ht.output
    drawn := ht.drawn
    size := ht.size
    block := fun b hb hn => ht.block b hb fun n k' hm => hn n k' (hat n b k' hm)
    shape := ht.shape
    own := fun n b k' hn => by
      rcases ht.own n b k' hn with h0 | ⟨m, k'', hm⟩
      · exact .inl h0
      · exact .inr ⟨m, k'', hat m b k'' hm⟩
    stay := fun n p _ hp => by
      refine ht.stay n p ?_ (hold n p hp)
      have := (List.getElem?_eq_some_iff.1 hp).1
      simp at this ⊢; omega }
theorem h_filterN (s : List UInt8) (hs : s.length ≤ 1000000000) : CallH Try.prog 17 [.ref 0 0, .int .i64 32] [.box [.str s, .bool false, .nils]] (.tup []) (psO (filterP 32 ⟨s, false, []⟩)) [] :=
  callH_boxin (ds := [.str s, .bool false, .row 1 0 4 0 false]) 2 4 rfl (fil_kid 32 (by decide) ⟨s, false, []⟩ ⟨hs, by simp⟩)
noncomputable def Pn0 : Tab := F11g.addH 17 (entryH (fun v : List UInt8 => [.ref 0 0, .int .i64 32]) (fun v => [.box [.str v, .bool false, .nils]]) (fun v => v.length ≤ 1000000000) (fun v => (.tup [], psO (filterP 32 ⟨v, false, []⟩), [])))
theorem Pn0_ok : TabOK Try.prog Pn0 := F11g_ok.addH (callable_of Try.func17 (by kernel_rfl) (by kernel_rfl)) (entryH_ok fun v h => h_filterN v h)
noncomputable def Pn : Tab := { Pn0 with eff := fun f => f == 17 }
theorem Pn_ok : TabOK Try.prog Pn := ⟨Pn0_ok.f, Pn0_ok.hp⟩
@[go_sem] theorem Pn_f : Pn.f = F11g.f := rfl
@[go_sem] theorem Pn_eff {g : FuncId} : Pn.eff g = (g == 17) := rfl
@[go_sem] theorem Pn_frz {g : FuncId} : Pn.frz g = false := rfl
@[go_sem] theorem Pn_ords {n : Nat} : Pn.ords n = [] := rfl
theorem pn_filter {s : List UInt8} (h : s.length ≤ 1000000000) : Pn.hp 17 [.ref 0 0, .int .i64 32] [.box [.str s, .bool false, .nils]] = some (.tup [], psO (filterP 32 ⟨s, false, []⟩), []) := by
  have h1 : Pn0.hp 17 [.ref 0 0, .int .i64 32] [.box [.str s, .bool false, .nils]] = _ := Tab.addH_eq
  have h2 : Pn.hp 17 [.ref 0 0, .int .i64 32] [.box [.str s, .bool false, .nils]] = _ := h1
  exact h2.trans (entryH_eq (enc := fun v : List UInt8 => [.ref 0 0, .int .i64 32]) (obs := fun v => [.box [.str v, .bool false, .nils]]) (fun i j _ h' => by simpa using h') s h)
def Len (b : Nat) (p : PS) : Prop := p.s.length ≤ b ∧ ∀ n ∈ p.l, n.lo.length ≤ b ∧ n.hi.length ≤ b
theorem flat_ge11 : ∀ s : List UInt8, s.length ≤ (s.flatMap wC).length
  | [] => by simp
  | c :: s => by
    have ih := flat_ge11 s
    have : 1 ≤ (wC c).length := by unfold wC; split <;> simp
    simp only [List.flatMap_cons, List.length_append, List.length_cons]; omega
theorem read_len {w t : List UInt8} (h : readW w = some t) : t.length ≤ w.length := by
  have e := ofW_readW h
  rw [← e]
  unfold ofW
  split
  · rename_i h0; subst h0; simp
  · exact flat_ge11 t
theorem run_Len {b : Nat} {p : PS} (h : Len b p) : Len b (runP p).2 ∧ (runP p).1.length ≤ b := by
  have := congrArg List.length (runP_eq p)
  rw [List.length_append] at this
  have := h.1
  exact ⟨⟨by omega, h.2⟩, by omega⟩
theorem sign_Len {b : Nat} {p : PS} (c : UInt8) (h : Len b p) : Len b (signP c p).2 := by
  refine ⟨Nat.le_trans (sign_shr c p).1 h.1, ?_⟩
  have e : (signP c p).2.l = p.l := by
    unfold signP
    split
    · rfl
    · split
      · rfl
      · split <;> rfl
  rw [e]; exact h.2
theorem must_Len {b : Nat} {p : PS} (c : UInt8) (h : Len b p) : Len b (mustP c p) := by
  unfold mustP
  split
  · exact sign_Len c h
  · exact h
theorem text_Len {b : Nat} {p : PS} (h : Len b p) : Len b (textP p).2 ∧ (textP p).1.length ≤ b := by
  obtain ⟨h1, h2⟩ := run_Len h
  unfold textP
  cases hr : readW (runP p).1 with
  | some t => exact ⟨h1, Nat.le_trans (read_len hr) h2⟩
  | none => exact ⟨h1, by simp⟩
theorem put_Len {b : Nat} {n : Nd} {p : PS} (h : Len b p) (hn : n.lo.length ≤ b ∧ n.hi.length ≤ b) : Len b (putP n p) := by
  unfold putP
  split
  · exact h
  · refine ⟨h.1, fun m hm => ?_⟩
    rcases List.mem_append.1 hm with hm | hm
    · exact h.2 m hm
    · simp only [List.mem_cons, List.not_mem_nil, or_false] at hm
      subst hm; exact hn
theorem kids_Len {b : Nat} {f : PS → PS} (hf : ∀ p, Len b p → Len b (f p)) : ∀ (m k : Nat) (p : PS), Len b p → Len b (kidsP f m k p).2
  | 0, k, p, h => h
  | m + 1, k, p, h => by
    rw [kidsP]
    split
    · exact hf p h
    split
    · exact kids_Len hf m _ _ (sign_Len 44 (hf p h))
    · exact sign_Len 44 (hf p h)
theorem args_Len {b : Nat} {K : PS → Nat × PS} (hK : ∀ p, Len b p → Len b (K p).2) (o : Int) {p : PS} (h : Len b p) : Len b (argsP K o p).2 ∧ (argsP K o p).1.lo.length ≤ b ∧ (argsP K o p).1.hi.length ≤ b := by
  unfold argsP
  split
  · exact ⟨(text_Len h).1, (text_Len h).2, by simp⟩
  split
  · exact ⟨(text_Len (must_Len 44 (text_Len h).1)).1, (text_Len h).2, (text_Len (must_Len 44 (text_Len h).1)).2⟩
  split
  · exact ⟨hK p h, by simp, by simp⟩
  · exact ⟨h, by simp, by simp⟩
theorem behind_Len {b : Nat} {K : PS → Nat × PS} (hK : ∀ p, Len b p → Len b (K p).2) (o : Int) {p : PS} (h : Len b p) : Len b (behindP K o p) := by
  unfold behindP
  split
  · obtain ⟨h1, h2⟩ := args_Len hK o (must_Len 40 h)
    exact put_Len (must_Len 41 h1) h2
  · obtain ⟨h1, h2⟩ := args_Len hK o h
    exact put_Len h1 h2
theorem filter_Len {b : Nat} : ∀ (d : Nat) (p : PS), Len b p → Len b (filterP d p)
  | 0, p, h => (run_Len h).1
  | d + 1, p, h => by
    rw [filterP]
    split
    · exact (run_Len h).1
    · exact behind_Len (fun q hq => kids_Len (fun p hp => filter_Len d p hp) _ _ _ hq) _ (run_Len h).1
def parseA (s : List UInt8) : A := match parseF s with | some l => .tup [.slc (l.map Nd.enc), .int .i64 0] | none => .tup [.slc [], .int .i64 11]
theorem ok_ftext_Parse : codeOK Try.prog Pn Try.f9.ntmps (Try.f9.body.getD .skip) = true := by kernel_rfl
theorem c_ftext_Parse (s : List UInt8) (hs : s.length ≤ 1000000000) : CallA Try.prog 9 [.str s] (· = parseA s) := by
  refine callA_of_body Pn_ok mixed Try.func9 rfl (Nat.le_of_ble_eq_true rfl) ok_ftext_Parse ?_
  unfold Try.f9
  have g := pn_filter hs
  have hl := (filter_shr 32 ⟨s, false, []⟩).2 (by simp)
  have hL := filter_Len (b := 1000000000) 32 ⟨s, false, []⟩ ⟨hs, by simp⟩
  unfold parseA parseF
  generalize filterP 32 ⟨s, false, []⟩ = q at *
  obtain ⟨r, b, l⟩ := q
  simp only at hl hL ⊢
  have hR := f_Right (l := l) ⟨by omega, fun n hn => ⟨by have := (hL.2 n hn).1; omega, by have := (hL.2 n hn).2; omega⟩⟩
  have tl : (l.map Nd.enc).take l.length = l.map Nd.enc := List.take_of_length_le (by simp)
  unfold psO at g
  simp only at g
  cases b with
  | true =>
    rw [if_pos (.inl rfl)]
    simp -implicitDefEqProofs (disch := (first | omega | decide)) only [go_sem, ↓reduceIte, seval, g]
  | false =>
    cases r with
    | cons c r =>
      rw [if_pos (.inr (.inl (by simp)))]
      have e0 : ((c :: r) == ([] : List UInt8)) = false := rfl
      simp -implicitDefEqProofs (disch := (first | omega | decide)) only [go_sem, ↓reduceIte, seval, g, e0]
    | nil =>
      cases hr : rightF l with
      | false =>
        rw [hr] at hR
        rw [if_pos (.inr (.inr rfl))]
        simp -implicitDefEqProofs (disch := (first | omega | decide)) only [go_sem, ↓reduceIte, seval, g, hR, tl, List.length_map]
        exact Nat.le_refl _
      | true =>
        rw [hr] at hR
        rw [if_neg (by simp)]
        simp -implicitDefEqProofs (disch := (first | omega | decide)) only [go_sem, ↓reduceIte, seval, g, hR, tl, List.length_map]
        exact Nat.le_refl _
end Go.Proofs.Ythiedimbmcgpdaa
namespace Go.Proofs.Ythiedimbmcgpdaa
open Go.Abs
set_option linter.unusedSimpArgs false
set_option linter.unusedVariables false
set_option maxRecDepth 20000
set_option maxHeartbeats 8000000
theorem ofW_len11 (s : List UInt8) : (ofW s).length ≤ 3 * s.length + 1 := by
  have h2 := flat_len s
  unfold ofW
  split
  · rename_i h; subst h; simp
  · omega
theorem okN_len {n : Nd} (h : okN n = true) : n.lo.length ≤ 17 ∧ n.hi.length ≤ 17 := by
  unfold okN at h
  repeat' split at h
  all_goals simp only [Bool.and_eq_true, Bool.or_eq_true, beq_iff_eq, decide_eq_true_eq, Bool.not_eq_true', beq_eq_false_iff_ne, ne_eq, Bool.false_eq_true] at *
  · rw [h.1.2, h.2]; simp
  · rw [h.2]; simp; omega
  · obtain ⟨_, h⟩ := h
    unfold rightR at h
    simp only [Bool.and_eq_true, decide_eq_true_eq] at h
    exact h.1
  · rw [h.2]; simp; omega
  · rename_i g
    simp only [not_or, Classical.not_not] at g
    rw [g.1, g.2]; simp
def totT (ts : List (List UInt8)) : Nat := (ts.map fun t => t.length + 1).sum
theorem tot_append (a b : List (List UInt8)) : totT (a ++ b) = totT a + totT b := by simp [totT]
theorem joinC_tot (ts : List (List UInt8)) : (joinC ts).length ≤ totT ts := by
  cases ts with
  | nil => simp [joinC, totT]
  | cons x r =>
    have : (r.flatMap (44 :: ·)).length = totT r := by
      induction r with
      | nil => rfl
      | cons y r ih => simp only [List.flatMap_cons, List.length_append, List.length_cons, ih, totT, List.map_cons, List.sum_cons]
    simp only [joinC, List.length_append, this, totT, List.map_cons, List.sum_cons]
    unfold totT at *; omega
theorem name_len (o : Int) : (nameT o).length ≤ 6 := by
  unfold nameT
  repeat' split
  all_goals decide
theorem txt_len {n : Nd} (h : okN n = true) (ts : List (List UInt8)) : (txtN n ts).length ≤ totT ts + 200 := by
  obtain ⟨h1, h2⟩ := okN_len h
  have a1 := ofW_len11 n.lo
  have a2 := ofW_len11 n.hi
  have a3 := joinC_tot ts
  have a4 := name_len n.op
  unfold txtN
  repeat' split
  all_goals (try simp only [List.length_append, List.length_cons, List.length_nil])
  all_goals omega
theorem run_tot : ∀ {l : List Nd} {st s : List (List UInt8)}, runT st l = some s → totT s ≤ totT st + 201 * l.length
  | [], st, s, h => by
    simp only [runT, Option.some.injEq] at h
    subst h; simp
  | n :: l, st, s, h => by
    have h : (stepT st n).bind (fun s => runT s l) = some s := h
    cases h1 : stepT st n with
    | none => rw [h1] at h; cases h
    | some s1 =>
      rw [h1] at h
      have ih := run_tot (l := l) (st := s1) (s := s) h
      unfold stepT at h1
      split at h1
      case isTrue g =>
        simp only [Option.some.injEq] at h1
        subst h1
        have ht := txt_len g.1 (st.drop (st.length - kN n))
        have e : totT st = totT (st.take (st.length - kN n)) + totT (st.drop (st.length - kN n)) := by rw [← tot_append, List.take_append_drop]
        rw [tot_append] at ih
        have e1 : totT [txtN n (st.drop (st.length - kN n))] = (txtN n (st.drop (st.length - kN n))).length + 1 := by simp [totT]
        rw [e1] at ih
        simp only [List.length_cons]
        omega
      case isFalse => cases h1
theorem runT_len : ∀ {l : List Nd} {st s : List (List UInt8)}, runT st l = some s → s.length ≤ st.length + l.length
  | [], st, s, h => by
    simp only [runT, Option.some.injEq] at h
    subst h; simp
  | n :: l, st, s, h => by
    have h : (stepT st n).bind (fun s => runT s l) = some s := h
    cases h1 : stepT st n with
    | none => rw [h1] at h; cases h
    | some s1 =>
      rw [h1] at h
      have ih := runT_len (l := l) (st := s1) (s := s) h
      unfold stepT at h1
      split at h1
      case isTrue g =>
        simp only [Option.some.injEq] at h1
        subst h1
        simp only [List.length_append, List.length_take, List.length_cons, List.length_nil] at ih ⊢
        omega
      case isFalse => cases h1
theorem runT_take_succ {l : List Nd} {k : Nat} (hk : k < l.length) (st : List (List UInt8)) : runT st (l.take (k + 1)) = (runT st (l.take k)).bind fun s => stepT s l[k] := by
  rw [← List.take_append_getElem hk, runT_snoc]
theorem runT_at {l : List Nd} {k : Nat} (hk : k < l.length) {s : List (List UInt8)} (h : runT [] l = some s) : ∃ t, runT [] (l.take k) = some t ∧ okN l[k] = true ∧ kN l[k] ≤ t.length ∧ runT [] (l.take (k + 1)) = some (t.take (t.length - kN l[k]) ++ [txtN l[k] (t.drop (t.length - kN l[k]))]) := by
  have h0 := h
  rw [← List.take_append_drop (k + 1) l, runT_append] at h
  cases h1 : runT [] (l.take (k + 1)) with
  | none => rw [h1] at h; cases h
  | some u =>
    have h2 := runT_take_succ hk []
    rw [h1] at h2
    cases h3 : runT [] (l.take k) with
    | none => rw [h3] at h2; cases h2
    | some t =>
      rw [h3] at h2
      have h2 : some u = stepT t l[k] := h2
      unfold stepT at h2
      split at h2
      case isTrue g => exact ⟨t, rfl, g.1, g.2, h2⟩
      case isFalse => cases h2
def textA11 (l : List Nd) : A := if rightF l = true then .tup [.str (textF l), .int .i64 0] else .tup [.str [], .int .i64 2]
section
variable {V W : Type} {st : List V} {f : V → W} {x : V} {m : Nat}
theorem row_snoc11 : (st ++ [x]).map f = st.map f ++ [f x] := by rw [List.map_append]; rfl
theorem row_take11 : ((st.map f).take m) = (st.take m).map f := List.map_take.symm
theorem row_drop11 : ((st.map f).drop m) = (st.drop m).map f := List.map_drop.symm
end
theorem ok_ftext_Text : codeOK Try.prog F11g Try.f7.ntmps (Try.f7.body.getD .skip) = true := by kernel_rfl
theorem c_ftext_Text (l : List Nd) (h : l.length ≤ 4611686018427387904) (ho : okF l) : CallA Try.prog 7 [.slc (l.map Nd.enc)] (· = textA11 l) := by
  refine callA_of_body F11g_ok mixed Try.func7 rfl (Nat.le_of_ble_eq_true rfl) ok_ftext_Text ?_
  unfold Try.f7
  have hR := f_Right (l := l) ⟨h, ho⟩
  unfold textA11
  cases hr : rightF l with
  | false =>
    rw [hr] at hR
    simp -implicitDefEqProofs (disch := (first | omega | decide)) only [go_sem, ↓reduceIte, seval, hR, List.length_map]
  | true =>
    rw [hr] at hR
    obtain ⟨h32, hok, hrun, _⟩ := right_text hr
    simp -implicitDefEqProofs (disch := (first | omega | decide)) only [go_sem, ↓reduceIte, seval, hR, List.length_map]
    refine wpA_loop_nil 4 1 rfl ?_
    refine wpA_loop [12, 13] (ι := {p : Nat × List (List UInt8) // p.1 ≤ l.length ∧ runT [] (l.take p.1) = some p.2}) (fun p => [(14, .int .i64 p.1.1), (4, .row 0 0 1 p.1.2.length false)]) (fun p => [(0, .row 1 (p.1.2.map .str))]) (fun p => l.length - p.1.1) ⟨(0, []), by omega, rfl⟩ (Nat.zero_le _) ?_ ?_
    · simp -implicitDefEqProofs (disch := (first | omega | decide)) only [go_sem, ↓reduceIte, seval]
    · rintro ⟨⟨k, st⟩, hk, hd⟩
      simp only at hk hd ⊢
      have hsl := runT_len hd
      have htot := run_tot hd
      rw [List.length_nil, List.length_take] at hsl
      rw [List.length_take] at htot
      by_cases hlt : k < l.length
      · have hlt' : (k : Int) < (l.length : Int) := by omega
        have e1 := nd_get hlt
        obtain ⟨t, q1, g1, g2, q2⟩ := runT_at hlt hrun
        rw [hd] at q1
        obtain rfl := Option.some.inj q1
        obtain ⟨k1, k2⟩ := okN_kids g1
        obtain ⟨l1, l2⟩ := okN_len g1
        obtain ⟨p1, p2, p3, p4, _, _⟩ := okN_op g1
        generalize l[k] = x at *
        obtain ⟨op, kids, lo, hi⟩ := x
        simp only at e1 k1 l1 l2 p1 p2 p3 p4
        have hn := t11_name op
        have w1 := t11_Of (s := lo) (by omega)
        have w2 := t11_Of (s := hi) (by omega)
        by_cases c35 : op = 3 ∨ op = 5
        · have k0 := p3 (by omega)
          have hx : txtN ⟨op, kids, lo, hi⟩ (st.drop (st.length - kN ⟨op, kids, lo, hi⟩)) = nameT op ++ (40 :: ofW lo ++ [41]) := by
            unfold txtN; rw [if_pos c35]
          subst k0
          have hk0 : kN ⟨op, 0, lo, hi⟩ = 0 := rfl
          rw [hx, hk0, Nat.sub_zero, List.take_length] at q2
          have b1 := name_len op
          have b2 := ofW_len11 lo
          generalize nameT op = nm at *
          generalize ofW lo = L at *
          have nx : ∃ j : {p : Nat × List (List UInt8) // p.1 ≤ l.length ∧ runT [] (l.take p.1) = some p.2}, (((k : Int) + 1 = (j.1.1 : Int) ∧ st.length + 1 = j.1.2.length) ∧ List.take st.length (List.map A.str st) ++ [A.str (nm ++ 40 :: (L ++ [41]))] = List.map A.str j.1.2) ∧ l.length - j.1.1 < l.length - k :=
            ⟨⟨(k + 1, _), hlt, q2⟩, ⟨⟨by simp, by simp⟩, by rw [row_snoc11, List.take_of_length_le (by simp)]; rfl⟩, by show l.length - (k + 1) < l.length - k; omega⟩
          rcases c35 with rfl | rfl
          · simp -implicitDefEqProofs (maxSteps := 600000) (disch := (first | omega | decide)) only [go_sem, ↓reduceIte, seval, hlt', e1, hn, w1, wrap_i64, List.length_map]
            exact ⟨by omega, by omega, by simp only [List.length_append, List.length_cons, List.length_nil]; omega, ⟨Nat.le_refl _, by omega⟩, nx⟩
          · simp -implicitDefEqProofs (maxSteps := 600000) (disch := (first | omega | decide)) only [go_sem, ↓reduceIte, seval, hlt', e1, hn, w1, wrap_i64, List.length_map]
            exact ⟨by omega, by omega, by simp only [List.length_append, List.length_cons, List.length_nil]; omega, ⟨Nat.le_refl _, by omega⟩, nx⟩
        by_cases c4 : op = 4
        · have k0 := p3 (by omega)
          have hx : txtN ⟨op, kids, lo, hi⟩ (st.drop (st.length - kN ⟨op, kids, lo, hi⟩)) = nameT op ++ (40 :: ofW lo ++ 44 :: ofW hi ++ [41]) := by
            unfold txtN; rw [if_neg c35, if_pos c4]
          subst k0
          have hk0 : kN ⟨op, 0, lo, hi⟩ = 0 := rfl
          rw [hx, hk0, Nat.sub_zero, List.take_length] at q2
          have b1 := name_len op
          have b2 := ofW_len11 lo
          have b3 := ofW_len11 hi
          generalize nameT op = nm at *
          generalize ofW lo = L at *
          generalize ofW hi = R at *
          subst c4
          simp -implicitDefEqProofs (maxSteps := 600000) (disch := (first | omega | decide)) only [go_sem, ↓reduceIte, seval, hlt', e1, hn, w1, w2, wrap_i64, List.length_map]
          refine ⟨by omega, by omega, ?_, ?_, ?_, ⟨Nat.le_refl _, by omega⟩, ⟨(k + 1, _), hlt, q2⟩, ⟨⟨by simp, by simp⟩, ?_⟩, by show l.length - (k + 1) < l.length - k; omega⟩
          · simp only [List.length_append, List.length_cons, List.length_nil]; omega
          · simp only [List.length_append, List.length_cons, List.length_nil]; omega
          · simp only [List.length_append, List.length_cons, List.length_nil]; omega
          · rw [row_snoc11, List.take_of_length_le (by simp)]
            simp
        by_cases c6 : 6 ≤ op
        · have hx : txtN ⟨op, kids, lo, hi⟩ (st.drop (st.length - kN ⟨op, kids, lo, hi⟩)) = nameT op ++ (40 :: joinC (st.drop (st.length - kN ⟨op, kids, lo, hi⟩)) ++ [41]) := by
            unfold txtN; rw [if_neg c35, if_neg c4, if_pos ⟨c6, p2⟩]
          rw [hx] at q2
          clear hx
          generalize hkn : kN ⟨op, kids, lo, hi⟩ = kn at *
          subst k1
          have b1 := name_len op
          have b4 := joinC_tot (st.drop (st.length - kn))
          have b5 : totT (st.drop (st.length - kn)) ≤ totT st := by
            have : totT st = totT (st.take (st.length - kn)) + totT (st.drop (st.length - kn)) := by rw [← tot_append, List.take_append_drop]
            omega
          have b6 : totT [] = 0 := rfl
          have hj := t11_join (l := st.drop (st.length - kn)) (by rw [List.length_drop]; omega) (by omega)
          generalize hJ : joinC (st.drop (st.length - kn)) = J at *
          generalize nameT op = nm at *
          have c4' : ((st.length : Int) - ((st.length : Int) - (kn : Int))).toNat = kn := by omega
          have c5 : ((st.length : Int) - (kn : Int) - 0).toNat = st.length - kn := by omega
          have c6' : (st.drop (st.length - kn)).take kn = st.drop (st.length - kn) := List.take_of_length_le (by rw [List.length_drop]; omega)
          have c1 : ((st.length : Int) - (kn : Int)).toNat = st.length - kn := by omega
          have c2 : (0 : Int) ≤ (st.length : Int) - (kn : Int) := by omega
          have c3 : (st.length : Int) - (kn : Int) ≤ (st.length : Int) := by omega
          have ho : op = 6 ∨ op = 7 ∨ op = 8 := by omega
          have nx : ∃ j : {p : Nat × List (List UInt8) // p.1 ≤ l.length ∧ runT [] (l.take p.1) = some p.2}, (((k : Int) + 1 = (j.1.1 : Int) ∧ st.length - kn + 1 = j.1.2.length) ∧ List.map A.str (List.take (st.length - kn) st) ++ [A.str (nm ++ 40 :: (J ++ [41]))] = List.map A.str j.1.2) ∧ l.length - j.1.1 < l.length - k :=
            ⟨⟨(k + 1, _), hlt, q2⟩, ⟨⟨by simp, by simp only [List.length_append, List.length_take, List.length_cons, List.length_nil]; omega⟩, by rw [row_snoc11]; rfl⟩, by show l.length - (k + 1) < l.length - k; omega⟩
          have hJl : J.length ≤ 100000 := by omega
          rcases ho with rfl | rfl | rfl
          · simp -implicitDefEqProofs (maxSteps := 600000) (disch := (first | omega | decide)) only [go_sem, ↓reduceIte, seval, hlt', e1, hn, hj, c1, c2, c3, c4', c5, c6', row_drop11, row_take11, wrap_i64, List.length_map]
            exact ⟨Int.le_refl _, by omega, by omega, by omega, by simp only [List.length_append, List.length_cons, List.length_nil]; omega, ⟨by omega, by omega⟩, nx⟩
          · simp -implicitDefEqProofs (maxSteps := 600000) (disch := (first | omega | decide)) only [go_sem, ↓reduceIte, seval, hlt', e1, hn, hj, c1, c2, c3, c4', c5, c6', row_drop11, row_take11, wrap_i64, List.length_map]
            exact ⟨Int.le_refl _, by omega, by omega, by omega, by simp only [List.length_append, List.length_cons, List.length_nil]; omega, ⟨by omega, by omega⟩, nx⟩
          · simp -implicitDefEqProofs (maxSteps := 600000) (disch := (first | omega | decide)) only [go_sem, ↓reduceIte, seval, hlt', e1, hn, hj, c1, c2, c3, c4', c5, c6', row_drop11, row_take11, wrap_i64, List.length_map]
            exact ⟨Int.le_refl _, by omega, by omega, by omega, by simp only [List.length_append, List.length_cons, List.length_nil]; omega, ⟨by omega, by omega⟩, nx⟩
        · have k0 := p3 (by omega)
          have hx : txtN ⟨op, kids, lo, hi⟩ (st.drop (st.length - kN ⟨op, kids, lo, hi⟩)) = nameT op := by
            unfold txtN; rw [if_neg c35, if_neg c4, if_neg (fun h => c6 h.1)]
          subst k0
          have hk0 : kN ⟨op, 0, lo, hi⟩ = 0 := rfl
          rw [hx, hk0, Nat.sub_zero, List.take_length] at q2
          generalize nameT op = nm at *
          have ho : op = 1 ∨ op = 2 := by omega
          have nx : ∃ j : {p : Nat × List (List UInt8) // p.1 ≤ l.length ∧ runT [] (l.take p.1) = some p.2}, (((k : Int) + 1 = (j.1.1 : Int) ∧ st.length + 1 = j.1.2.length) ∧ List.take st.length (List.map A.str st) ++ [A.str nm] = List.map A.str j.1.2) ∧ l.length - j.1.1 < l.length - k :=
            ⟨⟨(k + 1, _), hlt, q2⟩, ⟨⟨by simp, by simp⟩, by rw [row_snoc11, List.take_of_length_le (by simp)]⟩, by show l.length - (k + 1) < l.length - k; omega⟩
          rcases ho with rfl | rfl
          · simp -implicitDefEqProofs (maxSteps := 600000) (disch := (first | omega | decide)) only [go_sem, ↓reduceIte, seval, hlt', e1, hn, wrap_i64, List.length_map]
            exact ⟨⟨Nat.le_refl _, by omega⟩, nx⟩
          · simp -implicitDefEqProofs (maxSteps := 600000) (disch := (first | omega | decide)) only [go_sem, ↓reduceIte, seval, hlt', e1, hn, wrap_i64, List.length_map]
            exact ⟨⟨Nat.le_refl _, by omega⟩, nx⟩
      · have hlt' : ¬ (k : Int) < (l.length : Int) := by omega
        rw [List.take_of_length_le (by omega), hrun] at hd
        obtain rfl := Option.some.inj hd
        simp -implicitDefEqProofs (disch := (first | omega | decide)) only [go_sem, ↓reduceIte, seval, hlt', List.length_map]
end Go.Proofs.Ythiedimbmcgpdaa
namespace Go.Proofs.Ythiedimbmcgpdaa
open Go.Abs
set_option linter.unusedSimpArgs false
set_option linter.unusedVariables false
set_option maxRecDepth 20000
set_option maxHeartbeats 8000000
theorem run_skipT : ∀ (r : List Nd) (st : List (List UInt8)), runT [] r.reverse = some st → ∀ c, c ≤ st.length → ∃ p q, r.reverse = p ++ q ∧ skip c r = some p.reverse ∧ runT [] p = some (st.take (st.length - c))
  | r, st, h, 0, _ => ⟨r.reverse, [], by simp, by simp [skip], by rw [h]; simp⟩
  | [], st, h, c + 1, hc => by
    have h : some [] = some st := h
    obtain rfl := Option.some.inj h
    simp at hc
  | n :: r, st, h, c + 1, hc => by
    rw [List.reverse_cons, runT_snoc] at h
    cases h1 : runT [] r.reverse with
    | none => rw [h1] at h; cases h
    | some t =>
      rw [h1] at h
      have h : stepT t n = some st := h
      unfold stepT at h
      split at h
      · rename_i hn
        obtain rfl := Option.some.inj h
        simp only [List.length_append, List.length_take, List.length_cons, List.length_nil] at hc
        obtain ⟨p, q, h2, h3, h4⟩ := run_skipT r t h1 (c + kN n) (by omega)
        refine ⟨p, q ++ [n], by rw [List.reverse_cons, h2, List.append_assoc], by simp only [skip]; rw [if_pos hn.1, h3], ?_⟩
        rw [h4]
        congr 1
        simp only [List.length_append, List.length_take, List.length_cons, List.length_nil]
        rw [List.take_append_of_le_length (by rw [List.length_take]; omega), List.take_take]
        congr 1
        omega
      · cases h
theorem beg_stepT {l : List Nd} {b : Nat} {st : List (List UInt8)} (hb : b ≤ l.length) (h : runT [] (l.take b) = some st) (hne : st ≠ []) :
    ∃ p : Nat, begI l ((b : Int) - 1) = (p : Int) ∧ p < b ∧ runT [] (l.take p) = some (st.take (st.length - 1)) := by
  have hb0 : b ≠ 0 := by
    rintro rfl
    simp [runT] at h
    exact hne h
  have hl1 : 1 ≤ st.length := by
    cases st with
    | nil => exact absurd rfl hne
    | cons _ _ => simp
  obtain ⟨p, q, h3, h4, h5⟩ := run_skipT (l.take b).reverse st (by rw [List.reverse_reverse]; exact h) 1 hl1
  rw [List.reverse_reverse] at h3
  have hp : p = l.take p.length := by
    have : p <+: l.take b := ⟨q, h3.symm⟩
    have := this.trans (List.take_prefix b l)
    exact List.prefix_iff_eq_take.1 this
  have hlen := congrArg List.length h3
  rw [List.length_append, List.length_take] at hlen
  refine ⟨p.length, ?_, ?_, ?_⟩
  · unfold begI
    rw [if_neg (by omega)]
    have e : ((b : Int) - 1).toNat + 1 = b := by omega
    rw [e, h4]
    simp
  · by_cases hq : q = []
    · exfalso
      subst hq
      rw [List.append_nil] at h3
      rw [← h3, h] at h5
      have := congrArg List.length (Option.some.inj h5)
      simp at this
      omega
    · have : 0 < q.length := List.length_pos_iff.2 hq
      omega
  · rw [← hp]; exact h5
def lastT (l : List Nd) : List UInt8 := match runT [] l with | some st => st.getLast?.getD [] | none => []
theorem lastT_of {l : List Nd} {st : List (List UInt8)} {v : List UInt8} (h : runT [] l = some st) (h1 : st.getLast? = some v) : lastT l = v := by
  unfold lastT; rw [h]; simp only [h1]; rfl
def partOK (b : Int) (v : List Nd × Int) : Prop := v.1.length ≤ 1000 ∧ okF v.1 ∧ (∃ s, runT [] v.1 = some s) ∧ 0 ≤ v.2 ∧ v.2 < (v.1.length : Int) ∧ v.2 < b
noncomputable def GT (b : Int) : Tab := F11g.add 18 (entry (fun (v : List Nd × Int) => [.slc (v.1.map Nd.enc), .int .i64 v.2]) (partOK b) (fun v => .str (lastT (v.1.take (v.2.toNat + 1)))))
@[go_sem] theorem GT_old {b : Int} {g : FuncId} {xs : List A} (h : g ≠ 18) : (GT b).f g xs = F11g.f g xs := Tab.add_ne h
@[go_sem] theorem GT_eff {b : Int} {g : FuncId} : (GT b).eff g = false := rfl
@[go_sem] theorem GT_ords {b : Int} {n : Nat} : (GT b).ords n = [] := rfl
theorem GT_Part {b : Int} {l : List Nd} {a : Int} (h : partOK b (l, a)) : (GT b).f 18 [.slc (l.map Nd.enc), .int .i64 a] = some (.str (lastT (l.take (a.toNat + 1)))) :=
  (Tab.add_eq : (GT b).f 18 [.slc (l.map Nd.enc), .int .i64 a] = _).trans (entry_eq (enc := fun (v : List Nd × Int) => [.slc (v.1.map Nd.enc), .int .i64 v.2]) begE_inj (l, a) h)
theorem ok_Part (b : Int) : codeOK Try.prog (GT b) Try.f18.ntmps (Try.f18.body.getD .skip) = true := by kernel_rfl
theorem joinC_cons {x : List UInt8} {r : List (List UInt8)} (h : r ≠ []) : joinC (x :: r) = x ++ 44 :: joinC r := by
  cases r with
  | nil => exact absurd rfl h
  | cons y r => simp [joinC]
theorem c_ref11_Part : ∀ (b : Nat) (l : List Nd) (a : Int), partOK (b : Int) (l, a) → CallA Try.prog 18 [.slc (l.map Nd.enc), .int .i64 a] (· = .str (lastT (l.take (a.toNat + 1))))
  | 0, l, a, h => by
    exfalso
    obtain ⟨_, _, _, h4, _, h5⟩ := h
    simp only at h4 h5; omega
  | b + 1, l, a, h => by
    have hT : TabOK Try.prog (GT (b : Int)) := F11g_ok.add (callable_of Try.func18 (by kernel_rfl) (by kernel_rfl)) (entry_ok fun v hv => c_ref11_Part b v.1 v.2 hv)
    refine callA_of_body hT mixed Try.func18 rfl (Nat.le_of_ble_eq_true rfl) (ok_Part _) ?_
    unfold Try.f18
    obtain ⟨h1, h2, ⟨st, hst⟩, h3, h4, h6⟩ := h
    simp only at h1 h2 hst h3 h4 h6
    obtain ⟨k, rfl⟩ : ∃ k : Nat, a = (k : Int) := ⟨a.toNat, by omega⟩
    have hk : k < l.length := by omega
    have hk' : (k : Int) < (l.length : Int) := by omega
    obtain ⟨t, ht, g1, g2, g3⟩ := runT_at hk hst
    have e1 := nd_get hk
    obtain ⟨n1, n2⟩ := h2 _ (List.getElem_mem hk)
    have hkid := okN_kids g1
    have htl := runT_len ht
    have htot := run_tot ht
    rw [List.length_nil, List.length_take] at htl
    rw [List.length_take] at htot
    have tot0 : totT [] = 0 := rfl
    have hres : lastT (l.take (k + 1)) = txtN l[k] (t.drop (t.length - kN l[k])) := lastT_of g3 (by simp)
    rw [show (k : Int).toNat = k by omega, hres]
    clear hres g3
    have hIn : ∀ f j : Nat, f ≤ k → j < t.length → runT [] (l.take f) = some (t.take (t.length - j)) → (GT (b : Int)).f 18 [.slc (l.map Nd.enc), .int .i64 ((f : Int) - 1)] = some (.str (t[t.length - (j + 1)]!)) := fun f j hf hj hr => by
      have f0 : f ≠ 0 := by
        rintro rfl
        have hr : some [] = some (t.take (t.length - j)) := hr
        have := congrArg List.length (Option.some.inj hr)
        simp at this; omega
      have := GT_Part (b := (b : Int)) (l := l) (a := (f : Int) - 1) ⟨h1, h2, ⟨st, hst⟩, by simp only; omega, by simp only; omega, by simp only; omega⟩
      rw [this, show ((f : Int) - 1).toNat + 1 = f by omega, lastT_of hr (last_take hj), getElem!_pos t _ (by omega)]
    obtain ⟨l1, l2⟩ := okN_len g1
    obtain ⟨p1, p2, p3, p4, _, _⟩ := okN_op g1
    have tl : ∀ j : Nat, totT (t.drop j) ≤ totT t := fun j => by
      have : totT t = totT (t.take j) + totT (t.drop j) := by rw [← tot_append, List.take_append_drop]
      omega
    have jl : ∀ j : Nat, (joinC (t.drop j)).length ≤ 300000 := fun j => by
      have := joinC_tot (t.drop j)
      have := tl j
      omega
    generalize hx : l[k] = x at *
    obtain ⟨op, kids, lo, hi⟩ := x
    simp only at n1 n2 hkid l1 l2 p1 p2 p3 p4 e1
    have w1 := t11_rOf (s := lo) (by omega)
    have w2 := t11_rOf (s := hi) (by omega)
    have b2 := ofW_len11 lo
    have b3 := ofW_len11 hi
    have tx : txtN ⟨op, kids, lo, hi⟩ (t.drop (t.length - kN ⟨op, kids, lo, hi⟩)) = if op = 3 ∨ op = 5 then nameT op ++ (40 :: ofW lo ++ [41]) else if op = 4 then nameT op ++ (40 :: ofW lo ++ 44 :: ofW hi ++ [41]) else if 6 ≤ op ∧ op ≤ 8 then nameT op ++ (40 :: joinC (t.drop (t.length - kN ⟨op, kids, lo, hi⟩)) ++ [41]) else nameT op := rfl
    rw [tx]
    clear tx
    generalize ofW lo = L at *
    generalize ofW hi = R at *
    have hop : op = 1 ∨ op = 2 ∨ op = 3 ∨ op = 4 ∨ op = 5 ∨ op = 6 ∨ 7 ≤ op := by omega
    rcases hop with rfl | rfl | rfl | rfl | rfl | rfl | h7
    · simp -implicitDefEqProofs (disch := (first | omega | decide)) only [go_sem, ↓reduceIte, seval, hk', e1, List.length_map]
      rfl
    · simp -implicitDefEqProofs (disch := (first | omega | decide)) only [go_sem, ↓reduceIte, seval, hk', e1, List.length_map]
      rfl
    · simp -implicitDefEqProofs (disch := (first | omega | decide)) only [go_sem, ↓reduceIte, seval, hk', e1, w1, List.length_map]
      exact ⟨by omega, by omega, rfl⟩
    · simp -implicitDefEqProofs (maxSteps := 600000) (disch := (first | omega | decide)) only [go_sem, ↓reduceIte, seval, hk', e1, w1, w2, List.length_map]
      exact ⟨by omega, by omega, by simp only [List.length_append, List.length_cons, List.length_nil]; omega, by simp only [List.length_append, List.length_cons, List.length_nil]; omega, by simp [nameT, rangeT]⟩
    · simp -implicitDefEqProofs (disch := (first | omega | decide)) only [go_sem, ↓reduceIte, seval, hk', e1, w1, List.length_map]
      exact ⟨by omega, by omega, rfl⟩
    · have hk1 : kN ⟨6, kids, lo, hi⟩ = 1 := by
        unfold okN at g1
        simp at g1
        unfold kN; simp only; omega
      rw [hk1] at g2 ⊢
      have hv := vs_step (t := t) (i := 0) (by omega)
      have hi' := hIn k 0 (Nat.le_refl _) (by omega) (by rw [ht]; simp)
      rw [getElem!_pos t _ (by omega)] at hi'
      simp only [Nat.zero_add, Nat.sub_zero, List.drop_length] at hv hi'
      have jl1 := jl (t.length - 1)
      rw [hv] at jl1 ⊢
      have e6 : joinC [t[t.length - 1]] = t[t.length - 1] := by simp [joinC]
      rw [e6] at jl1 ⊢
      generalize t[t.length - 1] = W at *
      simp -implicitDefEqProofs (disch := (first | omega | decide)) only [go_sem, ↓reduceIte, seval, hk', e1, hi', wrap_i64, List.length_map]
      exact ⟨by omega, by omega, rfl⟩
    · have o1 : (op == 1) = false := by simp; omega
      have o2 : (op == 2) = false := by simp; omega
      have o3 : (op == 3) = false := by simp; omega
      have o4 : (op == 4) = false := by simp; omega
      have o5 : (op == 5) = false := by simp; omega
      have o6 : (op == 6) = false := by simp; omega
      rw [if_neg (by omega), if_neg (by omega), if_pos (by omega)]
      generalize hkn : kN ⟨op, kids, lo, hi⟩ = kn at *
      obtain ⟨rfl, hk32⟩ := hkid
      simp -implicitDefEqProofs (disch := (first | omega | decide)) only [go_sem, ↓reduceIte, seval, hk', e1, o1, o2, o3, o4, o5, o6, List.length_map]
      refine wpA_loop [0, 1, 5] (ι := {p : Nat × Nat // p.1 ≤ kn ∧ p.2 ≤ k ∧ runT [] (l.take p.2) = some (t.take (t.length - p.1))}) (fun p => [(8, .int .i64 p.1.1), (7, .int .i64 p.1.2), (6, .str (joinC (t.drop (t.length - p.1.1))))]) (fun _ => []) (fun p => kn - p.1.1) ⟨(0, k), by omega, by omega, by rw [ht]; simp⟩ (Nat.zero_le _) ?_ ?_
      · simp -implicitDefEqProofs (disch := (first | omega | decide)) only [go_sem, ↓reduceIte, seval]
        simp [joinC]
      · rintro ⟨⟨j, f⟩, hj, hf, hd⟩
        simp only at hj hf hd ⊢
        by_cases hlt : j < kn
        · have hlt' : (j : Int) < (kn : Int) := by omega
          have hi' := hIn f j hf (by omega) hd
          have hv := vs_step (t := t) (i := j) (by omega)
          rw [getElem!_pos t _ (by omega)] at hi'
          obtain ⟨p, q1, q2, q3⟩ := beg_stepT (b := f) (by omega) hd (by intro e; have := congrArg List.length e; simp at this; omega)
          have q3 : runT [] (l.take p) = some (t.take (t.length - (j + 1))) := by
            rw [q3, List.length_take, List.take_take]; congr 2; omega
          have hB := f_Begin (l := l) (a := (f : Int) - 1) ⟨h1, h2, by omega, by omega⟩
          rw [q1] at hB
          have jl1 := jl (t.length - j)
          have jl2 := jl (t.length - (j + 1))
          have nx : ∀ x, x = joinC (t.drop (t.length - (j + 1))) → ∃ i : {p : Nat × Nat // p.1 ≤ kn ∧ p.2 ≤ k ∧ runT [] (l.take p.2) = some (t.take (t.length - p.1))}, ((j : Int) + 1 = (i.1.1 : Int) ∧ (p : Int) = (i.1.2 : Int) ∧ x = joinC (t.drop (t.length - i.1.1))) ∧ kn - i.1.1 < kn - j := fun x ex => ⟨⟨(j + 1, p), by simp only; omega, by simp only; omega, q3⟩, ⟨by simp, rfl, ex⟩, by show kn - (j + 1) < kn - j; omega⟩
          by_cases hj0 : j = 0
          · subst hj0
            have e0 : joinC (t.drop (t.length - 0)) = [] := by simp [joinC]
            have e1' : joinC (t.drop (t.length - (0 + 1))) = t[t.length - (0 + 1)] := by rw [hv]; simp [joinC]
            rw [e1'] at jl2 nx
            rw [e0]
            generalize t[t.length - (0 + 1)] = W at *
            have hlt0 : (0 : Int) < (kn : Int) := by omega
            simp -implicitDefEqProofs (disch := (first | omega | decide)) only [go_sem, ↓reduceIte, seval, hlt0, hi', hB, wrap_i64, List.length_map, List.append_nil]
            exact ⟨by omega, nx _ rfl⟩
          · have hj0' : (0 : Int) < (j : Int) := by omega
            have e1' : joinC (t.drop (t.length - (j + 1))) = t[t.length - (j + 1)] ++ 44 :: joinC (t.drop (t.length - j)) := by
              rw [hv, joinC_cons]
              intro e
              have := congrArg List.length e
              simp at this; omega
            rw [e1'] at jl2 nx
            generalize t[t.length - (j + 1)] = W at *
            generalize joinC (t.drop (t.length - j)) = Z at *
            rw [List.length_append, List.length_cons] at jl2
            simp -implicitDefEqProofs (disch := (first | omega | decide)) only [go_sem, ↓reduceIte, seval, hlt', hj0', hi', hB, wrap_i64, List.length_map]
            exact ⟨by omega, by omega, nx _ rfl⟩
        · have hlt' : ¬ (j : Int) < (kn : Int) := by omega
          obtain rfl : j = kn := by omega
          have jl1 := jl (t.length - j)
          generalize joinC (t.drop (t.length - j)) = Z at *
          cases o7 : op == 7 with
          | true =>
            obtain rfl : op = 7 := by simpa using o7
            simp -implicitDefEqProofs (disch := (first | omega | decide)) only [go_sem, ↓reduceIte, seval, hlt', o7, List.length_map]
            exact ⟨by omega, by omega, rfl⟩
          | false =>
            obtain rfl : op = 8 := by have : op ≠ 7 := by simpa using o7
                                      omega
            simp -implicitDefEqProofs (disch := (first | omega | decide)) only [go_sem, ↓reduceIte, seval, hlt', o7, List.length_map]
            exact ⟨by omega, by omega, rfl⟩
noncomputable def F11h : Tab := F11g.add 18 (entry (fun (v : List Nd × Int) => [.slc (v.1.map Nd.enc), .int .i64 v.2]) (fun v => v.1.length ≤ 1000 ∧ okF v.1 ∧ (∃ s, runT [] v.1 = some s) ∧ 0 ≤ v.2 ∧ v.2 < (v.1.length : Int)) (fun v => .str (lastT (v.1.take (v.2.toNat + 1)))))
theorem F11h_ok : TabOK Try.prog F11h := F11g_ok.ent Try.func18 (by kernel_rfl) (by kernel_rfl) fun v h => c_ref11_Part v.1.length v.1 v.2 ⟨h.1, h.2.1, h.2.2.1, h.2.2.2.1, h.2.2.2.2, h.2.2.2.2⟩
@[go_sem] theorem F11h_old {g : FuncId} {xs : List A} (h : g ≠ 18) : F11h.f g xs = F11g.f g xs := Tab.add_ne h
@[go_sem] theorem F11h_s : F11h.pl F11g := ⟨fun _ => rfl, fun _ => rfl, rfl, fun _ => rfl, rfl, fun _ => rfl, rfl⟩
theorem F11h_ref11_Part (v : List Nd × Int) (h : v.1.length ≤ 1000 ∧ okF v.1 ∧ (∃ s, runT [] v.1 = some s) ∧ 0 ≤ v.2 ∧ v.2 < (v.1.length : Int)) : F11h.f 18 [.slc (v.1.map Nd.enc), .int .i64 v.2] = some (.str (lastT (v.1.take (v.2.toNat + 1)))) := Tab.ent_eq (Γ := F11g) (fun i j h => by simpa [Prod.ext_iff, and_assoc] using h) v h
theorem ok_ref11_Text : codeOK Try.prog F11h Try.f10.ntmps (Try.f10.body.getD .skip) = true := by kernel_rfl
theorem c_ref11_Text (l : List Nd) (ho : okF l) (hr : rightF l = true) : CallA Try.prog 10 [.slc (l.map Nd.enc)] (· = .str (textF l)) := by
  refine callA_of_body F11h_ok mixed Try.func10 rfl (Nat.le_of_ble_eq_true rfl) ok_ref11_Text ?_
  unfold Try.f10
  obtain ⟨h32, hok, hrun, hs⟩ := right_text hr
  have h1 := segs_ne hs
  have g : F11h.f 18 [.slc (l.map Nd.enc), .int .i64 ((l.length : Int) - 1)] = some (.str (textF l)) := by
    have := F11h_ref11_Part (l, (l.length : Int) - 1) ⟨by simp only; omega, ho, ⟨_, hrun⟩, by simp only; omega, by simp only; omega⟩
    have e : lastT (l.take (((l.length : Int) - 1).toNat + 1)) = textF l := by
      rw [List.take_of_length_le (by omega)]
      exact lastT_of hrun rfl
    simp only at this
    rw [e] at this
    exact this
  simp -implicitDefEqProofs (disch := (first | omega | decide)) only [go_sem, ↓reduceIte, seval, g, wrap_i64, List.length_map]
noncomputable def F11i : Tab := F11h.add 10 (entry (fun (l : List Nd) => [.slc (l.map Nd.enc)]) (fun l => okF l ∧ rightF l = true) (fun l => .str (textF l)))
theorem F11i_ok : TabOK Try.prog F11i := F11h_ok.ent Try.func10 (by kernel_rfl) (by kernel_rfl) fun l h => c_ref11_Text l h.1 h.2
@[go_sem] theorem F11i_old {g : FuncId} {xs : List A} (h : g ≠ 10) : F11i.f g xs = F11h.f g xs := Tab.add_ne h
@[go_sem] theorem F11i_s : F11i.pl F11h := ⟨fun _ => rfl, fun _ => rfl, rfl, fun _ => rfl, rfl, fun _ => rfl, rfl⟩
theorem F11i_ref11_Text (l : List Nd) (h : okF l ∧ rightF l = true) : F11i.f 10 [.slc (l.map Nd.enc)] = some (.str (textF l)) := Tab.ent_eq (Γ := F11h) (fun i j h => by simpa [Prod.ext_iff, and_assoc] using h) l h
theorem t11_rText {l : List Nd} (ho : okF l) (hr : rightF l = true) : F11i.f 10 [.slc (l.map Nd.enc)] = some (.str (textF l)) := F11i_ref11_Text l ⟨ho, hr⟩
def sameF (a b : List Nd) : Bool := decide (a = b)
theorem ok_ref09_Same : codeOK Try.prog F11i Try.f11.ntmps (Try.f11.body.getD .skip) = true := by kernel_rfl
theorem c_ref09_Same (a b : List Nd) (hl : a.length ≤ 4611686018427387904) (hb : b.length ≤ 4611686018427387904) : CallA Try.prog 11 [.slc (a.map Nd.enc), .slc (b.map Nd.enc)] (· = .bool (sameF a b)) := by
  refine callA_of_body F11i_ok mixed Try.func11 rfl (Nat.le_of_ble_eq_true rfl) ok_ref09_Same ?_
  unfold Try.f11
  cases h0 : ((a.length : Int) == (b.length : Int)) with
  | false =>
    have hne : a.length ≠ b.length := by
      have : (a.length : Int) ≠ (b.length : Int) := by simpa using h0
      omega
    have hh : sameF a b = false := by unfold sameF; simp; intro e; exact hne (by rw [e])
    simp -implicitDefEqProofs (disch := (first | omega | decide)) only [go_sem, ↓reduceIte, seval, h0, hh, List.length_map]
  | true =>
    have he : a.length = b.length := by
      have : (a.length : Int) = (b.length : Int) := by simpa using h0
      omega
    simp -implicitDefEqProofs (disch := (first | omega | decide)) only [go_sem, ↓reduceIte, seval, h0, List.length_map]
    refine wpA_loop [0, 1] (ι := {k : Nat // k ≤ a.length ∧ a.take k = b.take k}) (fun p => [(5, .int .i64 p.1)]) (fun _ => []) (fun p => a.length - p.1) ⟨0, by omega, rfl⟩ (Nat.zero_le _) ?_ ?_
    · simp -implicitDefEqProofs (disch := (first | omega | decide)) only [go_sem, ↓reduceIte, seval]
    · rintro ⟨k, hk, hd⟩
      simp only
      by_cases hlt : k < a.length
      · have hlt' : (k : Int) < (a.length : Int) := by omega
        have hlt2 : (k : Int) < (b.length : Int) := by omega
        have hltb : k < b.length := by omega
        have e1 := nd_get hlt
        have e2 := nd_get hltb
        have t1 := (List.take_append_getElem hlt).symm
        have t2 := (List.take_append_getElem hltb).symm
        have hno : a[k] ≠ b[k] → sameF a b = false := fun h => by
          unfold sameF; simp; intro e; subst e; exact h rfl
        generalize hx : a[k] = x at *
        generalize hy : b[k] = y at *
        obtain ⟨f, t, o, q⟩ := x
        obtain ⟨f', t', o', q'⟩ := y
        simp only at e1 e2
        cases h1 : f == f' with
        | false =>
          have hh := hno (by have : f ≠ f' := by simpa using h1
                             simp [this])
          simp -implicitDefEqProofs (disch := (first | omega | decide)) only [go_sem, ↓reduceIte, seval, hlt', hlt2, e1, e2, h1, hh, List.length_map]
        | true =>
          cases h2 : t == t' with
          | false =>
            have hh := hno (by have : t ≠ t' := by simpa using h2
                               simp [this])
            simp -implicitDefEqProofs (disch := (first | omega | decide)) only [go_sem, ↓reduceIte, seval, hlt', hlt2, e1, e2, h1, h2, hh, List.length_map]
          | true =>
            cases h3 : o == o' with
            | false =>
              have hh := hno (by have : o ≠ o' := by simpa using h3
                                 simp [this])
              simp -implicitDefEqProofs (disch := (first | omega | decide)) only [go_sem, ↓reduceIte, seval, hlt', hlt2, e1, e2, h1, h2, h3, hh, List.length_map]
            | true =>
              cases h4 : q == q' with
              | false =>
                have hh := hno (by have : q ≠ q' := by simpa using h4
                                   simp [this])
                simp -implicitDefEqProofs (disch := (first | omega | decide)) only [go_sem, ↓reduceIte, seval, hlt', hlt2, e1, e2, h1, h2, h3, h4, hh, List.length_map]
              | true =>
                obtain rfl : f = f' := by simpa using h1
                obtain rfl : t = t' := by simpa using h2
                obtain rfl : o = o' := by simpa using h3
                obtain rfl : q = q' := by simpa using h4
                simp -implicitDefEqProofs (disch := (first | omega | decide)) only [go_sem, ↓reduceIte, seval, hlt', hlt2, e1, e2, h1, h2, h3, h4, wrap_i64, List.length_map]
                exact ⟨⟨k + 1, hlt, by rw [t1, t2, hd]⟩, by simp, by show a.length - (k + 1) < a.length - k; omega⟩
      · have hlt' : ¬ (k : Int) < (a.length : Int) := by omega
        have hh : sameF a b = true := by
          rw [List.take_of_length_le (by omega), List.take_of_length_le (by omega)] at hd
          simp [sameF, hd]
        simp -implicitDefEqProofs (disch := (first | omega | decide)) only [go_sem, ↓reduceIte, seval, hlt', hh, List.length_map]
def longF (l : List Nd) (m : Int) : Bool := decide (m < (l.length : Int)) || l.any fun r => decide (40 < r.lo.length) || decide (40 < r.hi.length)
theorem longF_len {l : List Nd} {m : Int} (h : longF l m = false) : ¬ m < (l.length : Int) := by
  unfold longF at h
  simp only [Bool.or_eq_false_iff, decide_eq_false_iff_not] at h
  exact h.1
theorem ok_ref09_Long : codeOK Try.prog F11i Try.f6.ntmps (Try.f6.body.getD .skip) = true := by kernel_rfl
theorem c_ref09_Long (l : List Nd) (m : Int) (hl : l.length ≤ 9223372036854775807) : CallA Try.prog 6 [.slc (l.map Nd.enc), .int .i64 m] (· = .bool (longF l m)) := by
  refine callA_of_body F11i_ok mixed Try.func6 rfl (Nat.le_of_ble_eq_true rfl) ok_ref09_Long ?_
  unfold Try.f6
  by_cases h0 : m < (l.length : Int)
  · have hh : longF l m = true := by simp [longF, h0]
    simp -implicitDefEqProofs (disch := (first | omega | decide)) only [go_sem, ↓reduceIte, seval, h0, hh, List.length_map]
  · have hh : longF l m = l.any fun r => decide (40 < r.lo.length) || decide (40 < r.hi.length) := by simp [longF, h0]
    simp -implicitDefEqProofs (disch := (first | omega | decide)) only [go_sem, ↓reduceIte, seval, h0, List.length_map]
    rw [hh]
    refine wpA_loop [0] (ι := {k : Nat // k ≤ l.length ∧ (l.any fun r => decide (40 < r.lo.length) || decide (40 < r.hi.length)) = ((l.drop k).any fun r => decide (40 < r.lo.length) || decide (40 < r.hi.length))}) (fun p => [(5, .int .i64 p.1), (4, .bool false)]) (fun _ => []) (fun p => l.length - p.1) ⟨0, by omega, rfl⟩ (Nat.zero_le _) ?_ ?_
    · simp -implicitDefEqProofs (disch := (first | omega | decide)) only [go_sem, ↓reduceIte, seval]
    · rintro ⟨k, hk, hd⟩
      simp only
      by_cases hlt : k < l.length
      · have hlt' : (k : Int) < (l.length : Int) := by omega
        have e1 := nd_get hlt
        rw [List.drop_eq_getElem_cons hlt, List.any_cons] at hd
        generalize hx : l[k] = x at *
        obtain ⟨op, kids, lo, hi⟩ := x
        simp only at hd e1
        by_cases h1 : 40 < lo.length
        · have h1' : (40 : Int) < (lo.length : Int) := by omega
          rw [decide_eq_true h1, Bool.true_or, Bool.true_or] at hd
          simp -implicitDefEqProofs (disch := (first | omega | decide)) only [go_sem, ↓reduceIte, seval, hlt', e1, h1', hd, wrap_i64, List.length_map]
        · have h1' : ¬ (40 : Int) < (lo.length : Int) := by omega
          by_cases h2 : 40 < hi.length
          · have h2' : (40 : Int) < (hi.length : Int) := by omega
            rw [decide_eq_true h2, Bool.or_true, Bool.true_or] at hd
            simp -implicitDefEqProofs (disch := (first | omega | decide)) only [go_sem, ↓reduceIte, seval, hlt', e1, h1', h2', hd, wrap_i64, List.length_map]
          · have h2' : ¬ (40 : Int) < (hi.length : Int) := by omega
            rw [decide_eq_false h1, decide_eq_false h2, Bool.or_false, Bool.false_or] at hd
            simp -implicitDefEqProofs (disch := (first | omega | decide)) only [go_sem, ↓reduceIte, seval, hlt', e1, h1', h2', wrap_i64, List.length_map]
            exact ⟨⟨k + 1, hlt, hd⟩, by simp, by show l.length - (k + 1) < l.length - k; omega⟩
      · have hlt' : ¬ (k : Int) < (l.length : Int) := by omega
        rw [List.drop_of_length_le (by omega)] at hd
        simp -implicitDefEqProofs (disch := (first | omega | decide)) only [go_sem, ↓reduceIte, seval, hlt', hd, List.length_map]
noncomputable def F11j : Tab := F11i.add 11 (entry (fun (v : List Nd × List Nd) => [.slc (v.1.map Nd.enc), .slc (v.2.map Nd.enc)]) (fun v => v.1.length ≤ 4611686018427387904 ∧ v.2.length ≤ 4611686018427387904) (fun v => .bool (sameF v.1 v.2)))
theorem F11j_ok : TabOK Try.prog F11j := F11i_ok.ent Try.func11 (by kernel_rfl) (by kernel_rfl) fun v h => c_ref09_Same v.1 v.2 h.1 h.2
@[go_sem] theorem F11j_old {g : FuncId} {xs : List A} (h : g ≠ 11) : F11j.f g xs = F11i.f g xs := Tab.add_ne h
theorem F11j_ref09_Same (v : List Nd × List Nd) (h : v.1.length ≤ 4611686018427387904 ∧ v.2.length ≤ 4611686018427387904) : F11j.f 11 [.slc (v.1.map Nd.enc), .slc (v.2.map Nd.enc)] = some (.bool (sameF v.1 v.2)) := Tab.ent_eq (Γ := F11i) (fun i j h => by simpa [Prod.ext_iff, and_assoc] using h) v h
noncomputable def F11k : Tab := F11j.add 6 (entry (fun (v : List Nd × Int) => [.slc (v.1.map Nd.enc), .int .i64 v.2]) (fun v => v.1.length ≤ 9223372036854775807) (fun v => .bool (longF v.1 v.2)))
theorem F11k_ok : TabOK Try.prog F11k := F11j_ok.ent Try.func6 (by kernel_rfl) (by kernel_rfl) fun v h => c_ref09_Long v.1 v.2 h
@[go_sem] theorem F11k_old {g : FuncId} {xs : List A} (h : g ≠ 6) : F11k.f g xs = F11j.f g xs := Tab.add_ne h
theorem F11k_ref09_Long (v : List Nd × Int) (h : v.1.length ≤ 9223372036854775807) : F11k.f 6 [.slc (v.1.map Nd.enc), .int .i64 v.2] = some (.bool (longF v.1 v.2)) := Tab.ent_eq (Γ := F11j) (fun i j h => by simpa [Prod.ext_iff, and_assoc] using h) v h
noncomputable def F11m : Tab := F11k.add 7 (entry (fun (l : List Nd) => [.slc (l.map Nd.enc)]) (fun l => l.length ≤ 4611686018427387904 ∧ okF l) (fun l => textA11 l))
theorem F11m_ok : TabOK Try.prog F11m := F11k_ok.ent Try.func7 (by kernel_rfl) (by kernel_rfl) fun l h => c_ftext_Text l h.1 h.2
@[go_sem] theorem F11m_old {g : FuncId} {xs : List A} (h : g ≠ 7) : F11m.f g xs = F11k.f g xs := Tab.add_ne h
theorem F11m_ftext_Text (l : List Nd) (h : l.length ≤ 4611686018427387904 ∧ okF l) : F11m.f 7 [.slc (l.map Nd.enc)] = some (textA11 l) := Tab.ent_eq (Γ := F11k) (fun i j h => by simpa [Prod.ext_iff, and_assoc] using h) l h
noncomputable def F11n : Tab := F11m.add 9 (entry (fun (s : List UInt8) => [.str s]) (fun s => s.length ≤ 1000000000) (fun s => parseA s))
theorem F11n_ok : TabOK Try.prog F11n := F11m_ok.ent Try.func9 (by kernel_rfl) (by kernel_rfl) fun s h => c_ftext_Parse s h
@[go_sem] theorem F11n_old {g : FuncId} {xs : List A} (h : g ≠ 9) : F11n.f g xs = F11m.f g xs := Tab.add_ne h
@[go_sem] theorem F11n_s : F11n.pl F11m := ⟨fun _ => rfl, fun _ => rfl, rfl, fun _ => rfl, rfl, fun _ => rfl, rfl⟩
theorem F11n_ftext_Parse (s : List UInt8) (h : s.length ≤ 1000000000) : F11n.f 9 [.str s] = some (parseA s) := Tab.ent_eq (Γ := F11m) (fun i j h => by simpa [Prod.ext_iff, and_assoc] using h) s h
theorem t11_Same {a b : List Nd} (h : a.length ≤ 4611686018427387904 ∧ b.length ≤ 4611686018427387904) : F11j.f 11 [.slc (a.map Nd.enc), .slc (b.map Nd.enc)] = some (.bool (sameF a b)) := F11j_ref09_Same (a, b) h
theorem t11_Long {l : List Nd} {m : Int} (h : l.length ≤ 9223372036854775807) : F11k.f 6 [.slc (l.map Nd.enc), .int .i64 m] = some (.bool (longF l m)) := F11k_ref09_Long (l, m) h
theorem t11_Text {l : List Nd} (h : l.length ≤ 4611686018427387904 ∧ okF l) : F11m.f 7 [.slc (l.map Nd.enc)] = some (textA11 l) := F11m_ftext_Text l h
theorem t11_Parse {s : List UInt8} (h : s.length ≤ 1000000000) : F11n.f 9 [.str s] = some (parseA s) := F11n_ftext_Parse s h
theorem parse_okF {s : List UInt8} {l : List Nd} (hs : s.length ≤ 1000000000) (h : parseF s = some l) : okF l := by
  unfold parseF at h
  split at h
  · cases h
  · simp only [Option.some.injEq] at h
    rw [← h]
    intro n hn
    have := (filter_Len (b := 1000000000) 32 ⟨s, false, []⟩ ⟨hs, by simp⟩).2 n hn
    exact ⟨by have := this.1; omega, by have := this.2; omega⟩
theorem text_len11 {l : List Nd} (h : rightF l = true) : (textF l).length ≤ 10000 := by
  obtain ⟨h1, _, h2, _⟩ := right_text h
  have := run_tot h2
  have e1 : totT [textF l] = (textF l).length + 1 := by simp [totT]
  have e2 : totT [] = 0 := rfl
  omega
def exampleF : List Nd := [⟨3, 0, [97], []⟩, ⟨4, 0, [98], [99]⟩, ⟨6, 1, [], []⟩, ⟨7, 2, [], []⟩]
def exampleT : List UInt8 := [97, 110, 100, 40, 112, 114, 101, 102, 105, 120, 40, 97, 41, 44, 110, 111, 116, 40, 114, 97, 110, 103, 101, 40, 98, 44, 99, 41, 41, 41]
theorem example_right : rightF exampleF = true := by rfl
theorem example_text : textF exampleF = exampleT := by decide
theorem example_ok : okF exampleF := by
  intro n hn
  simp only [exampleF, List.mem_cons, List.not_mem_nil, or_false] at hn
  rcases hn with rfl | rfl | rfl | rfl <;> exact ⟨by decide, by decide⟩
theorem ok_law11_awake : codeOK Try.prog F11n Try.f5.ntmps (Try.f5.body.getD .skip) = true := by kernel_rfl
theorem c_law11_awake : CallA Try.prog 5 [] (· = .bool true) := by
  refine callA_of_body F11n_ok mixed Try.func5 rfl (Nat.le_of_ble_eq_true rfl) ok_law11_awake ?_
  unfold Try.f5
  have g1 := t11_Parse (s := exampleT) (by decide)
  have g2 := t11_Text (l := exampleF) ⟨by decide, example_ok⟩
  have e1 : parseF exampleT = some exampleF := by rw [← example_text]; exact parse_text example_right
  unfold parseA at g1
  rw [e1] at g1
  unfold textA11 at g2
  rw [if_pos example_right, example_text] at g2
  have e2 : (exampleF.map Nd.enc).length = 4 := rfl
  simp only [exampleT] at g1 g2
  simp -implicitDefEqProofs (disch := (first | omega | decide)) only [go_sem, ↓reduceIte, seval, g1, g2, e2]
noncomputable def F11p : Tab := F11n.add 5 (entry (fun (u : Unit) => []) (fun u => True) (fun u => .bool true))
theorem F11p_ok : TabOK Try.prog F11p := F11n_ok.ent Try.func5 (by kernel_rfl) (by kernel_rfl) fun u h => c_law11_awake
@[go_sem] theorem F11p_old {g : FuncId} {xs : List A} (h : g ≠ 5) : F11p.f g xs = F11n.f g xs := Tab.add_ne h
@[go_sem] theorem F11p_s : F11p.pl F11n := ⟨fun _ => rfl, fun _ => rfl, rfl, fun _ => rfl, rfl, fun _ => rfl, rfl⟩
theorem F11p_law11_awake (u : Unit) (h : True) : F11p.f 5 [] = some (.bool true) := Tab.ent_eq (Γ := F11n) (fun i j h => by first | (cases i; cases j; rfl; done) | simpa [Prod.ext_iff, and_assoc] using h | (simp at h; omega) | (simp at h; exact Prod.ext h.1 (Prod.ext h.2.1 (by omega)))) u h
theorem t11_awake : F11p.f 5 [] = some (.bool true) := F11p_law11_awake () trivial
theorem ok_law11_FtextTells : codeOK Try.prog F11p Try.f3.ntmps (Try.f3.body.getD .skip) = true := by kernel_rfl
theorem c_law11_FtextTells (l : List Nd) (hl : l.length ≤ 9223372036854775807) (ol : okF l) : CallA Try.prog 3 [.slc (l.map Nd.enc)] (· = .bool true) := by
  refine callA_of_body F11p_ok mixed Try.func3 rfl (Nat.le_of_ble_eq_true rfl) ok_law11_FtextTells ?_
  unfold Try.f3
  have g0 := t11_awake
  have g1 := t11_Long (l := l) (m := 60) (by omega)
  cases hg : longF l 60 with
  | true =>
    rw [hg] at g1
    simp -implicitDefEqProofs (disch := (first | omega | decide)) only [go_sem, ↓reduceIte, seval, g0, g1]
  | false =>
    have hlen := longF_len hg
    rw [hg] at g1
    have g2 := t11_Text (l := l) ⟨by omega, ol⟩
    have g3 := f_rRight (l := l) ⟨by omega, ol⟩
    unfold textA11 at g2
    cases hr : rightF l with
    | false =>
      rw [hr] at g3
      rw [if_neg (by rw [hr]; simp)] at g2
      simp -implicitDefEqProofs (disch := (first | omega | decide)) only [go_sem, ↓reduceIte, seval, g0, g1, g2, g3, List.length_map]
    | true =>
      rw [hr] at g3
      rw [if_pos hr] at g2
      have tl := text_len11 hr
      have g4 := t11_Parse (s := textF l) (by omega)
      unfold parseA at g4
      rw [parse_text hr] at g4
      simp only at g4
      have g5 := t11_rText ol hr
      have g6 := t11_Same (a := l) (b := l) ⟨by omega, by omega⟩
      have e : sameF l l = true := by simp [sameF]
      rw [e] at g6
      have e2 : (textF l == textF l) = true := by simp
      generalize textF l = T at *
      simp -implicitDefEqProofs (disch := (first | omega | decide)) only [go_sem, ↓reduceIte, seval, g0, g1, g2, g3, g4, g5, g6, e2, List.length_map]
theorem ok_law11_FtextParses : codeOK Try.prog F11p Try.f4.ntmps (Try.f4.body.getD .skip) = true := by kernel_rfl
theorem c_law11_FtextParses (s : List UInt8) (hs : s.length ≤ 9223372036854775807) : CallA Try.prog 4 [.str s] (· = .bool true) := by
  refine callA_of_body F11p_ok mixed Try.func4 rfl (Nat.le_of_ble_eq_true rfl) ok_law11_FtextParses ?_
  unfold Try.f4
  have g0 := t11_awake
  by_cases h6 : (600 : Int) < (s.length : Int)
  · simp -implicitDefEqProofs (disch := (first | omega | decide)) only [go_sem, ↓reduceIte, seval, g0, h6]
  · have g1 := t11_Parse (s := s) (by omega)
    unfold parseA at g1
    cases hp : parseF s with
    | none =>
      rw [hp] at g1
      simp only at g1
      simp -implicitDefEqProofs (disch := (first | omega | decide)) only [go_sem, ↓reduceIte, seval, g0, h6, g1]
    | some l =>
      rw [hp] at g1
      simp only at g1
      obtain ⟨h1, h2⟩ := parse_some hp
      have ol := parse_okF (by omega) hp
      have h32 := (right_text h1).1
      have g3 := f_rRight (l := l) ⟨by omega, ol⟩
      rw [h1] at g3
      have g5 := t11_rText ol h1
      rw [h2] at g5
      have e2 : (s == s) = true := by simp
      simp -implicitDefEqProofs (disch := (first | omega | decide)) only [go_sem, ↓reduceIte, seval, g0, h6, g1, g3, g5, e2, List.length_map]
theorem fits_nds {x : A} (h : fits (.rows [.int .i64, .int .i64, .str, .str]) x) : ∃ l : List Nd, x = .slc (l.map Nd.enc) ∧ l.length ≤ maxLen ∧ okF l := by
  simp only [fits] at h
  obtain ⟨es, rfl, hl, he⟩ := h
  have ml := maxLen_le
  obtain ⟨l, rfl, hk⟩ := list_of (f := Nd.enc) (P := fun n => n.ok) (es := es) (fun e hx => by
    obtain ⟨ys, rfl, hy⟩ := he e hx
    simp only [fitsL] at hy
    obtain ⟨y1, z1, rfl, h1, y2, z2, rfl, h2, y3, z3, rfl, h3, y4, z4, rfl, h4, rfl⟩ := hy
    simp only [fits] at h1 h2 h3 h4
    obtain ⟨a, rfl, _⟩ := h1
    obtain ⟨b, rfl, _⟩ := h2
    obtain ⟨s, rfl, hs⟩ := h3
    obtain ⟨t, rfl, ht⟩ := h4
    exact ⟨⟨a, b, s, t⟩, rfl, ⟨by show s.length ≤ _; omega, by show t.length ≤ _; omega⟩⟩)
  exact ⟨l, rfl, by simpa using hl, hk⟩
end Go.Proofs.Ythiedimbmcgpdaa
