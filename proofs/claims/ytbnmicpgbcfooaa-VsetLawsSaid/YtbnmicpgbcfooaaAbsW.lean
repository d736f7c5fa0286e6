/- A call's nil result as an empty row of its own; an empty argument, nil or not. -/
import Derived.Test.YtbnmicpgbcfooaaAbsY
namespace Go.Abs

theorem callH_nil {P : Program} {f : FuncId} {xs : List A} {S : List Nat} (k : Nat) (h : CallH P f xs [] .nils [] S) : CallH P f xs [] (.row 0 0 k 0 false) [.row k []] S := by
  intro N φ w vs hN hrel hfree hrep
  refine Calls.mono (h N φ w vs hN hrel hfree hrep) ?_
  rintro e w' ⟨v, φ', rfl, hv, hrel', ht, hl⟩
  have e1 : φ = [] := List.length_eq_zero_iff.1 hrel.len
  have e2 : φ' = [] := List.length_eq_zero_iff.1 hrel'.len
  subst e1; subst e2
  refine ⟨v, [.nil], rfl, ?_, ?_, ?_, Nat.zero_le _⟩
  · simp only [Rep] at hv ⊢
    exact .inl ⟨.nil, rfl, by simp, trivial, fun _ => trivial, none, hv⟩
  · exact {
      len := rfl
      objs := fun n o p ho hp => by
        cases n with
        | succ n => simp [nthO] at ho
        | zero =>
          simp only [nthO, Option.some.injEq] at ho
          simp at hp
          subst ho; subst hp
          simp [ObjRel]
      own := fun n b k' hn => by cases n <;> simp at hn
      inj := fun n m b k' k'' hn => by cases n <;> simp at hn }
  · exact {
      os := ht.os
      tape := ht.tape
      output := ht.output
      drawn := ht.drawn
      size := ht.size
      block := ht.block
      shape := ht.shape
      own := fun n b k' hn => by cases n <;> simp at hn
      stay := fun n p _ hn => by simp at hn }
theorem callH_emp {P : Program} {f : FuncId} {H H' : List Obj} {r : A} {S : List Nat} (h1 : CallH P f [.emp true] H r H' S) (h2 : CallH P f [.emp false] H r H' S) : CallH P f [.slc []] H r H' S := fun N φ w vs hN hrel hfree hr => by
  simp only [RepL, Rep] at hr
  obtain ⟨v, _, rfl, ⟨_, a, cap, rfl, _, _⟩, rfl⟩ := hr
  cases a with
  | none => exact h1 N φ w _ hN hrel hfree (by simp only [RepL, Rep]; exact ⟨_, _, rfl, ⟨none, cap, rfl, rfl⟩, rfl⟩)
  | some q => exact h2 N φ w _ hN hrel hfree (by simp only [RepL, Rep]; exact ⟨_, _, rfl, ⟨some q, cap, rfl, rfl⟩, rfl⟩)
/-- A call that changes nothing, as one with its objects. -/
theorem callH_pure {P : Program} {f : FuncId} {xs ys : List A} {r : A} (h : CallA P f ys (· = r)) (hx : ∀ (E : Env) (vs : List Value), RepL E xs vs → RepL E ys vs) (hp : r.pure = true) : CallH P f xs [] r [] [] := by
  intro N φ w vs hN hrel hfree hrep
  have e1 : φ = [] := List.length_eq_zero_iff.1 hrel.len
  subst e1
  have hN' : ∀ b, (envOf N [] w).N b → b < w.heap.size := fun b hb => by
    rcases hb with hb | ⟨n, k, hn⟩
    · exact hN b hb
    · simp at hn
  refine Calls.mono (h (envOf N [] w).N w vs hN' (hx _ _ hrep)) ?_
  rintro e w' ⟨v, r', rfl, rfl, hr, hg⟩
  refine ⟨v, [], rfl, ?_, ?_, ?_, Nat.le_refl _⟩
  · exact hr
  · exact { len := rfl, objs := fun n o p ho => by cases n <;> simp [nthO] at ho, own := fun n b k hn => by simp at hn, inj := fun n m b k k' hn => by simp at hn }
  · exact {
      os := hg.os
      tape := hg.tape
      output := hg.output
      drawn := hg.drawn
      size := hg.size
      block := fun b hb _ => hg.block b hb
      shape := fun b c e fr hb => ⟨c, fr, by rw [hg.block b (Array.getElem?_eq_some_iff.1 hb).1]; exact hb, rfl⟩
      own := fun n b k hn => by simp at hn
      stay := fun n p _ hn => hn }
theorem rep_clip_slc {E : Env} {es : List A} {v : Value} (h : Rep E (.clip es) v) : Rep E (.slc es) v := by
  simp only [Rep] at h ⊢
  obtain ⟨hp, a, hv, hl⟩ := h
  exact ⟨hp, a, _, hv, Nat.le_refl _, hl⟩
theorem setNth_last {x v : A} : ∀ {l : List A}, setNth (l ++ [x]) l.length v = l ++ [v]
  | [] => rfl
  | y :: l => by simp only [List.cons_append, List.length_cons, setNth, setNth_last]
theorem get_last {x : A} : ∀ {l : List A}, (l ++ [x])[l.length]? = some x
  | [] => rfl
  | y :: l => by simp [get_last]
end Go.Abs
