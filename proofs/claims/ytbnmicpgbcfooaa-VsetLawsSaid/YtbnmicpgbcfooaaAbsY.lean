/- Tables, entry by entry; small laws on numbers. -/
import Derived.Test.YtbnmicpgbcfooaaAbsV
import Derived.Test.YtbnmicpgbcfooaaAbsC
namespace Go.Abs

def tab0 : Tab := ⟨fun _ _ => none, fun _ _ _ => none, fun _ => false, fun _ => false, false, fun _ => false, 0, fun _ => []⟩
theorem tab0_ok (P : Program) : TabOK P tab0 := ⟨(fun _ _ _ h => by cases h), (fun _ _ _ _ _ _ h => by cases h)⟩

def Tab.add (Γ : Tab) (g : FuncId) (e : List A → Option A) : Tab := { Γ with f := fun h xs => if h = g then e xs else Γ.f h xs }
def Tab.addH (Γ : Tab) (g : FuncId) (e : List A → List Obj → Option (A × List Obj × List Nat)) : Tab := { Γ with hp := fun h xs H => if h = g then e xs H else Γ.hp h xs H }

theorem Tab.add_eq {Γ : Tab} {g : FuncId} {e : List A → Option A} {xs : List A} : (Γ.add g e).f g xs = e xs := if_pos rfl
theorem Tab.add_ne {Γ : Tab} {g h : FuncId} {e : List A → Option A} {xs : List A} (hn : h ≠ g) : (Γ.add g e).f h xs = Γ.f h xs := if_neg hn
section
variable {P : Program} {Γ : Tab} {g : FuncId}
theorem TabOK.add (h : TabOK P Γ) {e : List A → Option A} (hc : Callable P g) (he : ∀ xs r, e xs = some r → CallA P g xs (· = r)) : TabOK P (Γ.add g e) where
  f := fun f xs r hr => by
    simp only [Tab.add] at hr
    split at hr
    · rename_i e; subst e; exact ⟨hc, he xs r hr⟩
    · exact h.f f xs r hr
  hp := h.hp
theorem TabOK.addH (h : TabOK P Γ) {e : List A → List Obj → Option (A × List Obj × List Nat)} (hc : Callable P g) (he : ∀ xs H r H' S, e xs H = some (r, H', S) → CallH P g xs H r H' S) : TabOK P (Γ.addH g e) where
  f := h.f
  hp := fun f xs H r H' S hr => by
    simp only [Tab.addH] at hr
    split at hr
    · rename_i e; subst e; exact ⟨hc, he xs H r H' S hr⟩
    · exact h.hp f xs H r H' S hr
end

open Classical in
noncomputable def entry {ι : Type} (enc : ι → List A) (ok : ι → Prop) (spec : ι → A) : List A → Option A := fun xs => if h : ∃ i, enc i = xs ∧ ok i then some (spec (Classical.choose h)) else none
theorem entry_ok {P : Program} {g : FuncId} {ι : Type} {enc : ι → List A} {ok : ι → Prop} {spec : ι → A} (h : ∀ i, ok i → CallA P g (enc i) (· = spec i)) : ∀ xs r, entry enc ok spec xs = some r → CallA P g xs (· = r) := fun xs r hr => by
  unfold entry at hr
  split at hr
  · rename_i hx
    obtain ⟨h1, h2⟩ := Classical.choose_spec hx
    obtain rfl := Option.some.inj hr
    have := h _ h2
    rw [h1] at this
    exact this
  · cases hr
theorem entry_eq {ι : Type} {enc : ι → List A} {ok : ι → Prop} {spec : ι → A} (hi : ∀ i j, enc i = enc j → i = j) (i : ι) (h : ok i) : entry enc ok spec (enc i) = some (spec i) := by
  have hx : ∃ j, enc j = enc i ∧ ok j := ⟨i, rfl, h⟩
  unfold entry
  rw [dif_pos hx]
  rw [hi _ _ (Classical.choose_spec hx).1]

open Classical in
noncomputable def entryH {ι : Type} (enc : ι → List A) (obs : ι → List Obj) (ok : ι → Prop) (spec : ι → A × List Obj × List Nat) : List A → List Obj → Option (A × List Obj × List Nat) := fun xs H =>
  if h : ∃ i, (enc i = xs ∧ obs i = H) ∧ ok i then some (spec (Classical.choose h)) else none
theorem entryH_ok {P : Program} {g : FuncId} {ι : Type} {enc : ι → List A} {obs : ι → List Obj} {ok : ι → Prop} {spec : ι → A × List Obj × List Nat} (h : ∀ i, ok i → CallH P g (enc i) (obs i) (spec i).1 (spec i).2.1 (spec i).2.2) :
    ∀ xs H r H' S, entryH enc obs ok spec xs H = some (r, H', S) → CallH P g xs H r H' S := fun xs H r H' S hr => by
  unfold entryH at hr
  split at hr
  · rename_i hx
    obtain ⟨⟨h1, h1'⟩, h2⟩ := Classical.choose_spec hx
    have hs := Option.some.inj hr
    have := h _ h2
    rw [h1, h1', hs] at this
    exact this
  · cases hr
theorem entryH_eq {ι : Type} {enc : ι → List A} {obs : ι → List Obj} {ok : ι → Prop} {spec : ι → A × List Obj × List Nat} (hi : ∀ i j, enc i = enc j → obs i = obs j → i = j) (i : ι) (h : ok i) : entryH enc obs ok spec (enc i) (obs i) = some (spec i) := by
  have hx : ∃ j, (enc j = enc i ∧ obs j = obs i) ∧ ok j := ⟨i, ⟨rfl, rfl⟩, h⟩
  unfold entryH
  rw [dif_pos hx]
  rw [hi _ _ (Classical.choose_spec hx).1.1 (Classical.choose_spec hx).1.2]

theorem Tab.addH_eq {Γ : Tab} {g : FuncId} {e : List A → List Obj → Option (A × List Obj × List Nat)} {xs : List A} {H : List Obj} : (Γ.addH g e).hp g xs H = e xs H := if_pos rfl
theorem Tab.addH_ne {Γ : Tab} {g h : FuncId} {e : List A → List Obj → Option (A × List Obj × List Nat)} {xs : List A} {H : List Obj} (hn : h ≠ g) : (Γ.addH g e).hp h xs H = Γ.hp h xs H := if_neg hn
/-- An empty slice: nil, or not. -/
theorem callA_emp {P : Program} {f : FuncId} {Post : A → Prop} (h1 : CallA P f [.emp true] Post) (h2 : CallA P f [.emp false] Post) : CallA P f [.slc []] Post := fun N w vs hN hr => by
  simp only [RepL, Rep] at hr
  obtain ⟨v, _, rfl, ⟨_, a, cap, rfl, _, _⟩, rfl⟩ := hr
  cases a with
  | none => exact h1 N w _ hN (by simp only [RepL, Rep]; exact ⟨_, _, rfl, ⟨none, cap, rfl, rfl⟩, rfl⟩)
  | some q => exact h2 N w _ hN (by simp only [RepL, Rep]; exact ⟨_, _, rfl, ⟨some q, cap, rfl, rfl⟩, rfl⟩)
attribute [go_sem] List.contains_nil List.contains_cons
theorem callable_of {P : Program} {f : FuncId} {fn : Func} (h1 : P.funcs[f]? = some fn) (h2 : fn.body.isNone = false) (h3 : (fn.name == "runtime.NumGoroutine") = false) : Callable P f := ⟨fn, h1, h2, h3⟩

@[go_sem] theorem isS2B_eq {P : Program} {s d : TypeId} : isS2B P s d = (tyStr P s && (tyElem P d).any (fun e => tyInt P e = some .u8)) := rfl
@[go_sem] theorem isB2S_eq {P : Program} {s d : TypeId} : isB2S P s d = ((tyElem P s).any (fun e => tyInt P e = some .u8) && tyStr P d) := rfl
@[go_sem] theorem bne_str {a b : List UInt8} : (a != b) = !(a == b) := rfl
@[go_sem] theorem bne_bool {a b : Bool} : (a != b) = !(a == b) := rfl
@[go_sem] theorem bne_int {a b : Int} : (a != b) = !(a == b) := rfl
@[go_sem] theorem str_beq_self {a : List UInt8} : (a == a) = true := by simp
@[go_sem] theorem natCast_zero : ((0 : Nat) : Int) = 0 := rfl
@[go_sem] theorem natCast_one : ((1 : Nat) : Int) = 1 := rfl
attribute [go_sem] Int.cast_ofNat_Int
attribute [go_sem] Option.any_some Option.any_none decide_true decide_false ne_eq Nat.succ_ne_self Nat.one_ne_zero beq_true beq_false Nat.zero_add Int.toNat_zero List.drop_zero true_implies false_implies implies_true not_true_eq_false not_false_eq_true Option.getD Int.toNat_natCast Int.natCast_nonneg
@[go_sem] theorem tab0_f {g : FuncId} {xs : List A} : tab0.f g xs = none := rfl
@[go_sem] theorem tab0_eff {g : FuncId} : tab0.eff g = false := rfl
@[go_sem] theorem tab0_frz {g : FuncId} : tab0.frz g = false := rfl
@[go_sem] theorem tab0_effT : tab0.effT = false := rfl
@[go_sem] theorem tab0_fix : tab0.fix = fun _ => false := rfl
@[go_sem] theorem tab0_nf : tab0.nf = 0 := rfl
@[go_sem] theorem tab0_ords {n : Nat} : tab0.ords n = [] := rfl
theorem wrap_i64 {n : Int} (h : -9223372036854775808 ≤ n ∧ n < 9223372036854775808) : IntKind.i64.wrap n = n := by
  unfold IntKind.wrap; simp [IntKind.bits, IntKind.signed]; split <;> omega
theorem wrap_u64 {n : Int} (h : 0 ≤ n ∧ n < 18446744073709551616) : IntKind.u64.wrap n = n := by
  unfold IntKind.wrap; simp [IntKind.bits, IntKind.signed]; omega
theorem wrap_u8 {n : Int} (h : 0 ≤ n ∧ n < 256) : IntKind.u8.wrap n = n := by
  unfold IntKind.wrap; simp [IntKind.bits, IntKind.signed]; omega
theorem map_inj {α : Type} {f : α → A} (h : ∀ x y, f x = f y → x = y) : ∀ {l m : List α}, (l.map f = m.map f) = (l = m)
  | [], [] => by simp
  | [], _ :: _ => by simp
  | _ :: _, [] => by simp
  | x :: l, y :: m => by
    simp only [List.map_cons, List.cons.injEq, map_inj h]
    exact propext ⟨fun ⟨a, b⟩ => ⟨h _ _ a, b⟩, fun ⟨a, b⟩ => ⟨by rw [a], b⟩⟩
@[simp] theorem map_str_inj {l m : List (List UInt8)} : (l.map A.str = m.map A.str) = (l = m) := map_inj (fun _ _ h => by simpa using h)
@[simp] theorem map_bool_inj {l m : List Bool} : (l.map A.bool = m.map A.bool) = (l = m) := map_inj (fun _ _ h => by simpa using h)
@[simp] theorem map_int_inj {k : IntKind} {l m : List Int} : (l.map (A.int k) = m.map (A.int k)) = (l = m) := map_inj (fun _ _ h => by simpa using h)
theorem list_of {α : Type} {f : α → A} {P : α → Prop} : ∀ {es : List A}, (∀ e ∈ es, ∃ a, e = f a ∧ P a) → ∃ l : List α, es = l.map f ∧ ∀ a ∈ l, P a
  | [], _ => ⟨[], rfl, by simp⟩
  | e :: es, h => by
    obtain ⟨a, rfl, ha⟩ := h e (by simp)
    obtain ⟨l, rfl, hl⟩ := list_of (es := es) fun x hx => h x (by simp [hx])
    exact ⟨a :: l, rfl, fun b hb => by
      rcases List.mem_cons.1 hb with rfl | hb
      · exact ha
      · exact hl b hb⟩
theorem fits_strs {x : A} (h : fits (.list .str) x) : ∃ l : List (List UInt8), x = .slc (l.map .str) ∧ l.length ≤ maxLen ∧ ∀ s ∈ l, s.length ≤ maxLen := by
  simp only [fits] at h
  obtain ⟨es, rfl, hl, he⟩ := h
  obtain ⟨l, rfl, h2⟩ := list_of he
  exact ⟨l, rfl, by simpa using hl, h2⟩
theorem fits_str {x : A} (h : fits .str x) : ∃ s : List UInt8, x = .str s ∧ s.length ≤ maxLen := by
  simpa only [fits] using h
theorem maxLen_le : maxLen ≤ 9223372036854775807 := by decide
theorem bytesOfA_bytesA : ∀ s : List UInt8, bytesOfA (bytesA s) = some s
  | [] => rfl
  | c :: s => by
    have := bytesOfA_bytesA s
    simp only [bytesA] at this
    simp [bytesA, bytesOfA, encU8, byteOfA, this]
theorem setNth_bytes (s : List UInt8) (k : Nat) (x : UInt8) : setNth (bytesA s) k (.int .u8 (x.toNat : Int)) = bytesA (s.set k x) := by
  rw [setNth_eq]; simp [bytesA, List.map_set, encU8]
theorem bytesA_len (s : List UInt8) : (bytesA s).length = s.length := by simp [bytesA]
end Go.Abs
