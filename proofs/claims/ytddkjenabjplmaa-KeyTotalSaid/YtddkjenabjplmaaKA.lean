/- Chapter 06: what the functions of 'key' and of its reference compute, on pure data. -/
import Derived.Test.YtddkjenabjplmaaAbsV
import Derived.Test.YtddkjenabjplmaaAbsC
import Derived.Test.YtddkjenabjplmaaProg
namespace Go.Proofs.Ytddkjenabjplmaa
open Go.Abs
set_option linter.unusedSimpArgs false
set_option linter.unusedVariables false
set_option maxRecDepth 20000

theorem mixed : Try.prog.follows .mixedOrders = true := by kernel_rfl
theorem ty9 : tyStr Try.prog 9 = true := by kernel_rfl
theorem ty46 : tyStr Try.prog 46 = false := by kernel_rfl
theorem el46 : tyElem Try.prog 46 = some 5 := by kernel_rfl
theorem ar46 : tyArr Try.prog 46 = none := by kernel_rfl
theorem ar9 : tyArr Try.prog 9 = none := by kernel_rfl
theorem sz5 : tySize Try.prog 5 = some 1 := by kernel_rfl
theorem ag5 : tyAgg Try.prog 5 = some false := by kernel_rfl
theorem sb : isS2B Try.prog 9 46 = true := by kernel_rfl
theorem sb' : isS2B Try.prog 46 9 = false := by kernel_rfl
theorem bs : isB2S Try.prog 46 9 = true := by kernel_rfl

theorem wrap_i64 {n : Int} (h : -9223372036854775808 ≤ n ∧ n < 9223372036854775808) : IntKind.i64.wrap n = n := by
  unfold IntKind.wrap; simp [IntKind.bits, IntKind.signed]; split <;> omega

theorem ok11 : codeOK Try.prog Try.f11.ntmps (Try.f11.body.getD .skip) = true := by kernel_rfl
theorem c11 {Γ : Tab} (hΓ : TabOK Try.prog Γ) (s : List UInt8) (hs : s.length < 9223372036854775807) : CallA Try.prog 11 [.str s] (· = .str (s ++ [0])) := by
  refine callA_of_body hΓ mixed Try.func11 rfl (Nat.le_of_ble_eq_true rfl) ok11 ?_
  unfold Try.f11
  simp (maxSteps := 2000000) (disch := omega) only [go_sem, ↓reduceIte, Nat.reduceEqDiff, reduceCtorEq, Nat.reduceAdd, Nat.reduceSub, Nat.reduceLeDiff, Nat.reduceLT, Int.reduceLE, Int.reduceLT, Int.reduceBEq, Int.reduceBNe, Int.reduceAdd, Int.reduceSub, Int.reduceNeg, decide_true, decide_false, ne_eq, Nat.succ_ne_self, Nat.one_ne_zero, beq_true, beq_false, Nat.zero_add, Int.toNat_zero, List.drop_zero, Bool.not_true, Bool.not_false, Bool.false_eq_true, true_implies, false_implies, implies_true, not_true_eq_false, not_false_eq_true, and_true, true_and, and_self, ty9, Option.getD]
  omega

theorem ok17 : codeOK Try.prog Try.f17.ntmps (Try.f17.body.getD .skip) = true := by kernel_rfl
theorem c17 {Γ : Tab} (hΓ : TabOK Try.prog Γ) (s : List UInt8) (hs : s.length < 9223372036854775807) : CallA Try.prog 17 [.str s] (· = .bool (decide (1 ≤ s.length ∧ s.length ≤ 16))) := by
  refine callA_of_body hΓ mixed Try.func17 rfl (Nat.le_of_ble_eq_true rfl) ok17 ?_
  unfold Try.f17
  by_cases h : (1 : Int) ≤ s.length
  · simp (maxSteps := 2000000) (disch := omega) only [go_sem, ↓reduceIte, Nat.reduceEqDiff, reduceCtorEq, Nat.reduceAdd, Nat.reduceSub, Nat.reduceLeDiff, Nat.reduceLT, Int.reduceLE, Int.reduceLT, Int.reduceBEq, Int.reduceBNe, Int.reduceAdd, Int.reduceSub, Int.reduceNeg, decide_true, decide_false, ne_eq, Nat.succ_ne_self, Nat.one_ne_zero, beq_true, beq_false, Nat.zero_add, Int.toNat_zero, List.drop_zero, Bool.not_true, Bool.not_false, Bool.false_eq_true, true_implies, false_implies, implies_true, not_true_eq_false, not_false_eq_true, and_true, true_and, and_self, ty9, Option.getD, h]
    apply decide_eq_decide.2
    omega
  · simp (maxSteps := 2000000) (disch := omega) only [go_sem, ↓reduceIte, Nat.reduceEqDiff, reduceCtorEq, Nat.reduceAdd, Nat.reduceSub, Nat.reduceLeDiff, Nat.reduceLT, Int.reduceLE, Int.reduceLT, Int.reduceBEq, Int.reduceBNe, Int.reduceAdd, Int.reduceSub, Int.reduceNeg, decide_true, decide_false, ne_eq, Nat.succ_ne_self, Nat.one_ne_zero, beq_true, beq_false, Nat.zero_add, Int.toNat_zero, List.drop_zero, Bool.not_true, Bool.not_false, Bool.false_eq_true, true_implies, false_implies, implies_true, not_true_eq_false, not_false_eq_true, and_true, true_and, and_self, ty9, Option.getD, h]
    symm
    apply decide_eq_false
    omega

def cmpB : List UInt8 → List UInt8 → Int
  | [], [] => 0
  | [], _ :: _ => -1
  | _ :: _, [] => 1
  | a :: x, b :: y => if a < b then -1 else if b < a then 1 else cmpB x y
theorem cmpB_drop {a b : List UInt8} {k : Nat} (ha : k < a.length) (hb : k < b.length) : cmpB (a.drop k) (b.drop k) = if a[k] < b[k] then -1 else if b[k] < a[k] then 1 else cmpB (a.drop (k+1)) (b.drop (k+1)) := by
  rw [List.drop_eq_getElem_cons ha, List.drop_eq_getElem_cons hb]; rfl

theorem ok16 : codeOK Try.prog Try.f16.ntmps (Try.f16.body.getD .skip) = true := by kernel_rfl
theorem c16 {Γ : Tab} (hΓ : TabOK Try.prog Γ) (a b : List UInt8) (ha : a.length ≤ 9223372036854775807) (hb : b.length ≤ 9223372036854775807) : CallA Try.prog 16 [.str a, .str b] (· = .int .i64 (cmpB a b)) := by
  refine callA_of_body hΓ mixed Try.func16 rfl (Nat.le_of_ble_eq_true rfl) ok16 ?_
  unfold Try.f16
  simp (maxSteps := 2000000) (disch := omega) only [go_sem, ↓reduceIte, Nat.reduceEqDiff, reduceCtorEq, Nat.reduceAdd, Nat.reduceSub, Nat.reduceLeDiff, Nat.reduceLT, Int.reduceLE, Int.reduceLT, Int.reduceBEq, Int.reduceBNe, Int.reduceAdd, Int.reduceSub, Int.reduceNeg, decide_true, decide_false, ne_eq, Nat.succ_ne_self, Nat.one_ne_zero, beq_true, beq_false, Nat.zero_add, Int.toNat_zero, List.drop_zero, Bool.not_true, Bool.not_false, Bool.false_eq_true, true_implies, false_implies, implies_true, not_true_eq_false, not_false_eq_true, and_true, true_and, and_self, ty9, Option.getD]
  refine wpA_loop [0,1,10] (ι := {k : Nat // k ≤ a.length ∧ k ≤ b.length ∧ cmpB a b = cmpB (a.drop k) (b.drop k)}) (fun k => [(11, .int .i64 k.1)]) (fun _ => []) (fun k => a.length - k.1) ⟨0, by simp⟩ ?_ ?_
  · simp (maxSteps := 2000000) (disch := omega) only [go_sem, ↓reduceIte, Nat.reduceEqDiff, reduceCtorEq, Nat.reduceAdd, Nat.reduceSub, Nat.reduceLeDiff, Nat.reduceLT, Int.reduceLE, Int.reduceLT, Int.reduceBEq, Int.reduceBNe, Int.reduceAdd, Int.reduceSub, Int.reduceNeg, decide_true, decide_false, ne_eq, Nat.succ_ne_self, Nat.one_ne_zero, beq_true, beq_false, Nat.zero_add, Int.toNat_zero, List.drop_zero, Bool.not_true, Bool.not_false, Bool.false_eq_true, true_implies, false_implies, implies_true, not_true_eq_false, not_false_eq_true, and_true, true_and, and_self]
    simp
  · rintro ⟨k, hk1, hk2, hk3⟩
    by_cases hk : k < a.length ∧ k < b.length
    · obtain ⟨hka, hkb⟩ := hk
      have hmin : (k:Int) < if (b.length:Int) < a.length then (b.length : Int) else a.length := by split <;> omega
      have e1 : a[k]? = some a[k] := List.getElem?_eq_getElem hka
      have e2 : b[k]? = some b[k] := List.getElem?_eq_getElem hkb
      rw [cmpB_drop hka hkb] at hk3
      simp (maxSteps := 2000000) (disch := omega) only [go_sem, ↓reduceIte, Nat.reduceEqDiff, reduceCtorEq, Nat.reduceAdd, Nat.reduceSub, Nat.reduceLeDiff, Nat.reduceLT, Int.reduceLE, Int.reduceLT, Int.reduceBEq, Int.reduceBNe, Int.reduceAdd, Int.reduceSub, Int.reduceNeg, decide_true, decide_false, ne_eq, Nat.succ_ne_self, Nat.one_ne_zero, beq_true, beq_false, Nat.zero_add, Int.toNat_zero, List.drop_zero, Bool.not_true, Bool.not_false, Bool.false_eq_true, true_implies, false_implies, implies_true, not_true_eq_false, not_false_eq_true, and_true, true_and, and_self, ty9, hmin, Int.toNat_natCast, Int.natCast_nonneg, encU8, wrap_i64]
      simp only [decide_eq_true_eq, decide_eq_false_iff_not, Int.ofNat_lt]
      refine ⟨fun h => ?_, fun h => ⟨fun h' => ?_, fun h' => ⟨⟨k + 1, hka, hkb, ?_⟩, by simp, by simp; omega⟩⟩⟩
      · have : a[k] < b[k] := h
        rw [hk3, if_pos this]
      · have g : ¬ a[k] < b[k] := h
        have g' : b[k] < a[k] := h'
        rw [hk3, if_neg g, if_pos g']
      · have g : ¬ a[k] < b[k] := h
        have g' : ¬ b[k] < a[k] := h'
        rw [hk3, if_neg g, if_neg g']
    · have hmin : ¬ ((k:Int) < if (b.length:Int) < a.length then (b.length : Int) else a.length) := by split <;> omega
      simp (maxSteps := 2000000) (disch := omega) only [go_sem, ↓reduceIte, Nat.reduceEqDiff, reduceCtorEq, Nat.reduceAdd, Nat.reduceSub, Nat.reduceLeDiff, Nat.reduceLT, Int.reduceLE, Int.reduceLT, Int.reduceBEq, Int.reduceBNe, Int.reduceAdd, Int.reduceSub, Int.reduceNeg, decide_true, decide_false, ne_eq, Nat.succ_ne_self, Nat.one_ne_zero, beq_true, beq_false, Nat.zero_add, Int.toNat_zero, List.drop_zero, Bool.not_true, Bool.not_false, Bool.false_eq_true, true_implies, false_implies, implies_true, not_true_eq_false, not_false_eq_true, and_true, true_and, and_self, ty9, hmin, Int.toNat_natCast, Int.natCast_nonneg, encU8, wrap_i64]
      simp only [decide_eq_true_eq, decide_eq_false_iff_not, Int.ofNat_lt]
      rw [hk3]
      by_cases h1 : k < a.length
      · have h2 : b.drop k = [] := List.drop_of_length_le (by omega)
        rw [h2, List.drop_eq_getElem_cons h1]
        simp only [cmpB]
        refine ⟨fun h => ?_, fun h => ⟨fun _ => trivial, fun h' => ?_⟩⟩ <;> exfalso <;> omega
      · have h2 : a.drop k = [] := List.drop_of_length_le (by omega)
        rw [h2]
        by_cases h3 : k < b.length
        · rw [List.drop_eq_getElem_cons h3]
          simp only [cmpB]
          refine ⟨fun _ => trivial, fun h => ⟨fun h' => ?_, fun h' => ?_⟩⟩ <;> exfalso <;> omega
        · have h4 : b.drop k = [] := List.drop_of_length_le (by omega)
          rw [h4]
          simp only [cmpB]
          refine ⟨fun h => ?_, fun h => ⟨fun h' => ?_, fun _ => trivial⟩⟩ <;> exfalso <;> omega

theorem bytesOfA_bytesA : ∀ s : List UInt8, bytesOfA (bytesA s) = some s
  | [] => rfl
  | c :: s => by
    have := bytesOfA_bytesA s
    simp only [bytesA] at this
    simp [bytesA, bytesOfA, encU8, byteOfA, this]
theorem setNth_bytes (s : List UInt8) (k : Nat) (x : UInt8) : setNth (bytesA s) k (.int .u8 (x.toNat : Int)) = bytesA (s.set k x) := by
  rw [setNth_eq]; simp [bytesA, List.map_set, encU8]
theorem bytesA_len (s : List UInt8) : (bytesA s).length = s.length := by simp [bytesA]
theorem inc_u8 {x : UInt8} (h : x ≠ 255) : IntKind.u8.wrap ((x.toNat : Int) + 1) = ((x + 1).toNat : Int) := by
  have h1 : x.toNat < 256 := x.toNat_lt
  have h2 : x.toNat ≠ 255 := fun e => h (UInt8.toNat_inj.1 (by rw [e]; rfl))
  have h3 : (x + 1).toNat = x.toNat + 1 := by
    rw [UInt8.toNat_add]
    have : (1 : UInt8).toNat = 1 := rfl
    rw [this]
    omega
  rw [h3]
  unfold IntKind.wrap
  simp [IntKind.bits, IntKind.signed]
  omega

theorem take_set : ∀ {p : List UInt8} {k : Nat}, k < p.length → ∀ x, (p.take (k + 1)).set k x = p.take k ++ [x]
  | _ :: p, 0, _, x => by simp
  | c :: p, k + 1, h, x => by
    have := take_set (p := p) (k := k) (by simpa using h) x
    simp [this]

def cut (p : List UInt8) : Nat → Nat
  | 0 => 0
  | n + 1 => if p.getD n 0 = 255 then cut p n else n + 1
def endB (p : List UInt8) : A := if cut p p.length = 0 then .tup [.str [], .bool false] else .tup [.str (p.take (cut p p.length - 1) ++ [p.getD (cut p p.length - 1) 0 + 1]), .bool true]

theorem ok13 : codeOK Try.prog Try.f13.ntmps (Try.f13.body.getD .skip) = true := by kernel_rfl
theorem c13 {Γ : Tab} (hΓ : TabOK Try.prog Γ) (p : List UInt8) (hp : p.length ≤ 9223372036854775807) : CallA Try.prog 13 [.str p] (· = endB p) := by
  refine callA_of_body hΓ mixed Try.func13 rfl (Nat.le_of_ble_eq_true rfl) ok13 ?_
  unfold Try.f13
  simp (maxSteps := 2000000) (disch := omega) only [go_sem, ↓reduceIte, Nat.reduceEqDiff, reduceCtorEq, Nat.reduceAdd, Nat.reduceSub, Nat.reduceLeDiff, Nat.reduceLT, Int.reduceLE, Int.reduceLT, Int.reduceBEq, Int.reduceBNe, Int.reduceAdd, Int.reduceSub, Int.reduceNeg, decide_true, decide_false, ne_eq, Nat.succ_ne_self, Nat.one_ne_zero, beq_true, beq_false, Nat.zero_add, Int.toNat_zero, List.drop_zero, Bool.not_true, Bool.not_false, Bool.false_eq_true, true_implies, false_implies, implies_true, not_true_eq_false, not_false_eq_true, and_true, true_and, and_self, ty9, Option.getD]
  refine wpA_loop [0] (ι := {k : Nat // k ≤ p.length ∧ cut p p.length = cut p k}) (fun k => [(4, .int .i64 k.1)]) (fun _ => []) (fun k => k.1) ⟨p.length, by simp⟩ ?_ ?_
  · simp (maxSteps := 2000000) (disch := omega) only [go_sem, ↓reduceIte, Nat.reduceEqDiff, reduceCtorEq, Nat.reduceAdd, Nat.reduceSub, Nat.reduceLeDiff, Nat.reduceLT, Int.reduceLE, Int.reduceLT, Int.reduceBEq, Int.reduceBNe, Int.reduceAdd, Int.reduceSub, Int.reduceNeg, decide_true, decide_false, ne_eq, Nat.succ_ne_self, Nat.one_ne_zero, beq_true, beq_false, Nat.zero_add, Int.toNat_zero, List.drop_zero, Bool.not_true, Bool.not_false, Bool.false_eq_true, true_implies, false_implies, implies_true, not_true_eq_false, not_false_eq_true, and_true, true_and, and_self]
  · rintro ⟨k, hk, hc⟩
    cases k with
    | zero =>
      have z : ((0 : Nat) : Int) = 0 := rfl
      have h0 : ¬ (0 : Int) < 0 := by omega
      have hz : ((0 : Int) == 0) = true := rfl
      simp (maxSteps := 2000000) (disch := omega) only [go_sem, ↓reduceIte, Nat.reduceEqDiff, reduceCtorEq, Nat.reduceAdd, Nat.reduceSub, Nat.reduceLeDiff, Nat.reduceLT, Int.reduceLE, Int.reduceLT, Int.reduceBEq, Int.reduceBNe, Int.reduceAdd, Int.reduceSub, Int.reduceNeg, decide_true, decide_false, ne_eq, Nat.succ_ne_self, Nat.one_ne_zero, beq_true, beq_false, Nat.zero_add, Int.toNat_zero, List.drop_zero, Bool.not_true, Bool.not_false, Bool.false_eq_true, true_implies, false_implies, implies_true, not_true_eq_false, not_false_eq_true, and_true, true_and, and_self, ty9, z, h0, hz]
      simp [endB, hc, cut]
    | succ k =>
      have h0 : (0 : Int) < ((k + 1 : Nat) : Int) := by omega
      have h1 : ((k + 1 : Nat) : Int) - 1 = (k : Int) := by omega
      have hz : (((k + 1 : Nat) : Int) == 0) = false := by simp; omega
      have e1 : p[k]? = some p[k] := List.getElem?_eq_getElem (by omega)
      by_cases h255 : p[k] = 255
      · have he : (((p[k]).toNat : Int) == 255) = true := by rw [h255]; rfl
        simp (maxSteps := 2000000) (disch := omega) only [go_sem, ↓reduceIte, Nat.reduceEqDiff, reduceCtorEq, Nat.reduceAdd, Nat.reduceSub, Nat.reduceLeDiff, Nat.reduceLT, Int.reduceLE, Int.reduceLT, Int.reduceBEq, Int.reduceBNe, Int.reduceAdd, Int.reduceSub, Int.reduceNeg, decide_true, decide_false, ne_eq, Nat.succ_ne_self, Nat.one_ne_zero, beq_true, beq_false, Nat.zero_add, Int.toNat_zero, List.drop_zero, Bool.not_true, Bool.not_false, Bool.false_eq_true, true_implies, false_implies, implies_true, not_true_eq_false, not_false_eq_true, and_true, true_and, and_self, ty9, h0, h1, he, wrap_i64, Int.toNat_natCast, Int.natCast_nonneg, encU8]
        refine ⟨⟨k, by omega, ?_⟩, rfl, by simp⟩
        rw [hc]
        simp [cut, e1, h255]
      · have he : (((p[k]).toNat : Int) == 255) = false := by
          simp only [beq_eq_false_iff_ne, ne_eq]
          intro h
          apply h255
          apply UInt8.toNat_inj.1
          have : (p[k]).toNat = 255 := by omega
          rw [this]; rfl
        have ht : (p.take (k + 1)).length = k + 1 := by simp; omega
        have hb : (bytesA (p.take (k + 1)))[k]? = some (encU8 p[k]) := by simp [bytesA, e1]
        have hkk : (0 : Int) ≤ 0 := by omega
        have hle : ((k + 1 : Nat) : Int) ≤ (p.length : Int) := by omega
        have hlt : (k : Int) < ((k + 1 : Nat) : Int) := by omega
        have hcut : cut p p.length = k + 1 := by rw [hc]; simp [cut, e1, h255]
        have hw := inc_u8 h255
        have hset := setNth_bytes (p.take (k + 1)) k (p[k] + 1)
        have hlen : (bytesA ((p.take (k + 1)).set k (p[k] + 1))).length = k + 1 := by rw [bytesA_len, List.length_set, ht]
        have htk : List.take (k + 1) (bytesA ((p.take (k + 1)).set k (p[k] + 1))) = bytesA ((p.take (k + 1)).set k (p[k] + 1)) := List.take_of_length_le (by omega)
        have hone : (1 : Nat) ≠ 0 := by omega
        have hkk' : k + 1 ≤ k + 1 := Nat.le_refl _
        simp (maxSteps := 2000000) (disch := omega) only [go_sem, ↓reduceIte, Nat.reduceEqDiff, reduceCtorEq, Nat.reduceAdd, Nat.reduceSub, Nat.reduceLeDiff, Nat.reduceLT, Int.reduceLE, Int.reduceLT, Int.reduceBEq, Int.reduceBNe, Int.reduceAdd, Int.reduceSub, Int.reduceNeg, decide_true, decide_false, ne_eq, Nat.succ_ne_self, Nat.one_ne_zero, beq_true, beq_false, Nat.zero_add, Int.toNat_zero, List.drop_zero, Bool.not_true, Bool.not_false, Bool.false_eq_true, true_implies, false_implies, implies_true, not_true_eq_false, not_false_eq_true, and_true, true_and, and_self, hcut, hw, hset, hlen, htk, hkk', bytesOfA_bytesA, convB, Option.map_some, ty9, h0, h1, he, hz, ht, hb, hkk, hle, hlt, wrap_i64, Int.toNat_natCast, Int.natCast_nonneg, encU8, ty46, el46, ar46, ar9, sz5, ag5, sb, sb', bs, Option.isNone_none]
        rw [endB, if_neg (by rw [hcut]; omega), hcut]
        simp only [Nat.add_sub_cancel]
        have : p.getD k 0 = p[k] := by simp [e1]
        rw [this, take_set (by omega)]

theorem tab0 : TabOK Try.prog (fun _ _ => none) := fun f xs r h => by simp at h
def T1 : Tab := fun f xs =>
  match f, xs with
  | 11, [.str s] => if s.length < 9223372036854775807 then some (.str (s ++ [0])) else none
  | 13, [.str p] => if p.length ≤ 9223372036854775807 then some (endB p) else none
  | 16, [.str a, .str b] => if a.length ≤ 9223372036854775807 ∧ b.length ≤ 9223372036854775807 then some (.int .i64 (cmpB a b)) else none
  | 17, [.str s] => if s.length < 9223372036854775807 then some (.bool (decide (1 ≤ s.length ∧ s.length ≤ 16))) else none
  | _, _ => none
theorem T1_11 {s : List UInt8} (h : s.length < 9223372036854775807) : T1 11 [.str s] = some (.str (s ++ [0])) := by simp [T1, h]
theorem T1_13 {p : List UInt8} (h : p.length ≤ 9223372036854775807) : T1 13 [.str p] = some (endB p) := by simp [T1, h]
theorem T1_16 {a b : List UInt8} (h : a.length ≤ 9223372036854775807) (h' : b.length ≤ 9223372036854775807) : T1 16 [.str a, .str b] = some (.int .i64 (cmpB a b)) := by simp [T1, h, h']
theorem T1_17 {s : List UInt8} (h : s.length < 9223372036854775807) : T1 17 [.str s] = some (.bool (decide (1 ≤ s.length ∧ s.length ≤ 16))) := by simp [T1, h]
theorem can11 : Callable Try.prog 11 := ⟨Try.f11, Try.func11, by kernel_rfl, by kernel_rfl⟩
theorem can13 : Callable Try.prog 13 := ⟨Try.f13, Try.func13, by kernel_rfl, by kernel_rfl⟩
theorem can16 : Callable Try.prog 16 := ⟨Try.f16, Try.func16, by kernel_rfl, by kernel_rfl⟩
theorem can17 : Callable Try.prog 17 := ⟨Try.f17, Try.func17, by kernel_rfl, by kernel_rfl⟩
theorem tab1 : TabOK Try.prog T1 := fun f xs r h => by
  unfold T1 at h
  split at h
  · split at h
    · rename_i hl; obtain rfl := Option.some.inj h; exact ⟨can11, c11 tab0 _ hl⟩
    · simp at h
  · split at h
    · rename_i hl; obtain rfl := Option.some.inj h; exact ⟨can13, c13 tab0 _ hl⟩
    · simp at h
  · split at h
    · rename_i hl; obtain rfl := Option.some.inj h; exact ⟨can16, c16 tab0 _ _ hl.1 hl.2⟩
    · simp at h
  · split at h
    · rename_i hl; obtain rfl := Option.some.inj h; exact ⟨can17, c17 tab0 _ hl⟩
    · simp at h
  · simp at h
end Go.Proofs.Ytddkjenabjplmaa
