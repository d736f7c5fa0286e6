/- Chapter 14: sets of versions, replica by replica. Plain Lean. -/
import Derived.Test.YtbnmicpgbcfooaaK13Q
import Derived.Test.YtbnmicpgbcfooaaK13S
namespace Go.Proofs.Ytbnmicpgbcfooaa
open Go.Abs
set_option linter.unusedSimpArgs false
set_option linter.unusedVariables false

structure Known where
  n : Int
  rs : List Run
  deriving DecidableEq
instance : Inhabited Known := ⟨⟨0, []⟩⟩
def Known.cells (k : Known) : List A := [.int .i64 k.n, .slc (k.rs.map Run.enc)]
def Known.enc (k : Known) : A := .agg k.cells
/-- All runs of a replica. -/
def runsK : List Known → Int → List Run
  | [], _ => []
  | k :: s, n => if k.n = n then k.rs ++ runsK s n else runsK s n
theorem runsK_append : ∀ (s t : List Known) (n : Int), runsK (s ++ t) n = runsK s n ++ runsK t n
  | [], _, _ => rfl
  | k :: s, t, n => by
    simp only [List.cons_append, runsK, runsK_append s t n]
    split
    · rw [List.append_assoc]
    · rfl
def repOK (n : Int) : Bool := decide (1 ≤ n) && decide (n ≤ 16)
theorem repOK_iff {n : Int} : repOK n = true ↔ 1 ≤ n ∧ n ≤ 16 := by simp [repOK]
/-- Has a set a version? -/
def hasK (s : List Known) (n c : Int) : Bool := repOK n && hasL13 (runsK s n) c
def oneK (p : Int) (k : Known) : Bool := repOK k.n && decide (p < k.n) && !k.rs.isEmpty && rightL k.rs
def goK : Int → List Known → Bool
  | _, [] => true
  | p, k :: s => oneK p k && goK k.n s
/-- Is a set right? -/
def rightK (s : List Known) : Bool := goK 0 s

/-- The first k replicas' right runs, as a set. -/
def mkT (t : Int → List Run) : Nat → List Known
  | 0 => []
  | k + 1 => if (t (k + 1)).isEmpty then mkT t k else mkT t k ++ [⟨k + 1, t (k + 1)⟩]
def setT (t : Int → List Run) : List Known := mkT t 16
theorem mkT_len (t : Int → List Run) : ∀ k, (mkT t k).length ≤ k
  | 0 => Nat.le_refl _
  | k + 1 => by
    have := mkT_len t k
    simp only [mkT]; split
    · omega
    · simp; omega
theorem mkT_runs (t : Int → List Run) (n : Int) : ∀ k : Nat, runsK (mkT t k) n = if 1 ≤ n ∧ n ≤ k then t n else []
  | 0 => by
    rw [if_neg (by omega)]; rfl
  | k + 1 => by
    have ih := mkT_runs t n k
    simp only [mkT]
    by_cases e : n = k + 1
    · subst e
      rw [if_neg (by omega)] at ih
      rw [if_pos (show 1 ≤ (k : Int) + 1 ∧ (k : Int) + 1 ≤ ((k + 1 : Nat) : Int) by omega)]
      by_cases h : (t (k + 1)).isEmpty = true
      · rw [if_pos h, ih]; exact (List.isEmpty_iff.1 h).symm
      · rw [if_neg h, runsK_append, ih]; simp [runsK]
    · have h2 : (1 ≤ n ∧ n ≤ ((k + 1 : Nat) : Int)) ↔ (1 ≤ n ∧ n ≤ (k : Int)) := by omega
      split
      · rw [ih]; simp only [h2]
      · rw [runsK_append, ih]
        have : runsK [⟨(k : Int) + 1, t (k + 1)⟩] n = [] := by simp only [runsK]; rw [if_neg (by omega)]
        rw [this, List.append_nil]; simp only [h2]
theorem setT_runs (t : Int → List Run) (n : Int) : runsK (setT t) n = if repOK n = true then t n else [] := by
  unfold setT
  rw [mkT_runs]
  simp only [repOK_iff]; rfl
theorem goK_snoc : ∀ (s : List Known) (p : Int) (k : Known), goK p (s ++ [k]) = (goK p s && oneK (match s.getLast? with | some q => q.n | none => p) k)
  | [], p, k => by simp [goK]
  | q :: s, p, k => by
    simp only [List.cons_append, goK, goK_snoc s q.n k, Bool.and_assoc]
    congr 2
    cases h : s.getLast? with
    | none => rw [List.getLast?_cons]; simp [h]
    | some x => rw [List.getLast?_cons]; simp [h]
theorem mkT_mem {t : Int → List Run} {x : Known} : ∀ {k : Nat}, x ∈ mkT t k → 1 ≤ x.n ∧ x.n ≤ k ∧ x.rs = t x.n ∧ x.rs ≠ []
  | 0, h => by cases h
  | k + 1, h => by
    simp only [mkT] at h
    split at h
    · have := mkT_mem h
      exact ⟨this.1, by omega, this.2.2⟩
    · rename_i hne
      rcases List.mem_append.1 h with h | h
      · have := mkT_mem h
        exact ⟨this.1, by omega, this.2.2⟩
      · simp only [List.mem_singleton] at h
        subst h
        exact ⟨by show (1 : Int) ≤ (k : Int) + 1; omega, by show (k : Int) + 1 ≤ ((k + 1 : Nat) : Int); omega, rfl, fun e => hne (List.isEmpty_iff.2 e)⟩
theorem mkT_right {t : Int → List Run} (h : ∀ n, rightL (t n) = true) : ∀ {k : Nat}, k ≤ 16 → goK 0 (mkT t k) = true
  | 0, _ => rfl
  | k + 1, hk => by
    have ih := mkT_right (t := t) h (k := k) (by omega)
    simp only [mkT]
    split
    · exact ih
    · rename_i hne
      rw [goK_snoc, ih, Bool.true_and]
      simp only [oneK, h, Bool.and_true, Bool.and_eq_true, decide_eq_true_iff, repOK_iff]
      refine ⟨⟨by omega, ?_⟩, by simpa using hne⟩
      split
      · rename_i q hq
        have := mkT_mem (List.mem_of_getLast? hq)
        omega
      · omega
theorem setT_right {t : Int → List Run} (h : ∀ n, rightL (t n) = true) : rightK (setT t) = true := mkT_right h (Nat.le_refl _)
theorem mkT_congr {t u : Int → List Run} : ∀ {k : Nat}, (∀ n : Int, 1 ≤ n → n ≤ k → t n = u n) → mkT t k = mkT u k
  | 0, _ => rfl
  | k + 1, h => by
    have ih := mkT_congr (t := t) (u := u) (k := k) (fun n h1 h2 => h n h1 (by omega))
    have e := h (k + 1) (by omega) (by omega)
    simp only [mkT, ih, e]
theorem setT_congr {t u : Int → List Run} (h : ∀ n, repOK n = true → t n = u n) : setT t = setT u := mkT_congr fun n h1 h2 => h n (repOK_iff.2 ⟨h1, by omega⟩)
theorem setT_inj {t u : Int → List Run} (h : setT t = setT u) : ∀ n, repOK n = true → t n = u n := fun n hn => by
  have h1 := setT_runs t n
  have h2 := setT_runs u n
  rw [h, h2, hn] at h1
  simpa using h1.symm
theorem goK_runs : ∀ {s : List Known} {p n : Int}, goK p s = true → n ≤ p → runsK s n = []
  | [], _, _, _, _ => rfl
  | k :: s, p, n, h, hn => by
    simp only [goK, oneK, Bool.and_eq_true, decide_eq_true_iff] at h
    simp only [runsK]
    rw [if_neg (by omega)]
    exact goK_runs h.2 (by omega)
theorem goK_rr : ∀ {s : List Known} {p : Int}, goK p s = true → ∀ n, rightL (runsK s n) = true
  | [], _, _, _ => rfl
  | k :: s, p, h, n => by
    simp only [goK, oneK, Bool.and_eq_true, decide_eq_true_iff] at h
    simp only [runsK]
    split
    · rename_i e
      rw [goK_runs h.2 (Int.le_of_eq e.symm), List.append_nil]; exact h.1.2
    · exact goK_rr h.2 n
/-- A right set is the set of its table. -/
theorem goK_mk : ∀ {s : List Known} {p : Nat}, goK p s = true → p ≤ 16 → setT (runsK s) = (mkT (runsK s) p) ++ s
  | [], p, _, hp => by
    have e : ∀ k, mkT (runsK []) k = [] := fun k => by
      induction k with
      | zero => rfl
      | succ k ih =>
        have e : (runsK [] ((k : Int) + 1)).isEmpty = true := rfl
        simp only [mkT, e, if_true]; exact ih
    unfold setT; rw [e, e]; rfl
  | k :: s, p, h, hp => by
    have h0 := h
    simp only [goK, oneK, Bool.and_eq_true, decide_eq_true_iff] at h
    obtain ⟨⟨⟨⟨h1, h2⟩, h3⟩, h4⟩, h5⟩ := h
    rw [repOK_iff] at h1
    obtain ⟨m, hm⟩ : ∃ m : Nat, k.n = ((m + 1 : Nat) : Int) := ⟨(k.n - 1).toNat, by omega⟩
    have hrun : runsK (k :: s) k.n = k.rs := by
      simp only [runsK, if_true]; rw [goK_runs h5 (Int.le_refl _), List.append_nil]
    have hrest : ∀ n, k.n < n → runsK (k :: s) n = runsK s n := fun n hn => by
      simp only [runsK]; rw [if_neg (by omega)]
    have hlow : ∀ n, n < k.n → runsK (k :: s) n = [] := fun n hn => by
      simp only [runsK]; rw [if_neg (by omega)]; exact goK_runs h5 (by omega)
    -- up to the first replica nothing
    have hz : ∀ j : Nat, (j : Int) < k.n → mkT (runsK (k :: s)) j = [] := fun j => by
      induction j with
      | zero => intro _; rfl
      | succ j ih =>
        intro hj
        simp only [mkT]
        rw [ih (by omega), hlow _ (by omega)]; rfl
    have hzs : ∀ j : Nat, (j : Int) ≤ k.n → mkT (runsK s) j = [] := fun j => by
      induction j with
      | zero => intro _; rfl
      | succ j ih =>
        intro hj
        simp only [mkT]
        rw [ih (by omega), goK_runs h5 (by omega)]; rfl
    have hup : ∀ j : Nat, m + 1 ≤ j → mkT (runsK (k :: s)) j = k :: mkT (runsK s) j := fun j => by
      induction j with
      | zero => intro hj; omega
      | succ j ih =>
        intro hj
        rcases Nat.lt_or_eq_of_le hj with hj | hj
        · have hh := ih (by omega)
          have e := hrest (((j : Nat) : Int) + 1) (by omega)
          simp only [mkT]
          rw [hh, e]
          split <;> simp
        · have e1 : j = m := by omega
          subst e1
          have e2 : ((j : Nat) : Int) + 1 = k.n := by omega
          rw [hzs (j + 1) (by omega)]
          simp only [mkT]
          rw [e2, hrun, hz j (by omega)]
          cases hrs : k.rs with
          | nil => rw [hrs] at h3; simp at h3
          | cons r rs =>
            rw [if_neg (by simp)]
            cases k; simp_all
    have ih := goK_mk (s := s) (p := m + 1) (by rw [← hm]; exact h5) (by omega)
    rw [hzs (m + 1) (by omega)] at ih
    rw [hz p (by omega)]
    unfold setT at ih ⊢
    rw [hup 16 (by omega), ih]; rfl
theorem right_setT {s : List Known} (h : rightK s = true) : setT (runsK s) = s := by
  have := goK_mk (s := s) (p := 0) h (by omega)
  simpa [mkT] using this
/-- A right set, by what it has. -/
theorem right_setK {s : List Known} (h : rightK s = true) : setT (fun n => setR (hasL13 (runsK s n))) = s := by
  have e := right_setT h
  rw [← setT_congr (t := runsK s) fun n _ => setR_eq (goK_rr h n) fun _ => rfl]
  exact e
theorem setT_has {p : Int → Int → Bool} (h : ∀ n, IsR (p n)) (n c : Int) : hasK (setT fun n => setR (p n)) n c = (repOK n && p n c) := by
  unfold hasK
  cases hn : repOK n with
  | false => rfl
  | true => rw [setT_runs, hn]; simp only [if_true, Bool.true_and]; exact setR_has (h n) c
end Go.Proofs.Ytbnmicpgbcfooaa
