/- What the laws of this claim rest on: the abstract executor, its soundness, and what the functions compute on pure data. No condition. -/
import Derived.Test.YthiedimbmcgpdaaDoorU4
import Derived.Test.YthiedimbmcgpdaaDoorChecked
import Derived.Shelf.Strings.BuilderK
import Derived.WalkKit
import Derived.WalkSpells
import Derived.BigCall
import Derived.BigGuard
set_option linter.unusedVariables false
set_option linter.unusedSimpArgs false
namespace Go.Proofs.YthiedimbmcgpdaaDoor
open Go.Abs
set_option linter.unusedSimpArgs false
set_option linter.unusedVariables false
set_option maxRecDepth 20000
set_option maxHeartbeats 8000000
def parseA (line : List UInt8) : A := match parseE line with | some v => .tup [v.enc, .int .i64 0] | none => .tup [Ev.nil.enc, .int .i64 11]
theorem parseA_no {line : List UInt8} (h : parseE line = none) : parseA line = .tup [.agg [.int .i64 0, .int .i64 0, .int .i64 0, .bool false, .slc []], .int .i64 11] := by unfold parseA; rw [h]; rfl
theorem parseA_yes {line : List UInt8} {v : Ev} (h : parseE line = some v) : parseA line = .tup [v.enc, .int .i64 0] := by unfold parseA; rw [h]
theorem lineA_no {v : Ev} (h : rightE v = false) : lineA v = .tup [.str [], .int .i64 2] := by unfold lineA; rw [if_neg (by rw [h]; decide)]
theorem lineA_yes {v : Ev} (h : rightE v = true) : lineA v = .tup [.str (lineE v), .int .i64 0] := by unfold lineA; rw [if_pos h]
theorem kindL_in (x last : List UInt8) : kindL x last = 1 ∨ kindL x last = 2 ∨ kindL x last = 3 ∨ kindL x last = 4 ∨ kindL x last = 5 ∨ kindL x last = 6 ∨ kindL x last = 7 ∨ kindL x last = 8 := by
  unfold kindL
  repeat' split
  all_goals simp
def oneI : List (List UInt8) → Int
  | y :: _ => numS y
  | [] => 0
def candK (k one : Int) (last : List UInt8) : Ev := if k = 2 ∨ k = 3 then ⟨k, one, 0, decide (last = keepT), []⟩ else if k = 4 ∨ k = 7 then ⟨k, numS last, one, false, []⟩ else if k = 8 then ⟨k, 0, one, false, (readW last).getD []⟩ else ⟨k, 0, 0, false, []⟩
theorem cand_eq (x : List UInt8) (r : List (List UInt8)) : candE x r = candK (kindL x ((x :: r).getLast (by simp))) (oneI r) ((x :: r).getLast (by simp)) := by
  cases r <;> rfl
theorem keep_beq (l : List UInt8) : (l == [107, 101, 101, 112]) = decide (l = keepT) := by rw [Bool.eq_iff_iff, beq_iff_eq, decide_eq_true_iff]; exact Iff.rfl
theorem bytesA_nil : bytesA [] = [] := rfl
theorem ok_script_Parse : codeOK Tryd.prog T41l Tryd.f18.ntmps (Tryd.f18.body.getD .skip) = true := by kernel_rfl
theorem c_script_Parse (line : List UInt8) (hs : line.length ≤ 90000) : CallA Tryd.prog 18 [.str line] (· = parseA line) := by
  refine callA_of_body T41l_ok mixed Tryd.func18 rfl (Nat.le_of_ble_eq_true rfl) ok_script_Parse ?_
  unfold Tryd.f18
  have g0 := t5_Split (s := line) (by omega)
  cases hw : wordsW line with
  | none =>
    rw [hw] at g0
    simp only [wordsA] at g0
    rw [parseA_no (by unfold parseE; rw [hw])]
    simp -implicitDefEqProofs (disch := (first | omega | decide)) only [go_sem, ↓reduceIte, seval, g0]
  | some l =>
    rw [hw] at g0
    simp only [wordsA] at g0
    obtain ⟨hmay, hline⟩ := words_some hw
    have hcnt := line_cnt l
    rw [hline] at hcnt
    have hmem : ∀ y ∈ l, y.length ≤ 90000 := fun y hy => by
      have := mem_line hy
      rw [hline] at this; omega
    cases l with
    | nil =>
      rw [parseA_no (by unfold parseE; rw [hw])]
      simp only [List.map_nil] at g0
      simp -implicitDefEqProofs (disch := (first | omega | decide)) only [go_sem, ↓reduceIte, seval, g0]
    | cons x r =>
      have fin : ∀ C, candE x r = C → parseE line = if rightE C = true ∧ lineE C = line then some C else none := by
        intro C hC
        unfold parseE; rw [hw]; simp only [hC]
      have gk := t41_kind (x := x) (r := r) (by simp at hcnt; omega)
      have hg := last_get x r
      have hlm : ((x :: r).getLast (by simp)).length ≤ 90000 := hmem _ (List.getLast_mem _)
      have hce := cand_eq x r
      have hr1 : r = [] ∨ ∃ y r', r = y :: r' := by cases r <;> simp
      have hlen : ((x :: r).map A.str).length = r.length + 1 := by simp
      have c1 : ((r.length : Int) + 1 - 1) = (r.length : Int) := by omega
      have c2 : (0 : Int) ≤ (r.length : Int) := by omega
      have c3 : ((r.length + 1 : Nat) : Int) = (r.length : Int) + 1 := by omega
      have c4 : (((r.length : Int) + 1) == 0) = false := by rw [beq_eq_false_iff_ne]; omega
      have c5 : (r.length : Int) + 1 < 100000 := by simp at hcnt; omega
      have hk := kindL_in x ((x :: r).getLast (by simp))
      generalize hlt : (x :: r).getLast (by simp) = last at *
      have gl1 := t41_number (s := last) (by omega)
      have gl2 := t5_Read (s := last) (by omega)
      have gy : ∀ y r', r = y :: r' → ((x :: r).map A.str)[1]? = some (.str y) ∧ T41e.f 35 [.str y] = some (.tup [.int .i64 (numS y : Int), .bool (numF y)]) ∧ (1 : Int) < (r.length : Int) + 1 := by
        intro y r' e
        subst e
        exact ⟨rfl, t41_number (by have := hmem y (by simp); omega), by simp; omega⟩
      generalize hL : (x :: r).map A.str = L at *
      rcases hk with hk | hk | hk | hk | hk | hk | hk | hk <;> rw [hk] at gk hce
      · have hC := fin (⟨1, 0, 0, false, []⟩ : Ev) hce
        have gl := t41_Line (v := (⟨1, 0, 0, false, []⟩ : Ev)) (by simp)
        simp -implicitDefEqProofs (maxSteps := 600000) (disch := (first | omega | decide)) only [go_sem, ↓reduceIte, seval, g0, gk, hg, hlen, c1, c2, c3, c4, wrap_i64]
        cases hrt : rightE (⟨1, 0, 0, false, []⟩ : Ev) with
        | false =>
          rw [lineA_no hrt] at gl
          rw [if_neg (fun h => absurd h.1 (by rw [hrt]; decide))] at hC
          rw [parseA_no hC]
          simp only [Ev.enc, bytesA_nil] at gl
          simp -implicitDefEqProofs (maxSteps := 600000) (disch := (first | omega | decide)) only [go_sem, ↓reduceIte, seval, gl, bytesA_nil]
          try rfl
        | true =>
          rw [lineA_yes hrt] at gl
          by_cases he : lineE (⟨1, 0, 0, false, []⟩ : Ev) = line
          · rw [if_pos ⟨hrt, he⟩] at hC
            rw [parseA_yes hC]
            rw [he] at gl
            simp only [Ev.enc, bytesA_nil] at gl ⊢
            simp -implicitDefEqProofs (maxSteps := 600000) (disch := (first | omega | decide)) only [go_sem, ↓reduceIte, seval, gl, bytesA_nil]
            try rfl
          · rw [if_neg (fun h => he h.2)] at hC
            rw [parseA_no hC]
            have he' : (lineE (⟨1, 0, 0, false, []⟩ : Ev) == line) = false := beq_eq_false_iff_ne.2 he
            simp only [Ev.enc, bytesA_nil] at gl
            generalize lineE (⟨1, 0, 0, false, []⟩ : Ev) = ln at *
            simp -implicitDefEqProofs (maxSteps := 600000) (disch := (first | omega | decide)) only [go_sem, ↓reduceIte, seval, gl, he', bytesA_nil]
            try rfl
      · rcases hr1 with hr0 | ⟨y, r', hr0⟩
        · have ho : oneI r = 0 := by rw [hr0]; rfl
          have n0 : ¬ (1 : Int) < (r.length : Int) + 1 := by rw [hr0]; simp
          rw [ho] at hce
          have hC := fin (⟨2, 0, 0, decide (last = keepT), []⟩ : Ev) hce
          have gl := t41_Line (v := (⟨2, 0, 0, decide (last = keepT), []⟩ : Ev)) (by simp)
          simp -implicitDefEqProofs (maxSteps := 600000) (disch := (first | omega | decide)) only [go_sem, ↓reduceIte, seval, g0, gk, hg, hlen, c1, c2, c3, c4, wrap_i64, keep_beq, n0]
          cases hrt : rightE (⟨2, 0, 0, decide (last = keepT), []⟩ : Ev) with
          | false =>
            rw [lineA_no hrt] at gl
            rw [if_neg (fun h => absurd h.1 (by rw [hrt]; decide))] at hC
            rw [parseA_no hC]
            simp only [Ev.enc, bytesA_nil] at gl
            simp -implicitDefEqProofs (maxSteps := 600000) (disch := (first | omega | decide)) only [go_sem, ↓reduceIte, seval, gl, bytesA_nil]
            try rfl
          | true =>
            rw [lineA_yes hrt] at gl
            by_cases he : lineE (⟨2, 0, 0, decide (last = keepT), []⟩ : Ev) = line
            · rw [if_pos ⟨hrt, he⟩] at hC
              rw [parseA_yes hC]
              rw [he] at gl
              simp only [Ev.enc, bytesA_nil] at gl ⊢
              simp -implicitDefEqProofs (maxSteps := 600000) (disch := (first | omega | decide)) only [go_sem, ↓reduceIte, seval, gl, bytesA_nil]
              try rfl
            · rw [if_neg (fun h => he h.2)] at hC
              rw [parseA_no hC]
              have he' : (lineE (⟨2, 0, 0, decide (last = keepT), []⟩ : Ev) == line) = false := beq_eq_false_iff_ne.2 he
              simp only [Ev.enc, bytesA_nil] at gl
              generalize lineE (⟨2, 0, 0, decide (last = keepT), []⟩ : Ev) = ln at *
              simp -implicitDefEqProofs (maxSteps := 600000) (disch := (first | omega | decide)) only [go_sem, ↓reduceIte, seval, gl, he', bytesA_nil]
              try rfl
        · have ho : oneI r = (numS y : Int) := by rw [hr0]; rfl
          rw [ho] at hce
          have hC := fin (⟨2, (numS y : Int), 0, decide (last = keepT), []⟩ : Ev) hce
          obtain ⟨y1, y2, y3⟩ := gy y r' hr0
          have gl := t41_Line (v := (⟨2, (numS y : Int), 0, decide (last = keepT), []⟩ : Ev)) (by simp)
          simp -implicitDefEqProofs (maxSteps := 600000) (disch := (first | omega | decide)) only [go_sem, ↓reduceIte, seval, g0, gk, hg, hlen, c1, c2, c3, c4, wrap_i64, keep_beq, y1, y2, y3]
          cases hrt : rightE (⟨2, (numS y : Int), 0, decide (last = keepT), []⟩ : Ev) with
          | false =>
            rw [lineA_no hrt] at gl
            rw [if_neg (fun h => absurd h.1 (by rw [hrt]; decide))] at hC
            rw [parseA_no hC]
            simp only [Ev.enc, bytesA_nil] at gl
            simp -implicitDefEqProofs (maxSteps := 600000) (disch := (first | omega | decide)) only [go_sem, ↓reduceIte, seval, gl, bytesA_nil]
            try rfl
          | true =>
            rw [lineA_yes hrt] at gl
            by_cases he : lineE (⟨2, (numS y : Int), 0, decide (last = keepT), []⟩ : Ev) = line
            · rw [if_pos ⟨hrt, he⟩] at hC
              rw [parseA_yes hC]
              rw [he] at gl
              simp only [Ev.enc, bytesA_nil] at gl ⊢
              simp -implicitDefEqProofs (maxSteps := 600000) (disch := (first | omega | decide)) only [go_sem, ↓reduceIte, seval, gl, bytesA_nil]
              try rfl
            · rw [if_neg (fun h => he h.2)] at hC
              rw [parseA_no hC]
              have he' : (lineE (⟨2, (numS y : Int), 0, decide (last = keepT), []⟩ : Ev) == line) = false := beq_eq_false_iff_ne.2 he
              simp only [Ev.enc, bytesA_nil] at gl
              generalize lineE (⟨2, (numS y : Int), 0, decide (last = keepT), []⟩ : Ev) = ln at *
              simp -implicitDefEqProofs (maxSteps := 600000) (disch := (first | omega | decide)) only [go_sem, ↓reduceIte, seval, gl, he', bytesA_nil]
              try rfl
      · rcases hr1 with hr0 | ⟨y, r', hr0⟩
        · have ho : oneI r = 0 := by rw [hr0]; rfl
          have n0 : ¬ (1 : Int) < (r.length : Int) + 1 := by rw [hr0]; simp
          rw [ho] at hce
          have hC := fin (⟨3, 0, 0, decide (last = keepT), []⟩ : Ev) hce
          have gl := t41_Line (v := (⟨3, 0, 0, decide (last = keepT), []⟩ : Ev)) (by simp)
          simp -implicitDefEqProofs (maxSteps := 600000) (disch := (first | omega | decide)) only [go_sem, ↓reduceIte, seval, g0, gk, hg, hlen, c1, c2, c3, c4, wrap_i64, keep_beq, n0]
          cases hrt : rightE (⟨3, 0, 0, decide (last = keepT), []⟩ : Ev) with
          | false =>
            rw [lineA_no hrt] at gl
            rw [if_neg (fun h => absurd h.1 (by rw [hrt]; decide))] at hC
            rw [parseA_no hC]
            simp only [Ev.enc, bytesA_nil] at gl
            simp -implicitDefEqProofs (maxSteps := 600000) (disch := (first | omega | decide)) only [go_sem, ↓reduceIte, seval, gl, bytesA_nil]
            try rfl
          | true =>
            rw [lineA_yes hrt] at gl
            by_cases he : lineE (⟨3, 0, 0, decide (last = keepT), []⟩ : Ev) = line
            · rw [if_pos ⟨hrt, he⟩] at hC
              rw [parseA_yes hC]
              rw [he] at gl
              simp only [Ev.enc, bytesA_nil] at gl ⊢
              simp -implicitDefEqProofs (maxSteps := 600000) (disch := (first | omega | decide)) only [go_sem, ↓reduceIte, seval, gl, bytesA_nil]
              try rfl
            · rw [if_neg (fun h => he h.2)] at hC
              rw [parseA_no hC]
              have he' : (lineE (⟨3, 0, 0, decide (last = keepT), []⟩ : Ev) == line) = false := beq_eq_false_iff_ne.2 he
              simp only [Ev.enc, bytesA_nil] at gl
              generalize lineE (⟨3, 0, 0, decide (last = keepT), []⟩ : Ev) = ln at *
              simp -implicitDefEqProofs (maxSteps := 600000) (disch := (first | omega | decide)) only [go_sem, ↓reduceIte, seval, gl, he', bytesA_nil]
              try rfl
        · have ho : oneI r = (numS y : Int) := by rw [hr0]; rfl
          rw [ho] at hce
          have hC := fin (⟨3, (numS y : Int), 0, decide (last = keepT), []⟩ : Ev) hce
          obtain ⟨y1, y2, y3⟩ := gy y r' hr0
          have gl := t41_Line (v := (⟨3, (numS y : Int), 0, decide (last = keepT), []⟩ : Ev)) (by simp)
          simp -implicitDefEqProofs (maxSteps := 600000) (disch := (first | omega | decide)) only [go_sem, ↓reduceIte, seval, g0, gk, hg, hlen, c1, c2, c3, c4, wrap_i64, keep_beq, y1, y2, y3]
          cases hrt : rightE (⟨3, (numS y : Int), 0, decide (last = keepT), []⟩ : Ev) with
          | false =>
            rw [lineA_no hrt] at gl
            rw [if_neg (fun h => absurd h.1 (by rw [hrt]; decide))] at hC
            rw [parseA_no hC]
            simp only [Ev.enc, bytesA_nil] at gl
            simp -implicitDefEqProofs (maxSteps := 600000) (disch := (first | omega | decide)) only [go_sem, ↓reduceIte, seval, gl, bytesA_nil]
            try rfl
          | true =>
            rw [lineA_yes hrt] at gl
            by_cases he : lineE (⟨3, (numS y : Int), 0, decide (last = keepT), []⟩ : Ev) = line
            · rw [if_pos ⟨hrt, he⟩] at hC
              rw [parseA_yes hC]
              rw [he] at gl
              simp only [Ev.enc, bytesA_nil] at gl ⊢
              simp -implicitDefEqProofs (maxSteps := 600000) (disch := (first | omega | decide)) only [go_sem, ↓reduceIte, seval, gl, bytesA_nil]
              try rfl
            · rw [if_neg (fun h => he h.2)] at hC
              rw [parseA_no hC]
              have he' : (lineE (⟨3, (numS y : Int), 0, decide (last = keepT), []⟩ : Ev) == line) = false := beq_eq_false_iff_ne.2 he
              simp only [Ev.enc, bytesA_nil] at gl
              generalize lineE (⟨3, (numS y : Int), 0, decide (last = keepT), []⟩ : Ev) = ln at *
              simp -implicitDefEqProofs (maxSteps := 600000) (disch := (first | omega | decide)) only [go_sem, ↓reduceIte, seval, gl, he', bytesA_nil]
              try rfl
      · rcases hr1 with hr0 | ⟨y, r', hr0⟩
        · have ho : oneI r = 0 := by rw [hr0]; rfl
          have n0 : ¬ (1 : Int) < (r.length : Int) + 1 := by rw [hr0]; simp
          rw [ho] at hce
          have hC := fin (⟨4, (numS last : Int), 0, false, []⟩ : Ev) hce
          have gl := t41_Line (v := (⟨4, (numS last : Int), 0, false, []⟩ : Ev)) (by simp)
          simp -implicitDefEqProofs (maxSteps := 600000) (disch := (first | omega | decide)) only [go_sem, ↓reduceIte, seval, g0, gk, hg, hlen, c1, c2, c3, c4, wrap_i64, gl1, n0]
          cases hrt : rightE (⟨4, (numS last : Int), 0, false, []⟩ : Ev) with
          | false =>
            rw [lineA_no hrt] at gl
            rw [if_neg (fun h => absurd h.1 (by rw [hrt]; decide))] at hC
            rw [parseA_no hC]
            simp only [Ev.enc, bytesA_nil] at gl
            simp -implicitDefEqProofs (maxSteps := 600000) (disch := (first | omega | decide)) only [go_sem, ↓reduceIte, seval, gl, bytesA_nil]
            try rfl
          | true =>
            rw [lineA_yes hrt] at gl
            by_cases he : lineE (⟨4, (numS last : Int), 0, false, []⟩ : Ev) = line
            · rw [if_pos ⟨hrt, he⟩] at hC
              rw [parseA_yes hC]
              rw [he] at gl
              simp only [Ev.enc, bytesA_nil] at gl ⊢
              simp -implicitDefEqProofs (maxSteps := 600000) (disch := (first | omega | decide)) only [go_sem, ↓reduceIte, seval, gl, bytesA_nil]
              try rfl
            · rw [if_neg (fun h => he h.2)] at hC
              rw [parseA_no hC]
              have he' : (lineE (⟨4, (numS last : Int), 0, false, []⟩ : Ev) == line) = false := beq_eq_false_iff_ne.2 he
              simp only [Ev.enc, bytesA_nil] at gl
              generalize lineE (⟨4, (numS last : Int), 0, false, []⟩ : Ev) = ln at *
              simp -implicitDefEqProofs (maxSteps := 600000) (disch := (first | omega | decide)) only [go_sem, ↓reduceIte, seval, gl, he', bytesA_nil]
              try rfl
        · have ho : oneI r = (numS y : Int) := by rw [hr0]; rfl
          rw [ho] at hce
          have hC := fin (⟨4, (numS last : Int), (numS y : Int), false, []⟩ : Ev) hce
          obtain ⟨y1, y2, y3⟩ := gy y r' hr0
          have gl := t41_Line (v := (⟨4, (numS last : Int), (numS y : Int), false, []⟩ : Ev)) (by simp)
          simp -implicitDefEqProofs (maxSteps := 600000) (disch := (first | omega | decide)) only [go_sem, ↓reduceIte, seval, g0, gk, hg, hlen, c1, c2, c3, c4, wrap_i64, gl1, y1, y2, y3]
          cases hrt : rightE (⟨4, (numS last : Int), (numS y : Int), false, []⟩ : Ev) with
          | false =>
            rw [lineA_no hrt] at gl
            rw [if_neg (fun h => absurd h.1 (by rw [hrt]; decide))] at hC
            rw [parseA_no hC]
            simp only [Ev.enc, bytesA_nil] at gl
            simp -implicitDefEqProofs (maxSteps := 600000) (disch := (first | omega | decide)) only [go_sem, ↓reduceIte, seval, gl, bytesA_nil]
            try rfl
          | true =>
            rw [lineA_yes hrt] at gl
            by_cases he : lineE (⟨4, (numS last : Int), (numS y : Int), false, []⟩ : Ev) = line
            · rw [if_pos ⟨hrt, he⟩] at hC
              rw [parseA_yes hC]
              rw [he] at gl
              simp only [Ev.enc, bytesA_nil] at gl ⊢
              simp -implicitDefEqProofs (maxSteps := 600000) (disch := (first | omega | decide)) only [go_sem, ↓reduceIte, seval, gl, bytesA_nil]
              try rfl
            · rw [if_neg (fun h => he h.2)] at hC
              rw [parseA_no hC]
              have he' : (lineE (⟨4, (numS last : Int), (numS y : Int), false, []⟩ : Ev) == line) = false := beq_eq_false_iff_ne.2 he
              simp only [Ev.enc, bytesA_nil] at gl
              generalize lineE (⟨4, (numS last : Int), (numS y : Int), false, []⟩ : Ev) = ln at *
              simp -implicitDefEqProofs (maxSteps := 600000) (disch := (first | omega | decide)) only [go_sem, ↓reduceIte, seval, gl, he', bytesA_nil]
              try rfl
      · have hC := fin (⟨5, 0, 0, false, []⟩ : Ev) hce
        have gl := t41_Line (v := (⟨5, 0, 0, false, []⟩ : Ev)) (by simp)
        simp -implicitDefEqProofs (maxSteps := 600000) (disch := (first | omega | decide)) only [go_sem, ↓reduceIte, seval, g0, gk, hg, hlen, c1, c2, c3, c4, wrap_i64]
        cases hrt : rightE (⟨5, 0, 0, false, []⟩ : Ev) with
        | false =>
          rw [lineA_no hrt] at gl
          rw [if_neg (fun h => absurd h.1 (by rw [hrt]; decide))] at hC
          rw [parseA_no hC]
          simp only [Ev.enc, bytesA_nil] at gl
          simp -implicitDefEqProofs (maxSteps := 600000) (disch := (first | omega | decide)) only [go_sem, ↓reduceIte, seval, gl, bytesA_nil]
          try rfl
        | true =>
          rw [lineA_yes hrt] at gl
          by_cases he : lineE (⟨5, 0, 0, false, []⟩ : Ev) = line
          · rw [if_pos ⟨hrt, he⟩] at hC
            rw [parseA_yes hC]
            rw [he] at gl
            simp only [Ev.enc, bytesA_nil] at gl ⊢
            simp -implicitDefEqProofs (maxSteps := 600000) (disch := (first | omega | decide)) only [go_sem, ↓reduceIte, seval, gl, bytesA_nil]
            try rfl
          · rw [if_neg (fun h => he h.2)] at hC
            rw [parseA_no hC]
            have he' : (lineE (⟨5, 0, 0, false, []⟩ : Ev) == line) = false := beq_eq_false_iff_ne.2 he
            simp only [Ev.enc, bytesA_nil] at gl
            generalize lineE (⟨5, 0, 0, false, []⟩ : Ev) = ln at *
            simp -implicitDefEqProofs (maxSteps := 600000) (disch := (first | omega | decide)) only [go_sem, ↓reduceIte, seval, gl, he', bytesA_nil]
            try rfl
      · have hC := fin (⟨6, 0, 0, false, []⟩ : Ev) hce
        have gl := t41_Line (v := (⟨6, 0, 0, false, []⟩ : Ev)) (by simp)
        simp -implicitDefEqProofs (maxSteps := 600000) (disch := (first | omega | decide)) only [go_sem, ↓reduceIte, seval, g0, gk, hg, hlen, c1, c2, c3, c4, wrap_i64]
        cases hrt : rightE (⟨6, 0, 0, false, []⟩ : Ev) with
        | false =>
          rw [lineA_no hrt] at gl
          rw [if_neg (fun h => absurd h.1 (by rw [hrt]; decide))] at hC
          rw [parseA_no hC]
          simp only [Ev.enc, bytesA_nil] at gl
          simp -implicitDefEqProofs (maxSteps := 600000) (disch := (first | omega | decide)) only [go_sem, ↓reduceIte, seval, gl, bytesA_nil]
          try rfl
        | true =>
          rw [lineA_yes hrt] at gl
          by_cases he : lineE (⟨6, 0, 0, false, []⟩ : Ev) = line
          · rw [if_pos ⟨hrt, he⟩] at hC
            rw [parseA_yes hC]
            rw [he] at gl
            simp only [Ev.enc, bytesA_nil] at gl ⊢
            simp -implicitDefEqProofs (maxSteps := 600000) (disch := (first | omega | decide)) only [go_sem, ↓reduceIte, seval, gl, bytesA_nil]
            try rfl
          · rw [if_neg (fun h => he h.2)] at hC
            rw [parseA_no hC]
            have he' : (lineE (⟨6, 0, 0, false, []⟩ : Ev) == line) = false := beq_eq_false_iff_ne.2 he
            simp only [Ev.enc, bytesA_nil] at gl
            generalize lineE (⟨6, 0, 0, false, []⟩ : Ev) = ln at *
            simp -implicitDefEqProofs (maxSteps := 600000) (disch := (first | omega | decide)) only [go_sem, ↓reduceIte, seval, gl, he', bytesA_nil]
            try rfl
      · rcases hr1 with hr0 | ⟨y, r', hr0⟩
        · have ho : oneI r = 0 := by rw [hr0]; rfl
          have n0 : ¬ (1 : Int) < (r.length : Int) + 1 := by rw [hr0]; simp
          rw [ho] at hce
          have hC := fin (⟨7, (numS last : Int), 0, false, []⟩ : Ev) hce
          have gl := t41_Line (v := (⟨7, (numS last : Int), 0, false, []⟩ : Ev)) (by simp)
          simp -implicitDefEqProofs (maxSteps := 600000) (disch := (first | omega | decide)) only [go_sem, ↓reduceIte, seval, g0, gk, hg, hlen, c1, c2, c3, c4, wrap_i64, gl1, n0]
          cases hrt : rightE (⟨7, (numS last : Int), 0, false, []⟩ : Ev) with
          | false =>
            rw [lineA_no hrt] at gl
            rw [if_neg (fun h => absurd h.1 (by rw [hrt]; decide))] at hC
            rw [parseA_no hC]
            simp only [Ev.enc, bytesA_nil] at gl
            simp -implicitDefEqProofs (maxSteps := 600000) (disch := (first | omega | decide)) only [go_sem, ↓reduceIte, seval, gl, bytesA_nil]
            try rfl
          | true =>
            rw [lineA_yes hrt] at gl
            by_cases he : lineE (⟨7, (numS last : Int), 0, false, []⟩ : Ev) = line
            · rw [if_pos ⟨hrt, he⟩] at hC
              rw [parseA_yes hC]
              rw [he] at gl
              simp only [Ev.enc, bytesA_nil] at gl ⊢
              simp -implicitDefEqProofs (maxSteps := 600000) (disch := (first | omega | decide)) only [go_sem, ↓reduceIte, seval, gl, bytesA_nil]
              try rfl
            · rw [if_neg (fun h => he h.2)] at hC
              rw [parseA_no hC]
              have he' : (lineE (⟨7, (numS last : Int), 0, false, []⟩ : Ev) == line) = false := beq_eq_false_iff_ne.2 he
              simp only [Ev.enc, bytesA_nil] at gl
              generalize lineE (⟨7, (numS last : Int), 0, false, []⟩ : Ev) = ln at *
              simp -implicitDefEqProofs (maxSteps := 600000) (disch := (first | omega | decide)) only [go_sem, ↓reduceIte, seval, gl, he', bytesA_nil]
              try rfl
        · have ho : oneI r = (numS y : Int) := by rw [hr0]; rfl
          rw [ho] at hce
          have hC := fin (⟨7, (numS last : Int), (numS y : Int), false, []⟩ : Ev) hce
          obtain ⟨y1, y2, y3⟩ := gy y r' hr0
          have gl := t41_Line (v := (⟨7, (numS last : Int), (numS y : Int), false, []⟩ : Ev)) (by simp)
          simp -implicitDefEqProofs (maxSteps := 600000) (disch := (first | omega | decide)) only [go_sem, ↓reduceIte, seval, g0, gk, hg, hlen, c1, c2, c3, c4, wrap_i64, gl1, y1, y2, y3]
          cases hrt : rightE (⟨7, (numS last : Int), (numS y : Int), false, []⟩ : Ev) with
          | false =>
            rw [lineA_no hrt] at gl
            rw [if_neg (fun h => absurd h.1 (by rw [hrt]; decide))] at hC
            rw [parseA_no hC]
            simp only [Ev.enc, bytesA_nil] at gl
            simp -implicitDefEqProofs (maxSteps := 600000) (disch := (first | omega | decide)) only [go_sem, ↓reduceIte, seval, gl, bytesA_nil]
            try rfl
          | true =>
            rw [lineA_yes hrt] at gl
            by_cases he : lineE (⟨7, (numS last : Int), (numS y : Int), false, []⟩ : Ev) = line
            · rw [if_pos ⟨hrt, he⟩] at hC
              rw [parseA_yes hC]
              rw [he] at gl
              simp only [Ev.enc, bytesA_nil] at gl ⊢
              simp -implicitDefEqProofs (maxSteps := 600000) (disch := (first | omega | decide)) only [go_sem, ↓reduceIte, seval, gl, bytesA_nil]
              try rfl
            · rw [if_neg (fun h => he h.2)] at hC
              rw [parseA_no hC]
              have he' : (lineE (⟨7, (numS last : Int), (numS y : Int), false, []⟩ : Ev) == line) = false := beq_eq_false_iff_ne.2 he
              simp only [Ev.enc, bytesA_nil] at gl
              generalize lineE (⟨7, (numS last : Int), (numS y : Int), false, []⟩ : Ev) = ln at *
              simp -implicitDefEqProofs (maxSteps := 600000) (disch := (first | omega | decide)) only [go_sem, ↓reduceIte, seval, gl, he', bytesA_nil]
              try rfl
      · rcases hr1 with hr0 | ⟨y, r', hr0⟩
        · have ho : oneI r = 0 := by rw [hr0]; rfl
          have n0 : ¬ (1 : Int) < (r.length : Int) + 1 := by rw [hr0]; simp
          rw [ho] at hce
          cases hrd : readW last with
          | none =>
            rw [hrd] at gl2
            simp only [rdA] at gl2
            have hC := fin (⟨8, 0, 0, false, []⟩ : Ev) (by rw [hce]; unfold candK; rw [hrd]; rfl)
            have gl := t41_Line (v := (⟨8, 0, 0, false, []⟩ : Ev)) (by simp)
            have v1 : (bytesA []).length = ([] : List UInt8).length := bytesA_len _
            have v2 : (bytesA []).take ([] : List UInt8).length = bytesA [] := bytes_take _ rfl
            simp -implicitDefEqProofs (maxSteps := 600000) (disch := (first | omega | decide)) only [go_sem, ↓reduceIte, seval, g0, gk, hg, hlen, c1, c2, c3, c4, wrap_i64, n0, gl2, v1, v2, Nat.le_refl]
            cases hrt : rightE (⟨8, 0, 0, false, []⟩ : Ev) with
            | false =>
              rw [lineA_no hrt] at gl
              rw [if_neg (fun h => absurd h.1 (by rw [hrt]; decide))] at hC
              rw [parseA_no hC]
              simp only [Ev.enc, bytesA_nil] at gl
              simp -implicitDefEqProofs (maxSteps := 600000) (disch := (first | omega | decide)) only [go_sem, ↓reduceIte, seval, gl, v1, v2, Nat.le_refl]
              try rfl
            | true =>
              rw [lineA_yes hrt] at gl
              by_cases he : lineE (⟨8, 0, 0, false, []⟩ : Ev) = line
              · rw [if_pos ⟨hrt, he⟩] at hC
                rw [parseA_yes hC]
                rw [he] at gl
                simp only [Ev.enc, bytesA_nil] at gl ⊢
                simp -implicitDefEqProofs (maxSteps := 600000) (disch := (first | omega | decide)) only [go_sem, ↓reduceIte, seval, gl, v1, v2, Nat.le_refl]
                try rfl
              · rw [if_neg (fun h => he h.2)] at hC
                rw [parseA_no hC]
                have he' : (lineE (⟨8, 0, 0, false, []⟩ : Ev) == line) = false := beq_eq_false_iff_ne.2 he
                simp only [Ev.enc, bytesA_nil] at gl
                generalize lineE (⟨8, 0, 0, false, []⟩ : Ev) = ln at *
                simp -implicitDefEqProofs (maxSteps := 600000) (disch := (first | omega | decide)) only [go_sem, ↓reduceIte, seval, gl, he', v1, v2, Nat.le_refl]
                try rfl
          | some t =>
            rw [hrd] at gl2
            simp only [rdA] at gl2
            have hC := fin (⟨8, 0, 0, false, t⟩ : Ev) (by rw [hce]; unfold candK; rw [hrd]; rfl)
            have gl := t41_Line (v := (⟨8, 0, 0, false, t⟩ : Ev)) (by have := readW_len hrd; simp only; omega)
            have v1 : (bytesA t).length = (t : List UInt8).length := bytesA_len _
            have v2 : (bytesA t).take (t : List UInt8).length = bytesA t := bytes_take _ rfl
            simp -implicitDefEqProofs (maxSteps := 600000) (disch := (first | omega | decide)) only [go_sem, ↓reduceIte, seval, g0, gk, hg, hlen, c1, c2, c3, c4, wrap_i64, n0, gl2, v1, v2, Nat.le_refl]
            cases hrt : rightE (⟨8, 0, 0, false, t⟩ : Ev) with
            | false =>
              rw [lineA_no hrt] at gl
              rw [if_neg (fun h => absurd h.1 (by rw [hrt]; decide))] at hC
              rw [parseA_no hC]
              simp only [Ev.enc, bytesA_nil] at gl
              simp -implicitDefEqProofs (maxSteps := 600000) (disch := (first | omega | decide)) only [go_sem, ↓reduceIte, seval, gl, v1, v2, Nat.le_refl]
              try rfl
            | true =>
              rw [lineA_yes hrt] at gl
              by_cases he : lineE (⟨8, 0, 0, false, t⟩ : Ev) = line
              · rw [if_pos ⟨hrt, he⟩] at hC
                rw [parseA_yes hC]
                rw [he] at gl
                simp only [Ev.enc, bytesA_nil] at gl ⊢
                simp -implicitDefEqProofs (maxSteps := 600000) (disch := (first | omega | decide)) only [go_sem, ↓reduceIte, seval, gl, v1, v2, Nat.le_refl]
                try rfl
              · rw [if_neg (fun h => he h.2)] at hC
                rw [parseA_no hC]
                have he' : (lineE (⟨8, 0, 0, false, t⟩ : Ev) == line) = false := beq_eq_false_iff_ne.2 he
                simp only [Ev.enc, bytesA_nil] at gl
                generalize lineE (⟨8, 0, 0, false, t⟩ : Ev) = ln at *
                simp -implicitDefEqProofs (maxSteps := 600000) (disch := (first | omega | decide)) only [go_sem, ↓reduceIte, seval, gl, he', v1, v2, Nat.le_refl]
                try rfl
        · have ho : oneI r = (numS y : Int) := by rw [hr0]; rfl
          rw [ho] at hce
          obtain ⟨y1, y2, y3⟩ := gy y r' hr0
          cases hrd : readW last with
          | none =>
            rw [hrd] at gl2
            simp only [rdA] at gl2
            have hC := fin (⟨8, 0, (numS y : Int), false, []⟩ : Ev) (by rw [hce]; unfold candK; rw [hrd]; rfl)
            have gl := t41_Line (v := (⟨8, 0, (numS y : Int), false, []⟩ : Ev)) (by simp)
            have v1 : (bytesA []).length = ([] : List UInt8).length := bytesA_len _
            have v2 : (bytesA []).take ([] : List UInt8).length = bytesA [] := bytes_take _ rfl
            simp -implicitDefEqProofs (maxSteps := 600000) (disch := (first | omega | decide)) only [go_sem, ↓reduceIte, seval, g0, gk, hg, hlen, c1, c2, c3, c4, wrap_i64, y1, y2, y3, gl2, v1, v2, Nat.le_refl]
            cases hrt : rightE (⟨8, 0, (numS y : Int), false, []⟩ : Ev) with
            | false =>
              rw [lineA_no hrt] at gl
              rw [if_neg (fun h => absurd h.1 (by rw [hrt]; decide))] at hC
              rw [parseA_no hC]
              simp only [Ev.enc, bytesA_nil] at gl
              simp -implicitDefEqProofs (maxSteps := 600000) (disch := (first | omega | decide)) only [go_sem, ↓reduceIte, seval, gl, v1, v2, Nat.le_refl]
              try rfl
            | true =>
              rw [lineA_yes hrt] at gl
              by_cases he : lineE (⟨8, 0, (numS y : Int), false, []⟩ : Ev) = line
              · rw [if_pos ⟨hrt, he⟩] at hC
                rw [parseA_yes hC]
                rw [he] at gl
                simp only [Ev.enc, bytesA_nil] at gl ⊢
                simp -implicitDefEqProofs (maxSteps := 600000) (disch := (first | omega | decide)) only [go_sem, ↓reduceIte, seval, gl, v1, v2, Nat.le_refl]
                try rfl
              · rw [if_neg (fun h => he h.2)] at hC
                rw [parseA_no hC]
                have he' : (lineE (⟨8, 0, (numS y : Int), false, []⟩ : Ev) == line) = false := beq_eq_false_iff_ne.2 he
                simp only [Ev.enc, bytesA_nil] at gl
                generalize lineE (⟨8, 0, (numS y : Int), false, []⟩ : Ev) = ln at *
                simp -implicitDefEqProofs (maxSteps := 600000) (disch := (first | omega | decide)) only [go_sem, ↓reduceIte, seval, gl, he', v1, v2, Nat.le_refl]
                try rfl
          | some t =>
            rw [hrd] at gl2
            simp only [rdA] at gl2
            have hC := fin (⟨8, 0, (numS y : Int), false, t⟩ : Ev) (by rw [hce]; unfold candK; rw [hrd]; rfl)
            have gl := t41_Line (v := (⟨8, 0, (numS y : Int), false, t⟩ : Ev)) (by have := readW_len hrd; simp only; omega)
            have v1 : (bytesA t).length = (t : List UInt8).length := bytesA_len _
            have v2 : (bytesA t).take (t : List UInt8).length = bytesA t := bytes_take _ rfl
            simp -implicitDefEqProofs (maxSteps := 600000) (disch := (first | omega | decide)) only [go_sem, ↓reduceIte, seval, g0, gk, hg, hlen, c1, c2, c3, c4, wrap_i64, y1, y2, y3, gl2, v1, v2, Nat.le_refl]
            cases hrt : rightE (⟨8, 0, (numS y : Int), false, t⟩ : Ev) with
            | false =>
              rw [lineA_no hrt] at gl
              rw [if_neg (fun h => absurd h.1 (by rw [hrt]; decide))] at hC
              rw [parseA_no hC]
              simp only [Ev.enc, bytesA_nil] at gl
              simp -implicitDefEqProofs (maxSteps := 600000) (disch := (first | omega | decide)) only [go_sem, ↓reduceIte, seval, gl, v1, v2, Nat.le_refl]
              try rfl
            | true =>
              rw [lineA_yes hrt] at gl
              by_cases he : lineE (⟨8, 0, (numS y : Int), false, t⟩ : Ev) = line
              · rw [if_pos ⟨hrt, he⟩] at hC
                rw [parseA_yes hC]
                rw [he] at gl
                simp only [Ev.enc, bytesA_nil] at gl ⊢
                simp -implicitDefEqProofs (maxSteps := 600000) (disch := (first | omega | decide)) only [go_sem, ↓reduceIte, seval, gl, v1, v2, Nat.le_refl]
                try rfl
              · rw [if_neg (fun h => he h.2)] at hC
                rw [parseA_no hC]
                have he' : (lineE (⟨8, 0, (numS y : Int), false, t⟩ : Ev) == line) = false := beq_eq_false_iff_ne.2 he
                simp only [Ev.enc, bytesA_nil] at gl
                generalize lineE (⟨8, 0, (numS y : Int), false, t⟩ : Ev) = ln at *
                simp -implicitDefEqProofs (maxSteps := 600000) (disch := (first | omega | decide)) only [go_sem, ↓reduceIte, seval, gl, he', v1, v2, Nat.le_refl]
                try rfl
noncomputable def T41m : Tab := T41l.add 18 (entry (fun (s : List UInt8) => [.str s]) (fun s => s.length ≤ 90000) (fun s => parseA s))
theorem T41m_ok : TabOK Tryd.prog T41m := T41l_ok.ent Tryd.func18 (by kernel_rfl) (by kernel_rfl) fun s h => c_script_Parse s h
@[go_sem] theorem T41m_old {g : FuncId} {xs : List A} (h : g ≠ 18) : T41m.f g xs = T41l.f g xs := Tab.add_ne h
@[go_sem] theorem T41m_s : T41m.pl T41l := ⟨fun _ => rfl, fun _ => rfl, rfl, fun _ => rfl, rfl, fun _ => rfl, rfl⟩
theorem T41m_script_Parse (s : List UInt8) (h : s.length ≤ 90000) : T41m.f 18 [.str s] = some (parseA s) := Tab.ent_eq (Γ := T41l) (fun i j h => by simpa [Prod.ext_iff, and_assoc] using h) s h
theorem t41_Parse {s : List UInt8} (h : s.length ≤ 90000) : T41m.f 18 [.str s] = some (parseA s) := T41m_script_Parse s h
def ex0 : Ev := ⟨2, 0, 0, true, []⟩
theorem ex0_right : rightE ex0 = true := by decide
theorem ex0_line : lineE ex0 = [115, 111, 117, 114, 99, 101, 32, 48, 32, 107, 101, 101, 112] := by
  have h : digN 0 = [48] := by rw [digN_small (by omega)]; rfl
  show lineW (wordsK ⟨2, 0, 0, true, []⟩) = _
  have e : wordsK ⟨2, 0, 0, true, []⟩ = [sourceT, digN 0, keepT] := rfl
  rw [e, h]; rfl
theorem ok_law41_awake : codeOK Tryd.prog T41m Tryd.f15.ntmps (Tryd.f15.body.getD .skip) = true := by kernel_rfl
theorem c_law41_awake : CallA Tryd.prog 15 [] (· = .bool true) := by
  refine callA_of_body T41m_ok mixed Tryd.func15 rfl (Nat.le_of_ble_eq_true rfl) ok_law41_awake ?_
  unfold Tryd.f15
  have g1 := t41_Parse (s := [115, 111, 117, 114, 99, 101, 32, 48, 32, 107, 101, 101, 112]) (by decide)
  have hp := parse_line ex0_right
  rw [ex0_line] at hp
  rw [parseA_yes hp] at g1
  have g2 := t41_Line (v := ex0) (by decide)
  rw [lineA_yes ex0_right, ex0_line] at g2
  simp only [Ev.enc, ex0, bytesA_nil] at g1 g2
  simp -implicitDefEqProofs (disch := (first | omega | decide)) only [go_sem, ↓reduceIte, seval, g1, g2]
noncomputable def T41n : Tab := T41m.add 15 (entry (fun (u : Unit) => []) (fun u => True) (fun u => .bool true))
theorem T41n_ok : TabOK Tryd.prog T41n := T41m_ok.ent Tryd.func15 (by kernel_rfl) (by kernel_rfl) fun u h => c_law41_awake
@[go_sem] theorem T41n_old {g : FuncId} {xs : List A} (h : g ≠ 15) : T41n.f g xs = T41m.f g xs := Tab.add_ne h
theorem T41n_law41_awake (u : Unit) (h : True) : T41n.f 15 [] = some (.bool true) := Tab.ent_eq (Γ := T41m) (fun i j h => by first | (cases i; cases j; rfl; done) | simpa [Prod.ext_iff, and_assoc] using h | (simp at h; omega) | (simp at h; exact Prod.ext h.1 (Prod.ext h.2.1 (by omega)))) u h
theorem t41_awake : T41n.f 15 [] = some (.bool true) := T41n_law41_awake () trivial
theorem fits_byte {x : A} (h : fits (.int .u8) x) : ∃ c : UInt8, x = encU8 c := by
  simp only [fits] at h
  obtain ⟨n, rfl, hw⟩ := h
  have hb : 0 ≤ n ∧ n < 256 := by
    simp only [Lit.wf, Bool.and_eq_true, decide_eq_true_eq] at hw
    have e1 : IntKind.u8.min = 0 := rfl
    have e2 : IntKind.u8.max = 255 := rfl
    rw [e1, e2] at hw
    omega
  refine ⟨UInt8.ofNat n.toNat, ?_⟩
  unfold encU8
  rw [ofNat_toNat' (by omega)]
  congr 1; omega
theorem fits_bytes {x : A} (h : fits (.list (.int .u8)) x) : ∃ b : List UInt8, x = .slc (bytesA b) ∧ b.length ≤ maxLen := by
  simp only [fits] at h
  obtain ⟨es, rfl, hl, he⟩ := h
  obtain ⟨b, rfl, _⟩ := list_of (f := encU8) (P := fun _ => True) (es := es) (fun e hx => by
    obtain ⟨c, rfl⟩ := fits_byte (by simpa only [fits] using he e hx)
    exact ⟨c, rfl, trivial⟩)
  exact ⟨b, rfl, by simpa using hl⟩
theorem fits_ev {x : List A} (h : fitsL [.int .i64, .int .i64, .int .i64, .bool, .list (.int .u8)] x) : ∃ v : Ev, x = [.int .i64 v.kind, .int .i64 v.at_, .int .i64 v.n, .bool v.keep, .slc (bytesA v.b)] ∧ v.b.length ≤ maxLen := by
  simp only [fitsL] at h
  obtain ⟨y1, z1, rfl, h1, y2, z2, rfl, h2, y3, z3, rfl, h3, y4, z4, rfl, h4, y5, z5, rfl, h5, rfl⟩ := h
  obtain ⟨b, rfl, hb⟩ := fits_bytes h5
  simp only [fits] at h1 h2 h3 h4
  obtain ⟨k, rfl, _⟩ := h1
  obtain ⟨a, rfl, _⟩ := h2
  obtain ⟨n, rfl, _⟩ := h3
  obtain ⟨kp, rfl⟩ := h4
  exact ⟨⟨k, a, n, kp, b⟩, rfl, hb⟩
theorem fits_evs {x : A} (h : fits (.rows [.int .i64, .int .i64, .int .i64, .bool, .list (.int .u8)]) x) : ∃ l : List Ev, x = .slc (l.map Ev.enc) ∧ l.length ≤ maxLen ∧ ∀ v ∈ l, v.b.length ≤ maxLen := by
  simp only [fits] at h
  obtain ⟨es, rfl, hl, he⟩ := h
  obtain ⟨l, rfl, h2⟩ := list_of (f := Ev.enc) (P := fun v => v.b.length ≤ maxLen) (es := es) (fun e hx => by
    obtain ⟨ys, rfl, hy⟩ := he e hx
    obtain ⟨v, rfl, hv⟩ := fits_ev (by simpa only [fitsL, fits] using hy)
    exact ⟨v, rfl, hv⟩)
  exact ⟨l, rfl, by simpa using hl, h2⟩
open Go.RowKit Go.Shelf
abbrev bT : TypeId := YthiedimbmcgpdaaDoor.joinL_ren.t 72
abbrev bE : TypeId := YthiedimbmcgpdaaDoor.joinL_ren.t 5
theorem builder_below {B b : Nat} {bs : List Value} {W W' : World} (h : Lib.IsBuilderF bT bE B b bs W) (hb : Below W.heap.size W W') : Lib.IsBuilderF bT bE B b bs W' := by
  have one : ∀ p, Lib.BuilderAtF bT bE B b p bs W → Lib.BuilderAtF bT bE B b p bs W' := by
    rintro p ⟨h1, v, h2, h3, h4⟩
    refine ⟨h1, v, ?_, ?_, h4⟩
    · rw [hb.block b (Array.getElem?_eq_some_iff.1 h2).1]; exact h2
    · obtain ⟨hl, hx⟩ := h3
      refine ⟨hl, ?_⟩
      rcases hx with hx | ⟨g, cap, cur, fz, g1, g2, g3, g4⟩
      · exact .inl hx
      · exact .inr ⟨g, cap, cur, fz, g1, g2, by rw [hb.block g (Array.getElem?_eq_some_iff.1 g3).1]; exact g3, g4⟩
  rcases h with h | h
  · exact .inl (one _ h)
  · exact .inr (one _ h)
theorem hid_mk {p : Prop} (h : p) : Hid p := h
theorem text_take {l : List Ev} {k : Nat} (h : k < l.length) : textE (l.take (k + 1)) = textE (l.take k) ++ (lineE l[k] ++ [10]) := by
  unfold textE
  rw [← List.take_append_getElem h, List.map_append, glue_append]
  simp [glue]
theorem text_bound : ∀ l : List Ev, (∀ v ∈ l, rightE v = true ∧ v.b.length ≤ 1000) → (textE l).length ≤ l.length * 3101
  | [], _ => by simp [textE, glue]
  | v :: l, h => by
    have ih := text_bound l fun x hx => h x (by simp [hx])
    obtain ⟨h1, h2⟩ := h v (by simp)
    have := line_bound h1
    have e : textE (v :: l) = lineE v ++ 10 :: textE l := by unfold textE; rw [List.map_cons, glue_cons]
    rw [e]
    simp only [List.length_append, List.length_cons, Nat.add_mul]
    omega
def textA (l : List Ev) : List UInt8 × Int := if l.all rightE = true then (textE l, 0) else ([], 2)
set_option maxHeartbeats 1000000 in
theorem text_calls (l : List Ev) (hl : l.length ≤ 4096) (hbl : ∀ v ∈ l, v.b.length ≤ 1000) (q : Option Addr) (cap : Nat) (w : World) (hq : l ≠ [] → ∃ b off, q = some ⟨b, off, none⟩ ∧ b < w.heap.size ∧ RepE ⟨fun _ => False, [], w⟩ 5 b off (l.map Ev.enc)) :
    Calls Tryd.prog 21 #[.slice q l.length cap] w fun e w' => e = .returned (.tuple #[.string (mkS (textA l).1), .int .i64 (textA l).2]) ∧ Below w.heap.size w w' := by
  have Hq := hid_mk hq
  clear hq
  have h4 : ¬ (4096 : Int) < (l.length : Int) := by omega
  go_enter Tryd.func21, Tryd.ntmps21
  go_wp2_with fail
  go_loopw [14] (fun i wr => ∃ k : Nat, k ≤ l.length ∧ i = .int .i64 k ∧ (l.take k).all rightE = true ∧ Hid (Lib.IsBuilderF bT bE w.heap.size w.heap.size (Lib.byteCells (textE (l.take k))) wr) ∧ Hid (Below w.heap.size w wr)) (fun i _ => l.length - (intOf i).toNat)
  case atStart =>
    refine ⟨0, Nat.zero_le _, rfl, rfl, hid_mk (.inl ⟨Nat.le_refl _, .slice none 0 0, ?_, ⟨rfl, .inl ⟨rfl, rfl⟩⟩, by simp [Value.ownBlock]⟩), hid_mk ?_⟩
    · exact heap_alloc_new w _
    · exact (Below.refl w.heap.size w).alloc (Nat.le_refl _) _
  case round =>
    obtain ⟨k, hk, rfl, hall, HB, HW⟩ := hrel
    by_cases hlt : k < l.length
    · obtain ⟨b, off, rfl, hb, hm⟩ := Hq.out (by intro e; rw [e] at hlt; simp at hlt)
      have hv : l[k].b.length ≤ 1000 := hbl _ (List.getElem_mem hlt)
      have hex : ∃ v4, wr.cell? ⟨b, off + k * 5, none⟩ = some (.int .i64 l[k].kind) ∧ wr.cell? ⟨b, off + k * 5 + 1, none⟩ = some (.int .i64 l[k].at_) ∧ wr.cell? ⟨b, off + k * 5 + 2, none⟩ = some (.int .i64 l[k].n) ∧ wr.cell? ⟨b, off + k * 5 + 3, none⟩ = some (.bool l[k].keep) ∧ wr.cell? ⟨b, off + k * 5 + 4, none⟩ = some v4 ∧ v4.oneCell' = true ∧ Rep ⟨fun _ => False, [], wr⟩ (.slc (bytesA l[k].b)) v4 := by
        obtain ⟨_, hM⟩ := RepE_iff.1 hm k (Ev.enc l[k]) (by simp [hlt])
        simp only [Ev.enc, A.cells, RepM] at hM
        obtain ⟨⟨v0, c0, _, r0⟩, ⟨v1, c1, _, r1⟩, ⟨v2, c2, _, r2⟩, ⟨v3, c3, _, r3⟩, ⟨v4, c4, o4, r4⟩, _⟩ := hM
        have hcell : ∀ (j : Nat), wr.cell? ⟨b, j, none⟩ = w.cell? ⟨b, j, none⟩ := fun j => HW.out.cell (p := ⟨b, j, none⟩) hb
        have e0 : v0 = .int .i64 l[k].kind := by simpa only [Rep] using r0
        have e1 : v1 = .int .i64 l[k].at_ := by simpa only [Rep] using r1
        have e2 : v2 = .int .i64 l[k].n := by simpa only [Rep] using r2
        have e3 : v3 = .bool l[k].keep := by simpa only [Rep] using r3
        subst e0; subst e1; subst e2; subst e3
        refine ⟨v4, (hcell _).trans c0, (hcell _).trans c1, (hcell _).trans c2, (hcell _).trans c3, (hcell _).trans c4, o4, ?_⟩
        exact Rep.mono (K := fun _ => True) ⟨HW.out.size, fun b' hb' _ => ⟨fun h => h, HW.out.block b' hb'⟩, fun n o _ h => by simp at h, fun n b' k' c e fr _ h => by simp at h⟩ _ _ r4 (fun _ _ => trivial)
      obtain ⟨v4, c0, c1, c2, c3, c4, o4, r4⟩ := hex
      obtain ⟨a4, n4, cap4, rfl⟩ : ∃ a4 n4 cap4, v4 = .slice a4 n4 cap4 := by
        simp only [Rep] at r4
        obtain ⟨_, a, cap, e, _⟩ := r4
        exact ⟨a, _, cap, e⟩
      have Hr4 := hid_mk r4
      clear r4
      have hline : ∀ o : Go.Obj, Calls Tryd.prog 16 #[.agg #[.int .i64 l[k].kind, .int .i64 l[k].at_, .int .i64 l[k].n, .bool l[k].keep, .slice a4 n4 cap4]] (wr.alloc o) fun e w' => e = .returned (.tuple #[.string (mkS (if rightE l[k] = true then lineE l[k] else [])), .int .i64 (if rightE l[k] = true then 0 else 2)]) ∧ Below (wr.alloc o).heap.size (wr.alloc o) w' := by
        intro o
        have hext : Ext (fun _ => True) ⟨fun _ => False, [], wr⟩ ⟨fun _ => False, [], wr.alloc o⟩ := ⟨(Grew.alloc wr o).size, fun b' hb' _ => ⟨fun h => h, (Grew.alloc wr o).block b' hb'⟩, fun n o _ h => by simp at h, fun n b' k' c e fr _ h => by simp at h⟩
        have r4 := Rep.mono hext _ _ Hr4.out (fun _ _ => trivial)
        refine Calls.mono (c_script_Line l[k] (by omega) (fun _ => False) (wr.alloc o) [.agg #[.int .i64 l[k].kind, .int .i64 l[k].at_, .int .i64 l[k].n, .bool l[k].keep, .slice a4 n4 cap4]] (fun _ h => h.elim) ?_) ?_
        · simp only [RepL]
          refine ⟨_, _, rfl, ?_, rfl⟩
          simp only [Ev.enc, Rep, RepL]
          simp only [Rep] at r4
          refine ⟨[.int .i64 l[k].kind, .int .i64 l[k].at_, .int .i64 l[k].n, .bool l[k].keep, .slice a4 n4 cap4], rfl, ⟨_, _, rfl, rfl, _, _, rfl, rfl, _, _, rfl, rfl, _, _, rfl, rfl, _, _, rfl, r4, rfl⟩, ?_⟩
          intro u hu
          simp only [List.mem_cons, List.not_mem_nil, or_false] at hu
          rcases hu with rfl | rfl | rfl | rfl | rfl <;> rfl
        · rintro e w' ⟨v, r, rfl, rfl, hr, hg⟩
          refine ⟨?_, hg.toBelow⟩
          unfold lineA at hr
          by_cases h : rightE l[k] = true
          · rw [if_pos h] at hr ⊢
            rw [if_pos h]
            simp only [Rep, RepL] at hr
            obtain ⟨vs, rfl, _, _, rfl, rfl, _, _, rfl, rfl, rfl⟩ := hr
            rfl
          · rw [if_neg h] at hr ⊢
            rw [if_neg h]
            simp only [Rep, RepL] at hr
            obtain ⟨vs, rfl, _, _, rfl, rfl, _, _, rfl, rfl, rfl⟩ := hr
            rfl
      have Hline := hid_mk hline
      clear hline Hr4
      cases hr : rightE l[k] with
      | false =>
        have ht : textA l = ([], 2) := by
          have : l.all rightE = false := by
            rw [List.all_eq_false]
            exact ⟨l[k], List.getElem_mem hlt, by rw [hr]; decide⟩
          unfold textA; rw [this]; rfl
        rw [hr] at Hline
        go_wp2_with fail
        refine (Hline.out _).mono ?_
        rintro e w2 ⟨rfl, hb2⟩
        simp only [Bool.false_eq_true, if_false]
        have Hb2 := hid_mk hb2
        clear hb2
        go_wp2_with fail
        go_ret2
        exact ⟨by rw [ht]; rfl, (HW.out.alloc HW.out.size _).trans (Hb2.out.mono (Nat.le_trans HW.out.size (by simp)))⟩
      | true =>
        rw [hr] at Hline
        have hlb := line_bound hr
        have hsz : (mkS (lineE l[k])).size = (lineE l[k]).length := mkS_size _
        go_wp2_with fail
        refine (Hline.out _).mono ?_
        rintro e w2 ⟨rfl, hb2⟩
        simp only [if_true]
        have Hb2 := hid_mk hb2
        clear hb2
        have hbig : (mkS (lineE l[k])).size + (⟨#[10]⟩ : ByteArray).size ≤ maxLen := by
          rw [hsz]
          have : (⟨#[10]⟩ : ByteArray).size = 1 := rfl
          unfold maxLen; omega
        have hbel : Below w.heap.size w w2 := (HW.out.alloc HW.out.size _).trans (Hb2.out.mono (Nat.le_trans HW.out.size (by simp)))
        have hbu : Lib.IsBuilderF bT bE w.heap.size w.heap.size (Lib.byteCells (textE (l.take k))) w2 := builder_below (builder_below HB.out ((Below.refl wr.heap.size wr).alloc (Nat.le_refl _) _)) Hb2.out
        have hnext : Lib.byteCells (textE (l.take k)) ++ Lib.strCells (mkS (lineE l[k]) ++ ⟨#[10]⟩) = Lib.byteCells (textE (l.take (k + 1))) := by
          rw [text_take hlt, Lib.strCells_eq, ← Lib.byteCells_append]
          rfl
        have htb := text_bound (l.take k) (fun v hv => by
          have hr' := List.all_eq_true.1 hall v hv
          exact ⟨hr', hbl v (List.mem_of_mem_take hv)⟩)
        have hkl : (l.take k).length ≤ 4096 := by rw [List.length_take]; omega
        have hlen : (Lib.byteCells (textE (l.take k))).length + (mkS (lineE l[k]) ++ ⟨#[10]⟩ : ByteArray).size ≤ 140737488355328 := by
          rw [Lib.byteCells_length]
          have : (mkS (lineE l[k]) ++ ⟨#[10]⟩ : ByteArray).size = (lineE l[k]).length + 1 := by
            rw [ByteArray.size_append, hsz]; rfl
          have : (l.take k).length * 3101 ≤ 4096 * 3101 := Nat.mul_le_mul_right _ hkl
          omega
        have hall' : (l.take (k + 1)).all rightE = true := by rw [all_take_succ hlt, hall, hr]; rfl
        have Hbel := hid_mk hbel
        have Hbu := hid_mk hbu
        have Hnext := hid_mk hnext
        have Hlen := hid_mk hlen
        have Hall' := hid_mk hall'
        clear hbel hbu hnext hlen hall' htb hkl
        generalize hS : mkS (lineE l[k]) = S at *
        go_wp2_with fail
        refine (Any.Builder_WriteString_k { YthiedimbmcgpdaaDoor.joinL with } extraB w.heap.size w.heap.size _ _ w2 Hbu.out Hlen.out Hbel.out.size).mono ?_
        rintro e w3 ⟨rfl, hB3, hb3, _⟩
        rw [Hnext.out] at hB3
        have H3 := hid_mk hB3
        have Hb3 := hid_mk (Hbel.out.trans hb3)
        clear hB3 hb3
        go_wp2
        exact ⟨⟨k + 1, hlt, by go_num, Hall'.out, hid_mk (.inr H3.out), Hb3⟩, by simp [intOf]; omega⟩
    · have hke : k = l.length := by omega
      subst hke
      rw [List.take_length] at hall HB
      have ht : textA l = (textE l, 0) := by unfold textA; rw [hall]; rfl
      go_wp2_with fail
      refine (Any.Builder_String_any_k { YthiedimbmcgpdaaDoor.joinL with } extraB w.heap.size w.heap.size _ wr HB.out HW.out.size).mono ?_
      rintro e w5 ⟨rfl, _, hb5, _⟩
      have Hb5 := hid_mk (HW.out.trans hb5)
      clear hb5
      go_wp2
      go_ret2
      exact ⟨by rw [ht]; rfl, Hb5.out⟩
theorem evs_inj {l m : List Ev} (h : [A.slc (l.map Ev.enc)] = [A.slc (m.map Ev.enc)]) : l = m := by
  simp only [List.cons.injEq, A.slc.injEq, and_true] at h
  rwa [map_inj Ev.enc_inj] at h
theorem c_script_Text (l : List Ev) (hl : l.length ≤ 4096) (hbl : ∀ v ∈ l, v.b.length ≤ 1000) : CallA Tryd.prog 21 [.slc (l.map Ev.enc)] (· = .tup [.str (textA l).1, .int .i64 (textA l).2]) := by
  intro N w vs _ hrep
  simp only [RepL] at hrep
  obtain ⟨v0, _, rfl, hv0, rfl⟩ := hrep
  simp only [Rep] at hv0
  obtain ⟨_, q, cap, rfl, _, hne⟩ := hv0
  rw [List.length_map]
  refine Calls.mono (text_calls l hl hbl q cap w ?_) ?_
  · intro h
    obtain ⟨b, off, rfl, hb, _, hE⟩ := hne (by simpa using h)
    refine ⟨b, off, rfl, hb, ?_⟩
    have hst : strideOf (l.map Ev.enc) = 5 := by
      cases l with
      | nil => exact absurd rfl h
      | cons x r => rfl
    rw [hst] at hE
    refine RepE_iff.2 fun i e he => ?_
    obtain ⟨h1, h2⟩ := RepE_iff.1 hE i e he
    refine ⟨h1, RepM_iff.2 fun j x hx => ?_⟩
    obtain ⟨u, u1, u2, u3⟩ := RepM_iff.1 h2 j x hx
    refine ⟨u, u1, u2, ?_⟩
    rw [List.getElem?_map] at he
    obtain ⟨v, _, rfl⟩ := Option.map_eq_some_iff.1 he
    simp only [Ev.enc, A.cells] at hx
    have hx' := List.mem_of_getElem? hx
    simp only [List.mem_cons, List.not_mem_nil, or_false] at hx'
    rcases hx' with rfl | rfl | rfl | rfl | rfl
    · simpa only [Rep] using u3
    · simpa only [Rep] using u3
    · simpa only [Rep] using u3
    · simpa only [Rep] using u3
    · simp only [Rep] at u3 ⊢
      obtain ⟨p1, a, c, p2, p3, p4⟩ := u3
      refine ⟨p1, a, c, p2, p3, fun hn => ?_⟩
      obtain ⟨b', o', r1, r2, _, r4⟩ := p4 hn
      refine ⟨b', o', r1, r2, id, ?_⟩
      refine RepE_iff.2 fun i e he => ?_
      obtain ⟨h1, h2⟩ := RepE_iff.1 r4 i e he
      refine ⟨h1, ?_⟩
      unfold bytesA at he
      rw [List.getElem?_map] at he
      obtain ⟨c8, _, rfl⟩ := Option.map_eq_some_iff.1 he
      simp only [encU8, A.cells] at h2 ⊢
      obtain ⟨u, u1, u2, u3⟩ := RepM_one.1 h2
      exact RepM_one.2 ⟨u, u1, u2, by simpa only [Rep] using u3⟩
  · rintro e w' ⟨rfl, hB⟩
    refine ⟨_, _, rfl, rfl, ?_, grew_below dr_not hB⟩
    simp only [Rep, RepL]
    exact ⟨[_, _], rfl, _, _, rfl, rfl, _, _, rfl, rfl, rfl⟩
noncomputable def T41o : Tab := T41n.add 21 (entry (fun (l : List Ev) => [.slc (l.map Ev.enc)]) (fun l => l.length ≤ 4096 ∧ ∀ v ∈ l, v.b.length ≤ 1000) (fun l => .tup [.str (textA l).1, .int .i64 (textA l).2]))
theorem T41o_ok : TabOK Tryd.prog T41o := T41n_ok.ent Tryd.func21 (by kernel_rfl) (by kernel_rfl) fun l h => c_script_Text l h.1 h.2
@[go_sem] theorem T41o_old {g : FuncId} {xs : List A} (h : g ≠ 21) : T41o.f g xs = T41n.f g xs := Tab.add_ne h
theorem T41o_script_Text (l : List Ev) (h : l.length ≤ 4096 ∧ ∀ v ∈ l, v.b.length ≤ 1000) : T41o.f 21 [.slc (l.map Ev.enc)] = some (.tup [.str (textA l).1, .int .i64 (textA l).2]) := Tab.ent_eq (Γ := T41n) (fun i j h => by exact evs_inj h) l h
theorem t41_Text {l : List Ev} (h1 : l.length ≤ 4096) (h2 : ∀ v ∈ l, v.b.length ≤ 1000) : T41o.f 21 [.slc (l.map Ev.enc)] = some (.tup [.str (textA l).1, .int .i64 (textA l).2]) := T41o_script_Text l ⟨h1, h2⟩
end Go.Proofs.YthiedimbmcgpdaaDoor
namespace Go.Proofs.YthiedimbmcgpdaaDoor
open Go.Abs
set_option linter.unusedSimpArgs false
set_option linter.unusedVariables false
set_option maxRecDepth 20000
set_option maxHeartbeats 8000000
theorem callA_litIndex (s : List UInt8) (c : UInt8) : CallA Tryd.prog 49 [.str s, .str [c]] (· = .int .i64 (Lib.indexByte s c)) :=
  callA_str2 s [c] _ (.int .i64 (Lib.indexByte s c)) (fun E => by simp only [Rep]) fun w => Any.stringslite_Index_one (ρ := YthiedimbmcgpdaaDoor.indexL_ren) { YthiedimbmcgpdaaDoor.indexL with } (mkS s) c w
noncomputable def T41p : Tab := T41o.add 49 (entry (fun (p : List UInt8 × UInt8) => [.str p.1, .str [p.2]]) (fun p => True) (fun p => .int .i64 (Lib.indexByte p.1 p.2)))
theorem T41p_ok : TabOK Tryd.prog T41p := T41o_ok.ent Tryd.func49 (by kernel_rfl) (by kernel_rfl) fun p h => callA_litIndex p.1 p.2
@[go_sem] theorem T41p_old {g : FuncId} {xs : List A} (h : g ≠ 49) : T41p.f g xs = T41o.f g xs := Tab.add_ne h
@[go_sem] theorem T41p_s : T41p.pl T41o := ⟨fun _ => rfl, fun _ => rfl, rfl, fun _ => rfl, rfl, fun _ => rfl, rfl⟩
theorem T41p_internal_stringslite_Index (p : List UInt8 × UInt8) (h : True) : T41p.f 49 [.str p.1, .str [p.2]] = some (.int .i64 (Lib.indexByte p.1 p.2)) := Tab.ent_eq (Γ := T41o) (fun i j h => by simpa [Prod.ext_iff, and_assoc] using h) p h
def cutA (s : List UInt8) : A := if 0 ≤ Lib.indexByte s 10 then .tup [.str (s.take (Lib.indexByte s 10).toNat), .str (s.drop ((Lib.indexByte s 10).toNat + 1)), .bool true] else .tup [.str s, .str [], .bool false]
theorem idx_lt : ∀ (s : List UInt8) (c : UInt8), Lib.indexByte s c < s.length ∧ -1 ≤ Lib.indexByte s c
  | [], c => by simp [Lib.indexByte]
  | b :: l, c => by
    have := idx_lt l c
    unfold Lib.indexByte
    split
    · simp; try omega
    · split
      · simp; try omega
      · simp; try omega
theorem idx_hit : ∀ (x r : List UInt8), (∀ c ∈ x, c ≠ 10) → Lib.indexByte (x ++ 10 :: r) 10 = x.length
  | [], r, _ => by simp [Lib.indexByte]
  | b :: x, r, h => by
    have ih := idx_hit x r fun c hc => h c (by simp [hc])
    rw [List.cons_append, Lib.indexByte, ih, if_neg (by simpa using h b (by simp)), if_neg (by simp; try omega)]; simp
theorem idx_miss : ∀ (x : List UInt8), (∀ c ∈ x, c ≠ 10) → Lib.indexByte x 10 = -1
  | [], _ => rfl
  | b :: x, h => by
    have ih := idx_miss x fun c hc => h c (by simp [hc])
    rw [Lib.indexByte, ih, if_neg (by simpa using h b (by simp)), if_pos (by rfl)]
theorem cut_hit {x r : List UInt8} (h : ∀ c ∈ x, c ≠ 10) : cutA (x ++ 10 :: r) = .tup [.str x, .str r, .bool true] := by
  unfold cutA
  rw [idx_hit x r h, if_pos (by omega)]; simp
theorem cut_miss {x : List UInt8} (h : ∀ c ∈ x, c ≠ 10) : cutA x = .tup [.str x, .str [], .bool false] := by
  unfold cutA
  rw [idx_miss x h, if_neg (by omega)]
theorem ok_internal_stringslite_Cut : codeOK Tryd.prog T41p Tryd.f47.ntmps (Tryd.f47.body.getD .skip) = true := by kernel_rfl
theorem c_stringslite_Cut (s : List UInt8) (hs : s.length ≤ 1000000000) : CallA Tryd.prog 47 [.str s, .str [10]] (· = cutA s) := by
  refine callA_of_body T41p_ok mixed Tryd.func47 rfl (Nat.le_of_ble_eq_true rfl) ok_internal_stringslite_Cut ?_
  unfold Tryd.f47
  have g : T41p.f 49 [.str s, .str [10]] = some (.int .i64 (Lib.indexByte s 10)) := T41p_internal_stringslite_Index (s, 10) trivial
  obtain ⟨i1, i2⟩ := idx_lt s 10
  unfold cutA
  generalize Lib.indexByte s 10 = i at *
  by_cases h : 0 ≤ i
  · rw [if_pos h]
    obtain ⟨n, rfl⟩ := Int.eq_ofNat_of_zero_le h
    have c1 : (n : Int) ≤ (s.length : Int) := by omega
    have c2 : (n : Int) + 1 ≤ (s.length : Int) := by omega
    have c3 : (0 : Int) ≤ (n : Int) + 1 := by omega
    have c4 : ((n : Int) + 1).toNat = n + 1 := by omega
    have c5 : s.take s.length = s := List.take_length
    simp -implicitDefEqProofs (disch := (first | omega | decide)) only [go_sem, ↓reduceIte, seval, g, h, c1, c2, c3, c4, c5, wrap_i64, Int.le_refl]
  · rw [if_neg h]
    simp -implicitDefEqProofs (disch := (first | omega | decide)) only [go_sem, ↓reduceIte, seval, g, h]
noncomputable def T41q : Tab := T41p.add 47 (entry (fun (s : List UInt8) => [.str s, .str [10]]) (fun s => s.length ≤ 1000000000) (fun s => cutA s))
theorem T41q_ok : TabOK Tryd.prog T41q := T41p_ok.ent Tryd.func47 (by kernel_rfl) (by kernel_rfl) fun s h => c_stringslite_Cut s h
@[go_sem] theorem T41q_old {g : FuncId} {xs : List A} (h : g ≠ 47) : T41q.f g xs = T41p.f g xs := Tab.add_ne h
@[go_sem] theorem T41q_s : T41q.pl T41p := ⟨fun _ => rfl, fun _ => rfl, rfl, fun _ => rfl, rfl, fun _ => rfl, rfl⟩
theorem T41q_internal_stringslite_Cut (s : List UInt8) (h : s.length ≤ 1000000000) : T41q.f 47 [.str s, .str [10]] = some (cutA s) := Tab.ent_eq (Γ := T41p) (fun i j h => by simpa [Prod.ext_iff, and_assoc] using h) s h
theorem t41_litCut {s : List UInt8} (h : s.length ≤ 1000000000) : T41q.f 47 [.str s, .str [10]] = some (cutA s) := T41q_internal_stringslite_Cut s h
theorem ok_strings_Cut : codeOK Tryd.prog T41q Tryd.f39.ntmps (Tryd.f39.body.getD .skip) = true := by kernel_rfl
theorem c_strings_Cut (s : List UInt8) (hs : s.length ≤ 1000000000) : CallA Tryd.prog 39 [.str s, .str [10]] (· = cutA s) := by
  refine callA_of_body T41q_ok mixed Tryd.func39 rfl (Nat.le_of_ble_eq_true rfl) ok_strings_Cut ?_
  unfold Tryd.f39
  have g := t41_litCut (s := s) hs
  unfold cutA at g ⊢
  by_cases h : 0 ≤ Lib.indexByte s 10
  · rw [if_pos h] at g ⊢
    simp -implicitDefEqProofs (disch := (first | omega | decide)) only [go_sem, ↓reduceIte, seval, g]
  · rw [if_neg h] at g ⊢
    simp -implicitDefEqProofs (disch := (first | omega | decide)) only [go_sem, ↓reduceIte, seval, g]
noncomputable def T41r : Tab := T41q.add 39 (entry (fun (s : List UInt8) => [.str s, .str [10]]) (fun s => s.length ≤ 1000000000) (fun s => cutA s))
theorem T41r_ok : TabOK Tryd.prog T41r := T41q_ok.ent Tryd.func39 (by kernel_rfl) (by kernel_rfl) fun s h => c_strings_Cut s h
@[go_sem] theorem T41r_old {g : FuncId} {xs : List A} (h : g ≠ 39) : T41r.f g xs = T41q.f g xs := Tab.add_ne h
@[go_sem] theorem T41r_s : T41r.pl T41q := ⟨fun _ => rfl, fun _ => rfl, rfl, fun _ => rfl, rfl, fun _ => rfl, rfl⟩
theorem T41r_strings_Cut (s : List UInt8) (h : s.length ≤ 1000000000) : T41r.f 39 [.str s, .str [10]] = some (cutA s) := Tab.ent_eq (Γ := T41q) (fun i j h => by simpa [Prod.ext_iff, and_assoc] using h) s h
theorem t41_Cut {s : List UInt8} (h : s.length ≤ 1000000000) : T41r.f 39 [.str s, .str [10]] = some (cutA s) := T41r_strings_Cut s h
theorem readL_parts (rest : List UInt8) : ∀ (ls : List (List UInt8)) (n : Nat) (acc : List Ev), ((readL rest n ls acc).2 = 0 → ∃ t, (readL rest n ls acc).1 = acc ++ t) ∧ ((readL rest n ls acc).2 ≠ 0 → (readL rest n ls acc).1 = [])
  | [], n, acc => by
    unfold readL
    split
    · exact ⟨fun _ => ⟨[], by simp⟩, fun h => absurd rfl h⟩
    · exact ⟨fun h => by simp at h, fun _ => rfl⟩
  | x :: ls, n, acc => by
    unfold readL
    cases parseE x with
    | none => exact ⟨fun h => by simp at h, fun _ => rfl⟩
    | some v =>
      simp only
      obtain ⟨h1, h2⟩ := readL_parts rest ls (n + 1) (acc ++ [v])
      refine ⟨fun h => ?_, h2⟩
      obtain ⟨t, ht⟩ := h1 h
      exact ⟨v :: t, by rw [ht]; simp⟩
def readA (s : List UInt8) : A := .tup [.slc ((readT s).1.map Ev.enc), .int .i64 (readT s).2]
theorem glue_mem_len {x : List UInt8} {ls : List (List UInt8)} (h : x ∈ ls) : x.length ≤ (glue ls).length := by
  unfold glue
  induction ls with
  | nil => cases h
  | cons y ls ih =>
    simp only [List.flatMap_cons, List.length_append, List.length_cons, List.length_nil]
    rcases List.mem_cons.1 h with rfl | h
    · omega
    · have := ih h; omega
theorem ok_script_Read : codeOK Tryd.prog T41r Tryd.f22.ntmps (Tryd.f22.body.getD .skip) = true := by kernel_rfl
theorem c_script_Read (s : List UInt8) (hs : s.length ≤ 80000) (hn : (pieces s).1.length ≤ 4000) : CallA Tryd.prog 22 [.str s] (· = readA s) := by
  refine callA_of_body T41r_ok mixed Tryd.func22 rfl (Nat.le_of_ble_eq_true rfl) ok_script_Read ?_
  unfold Tryd.f22
  obtain ⟨p1, p2, p3⟩ := pieces_spec s
  unfold readA readT
  generalize hls : (pieces s).1 = ls at *
  generalize hrest : (pieces s).2 = rest at *
  simp -implicitDefEqProofs (disch := (first | omega | decide)) only [go_sem, ↓reduceIte, seval]
  refine wpA_loop_nil 4 5 rfl ?_
  refine wpA_loop [] (ι := {p : Nat × List Ev // p.1 ≤ ls.length ∧ p.2.length = p.1 ∧ readL rest 0 ls [] = readL rest p.1 (ls.drop p.1) p.2}) (fun p => [(0, .str (glue (ls.drop p.1.1) ++ rest)), (5, .int .i64 ((p.1.1 : Int) + 1)), (4, .row 0 0 5 p.1.1 false)]) (fun p => [(0, .row 5 (p.1.2.map Ev.enc))]) (fun p => (glue (ls.drop p.1.1) ++ rest).length) ⟨(0, []), Nat.zero_le _, rfl, rfl⟩ (Nat.zero_le _) ?_ ?_
  · simp -implicitDefEqProofs (disch := (first | omega | decide)) only [go_sem, ↓reduceIte, seval]
    exact p1.symm
  · rintro ⟨⟨k, acc⟩, hk, hl, hd⟩
    simp only at hk hl hd ⊢
    have sl : ∀ x ∈ ls, x.length ≤ 80000 := fun x hx => by
      have := glue_mem_len hx
      have := congrArg List.length p1
      rw [List.length_append] at this; omega
    by_cases hlt : k < ls.length
    · rw [List.drop_eq_getElem_cons hlt] at hd ⊢
      rw [glue_cons]
      have hx10 := p2 _ (List.getElem_mem hlt)
      have hxl := sl _ (List.getElem_mem hlt)
      have hcl : (ls[k] ++ 10 :: (glue (ls.drop (k + 1)) ++ rest)).length ≤ 80000 := by
        have e := congrArg List.length p1
        conv at e => lhs; rw [← List.take_append_drop k ls, glue_append, List.drop_eq_getElem_cons hlt, glue_cons]
        simp only [List.length_append, List.length_cons] at e ⊢
        omega
      rw [List.append_assoc, List.cons_append]
      have gc := t41_Cut (s := ls[k] ++ 10 :: (glue (ls.drop (k + 1)) ++ rest)) (by omega)
      rw [cut_hit hx10] at gc
      have gp := t41_Parse (s := ls[k]) (by omega)
      rw [readL] at hd
      have hne : (ls[k] ++ 10 :: (glue (ls.drop (k + 1)) ++ rest) == ([] : List UInt8)) = false := by
        rw [beq_eq_false_iff_ne]; simp
      have hdec : (glue (ls.drop (k + 1)) ++ rest).length < (ls[k] ++ 10 :: (glue (ls.drop (k + 1)) ++ rest)).length := by
        simp only [List.length_append, List.length_cons]; omega
      have hmax : ¬ (4096 : Int) < (k : Int) + 1 := by omega
      have b0 : (acc.map Ev.enc).length = k := by rw [List.length_map, hl]
      have b1 : (acc.map Ev.enc).take k = acc.map Ev.enc := List.take_of_length_le (by omega)
      generalize htl : glue (ls.drop (k + 1)) ++ rest = tl at *
      have htl := htl.symm
      generalize ls[k] = x at *
      generalize x ++ 10 :: tl = whole at *
      cases hp : parseE x with
      | none =>
        rw [hp] at hd
        rw [parseA_no hp] at gp
        rw [hd]
        simp -implicitDefEqProofs (disch := (first | omega | decide)) only [go_sem, ↓reduceIte, seval, hne, gc, gp, wrap_i64, List.map_nil]
        try rfl
      | some v =>
        rw [hp] at hd
        rw [parseA_yes hp] at gp
        simp only [Ev.enc] at gp
        simp -implicitDefEqProofs (disch := (first | omega | decide)) only [go_sem, ↓reduceIte, seval, hne, gc, gp, hmax, b0, b1, wrap_i64]
        exact ⟨⟨by omega, by omega⟩, ⟨(k + 1, acc ++ [v]), hlt, by simp [hl], hd⟩, ⟨⟨htl, by simp, rfl⟩, by rw [List.map_append]; rfl⟩, by rw [← htl]; exact hdec⟩
    · rw [List.drop_of_length_le (by omega)] at hd ⊢
      have hk' : k = ls.length := by omega
      rw [readL] at hd
      have e0 : glue [] ++ rest = rest := rfl
      rw [e0]
      have hrl : rest.length ≤ 80000 := by
        have := congrArg List.length p1
        rw [List.length_append] at this; omega
      by_cases hr : rest = []
      · rw [if_pos hr] at hd
        rw [hd]
        have hne : (rest == ([] : List UInt8)) = true := by rw [hr]; rfl
        have b0 : (acc.map Ev.enc).length = k := by rw [List.length_map, hl]
        have b1 : (acc.map Ev.enc).take k = acc.map Ev.enc := List.take_of_length_le (by omega)
        simp -implicitDefEqProofs (disch := (first | omega | decide)) only [go_sem, ↓reduceIte, seval, hne, b0, b1, Nat.le_refl]
        try rfl
      · rw [if_neg hr] at hd
        rw [hd]
        have hne : (rest == ([] : List UInt8)) = false := beq_eq_false_iff_ne.2 hr
        have gc := t41_Cut (s := rest) (by omega)
        rw [cut_miss p3] at gc
        have gp := t41_Parse (s := rest) (by omega)
        obtain ⟨v, e, gp'⟩ : ∃ v e, T41m.f 18 [.str rest] = some (.tup [Ev.enc v, .int .i64 e]) := by
          cases hp : parseE rest with
          | none => rw [parseA_no hp] at gp; exact ⟨Ev.nil, _, gp⟩
          | some v => rw [parseA_yes hp] at gp; exact ⟨v, _, gp⟩
        simp only [Ev.enc] at gp'
        simp -implicitDefEqProofs (disch := (first | omega | decide)) only [go_sem, ↓reduceIte, seval, hne, gc, gp', wrap_i64, List.map_nil]
        try rfl
noncomputable def T41s : Tab := T41r.add 22 (entry (fun (s : List UInt8) => [.str s]) (fun s => s.length ≤ 80000 ∧ (pieces s).1.length ≤ 4000) (fun s => readA s))
theorem T41s_ok : TabOK Tryd.prog T41s := T41r_ok.ent Tryd.func22 (by kernel_rfl) (by kernel_rfl) fun s h => c_script_Read s h.1 h.2
@[go_sem] theorem T41s_old {g : FuncId} {xs : List A} (h : g ≠ 22) : T41s.f g xs = T41r.f g xs := Tab.add_ne h
@[go_sem] theorem T41s_s : T41s.pl T41r := ⟨fun _ => rfl, fun _ => rfl, rfl, fun _ => rfl, rfl, fun _ => rfl, rfl⟩
theorem T41s_script_Read (s : List UInt8) (h : s.length ≤ 80000 ∧ (pieces s).1.length ≤ 4000) : T41s.f 22 [.str s] = some (readA s) := Tab.ent_eq (Γ := T41r) (fun i j h => by simpa [Prod.ext_iff, and_assoc] using h) s h
theorem t41_Read {s : List UInt8} (h1 : s.length ≤ 80000) (h2 : (pieces s).1.length ≤ 4000) : T41s.f 22 [.str s] = some (readA s) := T41s_script_Read s ⟨h1, h2⟩
theorem ev_get {l : List Ev} {k : Nat} (h : k < l.length) : (l.map Ev.enc)[k]? = some (.agg [.int .i64 l[k].kind, .int .i64 l[k].at_, .int .i64 l[k].n, .bool l[k].keep, .slc (bytesA l[k].b)]) := by
  rw [List.getElem?_map, List.getElem?_eq_getElem h]; rfl
theorem glue_len : ∀ ls : List (List UInt8), ls.length ≤ (glue ls).length
  | [] => by simp [glue]
  | x :: ls => by
    have := glue_len ls
    rw [glue_cons]
    simp only [List.length_append, List.length_cons]; omega
theorem glue_take {ls : List (List UInt8)} {k : Nat} (h : k < ls.length) : glue (ls.take (k + 1)) = glue (ls.take k) ++ (ls[k] ++ [10]) := by
  rw [← List.take_append_getElem h, glue_append]
  simp [glue]
theorem at_line {ls : List (List UInt8)} {rest s : List UInt8} (hs : glue ls ++ rest = s) {n i : Nat} (hn : n < ls.length) (h1 : (glue (ls.take n)).length ≤ i) (h2 : i ≤ (glue (ls.take n)).length + ls[n].length) (h10 : ∀ c ∈ ls[n], c ≠ 10) :
    i < s.length ∧ (s[i]? = some 10 ↔ i = (glue (ls.take n)).length + ls[n].length) ∧ (s.take ((glue (ls.take n)).length + ls[n].length)).drop (glue (ls.take n)).length = ls[n] := by
  have e : s = glue (ls.take n) ++ (ls[n] ++ 10 :: (glue (ls.drop (n + 1)) ++ rest)) := by
    rw [← hs]
    conv => lhs; rw [← List.take_append_drop n ls, glue_append, List.drop_eq_getElem_cons hn, glue_cons]
    simp
  generalize glue (ls.take n) = pre at *
  generalize ls[n] = x at *
  generalize glue (ls.drop (n + 1)) ++ rest = tl at *
  subst e
  refine ⟨by simp only [List.length_append, List.length_cons]; omega, ?_, ?_⟩
  · rw [List.getElem?_append_right h1]
    by_cases hlt : i - pre.length < x.length
    · rw [List.getElem?_append_left hlt, List.getElem?_eq_getElem hlt]
      constructor
      · intro h
        exact absurd (Option.some.inj h) (h10 _ (List.getElem_mem hlt))
      · intro h; omega
    · have : i - pre.length = x.length := by omega
      rw [this, List.getElem?_append_right (Nat.le_refl _), Nat.sub_self]
      simp; omega
  · rw [List.take_append, List.take_of_length_le (by omega), List.drop_left, Nat.add_sub_cancel_left, List.take_left]
theorem at_rest {ls : List (List UInt8)} {rest s : List UInt8} (hs : glue ls ++ rest = s) {i : Nat} (h1 : (glue ls).length ≤ i) (h2 : i < s.length) (h10 : ∀ c ∈ rest, c ≠ 10) : s[i]? ≠ some 10 := by
  subst hs
  rw [List.length_append] at h2
  rw [List.getElem?_append_right h1, List.getElem?_eq_getElem (by omega)]
  intro h
  exact h10 _ (List.getElem_mem (by omega)) (Option.some.inj h)
theorem ok_law41_reads : codeOK Tryd.prog T41s Tryd.f23.ntmps (Tryd.f23.body.getD .skip) = true := by kernel_rfl
theorem c_law41_reads (s : List UInt8) (hs : s.length ≤ 3000) : CallA Tryd.prog 23 [.str s] (· = .bool true) := by
  refine callA_of_body T41s_ok mixed Tryd.func23 rfl (Nat.le_of_ble_eq_true rfl) ok_law41_reads ?_
  unfold Tryd.f23
  obtain ⟨p1, p2, p3⟩ := pieces_spec s
  have hpl : (pieces s).1.length ≤ 3000 := by
    have h1 := glue_len (pieces s).1
    have h2 := congrArg List.length p1
    rw [List.length_append] at h2; omega
  have g0 := t41_Read (s := s) (by omega) (by omega)
  unfold readA readT at g0
  generalize hls : (pieces s).1 = ls at *
  generalize hrest : (pieces s).2 = rest at *
  obtain ⟨got, at_, hga⟩ : ∃ got at_, readL rest 0 ls [] = (got, at_) := ⟨_, _, rfl⟩
  rw [hga] at g0
  simp only at g0
  have hpar := readL_parts rest ls 0 []
  rw [hga] at hpar
  simp only at hpar
  have hgl : (got.map Ev.enc).length = got.length := List.length_map _
  simp -implicitDefEqProofs (disch := (first | omega | decide)) only [go_sem, ↓reduceIte, seval, g0]
  refine wpA_loop [0, 3, 4] (ι := {p : (Nat × Nat) × List Ev // p.1.1 ≤ s.length ∧ p.1.2 ≤ ls.length ∧ p.2.length = p.1.2 ∧ readL rest p.1.2 (ls.drop p.1.2) p.2 = (got, at_) ∧ (glue (ls.take p.1.2)).length ≤ p.1.1 ∧ (∀ h : p.1.2 < ls.length, p.1.1 ≤ (glue (ls.take p.1.2)).length + ls[p.1.2].length)})
    (fun p => [(7, .int .i64 p.1.1.1), (5, .int .i64 p.1.1.2), (6, .int .i64 (glue (ls.take p.1.1.2)).length)]) (fun _ => []) (fun p => s.length - p.1.1.1) ⟨((0, 0), []), Nat.zero_le _, Nat.zero_le _, rfl, hga, Nat.zero_le _, fun h => Nat.zero_le _⟩ (Nat.zero_le _) ?_ ?_
  · simp -implicitDefEqProofs (disch := (first | omega | decide)) only [go_sem, ↓reduceIte, seval]
    rfl
  · rintro ⟨⟨⟨i, n⟩, acc⟩, hi, hn, hl, hd, hlo, hup⟩
    simp only at hi hn hl hd hlo hup ⊢
    by_cases hlt : i < s.length
    · have hlt' : (i : Int) < (s.length : Int) := by omega
      have e1 : s[i]? = some s[i] := List.getElem?_eq_getElem hlt
      by_cases h10 : s[i] = 10
      · have hnl : n < ls.length := by
          rcases Nat.lt_or_ge n ls.length with h | h
          · exact h
          · exfalso
            have hnn : n = ls.length := by omega
            subst hnn
            rw [List.take_length] at hlo
            exact at_rest p1 hlo hlt p3 (by rw [e1, h10])
        obtain ⟨q1, q2, q3⟩ := at_line p1 hnl hlo (hup hnl) (p2 _ (List.getElem_mem hnl))
        have hi' := q2.1 (by rw [e1, h10])
        rw [← hi'] at q3
        have gp := t41_Parse (s := ls[n]) (by
          have := glue_mem_len (List.getElem_mem hnl)
          have := congrArg List.length p1
          rw [List.length_append] at this; omega)
        rw [List.drop_eq_getElem_cons hnl, readL] at hd
        have hgt := glue_take hnl
        have hgl2 := congrArg List.length hgt
        simp only [List.length_append, List.length_cons, List.length_nil] at hgl2
        rw [h10] at e1
        have f1 : ((glue (ls.take n)).length : Int) ≤ (i : Int) := by omega
        have f2 : (i : Int) ≤ (s.length : Int) := by omega
        generalize hF : (glue (ls.take n)).length = F at *
        generalize ls[n] = x at *
        cases hp : parseE x with
        | none =>
          rw [hp] at hd
          rw [parseA_no hp] at gp
          obtain ⟨rfl, rfl⟩ := Prod.mk.inj hd
          have k0 : (((n + 1 : Nat) : Int) == (n : Int) + 1) = true := by simp
          have k9 : (([] : List Ev).map Ev.enc).length = 0 := rfl
          simp -implicitDefEqProofs (disch := (first | omega | decide)) only [go_sem, ↓reduceIte, seval, hlt', e1, f1, f2, q3, gp, k0, k9, wrap_i64, encU8, List.map_nil]
        | some v =>
          rw [hp] at hd
          rw [parseA_yes hp] at gp
          have hd : readL rest (n + 1) (ls.drop (n + 1)) (acc ++ [v]) = (got, at_) := hd
          have hpr := readL_parts rest (ls.drop (n + 1)) (n + 1) (acc ++ [v])
          rw [hd] at hpr
          simp only at hpr
          cases ha : ((at_ : Int) == 0) with
          | false =>
            simp only [Ev.enc] at gp
            simp -implicitDefEqProofs (disch := (first | omega | decide)) only [go_sem, ↓reduceIte, seval, hlt', e1, f1, f2, q3, gp, ha, wrap_i64, encU8]
            exact ⟨⟨((i + 1, n + 1), acc ++ [v]), hlt, hnl, by simp [hl], hd, by simp only; omega, fun h => by simp only; omega⟩, ⟨by simp, by simp, by simp only; omega⟩, by show s.length - (i + 1) < s.length - i; omega⟩
          | true =>
            have ha0 : at_ = 0 := by have : (at_ : Int) = 0 := by simpa using ha
                                     omega
            obtain ⟨t, ht⟩ := hpr.1 ha0
            have hgn : n < got.length := by rw [ht]; simp; omega
            have hgv : got[n] = v := by
              have : got[n]? = some v := by rw [ht, List.append_assoc, List.getElem?_append_right (by omega), hl]; simp
              rw [List.getElem?_eq_getElem hgn] at this
              exact Option.some.inj this
            have e2 := ev_get hgn
            rw [hgv] at e2
            have gs := t41_Same v v
            rw [same_self] at gs
            simp only [Ev.enc] at gp gs
            have k1 : ¬ (got.length : Int) < (n : Int) + 1 := by omega
            have k2 : (n : Int) + 1 - 1 = (n : Int) := by omega
            have k3 : (0 : Int) ≤ (n : Int) := by omega
            have k4 : (n : Int) < (got.length : Int) := by omega
            simp -implicitDefEqProofs (disch := (first | omega | decide)) only [go_sem, ↓reduceIte, seval, hlt', e1, f1, f2, q3, gp, ha, e2, gs, k1, k2, k3, k4, hgl, wrap_i64, encU8]
            exact ⟨⟨((i + 1, n + 1), acc ++ [v]), hlt, hnl, by simp [hl], hd, by simp only; omega, fun h => by simp only; omega⟩, ⟨by simp, by simp, by simp only; omega⟩, by show s.length - (i + 1) < s.length - i; omega⟩
      · have i1 : ((s[i].toNat : Int) == 10) = false := by
          simp only [beq_eq_false_iff_ne, ne_eq]
          intro h
          exact h10 (UInt8.toNat_inj.1 (by have : s[i].toNat = 10 := by omega
                                           rw [this]; rfl))
        have hup' : ∀ h : n < ls.length, i + 1 ≤ (glue (ls.take n)).length + ls[n].length := fun h => by
          obtain ⟨q1, q2, q3⟩ := at_line p1 h hlo (hup h) (p2 _ (List.getElem_mem h))
          have := hup h
          have : i ≠ (glue (ls.take n)).length + ls[n].length := fun e => by
            have := q2.2 e
            rw [e1] at this
            exact h10 (Option.some.inj this)
          omega
        generalize s[i] = c at *
        simp -implicitDefEqProofs (disch := (first | omega | decide)) only [go_sem, ↓reduceIte, seval, hlt', e1, i1, wrap_i64, encU8]
        exact ⟨⟨((i + 1, n), acc), hlt, hn, hl, hd, by simp only; omega, hup'⟩, ⟨by simp, rfl, rfl⟩, by show s.length - (i + 1) < s.length - i; omega⟩
    · have hlt' : ¬ (i : Int) < (s.length : Int) := by omega
      have hnl : n = ls.length := by
        rcases Nat.lt_or_ge n ls.length with h | h
        · exfalso
          obtain ⟨q1, _, _⟩ := at_line p1 h hlo (hup h) (p2 _ (List.getElem_mem h))
          omega
        · omega
      subst hnl
      rw [List.drop_length, readL] at hd
      rw [List.take_length]
      have hlen := congrArg List.length p1
      rw [List.length_append] at hlen
      by_cases hr : rest = []
      · rw [if_pos hr] at hd
        obtain ⟨rfl, rfl⟩ := Prod.mk.inj hd
        have k1 : ¬ ((glue ls).length : Int) < (s.length : Int) := by rw [hr] at hlen; simp at hlen; omega
        simp -implicitDefEqProofs (disch := (first | omega | decide)) only [go_sem, ↓reduceIte, seval, hlt', k1, hgl, hl, wrap_i64]
      · rw [if_neg hr] at hd
        obtain ⟨rfl, rfl⟩ := Prod.mk.inj hd
        have k1 : ((glue ls).length : Int) < (s.length : Int) := by have := List.length_pos_iff.2 hr; omega
        have k0 : (((ls.length + 1 : Nat) : Int) == (ls.length : Int) + 1) = true := by simp
        simp -implicitDefEqProofs (disch := (first | omega | decide)) only [go_sem, ↓reduceIte, seval, hlt', k1, k0, wrap_i64, List.map_nil]
noncomputable def T41t : Tab := T41s.add 23 (entry (fun (s : List UInt8) => [.str s]) (fun s => s.length ≤ 3000) (fun s => .bool true))
theorem T41t_ok : TabOK Tryd.prog T41t := T41s_ok.ent Tryd.func23 (by kernel_rfl) (by kernel_rfl) fun s h => c_law41_reads s h
@[go_sem] theorem T41t_old {g : FuncId} {xs : List A} (h : g ≠ 23) : T41t.f g xs = T41s.f g xs := Tab.add_ne h
@[go_sem] theorem T41t_s : T41t.pl T41s := ⟨fun _ => rfl, fun _ => rfl, rfl, fun _ => rfl, rfl, fun _ => rfl, rfl⟩
theorem T41t_law41_reads (s : List UInt8) (h : s.length ≤ 3000) : T41t.f 23 [.str s] = some (.bool true) := Tab.ent_eq (Γ := T41s) (fun i j h => by simpa [Prod.ext_iff, and_assoc] using h) s h
theorem t41_reads {s : List UInt8} (h : s.length ≤ 3000) : T41t.f 23 [.str s] = some (.bool true) := T41t_law41_reads s h
theorem text_bound2 (m : Nat) : ∀ l : List Ev, (∀ v ∈ l, rightE v = true ∧ v.b.length ≤ m) → (textE l).length ≤ l.length * (3 * m + 101)
  | [], _ => by simp [textE, glue]
  | v :: l, h => by
    have ih := text_bound2 m l fun x hx => h x (by simp [hx])
    obtain ⟨h1, h2⟩ := h v (by simp)
    have := line_bound h1
    have e : textE (v :: l) = lineE v ++ 10 :: textE l := by unfold textE; rw [List.map_cons, glue_cons]
    rw [e]
    simp only [List.length_append, List.length_cons, Nat.add_mul]
    omega
def wantE (l : List Ev) : List UInt8 := textE (l.takeWhile rightE)
theorem take_while_all : ∀ {l : List Ev}, l.all rightE = true → l.takeWhile rightE = l
  | [], _ => rfl
  | v :: l, h => by
    rw [List.all_cons, Bool.and_eq_true] at h
    rw [List.takeWhile_cons, if_pos h.1, take_while_all h.2]
theorem take_while_mem {v : Ev} : ∀ {l : List Ev}, v ∈ l.takeWhile rightE → rightE v = true ∧ v ∈ l
  | [], h => by simp at h
  | x :: l, h => by
    rw [List.takeWhile_cons] at h
    split at h
    · rename_i g
      rcases List.mem_cons.1 h with rfl | h
      · exact ⟨g, by simp⟩
      · have := take_while_mem h
        exact ⟨this.1, by simp [this.2]⟩
    · cases h
theorem take_while_snoc {l : List Ev} {v : Ev} (h : (l.all rightE && rightE v) = false) : (l ++ [v]).takeWhile rightE = l.takeWhile rightE := by
  induction l with
  | nil =>
    have : rightE v = false := by simpa using h
    simp [this]
  | cons x l ih =>
    rw [List.cons_append, List.takeWhile_cons, List.takeWhile_cons]
    cases hx : rightE x with
    | false => rfl
    | true =>
      simp only [if_true]
      rw [List.all_cons, hx, Bool.true_and] at h
      rw [ih h]
theorem wantE_bound {l : List Ev} (h : ∀ v ∈ l, v.b.length ≤ 100) : (wantE l).length ≤ l.length * 401 := by
  have h1 := text_bound2 100 (l.takeWhile rightE) (fun v hv => by
    have h2 := take_while_mem hv
    exact ⟨h2.1, h v h2.2⟩)
  have h2 : (l.takeWhile rightE).length ≤ l.length := (List.takeWhile_sublist _).length_le
  have : (l.takeWhile rightE).length * 401 ≤ l.length * 401 := Nat.mul_le_mul_right _ h2
  unfold wantE
  omega
theorem ok_law41_ScriptReads : codeOK Tryd.prog T41t Tryd.f6.ntmps (Tryd.f6.body.getD .skip) = true := by kernel_rfl
theorem c_law41_ScriptReads (l : List Ev) (text : List UInt8) (hl : l.length ≤ 9223372036854775807) (hbl : ∀ v ∈ l, v.b.length ≤ 9223372036854775807) (ht : text.length ≤ 9223372036854775807) : CallA Tryd.prog 6 [.slc (l.map Ev.enc), .str text] (· = .bool true) := by
  refine callA_of_body T41t_ok mixed Tryd.func6 rfl (Nat.le_of_ble_eq_true rfl) ok_law41_ScriptReads ?_
  unfold Tryd.f6
  have ga := t41_awake
  by_cases h1 : (60 : Int) < (l.length : Int)
  · simp -implicitDefEqProofs (disch := (first | omega | decide)) only [go_sem, ↓reduceIte, seval, ga, h1, List.length_map]
  by_cases h2 : (600 : Int) < (text.length : Int)
  · simp -implicitDefEqProofs (disch := (first | omega | decide)) only [go_sem, ↓reduceIte, seval, ga, h1, h2, List.length_map]
  have gr := t41_reads (s := text) (by omega)
  simp -implicitDefEqProofs (disch := (first | omega | decide)) only [go_sem, ↓reduceIte, seval, ga, h1, h2, List.length_map]
  refine wpA_loop_nil 7 5 rfl ?_
  refine wpA_loop [0, 1, 25, 26] (ι := {k : Nat // k ≤ l.length ∧ ∀ v ∈ l.take k, v.b.length ≤ 100}) (fun k => [(27, .int .i64 k.1), (5, .str (wantE (l.take k.1))), (6, .bool ((l.take k.1).all rightE)), (7, .row 0 0 5 k.1 false)]) (fun k => [(0, .row 5 ((l.take k.1).map Ev.enc))]) (fun k => l.length - k.1) ⟨0, Nat.zero_le _, by simp⟩ (Nat.zero_le _) ?_ ?_
  · simp -implicitDefEqProofs (disch := (first | omega | decide)) only [go_sem, ↓reduceIte, seval]
    rfl
  rintro ⟨k, hk, hd⟩
  simp only
  by_cases hlt : k < l.length
  · have hlt' : (k : Int) < (l.length : Int) := by omega
    have e1 := ev_get hlt
    have hn := all_take_succ hlt rightE
    have hsnoc := (List.take_append_getElem hlt).symm
    have hwb := wantE_bound hd
    rw [List.length_take] at hwb
    have hvl := hbl _ (List.getElem_mem hlt)
    generalize hv : l[k] = v at *
    have lb := bytesA_len v.b
    by_cases h3 : (100 : Int) < (v.b.length : Int)
    · simp -implicitDefEqProofs (maxSteps := 600000) (disch := (first | omega | decide)) only [go_sem, ↓reduceIte, seval, hlt', e1, h3, lb, wrap_i64, List.length_map]
    · have g := t41_rRight (v := v) (by omega)
      simp only [Ev.enc] at g
      have hnext : ∀ y ∈ l.take (k + 1), y.b.length ≤ 100 := fun y hy => by
        rw [hsnoc] at hy
        rcases List.mem_append.1 hy with h | h
        · exact hd y h
        · have : y = v := by simpa using h
          rw [this]; omega
      have b0 : ((l.take k).map Ev.enc).length = k := by rw [List.length_map, List.length_take]; omega
      have b1 : ((l.take k).map Ev.enc).take k = (l.take k).map Ev.enc := List.take_of_length_le (by omega)
      have b2 : (l.take (k + 1)).map Ev.enc = (l.take k).map Ev.enc ++ [.agg [.int .i64 v.kind, .int .i64 v.at_, .int .i64 v.n, .bool v.keep, .slc (bytesA v.b)]] := by rw [hsnoc, List.map_append]; rfl
      cases hm : (l.take k).all rightE && rightE v with
      | true =>
        obtain ⟨m1, m2⟩ := (Bool.and_eq_true _ _).mp hm
        rw [m2] at g
        rw [hm] at hn
        have gl := t41_rLine m2
        simp only [Ev.enc] at gl
        have hlb := line_bound m2
        have hw : wantE (l.take (k + 1)) = wantE (l.take k) ++ lineE v ++ [10] := by
          unfold wantE
          rw [take_while_all hn, take_while_all m1, hsnoc]
          unfold textE
          rw [List.map_append, glue_append]
          simp [glue]
        generalize wantE (l.take k) = out at *
        generalize lineE v = ln at *
        have z1 : out.length + ln.length ≤ 9223372036854775807 := by omega
        have z2 : (out ++ ln).length + [(10 : UInt8)].length ≤ 9223372036854775807 := by simp; omega
        simp -implicitDefEqProofs (maxSteps := 600000) (disch := (first | omega | decide)) only [go_sem, ↓reduceIte, seval, hlt', e1, h3, lb, m1, m2, g, gl, z1, z2, b0, b1, wrap_i64, List.length_map]
        exact ⟨by simp at z2 ⊢; omega, ⟨by omega, by omega⟩, ⟨k + 1, hlt, hnext⟩, ⟨⟨by simp, by rw [hw], by rw [hn], rfl⟩, by rw [b2]⟩, by show l.length - (k + 1) < l.length - k; omega⟩
      | false =>
        have hw : wantE (l.take (k + 1)) = wantE (l.take k) := by
          unfold wantE
          rw [hsnoc, take_while_snoc hm]
        rw [hm] at hn
        generalize wantE (l.take k) = out at *
        cases m1 : (l.take k).all rightE with
        | true =>
          have m2 : rightE v = false := by rw [m1, Bool.true_and] at hm; exact hm
          rw [m2] at g
          simp -implicitDefEqProofs (maxSteps := 600000) (disch := (first | omega | decide)) only [go_sem, ↓reduceIte, seval, hlt', e1, h3, lb, m2, g, b0, b1, wrap_i64, List.length_map]
          exact ⟨⟨by omega, by omega⟩, ⟨k + 1, hlt, hnext⟩, ⟨⟨by simp, by rw [hw], by rw [hn], rfl⟩, by rw [b2]⟩, by show l.length - (k + 1) < l.length - k; omega⟩
        | false =>
          simp -implicitDefEqProofs (maxSteps := 600000) (disch := (first | omega | decide)) only [go_sem, ↓reduceIte, seval, hlt', e1, h3, lb, b0, b1, wrap_i64, List.length_map]
          exact ⟨⟨by omega, by omega⟩, ⟨k + 1, hlt, hnext⟩, ⟨⟨by simp, by rw [hw], by rw [hn], rfl⟩, by rw [b2]⟩, by show l.length - (k + 1) < l.length - k; omega⟩
  have hlt' : ¬ (k : Int) < (l.length : Int) := by omega
  have hk' : k = l.length := by omega
  subst hk'
  rw [List.take_length] at hd ⊢
  have b0 : (l.map Ev.enc).length = l.length := List.length_map _
  have b1 : (l.map Ev.enc).take l.length = l.map Ev.enc := List.take_of_length_le (by omega)
  have g1 := t41_Text (l := l) (by omega) (fun v hv => by have := hd v hv; omega)
  unfold textA at g1
  cases hm : l.all rightE with
  | true =>
    rw [hm, if_pos rfl] at g1
    have hw : wantE l = textE l := by unfold wantE; rw [take_while_all hm]
    rw [hw]
    have hright : ∀ v ∈ l, rightE v = true := List.all_eq_true.1 hm
    have htb := text_bound2 100 l (fun v hv => ⟨hright v hv, hd v hv⟩)
    have hp := pieces_glue (l.map lineE) [] (by
      intro y hy
      obtain ⟨v, _, rfl⟩ := List.mem_map.1 hy
      exact line_no10 _ (words_may v)) (by simp)
    rw [List.append_nil] at hp
    have g2 := t41_Read (s := textE l) (by omega) (by show (pieces (glue (l.map lineE))).1.length ≤ 4000; rw [hp]; simp; omega)
    unfold readA at g2
    rw [read_text hright] at g2
    generalize textE l = tx at *
    simp -implicitDefEqProofs (maxSteps := 600000) (disch := (first | omega | decide)) only [go_sem, ↓reduceIte, seval, hlt', g1, g2, b0, b1, Nat.le_refl, List.length_map]
    refine wpA_loop [0, 1, 12, 95, 96] (ι := {k : Nat // k ≤ l.length}) (fun k => [(97, .int .i64 k.1)]) (fun _ => []) (fun k => l.length - k.1) ⟨0, by omega⟩ (Nat.zero_le _) ?_ ?_
    · simp -implicitDefEqProofs (disch := (first | omega | decide)) only [go_sem, ↓reduceIte, seval]
    rintro ⟨j, hj⟩
    simp only
    by_cases hjl : j < l.length
    · have hjl' : (j : Int) < (l.length : Int) := by omega
      have e1 := ev_get hjl
      have gs := t41_Same l[j] l[j]
      rw [same_self] at gs
      simp only [Ev.enc] at gs
      generalize l[j] = v at *
      simp -implicitDefEqProofs (disch := (first | omega | decide)) only [go_sem, ↓reduceIte, seval, hjl', e1, gs, wrap_i64, List.length_map]
      exact ⟨⟨j + 1, hjl⟩, by simp, by show l.length - (j + 1) < l.length - j; omega⟩
    · have hjl' : ¬ (j : Int) < (l.length : Int) := by omega
      simp -implicitDefEqProofs (disch := (first | omega | decide)) only [go_sem, ↓reduceIte, seval, hjl', gr, List.length_map]
  | false =>
    rw [hm, if_neg (by simp)] at g1
    have g2 := t41_Read (s := []) (by simp) (by simp [pieces])
    have hr0 : readT [] = ([], 0) := rfl
    unfold readA at g2
    rw [hr0] at g2
    simp only [List.map_nil] at g1 g2
    generalize wantE l = tx at *
    simp -implicitDefEqProofs (maxSteps := 600000) (disch := (first | omega | decide)) only [go_sem, ↓reduceIte, seval, hlt', g1, g2, b0, b1, Nat.le_refl, List.length_map]
    refine wpA_loop [0, 1, 12, 95, 96] (ι := Unit) (fun k => [(97, .int .i64 0)]) (fun _ => []) (fun k => 0) () (Nat.zero_le _) ?_ ?_
    · simp -implicitDefEqProofs (disch := (first | omega | decide)) only [go_sem, ↓reduceIte, seval]
    rintro ⟨⟩
    have hz : ¬ (0 : Int) < 0 := by omega
    simp -implicitDefEqProofs (disch := (first | omega | decide)) only [go_sem, ↓reduceIte, seval, hz, gr, List.length_map]
end Go.Proofs.YthiedimbmcgpdaaDoor
