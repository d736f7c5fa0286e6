/- What the laws of this claim rest on: the abstract executor, its soundness, and what the functions compute on pure data. No condition. -/
import Derived.Test.YthiedimbmcgpdaaDoorU4
set_option linter.unusedVariables false
set_option linter.unusedSimpArgs false
namespace Go.Proofs.YthiedimbmcgpdaaDoor
open Go.Abs
set_option linter.unusedSimpArgs false
set_option linter.unusedVariables false
set_option maxRecDepth 20000
set_option maxHeartbeats 8000000
def parseA (line : List UInt8) : A := match parseE line with | some v => .tup [v.enc, .int .i64 0] | none => .tup [Ev.nil.enc, .int .i64 11]
theorem parseA_no {line : List UInt8} (h : parseE line = none) : parseA line = .tup [.agg [.int .i64 0, .int .i64 0, .int .i64 0, .bool false, .slc []], .int .i64 11] := by unfold parseA; rw [h]; rfl
theorem parseA_yes {line : List UInt8} {v : Ev} (h : parseE line = some v) : parseA line = .tup [v.enc, .int .i64 0] := by unfold parseA; rw [h]
theorem lineA_no {v : Ev} (h : rightE v = false) : lineA v = .tup [.str [], .int .i64 2] := by unfold lineA; rw [if_neg (by rw [h]; decide)]
theorem lineA_yes {v : Ev} (h : rightE v = true) : lineA v = .tup [.str (lineE v), .int .i64 0] := by unfold lineA; rw [if_pos h]
theorem kindL_in (x last : List UInt8) : kindL x last = 1 ∨ kindL x last = 2 ∨ kindL x last = 3 ∨ kindL x last = 4 ∨ kindL x last = 5 ∨ kindL x last = 6 ∨ kindL x last = 7 ∨ kindL x last = 8 := by
  unfold kindL
  repeat' split
  all_goals simp
def oneI : List (List UInt8) → Int
  | y :: _ => numS y
  | [] => 0
def candK (k one : Int) (last : List UInt8) : Ev := if k = 2 ∨ k = 3 then ⟨k, one, 0, decide (last = keepT), []⟩ else if k = 4 ∨ k = 7 then ⟨k, numS last, one, false, []⟩ else if k = 8 then ⟨k, 0, one, false, (readW last).getD []⟩ else ⟨k, 0, 0, false, []⟩
theorem cand_eq (x : List UInt8) (r : List (List UInt8)) : candE x r = candK (kindL x ((x :: r).getLast (by simp))) (oneI r) ((x :: r).getLast (by simp)) := by
  cases r <;> rfl
theorem keep_beq (l : List UInt8) : (l == [107, 101, 101, 112]) = decide (l = keepT) := by rw [Bool.eq_iff_iff, beq_iff_eq, decide_eq_true_iff]; exact Iff.rfl
theorem bytesA_nil : bytesA [] = [] := rfl
theorem ok_script_Parse : codeOK Tryd.prog T41l Tryd.f18.ntmps (Tryd.f18.body.getD .skip) = true := by kernel_rfl
theorem c_script_Parse (line : List UInt8) (hs : line.length ≤ 90000) : CallA Tryd.prog 18 [.str line] (· = parseA line) := by
  refine callA_of_body T41l_ok mixed Tryd.func18 rfl (Nat.le_of_ble_eq_true rfl) ok_script_Parse ?_
  unfold Tryd.f18
  have g0 := t5_Split (s := line) (by omega)
  cases hw : wordsW line with
  | none =>
    rw [hw] at g0
    simp only [wordsA] at g0
    rw [parseA_no (by unfold parseE; rw [hw])]
    simp -implicitDefEqProofs (disch := (first | omega | decide)) only [go_sem, ↓reduceIte, seval, g0]
  | some l =>
    rw [hw] at g0
    simp only [wordsA] at g0
    obtain ⟨hmay, hline⟩ := words_some hw
    have hcnt := line_cnt l
    rw [hline] at hcnt
    have hmem : ∀ y ∈ l, y.length ≤ 90000 := fun y hy => by
      have := mem_line hy
      rw [hline] at this; omega
    cases l with
    | nil =>
      rw [parseA_no (by unfold parseE; rw [hw])]
      simp only [List.map_nil] at g0
      simp -implicitDefEqProofs (disch := (first | omega | decide)) only [go_sem, ↓reduceIte, seval, g0]
    | cons x r =>
      have fin : ∀ C, candE x r = C → parseE line = if rightE C = true ∧ lineE C = line then some C else none := by
        intro C hC
        unfold parseE; rw [hw]; simp only [hC]
      have gk := t41_kind (x := x) (r := r) (by simp at hcnt; omega)
      have hg := last_get x r
      have hlm : ((x :: r).getLast (by simp)).length ≤ 90000 := hmem _ (List.getLast_mem _)
      have hce := cand_eq x r
      have hr1 : r = [] ∨ ∃ y r', r = y :: r' := by cases r <;> simp
      have hlen : ((x :: r).map A.str).length = r.length + 1 := by simp
      have c1 : ((r.length : Int) + 1 - 1) = (r.length : Int) := by omega
      have c2 : (0 : Int) ≤ (r.length : Int) := by omega
      have c3 : ((r.length + 1 : Nat) : Int) = (r.length : Int) + 1 := by omega
      have c4 : (((r.length : Int) + 1) == 0) = false := by rw [beq_eq_false_iff_ne]; omega
      have c5 : (r.length : Int) + 1 < 100000 := by simp at hcnt; omega
      have hk := kindL_in x ((x :: r).getLast (by simp))
      generalize hlt : (x :: r).getLast (by simp) = last at *
      have gl1 := t41_number (s := last) (by omega)
      have gl2 := t5_Read (s := last) (by omega)
      have gy : ∀ y r', r = y :: r' → ((x :: r).map A.str)[1]? = some (.str y) ∧ T41e.f 35 [.str y] = some (.tup [.int .i64 (numS y : Int), .bool (numF y)]) ∧ (1 : Int) < (r.length : Int) + 1 := by
        intro y r' e
        subst e
        exact ⟨rfl, t41_number (by have := hmem y (by simp); omega), by simp; omega⟩
      generalize hL : (x :: r).map A.str = L at *
      rcases hk with hk | hk | hk | hk | hk | hk | hk | hk <;> rw [hk] at gk hce
      · have hC := fin (⟨1, 0, 0, false, []⟩ : Ev) hce
        have gl := t41_Line (v := (⟨1, 0, 0, false, []⟩ : Ev)) (by simp)
        simp -implicitDefEqProofs (maxSteps := 600000) (disch := (first | omega | decide)) only [go_sem, ↓reduceIte, seval, g0, gk, hg, hlen, c1, c2, c3, c4, wrap_i64]
        cases hrt : rightE (⟨1, 0, 0, false, []⟩ : Ev) with
        | false =>
          rw [lineA_no hrt] at gl
          rw [if_neg (fun h => absurd h.1 (by rw [hrt]; decide))] at hC
          rw [parseA_no hC]
          simp only [Ev.enc, bytesA_nil] at gl
          simp -implicitDefEqProofs (maxSteps := 600000) (disch := (first | omega | decide)) only [go_sem, ↓reduceIte, seval, gl, bytesA_nil]
          try rfl
        | true =>
          rw [lineA_yes hrt] at gl
          by_cases he : lineE (⟨1, 0, 0, false, []⟩ : Ev) = line
          · rw [if_pos ⟨hrt, he⟩] at hC
            rw [parseA_yes hC]
            rw [he] at gl
            simp only [Ev.enc, bytesA_nil] at gl ⊢
            simp -implicitDefEqProofs (maxSteps := 600000) (disch := (first | omega | decide)) only [go_sem, ↓reduceIte, seval, gl, bytesA_nil]
            try rfl
          · rw [if_neg (fun h => he h.2)] at hC
            rw [parseA_no hC]
            have he' : (lineE (⟨1, 0, 0, false, []⟩ : Ev) == line) = false := beq_eq_false_iff_ne.2 he
            simp only [Ev.enc, bytesA_nil] at gl
            generalize lineE (⟨1, 0, 0, false, []⟩ : Ev) = ln at *
            simp -implicitDefEqProofs (maxSteps := 600000) (disch := (first | omega | decide)) only [go_sem, ↓reduceIte, seval, gl, he', bytesA_nil]
            try rfl
      · rcases hr1 with hr0 | ⟨y, r', hr0⟩
        · have ho : oneI r = 0 := by rw [hr0]; rfl
          have n0 : ¬ (1 : Int) < (r.length : Int) + 1 := by rw [hr0]; simp
          rw [ho] at hce
          have hC := fin (⟨2, 0, 0, decide (last = keepT), []⟩ : Ev) hce
          have gl := t41_Line (v := (⟨2, 0, 0, decide (last = keepT), []⟩ : Ev)) (by simp)
          simp -implicitDefEqProofs (maxSteps := 600000) (disch := (first | omega | decide)) only [go_sem, ↓reduceIte, seval, g0, gk, hg, hlen, c1, c2, c3, c4, wrap_i64, keep_beq, n0]
          cases hrt : rightE (⟨2, 0, 0, decide (last = keepT), []⟩ : Ev) with
          | false =>
            rw [lineA_no hrt] at gl
            rw [if_neg (fun h => absurd h.1 (by rw [hrt]; decide))] at hC
            rw [parseA_no hC]
            simp only [Ev.enc, bytesA_nil] at gl
            simp -implicitDefEqProofs (maxSteps := 600000) (disch := (first | omega | decide)) only [go_sem, ↓reduceIte, seval, gl, bytesA_nil]
            try rfl
          | true =>
            rw [lineA_yes hrt] at gl
            by_cases he : lineE (⟨2, 0, 0, decide (last = keepT), []⟩ : Ev) = line
            · rw [if_pos ⟨hrt, he⟩] at hC
              rw [parseA_yes hC]
              rw [he] at gl
              simp only [Ev.enc, bytesA_nil] at gl ⊢
              simp -implicitDefEqProofs (maxSteps := 600000) (disch := (first | omega | decide)) only [go_sem, ↓reduceIte, seval, gl, bytesA_nil]
              try rfl
            · rw [if_neg (fun h => he h.2)] at hC
              rw [parseA_no hC]
              have he' : (lineE (⟨2, 0, 0, decide (last = keepT), []⟩ : Ev) == line) = false := beq_eq_false_iff_ne.2 he
              simp only [Ev.enc, bytesA_nil] at gl
              generalize lineE (⟨2, 0, 0, decide (last = keepT), []⟩ : Ev) = ln at *
              simp -implicitDefEqProofs (maxSteps := 600000) (disch := (first | omega | decide)) only [go_sem, ↓reduceIte, seval, gl, he', bytesA_nil]
              try rfl
        · have ho : oneI r = (numS y : Int) := by rw [hr0]; rfl
          rw [ho] at hce
          have hC := fin (⟨2, (numS y : Int), 0, decide (last = keepT), []⟩ : Ev) hce
          obtain ⟨y1, y2, y3⟩ := gy y r' hr0
          have gl := t41_Line (v := (⟨2, (numS y : Int), 0, decide (last = keepT), []⟩ : Ev)) (by simp)
          simp -implicitDefEqProofs (maxSteps := 600000) (disch := (first | omega | decide)) only [go_sem, ↓reduceIte, seval, g0, gk, hg, hlen, c1, c2, c3, c4, wrap_i64, keep_beq, y1, y2, y3]
          cases hrt : rightE (⟨2, (numS y : Int), 0, decide (last = keepT), []⟩ : Ev) with
          | false =>
            rw [lineA_no hrt] at gl
            rw [if_neg (fun h => absurd h.1 (by rw [hrt]; decide))] at hC
            rw [parseA_no hC]
            simp only [Ev.enc, bytesA_nil] at gl
            simp -implicitDefEqProofs (maxSteps := 600000) (disch := (first | omega | decide)) only [go_sem, ↓reduceIte, seval, gl, bytesA_nil]
            try rfl
          | true =>
            rw [lineA_yes hrt] at gl
            by_cases he : lineE (⟨2, (numS y : Int), 0, decide (last = keepT), []⟩ : Ev) = line
            · rw [if_pos ⟨hrt, he⟩] at hC
              rw [parseA_yes hC]
              rw [he] at gl
              simp only [Ev.enc, bytesA_nil] at gl ⊢
              simp -implicitDefEqProofs (maxSteps := 600000) (disch := (first | omega | decide)) only [go_sem, ↓reduceIte, seval, gl, bytesA_nil]
              try rfl
            · rw [if_neg (fun h => he h.2)] at hC
              rw [parseA_no hC]
              have he' : (lineE (⟨2, (numS y : Int), 0, decide (last = keepT), []⟩ : Ev) == line) = false := beq_eq_false_iff_ne.2 he
              simp only [Ev.enc, bytesA_nil] at gl
              generalize lineE (⟨2, (numS y : Int), 0, decide (last = keepT), []⟩ : Ev) = ln at *
              simp -implicitDefEqProofs (maxSteps := 600000) (disch := (first | omega | decide)) only [go_sem, ↓reduceIte, seval, gl, he', bytesA_nil]
              try rfl
      · rcases hr1 with hr0 | ⟨y, r', hr0⟩
        · have ho : oneI r = 0 := by rw [hr0]; rfl
          have n0 : ¬ (1 : Int) < (r.length : Int) + 1 := by rw [hr0]; simp
          rw [ho] at hce
          have hC := fin (⟨3, 0, 0, decide (last = keepT), []⟩ : Ev) hce
          have gl := t41_Line (v := (⟨3, 0, 0, decide (last = keepT), []⟩ : Ev)) (by simp)
          simp -implicitDefEqProofs (maxSteps := 600000) (disch := (first | omega | decide)) only [go_sem, ↓reduceIte, seval, g0, gk, hg, hlen, c1, c2, c3, c4, wrap_i64, keep_beq, n0]
          cases hrt : rightE (⟨3, 0, 0, decide (last = keepT), []⟩ : Ev) with
          | false =>
            rw [lineA_no hrt] at gl
            rw [if_neg (fun h => absurd h.1 (by rw [hrt]; decide))] at hC
            rw [parseA_no hC]
            simp only [Ev.enc, bytesA_nil] at gl
            simp -implicitDefEqProofs (maxSteps := 600000) (disch := (first | omega | decide)) only [go_sem, ↓reduceIte, seval, gl, bytesA_nil]
            try rfl
          | true =>
            rw [lineA_yes hrt] at gl
            by_cases he : lineE (⟨3, 0, 0, decide (last = keepT), []⟩ : Ev) = line
            · rw [if_pos ⟨hrt, he⟩] at hC
              rw [parseA_yes hC]
              rw [he] at gl
              simp only [Ev.enc, bytesA_nil] at gl ⊢
              simp -implicitDefEqProofs (maxSteps := 600000) (disch := (first | omega | decide)) only [go_sem, ↓reduceIte, seval, gl, bytesA_nil]
              try rfl
            · rw [if_neg (fun h => he h.2)] at hC
              rw [parseA_no hC]
              have he' : (lineE (⟨3, 0, 0, decide (last = keepT), []⟩ : Ev) == line) = false := beq_eq_false_iff_ne.2 he
              simp only [Ev.enc, bytesA_nil] at gl
              generalize lineE (⟨3, 0, 0, decide (last = keepT), []⟩ : Ev) = ln at *
              simp -implicitDefEqProofs (maxSteps := 600000) (disch := (first | omega | decide)) only [go_sem, ↓reduceIte, seval, gl, he', bytesA_nil]
              try rfl
        · have ho : oneI r = (numS y : Int) := by rw [hr0]; rfl
          rw [ho] at hce
          have hC := fin (⟨3, (numS y : Int), 0, decide (last = keepT), []⟩ : Ev) hce
          obtain ⟨y1, y2, y3⟩ := gy y r' hr0
          have gl := t41_Line (v := (⟨3, (numS y : Int), 0, decide (last = keepT), []⟩ : Ev)) (by simp)
          simp -implicitDefEqProofs (maxSteps := 600000) (disch := (first | omega | decide)) only [go_sem, ↓reduceIte, seval, g0, gk, hg, hlen, c1, c2, c3, c4, wrap_i64, keep_beq, y1, y2, y3]
          cases hrt : rightE (⟨3, (numS y : Int), 0, decide (last = keepT), []⟩ : Ev) with
          | false =>
            rw [lineA_no hrt] at gl
            rw [if_neg (fun h => absurd h.1 (by rw [hrt]; decide))] at hC
            rw [parseA_no hC]
            simp only [Ev.enc, bytesA_nil] at gl
            simp -implicitDefEqProofs (maxSteps := 600000) (disch := (first | omega | decide)) only [go_sem, ↓reduceIte, seval, gl, bytesA_nil]
            try rfl
          | true =>
            rw [lineA_yes hrt] at gl
            by_cases he : lineE (⟨3, (numS y : Int), 0, decide (last = keepT), []⟩ : Ev) = line
            · rw [if_pos ⟨hrt, he⟩] at hC
              rw [parseA_yes hC]
              rw [he] at gl
              simp only [Ev.enc, bytesA_nil] at gl ⊢
              simp -implicitDefEqProofs (maxSteps := 600000) (disch := (first | omega | decide)) only [go_sem, ↓reduceIte, seval, gl, bytesA_nil]
              try rfl
            · rw [if_neg (fun h => he h.2)] at hC
              rw [parseA_no hC]
              have he' : (lineE (⟨3, (numS y : Int), 0, decide (last = keepT), []⟩ : Ev) == line) = false := beq_eq_false_iff_ne.2 he
              simp only [Ev.enc, bytesA_nil] at gl
              generalize lineE (⟨3, (numS y : Int), 0, decide (last = keepT), []⟩ : Ev) = ln at *
              simp -implicitDefEqProofs (maxSteps := 600000) (disch := (first | omega | decide)) only [go_sem, ↓reduceIte, seval, gl, he', bytesA_nil]
              try rfl
      · rcases hr1 with hr0 | ⟨y, r', hr0⟩
        · have ho : oneI r = 0 := by rw [hr0]; rfl
          have n0 : ¬ (1 : Int) < (r.length : Int) + 1 := by rw [hr0]; simp
          rw [ho] at hce
          have hC := fin (⟨4, (numS last : Int), 0, false, []⟩ : Ev) hce
          have gl := t41_Line (v := (⟨4, (numS last : Int), 0, false, []⟩ : Ev)) (by simp)
          simp -implicitDefEqProofs (maxSteps := 600000) (disch := (first | omega | decide)) only [go_sem, ↓reduceIte, seval, g0, gk, hg, hlen, c1, c2, c3, c4, wrap_i64, gl1, n0]
          cases hrt : rightE (⟨4, (numS last : Int), 0, false, []⟩ : Ev) with
          | false =>
            rw [lineA_no hrt] at gl
            rw [if_neg (fun h => absurd h.1 (by rw [hrt]; decide))] at hC
            rw [parseA_no hC]
            simp only [Ev.enc, bytesA_nil] at gl
            simp -implicitDefEqProofs (maxSteps := 600000) (disch := (first | omega | decide)) only [go_sem, ↓reduceIte, seval, gl, bytesA_nil]
            try rfl
          | true =>
            rw [lineA_yes hrt] at gl
            by_cases he : lineE (⟨4, (numS last : Int), 0, false, []⟩ : Ev) = line
            · rw [if_pos ⟨hrt, he⟩] at hC
              rw [parseA_yes hC]
              rw [he] at gl
              simp only [Ev.enc, bytesA_nil] at gl ⊢
              simp -implicitDefEqProofs (maxSteps := 600000) (disch := (first | omega | decide)) only [go_sem, ↓reduceIte, seval, gl, bytesA_nil]
              try rfl
            · rw [if_neg (fun h => he h.2)] at hC
              rw [parseA_no hC]
              have he' : (lineE (⟨4, (numS last : Int), 0, false, []⟩ : Ev) == line) = false := beq_eq_false_iff_ne.2 he
              simp only [Ev.enc, bytesA_nil] at gl
              generalize lineE (⟨4, (numS last : Int), 0, false, []⟩ : Ev) = ln at *
              simp -implicitDefEqProofs (maxSteps := 600000) (disch := (first | omega | decide)) only [go_sem, ↓reduceIte, seval, gl, he', bytesA_nil]
              try rfl
        · have ho : oneI r = (numS y : Int) := by rw [hr0]; rfl
          rw [ho] at hce
          have hC := fin (⟨4, (numS last : Int), (numS y : Int), false, []⟩ : Ev) hce
          obtain ⟨y1, y2, y3⟩ := gy y r' hr0
          have gl := t41_Line (v := (⟨4, (numS last : Int), (numS y : Int), false, []⟩ : Ev)) (by simp)
          simp -implicitDefEqProofs (maxSteps := 600000) (disch := (first | omega | decide)) only [go_sem, ↓reduceIte, seval, g0, gk, hg, hlen, c1, c2, c3, c4, wrap_i64, gl1, y1, y2, y3]
          cases hrt : rightE (⟨4, (numS last : Int), (numS y : Int), false, []⟩ : Ev) with
          | false =>
            rw [lineA_no hrt] at gl
            rw [if_neg (fun h => absurd h.1 (by rw [hrt]; decide))] at hC
            rw [parseA_no hC]
            simp only [Ev.enc, bytesA_nil] at gl
            simp -implicitDefEqProofs (maxSteps := 600000) (disch := (first | omega | decide)) only [go_sem, ↓reduceIte, seval, gl, bytesA_nil]
            try rfl
          | true =>
            rw [lineA_yes hrt] at gl
            by_cases he : lineE (⟨4, (numS last : Int), (numS y : Int), false, []⟩ : Ev) = line
            · rw [if_pos ⟨hrt, he⟩] at hC
              rw [parseA_yes hC]
              rw [he] at gl
              simp only [Ev.enc, bytesA_nil] at gl ⊢
              simp -implicitDefEqProofs (maxSteps := 600000) (disch := (first | omega | decide)) only [go_sem, ↓reduceIte, seval, gl, bytesA_nil]
              try rfl
            · rw [if_neg (fun h => he h.2)] at hC
              rw [parseA_no hC]
              have he' : (lineE (⟨4, (numS last : Int), (numS y : Int), false, []⟩ : Ev) == line) = false := beq_eq_false_iff_ne.2 he
              simp only [Ev.enc, bytesA_nil] at gl
              generalize lineE (⟨4, (numS last : Int), (numS y : Int), false, []⟩ : Ev) = ln at *
              simp -implicitDefEqProofs (maxSteps := 600000) (disch := (first | omega | decide)) only [go_sem, ↓reduceIte, seval, gl, he', bytesA_nil]
              try rfl
      · have hC := fin (⟨5, 0, 0, false, []⟩ : Ev) hce
        have gl := t41_Line (v := (⟨5, 0, 0, false, []⟩ : Ev)) (by simp)
        simp -implicitDefEqProofs (maxSteps := 600000) (disch := (first | omega | decide)) only [go_sem, ↓reduceIte, seval, g0, gk, hg, hlen, c1, c2, c3, c4, wrap_i64]
        cases hrt : rightE (⟨5, 0, 0, false, []⟩ : Ev) with
        | false =>
          rw [lineA_no hrt] at gl
          rw [if_neg (fun h => absurd h.1 (by rw [hrt]; decide))] at hC
          rw [parseA_no hC]
          simp only [Ev.enc, bytesA_nil] at gl
          simp -implicitDefEqProofs (maxSteps := 600000) (disch := (first | omega | decide)) only [go_sem, ↓reduceIte, seval, gl, bytesA_nil]
          try rfl
        | true =>
          rw [lineA_yes hrt] at gl
          by_cases he : lineE (⟨5, 0, 0, false, []⟩ : Ev) = line
          · rw [if_pos ⟨hrt, he⟩] at hC
            rw [parseA_yes hC]
            rw [he] at gl
            simp only [Ev.enc, bytesA_nil] at gl ⊢
            simp -implicitDefEqProofs (maxSteps := 600000) (disch := (first | omega | decide)) only [go_sem, ↓reduceIte, seval, gl, bytesA_nil]
            try rfl
          · rw [if_neg (fun h => he h.2)] at hC
            rw [parseA_no hC]
            have he' : (lineE (⟨5, 0, 0, false, []⟩ : Ev) == line) = false := beq_eq_false_iff_ne.2 he
            simp only [Ev.enc, bytesA_nil] at gl
            generalize lineE (⟨5, 0, 0, false, []⟩ : Ev) = ln at *
            simp -implicitDefEqProofs (maxSteps := 600000) (disch := (first | omega | decide)) only [go_sem, ↓reduceIte, seval, gl, he', bytesA_nil]
            try rfl
      · have hC := fin (⟨6, 0, 0, false, []⟩ : Ev) hce
        have gl := t41_Line (v := (⟨6, 0, 0, false, []⟩ : Ev)) (by simp)
        simp -implicitDefEqProofs (maxSteps := 600000) (disch := (first | omega | decide)) only [go_sem, ↓reduceIte, seval, g0, gk, hg, hlen, c1, c2, c3, c4, wrap_i64]
        cases hrt : rightE (⟨6, 0, 0, false, []⟩ : Ev) with
        | false =>
          rw [lineA_no hrt] at gl
          rw [if_neg (fun h => absurd h.1 (by rw [hrt]; decide))] at hC
          rw [parseA_no hC]
          simp only [Ev.enc, bytesA_nil] at gl
          simp -implicitDefEqProofs (maxSteps := 600000) (disch := (first | omega | decide)) only [go_sem, ↓reduceIte, seval, gl, bytesA_nil]
          try rfl
        | true =>
          rw [lineA_yes hrt] at gl
          by_cases he : lineE (⟨6, 0, 0, false, []⟩ : Ev) = line
          · rw [if_pos ⟨hrt, he⟩] at hC
            rw [parseA_yes hC]
            rw [he] at gl
            simp only [Ev.enc, bytesA_nil] at gl ⊢
            simp -implicitDefEqProofs (maxSteps := 600000) (disch := (first | omega | decide)) only [go_sem, ↓reduceIte, seval, gl, bytesA_nil]
            try rfl
          · rw [if_neg (fun h => he h.2)] at hC
            rw [parseA_no hC]
            have he' : (lineE (⟨6, 0, 0, false, []⟩ : Ev) == line) = false := beq_eq_false_iff_ne.2 he
            simp only [Ev.enc, bytesA_nil] at gl
            generalize lineE (⟨6, 0, 0, false, []⟩ : Ev) = ln at *
            simp -implicitDefEqProofs (maxSteps := 600000) (disch := (first | omega | decide)) only [go_sem, ↓reduceIte, seval, gl, he', bytesA_nil]
            try rfl
      · rcases hr1 with hr0 | ⟨y, r', hr0⟩
        · have ho : oneI r = 0 := by rw [hr0]; rfl
          have n0 : ¬ (1 : Int) < (r.length : Int) + 1 := by rw [hr0]; simp
          rw [ho] at hce
          have hC := fin (⟨7, (numS last : Int), 0, false, []⟩ : Ev) hce
          have gl := t41_Line (v := (⟨7, (numS last : Int), 0, false, []⟩ : Ev)) (by simp)
          simp -implicitDefEqProofs (maxSteps := 600000) (disch := (first | omega | decide)) only [go_sem, ↓reduceIte, seval, g0, gk, hg, hlen, c1, c2, c3, c4, wrap_i64, gl1, n0]
          cases hrt : rightE (⟨7, (numS last : Int), 0, false, []⟩ : Ev) with
          | false =>
            rw [lineA_no hrt] at gl
            rw [if_neg (fun h => absurd h.1 (by rw [hrt]; decide))] at hC
            rw [parseA_no hC]
            simp only [Ev.enc, bytesA_nil] at gl
            simp -implicitDefEqProofs (maxSteps := 600000) (disch := (first | omega | decide)) only [go_sem, ↓reduceIte, seval, gl, bytesA_nil]
            try rfl
          | true =>
            rw [lineA_yes hrt] at gl
            by_cases he : lineE (⟨7, (numS last : Int), 0, false, []⟩ : Ev) = line
            · rw [if_pos ⟨hrt, he⟩] at hC
              rw [parseA_yes hC]
              rw [he] at gl
              simp only [Ev.enc, bytesA_nil] at gl ⊢
              simp -implicitDefEqProofs (maxSteps := 600000) (disch := (first | omega | decide)) only [go_sem, ↓reduceIte, seval, gl, bytesA_nil]
              try rfl
            · rw [if_neg (fun h => he h.2)] at hC
              rw [parseA_no hC]
              have he' : (lineE (⟨7, (numS last : Int), 0, false, []⟩ : Ev) == line) = false := beq_eq_false_iff_ne.2 he
              simp only [Ev.enc, bytesA_nil] at gl
              generalize lineE (⟨7, (numS last : Int), 0, false, []⟩ : Ev) = ln at *
              simp -implicitDefEqProofs (maxSteps := 600000) (disch := (first | omega | decide)) only [go_sem, ↓reduceIte, seval, gl, he', bytesA_nil]
              try rfl
        · have ho : oneI r = (numS y : Int) := by rw [hr0]; rfl
          rw [ho] at hce
          have hC := fin (⟨7, (numS last : Int), (numS y : Int), false, []⟩ : Ev) hce
          obtain ⟨y1, y2, y3⟩ := gy y r' hr0
          have gl := t41_Line (v := (⟨7, (numS last : Int), (numS y : Int), false, []⟩ : Ev)) (by simp)
          simp -implicitDefEqProofs (maxSteps := 600000) (disch := (first | omega | decide)) only [go_sem, ↓reduceIte, seval, g0, gk, hg, hlen, c1, c2, c3, c4, wrap_i64, gl1, y1, y2, y3]
          cases hrt : rightE (⟨7, (numS last : Int), (numS y : Int), false, []⟩ : Ev) with
          | false =>
            rw [lineA_no hrt] at gl
            rw [if_neg (fun h => absurd h.1 (by rw [hrt]; decide))] at hC
            rw [parseA_no hC]
            simp only [Ev.enc, bytesA_nil] at gl
            simp -implicitDefEqProofs (maxSteps := 600000) (disch := (first | omega | decide)) only [go_sem, ↓reduceIte, seval, gl, bytesA_nil]
            try rfl
          | true =>
            rw [lineA_yes hrt] at gl
            by_cases he : lineE (⟨7, (numS last : Int), (numS y : Int), false, []⟩ : Ev) = line
            · rw [if_pos ⟨hrt, he⟩] at hC
              rw [parseA_yes hC]
              rw [he] at gl
              simp only [Ev.enc, bytesA_nil] at gl ⊢
              simp -implicitDefEqProofs (maxSteps := 600000) (disch := (first | omega | decide)) only [go_sem, ↓reduceIte, seval, gl, bytesA_nil]
              try rfl
            · rw [if_neg (fun h => he h.2)] at hC
              rw [parseA_no hC]
              have he' : (lineE (⟨7, (numS last : Int), (numS y : Int), false, []⟩ : Ev) == line) = false := beq_eq_false_iff_ne.2 he
              simp only [Ev.enc, bytesA_nil] at gl
              generalize lineE (⟨7, (numS last : Int), (numS y : Int), false, []⟩ : Ev) = ln at *
              simp -implicitDefEqProofs (maxSteps := 600000) (disch := (first | omega | decide)) only [go_sem, ↓reduceIte, seval, gl, he', bytesA_nil]
              try rfl
      · rcases hr1 with hr0 | ⟨y, r', hr0⟩
        · have ho : oneI r = 0 := by rw [hr0]; rfl
          have n0 : ¬ (1 : Int) < (r.length : Int) + 1 := by rw [hr0]; simp
          rw [ho] at hce
          cases hrd : readW last with
          | none =>
            rw [hrd] at gl2
            simp only [rdA] at gl2
            have hC := fin (⟨8, 0, 0, false, []⟩ : Ev) (by rw [hce]; unfold candK; rw [hrd]; rfl)
            have gl := t41_Line (v := (⟨8, 0, 0, false, []⟩ : Ev)) (by simp)
            have v1 : (bytesA []).length = ([] : List UInt8).length := bytesA_len _
            have v2 : (bytesA []).take ([] : List UInt8).length = bytesA [] := bytes_take _ rfl
            simp -implicitDefEqProofs (maxSteps := 600000) (disch := (first | omega | decide)) only [go_sem, ↓reduceIte, seval, g0, gk, hg, hlen, c1, c2, c3, c4, wrap_i64, n0, gl2, v1, v2, Nat.le_refl]
            cases hrt : rightE (⟨8, 0, 0, false, []⟩ : Ev) with
            | false =>
              rw [lineA_no hrt] at gl
              rw [if_neg (fun h => absurd h.1 (by rw [hrt]; decide))] at hC
              rw [parseA_no hC]
              simp only [Ev.enc, bytesA_nil] at gl
              simp -implicitDefEqProofs (maxSteps := 600000) (disch := (first | omega | decide)) only [go_sem, ↓reduceIte, seval, gl, v1, v2, Nat.le_refl]
              try rfl
            | true =>
              rw [lineA_yes hrt] at gl
              by_cases he : lineE (⟨8, 0, 0, false, []⟩ : Ev) = line
              · rw [if_pos ⟨hrt, he⟩] at hC
                rw [parseA_yes hC]
                rw [he] at gl
                simp only [Ev.enc, bytesA_nil] at gl ⊢
                simp -implicitDefEqProofs (maxSteps := 600000) (disch := (first | omega | decide)) only [go_sem, ↓reduceIte, seval, gl, v1, v2, Nat.le_refl]
                try rfl
              · rw [if_neg (fun h => he h.2)] at hC
                rw [parseA_no hC]
                have he' : (lineE (⟨8, 0, 0, false, []⟩ : Ev) == line) = false := beq_eq_false_iff_ne.2 he
                simp only [Ev.enc, bytesA_nil] at gl
                generalize lineE (⟨8, 0, 0, false, []⟩ : Ev) = ln at *
                simp -implicitDefEqProofs (maxSteps := 600000) (disch := (first | omega | decide)) only [go_sem, ↓reduceIte, seval, gl, he', v1, v2, Nat.le_refl]
                try rfl
          | some t =>
            rw [hrd] at gl2
            simp only [rdA] at gl2
            have hC := fin (⟨8, 0, 0, false, t⟩ : Ev) (by rw [hce]; unfold candK; rw [hrd]; rfl)
            have gl := t41_Line (v := (⟨8, 0, 0, false, t⟩ : Ev)) (by have := readW_len hrd; simp only; omega)
            have v1 : (bytesA t).length = (t : List UInt8).length := bytesA_len _
            have v2 : (bytesA t).take (t : List UInt8).length = bytesA t := bytes_take _ rfl
            simp -implicitDefEqProofs (maxSteps := 600000) (disch := (first | omega | decide)) only [go_sem, ↓reduceIte, seval, g0, gk, hg, hlen, c1, c2, c3, c4, wrap_i64, n0, gl2, v1, v2, Nat.le_refl]
            cases hrt : rightE (⟨8, 0, 0, false, t⟩ : Ev) with
            | false =>
              rw [lineA_no hrt] at gl
              rw [if_neg (fun h => absurd h.1 (by rw [hrt]; decide))] at hC
              rw [parseA_no hC]
              simp only [Ev.enc, bytesA_nil] at gl
              simp -implicitDefEqProofs (maxSteps := 600000) (disch := (first | omega | decide)) only [go_sem, ↓reduceIte, seval, gl, v1, v2, Nat.le_refl]
              try rfl
            | true =>
              rw [lineA_yes hrt] at gl
              by_cases he : lineE (⟨8, 0, 0, false, t⟩ : Ev) = line
              · rw [if_pos ⟨hrt, he⟩] at hC
                rw [parseA_yes hC]
                rw [he] at gl
                simp only [Ev.enc, bytesA_nil] at gl ⊢
                simp -implicitDefEqProofs (maxSteps := 600000) (disch := (first | omega | decide)) only [go_sem, ↓reduceIte, seval, gl, v1, v2, Nat.le_refl]
                try rfl
              · rw [if_neg (fun h => he h.2)] at hC
                rw [parseA_no hC]
                have he' : (lineE (⟨8, 0, 0, false, t⟩ : Ev) == line) = false := beq_eq_false_iff_ne.2 he
                simp only [Ev.enc, bytesA_nil] at gl
                generalize lineE (⟨8, 0, 0, false, t⟩ : Ev) = ln at *
                simp -implicitDefEqProofs (maxSteps := 600000) (disch := (first | omega | decide)) only [go_sem, ↓reduceIte, seval, gl, he', v1, v2, Nat.le_refl]
                try rfl
        · have ho : oneI r = (numS y : Int) := by rw [hr0]; rfl
          rw [ho] at hce
          obtain ⟨y1, y2, y3⟩ := gy y r' hr0
          cases hrd : readW last with
          | none =>
            rw [hrd] at gl2
            simp only [rdA] at gl2
            have hC := fin (⟨8, 0, (numS y : Int), false, []⟩ : Ev) (by rw [hce]; unfold candK; rw [hrd]; rfl)
            have gl := t41_Line (v := (⟨8, 0, (numS y : Int), false, []⟩ : Ev)) (by simp)
            have v1 : (bytesA []).length = ([] : List UInt8).length := bytesA_len _
            have v2 : (bytesA []).take ([] : List UInt8).length = bytesA [] := bytes_take _ rfl
            simp -implicitDefEqProofs (maxSteps := 600000) (disch := (first | omega | decide)) only [go_sem, ↓reduceIte, seval, g0, gk, hg, hlen, c1, c2, c3, c4, wrap_i64, y1, y2, y3, gl2, v1, v2, Nat.le_refl]
            cases hrt : rightE (⟨8, 0, (numS y : Int), false, []⟩ : Ev) with
            | false =>
              rw [lineA_no hrt] at gl
              rw [if_neg (fun h => absurd h.1 (by rw [hrt]; decide))] at hC
              rw [parseA_no hC]
              simp only [Ev.enc, bytesA_nil] at gl
              simp -implicitDefEqProofs (maxSteps := 600000) (disch := (first | omega | decide)) only [go_sem, ↓reduceIte, seval, gl, v1, v2, Nat.le_refl]
              try rfl
            | true =>
              rw [lineA_yes hrt] at gl
              by_cases he : lineE (⟨8, 0, (numS y : Int), false, []⟩ : Ev) = line
              · rw [if_pos ⟨hrt, he⟩] at hC
                rw [parseA_yes hC]
                rw [he] at gl
                simp only [Ev.enc, bytesA_nil] at gl ⊢
                simp -implicitDefEqProofs (maxSteps := 600000) (disch := (first | omega | decide)) only [go_sem, ↓reduceIte, seval, gl, v1, v2, Nat.le_refl]
                try rfl
              · rw [if_neg (fun h => he h.2)] at hC
                rw [parseA_no hC]
                have he' : (lineE (⟨8, 0, (numS y : Int), false, []⟩ : Ev) == line) = false := beq_eq_false_iff_ne.2 he
                simp only [Ev.enc, bytesA_nil] at gl
                generalize lineE (⟨8, 0, (numS y : Int), false, []⟩ : Ev) = ln at *
                simp -implicitDefEqProofs (maxSteps := 600000) (disch := (first | omega | decide)) only [go_sem, ↓reduceIte, seval, gl, he', v1, v2, Nat.le_refl]
                try rfl
          | some t =>
            rw [hrd] at gl2
            simp only [rdA] at gl2
            have hC := fin (⟨8, 0, (numS y : Int), false, t⟩ : Ev) (by rw [hce]; unfold candK; rw [hrd]; rfl)
            have gl := t41_Line (v := (⟨8, 0, (numS y : Int), false, t⟩ : Ev)) (by have := readW_len hrd; simp only; omega)
            have v1 : (bytesA t).length = (t : List UInt8).length := bytesA_len _
            have v2 : (bytesA t).take (t : List UInt8).length = bytesA t := bytes_take _ rfl
            simp -implicitDefEqProofs (maxSteps := 600000) (disch := (first | omega | decide)) only [go_sem, ↓reduceIte, seval, g0, gk, hg, hlen, c1, c2, c3, c4, wrap_i64, y1, y2, y3, gl2, v1, v2, Nat.le_refl]
            cases hrt : rightE (⟨8, 0, (numS y : Int), false, t⟩ : Ev) with
            | false =>
              rw [lineA_no hrt] at gl
              rw [if_neg (fun h => absurd h.1 (by rw [hrt]; decide))] at hC
              rw [parseA_no hC]
              simp only [Ev.enc, bytesA_nil] at gl
              simp -implicitDefEqProofs (maxSteps := 600000) (disch := (first | omega | decide)) only [go_sem, ↓reduceIte, seval, gl, v1, v2, Nat.le_refl]
              try rfl
            | true =>
              rw [lineA_yes hrt] at gl
              by_cases he : lineE (⟨8, 0, (numS y : Int), false, t⟩ : Ev) = line
              · rw [if_pos ⟨hrt, he⟩] at hC
                rw [parseA_yes hC]
                rw [he] at gl
                simp only [Ev.enc, bytesA_nil] at gl ⊢
                simp -implicitDefEqProofs (maxSteps := 600000) (disch := (first | omega | decide)) only [go_sem, ↓reduceIte, seval, gl, v1, v2, Nat.le_refl]
                try rfl
              · rw [if_neg (fun h => he h.2)] at hC
                rw [parseA_no hC]
                have he' : (lineE (⟨8, 0, (numS y : Int), false, t⟩ : Ev) == line) = false := beq_eq_false_iff_ne.2 he
                simp only [Ev.enc, bytesA_nil] at gl
                generalize lineE (⟨8, 0, (numS y : Int), false, t⟩ : Ev) = ln at *
                simp -implicitDefEqProofs (maxSteps := 600000) (disch := (first | omega | decide)) only [go_sem, ↓reduceIte, seval, gl, he', v1, v2, Nat.le_refl]
                try rfl
noncomputable def T41m : Tab := T41l.add 18 (entry (fun (s : List UInt8) => [.str s]) (fun s => s.length ≤ 90000) (fun s => parseA s))
theorem T41m_ok : TabOK Tryd.prog T41m := T41l_ok.ent Tryd.func18 (by kernel_rfl) (by kernel_rfl) fun s h => c_script_Parse s h
@[go_sem] theorem T41m_old {g : FuncId} {xs : List A} (h : g ≠ 18) : T41m.f g xs = T41l.f g xs := Tab.add_ne h
@[go_sem] theorem T41m_s : T41m.pl T41l := ⟨fun _ => rfl, fun _ => rfl, rfl, fun _ => rfl, rfl, fun _ => rfl, rfl⟩
theorem T41m_script_Parse (s : List UInt8) (h : s.length ≤ 90000) : T41m.f 18 [.str s] = some (parseA s) := Tab.ent_eq (Γ := T41l) (fun i j h => by simpa [Prod.ext_iff, and_assoc] using h) s h
theorem t41_Parse {s : List UInt8} (h : s.length ≤ 90000) : T41m.f 18 [.str s] = some (parseA s) := T41m_script_Parse s h
def ex0 : Ev := ⟨2, 0, 0, true, []⟩
theorem ex0_right : rightE ex0 = true := by decide
theorem ex0_line : lineE ex0 = [115, 111, 117, 114, 99, 101, 32, 48, 32, 107, 101, 101, 112] := by
  have h : digN 0 = [48] := by rw [digN_small (by omega)]; rfl
  show lineW (wordsK ⟨2, 0, 0, true, []⟩) = _
  have e : wordsK ⟨2, 0, 0, true, []⟩ = [sourceT, digN 0, keepT] := rfl
  rw [e, h]; rfl
theorem ok_law41_awake : codeOK Tryd.prog T41m Tryd.f15.ntmps (Tryd.f15.body.getD .skip) = true := by kernel_rfl
theorem c_law41_awake : CallA Tryd.prog 15 [] (· = .bool true) := by
  refine callA_of_body T41m_ok mixed Tryd.func15 rfl (Nat.le_of_ble_eq_true rfl) ok_law41_awake ?_
  unfold Tryd.f15
  have g1 := t41_Parse (s := [115, 111, 117, 114, 99, 101, 32, 48, 32, 107, 101, 101, 112]) (by decide)
  have hp := parse_line ex0_right
  rw [ex0_line] at hp
  rw [parseA_yes hp] at g1
  have g2 := t41_Line (v := ex0) (by decide)
  rw [lineA_yes ex0_right, ex0_line] at g2
  simp only [Ev.enc, ex0, bytesA_nil] at g1 g2
  simp -implicitDefEqProofs (disch := (first | omega | decide)) only [go_sem, ↓reduceIte, seval, g1, g2]
noncomputable def T41n : Tab := T41m.add 15 (entry (fun (u : Unit) => []) (fun u => True) (fun u => .bool true))
theorem T41n_ok : TabOK Tryd.prog T41n := T41m_ok.ent Tryd.func15 (by kernel_rfl) (by kernel_rfl) fun u h => c_law41_awake
@[go_sem] theorem T41n_old {g : FuncId} {xs : List A} (h : g ≠ 15) : T41n.f g xs = T41m.f g xs := Tab.add_ne h
@[go_sem] theorem T41n_s : T41n.pl T41m := ⟨fun _ => rfl, fun _ => rfl, rfl, fun _ => rfl, rfl, fun _ => rfl, rfl⟩
theorem T41n_law41_awake (u : Unit) (h : True) : T41n.f 15 [] = some (.bool true) := Tab.ent_eq (Γ := T41m) (fun i j h => by first | (cases i; cases j; rfl; done) | simpa [Prod.ext_iff, and_assoc] using h | (simp at h; omega) | (simp at h; exact Prod.ext h.1 (Prod.ext h.2.1 (by omega)))) u h
theorem t41_awake : T41n.f 15 [] = some (.bool true) := T41n_law41_awake () trivial
theorem ok_law41_ScriptLines : codeOK Tryd.prog T41n Tryd.f5.ntmps (Tryd.f5.body.getD .skip) = true := by kernel_rfl
theorem c_law41_ScriptLines (v : Ev) (line : List UInt8) (hv : v.b.length ≤ 9223372036854775807) (hl : line.length ≤ 9223372036854775807) : CallA Tryd.prog 5 [v.enc, .str line] (· = .bool true) := by
  refine callA_of_body T41n_ok mixed Tryd.func5 rfl (Nat.le_of_ble_eq_true rfl) ok_law41_ScriptLines ?_
  unfold Tryd.f5
  have ga := t41_awake
  have lb := bytesA_len v.b
  by_cases h1 : (300 : Int) < (v.b.length : Int)
  · simp only [Ev.enc]
    simp -implicitDefEqProofs (disch := (first | omega | decide)) only [go_sem, ↓reduceIte, seval, ga, h1, lb]
  by_cases h2 : (600 : Int) < (line.length : Int)
  · simp only [Ev.enc]
    simp -implicitDefEqProofs (disch := (first | omega | decide)) only [go_sem, ↓reduceIte, seval, ga, h1, h2, lb]
  have g1 := t41_Line (v := v) (by omega)
  have g2 := t41_rRight (v := v) (by omega)
  have g3 := t41_Parse (s := line) (by omega)
  have hss := same_self v
  have gs := t41_Same v v
  rw [hss] at gs
  have gn := t41_Same Ev.nil Ev.nil
  rw [same_self] at gn
  simp only [Ev.enc, Ev.nil, bytesA_nil] at gn
  have last : ∃ w gE, T41m.f 18 [.str line] = some (.tup [Ev.enc w, .int .i64 gE]) ∧ ((gE = 11 ∧ w = Ev.nil) ∨ (gE = 0 ∧ rightE w = true ∧ lineE w = line)) := by
    cases hp : parseE line with
    | none => rw [parseA_no hp] at g3; exact ⟨Ev.nil, 11, g3, .inl ⟨rfl, rfl⟩⟩
    | some w => rw [parseA_yes hp] at g3; exact ⟨w, 0, g3, .inr ⟨rfl, (parse_some hp).1, (parse_some hp).2⟩⟩
  obtain ⟨w, gE, g4, hw⟩ := last
  cases hr : rightE v with
  | false =>
    rw [hr] at g2
    rw [lineA_no hr] at g1
    rcases hw with ⟨rfl, rfl⟩ | ⟨rfl, w1, w2⟩
    · simp only [Ev.enc, Ev.nil, bytesA_nil] at g1 g2 g4 ⊢
      simp -implicitDefEqProofs (maxSteps := 600000) (disch := (first | omega | decide)) only [go_sem, ↓reduceIte, seval, ga, h1, h2, g1, g2, g4, gn, lb]
    · have g5 := t41_rRight (v := w) (by have := (right_parts w1).2.2.2.2.1; omega)
      have g6 := t41_rLine w1
      rw [w1] at g5
      rw [w2] at g6
      simp only [Ev.enc] at g1 g2 g4 g5 g6 ⊢
      simp -implicitDefEqProofs (maxSteps := 600000) (disch := (first | omega | decide)) only [go_sem, ↓reduceIte, seval, ga, h1, h2, g1, g2, g4, g5, g6, lb]
  | true =>
    rw [hr] at g2
    rw [lineA_yes hr] at g1
    have hlb := line_bound hr
    have g7 := t41_Parse (s := lineE v) (by omega)
    rw [parseA_yes (parse_line hr)] at g7
    have g8 := t41_rLine hr
    generalize lineE v = ln at *
    rcases hw with ⟨rfl, rfl⟩ | ⟨rfl, w1, w2⟩
    · simp only [Ev.enc, Ev.nil, bytesA_nil] at g1 g2 g4 g7 g8 gs ⊢
      simp -implicitDefEqProofs (maxSteps := 600000) (disch := (first | omega | decide)) only [go_sem, ↓reduceIte, seval, ga, h1, h2, g1, g2, g4, g7, g8, gs, gn, lb]
    · have g5 := t41_rRight (v := w) (by have := (right_parts w1).2.2.2.2.1; omega)
      have g6 := t41_rLine w1
      rw [w1] at g5
      rw [w2] at g6
      simp only [Ev.enc] at g1 g2 g4 g5 g6 g7 g8 gs ⊢
      simp -implicitDefEqProofs (maxSteps := 600000) (disch := (first | omega | decide)) only [go_sem, ↓reduceIte, seval, ga, h1, h2, g1, g2, g4, g5, g6, g7, g8, gs, lb]
theorem fits_byte {x : A} (h : fits (.int .u8) x) : ∃ c : UInt8, x = encU8 c := by
  simp only [fits] at h
  obtain ⟨n, rfl, hw⟩ := h
  have hb : 0 ≤ n ∧ n < 256 := by
    simp only [Lit.wf, Bool.and_eq_true, decide_eq_true_eq] at hw
    have e1 : IntKind.u8.min = 0 := rfl
    have e2 : IntKind.u8.max = 255 := rfl
    rw [e1, e2] at hw
    omega
  refine ⟨UInt8.ofNat n.toNat, ?_⟩
  unfold encU8
  rw [ofNat_toNat' (by omega)]
  congr 1; omega
theorem fits_bytes {x : A} (h : fits (.list (.int .u8)) x) : ∃ b : List UInt8, x = .slc (bytesA b) ∧ b.length ≤ maxLen := by
  simp only [fits] at h
  obtain ⟨es, rfl, hl, he⟩ := h
  obtain ⟨b, rfl, _⟩ := list_of (f := encU8) (P := fun _ => True) (es := es) (fun e hx => by
    obtain ⟨c, rfl⟩ := fits_byte (by simpa only [fits] using he e hx)
    exact ⟨c, rfl, trivial⟩)
  exact ⟨b, rfl, by simpa using hl⟩
theorem fits_ev {x : List A} (h : fitsL [.int .i64, .int .i64, .int .i64, .bool, .list (.int .u8)] x) : ∃ v : Ev, x = [.int .i64 v.kind, .int .i64 v.at_, .int .i64 v.n, .bool v.keep, .slc (bytesA v.b)] ∧ v.b.length ≤ maxLen := by
  simp only [fitsL] at h
  obtain ⟨y1, z1, rfl, h1, y2, z2, rfl, h2, y3, z3, rfl, h3, y4, z4, rfl, h4, y5, z5, rfl, h5, rfl⟩ := h
  obtain ⟨b, rfl, hb⟩ := fits_bytes h5
  simp only [fits] at h1 h2 h3 h4
  obtain ⟨k, rfl, _⟩ := h1
  obtain ⟨a, rfl, _⟩ := h2
  obtain ⟨n, rfl, _⟩ := h3
  obtain ⟨kp, rfl⟩ := h4
  exact ⟨⟨k, a, n, kp, b⟩, rfl, hb⟩
end Go.Proofs.YthiedimbmcgpdaaDoor
