/- SolveDets: what the statement computes. -/
import Derived.Test.YtbghnfhfekfenaaDoorTn
set_option linter.unusedSimpArgs false
set_option linter.unusedVariables false
namespace Go.Proofs.YtbghnfhfekfenaaDoor
open Go Go.Proofs.R
set_option maxRecDepth 10000
/-- A row of so many numbers. -/
def sqR (r : List RQ) (m : Nat) : List RQ := (List.range m).map fun k => if k < r.length then ix r k else can 0
@[simp] theorem sqR_len (r : List RQ) (m : Nat) : (sqR r m).length = m := by simp [sqR]
theorem sqR_succ (r : List RQ) (m : Nat) : sqR r (m + 1) = sqR r m ++ [if m < r.length then ix r m else can 0] := by simp [sqR, List.range_succ]
/-- As many columns as rows. -/
def sqL (a : List (List RQ)) (m : Nat) : List (List RQ) := (List.range m).map fun i => sqR (ix a i) a.length
@[simp] theorem sqL_len (a : List (List RQ)) (m : Nat) : (sqL a m).length = m := by simp [sqL]
theorem sqL_succ (a : List (List RQ)) (m : Nat) : sqL a (m + 1) = sqL a m ++ [sqR (ix a m) a.length] := by simp [sqL, List.range_succ]
theorem sqL_ok {a : List (List RQ)} {k : Nat} (ha : ∀ r ∈ a, ∀ x ∈ r, x.ok k) (hk : 1 ≤ k) : ∀ r ∈ sqL a a.length, ∀ x ∈ r, x.ok k := by
  intro r hr x hx
  simp only [sqL, List.mem_map, List.mem_range] at hr
  obtain ⟨i, hi, rfl⟩ := hr
  simp only [sqR, List.mem_map, List.mem_range] at hx
  obtain ⟨j, hj, rfl⟩ := hx
  split
  · exact ha _ (ix_mem hi) _ (ix_mem (by assumption))
  · exact can_ok (Bq.zero.mono hk)
theorem sqL_row {a : List (List RQ)} : ∀ r ∈ sqL a a.length, r.length ≤ a.length := by
  intro r hr
  simp only [sqL, List.mem_map, List.mem_range] at hr
  obtain ⟨i, hi, rfl⟩ := hr
  simp
theorem cols_le {a : List (List RQ)} {n : Nat} (h : ∀ r ∈ a, r.length ≤ n) : colsN a ≤ n := by
  unfold colsN
  by_cases h0 : 0 < a.length
  · exact h _ (ix_mem h0)
  · rw [show a = [] from List.length_eq_zero_iff.1 (by omega)]; exact Nat.zero_le _
section
variable {nv : R.Nv}
theorem square_b2 (a : List (List RQ)) (i : Nat) (hi : i < a.length) (hl : a.length ≤ 1000) (B : Blk) :
    ∃ z e μ, EX ip nv (.code (.loop [] [] dendronlaw05_square.b2) [(0, .d (.sl 1 (el a))), (3, .own 3 1 0 i), (4, .d (.int .i64 (i : Int))), (5, .own 5 3 0 0), (6, .d (.int .i64 0))] [(3, B), (5, ⟨0, false, []⟩)]) = some (.st z e μ) ∧ z ≠ .normal ∧
      z = .exit 2 ∧ e = [(0, .d (.sl 1 (el a))), (3, .own 3 1 0 i), (4, .d (.int .i64 (i : Int))), (5, .own 5 3 0 a.length), (6, .d (.int .i64 (a.length : Int))), (17, .d (.bool false))] ∧ μ = [(3, B), (5, ⟨0, false, el (sqR (ix a i) a.length)⟩)] := by
  refine loop_n a.length (fun k e μ => e = [(0, .d (.sl 1 (el a))), (3, .own 3 1 0 i), (4, .d (.int .i64 (i : Int))), (5, .own 5 3 0 k), (6, .d (.int .i64 (k : Int)))] ∧ μ = [(3, B), (5, ⟨0, false, el (sqR (ix a i) k)⟩)]) ?_ ?_ ⟨rfl, rfl⟩
  · rintro k e μ hk ⟨rfl, rfl⟩
    have hs := sqR_succ (ix a i) k
    have hlen := sqR_len (ix a i) k
    have ht : List.take k (sqR (ix a i) k) = sqR (ix a i) k := List.take_of_length_le (by omega)
    have zer := zero_ev (nv := nv)
    have hby : (k + 1) * 56 ≤ 70368744177664 := by omega
    refine .inl ⟨_, _, ?_, rfl, rfl⟩
    rw [hs]
    generalize sqR (ix a i) k = g at *
    by_cases h : k < (ix a i).length
    · rw [if_pos h]
      generalize can 0 = q at *
      generalize hrow : ix a i = row at *
      simp (disch := omega) [-vIA_o, dendronlaw05_square.b2, hi, hk, hlen, ht, zer, h, hrow, hby]
    · rw [if_neg h]
      generalize can 0 = q at *
      generalize hrow : ix a i = row at *
      simp (disch := omega) [-vIA_o, dendronlaw05_square.b2, hi, hk, hlen, ht, zer, h, hrow, hby]
  · rintro e μ ⟨rfl, rfl⟩
    exact ⟨.exit 2, _, _, by simp [dendronlaw05_square.b2] <;> first | rfl | exact ⟨rfl, rfl⟩, by simp, rfl, rfl, rfl⟩
theorem square_ev (a : List (List RQ)) (hl : a.length ≤ 1000) : EX ip nv (.call F.dendronlaw05_square [.d (.sl 1 (el a))] []) = some (.ret (.d (.sl 1 (el (sqL a a.length)))) []) := by
  rw [S_call dendronlaw05_square.ip rfl]
  obtain ⟨_, _, _, hlp, -, rfl, rfl, rfl⟩ : ∃ z e μ, EX ip nv (.code (.loop [] [] dendronlaw05_square.b0) [(0, .d (.sl 1 (el a))), (3, .own 3 1 0 0), (4, .d (.int .i64 0))] [(3, ⟨0, false, []⟩)]) = some (.st z e μ) ∧ z ≠ .normal ∧
      z = .exit 0 ∧ e = [(0, .d (.sl 1 (el a))), (3, .own 3 1 0 a.length), (4, .d (.int .i64 (a.length : Int))), (11, .d (.bool false))] ∧ μ = [(3, ⟨0, false, el (sqL a a.length)⟩)] := by
    refine loop_n a.length (fun i e μ => e = [(0, .d (.sl 1 (el a))), (3, .own 3 1 0 i), (4, .d (.int .i64 (i : Int)))] ∧ μ = [(3, ⟨0, false, el (sqL a i)⟩)]) ?_ ?_ ⟨rfl, rfl⟩
    · rintro i e μ hi ⟨rfl, rfl⟩
      obtain ⟨_, _, _, l2, -, rfl, rfl, rfl⟩ := square_b2 (nv := nv) a i hi hl ⟨0, false, el (sqL a i)⟩
      have hs := sqL_succ a i
      have hlen := sqL_len a i
      have hrl := sqR_len (ix a i) a.length
      have ht : List.take i (sqL a i) = sqL a i := List.take_of_length_le (by omega)
      have hby : (i + 1) * 24 ≤ 70368744177664 := by omega
      refine .inl ⟨_, _, ?_, rfl, rfl⟩
      rw [hs]
      generalize sqL a i = g at *
      generalize sqR (ix a i) a.length = row at *
      have ht3 : List.take a.length row = row := List.take_of_length_le (by omega)
      simp (disch := omega) [-vIA_o, dendronlaw05_square.b0, hi, l2, hlen, hrl, ht, ht3, hby]
    · rintro e μ ⟨rfl, rfl⟩
      exact ⟨.exit 0, _, _, by simp [dendronlaw05_square.b0] <;> first | rfl | exact ⟨rfl, rfl⟩, by simp, rfl, rfl, rfl⟩
  have hlen := sqL_len a a.length
  have ht3 : List.take a.length (sqL a a.length) = sqL a a.length := List.take_of_length_le (by omega)
  generalize sqL a a.length = g at *
  simp (disch := omega) [dendronlaw05_square, hlp, hlen, ht3]
theorem det_bad (a : List (List RQ)) (hl : a.length ≤ 1000000) (h : ¬ (rectB a = true ∧ colsN a = a.length)) : EX ip nv (.call F.solve_Det [.d (.sl 1 (el a))] []) = some (.ret (.tp [.d (.ag [.bool false, .raw (.slice none 0 0), .raw (.slice none 0 0)]), .d (.int .i64 14)]) []) := by
  rw [S_call solve_Det.ip rfl]
  have sz := size_ev (nv := nv) a hl
  unfold sizeV at sz
  have hnr : nref (.ag [.bool false, .raw (.slice none 0 0), .raw (.slice none 0 0)]) = true := rfl
  by_cases hr : rectB a = true
  · have hc : ¬ (a.length : Int) = (colsN a : Int) := fun e => h ⟨hr, by omega⟩
    rw [if_pos hr] at sz
    simp (disch := omega) [solve_Det, sz, hc, hnr]
  · rw [if_neg hr] at sz
    simp (disch := omega) [solve_Det, sz, hnr]
theorem dets_ev (hz : TzOk nv) (a : List (List RQ)) (w : Bool) (ha : ∀ r ∈ a, ∀ y ∈ r, y.ok maxLen) :
    EX ip nv (.call F.dendronlaw05_SolveDets [.d (.sl 1 (el a)), .d (.bool w)] []) = some (.ret (.d (.bool true)) []) := by
  rw [S_call dendronlaw05_SolveDets.ip rfl]
  have f1 := few5_ev (nv := nv) a 4 (by decide)
  have hA := few5_ok (n := 4) ha
  have hAl := few5_len 4 a
  have hAr := few5_row (n := 4) (a := a)
  have aw := awake5_ev (nv := nv) hz
  generalize few5 4 a = A at *
  clear ha
  have sq := square_ev (nv := nv) A (by omega)
  -- the table, square or as it is
  obtain ⟨T, hT, hTok, hTl, hTc⟩ : ∃ T, T = (if w then sqL A A.length else A) ∧ (∀ r ∈ T, ∀ y ∈ r, y.ok 1) ∧ T.length ≤ 4 ∧ colsN T ≤ 4 := by
    refine ⟨_, rfl, ?_, ?_, ?_⟩
    · cases w
      · exact hA
      · exact sqL_ok hA (by decide)
    · cases w
      · exact hAl
      · simpa using hAl
    · cases w
      · exact cols_le hAr
      · exact cols_le fun r hr => by have := sqL_row r hr; omega
  have sT := size5_ev (nv := nv) T (by omega)
  unfold sizeV at sT
  have c4 : ((4 : Nat) : Int) = 4 := rfl
  rw [c4] at f1
  by_cases h : rectB T = true ∧ colsN T = T.length
  · obtain ⟨hr, hc⟩ := h
    have hp5 : 5 ^ colsN T ≤ 5 ^ 4 := Nat.pow_le_pow_right (by decide) hTc
    have de := det_ev (nv := nv) hz T hTok (Nat.le_refl 1) (by omega) (by omega) hr hc
    have hq : detQ T = dt T.length (tf T) := by
      rw [det_ok (tf T) hTl]; unfold detQ stp; rw [hc]
    rw [hq] at de
    have hrow : ∀ i, i < T.length → (ix T i).length = T.length := fun i hi => by rw [rect_row hr hi, hc]
    obtain ⟨ν, d5⟩ := det5_ev (nv := nv) hz T.length T hTl rfl hrow hTok
    have hb := (dt_b T.length (tf_b1 rfl hrow hTok (Nat.le_refl 1))).1
    have hdB := dB_le hTl
    have hpos := dB_pos T.length
    have rr := rright_c (nv := nv) hz (dt T.length (tf T)) hb (by omega)
    have sm := rsame_ev (nv := nv) hz (can (dt T.length (tf T))) (can (dt T.length (tf T))) (can_ok hb) (can_ok hb) hpos hpos (by omega)
    rw [decide_eq_true rfl] at sm
    rw [if_pos hr] at sT
    generalize can (dt T.length (tf T)) = q at *
    cases w
    · simp only [Bool.false_eq_true, if_false] at hT
      subst hT
      simp (disch := omega) [-vIA_o, dendronlaw05_SolveDets, f1, sT, de, d5, rr, sm, aw, hc]
    · simp only [if_true] at hT
      rw [← hT] at sq
      simp (disch := omega) [-vIA_o, dendronlaw05_SolveDets, f1, sq, sT, de, d5, rr, sm, aw, hc]
  · have de := det_bad (nv := nv) T (by omega) h
    have hs : ∃ R C b, EX ip nv (.call F.dendronlaw05_size [.d (.sl 1 (el T))] []) = some (.ret (.tp [.d (.int .i64 R), .d (.int .i64 C), .d (.bool b)]) []) ∧ (b = false ∨ ¬ R = C) := by
      by_cases hr : rectB T = true
      · rw [if_pos hr] at sT
        exact ⟨_, _, _, sT, .inr fun e => h ⟨hr, by omega⟩⟩
      · rw [if_neg hr] at sT
        exact ⟨_, _, _, sT, .inl rfl⟩
    obtain ⟨R, C, b, sT', hb⟩ := hs
    clear sT
    cases w
    · simp only [Bool.false_eq_true, if_false] at hT
      subst hT
      rcases hb with rfl | hb
      · simp (disch := omega) [-vIA_o, dendronlaw05_SolveDets, f1, sT', de, aw]
      · cases b <;> simp (disch := omega) [-vIA_o, dendronlaw05_SolveDets, f1, sT', de, aw, hb]
    · simp only [if_true] at hT
      rw [← hT] at sq
      rcases hb with rfl | hb
      · simp (disch := omega) [-vIA_o, dendronlaw05_SolveDets, f1, sq, sT', de, aw]
      · cases b <;> simp (disch := omega) [-vIA_o, dendronlaw05_SolveDets, f1, sq, sT', de, aw, hb]
end
end Go.Proofs.YtbghnfhfekfenaaDoor
