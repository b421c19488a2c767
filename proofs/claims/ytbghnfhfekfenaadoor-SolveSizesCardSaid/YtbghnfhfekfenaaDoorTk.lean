/- SolveSizes: what the statement computes. -/
import Derived.Test.YtbghnfhfekfenaaDoorTh
import Derived.Test.YtbghnfhfekfenaaDoorTi
set_option linter.unusedSimpArgs false
set_option linter.unusedVariables false
namespace Go.Proofs.YtbghnfhfekfenaaDoor
open Go Go.Proofs.R
set_option maxRecDepth 10000
theorem bq01 : Bq 1 (0 : Rat) ∧ Bq 1 (1 : Rat) := ⟨Bq.zero, ⟨by simp [pw], by simp [pw]⟩⟩
theorem unitF_b (i k : Nat) : Bq 1 (unitF i k) := by
  unfold unitF; split
  · exact bq01.2
  · exact bq01.1
section
variable {nv : R.Nv}
theorem sizes_b2 (hz : TzOk nv) (N i : Nat) (hi : i < N) (hN : N ≤ 6) (A Y I : D) :
    ∃ z e μ, EX ip nv (.code (.loop [] [] dendronlaw05_SolveSizes.b2) [(0, .d A), (1, .d (.int .i64 (N : Int))), (9, .d Y), (10, .d I), (11, .d (.sl 1 (el (tbl N N unitF)))), (12, .d (.int .i64 (i : Int))), (13, .d (.int .i64 0))] []) = some (.st z e μ) ∧ z ≠ .normal ∧
      z = .exit 2 ∧ e = [(0, .d A), (1, .d (.int .i64 (N : Int))), (9, .d Y), (10, .d I), (11, .d (.sl 1 (el (tbl N N unitF)))), (12, .d (.int .i64 (i : Int))), (13, .d (.int .i64 (N : Int))), (77, .d (.bool false))] ∧ μ = [] := by
  refine loop_n N (fun k e μ => e = [(0, .d A), (1, .d (.int .i64 (N : Int))), (9, .d Y), (10, .d I), (11, .d (.sl 1 (el (tbl N N unitF)))), (12, .d (.int .i64 (i : Int))), (13, .d (.int .i64 (k : Int)))] ∧ μ = []) ?_ ?_ ⟨rfl, rfl⟩
  · rintro k e μ hk ⟨rfl, rfl⟩
    have tix := tbl_ix (R := N) (C := N) (f := unitF) hi
    have tln := tbl_len N N unitF
    have hlen := rw_len N (unitF i)
    have hix := rw_ix (unitF i) hk
    have one := rone_ev (nv := nv)
    have zer := zero_ev (nv := nv)
    have b := unitF_b i k
    have sm := rsame_ev (nv := nv) hz (can (unitF i k)) (can (unitF i k)) (can_ok b) (can_ok b) (by decide) (by decide) (by decide)
    rw [decide_eq_true rfl] at sm
    refine .inl ⟨_, _, ?_, rfl, rfl⟩
    by_cases e : i = k
    · have hu : unitF i k = 1 := by unfold unitF; rw [if_pos e]
      rw [hu] at sm hix
      generalize can 1 = q at *
      generalize can 0 = q0 at *
      generalize rw' N (unitF i) = row at *
      generalize tbl N N unitF = m at *
      subst e
      simp (disch := omega) [-vIA_o, dendronlaw05_SolveSizes.b2, hk, one, zer, tix, hlen, hix, sm]
    · have hu : unitF i k = 0 := by unfold unitF; rw [if_neg e]
      rw [hu] at sm hix
      generalize can 1 = q at *
      generalize can 0 = q0 at *
      generalize rw' N (unitF i) = row at *
      generalize tbl N N unitF = m at *
      have e' : ¬ (i : Int) = (k : Int) := by omega
      simp (disch := omega) [-vIA_o, dendronlaw05_SolveSizes.b2, hk, one, zer, tix, hlen, hix, sm, e, e']
  · rintro e μ ⟨rfl, rfl⟩
    exact ⟨.exit 2, _, _, by simp [dendronlaw05_SolveSizes.b2] <;> first | rfl | exact ⟨rfl, rfl⟩, by simp, rfl, rfl, rfl⟩
theorem sizes_b0 (hz : TzOk nv) (N : Nat) (hN : N ≤ 6) (A Y I : D) :
    ∃ z e μ, EX ip nv (.code (.loop [] [] dendronlaw05_SolveSizes.b0) [(0, .d A), (1, .d (.int .i64 (N : Int))), (9, .d Y), (10, .d I), (11, .d (.sl 1 (el (tbl N N unitF)))), (12, .d (.int .i64 0))] []) = some (.st z e μ) ∧ z ≠ .normal ∧
      z = .exit 0 ∧ e = [(0, .d A), (1, .d (.int .i64 (N : Int))), (9, .d Y), (10, .d I), (11, .d (.sl 1 (el (tbl N N unitF)))), (12, .d (.int .i64 (N : Int))), (72, .d (.bool false))] ∧ μ = [] := by
  refine loop_n N (fun i e μ => e = [(0, .d A), (1, .d (.int .i64 (N : Int))), (9, .d Y), (10, .d I), (11, .d (.sl 1 (el (tbl N N unitF)))), (12, .d (.int .i64 (i : Int)))] ∧ μ = []) ?_ ?_ ⟨rfl, rfl⟩
  · rintro i e μ hi ⟨rfl, rfl⟩
    obtain ⟨_, _, _, l2, -, rfl, rfl, rfl⟩ := sizes_b2 (nv := nv) hz N i hi hN A Y I
    have tln := tbl_len N N unitF
    refine .inl ⟨_, _, ?_, rfl, rfl⟩
    generalize tbl N N unitF = m at *
    simp (disch := omega) [-vIA_o, dendronlaw05_SolveSizes.b0, hi, l2, tln]
  · rintro e μ ⟨rfl, rfl⟩
    have tln := tbl_len N N unitF
    refine ⟨.exit 0, _, _, ?_, by simp, rfl, rfl, rfl⟩
    generalize tbl N N unitF = m at *
    simp [dendronlaw05_SolveSizes.b0, tln]
theorem sizes_b4 (hz : TzOk nv) (A : List (List RQ)) (hA : ∀ r ∈ A, ∀ y ∈ r, y.ok 1) (hAl : A.length ≤ 6) (hAr : rectB A = true) (hAc : colsN A ≤ 6) :
    ∃ z e μ, EX ip nv (.code (.loop [] [] dendronlaw05_SolveSizes.b4) [(0, .d (.sl 1 (el A))), (9, .d (.int .i64 (colsN A : Int))), (15, .d (.sl 1 (el (tbl (colsN A) A.length fun k i => tf A i k)))), (17, .d (.int .i64 0))] []) = some (.st z e μ) ∧ z ≠ .normal ∧
      z = .exit 4 ∧ e = [(0, .d (.sl 1 (el A))), (9, .d (.int .i64 (colsN A : Int))), (15, .d (.sl 1 (el (tbl (colsN A) A.length fun k i => tf A i k)))), (17, .d (.int .i64 (colsN A : Int))), (131, .d (.bool false))] ∧ μ = [] := by
  refine loop_n (colsN A) (fun k e μ => e = [(0, .d (.sl 1 (el A))), (9, .d (.int .i64 (colsN A : Int))), (15, .d (.sl 1 (el (tbl (colsN A) A.length fun k i => tf A i k)))), (17, .d (.int .i64 (k : Int)))] ∧ μ = []) ?_ ?_ ⟨rfl, rfl⟩
  · rintro k e μ hk ⟨rfl, rfl⟩
    have co := col5_ev (nv := nv) A k (by omega) (fun j hj => by rw [rect_row hAr hj]; exact hk) (by omega)
    have tix := tbl_ix (R := colsN A) (C := A.length) (f := fun k i => tf A i k) hk
    have tln := tbl_len (colsN A) A.length fun k i => tf A i k
    have hxo : ∀ y ∈ colL A k, y.ok 1 := fun y hy => by
      obtain ⟨j, hj, rfl⟩ := List.getElem_of_mem hy
      rw [colL_len] at hj
      rw [← ix_get (by simpa using hj), colL_ix hj]
      exact hA _ (ix_mem hj) _ (ix_mem (by rw [rect_row hAr hj]; exact hk))
    have sm := same5_ev (nv := nv) hz (j := 1) (k := 1) A.length (fun i => tf A i k) (colL A k) (fun i hi => Bq.v (hA _ (ix_mem hi) _ (ix_mem (l := ix A i) (by rw [rect_row hAr hi]; exact hk))) (by decide)) hxo (by decide) (by decide) (by decide) (colL_len _ _) (by omega)
    rw [decide_eq_true (fun i hi => by rw [colL_ix hi]; rfl)] at sm
    refine .inl ⟨_, _, ?_, rfl, rfl⟩
    generalize (tbl (colsN A) A.length fun k i => tf A i k) = m at *
    generalize rw' A.length (fun i => tf A i k) = row at *
    generalize colL A k = cl at *
    simp (disch := omega) [-vIA_o, dendronlaw05_SolveSizes.b4, hk, co, tix, sm]
  · rintro e μ ⟨rfl, rfl⟩
    exact ⟨.exit 4, _, _, by simp [dendronlaw05_SolveSizes.b4] <;> first | rfl | exact ⟨rfl, rfl⟩, by simp, rfl, rfl, rfl⟩
theorem sizes_ev (hz : TzOk nv) (a : List (List RQ)) (n : Int) (ha : ∀ r ∈ a, ∀ y ∈ r, y.ok maxLen) :
    EX ip nv (.call F.dendronlaw05_SolveSizes [.d (.sl 1 (el a)), .d (.int .i64 n)] []) = some (.ret (.d (.bool true)) []) := by
  rw [S_call dendronlaw05_SolveSizes.ip rfl]
  have f1 := few5_ev (nv := nv) a 6 (by decide)
  have hA := few5_ok (n := 6) ha
  have hAl := few5_len 6 a
  have hAr := few5_row (n := 6) (a := a)
  have hAc := few5_cols 6 a
  have aw := awake5_ev (nv := nv) hz
  generalize few5 6 a = A at *
  clear ha
  have c6 : ((6 : Nat) : Int) = 6 := rfl
  rw [c6] at f1
  have sA := size5_ev (nv := nv) A (by omega)
  have sA2 := size_ev (nv := nv) A (by omega)
  unfold sizeV at sA sA2
  obtain ⟨H, cp, hH⟩ := copy_ev (nv := nv) hz A hA (by decide) (by omega) (fun r hr => by have := hAr r hr; omega)
  have dd := hH.deep (k0 := 1)
  rw [clT_len] at dd
  have tb := tables5_ev (nv := nv) hz (j := 1) (k := 1) (clT A) A (clT_len A) (fun i hi => by
    rw [clT_len] at hi
    refine ⟨fun k => (ix (ix A i) k).v, ?_, fun q hq => ⟨Bq.v (hA _ (ix_mem hi) _ (ix_mem hq)) (by decide), rfl⟩⟩
    rw [clT_ix hi]
    unfold rw'
    apply List.ext_getElem
    · simp
    · intro k h1 h2
      simp only [List.getElem_map, List.getElem_range]
      rw [ix_get (l := ix A i) (by simpa using h1)]) hA (by decide) (by decide) (by decide) (by omega) (fun r hr => by have := hAr r hr; omega)
  by_cases hr : rectB A = true
  · rw [if_pos hr] at sA sA2
    obtain ⟨H2, fl, hH2⟩ := flip_ev (nv := nv) hz A hA (by decide) (by omega) hr (by omega)
    have dd2 := hH2.deep (k0 := 1)
    rw [tbl_len] at dd2
    obtain ⟨_, _, _, l4, -, rfl, rfl, rfl⟩ := sizes_b4 (nv := nv) hz A hA hAl hr hAc
    have hTl : (tbl (colsN A) A.length fun k i => tf A i k).length = colsN A := tbl_len _ _ _
    generalize (tbl (colsN A) A.length fun k i => tf A i k) = T at *
    generalize clT A = A' at *
    by_cases hn : n < 0
    · have un := unit_neg (nv := nv) n hn
      have h6 : n ≤ 6 := by omega
      have hlp : ∀ μ, EX ip nv (.code (.loop [] [] dendronlaw05_SolveSizes.b0) [(0, .d (.sl 1 (el A))), (1, .d (.int .i64 n)), (9, .d (.int .i64 (colsN A : Int))), (10, .d (.bool true)), (11, .d (.sl 1 [])), (12, .d (.int .i64 0))] μ) = some (.st (.exit 0) [(0, .d (.sl 1 (el A))), (1, .d (.int .i64 n)), (9, .d (.int .i64 (colsN A : Int))), (10, .d (.bool true)), (11, .d (.sl 1 [])), (12, .d (.int .i64 0)), (72, .d (.bool false))] μ) := fun μ => by
        rw [R_loop]
        simp [dendronlaw05_SolveSizes.b0]
      have h0 : ¬ (0 = n) := by omega
      have h1 : ¬ (0 < n) := by omega
      simp (disch := omega) [dendronlaw05_SolveSizes, f1, sA, sA2, cp, dd, tb, un, h6, h0, h1, hlp, fl, dd2, hTl, l4, aw]
    · by_cases h6 : n ≤ 6
      · obtain ⟨N, rfl⟩ : ∃ N : Nat, n = (N : Int) := ⟨n.toNat, by omega⟩
        have hN : N ≤ 6 := by omega
        have un := unit_ev (nv := nv) N (by omega)
        obtain ⟨_, _, _, l0, -, rfl, rfl, rfl⟩ := sizes_b0 (nv := nv) hz N hN (.sl 1 (el A)) (.int .i64 (colsN A : Int)) (.bool true)
        have hul := tbl_len N N unitF
        generalize tbl N N unitF = U at *
        simp (disch := omega) [dendronlaw05_SolveSizes, f1, sA, sA2, cp, dd, tb, un, h6, hul, l0, fl, dd2, hTl, l4, aw]
      · simp (disch := omega) [dendronlaw05_SolveSizes, f1, sA, sA2, cp, dd, tb, h6, fl, dd2, hTl, l4, aw]
  · rw [if_neg hr] at sA sA2
    have fl := flip_bad (nv := nv) A (by omega) (by simpa using hr)
    generalize clT A = A' at *
    by_cases hn : n < 0
    · have un := unit_neg (nv := nv) n hn
      have h6 : n ≤ 6 := by omega
      have hlp : ∀ μ, EX ip nv (.code (.loop [] [] dendronlaw05_SolveSizes.b0) [(0, .d (.sl 1 (el A))), (1, .d (.int .i64 n)), (9, .d (.int .i64 0)), (10, .d (.bool false)), (11, .d (.sl 1 [])), (12, .d (.int .i64 0))] μ) = some (.st (.exit 0) [(0, .d (.sl 1 (el A))), (1, .d (.int .i64 n)), (9, .d (.int .i64 0)), (10, .d (.bool false)), (11, .d (.sl 1 [])), (12, .d (.int .i64 0)), (72, .d (.bool false))] μ) := fun μ => by
        rw [R_loop]
        simp [dendronlaw05_SolveSizes.b0]
      have h0 : ¬ (0 = n) := by omega
      have h1 : ¬ (0 < n) := by omega
      simp (disch := omega) [dendronlaw05_SolveSizes, f1, sA, sA2, cp, dd, tb, un, h6, h0, h1, hlp, fl, aw]
    · by_cases h6 : n ≤ 6
      · obtain ⟨N, rfl⟩ : ∃ N : Nat, n = (N : Int) := ⟨n.toNat, by omega⟩
        have hN : N ≤ 6 := by omega
        have un := unit_ev (nv := nv) N (by omega)
        obtain ⟨_, _, _, l0, -, rfl, rfl, rfl⟩ := sizes_b0 (nv := nv) hz N hN (.sl 1 (el A)) (.int .i64 0) (.bool false)
        have hul := tbl_len N N unitF
        generalize tbl N N unitF = U at *
        simp (disch := omega) [dendronlaw05_SolveSizes, f1, sA, sA2, cp, dd, tb, un, h6, hul, l0, fl, aw]
      · simp (disch := omega) [dendronlaw05_SolveSizes, f1, sA, sA2, cp, dd, tb, h6, fl, aw]
end
end Go.Proofs.YtbghnfhfekfenaaDoor
