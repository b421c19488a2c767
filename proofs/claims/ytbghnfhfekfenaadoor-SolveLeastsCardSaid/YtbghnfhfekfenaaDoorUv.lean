/- SolveLeasts: the law. -/
import Derived.Test.YtbghnfhfekfenaaDoorTu
import Derived.Test.YtbghnfhfekfenaaDoorTh
set_option linter.unusedSimpArgs false
set_option linter.unusedVariables false
namespace Go.Proofs.YtbghnfhfekfenaaDoor
open Go Go.Proofs.R
set_option maxRecDepth 10000
section
variable {nv : R.Nv}
theorem lsX_ok {A : List (List RQ)} {b w : List RQ} (hA : ∀ r ∈ A, ∀ y ∈ r, y.ok 1) (hb : ∀ y ∈ b, y.ok 1) (hw : ∀ y ∈ w, y.ok 1) (hr : rectB A = true) (hbl : b.length = A.length) (hwl : w.length = A.length) (hAl : A.length ≤ 4) (hAc : colsN A ≤ 4) (hC0 : 0 < colsN A) :
    ∀ k, k < colsN A → Bq 60000 (apS (invT (lsN A w)) (lsC A b w) k) := by
  have hTr : rectB (lsT A w) = true := tbl_rect _ _ _
  have hTc : colsN (lsT A w) = A.length := tbl_cols _ _ hC0
  have hTl := lsT_len A w
  have hNl := lsN_len A w
  have hTok : ∀ r ∈ lsT A w, ∀ x ∈ r, x.ok 2 := tbl_mem_ok fun j i hj hi => (tf_b hA (Nat.le_refl 1) hr i j hi hj).mul (Bq.v (hw _ (ix_mem (by omega))) (Nat.le_refl 1))
  have hNb : ∀ j i, j < colsN A → i < colsN A → Bq 21 (mulF (lsT A w) A j i) := fun j i hj hi => by
    unfold mulF
    rw [hTc]
    refine (sm_b (n := A.length) (k := 3) (fun q hq => ?_) A.length (Nat.le_refl _)).mono (by omega)
    exact ((tf_b hA (Nat.le_refl 1) hr q i hq hi).mul (tf_b hTok (by omega) hTr j q (by omega) (by omega))).mono (by omega)
  have hNok : ∀ r ∈ lsN A w, ∀ x ∈ r, x.ok 21 := tbl_mem_ok hNb
  have hNr : rectB (lsN A w) = true := tbl_rect _ _ _
  have hNc : colsN (lsN A w) = (lsN A w).length := by rw [hNl]; exact tbl_sq _ _
  have hsb : ∀ i j, i < (lsN A w).length → j < (lsN A w).length + (lsN A w).length → Bq 21 (besF (lsN A w).length (tf (lsN A w)) unitF i j) := fun i j hi hj => by
    unfold besF
    split
    · exact tf_b hNok (by omega) hNr i j hi (by omega)
    · exact unit_b.mono (by omega)
  obtain ⟨fB, _⟩ := run_b hsb (by omega) (lsN A w).length (Nat.le_add_right _ _)
  have h5 : 5 ^ (lsN A w).length ≤ 5 ^ 4 := Nat.pow_le_pow_right (by decide) (by omega)
  have hIok : ∀ r ∈ invT (lsN A w), ∀ y ∈ r, y.ok 13125 := tbl_mem_ok fun i j hi hj => (fB i ((lsN A w).length + j) hi (by omega)).mono (by omega)
  have hIl : (invT (lsN A w)).length = colsN A := by unfold invT; rw [tbl_len, hNl]
  have hCl := lsC_len A b w
  have hIrow : ∀ r ∈ invT (lsN A w), r.length = colsN A := fun r hr' => by rw [tbl_row r hr', hNl]
  have hCok : ∀ x ∈ lsC A b w, x.ok 21 := by
    intro x hx
    obtain ⟨j, hj, rfl⟩ := List.getElem_of_mem hx
    rw [hCl] at hj
    rw [← ix_get (by omega)]
    unfold lsC
    rw [rw_ix _ hj]
    refine can_ok ((sm_b (n := b.length) (k := 3) (fun q hq => ?_) b.length (Nat.le_refl _)).mono (by omega))
    have hmem : ix (lsT A w) j ∈ lsT A w := ix_mem (by omega)
    have hrow : (ix (lsT A w) j).length = A.length := tbl_row _ hmem
    exact ((Bq.v (hTok _ (ix_mem (by omega)) _ (ix_mem (by omega))) (by omega)).mul (Bq.v (hb _ (ix_mem hq)) (Nat.le_refl 1))).mono (by omega)
  intro k hk
  have hrow := hIrow _ (ix_mem (l := invT (lsN A w)) (i := k) (by omega))
  refine (dotS_b (hIok _ (ix_mem (by omega))) hCok (by decide) (by decide) _ (by omega) (Nat.le_refl _)).mono ?_
  have : (lsC A b w).length * (13125 + 21 + 1) ≤ 4 * (13125 + 21 + 1) := Nat.mul_le_mul_right _ (by omega)
  omega
theorem lsI_b {A : List (List RQ)} {b w x : List RQ} {j J : Nat} (hA : ∀ r ∈ A, ∀ y ∈ r, y.ok 1) (hb : ∀ y ∈ b, y.ok 1) (hw : ∀ y ∈ w, y.ok 1) (hx : ∀ y ∈ x, y.ok j) (hj : 1 ≤ j) (hJ : J = 1 + 4 * (1 + j + 1) + 1 + 1) (hxl : x.length ≤ 4) (hAl : A.length ≤ 4) (hbl : b.length = A.length) (hwl : w.length = A.length) : Bq (1 + 4 * (1 + (J + J) + 1)) (lsI A b w x A.length) := by
  have hterm : ∀ i, i < A.length → Bq (1 + (J + J)) ((ix w i).v * (lsD A b x i * lsD A b x i)) := fun i hi => by
    have h := (lsD_b hA hb hx hj hxl hi (by omega)).1
    rw [← hJ] at h
    exact (Bq.v (hw _ (ix_mem (by omega))) (Nat.le_refl 1)).mul (h.mul h)
  refine (sm_b hterm A.length (Nat.le_refl _)).mono ?_
  have : A.length * (1 + (J + J) + 1) ≤ 4 * (1 + (J + J) + 1) := Nat.mul_le_mul_right _ hAl
  omega
theorem leasts_ev (hz : TzOk nv) (a : List (List RQ)) (b w y : List RQ) (ha : ∀ r ∈ a, ∀ x ∈ r, x.ok maxLen) (hb : ∀ x ∈ b, x.ok maxLen) (hw : ∀ x ∈ w, x.ok maxLen) (hy : ∀ x ∈ y, x.ok maxLen) :
    EX ip nv (.call F.dendronlaw05_SolveLeasts [.d (.sl 1 (el a)), .d (.sl 3 (el b)), .d (.sl 3 (el w)), .d (.sl 3 (el y))] []) = some (.ret (.d (.bool true)) []) := by
  rw [S_call dendronlaw05_SolveLeasts.ip rfl]
  have f1 := few5_ev (nv := nv) a 4 (by decide)
  have f2 := row5_ev (nv := nv) b 4 (by decide)
  have f3 := row5_ev (nv := nv) w 4 (by decide)
  have f4 := row5_ev (nv := nv) y 4 (by decide)
  have hA := few5_ok (n := 4) ha
  have hB := row5_ok (n := 4) hb
  have hW := row5_ok (n := 4) hw
  have hY := row5_ok (n := 4) hy
  have hAl := few5_len 4 a
  have hYl := row5_len 4 y
  have hBl := row5_len 4 b
  have hWl := row5_len 4 w
  have hAr := few5_row (n := 4) (a := a)
  have hAc := few5_cols 4 a
  have aw := awake5_ev (nv := nv) hz
  generalize few5 4 a = A at *
  generalize row5 4 b = B at *
  generalize row5 4 w = W at *
  generalize row5 4 y = Y at *
  clear ha hb hw hy
  have sA := size5_ev (nv := nv) A (by omega)
  unfold sizeV at sA
  have c4 : ((4 : Nat) : Int) = 4 := rfl
  rw [c4] at f1 f2 f3 f4
  by_cases h : rectB A = true ∧ B.length = A.length ∧ W.length = A.length
  · obtain ⟨hr, hbl, hwl⟩ := h
    rw [if_pos hr] at sA
    have hnn : ¬ negW W → ∀ i, i < A.length → 0 ≤ (ix W i).v := fun h i hi => Rat.not_lt.1 fun h2 => h ⟨i, by omega, h2⟩
    -- what Least tells
    obtain ⟨X, E, le, hXE⟩ : ∃ (X : List RQ) (E : Int), EX ip nv (.call F.solve_Least [.d (.sl 1 (el A)), .d (.sl 3 (el B)), .d (.sl 3 (el W))] []) = some (.ret (.tp [.d (.sl 3 (el X)), .d (.int .i64 E)]) []) ∧
        ((negW W ∧ X.length = 0 ∧ E = 8) ∨ (¬ negW W ∧ ((¬ oneA A W ∧ X.length = 0 ∧ E = 2) ∨ (oneA A W ∧ E = 0 ∧ X.length = colsN A ∧ (0 < colsN A → X = lsX A B W ∧ ¬ (invS (lsN A W)).lead.length < colsN A))))) := by
      by_cases hlow : negW W ∨ colsN A = 0
      · obtain ⟨E, le, h1, h2⟩ := least_low (nv := nv) hz A B W hW (Nat.le_refl 1) (by decide) (by omega) hr hbl hwl hlow
        refine ⟨[], E, le, ?_⟩
        by_cases hn : negW W
        · exact .inl ⟨hn, rfl, h1 hn⟩
        · have hc : colsN A = 0 := by rcases hlow with h | h; exact absurd h hn; exact h
          exact .inr ⟨hn, .inr ⟨fun x _ k hk => by omega, h2 hn, by rw [hc]; rfl, fun h => by omega⟩⟩
      · have hn : ¬ negW W := fun h => hlow (.inl h)
        have hC0 : 0 < colsN A := Nat.pos_of_ne_zero fun h => hlow (.inr h)
        have hp5 : 5 ^ colsN A ≤ 5 ^ 4 := Nat.pow_le_pow_right (by decide) hAc
        have le := least_ev (nv := nv) hz A B W (k := 1) (m := 21) hA hB hW (Nat.le_refl 1) (by omega) (by
          have : (colsN A + 1) * (5 ^ colsN A * 21 + 21 + 1) ≤ 5 * (625 * 21 + 21 + 1) := Nat.mul_le_mul (by omega) (by omega)
          omega) hr hbl hwl (by omega) (by omega) hC0 hn
        have hfl := lsN_full (A := A) (w := W) hC0 (hnn hn)
        by_cases hld : (invS (lsN A W)).lead.length < colsN A
        · rw [if_pos hld, if_pos hld] at le
          exact ⟨_, _, le, .inr ⟨hn, .inl ⟨hfl.1 hld, rfl, rfl⟩⟩⟩
        · rw [if_neg hld, if_neg hld] at le
          exact ⟨_, _, le, .inr ⟨hn, .inr ⟨Classical.byContradiction fun h => hld (hfl.2 h), rfl, rw_len _ _, fun _ => ⟨rfl, hld⟩⟩⟩⟩
    obtain ⟨_, _, _, l0, -, hz0⟩ := leasts_b0 (nv := nv) hz (.sl 1 (el A)) (.sl 3 (el B)) (.sl 3 (el Y)) W X E (colsN A : Int) hW hWl (fun hn => by
      rcases hXE with ⟨_, h1, h2⟩ | ⟨h, _⟩
      · exact ⟨h1, h2⟩
      · exact absurd hn h)
    rw [hwl] at l0
    rcases hz0 with ⟨rfl, hn, rfl, rfl⟩ | ⟨rfl, hn, rfl, rfl⟩
    · simp (disch := omega) [-vIA_o, dendronlaw05_SolveLeasts, f1, f2, f3, f4, sA, le, l0, hbl, hwl]
      done
    rw [hwl] at l0
    rcases hXE with ⟨h, _⟩ | ⟨-, hXE⟩
    · exact absurd h hn
    obtain ⟨_, _, _, l2, -, rfl, rfl, rfl⟩ := leasts_b2 (nv := nv) hz A (.sl 3 (el B)) (.sl 3 (el Y)) (.sl 3 (el X)) W E (colsN A : Int) hW hAl hwl
    have hHok : ∀ r ∈ hvL A W A.length, ∀ x ∈ r, x.ok 1 := fun r hr' => by
      obtain ⟨i, hi, _, rfl⟩ := hvL_mem.1 hr'
      exact hA _ (ix_mem hi)
    have hHrow : ∀ r ∈ hvL A W A.length, r.length = colsN A := fun r hr' => by
      obtain ⟨i, hi, _, rfl⟩ := hvL_mem.1 hr'
      exact rect_row hr hi
    have hHr : rectB (hvL A W A.length) = true := by
      apply is_rect
      intro j hj
      rw [hHrow _ (ix_mem hj), hHrow _ (ix_mem (by omega))]
    have hHc : colsN (hvL A W A.length) ≤ 4 := cols_le4 fun r hr' => by rw [hHrow r hr']; exact hAc
    have hHl := hvL_len A W A.length
    have hp5 : 5 ^ colsN (hvL A W A.length) ≤ 5 ^ 4 := Nat.pow_le_pow_right (by decide) hHc
    have rk := rank_ev (nv := nv) hz (hvL A W A.length) hHok (Nat.le_refl 1) (by omega) (by omega) hHr (by omega)
    have hrk := heavy_rank (A := A) (w := W) hr
    generalize (stp (hvL A W A.length)).lead.length = K at *
    generalize hvL A W A.length = Hv at *
    have htk : List.take Hv.length Hv = Hv := List.take_length
    rcases hXE with ⟨hone, hX0, rfl⟩ | ⟨hone, rfl, hXl, hXeq⟩
    · have hK := hrk.2 hone
      have hKi : (K : Int) < (colsN A : Int) := by omega
      have hX1 : X = [] := List.length_eq_zero_iff.1 hX0
      subst hX1
      have e0 : el ([] : List RQ) = [] := rfl
      rw [e0] at le l0 l2
      simp (disch := omega) [-vIA_o, dendronlaw05_SolveLeasts, f1, f2, f3, f4, sA, le, l0, hbl, hwl, l2, rk, htk, hK, hKi, aw]
      done
    · have hK : ¬ K < colsN A := fun h => hrk.1 h hone
      have hKi : ¬ (K : Int) < (colsN A : Int) := by omega
      by_cases hYc : Y.length = colsN A
      · have hYi : (Y.length : Int) = (colsN A : Int) := by omega
        by_cases hC0 : 0 < colsN A
        · obtain ⟨rfl, hld⟩ := hXeq hC0
          have hXB := lsX_ok hA hB hW hr hbl hwl hAl hAc hC0
          have hXok : ∀ x ∈ lsX A B W, x.ok 60000 := by
            intro x hx
            obtain ⟨j, hj, rfl⟩ := List.getElem_of_mem hx
            rw [hXl] at hj
            rw [← ix_get (by omega)]
            unfold lsX
            rw [rw_ix _ hj]
            exact can_ok (hXB j hj)
          have sm := same5_ev (nv := nv) hz (colsN A) (apS (invT (lsN A W)) (lsC A B W)) Y hXB hY (by decide) (Nat.le_refl 1) (by decide) hYc (by omega)
          rw [show rw' (colsN A) (apS (invT (lsN A W)) (lsC A B W)) = lsX A B W from rfl] at sm
          by_cases heq : ∀ i, i < colsN A → apS (invT (lsN A W)) (lsC A B W) i = (ix Y i).v
          · rw [decide_eq_true heq] at sm
            generalize lsX A B W = X at *
            simp (disch := omega) [-vIA_o, dendronlaw05_SolveLeasts, f1, f2, f3, f4, sA, le, l0, hbl, hwl, l2, rk, htk, hK, hKi, hXl, hYc, hYi, sm, aw]
            done
          · rw [decide_eq_false heq] at sm
            have lx := loss5_ev (nv := nv) hz A B W (lsX A B W) (j := 60000) hA hB hW hXok (by decide) rfl (by decide) (by omega) hAl hAr hbl hwl
            have ly := loss5_ev (nv := nv) hz A B W Y (j := 1) hA hB hW hY (by decide) rfl (by decide) (by omega) hAl hAr hbl hwl
            have bx := lsI_b (J := 1 + 4 * (1 + 60000 + 1) + 1 + 1) hA hB hW hXok (by decide) rfl (by omega) hAl hbl hwl
            have bY := lsI_b (J := 1 + 4 * (1 + 1 + 1) + 1 + 1) hA hB hW hY (by decide) rfl (by omega) hAl hbl hwl
            have cm := rcmp_ev (nv := nv) hz (can (lsI A B W (lsX A B W) A.length)) (can (lsI A B W Y A.length)) (can_ok bx) (can_ok bY) (by decide) (by decide) (by decide)
            rw [can_v, can_v] at cm
            have hlt : lsI A B W (lsX A B W) A.length < lsI A B W Y A.length := by
              rw [lsI_loss hr hXl, lsI_loss hr hYc]
              apply least_strict (hnn hn)
              · intro j hj
                exact lsX_eq hC0 hbl hld hj
              · exact hone
              · refine Classical.byContradiction fun hno => heq fun i hi => Classical.byContradiction fun hne => hno ⟨i, hi, fun e => hne ?_⟩
                rw [e]
                unfold lsX
                rw [rw_ix _ hi, can_v]
            rw [show cmpQ (lsI A B W (lsX A B W) A.length) (lsI A B W Y A.length) = -1 from if_pos hlt] at cm
            generalize can (lsI A B W (lsX A B W) A.length) = q1 at *
            generalize can (lsI A B W Y A.length) = q2 at *
            generalize lsX A B W = X at *
            simp (disch := omega) [-vIA_o, dendronlaw05_SolveLeasts, f1, f2, f3, f4, sA, le, l0, hbl, hwl, l2, rk, htk, hK, hKi, hXl, hYc, hYi, sm, lx, ly, cm, aw]
            done
        · have hc0 : colsN A = 0 := by omega
          have sm := same5_ev (nv := nv) hz 0 (fun _ => 0) Y (j := 1) (fun i h => by omega) hY (by decide) (Nat.le_refl 1) (by decide) (by omega) (by omega)
          rw [decide_eq_true (fun i h => by omega)] at sm
          have hX1 : X = [] := List.length_eq_zero_iff.1 (by omega)
          rw [show rw' 0 (fun _ => (0 : Rat)) = [] from rfl] at sm
          subst hX1
          rw [hc0] at sA l0 l2 hYc hYi hK hKi
          have z0 : ((0 : Nat) : Int) = 0 := rfl
          rw [z0] at sA l0 l2 hYi hKi
          have hY1 : Y = [] := List.length_eq_zero_iff.1 hYc
          subst hY1
          have e0 : el ([] : List RQ) = [] := rfl
          rw [e0] at le l0 l2 sm f4
          simp (disch := omega) [-vIA_o, dendronlaw05_SolveLeasts, f1, f2, f3, f4, sA, le, l0, hbl, hwl, l2, rk, htk, hK, hKi, sm, aw]
          done
      · have hYi : ¬ (Y.length : Int) = (colsN A : Int) := by omega
        simp (disch := omega) [-vIA_o, dendronlaw05_SolveLeasts, f1, f2, f3, f4, sA, le, l0, hbl, hwl, l2, rk, htk, hK, hKi, hXl, hYc, hYi, aw]
        done
  · have le := least_bad (nv := nv) A B W (by omega) h
    by_cases hr : rectB A = true
    · rw [if_pos hr] at sA
      by_cases hb : B.length = A.length
      · have hw : ¬ W.length = A.length := fun e => h ⟨hr, hb, e⟩
        have hwi : ¬ (A.length : Int) = (W.length : Int) := by omega
        have hwn : ¬ A.length = W.length := fun e => hw e.symm
        simp (disch := omega) [dendronlaw05_SolveLeasts, f1, f2, f3, f4, sA, le, hb, hwi, hwn, aw]
      · have hbi : ¬ (A.length : Int) = (B.length : Int) := by omega
        have hbn : ¬ A.length = B.length := fun e => hb e.symm
        simp (disch := omega) [dendronlaw05_SolveLeasts, f1, f2, f3, f4, sA, le, hbi, hbn, aw]
    · rw [if_neg hr] at sA
      simp (disch := omega) [dendronlaw05_SolveLeasts, f1, f2, f3, f4, sA, le, aw]
end
end Go.Proofs.YtbghnfhfekfenaaDoor
