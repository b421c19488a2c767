/- SolveProducts: what the statement computes. -/
import Derived.Test.YtbghnfhfekfenaaDoorTh
import Derived.Test.YtbghnfhfekfenaaDoorTi
set_option linter.unusedSimpArgs false
set_option linter.unusedVariables false
namespace Go.Proofs.YtbghnfhfekfenaaDoor
open Go Go.Proofs.R
set_option maxRecDepth 10000
theorem rwq_ok {n k : Nat} {g : Nat → Rat} (h : ∀ i, i < n → Bq k (g i)) : ∀ r ∈ rw' n g, r.ok k := by
  intro r hr
  obtain ⟨i, hi, rfl⟩ := List.getElem_of_mem hr
  rw [rw_len] at hi
  rw [← ix_get (by simpa using hi), rw_ix _ hi]
  exact can_ok (h i hi)
/-- The sums of products that are expected. -/
def wantF (A : List (List RQ)) (x : List RQ) : Nat → Rat := fun j => dotS (ix A j) x (min (ix A j).length x.length)
section
variable {nv : R.Nv}
theorem prod_b0 (hz : TzOk nv) (A : List (List RQ)) (x : List RQ) (B V E : D) (hA : ∀ r ∈ A, ∀ y ∈ r, y.ok 1) (hx : ∀ y ∈ x, y.ok 1) (hAl : A.length ≤ 5) (hAr : ∀ r ∈ A, r.length ≤ 5) (hxl : x.length ≤ 5) :
    ∃ z e μ, EX ip nv (.code (.loop [] [] dendronlaw05_SolveProducts.b0) [(0, .d (.sl 1 (el A))), (1, .d B), (2, .d (.sl 3 (el x))), (7, .d V), (8, .d E), (9, .d (.bool true)), (10, .own 10 3 0 0), (11, .d (.int .i64 0))] [(10, ⟨0, false, []⟩)]) = some (.st z e μ) ∧ z ≠ .normal ∧
      z = .exit 0 ∧ e = [(0, .d (.sl 1 (el A))), (1, .d B), (2, .d (.sl 3 (el x))), (7, .d V), (8, .d E), (9, .d (.bool (decide (∀ j, j < A.length → (ix A j).length = x.length)))), (10, .own 10 3 0 A.length), (11, .d (.int .i64 (A.length : Int))), (40, .d (.bool false))] ∧ μ = [(10, ⟨0, false, el (rw' A.length (wantF A x))⟩)] := by
  refine loop_n A.length (fun i e μ => ∃ t : Bool, t = decide (∀ j, j < i → (ix A j).length = x.length) ∧ e = [(0, .d (.sl 1 (el A))), (1, .d B), (2, .d (.sl 3 (el x))), (7, .d V), (8, .d E), (9, .d (.bool t)), (10, .own 10 3 0 i), (11, .d (.int .i64 (i : Int)))] ∧ μ = [(10, ⟨0, false, el (rw' i (wantF A x))⟩)]) ?_ ?_ ⟨true, by simp, rfl, rfl⟩
  · rintro i e μ hi ⟨t, ht, rfl, rfl⟩
    have hri := hAr _ (ix_mem hi)
    have hmn : min (ix A i).length x.length ≤ 5 := by omega
    have hbb : 1 + (min (ix A i).length x.length + 1) * (1 + 1 + 1) ≤ 1073741824 := by omega
    have d5 := dot5_ev (nv := nv) hz (ix A i) x (hA _ (ix_mem hi)) hx (by decide) (by decide) (by omega) (by omega) hbb
    have hw : dotS (ix A i) x (min (ix A i).length x.length) = wantF A x i := rfl
    rw [hw] at d5
    have hwb : Bq 100 (wantF A x i) := (dotS_b (hA _ (ix_mem hi)) hx (by decide) (by decide) (min (ix A i).length x.length) (by omega) (by omega)).mono (by omega)
    have hsu := rw_succ i (wantF A x)
    have hlen := rw_len i (wantF A x)
    have ht2 : List.take i (rw' i (wantF A x)) = rw' i (wantF A x) := List.take_of_length_le (by omega)
    have hl2 : (rw' (i + 1) (wantF A x)).length = i + 1 := rw_len _ _
    have hix := rw_ix (C := i + 1) (wantF A x) (Nat.lt_succ_self i)
    rw [hsu] at hl2 hix
    have hdec : decide (∀ j, j < i + 1 → (ix A j).length = x.length) = (t && decide ((ix A i).length = x.length)) := by
      rw [ht, Bool.eq_iff_iff]
      simp only [decide_eq_true_eq, Bool.and_eq_true]
      constructor
      · exact fun h => ⟨fun j hj => h j (by omega), h i (by omega)⟩
      · rintro ⟨h1, h2⟩ j hj
        by_cases e : j = i
        · rw [e]; exact h2
        · exact h1 j (by omega)
    by_cases he : (ix A i).length = x.length
    · have dt := dot_ev (nv := nv) hz (ix A i) x (hA _ (ix_mem hi)) hx (by decide) (by decide) he (by omega)
      have hw2 : dotS (ix A i) x (ix A i).length = wantF A x i := by unfold wantF; rw [he, Nat.min_self]
      rw [hw2] at dt
      have sm := rsame_ev (nv := nv) hz (can (wantF A x i)) (can (wantF A x i)) (can_ok hwb) (can_ok hwb) (by decide) (by decide) (by decide)
      rw [decide_eq_true rfl] at sm
      have hei : ((ix A i).length : Int) = (x.length : Int) := by omega
      refine .inl ⟨_, _, ?_, t, by rw [hdec, decide_eq_true he, Bool.and_true], rfl, rfl⟩
      rw [hsu]
      clear hdec ht hw hw2 hwb hbb
      generalize can (wantF A x i) = q at *
      generalize rw' i (wantF A x) = g at *
      have hl3 : (g ++ [q]).length = i + 1 := hl2
      have hi3 : i < (g ++ [q]).length := by omega
      cases t
      · simp (disch := omega) [-vIA_o, dendronlaw05_SolveProducts.b0, hi, he, hei, d5, dt, sm, hlen, ht2, hix]
      · simp (disch := omega) [-vIA_o, dendronlaw05_SolveProducts.b0, hi, he, hei, d5, dt, sm, hlen, ht2, hix]
    · have dt := dot_bad (nv := nv) (ix A i) x he (by omega) (by omega)
      have hei : ¬ ((ix A i).length : Int) = (x.length : Int) := by omega
      refine .inl ⟨_, _, ?_, false, by rw [hdec, decide_eq_false he, Bool.and_false], rfl, rfl⟩
      rw [hsu]
      clear hdec ht hw hwb hbb
      generalize can (wantF A x i) = q at *
      generalize rw' i (wantF A x) = g at *
      cases t
      · simp (disch := omega) [-vIA_o, dendronlaw05_SolveProducts.b0, hi, he, hei, d5, dt, hlen, ht2, hix]
      · simp (disch := omega) [-vIA_o, dendronlaw05_SolveProducts.b0, hi, he, hei, d5, dt, hlen, ht2, hix]
  · rintro e μ ⟨t, ht, rfl, rfl⟩
    subst ht
    exact ⟨.exit 0, _, _, by simp [dendronlaw05_SolveProducts.b0] <;> first | rfl | exact ⟨rfl, rfl⟩, by simp, rfl, rfl, rfl⟩
/-- One row of the product, as it is expected. -/
def mulW (A B : List (List RQ)) (i : Nat) : Nat → Rat := fun k => dotS (ix A i) (colL B k) (min (ix A i).length (colL B k).length)
theorem prod_b4 (hz : TzOk nv) (A B : List (List RQ)) (M : D) (hA : ∀ r ∈ A, ∀ y ∈ r, y.ok 1) (hB : ∀ r ∈ B, ∀ y ∈ r, y.ok 1) (hAl : A.length ≤ 5) (hAr : ∀ r ∈ A, r.length ≤ 5) (hBl : B.length ≤ 5) (hBr : rectB B = true) (hBc : colsN B ≤ 5) {i : Nat} (hi : i < A.length) :
    ∃ z e μ, EX ip nv (.code (.loop [] [] dendronlaw05_SolveProducts.b4) [(0, .d (.sl 1 (el A))), (1, .d (.sl 1 (el B))), (18, .d (.int .i64 (colsN B : Int))), (20, .d M), (22, .d (.int .i64 (i : Int))), (23, .own 23 3 0 0), (24, .d (.int .i64 0))] [(23, ⟨0, false, []⟩)]) = some (.st z e μ) ∧ z ≠ .normal ∧
      z = .exit 4 ∧ e = [(0, .d (.sl 1 (el A))), (1, .d (.sl 1 (el B))), (18, .d (.int .i64 (colsN B : Int))), (20, .d M), (22, .d (.int .i64 (i : Int))), (23, .own 23 3 0 (colsN B)), (24, .d (.int .i64 (colsN B : Int))), (184, .d (.bool false))] ∧ μ = [(23, ⟨0, false, el (rw' (colsN B) (mulW A B i))⟩)] := by
  refine loop_n (colsN B) (fun k e μ => e = [(0, .d (.sl 1 (el A))), (1, .d (.sl 1 (el B))), (18, .d (.int .i64 (colsN B : Int))), (20, .d M), (22, .d (.int .i64 (i : Int))), (23, .own 23 3 0 k), (24, .d (.int .i64 (k : Int)))] ∧ μ = [(23, ⟨0, false, el (rw' k (mulW A B i))⟩)]) ?_ ?_ ⟨rfl, rfl⟩
  · rintro k e μ hk ⟨rfl, rfl⟩
    have co := col5_ev (nv := nv) B k (by omega) (fun j hj => by rw [rect_row hBr hj]; exact hk) (by omega)
    have hri := hAr _ (ix_mem hi)
    have d5 := dot5_ev (nv := nv) hz (ix A i) (colL B k) (hA _ (ix_mem hi)) (fun y hy => by
      obtain ⟨j, hj, rfl⟩ := List.getElem_of_mem hy
      rw [colL_len] at hj
      rw [← ix_get (by simpa using hj), colL_ix hj]
      exact hB _ (ix_mem hj) _ (ix_mem (by rw [rect_row hBr hj]; exact hk))) (by decide) (by decide) (by omega) (by simp; omega) (by simp; omega)
    have hw : dotS (ix A i) (colL B k) (min (ix A i).length (colL B k).length) = mulW A B i k := rfl
    rw [hw] at d5
    have hsu := rw_succ k (mulW A B i)
    have hlen := rw_len k (mulW A B i)
    have ht2 : List.take k (rw' k (mulW A B i)) = rw' k (mulW A B i) := List.take_of_length_le (by omega)
    refine .inl ⟨_, _, ?_, rfl, rfl⟩
    rw [hsu]
    clear hw
    generalize can (mulW A B i k) = q at *
    generalize rw' k (mulW A B i) = g at *
    generalize colL B k = cl at *
    simp (disch := omega) [-vIA_o, dendronlaw05_SolveProducts.b4, hi, hk, co, d5, hlen, ht2]
  · rintro e μ ⟨rfl, rfl⟩
    exact ⟨.exit 4, _, _, by simp [dendronlaw05_SolveProducts.b4] <;> first | rfl | exact ⟨rfl, rfl⟩, by simp, rfl, rfl, rfl⟩
theorem mulW_eq {A B : List (List RQ)} (hA : rectB A = true) (hAB : colsN A = B.length) {i k : Nat} (hi : i < A.length) : mulF A B i k = mulW A B i k := by
  unfold mulF mulW dotS
  rw [rect_row hA hi, colL_len, hAB, Nat.min_self]
  apply sm_congr
  intro j hj
  rw [colL_ix hj]
  show (ix (ix B j) k).v * (ix (ix A i) j).v = _
  exact Rat.mul_comm _ _
theorem mulF_b {A B : List (List RQ)} (hA : ∀ r ∈ A, ∀ y ∈ r, y.ok 1) (hB : ∀ r ∈ B, ∀ y ∈ r, y.ok 1) (hAr : rectB A = true) (hBr : rectB B = true) (hAB : colsN A = B.length) (hBl : B.length ≤ 5) {i k : Nat} (hi : i < A.length) (hk : k < colsN B) : Bq 100 (mulF A B i k) := by
  rw [mulW_eq hAr hAB hi]
  unfold mulW
  rw [rect_row hAr hi, colL_len, hAB, Nat.min_self]
  refine (dotS_b (x := ix A i) (y := colL B k) (j := 1) (k := 1) (hA _ (ix_mem hi)) (fun y hy => ?_) (by decide) (by decide) B.length (by rw [rect_row hAr hi]; omega) (by simp)).mono (by omega)
  obtain ⟨j, hj, rfl⟩ := List.getElem_of_mem hy
  rw [colL_len] at hj
  rw [← ix_get (by simpa using hj), colL_ix hj]
  exact hB _ (ix_mem hj) _ (ix_mem (by rw [rect_row hBr hj]; exact hk))
theorem prod_b2 (hz : TzOk nv) (A B : List (List RQ)) (hA : ∀ r ∈ A, ∀ y ∈ r, y.ok 1) (hB : ∀ r ∈ B, ∀ y ∈ r, y.ok 1) (hAl : A.length ≤ 5) (hAr : ∀ r ∈ A, r.length ≤ 5) (hBl : B.length ≤ 5) (hAq : rectB A = true) (hBr : rectB B = true) (hBc : colsN B ≤ 5) (hAB : colsN A = B.length) :
    ∃ z e μ, EX ip nv (.code (.loop [] [] dendronlaw05_SolveProducts.b2) [(0, .d (.sl 1 (el A))), (1, .d (.sl 1 (el B))), (18, .d (.int .i64 (colsN B : Int))), (20, .d (.sl 1 (el (tbl A.length (colsN B) (mulF A B))))), (22, .d (.int .i64 0))] []) = some (.st z e μ) ∧ z ≠ .normal ∧
      z = .exit 2 ∧ e = [(0, .d (.sl 1 (el A))), (1, .d (.sl 1 (el B))), (18, .d (.int .i64 (colsN B : Int))), (20, .d (.sl 1 (el (tbl A.length (colsN B) (mulF A B))))), (22, .d (.int .i64 (A.length : Int))), (179, .d (.bool false))] ∧ μ = [] := by
  refine loop_n A.length (fun i e μ => e = [(0, .d (.sl 1 (el A))), (1, .d (.sl 1 (el B))), (18, .d (.int .i64 (colsN B : Int))), (20, .d (.sl 1 (el (tbl A.length (colsN B) (mulF A B))))), (22, .d (.int .i64 (i : Int)))] ∧ μ = []) ?_ ?_ ⟨rfl, rfl⟩
  · rintro i e μ hi ⟨rfl, rfl⟩
    obtain ⟨_, _, _, l4, -, rfl, rfl, rfl⟩ := prod_b4 (nv := nv) hz A B (.sl 1 (el (tbl A.length (colsN B) (mulF A B)))) hA hB hAl hAr hBl hBr hBc hi
    have hb : ∀ k, k < colsN B → Bq 100 (mulF A B i k) := fun k hk => mulF_b hA hB hAq hBr hAB hBl hi hk
    have sm := same5_ev (nv := nv) hz (j := 100) (k := 100) (colsN B) (mulF A B i) (rw' (colsN B) (mulW A B i)) hb (rwq_ok fun k hk => by rw [← mulW_eq hAq hAB hi]; exact hb k hk) (by decide) (by decide) (by decide) (rw_len _ _) (by omega)
    rw [decide_eq_true (fun k hk => by rw [rw_ix _ hk, can_v, mulW_eq hAq hAB hi])] at sm
    have tix := tbl_ix (R := A.length) (C := colsN B) (f := mulF A B) hi
    have tln := tbl_len A.length (colsN B) (mulF A B)
    have hlen := rw_len (colsN B) (mulW A B i)
    refine .inl ⟨_, _, ?_, rfl, rfl⟩
    generalize rw' (colsN B) (mulW A B i) = g at *
    generalize tbl A.length (colsN B) (mulF A B) = m at *
    generalize rw' (colsN B) (mulF A B i) = g2 at *
    simp (disch := omega) [-vIA_o, dendronlaw05_SolveProducts.b2, hi, l4, tix, sm, hlen]
  · rintro e μ ⟨rfl, rfl⟩
    exact ⟨.exit 2, _, _, by simp [dendronlaw05_SolveProducts.b2] <;> first | rfl | exact ⟨rfl, rfl⟩, by simp, rfl, rfl, rfl⟩
theorem fits_iff {A : List (List RQ)} {x : List RQ} : (∀ r ∈ A, r.length = x.length) ↔ (∀ j, j < A.length → (ix A j).length = x.length) := by
  constructor
  · exact fun h j hj => h _ (ix_mem hj)
  · intro h r hr
    obtain ⟨i, hi, rfl⟩ := List.getElem_of_mem hr
    rw [← ix_get hi]; exact h i hi
theorem apS_b {A : List (List RQ)} {x : List RQ} (hA : ∀ r ∈ A, ∀ y ∈ r, y.ok 1) (hx : ∀ y ∈ x, y.ok 1) (hxl : x.length ≤ 5) (hf : ∀ j, j < A.length → (ix A j).length = x.length) : ∀ i, i < A.length → Bq 100 (apS A x i) := fun i hi =>
  (dotS_b (hA _ (ix_mem hi)) hx (by decide) (by decide) x.length (by rw [hf i hi]; omega) (by omega)).mono (by omega)
theorem products_ev (hz : TzOk nv) (a b : List (List RQ)) (x : List RQ) (ha : ∀ r ∈ a, ∀ y ∈ r, y.ok maxLen) (hb : ∀ r ∈ b, ∀ y ∈ r, y.ok maxLen) (hx : ∀ y ∈ x, y.ok maxLen) :
    EX ip nv (.call F.dendronlaw05_SolveProducts [.d (.sl 1 (el a)), .d (.sl 1 (el b)), .d (.sl 3 (el x))] []) = some (.ret (.d (.bool true)) []) := by
  rw [S_call dendronlaw05_SolveProducts.ip rfl]
  have f1 := few5_ev (nv := nv) a 5 (by decide)
  have f2 := few5_ev (nv := nv) b 5 (by decide)
  have f3 := row5_ev (nv := nv) x 5 (by decide)
  have hA := few5_ok (n := 5) ha
  have hB := few5_ok (n := 5) hb
  have hX := row5_ok (n := 5) hx
  have hAl := few5_len 5 a
  have hBl := few5_len 5 b
  have hXl := row5_len 5 x
  have hAr := few5_row (n := 5) (a := a)
  have hAc := few5_cols 5 a
  have hBc := few5_cols 5 b
  have aw := awake5_ev (nv := nv) hz
  generalize few5 5 a = A at *
  generalize few5 5 b = B at *
  generalize row5 5 x = X at *
  clear ha hb hx
  have ap := apply_ev (nv := nv) hz A X hA hX (by decide) (by decide) (by omega) (fun r hr => by have := hAr r hr; omega) (by omega) (by omega)
  have sA := size5_ev (nv := nv) A (by omega)
  have sB := size5_ev (nv := nv) B (by omega)
  unfold sizeV at sA sB
  have c5 : ((5 : Nat) : Int) = 5 := rfl
  rw [c5] at f1 f2 f3
  -- what is left behind the first half
  obtain ⟨V, E, t, hap, h0, hs⟩ : ∃ (V : List RQ) (E : Int) (t : Bool), EX ip nv (.call F.solve_Apply [.d (.sl 1 (el A)), .d (.sl 3 (el X))] []) = some (.ret (.tp [.d (.sl 3 (el V)), .d (.int .i64 E)]) []) ∧ t = decide (∀ j, j < A.length → (ix A j).length = X.length) ∧
      ((t = true ∧ E = 0 ∧ EX ip nv (.call F.dendronlaw05_same [.d (.sl 3 (el V)), .d (.sl 3 (el (rw' A.length (wantF A X))))] []) = some (.ret (.d (.bool true)) [])) ∨ (t = false ∧ E = 14 ∧ V.length = 0)) := by
    by_cases hf : ∀ j, j < A.length → (ix A j).length = X.length
    · have hf' := fits_iff.2 hf
      rw [if_pos hf', if_pos hf'] at ap
      refine ⟨_, _, true, ap, (decide_eq_true hf).symm, .inl ⟨rfl, rfl, ?_⟩⟩
      have hbb := apS_b hA hX hXl hf
      have hw : ∀ i, i < A.length → apS A X i = wantF A X i := fun i hi => by
        unfold apS wantF; rw [hf i hi, Nat.min_self]
      have sm := same5_ev (nv := nv) hz (j := 100) (k := 100) A.length (apS A X) (rw' A.length (wantF A X)) hbb (rwq_ok fun i hi => by rw [← hw i hi]; exact hbb i hi) (by decide) (by decide) (by decide) (rw_len _ _) (by omega)
      rw [decide_eq_true (fun i hi => by rw [rw_ix _ hi, can_v, hw i hi])] at sm
      exact sm
    · have hf' : ¬ (∀ r ∈ A, r.length = X.length) := fun h => hf (fits_iff.1 h)
      rw [if_neg hf', if_neg hf'] at ap
      exact ⟨[], _, false, ap, (decide_eq_false hf).symm, .inr ⟨rfl, rfl, rfl⟩⟩
  obtain ⟨_, _, _, l0, -, rfl, rfl, rfl⟩ := prod_b0 (nv := nv) hz A X (.sl 1 (el B)) (.sl 3 (el V)) (.int .i64 E) hA hX hAl hAr hXl
  rw [← h0] at l0
  clear h0 ap
  have hlw := rw_len A.length (wantF A X)
  generalize rw' A.length (wantF A X) = W at *
  have tail : ∀ M : List (List RQ), ∀ G : Int, EX ip nv (.call F.solve_Mul [.d (.sl 1 (el A)), .d (.sl 1 (el B))] []) = some (.ret (.tp [.d (.sl 1 (el M)), .d (.int .i64 G)]) []) →
      ((rectB A = true ∧ rectB B = true ∧ colsN A = B.length ∧ G = 0 ∧ M = tbl A.length (colsN B) (mulF A B)) ∨ (¬ (rectB A = true ∧ rectB B = true ∧ colsN A = B.length) ∧ G = 14 ∧ M.length = 0)) →
      kCall dendronlaw05_SolveProducts [] (EX ip nv (.code dendronlaw05_SolveProducts.body (params 0 [.d (.sl 1 (el a)), .d (.sl 1 (el b)), .d (.sl 3 (el x))]) [])) = some (.ret (.d (.bool true)) []) := by
    intro M G hm hc
    rcases hc with ⟨h1, h2, h3, rfl, hM⟩ | ⟨hn, rfl, hm0⟩
    · rw [if_pos h1] at sA
      rw [if_pos h2] at sB
      have h3i : (colsN A : Int) = (B.length : Int) := by omega
      obtain ⟨_, _, _, l2, -, rfl, rfl, rfl⟩ := prod_b2 (nv := nv) hz A B hA hB hAl hAr hBl h1 h2 hBc h3
      rw [← hM] at l2
      have hMl : M.length = A.length := by rw [hM, tbl_len]
      clear hM
      rcases hs with ⟨rfl, rfl, hs⟩ | ⟨rfl, rfl, hv⟩
      · simp (disch := omega) [dendronlaw05_SolveProducts, f1, f2, f3, hap, l0, hs, sA, sB, hm, h3, h3i, l2, hMl, aw, hlw]
      · simp (disch := omega) [dendronlaw05_SolveProducts, f1, f2, f3, hap, l0, hv, sA, sB, hm, h3, h3i, l2, hMl, aw, hlw]
    · by_cases h1 : rectB A = true
      · rw [if_pos h1] at sA
        by_cases h2 : rectB B = true
        · rw [if_pos h2] at sB
          have h3 : ¬ colsN A = B.length := fun h => hn ⟨h1, h2, h⟩
          have h3i : ¬ (colsN A : Int) = (B.length : Int) := by omega
          rcases hs with ⟨rfl, rfl, hs⟩ | ⟨rfl, rfl, hv⟩
          · simp (disch := omega) [dendronlaw05_SolveProducts, f1, f2, f3, hap, l0, hs, sA, sB, hm, hm0, h3, h3i, aw, hlw]
          · simp (disch := omega) [dendronlaw05_SolveProducts, f1, f2, f3, hap, l0, hv, sA, sB, hm, hm0, h3, h3i, aw, hlw]
        · rw [if_neg h2] at sB
          rcases hs with ⟨rfl, rfl, hs⟩ | ⟨rfl, rfl, hv⟩
          · simp (disch := omega) [dendronlaw05_SolveProducts, f1, f2, f3, hap, l0, hs, sA, sB, hm, hm0, aw, hlw]
          · simp (disch := omega) [dendronlaw05_SolveProducts, f1, f2, f3, hap, l0, hv, sA, sB, hm, hm0, aw, hlw]
      · rw [if_neg h1] at sA
        by_cases h2 : rectB B = true
        · rw [if_pos h2] at sB
          rcases hs with ⟨rfl, rfl, hs⟩ | ⟨rfl, rfl, hv⟩
          · simp (disch := omega) [dendronlaw05_SolveProducts, f1, f2, f3, hap, l0, hs, sA, sB, hm, hm0, aw, hlw]
          · simp (disch := omega) [dendronlaw05_SolveProducts, f1, f2, f3, hap, l0, hv, sA, sB, hm, hm0, aw, hlw]
        · rw [if_neg h2] at sB
          rcases hs with ⟨rfl, rfl, hs⟩ | ⟨rfl, rfl, hv⟩
          · simp (disch := omega) [dendronlaw05_SolveProducts, f1, f2, f3, hap, l0, hs, sA, sB, hm, hm0, aw, hlw]
          · simp (disch := omega) [dendronlaw05_SolveProducts, f1, f2, f3, hap, l0, hv, sA, sB, hm, hm0, aw, hlw]
  by_cases hc : rectB A = true ∧ rectB B = true ∧ colsN A = B.length
  · obtain ⟨h1, h2, h3⟩ := hc
    exact tail _ 0 (tmul_ev (nv := nv) hz A B hA hB (by decide) (by decide) h1 h2 h3 (by omega) (by omega) (by omega) (by omega)) (.inl ⟨h1, h2, h3, rfl, rfl⟩)
  · have := tmul_bad (nv := nv) A B (by omega) (by omega) (by
      by_cases h1 : rectB A = true
      · by_cases h2 : rectB B = true
        · exact .inr (.inr ⟨h1, h2, fun h => hc ⟨h1, h2, h⟩⟩)
        · exact .inr (.inl (by simpa using h2))
      · exact .inl (by simpa using h1))
    exact tail [] 14 this (.inr ⟨hc, rfl, rfl⟩)
end
end Go.Proofs.YtbghnfhfekfenaaDoor
