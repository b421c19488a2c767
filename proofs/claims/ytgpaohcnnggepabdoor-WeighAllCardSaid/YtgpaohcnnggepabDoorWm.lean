/- WeighNeeds and WeighAll, evaluated. -/
import Derived.Test.YtgpaohcnnggepabDoorWl
set_option linter.unusedSimpArgs false
set_option linter.unusedVariables false
namespace Go.Proofs.YtgpaohcnnggepabDoor
open Go Go.Proofs.R
set_option maxRecDepth 10000
theorem fq_pred {a : Nat} (h : 0 < a) : ((a : Int) : Rat) * fq (a - 1) = fq a := by
  obtain ⟨k, rfl⟩ : ∃ k, a = k + 1 := ⟨a - 1, by omega⟩
  rw [Nat.add_sub_cancel, fq_succ, Rat.mul_comm]
  congr 1
theorem fq_zero : fq 0 = 1 := by decide +kernel
theorem rat_div_self {x : Rat} (h : x ≠ 0) : x / x = 1 := by rw [Rat.div_def, Rat.mul_inv_cancel x h]
theorem nx_mul {a b : Nat} (h : 0 < a) : ((a : Int) : Rat) * nx a b = fq a * fq b / fq (a + b) := by
  unfold nx
  rw [if_neg (by omega), wq_fq, Rat.div_def, Rat.div_def, ← Rat.mul_assoc, ← Rat.mul_assoc, fq_pred h]
theorem ny_mul {a b : Nat} (h : 0 < b) : ((b : Int) : Rat) * ny a b = -(fq a * fq b / fq (a + b)) := by
  unfold ny
  rw [if_neg (by omega), wq_fq, Rat.mul_neg, Rat.div_def, Rat.div_def, ← Rat.mul_assoc, Rat.mul_comm (fq a), ← Rat.mul_assoc, fq_pred h, Rat.mul_comm (fq b)]
theorem need_sum (a b : Nat) : ((a : Int) : Rat) * nx a b + ((b : Int) : Rat) * ny a b = ((if 0 < a ∧ b = 0 then 1 else if 0 < b ∧ a = 0 then -1 else 0 : Int) : Rat) := by
  by_cases ha : 0 < a
  · rw [nx_mul ha]
    by_cases hb : 0 < b
    · rw [ny_mul hb, if_neg (by omega), if_neg (by omega), Rat.add_neg_cancel]; rfl
    · have : b = 0 := by omega
      subst this
      rw [if_pos ⟨ha, rfl⟩, fq_zero, Rat.mul_one, Nat.add_zero, rat_div_self (fq_ne a)]
      simp <;> decide +kernel
  · have : a = 0 := by omega
    subst this
    by_cases hb : 0 < b
    · rw [ny_mul hb, if_neg (by omega), if_pos ⟨hb, rfl⟩, fq_zero, Nat.zero_add, Rat.one_mul, rat_div_self (fq_ne b)]
      simp <;> decide +kernel
    · have : b = 0 := by omega
      subst this
      rw [if_neg (by omega), if_neg (by omega)]
      simp <;> decide +kernel
theorem weighNeeds_ev (s n : Int) : EX ip nv1 (.call F.dendronlaw14_WeighNeeds [.d (.int .i64 s), .d (.int .i64 n)] []) = some (.ret (.d (.bool true)) []) := by
  have nw := new_ev
  have aw := awake14_ev
  rw [S_call dendronlaw14_WeighNeeds.ip rfl]
  by_cases hn : s < 0 ∨ n < 0 ∨ 64 < s ∨ 64 - s < n
  · have w := needT_bad (c := c0) s n hn
    generalize c0 = cz at *
    by_cases h1 : s < 0
    · simp (disch := omega) [dendronlaw14_WeighNeeds, nw, aw, w, h1]
    · by_cases h2 : n < 0
      · simp (disch := omega) [dendronlaw14_WeighNeeds, nw, aw, w, h1, h2]
      · by_cases h3 : 64 < s
        · simp (disch := omega) [dendronlaw14_WeighNeeds, nw, aw, w, h1, h2, h3]
        · have h4 : 64 - s < n := by omega
          simp (disch := omega) [dendronlaw14_WeighNeeds, nw, aw, w, h1, h2, h3, h4]
  · obtain ⟨a, rfl⟩ : ∃ a : Nat, s = (a : Int) := ⟨s.toNat, by omega⟩
    obtain ⟨b, rfl⟩ : ∃ b : Nat, n = (b : Int) := ⟨n.toNat, by omega⟩
    have hab : a + b ≤ 64 := by omega
    obtain ⟨cc, hc, w⟩ := needT_ev (c := c0) (.inl rfl) a b hab
    have z := zero_ev (nv := nv1)
    have o1 := rof_ev (nv := nv1) (a : Int) (by omega) (by omega)
    have o2 := rof_ev (nv := nv1) (b : Int) (by omega) (by omega)
    have m1 := rmul_ev tzOk1 (can ((a : Int) : Rat)) (can (nx a b)) (can_ok (of_b (by omega))) (can_ok (nx_b hab)) (by omega) (by omega) (by omega)
    have m2 := rmul_ev tzOk1 (can ((b : Int) : Rat)) (can (ny a b)) (can_ok (of_b (by omega))) (can_ok (ny_b hab)) (by omega) (by omega) (by omega)
    rw [can_v, can_v] at m1 m2
    have ad := radd_ev tzOk1 (can (((a : Int) : Rat) * nx a b)) (can (((b : Int) : Rat) * ny a b)) (can_ok ((of_b (by omega)).mul (nx_b hab))) (can_ok ((of_b (by omega)).mul (ny_b hab))) (by omega) (by omega) (by omega)
    rw [can_v, can_v, need_sum] at ad
    have is1 := is14_ev tzOk1 (nx a b) (nx a b) (nx_b hab) (nx_b hab) (by omega) (by omega) (by omega)
    have is2 := is14_ev tzOk1 (ny a b) (ny a b) (ny_b hab) (ny_b hab) (by omega) (by omega) (by omega)
    simp only [decide_true] at is1 is2
    have g1 : ¬ (a : Int) < 0 := by omega
    have g2 : ¬ (b : Int) < 0 := by omega
    have g3 : ¬ 64 < (a : Int) := by omega
    have g4 : ¬ 64 - (a : Int) < (b : Int) := by omega
    have g5 : ¬ 64 < (b : Int) := by omega
    have g6 : ¬ 64 - (a : Int) < 0 := by omega
    by_cases ha : a = 0
    · subst ha
      by_cases hb : b = 0
      · subst hb
        rw [if_neg (by omega), if_neg (by omega)] at ad
        have sm := rsame_ev tzOk1 (can ((0 : Int) : Rat)) (can ((0 : Int) : Rat)) (can_ok (of_b (by decide))) (can_ok (of_b (by decide))) (by omega) (by omega) (by omega)
        simp only [decide_true] at sm
        have ex : nx 0 0 = 0 := rfl
        have ey : ny 0 0 = 0 := rfl
        rw [ex, ey] at w
        rw [ex] at m1 is1
        rw [ey] at m2 is2
        have e0 : ((0 : Nat) : Int) = 0 := rfl
        rw [e0] at w o1 o2 m1 m2 ad
        rw [ex, ey] at ad
        have e1 : (((0 : Int) : Rat) * 0 : Rat) = 0 := by decide +kernel
        have e2 : ((0 : Int) : Rat) = 0 := by decide +kernel
        simp only [e1, e2, Rat.zero_mul, Rat.add_zero] at m1 m2 ad sm o1 o2
        clear e1 e2 ex ey is2 m2 o2
        generalize can 0 = q0 at *
        generalize c0 = cz at *
        simp (disch := omega) [dendronlaw14_WeighNeeds, nw, aw, w, z, o1, m1, ad, is1, sm]
      · have f1 := fact14_ev tzOk1 0 (by omega)
        have f2 := fact14_ev tzOk1 (b - 1) (by omega)
        have f3 := fact14_ev tzOk1 (0 + b) (by omega)
        have qt := quot14_ev tzOk1 (fq 0) (fq (b - 1)) (fq (0 + b)) (fq_b (by omega)) (fq_b (by omega)) (fq_b (by omega)) (fq_ne _) (by omega) (by omega) (by omega) (by omega)
        rw [← wq_fq] at qt
        have ng := rneg_ev tzOk1 (can (wq 0 (b - 1) (0 + b))) (can_ok (wq_b (by omega) (by omega) (by omega))) (by omega) (by omega)
        rw [can_v] at ng
        have ey : -wq 0 (b - 1) (0 + b) = ny 0 b := by unfold ny; rw [if_neg hb]
        rw [ey] at ng
        rw [if_neg (by omega), if_pos (by omega)] at ad
        have sm := rsame_ev tzOk1 (can ((-1 : Int) : Rat)) (can ((-1 : Int) : Rat)) (can_ok (of_b (by decide))) (can_ok (of_b (by decide))) (by omega) (by omega) (by omega)
        simp only [decide_true] at sm
        have om := rof_ev (nv := nv1) (-1) (by omega) (by omega)
        have ex : nx 0 b = 0 := rfl
        rw [ex] at w m1 is1 ad
        have e0 : ((0 : Nat) : Int) = 0 := rfl
        have e2 : (b : Int) - 1 = ((b - 1 : Nat) : Int) := by omega
        have b0 : 0 < b := by omega
        rw [Nat.zero_add] at f3 qt ng
        rw [e0] at w o1 m1 ad f1
        clear ex ey
        generalize can (((0 : Int) : Rat) * 0) = p1 at *
        generalize can ((0 : Int) : Rat) = p2 at *
        generalize can (((b : Int) : Rat) * ny 0 b) = p3 at *
        generalize can ((b : Int) : Rat) = p4 at *
        generalize can ((-1 : Int) : Rat) = p5 at *
        generalize can (ny 0 b) = q at *
        generalize can (wq 0 (b - 1) b) = q'' at *
        generalize can (fq 0) = q1 at *
        generalize can (fq (b - 1)) = q2 at *
        generalize can (fq b) = q3 at *
        generalize can 0 = q0 at *
        generalize c0 = cz at *
        generalize b - 1 = b' at *
        simp (disch := omega) [dendronlaw14_WeighNeeds, nw, aw, w, z, o1, o2, m1, m2, ad, is1, is2, sm, om, f1, f2, f3, qt, ng, e2, b0, hb, g2, g5]
    · have f1 := fact14_ev tzOk1 (a - 1) (by omega)
      have f2 := fact14_ev tzOk1 b (by omega)
      have f3 := fact14_ev tzOk1 (a + b) (by omega)
      have f4 := fact14_ev tzOk1 a (by omega)
      have qt := quot14_ev tzOk1 (fq (a - 1)) (fq b) (fq (a + b)) (fq_b (by omega)) (fq_b (by omega)) (fq_b (by omega)) (fq_ne _) (by omega) (by omega) (by omega) (by omega)
      rw [← wq_fq] at qt
      have ex : wq (a - 1) b (a + b) = nx a b := by unfold nx; rw [if_neg ha]
      rw [ex] at qt
      have e1 : (a : Int) - 1 = ((a - 1 : Nat) : Int) := by omega
      have e3 : (a : Int) + (b : Int) = ((a + b : Nat) : Int) := by omega
      have a0 : 0 < a := by omega
      by_cases hb : b = 0
      · subst hb
        rw [if_pos (by omega)] at ad
        have sm := rsame_ev tzOk1 (can ((1 : Int) : Rat)) (can ((1 : Int) : Rat)) (can_ok (of_b (by decide))) (can_ok (of_b (by decide))) (by omega) (by omega) (by omega)
        simp only [decide_true] at sm
        have om := rof_ev (nv := nv1) 1 (by omega) (by omega)
        have ey : ny a 0 = 0 := rfl
        rw [ey] at w m2 is2 ad
        have e0 : ((0 : Nat) : Int) = 0 := rfl
        rw [Nat.add_zero] at f3 qt
        rw [e0] at w o2 m2 ad f2
        clear ex ey
        generalize can (((0 : Int) : Rat) * 0) = p1 at *
        generalize can ((0 : Int) : Rat) = p2 at *
        generalize can (((a : Int) : Rat) * nx a 0) = p3 at *
        generalize can ((a : Int) : Rat) = p4 at *
        generalize can ((1 : Int) : Rat) = p5 at *
        generalize can (nx a 0) = q at *
        generalize can (fq (a - 1)) = q1 at *
        generalize can (fq 0) = q2 at *
        generalize can (fq a) = q3 at *
        generalize can 0 = q0 at *
        generalize c0 = cz at *
        generalize a - 1 = a' at *
        simp (disch := omega) [dendronlaw14_WeighNeeds, nw, aw, w, z, o1, o2, m1, m2, ad, is1, is2, sm, om, f1, f2, f3, qt, e1, a0, ha, g1, g3, g6]
      · have f5 := fact14_ev tzOk1 (b - 1) (by omega)
        have qu := quot14_ev tzOk1 (fq a) (fq (b - 1)) (fq (a + b)) (fq_b (by omega)) (fq_b (by omega)) (fq_b (by omega)) (fq_ne _) (by omega) (by omega) (by omega) (by omega)
        rw [← wq_fq] at qu
        have ng := rneg_ev tzOk1 (can (wq a (b - 1) (a + b))) (can_ok (wq_b (by omega) (by omega) (by omega))) (by omega) (by omega)
        rw [can_v] at ng
        have ey : -wq a (b - 1) (a + b) = ny a b := by unfold ny; rw [if_neg hb]
        rw [ey] at ng
        rw [if_neg (by omega), if_neg (by omega)] at ad
        have sm := rsame_ev tzOk1 (can ((0 : Int) : Rat)) (can ((0 : Int) : Rat)) (can_ok (of_b (by decide))) (can_ok (of_b (by decide))) (by omega) (by omega) (by omega)
        simp only [decide_true] at sm
        have om := rof_ev (nv := nv1) 0 (by omega) (by omega)
        have e2 : (b : Int) - 1 = ((b - 1 : Nat) : Int) := by omega
        have b0 : 0 < b := by omega
        clear ex ey
        generalize can (((a : Int) : Rat) * nx a b) = p1 at *
        generalize can (((b : Int) : Rat) * ny a b) = p2 at *
        generalize can ((a : Int) : Rat) = p3 at *
        generalize can ((b : Int) : Rat) = p4 at *
        generalize can ((0 : Int) : Rat) = p5 at *
        generalize can (nx a b) = q at *
        generalize can (ny a b) = q' at *
        generalize can (wq a (b - 1) (a + b)) = q'' at *
        generalize can (fq (a + b)) = q3 at *
        generalize a + b = ab at *
        generalize can (fq (a - 1)) = q1 at *
        generalize can (fq (b - 1)) = q5 at *
        generalize can (fq a) = q4 at *
        generalize can (fq b) = q2 at *
        generalize can 0 = q0 at *
        generalize c0 = cz at *
        generalize a - 1 = a' at *
        generalize b - 1 = b' at *
        simp (disch := omega) [dendronlaw14_WeighNeeds, nw, aw, w, z, o1, o2, m1, m2, ad, is1, is2, sm, om, f1, f2, f3, f4, f5, qt, qu, ng, e1, e2, e3, a0, b0, ha, hb, g1, g2, g3, g4]
/-- How many coalitions of so many players there are, as a quotient. -/
def mq (n s : Nat) : Rat := fq (n - 1) * 1 / (fq s * fq (n - 1 - s))
theorem mq_wq {n s : Nat} (h : s < n) : mq n s * wq s (n - s - 1) n = fq (n - 1) / fq n := by
  unfold mq
  have hs := fq_ne s
  have hr := fq_ne (n - s - 1)
  rw [wq_fq, show n - 1 - s = n - s - 1 by omega, Rat.mul_one, Rat.div_def, Rat.div_def, Rat.div_def]
  rw [Rat.mul_assoc, ← Rat.mul_assoc (fq s * fq (n - s - 1))⁻¹, Rat.inv_mul_cancel _ (fun h => (Rat.mul_eq_zero.1 h).elim hs hr), Rat.one_mul]
/-- Their weights' sum, of the sizes below one. -/
def aS (n : Nat) : Nat → Rat
  | 0 => 0
  | s + 1 => aS n s + mq n s * wq s (n - s - 1) n
theorem aS_eq (n : Nat) : ∀ k, k ≤ n → aS n k = ((k : Int) : Rat) * (fq (n - 1) / fq n)
  | 0, _ => by simp [aS]
  | k + 1, h => by
    rw [aS, aS_eq n k (by omega), mq_wq (by omega), show (((k + 1 : Nat) : Int) : Rat) = ((k : Int) : Rat) + 1 by push_cast; rfl, Rat.add_mul, Rat.one_mul]
theorem aS_all {n : Nat} (h : 0 < n) : aS n n = 1 := by
  rw [aS_eq n n (Nat.le_refl _), Rat.div_def, ← Rat.mul_assoc, fq_pred h, ← Rat.div_def, rat_div_self (fq_ne n)]
theorem mq_b {n s : Nat} (h : s < n) (hn : n ≤ 64) : Bq 31 (mq n s) := by
  unfold mq
  rw [Rat.div_def]
  exact (((fq_b (by omega)).mul (k := 1) (Bq.divI' (a := 1) (b := 1) (by simp [pw]) (by simp [pw]) (by omega))).mul (Bq.inv ((fq_b (n := s) (by omega)).mul (fq_b (n := n - 1 - s) (by omega))) (fun h => (Rat.mul_eq_zero.1 h).elim (fq_ne _) (fq_ne _)))).mono (by omega)
theorem aS_b {n : Nat} (hn : n ≤ 64) : ∀ k, k ≤ n → Bq (1 + 52 * k) (aS n k)
  | 0, _ => Bq.zero
  | k + 1, h => by
    have ih := aS_b hn k (by omega)
    rw [aS]
    exact (ih.add ((mq_b (by omega) hn).mul (wq_b (by omega) (by omega) (by omega)))).mono (by omega)
theorem one_b : Bq 1 (1 : Rat) := Bq.divI' (a := 1) (b := 1) (by simp [pw]) (by simp [pw]) (by omega)
theorem weighAll_loop (n : Nat) (hn : n ≤ 64) (c : List D) : ∃ z e μ, EX ip nv1 (.code (.loop [] [] dendronlaw14_WeighAll.b0) [(0, .d (.int .i64 (n : Int))), (3, .d (.sl 3 (el (wL n n)))), (5, .ptr 5 0), (6, .d (.int .i64 0))] [(5, ⟨0, true, (can 0).c⟩), (10, ⟨0, false, c⟩)]) = some (.st z e μ) ∧ z ≠ .normal ∧
    z = .exit 0 ∧ e = [(0, .d (.int .i64 (n : Int))), (3, .d (.sl 3 (el (wL n n)))), (5, .ptr 5 0), (6, .d (.int .i64 (n : Int))), (42, .d (.bool false))] ∧ μ = [(5, ⟨0, true, (can (aS n n)).c⟩), (10, ⟨0, false, c⟩)] := by
  refine loop_n n (fun i e μ => ∃ q : RQ, q = can (aS n i) ∧ e = [(0, .d (.int .i64 (n : Int))), (3, .d (.sl 3 (el (wL n n)))), (5, .ptr 5 0), (6, .d (.int .i64 (i : Int)))] ∧ μ = [(5, ⟨0, true, q.c⟩), (10, ⟨0, false, c⟩)]) ?_ ?_ ⟨_, rfl, rfl, rfl⟩
  · rintro i e μ hi ⟨q, hq, rfl, rfl⟩
    have f1 := fact14_ev tzOk1 i (by omega)
    have f2 := fact14_ev tzOk1 (n - i - 1) (by omega)
    have f3 := fact14_ev tzOk1 n hn
    have f4 := fact14_ev tzOk1 (n - 1) (by omega)
    have o := rone_ev (nv := nv1)
    have qt := quot14_ev tzOk1 (fq i) (fq (n - i - 1)) (fq n) (fq_b (by omega)) (fq_b (by omega)) (fq_b hn) (fq_ne _) (by omega) (by omega) (by omega) (by omega)
    rw [← wq_fq] at qt
    have wb := wq_b (a := i) (b := n - i - 1) (c := n) (by omega) (by omega) hn
    have is := is14_ev tzOk1 (wq i (n - i - 1) n) (wq i (n - i - 1) n) wb wb (by omega) (by omega) (by omega)
    simp only [decide_true] at is
    have m1 := rmul_ev tzOk1 (can (fq i)) (can (fq (n - i - 1))) (can_ok (fq_b (by omega))) (can_ok (fq_b (by omega))) (by omega) (by omega) (by omega)
    rw [can_v, can_v] at m1
    have qm := quot14_ev tzOk1 (fq (n - 1)) 1 (fq i * fq (n - i - 1)) (fq_b (by omega)) one_b ((fq_b (by omega)).mul (fq_b (by omega))) (fun h => (Rat.mul_eq_zero.1 h).elim (fq_ne _) (fq_ne _)) (by omega) (by omega) (by omega) (by omega)
    have em : fq (n - 1) * 1 / (fq i * fq (n - i - 1)) = mq n i := by unfold mq; rw [show n - 1 - i = n - i - 1 by omega]
    rw [em] at qm
    have m2 := rmul_ev tzOk1 (can (mq n i)) (can (wq i (n - i - 1) n)) (can_ok (mq_b hi hn)) (can_ok wb) (by omega) (by omega) (by omega)
    rw [can_v, can_v] at m2
    have ad := radd_ev tzOk1 (can (aS n i)) (can (mq n i * wq i (n - i - 1) n)) (can_ok (aS_b hn i (by omega))) (can_ok ((mq_b hi hn).mul wb)) (by omega) (by omega) (by omega)
    rw [can_v, can_v, ← hq, show aS n i + mq n i * wq i (n - i - 1) n = aS n (i + 1) from rfl] at ad
    have hx := wL_ix (n := n) hi
    have hl := wL_len n n
    have e1 : (n : Int) - (i : Int) - 1 = ((n - i - 1 : Nat) : Int) := by omega
    have e2 : (n : Int) - 1 = ((n - 1 : Nat) : Int) := by omega
    have e3 : ((n - 1 : Nat) : Int) - (i : Int) = ((n - i - 1 : Nat) : Int) := by omega
    refine .inl ⟨_, _, ?_, can (aS n (i + 1)), rfl, rfl, rfl⟩
    clear hq em wb
    generalize can (aS n (i + 1)) = p1 at *
    generalize can (mq n i * wq i (n - i - 1) n) = p2 at *
    generalize can (mq n i) = p3 at *
    generalize can (wq i (n - i - 1) n) = p4 at *
    generalize can (fq i * fq (n - i - 1)) = p5 at *
    generalize can (fq (n - i - 1)) = p6 at *
    generalize n - i - 1 = j at *
    generalize can (fq (n - 1)) = p7 at *
    generalize n - 1 = n' at *
    generalize can (fq i) = p8 at *
    generalize can (fq n) = p9 at *
    generalize can 1 = p10 at *
    generalize wL n n = L at *
    simp (disch := omega) [dendronlaw14_WeighAll.b0, hi, f1, f2, f3, f4, o, qt, is, m1, qm, m2, ad, hx, hl, e1, e2, e3]
  · rintro e μ ⟨q, hq, rfl, rfl⟩
    subst hq
    exact ⟨.exit 0, _, _, by simp [dendronlaw14_WeighAll.b0] <;> first | rfl | exact ⟨rfl, rfl⟩, by simp, rfl, rfl, rfl⟩
theorem weighAll_ev (n : Int) : EX ip nv1 (.call F.dendronlaw14_WeighAll [.d (.int .i64 n)] []) = some (.ret (.d (.bool true)) []) := by
  have nw := new_ev
  have aw := awake14_ev
  rw [S_call dendronlaw14_WeighAll.ip rfl]
  by_cases hn : n < 1 ∨ 64 < n
  · have w := allT_bad (c := c0) n hn
    generalize c0 = cz at *
    by_cases h1 : n < 1
    · simp (disch := omega) [dendronlaw14_WeighAll, nw, aw, w, h1]
    · have h2 : 64 < n := by omega
      simp (disch := omega) [dendronlaw14_WeighAll, nw, aw, w, h1, h2]
  · obtain ⟨k, rfl⟩ : ∃ k : Nat, n = (k : Int) := ⟨n.toNat, by omega⟩
    have hk : k ≤ 64 := by omega
    have w := allT_ev (c := c0) (.inl rfl) k (by omega) hk
    have z := zero_ev (nv := nv1)
    have o := rone_ev (nv := nv1)
    obtain ⟨_, _, _, hr, -, rfl, rfl, rfl⟩ := weighAll_loop k hk c1
    rw [aS_all (by omega)] at hr
    have sm := rsame_ev tzOk1 (can 1) (can 1) (can_ok one_b) (can_ok one_b) (by omega) (by omega) (by omega)
    simp only [decide_true] at sm
    have h1 : ¬ (k : Int) < 1 := by omega
    have h2 : ¬ 64 < (k : Int) := by omega
    have hl := wL_len k k
    generalize wL k k = L at *
    generalize can 0 = q0 at *
    generalize can 1 = q1 at *
    generalize c0 = cz at *
    generalize c1 = co at *
    simp (disch := omega) [dendronlaw14_WeighAll, nw, aw, w, z, o, hr, sm, h1, h2, hl]
end Go.Proofs.YtgpaohcnnggepabDoor
