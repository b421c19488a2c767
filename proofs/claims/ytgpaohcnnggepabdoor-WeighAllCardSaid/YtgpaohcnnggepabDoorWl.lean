/- The statements of layer 14, evaluated. -/
import Derived.Test.YtgpaohcnnggepabDoorWk
set_option linter.unusedSimpArgs false
set_option linter.unusedVariables false
namespace Go.Proofs.YtgpaohcnnggepabDoor
open Go Go.Proofs.R
set_option maxRecDepth 10000
theorem wright_z {nv : R.Nv} (n : Nat) (h : (dig n).length ≤ 1099511627776) : EX ip nv (.call F.whole_Right [.d (.ag (zI (n : Int)))] []) = some (.ret (.d (.bool true)) []) := by
  have w := wRight_ev (nv := nv) false (dig n) (by omega)
  rw [rightN_dig] at w
  have e : zI (n : Int) = [.bool false, .sl 1 (us (dig n))] := by
    unfold zI; rw [Int.natAbs_natCast]; simp
  rw [e, w]
  simp
theorem rint_z {nv : R.Nv} (n : Nat) (h : (dig n).length ≤ 1099511627776) : EX ip nv (.call F.ratio_Int [.d (.ag (zI (n : Int)))] []) = some (.ret (.d (.ag (can (n : Rat)).c)) []) := by
  have w := rint_ev (nv := nv) false (dig n) (dig_rw h)
  have e : zI (n : Int) = [.bool false, .sl 1 (us (dig n))] := by
    unfold zI; rw [Int.natAbs_natCast]; simp
  rw [lv_dig] at w
  rw [e, w]
  rfl
theorem weighFacts_ev (n m : Int) : EX ip nv1 (.call F.dendronlaw14_WeighFacts [.d (.int .i64 n), .d (.int .i64 m)] []) = some (.ret (.d (.bool true)) []) := by
  have nw := new_ev
  have aw := awake14_ev
  obtain ⟨v, cc, hc, fm⟩ : ∃ v cc, TS cc ∧ EX ip nv1 (.call F.dendron_weigh_Table_Fact [.ptr 0 0, .d (.int .i64 m)] [(0, ⟨0, true, c0⟩)]) = some (.ret (.tp [.d (.ag v), .d (.int .i64 (if m < 0 ∨ 64 < m then 8 else 0))]) [(0, ⟨0, true, cc⟩)]) := by
    by_cases hm : m < 0 ∨ 64 < m
    · rw [if_pos hm]; exact ⟨_, _, .inl rfl, factT_bad m hm⟩
    · rw [if_neg hm]
      have := factT_ev (c := c0) (.inl rfl) m.toNat (by omega)
      rw [show ((m.toNat : Nat) : Int) = m by omega] at this
      exact ⟨_, _, .inr rfl, this⟩
  generalize (if m < 0 ∨ 64 < m then (8 : Int) else 0) = ee at *
  rw [S_call dendronlaw14_WeighFacts.ip rfl]
  by_cases hn : n < 0 ∨ 64 < n
  · have fn := factT_bad (c := cc) n hn
    generalize c0 = cz at *
    by_cases h1 : n < 0
    · simp (disch := omega) [dendronlaw14_WeighFacts, nw, aw, fm, fn, h1]
    · have h2 : 64 < n := by omega
      simp (disch := omega) [dendronlaw14_WeighFacts, nw, aw, fm, fn, h1, h2]
  · obtain ⟨k, rfl⟩ : ∃ k : Nat, n = (k : Int) := ⟨n.toNat, by omega⟩
    have hk : k ≤ 64 := by omega
    have fn := factT_ev hc k hk
    have wr := wright_z (nv := nv1) (fac k) (Nat.le_trans (fac_len hk) (by decide))
    have ri := rint_z (nv := nv1) (fac k) (Nat.le_trans (fac_len hk) (by decide))
    have f := fact14_ev tzOk1 k hk
    have sm := rsame_ev tzOk1 (can (fq k)) (can (fq k)) (can_ok (fq_b hk)) (can_ok (fq_b hk)) (by omega) (by omega) (by omega)
    simp only [decide_true] at sm
    have h1 : ¬ (k : Int) < 0 := by omega
    have h2 : ¬ 64 < (k : Int) := by omega
    have e : ((fac k : Nat) : Rat) = fq k := rfl
    rw [e] at ri
    clear e
    generalize can (fq k) = q at *
    generalize ((fac k : Nat) : Int) = z at *
    generalize c0 = cz at *
    generalize c1 = co at *
    simp (disch := omega) [dendronlaw14_WeighFacts, nw, aw, fm, fn, h1, h2, wr, ri, f, sm]
theorem weighWeights_ev (s n : Int) : EX ip nv1 (.call F.dendronlaw14_WeighWeights [.d (.int .i64 s), .d (.int .i64 n)] []) = some (.ret (.d (.bool true)) []) := by
  have nw := new_ev
  have aw := awake14_ev
  rw [S_call dendronlaw14_WeighWeights.ip rfl]
  by_cases hn : n < 1 ∨ 64 < n ∨ s < 0 ∨ n ≤ s
  · have w := weightT_bad (c := c0) s n hn
    generalize c0 = cz at *
    by_cases h1 : n < 1
    · simp (disch := omega) [dendronlaw14_WeighWeights, nw, aw, w, h1]
    · by_cases h2 : 64 < n
      · simp (disch := omega) [dendronlaw14_WeighWeights, nw, aw, w, h1, h2]
      · by_cases h3 : s < 0
        · simp (disch := omega) [dendronlaw14_WeighWeights, nw, aw, w, h1, h2, h3]
        · have h4 : n ≤ s := by omega
          simp (disch := omega) [dendronlaw14_WeighWeights, nw, aw, w, h1, h2, h3, h4]
  · obtain ⟨k, rfl⟩ : ∃ k : Nat, n = (k : Int) := ⟨n.toNat, by omega⟩
    obtain ⟨i, rfl⟩ : ∃ i : Nat, s = (i : Int) := ⟨s.toNat, by omega⟩
    have hk : k ≤ 64 := by omega
    have hi : i < k := by omega
    have w := weightT_ev (c := c0) (.inl rfl) i k hi hk
    have f1 := fact14_ev tzOk1 i (by omega)
    have f2 := fact14_ev tzOk1 (k - i - 1) (by omega)
    have f3 := fact14_ev tzOk1 k hk
    have qt := quot14_ev tzOk1 (fq i) (fq (k - i - 1)) (fq k) (fq_b (by omega)) (fq_b (by omega)) (fq_b hk) (fq_ne _) (by omega) (by omega) (by omega) (by omega)
    rw [← wq_fq] at qt
    have is := is14_ev tzOk1 (wq i (k - i - 1) k) (wq i (k - i - 1) k) (wq_b (by omega) (by omega) (by omega)) (wq_b (by omega) (by omega) (by omega)) (by omega) (by omega) (by omega)
    simp only [decide_true] at is
    have h1 : ¬ (k : Int) < 1 := by omega
    have h2 : ¬ 64 < (k : Int) := by omega
    have h3 : ¬ (i : Int) < 0 := by omega
    have h4 : ¬ (k : Int) ≤ (i : Int) := by omega
    have e1 : (k : Int) - (i : Int) - 1 = ((k - i - 1 : Nat) : Int) := by omega
    generalize can (wq i (k - i - 1) k) = q at *
    generalize k - i - 1 = j at *
    generalize can (fq i) = q1 at *
    generalize can (fq k) = q2 at *
    generalize can (fq j) = q3 at *
    generalize c0 = cz at *
    generalize c1 = co at *
    simp (disch := omega) [dendronlaw14_WeighWeights, nw, aw, w, h1, h2, h3, h4, e1, f1, f2, f3, qt, is]
theorem weighPairs_ev (s n : Int) (hr : -9223372036854775808 ≤ n) : EX ip nv1 (.call F.dendronlaw14_WeighPairs [.d (.int .i64 s), .d (.int .i64 n)] []) = some (.ret (.d (.bool true)) []) := by
  have nw := new_ev
  have aw := awake14_ev
  rw [S_call dendronlaw14_WeighPairs.ip rfl]
  by_cases hn : n < 2 ∨ 64 < n ∨ s < 0 ∨ n - 1 ≤ s
  · have w : EX ip nv1 (.call F.dendron_weigh_Table_Pair [.ptr 0 0, .d (.int .i64 s), .d (.int .i64 n)] [(0, ⟨0, true, c0⟩)]) = some (.ret (.tp [.d (.ag [.bool false, .sl 1 [], .sl 1 []]), .d (.int .i64 8)]) [(0, ⟨0, true, c0⟩)]) := by
      by_cases h1 : n < 2
      · rw [S_call dendron_weigh_Table_Pair.ip rfl]
        simp (disch := omega) [dendron_weigh_Table_Pair, h1]
      · exact pairT_bad s n (by omega) (by omega)
    generalize c0 = cz at *
    by_cases h1 : n < 2
    · simp (disch := omega) [dendronlaw14_WeighPairs, nw, aw, w, h1]
    · by_cases h2 : 64 < n
      · simp (disch := omega) [dendronlaw14_WeighPairs, nw, aw, w, h1, h2]
      · by_cases h3 : s < 0
        · simp (disch := omega) [dendronlaw14_WeighPairs, nw, aw, w, h1, h2, h3]
        · have h4 : n - 1 ≤ s := by omega
          simp (disch := omega) [dendronlaw14_WeighPairs, nw, aw, w, h1, h2, h3, h4]
  · obtain ⟨k, rfl⟩ : ∃ k : Nat, n = (k : Int) := ⟨n.toNat, by omega⟩
    obtain ⟨i, rfl⟩ : ∃ i : Nat, s = (i : Int) := ⟨s.toNat, by omega⟩
    have hk : k ≤ 64 := by omega
    have hi : i + 2 ≤ k := by omega
    have w := pairT_ev (c := c0) (.inl rfl) i k hi hk
    have f1 := fact14_ev tzOk1 i (by omega)
    have f2 := fact14_ev tzOk1 (k - i - 2) (by omega)
    have f3 := fact14_ev tzOk1 (k - 1) (by omega)
    have o2 := rof_ev (nv := nv1) 2 (by omega) (by omega)
    have m2 := rmul_ev tzOk1 (can ((2 : Int) : Rat)) (can (fq (k - 1))) (can_ok (of_b (by decide))) (can_ok (fq_b (by omega))) (by omega) (by omega) (by omega)
    rw [can_v, can_v] at m2
    have ne : ((2 : Int) : Rat) * fq (k - 1) ≠ 0 := by
      intro h
      rcases Rat.mul_eq_zero.1 h with h | h
      · exact absurd h (by decide)
      · exact fq_ne _ h
    have qt := quot14_ev tzOk1 (fq i) (fq (k - i - 2)) (((2 : Int) : Rat) * fq (k - 1)) (fq_b (by omega)) (fq_b (by omega)) ((of_b (by decide)).mul (fq_b (by omega))) ne (by omega) (by omega) (by omega) (by omega)
    have e2 : fq i * fq (k - i - 2) / (((2 : Int) : Rat) * fq (k - 1)) = wp i k := by
      unfold wp
      rw [wq_fq, show Rat.divInt 1 2 = ((2 : Int) : Rat)⁻¹ from by decide +kernel, Rat.div_def, Rat.div_def, Rat.inv_mul_rev]
      simp only [Rat.mul_assoc]
    rw [e2] at qt
    have is := is14_ev tzOk1 (wp i k) (wp i k) (wp_b hi hk) (wp_b hi hk) (by omega) (by omega) (by omega)
    simp only [decide_true] at is
    have h1 : ¬ (k : Int) < 2 := by omega
    have h2 : ¬ 64 < (k : Int) := by omega
    have h3 : ¬ (i : Int) < 0 := by omega
    have h4 : ¬ k - 1 ≤ i := by omega
    have e1 : (k : Int) - (i : Int) - 2 = ((k - i - 2 : Nat) : Int) := by omega
    have e3 : (k : Int) - 1 = ((k - 1 : Nat) : Int) := by omega
    clear e2 ne
    generalize can (wp i k) = q at *
    generalize can (((2 : Int) : Rat) * fq (k - 1)) = q5 at *
    generalize k - i - 2 = j at *
    generalize k - 1 = k' at *
    generalize can (fq i) = q1 at *
    generalize can (fq k') = q2 at *
    generalize can (fq j) = q3 at *
    generalize can ((2 : Int) : Rat) = q4 at *
    generalize c0 = cz at *
    generalize c1 = co at *
    simp (disch := omega) [dendronlaw14_WeighPairs, nw, aw, w, h1, h2, h3, h4, e1, e3, f1, f2, f3, o2, m2, qt, is]
theorem weighNobody_ev (s n : Int) : EX ip nv1 (.call F.dendronlaw14_WeighNobody [.d (.int .i64 s), .d (.int .i64 n)] []) = some (.ret (.d (.bool true)) []) := by
  have aw := awake14_ev
  have f : EX ip nv1 (.call F.dendron_weigh_Table_Fact [.d (.raw (.pointer none)), .d (.int .i64 n)] []) = some (.ret (.tp [.d (.ag [.bool false, .sl 1 []]), .d (.int .i64 18)]) []) := by
    rw [S_call dendron_weigh_Table_Fact.ip rfl]
    simp (disch := omega) [dendron_weigh_Table_Fact]
  have w : EX ip nv1 (.call F.dendron_weigh_Table_Weight [.d (.raw (.pointer none)), .d (.int .i64 s), .d (.int .i64 n)] []) = some (.ret (.tp [.d (.ag [.bool false, .sl 1 [], .sl 1 []]), .d (.int .i64 18)]) []) := by
    rw [S_call dendron_weigh_Table_Weight.ip rfl]
    simp (disch := omega) [dendron_weigh_Table_Weight]
  have p : EX ip nv1 (.call F.dendron_weigh_Table_Pair [.d (.raw (.pointer none)), .d (.int .i64 s), .d (.int .i64 n)] []) = some (.ret (.tp [.d (.ag [.bool false, .sl 1 [], .sl 1 []]), .d (.int .i64 18)]) []) := by
    rw [S_call dendron_weigh_Table_Pair.ip rfl]
    simp (disch := omega) [dendron_weigh_Table_Pair]
  have d : EX ip nv1 (.call F.dendron_weigh_Table_Need [.d (.raw (.pointer none)), .d (.int .i64 s), .d (.int .i64 n)] []) = some (.ret (.tp [.d (.ag [.bool false, .sl 1 [], .sl 1 []]), .d (.ag [.bool false, .sl 1 [], .sl 1 []]), .d (.int .i64 18)]) []) := by
    rw [S_call dendron_weigh_Table_Need.ip rfl]
    simp (disch := omega) [dendron_weigh_Table_Need]
  have a : EX ip nv1 (.call F.dendron_weigh_Table_All [.d (.raw (.pointer none)), .d (.int .i64 n)] []) = some (.ret (.tp [.d (.sl 3 []), .d (.int .i64 18)]) []) := by
    rw [S_call dendron_weigh_Table_All.ip rfl]
    simp (disch := omega) [dendron_weigh_Table_All]
  rw [S_call dendronlaw14_WeighNobody.ip rfl]
  simp (disch := omega) [dendronlaw14_WeighNobody, f, w, p, d, a, aw]
end Go.Proofs.YtgpaohcnnggepabDoor
