/- The table's answers: Fact, Pair, Need. -/
import Derived.Test.YtgigaimaaijalaaDoorWi
set_option linter.unusedSimpArgs false
set_option linter.unusedVariables false
namespace Go.Proofs.YtgigaimaaijalaaDoor
open Go Go.Proofs.R
set_option maxRecDepth 10000
theorem wclean_z (z : Int) (h : (dig z.natAbs).length ≤ 1099511627776) : EX ip nv1 (.call F.whole_Clean [.d (.ag (zI z))] []) = some (.ret (.d (.ag (zI z))) []) := wclean_c z h
/-- A pair's weight. -/
def wp (s n : Nat) : Rat := wq s (n - s - 2) (n - 1) * Rat.divInt 1 2
theorem half_b : Bq 1 (Rat.divInt 1 2) := Bq.divI' (by simp [pw]) (by simp [pw]) (by omega)
theorem wp_b {s n : Nat} (hs : s + 2 ≤ n) (hn : n ≤ 64) : Bq 21 (wp s n) := (wq_b (by omega) (by omega) (by omega)).mul half_b
theorem needT_bad {c : List D} (a b : Int) (h : a < 0 ∨ b < 0 ∨ 64 < a ∨ 64 - a < b) : EX ip nv1 (.call F.dendron_weigh_Table_Need [.ptr 0 0, .d (.int .i64 a), .d (.int .i64 b)] [(0, ⟨0, true, c⟩)]) = some (.ret (.tp [.d (.ag [.bool false, .sl 1 [], .sl 1 []]), .d (.ag [.bool false, .sl 1 [], .sl 1 []]), .d (.int .i64 8)]) [(0, ⟨0, true, c⟩)]) := by
  rw [S_call dendron_weigh_Table_Need.ip rfl]
  by_cases h1 : a < 0
  · simp (disch := omega) [dendron_weigh_Table_Need, h1]
  · by_cases h2 : b < 0
    · simp (disch := omega) [dendron_weigh_Table_Need, h1, h2]
    · by_cases h3 : 64 < a
      · simp (disch := omega) [dendron_weigh_Table_Need, h1, h2, h3]
      · have h4 : 64 - a < b := by omega
        simp (disch := omega) [dendron_weigh_Table_Need, h1, h2, h3, h4]
/-- What one gets of 1 that is there if all of some are in and none of others. -/
def nx (a b : Nat) : Rat := if a = 0 then 0 else wq (a - 1) b (a + b)
def ny (a b : Nat) : Rat := if b = 0 then 0 else -(wq a (b - 1) (a + b))
theorem nx_b {a b : Nat} (h : a + b ≤ 64) : Bq 20 (nx a b) := by
  unfold nx
  split
  · exact Bq.zero.mono (by omega)
  · exact wq_b (by omega) (by omega) (by omega)
theorem ny_b {a b : Nat} (h : a + b ≤ 64) : Bq 20 (ny a b) := by
  unfold ny
  split
  · exact Bq.zero.mono (by omega)
  · exact (wq_b (by omega) (by omega) (by omega)).neg
theorem needT_ev {c : List D} (h : TS c) (a b : Nat) (hab : a + b ≤ 64) : ∃ cc, TS cc ∧ EX ip nv1 (.call F.dendron_weigh_Table_Need [.ptr 0 0, .d (.int .i64 (a : Int)), .d (.int .i64 (b : Int))] [(0, ⟨0, true, c⟩)]) = some (.ret (.tp [.d (.ag (can (nx a b)).c), .d (.ag (can (ny a b)).c), .d (.int .i64 0)]) [(0, ⟨0, true, cc⟩)]) := by
  have h1 : ¬ (a : Int) < 0 := by omega
  have h2 : ¬ (b : Int) < 0 := by omega
  have h3 : ¬ 64 < (a : Int) := by omega
  have h4 : ¬ 64 - (a : Int) < (b : Int) := by omega
  have z := zero_ev (nv := nv1)
  have e3 : (a : Int) + (b : Int) = ((a + b : Nat) : Int) := by omega
  by_cases ha : a = 0
  · subst ha
    by_cases hb : b = 0
    · subst hb
      refine ⟨c, h, ?_⟩
      rw [S_call dendron_weigh_Table_Need.ip rfl]
      simp only [nx, ny, if_true]
      generalize can 0 = q at *
      simp (disch := omega) [dendron_weigh_Table_Need, z]
    · refine ⟨c1, .inr rfl, ?_⟩
      rw [S_call dendron_weigh_Table_Need.ip rfl]
      have q2 := quotT_ev h 0 (b - 1) (0 + b) (by omega) (by omega) (by omega)
      have n2 := rneg_ev tzOk1 (can (wq 0 (b - 1) (0 + b))) (can_ok (wq_b (by omega) (by omega) (by omega))) (by omega) (by omega)
      rw [can_v] at n2
      have e2 : (b : Int) - 1 = ((b - 1 : Nat) : Int) := by omega
      have b0 : 0 < b := by omega
      have h5 : ¬ 64 < (b : Int) := by omega
      simp only [nx, ny, if_true, if_neg hb]
      generalize can (-wq 0 (b - 1) (0 + b)) = q at *
      generalize can (wq 0 (b - 1) (0 + b)) = q' at *
      generalize can 0 = q0 at *
      generalize c1 = cc at *
      generalize b - 1 = b' at *
      rw [Nat.zero_add, show ((0 : Nat) : Int) = 0 from rfl] at q2
      simp (disch := omega) [dendron_weigh_Table_Need, z, q2, n2, e2, h2, h5, b0]
  · have q1 := quotT_ev h (a - 1) b (a + b) (by omega) (by omega) (by omega)
    have e1 : (a : Int) - 1 = ((a - 1 : Nat) : Int) := by omega
    have a0 : 0 < a := by omega
    by_cases hb : b = 0
    · subst hb
      refine ⟨c1, .inr rfl, ?_⟩
      rw [S_call dendron_weigh_Table_Need.ip rfl]
      simp only [nx, ny, if_true, if_neg ha]
      generalize can (wq (a - 1) 0 (a + 0)) = q at *
      generalize can 0 = q0 at *
      generalize c1 = cc at *
      generalize a - 1 = a' at *
      rw [Nat.add_zero, show ((0 : Nat) : Int) = 0 from rfl] at q1
      have h6 : ¬ 64 - (a : Int) < 0 := by omega
      simp (disch := omega) [dendron_weigh_Table_Need, z, q1, e1, h1, h3, h6, a0]
    · have q2 := quotT_ev (.inr rfl) a (b - 1) (a + b) (by omega) (by omega) (by omega)
      have n2 := rneg_ev tzOk1 (can (wq a (b - 1) (a + b))) (can_ok (wq_b (by omega) (by omega) (by omega))) (by omega) (by omega)
      rw [can_v] at n2
      have e2 : (b : Int) - 1 = ((b - 1 : Nat) : Int) := by omega
      have b0 : 0 < b := by omega
      have h5 : ¬ 64 < (b : Int) := by omega
      refine ⟨c1, .inr rfl, ?_⟩
      rw [S_call dendron_weigh_Table_Need.ip rfl]
      simp only [nx, ny, if_neg ha, if_neg hb]
      generalize can (-wq a (b - 1) (a + b)) = q at *
      generalize can (wq a (b - 1) (a + b)) = q' at *
      generalize can (wq (a - 1) b (a + b)) = q'' at *
      generalize can 0 = q0 at *
      generalize c1 = cc at *
      generalize a + b = ab at *
      generalize b - 1 = b' at *
      generalize a - 1 = a' at *
      simp (disch := omega) [dendron_weigh_Table_Need, z, q1, q2, n2, e1, e2, e3, h1, h2, h3, h4, a0, b0]
end Go.Proofs.YtgigaimaaijalaaDoor
