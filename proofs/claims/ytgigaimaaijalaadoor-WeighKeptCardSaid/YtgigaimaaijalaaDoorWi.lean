/- The table's answers: New, quotient, Weight, All. -/
import Derived.Test.YtgigaimaaijalaaDoorWh
import Derived.Test.YtgigaimaaijalaaDoorRf
import Derived.Test.YtgigaimaaijalaaDoorRg
set_option linter.unusedSimpArgs false
set_option linter.unusedVariables false
namespace Go.Proofs.YtgigaimaaijalaaDoor
open Go Go.Proofs.R
set_option maxRecDepth 10000
/-- The cells of a table: new; with its products. -/
def c0 : List D := [.int .u32 0, .int .i32 0, .int .u32 0, .sl 2 []]
def c1 : List D := [.int .u32 1, .int .i32 0, .int .u32 0, .sl 2 facD]
def TS (c : List D) : Prop := c = c0 ∨ c = c1
theorem at_h {c : List D} (h : TS c) (n : Nat) (hn : n ≤ 64) (H : Mem) : EX ip nv1 (.call F.dendron_weigh_Table_at [.ptr 0 0, .d (.int .i64 (n : Int))] ((0, ⟨0, true, c⟩) :: H)) = some (.ret (.d (.ag (zI ((fac n : Nat) : Int)))) ((0, ⟨0, true, c1⟩) :: H)) := by
  rw [EX_nat (by rfl)]
  have : nv1 F.dendron_weigh_Table_at [.ptr 0 0, .d (.int .i64 (n : Int))] ((0, ⟨0, true, c⟩) :: H) = some (.d (.ag (zI ((fac n : Nat) : Int))), (0, ⟨0, true, c1⟩) :: H) := by
    rcases h with rfl | rfl
    · exact nv1_at ⟨n, .int .u32 0, .sl 2 [], 0, H, hn, rfl, rfl, .inl rfl, rfl⟩
    · exact nv1_at ⟨n, .int .u32 0, .sl 2 facD, 1, H, hn, rfl, rfl, .inr ⟨rfl, rfl⟩, rfl⟩
  rw [this]; rfl
theorem at_ev {c : List D} (h : TS c) (n : Nat) (hn : n ≤ 64) : EX ip nv1 (.call F.dendron_weigh_Table_at [.ptr 0 0, .d (.int .i64 (n : Int))] [(0, ⟨0, true, c⟩)]) = some (.ret (.d (.ag (zI ((fac n : Nat) : Int)))) [(0, ⟨0, true, c1⟩)]) := at_h h n hn []
theorem new_ev : EX ip nv1 (.call F.weigh_New [] []) = some (.ret (.ptr 2 0) [(2, ⟨0, false, c0⟩)]) := by
  rw [S_call weigh_New.ip rfl]
  simp [weigh_New, c0]
/-- A product of two factorials, divided by a third one. -/
def wq (a b c : Nat) : Rat := Rat.divInt (((fac a : Nat) : Int) * ((fac b : Nat) : Int)) ((fac c : Nat) : Int)
theorem Bq.divI' {a b : Int} {k : Nat} (ha : a.natAbs < pw k) (hb : b.natAbs < pw k) (h0 : b ≠ 0) : Bq k (Rat.divInt a b) := by
  cases b with
  | ofNat m => exact Bq.mkR ha hb (by intro h; subst h; exact h0 rfl)
  | negSucc m =>
    have e : Rat.divInt a (Int.negSucc m) = mkRat (-a) (m + 1) := Rat.normalize_eq_mkRat (Nat.succ_ne_zero m)
    rw [e]
    exact Bq.mkR (by rw [Int.natAbs_neg]; exact ha) hb (by omega)
theorem wq_b {a b c : Nat} (ha : a ≤ 64) (hb : b ≤ 64) (hc : c ≤ 64) : Bq 20 (wq a b c) := by
  refine Bq.divI' ?_ ?_ ?_
  · rw [Int.natAbs_mul, Int.natAbs_natCast, Int.natAbs_natCast]
    exact pw_mul_lt (j := 10) (k := 10) (fac_pw ha) (fac_pw hb)
  · rw [Int.natAbs_natCast]
    exact Nat.lt_of_lt_of_le (fac_pw hc) (pw_le (by omega))
  · have := fac_pos c; omega
theorem nrefL_zI (z : Int) : nrefL (zI z) = true := by simp [zI, nrefL, nref]
theorem quotT_ev {c : List D} (h : TS c) (x y z : Nat) (hx : x ≤ 64) (hy : y ≤ 64) (hz : z ≤ 64) : EX ip nv1 (.call F.dendron_weigh_Table_quotient [.ptr 0 0, .d (.int .i64 (x : Int)), .d (.int .i64 (y : Int)), .d (.int .i64 (z : Int))] [(0, ⟨0, true, c⟩)]) = some (.ret (.d (.ag (can (wq x y z)).c)) [(0, ⟨0, true, c1⟩)]) := by
  rw [S_call dendron_weigh_Table_quotient.ip rfl]
  have a1 := at_ev h x hx
  have a2 := at_ev (.inr rfl) y hy
  have a3 := at_ev (.inr rfl) z hz
  have ml := wmul_z (nv := nv1) ((fac x : Nat) : Int) ((fac y : Nat) : Int) (Nat.le_trans (fac_len' hx) (by decide)) (Nat.le_trans (fac_len' hy) (by decide))
  have mk : EX ip nv1 (.call F.ratio_Make [.d (.ag (zI (((fac x : Nat) : Int) * ((fac y : Nat) : Int)))), .d (.ag (zI ((fac z : Nat) : Int)))] []) = some (.ret (.tp [.d (.ag (can (wq x y z)).c), .d (.int .i64 0)]) []) := by
    have := rmake_c tzOk1 (((fac x : Nat) : Int) * ((fac y : Nat) : Int)) ((fac z : Nat) : Int) (k := 20) (by
      rw [Int.natAbs_mul, Int.natAbs_natCast, Int.natAbs_natCast]
      exact dig_len_le.2 (pw_mul_lt (j := 10) (k := 10) (fac_pw hx) (fac_pw hy))) (Nat.le_trans (fac_len' hz) (by decide)) (by decide)
    rw [if_neg (by have := fac_pos z; omega)] at this
    exact this
  have m0 := nrefL_zI (((fac x : Nat) : Int) * ((fac y : Nat) : Int))
  have m1 := nrefL_zI ((fac x : Nat) : Int)
  have m2 := nrefL_zI ((fac y : Nat) : Int)
  have m3 := nrefL_zI ((fac z : Nat) : Int)
  generalize can (wq x y z) = q at *
  generalize zI (((fac x : Nat) : Int) * ((fac y : Nat) : Int)) = p at *
  generalize zI ((fac x : Nat) : Int) = p1 at *
  generalize zI ((fac y : Nat) : Int) = p2 at *
  generalize zI ((fac z : Nat) : Int) = p3 at *
  generalize c1 = cc at *
  have hpn : hpart [] = [] := rfl
  have hnn : npart [] = [] := rfl
  first
  | (simp (disch := omega) [dendron_weigh_Table_quotient, a1, a2, a3, ml, mk]; done)
  | (simp (disch := omega) [dendron_weigh_Table_quotient, a1, a2, a3, ml, mk, hpart_cons, npart_cons, hpn, hnn, m0, m1, m2, m3, nref]; done)
theorem weightT_bad {c : List D} (s n : Int) (h : n < 1 ∨ 64 < n ∨ s < 0 ∨ n ≤ s) : EX ip nv1 (.call F.dendron_weigh_Table_Weight [.ptr 0 0, .d (.int .i64 s), .d (.int .i64 n)] [(0, ⟨0, true, c⟩)]) = some (.ret (.tp [.d (.ag [.bool false, .sl 1 [], .sl 1 []]), .d (.int .i64 8)]) [(0, ⟨0, true, c⟩)]) := by
  rw [S_call dendron_weigh_Table_Weight.ip rfl]
  by_cases h1 : n < 1
  · simp (disch := omega) [dendron_weigh_Table_Weight, h1]
  · by_cases h2 : 64 < n
    · simp (disch := omega) [dendron_weigh_Table_Weight, h1, h2]
    · by_cases h3 : s < 0
      · simp (disch := omega) [dendron_weigh_Table_Weight, h1, h2, h3]
      · have h4 : n ≤ s := by omega
        simp (disch := omega) [dendron_weigh_Table_Weight, h1, h2, h3, h4]
theorem weightT_ev {c : List D} (h : TS c) (s n : Nat) (hs : s < n) (hn : n ≤ 64) : EX ip nv1 (.call F.dendron_weigh_Table_Weight [.ptr 0 0, .d (.int .i64 (s : Int)), .d (.int .i64 (n : Int))] [(0, ⟨0, true, c⟩)]) = some (.ret (.tp [.d (.ag (can (wq s (n - s - 1) n)).c), .d (.int .i64 0)]) [(0, ⟨0, true, c1⟩)]) := by
  rw [S_call dendron_weigh_Table_Weight.ip rfl]
  have a1 := quotT_ev h s (n - s - 1) n (by omega) (by omega) hn
  have e1 : (n : Int) - (s : Int) - 1 = ((n - s - 1 : Nat) : Int) := by omega
  have h1 : ¬ (n : Int) < 1 := by omega
  have h2 : ¬ 64 < (n : Int) := by omega
  have h3 : ¬ (s : Int) < 0 := by omega
  have h4 : ¬ (n : Int) ≤ (s : Int) := by omega
  generalize can (wq s (n - s - 1) n) = q at *
  generalize n - s - 1 = m at *
  generalize c1 = cc at *
  simp (disch := omega) [dendron_weigh_Table_Weight, h1, h2, h3, h4, a1, e1]
/-- The weights for one of n players. -/
def wL (n k : Nat) : List RQ := (List.range k).map fun s => can (wq s (n - s - 1) n)
@[simp] theorem wL_len (n k : Nat) : (wL n k).length = k := by simp [wL]
theorem wL_succ (n k : Nat) : wL n (k + 1) = wL n k ++ [can (wq k (n - k - 1) n)] := by simp [wL, List.range_succ]
theorem wL_ix {n k s : Nat} (h : s < k) : ix (wL n k) s = can (wq s (n - s - 1) n) := by simp [ix, wL, h]
end Go.Proofs.YtgigaimaaijalaaDoor
