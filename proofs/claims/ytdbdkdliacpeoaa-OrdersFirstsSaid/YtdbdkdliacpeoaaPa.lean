/- What the first order of so many players is, and that the law says so. -/
import Derived.Test.YtdbdkdliacpeoaaIr
namespace Go.Proofs.Ytdbdkdliacpeoaa
open Go Go.Proofs.R
def nv : R.Nv := fun _ _ _ => none
set_option maxRecDepth 10000
theorem awake_ev : EX ip nv (.call F.dendronlaw21_awake [] []) = some (.ret (.d (.bool true)) []) := (EX_some ip nv).2 ⟨1000, by kernel_rfl⟩
/-- The first numbers. -/
def iota (n : Nat) : List D := (List.range n).map fun j => .int .i64 (j : Nat)
theorem iota_succ (n : Nat) : iota (n + 1) = iota n ++ [.int .i64 (n : Nat)] := by simp [iota, List.range_succ]
theorem iota_len (n : Nat) : (iota n).length = n := by simp [iota]
theorem first_body (n i : Nat) (hn : n ≤ 1000) (hi : i < n) : EX ip nv (.code orders_First.b0 [(3, .own 3 1 0 i), (5, .d (.int .i64 n)), (6, .d (.int .i64 i))] [(3, ⟨0, false, iota i⟩)]) =
    some (.st .normal [(3, .own 3 1 0 (i + 1)), (5, .d (.int .i64 n)), (6, .d (.int .i64 ((i + 1 : Nat) : Int)))] [(3, ⟨0, false, iota (i + 1)⟩)]) := by
  have hlt : (i : Int) < n := by omega
  have hw : IntKind.i64.wrap ((i : Int) + 1) = ((i + 1 : Nat) : Int) := by rw [i64_wrap] <;> omega
  have hb : (i + 1) * 8 ≤ 70368744177664 := by omega
  have ht : List.take i (iota i) = iota i := List.take_of_length_le (by simp [iota_len])
  simp [orders_First.b0, hlt, hw, hb, iota_len, ht, iota_succ]
theorem first_loop (n : Nat) (hn : n ≤ 1000) : ∀ k i : Nat, i + k = n →
    EX ip nv (.code (.loop [] [] orders_First.b0) [(3, .own 3 1 0 i), (5, .d (.int .i64 n)), (6, .d (.int .i64 i))] [(3, ⟨0, false, iota i⟩)]) =
      some (.st (.exit 0) [(3, .own 3 1 0 n), (5, .d (.int .i64 n)), (6, .d (.int .i64 n)), (7, .d (.bool false))] [(3, ⟨0, false, iota n⟩)])
  | 0, i, h => by
    obtain rfl : i = n := by omega
    rw [R_loop]
    simp [orders_First.b0]
  | k + 1, i, h => by
    rw [R_loop]
    simp only [killT_nil, killB, first_body n i hn (by omega)]
    exact first_loop n hn k (i + 1) (by omega)
theorem first_neg (n : Int) (hn : n < 0) : EX ip nv (.code (.loop [] [] orders_First.b0) [(3, .own 3 1 0 0), (5, .d (.int .i64 n)), (6, .d (.int .i64 0))] [(3, ⟨0, false, []⟩)]) =
      some (.st (.exit 0) [(3, .own 3 1 0 0), (5, .d (.int .i64 n)), (6, .d (.int .i64 0)), (7, .d (.bool false))] [(3, ⟨0, false, []⟩)]) := by
  rw [R_loop]
  have : ¬ (0 : Int) < n := by omega
  simp [orders_First.b0, this]
theorem first_ev (n : Int) (hn : n ≤ 1000) : EX ip nv (.call F.orders_First [.d (.int .i64 n)] []) = some (.ret (.d (.sl 1 (iota n.toNat))) []) := by
  rw [S_call orders_First.ip rfl]
  by_cases h : 0 ≤ n
  · obtain ⟨m, rfl⟩ := Int.eq_ofNat_of_zero_le h
    have := first_loop m (by omega) m 0 (by omega)
    simp only [Int.natCast_zero, show iota 0 = [] from rfl] at this
    have ht : List.take m (iota m) = iota m := List.take_of_length_le (by simp [iota_len])
    simp [orders_First, this, iota_len, ht]
  · have h0 : n.toNat = 0 := by omega
    simp [orders_First, first_neg n (by omega), h0, iota]
theorem iota_get (n i : Nat) (h : i < n) : (iota n)[i]? = some (.int .i64 (i : Nat)) := by simp [iota, h]
theorem firsts_body (n i : Nat) (hn : n ≤ 1000) (hi : i < n) : EX ip nv (.code dendronlaw21_OrdersFirsts.b0 [(0, .d (.int .i64 n)), (3, .d (.sl 1 (iota n))), (4, .d (.int .i64 i))] []) =
    some (.st .normal [(0, .d (.int .i64 n)), (3, .d (.sl 1 (iota n))), (4, .d (.int .i64 ((i + 1 : Nat) : Int)))] []) := by
  have hlt : (i : Int) < n := by omega
  have hw : IntKind.i64.wrap ((i : Int) + 1) = ((i + 1 : Nat) : Int) := by rw [i64_wrap] <;> omega
  have hle : i + 1 ≤ n := hi
  simp [dendronlaw21_OrdersFirsts.b0, hlt, hw, iota_len, iota_get n i hi, hle]
theorem firsts_loop (n : Nat) (hn : n ≤ 1000) : ∀ k i : Nat, i + k = n →
    EX ip nv (.code (.loop [] [] dendronlaw21_OrdersFirsts.b0) [(0, .d (.int .i64 n)), (3, .d (.sl 1 (iota n))), (4, .d (.int .i64 i))] []) =
      some (.st (.exit 0) [(0, .d (.int .i64 n)), (3, .d (.sl 1 (iota n))), (4, .d (.int .i64 n)), (13, .d (.bool false))] [])
  | 0, i, h => by
    obtain rfl : i = n := by omega
    rw [R_loop]
    simp [dendronlaw21_OrdersFirsts.b0, iota_len]
  | k + 1, i, h => by
    rw [R_loop]
    simp only [killT_nil, killB, firsts_body n i hn (by omega)]
    exact firsts_loop n hn k (i + 1) (by omega)
theorem firsts_neg (n : Int) : EX ip nv (.code (.loop [] [] dendronlaw21_OrdersFirsts.b0) [(0, .d (.int .i64 n)), (3, .d (.sl 1 [])), (4, .d (.int .i64 0))] []) =
      some (.st (.exit 0) [(0, .d (.int .i64 n)), (3, .d (.sl 1 [])), (4, .d (.int .i64 0)), (13, .d (.bool false))] []) := by
  rw [R_loop]
  simp [dendronlaw21_OrdersFirsts.b0]
theorem firsts_ev (n : Int) : EX ip nv (.call F.dendronlaw21_OrdersFirsts [.d (.int .i64 n)] []) = some (.ret (.d (.bool true)) []) := by
  rw [S_call dendronlaw21_OrdersFirsts.ip rfl]
  by_cases hb : 100 < n
  · simp [dendronlaw21_OrdersFirsts, hb, awake_ev]
  · by_cases h : 0 ≤ n
    · obtain ⟨m, rfl⟩ := Int.eq_ofNat_of_zero_le h
      have h1 := firsts_loop m (by omega) m 0 (by omega)
      have h2 := first_ev m (by omega)
      simp only [Int.natCast_zero, Int.toNat_natCast] at h1 h2
      simp [dendronlaw21_OrdersFirsts, hb, h2, h1, iota_len, awake_ev]
    · have h0 : n.toNat = 0 := by omega
      have h2 := first_ev n (by omega)
      simp only [h0, show iota 0 = [] from rfl] at h2
      have hne : ¬ (0 : Int) = n := by omega
      have hlt : n < 0 := by omega
      simp [dendronlaw21_OrdersFirsts, hb, awake_ev, h2, firsts_neg, hne, hlt]
end Go.Proofs.Ytdbdkdliacpeoaa
