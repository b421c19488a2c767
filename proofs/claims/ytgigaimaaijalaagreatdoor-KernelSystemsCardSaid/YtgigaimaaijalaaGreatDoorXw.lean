/- The kernel's weights. -/
import Derived.Test.YtgigaimaaijalaaGreatDoorOb
set_option linter.unusedSimpArgs false
set_option linter.unusedVariables false
namespace Go.Proofs.YtgigaimaaijalaaGreatDoor
open Go Go.Proofs.R
set_option maxRecDepth 10000
section
variable {nv : R.Nv}
/-- The product rule of choices. -/
def chN (n : Nat) : Nat → Nat
  | 0 => 1
  | i + 1 => chN n i * (n - i) / (i + 1)
theorem chN_ok : ∀ n : Fin 65, ∀ i : Fin 33, 2 * i.val ≤ n.val → 0 < chN n i ∧ chN n i < 18446744073709551616 := by decide +kernel
theorem chN_pos {n i : Nat} (hn : n ≤ 64) (hi : 2 * i ≤ n) : 0 < chN n i := (chN_ok ⟨n, by omega⟩ ⟨i, by omega⟩ hi).1
theorem chN_lt {n i : Nat} (hn : n ≤ 64) (hi : 2 * i ≤ n) : chN n i < 18446744073709551616 := (chN_ok ⟨n, by omega⟩ ⟨i, by omega⟩ hi).2
theorem dig_len64 {n : Nat} (h : n < 18446744073709551616) : (dig n).length ≤ 2 := dig_len_le.2 (by simp only [pw]; omega)
theorem choose_loop (n m : Nat) (hn : n ≤ 64) (hm : 2 * m ≤ n) :
    ∃ x e μ, EX ip nv (.code (.loop [] [] whole_Choose.b0) [(0, .d (.int .i64 (n : Int))), (4, .ptr 4 0), (6, .d (.sl 1 (us [1]))), (28, .d (.int .i64 (m : Int))), (29, .d (.int .i64 0))] [(4, ⟨0, true, [.bool false, .sl 1 []]⟩)]) = some (.st x e μ) ∧ x ≠ .normal ∧
    x = .exit 0 ∧ e = [(0, .d (.int .i64 (n : Int))), (4, .ptr 4 0), (6, .d (.sl 1 (us (dig (chN n m))))), (28, .d (.int .i64 (m : Int))), (29, .d (.int .i64 (m : Int))), (30, .d (.bool false))] ∧ μ = [(4, ⟨0, true, [.bool false, .sl 1 []]⟩)] := by
  refine loop_n m (fun i e μ => e = [(0, .d (.int .i64 (n : Int))), (4, .ptr 4 0), (6, .d (.sl 1 (us (dig (chN n i))))), (28, .d (.int .i64 (m : Int))), (29, .d (.int .i64 (i : Int)))] ∧ μ = [(4, ⟨0, true, [.bool false, .sl 1 []]⟩)]) ?_ ?_ ⟨by rw [chN, dig_one]; rfl, rfl⟩
  · rintro i e μ hi ⟨rfl, rfl⟩
    refine .inl ⟨_, _, ?_, rfl, rfl⟩
    have hp := chN_lt (n := n) (i := i) hn (by omega)
    have l1 := dig_len64 hp
    have o1 := of_ev (nv := nv) (n - i) (by omega)
    have l2 := dig_len64 (n := n - i) (by omega)
    have o2 := of_ev (nv := nv) (i + 1) (by omega)
    have l3 := dig_len64 (n := i + 1) (by omega)
    have mu := mul_ev (nv := nv) (dig (chN n i)) (dig (n - i)) (dig_rw (by omega)) (dig_rw (by omega))
    rw [lv_dig, lv_dig] at mu
    have l4 := len_mul l1 l2
    have dv := divmod_ev (nv := nv) (dig (chN n i * (n - i))) (dig (i + 1)) (dig_rw (by omega)) (dig_rw (by omega)) (by omega)
    rw [lv_dig, lv_dig, if_neg (by omega)] at dv
    rw [chN]
    generalize chN n i = p at *
    generalize p * (n - i) = q at *
    have e1 : ((n : Int) - (i : Int)).toNat = n - i := by omega
    have e2 : ((i : Int) + 1).toNat = i + 1 := by omega
    generalize q / (i + 1) = q1 at *
    generalize q % (i + 1) = q2 at *
    simp (disch := omega) [whole_Choose.b0, hi, e1, e2, o1, o2, mu, dv]
  · rintro e μ ⟨rfl, rfl⟩
    exact ⟨.exit 0, [(0, .d (.int .i64 (n : Int))), (4, .ptr 4 0), (6, .d (.sl 1 (us (dig (chN n m))))), (28, .d (.int .i64 (m : Int))), (29, .d (.int .i64 (m : Int))), (30, .d (.bool false))], [(4, ⟨0, true, [.bool false, .sl 1 []]⟩)], by simp [whole_Choose.b0], by simp, rfl, rfl, rfl⟩
theorem choose_ev (n k : Nat) (hn : n ≤ 64) (hk : k ≤ n) : EX ip nv (.call F.whole_Choose [.d (.int .i64 (n : Int)), .d (.int .i64 (k : Int))] []) = some (.ret (.tp [.d (.ag (zI ((chN n (min k (n - k)) : Nat) : Int))), .d (.int .i64 0)]) []) := by
  rw [S_call whole_Choose.ip rfl]
  have o := one_ev (nv := nv)
  have h1 : ¬ ((n : Int) < 0) := by omega
  have h2 : ¬ ((4096 : Int) < (n : Int)) := by omega
  have h3 : ¬ ((k : Int) < 0) := by omega
  have h4 : ¬ ((n : Int) < (k : Int)) := by omega
  obtain ⟨_, _, _, hr, -, rfl, rfl, rfl⟩ := choose_loop (nv := nv) n (min k (n - k)) hn (by omega)
  have s := wsign_ev (nv := nv) false (chN n (min k (n - k)))
  have e : zs false (chN n (min k (n - k))) = ((chN n (min k (n - k)) : Nat) : Int) := by simp [zs]
  rw [e] at s
  have e1 : (if (n : Int) - (k : Int) < (k : Int) then (n : Int) - (k : Int) else (k : Int)) = ((min k (n - k) : Nat) : Int) := by split <;> omega
  generalize chN n (min k (n - k)) = c at *
  generalize min k (n - k) = m at *
  simp only [zI] at s ⊢
  simp (disch := omega) [whole_Choose, o, h1, h2, h3, h4, e1, hr, s]
/-- The kernel's weight. -/
def kwt (k n : Nat) : Rat := Rat.divInt ((n : Int) - 1) (((chN n (min k (n - k)) : Nat) : Int) * ((k : Int) * ((n : Int) - (k : Int))))
theorem kden {k n : Nat} (h1 : 1 ≤ k) (h2 : k < n) (hn : n ≤ 64) : ((chN n (min k (n - k)) : Nat) : Int) * ((k : Int) * ((n : Int) - (k : Int))) ≠ 0 := by
  have := chN_pos (n := n) (i := min k (n - k)) hn (by omega)
  exact Int.mul_ne_zero (by omega) (Int.mul_ne_zero (by omega) (by omega))
theorem kprod {k n : Nat} (h1 : 1 ≤ k) (h2 : k < n) (hn : n ≤ 64) : 0 ≤ (k : Int) * ((n : Int) - (k : Int)) ∧ (k : Int) * ((n : Int) - (k : Int)) ≤ 4096 := by
  have h3 : (0 : Int) ≤ (n : Int) - (k : Int) := by omega
  refine ⟨Int.mul_nonneg (by omega) h3, ?_⟩
  have : (k : Int) * ((n : Int) - (k : Int)) ≤ 64 * 64 := Int.mul_le_mul (by omega) (by omega) h3 (by omega)
  omega
theorem dig_lenI {z : Int} (h1 : -9223372036854775808 ≤ z) (h2 : z ≤ 9223372036854775807) : (dig z.natAbs).length ≤ 2 := dig_len_le.2 (by simp only [pw]; omega)
theorem kweight_ev (hz : TzOk nv) {k n : Nat} (h1 : 1 ≤ k) (h2 : k < n) (hn : n ≤ 64) : EX ip nv (.call F.kernel_Weight [.d (.int .i64 (k : Int)), .d (.int .i64 (n : Int))] []) = some (.ret (.tp [.d (.ag (can (kwt k n)).c), .d (.int .i64 0)]) []) := by
  rw [S_call kernel_Weight.ip rfl]
  have c := choose_ev (nv := nv) n k hn (by omega)
  have p := kprod h1 h2 hn
  have d0 := kden h1 h2 hn
  have cp := chN_lt (n := n) (i := min k (n - k)) hn (by omega)
  have lc : (dig (((chN n (min k (n - k)) : Nat) : Int)).natAbs).length ≤ 2 := by rw [Int.natAbs_natCast]; exact dig_len64 cp
  have w1 := wOf_ev (nv := nv) ((n : Int) - 1) (by omega) (by omega)
  have w2 := wOf_ev (nv := nv) ((k : Int) * ((n : Int) - (k : Int))) (by omega) (by omega)
  have l1 := dig_lenI (z := (n : Int) - 1) (by omega) (by omega)
  have l2 := dig_lenI (z := (k : Int) * ((n : Int) - (k : Int))) (by omega) (by omega)
  have l3 : (dig (((chN n (min k (n - k)) : Nat) : Int) * ((k : Int) * ((n : Int) - (k : Int)))).natAbs).length ≤ 4 := by rw [Int.natAbs_mul]; exact len_mul lc l2
  have mu := wMul_c (nv := nv) ((chN n (min k (n - k)) : Nat) : Int) ((k : Int) * ((n : Int) - (k : Int))) (by omega) (by omega)
  have mk := rmake_c hz ((n : Int) - 1) (((chN n (min k (n - k)) : Nat) : Int) * ((k : Int) * ((n : Int) - (k : Int)))) (k := 4) (by omega) l3 (by omega)
  rw [if_neg d0] at mk
  have e1 : ¬ (n : Int) < 2 := by omega
  have e2 : ¬ (64 : Int) < (n : Int) := by omega
  have e3 : ¬ (k : Int) < 1 := by omega
  have e4 : ¬ (n : Int) ≤ (k : Int) := by omega
  have e5 : IntKind.i64.wrap ((k : Int) * ((n : Int) - (k : Int))) = (k : Int) * ((n : Int) - (k : Int)) := i64_wrap (by omega) (by omega)
  unfold kwt
  generalize (((chN n (min k (n - k)) : Nat) : Int)) = cc at *
  generalize hx : cc * ((k : Int) * ((n : Int) - (k : Int))) = x at *
  generalize Rat.divInt ((n : Int) - 1) x = q at *
  simp only [zI] at c w1 w2 mu
  simp only [RQ.c] at mk ⊢
  generalize hy : (k : Int) * ((n : Int) - (k : Int)) = y at *
  simp (disch := omega) [kernel_Weight, e1, e2, e3, e4, c, w1, w2, mu, mk, hy, e5]
theorem Bq.divI {a b : Int} {k : Nat} (ha : a.natAbs < pw k) (hb : b.natAbs < pw k) (h0 : b ≠ 0) : Bq k (Rat.divInt a b) := by
  cases b with
  | ofNat m => exact Bq.mkR (d := m) ha hb (by rintro rfl; exact h0 rfl)
  | negSucc m =>
    have e : Rat.divInt a (Int.negSucc m) = mkRat (-a) (m + 1) := Rat.normalize_eq_mkRat (Nat.succ_ne_zero m)
    rw [e]
    exact Bq.mkR (by rw [Int.natAbs_neg]; exact ha) hb (by omega)
theorem kwt_b {k n : Nat} (h1 : 1 ≤ k) (h2 : k < n) (hn : n ≤ 64) : Bq 4 (kwt k n) := by
  have p := kprod h1 h2 hn
  have cp := chN_lt (n := n) (i := min k (n - k)) hn (by omega)
  refine Bq.divI (by simp only [pw]; omega) ?_ (kden h1 h2 hn)
  rw [Int.natAbs_mul]
  exact pw_mul_lt (j := 2) (k := 2) (by simp only [pw, Int.natAbs_natCast]; omega) (by simp only [pw]; omega)
theorem kawake (hz : TzOk nv) : EX ip nv (.call F.dendronlaw20_awake [] []) = some (.ret (.d (.bool true)) []) := by
  rw [S_call dendronlaw20_awake.ip rfl]
  have w := kweight_ev hz (k := 1) (n := 3) (by omega) (by omega) (by omega)
  have f := rfrac_ev hz 1 3 (by omega) (by omega) (by omega) (by omega)
  have s := rsame_ev hz (can (kwt 1 3)) (can (Rat.divInt 1 3)) (can_ok (kwt_b (by omega) (by omega) (by omega))) (can_ok (k := 1) (Bq.divI (by simp [pw]) (by simp [pw]) (by omega))) (by omega) (by omega) (by omega)
  have e : kwt 1 3 = Rat.divInt 1 3 := by decide +kernel
  rw [can_v, can_v, e] at s
  rw [e] at w
  generalize Rat.divInt 1 3 = q at *
  simp only [RQ.c] at *
  simp at w
  simp (disch := omega) [dendronlaw20_awake, w, f, s]
end
end Go.Proofs.YtgigaimaaijalaaGreatDoor
