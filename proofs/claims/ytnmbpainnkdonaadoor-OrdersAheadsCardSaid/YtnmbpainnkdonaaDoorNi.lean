/- Quotients and rests; the greatest common divisor. -/
import Derived.Test.YtnmbpainnkdonaaDoorNh
set_option linter.unusedSimpArgs false
set_option linter.unusedVariables false
namespace Go.Proofs.YtnmbpainnkdonaaDoor
open Go Go.Proofs.R
set_option maxRecDepth 10000
section
variable {nv : R.Nv}
theorem dig_len1 {n : Nat} (h : (dig n).length = 1) : dig n = [n] ∧ n < 4294967296 ∧ 0 < n := by
  have h0 : 0 < n := dig_len_pos.1 (by omega)
  have h1 : n < 4294967296 := by
    have := dig_len_le.1 (show (dig n).length ≤ 1 by omega)
    simpa [pw] using this
  refine ⟨?_, h1, h0⟩
  rw [dig_pos (by omega), Nat.mod_eq_of_lt h1, Nat.div_eq_of_lt h1, dig_zero]
theorem divmod_ev (a b : List Nat) (ha : Rw a) (hb : Rw b) (hal : a.length ≤ 1099511627775) : EX ip nv (.call F.nat_DivMod [.d (.sl 1 (us a)), .d (.sl 1 (us b))] []) = some (.ret (if lv b = 0 then .tp [.d (.sl 1 []), .d (.sl 1 []), .d (.int .i64 2)] else .tp [.d (.sl 1 (us (dig (lv a / lv b)))), .d (.sl 1 (us (dig (lv a % lv b)))), .d (.int .i64 0)]) []) := by
  rw [S_call nat_DivMod.ip rfl]
  have h1 := lv_len ha
  have h2 := lv_len hb
  have := ha.2
  have := hb.2
  have ca := clean_ev (nv := nv) a ha
  have cb := clean_ev (nv := nv) b hb
  have ho := order_ev (nv := nv) (lv a) (lv b) (by omega) (by omega)
  generalize lv a = m at *
  generalize lv b = n at *
  by_cases hz : n = 0
  · subst hz
    simp (disch := omega) [nat_DivMod, ca, cb, dig_zero]
  · have hn0 : 0 < n := by omega
    have hlp := dig_len_pos.2 hn0
    have hne : ¬ dig n = [] := by rw [dig_nil]; exact hz
    by_cases hlt : m < n
    · have e1 : m / n = 0 := Nat.div_eq_of_lt hlt
      have e2 : m % n = m := Nat.mod_eq_of_lt hlt
      simp (disch := omega) [nat_DivMod, ca, cb, hz, hne, ho, cmpI, hlt, e1, e2, dig_zero]
    · have hc : ¬ cmpI m n < 0 := by simp only [cmpI, if_neg hlt]; split <;> omega
      by_cases hl1 : (dig n).length = 1
      · obtain ⟨d1, d2, d3⟩ := dig_len1 hl1
        have hs := small_ev (nv := nv) m n (by omega) d3 d2
        have hof := of_ev (nv := nv) (m % n) (by have := Nat.mod_lt m hn0; omega)
        have l0 : lb [n] 0 = n := rfl
        rw [d1] at cb ho
        generalize m / n = q at *
        generalize m % n = r at *
        simp (disch := first | omega | simp) [nat_DivMod, ca, cb, hz, ho, hc, hs, hof, l0]
      · have hl1' : ¬ ((dig n).length : Int) = 1 := by omega
        have hlg := long_ev (nv := nv) m n (by omega) (by omega) (by omega)
        generalize m / n = q at *
        generalize m % n = r at *
        simp (disch := omega) [nat_DivMod, ca, cb, hz, hne, ho, hc, hl1, hl1', hlg]
theorem rest_ev (m n : Nat) (hm : (dig m).length ≤ 1099511627775) (hn : (dig n).length ≤ 1099511627775) (h0 : 0 < n) : EX ip nv (.call F.nat_rest [.d (.sl 1 (us (dig m))), .d (.sl 1 (us (dig n)))] []) = some (.ret (.tp [.d (.sl 1 (us (dig (m / n)))), .d (.sl 1 (us (dig (m % n))))]) []) := by
  rw [S_call nat_rest.ip rfl]
  have hd := divmod_ev (nv := nv) (dig m) (dig n) (dig_rw (by omega)) (dig_rw (by omega)) hm
  rw [lv_dig, lv_dig, if_neg (by omega)] at hd
  generalize m / n = q at *
  generalize m % n = r at *
  simp [nat_rest, hd]

/-- The native entry for trailing zeros. -/
def TzOk (nv : R.Nv) : Prop := ∀ x, 0 < x → x < 18446744073709551616 → ∃ z : Nat, z ≤ 63 ∧ x % 2 ^ z = 0 ∧ x / 2 ^ z % 2 = 1 ∧ nv F.bits_TrailingZeros64 [.d (u x)] [] = some (.d (.int .i64 (z : Int)), [])
theorem tz_ev (hz : TzOk nv) (x : Nat) (h0 : 0 < x) (h : x < 18446744073709551616) : ∃ z : Nat, z ≤ 63 ∧ x % 2 ^ z = 0 ∧ x / 2 ^ z % 2 = 1 ∧ EX ip nv (.call F.bits_TrailingZeros64 [.d (u x)] []) = some (.ret (.d (.int .i64 (z : Int))) []) := by
  obtain ⟨z, z1, z2, z3, z4⟩ := hz x h0 h
  exact ⟨z, z1, z2, z3, by rw [EX_nat rfl, z4]; rfl⟩
theorem zeros_loop (hz : TzOk nv) (a : List Nat) (ha : Cl a) (hal : a.length ≤ 1099511627776) (h0 : 0 < lv a) :
    ∃ x e μ, EX ip nv (.code (.loop [] [] nat_zeros.b0) [(3, .d (.int .i64 0)), (6, .d (.sl 1 (us a))), (7, .d (.int .i64 (a.length : Int))), (8, .d (.int .i64 0))] []) = some (.st x e μ) ∧ x ≠ .normal ∧
    ∃ z : Nat, x = .ret ∧ e = [(2, .d (.int .i64 (z : Int)))] ∧ μ = [] ∧ z ≤ 32 * a.length + 63 ∧ lv a % 2 ^ z = 0 ∧ lv a / 2 ^ z % 2 = 1 := by
  refine loop_n a.length (fun i e μ => e = [(3, .d (.int .i64 ((32 * i : Nat) : Int))), (6, .d (.sl 1 (us a))), (7, .d (.int .i64 (a.length : Int))), (8, .d (.int .i64 (i : Int)))] ∧ μ = [] ∧ lv (a.take i) = 0) ?_ ?_ ⟨by simp, rfl, by simp [lv]⟩
  · rintro i e μ hi ⟨rfl, rfl, hv⟩
    have hi' : (i : Int) < a.length := by omega
    have l1 := lb_lt ha i
    by_cases hx : lb a i = 0
    · left
      refine ⟨[(3, .d (.int .i64 ((32 * (i + 1) : Nat) : Int))), (6, .d (.sl 1 (us a))), (7, .d (.int .i64 (a.length : Int))), (8, .d (.int .i64 ((i + 1 : Nat) : Int)))], [], ?_, rfl, rfl, ?_⟩
      · have e1 : 32 * ((i : Int) + 1) = 32 * (i : Int) + 32 := by omega
        simp (disch := omega) [nat_zeros.b0, hi', hx, e1]
      · rw [lv_take_succ ha, hv, hx]; simp
    · right
      obtain ⟨z, z1, z2, z3, z4⟩ := tz_ev hz (lb a i) (by omega) (by omega)
      refine ⟨.ret, [(2, .d (.int .i64 ((32 * i + z : Nat) : Int)))], [], ?_, by simp, 32 * i + z, rfl, rfl, rfl, by omega, ?_⟩
      · simp (disch := omega) [nat_zeros.b0, hi', hx, z4]
      · have hz32 : z < 32 := by
          rcases Nat.lt_or_ge z 32 with h | h
          · exact h
          · exfalso
            have : lb a i / 2 ^ z = 0 := Nat.div_eq_of_lt (Nat.lt_of_lt_of_le l1 (show 2 ^ 32 ≤ 2 ^ z from Nat.pow_le_pow_right (by decide) h))
            rw [this] at z3; cases z3
        have hp : 2 ^ z * (2 * 2 ^ (31 - z)) = 4294967296 := by rw [← Nat.pow_succ', ← Nat.pow_add, show z + (31 - z + 1) = 32 by omega]
        have ev : lv a = pw i * (lb a i + 4294967296 * lv (a.drop (i + 1))) := by
          rw [lv_cut a i (by omega), hv, lv_drop ha hi, Nat.zero_add]
        have e2 : 2 ^ (32 * i + z) = pw i * 2 ^ z := by rw [Nat.pow_add, Nat.pow_mul]; rfl
        have e3 : lb a i = 2 ^ z * (lb a i / 2 ^ z) := by have := Nat.div_add_mod (lb a i) (2 ^ z); omega
        have e4 : lv a = pw i * 2 ^ z * (lb a i / 2 ^ z + 2 * (2 ^ (31 - z) * lv (a.drop (i + 1)))) := by
          rw [ev, ← hp]
          conv => lhs; rw [e3]
          rw [Nat.mul_assoc (pw i), Nat.mul_add (2 ^ z), Nat.mul_assoc (2 ^ z), Nat.mul_assoc 2]
        rw [e2, e4, Nat.mul_mod_right, Nat.mul_div_cancel_left _ (Nat.mul_pos (pw_pos i) (Nat.two_pow_pos z)), Nat.add_mul_mod_self_left]
        exact ⟨rfl, z3⟩
  · rintro e μ ⟨rfl, rfl, hv⟩
    rw [lv_take_all (Nat.le_refl _)] at hv
    omega
theorem zeros_ev (hz : TzOk nv) (m : Nat) (h0 : 0 < m) (hm : (dig m).length ≤ 1099511627776) : ∃ z : Nat, z ≤ 32 * (dig m).length + 63 ∧ m % 2 ^ z = 0 ∧ m / 2 ^ z % 2 = 1 ∧ EX ip nv (.call F.nat_zeros [.d (.sl 1 (us (dig m)))] []) = some (.ret (.d (.int .i64 (z : Int))) []) := by
  obtain ⟨_, _, _, hr, -, z, rfl, rfl, rfl, q1, q2, q3⟩ := zeros_loop hz (dig m) (dig_cl m) hm (by rw [lv_dig]; exact h0)
  rw [lv_dig] at q2 q3
  refine ⟨z, q1, q2, q3, ?_⟩
  rw [S_call nat_zeros.ip rfl]
  simp [nat_zeros, hr]
end
end Go.Proofs.YtnmbpainnkdonaaDoor
