/- The greatest common divisor. -/
import Derived.Test.YtnmbpainnkdonaaDoorNi
set_option linter.unusedSimpArgs false
set_option linter.unusedVariables false
namespace Go.Proofs.YtnmbpainnkdonaaDoor
open Go Go.Proofs.R
set_option maxRecDepth 10000
theorem coprime_two_pow {b : Nat} (h : b % 2 = 1) (z : Nat) : Nat.Coprime (2 ^ z) b := by
  apply Nat.Coprime.pow_left
  rw [Nat.Coprime, Nat.gcd_rec, h]; rfl
theorem gcd_odd {a b : Nat} (h : b % 2 = 1) (z : Nat) : Nat.gcd (2 ^ z * a) b = Nat.gcd a b := (coprime_two_pow h z).gcd_mul_left_cancel a
theorem odd_part {m z : Nat} (h : m % 2 ^ z = 0) : m = 2 ^ z * (m / 2 ^ z) := by have := Nat.div_add_mod m (2 ^ z); omega
theorem gcd_two {a b x y : Nat} (ha : a % 2 = 1) (hb : b % 2 = 1) : Nat.gcd (2 ^ x * a) (2 ^ y * b) = Nat.gcd a b * 2 ^ min x y := by
  rcases Nat.le_total x y with h | h
  · rw [Nat.min_eq_left h, show 2 ^ y * b = 2 ^ x * (2 ^ (y - x) * b) by rw [← Nat.mul_assoc, ← Nat.pow_add, Nat.add_sub_cancel' h], Nat.gcd_mul_left, Nat.gcd_comm a, gcd_odd ha, Nat.gcd_comm b, Nat.mul_comm]
  · rw [Nat.min_eq_right h, show 2 ^ x * a = 2 ^ y * (2 ^ (x - y) * a) by rw [← Nat.mul_assoc, ← Nat.pow_add, Nat.add_sub_cancel' h], Nat.gcd_mul_left, gcd_odd hb, Nat.mul_comm]
section
variable {nv : R.Nv}
theorem gcd_step (hz : TzOk nv) (A B x y : Nat) (h : B < A) (hA : A % 2 = 1) (hB : B % 2 = 1) (hl : (dig A).length ≤ 1099511627775) (hx : x ≤ 1099511627776) (hy : y ≤ 1099511627776) (e : Env)
    (he : e = [(0, .d (.sl 1 (us (dig A)))), (1, .d (.sl 1 (us (dig B)))), (5, .d (.int .i64 (x : Int))), (6, .d (.int .i64 (y : Int)))] ∨ e = [(0, .d (.sl 1 (us (dig B)))), (1, .d (.sl 1 (us (dig A)))), (5, .d (.int .i64 (x : Int))), (6, .d (.int .i64 (y : Int)))]) :
    (∃ a', EX ip nv (.code nat_Gcd.b1 e []) = some (.st .normal [(0, .d (.sl 1 (us (dig a')))), (1, .d (.sl 1 (us (dig B)))), (5, .d (.int .i64 (x : Int))), (6, .d (.int .i64 (y : Int)))] []) ∧ a' % 2 = 1 ∧ a' < A ∧ Nat.gcd a' B = Nat.gcd A B) ∨
    (EX ip nv (.code nat_Gcd.b1 e []) = some (.st .ret [(4, .d (.sl 1 (us (dig (Nat.gcd A B * 2 ^ min x y)))))] [])) := by
  have hlB : (dig B).length ≤ (dig A).length := dig_len_mono (by omega)
  have hBp : 0 < B := by omega
  have o1 := order_ev (nv := nv) A B (by omega) (by omega)
  have o2 := order_ev (nv := nv) B A (by omega) (by omega)
  have c1 : cmpI A B = 1 := by simp only [cmpI]; rw [if_neg (by omega), if_pos h]
  have c2 : cmpI B A = -1 := by simp only [cmpI]; rw [if_pos h]
  rw [c1] at o1
  rw [c2] at o2
  by_cases hlen : (dig B).length + 1 < (dig A).length
  · have hlen' : ((dig B).length : Int) + 1 < ((dig A).length : Int) := by omega
    have hr := rest_ev (nv := nv) A B hl (by omega) hBp
    by_cases h0 : A % B = 0
    · right
      obtain ⟨out, j, s1, s2, s3, s4, s5⟩ := shl_own (nv := nv) B (min x y) hBp (by omega) (by omega)
      have hg : Nat.gcd A B = B := by rw [Nat.gcd_comm, Nat.gcd_rec, h0, Nat.gcd_zero_left]
      rw [h0, dig_zero] at hr
      generalize A / B = q at *
      rw [hg]
      rcases he with rfl | rfl
      · simp (disch := omega) [nat_Gcd.b1, o1, hlen', hr, s1, s3]
      · simp (disch := omega) [nat_Gcd.b1, o2, hlen', hr, s1, s3]
    · left
      have hmlt := Nat.mod_lt A hBp
      have hg : Nat.gcd (A % B) B = Nat.gcd A B := by rw [Nat.gcd_comm A B, Nat.gcd_rec B A]
      obtain ⟨z, z1, z2, z3, z4⟩ := zeros_ev hz (A % B) (by omega) (by have := dig_len_mono (show A % B ≤ A by omega); omega)
      have hs := shr_ev (nv := nv) (A % B) z (by have := dig_len_mono (show A % B ≤ A by omega); omega) (by have := dig_len_mono (show A % B ≤ A by omega); omega)
      have hop := odd_part z2
      refine ⟨A % B / 2 ^ z, ?_, z3, ?_, ?_⟩
      · have hne : ¬ dig (A % B) = [] := by rw [dig_nil]; exact h0
        generalize A / B = q at *
        generalize A % B = r at *
        generalize r / 2 ^ z = r' at *
        rcases he with rfl | rfl
        · simp (disch := omega) [nat_Gcd.b1, o1, hlen', hr, hne, z4, hs]
        · simp (disch := omega) [nat_Gcd.b1, o2, hlen', hr, hne, z4, hs]
      · exact Nat.lt_of_le_of_lt (Nat.div_le_self _ _) (by omega)
      · conv => rhs; rw [← hg, hop]
        rw [gcd_odd hB]
  · left
    have hlen' : ¬ ((dig B).length : Int) + 1 < ((dig A).length : Int) := by omega
    have hm := minus_ev (nv := nv) A B (by omega) (by omega)
    have hll : (dig (A - B)).length ≤ (dig A).length := dig_len_mono (by omega)
    obtain ⟨z, z1, z2, z3, z4⟩ := zeros_ev hz (A - B) (by omega) (by omega)
    have hs := shr_ev (nv := nv) (A - B) z (by omega) (by omega)
    have hop := odd_part z2
    have hg : Nat.gcd (A - B) B = Nat.gcd A B := Nat.gcd_sub_self_left (by omega)
    refine ⟨(A - B) / 2 ^ z, ?_, z3, ?_, ?_⟩
    · generalize (A - B) / 2 ^ z = r' at *
      rcases he with rfl | rfl
      · simp (disch := omega) [nat_Gcd.b1, o1, hlen', hm, z4, hs]
      · simp (disch := omega) [nat_Gcd.b1, o2, hlen', hm, z4, hs]
    · exact Nat.lt_of_le_of_lt (Nat.div_le_self _ _) (by omega)
    · conv => rhs; rw [← hg, hop]
      rw [gcd_odd hB]
theorem gcd_loop (hz : TzOk nv) (G x y L : Nat) (hL : L ≤ 1099511627775) (hx : x ≤ 1099511627776) (hy : y ≤ 1099511627776) (a b : Nat) (ha : a % 2 = 1) (hb : b % 2 = 1) (hal : (dig a).length ≤ L) (hbl : (dig b).length ≤ L) (hG : Nat.gcd a b = G) :
    ∃ x' e μ, EX ip nv (.code (.loop [] [] nat_Gcd.b1) [(0, .d (.sl 1 (us (dig a)))), (1, .d (.sl 1 (us (dig b)))), (5, .d (.int .i64 (x : Int))), (6, .d (.int .i64 (y : Int)))] []) = some (.st x' e μ) ∧ x' ≠ .normal ∧
    (x' = .ret ∧ e = [(4, .d (.sl 1 (us (dig (G * 2 ^ min x y)))))] ∧ μ = []) := by
  refine loop_m (fun k e μ => ∃ a b, e = [(0, .d (.sl 1 (us (dig a)))), (1, .d (.sl 1 (us (dig b)))), (5, .d (.int .i64 (x : Int))), (6, .d (.int .i64 (y : Int)))] ∧ μ = [] ∧ k = a + b ∧ a % 2 = 1 ∧ b % 2 = 1 ∧ (dig a).length ≤ L ∧ (dig b).length ≤ L ∧ Nat.gcd a b = G) ?_ (a + b) _ _ ⟨a, b, rfl, rfl, rfl, ha, hb, hal, hbl, hG⟩
  rintro k e μ ⟨a, b, rfl, rfl, rfl, ha, hb, hal, hbl, hG⟩
  rcases Nat.lt_trichotomy a b with h | h | h
  · rcases gcd_step hz b a x y h hb ha (by omega) hx hy _ (.inr rfl) with ⟨a', s1, s2, s3, s4⟩ | s1
    · have := dig_len_mono (show a' ≤ b by omega)
      exact .inl ⟨_, _, s1, a' + a, by omega, a', a, rfl, rfl, rfl, s2, ha, by omega, hal, by rw [s4, Nat.gcd_comm, hG]⟩
    · rw [Nat.gcd_comm, hG] at s1
      exact .inr ⟨_, _, _, s1, by simp, rfl, rfl, rfl⟩
  · subst h
    right
    rw [Nat.gcd_self] at hG
    subst hG
    have o1 := order_ev (nv := nv) a a (by omega) (by omega)
    have c1 : cmpI a a = 0 := by simp [cmpI]
    rw [c1] at o1
    obtain ⟨out, j, s1, s2, s3, s4, s5⟩ := shl_own (nv := nv) a (min x y) (by omega) (by omega) (by omega)
    refine ⟨.ret, [(4, .d (.sl 1 (us (dig (a * 2 ^ min x y)))))], [], ?_, by simp, rfl, rfl, rfl⟩
    simp (disch := omega) [nat_Gcd.b1, o1, s1, s3]
  · rcases gcd_step hz a b x y h ha hb (by omega) hx hy _ (.inl rfl) with ⟨a', s1, s2, s3, s4⟩ | s1
    · have := dig_len_mono (show a' ≤ a by omega)
      exact .inl ⟨_, _, s1, a' + b, by omega, a', b, rfl, rfl, rfl, s2, hb, by omega, hbl, by rw [s4, hG]⟩
    · rw [hG] at s1
      exact .inr ⟨_, _, _, s1, by simp, rfl, rfl, rfl⟩
theorem euclid_loop (x y : Nat) (hx : x < 18446744073709551616) (hy : y < 18446744073709551616) :
    ∃ x' e μ, EX ip nv (.code (.loop [] [] nat_euclid.b0) [(5, .d (u x)), (7, .d (u y))] []) = some (.st x' e μ) ∧ x' ≠ .normal ∧
    (x' = .exit 0 ∧ e = [(5, .d (u (Nat.gcd x y))), (7, .d (u 0)), (20, .d (.bool false))] ∧ μ = []) := by
  refine loop_m (fun k e μ => ∃ a, e = [(5, .d (u a)), (7, .d (u k))] ∧ μ = [] ∧ a < 18446744073709551616 ∧ k < 18446744073709551616 ∧ Nat.gcd a k = Nat.gcd x y) ?_ y _ _ ⟨x, rfl, rfl, hx, hy, rfl⟩
  rintro k e μ ⟨a, rfl, rfl, ha, hk, hg⟩
  by_cases h0 : k = 0
  · subst h0
    rw [Nat.gcd_zero_right] at hg
    subst hg
    exact .inr ⟨.exit 0, [(5, .d (u (Nat.gcd x y))), (7, .d (u 0)), (20, .d (.bool false))], [], by simp [nat_euclid.b0], by simp, rfl, rfl, rfl⟩
  · have hm := Nat.mod_lt a (show 0 < k by omega)
    refine .inl ⟨[(5, .d (u k)), (7, .d (u (a % k)))], [], ?_, a % k, hm, k, rfl, rfl, hk, by omega, by rw [← hg, Nat.gcd_comm a k, Nat.gcd_comm k, Nat.gcd_rec k a]⟩
    simp (disch := omega) [nat_euclid.b0, h0, u_rem]
theorem euclid_ev (m n : Nat) (hm : m < 18446744073709551616) (hn : n < 18446744073709551616) (hml : (dig m).length ≤ 2) (hnl : (dig n).length ≤ 2) : EX ip nv (.call F.nat_euclid [.d (.sl 1 (us (dig m))), .d (.sl 1 (us (dig n)))] []) = some (.ret (.d (.sl 1 (us (dig (Nat.gcd m n))))) []) := by
  have h1 := to_ev (nv := nv) (dig m) (dig_rw (by omega)) (by rw [lv_dig]; exact hm)
  have h2 := to_ev (nv := nv) (dig n) (dig_rw (by omega)) (by rw [lv_dig]; exact hn)
  rw [lv_dig] at h1 h2
  obtain ⟨_, _, _, hr, -, rfl, rfl, rfl⟩ := euclid_loop (nv := nv) m n hm hn
  have hg : Nat.gcd m n < 18446744073709551616 := by
    rcases Nat.eq_zero_or_pos m with h | h
    · subst h; rw [Nat.gcd_zero_left]; exact hn
    · exact Nat.lt_of_le_of_lt (Nat.gcd_le_left n h) hm
  have h3 := of_ev (nv := nv) (Nat.gcd m n) hg
  rw [S_call nat_euclid.ip rfl]
  simp [nat_euclid, h1, h2, hr, h3]
theorem gcd_ev (hz : TzOk nv) (a b : List Nat) (ha : Rw a) (hb : Rw b) (hal : a.length ≤ 1073741824) (hbl : b.length ≤ 1073741824) : EX ip nv (.call F.nat_Gcd [.d (.sl 1 (us a)), .d (.sl 1 (us b))] []) = some (.ret (.d (.sl 1 (us (dig (Nat.gcd (lv a) (lv b)))))) []) := by
  rw [S_call nat_Gcd.ip rfl]
  have h1 := lv_len ha
  have h2 := lv_len hb
  have ca := clean_ev (nv := nv) a ha
  have cb := clean_ev (nv := nv) b hb
  generalize lv a = m at *
  generalize lv b = n at *
  by_cases hm : m = 0
  · subst hm
    rw [dig_zero] at ca
    simp (disch := omega) [nat_Gcd, ca, cb]
  · have hme : ¬ dig m = [] := by rw [dig_nil]; exact hm
    by_cases hn : n = 0
    · subst hn
      rw [dig_zero] at cb
      simp (disch := omega) [nat_Gcd, ca, cb, hme]
    · have hne : ¬ dig n = [] := by rw [dig_nil]; exact hn
      by_cases hs : (dig m).length ≤ 2 ∧ (dig n).length ≤ 2
      · have hm64 : m < 18446744073709551616 := by have := dig_len_le.1 hs.1; simpa [pw] using this
        have hn64 : n < 18446744073709551616 := by have := dig_len_le.1 hs.2; simpa [pw] using this
        have he := euclid_ev (nv := nv) m n hm64 hn64 hs.1 hs.2
        have c1 : ((dig m).length : Int) ≤ 2 := by omega
        have c2 : ((dig n).length : Int) ≤ 2 := by omega
        simp (disch := omega) [nat_Gcd, ca, cb, hme, hne, hs.1, hs.2, c1, c2, he]
      · obtain ⟨x, x1, x2, x3, x4⟩ := zeros_ev hz m (by omega) (by omega)
        obtain ⟨y, y1, y2, y3, y4⟩ := zeros_ev hz n (by omega) (by omega)
        have sx := shr_ev (nv := nv) m x (by omega) (by omega)
        have sy := shr_ev (nv := nv) n y (by omega) (by omega)
        have lx := dig_len_mono (Nat.div_le_self m (2 ^ x))
        have ly := dig_len_mono (Nat.div_le_self n (2 ^ y))
        have hg : Nat.gcd m n = Nat.gcd (m / 2 ^ x) (n / 2 ^ y) * 2 ^ min x y := by
          conv => lhs; rw [odd_part x2, odd_part y2]
          exact gcd_two x3 y3
        obtain ⟨_, _, _, hr, -, rfl, rfl, rfl⟩ := gcd_loop hz (Nat.gcd (m / 2 ^ x) (n / 2 ^ y)) x y (2 * 1073741824) (by omega) (by omega) (by omega) (m / 2 ^ x) (n / 2 ^ y) x3 y3 (by omega) (by omega) rfl
        rw [hg]
        generalize Nat.gcd (m / 2 ^ x) (n / 2 ^ y) = G at *
        generalize m / 2 ^ x = m' at *
        generalize n / 2 ^ y = n' at *
        by_cases c1 : (dig m).length ≤ 2
        · have c2 : ¬ (dig n).length ≤ 2 := fun h => hs ⟨c1, h⟩
          have c1' : ((dig m).length : Int) ≤ 2 := by omega
          have c2' : ¬ ((dig n).length : Int) ≤ 2 := by omega
          simp (disch := omega) [nat_Gcd, ca, cb, hme, hne, c1, c2, c1', c2', x4, y4, sx, sy, hr]
        · have c1' : ¬ ((dig m).length : Int) ≤ 2 := by omega
          simp (disch := omega) [nat_Gcd, ca, cb, hme, hne, c1, c1', x4, y4, sx, sy, hr]
end
end Go.Proofs.YtnmbpainnkdonaaDoor
