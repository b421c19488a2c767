/- Whole numbers of the program. -/
import Derived.Test.YtgigaimaaijalaaDoorNf
set_option linter.unusedSimpArgs false
set_option linter.unusedVariables false
namespace Go.Proofs.YtgigaimaaijalaaDoor
open Go Go.Proofs.R
set_option maxRecDepth 10000
section
variable {nv : R.Nv}
theorem wsign_ev (neg : Bool) (n : Nat) : EX ip nv (.call F.whole_sign [.d (.bool neg), .d (.sl 1 (us (dig n)))] []) = some (.ret (.d (.ag (zI (zs neg n)))) []) := by
  rw [S_call whole_sign.ip rfl]
  have e := zs_neg neg n
  have hp : (0 : Int) < (dig n).length ↔ 0 < n := by rw [← dig_len_pos (n := n)]; omega
  cases neg
  · simp at e
    simp (disch := omega) [whole_sign, zI, zs_abs, e]
  · simp at e
    by_cases h : 0 < n
    · have h' : 0 < (dig n).length := dig_len_pos.2 h
      simp (disch := omega) [whole_sign, zI, zs_abs, e, h, h', hp]
    · have h0 : n = 0 := by omega
      subst h0
      simp (disch := omega) [whole_sign, zI, zs, dig_zero]
theorem wclean_ev (neg : Bool) (l : List Nat) (h : Rw l) : EX ip nv (.call F.whole_Clean [.d (.ag [.bool neg, .sl 1 (us l)])] []) = some (.ret (.d (.ag (zI (zs neg (lv l))))) []) := by
  rw [S_call whole_Clean.ip rfl]
  have hc := clean_ev (nv := nv) l h
  have hs := wsign_ev (nv := nv) neg (lv l)
  generalize zs neg (lv l) = z at *
  simp [whole_Clean, hc, hs, zI]
/-- Of a number in its form. -/
theorem wclean_c (z : Int) (h : (dig z.natAbs).length ≤ 1099511627776) : EX ip nv (.call F.whole_Clean [.d (.ag [.bool (decide (z < 0)), .sl 1 (us (dig z.natAbs))])] []) = some (.ret (.d (.ag (zI z))) []) := by
  have := wclean_ev (nv := nv) (decide (z < 0)) (dig z.natAbs) (dig_rw h)
  rwa [lv_dig, zs_can] at this
theorem wneg_ev (neg : Bool) (l : List Nat) (h : Rw l) : EX ip nv (.call F.whole_Neg [.d (.ag [.bool neg, .sl 1 (us l)])] []) = some (.ret (.d (.ag (zI (-(zs neg (lv l)))))) []) := by
  rw [S_call whole_Neg.ip rfl]
  have hc := wclean_ev (nv := nv) neg l h
  generalize zs neg (lv l) = z at *
  have hs := wsign_ev (nv := nv) (!decide (z < 0)) z.natAbs
  have e : zs (!decide (z < 0)) z.natAbs = -z := by by_cases h : z < 0 <;> simp [zs, h] <;> omega
  rw [e] at hs
  generalize -z = y at *
  simp only [zI] at hc hs ⊢
  generalize decide (z < 0) = b at *
  simp [whole_Neg, hc, hs]
theorem wneg_c (z : Int) (h : (dig z.natAbs).length ≤ 1099511627776) : EX ip nv (.call F.whole_Neg [.d (.ag [.bool (decide (z < 0)), .sl 1 (us (dig z.natAbs))])] []) = some (.ret (.d (.ag (zI (-z)))) []) := by
  have := wneg_ev (nv := nv) (decide (z < 0)) (dig z.natAbs) (dig_rw h)
  rwa [lv_dig, zs_can] at this
theorem wSign_ev (neg : Bool) (l : List Nat) (h : Rw l) : EX ip nv (.call F.whole_Sign [.d (.ag [.bool neg, .sl 1 (us l)])] []) = some (.ret (.d (.int .i64 (zs neg (lv l)).sign)) []) := by
  rw [S_call whole_Sign.ip rfl]
  have hc := wclean_ev (nv := nv) neg l h
  generalize zs neg (lv l) = z at *
  simp only [zI] at hc
  rcases Int.lt_trichotomy z 0 with h1 | h1 | h1
  · have e : z.sign = -1 := Int.sign_eq_neg_one_of_neg h1
    simp [whole_Sign, hc, h1, e]
  · subst h1
    simp [whole_Sign, hc, dig_zero]
  · have e : z.sign = 1 := Int.sign_eq_one_of_pos h1
    have h2 : ¬ z < 0 := by omega
    have h3 : ¬ dig z.natAbs = [] := by rw [dig_nil]; omega
    simp [whole_Sign, hc, h2, h3, e]
theorem wSign_c (z : Int) (h : (dig z.natAbs).length ≤ 1099511627776) : EX ip nv (.call F.whole_Sign [.d (.ag [.bool (decide (z < 0)), .sl 1 (us (dig z.natAbs))])] []) = some (.ret (.d (.int .i64 z.sign)) []) := by
  have := wSign_ev (nv := nv) (decide (z < 0)) (dig z.natAbs) (dig_rw h)
  rwa [lv_dig, zs_can] at this
/-- How two whole numbers stand. -/
def cmpZ (a b : Int) : Int := if a < b then -1 else if b < a then 1 else 0
theorem wCmp_c (a b : Int) (ha : (dig a.natAbs).length ≤ 1099511627776) (hb : (dig b.natAbs).length ≤ 1099511627776) : EX ip nv (.call F.whole_Cmp [.d (.ag [.bool (decide (a < 0)), .sl 1 (us (dig a.natAbs))]), .d (.ag [.bool (decide (b < 0)), .sl 1 (us (dig b.natAbs))])] []) = some (.ret (.d (.int .i64 (cmpZ a b))) []) := by
  rw [S_call whole_Cmp.ip rfl]
  have ca := wclean_c (nv := nv) a ha
  have cb := wclean_c (nv := nv) b hb
  have c1 := cmp_ev (nv := nv) (dig a.natAbs) (dig b.natAbs) (dig_rw ha) (dig_rw hb)
  have c2 := cmp_ev (nv := nv) (dig b.natAbs) (dig a.natAbs) (dig_rw hb) (dig_rw ha)
  rw [lv_dig, lv_dig] at c1 c2
  simp only [zI] at ca cb
  by_cases h1 : a < 0 <;> by_cases h2 : b < 0
  · have e : cmpZ a b = cmpI b.natAbs a.natAbs := by simp only [cmpZ, cmpI]; repeat' split; all_goals omega
    simp [h1, h2] at ca cb
    simp [whole_Cmp, ca, cb, h1, h2, c2, e]
  · have e : cmpZ a b = -1 := by simp only [cmpZ]; rw [if_pos (by omega)]
    simp [h1, h2] at ca cb
    simp [whole_Cmp, ca, cb, h1, h2, e]
  · have e : cmpZ a b = 1 := by simp only [cmpZ]; rw [if_neg (by omega), if_pos (by omega)]
    simp [h1, h2] at ca cb
    simp [whole_Cmp, ca, cb, h1, h2, e]
  · have e : cmpZ a b = cmpI a.natAbs b.natAbs := by simp only [cmpZ, cmpI]; repeat' split; all_goals omega
    simp [h1, h2] at ca cb
    simp [whole_Cmp, ca, cb, h1, h2, c1, e]
theorem wMul_c (a b : Int) (ha : (dig a.natAbs).length ≤ 1099511627775) (hb : (dig b.natAbs).length ≤ 1099511627775) : EX ip nv (.call F.whole_Mul [.d (.ag [.bool (decide (a < 0)), .sl 1 (us (dig a.natAbs))]), .d (.ag [.bool (decide (b < 0)), .sl 1 (us (dig b.natAbs))])] []) = some (.ret (.d (.ag (zI (a * b)))) []) := by
  rw [S_call whole_Mul.ip rfl]
  have ca := wclean_c (nv := nv) a (by omega)
  have cb := wclean_c (nv := nv) b (by omega)
  have mu := mul_ev (nv := nv) (dig a.natAbs) (dig b.natAbs) (dig_rw (by omega)) (dig_rw (by omega))
  rw [lv_dig, lv_dig] at mu
  simp only [zI] at ca cb
  have sg := wsign_ev (nv := nv) (decide (a < 0) != decide (b < 0)) (a.natAbs * b.natAbs)
  have e : zs (decide (a < 0) != decide (b < 0)) (a.natAbs * b.natAbs) = a * b := by
    rw [← Int.natAbs_mul]
    by_cases h1 : a < 0 <;> by_cases h2 : b < 0
    · have := Int.mul_pos_of_neg_of_neg h1 h2
      simp [zs, h1, h2]; omega
    · have := Int.mul_nonpos_of_nonpos_of_nonneg (show a ≤ 0 by omega) (show 0 ≤ b by omega)
      simp [zs, h1, h2]; omega
    · have := Int.mul_nonpos_of_nonneg_of_nonpos (show 0 ≤ a by omega) (show b ≤ 0 by omega)
      simp [zs, h1, h2]; omega
    · have := Int.mul_nonneg (show 0 ≤ a by omega) (show 0 ≤ b by omega)
      simp [zs, h1, h2]; omega
  rw [e] at sg
  generalize a * b = c at *
  generalize decide (a < 0) = p at *
  generalize decide (b < 0) = q at *
  cases p <;> cases q <;> simp at sg <;> simp [whole_Mul, ca, cb, mu, sg, zI]
theorem wOf_ev (n : Int) (h1 : -9223372036854775808 ≤ n) (h2 : n ≤ 9223372036854775807) : EX ip nv (.call F.whole_Of [.d (.int .i64 n)] []) = some (.ret (.d (.ag (zI n))) []) := by
  rw [S_call whole_Of.ip rfl]
  have ho := of_ev (nv := nv) n.natAbs (by omega)
  by_cases h : n < 0
  · have sg := wsign_ev (nv := nv) true n.natAbs
    have e : zs true n.natAbs = n := by simp only [zs]; simp; omega
    rw [e] at sg
    have hcv : vConv .u64 (some (.d (.int .i64 n))) = some (.d (u (n + 18446744073709551616).toNat)) := by
      simp only [vConv_s]
      rw [wrap_u (n := (n + 18446744073709551616).toNat) (by omega)]; rfl
    have hng : vUn .neg (some (.d (u (n + 18446744073709551616).toNat))) = some (.d (u n.natAbs)) := by
      simp only [u, vUn_neg]
      rw [wrap_u (n := n.natAbs) (by omega)]
    simp [whole_Of, h, hcv, hng, ho, sg, zI]
  · have sg := wsign_ev (nv := nv) false n.natAbs
    have e : zs false n.natAbs = n := by simp only [zs]; simp; omega
    rw [e] at sg
    have e2 : n.toNat = n.natAbs := by omega
    simp (disch := omega) [whole_Of, h, e2, ho, sg, zI]
end
end Go.Proofs.YtgigaimaaijalaaDoor
