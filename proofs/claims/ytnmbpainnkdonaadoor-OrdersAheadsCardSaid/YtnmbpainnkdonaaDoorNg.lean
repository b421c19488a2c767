/- Shifts to the right; Knuth's division, whole; quotients. -/
import Derived.Test.YtnmbpainnkdonaaDoorNf
set_option linter.unusedSimpArgs false
set_option linter.unusedVariables false
namespace Go.Proofs.YtnmbpainnkdonaaDoor
open Go Go.Proofs.R
set_option maxRecDepth 10000
section
variable {nv : R.Nv}
theorem quo32 (s : Nat) (h : s ≤ 1099511627776000) : vBin .quo (some (.d (.int .i64 (s : Int)))) (some (.d (.int .i64 32))) = some (.d (.int .i64 ((s / 32 : Nat) : Int))) := by
  have e1 : ((s : Int).tdiv 32) = ((s / 32 : Nat) : Int) := rfl
  rw [vBin_quo, if_neg (by decide), e1, i64_wrap (by omega) (by omega)]
theorem rem32 (s : Nat) : vBin .rem (some (.d (.int .i64 (s : Int)))) (some (.d (.int .i64 32))) = some (.d (.int .i64 ((s % 32 : Nat) : Int))) := by
  have e2 : ((s : Int).tmod 32) = ((s % 32 : Nat) : Int) := rfl
  rw [vBin_rem, if_neg (by decide), e2]
theorem shr_digit (x s i : Nat) (hs : s ≤ 32) (a0 a1 : Nat) (h0 : a0 = x / pw i % 4294967296) (h1 : a1 = x / pw (i + 1) % 4294967296) : (a1 * 4294967296 + a0) / 2 ^ s % 4294967296 = x / 2 ^ s / pw i % 4294967296 := by
  obtain ⟨z, hz⟩ : ∃ z, z = x / pw i := ⟨_, rfl⟩
  have e1 : x / pw (i + 1) = z / 4294967296 := by rw [hz, pw_succ, Nat.mul_comm, Nat.div_div_eq_div_mul]
  have e2 : x / 2 ^ s / pw i = z / 2 ^ s := by rw [hz, Nat.div_div_eq_div_mul, Nat.div_div_eq_div_mul, Nat.mul_comm]
  rw [e2, h0, h1, e1, ← hz]
  have hp : 2 ^ s * 2 ^ (32 - s) = 4294967296 := by rw [← Nat.pow_add, show s + (32 - s) = 32 by omega]
  have e3 : z = (z / 4294967296 % 4294967296 * 4294967296 + z % 4294967296) + 2 ^ s * (4294967296 * (2 ^ (32 - s) * (z / 4294967296 / 4294967296))) := by
    have : 2 ^ s * (4294967296 * (2 ^ (32 - s) * (z / 4294967296 / 4294967296))) = 4294967296 * (4294967296 * (z / 4294967296 / 4294967296)) := by
      rw [Nat.mul_left_comm, ← Nat.mul_assoc (2 ^ s), hp]
    rw [this]
    omega
  conv => rhs; rw [e3, Nat.add_mul_div_left _ _ (Nat.two_pow_pos s), Nat.add_mul_mod_self_left]
theorem lv_div {l : List Nat} (h : Cl l) (i : Nat) : lv l / pw i % 4294967296 = lb l i := by
  by_cases hi : i < l.length
  · rw [lv_cut l i (by omega), Nat.add_mul_div_left _ _ (pw_pos i), Nat.div_eq_of_lt, lv_drop h hi]
    · have := lb_lt h i; omega
    · have := lv_lt (l.take i)
      rw [List.length_take, Nat.min_eq_left (by omega)] at this
      exact this
  · rw [lb_out (by omega), Nat.div_eq_of_lt]
    exact Nat.lt_of_lt_of_le (lv_lt l) (pw_le (by omega))
theorem lv_dropdiv {l : List Nat} (i : Nat) (h : i ≤ l.length) : lv (l.drop i) = lv l / pw i := by
  rw [lv_cut l i h, Nat.add_mul_div_left _ _ (pw_pos i), Nat.div_eq_of_lt, Nat.zero_add]
  have := lv_lt (l.take i)
  rw [List.length_take, Nat.min_eq_left h] at this
  exact this

theorem shr_loop (a : List Nat) (ha : Cl a) (w s : Nat) (hs : s < 32) (hal : a.length ≤ 1099511627776) (hw : w < a.length) (L : Nat) (hL : L = a.length - w) :
    ∃ x e μ, EX ip nv (.code (.loop [] [] nat_shr.b0) [(0, .d (.sl 1 (us a))), (5, .d (.int .i64 (w : Int))), (6, .d (.int .i64 (s : Int))), (7, .own 21 1 0 L), (23, .d (.int .i64 (L : Int))), (24, .d (.int .i64 0))] [(21, ⟨0, false, us (List.replicate L 0)⟩)]) = some (.st x e μ) ∧ x ≠ .normal ∧
    ∃ out, x = .exit 0 ∧ e = [(0, .d (.sl 1 (us a))), (5, .d (.int .i64 (w : Int))), (6, .d (.int .i64 (s : Int))), (7, .own 21 1 0 L), (23, .d (.int .i64 (L : Int))), (24, .d (.int .i64 (L : Int))), (25, .d (.bool false))] ∧ μ = [(21, ⟨0, false, us out⟩)] ∧ out.length = L ∧ Cl out ∧ lv out = lv a / pw w / 2 ^ s := by
  refine loop_n L (fun i e μ => ∃ out, e = [(0, .d (.sl 1 (us a))), (5, .d (.int .i64 (w : Int))), (6, .d (.int .i64 (s : Int))), (7, .own 21 1 0 L), (23, .d (.int .i64 (L : Int))), (24, .d (.int .i64 (i : Int)))] ∧ μ = [(21, ⟨0, false, us out⟩)] ∧ out.length = L ∧ Cl out ∧ lv (out.take i) = lv a / pw w / 2 ^ s % pw i) ?_ ?_ ⟨_, rfl, rfl, by simp, Cl.zeros L, by simp [lv, pw, Nat.mod_one]⟩
  · rintro i e μ hi ⟨out, rfl, rfl, hlen, hc, hv⟩
    left
    have hi' : (i : Int) < L := by omega
    have l1 := lb_lt ha (i + w)
    have l2 := lb_lt ha (i + w + 1)
    have e2 := limb_ev (nv := nv) a (i + w + 1) hal (by omega)
    obtain ⟨y, hy⟩ : ∃ y, y = lb a (i + w + 1) * 4294967296 + lb a (i + w) := ⟨_, rfl⟩
    have hsh : vBin .shr (some (.d (u y))) (some (.d (.int .i64 (s : Int)))) = some (.d (u (y / 2 ^ s))) := by
      rw [u_shr (by omega) (by omega), Int.toNat_natCast]
    have hyle : y / 2 ^ s ≤ y := Nat.div_le_self _ _
    have eo := lv_take_set (x := y / 2 ^ s % 4294967296) hc (i := i) (by omega) (by omega)
    have ed := shr_digit (lv a / pw w) s i (by omega) (lb a (i + w)) (lb a (i + w + 1))
      (by rw [Nat.div_div_eq_div_mul, ← pw_add, lv_div ha, Nat.add_comm]) (by rw [Nat.div_div_eq_div_mul, ← pw_add, lv_div ha]; congr 1; omega)
    rw [← hy] at ed
    generalize hz : y / 2 ^ s = z at *
    refine ⟨[(0, .d (.sl 1 (us a))), (5, .d (.int .i64 (w : Int))), (6, .d (.int .i64 (s : Int))), (7, .own 21 1 0 L), (23, .d (.int .i64 (L : Int))), (24, .d (.int .i64 ((i + 1 : Nat) : Int)))], [(21, ⟨0, false, us (out.set i (z % 4294967296))⟩)], ?_, _, rfl, rfl, by simpa using hlen, hc.set _ (by omega), ?_⟩
    · have e2' := e2
      simp only [Int.natCast_add, Int.natCast_one] at e2'
      simp (disch := omega) [nat_shr.b0, hi', e2', ← hy, hsh]
    · rw [eo, hv, pw_succ, Nat.mul_comm 4294967296, Nat.mod_mul, ed]
  · rintro e μ ⟨out, rfl, rfl, hlen, hc, hv⟩
    rw [lv_take_all (by omega), Nat.mod_eq_of_lt] at hv
    · exact ⟨.exit 0, _, _, by simp [nat_shr.b0], by simp, out, rfl, rfl, rfl, hlen, hc, hv⟩
    · refine Nat.lt_of_le_of_lt (Nat.div_le_self _ _) ?_
      rw [Nat.div_lt_iff_lt_mul (pw_pos _), ← pw_add, hL, Nat.sub_add_cancel (by omega)]
      exact lv_lt a
theorem shr_ev (m s : Nat) (hml : (dig m).length ≤ 1099511627776) (hs : s ≤ 1099511627776000) : EX ip nv (.call F.nat_shr [.d (.sl 1 (us (dig m))), .d (.int .i64 (s : Int))] []) = some (.ret (.d (.sl 1 (us (dig (m / 2 ^ s))))) []) := by
  rw [S_call nat_shr.ip rfl]
  have e3 := quo32 s hs
  have e4 := rem32 s
  have hp : 2 ^ s = pw (s / 32) * 2 ^ (s % 32) := by
    have : pw (s / 32) = 2 ^ (32 * (s / 32)) := by rw [Nat.pow_mul]; rfl
    rw [this, ← Nat.pow_add, Nat.div_add_mod]
  by_cases h : s / 32 < (dig m).length
  · obtain ⟨_, _, _, hr, -, out, rfl, rfl, rfl, hlen, hc, hv⟩ := shr_loop (nv := nv) (dig m) (dig_cl m) (s / 32) (s % 32) (Nat.mod_lt _ (by decide)) hml h _ rfl
    rw [lv_dig, Nat.div_div_eq_div_mul, ← hp] at hv
    have ht := trim_ev (nv := nv) out (by omega) hc
    rw [hv] at ht
    have h' : ¬ ((dig m).length : Int) ≤ ((s / 32 : Nat) : Int) := by omega
    have h'' : ¬ (dig m).length ≤ s / 32 := by omega
    rw [← hlen] at hr
    have hlen' : out.length + s / 32 = (dig m).length := by omega
    generalize hW : s / 32 = W at *
    generalize hS : s % 32 = S at *
    have e5 : ((dig m).length : Int) - (W : Int) = (out.length : Int) := by omega
    simp (disch := omega) [nat_shr, e3, e4, hr, ht, h', h'', e5]
  · have h0 : m / 2 ^ s = 0 := by
      apply Nat.div_eq_of_lt
      refine Nat.lt_of_lt_of_le (dig_lt m) ?_
      rw [hp]
      exact Nat.le_trans (pw_le (by omega)) (Nat.le_mul_of_pos_right _ (Nat.two_pow_pos _))
    have h' : ((dig m).length : Int) ≤ ((s / 32 : Nat) : Int) := by omega
    have h'' : (dig m).length ≤ s / 32 := by omega
    generalize hW : s / 32 = W at *
    generalize hS : s % 32 = S at *
    simp (disch := omega) [nat_shr, e3, e4, h', h'', h0, dig_zero]
end
end Go.Proofs.YtnmbpainnkdonaaDoor
