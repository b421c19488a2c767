/- Shifts; Knuth's division, whole; quotients. -/
import Derived.Test.YtgigaimaaijalaaDoorNa
set_option linter.unusedSimpArgs false
set_option linter.unusedVariables false
namespace Go.Proofs.YtgigaimaaijalaaDoor
open Go Go.Proofs.R
set_option maxRecDepth 10000
section
variable {nv : R.Nv}
theorem trim_own_loop (l : List Nat) (hl : l.length ≤ 1125899906842624) (hc : Cl l) : ∃ x e μ, EX ip nv (.code (.loop [] [] nat_trim.b0) [(0, .own 0 1 0 l.length), (3, .d (.int .i64 (l.length : Int)))] [(0, ⟨0, true, us l⟩)]) = some (.st x e μ) ∧ x ≠ .normal ∧
    ∃ j : Nat, x = .exit 0 ∧ e = [(0, .own 0 1 0 l.length), (3, .d (.int .i64 (j : Int))), (15, .d (.bool false))] ∧ μ = [(0, ⟨0, true, us l⟩)] ∧ j ≤ l.length ∧ dig (lv l) = l.take j := by
  refine loop_m (fun k e μ => e = [(0, .own 0 1 0 l.length), (3, .d (.int .i64 (k : Int)))] ∧ μ = [(0, ⟨0, true, us l⟩)] ∧ k ≤ l.length ∧ lv (l.drop k) = 0) ?_ l.length _ _ ⟨rfl, rfl, Nat.le_refl _, by simp [lv]⟩
  rintro k e μ ⟨rfl, rfl, h, h0⟩
  cases k with
  | zero => exact .inr ⟨.exit 0, [(0, .own 0 1 0 l.length), (3, .d (.int .i64 0)), (15, .d (.bool false))], [(0, ⟨0, true, us l⟩)], by simp [nat_trim.b0], by simp, 0, rfl, by simp, rfl, by omega, dig_take hc (Nat.zero_le _) h0 (.inl rfl)⟩
  | succ k =>
    have hk : (0 : Int) < (k : Int) + 1 := by omega
    by_cases hz : lb l k = 0
    · have h1 : lv (l.drop k) = 0 := by rw [lv_drop hc (by omega), hz, h0]
      exact .inl ⟨[(0, .own 0 1 0 l.length), (3, .d (.int .i64 (k : Int)))], [(0, ⟨0, true, us l⟩)], by simp (disch := omega) [nat_trim.b0, hk, hz], k, by omega, rfl, rfl, by omega, h1⟩
    · exact .inr ⟨.exit 0, [(0, .own 0 1 0 l.length), (3, .d (.int .i64 ((k + 1 : Nat) : Int))), (15, .d (.bool false))], [(0, ⟨0, true, us l⟩)], by simp (disch := omega) [nat_trim.b0, hk, hz], by simp, k + 1, rfl, rfl, rfl, h, dig_take hc h h0 (.inr (by simpa using hz))⟩
theorem trim_own_ev (l : List Nat) (hl : l.length ≤ 1125899906842624) (hc : Cl l) (h0 : 0 < lv l) : ∃ j, EX ip nv (.call F.nat_trim [.own 0 1 0 l.length] [(0, ⟨0, true, us l⟩)]) = some (.ret (.own 0 1 0 j) [(0, ⟨0, true, us l⟩)]) ∧ j ≤ l.length ∧ l.take j = dig (lv l) ∧ j = (dig (lv l)).length := by
  obtain ⟨_, _, _, ih, -, j, rfl, rfl, rfl, hj, hd⟩ := trim_own_loop (nv := nv) l hl hc
  have hj0 : j ≠ 0 := by
    rintro rfl
    simp [dig_nil] at hd
    omega
  have hj0' : ¬ (j : Int) = 0 := by omega
  refine ⟨j, ?_, hj, hd.symm, by rw [hd, List.length_take]; omega⟩
  rw [S_call nat_trim.ip rfl]
  simp (disch := omega) [nat_trim, ih, hj0, hj0']

theorem shl_loop (a : List Nat) (ha : Cl a) (w s : Nat) (hs : s < 32) (hal : a.length ≤ 1099511627776) (hw : w ≤ 1099511627776) (L : Nat) (hL : L = a.length + w + 1) :
    ∃ x e μ, EX ip nv (.code (.loop [] [] nat_shl.b0) [(5, .d (.int .i64 (w : Int))), (6, .d (.int .i64 (s : Int))), (7, .own 19 1 0 L), (20, .d (.sl 1 (us a))), (21, .d (.int .i64 (a.length : Int))), (22, .d (.int .i64 0))] [(19, ⟨0, false, us (List.replicate L 0)⟩)]) = some (.st x e μ) ∧ x ≠ .normal ∧
    ∃ out, x = .exit 0 ∧ e = [(5, .d (.int .i64 (w : Int))), (6, .d (.int .i64 (s : Int))), (7, .own 19 1 0 L), (20, .d (.sl 1 (us a))), (21, .d (.int .i64 (a.length : Int))), (22, .d (.int .i64 (a.length : Int))), (23, .d (.bool false))] ∧ μ = [(19, ⟨0, false, us out⟩)] ∧ out.length = L ∧ Cl out ∧ lv out = pw w * (2 ^ s * lv a) := by
  refine loop_n a.length (fun i e μ => ∃ out, e = [(5, .d (.int .i64 (w : Int))), (6, .d (.int .i64 (s : Int))), (7, .own 19 1 0 L), (20, .d (.sl 1 (us a))), (21, .d (.int .i64 (a.length : Int))), (22, .d (.int .i64 (i : Int)))] ∧ μ = [(19, ⟨0, false, us out⟩)] ∧ out.length = L ∧ Cl out ∧ lv out = pw w * (2 ^ s * lv (a.take i)) ∧ lb out (i + w) < 2 ^ s ∧ ∀ j, i + w < j → lb out j = 0) ?_ ?_ ⟨_, rfl, rfl, by simp, Cl.zeros L, by simp [lv, lv_zeros], ?_, fun j _ => ?_⟩
  · rintro i e μ hi ⟨out, rfl, rfl, hlen, hc, hv, hlo, hj⟩
    left
    have hi' : (i : Int) < a.length := by omega
    have l1 := lb_lt ha i
    have l2 := lb_lt hc (i + w)
    obtain ⟨y, hy⟩ : ∃ y, y = lb a i * 2 ^ s := ⟨_, rfl⟩
    have hp : 2 ^ s * 2 ^ (32 - s) = 4294967296 := by rw [← Nat.pow_add, show s + (32 - s) = 32 by omega]
    have hp0 : 0 < 2 ^ s := Nat.two_pow_pos _
    have hp2 : 2 ^ s ≤ 2147483648 := Nat.pow_le_pow_right (by decide) (show s ≤ 31 by omega)
    have hy64 : y < 18446744073709551616 := by
      have : lb a i * 2 ^ s ≤ 4294967295 * 2147483648 := Nat.mul_le_mul (by omega) hp2
      omega
    have hyB : y / 4294967296 < 2 ^ s := by
      rw [Nat.div_lt_iff_lt_mul (by decide), hy, Nat.mul_comm]
      exact Nat.mul_lt_mul_of_pos_left l1 hp0
    have hym : y % 4294967296 = 2 ^ s * (lb a i % 2 ^ (32 - s)) := by
      rw [hy, ← hp, Nat.mul_comm (lb a i), Nat.mul_mod_mul_left]
    have hk : lb a i % 2 ^ (32 - s) + 1 ≤ 2 ^ (32 - s) := Nat.mod_lt _ (Nat.two_pow_pos _)
    have hsum : lb out (i + w) + y % 4294967296 < 4294967296 := by
      have h1 : 2 ^ s * (lb a i % 2 ^ (32 - s) + 1) ≤ 2 ^ s * 2 ^ (32 - s) := Nat.mul_le_mul_left _ hk
      rw [hp, Nat.mul_add, ← hym] at h1
      omega
    have hor : vBin .or (some (.d (u (lb out (i + w))))) (some (.d (u (y % 4294967296)))) = some (.d (u (lb out (i + w) + y % 4294967296))) := by
      have := bits_or (a := lb out (i + w)) (b := y % 4294967296) (by omega) (by omega)
      rw [u, u, vBin_or, this, Nat.or_comm, hym, ← Nat.two_pow_add_eq_or_of_lt hlo, Nat.add_comm]
      rfl
    have hsh : vBin .shl (some (.d (u (lb a i)))) (some (.d (.int .i64 (s : Int)))) = some (.d (u y)) := by
      rw [u_shl (by omega) (by omega) (by rw [Int.toNat_natCast, ← hy]; exact hy64), Int.toNat_natCast, hy]
    have e1 := lv_set hc (i := i + w) (x := lb out (i + w) + y % 4294967296) (by omega) hsum
    have e2 := lv_set (hc.set (i + w) hsum) (i := i + w + 1) (x := y / 4294967296) (by simp; omega) (by omega)
    rw [lb_set_ne (by omega), hj (i + w + 1) (by omega)] at e2
    have es := pw_split (i + w) y
    have ea := lv_take_succ ha i
    refine ⟨[(5, .d (.int .i64 (w : Int))), (6, .d (.int .i64 (s : Int))), (7, .own 19 1 0 L), (20, .d (.sl 1 (us a))), (21, .d (.int .i64 (a.length : Int))), (22, .d (.int .i64 ((i + 1 : Nat) : Int)))], [(19, ⟨0, false, us ((out.set (i + w) (lb out (i + w) + y % 4294967296)).set (i + w + 1) (y / 4294967296))⟩)], ?_, _, rfl, rfl, by simpa using hlen, (hc.set _ hsum).set _ (by omega), ?_, ?_, fun j hj' => ?_⟩
    · have hl2 : (out.set (i + w) (lb out (i + w) + y % 4294967296)).length = L := by simpa using hlen
      simp (disch := omega) [nat_shl.b0, hi', hor, hsh]
    · rw [ea, Nat.mul_add, Nat.mul_add]
      have e3 : pw (i + w) * y = pw w * (2 ^ s * (pw i * lb a i)) := by
        rw [pw_add, hy]
        grind
      rw [Nat.mul_add] at e1
      omega
    · rw [show i + 1 + w = i + w + 1 by omega, lb_set_eq (by simp; omega)]; exact hyB
    · rw [lb_set_ne (by omega), lb_set_ne (by omega)]; exact hj j (by omega)
  · rintro e μ ⟨out, rfl, rfl, hlen, hc, hv, hlo, hj⟩
    rw [lv_take_all (Nat.le_refl _)] at hv
    exact ⟨.exit 0, _, _, by simp [nat_shl.b0], by simp, out, rfl, rfl, rfl, hlen, hc, hv⟩
  · simp only [lb, List.getD_eq_getElem?_getD, List.getElem?_replicate]
    have := Nat.two_pow_pos s
    split <;> simpa using this
  · simp only [lb, List.getD_eq_getElem?_getD, List.getElem?_replicate]
    split <;> rfl
/-- A shift to the left, the limbs its own. -/
theorem shl_own (m s : Nat) (hm : 0 < m) (hml : (dig m).length ≤ 1099511627776) (hs : s ≤ 1099511627776) : ∃ out j, EX ip nv (.call F.nat_shl [.d (.sl 1 (us (dig m))), .d (.int .i64 (s : Int))] []) = some (.ret (.own 19 1 0 j) [(19, ⟨0, false, us out⟩)]) ∧ j ≤ out.length ∧ out.take j = dig (m * 2 ^ s) ∧ j = (dig (m * 2 ^ s)).length ∧ out.length = (dig m).length + s / 32 + 1 := by
  obtain ⟨_, _, _, hr, -, out, rfl, rfl, rfl, hlen, hc, hv⟩ := shl_loop (nv := nv) (dig m) (dig_cl m) (s / 32) (s % 32) (Nat.mod_lt _ (by decide)) hml (by omega) _ rfl
  have hv' : lv out = m * 2 ^ s := by
    rw [hv, lv_dig]
    have : pw (s / 32) = 2 ^ (32 * (s / 32)) := by rw [Nat.pow_mul]; rfl
    rw [this, ← Nat.mul_assoc, ← Nat.pow_add, Nat.div_add_mod, Nat.mul_comm]
  have h0 : 0 < m * 2 ^ s := Nat.mul_pos hm (Nat.two_pow_pos _)
  obtain ⟨j, ht, hj, htk, hjl⟩ := trim_own_ev (nv := nv) out (by omega) hc (by omega)
  rw [hv'] at htk hjl
  refine ⟨out, j, ?_, hj, htk, hjl, hlen⟩
  rw [S_call nat_shl.ip rfl]
  have e1 : ((s : Int).tdiv 32) = ((s / 32 : Nat) : Int) := rfl
  have e2 : ((s : Int).tmod 32) = ((s % 32 : Nat) : Int) := rfl
  have e3 : vBin .quo (some (.d (.int .i64 (s : Int)))) (some (.d (.int .i64 32))) = some (.d (.int .i64 ((s / 32 : Nat) : Int))) := by
    rw [vBin_quo, if_neg (by decide), e1, i64_wrap (by omega) (by omega)]
  have e4 : vBin .rem (some (.d (.int .i64 (s : Int)))) (some (.d (.int .i64 32))) = some (.d (.int .i64 ((s % 32 : Nat) : Int))) := by
    rw [vBin_rem, if_neg (by decide), e2]
  rw [← hlen] at hr
  generalize hW : s / 32 = W at *
  generalize hS : s % 32 = S at *
  simp (disch := omega) [nat_shl, e3, e4, hr, ht, ← hlen]
end
end Go.Proofs.YtgigaimaaijalaaDoor

/-! Shifts to the right; Knuth's division, whole; quotients. -/
namespace Go.Proofs.YtgigaimaaijalaaDoor
open Go Go.Proofs.R
set_option maxRecDepth 10000
section
variable {nv : R.Nv}
theorem quo32 (s : Nat) (h : s ≤ 1099511627776000) : vBin .quo (some (.d (.int .i64 (s : Int)))) (some (.d (.int .i64 32))) = some (.d (.int .i64 ((s / 32 : Nat) : Int))) := by
  have e1 : ((s : Int).tdiv 32) = ((s / 32 : Nat) : Int) := rfl
  rw [vBin_quo, if_neg (by decide), e1, i64_wrap (by omega) (by omega)]
theorem rem32 (s : Nat) : vBin .rem (some (.d (.int .i64 (s : Int)))) (some (.d (.int .i64 32))) = some (.d (.int .i64 ((s % 32 : Nat) : Int))) := by
  have e2 : ((s : Int).tmod 32) = ((s % 32 : Nat) : Int) := rfl
  rw [vBin_rem, if_neg (by decide), e2]
theorem shr_digit (x s i : Nat) (hs : s ≤ 32) (a0 a1 : Nat) (h0 : a0 = x / pw i % 4294967296) (h1 : a1 = x / pw (i + 1) % 4294967296) : (a1 * 4294967296 + a0) / 2 ^ s % 4294967296 = x / 2 ^ s / pw i % 4294967296 := by
  obtain ⟨z, hz⟩ : ∃ z, z = x / pw i := ⟨_, rfl⟩
  have e1 : x / pw (i + 1) = z / 4294967296 := by rw [hz, pw_succ, Nat.mul_comm, Nat.div_div_eq_div_mul]
  have e2 : x / 2 ^ s / pw i = z / 2 ^ s := by rw [hz, Nat.div_div_eq_div_mul, Nat.div_div_eq_div_mul, Nat.mul_comm]
  rw [e2, h0, h1, e1, ← hz]
  have hp : 2 ^ s * 2 ^ (32 - s) = 4294967296 := by rw [← Nat.pow_add, show s + (32 - s) = 32 by omega]
  have e3 : z = (z / 4294967296 % 4294967296 * 4294967296 + z % 4294967296) + 2 ^ s * (4294967296 * (2 ^ (32 - s) * (z / 4294967296 / 4294967296))) := by
    have : 2 ^ s * (4294967296 * (2 ^ (32 - s) * (z / 4294967296 / 4294967296))) = 4294967296 * (4294967296 * (z / 4294967296 / 4294967296)) := by
      rw [Nat.mul_left_comm, ← Nat.mul_assoc (2 ^ s), hp]
    rw [this]
    omega
  conv => rhs; rw [e3, Nat.add_mul_div_left _ _ (Nat.two_pow_pos s), Nat.add_mul_mod_self_left]
theorem lv_div {l : List Nat} (h : Cl l) (i : Nat) : lv l / pw i % 4294967296 = lb l i := by
  by_cases hi : i < l.length
  · rw [lv_cut l i (by omega), Nat.add_mul_div_left _ _ (pw_pos i), Nat.div_eq_of_lt, lv_drop h hi]
    · have := lb_lt h i; omega
    · have := lv_lt (l.take i)
      rw [List.length_take, Nat.min_eq_left (by omega)] at this
      exact this
  · rw [lb_out (by omega), Nat.div_eq_of_lt]
    exact Nat.lt_of_lt_of_le (lv_lt l) (pw_le (by omega))
theorem lv_dropdiv {l : List Nat} (i : Nat) (h : i ≤ l.length) : lv (l.drop i) = lv l / pw i := by
  rw [lv_cut l i h, Nat.add_mul_div_left _ _ (pw_pos i), Nat.div_eq_of_lt, Nat.zero_add]
  have := lv_lt (l.take i)
  rw [List.length_take, Nat.min_eq_left h] at this
  exact this

theorem shr_loop (a : List Nat) (ha : Cl a) (w s : Nat) (hs : s < 32) (hal : a.length ≤ 1099511627776) (hw : w < a.length) (L : Nat) (hL : L = a.length - w) :
    ∃ x e μ, EX ip nv (.code (.loop [] [] nat_shr.b0) [(0, .d (.sl 1 (us a))), (5, .d (.int .i64 (w : Int))), (6, .d (.int .i64 (s : Int))), (7, .own 21 1 0 L), (23, .d (.int .i64 (L : Int))), (24, .d (.int .i64 0))] [(21, ⟨0, false, us (List.replicate L 0)⟩)]) = some (.st x e μ) ∧ x ≠ .normal ∧
    ∃ out, x = .exit 0 ∧ e = [(0, .d (.sl 1 (us a))), (5, .d (.int .i64 (w : Int))), (6, .d (.int .i64 (s : Int))), (7, .own 21 1 0 L), (23, .d (.int .i64 (L : Int))), (24, .d (.int .i64 (L : Int))), (25, .d (.bool false))] ∧ μ = [(21, ⟨0, false, us out⟩)] ∧ out.length = L ∧ Cl out ∧ lv out = lv a / pw w / 2 ^ s := by
  refine loop_n L (fun i e μ => ∃ out, e = [(0, .d (.sl 1 (us a))), (5, .d (.int .i64 (w : Int))), (6, .d (.int .i64 (s : Int))), (7, .own 21 1 0 L), (23, .d (.int .i64 (L : Int))), (24, .d (.int .i64 (i : Int)))] ∧ μ = [(21, ⟨0, false, us out⟩)] ∧ out.length = L ∧ Cl out ∧ lv (out.take i) = lv a / pw w / 2 ^ s % pw i) ?_ ?_ ⟨_, rfl, rfl, by simp, Cl.zeros L, by simp [lv, pw, Nat.mod_one]⟩
  · rintro i e μ hi ⟨out, rfl, rfl, hlen, hc, hv⟩
    left
    have hi' : (i : Int) < L := by omega
    have l1 := lb_lt ha (i + w)
    have l2 := lb_lt ha (i + w + 1)
    have e2 := limb_ev (nv := nv) a (i + w + 1) hal (by omega)
    obtain ⟨y, hy⟩ : ∃ y, y = lb a (i + w + 1) * 4294967296 + lb a (i + w) := ⟨_, rfl⟩
    have hsh : vBin .shr (some (.d (u y))) (some (.d (.int .i64 (s : Int)))) = some (.d (u (y / 2 ^ s))) := by
      rw [u_shr (by omega) (by omega), Int.toNat_natCast]
    have hyle : y / 2 ^ s ≤ y := Nat.div_le_self _ _
    have eo := lv_take_set (x := y / 2 ^ s % 4294967296) hc (i := i) (by omega) (by omega)
    have ed := shr_digit (lv a / pw w) s i (by omega) (lb a (i + w)) (lb a (i + w + 1))
      (by rw [Nat.div_div_eq_div_mul, ← pw_add, lv_div ha, Nat.add_comm]) (by rw [Nat.div_div_eq_div_mul, ← pw_add, lv_div ha]; congr 1; omega)
    rw [← hy] at ed
    generalize hz : y / 2 ^ s = z at *
    refine ⟨[(0, .d (.sl 1 (us a))), (5, .d (.int .i64 (w : Int))), (6, .d (.int .i64 (s : Int))), (7, .own 21 1 0 L), (23, .d (.int .i64 (L : Int))), (24, .d (.int .i64 ((i + 1 : Nat) : Int)))], [(21, ⟨0, false, us (out.set i (z % 4294967296))⟩)], ?_, _, rfl, rfl, by simpa using hlen, hc.set _ (by omega), ?_⟩
    · have e2' := e2
      simp only [Int.natCast_add, Int.natCast_one] at e2'
      simp (disch := omega) [nat_shr.b0, hi', e2', ← hy, hsh]
    · rw [eo, hv, pw_succ, Nat.mul_comm 4294967296, Nat.mod_mul, ed]
  · rintro e μ ⟨out, rfl, rfl, hlen, hc, hv⟩
    rw [lv_take_all (by omega), Nat.mod_eq_of_lt] at hv
    · exact ⟨.exit 0, _, _, by simp [nat_shr.b0], by simp, out, rfl, rfl, rfl, hlen, hc, hv⟩
    · refine Nat.lt_of_le_of_lt (Nat.div_le_self _ _) ?_
      rw [Nat.div_lt_iff_lt_mul (pw_pos _), ← pw_add, hL, Nat.sub_add_cancel (by omega)]
      exact lv_lt a
theorem shr_ev (m s : Nat) (hml : (dig m).length ≤ 1099511627776) (hs : s ≤ 1099511627776000) : EX ip nv (.call F.nat_shr [.d (.sl 1 (us (dig m))), .d (.int .i64 (s : Int))] []) = some (.ret (.d (.sl 1 (us (dig (m / 2 ^ s))))) []) := by
  rw [S_call nat_shr.ip rfl]
  have e3 := quo32 s hs
  have e4 := rem32 s
  have hp : 2 ^ s = pw (s / 32) * 2 ^ (s % 32) := by
    have : pw (s / 32) = 2 ^ (32 * (s / 32)) := by rw [Nat.pow_mul]; rfl
    rw [this, ← Nat.pow_add, Nat.div_add_mod]
  by_cases h : s / 32 < (dig m).length
  · obtain ⟨_, _, _, hr, -, out, rfl, rfl, rfl, hlen, hc, hv⟩ := shr_loop (nv := nv) (dig m) (dig_cl m) (s / 32) (s % 32) (Nat.mod_lt _ (by decide)) hml h _ rfl
    rw [lv_dig, Nat.div_div_eq_div_mul, ← hp] at hv
    have ht := trim_ev (nv := nv) out (by omega) hc
    rw [hv] at ht
    have h' : ¬ ((dig m).length : Int) ≤ ((s / 32 : Nat) : Int) := by omega
    have h'' : ¬ (dig m).length ≤ s / 32 := by omega
    rw [← hlen] at hr
    have hlen' : out.length + s / 32 = (dig m).length := by omega
    generalize hW : s / 32 = W at *
    generalize hS : s % 32 = S at *
    have e5 : ((dig m).length : Int) - (W : Int) = (out.length : Int) := by omega
    simp (disch := omega) [nat_shr, e3, e4, hr, ht, h', h'', e5]
  · have h0 : m / 2 ^ s = 0 := by
      apply Nat.div_eq_of_lt
      refine Nat.lt_of_lt_of_le (dig_lt m) ?_
      rw [hp]
      exact Nat.le_trans (pw_le (by omega)) (Nat.le_mul_of_pos_right _ (Nat.two_pow_pos _))
    have h' : ((dig m).length : Int) ≤ ((s / 32 : Nat) : Int) := by omega
    have h'' : (dig m).length ≤ s / 32 := by omega
    generalize hW : s / 32 = W at *
    generalize hS : s % 32 = S at *
    simp (disch := omega) [nat_shr, e3, e4, h', h'', h0, dig_zero]
end
end Go.Proofs.YtgigaimaaijalaaDoor

/-! Knuth's division, whole; quotients and rests. -/
namespace Go.Proofs.YtgigaimaaijalaaDoor
open Go Go.Proofs.R
set_option maxRecDepth 10000
section
variable {nv : R.Nv}
/-- A window of a row of limbs. -/
theorem win_split {l : List Nat} {j n : Nat} (h : j + n ≤ l.length) : l = l.take j ++ (l.drop j).take n ++ l.drop (j + n) := by
  rw [List.append_assoc]
  conv => lhs; rw [← List.take_append_drop j l]
  congr 1
  conv => lhs; rw [← List.take_append_drop n (l.drop j)]
  rw [List.drop_drop]
theorem app_len3 (p w q : List Nat) : (p ++ w ++ q).length = p.length + w.length + q.length := by simp; omega
theorem lv_win (p w q : List Nat) : lv (p ++ w ++ q) = lv p + pw p.length * (lv w + pw w.length * lv q) := by
  rw [List.append_assoc, lv_append, lv_append]

theorem long_loop (v ov : List Nat) (n s pv la lq : Nat) (hn : 2 ≤ n) (hov : ov.take n = v) (hnl : n ≤ ov.length) (hvn : v.length = n) (hv : Cl v) (htop : lb v (n - 1) ≠ 0) (M : Nat) (Lu : Nat) (hlq : lq + n = la + 1) (hla : la + 1 ≤ Lu) (hLu : Lu ≤ 4398046511104) (hnb : n ≤ 1099511627776) (hpv : pv = 0 ∨ pv = n)
    (U : List Nat) (hU : Cl U) (hUL : U.length = Lu) (hUM : lv U = M) (hlt : lv (U.drop lq) < lv v) (hsi : s < 32) :
    ∃ x e μ, EX ip nv (.code (.loop [] [] nat_long.b0) [(6, .d (.int .i64 (s : Int))), (7, .own 22 1 0 n), (8, .own 25 1 0 (la + 1)), (9, .d (.int .i64 (n : Int))), (10, .own 38 1 0 lq), (11, .d (.int .i64 ((lq : Int) - 1)))] [(22, ⟨pv, false, us ov⟩), (25, ⟨0, false, us U⟩), (38, ⟨0, false, us (List.replicate lq 0)⟩)]) = some (.st x e μ) ∧ x ≠ .normal ∧
    ∃ U' Q pv', x = .exit 0 ∧ e = [(6, .d (.int .i64 (s : Int))), (7, .own 22 1 0 n), (8, .own 25 1 0 (la + 1)), (9, .d (.int .i64 (n : Int))), (10, .own 38 1 0 lq), (11, .d (.int .i64 (-1))), (43, .d (.bool false))] ∧ μ = [(22, ⟨pv', false, us ov⟩), (25, ⟨0, false, us U'⟩), (38, ⟨0, false, us Q⟩)] ∧ U'.length = Lu ∧ Cl U' ∧ Q.length = lq ∧ Cl Q ∧ lv U' < lv v ∧ lv U' + lv v * lv Q = M := by
  refine loop_m (fun k e μ => ∃ U' Q pv', e = [(6, .d (.int .i64 (s : Int))), (7, .own 22 1 0 n), (8, .own 25 1 0 (la + 1)), (9, .d (.int .i64 (n : Int))), (10, .own 38 1 0 lq), (11, .d (.int .i64 ((k : Int) - 1)))] ∧ μ = [(22, ⟨pv', false, us ov⟩), (25, ⟨0, false, us U'⟩), (38, ⟨0, false, us Q⟩)] ∧ U'.length = Lu ∧ Cl U' ∧ Q.length = lq ∧ Cl Q ∧ k ≤ lq ∧ (pv' = 0 ∨ pv' = n) ∧ (∀ i, i < k → lb Q i = 0) ∧ lv (U'.drop k) < lv v ∧ lv U' + lv v * lv Q = M) ?_ lq _ _ ⟨U, List.replicate lq 0, pv, rfl, rfl, hUL, hU, by simp, Cl.zeros lq, Nat.le_refl _, hpv, fun i _ => ?_, hlt, by simp [lv_zeros, hUM]⟩
  · rintro k e μ ⟨U', Q, pv', rfl, rfl, q1, q2, q3, q4, hk, hpv', q5, q6, q7⟩
    cases k with
    | zero => exact .inr ⟨.exit 0, [(6, .d (.int .i64 (s : Int))), (7, .own 22 1 0 n), (8, .own 25 1 0 (la + 1)), (9, .d (.int .i64 (n : Int))), (10, .own 38 1 0 lq), (11, .d (.int .i64 (-1))), (43, .d (.bool false))], _, by simp [nat_long.b0], by simp, U', Q, pv', rfl, rfl, rfl, q1, q2, q3, q4, by simpa using q6, q7⟩
    | succ j =>
      have hsplit := win_split (l := U') (j := j) (n := n + 1) (by omega)
      obtain ⟨p, hp⟩ : ∃ p, p = U'.take j := ⟨_, rfl⟩
      obtain ⟨w, hw⟩ : ∃ w, w = (U'.drop j).take (n + 1) := ⟨_, rfl⟩
      obtain ⟨q, hq⟩ : ∃ q, q = U'.drop (j + (n + 1)) := ⟨_, rfl⟩
      rw [← hp, ← hw, ← hq] at hsplit
      have hpl : p.length = j := by rw [hp, List.length_take]; omega
      have hwl : w.length = n + 1 := by rw [hw, List.length_take, List.length_drop]; omega
      have hwc : Cl w := by rw [hw]; exact (q2.drop j).take _
      have hpc : Cl p := by rw [hp]; exact q2.take _
      have hqc : Cl q := by rw [hq]; exact q2.drop _
      have hdj : U'.drop j = w ++ q := by
        conv => lhs; rw [hsplit]
        rw [List.append_assoc, List.drop_append_of_le_length (by omega), List.drop_of_length_le (by omega), List.nil_append]
      have hWlt : lv (U'.drop j) < 4294967296 * lv v := by
        rw [lv_drop q2 (by omega)]
        have := lb_lt q2 j
        omega
      have hvlt := lv_lt v
      rw [hvn] at hvlt
      have hq0 : lv q = 0 := by
        rw [hdj, lv_append, hwl, pw_succ] at hWlt
        rcases Nat.eq_zero_or_pos (lv q) with h | h
        · exact h
        · exfalso
          have h1 : 4294967296 * pw n * 1 ≤ 4294967296 * pw n * lv q := Nat.mul_le_mul_left _ h
          omega
      have hwW : lv w = lv (U'.drop j) := by rw [hdj, lv_append, hq0, Nat.mul_zero, Nat.add_zero]
      have hV0 : 0 < lv v := by omega
      obtain ⟨w', d1, d2, d3, d4⟩ := digit_ev (nv := nv) p w q v hwc hv (by omega) (by omega) (by rw [hvn]; exact htop) (by rw [hwW]; exact hWlt) U' hsplit (by omega) (by omega)
      have hqB : lv w / lv v < 4294967296 := by rw [Nat.div_lt_iff_lt_mul hV0, hwW]; exact hWlt
      have hmod := Nat.mod_lt (lv w) hV0
      have hdm := Nat.div_add_mod (lv w) (lv v)
      have hl' : (p ++ w' ++ q).length = Lu := by rw [app_len3, d2, ← app_len3, ← hsplit, q1]
      have e1 := lv_win p w' q
      have e2 := lv_win p w q
      rw [← hsplit] at e2
      rw [hq0, Nat.mul_zero, Nat.add_zero] at e1 e2
      have e3 := lv_set q4 (i := j) (x := lv w / lv v) (by omega) hqB
      rw [q5 j (by omega), Nat.mul_zero, Nat.add_zero] at e3
      have hdrop' : (p ++ w' ++ q).drop j = w' ++ q := by
        rw [List.append_assoc, List.drop_append_of_le_length (by omega), List.drop_of_length_le (by omega), List.nil_append]
      rw [hpl, hwl] at d1
      rw [← hov] at d1
      refine .inl ⟨[(6, .d (.int .i64 (s : Int))), (7, .own 22 1 0 n), (8, .own 25 1 0 (la + 1)), (9, .d (.int .i64 (n : Int))), (10, .own 38 1 0 lq), (11, .d (.int .i64 ((j : Int) - 1)))], [(22, ⟨max pv' n, false, us ov⟩), (25, ⟨0, false, us (p ++ w' ++ q)⟩), (38, ⟨0, false, us (Q.set j (lv w / lv v))⟩)], ?_, j, by omega, _, _, _, rfl, rfl, hl', ?_, by simpa using q3, q4.set _ hqB, by omega, by omega, fun i hi => ?_, ?_, ?_⟩
      · rw [← hov]
        generalize lv w / lv (List.take n ov) = z at *
        have e9 : j + n + 1 - j = n + 1 := by omega
        simp (disch := omega) [-List.append_assoc, nat_long.b0, d1, e9]
      · rw [Cl.append, Cl.append]; exact ⟨⟨hpc, d3⟩, hqc⟩
      · rw [lb_set_ne (by omega)]; exact q5 i (by omega)
      · rw [hdrop', lv_append, hq0, Nat.mul_zero, Nat.add_zero, d4]; exact hmod
      · rw [e1, e3, d4, ← q7, e2, hpl, Nat.mul_add]
        have : pw j * lv w = pw j * (lv w % lv v) + lv v * (pw j * (lv w / lv v)) := by
          conv => lhs; rw [← hdm]
          rw [Nat.mul_add, Nat.mul_left_comm]
          omega
        omega
  · simp only [lb, List.getD_eq_getElem?_getD, List.getElem?_replicate]
    split <;> rfl

theorem long_ev (m n : Nat) (hn2 : 2 ≤ (dig n).length) (hmn : n ≤ m) (hml : (dig m).length ≤ 1099511627775) : EX ip nv (.call F.nat_long [.d (.sl 1 (us (dig m))), .d (.sl 1 (us (dig n)))] []) = some (.ret (.tp [.d (.sl 1 (us (dig (m / n)))), .d (.sl 1 (us (dig (m % n))))]) []) := by
  have hn0 : 0 < n := dig_len_pos.1 (by omega)
  have hnl : (dig n).length ≤ (dig m).length := dig_len_mono hmn
  have htop := dig_last hn0
  have htl := lb_lt (dig_cl n) ((dig n).length - 1)
  obtain ⟨s, s1, s2, s3⟩ := lz32_ev (nv := nv) (lb (dig n) ((dig n).length - 1)) htl (by omega)
  obtain ⟨ov, jv, v1, v2, v3, v4, v5⟩ := shl_own (nv := nv) n s hn0 (by omega) (by omega)
  obtain ⟨ou, ju, u1, u2, u3, u4, u5⟩ := shl_own (nv := nv) m s (by omega) (by omega) (by omega)
  have h2s : 0 < 2 ^ s := Nat.two_pow_pos s
  have hp31 : 2 ^ s ≤ 4294967296 := Nat.le_trans (Nat.pow_le_pow_right (by decide) (show s ≤ 32 by omega)) (by decide)
  -- the divisor keeps its length
  have hjv : jv = (dig n).length := by
    have h1 : n * 2 ^ s < pw (dig n).length := by
      have e := lv_cut (dig n) ((dig n).length - 1) (by omega)
      rw [lv_drop (dig_cl n) (by omega), List.drop_of_length_le (by omega), lv_dig] at e
      simp only [lv, Nat.mul_zero, Nat.add_zero] at e
      have hl := lv_lt ((dig n).take ((dig n).length - 1))
      rw [List.length_take, Nat.min_eq_left (by omega)] at hl
      have h3 : lb (dig n) ((dig n).length - 1) * 2 ^ s + 2 ^ s ≤ 4294967296 := by
        have hp : 2 ^ s * 2 ^ (32 - s) = 4294967296 := by rw [← Nat.pow_add, show s + (32 - s) = 32 by omega]
        rw [← hp, Nat.mul_comm] at s2
        have := Nat.lt_of_mul_lt_mul_left s2
        have h4 : 2 ^ s * (lb (dig n) ((dig n).length - 1) + 1) ≤ 2 ^ s * 2 ^ (32 - s) := Nat.mul_le_mul_left _ this
        rw [hp, Nat.mul_add, Nat.mul_comm] at h4
        omega
      obtain ⟨k, hk⟩ : ∃ k, (dig n).length = k + 1 := ⟨(dig n).length - 1, by omega⟩
      rw [hk, pw_succ]
      rw [hk, Nat.add_sub_cancel] at hl e h3
      calc n * 2 ^ s = lv ((dig n).take k) * 2 ^ s + pw k * (lb (dig n) k * 2 ^ s) := by conv => lhs; rw [e]
                                                                                         rw [Nat.add_mul, Nat.mul_assoc]
        _ < pw k * 2 ^ s + pw k * (lb (dig n) k * 2 ^ s) := Nat.add_lt_add_right (Nat.mul_lt_mul_of_pos_right hl h2s) _
        _ = pw k * (lb (dig n) k * 2 ^ s + 2 ^ s) := by rw [Nat.mul_add]; omega
        _ ≤ pw k * 4294967296 := Nat.mul_le_mul_left _ h3
        _ = _ := Nat.mul_comm _ _
    have h2 := dig_len_le.2 h1
    have h3 : (dig n).length ≤ (dig (n * 2 ^ s)).length := dig_len_mono (Nat.le_mul_of_pos_right _ h2s)
    omega
  have hju : ju ≤ (dig m).length + 1 := by
    rw [u4]
    apply dig_len_le.2
    rw [pw_succ]
    calc m * 2 ^ s < pw (dig m).length * 2 ^ s := Nat.mul_lt_mul_of_pos_right (dig_lt m) h2s
      _ ≤ pw (dig m).length * 4294967296 := Nat.mul_le_mul_left _ hp31
      _ = _ := Nat.mul_comm _ _
  have hju2 : (dig m).length ≤ ju := by rw [u4]; exact dig_len_mono (Nat.le_mul_of_pos_right _ h2s)
  obtain ⟨U, hU⟩ : ∃ U, U = ou.take ju ++ [0, 0] := ⟨_, rfl⟩
  have hUL : U.length = ju + 2 := by rw [hU]; simp; omega
  have hUc : Cl U := by rw [hU, u3, Cl.append]; exact ⟨dig_cl _, by simp [Cl]⟩
  have hUM : lv U = m * 2 ^ s := by rw [hU, u3, lv_append, lv_dig]; simp [lv]
  obtain ⟨lq, hlq⟩ : ∃ lq, lq + (dig n).length = (dig m).length + 1 := ⟨(dig m).length + 1 - (dig n).length, by omega⟩
  have hV : lv (ov.take jv) = n * 2 ^ s := by rw [v3, lv_dig]
  have hlt : lv (U.drop lq) < lv (ov.take jv) := by
    rw [lv_dropdiv _ (by omega), hUM, hV, Nat.div_lt_iff_lt_mul (pw_pos _)]
    have h1 := dig_ge hn0
    calc m * 2 ^ s < pw (dig m).length * 2 ^ s := Nat.mul_lt_mul_of_pos_right (dig_lt m) h2s
      _ = pw ((dig n).length - 1) * pw lq * 2 ^ s := by rw [← pw_add]; congr 2; omega
      _ ≤ n * pw lq * 2 ^ s := Nat.mul_le_mul_right _ (Nat.mul_le_mul_right _ h1)
      _ = n * 2 ^ s * pw lq := by rw [Nat.mul_assoc, Nat.mul_comm (pw lq), ← Nat.mul_assoc]
  have hvt : lb (ov.take jv) (jv - 1) ≠ 0 := by
    rw [v3, v4]; exact dig_last (Nat.mul_pos hn0 h2s)
  obtain ⟨_, _, _, hr, -, U', Q, pv', rfl, rfl, rfl, r1, r2, r3, r4, r5, r6⟩ := long_loop (nv := nv) (ov.take jv) ov jv s 0 (dig m).length lq (by omega) rfl v2 (by rw [List.length_take]; omega) (by rw [v3]; exact dig_cl _) hvt (m * 2 ^ s) (ju + 2) (by omega) (by omega) (by omega) (by omega) (.inl rfl) U hUc hUL hUM hlt s1
  rw [hV] at r5 r6
  have hn2s : 0 < n * 2 ^ s := Nat.mul_pos hn0 h2s
  have hQ : lv Q = m / n := by
    have : lv Q = m * 2 ^ s / (n * 2 ^ s) := by
      rw [← r6, Nat.add_mul_div_left _ _ hn2s, Nat.div_eq_of_lt r5, Nat.zero_add]
    rw [this, Nat.mul_div_mul_right _ _ h2s]
  have hR : lv U' = m % n * 2 ^ s := by
    rw [← Nat.mul_mod_mul_right, ← r6, Nat.add_mul_mod_self_left, Nat.mod_eq_of_lt r5]
  have hb := mul_le_pw (s := s) hmn (dig_lt m) hp31
  have hUlt := Nat.lt_of_lt_of_le r5 hb
  have hUt := lv_take_lt (by omega) hUlt
  have t1 := trim_ev (nv := nv) Q (by omega) r4
  have t2 := trim_ev (nv := nv) (U'.take ((dig m).length + 1)) (by rw [List.length_take]; omega) (r2.take _)
  rw [hUt, hR] at t2
  rw [hQ] at t1
  have hmr : (dig (m % n * 2 ^ s)).length ≤ (dig m).length + 1 := by
    rw [← hR]
    exact dig_len_le.2 hUlt
  have t3 := shr_ev (nv := nv) (m % n * 2 ^ s) s (by omega) (by omega)
  rw [Nat.mul_div_cancel _ h2s] at t3
  rw [S_call nat_long.ip rfl]
  subst hjv
  rw [← r3] at hr
  have e1 : ((dig m).length : Int) + 1 - (((dig n).length : Nat) : Int) = (Q.length : Int) := by omega
  generalize hw1 : m / n = w1 at *
  generalize hw2 : m % n = w2 at *
  simp (disch := omega) [-List.append_assoc, nat_long, s3, v1, u1, ← hU, e1, hr, t1, t2, t3]
end
end Go.Proofs.YtgigaimaaijalaaDoor

/-! Quotients and rests; the greatest common divisor. -/
namespace Go.Proofs.YtgigaimaaijalaaDoor
open Go Go.Proofs.R
set_option maxRecDepth 10000
section
variable {nv : R.Nv}
theorem dig_len1 {n : Nat} (h : (dig n).length = 1) : dig n = [n] ∧ n < 4294967296 ∧ 0 < n := by
  have h0 : 0 < n := dig_len_pos.1 (by omega)
  have h1 : n < 4294967296 := by
    have := dig_len_le.1 (show (dig n).length ≤ 1 by omega)
    simpa [pw] using this
  refine ⟨?_, h1, h0⟩
  rw [dig_pos (by omega), Nat.mod_eq_of_lt h1, Nat.div_eq_of_lt h1, dig_zero]
theorem divmod_ev (a b : List Nat) (ha : Rw a) (hb : Rw b) (hal : a.length ≤ 1099511627775) : EX ip nv (.call F.nat_DivMod [.d (.sl 1 (us a)), .d (.sl 1 (us b))] []) = some (.ret (if lv b = 0 then .tp [.d (.sl 1 []), .d (.sl 1 []), .d (.int .i64 2)] else .tp [.d (.sl 1 (us (dig (lv a / lv b)))), .d (.sl 1 (us (dig (lv a % lv b)))), .d (.int .i64 0)]) []) := by
  rw [S_call nat_DivMod.ip rfl]
  have h1 := lv_len ha
  have h2 := lv_len hb
  have := ha.2
  have := hb.2
  have ca := clean_ev (nv := nv) a ha
  have cb := clean_ev (nv := nv) b hb
  have ho := order_ev (nv := nv) (lv a) (lv b) (by omega) (by omega)
  generalize lv a = m at *
  generalize lv b = n at *
  by_cases hz : n = 0
  · subst hz
    simp (disch := omega) [nat_DivMod, ca, cb, dig_zero]
  · have hn0 : 0 < n := by omega
    have hlp := dig_len_pos.2 hn0
    have hne : ¬ dig n = [] := by rw [dig_nil]; exact hz
    by_cases hlt : m < n
    · have e1 : m / n = 0 := Nat.div_eq_of_lt hlt
      have e2 : m % n = m := Nat.mod_eq_of_lt hlt
      simp (disch := omega) [nat_DivMod, ca, cb, hz, hne, ho, cmpI, hlt, e1, e2, dig_zero]
    · have hc : ¬ cmpI m n < 0 := by simp only [cmpI, if_neg hlt]; split <;> omega
      by_cases hl1 : (dig n).length = 1
      · obtain ⟨d1, d2, d3⟩ := dig_len1 hl1
        have hs := small_ev (nv := nv) m n (by omega) d3 d2
        have hof := of_ev (nv := nv) (m % n) (by have := Nat.mod_lt m hn0; omega)
        have l0 : lb [n] 0 = n := rfl
        rw [d1] at cb ho
        generalize m / n = q at *
        generalize m % n = r at *
        simp (disch := first | omega | simp) [nat_DivMod, ca, cb, hz, ho, hc, hs, hof, l0]
      · have hl1' : ¬ ((dig n).length : Int) = 1 := by omega
        have hlg := long_ev (nv := nv) m n (by omega) (by omega) (by omega)
        generalize m / n = q at *
        generalize m % n = r at *
        simp (disch := omega) [nat_DivMod, ca, cb, hz, hne, ho, hc, hl1, hl1', hlg]
theorem rest_ev (m n : Nat) (hm : (dig m).length ≤ 1099511627775) (hn : (dig n).length ≤ 1099511627775) (h0 : 0 < n) : EX ip nv (.call F.nat_rest [.d (.sl 1 (us (dig m))), .d (.sl 1 (us (dig n)))] []) = some (.ret (.tp [.d (.sl 1 (us (dig (m / n)))), .d (.sl 1 (us (dig (m % n))))]) []) := by
  rw [S_call nat_rest.ip rfl]
  have hd := divmod_ev (nv := nv) (dig m) (dig n) (dig_rw (by omega)) (dig_rw (by omega)) hm
  rw [lv_dig, lv_dig, if_neg (by omega)] at hd
  generalize m / n = q at *
  generalize m % n = r at *
  simp [nat_rest, hd]

/-- The native entry for trailing zeros. -/
def TzOk (nv : R.Nv) : Prop := ∀ x, 0 < x → x < 18446744073709551616 → ∃ z : Nat, z ≤ 63 ∧ x % 2 ^ z = 0 ∧ x / 2 ^ z % 2 = 1 ∧ nv F.bits_TrailingZeros64 [.d (u x)] [] = some (.d (.int .i64 (z : Int)), [])
theorem tz_ev (hz : TzOk nv) (x : Nat) (h0 : 0 < x) (h : x < 18446744073709551616) : ∃ z : Nat, z ≤ 63 ∧ x % 2 ^ z = 0 ∧ x / 2 ^ z % 2 = 1 ∧ EX ip nv (.call F.bits_TrailingZeros64 [.d (u x)] []) = some (.ret (.d (.int .i64 (z : Int))) []) := by
  obtain ⟨z, z1, z2, z3, z4⟩ := hz x h0 h
  exact ⟨z, z1, z2, z3, by rw [EX_nat rfl, z4]; rfl⟩
theorem zeros_loop (hz : TzOk nv) (a : List Nat) (ha : Cl a) (hal : a.length ≤ 1099511627776) (h0 : 0 < lv a) :
    ∃ x e μ, EX ip nv (.code (.loop [] [] nat_zeros.b0) [(3, .d (.int .i64 0)), (6, .d (.sl 1 (us a))), (7, .d (.int .i64 (a.length : Int))), (8, .d (.int .i64 0))] []) = some (.st x e μ) ∧ x ≠ .normal ∧
    ∃ z : Nat, x = .ret ∧ e = [(2, .d (.int .i64 (z : Int)))] ∧ μ = [] ∧ z ≤ 32 * a.length + 63 ∧ lv a % 2 ^ z = 0 ∧ lv a / 2 ^ z % 2 = 1 := by
  refine loop_n a.length (fun i e μ => e = [(3, .d (.int .i64 ((32 * i : Nat) : Int))), (6, .d (.sl 1 (us a))), (7, .d (.int .i64 (a.length : Int))), (8, .d (.int .i64 (i : Int)))] ∧ μ = [] ∧ lv (a.take i) = 0) ?_ ?_ ⟨by simp, rfl, by simp [lv]⟩
  · rintro i e μ hi ⟨rfl, rfl, hv⟩
    have hi' : (i : Int) < a.length := by omega
    have l1 := lb_lt ha i
    by_cases hx : lb a i = 0
    · left
      refine ⟨[(3, .d (.int .i64 ((32 * (i + 1) : Nat) : Int))), (6, .d (.sl 1 (us a))), (7, .d (.int .i64 (a.length : Int))), (8, .d (.int .i64 ((i + 1 : Nat) : Int)))], [], ?_, rfl, rfl, ?_⟩
      · have e1 : 32 * ((i : Int) + 1) = 32 * (i : Int) + 32 := by omega
        simp (disch := omega) [nat_zeros.b0, hi', hx, e1]
      · rw [lv_take_succ ha, hv, hx]; simp
    · right
      obtain ⟨z, z1, z2, z3, z4⟩ := tz_ev hz (lb a i) (by omega) (by omega)
      refine ⟨.ret, [(2, .d (.int .i64 ((32 * i + z : Nat) : Int)))], [], ?_, by simp, 32 * i + z, rfl, rfl, rfl, by omega, ?_⟩
      · simp (disch := omega) [nat_zeros.b0, hi', hx, z4]
      · have hz32 : z < 32 := by
          rcases Nat.lt_or_ge z 32 with h | h
          · exact h
          · exfalso
            have : lb a i / 2 ^ z = 0 := Nat.div_eq_of_lt (Nat.lt_of_lt_of_le l1 (show 2 ^ 32 ≤ 2 ^ z from Nat.pow_le_pow_right (by decide) h))
            rw [this] at z3; cases z3
        have hp : 2 ^ z * (2 * 2 ^ (31 - z)) = 4294967296 := by rw [← Nat.pow_succ', ← Nat.pow_add, show z + (31 - z + 1) = 32 by omega]
        have ev : lv a = pw i * (lb a i + 4294967296 * lv (a.drop (i + 1))) := by
          rw [lv_cut a i (by omega), hv, lv_drop ha hi, Nat.zero_add]
        have e2 : 2 ^ (32 * i + z) = pw i * 2 ^ z := by rw [Nat.pow_add, Nat.pow_mul]; rfl
        have e3 : lb a i = 2 ^ z * (lb a i / 2 ^ z) := by have := Nat.div_add_mod (lb a i) (2 ^ z); omega
        have e4 : lv a = pw i * 2 ^ z * (lb a i / 2 ^ z + 2 * (2 ^ (31 - z) * lv (a.drop (i + 1)))) := by
          rw [ev, ← hp]
          conv => lhs; rw [e3]
          rw [Nat.mul_assoc (pw i), Nat.mul_add (2 ^ z), Nat.mul_assoc (2 ^ z), Nat.mul_assoc 2]
        rw [e2, e4, Nat.mul_mod_right, Nat.mul_div_cancel_left _ (Nat.mul_pos (pw_pos i) (Nat.two_pow_pos z)), Nat.add_mul_mod_self_left]
        exact ⟨rfl, z3⟩
  · rintro e μ ⟨rfl, rfl, hv⟩
    rw [lv_take_all (Nat.le_refl _)] at hv
    omega
theorem zeros_ev (hz : TzOk nv) (m : Nat) (h0 : 0 < m) (hm : (dig m).length ≤ 1099511627776) : ∃ z : Nat, z ≤ 32 * (dig m).length + 63 ∧ m % 2 ^ z = 0 ∧ m / 2 ^ z % 2 = 1 ∧ EX ip nv (.call F.nat_zeros [.d (.sl 1 (us (dig m)))] []) = some (.ret (.d (.int .i64 (z : Int))) []) := by
  obtain ⟨_, _, _, hr, -, z, rfl, rfl, rfl, q1, q2, q3⟩ := zeros_loop hz (dig m) (dig_cl m) hm (by rw [lv_dig]; exact h0)
  rw [lv_dig] at q2 q3
  refine ⟨z, q1, q2, q3, ?_⟩
  rw [S_call nat_zeros.ip rfl]
  simp [nat_zeros, hr]
end
end Go.Proofs.YtgigaimaaijalaaDoor

/-! The greatest common divisor. -/
namespace Go.Proofs.YtgigaimaaijalaaDoor
open Go Go.Proofs.R
set_option maxRecDepth 10000
theorem coprime_two_pow {b : Nat} (h : b % 2 = 1) (z : Nat) : Nat.Coprime (2 ^ z) b := by
  apply Nat.Coprime.pow_left
  rw [Nat.Coprime, Nat.gcd_rec, h]; rfl
theorem gcd_odd {a b : Nat} (h : b % 2 = 1) (z : Nat) : Nat.gcd (2 ^ z * a) b = Nat.gcd a b := (coprime_two_pow h z).gcd_mul_left_cancel a
theorem odd_part {m z : Nat} (h : m % 2 ^ z = 0) : m = 2 ^ z * (m / 2 ^ z) := by have := Nat.div_add_mod m (2 ^ z); omega
theorem gcd_two {a b x y : Nat} (ha : a % 2 = 1) (hb : b % 2 = 1) : Nat.gcd (2 ^ x * a) (2 ^ y * b) = Nat.gcd a b * 2 ^ min x y := by
  rcases Nat.le_total x y with h | h
  · rw [Nat.min_eq_left h, show 2 ^ y * b = 2 ^ x * (2 ^ (y - x) * b) by rw [← Nat.mul_assoc, ← Nat.pow_add, Nat.add_sub_cancel' h], Nat.gcd_mul_left, Nat.gcd_comm a, gcd_odd ha, Nat.gcd_comm b, Nat.mul_comm]
  · rw [Nat.min_eq_right h, show 2 ^ x * a = 2 ^ y * (2 ^ (x - y) * a) by rw [← Nat.mul_assoc, ← Nat.pow_add, Nat.add_sub_cancel' h], Nat.gcd_mul_left, gcd_odd hb, Nat.mul_comm]
section
variable {nv : R.Nv}
theorem gcd_step (hz : TzOk nv) (A B x y : Nat) (h : B < A) (hA : A % 2 = 1) (hB : B % 2 = 1) (hl : (dig A).length ≤ 1099511627775) (hx : x ≤ 1099511627776) (hy : y ≤ 1099511627776) (e : Env)
    (he : e = [(0, .d (.sl 1 (us (dig A)))), (1, .d (.sl 1 (us (dig B)))), (5, .d (.int .i64 (x : Int))), (6, .d (.int .i64 (y : Int)))] ∨ e = [(0, .d (.sl 1 (us (dig B)))), (1, .d (.sl 1 (us (dig A)))), (5, .d (.int .i64 (x : Int))), (6, .d (.int .i64 (y : Int)))]) :
    (∃ a', EX ip nv (.code nat_Gcd.b1 e []) = some (.st .normal [(0, .d (.sl 1 (us (dig a')))), (1, .d (.sl 1 (us (dig B)))), (5, .d (.int .i64 (x : Int))), (6, .d (.int .i64 (y : Int)))] []) ∧ a' % 2 = 1 ∧ a' < A ∧ Nat.gcd a' B = Nat.gcd A B) ∨
    (EX ip nv (.code nat_Gcd.b1 e []) = some (.st .ret [(4, .d (.sl 1 (us (dig (Nat.gcd A B * 2 ^ min x y)))))] [])) := by
  have hlB : (dig B).length ≤ (dig A).length := dig_len_mono (by omega)
  have hBp : 0 < B := by omega
  have o1 := order_ev (nv := nv) A B (by omega) (by omega)
  have o2 := order_ev (nv := nv) B A (by omega) (by omega)
  have c1 : cmpI A B = 1 := by simp only [cmpI]; rw [if_neg (by omega), if_pos h]
  have c2 : cmpI B A = -1 := by simp only [cmpI]; rw [if_pos h]
  rw [c1] at o1
  rw [c2] at o2
  by_cases hlen : (dig B).length + 1 < (dig A).length
  · have hlen' : ((dig B).length : Int) + 1 < ((dig A).length : Int) := by omega
    have hr := rest_ev (nv := nv) A B hl (by omega) hBp
    by_cases h0 : A % B = 0
    · right
      obtain ⟨out, j, s1, s2, s3, s4, s5⟩ := shl_own (nv := nv) B (min x y) hBp (by omega) (by omega)
      have hg : Nat.gcd A B = B := by rw [Nat.gcd_comm, Nat.gcd_rec, h0, Nat.gcd_zero_left]
      rw [h0, dig_zero] at hr
      generalize A / B = q at *
      rw [hg]
      rcases he with rfl | rfl
      · simp (disch := omega) [nat_Gcd.b1, o1, hlen', hr, s1, s3]
      · simp (disch := omega) [nat_Gcd.b1, o2, hlen', hr, s1, s3]
    · left
      have hmlt := Nat.mod_lt A hBp
      have hg : Nat.gcd (A % B) B = Nat.gcd A B := by rw [Nat.gcd_comm A B, Nat.gcd_rec B A]
      obtain ⟨z, z1, z2, z3, z4⟩ := zeros_ev hz (A % B) (by omega) (by have := dig_len_mono (show A % B ≤ A by omega); omega)
      have hs := shr_ev (nv := nv) (A % B) z (by have := dig_len_mono (show A % B ≤ A by omega); omega) (by have := dig_len_mono (show A % B ≤ A by omega); omega)
      have hop := odd_part z2
      refine ⟨A % B / 2 ^ z, ?_, z3, ?_, ?_⟩
      · have hne : ¬ dig (A % B) = [] := by rw [dig_nil]; exact h0
        generalize A / B = q at *
        generalize A % B = r at *
        generalize r / 2 ^ z = r' at *
        rcases he with rfl | rfl
        · simp (disch := omega) [nat_Gcd.b1, o1, hlen', hr, hne, z4, hs]
        · simp (disch := omega) [nat_Gcd.b1, o2, hlen', hr, hne, z4, hs]
      · exact Nat.lt_of_le_of_lt (Nat.div_le_self _ _) (by omega)
      · conv => rhs; rw [← hg, hop]
        rw [gcd_odd hB]
  · left
    have hlen' : ¬ ((dig B).length : Int) + 1 < ((dig A).length : Int) := by omega
    have hm := minus_ev (nv := nv) A B (by omega) (by omega)
    have hll : (dig (A - B)).length ≤ (dig A).length := dig_len_mono (by omega)
    obtain ⟨z, z1, z2, z3, z4⟩ := zeros_ev hz (A - B) (by omega) (by omega)
    have hs := shr_ev (nv := nv) (A - B) z (by omega) (by omega)
    have hop := odd_part z2
    have hg : Nat.gcd (A - B) B = Nat.gcd A B := Nat.gcd_sub_self_left (by omega)
    refine ⟨(A - B) / 2 ^ z, ?_, z3, ?_, ?_⟩
    · generalize (A - B) / 2 ^ z = r' at *
      rcases he with rfl | rfl
      · simp (disch := omega) [nat_Gcd.b1, o1, hlen', hm, z4, hs]
      · simp (disch := omega) [nat_Gcd.b1, o2, hlen', hm, z4, hs]
    · exact Nat.lt_of_le_of_lt (Nat.div_le_self _ _) (by omega)
    · conv => rhs; rw [← hg, hop]
      rw [gcd_odd hB]
theorem gcd_loop (hz : TzOk nv) (G x y L : Nat) (hL : L ≤ 1099511627775) (hx : x ≤ 1099511627776) (hy : y ≤ 1099511627776) (a b : Nat) (ha : a % 2 = 1) (hb : b % 2 = 1) (hal : (dig a).length ≤ L) (hbl : (dig b).length ≤ L) (hG : Nat.gcd a b = G) :
    ∃ x' e μ, EX ip nv (.code (.loop [] [] nat_Gcd.b1) [(0, .d (.sl 1 (us (dig a)))), (1, .d (.sl 1 (us (dig b)))), (5, .d (.int .i64 (x : Int))), (6, .d (.int .i64 (y : Int)))] []) = some (.st x' e μ) ∧ x' ≠ .normal ∧
    (x' = .ret ∧ e = [(4, .d (.sl 1 (us (dig (G * 2 ^ min x y)))))] ∧ μ = []) := by
  refine loop_m (fun k e μ => ∃ a b, e = [(0, .d (.sl 1 (us (dig a)))), (1, .d (.sl 1 (us (dig b)))), (5, .d (.int .i64 (x : Int))), (6, .d (.int .i64 (y : Int)))] ∧ μ = [] ∧ k = a + b ∧ a % 2 = 1 ∧ b % 2 = 1 ∧ (dig a).length ≤ L ∧ (dig b).length ≤ L ∧ Nat.gcd a b = G) ?_ (a + b) _ _ ⟨a, b, rfl, rfl, rfl, ha, hb, hal, hbl, hG⟩
  rintro k e μ ⟨a, b, rfl, rfl, rfl, ha, hb, hal, hbl, hG⟩
  rcases Nat.lt_trichotomy a b with h | h | h
  · rcases gcd_step hz b a x y h hb ha (by omega) hx hy _ (.inr rfl) with ⟨a', s1, s2, s3, s4⟩ | s1
    · have := dig_len_mono (show a' ≤ b by omega)
      exact .inl ⟨_, _, s1, a' + a, by omega, a', a, rfl, rfl, rfl, s2, ha, by omega, hal, by rw [s4, Nat.gcd_comm, hG]⟩
    · rw [Nat.gcd_comm, hG] at s1
      exact .inr ⟨_, _, _, s1, by simp, rfl, rfl, rfl⟩
  · subst h
    right
    rw [Nat.gcd_self] at hG
    subst hG
    have o1 := order_ev (nv := nv) a a (by omega) (by omega)
    have c1 : cmpI a a = 0 := by simp [cmpI]
    rw [c1] at o1
    obtain ⟨out, j, s1, s2, s3, s4, s5⟩ := shl_own (nv := nv) a (min x y) (by omega) (by omega) (by omega)
    refine ⟨.ret, [(4, .d (.sl 1 (us (dig (a * 2 ^ min x y)))))], [], ?_, by simp, rfl, rfl, rfl⟩
    simp (disch := omega) [nat_Gcd.b1, o1, s1, s3]
  · rcases gcd_step hz a b x y h ha hb (by omega) hx hy _ (.inl rfl) with ⟨a', s1, s2, s3, s4⟩ | s1
    · have := dig_len_mono (show a' ≤ a by omega)
      exact .inl ⟨_, _, s1, a' + b, by omega, a', b, rfl, rfl, rfl, s2, hb, by omega, hbl, by rw [s4, hG]⟩
    · rw [hG] at s1
      exact .inr ⟨_, _, _, s1, by simp, rfl, rfl, rfl⟩
theorem euclid_loop (x y : Nat) (hx : x < 18446744073709551616) (hy : y < 18446744073709551616) :
    ∃ x' e μ, EX ip nv (.code (.loop [] [] nat_euclid.b0) [(5, .d (u x)), (7, .d (u y))] []) = some (.st x' e μ) ∧ x' ≠ .normal ∧
    (x' = .exit 0 ∧ e = [(5, .d (u (Nat.gcd x y))), (7, .d (u 0)), (20, .d (.bool false))] ∧ μ = []) := by
  refine loop_m (fun k e μ => ∃ a, e = [(5, .d (u a)), (7, .d (u k))] ∧ μ = [] ∧ a < 18446744073709551616 ∧ k < 18446744073709551616 ∧ Nat.gcd a k = Nat.gcd x y) ?_ y _ _ ⟨x, rfl, rfl, hx, hy, rfl⟩
  rintro k e μ ⟨a, rfl, rfl, ha, hk, hg⟩
  by_cases h0 : k = 0
  · subst h0
    rw [Nat.gcd_zero_right] at hg
    subst hg
    exact .inr ⟨.exit 0, [(5, .d (u (Nat.gcd x y))), (7, .d (u 0)), (20, .d (.bool false))], [], by simp [nat_euclid.b0], by simp, rfl, rfl, rfl⟩
  · have hm := Nat.mod_lt a (show 0 < k by omega)
    refine .inl ⟨[(5, .d (u k)), (7, .d (u (a % k)))], [], ?_, a % k, hm, k, rfl, rfl, hk, by omega, by rw [← hg, Nat.gcd_comm a k, Nat.gcd_comm k, Nat.gcd_rec k a]⟩
    simp (disch := omega) [nat_euclid.b0, h0, u_rem]
theorem euclid_ev (m n : Nat) (hm : m < 18446744073709551616) (hn : n < 18446744073709551616) (hml : (dig m).length ≤ 2) (hnl : (dig n).length ≤ 2) : EX ip nv (.call F.nat_euclid [.d (.sl 1 (us (dig m))), .d (.sl 1 (us (dig n)))] []) = some (.ret (.d (.sl 1 (us (dig (Nat.gcd m n))))) []) := by
  have h1 := to_ev (nv := nv) (dig m) (dig_rw (by omega)) (by rw [lv_dig]; exact hm)
  have h2 := to_ev (nv := nv) (dig n) (dig_rw (by omega)) (by rw [lv_dig]; exact hn)
  rw [lv_dig] at h1 h2
  obtain ⟨_, _, _, hr, -, rfl, rfl, rfl⟩ := euclid_loop (nv := nv) m n hm hn
  have hg : Nat.gcd m n < 18446744073709551616 := by
    rcases Nat.eq_zero_or_pos m with h | h
    · subst h; rw [Nat.gcd_zero_left]; exact hn
    · exact Nat.lt_of_le_of_lt (Nat.gcd_le_left n h) hm
  have h3 := of_ev (nv := nv) (Nat.gcd m n) hg
  rw [S_call nat_euclid.ip rfl]
  simp [nat_euclid, h1, h2, hr, h3]
theorem gcd_ev (hz : TzOk nv) (a b : List Nat) (ha : Rw a) (hb : Rw b) (hal : a.length ≤ 1073741824) (hbl : b.length ≤ 1073741824) : EX ip nv (.call F.nat_Gcd [.d (.sl 1 (us a)), .d (.sl 1 (us b))] []) = some (.ret (.d (.sl 1 (us (dig (Nat.gcd (lv a) (lv b)))))) []) := by
  rw [S_call nat_Gcd.ip rfl]
  have h1 := lv_len ha
  have h2 := lv_len hb
  have ca := clean_ev (nv := nv) a ha
  have cb := clean_ev (nv := nv) b hb
  generalize lv a = m at *
  generalize lv b = n at *
  by_cases hm : m = 0
  · subst hm
    rw [dig_zero] at ca
    simp (disch := omega) [nat_Gcd, ca, cb]
  · have hme : ¬ dig m = [] := by rw [dig_nil]; exact hm
    by_cases hn : n = 0
    · subst hn
      rw [dig_zero] at cb
      simp (disch := omega) [nat_Gcd, ca, cb, hme]
    · have hne : ¬ dig n = [] := by rw [dig_nil]; exact hn
      by_cases hs : (dig m).length ≤ 2 ∧ (dig n).length ≤ 2
      · have hm64 : m < 18446744073709551616 := by have := dig_len_le.1 hs.1; simpa [pw] using this
        have hn64 : n < 18446744073709551616 := by have := dig_len_le.1 hs.2; simpa [pw] using this
        have he := euclid_ev (nv := nv) m n hm64 hn64 hs.1 hs.2
        have c1 : ((dig m).length : Int) ≤ 2 := by omega
        have c2 : ((dig n).length : Int) ≤ 2 := by omega
        simp (disch := omega) [nat_Gcd, ca, cb, hme, hne, hs.1, hs.2, c1, c2, he]
      · obtain ⟨x, x1, x2, x3, x4⟩ := zeros_ev hz m (by omega) (by omega)
        obtain ⟨y, y1, y2, y3, y4⟩ := zeros_ev hz n (by omega) (by omega)
        have sx := shr_ev (nv := nv) m x (by omega) (by omega)
        have sy := shr_ev (nv := nv) n y (by omega) (by omega)
        have lx := dig_len_mono (Nat.div_le_self m (2 ^ x))
        have ly := dig_len_mono (Nat.div_le_self n (2 ^ y))
        have hg : Nat.gcd m n = Nat.gcd (m / 2 ^ x) (n / 2 ^ y) * 2 ^ min x y := by
          conv => lhs; rw [odd_part x2, odd_part y2]
          exact gcd_two x3 y3
        obtain ⟨_, _, _, hr, -, rfl, rfl, rfl⟩ := gcd_loop hz (Nat.gcd (m / 2 ^ x) (n / 2 ^ y)) x y (2 * 1073741824) (by omega) (by omega) (by omega) (m / 2 ^ x) (n / 2 ^ y) x3 y3 (by omega) (by omega) rfl
        rw [hg]
        generalize Nat.gcd (m / 2 ^ x) (n / 2 ^ y) = G at *
        generalize m / 2 ^ x = m' at *
        generalize n / 2 ^ y = n' at *
        by_cases c1 : (dig m).length ≤ 2
        · have c2 : ¬ (dig n).length ≤ 2 := fun h => hs ⟨c1, h⟩
          have c1' : ((dig m).length : Int) ≤ 2 := by omega
          have c2' : ¬ ((dig n).length : Int) ≤ 2 := by omega
          simp (disch := omega) [nat_Gcd, ca, cb, hme, hne, c1, c2, c1', c2', x4, y4, sx, sy, hr]
        · have c1' : ¬ ((dig m).length : Int) ≤ 2 := by omega
          simp (disch := omega) [nat_Gcd, ca, cb, hme, hne, c1, c1', x4, y4, sx, sy, hr]
end
end Go.Proofs.YtgigaimaaijalaaDoor
