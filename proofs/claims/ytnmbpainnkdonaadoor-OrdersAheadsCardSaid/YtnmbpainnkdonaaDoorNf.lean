/- Shifts; Knuth's division, whole; quotients. -/
import Derived.Test.YtnmbpainnkdonaaDoorNe
set_option linter.unusedSimpArgs false
set_option linter.unusedVariables false
namespace Go.Proofs.YtnmbpainnkdonaaDoor
open Go Go.Proofs.R
set_option maxRecDepth 10000
section
variable {nv : R.Nv}
theorem trim_own_loop (l : List Nat) (hl : l.length ≤ 1125899906842624) (hc : Cl l) : ∃ x e μ, EX ip nv (.code (.loop [] [] nat_trim.b0) [(0, .own 0 1 0 l.length), (3, .d (.int .i64 (l.length : Int)))] [(0, ⟨0, true, us l⟩)]) = some (.st x e μ) ∧ x ≠ .normal ∧
    ∃ j : Nat, x = .exit 0 ∧ e = [(0, .own 0 1 0 l.length), (3, .d (.int .i64 (j : Int))), (15, .d (.bool false))] ∧ μ = [(0, ⟨0, true, us l⟩)] ∧ j ≤ l.length ∧ dig (lv l) = l.take j := by
  refine loop_m (fun k e μ => e = [(0, .own 0 1 0 l.length), (3, .d (.int .i64 (k : Int)))] ∧ μ = [(0, ⟨0, true, us l⟩)] ∧ k ≤ l.length ∧ lv (l.drop k) = 0) ?_ l.length _ _ ⟨rfl, rfl, Nat.le_refl _, by simp [lv]⟩
  rintro k e μ ⟨rfl, rfl, h, h0⟩
  cases k with
  | zero => exact .inr ⟨.exit 0, [(0, .own 0 1 0 l.length), (3, .d (.int .i64 0)), (15, .d (.bool false))], [(0, ⟨0, true, us l⟩)], by simp [nat_trim.b0], by simp, 0, rfl, by simp, rfl, by omega, dig_take hc (Nat.zero_le _) h0 (.inl rfl)⟩
  | succ k =>
    have hk : (0 : Int) < (k : Int) + 1 := by omega
    by_cases hz : lb l k = 0
    · have h1 : lv (l.drop k) = 0 := by rw [lv_drop hc (by omega), hz, h0]
      exact .inl ⟨[(0, .own 0 1 0 l.length), (3, .d (.int .i64 (k : Int)))], [(0, ⟨0, true, us l⟩)], by simp (disch := omega) [nat_trim.b0, hk, hz], k, by omega, rfl, rfl, by omega, h1⟩
    · exact .inr ⟨.exit 0, [(0, .own 0 1 0 l.length), (3, .d (.int .i64 ((k + 1 : Nat) : Int))), (15, .d (.bool false))], [(0, ⟨0, true, us l⟩)], by simp (disch := omega) [nat_trim.b0, hk, hz], by simp, k + 1, rfl, rfl, rfl, h, dig_take hc h h0 (.inr (by simpa using hz))⟩
theorem trim_own_ev (l : List Nat) (hl : l.length ≤ 1125899906842624) (hc : Cl l) (h0 : 0 < lv l) : ∃ j, EX ip nv (.call F.nat_trim [.own 0 1 0 l.length] [(0, ⟨0, true, us l⟩)]) = some (.ret (.own 0 1 0 j) [(0, ⟨0, true, us l⟩)]) ∧ j ≤ l.length ∧ l.take j = dig (lv l) ∧ j = (dig (lv l)).length := by
  obtain ⟨_, _, _, ih, -, j, rfl, rfl, rfl, hj, hd⟩ := trim_own_loop (nv := nv) l hl hc
  have hj0 : j ≠ 0 := by
    rintro rfl
    simp [dig_nil] at hd
    omega
  have hj0' : ¬ (j : Int) = 0 := by omega
  refine ⟨j, ?_, hj, hd.symm, by rw [hd, List.length_take]; omega⟩
  rw [S_call nat_trim.ip rfl]
  simp (disch := omega) [nat_trim, ih, hj0, hj0']

theorem shl_loop (a : List Nat) (ha : Cl a) (w s : Nat) (hs : s < 32) (hal : a.length ≤ 1099511627776) (hw : w ≤ 1099511627776) (L : Nat) (hL : L = a.length + w + 1) :
    ∃ x e μ, EX ip nv (.code (.loop [] [] nat_shl.b0) [(5, .d (.int .i64 (w : Int))), (6, .d (.int .i64 (s : Int))), (7, .own 19 1 0 L), (20, .d (.sl 1 (us a))), (21, .d (.int .i64 (a.length : Int))), (22, .d (.int .i64 0))] [(19, ⟨0, false, us (List.replicate L 0)⟩)]) = some (.st x e μ) ∧ x ≠ .normal ∧
    ∃ out, x = .exit 0 ∧ e = [(5, .d (.int .i64 (w : Int))), (6, .d (.int .i64 (s : Int))), (7, .own 19 1 0 L), (20, .d (.sl 1 (us a))), (21, .d (.int .i64 (a.length : Int))), (22, .d (.int .i64 (a.length : Int))), (23, .d (.bool false))] ∧ μ = [(19, ⟨0, false, us out⟩)] ∧ out.length = L ∧ Cl out ∧ lv out = pw w * (2 ^ s * lv a) := by
  refine loop_n a.length (fun i e μ => ∃ out, e = [(5, .d (.int .i64 (w : Int))), (6, .d (.int .i64 (s : Int))), (7, .own 19 1 0 L), (20, .d (.sl 1 (us a))), (21, .d (.int .i64 (a.length : Int))), (22, .d (.int .i64 (i : Int)))] ∧ μ = [(19, ⟨0, false, us out⟩)] ∧ out.length = L ∧ Cl out ∧ lv out = pw w * (2 ^ s * lv (a.take i)) ∧ lb out (i + w) < 2 ^ s ∧ ∀ j, i + w < j → lb out j = 0) ?_ ?_ ⟨_, rfl, rfl, by simp, Cl.zeros L, by simp [lv, lv_zeros], ?_, fun j _ => ?_⟩
  · rintro i e μ hi ⟨out, rfl, rfl, hlen, hc, hv, hlo, hj⟩
    left
    have hi' : (i : Int) < a.length := by omega
    have l1 := lb_lt ha i
    have l2 := lb_lt hc (i + w)
    obtain ⟨y, hy⟩ : ∃ y, y = lb a i * 2 ^ s := ⟨_, rfl⟩
    have hp : 2 ^ s * 2 ^ (32 - s) = 4294967296 := by rw [← Nat.pow_add, show s + (32 - s) = 32 by omega]
    have hp0 : 0 < 2 ^ s := Nat.two_pow_pos _
    have hp2 : 2 ^ s ≤ 2147483648 := Nat.pow_le_pow_right (by decide) (show s ≤ 31 by omega)
    have hy64 : y < 18446744073709551616 := by
      have : lb a i * 2 ^ s ≤ 4294967295 * 2147483648 := Nat.mul_le_mul (by omega) hp2
      omega
    have hyB : y / 4294967296 < 2 ^ s := by
      rw [Nat.div_lt_iff_lt_mul (by decide), hy, Nat.mul_comm]
      exact Nat.mul_lt_mul_of_pos_left l1 hp0
    have hym : y % 4294967296 = 2 ^ s * (lb a i % 2 ^ (32 - s)) := by
      rw [hy, ← hp, Nat.mul_comm (lb a i), Nat.mul_mod_mul_left]
    have hk : lb a i % 2 ^ (32 - s) + 1 ≤ 2 ^ (32 - s) := Nat.mod_lt _ (Nat.two_pow_pos _)
    have hsum : lb out (i + w) + y % 4294967296 < 4294967296 := by
      have h1 : 2 ^ s * (lb a i % 2 ^ (32 - s) + 1) ≤ 2 ^ s * 2 ^ (32 - s) := Nat.mul_le_mul_left _ hk
      rw [hp, Nat.mul_add, ← hym] at h1
      omega
    have hor : vBin .or (some (.d (u (lb out (i + w))))) (some (.d (u (y % 4294967296)))) = some (.d (u (lb out (i + w) + y % 4294967296))) := by
      have := bits_or (a := lb out (i + w)) (b := y % 4294967296) (by omega) (by omega)
      rw [u, u, vBin_or, this, Nat.or_comm, hym, ← Nat.two_pow_add_eq_or_of_lt hlo, Nat.add_comm]
      rfl
    have hsh : vBin .shl (some (.d (u (lb a i)))) (some (.d (.int .i64 (s : Int)))) = some (.d (u y)) := by
      rw [u_shl (by omega) (by omega) (by rw [Int.toNat_natCast, ← hy]; exact hy64), Int.toNat_natCast, hy]
    have e1 := lv_set hc (i := i + w) (x := lb out (i + w) + y % 4294967296) (by omega) hsum
    have e2 := lv_set (hc.set (i + w) hsum) (i := i + w + 1) (x := y / 4294967296) (by simp; omega) (by omega)
    rw [lb_set_ne (by omega), hj (i + w + 1) (by omega)] at e2
    have es := pw_split (i + w) y
    have ea := lv_take_succ ha i
    refine ⟨[(5, .d (.int .i64 (w : Int))), (6, .d (.int .i64 (s : Int))), (7, .own 19 1 0 L), (20, .d (.sl 1 (us a))), (21, .d (.int .i64 (a.length : Int))), (22, .d (.int .i64 ((i + 1 : Nat) : Int)))], [(19, ⟨0, false, us ((out.set (i + w) (lb out (i + w) + y % 4294967296)).set (i + w + 1) (y / 4294967296))⟩)], ?_, _, rfl, rfl, by simpa using hlen, (hc.set _ hsum).set _ (by omega), ?_, ?_, fun j hj' => ?_⟩
    · have hl2 : (out.set (i + w) (lb out (i + w) + y % 4294967296)).length = L := by simpa using hlen
      simp (disch := omega) [nat_shl.b0, hi', hor, hsh]
    · rw [ea, Nat.mul_add, Nat.mul_add]
      have e3 : pw (i + w) * y = pw w * (2 ^ s * (pw i * lb a i)) := by
        rw [pw_add, hy]
        grind
      rw [Nat.mul_add] at e1
      omega
    · rw [show i + 1 + w = i + w + 1 by omega, lb_set_eq (by simp; omega)]; exact hyB
    · rw [lb_set_ne (by omega), lb_set_ne (by omega)]; exact hj j (by omega)
  · rintro e μ ⟨out, rfl, rfl, hlen, hc, hv, hlo, hj⟩
    rw [lv_take_all (Nat.le_refl _)] at hv
    exact ⟨.exit 0, _, _, by simp [nat_shl.b0], by simp, out, rfl, rfl, rfl, hlen, hc, hv⟩
  · simp only [lb, List.getD_eq_getElem?_getD, List.getElem?_replicate]
    have := Nat.two_pow_pos s
    split <;> simpa using this
  · simp only [lb, List.getD_eq_getElem?_getD, List.getElem?_replicate]
    split <;> rfl
/-- A shift to the left, the limbs its own. -/
theorem shl_own (m s : Nat) (hm : 0 < m) (hml : (dig m).length ≤ 1099511627776) (hs : s ≤ 1099511627776) : ∃ out j, EX ip nv (.call F.nat_shl [.d (.sl 1 (us (dig m))), .d (.int .i64 (s : Int))] []) = some (.ret (.own 19 1 0 j) [(19, ⟨0, false, us out⟩)]) ∧ j ≤ out.length ∧ out.take j = dig (m * 2 ^ s) ∧ j = (dig (m * 2 ^ s)).length ∧ out.length = (dig m).length + s / 32 + 1 := by
  obtain ⟨_, _, _, hr, -, out, rfl, rfl, rfl, hlen, hc, hv⟩ := shl_loop (nv := nv) (dig m) (dig_cl m) (s / 32) (s % 32) (Nat.mod_lt _ (by decide)) hml (by omega) _ rfl
  have hv' : lv out = m * 2 ^ s := by
    rw [hv, lv_dig]
    have : pw (s / 32) = 2 ^ (32 * (s / 32)) := by rw [Nat.pow_mul]; rfl
    rw [this, ← Nat.mul_assoc, ← Nat.pow_add, Nat.div_add_mod, Nat.mul_comm]
  have h0 : 0 < m * 2 ^ s := Nat.mul_pos hm (Nat.two_pow_pos _)
  obtain ⟨j, ht, hj, htk, hjl⟩ := trim_own_ev (nv := nv) out (by omega) hc (by omega)
  rw [hv'] at htk hjl
  refine ⟨out, j, ?_, hj, htk, hjl, hlen⟩
  rw [S_call nat_shl.ip rfl]
  have e1 : ((s : Int).tdiv 32) = ((s / 32 : Nat) : Int) := rfl
  have e2 : ((s : Int).tmod 32) = ((s % 32 : Nat) : Int) := rfl
  have e3 : vBin .quo (some (.d (.int .i64 (s : Int)))) (some (.d (.int .i64 32))) = some (.d (.int .i64 ((s / 32 : Nat) : Int))) := by
    rw [vBin_quo, if_neg (by decide), e1, i64_wrap (by omega) (by omega)]
  have e4 : vBin .rem (some (.d (.int .i64 (s : Int)))) (some (.d (.int .i64 32))) = some (.d (.int .i64 ((s % 32 : Nat) : Int))) := by
    rw [vBin_rem, if_neg (by decide), e2]
  rw [← hlen] at hr
  generalize hW : s / 32 = W at *
  generalize hS : s % 32 = S at *
  simp (disch := omega) [nat_shl, e3, e4, hr, ht, ← hlen]
end
end Go.Proofs.YtnmbpainnkdonaaDoor
