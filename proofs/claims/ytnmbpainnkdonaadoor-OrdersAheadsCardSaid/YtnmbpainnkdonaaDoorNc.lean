/- Products, quotients by a limb, small numbers. -/
import Derived.Test.YtnmbpainnkdonaaDoorNb
set_option linter.unusedSimpArgs false
set_option linter.unusedVariables false
namespace Go.Proofs.YtnmbpainnkdonaaDoor
open Go Go.Proofs.R
set_option maxRecDepth 10000
section
variable {nv : R.Nv}
theorem mul_inner (b : List Nat) (hb : Cl b) (x i : Nat) (hx : x < 4294967296) (L : Nat) (hL : i + b.length < L) (hL2 : L ≤ 4398046511104) (rest : Env) (a : List Nat) (na : Nat) (out0 : List Nat) (h0 : out0.length = L) (hc0 : Cl out0) :
    ∃ y e μ, EX ip nv (.code (.loop [] [] nat_Mul.b2) [(1, .d (.sl 1 (us b))), (5, .own 20 1 0 L), (6, .d (.int .i64 (i : Int))), (7, .d (u x)), (8, .d (u 0)), (21, .d (.sl 1 (us a))), (22, .d (.int .i64 (na : Int))), (23, .d (.int .i64 (i : Int))), (28, .d (.sl 1 (us b))), (29, .d (.int .i64 (b.length : Int))), (30, .d (.int .i64 0))] [(20, ⟨0, false, us out0⟩)]) = some (.st y e μ) ∧ y ≠ .normal ∧
    ∃ out c, y = .exit 2 ∧ e = [(1, .d (.sl 1 (us b))), (5, .own 20 1 0 L), (6, .d (.int .i64 (i : Int))), (7, .d (u x)), (8, .d (u c)), (21, .d (.sl 1 (us a))), (22, .d (.int .i64 (na : Int))), (23, .d (.int .i64 (i : Int))), (28, .d (.sl 1 (us b))), (29, .d (.int .i64 (b.length : Int))), (30, .d (.int .i64 (b.length : Int))), (31, .d (.bool false))] ∧ μ = [(20, ⟨0, false, us out⟩)] ∧
      out.length = L ∧ Cl out ∧ c < 4294967296 ∧ lv out + pw (i + b.length) * c = lv out0 + pw i * (x * lv b) ∧ ∀ j, i + b.length ≤ j → lb out j = lb out0 j := by
  refine loop_n b.length (fun k e μ => ∃ out c, e = [(1, .d (.sl 1 (us b))), (5, .own 20 1 0 L), (6, .d (.int .i64 (i : Int))), (7, .d (u x)), (8, .d (u c)), (21, .d (.sl 1 (us a))), (22, .d (.int .i64 (na : Int))), (23, .d (.int .i64 (i : Int))), (28, .d (.sl 1 (us b))), (29, .d (.int .i64 (b.length : Int))), (30, .d (.int .i64 (k : Int)))] ∧ μ = [(20, ⟨0, false, us out⟩)] ∧
      out.length = L ∧ Cl out ∧ c < 4294967296 ∧ lv out + pw (i + k) * c = lv out0 + pw i * (x * lv (b.take k)) ∧ ∀ j, i + k ≤ j → lb out j = lb out0 j) ?_ ?_ ⟨out0, 0, rfl, rfl, h0, hc0, by omega, by simp [lv], fun _ _ => rfl⟩
  · rintro k e μ hk ⟨out, c, rfl, rfl, hlen, hc, hc1, hv, hj⟩
    left
    have hk' : (k : Int) < b.length := by omega
    have l1 := lb_lt hb k
    have l2 := lb_lt hc (i + k)
    have hm : x * lb b k ≤ 4294967295 * 4294967295 := Nat.mul_le_mul (by omega) (by omega)
    obtain ⟨s, hs⟩ : ∃ s, s = c + (lb out (i + k) + x * lb b k) := ⟨_, rfl⟩
    have eb := lv_take_succ hb k
    have es := pw_split (i + k) s
    have eo := lv_set hc (i := i + k) (x := s % 4294967296) (by omega) (by omega)
    refine ⟨[(1, .d (.sl 1 (us b))), (5, .own 20 1 0 L), (6, .d (.int .i64 (i : Int))), (7, .d (u x)), (8, .d (u (s / 4294967296))), (21, .d (.sl 1 (us a))), (22, .d (.int .i64 (na : Int))), (23, .d (.int .i64 (i : Int))), (28, .d (.sl 1 (us b))), (29, .d (.int .i64 (b.length : Int))), (30, .d (.int .i64 ((k + 1 : Nat) : Int)))], [(20, ⟨0, false, us (out.set (i + k) (s % 4294967296))⟩)], ?_, _, _, rfl, rfl, by simpa using hlen, hc.set _ (by omega), by omega, ?_, fun j hj' => ?_⟩
    · rw [hs]
      simp (disch := omega) [nat_Mul.b2, hk']
    · rw [eb]
      have e1 : pw (i + k) * s = pw (i + k) * c + (pw (i + k) * lb out (i + k) + pw i * (x * (pw k * lb b k))) := by
        rw [hs, Nat.mul_add, Nat.mul_add, pw_add]
        congr 2
        rw [Nat.mul_assoc, Nat.mul_left_comm (pw k)]
      rw [Nat.mul_add, Nat.mul_add]
      rw [show i + (k + 1) = i + k + 1 by omega]
      omega
    · rw [lb_set_ne (by omega)]
      exact hj j (by omega)
  · rintro e μ ⟨out, c, rfl, rfl, hlen, hc, hc1, hv, hj⟩
    rw [lv_take_all (Nat.le_refl _)] at hv
    exact ⟨.exit 2, _, _, by simp [nat_Mul.b2], by simp, out, c, rfl, rfl, rfl, hlen, hc, hc1, hv, hj⟩
theorem mul_loop (a b : List Nat) (ha : Cl a) (hb : Cl b) (hs : a.length ≤ 1099511627776) (hs' : b.length ≤ 1099511627776) (L : Nat) (hL : L = a.length + b.length) : ∃ x e μ, EX ip nv (.code (.loop [] [] nat_Mul.b0) [(1, .d (.sl 1 (us b))), (5, .own 20 1 0 L), (21, .d (.sl 1 (us a))), (22, .d (.int .i64 (a.length : Int))), (23, .d (.int .i64 0))] [(20, ⟨0, false, us (List.replicate L 0)⟩)]) = some (.st x e μ) ∧ x ≠ .normal ∧
    ∃ out, x = .exit 0 ∧ e = [(1, .d (.sl 1 (us b))), (5, .own 20 1 0 L), (21, .d (.sl 1 (us a))), (22, .d (.int .i64 (a.length : Int))), (23, .d (.int .i64 (a.length : Int))), (24, .d (.bool false))] ∧ μ = [(20, ⟨0, false, us out⟩)] ∧ out.length = L ∧ Cl out ∧ lv out = lv a * lv b := by
  refine loop_n a.length (fun i e μ => ∃ out, e = [(1, .d (.sl 1 (us b))), (5, .own 20 1 0 L), (21, .d (.sl 1 (us a))), (22, .d (.int .i64 (a.length : Int))), (23, .d (.int .i64 (i : Int)))] ∧ μ = [(20, ⟨0, false, us out⟩)] ∧ out.length = L ∧ Cl out ∧ lv out = lv (a.take i) * lv b ∧ ∀ j, i + b.length ≤ j → lb out j = 0) ?_ ?_ ⟨_, rfl, rfl, by simp, Cl.zeros L, by simp [lv, lv_zeros], fun j _ => by simp only [lb, List.getD_eq_getElem?_getD, List.getElem?_replicate]; split <;> rfl⟩
  · rintro i e μ hi ⟨out, rfl, rfl, hlen, hc, hv, hj⟩
    left
    have hi' : (i : Int) < a.length := by omega
    have l1 := lb_lt ha i
    obtain ⟨_, _, _, hr, -, out1, c, rfl, rfl, rfl, q1, q2, q3, q4, q5⟩ := mul_inner (nv := nv) b hb (lb a i) i l1 L (by omega) (by omega) [] a a.length out hlen hc
    have ea := lv_take_succ ha i
    have eo := lv_set q2 (i := i + b.length) (x := c) (by omega) q3
    rw [q5 _ (Nat.le_refl _), hj _ (Nat.le_refl _)] at eo
    refine ⟨[(1, .d (.sl 1 (us b))), (5, .own 20 1 0 L), (21, .d (.sl 1 (us a))), (22, .d (.int .i64 (a.length : Int))), (23, .d (.int .i64 ((i + 1 : Nat) : Int)))], [(20, ⟨0, false, us (out1.set (i + b.length) c)⟩)], ?_, _, rfl, rfl, by simpa using q1, q2.set _ q3, ?_, fun j hj' => ?_⟩
    · simp (disch := omega) [nat_Mul.b0, hi', hr]
    · rw [ea, Nat.add_mul, ← hv, Nat.mul_assoc]
      omega
    · rw [lb_set_ne (by omega), q5 j (by omega)]
      exact hj j (by omega)
  · rintro e μ ⟨out, rfl, rfl, hlen, hc, hv, hj⟩
    rw [lv_take_all (Nat.le_refl _)] at hv
    exact ⟨.exit 0, _, _, by simp [nat_Mul.b0], by simp, out, rfl, rfl, rfl, hlen, hc, hv⟩
theorem mul_ev (a b : List Nat) (ha : Rw a) (hb : Rw b) : EX ip nv (.call F.nat_Mul [.d (.sl 1 (us a)), .d (.sl 1 (us b))] []) = some (.ret (.d (.sl 1 (us (dig (lv a * lv b))))) []) := by
  rw [S_call nat_Mul.ip rfl]
  have h1 := lv_len ha
  have h2 := lv_len hb
  have := ha.2
  have := hb.2
  obtain ⟨_, _, _, hr, -, out, rfl, rfl, rfl, hlen, hc, hv⟩ := mul_loop (nv := nv) (dig (lv a)) (dig (lv b)) (dig_cl _) (dig_cl _) (by omega) (by omega) _ rfl
  rw [lv_dig, lv_dig] at hv
  have ht := trim_ev (nv := nv) out (by omega) hc
  rw [hv] at ht
  simp (disch := omega) [nat_Mul, clean_ev (nv := nv) a ha, clean_ev (nv := nv) b hb, hr, ht]

theorem small_loop (a : List Nat) (ha : Cl a) (hs : a.length ≤ 1099511627776) (d : Nat) (hd : 0 < d) (hd' : d < 4294967296) : ∃ x e μ, EX ip nv (.code (.loop [] [] nat_small.b0) [(0, .d (.sl 1 (us a))), (1, .d (u d)), (6, .own 11 1 0 a.length), (7, .d (u 0)), (8, .d (.int .i64 ((a.length : Int) - 1)))] [(11, ⟨0, false, us (List.replicate a.length 0)⟩)]) = some (.st x e μ) ∧ x ≠ .normal ∧
    ∃ out r, x = .exit 0 ∧ e = [(0, .d (.sl 1 (us a))), (1, .d (u d)), (6, .own 11 1 0 a.length), (7, .d (u r)), (8, .d (.int .i64 (-1))), (16, .d (.bool false))] ∧ μ = [(11, ⟨0, false, us out⟩)] ∧ out.length = a.length ∧ Cl out ∧ r < d ∧ lv a = lv out * d + r := by
  refine loop_m (fun k e μ => ∃ out r, e = [(0, .d (.sl 1 (us a))), (1, .d (u d)), (6, .own 11 1 0 a.length), (7, .d (u r)), (8, .d (.int .i64 ((k : Int) - 1)))] ∧ μ = [(11, ⟨0, false, us out⟩)] ∧ out.length = a.length ∧ Cl out ∧ r < d ∧ k ≤ a.length ∧ lv (a.drop k) = lv (out.drop k) * d + r) ?_ a.length _ _ ⟨_, 0, rfl, rfl, by simp, Cl.zeros _, hd, Nat.le_refl _, by simp [lv]⟩
  rintro k e μ ⟨out, r, rfl, rfl, hlen, hc, hr, hk, hv⟩
  cases k with
  | zero => exact .inr ⟨.exit 0, [(0, .d (.sl 1 (us a))), (1, .d (u d)), (6, .own 11 1 0 a.length), (7, .d (u r)), (8, .d (.int .i64 (-1))), (16, .d (.bool false))], [(11, ⟨0, false, us out⟩)], by simp [nat_small.b0], by simp, out, r, rfl, rfl, rfl, hlen, hc, hr, by simpa using hv⟩
  | succ k =>
    have l1 := lb_lt ha k
    obtain ⟨s, hs'⟩ : ∃ s, s = r * 4294967296 + lb a k := ⟨_, rfl⟩
    have hq : s / d < 4294967296 := by
      rw [Nat.div_lt_iff_lt_mul hd]
      omega
    have hsm := Nat.div_add_mod s d
    have hmod := Nat.mod_lt s hd
    refine .inl ⟨[(0, .d (.sl 1 (us a))), (1, .d (u d)), (6, .own 11 1 0 a.length), (7, .d (u (s % d))), (8, .d (.int .i64 ((k : Int) - 1)))], [(11, ⟨0, false, us (out.set k (s / d))⟩)], ?_, k, by omega, _, _, rfl, rfl, by simpa using hlen, hc.set _ hq, hmod, by omega, ?_⟩
    · rw [hs']
      simp (disch := omega) [nat_small.b0]
    · rw [drop_set (by omega), lv_drop ha (by omega), hv, lv_cons hq]
      rw [Nat.add_mul, Nat.mul_comm (s / d) d, Nat.mul_assoc]
      omega
theorem small_ev (m d : Nat) (hm : (dig m).length ≤ 1099511627776) (hd : 0 < d) (hd' : d < 4294967296) : EX ip nv (.call F.nat_small [.d (.sl 1 (us (dig m))), .d (u d)] []) = some (.ret (.tp [.d (.sl 1 (us (dig (m / d)))), .d (u (m % d))]) []) := by
  rw [S_call nat_small.ip rfl]
  obtain ⟨_, _, _, hr, -, out, r, rfl, rfl, rfl, hlen, hc, hrd, hv⟩ := small_loop (nv := nv) (dig m) (dig_cl m) hm d hd hd'
  rw [lv_dig] at hv
  have ht := trim_ev (nv := nv) out (by omega) hc
  have e1 : m / d = lv out := by rw [hv, Nat.mul_comm, Nat.mul_add_div hd, Nat.div_eq_of_lt hrd, Nat.add_zero]
  have e2 : m % d = r := by rw [hv, Nat.mul_comm, Nat.mul_add_mod, Nat.mod_eq_of_lt hrd]
  rw [e1, e2]
  simp (disch := omega) [nat_small, hr, ht]

theorem to_ev (l : List Nat) (h : Rw l) (hv : lv l < 18446744073709551616) : EX ip nv (.call F.nat_To [.d (.sl 1 (us l))] []) = some (.ret (.tp [.d (u (lv l)), .d (.bool true)]) []) := by
  rw [S_call nat_To.ip rfl]
  have hc := clean_ev (nv := nv) l h
  have h2 : (dig (lv l)).length ≤ 2 := dig_len_le.2 (by simp only [pw]; omega)
  have e := lv_dig (lv l)
  have hcl := dig_cl (lv l)
  cases hd : dig (lv l) with
  | nil =>
    rw [hd] at hc e
    simp only [lv] at e
    simp [nat_To, hc, ← e]
  | cons x r => cases r with
    | nil =>
      rw [hd] at hc e hcl
      rw [lv_one (hcl x (by simp))] at e
      simp (disch := simp) [nat_To, hc, ← e]
    | cons y r => cases r with
      | nil =>
        rw [hd] at hc e hcl
        have hx := hcl x (by simp)
        have hy := hcl y (by simp)
        rw [lv_cons hx, lv_one hy] at e
        have l0 : lb [x, y] 0 = x := rfl
        have l1 : lb [x, y] 1 = y := rfl
        have : lv l = y * 4294967296 + x := by omega
        simp (disch := first | omega | simp) [nat_To, hc, this, l0, l1]
      | cons z r => rw [hd] at h2; simp at h2
end
end Go.Proofs.YtnmbpainnkdonaaDoor
