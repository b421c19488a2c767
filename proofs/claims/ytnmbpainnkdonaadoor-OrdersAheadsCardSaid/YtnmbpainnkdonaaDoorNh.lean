/- Knuth's division, whole; quotients and rests. -/
import Derived.Test.YtnmbpainnkdonaaDoorNg
set_option linter.unusedSimpArgs false
set_option linter.unusedVariables false
namespace Go.Proofs.YtnmbpainnkdonaaDoor
open Go Go.Proofs.R
set_option maxRecDepth 10000
section
variable {nv : R.Nv}
/-- A window of a row of limbs. -/
theorem win_split {l : List Nat} {j n : Nat} (h : j + n ≤ l.length) : l = l.take j ++ (l.drop j).take n ++ l.drop (j + n) := by
  rw [List.append_assoc]
  conv => lhs; rw [← List.take_append_drop j l]
  congr 1
  conv => lhs; rw [← List.take_append_drop n (l.drop j)]
  rw [List.drop_drop]
theorem app_len3 (p w q : List Nat) : (p ++ w ++ q).length = p.length + w.length + q.length := by simp; omega
theorem lv_win (p w q : List Nat) : lv (p ++ w ++ q) = lv p + pw p.length * (lv w + pw w.length * lv q) := by
  rw [List.append_assoc, lv_append, lv_append]

theorem long_loop (v ov : List Nat) (n s pv la lq : Nat) (hn : 2 ≤ n) (hov : ov.take n = v) (hnl : n ≤ ov.length) (hvn : v.length = n) (hv : Cl v) (htop : lb v (n - 1) ≠ 0) (M : Nat) (Lu : Nat) (hlq : lq + n = la + 1) (hla : la + 1 ≤ Lu) (hLu : Lu ≤ 4398046511104) (hnb : n ≤ 1099511627776) (hpv : pv = 0 ∨ pv = n)
    (U : List Nat) (hU : Cl U) (hUL : U.length = Lu) (hUM : lv U = M) (hlt : lv (U.drop lq) < lv v) (hsi : s < 32) :
    ∃ x e μ, EX ip nv (.code (.loop [] [] nat_long.b0) [(6, .d (.int .i64 (s : Int))), (7, .own 22 1 0 n), (8, .own 25 1 0 (la + 1)), (9, .d (.int .i64 (n : Int))), (10, .own 38 1 0 lq), (11, .d (.int .i64 ((lq : Int) - 1)))] [(22, ⟨pv, false, us ov⟩), (25, ⟨0, false, us U⟩), (38, ⟨0, false, us (List.replicate lq 0)⟩)]) = some (.st x e μ) ∧ x ≠ .normal ∧
    ∃ U' Q pv', x = .exit 0 ∧ e = [(6, .d (.int .i64 (s : Int))), (7, .own 22 1 0 n), (8, .own 25 1 0 (la + 1)), (9, .d (.int .i64 (n : Int))), (10, .own 38 1 0 lq), (11, .d (.int .i64 (-1))), (43, .d (.bool false))] ∧ μ = [(22, ⟨pv', false, us ov⟩), (25, ⟨0, false, us U'⟩), (38, ⟨0, false, us Q⟩)] ∧ U'.length = Lu ∧ Cl U' ∧ Q.length = lq ∧ Cl Q ∧ lv U' < lv v ∧ lv U' + lv v * lv Q = M := by
  refine loop_m (fun k e μ => ∃ U' Q pv', e = [(6, .d (.int .i64 (s : Int))), (7, .own 22 1 0 n), (8, .own 25 1 0 (la + 1)), (9, .d (.int .i64 (n : Int))), (10, .own 38 1 0 lq), (11, .d (.int .i64 ((k : Int) - 1)))] ∧ μ = [(22, ⟨pv', false, us ov⟩), (25, ⟨0, false, us U'⟩), (38, ⟨0, false, us Q⟩)] ∧ U'.length = Lu ∧ Cl U' ∧ Q.length = lq ∧ Cl Q ∧ k ≤ lq ∧ (pv' = 0 ∨ pv' = n) ∧ (∀ i, i < k → lb Q i = 0) ∧ lv (U'.drop k) < lv v ∧ lv U' + lv v * lv Q = M) ?_ lq _ _ ⟨U, List.replicate lq 0, pv, rfl, rfl, hUL, hU, by simp, Cl.zeros lq, Nat.le_refl _, hpv, fun i _ => ?_, hlt, by simp [lv_zeros, hUM]⟩
  · rintro k e μ ⟨U', Q, pv', rfl, rfl, q1, q2, q3, q4, hk, hpv', q5, q6, q7⟩
    cases k with
    | zero => exact .inr ⟨.exit 0, [(6, .d (.int .i64 (s : Int))), (7, .own 22 1 0 n), (8, .own 25 1 0 (la + 1)), (9, .d (.int .i64 (n : Int))), (10, .own 38 1 0 lq), (11, .d (.int .i64 (-1))), (43, .d (.bool false))], _, by simp [nat_long.b0], by simp, U', Q, pv', rfl, rfl, rfl, q1, q2, q3, q4, by simpa using q6, q7⟩
    | succ j =>
      have hsplit := win_split (l := U') (j := j) (n := n + 1) (by omega)
      obtain ⟨p, hp⟩ : ∃ p, p = U'.take j := ⟨_, rfl⟩
      obtain ⟨w, hw⟩ : ∃ w, w = (U'.drop j).take (n + 1) := ⟨_, rfl⟩
      obtain ⟨q, hq⟩ : ∃ q, q = U'.drop (j + (n + 1)) := ⟨_, rfl⟩
      rw [← hp, ← hw, ← hq] at hsplit
      have hpl : p.length = j := by rw [hp, List.length_take]; omega
      have hwl : w.length = n + 1 := by rw [hw, List.length_take, List.length_drop]; omega
      have hwc : Cl w := by rw [hw]; exact (q2.drop j).take _
      have hpc : Cl p := by rw [hp]; exact q2.take _
      have hqc : Cl q := by rw [hq]; exact q2.drop _
      have hdj : U'.drop j = w ++ q := by
        conv => lhs; rw [hsplit]
        rw [List.append_assoc, List.drop_append_of_le_length (by omega), List.drop_of_length_le (by omega), List.nil_append]
      have hWlt : lv (U'.drop j) < 4294967296 * lv v := by
        rw [lv_drop q2 (by omega)]
        have := lb_lt q2 j
        omega
      have hvlt := lv_lt v
      rw [hvn] at hvlt
      have hq0 : lv q = 0 := by
        rw [hdj, lv_append, hwl, pw_succ] at hWlt
        rcases Nat.eq_zero_or_pos (lv q) with h | h
        · exact h
        · exfalso
          have h1 : 4294967296 * pw n * 1 ≤ 4294967296 * pw n * lv q := Nat.mul_le_mul_left _ h
          omega
      have hwW : lv w = lv (U'.drop j) := by rw [hdj, lv_append, hq0, Nat.mul_zero, Nat.add_zero]
      have hV0 : 0 < lv v := by omega
      obtain ⟨w', d1, d2, d3, d4⟩ := digit_ev (nv := nv) p w q v hwc hv (by omega) (by omega) (by rw [hvn]; exact htop) (by rw [hwW]; exact hWlt) U' hsplit (by omega) (by omega)
      have hqB : lv w / lv v < 4294967296 := by rw [Nat.div_lt_iff_lt_mul hV0, hwW]; exact hWlt
      have hmod := Nat.mod_lt (lv w) hV0
      have hdm := Nat.div_add_mod (lv w) (lv v)
      have hl' : (p ++ w' ++ q).length = Lu := by rw [app_len3, d2, ← app_len3, ← hsplit, q1]
      have e1 := lv_win p w' q
      have e2 := lv_win p w q
      rw [← hsplit] at e2
      rw [hq0, Nat.mul_zero, Nat.add_zero] at e1 e2
      have e3 := lv_set q4 (i := j) (x := lv w / lv v) (by omega) hqB
      rw [q5 j (by omega), Nat.mul_zero, Nat.add_zero] at e3
      have hdrop' : (p ++ w' ++ q).drop j = w' ++ q := by
        rw [List.append_assoc, List.drop_append_of_le_length (by omega), List.drop_of_length_le (by omega), List.nil_append]
      rw [hpl, hwl] at d1
      rw [← hov] at d1
      refine .inl ⟨[(6, .d (.int .i64 (s : Int))), (7, .own 22 1 0 n), (8, .own 25 1 0 (la + 1)), (9, .d (.int .i64 (n : Int))), (10, .own 38 1 0 lq), (11, .d (.int .i64 ((j : Int) - 1)))], [(22, ⟨max pv' n, false, us ov⟩), (25, ⟨0, false, us (p ++ w' ++ q)⟩), (38, ⟨0, false, us (Q.set j (lv w / lv v))⟩)], ?_, j, by omega, _, _, _, rfl, rfl, hl', ?_, by simpa using q3, q4.set _ hqB, by omega, by omega, fun i hi => ?_, ?_, ?_⟩
      · rw [← hov]
        generalize lv w / lv (List.take n ov) = z at *
        have e9 : j + n + 1 - j = n + 1 := by omega
        simp (disch := omega) [-List.append_assoc, nat_long.b0, d1, e9]
      · rw [Cl.append, Cl.append]; exact ⟨⟨hpc, d3⟩, hqc⟩
      · rw [lb_set_ne (by omega)]; exact q5 i (by omega)
      · rw [hdrop', lv_append, hq0, Nat.mul_zero, Nat.add_zero, d4]; exact hmod
      · rw [e1, e3, d4, ← q7, e2, hpl, Nat.mul_add]
        have : pw j * lv w = pw j * (lv w % lv v) + lv v * (pw j * (lv w / lv v)) := by
          conv => lhs; rw [← hdm]
          rw [Nat.mul_add, Nat.mul_left_comm]
          omega
        omega
  · simp only [lb, List.getD_eq_getElem?_getD, List.getElem?_replicate]
    split <;> rfl

theorem long_ev (m n : Nat) (hn2 : 2 ≤ (dig n).length) (hmn : n ≤ m) (hml : (dig m).length ≤ 1099511627775) : EX ip nv (.call F.nat_long [.d (.sl 1 (us (dig m))), .d (.sl 1 (us (dig n)))] []) = some (.ret (.tp [.d (.sl 1 (us (dig (m / n)))), .d (.sl 1 (us (dig (m % n))))]) []) := by
  have hn0 : 0 < n := dig_len_pos.1 (by omega)
  have hnl : (dig n).length ≤ (dig m).length := dig_len_mono hmn
  have htop := dig_last hn0
  have htl := lb_lt (dig_cl n) ((dig n).length - 1)
  obtain ⟨s, s1, s2, s3⟩ := lz32_ev (nv := nv) (lb (dig n) ((dig n).length - 1)) htl (by omega)
  obtain ⟨ov, jv, v1, v2, v3, v4, v5⟩ := shl_own (nv := nv) n s hn0 (by omega) (by omega)
  obtain ⟨ou, ju, u1, u2, u3, u4, u5⟩ := shl_own (nv := nv) m s (by omega) (by omega) (by omega)
  have h2s : 0 < 2 ^ s := Nat.two_pow_pos s
  have hp31 : 2 ^ s ≤ 4294967296 := Nat.le_trans (Nat.pow_le_pow_right (by decide) (show s ≤ 32 by omega)) (by decide)
  -- the divisor keeps its length
  have hjv : jv = (dig n).length := by
    have h1 : n * 2 ^ s < pw (dig n).length := by
      have e := lv_cut (dig n) ((dig n).length - 1) (by omega)
      rw [lv_drop (dig_cl n) (by omega), List.drop_of_length_le (by omega), lv_dig] at e
      simp only [lv, Nat.mul_zero, Nat.add_zero] at e
      have hl := lv_lt ((dig n).take ((dig n).length - 1))
      rw [List.length_take, Nat.min_eq_left (by omega)] at hl
      have h3 : lb (dig n) ((dig n).length - 1) * 2 ^ s + 2 ^ s ≤ 4294967296 := by
        have hp : 2 ^ s * 2 ^ (32 - s) = 4294967296 := by rw [← Nat.pow_add, show s + (32 - s) = 32 by omega]
        rw [← hp, Nat.mul_comm] at s2
        have := Nat.lt_of_mul_lt_mul_left s2
        have h4 : 2 ^ s * (lb (dig n) ((dig n).length - 1) + 1) ≤ 2 ^ s * 2 ^ (32 - s) := Nat.mul_le_mul_left _ this
        rw [hp, Nat.mul_add, Nat.mul_comm] at h4
        omega
      obtain ⟨k, hk⟩ : ∃ k, (dig n).length = k + 1 := ⟨(dig n).length - 1, by omega⟩
      rw [hk, pw_succ]
      rw [hk, Nat.add_sub_cancel] at hl e h3
      calc n * 2 ^ s = lv ((dig n).take k) * 2 ^ s + pw k * (lb (dig n) k * 2 ^ s) := by conv => lhs; rw [e]
                                                                                         rw [Nat.add_mul, Nat.mul_assoc]
        _ < pw k * 2 ^ s + pw k * (lb (dig n) k * 2 ^ s) := Nat.add_lt_add_right (Nat.mul_lt_mul_of_pos_right hl h2s) _
        _ = pw k * (lb (dig n) k * 2 ^ s + 2 ^ s) := by rw [Nat.mul_add]; omega
        _ ≤ pw k * 4294967296 := Nat.mul_le_mul_left _ h3
        _ = _ := Nat.mul_comm _ _
    have h2 := dig_len_le.2 h1
    have h3 : (dig n).length ≤ (dig (n * 2 ^ s)).length := dig_len_mono (Nat.le_mul_of_pos_right _ h2s)
    omega
  have hju : ju ≤ (dig m).length + 1 := by
    rw [u4]
    apply dig_len_le.2
    rw [pw_succ]
    calc m * 2 ^ s < pw (dig m).length * 2 ^ s := Nat.mul_lt_mul_of_pos_right (dig_lt m) h2s
      _ ≤ pw (dig m).length * 4294967296 := Nat.mul_le_mul_left _ hp31
      _ = _ := Nat.mul_comm _ _
  have hju2 : (dig m).length ≤ ju := by rw [u4]; exact dig_len_mono (Nat.le_mul_of_pos_right _ h2s)
  obtain ⟨U, hU⟩ : ∃ U, U = ou.take ju ++ [0, 0] := ⟨_, rfl⟩
  have hUL : U.length = ju + 2 := by rw [hU]; simp; omega
  have hUc : Cl U := by rw [hU, u3, Cl.append]; exact ⟨dig_cl _, by simp [Cl]⟩
  have hUM : lv U = m * 2 ^ s := by rw [hU, u3, lv_append, lv_dig]; simp [lv]
  obtain ⟨lq, hlq⟩ : ∃ lq, lq + (dig n).length = (dig m).length + 1 := ⟨(dig m).length + 1 - (dig n).length, by omega⟩
  have hV : lv (ov.take jv) = n * 2 ^ s := by rw [v3, lv_dig]
  have hlt : lv (U.drop lq) < lv (ov.take jv) := by
    rw [lv_dropdiv _ (by omega), hUM, hV, Nat.div_lt_iff_lt_mul (pw_pos _)]
    have h1 := dig_ge hn0
    calc m * 2 ^ s < pw (dig m).length * 2 ^ s := Nat.mul_lt_mul_of_pos_right (dig_lt m) h2s
      _ = pw ((dig n).length - 1) * pw lq * 2 ^ s := by rw [← pw_add]; congr 2; omega
      _ ≤ n * pw lq * 2 ^ s := Nat.mul_le_mul_right _ (Nat.mul_le_mul_right _ h1)
      _ = n * 2 ^ s * pw lq := by rw [Nat.mul_assoc, Nat.mul_comm (pw lq), ← Nat.mul_assoc]
  have hvt : lb (ov.take jv) (jv - 1) ≠ 0 := by
    rw [v3, v4]; exact dig_last (Nat.mul_pos hn0 h2s)
  obtain ⟨_, _, _, hr, -, U', Q, pv', rfl, rfl, rfl, r1, r2, r3, r4, r5, r6⟩ := long_loop (nv := nv) (ov.take jv) ov jv s 0 (dig m).length lq (by omega) rfl v2 (by rw [List.length_take]; omega) (by rw [v3]; exact dig_cl _) hvt (m * 2 ^ s) (ju + 2) (by omega) (by omega) (by omega) (by omega) (.inl rfl) U hUc hUL hUM hlt s1
  rw [hV] at r5 r6
  have hn2s : 0 < n * 2 ^ s := Nat.mul_pos hn0 h2s
  have hQ : lv Q = m / n := by
    have : lv Q = m * 2 ^ s / (n * 2 ^ s) := by
      rw [← r6, Nat.add_mul_div_left _ _ hn2s, Nat.div_eq_of_lt r5, Nat.zero_add]
    rw [this, Nat.mul_div_mul_right _ _ h2s]
  have hR : lv U' = m % n * 2 ^ s := by
    rw [← Nat.mul_mod_mul_right, ← r6, Nat.add_mul_mod_self_left, Nat.mod_eq_of_lt r5]
  have hb := mul_le_pw (s := s) hmn (dig_lt m) hp31
  have hUlt := Nat.lt_of_lt_of_le r5 hb
  have hUt := lv_take_lt (by omega) hUlt
  have t1 := trim_ev (nv := nv) Q (by omega) r4
  have t2 := trim_ev (nv := nv) (U'.take ((dig m).length + 1)) (by rw [List.length_take]; omega) (r2.take _)
  rw [hUt, hR] at t2
  rw [hQ] at t1
  have hmr : (dig (m % n * 2 ^ s)).length ≤ (dig m).length + 1 := by
    rw [← hR]
    exact dig_len_le.2 hUlt
  have t3 := shr_ev (nv := nv) (m % n * 2 ^ s) s (by omega) (by omega)
  rw [Nat.mul_div_cancel _ h2s] at t3
  rw [S_call nat_long.ip rfl]
  subst hjv
  rw [← r3] at hr
  have e1 : ((dig m).length : Int) + 1 - (((dig n).length : Nat) : Int) = (Q.length : Int) := by omega
  generalize hw1 : m / n = w1 at *
  generalize hw2 : m % n = w2 at *
  simp (disch := omega) [-List.append_assoc, nat_long, s3, v1, u1, ← hU, e1, hr, t1, t2, t3]
end
end Go.Proofs.YtnmbpainnkdonaaDoor
