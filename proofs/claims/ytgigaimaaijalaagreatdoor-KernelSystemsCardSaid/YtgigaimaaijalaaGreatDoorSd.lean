/- The reference's division and greatest divisor. -/
import Derived.Test.YtgigaimaaijalaaGreatDoorSc
set_option linter.unusedSimpArgs false
set_option linter.unusedVariables false
namespace Go.Proofs.YtgigaimaaijalaaGreatDoor
open Go Go.Proofs.R
set_option maxRecDepth 10000
section
variable {nv : R.Nv}
theorem over1_inner (m n r : Nat) (L k : Nat) (out : List Nat) (hn0 : 0 < n) (hn : (T.dig n).length ≤ 1000000000) (hr : (T.dig r).length ≤ 1000000010) (hlt : r < 10000 * n) (x8 : V) :
    ∃ y e μ, EX ip nv (.code (.loop [] [] dendronref01_Over.b2) [(0, .d (.sl 1 (el (T.dig m)))), (1, .d (.sl 1 (el (T.dig n)))), (6, .own 15 1 0 L), (7, .d (.sl 1 (el (T.dig r)))), (8, x8), (10, .d (.int .i64 0)), (11, .d (.int .i64 10000))] [(15, ⟨0, false, el out⟩)]) = some (.st y e μ) ∧ y ≠ .normal ∧
    y = .exit 2 ∧ e = [(0, .d (.sl 1 (el (T.dig m)))), (1, .d (.sl 1 (el (T.dig n)))), (6, .own 15 1 0 L), (7, .d (.sl 1 (el (T.dig r)))), (8, x8), (10, .d (.int .i64 (r / n : Nat))), (11, .d (.int .i64 ((r / n + 1 : Nat) : Int))), (38, .d (.bool false))] ∧ μ = [(15, ⟨0, false, el out⟩)] := by
  refine loop_m (fun k e μ => ∃ lo hi : Nat, lo < hi ∧ hi - lo = k ∧ hi ≤ 10000 ∧ n * lo ≤ r ∧ r < n * hi ∧ e = [(0, .d (.sl 1 (el (T.dig m)))), (1, .d (.sl 1 (el (T.dig n)))), (6, .own 15 1 0 L), (7, .d (.sl 1 (el (T.dig r)))), (8, x8), (10, .d (.int .i64 (lo : Int))), (11, .d (.int .i64 (hi : Int)))] ∧ μ = [(15, ⟨0, false, el out⟩)]) ?_ 10000 _ _ ⟨0, 10000, by omega, by omega, by omega, by omega, by omega, rfl, rfl⟩
  rintro k e μ ⟨lo, hi, h1, h2, h3, h4, h5, rfl, rfl⟩
  by_cases hk : hi - lo = 1
  · have e1 : hi = lo + 1 := by omega
    subst e1
    have e2 : r / n = lo := by
      rw [Nat.mul_comm] at h4
      rw [Nat.mul_comm] at h5
      exact Nat.div_eq_of_lt_le h4 h5
    rw [e2]
    have e3 : ((lo + 1 : Nat) : Int) - (lo : Int) = 1 := by omega
    have e4 : (lo : Int) + 1 - (lo : Int) = 1 := by omega
    exact .inr ⟨.exit 2, _, _, by simp (disch := omega) [dendronref01_Over.b2, e3, e4] <;> first | rfl | exact ⟨rfl, rfl⟩, by simp, rfl, by simp, rfl⟩
  · have c1 : (1 : Int) < (hi : Int) - (lo : Int) := by omega
    have e1 : (lo : Int) + (hi : Int) = ((lo + hi : Nat) : Int) := by omega
    have q := i_quo2 (x := lo + hi) (by omega)
    obtain ⟨mid, hm⟩ : ∃ mid, mid = (lo + hi) / 2 := ⟨_, rfl⟩
    rw [← hm] at q
    have s := small1_ev (nv := nv) mid (by omega)
    have sl : (T.dig mid).length ≤ 2 := tlen (by simp [T.pw]; omega)
    have t := times1_ev (nv := nv) n mid (by omega) (by omega)
    have tl := tlen_mul hn sl
    have o := order1_ev (nv := nv) (n * mid) r (by omega) (by omega)
    by_cases c : n * mid ≤ r
    · have c2 : cmpN (n * mid) r ≤ 0 := by
        unfold cmpN
        split
        · decide
        · rw [if_neg (by omega)]; decide
      refine .inl ⟨_, _, ?_, hi - mid, by omega, mid, hi, by omega, rfl, h3, c, h5, rfl, rfl⟩
      clear hm tl sl c h4 h5 hlt
      generalize n * mid = nm at *
      generalize lo + hi = lh at *
      generalize cmpN nm r = cm at *
      simp (disch := omega) [dendronref01_Over.b2, c1, e1, q, s, t, o, c2, -vBin_quo]
    · have c2 : ¬ cmpN (n * mid) r ≤ 0 := by
        unfold cmpN
        rw [if_neg (by omega), if_pos (by omega)]
        decide
      refine .inl ⟨_, _, ?_, mid - lo, by omega, lo, mid, by omega, rfl, by omega, h4, by omega, rfl, rfl⟩
      clear hm tl sl c h4 h5 hlt
      generalize n * mid = nm at *
      generalize lo + hi = lh at *
      generalize cmpN nm r = cm at *
      simp (disch := omega) [dendronref01_Over.b2, c1, e1, q, s, t, o, c2, -vBin_quo]
theorem div_step (a v n : Nat) (hn : 0 < n) : (a + 10000 * v) / n = (a + 10000 * (v % n)) / n + 10000 * (v / n) ∧ (a + 10000 * v) % n = (a + 10000 * (v % n)) % n := by
  have e : a + 10000 * v = a + 10000 * (v % n) + n * (10000 * (v / n)) := by
    have := Nat.div_add_mod v n
    have e2 : n * (10000 * (v / n)) = 10000 * (n * (v / n)) := Nat.mul_left_comm ..
    omega
  rw [e]
  exact ⟨Nat.add_mul_div_left _ _ hn, Nat.add_mul_mod_self_left ..⟩
theorem over1_loop (m n : Nat) (hn0 : 0 < n) (hm : (T.dig m).length ≤ 1000000000) (hn : (T.dig n).length ≤ 1000000000) :
    ∃ x e μ, EX ip nv (.code (.loop [] [] dendronref01_Over.b0) [(0, .d (.sl 1 (el (T.dig m)))), (1, .d (.sl 1 (el (T.dig n)))), (6, .own 15 1 0 (T.dig m).length), (7, .d (.sl 1 [])), (8, .d (.int .i64 (((T.dig m).length : Int) - 1)))] [(15, ⟨0, false, el (List.replicate (T.dig m).length (0 : Nat))⟩)]) = some (.st x e μ) ∧ x ≠ .normal ∧
    ∃ q : List Nat, x = .exit 0 ∧ e = [(0, .d (.sl 1 (el (T.dig m)))), (1, .d (.sl 1 (el (T.dig n)))), (6, .own 15 1 0 (T.dig m).length), (7, .d (.sl 1 (el (T.dig (m % n))))), (8, .d (.int .i64 (-1))), (20, .d (.bool false))] ∧ μ = [(15, ⟨0, false, el q⟩)] ∧ q.length = (T.dig m).length ∧ T.Cl q ∧ T.lv q = m / n := by
  have ha := T.dig_cl m
  have hva := T.lv_dig m
  refine loop_m (fun k e μ => ∃ (q : List Nat) (r : Nat), e = [(0, .d (.sl 1 (el (T.dig m)))), (1, .d (.sl 1 (el (T.dig n)))), (6, .own 15 1 0 (T.dig m).length), (7, .d (.sl 1 (el (T.dig r)))), (8, .d (.int .i64 ((k : Int) - 1)))] ∧ μ = [(15, ⟨0, false, el q⟩)] ∧ k ≤ (T.dig m).length ∧ q.length = (T.dig m).length ∧ T.Cl q ∧ T.lv (q.drop k) = T.lv ((T.dig m).drop k) / n ∧ r = T.lv ((T.dig m).drop k) % n) ?_ (T.dig m).length _ _
    ⟨List.replicate (T.dig m).length 0, 0, by rw [T.dig_zero]; rfl, rfl, Nat.le_refl _, by simp, T.Cl.zeros _, by simp [T.lv], by simp [T.lv]⟩
  rintro k e μ ⟨q, r, rfl, rfl, hk, hql, hqc, hqv, hr⟩
  cases k with
  | zero =>
    have hr' : r = m % n := by rw [hr, List.drop_zero, hva]
    have hq' : T.lv q = m / n := by rw [List.drop_zero, List.drop_zero, hva] at hqv; exact hqv
    subst hr'
    exact .inr ⟨.exit 0, _, _, by simp [dendronref01_Over.b0] <;> first | rfl | exact ⟨rfl, rfl⟩, by simp, q, rfl, rfl, rfl, hql, hqc, hq'⟩
  | succ k =>
    have la := T.lb_lt ha k
    have hrn : r < n := by rw [hr]; exact Nat.mod_lt _ hn0
    have hrl : (T.dig r).length ≤ 1000000000 := Nat.le_trans (T.dig_len_mono (by omega)) hn
    obtain ⟨v, hv⟩ : ∃ v, v = T.lb (T.dig m) k + 10000 * r := ⟨_, rfl⟩
    have ev : T.lv ([T.lb (T.dig m) k] ++ T.dig r) = v := by
      rw [T.lv_append, T.lv_one la, T.lv_dig, hv]; simp [T.pw]
    have tr := trim1_ev (nv := nv) ([T.lb (T.dig m) k] ++ T.dig r) (by simp; omega) (T.Cl.append.2 ⟨T.Cl.one la, T.dig_cl r⟩)
    rw [ev] at tr
    have hvl : (T.dig v).length ≤ 1000000010 := by
      rw [T.dig_len_le, hv]
      have h1 := T.dig_len_le.1 hrl
      have h2 := T.pw_succ 1000000000
      have h3 := T.pw_le (show 1000000001 ≤ 1000000010 by omega)
      generalize T.pw 1000000010 = p1 at *
      generalize T.pw (1000000000 + 1) = p2 at *
      generalize T.pw 1000000000 = p3 at *
      omega
    have hvn : v < 10000 * n := by omega
    obtain ⟨_, _, _, inn, -, rfl, rfl, rfl⟩ := over1_inner (nv := nv) m n v (T.dig m).length k q hn0 hn hvl hvn (.d (.int .i64 (k : Int)))
    have hq0 : v / n < 10000 := (Nat.div_lt_iff_lt_mul hn0).2 hvn
    have s := small1_ev (nv := nv) (v / n) (by omega)
    have sl : (T.dig (v / n)).length ≤ 2 := tlen (by simp [T.pw]; omega)
    have t := times1_ev (nv := nv) n (v / n) (by omega) (by omega)
    have hle : n * (v / n) ≤ v := Nat.mul_div_le _ _
    have mi := minus1_ev (nv := nv) v (n * (v / n)) hle (by omega)
    have emod : v - n * (v / n) = v % n := by have := Nat.div_add_mod v n; omega
    rw [emod] at mi
    obtain ⟨d1, d2⟩ := div_step (T.lb (T.dig m) k) (T.lv ((T.dig m).drop (k + 1))) n hn0
    have hdr : T.lv ((T.dig m).drop k) = T.lb (T.dig m) k + 10000 * T.lv ((T.dig m).drop (k + 1)) := T.lv_drop ha (by omega)
    rw [← hr, ← hv] at d1 d2
    rw [← hdr] at d1 d2
    refine .inl ⟨[(0, .d (.sl 1 (el (T.dig m)))), (1, .d (.sl 1 (el (T.dig n)))), (6, .own 15 1 0 (T.dig m).length), (7, .d (.sl 1 (el (T.dig (v % n))))), (8, .d (.int .i64 ((k : Int) - 1)))], [(15, ⟨0, false, el (q.set k (v / n))⟩)], ?_, k, by omega, q.set k (v / n), v % n, rfl, rfl, by omega, by simpa using hql, hqc.set k hq0, ?_, d2.symm⟩
    · have hk0 : (0 : Int) ≤ (k : Int) := by omega
      have x1 : ix (T.dig m) k = T.lb (T.dig m) k := rfl
      have hkl : k < (T.dig m).length := by omega
      clear d1 d2 hdr emod ev hqv hr hva hv hvl hle hvn
      generalize T.dig (n * (v / n)) = w1 at *
      generalize T.dig (v % n) = w2 at *
      generalize v / n = w3 at *
      generalize T.lb (T.dig m) k = x at *
      generalize T.dig m = A at *
      generalize T.dig n = B at *
      generalize T.dig v = C at *
      generalize T.dig w3 = E at *
      have hrl2 : (T.dig r).length ≤ 1000000000 := hrl
      generalize T.dig r = R at *
      have hkq : k < q.length := by omega
      rw [List.singleton_append] at tr
      have hcons : D.int .i64 (x : Int) :: el R = el (x :: R) := by rw [el_cons]; rfl
      have hcond : (1 + R.length) * 8 ≤ 70368744177664 := by omega
      simp (disch := first | omega | (simp; omega) | simp) [dendronref01_Over.b0, hk0, hkl, hkq, x1, tr, inn, s, t, mi, hcons, hcond]
    · rw [T.drop_set (by omega), T.lv_cons (by omega), hqv, d1]
theorem over1_ev (m n : Nat) (hn0 : 0 < n) (hm : (T.dig m).length ≤ 1000000000) (hn : (T.dig n).length ≤ 1000000000) : EX ip nv (.call F.dendronref01_Over [.d (.sl 1 (el (T.dig m))), .d (.sl 1 (el (T.dig n)))] []) = some (.ret (.tp [.d (.sl 1 (el (T.dig (m / n)))), .d (.sl 1 (el (T.dig (m % n))))]) []) := by
  rw [S_call dendronref01_Over.ip rfl]
  obtain ⟨_, _, _, hr, -, q, rfl, rfl, rfl, hql, hqc, hqv⟩ := over1_loop (nv := nv) m n hn0 hm hn
  have tr := trim1_ev (nv := nv) q (by omega) hqc
  rw [hqv] at tr
  generalize T.dig (m / n) = w1 at *
  generalize T.dig (m % n) = w2 at *
  generalize T.dig m = A at *
  simp (disch := omega) [dendronref01_Over, mk_nat0, -mk_int, -kMk_n, hr, hql, tr]
theorem gcd1_loop (G m n : Nat) (hm : (T.dig m).length ≤ 1000000000) (hn : (T.dig n).length ≤ 1000000000) (hG : Nat.gcd m n = G) :
    ∃ x e μ, EX ip nv (.code (.loop [] [] dendronref01_Gcd.b0) [(0, .d (.sl 1 (el (T.dig m)))), (1, .d (.sl 1 (el (T.dig n))))] []) = some (.st x e μ) ∧ x ≠ .normal ∧
    x = .exit 0 ∧ e = [(0, .d (.sl 1 (el (T.dig G)))), (1, .d (.sl 1 [])), (9, .d (.bool false))] ∧ μ = [] := by
  refine loop_m (fun k e μ => ∃ a : Nat, e = [(0, .d (.sl 1 (el (T.dig a)))), (1, .d (.sl 1 (el (T.dig k))))] ∧ μ = [] ∧ (T.dig a).length ≤ 1000000000 ∧ (T.dig k).length ≤ 1000000000 ∧ Nat.gcd a k = G) ?_ n _ _ ⟨m, rfl, rfl, hm, hn, hG⟩
  rintro k e μ ⟨a, rfl, rfl, ha, hk, hg⟩
  by_cases h0 : k = 0
  · subst h0
    rw [Nat.gcd_zero_right] at hg
    subst hg
    rw [T.dig_zero]
    exact .inr ⟨.exit 0, _, [], by simp [dendronref01_Gcd.b0] <;> rfl, by simp, rfl, rfl, rfl⟩
  · have o := over1_ev (nv := nv) a k (by omega) ha hk
    have hlt : a % k < k := Nat.mod_lt _ (by omega)
    have hp : 0 < (T.dig k).length := T.dig_len_pos.2 (by omega)
    have hp' : (0 : Int) < (T.dig k).length := by omega
    refine .inl ⟨[(0, .d (.sl 1 (el (T.dig k)))), (1, .d (.sl 1 (el (T.dig (a % k)))))], [], ?_, a % k, hlt, k, rfl, rfl, hk, Nat.le_trans (T.dig_len_mono (by omega)) hk, by rw [← hg, Nat.gcd_comm a k, Nat.gcd_rec k a, Nat.gcd_comm]⟩
    generalize T.dig (a % k) = w1 at *
    generalize T.dig (a / k) = w2 at *
    generalize T.dig k = w3 at *
    have hne : w3 ≠ [] := by intro h; subst h; simp at hp
    simp (disch := omega) [dendronref01_Gcd.b0, hp, hp', hne, o]
theorem gcd1_ev (m n : Nat) (hm : (T.dig m).length ≤ 1000000000) (hn : (T.dig n).length ≤ 1000000000) : EX ip nv (.call F.dendronref01_Gcd [.d (.sl 1 (el (T.dig m))), .d (.sl 1 (el (T.dig n)))] []) = some (.ret (.d (.sl 1 (el (T.dig (Nat.gcd m n))))) []) := by
  rw [S_call dendronref01_Gcd.ip rfl]
  obtain ⟨_, _, _, hr, -, rfl, rfl, rfl⟩ := gcd1_loop (nv := nv) _ m n hm hn rfl
  simp (disch := omega) [dendronref01_Gcd, hr]
theorem right1_loop (n : Nat) (hl : (dig n).length ≤ 1099511627776) : ∃ x e μ, EX ip nv (.code (.loop [] [] dendronref01_Right.b0) [(0, .d (.sl 1 (us (dig n)))), (3, .d (.int .i64 0))] []) = some (.st x e μ) ∧ x ≠ .normal ∧
    x = .exit 0 ∧ e = [(0, .d (.sl 1 (us (dig n)))), (3, .d (.int .i64 ((dig n).length : Int))), (7, .d (.bool false))] ∧ μ = [] := by
  have hc := dig_cl n
  generalize dig n = l at *
  refine loop_n l.length (fun i e μ => e = [(0, .d (.sl 1 (us l))), (3, .d (.int .i64 (i : Int)))] ∧ μ = []) ?_ ?_ ⟨rfl, rfl⟩
  · rintro i e μ hi ⟨rfl, rfl⟩
    have l1 := lb_lt hc i
    have h1 : ¬ 4294967295 < lb l i := by omega
    refine .inl ⟨_, _, ?_, rfl, rfl⟩
    simp (disch := omega) [dendronref01_Right.b0, hi, h1]
  · rintro e μ ⟨rfl, rfl⟩
    exact ⟨.exit 0, _, [], by simp [dendronref01_Right.b0] <;> rfl, by simp, rfl, rfl, rfl⟩
theorem right1_ev (n : Nat) (hl : (dig n).length ≤ 1099511627776) : EX ip nv (.call F.dendronref01_Right [.d (.sl 1 (us (dig n)))] []) = some (.ret (.d (.bool true)) []) := by
  rw [S_call dendronref01_Right.ip rfl]
  obtain ⟨_, _, _, hr, -, rfl, rfl, rfl⟩ := right1_loop (nv := nv) n hl
  by_cases h0 : n = 0
  · subst h0
    rw [dig_zero] at *
    rw [show us [] = [] from rfl] at *
    simp only [List.length_nil] at hr
    simp (disch := omega) [dendronref01_Right, hr]
  · have hp : 0 < (dig n).length := dig_len_pos.2 (by omega)
    have hne : dig n ≠ [] := by intro h; rw [h] at hp; simp at hp
    have hlast := dig_last (n := n) (by omega)
    generalize dig n = l at *
    have hne2 : ¬ l.length = 0 := by omega
    simp (disch := omega) [dendronref01_Right, hr, hne, hne2, hlast]
end
end Go.Proofs.YtgigaimaaijalaaGreatDoor
