/- Knuth's division, part two: a digit; leading zeros. -/
import Derived.Test.YtnmbpainnkdonaaDoorNd
set_option linter.unusedSimpArgs false
set_option linter.unusedVariables false
namespace Go.Proofs.YtnmbpainnkdonaaDoor
open Go Go.Proofs.R
set_option maxRecDepth 10000
def len8 : ByteArray := ⟨#[0, 1, 2, 2, 3, 3, 3, 3, 4, 4, 4, 4, 4, 4, 4, 4, 5, 5, 5, 5, 5, 5, 5, 5, 5, 5, 5, 5, 5, 5, 5, 5, 6, 6, 6, 6, 6, 6, 6, 6, 6, 6, 6, 6, 6, 6, 6, 6, 6, 6, 6, 6, 6, 6, 6, 6, 6, 6, 6, 6, 6, 6, 6, 6, 7, 7, 7, 7, 7, 7, 7, 7, 7, 7, 7, 7, 7, 7, 7, 7, 7, 7, 7, 7, 7, 7, 7, 7, 7, 7, 7, 7, 7, 7, 7, 7, 7, 7, 7, 7, 7, 7, 7, 7, 7, 7, 7, 7, 7, 7, 7, 7, 7, 7, 7, 7, 7, 7, 7, 7, 7, 7, 7, 7, 7, 7, 7, 7, 8, 8, 8, 8, 8, 8, 8, 8, 8, 8, 8, 8, 8, 8, 8, 8, 8, 8, 8, 8, 8, 8, 8, 8, 8, 8, 8, 8, 8, 8, 8, 8, 8, 8, 8, 8, 8, 8, 8, 8, 8, 8, 8, 8, 8, 8, 8, 8, 8, 8, 8, 8, 8, 8, 8, 8, 8, 8, 8, 8, 8, 8, 8, 8, 8, 8, 8, 8, 8, 8, 8, 8, 8, 8, 8, 8, 8, 8, 8, 8, 8, 8, 8, 8, 8, 8, 8, 8, 8, 8, 8, 8, 8, 8, 8, 8, 8, 8, 8, 8, 8, 8, 8, 8, 8, 8, 8, 8, 8, 8, 8, 8, 8, 8, 8, 8, 8, 8, 8, 8, 8, 8, 8, 8, 8, 8, 8, 8]⟩
theorem len8_lit : ⟨#[0, 1, 2, 2, 3, 3, 3, 3, 4, 4, 4, 4, 4, 4, 4, 4, 5, 5, 5, 5, 5, 5, 5, 5, 5, 5, 5, 5, 5, 5, 5, 5, 6, 6, 6, 6, 6, 6, 6, 6, 6, 6, 6, 6, 6, 6, 6, 6, 6, 6, 6, 6, 6, 6, 6, 6, 6, 6, 6, 6, 6, 6, 6, 6, 7, 7, 7, 7, 7, 7, 7, 7, 7, 7, 7, 7, 7, 7, 7, 7, 7, 7, 7, 7, 7, 7, 7, 7, 7, 7, 7, 7, 7, 7, 7, 7, 7, 7, 7, 7, 7, 7, 7, 7, 7, 7, 7, 7, 7, 7, 7, 7, 7, 7, 7, 7, 7, 7, 7, 7, 7, 7, 7, 7, 7, 7, 7, 7, 8, 8, 8, 8, 8, 8, 8, 8, 8, 8, 8, 8, 8, 8, 8, 8, 8, 8, 8, 8, 8, 8, 8, 8, 8, 8, 8, 8, 8, 8, 8, 8, 8, 8, 8, 8, 8, 8, 8, 8, 8, 8, 8, 8, 8, 8, 8, 8, 8, 8, 8, 8, 8, 8, 8, 8, 8, 8, 8, 8, 8, 8, 8, 8, 8, 8, 8, 8, 8, 8, 8, 8, 8, 8, 8, 8, 8, 8, 8, 8, 8, 8, 8, 8, 8, 8, 8, 8, 8, 8, 8, 8, 8, 8, 8, 8, 8, 8, 8, 8, 8, 8, 8, 8, 8, 8, 8, 8, 8, 8, 8, 8, 8, 8, 8, 8, 8, 8, 8, 8, 8, 8, 8, 8, 8, 8, 8, 8]⟩ = len8 := rfl
/-- How many bits a number below 256 has. -/
def bl (n : Nat) : Nat := if n = 0 then 0 else if n < 2 then 1 else if n < 4 then 2 else if n < 8 then 3 else if n < 16 then 4 else if n < 32 then 5 else if n < 64 then 6 else if n < 128 then 7 else 8
theorem len8_all : (List.range 256).all (fun y => match len8[y]? with | some b => b.toNat == bl y | none => false) = true := by decide +kernel
theorem len8_get (y : Nat) (h : y < 256) : ∃ b : UInt8, len8[y]? = some b ∧ b.toNat = bl y := by
  have := List.all_eq_true.1 len8_all y (List.mem_range.2 h)
  cases hb : len8[y]? with
  | none => rw [hb] at this; cases this
  | some b => rw [hb] at this; exact ⟨b, rfl, by simpa using this⟩
theorem bl_lt (y : Nat) (h : y < 256) : y < 2 ^ bl y ∧ bl y ≤ 8 := by
  unfold bl
  repeat' split
  all_goals constructor <;> omega
section
variable {nv : R.Nv}
theorem len32_ev (x : Nat) (h : x < 4294967296) : ∃ n : Nat, n ≤ 32 ∧ x < 2 ^ n ∧ EX ip nv (.call F.bits_Len32 [.d (w32 x)] []) = some (.ret (.d (.int .i64 (n : Int))) []) := by
  have key : ∀ y : Nat, y < 256 → ∃ b : UInt8, len8[y]? = some b ∧ b.toNat = bl y ∧ y < 2 ^ bl y ∧ bl y ≤ 8 := fun y hy => by
    obtain ⟨b, h1, h2⟩ := len8_get y hy
    exact ⟨b, h1, h2, bl_lt y hy⟩
  rw [S_call bits_Len32.ip rfl]
  simp only [bits_Len32, len8_lit]
  by_cases h1 : 65536 ≤ x
  · by_cases h2 : 256 ≤ x / 65536
    · obtain ⟨b, k1, k2, k3, k4⟩ := key (x / 65536 / 256) (by omega)
      refine ⟨24 + bl (x / 65536 / 256), by omega, by rw [Nat.pow_add]; omega, ?_⟩
      simp (disch := omega) [h1, h2, k1, k2]
    · obtain ⟨b, k1, k2, k3, k4⟩ := key (x / 65536) (by omega)
      refine ⟨16 + bl (x / 65536), by omega, by rw [Nat.pow_add]; omega, ?_⟩
      simp (disch := omega) [h1, h2, k1, k2]
  · by_cases h2 : 256 ≤ x
    · obtain ⟨b, k1, k2, k3, k4⟩ := key (x / 256) (by omega)
      refine ⟨8 + bl (x / 256), by omega, by rw [Nat.pow_add]; omega, ?_⟩
      simp (disch := omega) [h1, h2, k1, k2]
    · obtain ⟨b, k1, k2, k3, k4⟩ := key x (by omega)
      refine ⟨bl x, by omega, k3, ?_⟩
      simp (disch := omega) [h1, h2, k1, k2]
theorem lz32_ev (x : Nat) (h : x < 4294967296) (h0 : 0 < x) : ∃ s : Nat, s < 32 ∧ x * 2 ^ s < 4294967296 ∧ EX ip nv (.call F.bits_LeadingZeros32 [.d (w32 x)] []) = some (.ret (.d (.int .i64 (s : Int))) []) := by
  obtain ⟨n, h1, h2, h3⟩ := len32_ev (nv := nv) x h
  have hn : n ≠ 0 := by rintro rfl; simp at h2; omega
  refine ⟨32 - n, by omega, ?_, ?_⟩
  · have : x * 2 ^ (32 - n) < 2 ^ n * 2 ^ (32 - n) := Nat.mul_lt_mul_of_pos_right h2 (Nat.two_pow_pos _)
    rw [← Nat.pow_add, show n + (32 - n) = 32 by omega] at this
    exact this
  · rw [S_call bits_LeadingZeros32.ip rfl]
    have e : (32 : Int) - (n : Int) = ((32 - n : Nat) : Int) := by omega
    simp (disch := omega) [bits_LeadingZeros32, h3, e]

theorem digit_ev (p w q v : List Nat) (hw : Cl w) (hv : Cl v) (hm : w.length = v.length + 1) (hn : 2 ≤ v.length) (htop : lb v (v.length - 1) ≠ 0) (hlt : lv w < 4294967296 * lv v) (U0 : List Nat) (hU : U0 = p ++ w ++ q) (hL : U0.length ≤ 4398046511104) (hvl : v.length ≤ 1099511627776) :
    ∃ w', EX ip nv (.call F.nat_digit [.own 0 1 p.length w.length, .d (.sl 1 (us v))] [(0, ⟨0, true, us U0⟩)]) = some (.ret (.d (u (lv w / lv v))) [(0, ⟨0, true, us (p ++ w' ++ q)⟩)]) ∧ w'.length = w.length ∧ Cl w' ∧ lv w' = lv w % lv v := by
  obtain ⟨n, hnd⟩ : ∃ n, n = v.length := ⟨_, rfl⟩
  have hLe : U0.length = p.length + w.length + q.length := by rw [hU]; simp; omega
  -- the numbers
  have hW : lv w = lv (w.take (n - 2)) + pw (n - 2) * (lb w (n - 2) + 4294967296 * (lb w n * 4294967296 + lb w (n - 1))) := by
    rw [lv_cut w (n - 2) (by omega), lv_drop hw (by omega), show n - 2 + 1 = n - 1 by omega, lv_drop hw (i := n - 1) (by omega), show n - 1 + 1 = n by omega, lv_drop hw (i := n) (by omega), List.drop_of_length_le (by omega)]
    simp only [lv, Nat.mul_zero, Nat.add_zero]
    congr 3
    omega
  have hV : lv v = lv (v.take (n - 2)) + pw (n - 2) * (lb v (n - 2) + 4294967296 * lb v (n - 1)) := by
    rw [lv_cut v (n - 2) (by omega), lv_drop hv (by omega), show n - 2 + 1 = n - 1 by omega, lv_drop hv (i := n - 1) (by omega), show n - 1 + 1 = n by omega, List.drop_of_length_le (by omega)]
    simp only [lv, Nat.mul_zero, Nat.add_zero]
  have hur := lv_lt (w.take (n - 2))
  have hvr := lv_lt (v.take (n - 2))
  rw [List.length_take, Nat.min_eq_left (by omega)] at hur hvr
  have x0 := lb_lt hw n
  have x1 := lb_lt hw (n - 1)
  have x2 := lb_lt hw (n - 2)
  have y1 := lb_lt hv (n - 1)
  have y2 := lb_lt hv (n - 2)
  have hv1 : 0 < lb v (n - 1) := by rw [hnd]; omega
  have hV0 : 0 < lv v := by
    have h1 : 1 * 1 ≤ pw (n - 2) * (lb v (n - 2) + 4294967296 * lb v (n - 1)) := Nat.mul_le_mul (pw_pos _) (by omega)
    omega
  obtain ⟨two, htwo⟩ : ∃ two, two = lb w n * 4294967296 + lb w (n - 1) := ⟨_, rfl⟩
  rw [← htwo] at hW
  have hqq : lv w / lv v * lv v ≤ lv w := Nat.div_mul_le_self _ _
  have hqB : lv w / lv v < 4294967296 := by rw [Nat.div_lt_iff_lt_mul hV0]; exact hlt
  have kd1 := kn_a hV hW hur x2 hqq
  -- reads
  have r0 : lb U0 (p.length + n) = lb w n := by rw [hU]; exact lb_win (by omega)
  have r1 : lb U0 (p.length + (n - 1)) = lb w (n - 1) := by rw [hU]; exact lb_win (by omega)
  have r2 : lb U0 (p.length + (n - 2)) = lb w (n - 2) := by rw [hU]; exact lb_win (by omega)
  have loop : ∃ x e μ, EX ip nv (.code (.loop [66] [] nat_digit.b0) [(0, .own 0 1 p.length w.length), (1, .d (.sl 1 (us v))), (5, .d (.int .i64 (n : Int))), (7, .d (u (two / lb v (n - 1)))), (8, .d (u (two % lb v (n - 1))))] [(0, ⟨0, true, us U0⟩)]) = some (.st x e μ) ∧ x ≠ .normal ∧
      ∃ g t b, x = .exit 0 ∧ e = [(0, .own 0 1 p.length w.length), (1, .d (.sl 1 (us v))), (5, .d (.int .i64 (n : Int))), (7, .d (u g)), (8, .d (u t)), b] ∧ (b = (55, .d (.bool false)) ∨ b = (66, .d (.bool true))) ∧ μ = [(0, ⟨0, true, us U0⟩)] ∧ g < 4294967296 ∧ lv w / lv v ≤ g ∧ g * lv v < lv w + lv v := by
    refine loop_mk (fun k e μ => ∃ g t, e = [(0, .own 0 1 p.length w.length), (1, .d (.sl 1 (us v))), (5, .d (.int .i64 (n : Int))), (7, .d (u g)), (8, .d (u t))] ∧ μ = [(0, ⟨0, true, us U0⟩)] ∧ t < 4294967296 ∧ t + k = 4294967296 ∧ g * lb v (n - 1) + t = two ∧ lv w / lv v ≤ g) ?_ (4294967296 - two % lb v (n - 1)) _ _ ⟨_, _, by simp, rfl, ?_, ?_, Nat.div_add_mod' _ _, ?_⟩
    · rintro k e μ ⟨g, t, rfl, rfl, ht, htk, hg, hq⟩
      have hgB : g < 18446744073709551616 := by
        have : g * 1 ≤ g * lb v (n - 1) := Nat.mul_le_mul_left _ hv1
        omega
      by_cases c1 : 4294967296 ≤ g
      · have hg1 : (g - 1) * lb v (n - 1) + (t + lb v (n - 1)) = two := by
          have : g * lb v (n - 1) = (g - 1) * lb v (n - 1) + lb v (n - 1) := by
            rw [← Nat.succ_mul]; congr 1; omega
          omega
        by_cases c2 : 4294967296 ≤ t + lb v (n - 1)
        · right
          have hgb := kn_b hV hW hvr y2 hlt hg1 c2
          have hgd := kn_d hV hW hvr hv1 hg1 hgb (by
            calc (g - 1) * lb v (n - 2) ≤ 4294967296 * 4294967296 := Nat.mul_le_mul (by omega) (by omega)
              _ ≤ (t + lb v (n - 1)) * 4294967296 := Nat.mul_le_mul_right _ c2
              _ ≤ _ := Nat.le_add_right _ _)
          refine ⟨.exit 0, [(0, .own 0 1 p.length w.length), (1, .d (.sl 1 (us v))), (5, .d (.int .i64 (n : Int))), (7, .d (u (g - 1))), (8, .d (u (t + lb v (n - 1)))), (66, .d (.bool true))], _, ?_, by simp, g - 1, _, _, rfl, rfl, .inr rfl, rfl, hgb, by omega, hgd⟩
          simp (disch := omega) [nat_digit.b0, c1, c2]
        · left
          refine ⟨[(0, .own 0 1 p.length w.length), (1, .d (.sl 1 (us v))), (5, .d (.int .i64 (n : Int))), (7, .d (u (g - 1))), (8, .d (u (t + lb v (n - 1)))), (66, .d (.bool false))], _, ?_, k - lb v (n - 1), by omega, g - 1, t + lb v (n - 1), by simp, rfl, by omega, by omega, hg1, by omega⟩
          simp (disch := omega) [nat_digit.b0, c1, c2]
      · have hm1 : g * lb v (n - 2) ≤ 4294967295 * 4294967295 := Nat.mul_le_mul (by omega) (by omega)
        by_cases c3 : t * 4294967296 + lb w (n - 2) < g * lb v (n - 2)
        · have kc := kn_c hV hW hur hg c3
          have hgq : lv w / lv v < g := (Nat.div_lt_iff_lt_mul hV0).2 kc
          have hg0 : 0 < g := Nat.lt_of_le_of_lt (Nat.zero_le _) hgq
          have hgq' : lv w / lv v ≤ g - 1 := Nat.le_sub_one_of_lt hgq
          clear hgq
          have hg1 : (g - 1) * lb v (n - 1) + (t + lb v (n - 1)) = two := by
            have : g * lb v (n - 1) = (g - 1) * lb v (n - 1) + lb v (n - 1) := by
              rw [← Nat.succ_mul]; congr 1; omega
            omega
          by_cases c2 : 4294967296 ≤ t + lb v (n - 1)
          · right
            have hgd := kn_d hV hW hvr hv1 hg1 (by omega) (by
              calc (g - 1) * lb v (n - 2) ≤ 4294967296 * 4294967296 := Nat.mul_le_mul (by omega) (by omega)
                _ ≤ (t + lb v (n - 1)) * 4294967296 := Nat.mul_le_mul_right _ c2
                _ ≤ _ := Nat.le_add_right _ _)
            refine ⟨.exit 0, [(0, .own 0 1 p.length w.length), (1, .d (.sl 1 (us v))), (5, .d (.int .i64 (n : Int))), (7, .d (u (g - 1))), (8, .d (u (t + lb v (n - 1)))), (66, .d (.bool true))], _, ?_, by simp, g - 1, _, _, rfl, rfl, .inr rfl, rfl, by omega, by omega, hgd⟩
            simp (disch := omega) [nat_digit.b0, c1, c2, c3, r2]
          · left
            refine ⟨[(0, .own 0 1 p.length w.length), (1, .d (.sl 1 (us v))), (5, .d (.int .i64 (n : Int))), (7, .d (u (g - 1))), (8, .d (u (t + lb v (n - 1)))), (66, .d (.bool false))], _, ?_, k - lb v (n - 1), by omega, g - 1, t + lb v (n - 1), by simp, rfl, by omega, by omega, hg1, by omega⟩
            simp (disch := omega) [nat_digit.b0, c1, c2, c3, r2]
        · right
          have hgd := kn_d hV hW hvr hv1 hg (by omega) (by omega)
          refine ⟨.exit 0, [(0, .own 0 1 p.length w.length), (1, .d (.sl 1 (us v))), (5, .d (.int .i64 (n : Int))), (7, .d (u g)), (8, .d (u t)), (55, .d (.bool false))], _, ?_, by simp, g, t, _, rfl, rfl, .inl rfl, rfl, by omega, hq, hgd⟩
          simp (disch := omega) [nat_digit.b0, c1, c3, r2]
    · have := Nat.mod_lt two hv1; omega
    · have := Nat.mod_lt two hv1; omega
    · exact (Nat.le_div_iff_mul_le hv1).2 kd1
  obtain ⟨_, _, _, hr, -, g, t, b, rfl, rfl, hb, rfl, hgB, hgq, hgd⟩ := loop
  obtain ⟨w1, d, t1, t2, t3, t4, t5⟩ := take_ev (nv := nv) p w q v g hw hv hgB hm U0 hU hL hvl
  have hWp : lv w < pw w.length := lv_lt w
  have hmod := Nat.mod_lt (lv w) hV0
  have hdm := Nat.div_add_mod (lv w) (lv v)
  have hw1 := lv_lt w1
  rw [t2] at hw1
  have hd : d = 0 ∨ d = 1 := by omega
  rcases hd with rfl | rfl
  · have hgle : g ≤ lv w / lv v := (Nat.le_div_iff_mul_le hV0).2 (by omega)
    have hge : g = lv w / lv v := by omega
    refine ⟨w1, ?_, t2, t3, ?_⟩
    · rw [S_call nat_digit.ip rfl, ← hge]
      simp only [Nat.zero_ne_one, decide_false] at t1
      rcases hb with rfl | rfl <;> simp (disch := omega) [nat_digit, ← hnd, r0, r1, ← htwo, hr, t1]
    · rw [hge] at t5
      rw [Nat.mul_comm] at hdm
      generalize lv w / lv v * lv v = Z at t5 hdm
      generalize lv w % lv v = Y at *
      omega
  · have hgt : lv w < g * lv v := by omega
    have hge : g = lv w / lv v + 1 := by
      have h1 : lv w / lv v < g := (Nat.div_lt_iff_lt_mul hV0).2 hgt
      have hg0 : 0 < g := Nat.lt_of_le_of_lt (Nat.zero_le _) h1
      have h2 : (g - 1) * lv v ≤ lv w := by
        have : g * lv v = (g - 1) * lv v + lv v := by rw [← Nat.succ_mul]; congr 1; omega
        omega
      have h3 := (Nat.le_div_iff_mul_le hV0).2 h2
      omega
    obtain ⟨w2, c, g1, g2, g3, g4, g5⟩ := give_ev (nv := nv) p w1 q v t3 hv (by omega) (p ++ w1 ++ q) rfl (by simp; omega) hvl
    have hw2 := lv_lt w2
    rw [g2, t2] at hw2
    rw [t2] at g5 g1
    have hg0 : 0 < g := by rw [hge]; exact Nat.succ_pos _
    have hgm : g * lv v = lv w / lv v * lv v + lv v := by rw [hge, Nat.succ_mul]
    rw [Nat.mul_comm (lv v)] at hdm
    refine ⟨w2, ?_, by omega, g3, ?_⟩
    · rw [S_call nat_digit.ip rfl, show lv w / lv v = g - 1 by rw [hge]; rfl]
      rcases hb with rfl | rfl <;> simp (disch := omega) [-List.append_assoc, nat_digit, ← hnd, r0, r1, ← htwo, hr, t1, g1]
    · have hc : c = 0 ∨ c = 1 := by omega
      rw [hgm] at t5
      generalize lv w / lv v * lv v = Z at t5 hdm
      generalize lv w % lv v = Y at *
      clear hgm hge hgt hgd hqq
      rcases hc with rfl | rfl <;> omega
end
end Go.Proofs.YtnmbpainnkdonaaDoor
