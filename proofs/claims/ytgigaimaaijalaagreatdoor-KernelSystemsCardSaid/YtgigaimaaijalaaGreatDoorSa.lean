/- The reference's natural numbers: digits to the base 10000: small ones, order, sums, differences, products. -/
import Derived.Test.YtgigaimaaijalaaGreatDoorRf
import Derived.Test.YtgigaimaaijalaaGreatDoorIr
set_option linter.unusedSimpArgs false
set_option linter.unusedVariables false
namespace Go.Proofs.YtgigaimaaijalaaGreatDoor
open Go Go.Proofs.R
set_option maxRecDepth 10000
section
variable {nv : R.Nv}
theorem tlen {n k : Nat} (h : n < T.pw k) : (T.dig n).length ≤ k := T.dig_len_le.2 h
theorem small1_loop (N : Nat) (hN : N < 9223372036854775808) : ∃ x e μ, EX ip nv (.code (.loop [] [] dendronref01_Small.b0) [(0, .d (.int .i64 (N : Int))), (3, .own 3 1 0 0)] [(3, ⟨0, false, []⟩)]) = some (.st x e μ) ∧ x ≠ .normal ∧
    x = .exit 0 ∧ e = [(0, .d (.int .i64 0)), (3, .own 3 1 0 (T.dig N).length), (5, .d (.bool false))] ∧ μ = [(3, ⟨0, false, el (T.dig N)⟩)] := by
  have hl : (T.dig N).length ≤ 5 := tlen (by simp [T.pw]; omega)
  refine loop_m (fun k e μ => ∃ a : List Nat, e = [(0, .d (.int .i64 (k : Int))), (3, .own 3 1 0 a.length)] ∧ μ = [(3, ⟨0, false, el a⟩)] ∧ a ++ T.dig k = T.dig N ∧ k ≤ N) ?_ N _ _ ⟨[], rfl, rfl, rfl, Nat.le_refl _⟩
  rintro k e μ ⟨a, rfl, rfl, ha, hk⟩
  by_cases h0 : k = 0
  · subst h0
    rw [T.dig_zero, List.append_nil] at ha
    subst ha
    exact .inr ⟨.exit 0, _, _, by simp [dendronref01_Small.b0] <;> first | rfl | exact ⟨rfl, rfl⟩, by simp, rfl, rfl, rfl⟩
  · have hal : a.length ≤ 5 := by
      have := congrArg List.length ha
      rw [List.length_append] at this
      omega
    rw [T.dig_pos h0] at ha
    have h1 := i_rem4 (x := k)
    have h2 := i_quo4 (x := k) (by omega)
    have hq : k / 10000 < k := by omega
    have hk0 : 0 < k := by omega
    refine .inl ⟨[(0, .d (.int .i64 ((k / 10000 : Nat) : Int))), (3, .own 3 1 0 (a ++ [k % 10000]).length)], [(3, ⟨0, false, el (a ++ [k % 10000])⟩)], ?_, k / 10000, hq, a ++ [k % 10000], rfl, rfl, by rw [List.append_assoc]; exact ha, by omega⟩
    clear ha
    generalize k / 10000 = q at *
    generalize k % 10000 = r at *
    simp (disch := omega) [dendronref01_Small.b0, hk0, h1, h2, -vBin_rem, -vBin_quo]
theorem small1_ev (N : Nat) (hN : N < 9223372036854775808) : EX ip nv (.call F.dendronref01_Small [.d (.int .i64 (N : Int))] []) = some (.ret (.d (.sl 1 (el (T.dig N)))) []) := by
  rw [S_call dendronref01_Small.ip rfl]
  obtain ⟨_, _, _, hr, -, rfl, rfl, rfl⟩ := small1_loop (nv := nv) N hN
  generalize T.dig N = a at *
  simp (disch := first | omega | simp) [dendronref01_Small, hr]
theorem trim1_loop (l : List Nat) (hl : l.length ≤ 1125899906842624) (hc : T.Cl l) : ∃ x e μ, EX ip nv (.code (.loop [] [] dendronref01_Trim.b0) [(0, .d (.sl 1 (el l))), (3, .d (.int .i64 (l.length : Int)))] []) = some (.st x e μ) ∧ x ≠ .normal ∧
    ∃ j : Nat, x = .exit 0 ∧ e = [(0, .d (.sl 1 (el l))), (3, .d (.int .i64 (j : Int))), (15, .d (.bool false))] ∧ μ = [] ∧ j ≤ l.length ∧ T.dig (T.lv l) = l.take j := by
  refine loop_m (fun k e μ => e = [(0, .d (.sl 1 (el l))), (3, .d (.int .i64 (k : Int)))] ∧ μ = [] ∧ k ≤ l.length ∧ T.lv (l.drop k) = 0) ?_ l.length _ _ ⟨rfl, rfl, Nat.le_refl _, by simp [T.lv]⟩
  rintro k e μ ⟨rfl, rfl, h, h0⟩
  cases k with
  | zero => exact .inr ⟨.exit 0, [(0, .d (.sl 1 (el l))), (3, .d (.int .i64 0)), (15, .d (.bool false))], [], by simp [dendronref01_Trim.b0], by simp, 0, rfl, by simp, rfl, by omega, T.dig_take hc (Nat.zero_le _) h0 (.inl rfl)⟩
  | succ k =>
    have hk : (0 : Int) < (k : Int) + 1 := by omega
    by_cases hz : T.lb l k = 0
    · have h1 : T.lv (l.drop k) = 0 := by rw [T.lv_drop hc (by omega), hz, h0]
      exact .inl ⟨[(0, .d (.sl 1 (el l))), (3, .d (.int .i64 (k : Int)))], [], by simp (disch := omega) [dendronref01_Trim.b0, hk, hz, ix_lb], k, by omega, rfl, rfl, by omega, h1⟩
    · exact .inr ⟨.exit 0, [(0, .d (.sl 1 (el l))), (3, .d (.int .i64 ((k + 1 : Nat) : Int))), (15, .d (.bool false))], [], by simp (disch := omega) [dendronref01_Trim.b0, hk, hz, ix_lb], by simp, k + 1, rfl, rfl, rfl, h, T.dig_take hc h h0 (.inr (by simpa using hz))⟩
theorem trim1_ev (l : List Nat) (hl : l.length ≤ 1125899906842624) (hc : T.Cl l) : EX ip nv (.call F.dendronref01_Trim [.d (.sl 1 (el l))] []) = some (.ret (.d (.sl 1 (el (T.dig (T.lv l))))) []) := by
  rw [S_call dendronref01_Trim.ip rfl]
  obtain ⟨_, _, _, ih, -, j, rfl, rfl, rfl, hj, hd⟩ := trim1_loop (nv := nv) l hl hc
  rw [hd]
  simp (disch := omega) [dendronref01_Trim, ih]
theorem order1_loop (a b : List Nat) (ha : T.Cl a) (hb : T.Cl b) (hl : a.length = b.length) (hs : a.length ≤ 1099511627776) : ∃ x e μ, EX ip nv (.code (.loop [] [] dendronref01_Order.b0) [(0, .d (.sl 1 (el a))), (1, .d (.sl 1 (el b))), (5, .d (.int .i64 ((a.length : Int) - 1)))] []) = some (.st x e μ) ∧ x ≠ .normal ∧
    μ = [] ∧ ((x = .exit 0 ∧ e = [(0, .d (.sl 1 (el a))), (1, .d (.sl 1 (el b))), (5, .d (.int .i64 (-1))), (20, .d (.bool false))] ∧ T.lv a = T.lv b) ∨ (x = .ret ∧ e = [(4, .d (.int .i64 (if T.lv a < T.lv b then -1 else 1)))] ∧ T.lv a ≠ T.lv b)) := by
  refine loop_m (fun k e μ => e = [(0, .d (.sl 1 (el a))), (1, .d (.sl 1 (el b))), (5, .d (.int .i64 ((k : Int) - 1)))] ∧ μ = [] ∧ k ≤ a.length ∧ T.lv (a.drop k) = T.lv (b.drop k)) ?_ a.length _ _ ⟨rfl, rfl, Nat.le_refl _, by rw [List.drop_length, hl, List.drop_length]⟩
  rintro k e μ ⟨rfl, rfl, h, h0⟩
  cases k with
  | zero => exact .inr ⟨.exit 0, [(0, .d (.sl 1 (el a))), (1, .d (.sl 1 (el b))), (5, .d (.int .i64 (-1))), (20, .d (.bool false))], [], by simp [dendronref01_Order.b0], by simp, rfl, .inl ⟨rfl, rfl, by simpa using h0⟩⟩
  | succ k =>
    have ea := T.lv_cut a (k + 1) h
    have eb := T.lv_cut b (k + 1) (by omega)
    have e1 := T.lv_take_succ ha k
    have e2 := T.lv_take_succ hb k
    have l1 := T.lv_lt (a.take k)
    have l2 := T.lv_lt (b.take k)
    rw [List.length_take, Nat.min_eq_left (by omega)] at l1 l2
    have hk : (0 : Int) ≤ (k : Int) := by omega
    by_cases c1 : T.lb a k < T.lb b k
    · have c3 : T.lv a < T.lv b := by
        rw [ea, eb, h0, e1, e2]
        have : T.pw k * (T.lb a k + 1) ≤ T.pw k * T.lb b k := Nat.mul_le_mul_left _ c1
        rw [Nat.mul_add] at this
        omega
      refine .inr ⟨.ret, [(4, .d (.int .i64 (-1)))], [], by simp (disch := omega) [dendronref01_Order.b0, hk, c1, ix_lb], by simp, rfl, .inr ⟨rfl, by simp [c3], by omega⟩⟩
    · by_cases c2 : T.lb b k < T.lb a k
      · have c3 : T.lv b < T.lv a := by
          rw [ea, eb, h0, e1, e2]
          have : T.pw k * (T.lb b k + 1) ≤ T.pw k * T.lb a k := Nat.mul_le_mul_left _ c2
          rw [Nat.mul_add] at this
          omega
        have c4 : ¬ T.lv a < T.lv b := by omega
        refine .inr ⟨.ret, [(4, .d (.int .i64 1))], [], by simp (disch := omega) [dendronref01_Order.b0, hk, c1, c2, ix_lb], by simp, rfl, .inr ⟨rfl, by simp [c4], by omega⟩⟩
      · have c3 : T.lb a k = T.lb b k := by omega
        refine .inl ⟨[(0, .d (.sl 1 (el a))), (1, .d (.sl 1 (el b))), (5, .d (.int .i64 ((k : Int) - 1)))], [], by simp (disch := omega) [dendronref01_Order.b0, hk, c3, ix_lb], k, by omega, rfl, rfl, by omega, ?_⟩
        rw [T.lv_drop ha (by omega), T.lv_drop hb (by omega), h0, c3]
/-- How two numbers stand. -/
def cmpN (a b : Nat) : Int := if a < b then -1 else if b < a then 1 else 0
theorem order1_ev (m n : Nat) (hm : (T.dig m).length ≤ 1099511627776) (hn : (T.dig n).length ≤ 1099511627776) : EX ip nv (.call F.dendronref01_Order [.d (.sl 1 (el (T.dig m))), .d (.sl 1 (el (T.dig n)))] []) = some (.ret (.d (.int .i64 (cmpN m n))) []) := by
  rw [S_call dendronref01_Order.ip rfl]
  by_cases h1 : (T.dig m).length < (T.dig n).length
  · have c : m < n := by
      have := T.dig_len_le.1 (show (T.dig m).length ≤ (T.dig n).length - 1 by omega)
      have h2 : 0 < n := T.dig_len_pos.1 (by omega)
      have := T.dig_ge h2
      omega
    have h3 : ¬ (T.dig m).length = (T.dig n).length := by omega
    have h4 : ((T.dig m).length : Int) < ((T.dig n).length : Int) := by omega
    have h5 : ¬ ((T.dig m).length : Int) = ((T.dig n).length : Int) := by omega
    simp (disch := omega) [dendronref01_Order, h1, h3, h4, h5, cmpN, c]
  · by_cases h2 : (T.dig n).length < (T.dig m).length
    · have c : n < m := by
        have := T.dig_len_le.1 (show (T.dig n).length ≤ (T.dig m).length - 1 by omega)
        have h2 : 0 < m := T.dig_len_pos.1 (by omega)
        have := T.dig_ge h2
        omega
      have c' : ¬ m < n := by omega
      have h3 : ¬ (T.dig m).length = (T.dig n).length := by omega
      have h4 : ¬ ((T.dig m).length : Int) < ((T.dig n).length : Int) := by omega
      have h5 : ¬ ((T.dig m).length : Int) = ((T.dig n).length : Int) := by omega
      simp (disch := omega) [dendronref01_Order, h1, h2, h3, h4, h5, cmpN, c, c']
    · have hl : (T.dig m).length = (T.dig n).length := by omega
      obtain ⟨x, e, μ, hr, -, rfl, ⟨rfl, rfl, hv⟩ | ⟨rfl, rfl, hv⟩⟩ := order1_loop (nv := nv) (T.dig m) (T.dig n) (T.dig_cl m) (T.dig_cl n) hl hm
      · rw [T.lv_dig, T.lv_dig] at hv
        subst hv
        simp (disch := omega) [dendronref01_Order, hr, cmpN]
      · rw [T.lv_dig, T.lv_dig] at hr hv
        rw [hl] at hr
        have e : (if m < n then (-1 : Int) else 1) = cmpN m n := by
          unfold cmpN
          split
          · rfl
          · rw [if_pos (by omega)]
        rw [e] at hr
        simp (disch := omega) [dendronref01_Order, hl, hr]
theorem digit1_ev (l : List Nat) (i : Nat) (hl : l.length ≤ 1125899906842624) (hi : i ≤ 1125899906842624) : EX ip nv (.call F.dendronref01_digit [.d (.sl 1 (el l)), .d (.int .i64 (i : Int))] []) = some (.ret (.d (.int .i64 (T.lb l i : Nat))) []) := by
  rw [S_call dendronref01_digit.ip rfl]
  by_cases h : i < l.length
  · have h' : (i : Int) < l.length := by omega
    simp (disch := omega) [dendronref01_digit, h', h, ix_lb]
  · have h' : ¬ (i : Int) < l.length := by omega
    simp (disch := omega) [dendronref01_digit, h', h, T.lb_out (Nat.not_lt.1 h)]
end
end Go.Proofs.YtgigaimaaijalaaGreatDoor
