/- Natural numbers of the program: limbs made clean, small numbers, order, sums, differences. -/
import Derived.Test.YtgigaimaaijalaaDoorIr
import Derived.Test.YtgigaimaaijalaaDoorRc
set_option linter.unusedSimpArgs false
set_option linter.unusedVariables false
namespace Go.Proofs.YtgigaimaaijalaaDoor
open Go Go.Proofs.R
set_option maxRecDepth 10000
section
variable {nv : R.Nv}
/-- Limbs that can stand in memory. -/
def Rw (l : List Nat) : Prop := (∀ x ∈ l, x < 18446744073709551616) ∧ l.length ≤ 1099511627776
theorem Rw.of {l : List Nat} (h : Cl l) (h' : l.length ≤ 1099511627776) : Rw l := ⟨fun x hx => by have := h x hx; omega, h'⟩
theorem Rw.lb {l : List Nat} (h : Rw l) (i : Nat) : lb l i < 18446744073709551616 := by
  unfold R.lb
  rw [List.getD_eq_getElem?_getD]
  cases hi : l[i]? with
  | none => simp
  | some x => simpa using h.1 x (List.mem_of_getElem? hi)
theorem limb_ev (l : List Nat) (i : Nat) (hl : l.length ≤ 1099511627776) (hi : i ≤ 1099511627776) : EX ip nv (.call F.nat_limb [.d (.sl 1 (us l)), .d (.int .i64 (i : Int))] []) = some (.ret (.d (u (lb l i))) []) := by
  rw [S_call nat_limb.ip rfl]
  by_cases h : i < l.length
  · have h' : (i : Int) < l.length := by omega
    simp (disch := omega) [nat_limb, h']
  · have h' : ¬ (i : Int) < l.length := by omega
    simp (disch := omega) [nat_limb, h', lb_out (Nat.not_lt.1 h)]

theorem trim_loop (l : List Nat) (hl : l.length ≤ 1125899906842624) (hc : Cl l) : ∃ x e μ, EX ip nv (.code (.loop [] [] nat_trim.b0) [(0, .d (.sl 1 (us l))), (3, .d (.int .i64 (l.length : Int)))] []) = some (.st x e μ) ∧ x ≠ .normal ∧
    ∃ j : Nat, x = .exit 0 ∧ e = [(0, .d (.sl 1 (us l))), (3, .d (.int .i64 (j : Int))), (15, .d (.bool false))] ∧ μ = [] ∧ j ≤ l.length ∧ dig (lv l) = l.take j := by
  refine loop_m (fun k e μ => e = [(0, .d (.sl 1 (us l))), (3, .d (.int .i64 (k : Int)))] ∧ μ = [] ∧ k ≤ l.length ∧ lv (l.drop k) = 0) ?_ l.length _ _ ⟨rfl, rfl, Nat.le_refl _, by simp [lv]⟩
  rintro k e μ ⟨rfl, rfl, h, h0⟩
  cases k with
  | zero => exact .inr ⟨.exit 0, [(0, .d (.sl 1 (us l))), (3, .d (.int .i64 0)), (15, .d (.bool false))], [], by simp [nat_trim.b0], by simp, 0, rfl, by simp, rfl, by omega, dig_take hc (Nat.zero_le _) h0 (.inl rfl)⟩
  | succ k =>
    have hk : (0 : Int) < (k : Int) + 1 := by omega
    by_cases hz : lb l k = 0
    · have h1 : lv (l.drop k) = 0 := by rw [lv_drop hc (by omega), hz, h0]
      exact .inl ⟨[(0, .d (.sl 1 (us l))), (3, .d (.int .i64 (k : Int)))], [], by simp (disch := omega) [nat_trim.b0, hk, hz], k, by omega, rfl, rfl, by omega, h1⟩
    · exact .inr ⟨.exit 0, [(0, .d (.sl 1 (us l))), (3, .d (.int .i64 ((k + 1 : Nat) : Int))), (15, .d (.bool false))], [], by simp (disch := omega) [nat_trim.b0, hk, hz], by simp, k + 1, rfl, rfl, rfl, h, dig_take hc h h0 (.inr (by simpa using hz))⟩
theorem trim_ev (l : List Nat) (hl : l.length ≤ 1125899906842624) (hc : Cl l) : EX ip nv (.call F.nat_trim [.d (.sl 1 (us l))] []) = some (.ret (.d (.sl 1 (us (dig (lv l))))) []) := by
  rw [S_call nat_trim.ip rfl]
  obtain ⟨_, _, _, ih, -, j, rfl, rfl, rfl, hj, hd⟩ := trim_loop (nv := nv) l hl hc
  by_cases h0 : j = 0
  · subst h0
    simp at hd
    simp (disch := omega) [nat_trim, ih, hd]
  · have h0' : ¬ (j : Int) = 0 := by omega
    simp (disch := omega) [nat_trim, ih, hd, h0, h0']

theorem clean_loop (l : List Nat) (h : Rw l) : ∃ x e μ, EX ip nv (.code (.loop [] [] nat_Clean.b0) [(3, .own 8 1 0 l.length), (9, .d (.sl 1 (us l))), (10, .d (.int .i64 (l.length : Int))), (11, .d (.int .i64 0))] [(8, ⟨0, false, us (List.replicate l.length 0)⟩)]) = some (.st x e μ) ∧ x ≠ .normal ∧
    ∃ out, x = .exit 0 ∧ e = [(3, .own 8 1 0 l.length), (9, .d (.sl 1 (us l))), (10, .d (.int .i64 (l.length : Int))), (11, .d (.int .i64 (l.length : Int))), (12, .d (.bool false))] ∧ μ = [(8, ⟨0, false, us out⟩)] ∧ out = l.map (· % 4294967296) := by
  have hl := h.2
  refine loop_n l.length (fun i e μ => ∃ out, e = [(3, .own 8 1 0 l.length), (9, .d (.sl 1 (us l))), (10, .d (.int .i64 (l.length : Int))), (11, .d (.int .i64 (i : Int)))] ∧ μ = [(8, ⟨0, false, us out⟩)] ∧ out.length = l.length ∧ out = (l.take i).map (· % 4294967296) ++ List.replicate (l.length - i) 0) ?_ ?_ ⟨_, rfl, rfl, by simp, by simp⟩
  · rintro i e μ hi ⟨out, rfl, rfl, hlen, ho⟩
    left
    have hi' : (i : Int) < l.length := by omega
    have hb := h.lb i
    refine ⟨[(3, .own 8 1 0 l.length), (9, .d (.sl 1 (us l))), (10, .d (.int .i64 (l.length : Int))), (11, .d (.int .i64 ((i + 1 : Nat) : Int)))], [(8, ⟨0, false, us (out.set i (lb l i % 4294967296))⟩)], ?_, _, rfl, rfl, by simpa using hlen, ?_⟩
    · simp (disch := omega) [nat_Clean.b0, hi']
    · have e1 : ((l.take i).map (· % 4294967296)).length = i := by simp; omega
      rw [ho, List.set_append, if_neg (by omega), e1, Nat.sub_self, show l.length - i = l.length - (i + 1) + 1 by omega, List.replicate_succ, List.set_cons_zero]
      rw [List.take_succ_eq_append_getElem hi, List.map_append, lb_getElem hi]
      simp
  · rintro e μ ⟨out, rfl, rfl, hlen, ho⟩
    exact ⟨.exit 0, _, _, by simp [nat_Clean.b0], by simp, out, rfl, rfl, rfl, by simpa using ho⟩
theorem clean_ev (l : List Nat) (h : Rw l) : EX ip nv (.call F.nat_Clean [.d (.sl 1 (us l))] []) = some (.ret (.d (.sl 1 (us (dig (lv l))))) []) := by
  rw [S_call nat_Clean.ip rfl]
  have hl := h.2
  obtain ⟨_, _, _, hr, -, out, rfl, rfl, rfl, ho⟩ := clean_loop (nv := nv) l h
  have hlen : out.length = l.length := by rw [ho]; simp
  have ht := trim_ev (nv := nv) out (by omega) (by rw [ho]; exact cl_map_mod l)
  have hv : lv out = lv l := by rw [ho, lv_map_mod]
  rw [hv] at ht
  simp (disch := omega) [nat_Clean, hr, ht]
theorem of_ev (n : Nat) (h : n < 18446744073709551616) : EX ip nv (.call F.nat_Of [.d (u n)] []) = some (.ret (.d (.sl 1 (us (dig n)))) []) := by
  rw [S_call nat_Of.ip rfl]
  have ht := trim_ev (nv := nv) [n % 4294967296, n / 4294967296] (by simp) (by simp [Cl]; omega)
  have hv : lv [n % 4294967296, n / 4294967296] = n := by simp only [lv]; omega
  rw [hv] at ht
  simp only [us_cons, us_nil] at ht
  simp (disch := omega) [nat_Of, ht]
/-- How two numbers stand, as the program says it. -/
def cmpI (a b : Nat) : Int := if a < b then -1 else if b < a then 1 else 0
theorem order_loop (a b : List Nat) (ha : Cl a) (hb : Cl b) (hl : a.length = b.length) (hs : a.length ≤ 1099511627776) : ∃ x e μ, EX ip nv (.code (.loop [] [] nat_order.b1) [(0, .d (.sl 1 (us a))), (1, .d (.sl 1 (us b))), (5, .d (.int .i64 ((a.length : Int) - 1)))] []) = some (.st x e μ) ∧ x ≠ .normal ∧
    μ = [] ∧ ((x = .exit 1 ∧ e = [(0, .d (.sl 1 (us a))), (1, .d (.sl 1 (us b))), (5, .d (.int .i64 (-1))), (22, .d (.bool false))] ∧ lv a = lv b) ∨ (x = .ret ∧ e = [(4, .d (.int .i64 (cmpI (lv a) (lv b))))] ∧ lv a ≠ lv b)) := by
  refine loop_m (fun k e μ => e = [(0, .d (.sl 1 (us a))), (1, .d (.sl 1 (us b))), (5, .d (.int .i64 ((k : Int) - 1)))] ∧ μ = [] ∧ k ≤ a.length ∧ lv (a.drop k) = lv (b.drop k)) ?_ a.length _ _ ⟨rfl, rfl, Nat.le_refl _, by rw [List.drop_length, hl, List.drop_length]⟩
  rintro k e μ ⟨rfl, rfl, h, h0⟩
  cases k with
  | zero => exact .inr ⟨.exit 1, [(0, .d (.sl 1 (us a))), (1, .d (.sl 1 (us b))), (5, .d (.int .i64 (-1))), (22, .d (.bool false))], [], by simp [nat_order.b1], by simp, rfl, .inl ⟨rfl, rfl, by simpa using h0⟩⟩
  | succ k =>
    have ea := lv_cut a (k + 1) h
    have eb := lv_cut b (k + 1) (by omega)
    have e1 := lv_take_succ ha k
    have e2 := lv_take_succ hb k
    have l1 := lv_lt (a.take k)
    have l2 := lv_lt (b.take k)
    rw [List.length_take, Nat.min_eq_left (by omega)] at l1 l2
    have hk : (0 : Int) ≤ (k : Int) := by omega
    by_cases c1 : lb a k < lb b k
    · have c3 : lv a < lv b := by
        rw [ea, eb, h0, e1, e2]
        have : pw k * (lb a k + 1) ≤ pw k * lb b k := Nat.mul_le_mul_left _ c1
        rw [Nat.mul_add] at this
        omega
      refine .inr ⟨.ret, [(4, .d (.int .i64 (-1)))], [], by simp (disch := omega) [nat_order.b1, hk, c1], by simp, rfl, .inr ⟨rfl, by simp [cmpI, c3], by omega⟩⟩
    · by_cases c2 : lb b k < lb a k
      · have c3 : lv b < lv a := by
          rw [ea, eb, h0, e1, e2]
          have : pw k * (lb b k + 1) ≤ pw k * lb a k := Nat.mul_le_mul_left _ c2
          rw [Nat.mul_add] at this
          omega
        have c4 : ¬ lv a < lv b := by omega
        refine .inr ⟨.ret, [(4, .d (.int .i64 1))], [], by simp (disch := omega) [nat_order.b1, hk, c1, c2], by simp, rfl, .inr ⟨rfl, by simp [cmpI, c3, c4], by omega⟩⟩
      · have c3 : lb a k = lb b k := by omega
        refine .inl ⟨[(0, .d (.sl 1 (us a))), (1, .d (.sl 1 (us b))), (5, .d (.int .i64 ((k : Int) - 1)))], [], by simp (disch := omega) [nat_order.b1, hk, c3], k, by omega, rfl, rfl, by omega, ?_⟩
        rw [lv_drop ha (by omega), lv_drop hb (by omega), h0, c3]
theorem order_ev (m n : Nat) (hm : (dig m).length ≤ 1099511627776) (hn : (dig n).length ≤ 1099511627776) : EX ip nv (.call F.nat_order [.d (.sl 1 (us (dig m))), .d (.sl 1 (us (dig n)))] []) = some (.ret (.d (.int .i64 (cmpI m n))) []) := by
  rw [S_call nat_order.ip rfl]
  by_cases h1 : (dig m).length < (dig n).length
  · have c : m < n := by
      have := dig_len_le.1 (show (dig m).length ≤ (dig n).length - 1 by omega)
      have h2 : 0 < n := dig_len_pos.1 (by omega)
      have := dig_ge h2
      omega
    simp (disch := omega) [nat_order, h1, cmpI, c]
  · by_cases h2 : (dig n).length < (dig m).length
    · have c : n < m := by
        have := dig_len_le.1 (show (dig n).length ≤ (dig m).length - 1 by omega)
        have h2 : 0 < m := dig_len_pos.1 (by omega)
        have := dig_ge h2
        omega
      have c' : ¬ m < n := by omega
      simp (disch := omega) [nat_order, h1, h2, cmpI, c, c']
    · have hl : (dig m).length = (dig n).length := by omega
      obtain ⟨x, e, μ, hr, -, rfl, ⟨rfl, rfl, hv⟩ | ⟨rfl, rfl, hv⟩⟩ := order_loop (nv := nv) (dig m) (dig n) (dig_cl m) (dig_cl n) hl hm
      · rw [lv_dig, lv_dig] at hv
        subst hv
        simp (disch := omega) [nat_order, hr, cmpI]
      · rw [lv_dig, lv_dig] at hr
        rw [hl] at hr
        simp (disch := omega) [nat_order, hl, hr]
theorem cmp_ev (a b : List Nat) (ha : Rw a) (hb : Rw b) : EX ip nv (.call F.nat_Cmp [.d (.sl 1 (us a)), .d (.sl 1 (us b))] []) = some (.ret (.d (.int .i64 (cmpI (lv a) (lv b)))) []) := by
  rw [S_call nat_Cmp.ip rfl]
  have h1 := dig_len_le.2 (lv_lt a)
  have h2 := dig_len_le.2 (lv_lt b)
  have := ha.2
  have := hb.2
  simp [nat_Cmp, clean_ev (nv := nv) a ha, clean_ev (nv := nv) b hb, order_ev (nv := nv) (lv a) (lv b) (by omega) (by omega)]
end
end Go.Proofs.YtgigaimaaijalaaDoor

/-! Sums, differences, products, quotients by a limb. -/
namespace Go.Proofs.YtgigaimaaijalaaDoor
open Go Go.Proofs.R
set_option maxRecDepth 10000
section
variable {nv : R.Nv}
theorem dig_rw {n : Nat} (h : (dig n).length ≤ 1099511627776) : Rw (dig n) := Rw.of (dig_cl n) h
theorem lv_len {l : List Nat} (h : Rw l) : (dig (lv l)).length ≤ l.length := dig_len_le.2 (lv_lt l)

theorem minus_loop (a b : List Nat) (ha : Cl a) (hb : Cl b) (hs : a.length ≤ 1099511627776) (hs' : b.length ≤ a.length) (hv : lv b ≤ lv a) (n : Nat) (hn : n = a.length) : ∃ x e μ, EX ip nv (.code (.loop [] [] nat_minus.b0) [(0, .d (.sl 1 (us a))), (1, .d (.sl 1 (us b))), (5, .own 11 1 0 n), (6, .d (u 0)), (13, .d (.int .i64 (n : Int))), (14, .d (.int .i64 0))] [(11, ⟨0, false, us (List.replicate n 0)⟩)]) = some (.st x e μ) ∧ x ≠ .normal ∧
    ∃ out c, x = .exit 0 ∧ e = [(0, .d (.sl 1 (us a))), (1, .d (.sl 1 (us b))), (5, .own 11 1 0 n), (6, .d (u c)), (13, .d (.int .i64 (n : Int))), (14, .d (.int .i64 (n : Int))), (15, .d (.bool false))] ∧ μ = [(11, ⟨0, false, us out⟩)] ∧ out.length = n ∧ Cl out ∧ lv out = lv a - lv b := by
  refine loop_n n (fun i e μ => ∃ out c, e = [(0, .d (.sl 1 (us a))), (1, .d (.sl 1 (us b))), (5, .own 11 1 0 n), (6, .d (u c)), (13, .d (.int .i64 (n : Int))), (14, .d (.int .i64 (i : Int)))] ∧ μ = [(11, ⟨0, false, us out⟩)] ∧ out.length = n ∧ Cl out ∧ c ≤ 1 ∧ lv (out.take i) + lv (b.take i) = lv (a.take i) + pw i * c) ?_ ?_ ⟨List.replicate n 0, 0, rfl, rfl, by simp, Cl.zeros n, by omega, by simp [lv]⟩
  · rintro i e μ hi ⟨out, c, rfl, rfl, hlen, hc, hc1, hv⟩
    left
    have hi' : (i : Int) < n := by omega
    have l1 := lb_lt ha i
    have l2 := lb_lt hb i
    have e2 := limb_ev (nv := nv) b i (by omega) (by omega)
    have ea := lv_take_succ ha i
    have eb := lv_take_succ hb i
    obtain ⟨s, hs⟩ : ∃ s, s = 4294967296 + lb a i - lb b i - c := ⟨_, rfl⟩
    have es := pw_split i s
    have eo := lv_take_set (x := s % 4294967296) hc (i := i) (by omega) (by omega)
    refine ⟨[(0, .d (.sl 1 (us a))), (1, .d (.sl 1 (us b))), (5, .own 11 1 0 n), (6, .d (u (1 - s / 4294967296))), (13, .d (.int .i64 (n : Int))), (14, .d (.int .i64 ((i + 1 : Nat) : Int)))], [(11, ⟨0, false, us (out.set i (s % 4294967296))⟩)], ?_, _, _, rfl, rfl, by simpa using hlen, hc.set i (by omega), by omega, ?_⟩
    · rw [hs]
      simp (disch := omega) [nat_minus.b0, hi', e2]
    · rw [eo, ea, eb]
      have e3 : pw i * s + pw i * lb b i + pw i * c = pw i * 4294967296 + pw i * lb a i := by
        rw [← Nat.mul_add, ← Nat.mul_add, ← Nat.mul_add]
        congr 1
        omega
      have e4 : pw (i + 1) = pw i * 4294967296 := by rw [pw_succ, Nat.mul_comm]
      have h6 : s / 4294967296 = 0 ∨ s / 4294967296 = 1 := by omega
      rcases h6 with h6 | h6 <;> rw [h6] at es ⊢ <;> omega
  · rintro e μ ⟨out, c, rfl, rfl, hlen, hc, hc1, hv'⟩
    refine ⟨.exit 0, _, _, by simp [nat_minus.b0], by simp, out, c, rfl, rfl, rfl, hlen, hc, ?_⟩
    rw [lv_take_all (by omega), lv_take_all (by omega), lv_take_all (by omega)] at hv'
    have h1 := lv_lt out
    rw [hlen] at h1
    have h6 : c = 0 ∨ c = 1 := by omega
    rcases h6 with rfl | rfl <;> omega
theorem minus_ev (m n : Nat) (h : n ≤ m) (hm : (dig m).length ≤ 1099511627776) : EX ip nv (.call F.nat_minus [.d (.sl 1 (us (dig m))), .d (.sl 1 (us (dig n)))] []) = some (.ret (.d (.sl 1 (us (dig (m - n))))) []) := by
  rw [S_call nat_minus.ip rfl]
  obtain ⟨_, _, _, hr, -, out, c, rfl, rfl, rfl, hlen, hc, hv⟩ := minus_loop (nv := nv) (dig m) (dig n) (dig_cl _) (dig_cl _) hm (dig_len_mono h) (by rw [lv_dig, lv_dig]; exact h) _ rfl
  rw [lv_dig, lv_dig] at hv
  have ht := trim_ev (nv := nv) out (by omega) hc
  rw [hv] at ht
  simp (disch := omega) [nat_minus, hr, ht]
end
end Go.Proofs.YtgigaimaaijalaaDoor

/-! Products, quotients by a limb, small numbers. -/
namespace Go.Proofs.YtgigaimaaijalaaDoor
open Go Go.Proofs.R
set_option maxRecDepth 10000
section
variable {nv : R.Nv}
theorem mul_inner (b : List Nat) (hb : Cl b) (x i : Nat) (hx : x < 4294967296) (L : Nat) (hL : i + b.length < L) (hL2 : L ≤ 4398046511104) (rest : Env) (a : List Nat) (na : Nat) (out0 : List Nat) (h0 : out0.length = L) (hc0 : Cl out0) :
    ∃ y e μ, EX ip nv (.code (.loop [] [] nat_Mul.b2) [(1, .d (.sl 1 (us b))), (5, .own 20 1 0 L), (6, .d (.int .i64 (i : Int))), (7, .d (u x)), (8, .d (u 0)), (21, .d (.sl 1 (us a))), (22, .d (.int .i64 (na : Int))), (23, .d (.int .i64 (i : Int))), (28, .d (.sl 1 (us b))), (29, .d (.int .i64 (b.length : Int))), (30, .d (.int .i64 0))] [(20, ⟨0, false, us out0⟩)]) = some (.st y e μ) ∧ y ≠ .normal ∧
    ∃ out c, y = .exit 2 ∧ e = [(1, .d (.sl 1 (us b))), (5, .own 20 1 0 L), (6, .d (.int .i64 (i : Int))), (7, .d (u x)), (8, .d (u c)), (21, .d (.sl 1 (us a))), (22, .d (.int .i64 (na : Int))), (23, .d (.int .i64 (i : Int))), (28, .d (.sl 1 (us b))), (29, .d (.int .i64 (b.length : Int))), (30, .d (.int .i64 (b.length : Int))), (31, .d (.bool false))] ∧ μ = [(20, ⟨0, false, us out⟩)] ∧
      out.length = L ∧ Cl out ∧ c < 4294967296 ∧ lv out + pw (i + b.length) * c = lv out0 + pw i * (x * lv b) ∧ ∀ j, i + b.length ≤ j → lb out j = lb out0 j := by
  refine loop_n b.length (fun k e μ => ∃ out c, e = [(1, .d (.sl 1 (us b))), (5, .own 20 1 0 L), (6, .d (.int .i64 (i : Int))), (7, .d (u x)), (8, .d (u c)), (21, .d (.sl 1 (us a))), (22, .d (.int .i64 (na : Int))), (23, .d (.int .i64 (i : Int))), (28, .d (.sl 1 (us b))), (29, .d (.int .i64 (b.length : Int))), (30, .d (.int .i64 (k : Int)))] ∧ μ = [(20, ⟨0, false, us out⟩)] ∧
      out.length = L ∧ Cl out ∧ c < 4294967296 ∧ lv out + pw (i + k) * c = lv out0 + pw i * (x * lv (b.take k)) ∧ ∀ j, i + k ≤ j → lb out j = lb out0 j) ?_ ?_ ⟨out0, 0, rfl, rfl, h0, hc0, by omega, by simp [lv], fun _ _ => rfl⟩
  · rintro k e μ hk ⟨out, c, rfl, rfl, hlen, hc, hc1, hv, hj⟩
    left
    have hk' : (k : Int) < b.length := by omega
    have l1 := lb_lt hb k
    have l2 := lb_lt hc (i + k)
    have hm : x * lb b k ≤ 4294967295 * 4294967295 := Nat.mul_le_mul (by omega) (by omega)
    obtain ⟨s, hs⟩ : ∃ s, s = c + (lb out (i + k) + x * lb b k) := ⟨_, rfl⟩
    have eb := lv_take_succ hb k
    have es := pw_split (i + k) s
    have eo := lv_set hc (i := i + k) (x := s % 4294967296) (by omega) (by omega)
    refine ⟨[(1, .d (.sl 1 (us b))), (5, .own 20 1 0 L), (6, .d (.int .i64 (i : Int))), (7, .d (u x)), (8, .d (u (s / 4294967296))), (21, .d (.sl 1 (us a))), (22, .d (.int .i64 (na : Int))), (23, .d (.int .i64 (i : Int))), (28, .d (.sl 1 (us b))), (29, .d (.int .i64 (b.length : Int))), (30, .d (.int .i64 ((k + 1 : Nat) : Int)))], [(20, ⟨0, false, us (out.set (i + k) (s % 4294967296))⟩)], ?_, _, _, rfl, rfl, by simpa using hlen, hc.set _ (by omega), by omega, ?_, fun j hj' => ?_⟩
    · rw [hs]
      simp (disch := omega) [nat_Mul.b2, hk']
    · rw [eb]
      have e1 : pw (i + k) * s = pw (i + k) * c + (pw (i + k) * lb out (i + k) + pw i * (x * (pw k * lb b k))) := by
        rw [hs, Nat.mul_add, Nat.mul_add, pw_add]
        congr 2
        rw [Nat.mul_assoc, Nat.mul_left_comm (pw k)]
      rw [Nat.mul_add, Nat.mul_add]
      rw [show i + (k + 1) = i + k + 1 by omega]
      omega
    · rw [lb_set_ne (by omega)]
      exact hj j (by omega)
  · rintro e μ ⟨out, c, rfl, rfl, hlen, hc, hc1, hv, hj⟩
    rw [lv_take_all (Nat.le_refl _)] at hv
    exact ⟨.exit 2, _, _, by simp [nat_Mul.b2], by simp, out, c, rfl, rfl, rfl, hlen, hc, hc1, hv, hj⟩
theorem mul_loop (a b : List Nat) (ha : Cl a) (hb : Cl b) (hs : a.length ≤ 1099511627776) (hs' : b.length ≤ 1099511627776) (L : Nat) (hL : L = a.length + b.length) : ∃ x e μ, EX ip nv (.code (.loop [] [] nat_Mul.b0) [(1, .d (.sl 1 (us b))), (5, .own 20 1 0 L), (21, .d (.sl 1 (us a))), (22, .d (.int .i64 (a.length : Int))), (23, .d (.int .i64 0))] [(20, ⟨0, false, us (List.replicate L 0)⟩)]) = some (.st x e μ) ∧ x ≠ .normal ∧
    ∃ out, x = .exit 0 ∧ e = [(1, .d (.sl 1 (us b))), (5, .own 20 1 0 L), (21, .d (.sl 1 (us a))), (22, .d (.int .i64 (a.length : Int))), (23, .d (.int .i64 (a.length : Int))), (24, .d (.bool false))] ∧ μ = [(20, ⟨0, false, us out⟩)] ∧ out.length = L ∧ Cl out ∧ lv out = lv a * lv b := by
  refine loop_n a.length (fun i e μ => ∃ out, e = [(1, .d (.sl 1 (us b))), (5, .own 20 1 0 L), (21, .d (.sl 1 (us a))), (22, .d (.int .i64 (a.length : Int))), (23, .d (.int .i64 (i : Int)))] ∧ μ = [(20, ⟨0, false, us out⟩)] ∧ out.length = L ∧ Cl out ∧ lv out = lv (a.take i) * lv b ∧ ∀ j, i + b.length ≤ j → lb out j = 0) ?_ ?_ ⟨_, rfl, rfl, by simp, Cl.zeros L, by simp [lv, lv_zeros], fun j _ => by simp only [lb, List.getD_eq_getElem?_getD, List.getElem?_replicate]; split <;> rfl⟩
  · rintro i e μ hi ⟨out, rfl, rfl, hlen, hc, hv, hj⟩
    left
    have hi' : (i : Int) < a.length := by omega
    have l1 := lb_lt ha i
    obtain ⟨_, _, _, hr, -, out1, c, rfl, rfl, rfl, q1, q2, q3, q4, q5⟩ := mul_inner (nv := nv) b hb (lb a i) i l1 L (by omega) (by omega) [] a a.length out hlen hc
    have ea := lv_take_succ ha i
    have eo := lv_set q2 (i := i + b.length) (x := c) (by omega) q3
    rw [q5 _ (Nat.le_refl _), hj _ (Nat.le_refl _)] at eo
    refine ⟨[(1, .d (.sl 1 (us b))), (5, .own 20 1 0 L), (21, .d (.sl 1 (us a))), (22, .d (.int .i64 (a.length : Int))), (23, .d (.int .i64 ((i + 1 : Nat) : Int)))], [(20, ⟨0, false, us (out1.set (i + b.length) c)⟩)], ?_, _, rfl, rfl, by simpa using q1, q2.set _ q3, ?_, fun j hj' => ?_⟩
    · simp (disch := omega) [nat_Mul.b0, hi', hr]
    · rw [ea, Nat.add_mul, ← hv, Nat.mul_assoc]
      omega
    · rw [lb_set_ne (by omega), q5 j (by omega)]
      exact hj j (by omega)
  · rintro e μ ⟨out, rfl, rfl, hlen, hc, hv, hj⟩
    rw [lv_take_all (Nat.le_refl _)] at hv
    exact ⟨.exit 0, _, _, by simp [nat_Mul.b0], by simp, out, rfl, rfl, rfl, hlen, hc, hv⟩
theorem mul_ev (a b : List Nat) (ha : Rw a) (hb : Rw b) : EX ip nv (.call F.nat_Mul [.d (.sl 1 (us a)), .d (.sl 1 (us b))] []) = some (.ret (.d (.sl 1 (us (dig (lv a * lv b))))) []) := by
  rw [S_call nat_Mul.ip rfl]
  have h1 := lv_len ha
  have h2 := lv_len hb
  have := ha.2
  have := hb.2
  obtain ⟨_, _, _, hr, -, out, rfl, rfl, rfl, hlen, hc, hv⟩ := mul_loop (nv := nv) (dig (lv a)) (dig (lv b)) (dig_cl _) (dig_cl _) (by omega) (by omega) _ rfl
  rw [lv_dig, lv_dig] at hv
  have ht := trim_ev (nv := nv) out (by omega) hc
  rw [hv] at ht
  simp (disch := omega) [nat_Mul, clean_ev (nv := nv) a ha, clean_ev (nv := nv) b hb, hr, ht]

theorem small_loop (a : List Nat) (ha : Cl a) (hs : a.length ≤ 1099511627776) (d : Nat) (hd : 0 < d) (hd' : d < 4294967296) : ∃ x e μ, EX ip nv (.code (.loop [] [] nat_small.b0) [(0, .d (.sl 1 (us a))), (1, .d (u d)), (6, .own 11 1 0 a.length), (7, .d (u 0)), (8, .d (.int .i64 ((a.length : Int) - 1)))] [(11, ⟨0, false, us (List.replicate a.length 0)⟩)]) = some (.st x e μ) ∧ x ≠ .normal ∧
    ∃ out r, x = .exit 0 ∧ e = [(0, .d (.sl 1 (us a))), (1, .d (u d)), (6, .own 11 1 0 a.length), (7, .d (u r)), (8, .d (.int .i64 (-1))), (16, .d (.bool false))] ∧ μ = [(11, ⟨0, false, us out⟩)] ∧ out.length = a.length ∧ Cl out ∧ r < d ∧ lv a = lv out * d + r := by
  refine loop_m (fun k e μ => ∃ out r, e = [(0, .d (.sl 1 (us a))), (1, .d (u d)), (6, .own 11 1 0 a.length), (7, .d (u r)), (8, .d (.int .i64 ((k : Int) - 1)))] ∧ μ = [(11, ⟨0, false, us out⟩)] ∧ out.length = a.length ∧ Cl out ∧ r < d ∧ k ≤ a.length ∧ lv (a.drop k) = lv (out.drop k) * d + r) ?_ a.length _ _ ⟨_, 0, rfl, rfl, by simp, Cl.zeros _, hd, Nat.le_refl _, by simp [lv]⟩
  rintro k e μ ⟨out, r, rfl, rfl, hlen, hc, hr, hk, hv⟩
  cases k with
  | zero => exact .inr ⟨.exit 0, [(0, .d (.sl 1 (us a))), (1, .d (u d)), (6, .own 11 1 0 a.length), (7, .d (u r)), (8, .d (.int .i64 (-1))), (16, .d (.bool false))], [(11, ⟨0, false, us out⟩)], by simp [nat_small.b0], by simp, out, r, rfl, rfl, rfl, hlen, hc, hr, by simpa using hv⟩
  | succ k =>
    have l1 := lb_lt ha k
    obtain ⟨s, hs'⟩ : ∃ s, s = r * 4294967296 + lb a k := ⟨_, rfl⟩
    have hq : s / d < 4294967296 := by
      rw [Nat.div_lt_iff_lt_mul hd]
      omega
    have hsm := Nat.div_add_mod s d
    have hmod := Nat.mod_lt s hd
    refine .inl ⟨[(0, .d (.sl 1 (us a))), (1, .d (u d)), (6, .own 11 1 0 a.length), (7, .d (u (s % d))), (8, .d (.int .i64 ((k : Int) - 1)))], [(11, ⟨0, false, us (out.set k (s / d))⟩)], ?_, k, by omega, _, _, rfl, rfl, by simpa using hlen, hc.set _ hq, hmod, by omega, ?_⟩
    · rw [hs']
      simp (disch := omega) [nat_small.b0]
    · rw [drop_set (by omega), lv_drop ha (by omega), hv, lv_cons hq]
      rw [Nat.add_mul, Nat.mul_comm (s / d) d, Nat.mul_assoc]
      omega
theorem small_ev (m d : Nat) (hm : (dig m).length ≤ 1099511627776) (hd : 0 < d) (hd' : d < 4294967296) : EX ip nv (.call F.nat_small [.d (.sl 1 (us (dig m))), .d (u d)] []) = some (.ret (.tp [.d (.sl 1 (us (dig (m / d)))), .d (u (m % d))]) []) := by
  rw [S_call nat_small.ip rfl]
  obtain ⟨_, _, _, hr, -, out, r, rfl, rfl, rfl, hlen, hc, hrd, hv⟩ := small_loop (nv := nv) (dig m) (dig_cl m) hm d hd hd'
  rw [lv_dig] at hv
  have ht := trim_ev (nv := nv) out (by omega) hc
  have e1 : m / d = lv out := by rw [hv, Nat.mul_comm, Nat.mul_add_div hd, Nat.div_eq_of_lt hrd, Nat.add_zero]
  have e2 : m % d = r := by rw [hv, Nat.mul_comm, Nat.mul_add_mod, Nat.mod_eq_of_lt hrd]
  rw [e1, e2]
  simp (disch := omega) [nat_small, hr, ht]

theorem to_ev (l : List Nat) (h : Rw l) (hv : lv l < 18446744073709551616) : EX ip nv (.call F.nat_To [.d (.sl 1 (us l))] []) = some (.ret (.tp [.d (u (lv l)), .d (.bool true)]) []) := by
  rw [S_call nat_To.ip rfl]
  have hc := clean_ev (nv := nv) l h
  have h2 : (dig (lv l)).length ≤ 2 := dig_len_le.2 (by simp only [pw]; omega)
  have e := lv_dig (lv l)
  have hcl := dig_cl (lv l)
  cases hd : dig (lv l) with
  | nil =>
    rw [hd] at hc e
    simp only [lv] at e
    simp [nat_To, hc, ← e]
  | cons x r => cases r with
    | nil =>
      rw [hd] at hc e hcl
      rw [lv_one (hcl x (by simp))] at e
      simp (disch := simp) [nat_To, hc, ← e]
    | cons y r => cases r with
      | nil =>
        rw [hd] at hc e hcl
        have hx := hcl x (by simp)
        have hy := hcl y (by simp)
        rw [lv_cons hx, lv_one hy] at e
        have l0 : lb [x, y] 0 = x := rfl
        have l1 : lb [x, y] 1 = y := rfl
        have : lv l = y * 4294967296 + x := by omega
        simp (disch := first | omega | simp) [nat_To, hc, this, l0, l1]
      | cons z r => rw [hd] at h2; simp at h2
end
end Go.Proofs.YtgigaimaaijalaaDoor

/-! Knuth's division, part one: multiples taken and given back in a window; shifts. -/
namespace Go.Proofs.YtgigaimaaijalaaDoor
open Go Go.Proofs.R
set_option maxRecDepth 10000
section
variable {nv : R.Nv}
theorem lb_win {p w q : List Nat} {i : Nat} (h : i < w.length) : lb (p ++ w ++ q) (p.length + i) = lb w i := by
  rw [List.append_assoc, lb_append_right (by omega), Nat.add_sub_cancel_left, lb_append_left h]
theorem set_win {p w q : List Nat} {i x : Nat} (h : i < w.length) : (p ++ w ++ q).set (p.length + i) x = p ++ w.set i x ++ q := by
  rw [List.append_assoc, List.set_append, if_neg (by omega), Nat.add_sub_cancel_left, List.set_append, if_pos h, List.append_assoc]

theorem take_loop (p w q v : List Nat) (t m : Nat) (hw : Cl w) (hv : Cl v) (ht : t < 4294967296) (hm : w.length = m) (U0 : List Nat) (hU : U0 = p ++ w ++ q) (hL : U0.length ≤ 4398046511104) (hvl : v.length ≤ 1099511627776) (hm2 : m ≤ 1099511627777) :
    ∃ x e μ, EX ip nv (.code (.loop [] [] nat_take.b0) [(0, .own 0 1 p.length m), (1, .d (.sl 1 (us v))), (2, .d (u t)), (7, .d (u 0)), (8, .d (u 0)), (12, .d (.int .i64 (m : Int))), (13, .d (.int .i64 0))] [(0, ⟨0, true, us U0⟩)]) = some (.st x e μ) ∧ x ≠ .normal ∧
    ∃ w' c d U, x = .exit 0 ∧ e = [(0, .own 0 1 p.length m), (1, .d (.sl 1 (us v))), (2, .d (u t)), (7, .d (u c)), (8, .d (u d)), (12, .d (.int .i64 (m : Int))), (13, .d (.int .i64 (m : Int))), (14, .d (.bool false))] ∧ μ = [(0, ⟨0, true, us U⟩)] ∧ U = p ++ w' ++ q ∧
      w'.length = m ∧ Cl w' ∧ d ≤ 1 ∧ pw m * c ≤ t * lv (v.take m) ∧ lv w' + t * lv (v.take m) = lv w + pw m * (c + d) := by
  have hLe : U0.length = p.length + m + q.length := by rw [hU]; simp; omega
  refine loop_n m (fun i e μ => ∃ w' c d U, e = [(0, .own 0 1 p.length m), (1, .d (.sl 1 (us v))), (2, .d (u t)), (7, .d (u c)), (8, .d (u d)), (12, .d (.int .i64 (m : Int))), (13, .d (.int .i64 (i : Int)))] ∧ μ = [(0, ⟨0, true, us U⟩)] ∧ U = p ++ w' ++ q ∧
      w'.length = m ∧ Cl w' ∧ d ≤ 1 ∧ c < 4294967296 ∧ pw i * c ≤ t * lv (v.take i) ∧ (∀ j, i ≤ j → lb w' j = lb w j) ∧ lv (w'.take i) + t * lv (v.take i) = lv (w.take i) + pw i * (c + d)) ?_ ?_ ⟨w, 0, 0, U0, rfl, rfl, hU, hm, hw, by omega, by omega, by simp, fun _ _ => rfl, by simp [lv]⟩
  · rintro i e μ hi ⟨w', c, d, U, rfl, rfl, hUw, hlen, hc, hd, hc1, hcle, hj, hval⟩
    left
    have hi' : (i : Int) < m := by omega
    have l1 := lb_lt hv i
    have l2 := lb_lt hc i
    have hlU : U.length = p.length + m + q.length := by rw [hUw]; simp; omega
    have hlb : lb U (p.length + i) = lb w' i := by rw [hUw]; exact lb_win (by omega)
    have hmm : t * lb v i ≤ 4294967295 * 4294967295 := Nat.mul_le_mul (by omega) (by omega)
    have e2 := limb_ev (nv := nv) v i hvl (by omega)
    obtain ⟨s, hs⟩ : ∃ s, s = c + t * lb v i := ⟨_, rfl⟩
    obtain ⟨x, hx⟩ : ∃ x, x = 4294967296 + lb w' i - s % 4294967296 - d := ⟨_, rfl⟩
    have hset : U.set (p.length + i) (x % 4294967296) = p ++ w'.set i (x % 4294967296) ++ q := by rw [hUw]; exact set_win (by omega)
    have ev := lv_take_succ hv i
    have ew := lv_take_succ hw i
    rw [← hj i (Nat.le_refl _)] at ew
    have eo := lv_take_set (x := x % 4294967296) hc (i := i) (by omega) (by omega)
    have es := pw_split i s
    have ex := pw_split i x
    refine ⟨[(0, .own 0 1 p.length m), (1, .d (.sl 1 (us v))), (2, .d (u t)), (7, .d (u (s / 4294967296))), (8, .d (u (1 - x / 4294967296))), (12, .d (.int .i64 (m : Int))), (13, .d (.int .i64 ((i + 1 : Nat) : Int)))], [(0, ⟨0, true, us (U.set (p.length + i) (x % 4294967296))⟩)], ?_, _, _, _, _, rfl, rfl, hset, by simpa using hlen, hc.set _ (by omega), by omega, by omega, ?_, fun j hj' => ?_, ?_⟩
    · rw [hx, hs]
      simp (disch := omega) [nat_take.b0, hi', e2, hlb]
    · rw [ev, Nat.mul_add, Nat.mul_left_comm]
      have : pw i * s = pw i * c + pw i * (t * lb v i) := by rw [hs, Nat.mul_add]
      omega
    · rw [lb_set_ne (by omega)]; exact hj j (by omega)
    · rw [eo, ev, ew, Nat.mul_add, Nat.mul_left_comm t]
      have e1 : pw i * s = pw i * c + pw i * (t * lb v i) := by rw [hs, Nat.mul_add]
      have e3 : pw i * x + pw i * (s % 4294967296) + pw i * d = pw i * 4294967296 + pw i * lb w' i := by
        rw [← Nat.mul_add, ← Nat.mul_add, ← Nat.mul_add]
        congr 1
        omega
      have e4 : pw (i + 1) = pw i * 4294967296 := by rw [pw_succ, Nat.mul_comm]
      rw [Nat.mul_add] at hval ⊢
      have h6 : x / 4294967296 = 0 ∨ x / 4294967296 = 1 := by omega
      rcases h6 with h6 | h6 <;> rw [h6] at ex ⊢ <;> omega
  · rintro e μ ⟨w', c, d, U, rfl, rfl, hUw, hlen, hc, hd, hc1, hcle, hj, hval⟩
    rw [lv_take_all (show w'.length ≤ m by omega), lv_take_all (show w.length ≤ m by omega)] at hval
    exact ⟨.exit 0, _, _, by simp [nat_take.b0], by simp, w', c, d, U, rfl, rfl, rfl, hUw, hlen, hc, hd, hcle, hval⟩
/-- What taking a multiple away comes to: nothing is left over but perhaps one debt. -/
theorem take_ev (p w q v : List Nat) (t : Nat) (hw : Cl w) (hv : Cl v) (ht : t < 4294967296) (hm : w.length = v.length + 1) (U0 : List Nat) (hU : U0 = p ++ w ++ q) (hL : U0.length ≤ 4398046511104) (hvl : v.length ≤ 1099511627776) :
    ∃ w' d, EX ip nv (.call F.nat_take [.own 0 1 p.length w.length, .d (.sl 1 (us v)), .d (u t)] [(0, ⟨0, true, us U0⟩)]) = some (.ret (.d (.bool (decide (d = 1)))) [(0, ⟨0, true, us (p ++ w' ++ q)⟩)]) ∧
      w'.length = w.length ∧ Cl w' ∧ d ≤ 1 ∧ lv w' + t * lv v = lv w + pw w.length * d := by
  obtain ⟨_, _, _, hr, -, w', c, d, U, rfl, rfl, rfl, q1, q2, q3, q4, q5, q6⟩ := take_loop (nv := nv) p w q v t w.length hw hv ht rfl U0 hU hL hvl (by omega)
  rw [lv_take_all (by omega)] at q5 q6
  have hc0 : c = 0 := by
    have h1 := lv_lt v
    have h2 : t * lv v < pw w.length := by
      rw [hm, pw_succ]
      calc t * lv v ≤ t * pw v.length := Nat.mul_le_mul_left _ (by omega)
        _ < 4294967296 * pw v.length := Nat.mul_lt_mul_of_pos_right ht (pw_pos _)
    rcases Nat.eq_zero_or_pos c with h | h
    · exact h
    · have : pw w.length * 1 ≤ pw w.length * c := Nat.mul_le_mul_left _ h
      omega
  subst hc0
  refine ⟨w', d, ?_, q2, q3, q4, by simpa using q6⟩
  rw [S_call nat_take.ip rfl]
  simp (disch := omega) [nat_take, hr, q1]

theorem give_loop (p w q v : List Nat) (m : Nat) (hw : Cl w) (hv : Cl v) (hm : w.length = m) (U0 : List Nat) (hU : U0 = p ++ w ++ q) (hL : U0.length ≤ 4398046511104) (hvl : v.length ≤ 1099511627776) (hm2 : m ≤ 1099511627777) :
    ∃ x e μ, EX ip nv (.code (.loop [] [] nat_give.b0) [(0, .own 0 1 p.length m), (1, .d (.sl 1 (us v))), (4, .d (u 0)), (7, .d (.int .i64 (m : Int))), (8, .d (.int .i64 0))] [(0, ⟨0, true, us U0⟩)]) = some (.st x e μ) ∧ x ≠ .normal ∧
    ∃ w' c U, x = .exit 0 ∧ e = [(0, .own 0 1 p.length m), (1, .d (.sl 1 (us v))), (4, .d (u c)), (7, .d (.int .i64 (m : Int))), (8, .d (.int .i64 (m : Int))), (9, .d (.bool false))] ∧ μ = [(0, ⟨0, true, us U⟩)] ∧ U = p ++ w' ++ q ∧
      w'.length = m ∧ Cl w' ∧ c ≤ 1 ∧ lv w' + pw m * c = lv w + lv (v.take m) := by
  have hLe : U0.length = p.length + m + q.length := by rw [hU]; simp; omega
  refine loop_n m (fun i e μ => ∃ w' c U, e = [(0, .own 0 1 p.length m), (1, .d (.sl 1 (us v))), (4, .d (u c)), (7, .d (.int .i64 (m : Int))), (8, .d (.int .i64 (i : Int)))] ∧ μ = [(0, ⟨0, true, us U⟩)] ∧ U = p ++ w' ++ q ∧
      w'.length = m ∧ Cl w' ∧ c ≤ 1 ∧ (∀ j, i ≤ j → lb w' j = lb w j) ∧ lv (w'.take i) + pw i * c = lv (w.take i) + lv (v.take i)) ?_ ?_ ⟨w, 0, U0, rfl, rfl, hU, hm, hw, by omega, fun _ _ => rfl, by simp [lv]⟩
  · rintro i e μ hi ⟨w', c, U, rfl, rfl, hUw, hlen, hc, hc1, hj, hval⟩
    left
    have hi' : (i : Int) < m := by omega
    have l1 := lb_lt hv i
    have l2 := lb_lt hc i
    have hlU : U.length = p.length + m + q.length := by rw [hUw]; simp; omega
    have hlb : lb U (p.length + i) = lb w' i := by rw [hUw]; exact lb_win (by omega)
    have e2 := limb_ev (nv := nv) v i hvl (by omega)
    obtain ⟨s, hs⟩ : ∃ s, s = c + (lb w' i + lb v i) := ⟨_, rfl⟩
    have hset : U.set (p.length + i) (s % 4294967296) = p ++ w'.set i (s % 4294967296) ++ q := by rw [hUw]; exact set_win (by omega)
    have ev := lv_take_succ hv i
    have ew := lv_take_succ hw i
    rw [← hj i (Nat.le_refl _)] at ew
    have eo := lv_take_set (x := s % 4294967296) hc (i := i) (by omega) (by omega)
    have es := pw_split i s
    refine ⟨[(0, .own 0 1 p.length m), (1, .d (.sl 1 (us v))), (4, .d (u (s / 4294967296))), (7, .d (.int .i64 (m : Int))), (8, .d (.int .i64 ((i + 1 : Nat) : Int)))], [(0, ⟨0, true, us (U.set (p.length + i) (s % 4294967296))⟩)], ?_, _, _, _, rfl, rfl, hset, by simpa using hlen, hc.set _ (by omega), by omega, fun j hj' => ?_, ?_⟩
    · rw [hs]
      simp (disch := omega) [nat_give.b0, hi', e2, hlb]
    · rw [lb_set_ne (by omega)]; exact hj j (by omega)
    · rw [eo, ev, ew]
      have e1 : pw i * s = pw i * c + (pw i * lb w' i + pw i * lb v i) := by rw [hs, Nat.mul_add, Nat.mul_add]
      omega
  · rintro e μ ⟨w', c, U, rfl, rfl, hUw, hlen, hc, hc1, hj, hval⟩
    rw [lv_take_all (show w'.length ≤ m by omega), lv_take_all (show w.length ≤ m by omega)] at hval
    exact ⟨.exit 0, _, _, by simp [nat_give.b0], by simp, w', c, U, rfl, rfl, rfl, hUw, hlen, hc, hc1, hval⟩
theorem give_ev (p w q v : List Nat) (hw : Cl w) (hv : Cl v) (hm : w.length = v.length + 1) (U0 : List Nat) (hU : U0 = p ++ w ++ q) (hL : U0.length ≤ 4398046511104) (hvl : v.length ≤ 1099511627776) :
    ∃ w' c, EX ip nv (.call F.nat_give [.own 0 1 p.length w.length, .d (.sl 1 (us v))] [(0, ⟨0, true, us U0⟩)]) = some (.ret (.tp []) [(0, ⟨0, true, us (p ++ w' ++ q)⟩)]) ∧
      w'.length = w.length ∧ Cl w' ∧ c ≤ 1 ∧ lv w' + pw w.length * c = lv w + lv v := by
  obtain ⟨_, _, _, hr, -, w', c, U, rfl, rfl, rfl, q1, q2, q3, q4, q5⟩ := give_loop (nv := nv) p w q v w.length hw hv rfl U0 hU hL hvl (by omega)
  rw [lv_take_all (by omega)] at q5
  refine ⟨w', c, ?_, q2, q3, q4, q5⟩
  rw [S_call nat_give.ip rfl]
  simp (disch := omega) [nat_give, hr, q1]
end
end Go.Proofs.YtgigaimaaijalaaDoor

/-! Knuth's division, part two: a digit; leading zeros. -/
namespace Go.Proofs.YtgigaimaaijalaaDoor
open Go Go.Proofs.R
set_option maxRecDepth 10000
def len8 : ByteArray := ⟨#[0, 1, 2, 2, 3, 3, 3, 3, 4, 4, 4, 4, 4, 4, 4, 4, 5, 5, 5, 5, 5, 5, 5, 5, 5, 5, 5, 5, 5, 5, 5, 5, 6, 6, 6, 6, 6, 6, 6, 6, 6, 6, 6, 6, 6, 6, 6, 6, 6, 6, 6, 6, 6, 6, 6, 6, 6, 6, 6, 6, 6, 6, 6, 6, 7, 7, 7, 7, 7, 7, 7, 7, 7, 7, 7, 7, 7, 7, 7, 7, 7, 7, 7, 7, 7, 7, 7, 7, 7, 7, 7, 7, 7, 7, 7, 7, 7, 7, 7, 7, 7, 7, 7, 7, 7, 7, 7, 7, 7, 7, 7, 7, 7, 7, 7, 7, 7, 7, 7, 7, 7, 7, 7, 7, 7, 7, 7, 7, 8, 8, 8, 8, 8, 8, 8, 8, 8, 8, 8, 8, 8, 8, 8, 8, 8, 8, 8, 8, 8, 8, 8, 8, 8, 8, 8, 8, 8, 8, 8, 8, 8, 8, 8, 8, 8, 8, 8, 8, 8, 8, 8, 8, 8, 8, 8, 8, 8, 8, 8, 8, 8, 8, 8, 8, 8, 8, 8, 8, 8, 8, 8, 8, 8, 8, 8, 8, 8, 8, 8, 8, 8, 8, 8, 8, 8, 8, 8, 8, 8, 8, 8, 8, 8, 8, 8, 8, 8, 8, 8, 8, 8, 8, 8, 8, 8, 8, 8, 8, 8, 8, 8, 8, 8, 8, 8, 8, 8, 8, 8, 8, 8, 8, 8, 8, 8, 8, 8, 8, 8, 8, 8, 8, 8, 8, 8, 8]⟩
theorem len8_lit : ⟨#[0, 1, 2, 2, 3, 3, 3, 3, 4, 4, 4, 4, 4, 4, 4, 4, 5, 5, 5, 5, 5, 5, 5, 5, 5, 5, 5, 5, 5, 5, 5, 5, 6, 6, 6, 6, 6, 6, 6, 6, 6, 6, 6, 6, 6, 6, 6, 6, 6, 6, 6, 6, 6, 6, 6, 6, 6, 6, 6, 6, 6, 6, 6, 6, 7, 7, 7, 7, 7, 7, 7, 7, 7, 7, 7, 7, 7, 7, 7, 7, 7, 7, 7, 7, 7, 7, 7, 7, 7, 7, 7, 7, 7, 7, 7, 7, 7, 7, 7, 7, 7, 7, 7, 7, 7, 7, 7, 7, 7, 7, 7, 7, 7, 7, 7, 7, 7, 7, 7, 7, 7, 7, 7, 7, 7, 7, 7, 7, 8, 8, 8, 8, 8, 8, 8, 8, 8, 8, 8, 8, 8, 8, 8, 8, 8, 8, 8, 8, 8, 8, 8, 8, 8, 8, 8, 8, 8, 8, 8, 8, 8, 8, 8, 8, 8, 8, 8, 8, 8, 8, 8, 8, 8, 8, 8, 8, 8, 8, 8, 8, 8, 8, 8, 8, 8, 8, 8, 8, 8, 8, 8, 8, 8, 8, 8, 8, 8, 8, 8, 8, 8, 8, 8, 8, 8, 8, 8, 8, 8, 8, 8, 8, 8, 8, 8, 8, 8, 8, 8, 8, 8, 8, 8, 8, 8, 8, 8, 8, 8, 8, 8, 8, 8, 8, 8, 8, 8, 8, 8, 8, 8, 8, 8, 8, 8, 8, 8, 8, 8, 8, 8, 8, 8, 8, 8, 8]⟩ = len8 := rfl
/-- How many bits a number below 256 has. -/
def bl (n : Nat) : Nat := if n = 0 then 0 else if n < 2 then 1 else if n < 4 then 2 else if n < 8 then 3 else if n < 16 then 4 else if n < 32 then 5 else if n < 64 then 6 else if n < 128 then 7 else 8
theorem len8_all : (List.range 256).all (fun y => match len8[y]? with | some b => b.toNat == bl y | none => false) = true := by decide +kernel
theorem len8_get (y : Nat) (h : y < 256) : ∃ b : UInt8, len8[y]? = some b ∧ b.toNat = bl y := by
  have := List.all_eq_true.1 len8_all y (List.mem_range.2 h)
  cases hb : len8[y]? with
  | none => rw [hb] at this; cases this
  | some b => rw [hb] at this; exact ⟨b, rfl, by simpa using this⟩
theorem bl_lt (y : Nat) (h : y < 256) : y < 2 ^ bl y ∧ bl y ≤ 8 := by
  unfold bl
  repeat' split
  all_goals constructor <;> omega
section
variable {nv : R.Nv}
theorem len32_ev (x : Nat) (h : x < 4294967296) : ∃ n : Nat, n ≤ 32 ∧ x < 2 ^ n ∧ EX ip nv (.call F.bits_Len32 [.d (w32 x)] []) = some (.ret (.d (.int .i64 (n : Int))) []) := by
  have key : ∀ y : Nat, y < 256 → ∃ b : UInt8, len8[y]? = some b ∧ b.toNat = bl y ∧ y < 2 ^ bl y ∧ bl y ≤ 8 := fun y hy => by
    obtain ⟨b, h1, h2⟩ := len8_get y hy
    exact ⟨b, h1, h2, bl_lt y hy⟩
  rw [S_call bits_Len32.ip rfl]
  simp only [bits_Len32, len8_lit]
  by_cases h1 : 65536 ≤ x
  · by_cases h2 : 256 ≤ x / 65536
    · obtain ⟨b, k1, k2, k3, k4⟩ := key (x / 65536 / 256) (by omega)
      refine ⟨24 + bl (x / 65536 / 256), by omega, by rw [Nat.pow_add]; omega, ?_⟩
      simp (disch := omega) [h1, h2, k1, k2]
    · obtain ⟨b, k1, k2, k3, k4⟩ := key (x / 65536) (by omega)
      refine ⟨16 + bl (x / 65536), by omega, by rw [Nat.pow_add]; omega, ?_⟩
      simp (disch := omega) [h1, h2, k1, k2]
  · by_cases h2 : 256 ≤ x
    · obtain ⟨b, k1, k2, k3, k4⟩ := key (x / 256) (by omega)
      refine ⟨8 + bl (x / 256), by omega, by rw [Nat.pow_add]; omega, ?_⟩
      simp (disch := omega) [h1, h2, k1, k2]
    · obtain ⟨b, k1, k2, k3, k4⟩ := key x (by omega)
      refine ⟨bl x, by omega, k3, ?_⟩
      simp (disch := omega) [h1, h2, k1, k2]
theorem lz32_ev (x : Nat) (h : x < 4294967296) (h0 : 0 < x) : ∃ s : Nat, s < 32 ∧ x * 2 ^ s < 4294967296 ∧ EX ip nv (.call F.bits_LeadingZeros32 [.d (w32 x)] []) = some (.ret (.d (.int .i64 (s : Int))) []) := by
  obtain ⟨n, h1, h2, h3⟩ := len32_ev (nv := nv) x h
  have hn : n ≠ 0 := by rintro rfl; simp at h2; omega
  refine ⟨32 - n, by omega, ?_, ?_⟩
  · have : x * 2 ^ (32 - n) < 2 ^ n * 2 ^ (32 - n) := Nat.mul_lt_mul_of_pos_right h2 (Nat.two_pow_pos _)
    rw [← Nat.pow_add, show n + (32 - n) = 32 by omega] at this
    exact this
  · rw [S_call bits_LeadingZeros32.ip rfl]
    have e : (32 : Int) - (n : Int) = ((32 - n : Nat) : Int) := by omega
    simp (disch := omega) [bits_LeadingZeros32, h3, e]

theorem digit_ev (p w q v : List Nat) (hw : Cl w) (hv : Cl v) (hm : w.length = v.length + 1) (hn : 2 ≤ v.length) (htop : lb v (v.length - 1) ≠ 0) (hlt : lv w < 4294967296 * lv v) (U0 : List Nat) (hU : U0 = p ++ w ++ q) (hL : U0.length ≤ 4398046511104) (hvl : v.length ≤ 1099511627776) :
    ∃ w', EX ip nv (.call F.nat_digit [.own 0 1 p.length w.length, .d (.sl 1 (us v))] [(0, ⟨0, true, us U0⟩)]) = some (.ret (.d (u (lv w / lv v))) [(0, ⟨0, true, us (p ++ w' ++ q)⟩)]) ∧ w'.length = w.length ∧ Cl w' ∧ lv w' = lv w % lv v := by
  obtain ⟨n, hnd⟩ : ∃ n, n = v.length := ⟨_, rfl⟩
  have hLe : U0.length = p.length + w.length + q.length := by rw [hU]; simp; omega
  -- the numbers
  have hW : lv w = lv (w.take (n - 2)) + pw (n - 2) * (lb w (n - 2) + 4294967296 * (lb w n * 4294967296 + lb w (n - 1))) := by
    rw [lv_cut w (n - 2) (by omega), lv_drop hw (by omega), show n - 2 + 1 = n - 1 by omega, lv_drop hw (i := n - 1) (by omega), show n - 1 + 1 = n by omega, lv_drop hw (i := n) (by omega), List.drop_of_length_le (by omega)]
    simp only [lv, Nat.mul_zero, Nat.add_zero]
    congr 3
    omega
  have hV : lv v = lv (v.take (n - 2)) + pw (n - 2) * (lb v (n - 2) + 4294967296 * lb v (n - 1)) := by
    rw [lv_cut v (n - 2) (by omega), lv_drop hv (by omega), show n - 2 + 1 = n - 1 by omega, lv_drop hv (i := n - 1) (by omega), show n - 1 + 1 = n by omega, List.drop_of_length_le (by omega)]
    simp only [lv, Nat.mul_zero, Nat.add_zero]
  have hur := lv_lt (w.take (n - 2))
  have hvr := lv_lt (v.take (n - 2))
  rw [List.length_take, Nat.min_eq_left (by omega)] at hur hvr
  have x0 := lb_lt hw n
  have x1 := lb_lt hw (n - 1)
  have x2 := lb_lt hw (n - 2)
  have y1 := lb_lt hv (n - 1)
  have y2 := lb_lt hv (n - 2)
  have hv1 : 0 < lb v (n - 1) := by rw [hnd]; omega
  have hV0 : 0 < lv v := by
    have h1 : 1 * 1 ≤ pw (n - 2) * (lb v (n - 2) + 4294967296 * lb v (n - 1)) := Nat.mul_le_mul (pw_pos _) (by omega)
    omega
  obtain ⟨two, htwo⟩ : ∃ two, two = lb w n * 4294967296 + lb w (n - 1) := ⟨_, rfl⟩
  rw [← htwo] at hW
  have hqq : lv w / lv v * lv v ≤ lv w := Nat.div_mul_le_self _ _
  have hqB : lv w / lv v < 4294967296 := by rw [Nat.div_lt_iff_lt_mul hV0]; exact hlt
  have kd1 := kn_a hV hW hur x2 hqq
  -- reads
  have r0 : lb U0 (p.length + n) = lb w n := by rw [hU]; exact lb_win (by omega)
  have r1 : lb U0 (p.length + (n - 1)) = lb w (n - 1) := by rw [hU]; exact lb_win (by omega)
  have r2 : lb U0 (p.length + (n - 2)) = lb w (n - 2) := by rw [hU]; exact lb_win (by omega)
  have loop : ∃ x e μ, EX ip nv (.code (.loop [66] [] nat_digit.b0) [(0, .own 0 1 p.length w.length), (1, .d (.sl 1 (us v))), (5, .d (.int .i64 (n : Int))), (7, .d (u (two / lb v (n - 1)))), (8, .d (u (two % lb v (n - 1))))] [(0, ⟨0, true, us U0⟩)]) = some (.st x e μ) ∧ x ≠ .normal ∧
      ∃ g t b, x = .exit 0 ∧ e = [(0, .own 0 1 p.length w.length), (1, .d (.sl 1 (us v))), (5, .d (.int .i64 (n : Int))), (7, .d (u g)), (8, .d (u t)), b] ∧ (b = (55, .d (.bool false)) ∨ b = (66, .d (.bool true))) ∧ μ = [(0, ⟨0, true, us U0⟩)] ∧ g < 4294967296 ∧ lv w / lv v ≤ g ∧ g * lv v < lv w + lv v := by
    refine loop_mk (fun k e μ => ∃ g t, e = [(0, .own 0 1 p.length w.length), (1, .d (.sl 1 (us v))), (5, .d (.int .i64 (n : Int))), (7, .d (u g)), (8, .d (u t))] ∧ μ = [(0, ⟨0, true, us U0⟩)] ∧ t < 4294967296 ∧ t + k = 4294967296 ∧ g * lb v (n - 1) + t = two ∧ lv w / lv v ≤ g) ?_ (4294967296 - two % lb v (n - 1)) _ _ ⟨_, _, by simp, rfl, ?_, ?_, Nat.div_add_mod' _ _, ?_⟩
    · rintro k e μ ⟨g, t, rfl, rfl, ht, htk, hg, hq⟩
      have hgB : g < 18446744073709551616 := by
        have : g * 1 ≤ g * lb v (n - 1) := Nat.mul_le_mul_left _ hv1
        omega
      by_cases c1 : 4294967296 ≤ g
      · have hg1 : (g - 1) * lb v (n - 1) + (t + lb v (n - 1)) = two := by
          have : g * lb v (n - 1) = (g - 1) * lb v (n - 1) + lb v (n - 1) := by
            rw [← Nat.succ_mul]; congr 1; omega
          omega
        by_cases c2 : 4294967296 ≤ t + lb v (n - 1)
        · right
          have hgb := kn_b hV hW hvr y2 hlt hg1 c2
          have hgd := kn_d hV hW hvr hv1 hg1 hgb (by
            calc (g - 1) * lb v (n - 2) ≤ 4294967296 * 4294967296 := Nat.mul_le_mul (by omega) (by omega)
              _ ≤ (t + lb v (n - 1)) * 4294967296 := Nat.mul_le_mul_right _ c2
              _ ≤ _ := Nat.le_add_right _ _)
          refine ⟨.exit 0, [(0, .own 0 1 p.length w.length), (1, .d (.sl 1 (us v))), (5, .d (.int .i64 (n : Int))), (7, .d (u (g - 1))), (8, .d (u (t + lb v (n - 1)))), (66, .d (.bool true))], _, ?_, by simp, g - 1, _, _, rfl, rfl, .inr rfl, rfl, hgb, by omega, hgd⟩
          simp (disch := omega) [nat_digit.b0, c1, c2]
        · left
          refine ⟨[(0, .own 0 1 p.length w.length), (1, .d (.sl 1 (us v))), (5, .d (.int .i64 (n : Int))), (7, .d (u (g - 1))), (8, .d (u (t + lb v (n - 1)))), (66, .d (.bool false))], _, ?_, k - lb v (n - 1), by omega, g - 1, t + lb v (n - 1), by simp, rfl, by omega, by omega, hg1, by omega⟩
          simp (disch := omega) [nat_digit.b0, c1, c2]
      · have hm1 : g * lb v (n - 2) ≤ 4294967295 * 4294967295 := Nat.mul_le_mul (by omega) (by omega)
        by_cases c3 : t * 4294967296 + lb w (n - 2) < g * lb v (n - 2)
        · have kc := kn_c hV hW hur hg c3
          have hgq : lv w / lv v < g := (Nat.div_lt_iff_lt_mul hV0).2 kc
          have hg0 : 0 < g := Nat.lt_of_le_of_lt (Nat.zero_le _) hgq
          have hgq' : lv w / lv v ≤ g - 1 := Nat.le_sub_one_of_lt hgq
          clear hgq
          have hg1 : (g - 1) * lb v (n - 1) + (t + lb v (n - 1)) = two := by
            have : g * lb v (n - 1) = (g - 1) * lb v (n - 1) + lb v (n - 1) := by
              rw [← Nat.succ_mul]; congr 1; omega
            omega
          by_cases c2 : 4294967296 ≤ t + lb v (n - 1)
          · right
            have hgd := kn_d hV hW hvr hv1 hg1 (by omega) (by
              calc (g - 1) * lb v (n - 2) ≤ 4294967296 * 4294967296 := Nat.mul_le_mul (by omega) (by omega)
                _ ≤ (t + lb v (n - 1)) * 4294967296 := Nat.mul_le_mul_right _ c2
                _ ≤ _ := Nat.le_add_right _ _)
            refine ⟨.exit 0, [(0, .own 0 1 p.length w.length), (1, .d (.sl 1 (us v))), (5, .d (.int .i64 (n : Int))), (7, .d (u (g - 1))), (8, .d (u (t + lb v (n - 1)))), (66, .d (.bool true))], _, ?_, by simp, g - 1, _, _, rfl, rfl, .inr rfl, rfl, by omega, by omega, hgd⟩
            simp (disch := omega) [nat_digit.b0, c1, c2, c3, r2]
          · left
            refine ⟨[(0, .own 0 1 p.length w.length), (1, .d (.sl 1 (us v))), (5, .d (.int .i64 (n : Int))), (7, .d (u (g - 1))), (8, .d (u (t + lb v (n - 1)))), (66, .d (.bool false))], _, ?_, k - lb v (n - 1), by omega, g - 1, t + lb v (n - 1), by simp, rfl, by omega, by omega, hg1, by omega⟩
            simp (disch := omega) [nat_digit.b0, c1, c2, c3, r2]
        · right
          have hgd := kn_d hV hW hvr hv1 hg (by omega) (by omega)
          refine ⟨.exit 0, [(0, .own 0 1 p.length w.length), (1, .d (.sl 1 (us v))), (5, .d (.int .i64 (n : Int))), (7, .d (u g)), (8, .d (u t)), (55, .d (.bool false))], _, ?_, by simp, g, t, _, rfl, rfl, .inl rfl, rfl, by omega, hq, hgd⟩
          simp (disch := omega) [nat_digit.b0, c1, c3, r2]
    · have := Nat.mod_lt two hv1; omega
    · have := Nat.mod_lt two hv1; omega
    · exact (Nat.le_div_iff_mul_le hv1).2 kd1
  obtain ⟨_, _, _, hr, -, g, t, b, rfl, rfl, hb, rfl, hgB, hgq, hgd⟩ := loop
  obtain ⟨w1, d, t1, t2, t3, t4, t5⟩ := take_ev (nv := nv) p w q v g hw hv hgB hm U0 hU hL hvl
  have hWp : lv w < pw w.length := lv_lt w
  have hmod := Nat.mod_lt (lv w) hV0
  have hdm := Nat.div_add_mod (lv w) (lv v)
  have hw1 := lv_lt w1
  rw [t2] at hw1
  have hd : d = 0 ∨ d = 1 := by omega
  rcases hd with rfl | rfl
  · have hgle : g ≤ lv w / lv v := (Nat.le_div_iff_mul_le hV0).2 (by omega)
    have hge : g = lv w / lv v := by omega
    refine ⟨w1, ?_, t2, t3, ?_⟩
    · rw [S_call nat_digit.ip rfl, ← hge]
      simp only [Nat.zero_ne_one, decide_false] at t1
      rcases hb with rfl | rfl <;> simp (disch := omega) [nat_digit, ← hnd, r0, r1, ← htwo, hr, t1]
    · rw [hge] at t5
      rw [Nat.mul_comm] at hdm
      generalize lv w / lv v * lv v = Z at t5 hdm
      generalize lv w % lv v = Y at *
      omega
  · have hgt : lv w < g * lv v := by omega
    have hge : g = lv w / lv v + 1 := by
      have h1 : lv w / lv v < g := (Nat.div_lt_iff_lt_mul hV0).2 hgt
      have hg0 : 0 < g := Nat.lt_of_le_of_lt (Nat.zero_le _) h1
      have h2 : (g - 1) * lv v ≤ lv w := by
        have : g * lv v = (g - 1) * lv v + lv v := by rw [← Nat.succ_mul]; congr 1; omega
        omega
      have h3 := (Nat.le_div_iff_mul_le hV0).2 h2
      omega
    obtain ⟨w2, c, g1, g2, g3, g4, g5⟩ := give_ev (nv := nv) p w1 q v t3 hv (by omega) (p ++ w1 ++ q) rfl (by simp; omega) hvl
    have hw2 := lv_lt w2
    rw [g2, t2] at hw2
    rw [t2] at g5 g1
    have hg0 : 0 < g := by rw [hge]; exact Nat.succ_pos _
    have hgm : g * lv v = lv w / lv v * lv v + lv v := by rw [hge, Nat.succ_mul]
    rw [Nat.mul_comm (lv v)] at hdm
    refine ⟨w2, ?_, by omega, g3, ?_⟩
    · rw [S_call nat_digit.ip rfl, show lv w / lv v = g - 1 by rw [hge]; rfl]
      rcases hb with rfl | rfl <;> simp (disch := omega) [-List.append_assoc, nat_digit, ← hnd, r0, r1, ← htwo, hr, t1, g1]
    · have hc : c = 0 ∨ c = 1 := by omega
      rw [hgm] at t5
      generalize lv w / lv v * lv v = Z at t5 hdm
      generalize lv w % lv v = Y at *
      clear hgm hge hgt hgd hqq
      rcases hc with rfl | rfl <;> omega
end
end Go.Proofs.YtgigaimaaijalaaDoor
