/- Natural numbers of the program: limbs made clean, small numbers, order, sums, differences. -/
import Derived.Test.YtnmbpainnkdonaaDoorIr
import Derived.Test.YtnmbpainnkdonaaDoorRc
set_option linter.unusedSimpArgs false
set_option linter.unusedVariables false
namespace Go.Proofs.YtnmbpainnkdonaaDoor
open Go Go.Proofs.R
set_option maxRecDepth 10000
section
variable {nv : R.Nv}
/-- Limbs that can stand in memory. -/
def Rw (l : List Nat) : Prop := (∀ x ∈ l, x < 18446744073709551616) ∧ l.length ≤ 1099511627776
theorem Rw.of {l : List Nat} (h : Cl l) (h' : l.length ≤ 1099511627776) : Rw l := ⟨fun x hx => by have := h x hx; omega, h'⟩
theorem Rw.lb {l : List Nat} (h : Rw l) (i : Nat) : lb l i < 18446744073709551616 := by
  unfold R.lb
  rw [List.getD_eq_getElem?_getD]
  cases hi : l[i]? with
  | none => simp
  | some x => simpa using h.1 x (List.mem_of_getElem? hi)
theorem limb_ev (l : List Nat) (i : Nat) (hl : l.length ≤ 1099511627776) (hi : i ≤ 1099511627776) : EX ip nv (.call F.nat_limb [.d (.sl 1 (us l)), .d (.int .i64 (i : Int))] []) = some (.ret (.d (u (lb l i))) []) := by
  rw [S_call nat_limb.ip rfl]
  by_cases h : i < l.length
  · have h' : (i : Int) < l.length := by omega
    simp (disch := omega) [nat_limb, h']
  · have h' : ¬ (i : Int) < l.length := by omega
    simp (disch := omega) [nat_limb, h', lb_out (Nat.not_lt.1 h)]

theorem trim_loop (l : List Nat) (hl : l.length ≤ 1125899906842624) (hc : Cl l) : ∃ x e μ, EX ip nv (.code (.loop [] [] nat_trim.b0) [(0, .d (.sl 1 (us l))), (3, .d (.int .i64 (l.length : Int)))] []) = some (.st x e μ) ∧ x ≠ .normal ∧
    ∃ j : Nat, x = .exit 0 ∧ e = [(0, .d (.sl 1 (us l))), (3, .d (.int .i64 (j : Int))), (15, .d (.bool false))] ∧ μ = [] ∧ j ≤ l.length ∧ dig (lv l) = l.take j := by
  refine loop_m (fun k e μ => e = [(0, .d (.sl 1 (us l))), (3, .d (.int .i64 (k : Int)))] ∧ μ = [] ∧ k ≤ l.length ∧ lv (l.drop k) = 0) ?_ l.length _ _ ⟨rfl, rfl, Nat.le_refl _, by simp [lv]⟩
  rintro k e μ ⟨rfl, rfl, h, h0⟩
  cases k with
  | zero => exact .inr ⟨.exit 0, [(0, .d (.sl 1 (us l))), (3, .d (.int .i64 0)), (15, .d (.bool false))], [], by simp [nat_trim.b0], by simp, 0, rfl, by simp, rfl, by omega, dig_take hc (Nat.zero_le _) h0 (.inl rfl)⟩
  | succ k =>
    have hk : (0 : Int) < (k : Int) + 1 := by omega
    by_cases hz : lb l k = 0
    · have h1 : lv (l.drop k) = 0 := by rw [lv_drop hc (by omega), hz, h0]
      exact .inl ⟨[(0, .d (.sl 1 (us l))), (3, .d (.int .i64 (k : Int)))], [], by simp (disch := omega) [nat_trim.b0, hk, hz], k, by omega, rfl, rfl, by omega, h1⟩
    · exact .inr ⟨.exit 0, [(0, .d (.sl 1 (us l))), (3, .d (.int .i64 ((k + 1 : Nat) : Int))), (15, .d (.bool false))], [], by simp (disch := omega) [nat_trim.b0, hk, hz], by simp, k + 1, rfl, rfl, rfl, h, dig_take hc h h0 (.inr (by simpa using hz))⟩
theorem trim_ev (l : List Nat) (hl : l.length ≤ 1125899906842624) (hc : Cl l) : EX ip nv (.call F.nat_trim [.d (.sl 1 (us l))] []) = some (.ret (.d (.sl 1 (us (dig (lv l))))) []) := by
  rw [S_call nat_trim.ip rfl]
  obtain ⟨_, _, _, ih, -, j, rfl, rfl, rfl, hj, hd⟩ := trim_loop (nv := nv) l hl hc
  by_cases h0 : j = 0
  · subst h0
    simp at hd
    simp (disch := omega) [nat_trim, ih, hd]
  · have h0' : ¬ (j : Int) = 0 := by omega
    simp (disch := omega) [nat_trim, ih, hd, h0, h0']

theorem clean_loop (l : List Nat) (h : Rw l) : ∃ x e μ, EX ip nv (.code (.loop [] [] nat_Clean.b0) [(3, .own 8 1 0 l.length), (9, .d (.sl 1 (us l))), (10, .d (.int .i64 (l.length : Int))), (11, .d (.int .i64 0))] [(8, ⟨0, false, us (List.replicate l.length 0)⟩)]) = some (.st x e μ) ∧ x ≠ .normal ∧
    ∃ out, x = .exit 0 ∧ e = [(3, .own 8 1 0 l.length), (9, .d (.sl 1 (us l))), (10, .d (.int .i64 (l.length : Int))), (11, .d (.int .i64 (l.length : Int))), (12, .d (.bool false))] ∧ μ = [(8, ⟨0, false, us out⟩)] ∧ out = l.map (· % 4294967296) := by
  have hl := h.2
  refine loop_n l.length (fun i e μ => ∃ out, e = [(3, .own 8 1 0 l.length), (9, .d (.sl 1 (us l))), (10, .d (.int .i64 (l.length : Int))), (11, .d (.int .i64 (i : Int)))] ∧ μ = [(8, ⟨0, false, us out⟩)] ∧ out.length = l.length ∧ out = (l.take i).map (· % 4294967296) ++ List.replicate (l.length - i) 0) ?_ ?_ ⟨_, rfl, rfl, by simp, by simp⟩
  · rintro i e μ hi ⟨out, rfl, rfl, hlen, ho⟩
    left
    have hi' : (i : Int) < l.length := by omega
    have hb := h.lb i
    refine ⟨[(3, .own 8 1 0 l.length), (9, .d (.sl 1 (us l))), (10, .d (.int .i64 (l.length : Int))), (11, .d (.int .i64 ((i + 1 : Nat) : Int)))], [(8, ⟨0, false, us (out.set i (lb l i % 4294967296))⟩)], ?_, _, rfl, rfl, by simpa using hlen, ?_⟩
    · simp (disch := omega) [nat_Clean.b0, hi']
    · have e1 : ((l.take i).map (· % 4294967296)).length = i := by simp; omega
      rw [ho, List.set_append, if_neg (by omega), e1, Nat.sub_self, show l.length - i = l.length - (i + 1) + 1 by omega, List.replicate_succ, List.set_cons_zero]
      rw [List.take_succ_eq_append_getElem hi, List.map_append, lb_getElem hi]
      simp
  · rintro e μ ⟨out, rfl, rfl, hlen, ho⟩
    exact ⟨.exit 0, _, _, by simp [nat_Clean.b0], by simp, out, rfl, rfl, rfl, by simpa using ho⟩
theorem clean_ev (l : List Nat) (h : Rw l) : EX ip nv (.call F.nat_Clean [.d (.sl 1 (us l))] []) = some (.ret (.d (.sl 1 (us (dig (lv l))))) []) := by
  rw [S_call nat_Clean.ip rfl]
  have hl := h.2
  obtain ⟨_, _, _, hr, -, out, rfl, rfl, rfl, ho⟩ := clean_loop (nv := nv) l h
  have hlen : out.length = l.length := by rw [ho]; simp
  have ht := trim_ev (nv := nv) out (by omega) (by rw [ho]; exact cl_map_mod l)
  have hv : lv out = lv l := by rw [ho, lv_map_mod]
  rw [hv] at ht
  simp (disch := omega) [nat_Clean, hr, ht]
theorem of_ev (n : Nat) (h : n < 18446744073709551616) : EX ip nv (.call F.nat_Of [.d (u n)] []) = some (.ret (.d (.sl 1 (us (dig n)))) []) := by
  rw [S_call nat_Of.ip rfl]
  have ht := trim_ev (nv := nv) [n % 4294967296, n / 4294967296] (by simp) (by simp [Cl]; omega)
  have hv : lv [n % 4294967296, n / 4294967296] = n := by simp only [lv]; omega
  rw [hv] at ht
  simp only [us_cons, us_nil] at ht
  simp (disch := omega) [nat_Of, ht]
/-- How two numbers stand, as the program says it. -/
def cmpI (a b : Nat) : Int := if a < b then -1 else if b < a then 1 else 0
theorem order_loop (a b : List Nat) (ha : Cl a) (hb : Cl b) (hl : a.length = b.length) (hs : a.length ≤ 1099511627776) : ∃ x e μ, EX ip nv (.code (.loop [] [] nat_order.b1) [(0, .d (.sl 1 (us a))), (1, .d (.sl 1 (us b))), (5, .d (.int .i64 ((a.length : Int) - 1)))] []) = some (.st x e μ) ∧ x ≠ .normal ∧
    μ = [] ∧ ((x = .exit 1 ∧ e = [(0, .d (.sl 1 (us a))), (1, .d (.sl 1 (us b))), (5, .d (.int .i64 (-1))), (22, .d (.bool false))] ∧ lv a = lv b) ∨ (x = .ret ∧ e = [(4, .d (.int .i64 (cmpI (lv a) (lv b))))] ∧ lv a ≠ lv b)) := by
  refine loop_m (fun k e μ => e = [(0, .d (.sl 1 (us a))), (1, .d (.sl 1 (us b))), (5, .d (.int .i64 ((k : Int) - 1)))] ∧ μ = [] ∧ k ≤ a.length ∧ lv (a.drop k) = lv (b.drop k)) ?_ a.length _ _ ⟨rfl, rfl, Nat.le_refl _, by rw [List.drop_length, hl, List.drop_length]⟩
  rintro k e μ ⟨rfl, rfl, h, h0⟩
  cases k with
  | zero => exact .inr ⟨.exit 1, [(0, .d (.sl 1 (us a))), (1, .d (.sl 1 (us b))), (5, .d (.int .i64 (-1))), (22, .d (.bool false))], [], by simp [nat_order.b1], by simp, rfl, .inl ⟨rfl, rfl, by simpa using h0⟩⟩
  | succ k =>
    have ea := lv_cut a (k + 1) h
    have eb := lv_cut b (k + 1) (by omega)
    have e1 := lv_take_succ ha k
    have e2 := lv_take_succ hb k
    have l1 := lv_lt (a.take k)
    have l2 := lv_lt (b.take k)
    rw [List.length_take, Nat.min_eq_left (by omega)] at l1 l2
    have hk : (0 : Int) ≤ (k : Int) := by omega
    by_cases c1 : lb a k < lb b k
    · have c3 : lv a < lv b := by
        rw [ea, eb, h0, e1, e2]
        have : pw k * (lb a k + 1) ≤ pw k * lb b k := Nat.mul_le_mul_left _ c1
        rw [Nat.mul_add] at this
        omega
      refine .inr ⟨.ret, [(4, .d (.int .i64 (-1)))], [], by simp (disch := omega) [nat_order.b1, hk, c1], by simp, rfl, .inr ⟨rfl, by simp [cmpI, c3], by omega⟩⟩
    · by_cases c2 : lb b k < lb a k
      · have c3 : lv b < lv a := by
          rw [ea, eb, h0, e1, e2]
          have : pw k * (lb b k + 1) ≤ pw k * lb a k := Nat.mul_le_mul_left _ c2
          rw [Nat.mul_add] at this
          omega
        have c4 : ¬ lv a < lv b := by omega
        refine .inr ⟨.ret, [(4, .d (.int .i64 1))], [], by simp (disch := omega) [nat_order.b1, hk, c1, c2], by simp, rfl, .inr ⟨rfl, by simp [cmpI, c3, c4], by omega⟩⟩
      · have c3 : lb a k = lb b k := by omega
        refine .inl ⟨[(0, .d (.sl 1 (us a))), (1, .d (.sl 1 (us b))), (5, .d (.int .i64 ((k : Int) - 1)))], [], by simp (disch := omega) [nat_order.b1, hk, c3], k, by omega, rfl, rfl, by omega, ?_⟩
        rw [lv_drop ha (by omega), lv_drop hb (by omega), h0, c3]
theorem order_ev (m n : Nat) (hm : (dig m).length ≤ 1099511627776) (hn : (dig n).length ≤ 1099511627776) : EX ip nv (.call F.nat_order [.d (.sl 1 (us (dig m))), .d (.sl 1 (us (dig n)))] []) = some (.ret (.d (.int .i64 (cmpI m n))) []) := by
  rw [S_call nat_order.ip rfl]
  by_cases h1 : (dig m).length < (dig n).length
  · have c : m < n := by
      have := dig_len_le.1 (show (dig m).length ≤ (dig n).length - 1 by omega)
      have h2 : 0 < n := dig_len_pos.1 (by omega)
      have := dig_ge h2
      omega
    simp (disch := omega) [nat_order, h1, cmpI, c]
  · by_cases h2 : (dig n).length < (dig m).length
    · have c : n < m := by
        have := dig_len_le.1 (show (dig n).length ≤ (dig m).length - 1 by omega)
        have h2 : 0 < m := dig_len_pos.1 (by omega)
        have := dig_ge h2
        omega
      have c' : ¬ m < n := by omega
      simp (disch := omega) [nat_order, h1, h2, cmpI, c, c']
    · have hl : (dig m).length = (dig n).length := by omega
      obtain ⟨x, e, μ, hr, -, rfl, ⟨rfl, rfl, hv⟩ | ⟨rfl, rfl, hv⟩⟩ := order_loop (nv := nv) (dig m) (dig n) (dig_cl m) (dig_cl n) hl hm
      · rw [lv_dig, lv_dig] at hv
        subst hv
        simp (disch := omega) [nat_order, hr, cmpI]
      · rw [lv_dig, lv_dig] at hr
        rw [hl] at hr
        simp (disch := omega) [nat_order, hl, hr]
theorem cmp_ev (a b : List Nat) (ha : Rw a) (hb : Rw b) : EX ip nv (.call F.nat_Cmp [.d (.sl 1 (us a)), .d (.sl 1 (us b))] []) = some (.ret (.d (.int .i64 (cmpI (lv a) (lv b)))) []) := by
  rw [S_call nat_Cmp.ip rfl]
  have h1 := dig_len_le.2 (lv_lt a)
  have h2 := dig_len_le.2 (lv_lt b)
  have := ha.2
  have := hb.2
  simp [nat_Cmp, clean_ev (nv := nv) a ha, clean_ev (nv := nv) b hb, order_ev (nv := nv) (lv a) (lv b) (by omega) (by omega)]
end
end Go.Proofs.YtnmbpainnkdonaaDoor
