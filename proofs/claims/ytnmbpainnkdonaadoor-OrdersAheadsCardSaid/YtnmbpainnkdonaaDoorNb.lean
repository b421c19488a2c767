/- Sums, differences, products, quotients by a limb. -/
import Derived.Test.YtnmbpainnkdonaaDoorNa
set_option linter.unusedSimpArgs false
set_option linter.unusedVariables false
namespace Go.Proofs.YtnmbpainnkdonaaDoor
open Go Go.Proofs.R
set_option maxRecDepth 10000
section
variable {nv : R.Nv}
theorem dig_rw {n : Nat} (h : (dig n).length ≤ 1099511627776) : Rw (dig n) := Rw.of (dig_cl n) h
theorem lv_len {l : List Nat} (h : Rw l) : (dig (lv l)).length ≤ l.length := dig_len_le.2 (lv_lt l)

theorem add_loop (a b : List Nat) (ha : Cl a) (hb : Cl b) (hs : a.length ≤ 1099511627776) (hs' : b.length ≤ 1099511627776) (n : Nat) (hn : n = max a.length b.length + 1) : ∃ x e μ, EX ip nv (.code (.loop [] [] nat_Add.b0) [(0, .d (.sl 1 (us a))), (1, .d (.sl 1 (us b))), (5, .own 18 1 0 n), (6, .d (u 0)), (20, .d (.int .i64 (n : Int))), (21, .d (.int .i64 0))] [(18, ⟨0, false, us (List.replicate n 0)⟩)]) = some (.st x e μ) ∧ x ≠ .normal ∧
    ∃ out c, x = .exit 0 ∧ e = [(0, .d (.sl 1 (us a))), (1, .d (.sl 1 (us b))), (5, .own 18 1 0 n), (6, .d (u c)), (20, .d (.int .i64 (n : Int))), (21, .d (.int .i64 (n : Int))), (22, .d (.bool false))] ∧ μ = [(18, ⟨0, false, us out⟩)] ∧ out.length = n ∧ Cl out ∧ lv out = lv a + lv b := by
  refine loop_n n (fun i e μ => ∃ out c, e = [(0, .d (.sl 1 (us a))), (1, .d (.sl 1 (us b))), (5, .own 18 1 0 n), (6, .d (u c)), (20, .d (.int .i64 (n : Int))), (21, .d (.int .i64 (i : Int)))] ∧ μ = [(18, ⟨0, false, us out⟩)] ∧ out.length = n ∧ Cl out ∧ c ≤ 1 ∧ lv (out.take i) + pw i * c = lv (a.take i) + lv (b.take i)) ?_ ?_ ⟨List.replicate n 0, 0, rfl, rfl, by simp, Cl.zeros n, by omega, by simp [lv]⟩
  · rintro i e μ hi ⟨out, c, rfl, rfl, hlen, hc, hc1, hv⟩
    left
    have hi' : (i : Int) < n := by omega
    have l1 := lb_lt ha i
    have l2 := lb_lt hb i
    have e1 := limb_ev (nv := nv) a i hs (by omega)
    have e2 := limb_ev (nv := nv) b i hs' (by omega)
    have ea := lv_take_succ ha i
    have eb := lv_take_succ hb i
    have es := pw_split i (c + (lb a i + lb b i))
    have eo := lv_take_set (x := (c + (lb a i + lb b i)) % 4294967296) hc (i := i) (by omega) (by omega)
    refine ⟨[(0, .d (.sl 1 (us a))), (1, .d (.sl 1 (us b))), (5, .own 18 1 0 n), (6, .d (u ((c + (lb a i + lb b i)) / 4294967296))), (20, .d (.int .i64 (n : Int))), (21, .d (.int .i64 ((i + 1 : Nat) : Int)))], [(18, ⟨0, false, us (out.set i ((c + (lb a i + lb b i)) % 4294967296))⟩)], ?_, _, _, rfl, rfl, by simpa using hlen, hc.set i (by omega), by omega, ?_⟩
    · simp (disch := omega) [nat_Add.b0, hi', e1, e2]
    · rw [eo, ea, eb]
      rw [Nat.mul_add, Nat.mul_add] at es
      omega
  · rintro e μ ⟨out, c, rfl, rfl, hlen, hc, hc1, hv⟩
    refine ⟨.exit 0, _, _, by simp [nat_Add.b0], by simp, out, c, rfl, rfl, rfl, hlen, hc, ?_⟩
    rw [lv_take_all (by omega), lv_take_all (by omega), lv_take_all (by omega)] at hv
    have h1 := lv_lt a
    have h2 := lv_lt b
    have h3 := pw_le (show a.length ≤ max a.length b.length by omega)
    have h4 := pw_le (show b.length ≤ max a.length b.length by omega)
    have h5 : pw n = 4294967296 * pw (max a.length b.length) := by rw [hn, pw_succ]
    have h6 : c = 0 ∨ c = 1 := by omega
    rcases h6 with rfl | rfl <;> omega
theorem add_ev (a b : List Nat) (ha : Rw a) (hb : Rw b) : EX ip nv (.call F.nat_Add [.d (.sl 1 (us a)), .d (.sl 1 (us b))] []) = some (.ret (.d (.sl 1 (us (dig (lv a + lv b))))) []) := by
  rw [S_call nat_Add.ip rfl]
  have h1 := lv_len ha
  have h2 := lv_len hb
  have := ha.2
  have := hb.2
  obtain ⟨_, _, _, hr, -, out, c, rfl, rfl, rfl, hlen, hc, hv⟩ := add_loop (nv := nv) (dig (lv a)) (dig (lv b)) (dig_cl _) (dig_cl _) (by omega) (by omega) _ rfl
  rw [lv_dig, lv_dig] at hv
  have ht := trim_ev (nv := nv) out (by omega) hc
  rw [hv] at ht
  simp at hr
  simp (disch := omega) [nat_Add, clean_ev (nv := nv) a ha, clean_ev (nv := nv) b hb, hr, ht]

theorem minus_loop (a b : List Nat) (ha : Cl a) (hb : Cl b) (hs : a.length ≤ 1099511627776) (hs' : b.length ≤ a.length) (hv : lv b ≤ lv a) (n : Nat) (hn : n = a.length) : ∃ x e μ, EX ip nv (.code (.loop [] [] nat_minus.b0) [(0, .d (.sl 1 (us a))), (1, .d (.sl 1 (us b))), (5, .own 11 1 0 n), (6, .d (u 0)), (13, .d (.int .i64 (n : Int))), (14, .d (.int .i64 0))] [(11, ⟨0, false, us (List.replicate n 0)⟩)]) = some (.st x e μ) ∧ x ≠ .normal ∧
    ∃ out c, x = .exit 0 ∧ e = [(0, .d (.sl 1 (us a))), (1, .d (.sl 1 (us b))), (5, .own 11 1 0 n), (6, .d (u c)), (13, .d (.int .i64 (n : Int))), (14, .d (.int .i64 (n : Int))), (15, .d (.bool false))] ∧ μ = [(11, ⟨0, false, us out⟩)] ∧ out.length = n ∧ Cl out ∧ lv out = lv a - lv b := by
  refine loop_n n (fun i e μ => ∃ out c, e = [(0, .d (.sl 1 (us a))), (1, .d (.sl 1 (us b))), (5, .own 11 1 0 n), (6, .d (u c)), (13, .d (.int .i64 (n : Int))), (14, .d (.int .i64 (i : Int)))] ∧ μ = [(11, ⟨0, false, us out⟩)] ∧ out.length = n ∧ Cl out ∧ c ≤ 1 ∧ lv (out.take i) + lv (b.take i) = lv (a.take i) + pw i * c) ?_ ?_ ⟨List.replicate n 0, 0, rfl, rfl, by simp, Cl.zeros n, by omega, by simp [lv]⟩
  · rintro i e μ hi ⟨out, c, rfl, rfl, hlen, hc, hc1, hv⟩
    left
    have hi' : (i : Int) < n := by omega
    have l1 := lb_lt ha i
    have l2 := lb_lt hb i
    have e2 := limb_ev (nv := nv) b i (by omega) (by omega)
    have ea := lv_take_succ ha i
    have eb := lv_take_succ hb i
    obtain ⟨s, hs⟩ : ∃ s, s = 4294967296 + lb a i - lb b i - c := ⟨_, rfl⟩
    have es := pw_split i s
    have eo := lv_take_set (x := s % 4294967296) hc (i := i) (by omega) (by omega)
    refine ⟨[(0, .d (.sl 1 (us a))), (1, .d (.sl 1 (us b))), (5, .own 11 1 0 n), (6, .d (u (1 - s / 4294967296))), (13, .d (.int .i64 (n : Int))), (14, .d (.int .i64 ((i + 1 : Nat) : Int)))], [(11, ⟨0, false, us (out.set i (s % 4294967296))⟩)], ?_, _, _, rfl, rfl, by simpa using hlen, hc.set i (by omega), by omega, ?_⟩
    · rw [hs]
      simp (disch := omega) [nat_minus.b0, hi', e2]
    · rw [eo, ea, eb]
      have e3 : pw i * s + pw i * lb b i + pw i * c = pw i * 4294967296 + pw i * lb a i := by
        rw [← Nat.mul_add, ← Nat.mul_add, ← Nat.mul_add]
        congr 1
        omega
      have e4 : pw (i + 1) = pw i * 4294967296 := by rw [pw_succ, Nat.mul_comm]
      have h6 : s / 4294967296 = 0 ∨ s / 4294967296 = 1 := by omega
      rcases h6 with h6 | h6 <;> rw [h6] at es ⊢ <;> omega
  · rintro e μ ⟨out, c, rfl, rfl, hlen, hc, hc1, hv'⟩
    refine ⟨.exit 0, _, _, by simp [nat_minus.b0], by simp, out, c, rfl, rfl, rfl, hlen, hc, ?_⟩
    rw [lv_take_all (by omega), lv_take_all (by omega), lv_take_all (by omega)] at hv'
    have h1 := lv_lt out
    rw [hlen] at h1
    have h6 : c = 0 ∨ c = 1 := by omega
    rcases h6 with rfl | rfl <;> omega
theorem minus_ev (m n : Nat) (h : n ≤ m) (hm : (dig m).length ≤ 1099511627776) : EX ip nv (.call F.nat_minus [.d (.sl 1 (us (dig m))), .d (.sl 1 (us (dig n)))] []) = some (.ret (.d (.sl 1 (us (dig (m - n))))) []) := by
  rw [S_call nat_minus.ip rfl]
  obtain ⟨_, _, _, hr, -, out, c, rfl, rfl, rfl, hlen, hc, hv⟩ := minus_loop (nv := nv) (dig m) (dig n) (dig_cl _) (dig_cl _) hm (dig_len_mono h) (by rw [lv_dig, lv_dig]; exact h) _ rfl
  rw [lv_dig, lv_dig] at hv
  have ht := trim_ev (nv := nv) out (by omega) hc
  rw [hv] at ht
  simp (disch := omega) [nat_minus, hr, ht]
theorem sub_ev (a b : List Nat) (ha : Rw a) (hb : Rw b) : EX ip nv (.call F.nat_Sub [.d (.sl 1 (us a)), .d (.sl 1 (us b))] []) = some (.ret (if lv a < lv b then .tp [.d (.sl 1 []), .d (.int .i64 3)] else .tp [.d (.sl 1 (us (dig (lv a - lv b)))), .d (.int .i64 0)]) []) := by
  rw [S_call nat_Sub.ip rfl]
  have h1 := lv_len ha
  have h2 := lv_len hb
  have := ha.2
  have := hb.2
  have ho := order_ev (nv := nv) (lv a) (lv b) (by omega) (by omega)
  by_cases h : lv a < lv b
  · simp [nat_Sub, clean_ev (nv := nv) a ha, clean_ev (nv := nv) b hb, ho, cmpI, h]
  · have hm := minus_ev (nv := nv) (lv a) (lv b) (by omega) (by omega)
    have hc : ¬ cmpI (lv a) (lv b) < 0 := by simp only [cmpI, if_neg h]; split <;> omega
    simp [nat_Sub, clean_ev (nv := nv) a ha, clean_ev (nv := nv) b hb, ho, h, hm, hc]
end
end Go.Proofs.YtnmbpainnkdonaaDoor
