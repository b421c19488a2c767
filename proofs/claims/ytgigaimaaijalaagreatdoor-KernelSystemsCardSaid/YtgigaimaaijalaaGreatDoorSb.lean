/- The reference's sums, differences and products. -/
import Derived.Test.YtgigaimaaijalaaGreatDoorSa
set_option linter.unusedSimpArgs false
set_option linter.unusedVariables false
namespace Go.Proofs.YtgigaimaaijalaaGreatDoor
open Go Go.Proofs.R
set_option maxRecDepth 10000
section
variable {nv : R.Nv}
theorem tw_lt {i j : Nat} (h : T.pw i < T.pw j) : i < j := by
  rcases Nat.lt_or_ge i j with h1 | h1
  · exact h1
  · have := T.pw_le h1; omega
theorem plus1_step (a b : List Nat) (ha : T.Cl a) (hb : T.Cl b) (hs : a.length ≤ 1099511627776) (hs' : b.length ≤ 1099511627776) (i c : Nat) (hi : i ≤ 1099511627777) (hc : c ≤ 1) (out : List Nat) (ho : out.length = i) (h : i < a.length ∨ i < b.length ∨ 0 < c) :
    EX ip nv (.code dendronref01_Plus.b0 [(0, .d (.sl 1 (el a))), (1, .d (.sl 1 (el b))), (5, .own 5 1 0 i), (6, .d (.int .i64 (c : Int))), (7, .d (.int .i64 (i : Int)))] [(5, ⟨0, false, el out⟩)]) =
      some (.st .normal [(0, .d (.sl 1 (el a))), (1, .d (.sl 1 (el b))), (5, .own 5 1 0 (i + 1)), (6, .d (.int .i64 ((c + T.lb a i + T.lb b i) / 10000 : Nat))), (7, .d (.int .i64 ((i + 1 : Nat) : Int)))] [(5, ⟨0, false, el (out ++ [(c + T.lb a i + T.lb b i) % 10000])⟩)]) := by
  have ht : out.take i = out := List.take_of_length_le (by omega)
  have l1 := T.lb_lt ha i
  have l2 := T.lb_lt hb i
  have d1 := digit1_ev (nv := nv) a i (by omega) (by omega)
  have d2 := digit1_ev (nv := nv) b i (by omega) (by omega)
  have e1 : (c : Int) + ((T.lb a i : Nat) : Int) + ((T.lb b i : Nat) : Int) = ((c + T.lb a i + T.lb b i : Nat) : Int) := by omega
  have r1 := i_rem4 (x := c + T.lb a i + T.lb b i)
  have q1 := i_quo4 (x := c + T.lb a i + T.lb b i) (by omega)
  generalize T.lb a i = x at *
  generalize T.lb b i = y at *
  have hxy : c + x + y ≤ 20000 := by omega
  generalize c + x + y = s at *
  generalize s / 10000 = q at *
  generalize s % 10000 = r at *
  by_cases h1 : i < a.length
  · have h1' : (i : Int) < a.length := by omega
    simp (disch := omega) [dendronref01_Plus.b0, h1, h1', d1, d2, e1, r1, q1, ht, -vBin_rem, -vBin_quo]
  · have h1' : ¬ (i : Int) < a.length := by omega
    by_cases h2 : i < b.length
    · have h2' : (i : Int) < b.length := by omega
      simp (disch := omega) [dendronref01_Plus.b0, h1, h1', h2, h2', d1, d2, e1, r1, q1, ht, -vBin_rem, -vBin_quo]
    · have h2' : ¬ (i : Int) < b.length := by omega
      have h3 : 0 < c := by omega
      simp (disch := omega) [dendronref01_Plus.b0, h1, h1', h2, h2', h3, d1, d2, e1, r1, q1, ht, -vBin_rem, -vBin_quo]
theorem plus1_loop (m n L : Nat) (hm : (T.dig m).length ≤ L) (hn : (T.dig n).length ≤ L) (hL : L ≤ 1099511627775) : ∃ x e μ, EX ip nv (.code (.loop [] [] dendronref01_Plus.b0) [(0, .d (.sl 1 (el (T.dig m)))), (1, .d (.sl 1 (el (T.dig n)))), (5, .own 5 1 0 0), (6, .d (.int .i64 0)), (7, .d (.int .i64 0))] [(5, ⟨0, false, []⟩)]) = some (.st x e μ) ∧ x ≠ .normal ∧
    ∃ i : Nat, x = .exit 0 ∧ e = [(0, .d (.sl 1 (el (T.dig m)))), (1, .d (.sl 1 (el (T.dig n)))), (5, .own 5 1 0 (T.dig (m + n)).length), (6, .d (.int .i64 0)), (7, .d (.int .i64 (i : Int))), (21, .d (.bool false))] ∧ μ = [(5, ⟨0, false, el (T.dig (m + n))⟩)] := by
  have ha := T.dig_cl m
  have hb := T.dig_cl n
  have va := T.lv_dig m
  have vb := T.lv_dig n
  have ga : 0 < m → T.pw ((T.dig m).length - 1) ≤ m := T.dig_ge
  have gb : 0 < n → T.pw ((T.dig n).length - 1) ≤ n := T.dig_ge
  have pa : 0 < (T.dig m).length → 0 < m := T.dig_len_pos.1
  have pb : 0 < (T.dig n).length → 0 < n := T.dig_len_pos.1
  have hmL := T.dig_len_le.1 hm
  have hnL := T.dig_len_le.1 hn
  refine loop_m (fun k e μ => ∃ (i c : Nat) (out : List Nat), i + k = L + 2 ∧ e = [(0, .d (.sl 1 (el (T.dig m)))), (1, .d (.sl 1 (el (T.dig n)))), (5, .own 5 1 0 i), (6, .d (.int .i64 (c : Int))), (7, .d (.int .i64 (i : Int)))] ∧ μ = [(5, ⟨0, false, el out⟩)] ∧
    out.length = i ∧ T.Cl out ∧ c ≤ 1 ∧ T.lv out + T.pw i * c = T.lv ((T.dig m).take i) + T.lv ((T.dig n).take i) ∧ (0 < i → T.pw (i - 1) ≤ m + n)) ?_ (L + 2) _ _ ⟨0, 0, [], by omega, rfl, rfl, rfl, T.Cl.nil, by omega, by simp [T.lv], fun h => by omega⟩
  rintro k e μ ⟨i, c, out, hk, rfl, rfl, ho, hcl, hc, hv, hg⟩
  have hiL : i ≤ L + 1 := by
    by_cases h0 : 0 < i
    · have h1 := hg h0
      have h2 := T.pw_succ L
      have : i - 1 < L + 1 := tw_lt (by omega)
      omega
    · omega
  by_cases h : i < (T.dig m).length ∨ i < (T.dig n).length ∨ 0 < c
  · have st := plus1_step (nv := nv) (T.dig m) (T.dig n) ha hb (by omega) (by omega) i c (by omega) hc out ho h
    have e1 := T.lv_take_succ ha i
    have e2 := T.lv_take_succ hb i
    have l1 := T.lb_lt ha i
    have l2 := T.lb_lt hb i
    have hg' : T.pw i ≤ m + n := by
      by_cases h1 : i < (T.dig m).length
      · have := ga (pa (by omega))
        have := T.pw_le (show i ≤ (T.dig m).length - 1 by omega)
        omega
      · by_cases h2 : i < (T.dig n).length
        · have := gb (pb (by omega))
          have := T.pw_le (show i ≤ (T.dig n).length - 1 by omega)
          omega
        · have h3 : c = 1 := by omega
          subst h3
          rw [T.lv_take_all (by omega), T.lv_take_all (by omega), va, vb] at hv
          omega
    obtain ⟨s, hs⟩ : ∃ s, s = c + T.lb (T.dig m) i + T.lb (T.dig n) i := ⟨_, rfl⟩
    rw [← hs] at st
    have es := T.pw_split i s
    refine .inl ⟨_, _, st, k - 1, by omega, i + 1, s / 10000, out ++ [s % 10000], by omega, rfl, rfl, by simp [ho], T.Cl.append.2 ⟨hcl, T.Cl.one (by omega)⟩, by omega, ?_, fun _ => by simpa using hg'⟩
    rw [T.lv_append, T.lv_one (by omega), ho, e1, e2]
    have e3 : T.pw i * s = T.pw i * c + T.pw i * T.lb (T.dig m) i + T.pw i * T.lb (T.dig n) i := by rw [hs, Nat.mul_add, Nat.mul_add]
    omega
  · have h1 : ¬ i < (T.dig m).length := by omega
    have h2 : ¬ i < (T.dig n).length := by omega
    have h3 : c = 0 := by omega
    subst h3
    rw [T.lv_take_all (by omega), T.lv_take_all (by omega), va, vb] at hv
    have hout : out = T.dig (m + n) := by
      rw [← hv, Nat.mul_zero, Nat.add_zero]
      refine (T.dig_lv hcl ?_).symm
      by_cases h0 : i = 0
      · left; exact List.length_eq_zero_iff.1 (by omega)
      · right
        intro hz
        have := hg (by omega)
        have e4 := T.lv_take_succ hcl (i - 1)
        rw [show i - 1 + 1 = i by omega, T.lv_take_all (by omega)] at e4
        rw [ho] at hz
        rw [hz] at e4
        have l3 := T.lv_lt (out.take (i - 1))
        rw [List.length_take, Nat.min_eq_left (by omega)] at l3
        omega
    have hlen : (T.dig (m + n)).length = i := by rw [← hout, ho]
    have h1' : ¬ (i : Int) < (T.dig m).length := by omega
    have h2' : ¬ (i : Int) < (T.dig n).length := by omega
    subst hout
    rw [ho]
    exact .inr ⟨.exit 0, _, _, by simp (disch := omega) [dendronref01_Plus.b0, h1, h2, h1', h2'] <;> first | rfl | exact ⟨rfl, rfl⟩, by simp, i, rfl, rfl, rfl⟩
theorem plus1_ev (m n L : Nat) (hm : (T.dig m).length ≤ L) (hn : (T.dig n).length ≤ L) (hL : L ≤ 1099511627775) : EX ip nv (.call F.dendronref01_Plus [.d (.sl 1 (el (T.dig m))), .d (.sl 1 (el (T.dig n)))] []) = some (.ret (.d (.sl 1 (el (T.dig (m + n))))) []) := by
  rw [S_call dendronref01_Plus.ip rfl]
  obtain ⟨_, _, _, hr, -, i, rfl, rfl, rfl⟩ := plus1_loop (nv := nv) m n L hm hn hL
  generalize T.dig (m + n) = a at *
  simp (disch := first | omega | simp) [dendronref01_Plus, hr]
theorem minus1_loop (a b : List Nat) (ha : T.Cl a) (hb : T.Cl b) (hs : a.length ≤ 1099511627776) (hs' : b.length ≤ a.length) (hv : T.lv b ≤ T.lv a) : ∃ x e μ, EX ip nv (.code (.loop [] [] dendronref01_Minus.b0) [(0, .d (.sl 1 (el a))), (1, .d (.sl 1 (el b))), (5, .own 5 1 0 0), (6, .d (.int .i64 0)), (7, .d (.int .i64 0))] [(5, ⟨0, false, []⟩)]) = some (.st x e μ) ∧ x ≠ .normal ∧
    ∃ (out : List Nat) (c : Nat), x = .exit 0 ∧ e = [(0, .d (.sl 1 (el a))), (1, .d (.sl 1 (el b))), (5, .own 5 1 0 out.length), (6, .d (.int .i64 (c : Int))), (7, .d (.int .i64 (a.length : Int))), (12, .d (.bool false))] ∧ μ = [(5, ⟨0, false, el out⟩)] ∧ out.length = a.length ∧ T.Cl out ∧ T.lv out = T.lv a - T.lv b := by
  refine loop_n a.length (fun i e μ => ∃ (out : List Nat) (c : Nat), e = [(0, .d (.sl 1 (el a))), (1, .d (.sl 1 (el b))), (5, .own 5 1 0 out.length), (6, .d (.int .i64 (c : Int))), (7, .d (.int .i64 (i : Int)))] ∧ μ = [(5, ⟨0, false, el out⟩)] ∧ out.length = i ∧ T.Cl out ∧ c ≤ 1 ∧ T.lv out + T.lv (b.take i) = T.lv (a.take i) + T.pw i * c) ?_ ?_ ⟨[], 0, rfl, rfl, rfl, T.Cl.nil, by omega, by simp [T.lv]⟩
  · rintro i e μ hi ⟨out, c, rfl, rfl, hlen, hc, hc1, hv⟩
    left
    have hi' : (i : Int) < a.length := by omega
    have l1 := T.lb_lt ha i
    have l2 := T.lb_lt hb i
    have e2 := digit1_ev (nv := nv) b i (by omega) (by omega)
    have ea := T.lv_take_succ ha i
    have eb := T.lv_take_succ hb i
    have e4 : T.pw (i + 1) = T.pw i * 10000 := by rw [T.pw_succ, Nat.mul_comm]
    by_cases hn : T.lb a i < T.lb b i + c
    · obtain ⟨s, hs⟩ : ∃ s : Nat, s = 10000 + T.lb a i - T.lb b i - c := ⟨_, rfl⟩
      have k1 : ((T.lb a i : Nat) : Int) - ((T.lb b i : Nat) : Int) - (c : Int) < 0 := by omega
      have k2 : ((T.lb a i : Nat) : Int) - ((T.lb b i : Nat) : Int) - (c : Int) + 10000 = (s : Int) := by omega
      refine ⟨[(0, .d (.sl 1 (el a))), (1, .d (.sl 1 (el b))), (5, .own 5 1 0 (out ++ [s]).length), (6, .d (.int .i64 ((1 : Nat) : Int))), (7, .d (.int .i64 ((i + 1 : Nat) : Int)))], [(5, ⟨0, false, el (out ++ [s])⟩)], ?_, _, _, rfl, rfl, by simp [hlen], T.Cl.append.2 ⟨hc, T.Cl.one (by omega)⟩, by omega, ?_⟩
      · clear ea eb hv e4
        generalize T.lb b i = y at *
        have hx : ix a i = T.lb a i := rfl
        generalize T.lb a i = x at *
        simp (disch := omega) [dendronref01_Minus.b0, hi, hi', e2, hx, k1, k2]
      · rw [T.lv_append, T.lv_one (by omega), hlen, ea, eb, e4, Nat.mul_one]
        have e3 : T.pw i * s + T.pw i * T.lb b i + T.pw i * c = T.pw i * 10000 + T.pw i * T.lb a i := by
          rw [← Nat.mul_add, ← Nat.mul_add, ← Nat.mul_add]
          congr 1
          omega
        omega
    · obtain ⟨s, hs⟩ : ∃ s : Nat, s = T.lb a i - T.lb b i - c := ⟨_, rfl⟩
      have k1 : ¬ ((T.lb a i : Nat) : Int) - ((T.lb b i : Nat) : Int) - (c : Int) < 0 := by omega
      have k2 : ((T.lb a i : Nat) : Int) - ((T.lb b i : Nat) : Int) - (c : Int) = (s : Int) := by omega
      have k3 : ¬ (s : Int) < 0 := by omega
      refine ⟨[(0, .d (.sl 1 (el a))), (1, .d (.sl 1 (el b))), (5, .own 5 1 0 (out ++ [s]).length), (6, .d (.int .i64 ((0 : Nat) : Int))), (7, .d (.int .i64 ((i + 1 : Nat) : Int)))], [(5, ⟨0, false, el (out ++ [s])⟩)], ?_, _, _, rfl, rfl, by simp [hlen], T.Cl.append.2 ⟨hc, T.Cl.one (by omega)⟩, by omega, ?_⟩
      · clear ea eb hv e4
        generalize T.lb b i = y at *
        have hx : ix a i = T.lb a i := rfl
        generalize T.lb a i = x at *
        simp (disch := omega) [dendronref01_Minus.b0, hi, hi', e2, hx, k1, k2, k3]
      · rw [T.lv_append, T.lv_one (by omega), hlen, ea, eb, Nat.mul_zero]
        have e3 : T.pw i * s + T.pw i * T.lb b i + T.pw i * c = T.pw i * T.lb a i := by
          rw [← Nat.mul_add, ← Nat.mul_add]
          congr 1
          omega
        omega
  · rintro e μ ⟨out, c, rfl, rfl, hlen, hc, hc1, hv'⟩
    refine ⟨.exit 0, _, _, by simp [dendronref01_Minus.b0] <;> first | rfl | exact ⟨rfl, rfl⟩, by simp, out, c, rfl, rfl, rfl, hlen, hc, ?_⟩
    rw [T.lv_take_all (by omega), T.lv_take_all (by omega)] at hv'
    have h1 := T.lv_lt out
    rw [hlen] at h1
    have h6 : c = 0 ∨ c = 1 := by omega
    rcases h6 with rfl | rfl <;> omega
theorem minus1_ev (m n : Nat) (h : n ≤ m) (hm : (T.dig m).length ≤ 1099511627776) : EX ip nv (.call F.dendronref01_Minus [.d (.sl 1 (el (T.dig m))), .d (.sl 1 (el (T.dig n)))] []) = some (.ret (.d (.sl 1 (el (T.dig (m - n))))) []) := by
  rw [S_call dendronref01_Minus.ip rfl]
  obtain ⟨_, _, _, hr, -, out, c, rfl, rfl, rfl, hlen, hc, hv⟩ := minus1_loop (nv := nv) (T.dig m) (T.dig n) (T.dig_cl _) (T.dig_cl _) hm (T.dig_len_mono h) (by rw [T.lv_dig, T.lv_dig]; exact h)
  rw [T.lv_dig, T.lv_dig] at hv
  have ht := trim1_ev (nv := nv) out (by omega) hc
  rw [hv] at ht
  simp (disch := omega) [dendronref01_Minus, hr, ht]
end
end Go.Proofs.YtgigaimaaijalaaGreatDoor
