/- dendronlaw15.Shapley: what each gets, by all sets, as that statement's own program sums it. -/
import Derived.Test.YtgigaimaaijalaaGreatDoorGs
import Derived.Test.YtgigaimaaijalaaGreatDoorZz
set_option linter.unusedSimpArgs false
set_option linter.unusedVariables false
namespace Go.Proofs.YtgigaimaaijalaaGreatDoor
open Go Go.Proofs.R
set_option maxRecDepth 10000
section
variable {nv : R.Nv}
theorem in15_ev (s i : Nat) (hs : s < 9223372036854775808) (hi : i ≤ 1000000) : EX ip nv (.call F.dendronlaw15_in [.d (.int .i64 (s : Int)), .d (.int .i64 (i : Int))] []) = some (.ret (.d (.bool (s.testBit i))) []) := by
  rw [S_call dendronlaw15_in.ip rfl]
  obtain ⟨_, _, _, hr, -, rfl, rfl, rfl⟩ : ∃ z e μ, EX ip nv (.code (.loop [] [] dendronlaw15_in.b0) [(0, .d (.int .i64 (s : Int))), (1, .d (.int .i64 (i : Int))), (5, .d (.int .i64 0))] []) = some (.st z e μ) ∧ z ≠ .normal ∧
      z = .exit 0 ∧ e = [(0, .d (.int .i64 ((s / 2 ^ i : Nat) : Int))), (1, .d (.int .i64 (i : Int))), (5, .d (.int .i64 (i : Int))), (8, .d (.bool false))] ∧ μ = [] := by
    refine loop_n i (fun k e μ => ∃ m : Nat, m = s / 2 ^ k ∧ e = [(0, .d (.int .i64 (m : Int))), (1, .d (.int .i64 (i : Int))), (5, .d (.int .i64 (k : Int)))] ∧ μ = []) ?_ ?_ ⟨s, by simp, rfl, rfl⟩
    · rintro k e μ hk ⟨m, hm, rfl, rfl⟩
      have hle : m ≤ s := by rw [hm]; exact Nat.div_le_self _ _
      refine .inl ⟨_, _, ?_, m / 2, by rw [hm, Nat.div_div_eq_div_mul, Nat.pow_succ], rfl, rfl⟩
      have e3 : IntKind.i64.wrap ((m : Int) / 2) = ((m / 2 : Nat) : Int) := by rw [i64_wrap (by omega) (by omega)]; omega
      clear hm
      generalize m / 2 = q at *
      simp (disch := omega) [dendronlaw15_in.b0, hk, e3]
    · rintro e μ ⟨m, hm, rfl, rfl⟩
      subst hm
      exact ⟨.exit 0, _, [], by simp [dendronlaw15_in.b0] <;> rfl, by simp, rfl, rfl, rfl⟩
  rw [Nat.testBit_eq_decide_div_mod_eq]
  generalize s / 2 ^ i = m at *
  have e4 := tmod2 m
  have e5 : ((m % 2 : Nat) : Int) = 1 ↔ m % 2 = 1 := by omega
  generalize m % 2 = q at *
  simp (disch := omega) [dendronlaw15_in, hr, e4, e5]
theorem two15_ev (n : Nat) (hn : n ≤ 12) : EX ip nv (.call F.dendronlaw15_two [.d (.int .i64 (n : Int))] []) = some (.ret (.d (.int .i64 ((2 ^ n : Nat) : Int))) []) := by
  rw [S_call dendronlaw15_two.ip rfl]
  obtain ⟨_, _, _, hr, -, rfl, rfl, rfl⟩ : ∃ z e μ, EX ip nv (.code (.loop [] [] dendronlaw15_two.b0) [(0, .d (.int .i64 (n : Int))), (3, .d (.int .i64 1)), (4, .d (.int .i64 0))] []) = some (.st z e μ) ∧ z ≠ .normal ∧
      z = .exit 0 ∧ e = [(0, .d (.int .i64 (n : Int))), (3, .d (.int .i64 ((2 ^ n : Nat) : Int))), (4, .d (.int .i64 (n : Int))), (7, .d (.bool false))] ∧ μ = [] := by
    refine loop_n n (fun i e μ => ∃ m : Nat, m = 2 ^ i ∧ e = [(0, .d (.int .i64 (n : Int))), (3, .d (.int .i64 (m : Int))), (4, .d (.int .i64 (i : Int)))] ∧ μ = []) ?_ ?_ ⟨1, rfl, rfl, rfl⟩
    · rintro i e μ hi ⟨m, hm, rfl, rfl⟩
      have hp : 2 ^ i ≤ 2 ^ 12 := Nat.pow_le_pow_right (by decide) (by omega)
      refine .inl ⟨_, _, ?_, 2 * m, by rw [hm, Nat.pow_succ, Nat.mul_comm], rfl, rfl⟩
      have e3 : IntKind.i64.wrap (2 * (m : Int)) = 2 * (m : Int) := i64_wrap (by omega) (by omega)
      simp (disch := omega) [dendronlaw15_two.b0, hi, e3]
    · rintro e μ ⟨m, hm, rfl, rfl⟩
      subst hm
      exact ⟨.exit 0, _, [], by simp [dendronlaw15_two.b0] <;> rfl, by simp, rfl, rfl, rfl⟩
  generalize 2 ^ n = m at *
  simp (disch := omega) [dendronlaw15_two, hr]
theorem size15_ev (s n : Nat) (hs : s < 1000000) (hn : n ≤ 12) : EX ip nv (.call F.dendronlaw15_size [.d (.int .i64 (s : Int)), .d (.int .i64 (n : Int))] []) = some (.ret (.d (.int .i64 (cntN s n : Nat))) []) := by
  rw [S_call dendronlaw15_size.ip rfl]
  obtain ⟨_, _, _, hr, -, rfl, rfl, rfl⟩ : ∃ z e μ, EX ip nv (.code (.loop [] [] dendronlaw15_size.b0) [(0, .d (.int .i64 (s : Int))), (1, .d (.int .i64 (n : Int))), (5, .d (.int .i64 0)), (6, .d (.int .i64 0))] []) = some (.st z e μ) ∧ z ≠ .normal ∧
      z = .exit 0 ∧ e = [(0, .d (.int .i64 (s : Int))), (1, .d (.int .i64 (n : Int))), (5, .d (.int .i64 (cntN s n : Nat))), (6, .d (.int .i64 (n : Int))), (9, .d (.bool false))] ∧ μ = [] := by
    refine loop_n n (fun i e μ => ∃ m : Nat, m = cntN s i ∧ e = [(0, .d (.int .i64 (s : Int))), (1, .d (.int .i64 (n : Int))), (5, .d (.int .i64 (m : Int))), (6, .d (.int .i64 (i : Int)))] ∧ μ = []) ?_ ?_ ⟨0, rfl, rfl, rfl⟩
    · rintro i e μ hi ⟨m, hm, rfl, rfl⟩
      have hle := cntN_le s i
      have nn := in15_ev (nv := nv) s i (by omega) (by omega)
      have e1 := cntN_succ s i
      refine .inl ⟨_, _, ?_, m + (if s.testBit i then 1 else 0), by rw [hm, e1], rfl, rfl⟩
      rw [← hm] at hle
      clear hm e1
      cases c : s.testBit i
      · rw [c] at nn
        simp (disch := omega) [dendronlaw15_size.b0, hi, nn]
      · rw [c] at nn
        simp (disch := omega) [dendronlaw15_size.b0, hi, nn]
    · rintro e μ ⟨m, hm, rfl, rfl⟩
      subst hm
      exact ⟨.exit 0, _, [], by simp [dendronlaw15_size.b0] <;> rfl, by simp, rfl, rfl, rfl⟩
  generalize cntN s n = m at *
  simp (disch := omega) [dendronlaw15_size, hr]
end
theorem s15_b2 (l : List RQ) (n i K : Nat) (hn : n ≤ 5) (hi : i < n) (hl : l.length = 2 ^ n) (hk : ∀ r ∈ l, r.ok K) (h1 : 1 ≤ K) (hK : K ≤ 100000) (c : List D) (hc : TS c) (a : List D) (m : Nat) :
    ∃ z e μ, EX ip nv1 (.code (.loop [] [] dendronlaw15_Shapley.b2) [(0, .d (.sl 3 (el l))), (1, .d (.int .i64 (n : Int))), (2, .d (.int .i64 (-1))), (3, .d (.bool false)), (9, .ptr 18 0), (10, .d (.int .i64 (n : Int))), (11, .own 11 3 0 m), (12, .d (.int .i64 (i : Int))), (13, .ptr 13 0), (14, .d (.int .i64 0))] [(11, ⟨0, false, a⟩), (13, ⟨0, true, (can 0).c⟩), (18, ⟨0, false, c⟩)]) = some (.st z e μ) ∧ z ≠ .normal ∧
    ∃ c', TS c' ∧ z = .exit 2 ∧ e = [(0, .d (.sl 3 (el l))), (1, .d (.int .i64 (n : Int))), (2, .d (.int .i64 (-1))), (3, .d (.bool false)), (9, .ptr 18 0), (10, .d (.int .i64 (n : Int))), (11, .own 11 3 0 m), (12, .d (.int .i64 (i : Int))), (13, .ptr 13 0), (14, .d (.int .i64 ((2 ^ n : Nat) : Int))), (38, .d (.bool false))] ∧ μ = [(11, ⟨0, false, a⟩), (13, ⟨0, true, (can (shV (gv l) n i)).c⟩), (18, ⟨0, false, c'⟩)] := by
  have hp : 2 ^ n ≤ 2 ^ 5 := Nat.pow_le_pow_right (by decide) hn
  have tn := two15_ev (nv := nv1) n (by omega)
  have ti := two15_ev (nv := nv1) i (by omega)
  refine loop_n (2 ^ n) (fun s e μ => ∃ (q : RQ) (c' : List D), TS c' ∧ q = can (shS (gv l) n i s) ∧ e = [(0, .d (.sl 3 (el l))), (1, .d (.int .i64 (n : Int))), (2, .d (.int .i64 (-1))), (3, .d (.bool false)), (9, .ptr 18 0), (10, .d (.int .i64 (n : Int))), (11, .own 11 3 0 m), (12, .d (.int .i64 (i : Int))), (13, .ptr 13 0), (14, .d (.int .i64 (s : Int)))] ∧ μ = [(11, ⟨0, false, a⟩), (13, ⟨0, true, q.c⟩), (18, ⟨0, false, c'⟩)]) ?_ ?_ ⟨_, c, hc, rfl, rfl, rfl⟩
  · rintro s e μ hs ⟨q, c', hc', hq, rfl, rfl⟩
    have hvb : ∀ s, s < 2 ^ n → Bq K (gv l s) := fun s hs => gv_b hk h1 (by omega)
    have hs32 : s < 32 := by omega
    have nn := in15_ev (nv := nv1) s i (by omega) (by omega)
    have hi0 : ¬ (i : Int) = -1 := by omega
    cases tb' : s.testBit i
    · rw [tb'] at nn
      obtain ⟨f1, f2, f3, f4⟩ := set_facts ⟨n, by omega⟩ ⟨i, by omega⟩ ⟨s, by omega⟩ hi (by simp only; omega) tb'
      simp only at f1 f2 f3 f4
      have sz := size15_ev (nv := nv1) s n (by omega) (by omega)
      rw [f2] at sz
      have wt := weightT_ev hc' (cntN s 5) n f1 (by omega)
      have wb := wq_b (a := cntN s 5) (b := n - cntN s 5 - 1) (c := n) (by omega) (by omega) (by omega)
      have hd := (hvb _ f4).sub (hvb s (by omega))
      have sb : EX ip nv1 (.call F.ratio_Sub [.d (.ag (ix l (s + 2 ^ i)).c), .d (.ag (ix l s).c)] []) = some (.ret (.d (.ag (can (gv l (s + 2 ^ i) - gv l s)).c)) []) := rsub_ev tzOk1 (ix l (s + 2 ^ i)) (ix l s) (ixq_ok hk (by omega)) (ixq_ok hk (by omega)) h1 h1 (by omega)
      have ml := rmul_ev tzOk1 (can (wq (cntN s 5) (n - cntN s 5 - 1) n)) (can (gv l (s + 2 ^ i) - gv l s)) (can_ok wb) (can_ok hd) (by omega) (by omega) (by omega)
      have sB := shS_b hn hvb hi s (by omega)
      have hle : (2 * K + 22) * s ≤ (2 * K + 22) * 32 := Nat.mul_le_mul_left _ (by omega)
      have ad := radd_ev tzOk1 (can (shS (gv l) n i s)) (can (wq (cntN s 5) (n - cntN s 5 - 1) n * (gv l (s + 2 ^ i) - gv l s))) (can_ok sB) (can_ok (wb.mul hd)) (by omega) (by omega) (by omega)
      rw [can_v, can_v] at ml ad
      have e1 : shS (gv l) n i (s + 1) = shS (gv l) n i s + wq (cntN s 5) (n - cntN s 5 - 1) n * (gv l (s + 2 ^ i) - gv l s) := by rw [shS, tb']; rfl
      rw [← e1, ← hq] at ad
      have f4' : s + 2 ^ i < l.length := by omega
      have hsl : s < l.length := by omega
      have f5 : s + 2 ^ i < 32 := by omega
      refine .inl ⟨_, _, ?_, can (shS (gv l) n i (s + 1)), c1, .inr rfl, rfl, rfl, rfl⟩
      clear tb' hq hvb e1 sB wb hd f2 hle f4 f3 hl
      generalize can (shS (gv l) n i (s + 1)) = p1 at *
      generalize can (wq (cntN s 5) (n - cntN s 5 - 1) n * (gv l (s + 2 ^ i) - gv l s)) = p2 at *
      generalize can (wq (cntN s 5) (n - cntN s 5 - 1) n) = p3 at *
      generalize can (gv l (s + 2 ^ i) - gv l s) = p4 at *
      generalize cntN s 5 = cn at *
      generalize c1 = co at *
      generalize 2 ^ n = tt at *
      generalize ht : 2 ^ i = t2 at *
      have e2 : (s : Int) + (t2 : Int) = ((s + t2 : Nat) : Int) := by simp
      generalize s + t2 = t at *
      simp (disch := omega) [dendronlaw15_Shapley.b2, hs, hi0, tn, ti, nn, sz, wt, sb, ml, ad, e2, f4', hsl, f1, -vIA_o]
    · rw [tb'] at nn
      refine .inl ⟨_, _, ?_, q, c', hc', by rw [shS, if_pos tb', hq], rfl, rfl⟩
      clear hq hvb tb' hl
      generalize 2 ^ n = tt at *
      simp (disch := omega) [dendronlaw15_Shapley.b2, hs, hi0, tn, nn]
  · rintro e μ ⟨q, c', hc', hq, rfl, rfl⟩
    subst hq
    refine ⟨.exit 2, _, _, ?_, by simp, c', hc', rfl, rfl, rfl⟩
    have e1 : shV (gv l) n i = shS (gv l) n i (2 ^ n) := rfl
    rw [e1]
    generalize shS (gv l) n i (2 ^ n) = qq at *
    clear hl
    generalize 2 ^ n = tt at *
    simp (disch := omega) [dendronlaw15_Shapley.b2, tn] <;> first | rfl | exact ⟨rfl, rfl⟩
theorem s15_ev (l : List RQ) (n K : Nat) (hn : n ≤ 5) (hl : l.length = 2 ^ n) (hk : ∀ r ∈ l, r.ok K) (h1 : 1 ≤ K) (hK : K ≤ 100000) : EX ip nv1 (.call F.dendronlaw15_Shapley [.d (.sl 3 (el l)), .d (.int .i64 (n : Int)), .d (.int .i64 (-1)), .d (.bool false)] []) = some (.ret (.d (.sl 3 (el (shL l n)))) []) := by
  rw [S_call dendronlaw15_Shapley.ip rfl]
  have nw := new_ev
  obtain ⟨_, _, _, hr, -, c', -, rfl, rfl, rfl⟩ : ∃ z e μ, EX ip nv1 (.code (.loop [] [] dendronlaw15_Shapley.b0) [(0, .d (.sl 3 (el l))), (1, .d (.int .i64 (n : Int))), (2, .d (.int .i64 (-1))), (3, .d (.bool false)), (9, .ptr 18 0), (10, .d (.int .i64 (n : Int))), (11, .own 11 3 0 0), (12, .d (.int .i64 0))] [(11, ⟨0, false, []⟩), (18, ⟨0, false, c0⟩)]) = some (.st z e μ) ∧ z ≠ .normal ∧
      ∃ c', TS c' ∧ z = .exit 0 ∧ e = [(0, .d (.sl 3 (el l))), (1, .d (.int .i64 (n : Int))), (2, .d (.int .i64 (-1))), (3, .d (.bool false)), (9, .ptr 18 0), (10, .d (.int .i64 (n : Int))), (11, .own 11 3 0 n), (12, .d (.int .i64 (n : Int))), (26, .d (.bool false))] ∧ μ = [(11, ⟨0, false, el (shL l n)⟩), (18, ⟨0, false, c'⟩)] := by
    refine loop_n n (fun i e μ => ∃ (a : List RQ) (c' : List D), TS c' ∧ a = tb i (fun i => can (shV (gv l) n i)) ∧ e = [(0, .d (.sl 3 (el l))), (1, .d (.int .i64 (n : Int))), (2, .d (.int .i64 (-1))), (3, .d (.bool false)), (9, .ptr 18 0), (10, .d (.int .i64 (n : Int))), (11, .own 11 3 0 a.length), (12, .d (.int .i64 (i : Int)))] ∧ μ = [(11, ⟨0, false, el a⟩), (18, ⟨0, false, c'⟩)]) ?_ ?_ ⟨[], c0, .inl rfl, rfl, rfl, rfl⟩
    · rintro i e μ hi ⟨a, c', hc', ha, rfl, rfl⟩
      have hal : a.length = i := by rw [ha]; simp
      have z := zero_ev (nv := nv1)
      obtain ⟨_, _, _, hr, -, c2, hc2, rfl, rfl, rfl⟩ := s15_b2 l n i K hn hi hl hk h1 hK c' hc' (el a) a.length
      refine .inl ⟨_, _, ?_, a ++ [can (shV (gv l) n i)], c2, hc2, by rw [ha, tb_succ], rfl, rfl⟩
      clear ha
      generalize can (shV (gv l) n i) = q at *
      generalize can 0 = q0 at *
      generalize 2 ^ n = tt at *
      simp (disch := omega) [dendronlaw15_Shapley.b0, hi, z, hr]
    · rintro e μ ⟨a, c', hc', ha, rfl, rfl⟩
      have hal : a.length = n := by rw [ha]; simp
      rw [hal]
      exact ⟨.exit 0, _, _, by simp [dendronlaw15_Shapley.b0] <;> first | rfl | exact ⟨rfl, rfl⟩, by simp, c', hc', rfl, rfl, by rw [ha]; rfl⟩
  have hsl : (shL l n).length = n := by simp [shL]
  generalize shL l n = a at *
  generalize c0 = cz at *
  simp (disch := omega) [dendronlaw15_Shapley, nw, hr, hsl]
end Go.Proofs.YtgigaimaaijalaaGreatDoor
