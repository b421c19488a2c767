/- GamePairs: what two players add together: game.Pairs. -/
import Derived.Test.YtgigaimaaijalaaGreatDoorGk
set_option linter.unusedSimpArgs false
set_option linter.unusedVariables false
namespace Go.Proofs.YtgigaimaaijalaaGreatDoor
open Go Go.Proofs.R
set_option maxRecDepth 10000
theorem quotT_h {c : List D} (h : TS c) (x y z : Nat) (hx : x ≤ 64) (hy : y ≤ 64) (hz : z ≤ 64) {H : Mem} (hp : Hp H) : EX ip nv1 (.call F.dendron_weigh_Table_quotient [.ptr 0 0, .d (.int .i64 (x : Int)), .d (.int .i64 (y : Int)), .d (.int .i64 (z : Int))] ((0, ⟨0, true, c⟩) :: H)) = some (.ret (.d (.ag (can (wq x y z)).c)) ((0, ⟨0, true, c1⟩) :: H)) := by
  rw [S_call dendron_weigh_Table_quotient.ip rfl]
  have a1 := at_h h x hx H
  have a2 := at_h (.inr rfl) y hy H
  have a3 := at_h (.inr rfl) z hz H
  have ml := wmul_z (nv := nv1) ((fac x : Nat) : Int) ((fac y : Nat) : Int) (Nat.le_trans (fac_len' hx) (by decide)) (Nat.le_trans (fac_len' hy) (by decide))
  have mk : EX ip nv1 (.call F.ratio_Make [.d (.ag (zI (((fac x : Nat) : Int) * ((fac y : Nat) : Int)))), .d (.ag (zI ((fac z : Nat) : Int)))] []) = some (.ret (.tp [.d (.ag (can (wq x y z)).c), .d (.int .i64 0)]) []) := by
    have := rmake_c tzOk1 (((fac x : Nat) : Int) * ((fac y : Nat) : Int)) ((fac z : Nat) : Int) (k := 20) (by
      rw [Int.natAbs_mul, Int.natAbs_natCast, Int.natAbs_natCast]
      exact dig_len_le.2 (pw_mul_lt (j := 10) (k := 10) (fac_pw hx) (fac_pw hy))) (Nat.le_trans (fac_len' hz) (by decide)) (by decide)
    rw [if_neg (by have := fac_pos z; omega)] at this
    exact this
  have m0 := nrefL_zI (((fac x : Nat) : Int) * ((fac y : Nat) : Int))
  have m1 := nrefL_zI ((fac x : Nat) : Int)
  have m2 := nrefL_zI ((fac y : Nat) : Int)
  have m3 := nrefL_zI ((fac z : Nat) : Int)
  generalize can (wq x y z) = q at *
  generalize zI (((fac x : Nat) : Int) * ((fac y : Nat) : Int)) = p at *
  generalize zI ((fac x : Nat) : Int) = p1 at *
  generalize zI ((fac y : Nat) : Int) = p2 at *
  generalize zI ((fac z : Nat) : Int) = p3 at *
  generalize c1 = cc at *
  simp (disch := omega) [dendron_weigh_Table_quotient, a1, a2, a3, ml, mk, hpart_cons, npart_cons, hp.hpart, hp.npart, hp.aget, hp.aput, hp.adel, hp.keeps, m0, m1, m2, m3, nref]
/-- A pair's weight. -/
def wp (s n : Nat) : Rat := wq s (n - s - 2) (n - 1) * Rat.divInt 1 2
theorem half_b : Bq 1 (Rat.divInt 1 2) := Bq.divI' (by simp [pw]) (by simp [pw]) (by omega)
theorem wp_b {s n : Nat} (hs : s + 2 ≤ n) (hn : n ≤ 64) : Bq 21 (wp s n) := (wq_b (by omega) (by omega) (by omega)).mul half_b
theorem pairT_h {c : List D} (h : TS c) (s n : Nat) (hs : s + 2 ≤ n) (hn : n ≤ 64) {H : Mem} (hp : Hp H) : EX ip nv1 (.call F.dendron_weigh_Table_Pair [.ptr 0 0, .d (.int .i64 (s : Int)), .d (.int .i64 (n : Int))] ((0, ⟨0, true, c⟩) :: H)) = some (.ret (.tp [.d (.ag (can (wp s n)).c), .d (.int .i64 0)]) ((0, ⟨0, true, c1⟩) :: H)) := by
  rw [S_call dendron_weigh_Table_Pair.ip rfl]
  have a1 := quotT_h h s (n - s - 2) (n - 1) (by omega) (by omega) (by omega) hp
  have f := rfrac_ev tzOk1 1 2 (by omega) (by omega) (by omega) (by omega)
  have mm := rmul_ev tzOk1 (can (wq s (n - s - 2) (n - 1))) (can (Rat.divInt 1 2)) (can_ok (wq_b (by omega) (by omega) (by omega))) (can_ok half_b) (by omega) (by omega) (by omega)
  rw [can_v, can_v] at mm
  have e0 : wq s (n - s - 2) (n - 1) * Rat.divInt 1 2 = wp s n := rfl
  rw [e0] at mm
  have e1 : (n : Int) - (s : Int) - 2 = ((n - s - 2 : Nat) : Int) := by omega
  have e2 : (n : Int) - 1 = ((n - 1 : Nat) : Int) := by omega
  have h1 : ¬ (n : Int) < 2 := by omega
  have h2 : ¬ 64 < (n : Int) := by omega
  have h3 : ¬ (s : Int) < 0 := by omega
  have h4 : ¬ (n : Int) - 2 < (s : Int) := by omega
  clear e0
  generalize can (wq s (n - s - 2) (n - 1)) = q at *
  generalize can (wp s n) = q2 at *
  generalize can (Rat.divInt 1 2) = q3 at *
  generalize n - s - 2 = m at *
  generalize n - 1 = m' at *
  generalize c1 = cc at *
  simp (disch := omega) [dendron_weigh_Table_Pair, h1, h2, h3, h4, a1, e1, e2, f, mm, hpart_cons, npart_cons, hp.hpart, hp.npart, hp.aget, hp.aput, hp.adel, hp.keeps]
theorem pairT_ev {c : List D} (h : TS c) (s n : Nat) (hs : s + 2 ≤ n) (hn : n ≤ 64) : EX ip nv1 (.call F.dendron_weigh_Table_Pair [.ptr 0 0, .d (.int .i64 (s : Int)), .d (.int .i64 (n : Int))] [(0, ⟨0, true, c⟩)]) = some (.ret (.tp [.d (.ag (can (wp s n)).c), .d (.int .i64 0)]) [(0, ⟨0, true, c1⟩)]) := pairT_h h s n hs hn Hp.nil
theorem set_facts2 : ∀ n : Fin 6, ∀ i k : Fin 5, ∀ s : Fin 32, i.val ≠ k.val → i.val < n.val → k.val < n.val → s.val < 2 ^ n.val → s.val.testBit i.val = false → s.val.testBit k.val = false →
    cntN s.val 5 + 2 ≤ n.val ∧ cntN s.val n.val = cntN s.val 5 ∧ (s.val ||| 2 ^ i.val) ||| 2 ^ k.val = s.val + 2 ^ i.val + 2 ^ k.val ∧ s.val ||| 2 ^ i.val = s.val + 2 ^ i.val ∧ s.val ||| 2 ^ k.val = s.val + 2 ^ k.val ∧ s.val + 2 ^ i.val + 2 ^ k.val < 2 ^ n.val := by decide +kernel
/-- What two players add together to a coalition. -/
def xV (v : Nat → Rat) (s i k : Nat) : Rat := (v (s + 2 ^ i + 2 ^ k) + v s) - (v (s + 2 ^ i) + v (s + 2 ^ k))
/-- All of it, weighed, below a coalition. -/
def pS (v : Nat → Rat) (n i k : Nat) : Nat → Rat
  | 0 => 0
  | s + 1 => if s.testBit i || s.testBit k then pS v n i k s else pS v n i k s + wp (cntN s 5) n * xV v s i k
def pV (v : Nat → Rat) (n i k : Nat) : Rat := pS v n i k (2 ^ n)
theorem xV_b {v : Nat → Rat} {m : Nat} (hv : ∀ s, s < m → Bq 2 (v s)) {s i k : Nat} (h : s + 2 ^ i + 2 ^ k < m) : Bq 11 (xV v s i k) :=
  ((hv _ h).add (hv s (Nat.lt_of_le_of_lt (Nat.le_trans (Nat.le_add_right _ _) (Nat.le_add_right _ _)) h))).sub ((hv _ (Nat.lt_of_le_of_lt (Nat.le_add_right _ _) h)).add (hv _ (Nat.lt_of_le_of_lt (Nat.add_le_add_right (Nat.le_add_right _ _) _) h)))
theorem pS_b {v : Nat → Rat} {n : Nat} (hn : n ≤ 5) (hv : ∀ s, s < 2 ^ n → Bq 2 (v s)) {i k : Nat} (hi : i < n) (hk : k < n) (hik : i ≠ k) : ∀ s, s ≤ 2 ^ n → Bq (1 + 33 * s) (pS v n i k s)
  | 0, _ => Bq.zero
  | s + 1, h => by
    have ih := pS_b hn hv hi hk hik s (by omega)
    have hp : 2 ^ n ≤ 2 ^ 5 := Nat.pow_le_pow_right (by decide) hn
    rw [pS]
    split
    · exact ih.mono (by omega)
    · rename_i hb
      simp only [Bool.or_eq_true, not_or, Bool.not_eq_true] at hb
      obtain ⟨f1, f2, f3, f4, f5, f6⟩ := set_facts2 ⟨n, by omega⟩ ⟨i, by omega⟩ ⟨k, by omega⟩ ⟨s, by omega⟩ hik hi hk (by simp only; omega) hb.1 hb.2
      simp only at f1 f6
      exact (ih.add ((wp_b f1 (by omega)).mul (xV_b hv f6))).mono (by omega)
theorem pV_b {v : Nat → Rat} {n : Nat} (hn : n ≤ 5) (hv : ∀ s, s < 2 ^ n → Bq 2 (v s)) {i k : Nat} (hi : i < n) (hk : k < n) (hik : i ≠ k) : Bq 1057 (pV v n i k) := by
  have hp : 2 ^ n ≤ 2 ^ 5 := Nat.pow_le_pow_right (by decide) hn
  exact (pS_b hn hv hi hk hik _ (Nat.le_refl _)).mono (by omega)
/-- What is left of a player's own, after the pairs with the players below one. -/
def pL (v : Nat → Rat) (n i : Nat) : Nat → Rat
  | 0 => shV v n i
  | k + 1 => if k = i then pL v n i k else pL v n i k - pV v n i k
theorem pL_b {v : Nat → Rat} {n : Nat} (hn : n ≤ 5) (hv : ∀ s, s < 2 ^ n → Bq 2 (v s)) {i : Nat} (hi : i < n) : ∀ k, k ≤ n → Bq (900 + 1100 * k) (pL v n i k)
  | 0, _ => (shV_b hn hv hi).mono (by omega)
  | k + 1, h => by
    have ih := pL_b hn hv hi k (by omega)
    rw [pL]
    split
    · exact ih.mono (by omega)
    · rename_i hne
      exact (ih.sub (pV_b hn hv hi (k := k) (by omega) (fun e => hne e.symm))).mono (by omega)
theorem cross_ev (l : List RQ) (n s i k : Nat) (hn : n ≤ 5) (hl : l.length = 2 ^ n) (hlo : ∀ r ∈ l, r.ok 2) (hi : i < n) (hk : k < n) (hik : i ≠ k) (hs : s < 2 ^ n) (b1 : s.testBit i = false) (b2 : s.testBit k = false) :
    EX ip nv1 (.call F.game_cross [.d (.sl 3 (el l)), .d (.int .i64 (s : Int)), .d (.int .i64 (i : Int)), .d (.int .i64 (k : Int))] []) = some (.ret (.d (.ag (can (xV (gv l) s i k)).c)) []) := by
  rw [S_call game_cross.ip rfl]
  have hp : 2 ^ n ≤ 2 ^ 5 := Nat.pow_le_pow_right (by decide) hn
  obtain ⟨-, -, f3, f4, f5, f6⟩ := set_facts2 ⟨n, by omega⟩ ⟨i, by omega⟩ ⟨k, by omega⟩ ⟨s, by omega⟩ hik hi hk (by simp only; omega) b1 b2
  simp only at f3 f4 f5 f6
  have s1 := i_shl1 (n := i) (by omega)
  have s2 := i_shl1 (n := k) (by omega)
  have o1 := ibits_or (a := s) (b := 2 ^ i) (by omega) (by omega)
  have o2 := ibits_or (a := s) (b := 2 ^ k) (by omega) (by omega)
  have o3 := ibits_or (a := s + 2 ^ i) (b := 2 ^ k) (by omega) (by omega)
  rw [f4] at o1 f3
  rw [f5] at o2
  rw [f3] at o3
  have g1 : s + 2 ^ i + 2 ^ k < l.length := by omega
  have g2 : s + 2 ^ i < l.length := Nat.lt_of_le_of_lt (Nat.le_add_right _ _) g1
  have g3 : s + 2 ^ k < l.length := Nat.lt_of_le_of_lt (Nat.add_le_add_right (Nat.le_add_right _ _) _) g1
  have g4 : s < l.length := by omega
  have hvb : ∀ s, s < l.length → Bq 2 (gv l s) := fun s hs => gv_b hlo (by omega) hs
  have a1 : EX ip nv1 (.call F.ratio_Add [.d (.ag (ix l (s + 2 ^ i + 2 ^ k)).c), .d (.ag (ix l s).c)] []) = some (.ret (.d (.ag (can (gv l (s + 2 ^ i + 2 ^ k) + gv l s)).c)) []) := radd_ev tzOk1 _ _ (ixq_ok hlo g1) (ixq_ok hlo g4) (by omega) (by omega) (by omega)
  have a2 : EX ip nv1 (.call F.ratio_Add [.d (.ag (ix l (s + 2 ^ i)).c), .d (.ag (ix l (s + 2 ^ k)).c)] []) = some (.ret (.d (.ag (can (gv l (s + 2 ^ i) + gv l (s + 2 ^ k))).c)) []) := radd_ev tzOk1 _ _ (ixq_ok hlo g2) (ixq_ok hlo g3) (by omega) (by omega) (by omega)
  have sb := rsub_ev tzOk1 (can (gv l (s + 2 ^ i + 2 ^ k) + gv l s)) (can (gv l (s + 2 ^ i) + gv l (s + 2 ^ k))) (can_ok ((hvb _ g1).add (hvb _ g4))) (can_ok ((hvb _ g2).add (hvb _ g3))) (by omega) (by omega) (by omega)
  rw [can_v, can_v, show gv l (s + 2 ^ i + 2 ^ k) + gv l s - (gv l (s + 2 ^ i) + gv l (s + 2 ^ k)) = xV (gv l) s i k from rfl] at sb
  have hl32 : l.length ≤ 32 := by omega
  clear hvb f3 f4 f5 f6 hl b1 b2
  generalize can (xV (gv l) s i k) = q at *
  generalize can (gv l (s + 2 ^ i + 2 ^ k) + gv l s) = q1 at *
  generalize can (gv l (s + 2 ^ i) + gv l (s + 2 ^ k)) = q2 at *
  generalize s + 2 ^ i + 2 ^ k = t1 at *
  generalize s + 2 ^ i = t2 at *
  generalize s + 2 ^ k = t3 at *
  generalize 2 ^ i = p1 at *
  generalize 2 ^ k = p2 at *
  simp (disch := omega) [game_cross, s1, s2, o1, o2, o3, g1, g2, g3, g4, a1, a2, sb, -vBin_shl]
theorem pr_b4 (l : List RQ) (n i k : Nat) (hn : n ≤ 5) (hi : i < n) (hk : k < n) (hik : i ≠ k) (hl : l.length = 2 ^ n) (hlo : ∀ r ∈ l, r.ok 2) (sh : List RQ) {H : Mem} (hp : Hp H) (c : List D) (hc : TS c) :
    ∃ z e μ, EX ip nv1 (.code (.loop [] [] game_Pairs.b4) [(0, .d (.sl 3 (el l))), (4, .d (.int .i64 (n : Int))), (6, .d (.sl 3 (el sh))), (8, .ptr 28 0), (9, .own 1099511627776 1 0 n), (10, .d (.int .i64 (i : Int))), (11, .d (.int .i64 (k : Int))), (12, .ptr 12 0), (31, .d (.int .i64 (n : Int))), (32, .d (.int .i64 (i : Int))), (50, .d (.int .i64 (n : Int))), (51, .d (.int .i64 (k : Int))), (59, .d (.int .i64 (l.length : Int))), (60, .d (.int .i64 0))] ((12, ⟨0, true, (can 0).c⟩) :: (28, ⟨0, false, c⟩) :: H)) = some (.st z e μ) ∧ z ≠ .normal ∧
      ∃ c', TS c' ∧ z = .exit 4 ∧ e = [(0, .d (.sl 3 (el l))), (4, .d (.int .i64 (n : Int))), (6, .d (.sl 3 (el sh))), (8, .ptr 28 0), (9, .own 1099511627776 1 0 n), (10, .d (.int .i64 (i : Int))), (11, .d (.int .i64 (k : Int))), (12, .ptr 12 0), (31, .d (.int .i64 (n : Int))), (32, .d (.int .i64 (i : Int))), (50, .d (.int .i64 (n : Int))), (51, .d (.int .i64 (k : Int))), (59, .d (.int .i64 (l.length : Int))), (60, .d (.int .i64 (l.length : Int))), (61, .d (.bool false))] ∧ μ = (12, ⟨0, true, (can (pV (gv l) n i k)).c⟩) :: (28, ⟨0, false, c'⟩) :: H := by
  have hp5 : 2 ^ n ≤ 2 ^ 5 := Nat.pow_le_pow_right (by decide) hn
  refine loop_n l.length (fun s e μ => ∃ (q : RQ) (c' : List D), TS c' ∧ q = can (pS (gv l) n i k s) ∧ e = [(0, .d (.sl 3 (el l))), (4, .d (.int .i64 (n : Int))), (6, .d (.sl 3 (el sh))), (8, .ptr 28 0), (9, .own 1099511627776 1 0 n), (10, .d (.int .i64 (i : Int))), (11, .d (.int .i64 (k : Int))), (12, .ptr 12 0), (31, .d (.int .i64 (n : Int))), (32, .d (.int .i64 (i : Int))), (50, .d (.int .i64 (n : Int))), (51, .d (.int .i64 (k : Int))), (59, .d (.int .i64 (l.length : Int))), (60, .d (.int .i64 (s : Int)))] ∧ μ = (12, ⟨0, true, q.c⟩) :: (28, ⟨0, false, c'⟩) :: H) ?_ ?_ ⟨_, c, hc, rfl, rfl, rfl⟩
  · rintro s e μ hs ⟨q, c', hc', hq, rfl, rfl⟩
    have hs32 : s < 32 := by omega
    have hl32 : l.length ≤ 32 := by omega
    have sh1 := i_shrN (s := s) (i := i) (by omega) (by omega)
    have ha1 := ibits_and (a := s / 2 ^ i) (b := 1) (by have := Nat.div_le_self s (2 ^ i); omega) (by omega)
    rw [show s / 2 ^ i &&& 1 = s / 2 ^ i % 2 from Nat.and_one_is_mod _] at ha1
    have tb1 : s.testBit i = decide (s / 2 ^ i % 2 = 1) := Nat.testBit_eq_decide_div_mod_eq
    have sh2 := i_shrN (s := s) (i := k) (by omega) (by omega)
    have ha2 := ibits_and (a := s / 2 ^ k) (b := 1) (by have := Nat.div_le_self s (2 ^ k); omega) (by omega)
    rw [show s / 2 ^ k &&& 1 = s / 2 ^ k % 2 from Nat.and_one_is_mod _] at ha2
    have tb2 : s.testBit k = decide (s / 2 ^ k % 2 = 1) := Nat.testBit_eq_decide_div_mod_eq
    by_cases b1 : s / 2 ^ i % 2 = 1
    · have tb' : s.testBit i = true := by rw [tb1]; simpa using b1
      rw [b1] at ha1
      refine .inl ⟨_, _, ?_, q, c', hc', by rw [pS, tb', Bool.true_or, if_pos rfl, hq], rfl, rfl⟩
      clear tb1 tb2 tb' hq hp5 hl ha2 sh2
      generalize s / 2 ^ i = d at *
      have ha' : bitsD .and .i64 (d : Int) 1 = 1 := ha1
      simp (disch := omega) [game_Pairs.b4, hs, sh1, ha', -vBin_shr, hp.aget, hp.aput, hp.adel]
    · have tb' : s.testBit i = false := by rw [tb1]; simpa using b1
      have c0 : s / 2 ^ i % 2 = 0 := by omega
      rw [c0] at ha1
      by_cases b2 : s / 2 ^ k % 2 = 1
      · have tb'' : s.testBit k = true := by rw [tb2]; simpa using b2
        rw [b2] at ha2
        refine .inl ⟨_, _, ?_, q, c', hc', by rw [pS, tb'', Bool.or_true, if_pos rfl, hq], rfl, rfl⟩
        clear tb1 tb2 tb' tb'' hq hp5 hl
        generalize s / 2 ^ i = d at *
        generalize s / 2 ^ k = d2 at *
        have ha' : bitsD .and .i64 (d : Int) 1 = 0 := ha1
        have ha'' : bitsD .and .i64 (d2 : Int) 1 = 1 := ha2
        simp (disch := omega) [game_Pairs.b4, hs, sh1, ha', sh2, ha'', -vBin_shr, hp.aget, hp.aput, hp.adel]
      · have tb'' : s.testBit k = false := by rw [tb2]; simpa using b2
        have c2 : s / 2 ^ k % 2 = 0 := by omega
        rw [c2] at ha2
        obtain ⟨f1, f2, f3, f4, f5, f6⟩ := set_facts2 ⟨n, by omega⟩ ⟨i, by omega⟩ ⟨k, by omega⟩ ⟨s, by omega⟩ hik hi hk (by simp only; omega) tb' tb''
        simp only at f1 f6
        have hvb : ∀ s, s < 2 ^ n → Bq 2 (gv l s) := fun s hs => gv_b hlo (by omega) (by omega)
        have on : EX ip nv1 (.call F.bits_OnesCount [.d (u s)] []) = some (.ret (.d (.int .i64 (cntN s 5 : Nat))) []) := ones_ev s (by omega)
        have nu : nref (u s) = true := rfl
        have pr := pairT_h hc' (cntN s 5) n f1 (by omega) hp
        have cr := cross_ev l n s i k hn hl hlo hi hk hik (by omega) tb' tb''
        have xb := xV_b hvb f6
        have wb := wp_b f1 (show n ≤ 64 by omega)
        have ml := rmul_ev tzOk1 (can (wp (cntN s 5) n)) (can (xV (gv l) s i k)) (can_ok wb) (can_ok xb) (by omega) (by omega) (by omega)
        have sB := pS_b hn hvb hi hk hik s (by omega)
        have ad := radd_ev tzOk1 (can (pS (gv l) n i k s)) (can (wp (cntN s 5) n * xV (gv l) s i k)) (can_ok sB) (can_ok (wb.mul xb)) (by omega) (by omega) (by omega)
        rw [can_v, can_v] at ml ad
        have e1 : pS (gv l) n i k (s + 1) = pS (gv l) n i k s + wp (cntN s 5) n * xV (gv l) s i k := by rw [pS, tb', tb'']; rfl
        rw [← e1, ← hq] at ad
        refine .inl ⟨_, _, ?_, can (pS (gv l) n i k (s + 1)), c1, .inr rfl, rfl, rfl, rfl⟩
        clear tb1 tb2 tb' tb'' hq hp5 hvb e1 sB wb xb f2 f3 f4 f5 f6 c0 c2 b1 b2 hl
        generalize can (pS (gv l) n i k (s + 1)) = p1 at *
        generalize can (wp (cntN s 5) n * xV (gv l) s i k) = p2 at *
        generalize can (wp (cntN s 5) n) = p3 at *
        generalize can (xV (gv l) s i k) = p4 at *
        generalize cntN s 5 = cn at *
        generalize c1 = co at *
        generalize s / 2 ^ i = d at *
        generalize s / 2 ^ k = d2 at *
        have ha' : bitsD .and .i64 (d : Int) 1 = 0 := ha1
        have ha'' : bitsD .and .i64 (d2 : Int) 1 = 0 := ha2
        simp (disch := omega) [game_Pairs.b4, hs, sh1, ha', sh2, ha'', on, nu, pr, cr, ml, ad, -vBin_shr, hpart_cons, npart_cons, hp.hpart, hp.npart, hp.aget, hp.aput, hp.adel]
  · rintro e μ ⟨q, c', hc', hq, rfl, rfl⟩
    subst hq
    refine ⟨.exit 4, _, _, ?_, by simp, c', hc', rfl, rfl, by rw [pV, ← hl]⟩
    simp [game_Pairs.b4] <;> first | rfl | exact ⟨rfl, rfl⟩
end Go.Proofs.YtgigaimaaijalaaGreatDoor
