/- GameBanzhaf: what each adds on the mean of all sets. -/
import Derived.Test.YtnmbpainnkdonaaGreatDoorGs
import Derived.Test.YtnmbpainnkdonaaGreatDoorVc
import Derived.Test.YtnmbpainnkdonaaGreatDoorVd
set_option linter.unusedSimpArgs false
set_option linter.unusedVariables false
namespace Go.Proofs.YtnmbpainnkdonaaGreatDoor
open Go Go.Proofs.R
set_option maxRecDepth 10000
def bzS (v : Nat → Rat) (i : Nat) : Nat → Rat
  | 0 => 0
  | s + 1 => if s.testBit i then bzS v i s else bzS v i s + (v (s + 2 ^ i) - v s)
def bzV (v : Nat → Rat) (n i : Nat) : Rat := bzS v i (2 ^ n) * Rat.divInt 1 ((2 ^ (n - 1) : Nat) : Int)
def bzL (l : List RQ) (n k : Nat) : List RQ := tb k fun i => can (bzV (gv l) n i)
theorem bzS_b {v : Nat → Rat} {n K : Nat} (hn : n ≤ 5) (hv : ∀ s, s < 2 ^ n → Bq K (v s)) {i : Nat} (hi : i < n) : ∀ s, s ≤ 2 ^ n → Bq (1 + (2 * K + 2) * s) (bzS v i s)
  | 0, _ => Bq.zero
  | s + 1, hs => by
    have ih := bzS_b hn hv hi s (by omega)
    have hp : 2 ^ n ≤ 2 ^ 5 := Nat.pow_le_pow_right (by decide) hn
    have e : 1 + (2 * K + 2) * (s + 1) = 1 + (2 * K + 2) * s + (2 * K + 2) := by rw [Nat.mul_add]; omega
    rw [bzS]
    split
    · exact ih.mono (by omega)
    · rename_i c
      obtain ⟨-, -, -, f4⟩ := set_facts ⟨n, by omega⟩ ⟨i, by omega⟩ ⟨s, by omega⟩ hi (by simp only; omega) (by simpa using c)
      simp only at f4
      exact (ih.add ((hv _ f4).sub (hv s (by omega)))).mono (by omega)
theorem bzV_b {v : Nat → Rat} {n K : Nat} (hn : n ≤ 5) (hv : ∀ s, s < 2 ^ n → Bq K (v s)) {i : Nat} (hi : i < n) : Bq (1 + (2 * K + 2) * 32 + 1) (bzV v n i) := by
  have hp : 2 ^ n ≤ 2 ^ 5 := Nat.pow_le_pow_right (by decide) hn
  have hq : 2 ^ (n - 1) ≤ 2 ^ 5 := Nat.pow_le_pow_right (by decide) (by omega)
  have := Nat.two_pow_pos (n - 1)
  exact ((bzS_b hn hv hi (2 ^ n) (Nat.le_refl _)).mono (Nat.add_le_add_left (Nat.mul_le_mul_left _ hp) _)).mul (frac1_b (by omega) (by omega))
section
variable {nv : R.Nv}
theorem bz_b2 (hz : TzOk nv) (l : List RQ) (n i K : Nat) (hn : n ≤ 5) (hi : i < n) (hl : l.length = 2 ^ n) (hk : ∀ r ∈ l, r.ok K) (h1 : 1 ≤ K) (hK : K ≤ 100000) (B6 : Blk) (m6 : Nat) :
    ∃ z e μ, EX ip nv (.code (.loop [] [] game_Banzhaf.b2) [(0, .d (.sl 3 (el l))), (4, .d (.int .i64 (n : Int))), (6, .own 6 3 0 m6), (7, .d (.int .i64 (i : Int))), (8, .ptr 8 0), (17, .d (.int .i64 (n : Int))), (18, .d (.int .i64 (i : Int))), (23, .d (.int .i64 (l.length : Int))), (24, .d (.int .i64 0))] [(6, B6), (8, ⟨0, true, (can 0).c⟩)]) = some (.st z e μ) ∧ z ≠ .normal ∧
    z = .exit 2 ∧ e = [(0, .d (.sl 3 (el l))), (4, .d (.int .i64 (n : Int))), (6, .own 6 3 0 m6), (7, .d (.int .i64 (i : Int))), (8, .ptr 8 0), (17, .d (.int .i64 (n : Int))), (18, .d (.int .i64 (i : Int))), (23, .d (.int .i64 (l.length : Int))), (24, .d (.int .i64 (l.length : Int))), (25, .d (.bool false))] ∧ μ = [(6, B6), (8, ⟨0, true, (can (bzS (gv l) i (2 ^ n))).c⟩)] := by
  have hp : 2 ^ n ≤ 2 ^ 5 := Nat.pow_le_pow_right (by decide) hn
  refine loop_n l.length (fun s e μ => ∃ q : RQ, q = can (bzS (gv l) i s) ∧ e = [(0, .d (.sl 3 (el l))), (4, .d (.int .i64 (n : Int))), (6, .own 6 3 0 m6), (7, .d (.int .i64 (i : Int))), (8, .ptr 8 0), (17, .d (.int .i64 (n : Int))), (18, .d (.int .i64 (i : Int))), (23, .d (.int .i64 (l.length : Int))), (24, .d (.int .i64 (s : Int)))] ∧ μ = [(6, B6), (8, ⟨0, true, q.c⟩)]) ?_ ?_ ⟨_, rfl, rfl, rfl⟩
  · rintro s e μ hs ⟨q, hq, rfl, rfl⟩
    have hvb : ∀ s, s < 2 ^ n → Bq K (gv l s) := fun s hs => gv_b hk h1 (by omega)
    have hs32 : s < 32 := by omega
    have hl32 : l.length ≤ 32 := by omega
    have sh := i_shrN (s := s) (i := i) (by omega) (by omega)
    have ha := ibits_and (a := s / 2 ^ i) (b := 1) (by have := Nat.div_le_self s (2 ^ i); omega) (by omega)
    rw [show s / 2 ^ i &&& 1 = s / 2 ^ i % 2 from Nat.and_one_is_mod _] at ha
    have tb : s.testBit i = decide (s / 2 ^ i % 2 = 1) := Nat.testBit_eq_decide_div_mod_eq
    by_cases c : s / 2 ^ i % 2 = 1
    · have tb' : s.testBit i = true := by rw [tb]; simpa using c
      rw [c] at ha
      refine .inl ⟨_, _, ?_, q, by rw [bzS, if_pos tb', hq], rfl, rfl⟩
      clear tb tb' hq hvb hp hl
      generalize s / 2 ^ i = d at *
      have ha' : bitsD .and .i64 (d : Int) 1 = 1 := ha
      simp (disch := omega) [game_Banzhaf.b2, hs, sh, ha', -vBin_shr]
    · have tb' : s.testBit i = false := by rw [tb]; simpa using c
      have c0 : s / 2 ^ i % 2 = 0 := by omega
      rw [c0] at ha
      obtain ⟨f1, f2, f3, f4⟩ := set_facts ⟨n, by omega⟩ ⟨i, by omega⟩ ⟨s, by omega⟩ hi (by simp only; omega) tb'
      simp only at f1 f3 f4
      have s1 := i_shl1 (n := i) (by omega)
      have ho := ibits_or (a := s) (b := 2 ^ i) (by omega) (by omega)
      rw [f3] at ho
      have hd := (hvb _ f4).sub (hvb s (by omega))
      have sB := bzS_b hn hvb hi s (by omega)
      have hle : (2 * K + 2) * s ≤ (2 * K + 2) * 32 := Nat.mul_le_mul_left _ (by omega)
      have ad := radd_ev hz (can (bzS (gv l) i s)) (can (gv l (s + 2 ^ i) - gv l s)) (can_ok sB) (can_ok hd) (by omega) (by omega) (by omega)
      rw [can_v, can_v] at ad
      have e1 : bzS (gv l) i (s + 1) = bzS (gv l) i s + (gv l (s + 2 ^ i) - gv l s) := by rw [bzS, tb']; rfl
      rw [← e1, ← hq] at ad
      have sb' : EX ip nv (.call F.ratio_Sub [.d (.ag (ix l (s + 2 ^ i)).c), .d (.ag (ix l s).c)] []) = some (.ret (.d (.ag (can (gv l (s + 2 ^ i) - gv l s)).c)) []) := rsub_ev hz (ix l (s + 2 ^ i)) (ix l s) (ixq_ok hk (by omega)) (ixq_ok hk hs) h1 h1 (by omega)
      refine .inl ⟨_, _, ?_, can (bzS (gv l) i (s + 1)), rfl, rfl, rfl⟩
      clear tb tb' hq hvb hp e1 sB hd f2 hle c c0 f1
      generalize can (bzS (gv l) i (s + 1)) = p1 at *
      generalize can (gv l (s + 2 ^ i) - gv l s) = p4 at *
      have f4' : s + 2 ^ i < l.length := by omega
      clear f4 hl f3
      generalize s + 2 ^ i = t at *
      generalize 2 ^ i = p5 at *
      generalize s / p5 = d at *
      have ha' : bitsD .and .i64 (d : Int) 1 = 0 := ha
      simp (disch := omega) [game_Banzhaf.b2, hs, sh, ha', s1, ho, sb', ad, f4', -vBin_shr, -vBin_shl]
  · rintro e μ ⟨q, hq, rfl, rfl⟩
    subst hq
    exact ⟨.exit 2, _, _, by simp [game_Banzhaf.b2] <;> first | rfl | exact ⟨rfl, rfl⟩, by simp, rfl, rfl, by rw [hl]⟩
theorem gbz_bad (l : List RQ) (hl : l.length ≤ 33) (hn : gmN l.length = none) : EX ip nv (.call F.game_Banzhaf [.d (.sl 3 (el l))] []) = some (.ret (.tp [.d (.sl 3 []), .d (.int .i64 1)]) []) := by
  rw [S_call game_Banzhaf.ip rfl]
  have p := players_ev (nv := nv) l hl
  rw [hn] at p
  simp only at p
  simp (disch := omega) [game_Banzhaf, p]
theorem gbz_ev (hz : TzOk nv) (l : List RQ) (n K : Nat) (hl : l.length ≤ 33) (hn : gmN l.length = some n) (hk : ∀ r ∈ l, r.ok K) (h1 : 1 ≤ K) (hK : K ≤ 100000) : EX ip nv (.call F.game_Banzhaf [.d (.sl 3 (el l))] []) = some (.ret (.tp [.d (.sl 3 (el (bzL l n n))), .d (.int .i64 0)]) []) := by
  rw [S_call game_Banzhaf.ip rfl]
  have p := players_ev (nv := nv) l hl
  rw [hn] at p
  simp only at p
  have hn6 := gmN_lt ⟨l.length, by omega⟩ n hn
  have hlen := (gmN_some ⟨l.length, by omega⟩ ⟨n, hn6⟩ hn).1
  simp only at hlen
  obtain ⟨_, _, _, hr, -, rfl, rfl, rfl⟩ : ∃ z e μ, EX ip nv (.code (.loop [] [] game_Banzhaf.b0) [(0, .d (.sl 3 (el l))), (4, .d (.int .i64 (n : Int))), (6, .own 6 3 0 0), (17, .d (.int .i64 (n : Int))), (18, .d (.int .i64 0))] [(6, ⟨0, false, []⟩)]) = some (.st z e μ) ∧ z ≠ .normal ∧
      z = .exit 0 ∧ e = [(0, .d (.sl 3 (el l))), (4, .d (.int .i64 (n : Int))), (6, .own 6 3 0 n), (17, .d (.int .i64 (n : Int))), (18, .d (.int .i64 (n : Int))), (19, .d (.bool false))] ∧ μ = [(6, ⟨0, false, el (bzL l n n)⟩)] := by
    refine loop_n n (fun i e μ => ∃ a : List RQ, a = bzL l n i ∧ e = [(0, .d (.sl 3 (el l))), (4, .d (.int .i64 (n : Int))), (6, .own 6 3 0 a.length), (17, .d (.int .i64 (n : Int))), (18, .d (.int .i64 (i : Int)))] ∧ μ = [(6, ⟨0, false, el a⟩)]) ?_ ?_ ⟨[], rfl, rfl, rfl⟩
    · rintro i e μ hi ⟨a, ha, rfl, rfl⟩
      have hal : a.length = i := by rw [ha]; simp [bzL]
      have z := zero_ev (nv := nv)
      obtain ⟨_, _, _, hr, -, rfl, rfl, rfl⟩ := bz_b2 hz l n i K (by omega) hi hlen hk h1 hK ⟨0, false, el a⟩ a.length
      have hq : 2 ^ (n - 1) ≤ 2 ^ 5 := Nat.pow_le_pow_right (by decide) (by omega)
      have hq0 := Nat.two_pow_pos (n - 1)
      have s1 := i_shl1 (n := n - 1) (by omega)
      have e1 : (n : Int) - 1 = ((n - 1 : Nat) : Int) := by omega
      have fr := rfrac_ev hz 1 ((2 ^ (n - 1) : Nat) : Int) (by omega) (by omega) (by omega) (by omega)
      have bb := (bzS_b (v := gv l) (n := n) (K := K) (i := i) (by omega) (fun s hs => gv_b hk h1 (by omega)) hi (2 ^ n) (Nat.le_refl _))
      have hp : 2 ^ n ≤ 2 ^ 5 := Nat.pow_le_pow_right (by decide) (by omega)
      have hle : (2 * K + 2) * 2 ^ n ≤ (2 * K + 2) * 32 := Nat.mul_le_mul_left _ hp
      have ml := rmul_ev hz (can (bzS (gv l) i (2 ^ n))) (can (Rat.divInt 1 ((2 ^ (n - 1) : Nat) : Int))) (can_ok bb) (can_ok (frac1_b hq0 (by omega))) (by omega) (by omega) (by omega)
      rw [can_v, can_v] at ml
      have ml' : EX ip nv (.call F.ratio_Mul [.d (.ag (can (bzS (gv l) i (2 ^ n))).c), .d (.ag (can (Rat.divInt 1 ((2 ^ (n - 1) : Nat) : Int))).c)] []) = some (.ret (.d (.ag (can (bzV (gv l) n i)).c)) []) := ml
      refine .inl ⟨_, _, ?_, a ++ [can (bzV (gv l) n i)], by rw [ha, bzL, bzL, tb_succ], rfl, rfl⟩
      clear ha ml bb hle
      generalize can (bzV (gv l) n i) = q at *
      generalize can (bzS (gv l) i (2 ^ n)) = q1 at *
      generalize can (Rat.divInt 1 ((2 ^ (n - 1) : Nat) : Int)) = q2 at *
      generalize can 0 = q0 at *
      generalize 2 ^ (n - 1) = tt at *
      generalize n - 1 = n1 at *
      simp (disch := omega) [game_Banzhaf.b0, hi, z, hr, e1, s1, fr, ml', -vBin_shl]
    · rintro e μ ⟨a, ha, rfl, rfl⟩
      have hal : a.length = n := by rw [ha]; simp [bzL]
      rw [hal]
      exact ⟨.exit 0, _, _, by simp [game_Banzhaf.b0] <;> first | rfl | exact ⟨rfl, rfl⟩, by simp, rfl, rfl, by rw [ha]⟩
  have hsl : (bzL l n n).length = n := by simp [bzL]
  generalize bzL l n n = a at *
  simp (disch := omega) [game_Banzhaf, p, hr, hsl]
theorem lbz_b2 (hz : TzOk nv) (l : List RQ) (n i K : Nat) (hn : n ≤ 5) (hi : i < n) (hl : l.length = 2 ^ n) (hk : ∀ r ∈ l, r.ok K) (h1 : 1 ≤ K) (hK : K ≤ 100000) (B6 : Blk) (m6 : Nat) (d3 : List D) :
    ∃ z e μ, EX ip nv (.code (.loop [] [] dendronlaw19_GameBanzhaf.b2) [(0, .d (.sl 3 (el l))), (3, .d (.sl 3 d3)), (4, .d (.int .i64 0)), (5, .d (.int .i64 (n : Int))), (6, .own 6 3 0 m6), (7, .d (.int .i64 (i : Int))), (8, .ptr 8 0), (9, .d (.int .i64 0))] [(6, B6), (8, ⟨0, true, (can 0).c⟩)]) = some (.st z e μ) ∧ z ≠ .normal ∧
    z = .exit 2 ∧ e = [(0, .d (.sl 3 (el l))), (3, .d (.sl 3 d3)), (4, .d (.int .i64 0)), (5, .d (.int .i64 (n : Int))), (6, .own 6 3 0 m6), (7, .d (.int .i64 (i : Int))), (8, .ptr 8 0), (9, .d (.int .i64 (l.length : Int))), (40, .d (.bool false))] ∧ μ = [(6, B6), (8, ⟨0, true, (can (bzS (gv l) i (2 ^ n))).c⟩)] := by
  have hp : 2 ^ n ≤ 2 ^ 5 := Nat.pow_le_pow_right (by decide) hn
  have tw := two19_ev (nv := nv) i (by omega)
  refine loop_n l.length (fun s e μ => ∃ q : RQ, q = can (bzS (gv l) i s) ∧ e = [(0, .d (.sl 3 (el l))), (3, .d (.sl 3 d3)), (4, .d (.int .i64 0)), (5, .d (.int .i64 (n : Int))), (6, .own 6 3 0 m6), (7, .d (.int .i64 (i : Int))), (8, .ptr 8 0), (9, .d (.int .i64 (s : Int)))] ∧ μ = [(6, B6), (8, ⟨0, true, q.c⟩)]) ?_ ?_ ⟨_, rfl, rfl, rfl⟩
  · rintro s e μ hs ⟨q, hq, rfl, rfl⟩
    have hvb : ∀ s, s < 2 ^ n → Bq K (gv l s) := fun s hs => gv_b hk h1 (by omega)
    have hs32 : s < 32 := by omega
    have hl32 : l.length ≤ 32 := by omega
    have nn := in_ev (nv := nv) s i (by omega) (by omega)
    cases tb' : s.testBit i
    · rw [tb'] at nn
      obtain ⟨f1, f2, f3, f4⟩ := set_facts ⟨n, by omega⟩ ⟨i, by omega⟩ ⟨s, by omega⟩ hi (by simp only; omega) tb'
      simp only at f1 f3 f4
      have hd := (hvb _ f4).sub (hvb s (by omega))
      have sB := bzS_b hn hvb hi s (by omega)
      have hle : (2 * K + 2) * s ≤ (2 * K + 2) * 32 := Nat.mul_le_mul_left _ (by omega)
      have ad := radd_ev hz (can (bzS (gv l) i s)) (can (gv l (s + 2 ^ i) - gv l s)) (can_ok sB) (can_ok hd) (by omega) (by omega) (by omega)
      rw [can_v, can_v] at ad
      have e1 : bzS (gv l) i (s + 1) = bzS (gv l) i s + (gv l (s + 2 ^ i) - gv l s) := by rw [bzS, tb']; rfl
      rw [← e1, ← hq] at ad
      have sb' : EX ip nv (.call F.ratio_Sub [.d (.ag (ix l (s + 2 ^ i)).c), .d (.ag (ix l s).c)] []) = some (.ret (.d (.ag (can (gv l (s + 2 ^ i) - gv l s)).c)) []) := rsub_ev hz (ix l (s + 2 ^ i)) (ix l s) (ixq_ok hk (by omega)) (ixq_ok hk hs) h1 h1 (by omega)
      refine .inl ⟨_, _, ?_, can (bzS (gv l) i (s + 1)), rfl, rfl, rfl⟩
      clear tb' hq hvb e1 sB hd f2 hle f1
      generalize can (bzS (gv l) i (s + 1)) = p1 at *
      generalize can (gv l (s + 2 ^ i) - gv l s) = p4 at *
      have f4' : s + 2 ^ i < l.length := by omega
      have f5 : s + 2 ^ i < 32 := by omega
      clear f4 hl f3
      generalize 2 ^ i = t2 at *
      have e2 : (s : Int) + (t2 : Int) = ((s + t2 : Nat) : Int) := by simp
      generalize s + t2 = t at *
      simp (disch := omega) [dendronlaw19_GameBanzhaf.b2, hs, nn, tw, e2, sb', ad, f4']
    · rw [tb'] at nn
      refine .inl ⟨_, _, ?_, q, by rw [bzS, if_pos tb', hq], rfl, rfl⟩
      clear hq hvb tb' hl
      simp (disch := omega) [dendronlaw19_GameBanzhaf.b2, hs, nn]
  · rintro e μ ⟨q, hq, rfl, rfl⟩
    subst hq
    exact ⟨.exit 2, _, _, by simp [dendronlaw19_GameBanzhaf.b2] <;> first | rfl | exact ⟨rfl, rfl⟩, by simp, rfl, rfl, by rw [hl]⟩
theorem lbz_b0 (hz : TzOk nv) (l : List RQ) (n K : Nat) (hn : n ≤ 5) (hlen : l.length = 2 ^ n) (hk : ∀ r ∈ l, r.ok K) (h1 : 1 ≤ K) (hK : K ≤ 100000) (d3 : List D) :
    ∃ z e μ, EX ip nv (.code (.loop [] [] dendronlaw19_GameBanzhaf.b0) [(0, .d (.sl 3 (el l))), (3, .d (.sl 3 d3)), (4, .d (.int .i64 0)), (5, .d (.int .i64 (n : Int))), (6, .own 6 3 0 0), (7, .d (.int .i64 0))] [(6, ⟨0, false, []⟩)]) = some (.st z e μ) ∧ z ≠ .normal ∧
      z = .exit 0 ∧ e = [(0, .d (.sl 3 (el l))), (3, .d (.sl 3 d3)), (4, .d (.int .i64 0)), (5, .d (.int .i64 (n : Int))), (6, .own 6 3 0 n), (7, .d (.int .i64 (n : Int))), (33, .d (.bool false))] ∧ μ = [(6, ⟨0, false, el (bzL l n n)⟩)] := by
  refine loop_n n (fun i e μ => ∃ a : List RQ, a = bzL l n i ∧ e = [(0, .d (.sl 3 (el l))), (3, .d (.sl 3 d3)), (4, .d (.int .i64 0)), (5, .d (.int .i64 (n : Int))), (6, .own 6 3 0 a.length), (7, .d (.int .i64 (i : Int)))] ∧ μ = [(6, ⟨0, false, el a⟩)]) ?_ ?_ ⟨[], rfl, rfl, rfl⟩
  · rintro i e μ hi ⟨a, ha, rfl, rfl⟩
    have hal : a.length = i := by rw [ha]; simp [bzL]
    have z := zero_ev (nv := nv)
    obtain ⟨_, _, _, hr, -, rfl, rfl, rfl⟩ := lbz_b2 hz l n i K (by omega) hi hlen hk h1 hK ⟨0, false, el a⟩ a.length d3
    have hq : 2 ^ (n - 1) ≤ 2 ^ 5 := Nat.pow_le_pow_right (by decide) (by omega)
    have hq0 := Nat.two_pow_pos (n - 1)
    have s1 := two19_ev (nv := nv) (n - 1) (by omega)
    have e1 : (n : Int) - 1 = ((n - 1 : Nat) : Int) := by omega
    have fr := rfrac_ev hz 1 ((2 ^ (n - 1) : Nat) : Int) (by omega) (by omega) (by omega) (by omega)
    have bb := (bzS_b (v := gv l) (n := n) (K := K) (i := i) (by omega) (fun s hs => gv_b hk h1 (by omega)) hi (2 ^ n) (Nat.le_refl _))
    have hp : 2 ^ n ≤ 2 ^ 5 := Nat.pow_le_pow_right (by decide) (by omega)
    have hle : (2 * K + 2) * 2 ^ n ≤ (2 * K + 2) * 32 := Nat.mul_le_mul_left _ hp
    have ml := rmul_ev hz (can (bzS (gv l) i (2 ^ n))) (can (Rat.divInt 1 ((2 ^ (n - 1) : Nat) : Int))) (can_ok bb) (can_ok (frac1_b hq0 (by omega))) (by omega) (by omega) (by omega)
    rw [can_v, can_v] at ml
    have ml' : EX ip nv (.call F.ratio_Mul [.d (.ag (can (bzS (gv l) i (2 ^ n))).c), .d (.ag (can (Rat.divInt 1 ((2 ^ (n - 1) : Nat) : Int))).c)] []) = some (.ret (.d (.ag (can (bzV (gv l) n i)).c)) []) := ml
    refine .inl ⟨_, _, ?_, a ++ [can (bzV (gv l) n i)], by rw [ha, bzL, bzL, tb_succ], rfl, rfl⟩
    clear ha ml bb hle
    generalize can (bzV (gv l) n i) = q at *
    generalize can (bzS (gv l) i (2 ^ n)) = q1 at *
    generalize can (Rat.divInt 1 ((2 ^ (n - 1) : Nat) : Int)) = q2 at *
    generalize can 0 = q0 at *
    generalize 2 ^ (n - 1) = tt at *
    generalize n - 1 = n1 at *
    simp (disch := omega) [dendronlaw19_GameBanzhaf.b0, hi, z, hr, e1, s1, fr, ml']
  · rintro e μ ⟨a, ha, rfl, rfl⟩
    have hal : a.length = n := by rw [ha]; simp [bzL]
    rw [hal]
    exact ⟨.exit 0, _, _, by simp [dendronlaw19_GameBanzhaf.b0] <;> first | rfl | exact ⟨rfl, rfl⟩, by simp, rfl, rfl, by rw [ha]⟩
end
theorem gameBanzhaf_ev (L : List RQ) (hL : L.length ≤ maxLen) (hk : ∀ r ∈ L, r.ok maxLen) : EX ip nv1 (.call F.dendronlaw19_GameBanzhaf [.d (.sl 3 (el L))] []) = some (.ret (.d (.bool true)) []) := by
  rw [S_call dendronlaw19_GameBanzhaf.ip rfl]
  have f1 := few19_ev (nv := nv1) L hL
  have hk2 := fewR_ok hk
  have hl : (fewR L).length ≤ 33 := by rw [fewR_len]; omega
  have aw := awake19_ev
  generalize fewR L = l at *
  have sz := size19_ev (nv := nv1) l hl
  cases hn : gmN l.length with
  | none =>
    rw [hn] at sz
    simp only at sz
    have b := gbz_bad (nv := nv1) l hl hn
    simp (disch := omega) [dendronlaw19_GameBanzhaf, f1, b, sz, aw]
  | some n =>
    rw [hn] at sz
    simp only at sz
    have hn6 := gmN_lt ⟨l.length, by omega⟩ n hn
    have hlen := (gmN_some ⟨l.length, by omega⟩ ⟨n, hn6⟩ hn).1
    simp only at hlen
    have n0 : ¬ (n : Int) < 0 := by omega
    have x := gbz_ev tzOk1 l n 2 hl hn hk2 (by omega) (by omega)
    obtain ⟨_, _, _, lp, -, rfl, rfl, rfl⟩ := lbz_b0 (nv := nv1) tzOk1 l n 2 (by omega) hlen hk2 (by omega) (by omega) (el (bzL l n n))
    have vb : ∀ p, p < n → Bq (1 + (2 * 2 + 2) * 32 + 1) (bzV (gv l) n p) := fun p hp => bzV_b (by omega) (fun s hs => gv_b hk2 (by omega) (by omega)) hp
    have al : EX ip nv1 (.call F.dendronref10_All [.d (.sl 3 (el (bzL l n n))), .d (.sl 3 (el (bzL l n n)))] []) = some (.ret (.d (.bool true)) []) :=
      all10_ev tzOk1 n (1 + (2 * 2 + 2) * 32 + 1) (fun p => bzV (gv l) n p) (bzL l n n) (by simp [bzL]) (by omega) (fun p hp => by
        have : ix (bzL l n n) p = can (bzV (gv l) n p) := tb_ix hp
        rw [this]
        exact ⟨can_v _, can_ok (vb p hp)⟩) vb (by omega) (by omega)
    have hbl : (bzL l n n).length = n := by simp [bzL]
    clear vb
    generalize bzL l n n = q at *
    simp (disch := omega) [dendronlaw19_GameBanzhaf, f1, x, lp, al, hbl, sz, n0, aw]
end Go.Proofs.YtnmbpainnkdonaaGreatDoor
