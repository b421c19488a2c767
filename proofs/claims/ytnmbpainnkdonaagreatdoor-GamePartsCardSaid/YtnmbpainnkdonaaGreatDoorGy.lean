/- GameParts: all shares parted evenly. -/
import Derived.Test.YtnmbpainnkdonaaGreatDoorGw
set_option linter.unusedSimpArgs false
set_option linter.unusedVariables false
namespace Go.Proofs.YtnmbpainnkdonaaGreatDoor
open Go Go.Proofs.R
set_option maxRecDepth 10000
theorem fwL_v {c : Rat} {l : List RQ} {i s : Nat} (h : s < l.length) : gv (fwL c l i) s = fwd c i (gv l) s := by
  unfold gv fwL
  rw [tb_ix h, can_v]
  rfl
theorem frac0_b {m : Nat} (hm : m < 4294967296) : Bq 1 (Rat.divInt 1 (m : Int)) := by
  by_cases h : m = 0
  · subst h
    have : Rat.divInt 1 ((0 : Nat) : Int) = 0 := by decide +kernel
    rw [this]; exact Bq.zero
  · exact frac1_b (by omega) hm
theorem cnt5 : ∀ n : Fin 6, ∀ s : Fin 32, s.val < 2 ^ n.val → cntN s.val n.val = cntN s.val 5 := by decide +kernel
theorem evS_b {f : Nat → Rat} {i m K : Nat} (hf : ∀ s, s < m → Bq K (f s)) : ∀ s, s ≤ m → Bq (1 + (K + 2) * s) (evS f i s)
  | 0, _ => Bq.zero
  | s + 1, h => by
    have ih := evS_b hf (i := i) s (by omega)
    have e : 1 + (K + 2) * (s + 1) = 1 + (K + 2) * s + (K + 2) := by rw [Nat.mul_add]; omega
    have := cntN_le s 5
    rw [evS]
    split
    · exact (ih.add ((hf s (by omega)).mul (frac0_b (m := cntN s 5) (by omega)))).mono (by omega)
    · exact ih.mono (by omega)
theorem evS_congr {f g : Nat → Rat} {i m : Nat} (h : ∀ s, s < m → f s = g s) : ∀ s, s ≤ m → evS f i s = evS g i s
  | 0, _ => rfl
  | s + 1, hs => by rw [evS, evS, evS_congr h s (by omega), h s (by omega)]
/-- What players get when shares are parted evenly. -/
def evL (l : List RQ) (n : Nat) (k : Nat) : List RQ := tb k fun i => can (evS (gv l) i (2 ^ n))
section
variable {nv : R.Nv}
theorem by_b2 (hz : TzOk nv) (l a0 : List RQ) (n i K : Nat) (hn : n ≤ 5) (hi : i < n) (hl : l.length = 2 ^ n) (ha0 : a0.length = n) (hk : ∀ r ∈ l, r.ok K) (h1 : 1 ≤ K) (hK : K ≤ 100000) :
    ∃ z e μ, EX ip nv (.code (.loop [] [] game_ByShares.b2) [(0, .d (.sl 3 (el l))), (6, .own 18 3 0 n), (7, .d (.int .i64 (i : Int))), (19, .d (.int .i64 (n : Int))), (20, .d (.int .i64 (i : Int))), (27, .d (.sl 3 (el l))), (28, .d (.int .i64 (l.length : Int))), (29, .d (.int .i64 0))] [(18, ⟨0, false, el (a0.set i (can 0))⟩)]) = some (.st z e μ) ∧ z ≠ .normal ∧
    z = .exit 2 ∧ e = [(0, .d (.sl 3 (el l))), (6, .own 18 3 0 n), (7, .d (.int .i64 (i : Int))), (19, .d (.int .i64 (n : Int))), (20, .d (.int .i64 (i : Int))), (27, .d (.sl 3 (el l))), (28, .d (.int .i64 (l.length : Int))), (29, .d (.int .i64 (l.length : Int))), (30, .d (.bool false))] ∧ μ = [(18, ⟨0, false, el (a0.set i (can (evS (gv l) i (2 ^ n))))⟩)] := by
  have hp : 2 ^ n ≤ 2 ^ 5 := Nat.pow_le_pow_right (by decide) hn
  have hl32 : l.length ≤ 32 := by omega
  refine loop_n l.length (fun s e μ => ∃ b : List RQ, b = a0.set i (can (evS (gv l) i s)) ∧ e = [(0, .d (.sl 3 (el l))), (6, .own 18 3 0 n), (7, .d (.int .i64 (i : Int))), (19, .d (.int .i64 (n : Int))), (20, .d (.int .i64 (i : Int))), (27, .d (.sl 3 (el l))), (28, .d (.int .i64 (l.length : Int))), (29, .d (.int .i64 (s : Int)))] ∧ μ = [(18, ⟨0, false, el b⟩)]) ?_ ?_ ⟨_, rfl, rfl, rfl⟩
  · rintro s e μ hs ⟨b, hb, rfl, rfl⟩
    have hbl : b.length = n := by rw [hb]; simp [ha0]
    have hx : ix b i = can (evS (gv l) i s) := by rw [hb]; simp [ix, ha0, hi]
    have sh := i_shrN (s := s) (i := i) (by omega) (by omega)
    have an := ibits_and (a := s / 2 ^ i) (b := 1) (by have := Nat.div_le_self s (2 ^ i); omega) (by omega)
    rw [show s / 2 ^ i &&& 1 = s / 2 ^ i % 2 from Nat.and_one_is_mod _] at an
    have tb : s.testBit i = decide (s / 2 ^ i % 2 = 1) := Nat.testBit_eq_decide_div_mod_eq
    by_cases c : s / 2 ^ i % 2 = 1
    · have tb' : s.testBit i = true := by rw [tb]; simpa using c
      rw [c] at an
      have hc5 := cntN_le s 5
      have on : EX ip nv (.call F.bits_OnesCount [.d (u s)] []) = some (.ret (.d (.int .i64 (cntN s 5 : Nat))) []) := ones_ev s (by omega)
      have fr := rfrac_ev hz 1 ((cntN s 5 : Nat) : Int) (by omega) (by omega) (by omega) (by omega)
      have fb := frac0_b (m := cntN s 5) (by omega)
      have ml : EX ip nv (.call F.ratio_Mul [.d (.ag (ix l s).c), .d (.ag (can (Rat.divInt 1 ((cntN s 5 : Nat) : Int))).c)] []) = some (.ret (.d (.ag (can (gv l s * (can (Rat.divInt 1 ((cntN s 5 : Nat) : Int))).v)).c)) []) := rmul_ev hz (ix l s) (can (Rat.divInt 1 ((cntN s 5 : Nat) : Int))) (ixq_ok hk hs) (can_ok fb) h1 (by omega) (by omega)
      rw [can_v] at ml
      have sb := evS_b (f := gv l) (i := i) (m := l.length) (K := K) (fun s hs => gv_b hk h1 hs) s (by omega)
      have hle : (K + 2) * s ≤ (K + 2) * 32 := Nat.mul_le_mul_left _ (by omega)
      have ad := radd_ev hz (can (evS (gv l) i s)) (can (gv l s * Rat.divInt 1 ((cntN s 5 : Nat) : Int))) (can_ok sb) (can_ok ((gv_b hk h1 hs).mul fb)) (by omega) (by omega) (by omega)
      rw [can_v, can_v] at ad
      have e1 : evS (gv l) i (s + 1) = evS (gv l) i s + gv l s * Rat.divInt 1 ((cntN s 5 : Nat) : Int) := by rw [evS, if_pos tb']
      rw [← e1] at ad
      have hb2 : b.set i (can (evS (gv l) i (s + 1))) = a0.set i (can (evS (gv l) i (s + 1))) := by rw [hb, List.set_set]
      refine .inl ⟨_, _, ?_, b.set i (can (evS (gv l) i (s + 1))), hb2, rfl, rfl⟩
      clear hb hb2 tb tb' c sb fb e1 hle hl hp
      generalize can (evS (gv l) i (s + 1)) = q at *
      generalize can (evS (gv l) i s) = q1 at *
      generalize can (gv l s * Rat.divInt 1 ((cntN s 5 : Nat) : Int)) = q2 at *
      generalize can (Rat.divInt 1 ((cntN s 5 : Nat) : Int)) = q3 at *
      generalize cntN s 5 = cn at *
      generalize 2 ^ i = p5 at *
      generalize s / p5 = d at *
      have an' : bitsD .and .i64 (d : Int) 1 = 1 := an
      simp (disch := omega) [game_ByShares.b2, hs, sh, an', hbl, hx, on, fr, ml, ad, -vIA_o, -vBin_shr]
    · have tb' : s.testBit i = false := by rw [tb]; simpa using c
      have c0 : s / 2 ^ i % 2 = 0 := by omega
      rw [c0] at an
      have e1 : evS (gv l) i (s + 1) = evS (gv l) i s := by rw [evS, if_neg (by rw [tb']; decide)]
      refine .inl ⟨_, _, ?_, b, by rw [e1, hb], rfl, rfl⟩
      clear hb tb tb' c c0 e1 hl hp hx
      generalize 2 ^ i = p5 at *
      generalize s / p5 = d at *
      have an' : bitsD .and .i64 (d : Int) 1 = 0 := an
      simp (disch := omega) [game_ByShares.b2, hs, sh, an', -vBin_shr]
  · rintro e μ ⟨b, hb, rfl, rfl⟩
    subst hb
    exact ⟨.exit 2, _, _, by simp [game_ByShares.b2] <;> first | rfl | exact ⟨rfl, rfl⟩, by simp, rfl, rfl, by rw [hl]⟩
theorem by_bad (l : List RQ) (hl : l.length ≤ 33) (hn : gmN l.length = none) : EX ip nv (.call F.game_ByShares [.d (.sl 3 (el l))] []) = some (.ret (.tp [.d (.sl 3 []), .d (.int .i64 1)]) []) := by
  rw [S_call game_ByShares.ip rfl]
  have p := players_ev (nv := nv) l hl
  rw [hn] at p
  simp only at p
  simp (disch := omega) [game_ByShares, p]
theorem by_ev (hz : TzOk nv) (l : List RQ) (n K : Nat) (hl : l.length ≤ 33) (hn : gmN l.length = some n) (hk : ∀ r ∈ l, r.ok K) (h1 : 1 ≤ K) (hK : K ≤ 100000) : EX ip nv (.call F.game_ByShares [.d (.sl 3 (el l))] []) = some (.ret (.tp [.d (.sl 3 (el (evL l n n))), .d (.int .i64 0)]) []) := by
  rw [S_call game_ByShares.ip rfl]
  have p := players_ev (nv := nv) l hl
  rw [hn] at p
  simp only at p
  have hn6 := gmN_lt ⟨l.length, by omega⟩ n hn
  have hlen := (gmN_some ⟨l.length, by omega⟩ ⟨n, hn6⟩ hn).1
  simp only at hlen
  obtain ⟨_, _, _, hr, -, rfl, rfl, rfl⟩ : ∃ z e μ, EX ip nv (.code (.loop [] [] game_ByShares.b0) [(0, .d (.sl 3 (el l))), (6, .own 18 3 0 n), (19, .d (.int .i64 (n : Int))), (20, .d (.int .i64 0))] [(18, ⟨0, false, el (List.replicate n (⟨false, [], []⟩ : RQ))⟩)]) = some (.st z e μ) ∧ z ≠ .normal ∧
      z = .exit 0 ∧ e = [(0, .d (.sl 3 (el l))), (6, .own 18 3 0 n), (19, .d (.int .i64 (n : Int))), (20, .d (.int .i64 (n : Int))), (21, .d (.bool false))] ∧ μ = [(18, ⟨0, false, el (evL l n n)⟩)] := by
    refine loop_n n (fun i e μ => ∃ a : List RQ, a = tb n (mix i (fun i => can (evS (gv l) i (2 ^ n))) fun _ => ⟨false, [], []⟩) ∧ e = [(0, .d (.sl 3 (el l))), (6, .own 18 3 0 n), (19, .d (.int .i64 (n : Int))), (20, .d (.int .i64 (i : Int)))] ∧ μ = [(18, ⟨0, false, el a⟩)]) ?_ ?_ ⟨_, by rw [mix_zero, rep_tb], rfl, rfl⟩
    · rintro i e μ hi ⟨a, ha, rfl, rfl⟩
      have hal : a.length = n := by rw [ha]; simp
      have z := zero_ev (nv := nv)
      obtain ⟨_, _, _, hr, -, rfl, rfl, rfl⟩ := by_b2 hz l a n i K (by omega) hi hlen hal hk h1 hK
      have st := mix_step (n := n) (i := i) (g := fun i => can (evS (gv l) i (2 ^ n))) (f := fun _ => (⟨false, [], []⟩ : RQ))
      rw [← ha] at st
      refine .inl ⟨_, _, ?_, a.set i (can (evS (gv l) i (2 ^ n))), st, rfl, rfl⟩
      clear st ha
      generalize can (evS (gv l) i (2 ^ n)) = q at *
      generalize can 0 = q0 at *
      simp (disch := omega) [game_ByShares.b0, hi, hal, z, hr, -vIA_o]
    · rintro e μ ⟨a, ha, rfl, rfl⟩
      rw [mix_all] at ha
      subst ha
      exact ⟨.exit 0, _, _, by simp [game_ByShares.b0] <;> first | rfl | exact ⟨rfl, rfl⟩, by simp, rfl, rfl, rfl⟩
  have hsl : (evL l n n).length = n := by simp [evL]
  generalize evL l n n = a at *
  simp (disch := omega) [game_ByShares, p, hr, hsl]
theorem count19_ev (s n : Nat) (hs : s < 1000000) (hn : n ≤ 12) : EX ip nv (.call F.dendronlaw19_Count [.d (.int .i64 (s : Int)), .d (.int .i64 (n : Int))] []) = some (.ret (.d (.int .i64 (cntN s n : Nat))) []) := by
  rw [S_call dendronlaw19_Count.ip rfl]
  obtain ⟨_, _, _, hr, -, rfl, rfl, rfl⟩ : ∃ z e μ, EX ip nv (.code (.loop [] [] dendronlaw19_Count.b0) [(0, .d (.int .i64 (s : Int))), (1, .d (.int .i64 (n : Int))), (5, .d (.int .i64 0)), (6, .d (.int .i64 0))] []) = some (.st z e μ) ∧ z ≠ .normal ∧
      z = .exit 0 ∧ e = [(0, .d (.int .i64 (s : Int))), (1, .d (.int .i64 (n : Int))), (5, .d (.int .i64 (cntN s n : Nat))), (6, .d (.int .i64 (n : Int))), (9, .d (.bool false))] ∧ μ = [] := by
    refine loop_n n (fun i e μ => ∃ m : Nat, m = cntN s i ∧ e = [(0, .d (.int .i64 (s : Int))), (1, .d (.int .i64 (n : Int))), (5, .d (.int .i64 (m : Int))), (6, .d (.int .i64 (i : Int)))] ∧ μ = []) ?_ ?_ ⟨0, rfl, rfl, rfl⟩
    · rintro i e μ hi ⟨m, hm, rfl, rfl⟩
      have hle := cntN_le s i
      have nn := in_ev (nv := nv) s i (by omega) (by omega)
      have e1 := cntN_succ s i
      refine .inl ⟨_, _, ?_, m + (if s.testBit i then 1 else 0), by rw [hm, e1], rfl, rfl⟩
      rw [← hm] at hle
      clear hm e1
      cases c : s.testBit i
      · rw [c] at nn
        simp (disch := omega) [dendronlaw19_Count.b0, hi, nn]
      · rw [c] at nn
        simp (disch := omega) [dendronlaw19_Count.b0, hi, nn]
    · rintro e μ ⟨m, hm, rfl, rfl⟩
      subst hm
      exact ⟨.exit 0, _, [], by simp [dendronlaw19_Count.b0] <;> rfl, by simp, rfl, rfl, rfl⟩
  generalize cntN s n = m at *
  simp (disch := omega) [dendronlaw19_Count, hr]
theorem lp_b2 (hz : TzOk nv) (l : List RQ) (n i K : Nat) (hn : n ≤ 5) (hi : i < n) (hl : l.length = 2 ^ n) (hk : ∀ r ∈ l, r.ok K) (h1 : 1 ≤ K) (hK : K ≤ 100000) (B6 : Blk) (m6 : Nat) (d3 : List D) :
    ∃ z e μ, EX ip nv (.code (.loop [] [] dendronlaw19_GameParts.b2) [(0, .d (.sl 3 (el l))), (3, .d (.sl 3 d3)), (4, .d (.int .i64 0)), (5, .d (.int .i64 (n : Int))), (6, .own 6 3 0 m6), (7, .d (.int .i64 (i : Int))), (8, .ptr 8 0), (9, .d (.int .i64 0))] [(6, B6), (8, ⟨0, true, (can 0).c⟩)]) = some (.st z e μ) ∧ z ≠ .normal ∧
    z = .exit 2 ∧ e = [(0, .d (.sl 3 (el l))), (3, .d (.sl 3 d3)), (4, .d (.int .i64 0)), (5, .d (.int .i64 (n : Int))), (6, .own 6 3 0 m6), (7, .d (.int .i64 (i : Int))), (8, .ptr 8 0), (9, .d (.int .i64 (l.length : Int))), (46, .d (.bool false))] ∧ μ = [(6, B6), (8, ⟨0, true, (can (evS (gv l) i (2 ^ n))).c⟩)] := by
  have hp : 2 ^ n ≤ 2 ^ 5 := Nat.pow_le_pow_right (by decide) hn
  have hl32 : l.length ≤ 32 := by omega
  refine loop_n l.length (fun s e μ => ∃ q : RQ, q = can (evS (gv l) i s) ∧ e = [(0, .d (.sl 3 (el l))), (3, .d (.sl 3 d3)), (4, .d (.int .i64 0)), (5, .d (.int .i64 (n : Int))), (6, .own 6 3 0 m6), (7, .d (.int .i64 (i : Int))), (8, .ptr 8 0), (9, .d (.int .i64 (s : Int)))] ∧ μ = [(6, B6), (8, ⟨0, true, q.c⟩)]) ?_ ?_ ⟨_, rfl, rfl, rfl⟩
  · rintro s e μ hs ⟨q, hq, rfl, rfl⟩
    have nn := in_ev (nv := nv) s i (by omega) (by omega)
    cases tb' : s.testBit i
    · rw [tb'] at nn
      have e1 : evS (gv l) i (s + 1) = evS (gv l) i s := by rw [evS, if_neg (by rw [tb']; decide)]
      refine .inl ⟨_, _, ?_, q, by rw [e1, hq], rfl, rfl⟩
      clear hq tb' hl e1
      simp (disch := omega) [dendronlaw19_GameParts.b2, hs, nn]
    · rw [tb'] at nn
      have hc5 := cntN_le s 5
      have on := count19_ev (nv := nv) s n (by omega) (by omega)
      have c5 := cnt5 ⟨n, by omega⟩ ⟨s, by omega⟩ (by simp only; omega)
      simp only at c5
      rw [c5] at on
      have fr := rfrac_ev hz 1 ((cntN s 5 : Nat) : Int) (by omega) (by omega) (by omega) (by omega)
      have fb := frac0_b (m := cntN s 5) (by omega)
      have ml : EX ip nv (.call F.ratio_Mul [.d (.ag (ix l s).c), .d (.ag (can (Rat.divInt 1 ((cntN s 5 : Nat) : Int))).c)] []) = some (.ret (.d (.ag (can (gv l s * (can (Rat.divInt 1 ((cntN s 5 : Nat) : Int))).v)).c)) []) := rmul_ev hz (ix l s) (can (Rat.divInt 1 ((cntN s 5 : Nat) : Int))) (ixq_ok hk hs) (can_ok fb) h1 (by omega) (by omega)
      rw [can_v] at ml
      have sb := evS_b (f := gv l) (i := i) (m := l.length) (K := K) (fun s hs => gv_b hk h1 hs) s (by omega)
      have hle : (K + 2) * s ≤ (K + 2) * 32 := Nat.mul_le_mul_left _ (by omega)
      have ad := radd_ev hz (can (evS (gv l) i s)) (can (gv l s * Rat.divInt 1 ((cntN s 5 : Nat) : Int))) (can_ok sb) (can_ok ((gv_b hk h1 hs).mul fb)) (by omega) (by omega) (by omega)
      rw [can_v, can_v] at ad
      have e1 : evS (gv l) i (s + 1) = evS (gv l) i s + gv l s * Rat.divInt 1 ((cntN s 5 : Nat) : Int) := by rw [evS, if_pos tb']
      rw [← e1, ← hq] at ad
      refine .inl ⟨_, _, ?_, can (evS (gv l) i (s + 1)), rfl, rfl, rfl⟩
      clear hq tb' sb fb e1 hle hl c5
      generalize can (evS (gv l) i (s + 1)) = q1 at *
      generalize can (gv l s * Rat.divInt 1 ((cntN s 5 : Nat) : Int)) = q2 at *
      generalize can (Rat.divInt 1 ((cntN s 5 : Nat) : Int)) = q3 at *
      generalize cntN s 5 = cn at *
      simp (disch := omega) [dendronlaw19_GameParts.b2, hs, nn, on, fr, ml, ad]
  · rintro e μ ⟨q, hq, rfl, rfl⟩
    subst hq
    exact ⟨.exit 2, _, _, by simp [dendronlaw19_GameParts.b2] <;> first | rfl | exact ⟨rfl, rfl⟩, by simp, rfl, rfl, by rw [hl]⟩
theorem lp_b0 (hz : TzOk nv) (l : List RQ) (n K : Nat) (hn : n ≤ 5) (hlen : l.length = 2 ^ n) (hk : ∀ r ∈ l, r.ok K) (h1 : 1 ≤ K) (hK : K ≤ 100000) (d3 : List D) :
    ∃ z e μ, EX ip nv (.code (.loop [] [] dendronlaw19_GameParts.b0) [(0, .d (.sl 3 (el l))), (3, .d (.sl 3 d3)), (4, .d (.int .i64 0)), (5, .d (.int .i64 (n : Int))), (6, .own 6 3 0 0), (7, .d (.int .i64 0))] [(6, ⟨0, false, []⟩)]) = some (.st z e μ) ∧ z ≠ .normal ∧
      z = .exit 0 ∧ e = [(0, .d (.sl 3 (el l))), (3, .d (.sl 3 d3)), (4, .d (.int .i64 0)), (5, .d (.int .i64 (n : Int))), (6, .own 6 3 0 n), (7, .d (.int .i64 (n : Int))), (39, .d (.bool false))] ∧ μ = [(6, ⟨0, false, el (evL l n n)⟩)] := by
  refine loop_n n (fun i e μ => ∃ a : List RQ, a = evL l n i ∧ e = [(0, .d (.sl 3 (el l))), (3, .d (.sl 3 d3)), (4, .d (.int .i64 0)), (5, .d (.int .i64 (n : Int))), (6, .own 6 3 0 a.length), (7, .d (.int .i64 (i : Int)))] ∧ μ = [(6, ⟨0, false, el a⟩)]) ?_ ?_ ⟨[], rfl, rfl, rfl⟩
  · rintro i e μ hi ⟨a, ha, rfl, rfl⟩
    have hal : a.length = i := by rw [ha]; simp [evL]
    have z := zero_ev (nv := nv)
    obtain ⟨_, _, _, hr, -, rfl, rfl, rfl⟩ := lp_b2 hz l n i K (by omega) hi hlen hk h1 hK ⟨0, false, el a⟩ a.length d3
    refine .inl ⟨_, _, ?_, a ++ [can (evS (gv l) i (2 ^ n))], by rw [ha, evL, evL, tb_succ], rfl, rfl⟩
    clear ha
    generalize can (evS (gv l) i (2 ^ n)) = q at *
    generalize can 0 = q0 at *
    simp (disch := omega) [dendronlaw19_GameParts.b0, hi, z, hr]
  · rintro e μ ⟨a, ha, rfl, rfl⟩
    have hal : a.length = n := by rw [ha]; simp [evL]
    rw [hal]
    exact ⟨.exit 0, _, _, by simp [dendronlaw19_GameParts.b0] <;> first | rfl | exact ⟨rfl, rfl⟩, by simp, rfl, rfl, by rw [ha]⟩
end
theorem gameParts_ev (L : List RQ) (hL : L.length ≤ maxLen) (hk : ∀ r ∈ L, r.ok maxLen) : EX ip nv1 (.call F.dendronlaw19_GameParts [.d (.sl 3 (el L))] []) = some (.ret (.d (.bool true)) []) := by
  rw [S_call dendronlaw19_GameParts.ip rfl]
  have f1 := few19_ev (nv := nv1) L hL
  have hk2 := fewR_ok hk
  have hl : (fewR L).length ≤ 33 := by rw [fewR_len]; omega
  have aw := awake19_ev
  generalize fewR L = l at *
  have sz := size19_ev (nv := nv1) l hl
  cases hn : gmN l.length with
  | none =>
    rw [hn] at sz
    simp only at sz
    have b := by_bad (nv := nv1) l hl hn
    simp (disch := omega) [dendronlaw19_GameParts, f1, b, sz, aw]
  | some n =>
    rw [hn] at sz
    simp only at sz
    have hn6 := gmN_lt ⟨l.length, by omega⟩ n hn
    have hlen := (gmN_some ⟨l.length, by omega⟩ ⟨n, hn6⟩ hn).1
    simp only at hlen
    have hp : 2 ^ n ≤ 2 ^ 5 := Nat.pow_le_pow_right (by decide) (by omega)
    have n0 : ¬ (n : Int) < 0 := by omega
    have x := by_ev tzOk1 l n 2 hl hn hk2 (by omega) (by omega)
    obtain ⟨_, _, _, lp, -, rfl, rfl, rfl⟩ := lp_b0 (nv := nv1) tzOk1 l n 2 (by omega) hlen hk2 (by omega) (by omega) (el (evL l n n))
    have s := gsh_ev tzOk1 l n 2 hl hn hk2 (by omega) (by omega)
    obtain ⟨p1, p2, -⟩ := pB_le 2 (by omega) n (by omega)
    have hkx : ∀ r ∈ fwL (-1) l n, r.ok 95 := by
      intro r hr
      obtain ⟨s, hs, rfl⟩ := tb_mem hr
      exact (can_ok (fwd_b (.inr rfl) (fun s hs => gv_b hk2 (by omega) hs) n s hs)).mono (by omega)
    have hxl : (fwL (-1) l n).length = l.length := by simp [fwL]
    have y := by_ev tzOk1 (fwL (-1) l n) n 95 (by omega) (by rw [hxl]; exact hn) hkx (by omega) (by omega)
    have e : evL (fwL (-1) l n) n n = shL l n := tb_congr fun i hi => by
      rw [evS_congr (g := fwd (-1) n (gv l)) (m := 2 ^ n) (fun s hs => fwL_v (by omega)) (2 ^ n) (Nat.le_refl _), parts_shap (by omega) hi]
    rw [e] at y
    have z := shap_ev l n 2 hl hn hk2 (by omega) (by omega)
    have al2 := shL_all tzOk1 l n 2 (by omega) hlen hk2 (by omega) (by omega)
    have vb : ∀ p, p < n → Bq (1 + (2 + 2) * 2 ^ n) (evS (gv l) p (2 ^ n)) := fun p hp => evS_b (m := 2 ^ n) (fun s hs => gv_b hk2 (by omega) (by omega)) (2 ^ n) (Nat.le_refl _)
    have al1 : EX ip nv1 (.call F.dendronref10_All [.d (.sl 3 (el (evL l n n))), .d (.sl 3 (el (evL l n n)))] []) = some (.ret (.d (.bool true)) []) :=
      all10_ev tzOk1 n (1 + (2 + 2) * 2 ^ n) (fun p => evS (gv l) p (2 ^ n)) (evL l n n) (by simp [evL]) (by omega) (fun p hp => by
        have : ix (evL l n n) p = can (evS (gv l) p (2 ^ n)) := tb_ix hp
        rw [this]
        exact ⟨can_v _, can_ok (vb p hp)⟩) vb (by omega) (by omega)
    have hbl : (evL l n n).length = n := by simp [evL]
    clear vb e hkx
    generalize fwL (-1) l n = x1 at *
    generalize shL l n = z1 at *
    generalize evL l n n = q at *
    simp (disch := omega) [dendronlaw19_GameParts, f1, x, lp, s, y, z, al1, al2, hbl, sz, n0, aw]
end Go.Proofs.YtnmbpainnkdonaaGreatDoor
