/- GameShares: what each coalition adds that no smaller one had, and back. -/
import Derived.Test.YtnmbpainnkdonaaGreatDoorGm
import Derived.Test.YtnmbpainnkdonaaGreatDoorGd
set_option linter.unusedSimpArgs false
set_option linter.unusedVariables false
namespace Go.Proofs.YtnmbpainnkdonaaGreatDoor
open Go Go.Proofs.R
set_option maxRecDepth 10000
theorem xor_bit : ∀ i : Fin 5, ∀ s : Fin 32, s.val.testBit i.val = true → s.val ^^^ 2 ^ i.val = s.val - 2 ^ i.val := by decide
/-- How long numbers grow in so many passes. -/
def pB (K : Nat) : Nat → Nat
  | 0 => K
  | i + 1 => 2 * pB K i + 1
theorem pB_le (K : Nat) (h1 : 1 ≤ K) : ∀ i, i ≤ 5 → 1 ≤ pB K i ∧ pB K i ≤ 32 * K + 31 ∧ pB K i ≤ pB K 5 := by
  intro i hi
  have : i = 0 ∨ i = 1 ∨ i = 2 ∨ i = 3 ∨ i = 4 ∨ i = 5 := by omega
  rcases this with rfl | rfl | rfl | rfl | rfl | rfl <;> simp only [pB] <;> omega
theorem pass_no {c : Rat} {i s : Nat} {f : Nat → Rat} (h : s.testBit i = false) : pass c i f s = f s := by
  unfold pass
  rw [if_neg (by rw [h]; decide)]
theorem pass_b {c : Rat} (hc : c = 1 ∨ c = -1) {f : Nat → Rat} {m K i : Nat} (hf : ∀ s, s < m → Bq K (f s)) : ∀ s, s < m → Bq (2 * K + 1) (pass c i f s) := by
  intro s hs
  unfold pass
  split
  · rcases hc with rfl | rfl
    · rw [Rat.one_mul]
      exact ((hf s hs).add (hf (s - 2 ^ i) (Nat.lt_of_le_of_lt (Nat.sub_le _ _) hs))).mono (by omega)
    · have : f s + -1 * f (s - 2 ^ i) = f s - f (s - 2 ^ i) := by grind
      rw [this]
      exact ((hf s hs).sub (hf (s - 2 ^ i) (Nat.lt_of_le_of_lt (Nat.sub_le _ _) hs))).mono (by omega)
  · exact (hf s hs).mono (by omega)
theorem fwd_b {c : Rat} (hc : c = 1 ∨ c = -1) {f : Nat → Rat} {m K : Nat} (hf : ∀ s, s < m → Bq K (f s)) : ∀ i s, s < m → Bq (pB K i) (fwd c i f s)
  | 0, s, hs => hf s hs
  | i + 1, s, hs => pass_b hc (fwd_b hc hf i) s hs
/-- The numbers after some passes. -/
def fwL (c : Rat) (l : List RQ) (i : Nat) : List RQ := tb l.length fun s => can (fwd c i (gv l) s)
section
variable {nv : R.Nv}
theorem gclean_ev (hz : TzOk nv) (l : List RQ) (K : Nat) (hl : l.length ≤ 33) (hk : ∀ r ∈ l, r.ok K) (h1 : 1 ≤ K) (hK : K ≤ 100000) : EX ip nv (.call F.game_clean [.d (.sl 3 (el l))] []) = some (.ret (.own 8 3 0 l.length) [(8, ⟨0, false, el (fwL 1 l 0)⟩)]) := by
  rw [S_call game_clean.ip rfl]
  obtain ⟨_, _, _, hr, -, rfl, rfl, rfl⟩ : ∃ z e μ, EX ip nv (.code (.loop [] [] game_clean.b0) [(3, .own 8 3 0 l.length), (9, .d (.sl 3 (el l))), (10, .d (.int .i64 (l.length : Int))), (11, .d (.int .i64 0))] [(8, ⟨0, false, el (List.replicate l.length (⟨false, [], []⟩ : RQ))⟩)]) = some (.st z e μ) ∧ z ≠ .normal ∧
      z = .exit 0 ∧ e = [(3, .own 8 3 0 l.length), (9, .d (.sl 3 (el l))), (10, .d (.int .i64 (l.length : Int))), (11, .d (.int .i64 (l.length : Int))), (12, .d (.bool false))] ∧ μ = [(8, ⟨0, false, el (fwL 1 l 0)⟩)] := by
    refine loop_n l.length (fun i e μ => ∃ a : List RQ, a = tb l.length (mix i (fun s => can (gv l s)) fun _ => ⟨false, [], []⟩) ∧ e = [(3, .own 8 3 0 l.length), (9, .d (.sl 3 (el l))), (10, .d (.int .i64 (l.length : Int))), (11, .d (.int .i64 (i : Int)))] ∧ μ = [(8, ⟨0, false, el a⟩)]) ?_ ?_ ⟨_, by rw [mix_zero, rep_tb], rfl, rfl⟩
    · rintro i e μ hi ⟨a, ha, rfl, rfl⟩
      have hal : a.length = l.length := by rw [ha]; simp
      have cl : EX ip nv (.call F.ratio_Clean [.d (.ag (ix l i).c)] []) = some (.ret (.d (.ag (can (gv l i)).c)) []) := rclean_ev hz (ix l i) (ixq_ok hk hi) (by omega)
      have st := mix_step (n := l.length) (i := i) (g := fun s => can (gv l s)) (f := fun _ => (⟨false, [], []⟩ : RQ))
      rw [← ha] at st
      refine .inl ⟨_, _, ?_, a.set i (can (gv l i)), st, rfl, rfl⟩
      clear st ha
      generalize can (gv l i) = q at *
      simp (disch := omega) [game_clean.b0, hi, hal, cl, -vIA_o]
    · rintro e μ ⟨a, ha, rfl, rfl⟩
      rw [mix_all] at ha
      subst ha
      exact ⟨.exit 0, _, _, by simp [game_clean.b0] <;> first | rfl | exact ⟨rfl, rfl⟩, by simp, rfl, rfl, rfl⟩
  generalize fwL 1 l 0 = a at *
  simp (disch := omega) [game_clean, hr]
theorem gsh_bad (l : List RQ) (hl : l.length ≤ 33) (hn : gmN l.length = none) : EX ip nv (.call F.game_Shares [.d (.sl 3 (el l))] []) = some (.ret (.tp [.d (.sl 3 []), .d (.int .i64 1)]) []) := by
  rw [S_call game_Shares.ip rfl]
  have p := players_ev (nv := nv) l hl
  rw [hn] at p
  simp only at p
  simp (disch := omega) [game_Shares, p]
theorem gsh_b2 (hz : TzOk nv) (m n i K : Nat) (f : Nat → Rat) (hn : n ≤ 5) (hi : i < n) (hm : m = 2 ^ n) (hf : ∀ s, s < m → Bq K (f s)) (h1 : 1 ≤ K) (hK : K ≤ 100000) :
    ∃ z e μ, EX ip nv (.code (.loop [] [] game_Shares.b2) [(6, .own 17 3 0 m), (7, .d (.int .i64 (i : Int))), (18, .d (.int .i64 (n : Int))), (19, .d (.int .i64 (i : Int))), (23, .d (.int .i64 (m : Int))), (24, .d (.int .i64 0))] [(17, ⟨0, false, el (tb m fun s => can (f s))⟩)]) = some (.st z e μ) ∧ z ≠ .normal ∧
    z = .exit 2 ∧ e = [(6, .own 17 3 0 m), (7, .d (.int .i64 (i : Int))), (18, .d (.int .i64 (n : Int))), (19, .d (.int .i64 (i : Int))), (23, .d (.int .i64 (m : Int))), (24, .d (.int .i64 (m : Int))), (25, .d (.bool false))] ∧ μ = [(17, ⟨0, false, el (tb m fun s => can (pass (-1) i f s))⟩)] := by
  have hp : 2 ^ n ≤ 2 ^ 5 := Nat.pow_le_pow_right (by decide) hn
  have hm32 : m ≤ 32 := by omega
  refine loop_n m (fun s e μ => ∃ a : List RQ, a = tb m (mix s (fun s => can (pass (-1) i f s)) fun s => can (f s)) ∧ e = [(6, .own 17 3 0 m), (7, .d (.int .i64 (i : Int))), (18, .d (.int .i64 (n : Int))), (19, .d (.int .i64 (i : Int))), (23, .d (.int .i64 (m : Int))), (24, .d (.int .i64 (s : Int)))] ∧ μ = [(17, ⟨0, false, el a⟩)]) ?_ ?_ ⟨_, mix_zero.symm, rfl, rfl⟩
  · rintro s e μ hs ⟨a, ha, rfl, rfl⟩
    have hal : a.length = m := by rw [ha]; simp
    have st := mix_step (n := m) (i := s) (g := fun s => can (pass (-1) i f s)) (f := fun s => can (f s))
    rw [← ha] at st
    have hx : ix a s = can (f s) := by rw [ha, tb_ix hs, mix_at]
    have sh := i_shrN (s := s) (i := i) (by omega) (by omega)
    have an := ibits_and (a := s / 2 ^ i) (b := 1) (by have := Nat.div_le_self s (2 ^ i); omega) (by omega)
    rw [show s / 2 ^ i &&& 1 = s / 2 ^ i % 2 from Nat.and_one_is_mod _] at an
    have tb : s.testBit i = decide (s / 2 ^ i % 2 = 1) := Nat.testBit_eq_decide_div_mod_eq
    by_cases c : s / 2 ^ i % 2 = 1
    · have tb' : s.testBit i = true := by rw [tb]; simpa using c
      rw [c] at an
      obtain ⟨b1, b2⟩ := bit_sub tb'
      have hp0 := Nat.two_pow_pos i
      have ht : s - 2 ^ i < s := by omega
      have hpi : 2 ^ i < 32 := by omega
      have hy : ix a (s - 2 ^ i) = can (f (s - 2 ^ i)) := by
        rw [ha, tb_ix (by omega)]
        unfold mix
        rw [if_pos ht]
        show can (pass (-1) i f (s - 2 ^ i)) = _
        rw [pass_no b1]
      have xo := ibits_xor (a := s) (b := 2 ^ i) (by omega) (by omega)
      have xf := xor_bit ⟨i, by omega⟩ ⟨s, by omega⟩ tb'
      simp only at xf
      rw [xf] at xo
      have s1 := i_shl1 (n := i) (by omega)
      have op := rsub_ev hz (can (f s)) (can (f (s - 2 ^ i))) (can_ok (hf s hs)) (can_ok (hf (s - 2 ^ i) (by omega))) h1 h1 (by omega)
      rw [can_v, can_v] at op
      have e1 : pass (-1) i f s = f s - f (s - 2 ^ i) := by
        unfold pass
        rw [if_pos tb']
        grind
      rw [← e1] at op
      refine .inl ⟨_, _, ?_, a.set s (can (pass (-1) i f s)), st, rfl, rfl⟩
      clear st ha tb tb' b1 e1 xf c hm
      have htm : s - 2 ^ i < m := by omega
      generalize can (pass (-1) i f s) = q at *
      generalize can (f s) = q1 at *
      generalize can (f (s - 2 ^ i)) = q2 at *
      generalize s - 2 ^ i = t at *
      generalize 2 ^ i = p5 at *
      generalize s / p5 = d at *
      have an' : bitsD .and .i64 (d : Int) 1 = 1 := an
      simp (disch := omega) [game_Shares.b2, hs, sh, an', s1, xo, hal, hx, hy, htm, op, -vIA_o, -vBin_shr, -vBin_shl]
    · have tb' : s.testBit i = false := by rw [tb]; simpa using c
      have c0 : s / 2 ^ i % 2 = 0 := by omega
      rw [c0] at an
      have e1 : pass (-1) i f s = f s := by
        unfold pass
        rw [if_neg (by rw [tb']; decide)]
      have e2 : a.set s (can (pass (-1) i f s)) = a := by
        have hsa : s < a.length := by omega
        rw [e1, ← hx, show ix a s = a[s] from by simp [ix, hsa], List.set_getElem_self]
      rw [e2] at st
      refine .inl ⟨_, _, ?_, a, st, rfl, rfl⟩
      clear st ha tb tb' e1 e2 c c0 hm hx
      generalize 2 ^ i = p5 at *
      generalize s / p5 = d at *
      have an' : bitsD .and .i64 (d : Int) 1 = 0 := an
      simp (disch := omega) [game_Shares.b2, hs, sh, an', -vBin_shr]
  · rintro e μ ⟨a, ha, rfl, rfl⟩
    rw [mix_all] at ha
    subst ha
    exact ⟨.exit 2, _, _, by simp [game_Shares.b2] <;> first | rfl | exact ⟨rfl, rfl⟩, by simp, rfl, rfl, rfl⟩
theorem gsh_ev (hz : TzOk nv) (l : List RQ) (n K : Nat) (hl : l.length ≤ 33) (hn : gmN l.length = some n) (hk : ∀ r ∈ l, r.ok K) (h1 : 1 ≤ K) (hK : K ≤ 1000) : EX ip nv (.call F.game_Shares [.d (.sl 3 (el l))] []) = some (.ret (.tp [.d (.sl 3 (el (fwL (-1) l n))), .d (.int .i64 0)]) []) := by
  rw [S_call game_Shares.ip rfl]
  have p := players_ev (nv := nv) l hl
  rw [hn] at p
  simp only at p
  have hn6 := gmN_lt ⟨l.length, by omega⟩ n hn
  have hlen := (gmN_some ⟨l.length, by omega⟩ ⟨n, hn6⟩ hn).1
  simp only at hlen
  have cl := gclean_ev hz l K hl hk h1 (by omega)
  have e0 : fwL 1 l 0 = fwL (-1) l 0 := rfl
  rw [e0] at cl
  obtain ⟨_, _, _, hr, -, rfl, rfl, rfl⟩ : ∃ z e μ, EX ip nv (.code (.loop [] [] game_Shares.b0) [(6, .own 17 3 0 l.length), (18, .d (.int .i64 (n : Int))), (19, .d (.int .i64 0))] [(17, ⟨0, false, el (fwL (-1) l 0)⟩)]) = some (.st z e μ) ∧ z ≠ .normal ∧
      z = .exit 0 ∧ e = [(6, .own 17 3 0 l.length), (18, .d (.int .i64 (n : Int))), (19, .d (.int .i64 (n : Int))), (20, .d (.bool false))] ∧ μ = [(17, ⟨0, false, el (fwL (-1) l n)⟩)] := by
    refine loop_n n (fun i e μ => e = [(6, .own 17 3 0 l.length), (18, .d (.int .i64 (n : Int))), (19, .d (.int .i64 (i : Int)))] ∧ μ = [(17, ⟨0, false, el (fwL (-1) l i)⟩)]) ?_ ?_ ⟨rfl, rfl⟩
    · rintro i e μ hi ⟨rfl, rfl⟩
      obtain ⟨p1, p2, -⟩ := pB_le K h1 i (by omega)
      obtain ⟨_, _, _, hr, -, rfl, rfl, rfl⟩ := gsh_b2 hz l.length n i (pB K i) (fwd (-1) i (gv l)) (by omega) hi hlen (fwd_b (by simp) (fun s hs => gv_b hk h1 hs) i) p1 (by omega)
      refine .inl ⟨_, _, ?_, rfl, rfl⟩
      have e1 : fwL (-1) l (i + 1) = tb l.length fun s => can (pass (-1) i (fwd (-1) i (gv l)) s) := rfl
      have e2 : fwL (-1) l i = tb l.length fun s => can (fwd (-1) i (gv l) s) := rfl
      rw [← e1, ← e2] at hr
      clear e1 e2
      generalize fwL (-1) l (i + 1) = a1 at *
      generalize fwL (-1) l i = a2 at *
      simp (disch := omega) [game_Shares.b0, hi, hr]
    · rintro e μ ⟨rfl, rfl⟩
      exact ⟨.exit 0, _, _, by simp [game_Shares.b0] <;> first | rfl | exact ⟨rfl, rfl⟩, by simp, rfl, rfl, rfl⟩
  have hsl : (fwL (-1) l n).length = l.length := by simp [fwL]
  generalize fwL (-1) l n = a at *
  generalize fwL (-1) l 0 = a0 at *
  simp (disch := omega) [game_Shares, p, cl, hr, hsl]
theorem gfs_bad (l : List RQ) (hl : l.length ≤ 33) (hn : gmN l.length = none) : EX ip nv (.call F.game_FromShares [.d (.sl 3 (el l))] []) = some (.ret (.tp [.d (.sl 3 []), .d (.int .i64 1)]) []) := by
  rw [S_call game_FromShares.ip rfl]
  have p := players_ev (nv := nv) l hl
  rw [hn] at p
  simp only at p
  simp (disch := omega) [game_FromShares, p]
theorem gfs_b2 (hz : TzOk nv) (m n i K : Nat) (f : Nat → Rat) (hn : n ≤ 5) (hi : i < n) (hm : m = 2 ^ n) (hf : ∀ s, s < m → Bq K (f s)) (h1 : 1 ≤ K) (hK : K ≤ 100000) :
    ∃ z e μ, EX ip nv (.code (.loop [] [] game_FromShares.b2) [(6, .own 17 3 0 m), (7, .d (.int .i64 (i : Int))), (18, .d (.int .i64 (n : Int))), (19, .d (.int .i64 (i : Int))), (23, .d (.int .i64 (m : Int))), (24, .d (.int .i64 0))] [(17, ⟨0, false, el (tb m fun s => can (f s))⟩)]) = some (.st z e μ) ∧ z ≠ .normal ∧
    z = .exit 2 ∧ e = [(6, .own 17 3 0 m), (7, .d (.int .i64 (i : Int))), (18, .d (.int .i64 (n : Int))), (19, .d (.int .i64 (i : Int))), (23, .d (.int .i64 (m : Int))), (24, .d (.int .i64 (m : Int))), (25, .d (.bool false))] ∧ μ = [(17, ⟨0, false, el (tb m fun s => can (pass 1 i f s))⟩)] := by
  have hp : 2 ^ n ≤ 2 ^ 5 := Nat.pow_le_pow_right (by decide) hn
  have hm32 : m ≤ 32 := by omega
  refine loop_n m (fun s e μ => ∃ a : List RQ, a = tb m (mix s (fun s => can (pass 1 i f s)) fun s => can (f s)) ∧ e = [(6, .own 17 3 0 m), (7, .d (.int .i64 (i : Int))), (18, .d (.int .i64 (n : Int))), (19, .d (.int .i64 (i : Int))), (23, .d (.int .i64 (m : Int))), (24, .d (.int .i64 (s : Int)))] ∧ μ = [(17, ⟨0, false, el a⟩)]) ?_ ?_ ⟨_, mix_zero.symm, rfl, rfl⟩
  · rintro s e μ hs ⟨a, ha, rfl, rfl⟩
    have hal : a.length = m := by rw [ha]; simp
    have st := mix_step (n := m) (i := s) (g := fun s => can (pass 1 i f s)) (f := fun s => can (f s))
    rw [← ha] at st
    have hx : ix a s = can (f s) := by rw [ha, tb_ix hs, mix_at]
    have sh := i_shrN (s := s) (i := i) (by omega) (by omega)
    have an := ibits_and (a := s / 2 ^ i) (b := 1) (by have := Nat.div_le_self s (2 ^ i); omega) (by omega)
    rw [show s / 2 ^ i &&& 1 = s / 2 ^ i % 2 from Nat.and_one_is_mod _] at an
    have tb : s.testBit i = decide (s / 2 ^ i % 2 = 1) := Nat.testBit_eq_decide_div_mod_eq
    by_cases c : s / 2 ^ i % 2 = 1
    · have tb' : s.testBit i = true := by rw [tb]; simpa using c
      rw [c] at an
      obtain ⟨b1, b2⟩ := bit_sub tb'
      have hp0 := Nat.two_pow_pos i
      have ht : s - 2 ^ i < s := by omega
      have hpi : 2 ^ i < 32 := by omega
      have hy : ix a (s - 2 ^ i) = can (f (s - 2 ^ i)) := by
        rw [ha, tb_ix (by omega)]
        unfold mix
        rw [if_pos ht]
        show can (pass 1 i f (s - 2 ^ i)) = _
        rw [pass_no b1]
      have xo := ibits_xor (a := s) (b := 2 ^ i) (by omega) (by omega)
      have xf := xor_bit ⟨i, by omega⟩ ⟨s, by omega⟩ tb'
      simp only at xf
      rw [xf] at xo
      have s1 := i_shl1 (n := i) (by omega)
      have op := radd_ev hz (can (f s)) (can (f (s - 2 ^ i))) (can_ok (hf s hs)) (can_ok (hf (s - 2 ^ i) (by omega))) h1 h1 (by omega)
      rw [can_v, can_v] at op
      have e1 : pass 1 i f s = f s + f (s - 2 ^ i) := by
        unfold pass
        rw [if_pos tb']
        grind
      rw [← e1] at op
      refine .inl ⟨_, _, ?_, a.set s (can (pass 1 i f s)), st, rfl, rfl⟩
      clear st ha tb tb' b1 e1 xf c hm
      have htm : s - 2 ^ i < m := by omega
      generalize can (pass 1 i f s) = q at *
      generalize can (f s) = q1 at *
      generalize can (f (s - 2 ^ i)) = q2 at *
      generalize s - 2 ^ i = t at *
      generalize 2 ^ i = p5 at *
      generalize s / p5 = d at *
      have an' : bitsD .and .i64 (d : Int) 1 = 1 := an
      simp (disch := omega) [game_FromShares.b2, hs, sh, an', s1, xo, hal, hx, hy, htm, op, -vIA_o, -vBin_shr, -vBin_shl]
    · have tb' : s.testBit i = false := by rw [tb]; simpa using c
      have c0 : s / 2 ^ i % 2 = 0 := by omega
      rw [c0] at an
      have e1 : pass 1 i f s = f s := by
        unfold pass
        rw [if_neg (by rw [tb']; decide)]
      have e2 : a.set s (can (pass 1 i f s)) = a := by
        have hsa : s < a.length := by omega
        rw [e1, ← hx, show ix a s = a[s] from by simp [ix, hsa], List.set_getElem_self]
      rw [e2] at st
      refine .inl ⟨_, _, ?_, a, st, rfl, rfl⟩
      clear st ha tb tb' e1 e2 c c0 hm hx
      generalize 2 ^ i = p5 at *
      generalize s / p5 = d at *
      have an' : bitsD .and .i64 (d : Int) 1 = 0 := an
      simp (disch := omega) [game_FromShares.b2, hs, sh, an', -vBin_shr]
  · rintro e μ ⟨a, ha, rfl, rfl⟩
    rw [mix_all] at ha
    subst ha
    exact ⟨.exit 2, _, _, by simp [game_FromShares.b2] <;> first | rfl | exact ⟨rfl, rfl⟩, by simp, rfl, rfl, rfl⟩
theorem gfs_ev (hz : TzOk nv) (l : List RQ) (n K : Nat) (hl : l.length ≤ 33) (hn : gmN l.length = some n) (hk : ∀ r ∈ l, r.ok K) (h1 : 1 ≤ K) (hK : K ≤ 1000) : EX ip nv (.call F.game_FromShares [.d (.sl 3 (el l))] []) = some (.ret (.tp [.d (.sl 3 (el (fwL 1 l n))), .d (.int .i64 0)]) []) := by
  rw [S_call game_FromShares.ip rfl]
  have p := players_ev (nv := nv) l hl
  rw [hn] at p
  simp only at p
  have hn6 := gmN_lt ⟨l.length, by omega⟩ n hn
  have hlen := (gmN_some ⟨l.length, by omega⟩ ⟨n, hn6⟩ hn).1
  simp only at hlen
  have cl := gclean_ev hz l K hl hk h1 (by omega)
  have e0 : fwL 1 l 0 = fwL 1 l 0 := rfl
  rw [e0] at cl
  obtain ⟨_, _, _, hr, -, rfl, rfl, rfl⟩ : ∃ z e μ, EX ip nv (.code (.loop [] [] game_FromShares.b0) [(6, .own 17 3 0 l.length), (18, .d (.int .i64 (n : Int))), (19, .d (.int .i64 0))] [(17, ⟨0, false, el (fwL 1 l 0)⟩)]) = some (.st z e μ) ∧ z ≠ .normal ∧
      z = .exit 0 ∧ e = [(6, .own 17 3 0 l.length), (18, .d (.int .i64 (n : Int))), (19, .d (.int .i64 (n : Int))), (20, .d (.bool false))] ∧ μ = [(17, ⟨0, false, el (fwL 1 l n)⟩)] := by
    refine loop_n n (fun i e μ => e = [(6, .own 17 3 0 l.length), (18, .d (.int .i64 (n : Int))), (19, .d (.int .i64 (i : Int)))] ∧ μ = [(17, ⟨0, false, el (fwL 1 l i)⟩)]) ?_ ?_ ⟨rfl, rfl⟩
    · rintro i e μ hi ⟨rfl, rfl⟩
      obtain ⟨p1, p2, -⟩ := pB_le K h1 i (by omega)
      obtain ⟨_, _, _, hr, -, rfl, rfl, rfl⟩ := gfs_b2 hz l.length n i (pB K i) (fwd 1 i (gv l)) (by omega) hi hlen (fwd_b (by simp) (fun s hs => gv_b hk h1 hs) i) p1 (by omega)
      refine .inl ⟨_, _, ?_, rfl, rfl⟩
      have e1 : fwL 1 l (i + 1) = tb l.length fun s => can (pass 1 i (fwd 1 i (gv l)) s) := rfl
      have e2 : fwL 1 l i = tb l.length fun s => can (fwd 1 i (gv l) s) := rfl
      rw [← e1, ← e2] at hr
      clear e1 e2
      generalize fwL 1 l (i + 1) = a1 at *
      generalize fwL 1 l i = a2 at *
      simp (disch := omega) [game_FromShares.b0, hi, hr]
    · rintro e μ ⟨rfl, rfl⟩
      exact ⟨.exit 0, _, _, by simp [game_FromShares.b0] <;> first | rfl | exact ⟨rfl, rfl⟩, by simp, rfl, rfl, rfl⟩
  have hsl : (fwL 1 l n).length = l.length := by simp [fwL]
  generalize fwL 1 l n = a at *
  generalize fwL 1 l 0 = a0 at *
  simp (disch := omega) [game_FromShares, p, cl, hr, hsl]
end
end Go.Proofs.YtnmbpainnkdonaaGreatDoor
