/- KernelSystems: the law. -/
import Derived.Test.YtgigaimaaijalaaGreatDoorKm
import Derived.Test.YtgigaimaaijalaaGreatDoorSe
set_option linter.unusedSimpArgs false
set_option linter.unusedVariables false
namespace Go.Proofs.YtgigaimaaijalaaGreatDoor
open Go Go.Proofs.R
set_option maxRecDepth 10000
section
variable {nv : R.Nv}
theorem count19_ev (s n : Nat) (hs : s < 9223372036854775808) (hn : n ≤ 1000) : EX ip nv (.call F.dendronlaw19_Count [.d (.int .i64 (s : Int)), .d (.int .i64 (n : Int))] []) = some (.ret (.d (.int .i64 (cntN s n : Nat))) []) := by
  rw [S_call dendronlaw19_Count.ip rfl]
  obtain ⟨_, _, _, hr, -, rfl, rfl, rfl⟩ : ∃ z e μ, EX ip nv (.code (.loop [] [] dendronlaw19_Count.b0) [(0, .d (.int .i64 (s : Int))), (1, .d (.int .i64 (n : Int))), (5, .d (.int .i64 0)), (6, .d (.int .i64 0))] []) = some (.st z e μ) ∧ z ≠ .normal ∧
      z = .exit 0 ∧ e = [(0, .d (.int .i64 (s : Int))), (1, .d (.int .i64 (n : Int))), (5, .d (.int .i64 (cntN s n : Nat))), (6, .d (.int .i64 (n : Int))), (9, .d (.bool false))] ∧ μ = [] := by
    refine loop_n n (fun i e μ => ∃ m : Nat, m = cntN s i ∧ e = [(0, .d (.int .i64 (s : Int))), (1, .d (.int .i64 (n : Int))), (5, .d (.int .i64 (m : Int))), (6, .d (.int .i64 (i : Int)))] ∧ μ = []) ?_ ?_ ⟨0, rfl, rfl, rfl⟩
    · rintro i e μ hi ⟨m, hm, rfl, rfl⟩
      have ie := in_ev (nv := nv) s i hs (by omega)
      have hml := cntN_le s i
      rw [← hm] at hml
      refine .inl ⟨_, _, ?_, m + (if s.testBit i then 1 else 0), by rw [cntN_succ, hm], rfl, rfl⟩
      cases hb : s.testBit i
      · rw [hb] at ie
        simp (disch := omega) [dendronlaw19_Count.b0, hi, ie]
      · rw [hb] at ie
        simp (disch := omega) [dendronlaw19_Count.b0, hi, ie]
    · rintro e μ ⟨m, hm, rfl, rfl⟩
      subst hm
      exact ⟨.exit 0, _, [], by simp [dendronlaw19_Count.b0] <;> rfl, by simp, rfl, rfl, rfl⟩
  simp (disch := omega) [dendronlaw19_Count, hr]
theorem sy_b2 (hz : TzOk nv) (l b w : List RQ) (a : List (List RQ)) (C j : Nat) (B8 : Blk) (hC : C ≤ 4) (hj : j < 100) (hja : j < a.length) (hrl : (ix a j).length = C) (hr : ∀ i, i < C → ix (ix a j) i = can (kA C j i)) :
    ∃ z e μ, EX ip nv (.code (.loop [] [] dendronlaw20_KernelSystems.b2) [(0, .d (.sl 3 (el l))), (3, .d (.sl 1 (el a))), (4, .d (.sl 3 (el b))), (5, .d (.sl 3 (el w))), (7, .d (.int .i64 ((C : Int) + 1))), (8, .ptr 8 0), (9, .d (.int .i64 ((j : Int) + 1))), (10, .ptr 10 0), (11, .d (.int .i64 0))] [(8, B8), (10, ⟨0, true, (can (zB (j + 1) C)).c⟩)]) = some (.st z e μ) ∧ z ≠ .normal ∧
      z = .exit 2 ∧ e = [(0, .d (.sl 3 (el l))), (3, .d (.sl 1 (el a))), (4, .d (.sl 3 (el b))), (5, .d (.sl 3 (el w))), (7, .d (.int .i64 ((C : Int) + 1))), (8, .ptr 8 0), (9, .d (.int .i64 ((j : Int) + 1))), (10, .ptr 10 0), (11, .d (.int .i64 (C : Int))), (107, .d (.bool false))] ∧ μ = [(8, B8), (10, ⟨0, true, (can (zB (j + 1) C)).c⟩)] := by
  refine loop_n C (fun i e μ => e = [(0, .d (.sl 3 (el l))), (3, .d (.sl 1 (el a))), (4, .d (.sl 3 (el b))), (5, .d (.sl 3 (el w))), (7, .d (.int .i64 ((C : Int) + 1))), (8, .ptr 8 0), (9, .d (.int .i64 ((j : Int) + 1))), (10, .ptr 10 0), (11, .d (.int .i64 (i : Int)))] ∧ μ = [(8, B8), (10, ⟨0, true, (can (zB (j + 1) C)).c⟩)]) ?_ ?_ ⟨rfl, rfl⟩
  · rintro i e μ hi ⟨rfl, rfl⟩
    have ie := in_ev (nv := nv) (j + 1) i (by omega) (by omega)
    have e2 : ((j + 1 : Nat) : Int) = (j : Int) + 1 := by omega
    rw [e2] at ie
    have z := zero_ev (nv := nv)
    have o := rone_ev (nv := nv)
    have sb := rsub_ev (nv := nv) hz (can (zB (j + 1) i)) (can (zB (j + 1) C)) (can_ok (zB_b (j + 1) i)) (can_ok (zB_b (j + 1) C)) (by decide) (by decide) (by decide)
    rw [can_v, can_v, show zB (j + 1) i - zB (j + 1) C = kA C j i from rfl] at sb
    have kb : Bq 3 (kA C j i) := (zB_b _ _).sub (zB_b _ _)
    have sa := rsame_ev (nv := nv) hz (can (kA C j i)) (can (kA C j i)) (can_ok kb) (can_ok kb) (by decide) (by decide) (by decide)
    simp only [decide_true] at sa
    have hx := hr i hi
    have zb := zB_eq (j + 1) i
    refine .inl ⟨_, _, ?_, rfl, rfl⟩
    clear kb
    generalize can (kA C j i) = q1 at *
    generalize can (zB (j + 1) C) = q2 at *
    cases hb : (j + 1).testBit i
    · rw [hb] at ie zb
      simp only [Bool.false_eq_true, if_false] at zb
      rw [zb] at sb
      clear zb hb
      generalize can 0 = q0 at *
      generalize can 1 = q3 at *
      simp (disch := omega) [-vIA_o, dendronlaw20_KernelSystems.b2, hi, ie, z, o, sb, sa, hx, hja, hrl]
    · rw [hb] at ie zb
      simp only [if_true] at zb
      rw [zb] at sb
      clear zb hb
      generalize can 0 = q0 at *
      generalize can 1 = q3 at *
      simp (disch := omega) [-vIA_o, dendronlaw20_KernelSystems.b2, hi, ie, z, o, sb, sa, hx, hja, hrl]
  · rintro e μ ⟨rfl, rfl⟩
    exact ⟨.exit 2, _, _, by simp (disch := omega) [dendronlaw20_KernelSystems.b2] <;> first | rfl | exact ⟨rfl, rfl⟩, by simp, rfl, rfl, rfl⟩
theorem sy_b0 (hz : TzOk nv) (l b w : List RQ) (a : List (List RQ)) (C R : Nat) (h1 : 1 ≤ C) (hC : C ≤ 4) (hR : R = 2 ^ (C + 1) - 2) (hll : l.length = R + 2) (hl : ∀ r ∈ l, r.ok 2) (hal : a.length = R) (hbl : b.length = R) (hwl : w.length = R)
    (hrl : ∀ j, j < R → (ix a j).length = C) (ha : ∀ j i, j < R → i < C → ix (ix a j) i = can (kA C j i)) (hb : ∀ j, j < R → ix b j = can (kB l C j)) (hw : ∀ j, j < R → ix w j = can (kW C j)) :
    ∃ z e μ, EX ip nv (.code (.loop [] [] dendronlaw20_KernelSystems.b0) [(0, .d (.sl 3 (el l))), (3, .d (.sl 1 (el a))), (4, .d (.sl 3 (el b))), (5, .d (.sl 3 (el w))), (7, .d (.int .i64 ((C : Int) + 1))), (8, .ptr 8 0), (9, .d (.int .i64 1))] [(8, ⟨0, true, (can (kT l)).c⟩)]) = some (.st z e μ) ∧ z ≠ .normal ∧
      z = .exit 0 ∧ e = [(0, .d (.sl 3 (el l))), (3, .d (.sl 1 (el a))), (4, .d (.sl 3 (el b))), (5, .d (.sl 3 (el w))), (7, .d (.int .i64 ((C : Int) + 1))), (8, .ptr 8 0), (9, .d (.int .i64 ((R : Int) + 1))), (86, .d (.bool false))] ∧ μ = [(8, ⟨0, true, (can (kT l)).c⟩)] := by
  have hp : 2 ^ (C + 1) ≤ 2 ^ 5 := Nat.pow_le_pow_right (by decide) (by omega)
  have hR1 := kR_pos h1
  refine loop_n R (fun j e μ => e = [(0, .d (.sl 3 (el l))), (3, .d (.sl 1 (el a))), (4, .d (.sl 3 (el b))), (5, .d (.sl 3 (el w))), (7, .d (.int .i64 ((C : Int) + 1))), (8, .ptr 8 0), (9, .d (.int .i64 ((j : Int) + 1)))] ∧ μ = [(8, ⟨0, true, (can (kT l)).c⟩)]) ?_ ?_ ⟨rfl, rfl⟩
  · rintro j e μ hj ⟨rfl, rfl⟩
    obtain ⟨c0, c1, c2⟩ := kcnt (C := C) (j := j) hC (by omega)
    have ie := in_ev (nv := nv) (j + 1) C (by omega) (by omega)
    have ct := count19_ev (nv := nv) (j + 1) (C + 1) (by omega) (by omega)
    have kw := kweight_ev (nv := nv) hz c1 c2 (by omega)
    rw [show can (kwt (cntN (j + 1) (C + 1)) (C + 1)) = can (kW C j) from rfl] at kw
    have e2 : ((j + 1 : Nat) : Int) = (j : Int) + 1 := by omega
    have e3 : ((C + 1 : Nat) : Int) = (C : Int) + 1 := by omega
    rw [e2] at ie
    rw [e2, e3] at ct
    rw [e3] at kw
    have z := zero_ev (nv := nv)
    have o := rone_ev (nv := nv)
    obtain ⟨_, _, _, l2, -, rfl, rfl, rfl⟩ := sy_b2 (nv := nv) hz l b w a C j ⟨0, true, (can (kT l)).c⟩ hC (by omega) (by omega) (hrl j hj) (fun i hi => ha j i hj hi)
    have hj1 : j + 1 < l.length := by omega
    have h0 : 0 < l.length := by omega
    have h2 : 2 ≤ l.length := by omega
    have kwb := kW_b (C := C) (j := j) hC (by omega)
    have kbb := kB_b hl h2 (C := C) hj1
    have s0 := rsame_ev (nv := nv) hz (can (kW C j)) (can (kW C j)) (can_ok kwb) (can_ok kwb) (by decide) (by decide) (by decide)
    have s3 := rsame_ev (nv := nv) hz (can (kB l C j)) (can (kB l C j)) (can_ok kbb) (can_ok kbb) (by decide) (by decide) (by decide)
    simp only [decide_true] at s0 s3
    have s1 := rsub_ev (nv := nv) hz (ix l (j + 1)) (ix l 0) (ixq_ok hl hj1) (ixq_ok hl h0) (by decide) (by decide) (by decide)
    have q1 := (Bq.v (ixq_ok hl hj1) (by decide)).sub (Bq.v (ixq_ok hl h0) (by decide))
    have m1 := rmul_ev (nv := nv) hz (can (kT l)) (can (zB (j + 1) C)) (can_ok (kT_b hl h2)) (can_ok (zB_b (j + 1) C)) (by decide) (by decide) (by decide)
    rw [can_v, can_v] at m1
    have s2 := rsub_ev (nv := nv) hz (can ((ix l (j + 1)).v - (ix l 0).v)) (can (kT l * zB (j + 1) C)) (can_ok q1) (can_ok ((kT_b hl h2).mul (zB_b (j + 1) C))) (by decide) (by decide) (by decide)
    rw [can_v, can_v, show (ix l (j + 1)).v - (ix l 0).v - kT l * zB (j + 1) C = kB l C j from rfl] at s2
    have hja : j < a.length := by omega
    have hjb : j < b.length := by omega
    have hjw : j < w.length := by omega
    have hb' := hb j hj
    have hw' := hw j hj
    have hrl' := hrl j hj
    have zb := zB_eq (j + 1) C
    have e1 : (j : Int) + 1 < (l.length : Int) - 1 := by omega
    have hl32 : l.length ≤ 32 := by omega
    refine .inl ⟨_, _, ?_, rfl, rfl⟩
    clear kwb kbb q1 hl hb hw ha hrl hR hp hR1 c0 c1 c2
    generalize can (kW C j) = q2 at *
    generalize can (kB l C j) = q3 at *
    generalize can (kT l * zB (j + 1) C) = q4 at *
    generalize can ((ix l (j + 1)).v - (ix l 0).v) = q5 at *
    generalize can (kT l) = q6 at *
    generalize cntN (j + 1) (C + 1) = cn at *
    cases hbt : (j + 1).testBit C
    · rw [hbt] at ie zb
      simp only [Bool.false_eq_true, if_false] at zb
      rw [zb] at l2 m1
      clear zb hbt
      generalize can 0 = q0 at *
      generalize can 1 = q7 at *
      simp (disch := omega) [-vIA_o, dendronlaw20_KernelSystems.b0, e1, ie, z, o, l2, ct, kw, s0, s1, s2, s3, m1, hja, hjb, hjw, hb', hw', hrl', hj1, h0]
    · rw [hbt] at ie zb
      simp only [if_true] at zb
      rw [zb] at l2 m1
      clear zb hbt
      generalize can 0 = q0 at *
      generalize can 1 = q7 at *
      simp (disch := omega) [-vIA_o, dendronlaw20_KernelSystems.b0, e1, ie, z, o, l2, ct, kw, s0, s1, s2, s3, m1, hja, hjb, hjw, hb', hw', hrl', hj1, h0]
  · rintro e μ ⟨rfl, rfl⟩
    have e1 : ¬ (R : Int) + 1 < (l.length : Int) - 1 := by omega
    exact ⟨.exit 0, _, _, by simp (disch := omega) [dendronlaw20_KernelSystems.b0, e1] <;> first | rfl | exact ⟨rfl, rfl⟩, by simp, rfl, rfl, rfl⟩
theorem all10_ev (hz : TzOk nv) (n K : Nat) (f : Nat → Rat) (y : List RQ) (hyl : y.length = n) (hn : n ≤ 1000000) (hy : ∀ p, p < n → (ix y p).v = f p ∧ (ix y p).ok K) (hf : ∀ p, p < n → Bq K (f p)) (h1 : 1 ≤ K) (hK : K ≤ 100000000) :
    EX ip nv (.call F.dendronref10_All [.d (.sl 3 (el (tb n fun p => can (f p)))), .d (.sl 3 (el y))] []) = some (.ret (.d (.bool true)) []) := by
  rw [S_call dendronref10_All.ip rfl]
  have hxl : (tb n fun p => can (f p)).length = n := tb_len _ _
  have hxi : ∀ p, p < n → ix (tb n fun p => can (f p)) p = can (f p) := fun p hp => tb_ix hp
  generalize (tb n fun p => can (f p)) = x at *
  obtain ⟨_, _, _, hr, -, rfl, rfl, rfl⟩ : ∃ z e μ, EX ip nv (.code (.loop [] [] dendronref10_All.b0) [(0, .d (.sl 3 (el x))), (1, .d (.sl 3 (el y))), (5, .d (.int .i64 0))] []) = some (.st z e μ) ∧ z ≠ .normal ∧
      z = .exit 0 ∧ e = [(0, .d (.sl 3 (el x))), (1, .d (.sl 3 (el y))), (5, .d (.int .i64 (n : Int))), (14, .d (.bool false))] ∧ μ = [] := by
    refine loop_n n (fun p e μ => e = [(0, .d (.sl 3 (el x))), (1, .d (.sl 3 (el y))), (5, .d (.int .i64 (p : Int)))] ∧ μ = []) ?_ ?_ ⟨rfl, rfl⟩
    · rintro p e μ hp ⟨rfl, rfl⟩
      obtain ⟨v, ok⟩ := hy p hp
      have is := is10_ev (nv := nv) (f p) (ix y p) (hf p hp) ok h1 h1 hK hK
      rw [v] at is
      simp only [decide_true] at is
      have hx := hxi p hp
      refine .inl ⟨_, _, ?_, rfl, rfl⟩
      generalize can (f p) = q at *
      simp (disch := omega) [dendronref10_All.b0, hp, hxl, hyl, hx, is]
    · rintro e μ ⟨rfl, rfl⟩
      exact ⟨.exit 0, _, [], by simp [dendronref10_All.b0, hxl] <;> rfl, by simp, rfl, rfl, rfl⟩
  simp (disch := omega) [dendronref10_All, hxl, hyl, hr]
theorem system_bad (l : List RQ) (hl33 : l.length ≤ 33) (hg : gmN l.length = none ∨ gmN l.length = some 0 ∨ gmN l.length = some 1) : EX ip nv (.call F.kernel_System [.d (.sl 3 (el l))] []) = some (.ret (.tp [.d (.sl 1 []), .d (.sl 3 []), .d (.sl 3 []), .d (.int .i64 1)]) []) := by
  rw [S_call kernel_System.ip rfl]
  have p := players_ev (nv := nv) l hl33
  rcases hg with hg | hg | hg <;> (rw [hg] at p; simp only at p; simp (disch := omega) [kernel_System, p])
end
theorem shL_take (l : List RQ) (C : Nat) : List.take C (shL l (C + 1)) = tb C fun k => can (shV (gv l) (C + 1) k) := by
  unfold shL
  rw [tb_succ, List.take_append_of_le_length (by simp)]
  exact List.take_of_length_le (by simp)
theorem ksystems_ev (a : List RQ) (hal : a.length ≤ maxLen) (ha : ∀ r ∈ a, r.ok maxLen) : EX ip nv1 (.call F.dendronlaw20_KernelSystems [.d (.sl 3 (el a))] []) = some (.ret (.d (.bool true)) []) := by
  rw [S_call dendronlaw20_KernelSystems.ip rfl]
  have f1 := few19_ev (nv := nv1) a hal
  have hl := fewR_ok ha
  have hl33 : (fewR a).length ≤ 33 := by rw [fewR_len]; omega
  have aw := kawake (nv := nv1) tzOk1
  generalize fewR a = l at *
  clear ha hal
  have sz := size19_ev (nv := nv1) l hl33
  by_cases hg : ∃ C, 1 ≤ C ∧ gmN l.length = some (C + 1)
  · obtain ⟨C, h1, hg⟩ := hg
    have hn6 := gmN_lt ⟨l.length, by omega⟩ (C + 1) hg
    have hC : C ≤ 4 := by omega
    have hlen := (gmN_some ⟨l.length, by omega⟩ ⟨C + 1, hn6⟩ hg).1
    simp only at hlen
    have hp25 : 2 ^ (C + 1) ≤ 2 ^ 5 := Nat.pow_le_pow_right (by decide) (by omega)
    have hR := kR_pos h1
    rw [hg] at sz
    simp only at sz
    have sy : EX ip nv1 (.call F.kernel_System [.d (.sl 3 (el l))] []) = some (.ret (.tp [.d (.sl 1 (el (kAl C))), .d (.sl 3 (el (kBl l C))), .d (.sl 3 (el (kWl C))), .d (.int .i64 0)]) []) := by
      have sy := system_ev (nv := nv1) tzOk1 l C h1 hC hl33 hg hl
      rw [hlen] at sy
      exact sy
    have hc := kA_cols h1
    have hAl : (kAl C).length = 2 ^ (C + 1) - 2 := tbl_len _ _ _
    have hBl : (kBl l C).length = 2 ^ (C + 1) - 2 := rw_len _ _
    have hWl : (kWl C).length = 2 ^ (C + 1) - 2 := rw_len _ _
    have hAok : ∀ r ∈ kAl C, ∀ x ∈ r, x.ok 12 := tbl_mem_ok fun i j _ _ => ((zB_b _ _).sub (zB_b _ _)).mono (by decide)
    have hBok : ∀ x ∈ kBl l C, x.ok 12 := by
      intro x hx
      obtain ⟨i, hi, rfl⟩ := List.getElem_of_mem hx
      rw [rw_len] at hi
      rw [← ix_get (by simpa using hi), rw_ix _ hi]
      exact can_ok (kB_b hl (by omega) (by omega))
    have hWok : ∀ x ∈ kWl C, x.ok 12 := by
      intro x hx
      obtain ⟨i, hi, rfl⟩ := List.getElem_of_mem hx
      rw [rw_len] at hi
      rw [← ix_get (by simpa using hi), rw_ix _ hi]
      exact can_ok ((kW_b hC (by omega)).mono (by decide))
    have h5 : 5 ^ C ≤ 5 ^ 4 := Nat.pow_le_pow_right (by decide) hC
    obtain ⟨H, le, hp⟩ := least_h (nv := nv1) tzOk1 (kAl C) (kBl l C) (kWl C) (k := 12) (m := 1200) hAok hBok hWok (by decide) (by omega) (by
      rw [hc]
      have : (C + 1) * (5 ^ C * 1200 + 1200 + 1) ≤ 5 * (625 * 1200 + 1200 + 1) := Nat.mul_le_mul (by omega) (by omega)
      omega) (tbl_rect _ _ _) (by rw [rw_len, tbl_len]) (by rw [rw_len, tbl_len]) (by omega) (by omega) (by omega) (fun ⟨i, hi, hn⟩ => by
        rw [rw_len] at hi
        rw [kW_ix hi] at hn
        have := kW_nn hC i hi
        grind) (k_full h1 hC)
    rw [hc] at le
    rw [show lsX (kAl C) (kBl l C) (kWl C) = kX l C from rfl] at le
    have hXl := kX_len l h1
    have dd : asDD ((117, (⟨0, false, el (kX l C)⟩ : Blk)) :: H) 1 (.own 117 3 0 C) = some (.sl 3 (el (kX l C))) := asDD_rowp rfl (by simp [hXl]) (un_rqs _ _)
    obtain ⟨_, _, _, lp, -, rfl, rfl, rfl⟩ := sy_b0 (nv := nv1) tzOk1 l (kBl l C) (kWl C) (kAl C) C (2 ^ (C + 1) - 2) h1 hC rfl (by omega) hl hAl hBl hWl
      (fun j hj => by rw [tbl_ix hj, rw_len]) (fun j i hj hi => by rw [tbl_ix hj, rw_ix _ hi]) (fun j hj => rw_ix _ hj) (fun j hj => rw_ix _ hj)
    have sh := shap_ev l (C + 1) 2 hl33 hg hl (by omega) (by omega)
    have hsl : (shL l (C + 1)).length = C + 1 := by simp [shL]
    have hst := shL_take l C
    have vb : ∀ p, p < C → Bq (1 + (2 * 2 + 22) * 32) (shV (gv l) (C + 1) p) := fun p hp => shV_b (by omega) (fun s hs => gv_b hl (by omega) (by omega)) (by omega)
    have al := all10_ev (nv := nv1) tzOk1 C (1 + (2 * 2 + 22) * 32) (fun p => shV (gv l) (C + 1) p) (tb C fun k => can (shV (gv l) (C + 1) k)) (by simp) (by omega) (fun p hp => by
      rw [tb_ix hp]
      exact ⟨can_v _, can_ok (vb p hp)⟩) vb (by omega) (by omega)
    rw [← kX_list h1 hC hlen] at al hst
    have h0 : 0 < l.length := by omega
    have hL : l.length - 1 < l.length := by omega
    have eL : (l.length : Int) - 1 = ((l.length - 1 : Nat) : Int) := by omega
    have s1 := rsub_ev (nv := nv1) tzOk1 (ix l (l.length - 1)) (ix l 0) (ixq_ok hl hL) (ixq_ok hl h0) (by decide) (by decide) (by decide)
    rw [show (ix l (l.length - 1)).v - (ix l 0).v = kT l from rfl] at s1
    have e3 : ((C + 1 : Nat) : Int) = (C : Int) + 1 := by omega
    rw [e3] at sz
    have n1 : ¬ (C : Int) + 1 < 2 := by omega
    have g1 : (l.length : Int) - 2 = ((2 ^ (C + 1) - 2 : Nat) : Int) := by omega
    have hl32 : l.length ≤ 32 := by omega
    clear vb hAok hBok hWok h5 hc
    generalize kX l C = X at *
    generalize kAl C = A at *
    generalize kBl l C = B at *
    generalize kWl C = W at *
    generalize can (kT l) = qT at *
    generalize shL l (C + 1) = Y at *
    generalize 2 ^ (C + 1) - 2 = R at *
    have hAB : B.length = A.length := by omega
    have hAW : W.length = A.length := by omega
    simp (disch := omega) [-vIA_o, dendronlaw20_KernelSystems, f1, sz, n1, sy, g1, hAl, hBl, hWl, eL, hL, h0, s1, lp, le, dd, sh, hsl, hst, al, aw]
  · have hb : gmN l.length = none ∨ gmN l.length = some 0 ∨ gmN l.length = some 1 := by
      cases hn : gmN l.length with
      | none => exact .inl rfl
      | some m =>
        by_cases h0 : m = 0
        · subst h0; exact .inr (.inl rfl)
        · by_cases h1 : m = 1
          · subst h1; exact .inr (.inr rfl)
          · exact absurd ⟨m - 1, by omega, by rw [hn]; congr 1; omega⟩ hg
    have sy := system_bad (nv := nv1) l hl33 hb
    rcases hb with hb | hb | hb <;> (rw [hb] at sz; simp only at sz; simp (disch := omega) [dendronlaw20_KernelSystems, f1, sz, sy, aw])
end Go.Proofs.YtgigaimaaijalaaGreatDoor
