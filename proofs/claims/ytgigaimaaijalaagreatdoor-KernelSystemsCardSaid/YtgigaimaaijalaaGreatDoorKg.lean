/- The equations of a game: kernel.System; sums. -/
import Derived.Test.YtgigaimaaijalaaGreatDoorKf
import Derived.Test.YtgigaimaaijalaaGreatDoorRg
set_option linter.unusedSimpArgs false
set_option linter.unusedVariables false
namespace Go.Proofs.YtgigaimaaijalaaGreatDoor
open Go Go.Proofs.R
set_option maxRecDepth 10000
/-- Is a player in a coalition? -/
def zB (s i : Nat) : Rat := ((((s / 2 ^ i % 2 : Nat) : Int)) : Rat)
theorem zB_eq (s i : Nat) : zB s i = if s.testBit i then 1 else 0 := by
  have tb : s.testBit i = decide (s / 2 ^ i % 2 = 1) := Nat.testBit_eq_decide_div_mod_eq
  unfold zB
  rw [tb]
  have h : s / 2 ^ i % 2 = 0 ∨ s / 2 ^ i % 2 = 1 := by omega
  rcases h with h | h <;> rw [h] <;> simp
theorem zB_b (s i : Nat) : Bq 1 (zB s i) := by
  rw [zB_eq]; split
  · exact ⟨by simp [pw], by simp [pw]⟩
  · exact Bq.zero
/-- The rows, the right side, the weights. -/
def kA (C : Nat) : Tb := fun j i => zB (j + 1) i - zB (j + 1) C
def kT (l : List RQ) : Rat := (ix l (l.length - 1)).v - (ix l 0).v
def kB (l : List RQ) (C : Nat) : Nat → Rat := fun j => (ix l (j + 1)).v - (ix l 0).v - kT l * zB (j + 1) C
def kW (C : Nat) : Nat → Rat := fun j => kwt (cntN (j + 1) (C + 1)) (C + 1)
theorem rw_succ' (C : Nat) (g : Nat → Rat) : rw' (C + 1) g = rw' C g ++ [can (g C)] := by simp [rw', List.range_succ]
section
variable {nv : R.Nv}
theorem sys_b2 (hz : TzOk nv) (l : List RQ) (C s j : Nat) (B8 B9 B10 B11 : Blk) (hC : C ≤ 4) (hs : s < 100) (hsj : s = j + 1) :
    ∃ z e μ, EX ip nv (.code (.loop [] [] kernel_System.b2) [(0, .d (.sl 3 (el l))), (6, .d (.int .i64 ((C : Int) + 1))), (8, .ptr 8 0), (9, .own 9 1 0 j), (10, .own 10 3 0 j), (11, .own 11 3 0 j), (12, .d (.int .i64 (s : Int))), (13, .ptr 13 0), (14, .own 14 3 0 0), (53, .d (.int .i64 (C : Int))), (54, .d (.int .i64 0))] [(8, B8), (9, B9), (10, B10), (11, B11), (13, ⟨0, true, (can (zB s C)).c⟩), (14, ⟨0, false, []⟩)]) = some (.st z e μ) ∧ z ≠ .normal ∧
      z = .exit 2 ∧ e = [(0, .d (.sl 3 (el l))), (6, .d (.int .i64 ((C : Int) + 1))), (8, .ptr 8 0), (9, .own 9 1 0 j), (10, .own 10 3 0 j), (11, .own 11 3 0 j), (12, .d (.int .i64 (s : Int))), (13, .ptr 13 0), (14, .own 14 3 0 C), (53, .d (.int .i64 (C : Int))), (54, .d (.int .i64 (C : Int))), (55, .d (.bool false))] ∧ μ = [(8, B8), (9, B9), (10, B10), (11, B11), (13, ⟨0, true, (can (zB s C)).c⟩), (14, ⟨0, false, el (rw' C (kA C j))⟩)] := by
  refine loop_n C (fun i e μ => e = [(0, .d (.sl 3 (el l))), (6, .d (.int .i64 ((C : Int) + 1))), (8, .ptr 8 0), (9, .own 9 1 0 j), (10, .own 10 3 0 j), (11, .own 11 3 0 j), (12, .d (.int .i64 (s : Int))), (13, .ptr 13 0), (14, .own 14 3 0 i), (53, .d (.int .i64 (C : Int))), (54, .d (.int .i64 (i : Int)))] ∧ μ = [(8, B8), (9, B9), (10, B10), (11, B11), (13, ⟨0, true, (can (zB s C)).c⟩), (14, ⟨0, false, el (rw' i (kA C j))⟩)]) ?_ ?_ ⟨rfl, rfl⟩
  · rintro i e μ hi ⟨rfl, rfl⟩
    have sh := i_shrN (s := s) (i := i) (by omega) (by omega)
    have hle : s / 2 ^ i ≤ s := Nat.div_le_self _ _
    have ha := ibits_and (a := s / 2 ^ i) (b := 1) (by omega) (by omega)
    rw [show s / 2 ^ i &&& 1 = s / 2 ^ i % 2 from Nat.and_one_is_mod _] at ha
    have hb2 : s / 2 ^ i % 2 < 2 := Nat.mod_lt _ (by decide)
    have rf := rof_ev (nv := nv) (((s / 2 ^ i % 2 : Nat) : Int)) (by omega) (by omega)
    rw [show ((((s / 2 ^ i % 2 : Nat) : Int)) : Rat) = zB s i from rfl] at rf
    have sb := rsub_ev (nv := nv) hz (can (zB s i)) (can (zB s C)) (can_ok (zB_b s i)) (can_ok (zB_b s C)) (by decide) (by decide) (by decide)
    rw [can_v, can_v, show zB s i - zB s C = kA C j i by unfold kA; rw [hsj]] at sb
    have hlen := rw_len i (kA C j)
    have ht : List.take i (rw' i (kA C j)) = rw' i (kA C j) := List.take_of_length_le (by omega)
    have hby : (i + 1) * 56 ≤ 70368744177664 := by omega
    refine .inl ⟨_, _, ?_, rfl, rfl⟩
    rw [rw_succ']
    generalize rw' i (kA C j) = g at *
    generalize can (kA C j i) = q at *
    generalize can (zB s i) = q1 at *
    generalize can (zB s C) = q2 at *
    generalize s / 2 ^ i % 2 = r at *
    generalize s / 2 ^ i = d at *
    have ha' : bitsD .and .i64 (d : Int) 1 = (r : Int) := ha
    simp (disch := omega) [-vIA_o, kernel_System.b2, hi, sh, ha', rf, sb, hlen, ht, hby, -vBin_shr]
  · rintro e μ ⟨rfl, rfl⟩
    exact ⟨.exit 2, _, _, by simp [kernel_System.b2] <;> first | rfl | exact ⟨rfl, rfl⟩, by simp, rfl, rfl, rfl⟩
theorem kT_b {l : List RQ} (hl : ∀ r ∈ l, r.ok 2) (h : 2 ≤ l.length) : Bq 5 (kT l) := (Bq.v (ixq_ok hl (by omega)) (by decide)).sub (Bq.v (ixq_ok hl (by omega)) (by decide))
theorem kB_b {l : List RQ} (hl : ∀ r ∈ l, r.ok 2) (h : 2 ≤ l.length) {C j : Nat} (hj : j + 1 < l.length) : Bq 12 (kB l C j) :=
  ((Bq.v (ixq_ok hl hj) (by decide)).sub (Bq.v (ixq_ok hl (by omega)) (by decide))).sub ((kT_b hl h).mul (zB_b (j + 1) C))
theorem kcnt {C j : Nat} (hC : C ≤ 4) (hj : j + 2 < 2 ^ (C + 1)) : cntN (j + 1) (C + 1) = cntN (j + 1) 5 ∧ 1 ≤ cntN (j + 1) (C + 1) ∧ cntN (j + 1) (C + 1) < C + 1 := by
  have hp : 2 ^ (C + 1) ≤ 2 ^ 5 := Nat.pow_le_pow_right (by decide) (by omega)
  exact cnt_facts ⟨C + 1, by omega⟩ ⟨j + 1, by omega⟩ (by simp) (by simp only; omega)
theorem kW_b {C j : Nat} (hC : C ≤ 4) (hj : j + 2 < 2 ^ (C + 1)) : Bq 4 (kW C j) := by
  obtain ⟨_, c1, c2⟩ := kcnt hC hj
  exact kwt_b c1 c2 (by omega)
theorem sys_b0 (hz : TzOk nv) (l : List RQ) (C : Nat) (hC : C ≤ 4) (hll : l.length = 2 ^ (C + 1)) (h2 : 2 ≤ l.length) (hl : ∀ r ∈ l, r.ok 2) :
    ∃ z e μ, EX ip nv (.code (.loop [] [] kernel_System.b0) [(0, .d (.sl 3 (el l))), (6, .d (.int .i64 ((C : Int) + 1))), (8, .ptr 8 0), (9, .own 9 1 0 0), (10, .own 10 3 0 0), (11, .own 11 3 0 0), (12, .d (.int .i64 1))] [(8, ⟨0, true, (can (kT l)).c⟩), (9, ⟨0, false, []⟩), (10, ⟨0, false, []⟩), (11, ⟨0, false, []⟩)]) = some (.st z e μ) ∧ z ≠ .normal ∧
      z = .exit 0 ∧ e = [(0, .d (.sl 3 (el l))), (6, .d (.int .i64 ((C : Int) + 1))), (8, .ptr 8 0), (9, .own 9 1 0 (l.length - 2)), (10, .own 10 3 0 (l.length - 2)), (11, .own 11 3 0 (l.length - 2)), (12, .d (.int .i64 ((l.length - 2 : Nat) + 1 : Int))), (43, .d (.bool false))] ∧ μ = [(8, ⟨0, true, (can (kT l)).c⟩), (9, ⟨0, false, el (tbl (l.length - 2) C (kA C))⟩), (10, ⟨0, false, el (rw' (l.length - 2) (kB l C))⟩), (11, ⟨0, false, el (rw' (l.length - 2) (kW C))⟩)] := by
  have hp : 2 ^ (C + 1) ≤ 2 ^ 5 := Nat.pow_le_pow_right (by decide) (by omega)
  refine loop_n (l.length - 2) (fun j e μ => e = [(0, .d (.sl 3 (el l))), (6, .d (.int .i64 ((C : Int) + 1))), (8, .ptr 8 0), (9, .own 9 1 0 j), (10, .own 10 3 0 j), (11, .own 11 3 0 j), (12, .d (.int .i64 ((j : Int) + 1)))] ∧ μ = [(8, ⟨0, true, (can (kT l)).c⟩), (9, ⟨0, false, el (tbl j C (kA C))⟩), (10, ⟨0, false, el (rw' j (kB l C))⟩), (11, ⟨0, false, el (rw' j (kW C))⟩)]) ?_ ?_ ⟨rfl, rfl⟩
  · rintro j e μ hj ⟨rfl, rfl⟩
    obtain ⟨c0, c1, c2⟩ := kcnt (C := C) (j := j) hC (by omega)
    have sh := i_shrN (s := j + 1) (i := C) (by omega) (by omega)
    have hle : (j + 1) / 2 ^ C ≤ j + 1 := Nat.div_le_self _ _
    have ha := ibits_and (a := (j + 1) / 2 ^ C) (b := 1) (by omega) (by omega)
    rw [show (j + 1) / 2 ^ C &&& 1 = (j + 1) / 2 ^ C % 2 from Nat.and_one_is_mod _] at ha
    have hb2 : (j + 1) / 2 ^ C % 2 < 2 := Nat.mod_lt _ (by decide)
    have rf := rof_ev (nv := nv) ((((j + 1) / 2 ^ C % 2 : Nat) : Int)) (by omega) (by omega)
    rw [show (((((j + 1) / 2 ^ C % 2 : Nat) : Int)) : Rat) = zB (j + 1) C from rfl] at rf
    obtain ⟨_, _, _, l2, -, rfl, rfl, rfl⟩ := sys_b2 (nv := nv) hz l C (j + 1) j ⟨0, true, (can (kT l)).c⟩ ⟨0, false, el (tbl j C (kA C))⟩ ⟨0, false, el (rw' j (kB l C))⟩ ⟨0, false, el (rw' j (kW C))⟩ hC (by omega) rfl
    have o := ones_ev (nv := nv) (j + 1) (by omega)
    rw [← c0] at o
    have w := kweight_ev (nv := nv) hz c1 c2 (by omega)
    have hj1 : j + 1 < l.length := by omega
    have s1 := rsub_ev (nv := nv) hz (ix l (j + 1)) (ix l 0) (ixq_ok hl hj1) (ixq_ok hl (by omega)) (by decide) (by decide) (by decide)
    have q1 := (Bq.v (ixq_ok hl hj1) (by decide)).sub (Bq.v (ixq_ok hl (i := 0) (by omega)) (by decide))
    have m1 := rmul_ev (nv := nv) hz (can (kT l)) (can (zB (j + 1) C)) (can_ok (kT_b hl h2)) (can_ok (zB_b (j + 1) C)) (by decide) (by decide) (by decide)
    rw [can_v, can_v] at m1
    have s2 := rsub_ev (nv := nv) hz (can ((ix l (j + 1)).v - (ix l 0).v)) (can (kT l * zB (j + 1) C)) (can_ok q1) (can_ok ((kT_b hl h2).mul (zB_b (j + 1) C))) (by decide) (by decide) (by decide)
    rw [can_v, can_v, show (ix l (j + 1)).v - (ix l 0).v - kT l * zB (j + 1) C = kB l C j from rfl] at s2
    have t9 := tbl_len j C (kA C)
    have t10 := rw_len j (kB l C)
    have t11 := rw_len j (kW C)
    have t14 := rw_len C (kA C j)
    have k9 : List.take j (tbl j C (kA C)) = tbl j C (kA C) := List.take_of_length_le (by omega)
    have k10 : List.take j (rw' j (kB l C)) = rw' j (kB l C) := List.take_of_length_le (by omega)
    have k11 : List.take j (rw' j (kW C)) = rw' j (kW C) := List.take_of_length_le (by omega)
    have k14 : List.take C (rw' C (kA C j)) = rw' C (kA C j) := List.take_of_length_le (by omega)
    have hby : (j + 1) * 56 ≤ 70368744177664 := by omega
    have hby2 : (j + 1) * 24 ≤ 70368744177664 := by omega
    have e1 : (j : Int) + 1 < (l.length : Int) - 1 := by omega
    have e2 : ((j + 1 : Nat) : Int) = (j : Int) + 1 := by omega
    have e3 : ((C + 1 : Nat) : Int) = (C : Int) + 1 := by omega
    have e4 : u (j + 1) = .int .u64 (((j + 1 : Nat)) : Int) := rfl
    rw [← e4] at o
    rw [e2] at l2 sh
    rw [e3] at w
    refine .inl ⟨_, _, ?_, rfl, rfl⟩
    rw [tbl_succ, rw_succ', rw_succ', show can (kW C j) = can (kwt (cntN (j + 1) (C + 1)) (C + 1)) from rfl]
    generalize can (kwt (cntN (j + 1) (C + 1)) (C + 1)) = qw at *
    generalize can (kB l C j) = qb at *
    generalize can (kT l * zB (j + 1) C) = qm at *
    generalize can ((ix l (j + 1)).v - (ix l 0).v) = qs at *
    generalize can (zB (j + 1) C) = qz at *
    generalize can (kT l) = qT at *
    generalize cntN (j + 1) (C + 1) = ct at *
    generalize tbl j C (kA C) = g9 at *
    generalize rw' j (kB l C) = g10 at *
    generalize rw' j (kW C) = g11 at *
    generalize rw' C (kA C j) = g14 at *
    generalize (j + 1) / 2 ^ C % 2 = r at *
    generalize (j + 1) / 2 ^ C = d at *
    have ha' : bitsD .and .i64 (d : Int) 1 = (r : Int) := ha
    simp (disch := omega) [-vIA_o, kernel_System.b0, e1, sh, ha', rf, l2, o, w, s1, m1, s2, hj1, t9, t10, t11, t14, k9, k10, k11, k14, hby, hby2, -vBin_shr]
    done
  · rintro e μ ⟨rfl, rfl⟩
    have e1 : ¬ ((l.length - 2 : Nat) : Int) + 1 < (l.length : Int) - 1 := by omega
    exact ⟨.exit 0, _, _, by simp (disch := omega) [kernel_System.b0, e1] <;> first | rfl | exact ⟨rfl, rfl⟩, by simp, rfl, rfl, rfl⟩
end
end Go.Proofs.YtgigaimaaijalaaGreatDoor
