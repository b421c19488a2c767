/- What is nearest to a game: the equations' answer. -/
import Derived.Test.YtgigaimaaijalaaGreatDoorKg
import Derived.Test.YtgigaimaaijalaaGreatDoorXu
set_option linter.unusedSimpArgs false
set_option linter.unusedVariables false
namespace Go.Proofs.YtgigaimaaijalaaGreatDoor
open Go Go.Proofs.R
set_option maxRecDepth 10000
/-- The equations of a game of so many players, and what turns them. -/
def kN (C : Nat) : Tb := nrmF (2 ^ (C + 1) - 2) (kA C) (kW C)
def kJ (C : Nat) : Tb := fun i k => if i = k then 1 else Rat.divInt (-1) (C : Int)
theorem kJN : ∀ C : Fin 5, ∀ k q : Fin 4, k.val < C.val → q.val < C.val → sm C.val (fun j => kJ C.val k.val j * kN C.val j q.val) = if k.val = q.val then 1 else 0 := by decide +kernel
theorem kW_pos : ∀ C : Fin 5, ∀ j : Fin 32, j.val + 2 < 2 ^ (C.val + 1) → 0 ≤ kW C.val j.val := by decide +kernel
theorem kJ_b : ∀ C : Fin 5, ∀ k q : Fin 4, Bq 1 (kJ C.val k.val q.val) := fun C k q => by
  unfold kJ; split
  · exact ⟨by simp [pw], by simp [pw]⟩
  · have : ∀ C : Fin 5, (Rat.divInt (-1) (C.val : Int)).num.natAbs < 2 ∧ (Rat.divInt (-1) (C.val : Int)).den < 10 := by decide +kernel
    obtain ⟨h1, h2⟩ := this C
    exact ⟨by simp only [pw]; omega, by simp only [pw]; omega⟩
theorem kJ_turn {C : Nat} (hC : C ≤ 4) {x c : Nat → Rat} (h : ∀ j, j < C → sm C (fun k => kN C j k * x k) = c j) {k : Nat} (hk : k < C) : x k = sm C (fun j => kJ C k j * c j) := by
  have e : ∀ j, j < C → kJ C k j * c j = sm C (fun q => kJ C k j * kN C j q * x q) := fun j hj => by
    rw [← h j hj, ← sm_mul]
    apply sm_congr; intro q _; grind
  rw [sm_congr e, sm_comm]
  have e2 : ∀ q, q < C → sm C (fun j => kJ C k j * kN C j q * x q) = if q = k then x q else 0 := fun q hq => by
    rw [sm_mulr, kJN ⟨C, by omega⟩ ⟨k, by omega⟩ ⟨q, by omega⟩ hk hq]
    by_cases e : k = q
    · simp [e]
    · have e' : ¬ q = k := fun h => e h.symm
      simp only [if_neg e, if_neg e']; grind
  rw [sm_congr e2, sm_pt hk (fun i hi hne => if_neg hne), if_pos rfl]
section
variable {nv : R.Nv}
theorem ksum_ev (hz : TzOk nv) (x : List RQ) (K : Nat) (hk : ∀ r ∈ x, r.ok K) (h1 : 1 ≤ K) (hK : K ≤ 100000) (hx : x.length ≤ 1000) : EX ip nv (.call F.ratio_Sum [.d (.sl 3 (el x))] []) = some (.ret (.d (.ag (can (sm x.length (fun i => (ix x i).v))).c)) []) := by
  rw [S_call ratio_Sum.ip rfl]
  have z := zero_ev (nv := nv)
  obtain ⟨_, _, _, hr, -, rfl, rfl, rfl⟩ : ∃ z e μ, EX ip nv (.code (.loop [] [] ratio_Sum.b0) [(2, .ptr 2 0), (3, .ptr 3 0), (7, .d (.sl 3 (el x))), (8, .d (.int .i64 (x.length : Int))), (9, .d (.int .i64 0))] [(2, ⟨0, true, [.bool false, .sl 1 [], .sl 1 []]⟩), (3, ⟨0, true, (can 0).c⟩)]) = some (.st z e μ) ∧ z ≠ .normal ∧
      z = .exit 0 ∧ e = [(2, .ptr 2 0), (3, .ptr 3 0), (7, .d (.sl 3 (el x))), (8, .d (.int .i64 (x.length : Int))), (9, .d (.int .i64 (x.length : Int))), (10, .d (.bool false))] ∧ μ = [(2, ⟨0, true, [.bool false, .sl 1 [], .sl 1 []]⟩), (3, ⟨0, true, (can (sm x.length (fun i => (ix x i).v))).c⟩)] := by
    refine loop_n x.length (fun i e μ => ∃ q : RQ, q = can (sm i (fun i => (ix x i).v)) ∧ e = [(2, .ptr 2 0), (3, .ptr 3 0), (7, .d (.sl 3 (el x))), (8, .d (.int .i64 (x.length : Int))), (9, .d (.int .i64 (i : Int)))] ∧ μ = [(2, ⟨0, true, [.bool false, .sl 1 [], .sl 1 []]⟩), (3, ⟨0, true, q.c⟩)]) ?_ ?_ ⟨_, rfl, rfl, rfl⟩
    · rintro i e μ hi ⟨q, hq, rfl, rfl⟩
      have hb := sm_b (k := K) (f := fun i => (ix x i).v) (n := x.length) (fun j hj => Bq.v (ixq_ok hk hj) h1) i (by omega)
      have hle : i * (K + 1) ≤ 1000 * (K + 1) := Nat.mul_le_mul_right _ (by omega)
      have ad := radd_ev hz (can (sm i (fun i => (ix x i).v))) (ix x i) (can_ok hb) (ixq_ok hk hi) (by omega) h1 (by omega)
      rw [can_v, ← hq, show sm i (fun i => (ix x i).v) + (ix x i).v = sm (i + 1) (fun i => (ix x i).v) from rfl] at ad
      refine .inl ⟨_, _, ?_, can (sm (i + 1) (fun i => (ix x i).v)), rfl, rfl, rfl⟩
      clear hq hb
      generalize can (sm (i + 1) (fun i => (ix x i).v)) = q' at *
      simp (disch := omega) [ratio_Sum.b0, hi, ad]
    · rintro e μ ⟨q, hq, rfl, rfl⟩
      subst hq
      exact ⟨.exit 0, _, _, by simp [ratio_Sum.b0] <;> first | rfl | exact ⟨rfl, rfl⟩, by simp, rfl, rfl, rfl⟩
  generalize can (sm x.length (fun i => (ix x i).v)) = q at *
  generalize can 0 = q0 at *
  simp (disch := omega) [ratio_Sum, z, hr]
theorem system_ev (hz : TzOk nv) (l : List RQ) (C : Nat) (h1 : 1 ≤ C) (hC : C ≤ 4) (hl33 : l.length ≤ 33) (hg : gmN l.length = some (C + 1)) (hl : ∀ r ∈ l, r.ok 2) :
    EX ip nv (.call F.kernel_System [.d (.sl 3 (el l))] []) = some (.ret (.tp [.d (.sl 1 (el (tbl (l.length - 2) C (kA C)))), .d (.sl 3 (el (rw' (l.length - 2) (kB l C)))), .d (.sl 3 (el (rw' (l.length - 2) (kW C)))), .d (.int .i64 0)]) []) := by
  rw [S_call kernel_System.ip rfl]
  have p := players_ev (nv := nv) l hl33
  rw [hg] at p
  simp only at p
  have hlen := (gmN_some ⟨l.length, by omega⟩ ⟨C + 1, by omega⟩ hg).1
  simp only at hlen
  have hp : 2 ^ 2 ≤ 2 ^ (C + 1) := Nat.pow_le_pow_right (by decide) (by omega)
  have e3 : ((C + 1 : Nat) : Int) = (C : Int) + 1 := by omega
  rw [e3] at p
  obtain ⟨_, _, _, l0, -, rfl, rfl, rfl⟩ := sys_b0 (nv := nv) hz l C hC hlen (by omega) hl
  have h0 : 0 < l.length := by omega
  have hL : l.length - 1 < l.length := by omega
  have s1 := rsub_ev (nv := nv) hz (ix l (l.length - 1)) (ix l 0) (ixq_ok hl hL) (ixq_ok hl h0) (by decide) (by decide) (by decide)
  rw [show (ix l (l.length - 1)).v - (ix l 0).v = kT l from rfl] at s1
  have e1 : ¬ (C : Int) + 1 < 2 := by omega
  have eL : (l.length : Int) - 1 = ((l.length - 1 : Nat) : Int) := by omega
  have t9 := tbl_len (l.length - 2) C (kA C)
  have t10 := rw_len (l.length - 2) (kB l C)
  have t11 := rw_len (l.length - 2) (kW C)
  have k9 : List.take (l.length - 2) (tbl (l.length - 2) C (kA C)) = tbl (l.length - 2) C (kA C) := List.take_of_length_le (by omega)
  have k10 : List.take (l.length - 2) (rw' (l.length - 2) (kB l C)) = rw' (l.length - 2) (kB l C) := List.take_of_length_le (by omega)
  have k11 : List.take (l.length - 2) (rw' (l.length - 2) (kW C)) = rw' (l.length - 2) (kW C) := List.take_of_length_le (by omega)
  generalize tbl (l.length - 2) C (kA C) = g9 at *
  generalize rw' (l.length - 2) (kB l C) = g10 at *
  generalize rw' (l.length - 2) (kW C) = g11 at *
  generalize can (kT l) = qT at *
  simp (disch := omega) [-vIA_o, kernel_System, p, e1, eL, hL, h0, s1, l0, t9, t10, t11, k9, k10, k11]
end
end Go.Proofs.YtgigaimaaijalaaGreatDoor
