/- What is nearest to a game: the equations' answer. -/
import Derived.Test.YtgigaimaaijalaaGreatDoorKg
import Derived.Test.YtgigaimaaijalaaGreatDoorXu
set_option linter.unusedSimpArgs false
set_option linter.unusedVariables false
namespace Go.Proofs.YtgigaimaaijalaaGreatDoor
open Go Go.Proofs.R
set_option maxRecDepth 10000
/-- The equations of a game of so many players, and what turns them. -/
def kN (C : Nat) : Tb := nrmF (2 ^ (C + 1) - 2) (kA C) (kW C)
def kJ (C : Nat) : Tb := fun i k => if i = k then 1 else Rat.divInt (-1) (C : Int)
theorem kJN : ∀ C : Fin 5, ∀ k q : Fin 4, k.val < C.val → q.val < C.val → sm C.val (fun j => kJ C.val k.val j * kN C.val j q.val) = if k.val = q.val then 1 else 0 := by decide +kernel
theorem kW_pos : ∀ C : Fin 5, ∀ j : Fin 32, j.val + 2 < 2 ^ (C.val + 1) → 0 ≤ kW C.val j.val := by decide +kernel
theorem kJ_turn {C : Nat} (hC : C ≤ 4) {x c : Nat → Rat} (h : ∀ j, j < C → sm C (fun k => kN C j k * x k) = c j) {k : Nat} (hk : k < C) : x k = sm C (fun j => kJ C k j * c j) := by
  have e : ∀ j, j < C → kJ C k j * c j = sm C (fun q => kJ C k j * kN C j q * x q) := fun j hj => by
    rw [← h j hj, ← sm_mul]
    apply sm_congr; intro q _; grind
  rw [sm_congr e, sm_comm]
  have e2 : ∀ q, q < C → sm C (fun j => kJ C k j * kN C j q * x q) = if q = k then x q else 0 := fun q hq => by
    rw [sm_mulr, kJN ⟨C, by omega⟩ ⟨k, by omega⟩ ⟨q, by omega⟩ hk hq]
    by_cases e : k = q
    · simp [e]
    · have e' : ¬ q = k := fun h => e h.symm
      simp only [if_neg e, if_neg e']; grind
  rw [sm_congr e2, sm_pt hk (fun i hi hne => if_neg hne), if_pos rfl]
section
variable {nv : R.Nv}
theorem system_ev (hz : TzOk nv) (l : List RQ) (C : Nat) (h1 : 1 ≤ C) (hC : C ≤ 4) (hl33 : l.length ≤ 33) (hg : gmN l.length = some (C + 1)) (hl : ∀ r ∈ l, r.ok 2) :
    EX ip nv (.call F.kernel_System [.d (.sl 3 (el l))] []) = some (.ret (.tp [.d (.sl 1 (el (tbl (l.length - 2) C (kA C)))), .d (.sl 3 (el (rw' (l.length - 2) (kB l C)))), .d (.sl 3 (el (rw' (l.length - 2) (kW C)))), .d (.int .i64 0)]) []) := by
  rw [S_call kernel_System.ip rfl]
  have p := players_ev (nv := nv) l hl33
  rw [hg] at p
  simp only at p
  have hlen := (gmN_some ⟨l.length, by omega⟩ ⟨C + 1, by omega⟩ hg).1
  simp only at hlen
  have hp : 2 ^ 2 ≤ 2 ^ (C + 1) := Nat.pow_le_pow_right (by decide) (by omega)
  have e3 : ((C + 1 : Nat) : Int) = (C : Int) + 1 := by omega
  rw [e3] at p
  obtain ⟨_, _, _, l0, -, rfl, rfl, rfl⟩ := sys_b0 (nv := nv) hz l C hC hlen (by omega) hl
  have h0 : 0 < l.length := by omega
  have hL : l.length - 1 < l.length := by omega
  have s1 := rsub_ev (nv := nv) hz (ix l (l.length - 1)) (ix l 0) (ixq_ok hl hL) (ixq_ok hl h0) (by decide) (by decide) (by decide)
  rw [show (ix l (l.length - 1)).v - (ix l 0).v = kT l from rfl] at s1
  have e1 : ¬ (C : Int) + 1 < 2 := by omega
  have eL : (l.length : Int) - 1 = ((l.length - 1 : Nat) : Int) := by omega
  have t9 := tbl_len (l.length - 2) C (kA C)
  have t10 := rw_len (l.length - 2) (kB l C)
  have t11 := rw_len (l.length - 2) (kW C)
  have k9 : List.take (l.length - 2) (tbl (l.length - 2) C (kA C)) = tbl (l.length - 2) C (kA C) := List.take_of_length_le (by omega)
  have k10 : List.take (l.length - 2) (rw' (l.length - 2) (kB l C)) = rw' (l.length - 2) (kB l C) := List.take_of_length_le (by omega)
  have k11 : List.take (l.length - 2) (rw' (l.length - 2) (kW C)) = rw' (l.length - 2) (kW C) := List.take_of_length_le (by omega)
  generalize tbl (l.length - 2) C (kA C) = g9 at *
  generalize rw' (l.length - 2) (kB l C) = g10 at *
  generalize rw' (l.length - 2) (kW C) = g11 at *
  generalize can (kT l) = qT at *
  simp (disch := omega) [-vIA_o, kernel_System, p, e1, eL, hL, h0, s1, l0, t9, t10, t11, k9, k10, k11]
end
end Go.Proofs.YtgigaimaaijalaaGreatDoor
