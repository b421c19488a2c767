/- KernelNearest: what kernel.Values tells; the distance as a loss. -/
import Derived.Test.YtgigaimaaijalaaGreatDoorKh
set_option linter.unusedSimpArgs false
set_option linter.unusedVariables false
namespace Go.Proofs.YtgigaimaaijalaaGreatDoor
open Go Go.Proofs.R
set_option maxRecDepth 10000
abbrev kAl (C : Nat) : List (List RQ) := tbl (2 ^ (C + 1) - 2) C (kA C)
abbrev kBl (l : List RQ) (C : Nat) : List RQ := rw' (2 ^ (C + 1) - 2) (kB l C)
abbrev kWl (C : Nat) : List RQ := rw' (2 ^ (C + 1) - 2) (kW C)
/-- What the equations tell; what all players get. -/
def kX (l : List RQ) (C : Nat) : List RQ := lsX (kAl C) (kBl l C) (kWl C)
def kV (l : List RQ) (C : Nat) (x : List RQ) : List RQ := x ++ [can (kT l - sm C (fun i => (ix x i).v))]
theorem kR_pos {C : Nat} (h : 1 ≤ C) : 2 ≤ 2 ^ (C + 1) - 2 := by
  have : 2 ^ 2 ≤ 2 ^ (C + 1) := Nat.pow_le_pow_right (by decide) (by omega)
  omega
theorem kA_cols {C : Nat} (h : 1 ≤ C) : colsN (kAl C) = C := tbl_cols C (kA C) (by have := kR_pos h; omega)
theorem kW_ix {C i : Nat} (hi : i < 2 ^ (C + 1) - 2) : (ix (kWl C) i).v = kW C i := by rw [rw_ix _ hi, can_v]
theorem kB_ix {l : List RQ} {C i : Nat} (hi : i < 2 ^ (C + 1) - 2) : (ix (kBl l C) i).v = kB l C i := by rw [rw_ix _ hi, can_v]
theorem kW_nn {C : Nat} (hC : C ≤ 4) : ∀ i, i < 2 ^ (C + 1) - 2 → 0 ≤ kW C i := fun i hi => by
  have hp : 2 ^ (C + 1) ≤ 2 ^ 5 := Nat.pow_le_pow_right (by decide) (by omega)
  exact kW_pos ⟨C, by omega⟩ ⟨i, by omega⟩ (by simp only; omega)
theorem kN_eq {C : Nat} (h : 1 ≤ C) : ∀ j k, j < C → k < C → nrmF (kAl C).length (tf (kAl C)) (fun i => (ix (kWl C) i).v) j k = kN C j k := fun j k hj hk => by
  unfold kN nrmF
  rw [tbl_len]
  apply sm_congr
  intro i hi
  rw [tf_tbl _ hi hj, tf_tbl _ hi hk]
  show kA C i j * (ix (kWl C) i).v * kA C i k = _
  rw [kW_ix hi]
theorem k_one {C : Nat} (h : 1 ≤ C) (hC : C ≤ 4) : oneA (kAl C) (kWl C) := by
  intro x hx
  rw [kA_cols h] at hx ⊢
  have hk := (nrm_ker (R := (kAl C).length) (n := C) (A := tf (kAl C)) (w := fun i => (ix (kWl C) i).v) (fun i hi => by rw [tbl_len] at hi; rw [kW_ix hi]; exact kW_nn hC i hi) x).2 hx
  have hk2 : ∀ j, j < C → sm C (fun k => kN C j k * x k) = 0 := fun j hj => by
    rw [← hk j hj]
    apply sm_congr
    intro k hk
    rw [kN_eq h j k hj hk]
  intro k hkC
  rw [kJ_turn hC hk2 hkC]
  exact sm_zero fun i _ => by grind
theorem k_full {C : Nat} (h : 1 ≤ C) (hC : C ≤ 4) : ¬ (invS (lsN (kAl C) (kWl C))).lead.length < colsN (kAl C) := fun hl =>
  (lsN_full (A := kAl C) (w := kWl C) (by rw [kA_cols h]; omega) (fun i hi => by rw [tbl_len] at hi; rw [kW_ix hi]; exact kW_nn hC i hi)).1 hl (k_one h hC)
theorem kX_eq (l : List RQ) {C : Nat} (h : 1 ≤ C) (hC : C ≤ 4) : ∀ j, j < C → sm C (fun k => kN C j k * (ix (kX l C) k).v) = sm (2 ^ (C + 1) - 2) (fun i => kA C i j * kW C i * kB l C i) := fun j hj => by
  have hc := kA_cols h
  have := lsX_eq (A := kAl C) (b := kBl l C) (w := kWl C) (by omega) (by rw [tbl_len, rw_len]) (k_full h hC) (j := j) (by omega)
  rw [hc, tbl_len] at this
  have e1 : sm C (fun k => kN C j k * (ix (kX l C) k).v) = sm C (fun k => nrmF (2 ^ (C + 1) - 2) (tf (kAl C)) (fun i => (ix (kWl C) i).v) j k * (ix (lsX (kAl C) (kBl l C) (kWl C)) k).v) := by
    apply sm_congr
    intro k hk
    have e := kN_eq h j k hj hk
    rw [tbl_len] at e
    rw [e]
    rfl
  rw [e1, this]
  apply sm_congr
  intro i hi
  rw [tf_tbl _ hi hj, kW_ix hi, kB_ix hi]
theorem kX_len (l : List RQ) {C : Nat} (h : 1 ≤ C) : (kX l C).length = C := by
  unfold kX lsX; rw [rw_len, kA_cols h]
theorem asDD_rowp {μ : Mem} {b k n k0 p : Nat} {α : Type} {agg : Bool} [Enc α k agg] {l : List α} (h : aget μ b = some ⟨p, false, el l⟩) (hn : n = l.length) (hu : ∀ d ∈ el l, un μ d = d) : asDD μ k0 (.own b k 0 n) = some (.sl k (el l)) := by
  subst hn
  simp only [asDD, h]
  rw [if_pos (by simp)]
  rw [List.drop_zero, List.take_of_length_le (by simp)]
  congr 2
  rw [List.map_congr_left (g := id) hu, List.map_id]
section
variable {nv : R.Nv}
end
end Go.Proofs.YtgigaimaaijalaaGreatDoor
