/- KernelNearest: what kernel.Values tells; the distance as a loss. -/
import Derived.Test.YtgigaimaaijalaaGreatDoorKh
set_option linter.unusedSimpArgs false
set_option linter.unusedVariables false
namespace Go.Proofs.YtgigaimaaijalaaGreatDoor
open Go Go.Proofs.R
set_option maxRecDepth 10000
abbrev kAl (C : Nat) : List (List RQ) := tbl (2 ^ (C + 1) - 2) C (kA C)
abbrev kBl (l : List RQ) (C : Nat) : List RQ := rw' (2 ^ (C + 1) - 2) (kB l C)
abbrev kWl (C : Nat) : List RQ := rw' (2 ^ (C + 1) - 2) (kW C)
/-- What the equations tell; what all players get. -/
def kX (l : List RQ) (C : Nat) : List RQ := lsX (kAl C) (kBl l C) (kWl C)
def kV (l : List RQ) (C : Nat) (x : List RQ) : List RQ := x ++ [can (kT l - sm C (fun i => (ix x i).v))]
theorem kR_pos {C : Nat} (h : 1 ≤ C) : 2 ≤ 2 ^ (C + 1) - 2 := by
  have : 2 ^ 2 ≤ 2 ^ (C + 1) := Nat.pow_le_pow_right (by decide) (by omega)
  omega
theorem kA_cols {C : Nat} (h : 1 ≤ C) : colsN (kAl C) = C := tbl_cols C (kA C) (by have := kR_pos h; omega)
theorem kW_ix {C i : Nat} (hi : i < 2 ^ (C + 1) - 2) : (ix (kWl C) i).v = kW C i := by rw [rw_ix _ hi, can_v]
theorem kB_ix {l : List RQ} {C i : Nat} (hi : i < 2 ^ (C + 1) - 2) : (ix (kBl l C) i).v = kB l C i := by rw [rw_ix _ hi, can_v]
theorem kW_nn {C : Nat} (hC : C ≤ 4) : ∀ i, i < 2 ^ (C + 1) - 2 → 0 ≤ kW C i := fun i hi => by
  have hp : 2 ^ (C + 1) ≤ 2 ^ 5 := Nat.pow_le_pow_right (by decide) (by omega)
  exact kW_pos ⟨C, by omega⟩ ⟨i, by omega⟩ (by simp only; omega)
theorem kN_eq {C : Nat} (h : 1 ≤ C) : ∀ j k, j < C → k < C → nrmF (kAl C).length (tf (kAl C)) (fun i => (ix (kWl C) i).v) j k = kN C j k := fun j k hj hk => by
  unfold kN nrmF
  rw [tbl_len]
  apply sm_congr
  intro i hi
  rw [tf_tbl _ hi hj, tf_tbl _ hi hk]
  show kA C i j * (ix (kWl C) i).v * kA C i k = _
  rw [kW_ix hi]
theorem k_one {C : Nat} (h : 1 ≤ C) (hC : C ≤ 4) : oneA (kAl C) (kWl C) := by
  intro x hx
  rw [kA_cols h] at hx ⊢
  have hk := (nrm_ker (R := (kAl C).length) (n := C) (A := tf (kAl C)) (w := fun i => (ix (kWl C) i).v) (fun i hi => by rw [tbl_len] at hi; rw [kW_ix hi]; exact kW_nn hC i hi) x).2 hx
  have hk2 : ∀ j, j < C → sm C (fun k => kN C j k * x k) = 0 := fun j hj => by
    rw [← hk j hj]
    apply sm_congr
    intro k hk
    rw [kN_eq h j k hj hk]
  intro k hkC
  rw [kJ_turn hC hk2 hkC]
  exact sm_zero fun i _ => by grind
theorem k_full {C : Nat} (h : 1 ≤ C) (hC : C ≤ 4) : ¬ (invS (lsN (kAl C) (kWl C))).lead.length < colsN (kAl C) := fun hl =>
  (lsN_full (A := kAl C) (w := kWl C) (by rw [kA_cols h]; omega) (fun i hi => by rw [tbl_len] at hi; rw [kW_ix hi]; exact kW_nn hC i hi)).1 hl (k_one h hC)
theorem kX_eq (l : List RQ) {C : Nat} (h : 1 ≤ C) (hC : C ≤ 4) : ∀ j, j < C → sm C (fun k => kN C j k * (ix (kX l C) k).v) = sm (2 ^ (C + 1) - 2) (fun i => kA C i j * kW C i * kB l C i) := fun j hj => by
  have hc := kA_cols h
  have := lsX_eq (A := kAl C) (b := kBl l C) (w := kWl C) (by omega) (by rw [tbl_len, rw_len]) (k_full h hC) (j := j) (by omega)
  rw [hc, tbl_len] at this
  have e1 : sm C (fun k => kN C j k * (ix (kX l C) k).v) = sm C (fun k => nrmF (2 ^ (C + 1) - 2) (tf (kAl C)) (fun i => (ix (kWl C) i).v) j k * (ix (lsX (kAl C) (kBl l C) (kWl C)) k).v) := by
    apply sm_congr
    intro k hk
    have e := kN_eq h j k hj hk
    rw [tbl_len] at e
    rw [e]
    rfl
  rw [e1, this]
  apply sm_congr
  intro i hi
  rw [tf_tbl _ hi hj, kW_ix hi, kB_ix hi]
theorem kX_len (l : List RQ) {C : Nat} (h : 1 ≤ C) : (kX l C).length = C := by
  unfold kX lsX; rw [rw_len, kA_cols h]
theorem kX_b {l : List RQ} (hl : ∀ r ∈ l, r.ok 2) {C : Nat} (h : 1 ≤ C) (hC : C ≤ 4) (hll : l.length = 2 ^ (C + 1)) : ∀ k, k < C → Bq 3000 (ix (kX l C) k).v := fun k hk => by
  have hp : 2 ^ (C + 1) ≤ 2 ^ 5 := Nat.pow_le_pow_right (by decide) (by omega)
  have hR := kR_pos h
  rw [kJ_turn hC (x := fun k => (ix (kX l C) k).v) (kX_eq l h hC) hk]
  have hc : ∀ j, j < C → Bq 601 (sm (2 ^ (C + 1) - 2) (fun i => kA C i j * kW C i * kB l C i)) := fun j _ => by
    refine (sm_b (n := 2 ^ (C + 1) - 2) (k := 19) (fun i hi => ?_) _ (Nat.le_refl _)).mono (by omega)
    exact ((((zB_b _ _).sub (zB_b _ _)).mul (kW_b hC (by omega))).mul (kB_b hl (by omega) (by omega))).mono (by omega)
  refine (sm_b (n := C) (k := 602) (fun j hj => ?_) C (Nat.le_refl _)).mono (by omega)
  exact ((kJ_b ⟨C, by omega⟩ ⟨k, by omega⟩ ⟨j, by omega⟩).mul (hc j hj)).mono (by omega)
theorem kX_ok {l : List RQ} (hl : ∀ r ∈ l, r.ok 2) {C : Nat} (h : 1 ≤ C) (hC : C ≤ 4) (hll : l.length = 2 ^ (C + 1)) : ∀ r ∈ kX l C, r.ok 3000 := by
  intro r hr
  have hb := kX_b hl h hC hll
  have hlen := kX_len l h
  obtain ⟨j, hj, rfl⟩ := List.getElem_of_mem hr
  have hjC : j < C := by omega
  have := hb j hjC
  rw [← ix_get hj]
  have e : ∃ q, ix (kX l C) j = can q := by
    unfold kX lsX
    rw [rw_ix _ (by rw [kA_cols h]; exact hjC)]
    exact ⟨_, rfl⟩
  obtain ⟨q, hq⟩ := e
  rw [hq, can_v] at this
  rw [hq]
  exact can_ok this
/-- The distance is the loss. -/
theorem dV_sm (l x : List RQ) (s : Nat) : ∀ m, dV l x s m = (ix l 0).v - (ix l s).v + sm m (fun i => zB s i * (ix x i).v)
  | 0 => by simp only [dV, sm]; grind
  | m + 1 => by
    rw [dV, dV_sm l x s m]
    simp only [sm]
    rw [zB_eq s m]
    split <;> grind
theorem sV_sm (l x : List RQ) (n : Nat) : ∀ m, sV l x n m = sm m (fun j => kwt (cntN (j + 1) n) n * (dV l x (j + 1) n * dV l x (j + 1) n))
  | 0 => rfl
  | m + 1 => by rw [sV, sV_sm l x n m]; rfl
theorem sV_loss (l x : List RQ) (C : Nat) (hx : (ix x C).v = kT l - sm C (fun i => (ix x i).v)) (R : Nat) : sV l x (C + 1) R = lossF R C (kA C) (kB l C) (kW C) (fun i => (ix x i).v) := by
  rw [sV_sm]
  unfold lossF
  apply sm_congr
  intro j _
  have : dV l x (j + 1) (C + 1) = sm C (fun k => kA C j k * (ix x k).v) - kB l C j := by
    rw [dV_sm]
    simp only [sm]
    rw [hx]
    have e : sm C (fun k => kA C j k * (ix x k).v) = sm C (fun i => zB (j + 1) i * (ix x i).v) - zB (j + 1) C * sm C (fun i => (ix x i).v) := by
      rw [← sm_mul, ← sm_sub]
      apply sm_congr
      intro k _
      unfold kA
      grind
    rw [e]
    unfold kB
    grind
  rw [this]
  rfl
theorem asDD_rowp {μ : Mem} {b k n k0 p : Nat} {α : Type} {agg : Bool} [Enc α k agg] {l : List α} (h : aget μ b = some ⟨p, false, el l⟩) (hn : n = l.length) (hu : ∀ d ∈ el l, un μ d = d) : asDD μ k0 (.own b k 0 n) = some (.sl k (el l)) := by
  subst hn
  simp only [asDD, h]
  rw [if_pos (by simp)]
  rw [List.drop_zero, List.take_of_length_le (by simp)]
  congr 2
  rw [List.map_congr_left (g := id) hu, List.map_id]
section
variable {nv : R.Nv}
theorem values_ev (hz : TzOk nv) (l : List RQ) (C : Nat) (h1 : 1 ≤ C) (hC : C ≤ 4) (hl33 : l.length ≤ 33) (hg : gmN l.length = some (C + 1)) (hl : ∀ r ∈ l, r.ok 2) :
    EX ip nv (.call F.kernel_Values [.d (.sl 3 (el l))] []) = some (.ret (.tp [.d (.sl 3 (el (kV l C (kX l C)))), .d (.int .i64 0)]) []) := by
  rw [S_call kernel_Values.ip rfl]
  have p := players_ev (nv := nv) l hl33
  rw [hg] at p
  simp only at p
  have hlen := (gmN_some ⟨l.length, by omega⟩ ⟨C + 1, by omega⟩ hg).1
  simp only at hlen
  have hp25 : 2 ^ (C + 1) ≤ 2 ^ 5 := Nat.pow_le_pow_right (by decide) (by omega)
  have hR := kR_pos h1
  have e3 : ((C + 1 : Nat) : Int) = (C : Int) + 1 := by omega
  rw [e3] at p
  have sy : EX ip nv (.call F.kernel_System [.d (.sl 3 (el l))] []) = some (.ret (.tp [.d (.sl 1 (el (kAl C))), .d (.sl 3 (el (kBl l C))), .d (.sl 3 (el (kWl C))), .d (.int .i64 0)]) []) := by
    have sy := system_ev (nv := nv) hz l C h1 hC hl33 hg hl
    rw [hlen] at sy
    exact sy
  have hc := kA_cols h1
  have hAl : (kAl C).length = 2 ^ (C + 1) - 2 := tbl_len _ _ _
  have hAok : ∀ r ∈ kAl C, ∀ x ∈ r, x.ok 12 := tbl_mem_ok fun i j _ _ => ((zB_b _ _).sub (zB_b _ _)).mono (by decide)
  have hBok : ∀ x ∈ kBl l C, x.ok 12 := by
    intro x hx
    obtain ⟨i, hi, rfl⟩ := List.getElem_of_mem hx
    rw [rw_len] at hi
    rw [← ix_get (by simpa using hi), rw_ix _ hi]
    exact can_ok (kB_b hl (by omega) (by omega))
  have hWok : ∀ x ∈ kWl C, x.ok 12 := by
    intro x hx
    obtain ⟨i, hi, rfl⟩ := List.getElem_of_mem hx
    rw [rw_len] at hi
    rw [← ix_get (by simpa using hi), rw_ix _ hi]
    exact can_ok ((kW_b hC (by omega)).mono (by decide))
  have h5 : 5 ^ C ≤ 5 ^ 4 := Nat.pow_le_pow_right (by decide) hC
  obtain ⟨H, le, hp⟩ := least_h (nv := nv) hz (kAl C) (kBl l C) (kWl C) (k := 12) (m := 1200) hAok hBok hWok (by decide) (by omega) (by
    rw [hc]
    have : (C + 1) * (5 ^ C * 1200 + 1200 + 1) ≤ 5 * (625 * 1200 + 1200 + 1) := Nat.mul_le_mul (by omega) (by omega)
    omega) (tbl_rect _ _ _) (by rw [rw_len, tbl_len]) (by rw [rw_len, tbl_len]) (by omega) (by omega) (by omega) (fun ⟨i, hi, hn⟩ => by
      rw [rw_len] at hi
      rw [kW_ix hi] at hn
      have := kW_nn hC i hi
      grind) (k_full h1 hC)
  rw [hc] at le
  rw [show lsX (kAl C) (kBl l C) (kWl C) = kX l C from rfl] at le
  have hXl := kX_len l h1
  have hXok := kX_ok hl h1 hC hlen
  have hXb := kX_b hl h1 hC hlen
  have su := ksum_ev (nv := nv) hz (kX l C) 3000 hXok (by decide) (by decide) (by omega)
  rw [hXl] at su
  have sub := (sm_b (n := C) (k := 3000) hXb C (Nat.le_refl _)).mono (show 1 + C * (3000 + 1) ≤ 13000 by
    have : C * 3001 ≤ 4 * 3001 := Nat.mul_le_mul_right _ hC
    omega)
  have s2 := rsub_ev (nv := nv) hz (can (kT l)) (can (sm C (fun i => (ix (kX l C) i).v))) (can_ok (kT_b hl (by omega))) (can_ok sub) (by decide) (by decide) (by decide)
  rw [can_v, can_v] at s2
  have h0 : 0 < l.length := by omega
  have hL : l.length - 1 < l.length := by omega
  have s1 := rsub_ev (nv := nv) hz (ix l (l.length - 1)) (ix l 0) (ixq_ok hl hL) (ixq_ok hl h0) (by decide) (by decide) (by decide)
  rw [show (ix l (l.length - 1)).v - (ix l 0).v = kT l from rfl] at s1
  have eL : (l.length : Int) - 1 = ((l.length - 1 : Nat) : Int) := by omega
  have n0 : ¬ (C : Int) + 1 = 0 := by omega
  have n1 : ¬ (C : Int) + 1 = 1 := by omega
  have n2 : ¬ C = 0 := by omega
  unfold kV
  have tk : List.take C (kX l C) = kX l C := List.take_of_length_le (by omega)
  have hby : (C + 1) * 56 ≤ 70368744177664 := by omega
  have hpn : hpart [] = [] := rfl
  have hnn : npart [] = [] := rfl
  have happ : ∀ q : RQ, el (kX l C) ++ q.c = el (kX l C ++ [q]) := fun q => by rw [← el_app]; congr 1
  have dd : ∀ (q : RQ) (p : Nat), asDD ((49, (⟨p, false, el (kX l C ++ [q])⟩ : Blk)) :: H) 3 (.own 49 3 0 (C + 1)) = some (.sl 3 (el (kX l C ++ [q]))) := fun q p => asDD_rowp rfl (by simp [hXl]) (un_rqs _ _)
  have tk3 : List.take (C * 3) (el (kX l C)) = el (kX l C) := List.take_of_length_le (by rw [el_len]; omega)
  have hby3 : (C * 3 + 3) * 56 ≤ 211106232532992 := by omega
  generalize can (kT l - sm C (fun i => (ix (kX l C) i).v)) = q1 at *
  generalize can (sm C (fun i => (ix (kX l C) i).v)) = q2 at *
  generalize kX l C = X at *
  generalize kAl C = A at *
  generalize kBl l C = B at *
  generalize kWl C = W at *
  generalize can (kT l) = qT at *
  simp (disch := omega) [-vIA_o, kernel_Values, p, n0, n1, n2, eL, hL, h0, s1, sy, le, su, s2, hXl, tk, hby, hby3, tk3, happ, dd, hpart_cons, npart_cons, hpn, hnn, hp.hpart, hp.npart, hp.aget, hp.aput, hp.adel]
end
end Go.Proofs.YtgigaimaaijalaaGreatDoor
