/- What players get is the equations' answer: both are linear in what coalitions are worth. -/
import Derived.Test.YtgigaimaaijalaaGreatDoorKi
import Derived.Test.YtgigaimaaijalaaGreatDoorGs
set_option linter.unusedSimpArgs false
set_option linter.unusedVariables false
namespace Go.Proofs.YtgigaimaaijalaaGreatDoor
open Go Go.Proofs.R
set_option maxRecDepth 10000
/-- A unit point. -/
def dl (j : Nat) : Nat → Rat := fun t => if t = j then 1 else 0
/-- A function that is a sum of so many numbers, each so many times. -/
def Lin (m : Nat) (F : (Nat → Rat) → Rat) : Prop := ∃ c : Nat → Rat, ∀ v, F v = sm m fun j => c j * v j
theorem Lin.zero {m : Nat} : Lin m fun _ => 0 := ⟨fun _ => 0, fun v => (sm_zero fun j _ => by grind).symm⟩
theorem Lin.at {m j : Nat} (h : j < m) : Lin m fun v => v j := ⟨fun t => if t = j then 1 else 0, fun v => by
  rw [sm_congr (g := fun t => v t * (if t = j then 1 else 0)) (fun t _ => Rat.mul_comm _ _), sm_pick h]⟩
theorem Lin.add {m : Nat} {F G : (Nat → Rat) → Rat} (hF : Lin m F) (hG : Lin m G) : Lin m fun v => F v + G v := by
  obtain ⟨c, hc⟩ := hF
  obtain ⟨d, hd⟩ := hG
  refine ⟨fun j => c j + d j, fun v => ?_⟩
  show F v + G v = _
  rw [hc, hd, ← sm_add]
  exact sm_congr fun j _ => by grind
theorem Lin.mul {m : Nat} {F : (Nat → Rat) → Rat} (a : Rat) (hF : Lin m F) : Lin m fun v => a * F v := by
  obtain ⟨c, hc⟩ := hF
  refine ⟨fun j => a * c j, fun v => ?_⟩
  show a * F v = _
  rw [hc, ← sm_mul]
  exact sm_congr fun j _ => by grind
theorem Lin.sub {m : Nat} {F G : (Nat → Rat) → Rat} (hF : Lin m F) (hG : Lin m G) : Lin m fun v => F v - G v := by
  obtain ⟨c, hc⟩ := hF.add (hG.mul (-1))
  exact ⟨c, fun v => by rw [← hc]; grind⟩
theorem Lin.sum {m : Nat} {F : Nat → (Nat → Rat) → Rat} : ∀ k, (∀ i, i < k → Lin m (F i)) → Lin m fun v => sm k fun i => F i v
  | 0, _ => Lin.zero
  | k + 1, h => by
    show Lin m fun v => sm k (fun i => F i v) + F k v
    exact (Lin.sum k fun i hi => h i (by omega)).add (h k (by omega))
theorem Lin.unit {m : Nat} {F : (Nat → Rat) → Rat} {c : Nat → Rat} (hc : ∀ v, F v = sm m fun j => c j * v j) {j : Nat} (h : j < m) : F (dl j) = c j := by
  rw [hc]; exact sm_pick h c
theorem Lin.ext {m : Nat} {F G : (Nat → Rat) → Rat} (hF : Lin m F) (hG : Lin m G) (h : ∀ j, j < m → F (dl j) = G (dl j)) (v : Nat → Rat) : F v = G v := by
  obtain ⟨c, hc⟩ := hF
  obtain ⟨d, hd⟩ := hG
  rw [hc, hd]
  refine sm_congr fun j hj => ?_
  have := h j hj
  rw [Lin.unit hc hj, Lin.unit hd hj] at this
  rw [this]
theorem shS_lin {n i : Nat} (hn : n ≤ 5) (hi : i < n) : ∀ s, s ≤ 2 ^ n → Lin (2 ^ n) fun v => shS v n i s
  | 0, _ => Lin.zero
  | s + 1, h => by
    have ih := shS_lin hn hi s (by omega)
    have hp : 2 ^ n ≤ 2 ^ 5 := Nat.pow_le_pow_right (by decide) hn
    cases c : s.testBit i
    · obtain ⟨-, -, -, f4⟩ := set_facts ⟨n, by omega⟩ ⟨i, by omega⟩ ⟨s, by omega⟩ hi (by simp only; omega) c
      simp only at f4
      have e : (fun v => shS v n i (s + 1)) = fun v => shS v n i s + wq (cntN s 5) (n - cntN s 5 - 1) n * (v (s + 2 ^ i) - v s) := by
        funext v; rw [shS, c]; rfl
      rw [e]
      exact ih.add (((Lin.at f4).sub (Lin.at (by omega))).mul _)
    · have e : (fun v => shS v n i (s + 1)) = fun v => shS v n i s := by
        funext v; rw [shS, c]; rfl
      rw [e]
      exact ih
theorem shV_lin {n i : Nat} (hn : n ≤ 5) (hi : i < n) : Lin (2 ^ n) fun v => shV v n i := shS_lin hn hi _ (Nat.le_refl _)
/-- The right side, and the answer, of any worths. -/
def kBv (C : Nat) (v : Nat → Rat) (i : Nat) : Rat := v (i + 1) - v 0 - zB (i + 1) C * (v (2 ^ (C + 1) - 1) - v 0)
def kP (C k i : Nat) : Rat := sm C fun j => kJ C k j * (kA C i j * kW C i)
def kF (C k : Nat) (v : Nat → Rat) : Rat := sm (2 ^ (C + 1) - 2) fun i => kP C k i * kBv C v i
theorem kF_units : ∀ C : Fin 5, ∀ k : Fin 4, ∀ j : Fin 32, k.val < C.val → j.val < 2 ^ (C.val + 1) → kF C.val k.val (dl j.val) = shV (dl j.val) (C.val + 1) k.val := by decide +kernel
theorem kF_lin {C k : Nat} : Lin (2 ^ (C + 1)) (kF C k) := by
  have hp := Nat.two_pow_pos (C + 1)
  refine Lin.sum (F := fun i v => kP C k i * kBv C v i) _ fun i hi => Lin.mul _ ?_
  exact (((Lin.at (by omega)).sub (Lin.at (by omega))).sub (((Lin.at (by omega)).sub (Lin.at (by omega))).mul _))
theorem kF_shap {C k : Nat} (hC : C ≤ 4) (hk : k < C) (v : Nat → Rat) : kF C k v = shV v (C + 1) k := by
  have hp5 : 2 ^ (C + 1) ≤ 2 ^ 5 := Nat.pow_le_pow_right (by decide) (by omega)
  exact Lin.ext (m := 2 ^ (C + 1)) kF_lin (shV_lin (n := C + 1) (i := k) (by omega) (by omega)) (fun j hj => kF_units ⟨C, by omega⟩ ⟨k, by omega⟩ ⟨j, by omega⟩ hk hj) v
theorem kX_shap {l : List RQ} {C k : Nat} (h1 : 1 ≤ C) (hC : C ≤ 4) (hll : l.length = 2 ^ (C + 1)) (hk : k < C) : (ix (kX l C) k).v = shV (gv l) (C + 1) k := by
  rw [← kF_shap hC hk, kJ_turn hC (x := fun k => (ix (kX l C) k).v) (kX_eq l h1 hC) hk]
  have e : ∀ j, j < C → kJ C k j * sm (2 ^ (C + 1) - 2) (fun i => kA C i j * kW C i * kB l C i) = sm (2 ^ (C + 1) - 2) (fun i => kJ C k j * (kA C i j * kW C i) * kBv C (gv l) i) := fun j _ => by
    rw [← sm_mul]
    apply sm_congr
    intro i _
    have : kB l C i = kBv C (gv l) i := by
      unfold kB kT kBv gv
      rw [hll]
      grind
    rw [this]; grind
  rw [sm_congr e, sm_comm]
  unfold kF
  apply sm_congr
  intro i _
  rw [sm_mulr]
  rfl
theorem kX_can (l : List RQ) {C k : Nat} (h : 1 ≤ C) (hk : k < C) : ix (kX l C) k = can (ix (kX l C) k).v := by
  unfold kX lsX
  rw [rw_ix _ (by rw [kA_cols h]; exact hk), can_v]
/-- What all get: the same, as lists. -/
theorem kX_list {l : List RQ} {C : Nat} (h1 : 1 ≤ C) (hC : C ≤ 4) (hll : l.length = 2 ^ (C + 1)) : kX l C = tb C fun k => can (shV (gv l) (C + 1) k) := by
  have hxl := kX_len l h1
  apply List.ext_getElem
  · rw [hxl, tb_len]
  · intro k h2 h3
    rw [← ix_get h2, ← ix_get h3, tb_ix (by omega), kX_can l h1 (by omega), kX_shap h1 hC hll (by omega)]
end Go.Proofs.YtgigaimaaijalaaGreatDoor
