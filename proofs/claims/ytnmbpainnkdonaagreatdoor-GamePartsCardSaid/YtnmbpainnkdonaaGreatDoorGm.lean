/- Games: the plain laws: all is parted; duals; shares and their sums. -/
import Derived.Test.YtnmbpainnkdonaaGreatDoorGh
set_option linter.unusedSimpArgs false
set_option linter.unusedVariables false
namespace Go.Proofs.YtnmbpainnkdonaaGreatDoor
open Go Go.Proofs.R
theorem eff_units : ∀ n : Fin 6, ∀ j : Fin 32, j.val < 2 ^ n.val → sm n.val (fun i => shV (dl j.val) n.val i) = dl j.val (2 ^ n.val - 1) - dl j.val 0 := by decide +kernel
/-- What all get comes to what all are worth, less what none are. -/
theorem shap_all {v : Nat → Rat} {n : Nat} (hn : n ≤ 5) : sm n (shV v n) = v (2 ^ n - 1) - v 0 := by
  have hp := Nat.two_pow_pos n
  have hp5 : 2 ^ n ≤ 2 ^ 5 := Nat.pow_le_pow_right (by decide) hn
  exact Lin.ext (m := 2 ^ n) (Lin.sum (F := fun i v => shV v n i) n fun i hi => shV_lin hn hi) ((Lin.at (by omega)).sub (Lin.at (by omega))) (fun j hj => eff_units ⟨n, by omega⟩ ⟨j, by omega⟩ (by simpa using hj)) v
theorem dual_units : ∀ n : Fin 6, ∀ i : Fin 5, ∀ j : Fin 32, i.val < n.val → j.val < 2 ^ n.val → shV (fun s => dl j.val (2 ^ n.val - 1) - dl j.val (2 ^ n.val - 1 - s)) n.val i.val = shV (dl j.val) n.val i.val := by decide +kernel
/-- Each gets the same of the dual. -/
theorem shap_dual {v : Nat → Rat} {n i : Nat} (hn : n ≤ 5) (hi : i < n) : shV (fun s => v (2 ^ n - 1) - v (2 ^ n - 1 - s)) n i = shV v n i := by
  have hp := Nat.two_pow_pos n
  have hp5 : 2 ^ n ≤ 2 ^ 5 := Nat.pow_le_pow_right (by decide) hn
  exact Lin.ext (m := 2 ^ n) ((shV_lin hn hi).comp (m := 2 ^ n) (G := fun v s => v (2 ^ n - 1) - v (2 ^ n - 1 - s)) (fun s hs => (Lin.at (by omega)).sub (Lin.at (by omega)))) (shV_lin hn hi) (fun j hj => dual_units ⟨n, by omega⟩ ⟨i, by omega⟩ ⟨j, by omega⟩ hi (by simpa using hj)) v
/-- One player's pass: with a sign. -/
def pass (c : Rat) (i : Nat) (f : Nat → Rat) : Nat → Rat := fun s => if s.testBit i then f s + c * f (s - 2 ^ i) else f s
/-- All passes, from the first player on; and from the last one on. -/
def fwd (c : Rat) : Nat → (Nat → Rat) → Nat → Rat
  | 0, f => f
  | i + 1, f => pass c i (fwd c i f)
def bwd (c : Rat) : Nat → (Nat → Rat) → Nat → Rat
  | 0, f => f
  | i + 1, f => bwd c i (pass c i f)
theorem bit_sub {s i : Nat} (h : s.testBit i = true) : (s - 2 ^ i).testBit i = false ∧ 2 ^ i ≤ s := by
  have hle : 2 ^ i ≤ s := Nat.ge_two_pow_of_testBit h
  refine ⟨?_, hle⟩
  have : s = 2 ^ i + (s - 2 ^ i) := by omega
  rw [this, Nat.testBit_two_pow_add_eq] at h
  simpa using h
theorem pass_inv (i : Nat) (f : Nat → Rat) : pass 1 i (pass (-1) i f) = f := by
  funext s
  unfold pass
  by_cases h : s.testBit i = true
  · obtain ⟨h1, -⟩ := bit_sub h
    simp only [h, if_true, h1]
    simp
    grind
  · simp only [Bool.not_eq_true] at h
    simp [h]
theorem bwd_fwd : ∀ (n : Nat) (f : Nat → Rat), bwd 1 n (fwd (-1) n f) = f
  | 0, _ => rfl
  | n + 1, f => by rw [bwd, fwd, pass_inv, bwd_fwd n f]
/-- Is a coalition within another one? -/
def win (a b n : Nat) : Bool := (List.range n).all fun i => !a.testBit i || b.testBit i
def sumW (n : Nat) (f : Nat → Rat) (s : Nat) : Rat := sm (2 ^ n) fun t => if win t s n then f t else 0
theorem pass_lin {m i : Nat} (c : Rat) {G : (Nat → Rat) → Nat → Rat} (hG : ∀ s, s < m → Lin m fun v => G v s) : ∀ s, s < m → Lin m fun v => pass c i (G v) s := by
  intro s hs
  unfold pass
  by_cases h : s.testBit i = true
  · simp only [h, if_true]
    exact (hG s hs).add ((hG _ (Nat.lt_of_le_of_lt (Nat.sub_le _ _) hs)).mul c)
  · simp only [h]
    exact hG s hs
theorem fwd_lin {m : Nat} (c : Rat) : ∀ i s, s < m → Lin m fun v => fwd c i v s
  | 0, s, hs => Lin.at hs
  | i + 1, s, hs => pass_lin c (G := fun v => fwd c i v) (fwd_lin c i) s hs
theorem bwd_lin {m : Nat} (c : Rat) : ∀ i {G : (Nat → Rat) → Nat → Rat}, (∀ s, s < m → Lin m fun v => G v s) → ∀ s, s < m → Lin m fun v => bwd c i (G v) s
  | 0, _, hG, s, hs => hG s hs
  | i + 1, G, hG, s, hs => bwd_lin c i (G := fun v => pass c i (G v)) (pass_lin c hG) s hs
theorem sumW_lin {n s : Nat} : Lin (2 ^ n) fun v => sumW n v s := by
  refine Lin.sum (F := fun t v => if win t s n then v t else 0) (2 ^ n) fun t ht => ?_
  by_cases h : win t s n = true
  · simp only [h, if_true]; exact Lin.at ht
  · simp only [h]; exact Lin.zero
theorem sum_units : ∀ n : Fin 6, ∀ s j : Fin 32, s.val < 2 ^ n.val → j.val < 2 ^ n.val → sumW n.val (dl j.val) s.val = bwd 1 n.val (dl j.val) s.val ∧ sumW n.val (dl j.val) s.val = fwd 1 n.val (dl j.val) s.val := by decide +kernel
theorem sumW_bwd {n s : Nat} (hn : n ≤ 5) (hs : s < 2 ^ n) (v : Nat → Rat) : sumW n v s = bwd 1 n v s := by
  have hp5 : 2 ^ n ≤ 2 ^ 5 := Nat.pow_le_pow_right (by decide) hn
  exact Lin.ext (m := 2 ^ n) sumW_lin (bwd_lin (m := 2 ^ n) 1 n (G := fun v => v) (fun s hs => Lin.at hs) s hs) (fun j hj => (sum_units ⟨n, by omega⟩ ⟨s, by omega⟩ ⟨j, by omega⟩ hs hj).1) v
/-- The sums of what is there are the passes. -/
theorem sumW_fwd {n s : Nat} (hn : n ≤ 5) (hs : s < 2 ^ n) (v : Nat → Rat) : sumW n v s = fwd 1 n v s := by
  have hp5 : 2 ^ n ≤ 2 ^ 5 := Nat.pow_le_pow_right (by decide) hn
  exact Lin.ext (m := 2 ^ n) sumW_lin (fwd_lin (m := 2 ^ n) 1 n s hs) (fun j hj => (sum_units ⟨n, by omega⟩ ⟨s, by omega⟩ ⟨j, by omega⟩ hs hj).2) v
/-- The shares within a coalition come to what it is worth. -/
theorem shares_sum {n s : Nat} (hn : n ≤ 5) (hs : s < 2 ^ n) (v : Nat → Rat) : sumW n (fwd (-1) n v) s = v s := by
  rw [sumW_bwd hn hs, bwd_fwd]
/-- What a player gets when shares are parted evenly. -/
def evS (f : Nat → Rat) (i : Nat) : Nat → Rat
  | 0 => 0
  | s + 1 => if s.testBit i then evS f i s + f s * Rat.divInt 1 (cntN s 5 : Nat) else evS f i s
theorem evS_lin {m i : Nat} {G : (Nat → Rat) → Nat → Rat} (hG : ∀ s, s < m → Lin m fun v => G v s) : ∀ s, s ≤ m → Lin m fun v => evS (G v) i s
  | 0, _ => Lin.zero
  | s + 1, h => by
    have ih := evS_lin hG (i := i) s (by omega)
    simp only [evS]
    by_cases c : s.testBit i = true
    · simp only [c, if_true]
      have := ih.add ((hG s (by omega)).mul (Rat.divInt 1 (cntN s 5 : Nat)))
      have e : (fun v => evS (G v) i s + Rat.divInt 1 ((cntN s 5 : Nat) : Int) * G v s) = fun v => evS (G v) i s + G v s * Rat.divInt 1 ((cntN s 5 : Nat) : Int) := by
        funext v; rw [Rat.mul_comm]
      rw [← e]; exact this
    · simp only [c]
      exact ih
theorem parts_units : ∀ n : Fin 6, ∀ i : Fin 5, ∀ j : Fin 32, i.val < n.val → j.val < 2 ^ n.val → evS (fwd (-1) n.val (dl j.val)) i.val (2 ^ n.val) = shV (dl j.val) n.val i.val := by decide +kernel
/-- Shares parted evenly are what each gets. -/
theorem parts_shap {v : Nat → Rat} {n i : Nat} (hn : n ≤ 5) (hi : i < n) : evS (fwd (-1) n v) i (2 ^ n) = shV v n i := by
  have hp5 : 2 ^ n ≤ 2 ^ 5 := Nat.pow_le_pow_right (by decide) hn
  exact Lin.ext (m := 2 ^ n) (evS_lin (fun s hs => fwd_lin (-1) n s hs) (2 ^ n) (Nat.le_refl _)) (shV_lin hn hi) (fun j hj => parts_units ⟨n, by omega⟩ ⟨i, by omega⟩ ⟨j, by omega⟩ hi hj) v
end Go.Proofs.YtnmbpainnkdonaaGreatDoor
