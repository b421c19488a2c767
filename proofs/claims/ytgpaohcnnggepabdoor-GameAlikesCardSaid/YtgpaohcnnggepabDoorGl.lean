/- What players get is linear in what coalitions are worth. -/
import Derived.Test.YtgpaohcnnggepabDoorGn
import Derived.Test.YtgpaohcnnggepabDoorLf
set_option linter.unusedSimpArgs false
set_option linter.unusedVariables false
namespace Go.Proofs.YtgpaohcnnggepabDoor
open Go Go.Proofs.R
theorem shS_lin {n i : Nat} (hn : n ≤ 5) (hi : i < n) : ∀ s, s ≤ 2 ^ n → Lin (2 ^ n) fun v => shS v n i s
  | 0, _ => Lin.zero
  | s + 1, h => by
    have ih := shS_lin hn hi s (by omega)
    have hp : 2 ^ n ≤ 2 ^ 5 := Nat.pow_le_pow_right (by decide) hn
    cases c : s.testBit i
    · obtain ⟨-, -, -, f4⟩ := set_facts ⟨n, by omega⟩ ⟨i, by omega⟩ ⟨s, by omega⟩ hi (by simp only; omega) c
      simp only at f4
      have e : (fun v => shS v n i (s + 1)) = fun v => shS v n i s + wq (cntN s 5) (n - cntN s 5 - 1) n * (v (s + 2 ^ i) - v s) := by
        funext v; rw [shS, c]; rfl
      rw [e]
      exact ih.add (((Lin.at f4).sub (Lin.at (by omega))).mul _)
    · have e : (fun v => shS v n i (s + 1)) = fun v => shS v n i s := by
        funext v; rw [shS, c]; rfl
      rw [e]
      exact ih
theorem shV_lin {n i : Nat} (hn : n ≤ 5) (hi : i < n) : Lin (2 ^ n) fun v => shV v n i := shS_lin hn hi _ (Nat.le_refl _)
/-- One player's place taken by another one's. -/
def rho (i k j : Nat) : Nat := if j.testBit i && !j.testBit k then j - 2 ^ i + 2 ^ k else j
theorem rho_facts : ∀ n : Fin 6, ∀ i k : Fin 5, ∀ j : Fin 32, i.val < n.val → k.val < n.val → j.val < 2 ^ n.val → rho i.val k.val j.val < 2 ^ n.val ∧ (j.val.testBit i.val = true → j.val.testBit k.val = false → 2 ^ i.val ≤ j.val ∧ j.val - 2 ^ i.val < 2 ^ n.val ∧ (j.val - 2 ^ i.val).testBit i.val = false ∧ (j.val - 2 ^ i.val).testBit k.val = false) := by decide +kernel
theorem alike_units : ∀ n : Fin 6, ∀ i k : Fin 5, ∀ j : Fin 32, i.val < n.val → k.val < n.val → j.val < 2 ^ n.val → shV (fun t => dl j.val (rho i.val k.val t)) n.val i.val = shV (fun t => dl j.val (rho i.val k.val t)) n.val k.val := by decide +kernel
/-- Who add the same get the same. -/
theorem alike_same {v : Nat → Rat} {n i k : Nat} (hn : n ≤ 5) (hi : i < n) (hk : k < n) (h : allB (2 ^ n) (alikeAt v i k) = true) : shV v n i = shV v n k := by
  have hp : 2 ^ n ≤ 2 ^ 5 := Nat.pow_le_pow_right (by decide) hn
  have hv : ∀ j, j < 2 ^ n → v j = v (rho i k j) := by
    intro j hj
    obtain ⟨-, r2⟩ := rho_facts ⟨n, by omega⟩ ⟨i, by omega⟩ ⟨k, by omega⟩ ⟨j, by omega⟩ hi hk (by simpa using hj)
    simp only at r2
    unfold rho
    split
    · rename_i c
      simp only [Bool.and_eq_true, Bool.not_eq_true'] at c
      obtain ⟨q1, q2, q3, q4⟩ := r2 c.1 c.2
      have := allB_iff.1 h (j - 2 ^ i) q2
      simp only [alikeAt, q3, q4, Bool.false_or, decide_eq_true_eq] at this
      rw [← this]
      congr 1
      omega
    · rfl
  have hr : ∀ s, s < 2 ^ n → rho i k s < 2 ^ n := fun s hs => (rho_facts ⟨n, by omega⟩ ⟨i, by omega⟩ ⟨k, by omega⟩ ⟨s, by omega⟩ hi hk (by simpa using hs)).1
  have l1 := (shV_lin hn hi).comp (m := 2 ^ n) (G := fun v s => v (rho i k s)) (fun s hs => Lin.at (hr s hs))
  have l2 := (shV_lin hn hk).comp (m := 2 ^ n) (G := fun v s => v (rho i k s)) (fun s hs => Lin.at (hr s hs))
  have e := Lin.ext l1 l2 (fun j hj => alike_units ⟨n, by omega⟩ ⟨i, by omega⟩ ⟨k, by omega⟩ ⟨j, by omega⟩ hi hk (by simpa using hj)) v
  rw [(shV_lin hn hi).look hv, (shV_lin hn hk).look hv]
  exact e
end Go.Proofs.YtgpaohcnnggepabDoor
