/- What players get is linear in what coalitions are worth. -/
import Derived.Test.YtnmbpainnkdonaaGreatDoorGs
import Derived.Test.YtnmbpainnkdonaaGreatDoorLf
set_option linter.unusedSimpArgs false
set_option linter.unusedVariables false
namespace Go.Proofs.YtnmbpainnkdonaaGreatDoor
open Go Go.Proofs.R
theorem shS_lin {n i : Nat} (hn : n ≤ 5) (hi : i < n) : ∀ s, s ≤ 2 ^ n → Lin (2 ^ n) fun v => shS v n i s
  | 0, _ => Lin.zero
  | s + 1, h => by
    have ih := shS_lin hn hi s (by omega)
    have hp : 2 ^ n ≤ 2 ^ 5 := Nat.pow_le_pow_right (by decide) hn
    cases c : s.testBit i
    · obtain ⟨-, -, -, f4⟩ := set_facts ⟨n, by omega⟩ ⟨i, by omega⟩ ⟨s, by omega⟩ hi (by simp only; omega) c
      simp only at f4
      have e : (fun v => shS v n i (s + 1)) = fun v => shS v n i s + wq (cntN s 5) (n - cntN s 5 - 1) n * (v (s + 2 ^ i) - v s) := by
        funext v; rw [shS, c]; rfl
      rw [e]
      exact ih.add (((Lin.at f4).sub (Lin.at (by omega))).mul _)
    · have e : (fun v => shS v n i (s + 1)) = fun v => shS v n i s := by
        funext v; rw [shS, c]; rfl
      rw [e]
      exact ih
theorem shV_lin {n i : Nat} (hn : n ≤ 5) (hi : i < n) : Lin (2 ^ n) fun v => shV v n i := shS_lin hn hi _ (Nat.le_refl _)
end Go.Proofs.YtnmbpainnkdonaaGreatDoor
