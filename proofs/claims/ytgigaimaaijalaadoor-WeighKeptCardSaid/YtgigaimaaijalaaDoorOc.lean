/- A number in its form is right. -/
import Derived.Test.YtgigaimaaijalaaDoorOb
import Derived.Test.YtgigaimaaijalaaDoorRf
set_option linter.unusedSimpArgs false
set_option linter.unusedVariables false
namespace Go.Proofs.YtgigaimaaijalaaDoor
open Go Go.Proofs.R
set_option maxRecDepth 10000
section
variable {nv : R.Nv}
/-- May limbs be a number? -/
def rightN (l : List Nat) : Bool := l.all (fun x => decide (x ≤ 4294967295)) && (l.isEmpty || lb l (l.length - 1) != 0)
theorem rightN_iff (l : List Nat) : rightN l = true ↔ Cl l ∧ (l = [] ∨ lb l (l.length - 1) ≠ 0) := by
  simp only [rightN, Bool.and_eq_true, List.all_eq_true, decide_eq_true_eq, Bool.or_eq_true, List.isEmpty_iff, bne_iff_ne, ne_eq, Cl]
  constructor
  · rintro ⟨h1, h2⟩; exact ⟨fun x hx => by have := h1 x hx; omega, h2⟩
  · rintro ⟨h1, h2⟩; exact ⟨fun x hx => by have := h1 x hx; omega, h2⟩
theorem rightN_dig (n : Nat) : rightN (dig n) = true := by
  rw [rightN_iff]
  refine ⟨dig_cl n, ?_⟩
  rcases Nat.eq_zero_or_pos n with h | h
  · left; rw [dig_nil]; exact h
  · right; exact dig_last h
end
end Go.Proofs.YtgigaimaaijalaaDoor
