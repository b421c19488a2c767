/- The distance of long numbers from a game. -/
import Derived.Test.YtgigaimaaijalaaGreatDoorXw
import Derived.Test.YtgigaimaaijalaaGreatDoorGa
import Derived.Test.YtgigaimaaijalaaGreatDoorZz
import Derived.Test.YtgigaimaaijalaaGreatDoorGc
set_option linter.unusedSimpArgs false
set_option linter.unusedVariables false
namespace Go.Proofs.YtgigaimaaijalaaGreatDoor
open Go Go.Proofs.R
set_option maxRecDepth 10000
theorem cnt_facts : ∀ n : Fin 6, ∀ s : Fin 32, 0 < s.val → s.val < 2 ^ n.val - 1 → cntN s n = cntN s 5 ∧ 1 ≤ cntN s n ∧ cntN s n < n := by decide +kernel
def dV (l x : List RQ) (s : Nat) : Nat → Rat
  | 0 => (ix l 0).v - (ix l s).v
  | i + 1 => if s.testBit i then dV l x s i + (ix x i).v else dV l x s i
def sV (l x : List RQ) (n : Nat) : Nat → Rat
  | 0 => 0
  | j + 1 => sV l x n j + kwt (cntN (j + 1) n) n * (dV l x (j + 1) n * dV l x (j + 1) n)
section
variable {nv : R.Nv}
end
end Go.Proofs.YtgigaimaaijalaaGreatDoor
