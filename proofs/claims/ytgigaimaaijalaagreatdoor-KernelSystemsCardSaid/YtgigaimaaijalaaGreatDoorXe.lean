/- Steps, ranks, determinants, as the program tells them. -/
import Derived.Test.YtgigaimaaijalaaGreatDoorTb
import Derived.Test.YtgigaimaaijalaaGreatDoorTd
set_option linter.unusedSimpArgs false
set_option linter.unusedVariables false
namespace Go.Proofs.YtgigaimaaijalaaGreatDoor
open Go Go.Proofs.R
set_option maxRecDepth 10000
theorem tf_b {a : List (List RQ)} {b : Nat} (hb : ∀ r ∈ a, ∀ x ∈ r, x.ok b) (hb0 : 1 ≤ b) (hr : rectB a = true) : ∀ i k, i < a.length → k < colsN a → Bq b (tf a i k) := fun i k hi hk => by
  have hl := rect_row hr hi
  exact Bq.v (hb _ (ix_mem hi) _ (ix_mem (l := ix a i) (by omega))) hb0
section
variable {nv : R.Nv}
/-- A table's rows in steps. -/
abbrev stp (a : List (List RQ)) : Rs := runR a.length (tf a) (colsN a)
end
end Go.Proofs.YtgigaimaaijalaaGreatDoor
