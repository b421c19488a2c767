/- The statements' own functions of layer 21: few, right, awake. -/
import Derived.Test.YtnmbpainnkdonaaGreatDoorRf
import Derived.Test.YtnmbpainnkdonaaGreatDoorIr
set_option linter.unusedSimpArgs false
set_option linter.unusedVariables false
namespace Go.Proofs.YtnmbpainnkdonaaGreatDoor
open Go Go.Proofs.R
set_option maxRecDepth 10000
theorem drop_ix {α : Type} [Inhabited α] {l : List α} {i : Nat} (h : i < l.length) : l.drop i = ix l i :: l.drop (i + 1) := by
  rw [List.drop_eq_getElem_cons h]; simp [ix, h]
theorem take_ix {α : Type} [Inhabited α] {l : List α} {i : Nat} (h : i < l.length) : l.take (i + 1) = l.take i ++ [ix l i] := by
  rw [List.take_add_one, ix_in h]; rfl
def rightB (o : List Int) (n : Nat) : Bool := decide (o.length = n) && (List.range n).all fun (i : Nat) => o.count (i : Int) == 1
section
variable {nv : R.Nv}
theorem awake21_ev : EX ip nv (.call F.dendronlaw21_awake [] []) = some (.ret (.d (.bool true)) []) := (EX_some ip nv).2 ⟨1000, by kernel_rfl⟩
end
end Go.Proofs.YtnmbpainnkdonaaGreatDoor
