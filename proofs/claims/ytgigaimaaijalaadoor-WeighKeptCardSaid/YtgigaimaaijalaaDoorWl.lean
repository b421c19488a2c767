/- The statements of layer 14, evaluated. -/
import Derived.Test.YtgigaimaaijalaaDoorWk
set_option linter.unusedSimpArgs false
set_option linter.unusedVariables false
namespace Go.Proofs.YtgigaimaaijalaaDoor
open Go Go.Proofs.R
set_option maxRecDepth 10000
theorem rint_z {nv : R.Nv} (n : Nat) (h : (dig n).length ≤ 1099511627776) : EX ip nv (.call F.ratio_Int [.d (.ag (zI (n : Int)))] []) = some (.ret (.d (.ag (can (n : Rat)).c)) []) := by
  have w := rint_ev (nv := nv) false (dig n) (dig_rw h)
  have e : zI (n : Int) = [.bool false, .sl 1 (us (dig n))] := by
    unfold zI; rw [Int.natAbs_natCast]; simp
  rw [lv_dig] at w
  rw [e, w]
  rfl
end Go.Proofs.YtgigaimaaijalaaDoor
