/- Division of rational numbers. -/
import Derived.Test.YtgigaimaaijalaaDoorOb
set_option linter.unusedSimpArgs false
set_option linter.unusedVariables false
namespace Go.Proofs.YtgigaimaaijalaaDoor
open Go Go.Proofs.R
set_option maxRecDepth 10000
section
variable {nv : R.Nv}
end
end Go.Proofs.YtgigaimaaijalaaDoor
