/-
  NARROWER THAN 'FOR EVERY INPUT', by the rows' own cells (each row's printed sentence says how): SolveSizes: laid · SolveProducts: laid · SolveDets: laid · SolveSteps: laid · SolveSolves: laid · SolveKernels: laid · SolveInverses: laid · SolveLeasts: laid · KernelNearest: laid.
  DERIVED. THE GIVEN ROWS OF THIS SEAT. 9 by the template 'for every input the law returns true; each argument reads behind the call as it read before'; 0 by the template 'total and deterministic' (their statements: YtbghnfhfekfenaaDoorTotals.lean).
  GIVEN WITH THE SEED: the statements are not yours to turn. If you find one false, say at which input.
  Laid BY PROGRAM, IN A SANDBOX (cutbox-rows.mjs): the forced cells as the released guide's own fill.sh prints them over the translation d7c07ad02a331e85… (all of the seat's roots in one cut). By AI agents, Wed Nov 11 2026. No macro, syntax, notation, axiom, sorry.
-/
import Derived.Test.YtbghnfhfekfenaaDoorChecked
import GoSem.Claim
import GoSem.ClaimJoined
import GoSem.ClaimMapViews
import Derived.JoinedTies
import Derived.KernelRfl
namespace Go.Proofs.YtbghnfhfekfenaaDoor
/- THE CELL 'sum', in the pinned program and in every row, IS THE sha256 OF THE DUMP (.gsa) THAT YtbghnfhfekfenaaDoorProg.lean LOADS. Nothing in Lean hashes anything: it is a label: what it is worth is what the hold of that sum in a sandbox is worth. -/
noncomputable def Tryd.pinned : Pinned := { name := "ytbghnfhfekfenaadoor", sum := "d7c07ad02a331e85b4f86219df21345ab05a964270d9e936ee9f535810d733dd", checked := Tryd.checked }
namespace Rows
def none {H : Type} : Left H := { results := [], args := [] }

/- WHAT THE LISTED PACKAGE-LEVEL VARIABLES READ AS WHEN THE CALL BEGINS. Each datum BY PROGRAM (the guide's laid-datum.mjs) off the statement by which the dump's own 'gosem.cut.vars' lays the variable. In a bare row this is a premise. The card (YtbghnfhfekfenaaDoorCards.lean) ties it to the program's text. -/
def laid_math_bits_deBruijn64tab {H : Type} : DataW H := .agg [.lit (.int .u8 0), .lit (.int .u8 1), .lit (.int .u8 56), .lit (.int .u8 2), .lit (.int .u8 57), .lit (.int .u8 49), .lit (.int .u8 28), .lit (.int .u8 3), .lit (.int .u8 61), .lit (.int .u8 58), .lit (.int .u8 42), .lit (.int .u8 50), .lit (.int .u8 38), .lit (.int .u8 29), .lit (.int .u8 17), .lit (.int .u8 4), .lit (.int .u8 62), .lit (.int .u8 47), .lit (.int .u8 59), .lit (.int .u8 36), .lit (.int .u8 45), .lit (.int .u8 43), .lit (.int .u8 51), .lit (.int .u8 22), .lit (.int .u8 53), .lit (.int .u8 39), .lit (.int .u8 33), .lit (.int .u8 30), .lit (.int .u8 24), .lit (.int .u8 18), .lit (.int .u8 12), .lit (.int .u8 5), .lit (.int .u8 63), .lit (.int .u8 55), .lit (.int .u8 48), .lit (.int .u8 27), .lit (.int .u8 60), .lit (.int .u8 41), .lit (.int .u8 37), .lit (.int .u8 16), .lit (.int .u8 46), .lit (.int .u8 35), .lit (.int .u8 44), .lit (.int .u8 21), .lit (.int .u8 52), .lit (.int .u8 32), .lit (.int .u8 23), .lit (.int .u8 11), .lit (.int .u8 54), .lit (.int .u8 26), .lit (.int .u8 40), .lit (.int .u8 15), .lit (.int .u8 34), .lit (.int .u8 20), .lit (.int .u8 31), .lit (.int .u8 10), .lit (.int .u8 25), .lit (.int .u8 14), .lit (.int .u8 19), .lit (.int .u8 9), .lit (.int .u8 13), .lit (.int .u8 8), .lit (.int .u8 7), .lit (.int .u8 6)]

/-- 'dendronlaw05.SolveSizes': WHATEVER THE INPUT: true; the input reads as it did. -/
def solveSizesSpec : ChangeSpec := { name := "solveSizes", fn := fun _ => fun
  | [d1, d2] => { results := [.lit (.bool true)], args := [d1, d2] }
  | _ => none }
def solveSizesRow : OpenClaim := { program := "ytbghnfhfekfenaadoor", sum := "d7c07ad02a331e85b4f86219df21345ab05a964270d9e936ee9f535810d733dd", func := "dendron/dendronlaw05.SolveSizes", spec := "solveSizes", named := ["math/bits.deBruijn64tab"], apart := false, laid := [("math/bits.deBruijn64tab", laid_math_bits_deBruijn64tab)] }
def SolveSizesSaid : Prop := solveSizesRow.holds Tryd.pinned (OpenSpec.ofChange solveSizesSpec)

/-- ITS FALSE NEIGHBOUR: 'it returns false'. Refute it at one input. -/
def solveSizesWrong : ChangeSpec := { name := "solveSizes", fn := fun _ => fun
  | [d1, d2] => { results := [.lit (.bool false)], args := [d1, d2] }
  | _ => none }
def SolveSizesWrongFalsely : Prop := solveSizesRow.holds Tryd.pinned (OpenSpec.ofChange solveSizesWrong)

/-- 'dendronlaw05.SolveProducts': WHATEVER THE INPUT: true; the input reads as it did. -/
def solveProductsSpec : ChangeSpec := { name := "solveProducts", fn := fun _ => fun
  | [d1, d2, d3] => { results := [.lit (.bool true)], args := [d1, d2, d3] }
  | _ => none }
def solveProductsRow : OpenClaim := { program := "ytbghnfhfekfenaadoor", sum := "d7c07ad02a331e85b4f86219df21345ab05a964270d9e936ee9f535810d733dd", func := "dendron/dendronlaw05.SolveProducts", spec := "solveProducts", named := ["math/bits.deBruijn64tab"], apart := false, laid := [("math/bits.deBruijn64tab", laid_math_bits_deBruijn64tab)] }
def SolveProductsSaid : Prop := solveProductsRow.holds Tryd.pinned (OpenSpec.ofChange solveProductsSpec)

/-- ITS FALSE NEIGHBOUR: 'it returns false'. Refute it at one input. -/
def solveProductsWrong : ChangeSpec := { name := "solveProducts", fn := fun _ => fun
  | [d1, d2, d3] => { results := [.lit (.bool false)], args := [d1, d2, d3] }
  | _ => none }
def SolveProductsWrongFalsely : Prop := solveProductsRow.holds Tryd.pinned (OpenSpec.ofChange solveProductsWrong)

/-- 'dendronlaw05.SolveDets': WHATEVER THE INPUT: true; the input reads as it did. -/
def solveDetsSpec : ChangeSpec := { name := "solveDets", fn := fun _ => fun
  | [d1, d2] => { results := [.lit (.bool true)], args := [d1, d2] }
  | _ => none }
def solveDetsRow : OpenClaim := { program := "ytbghnfhfekfenaadoor", sum := "d7c07ad02a331e85b4f86219df21345ab05a964270d9e936ee9f535810d733dd", func := "dendron/dendronlaw05.SolveDets", spec := "solveDets", recurses := true, named := ["math/bits.deBruijn64tab"], apart := false, laid := [("math/bits.deBruijn64tab", laid_math_bits_deBruijn64tab)] }
def SolveDetsSaid : Prop := solveDetsRow.holds Tryd.pinned (OpenSpec.ofChange solveDetsSpec)

/-- ITS FALSE NEIGHBOUR: 'it returns false'. Refute it at one input. -/
def solveDetsWrong : ChangeSpec := { name := "solveDets", fn := fun _ => fun
  | [d1, d2] => { results := [.lit (.bool false)], args := [d1, d2] }
  | _ => none }
def SolveDetsWrongFalsely : Prop := solveDetsRow.holds Tryd.pinned (OpenSpec.ofChange solveDetsWrong)

/-- 'dendronlaw05.SolveSteps': WHATEVER THE INPUT: true; the input reads as it did. -/
def solveStepsSpec : ChangeSpec := { name := "solveSteps", fn := fun _ => fun
  | [d] => { results := [.lit (.bool true)], args := [d] }
  | _ => none }
def solveStepsRow : OpenClaim := { program := "ytbghnfhfekfenaadoor", sum := "d7c07ad02a331e85b4f86219df21345ab05a964270d9e936ee9f535810d733dd", func := "dendron/dendronlaw05.SolveSteps", spec := "solveSteps", named := ["math/bits.deBruijn64tab"], apart := false, laid := [("math/bits.deBruijn64tab", laid_math_bits_deBruijn64tab)] }
def SolveStepsSaid : Prop := solveStepsRow.holds Tryd.pinned (OpenSpec.ofChange solveStepsSpec)

/-- ITS FALSE NEIGHBOUR: 'it returns false'. Refute it at one input. -/
def solveStepsWrong : ChangeSpec := { name := "solveSteps", fn := fun _ => fun
  | [d] => { results := [.lit (.bool false)], args := [d] }
  | _ => none }
def SolveStepsWrongFalsely : Prop := solveStepsRow.holds Tryd.pinned (OpenSpec.ofChange solveStepsWrong)

/-- 'dendronlaw05.SolveSolves': WHATEVER THE INPUT: true; the input reads as it did. -/
def solveSolvesSpec : ChangeSpec := { name := "solveSolves", fn := fun _ => fun
  | [d1, d2] => { results := [.lit (.bool true)], args := [d1, d2] }
  | _ => none }
def solveSolvesRow : OpenClaim := { program := "ytbghnfhfekfenaadoor", sum := "d7c07ad02a331e85b4f86219df21345ab05a964270d9e936ee9f535810d733dd", func := "dendron/dendronlaw05.SolveSolves", spec := "solveSolves", named := ["math/bits.deBruijn64tab"], apart := false, laid := [("math/bits.deBruijn64tab", laid_math_bits_deBruijn64tab)] }
def SolveSolvesSaid : Prop := solveSolvesRow.holds Tryd.pinned (OpenSpec.ofChange solveSolvesSpec)

/-- ITS FALSE NEIGHBOUR: 'it returns false'. Refute it at one input. -/
def solveSolvesWrong : ChangeSpec := { name := "solveSolves", fn := fun _ => fun
  | [d1, d2] => { results := [.lit (.bool false)], args := [d1, d2] }
  | _ => none }
def SolveSolvesWrongFalsely : Prop := solveSolvesRow.holds Tryd.pinned (OpenSpec.ofChange solveSolvesWrong)

/-- 'dendronlaw05.SolveKernels': WHATEVER THE INPUT: true; the input reads as it did. -/
def solveKernelsSpec : ChangeSpec := { name := "solveKernels", fn := fun _ => fun
  | [d] => { results := [.lit (.bool true)], args := [d] }
  | _ => none }
def solveKernelsRow : OpenClaim := { program := "ytbghnfhfekfenaadoor", sum := "d7c07ad02a331e85b4f86219df21345ab05a964270d9e936ee9f535810d733dd", func := "dendron/dendronlaw05.SolveKernels", spec := "solveKernels", named := ["math/bits.deBruijn64tab"], apart := false, laid := [("math/bits.deBruijn64tab", laid_math_bits_deBruijn64tab)] }
def SolveKernelsSaid : Prop := solveKernelsRow.holds Tryd.pinned (OpenSpec.ofChange solveKernelsSpec)

/-- ITS FALSE NEIGHBOUR: 'it returns false'. Refute it at one input. -/
def solveKernelsWrong : ChangeSpec := { name := "solveKernels", fn := fun _ => fun
  | [d] => { results := [.lit (.bool false)], args := [d] }
  | _ => none }
def SolveKernelsWrongFalsely : Prop := solveKernelsRow.holds Tryd.pinned (OpenSpec.ofChange solveKernelsWrong)

/-- 'dendronlaw05.SolveInverses': WHATEVER THE INPUT: true; the input reads as it did. -/
def solveInversesSpec : ChangeSpec := { name := "solveInverses", fn := fun _ => fun
  | [d1, d2] => { results := [.lit (.bool true)], args := [d1, d2] }
  | _ => none }
def solveInversesRow : OpenClaim := { program := "ytbghnfhfekfenaadoor", sum := "d7c07ad02a331e85b4f86219df21345ab05a964270d9e936ee9f535810d733dd", func := "dendron/dendronlaw05.SolveInverses", spec := "solveInverses", recurses := true, named := ["math/bits.deBruijn64tab"], apart := false, laid := [("math/bits.deBruijn64tab", laid_math_bits_deBruijn64tab)] }
def SolveInversesSaid : Prop := solveInversesRow.holds Tryd.pinned (OpenSpec.ofChange solveInversesSpec)

/-- ITS FALSE NEIGHBOUR: 'it returns false'. Refute it at one input. -/
def solveInversesWrong : ChangeSpec := { name := "solveInverses", fn := fun _ => fun
  | [d1, d2] => { results := [.lit (.bool false)], args := [d1, d2] }
  | _ => none }
def SolveInversesWrongFalsely : Prop := solveInversesRow.holds Tryd.pinned (OpenSpec.ofChange solveInversesWrong)

/-- 'dendronlaw05.SolveLeasts': WHATEVER THE INPUT: true; the input reads as it did. -/
def solveLeastsSpec : ChangeSpec := { name := "solveLeasts", fn := fun _ => fun
  | [d1, d2, d3, d4] => { results := [.lit (.bool true)], args := [d1, d2, d3, d4] }
  | _ => none }
def solveLeastsRow : OpenClaim := { program := "ytbghnfhfekfenaadoor", sum := "d7c07ad02a331e85b4f86219df21345ab05a964270d9e936ee9f535810d733dd", func := "dendron/dendronlaw05.SolveLeasts", spec := "solveLeasts", named := ["math/bits.deBruijn64tab"], apart := false, laid := [("math/bits.deBruijn64tab", laid_math_bits_deBruijn64tab)] }
def SolveLeastsSaid : Prop := solveLeastsRow.holds Tryd.pinned (OpenSpec.ofChange solveLeastsSpec)

/-- ITS FALSE NEIGHBOUR: 'it returns false'. Refute it at one input. -/
def solveLeastsWrong : ChangeSpec := { name := "solveLeasts", fn := fun _ => fun
  | [d1, d2, d3, d4] => { results := [.lit (.bool false)], args := [d1, d2, d3, d4] }
  | _ => none }
def SolveLeastsWrongFalsely : Prop := solveLeastsRow.holds Tryd.pinned (OpenSpec.ofChange solveLeastsWrong)

/-- 'dendronlaw20.KernelNearest': WHATEVER THE INPUT: true; the input reads as it did. -/
def kernelNearestSpec : ChangeSpec := { name := "kernelNearest", fn := fun _ => fun
  | [d1, d2] => { results := [.lit (.bool true)], args := [d1, d2] }
  | _ => none }
def kernelNearestRow : OpenClaim := { program := "ytbghnfhfekfenaadoor", sum := "d7c07ad02a331e85b4f86219df21345ab05a964270d9e936ee9f535810d733dd", func := "dendron/dendronlaw20.KernelNearest", spec := "kernelNearest", named := ["math/bits.deBruijn64tab"], apart := false, laid := [("math/bits.deBruijn64tab", laid_math_bits_deBruijn64tab)] }
def KernelNearestSaid : Prop := kernelNearestRow.holds Tryd.pinned (OpenSpec.ofChange kernelNearestSpec)

/-- ITS FALSE NEIGHBOUR: 'it returns false'. Refute it at one input. -/
def kernelNearestWrong : ChangeSpec := { name := "kernelNearest", fn := fun _ => fun
  | [d1, d2] => { results := [.lit (.bool false)], args := [d1, d2] }
  | _ => none }
def KernelNearestWrongFalsely : Prop := kernelNearestRow.holds Tryd.pinned (OpenSpec.ofChange kernelNearestWrong)

/- THE SECOND FORM. 'bulk': how many values and letters a reading holds, each counted each time it is reached (what is shared counts as often as it is met; a slice's spare places count too). A statement '..UptoSaid' is the law's where the arguments, and the package variables that the reading takes, are together of bulk at most 1048576: NARROWER than '..Said'. Prove '..Said' where nothing that the law and all that it calls make is longer than what came in: it says more and counts as full. Else prove '..UptoSaid'. A law counts once. -/
mutual
def uptoBulk {H : Type} : DataW H → Nat
  | .lit (.string bytes) => bytes.length + 1
  | .lit _ => 1
  | .nil => 1
  | .ptr d => uptoBulk d + 1
  | .slice elems spare => uptoBulkAll elems + uptoBulkAll spare + 1
  | .agg parts => uptoBulkAll parts + 1
  | .iface _ d => uptoBulk d + 1
  | .map entries => uptoBulkEntries entries + 1
  | .held _ => 1
def uptoBulkAll {H : Type} : List (DataW H) → Nat
  | [] => 0
  | d :: r => uptoBulk d + uptoBulkAll r
def uptoBulkEntries {H : Type} : List (Lit × DataW H) → Nat
  | [] => 0
  | x :: r => uptoBulkEntry x + uptoBulkEntries r
def uptoBulkEntry {H : Type} : Lit × DataW H → Nat
  | (.string bytes, d) => bytes.length + uptoBulk d + 1
  | (_, d) => uptoBulk d + 1
 end
def uptoSmall : (H : Type) → List (DataW H) → Bool := fun _ ds => decide (uptoBulkAll ds ≤ 1048576)
def OpenSpec.upto (s : _root_.Go.ChangeSpec) : _root_.Go.OpenSpec := { _root_.Go.OpenSpec.ofChange s with cond := some uptoSmall }

/-- 'dendronlaw05.SolveSizes', WHERE WHAT IT READS IS OF BULK AT MOST 1048576: true; the input reads as it did. -/
def solveSizesUptoRow : OpenClaim := { program := "ytbghnfhfekfenaadoor", sum := "d7c07ad02a331e85b4f86219df21345ab05a964270d9e936ee9f535810d733dd", func := "dendron/dendronlaw05.SolveSizes", spec := "solveSizes", named := ["math/bits.deBruijn64tab"], apart := false, laid := [("math/bits.deBruijn64tab", laid_math_bits_deBruijn64tab)], narrowed := true }
def SolveSizesUptoSaid : Prop := solveSizesUptoRow.holds Tryd.pinned (OpenSpec.upto solveSizesSpec)

/-- 'dendronlaw05.SolveProducts', WHERE WHAT IT READS IS OF BULK AT MOST 1048576: true; the input reads as it did. -/
def solveProductsUptoRow : OpenClaim := { program := "ytbghnfhfekfenaadoor", sum := "d7c07ad02a331e85b4f86219df21345ab05a964270d9e936ee9f535810d733dd", func := "dendron/dendronlaw05.SolveProducts", spec := "solveProducts", named := ["math/bits.deBruijn64tab"], apart := false, laid := [("math/bits.deBruijn64tab", laid_math_bits_deBruijn64tab)], narrowed := true }
def SolveProductsUptoSaid : Prop := solveProductsUptoRow.holds Tryd.pinned (OpenSpec.upto solveProductsSpec)

/-- 'dendronlaw05.SolveDets', WHERE WHAT IT READS IS OF BULK AT MOST 1048576: true; the input reads as it did. -/
def solveDetsUptoRow : OpenClaim := { program := "ytbghnfhfekfenaadoor", sum := "d7c07ad02a331e85b4f86219df21345ab05a964270d9e936ee9f535810d733dd", func := "dendron/dendronlaw05.SolveDets", spec := "solveDets", recurses := true, named := ["math/bits.deBruijn64tab"], apart := false, laid := [("math/bits.deBruijn64tab", laid_math_bits_deBruijn64tab)], narrowed := true }
def SolveDetsUptoSaid : Prop := solveDetsUptoRow.holds Tryd.pinned (OpenSpec.upto solveDetsSpec)

/-- 'dendronlaw05.SolveSteps', WHERE WHAT IT READS IS OF BULK AT MOST 1048576: true; the input reads as it did. -/
def solveStepsUptoRow : OpenClaim := { program := "ytbghnfhfekfenaadoor", sum := "d7c07ad02a331e85b4f86219df21345ab05a964270d9e936ee9f535810d733dd", func := "dendron/dendronlaw05.SolveSteps", spec := "solveSteps", named := ["math/bits.deBruijn64tab"], apart := false, laid := [("math/bits.deBruijn64tab", laid_math_bits_deBruijn64tab)], narrowed := true }
def SolveStepsUptoSaid : Prop := solveStepsUptoRow.holds Tryd.pinned (OpenSpec.upto solveStepsSpec)

/-- 'dendronlaw05.SolveSolves', WHERE WHAT IT READS IS OF BULK AT MOST 1048576: true; the input reads as it did. -/
def solveSolvesUptoRow : OpenClaim := { program := "ytbghnfhfekfenaadoor", sum := "d7c07ad02a331e85b4f86219df21345ab05a964270d9e936ee9f535810d733dd", func := "dendron/dendronlaw05.SolveSolves", spec := "solveSolves", named := ["math/bits.deBruijn64tab"], apart := false, laid := [("math/bits.deBruijn64tab", laid_math_bits_deBruijn64tab)], narrowed := true }
def SolveSolvesUptoSaid : Prop := solveSolvesUptoRow.holds Tryd.pinned (OpenSpec.upto solveSolvesSpec)

/-- 'dendronlaw05.SolveKernels', WHERE WHAT IT READS IS OF BULK AT MOST 1048576: true; the input reads as it did. -/
def solveKernelsUptoRow : OpenClaim := { program := "ytbghnfhfekfenaadoor", sum := "d7c07ad02a331e85b4f86219df21345ab05a964270d9e936ee9f535810d733dd", func := "dendron/dendronlaw05.SolveKernels", spec := "solveKernels", named := ["math/bits.deBruijn64tab"], apart := false, laid := [("math/bits.deBruijn64tab", laid_math_bits_deBruijn64tab)], narrowed := true }
def SolveKernelsUptoSaid : Prop := solveKernelsUptoRow.holds Tryd.pinned (OpenSpec.upto solveKernelsSpec)

/-- 'dendronlaw05.SolveInverses', WHERE WHAT IT READS IS OF BULK AT MOST 1048576: true; the input reads as it did. -/
def solveInversesUptoRow : OpenClaim := { program := "ytbghnfhfekfenaadoor", sum := "d7c07ad02a331e85b4f86219df21345ab05a964270d9e936ee9f535810d733dd", func := "dendron/dendronlaw05.SolveInverses", spec := "solveInverses", recurses := true, named := ["math/bits.deBruijn64tab"], apart := false, laid := [("math/bits.deBruijn64tab", laid_math_bits_deBruijn64tab)], narrowed := true }
def SolveInversesUptoSaid : Prop := solveInversesUptoRow.holds Tryd.pinned (OpenSpec.upto solveInversesSpec)

/-- 'dendronlaw05.SolveLeasts', WHERE WHAT IT READS IS OF BULK AT MOST 1048576: true; the input reads as it did. -/
def solveLeastsUptoRow : OpenClaim := { program := "ytbghnfhfekfenaadoor", sum := "d7c07ad02a331e85b4f86219df21345ab05a964270d9e936ee9f535810d733dd", func := "dendron/dendronlaw05.SolveLeasts", spec := "solveLeasts", named := ["math/bits.deBruijn64tab"], apart := false, laid := [("math/bits.deBruijn64tab", laid_math_bits_deBruijn64tab)], narrowed := true }
def SolveLeastsUptoSaid : Prop := solveLeastsUptoRow.holds Tryd.pinned (OpenSpec.upto solveLeastsSpec)

/-- 'dendronlaw20.KernelNearest', WHERE WHAT IT READS IS OF BULK AT MOST 1048576: true; the input reads as it did. -/
def kernelNearestUptoRow : OpenClaim := { program := "ytbghnfhfekfenaadoor", sum := "d7c07ad02a331e85b4f86219df21345ab05a964270d9e936ee9f535810d733dd", func := "dendron/dendronlaw20.KernelNearest", spec := "kernelNearest", named := ["math/bits.deBruijn64tab"], apart := false, laid := [("math/bits.deBruijn64tab", laid_math_bits_deBruijn64tab)], narrowed := true }
def KernelNearestUptoSaid : Prop := kernelNearestUptoRow.holds Tryd.pinned (OpenSpec.upto kernelNearestSpec)

end Rows
end Go.Proofs.YtbghnfhfekfenaaDoor
