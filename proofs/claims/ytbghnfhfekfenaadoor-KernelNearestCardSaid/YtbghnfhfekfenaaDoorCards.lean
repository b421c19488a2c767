/-
  DERIVED. GIVEN WITH THE SEED: THE CARDS: each row of YtbghnfhfekfenaaDoorRows.lean that lists a variable, with what it lists TIED to the program's text (the seventh form; the later family's looks); each row that meets fmt, with fmt's text TOLD by the authors' own Lean function (tested against real Go, not proved from fmt's source: count such statements apart). THE CARD IS WHAT COUNTS. Prove the row's statement (the work); the ties are given (YtbghnfhfekfenaaDoorTie.lean); close each card by the builder's one call (the guide's Derived/Test/ToyasCard.lean, 'card_holds'). Laid BY PROGRAM, IN A SANDBOX (cutbox-door.mjs). By AI agents, Wed Nov 11 2026. No macro, syntax, notation, axiom, sorry.
-/
import Derived.Test.YtbghnfhfekfenaaDoorRows
import GoSem.ClaimSeven
namespace Go.Proofs.YtbghnfhfekfenaaDoor
namespace Rows

/-- THE TIED CARD OF 'dendronlaw05.SolveSizes'. -/
def solveSizesCard : Claim7 := { stood := { row := solveSizesRow, standIns := [], harness := (true, "9f187cf21448688dbe16d90958d95396c58482c0e9c4d5639655214f75344975"), looks := false }, kinds := [], alts := [], laidByText := true, laidKinds := [.data], laidTests := true, laidLooks := .later }
def SolveSizesCardSaid : Prop := Claim7.holds Tryd.pinned (.plain (OpenSpec.ofChange solveSizesSpec)) solveSizesCard

/-- THE TIED CARD OF 'dendronlaw05.SolveProducts'. -/
def solveProductsCard : Claim7 := { stood := { row := solveProductsRow, standIns := [], harness := (true, "9f187cf21448688dbe16d90958d95396c58482c0e9c4d5639655214f75344975"), looks := false }, kinds := [], alts := [], laidByText := true, laidKinds := [.data], laidTests := true, laidLooks := .later }
def SolveProductsCardSaid : Prop := Claim7.holds Tryd.pinned (.plain (OpenSpec.ofChange solveProductsSpec)) solveProductsCard

/-- THE TIED CARD OF 'dendronlaw05.SolveDets'. -/
def solveDetsCard : Claim7 := { stood := { row := solveDetsRow, standIns := [], harness := (true, "9f187cf21448688dbe16d90958d95396c58482c0e9c4d5639655214f75344975"), looks := false }, kinds := [], alts := [], laidByText := true, laidKinds := [.data], laidTests := true, laidLooks := .later }
def SolveDetsCardSaid : Prop := Claim7.holds Tryd.pinned (.plain (OpenSpec.ofChange solveDetsSpec)) solveDetsCard

/-- THE TIED CARD OF 'dendronlaw05.SolveSteps'. -/
def solveStepsCard : Claim7 := { stood := { row := solveStepsRow, standIns := [], harness := (true, "9f187cf21448688dbe16d90958d95396c58482c0e9c4d5639655214f75344975"), looks := false }, kinds := [], alts := [], laidByText := true, laidKinds := [.data], laidTests := true, laidLooks := .later }
def SolveStepsCardSaid : Prop := Claim7.holds Tryd.pinned (.plain (OpenSpec.ofChange solveStepsSpec)) solveStepsCard

/-- THE TIED CARD OF 'dendronlaw05.SolveSolves'. -/
def solveSolvesCard : Claim7 := { stood := { row := solveSolvesRow, standIns := [], harness := (true, "9f187cf21448688dbe16d90958d95396c58482c0e9c4d5639655214f75344975"), looks := false }, kinds := [], alts := [], laidByText := true, laidKinds := [.data], laidTests := true, laidLooks := .later }
def SolveSolvesCardSaid : Prop := Claim7.holds Tryd.pinned (.plain (OpenSpec.ofChange solveSolvesSpec)) solveSolvesCard

/-- THE TIED CARD OF 'dendronlaw05.SolveKernels'. -/
def solveKernelsCard : Claim7 := { stood := { row := solveKernelsRow, standIns := [], harness := (true, "9f187cf21448688dbe16d90958d95396c58482c0e9c4d5639655214f75344975"), looks := false }, kinds := [], alts := [], laidByText := true, laidKinds := [.data], laidTests := true, laidLooks := .later }
def SolveKernelsCardSaid : Prop := Claim7.holds Tryd.pinned (.plain (OpenSpec.ofChange solveKernelsSpec)) solveKernelsCard

/-- THE TIED CARD OF 'dendronlaw05.SolveInverses'. -/
def solveInversesCard : Claim7 := { stood := { row := solveInversesRow, standIns := [], harness := (true, "9f187cf21448688dbe16d90958d95396c58482c0e9c4d5639655214f75344975"), looks := false }, kinds := [], alts := [], laidByText := true, laidKinds := [.data], laidTests := true, laidLooks := .later }
def SolveInversesCardSaid : Prop := Claim7.holds Tryd.pinned (.plain (OpenSpec.ofChange solveInversesSpec)) solveInversesCard

/-- THE TIED CARD OF 'dendronlaw05.SolveLeasts'. -/
def solveLeastsCard : Claim7 := { stood := { row := solveLeastsRow, standIns := [], harness := (true, "9f187cf21448688dbe16d90958d95396c58482c0e9c4d5639655214f75344975"), looks := false }, kinds := [], alts := [], laidByText := true, laidKinds := [.data], laidTests := true, laidLooks := .later }
def SolveLeastsCardSaid : Prop := Claim7.holds Tryd.pinned (.plain (OpenSpec.ofChange solveLeastsSpec)) solveLeastsCard

/-- THE TIED CARD OF 'dendronlaw20.KernelNearest'. -/
def kernelNearestCard : Claim7 := { stood := { row := kernelNearestRow, standIns := [], harness := (true, "9f187cf21448688dbe16d90958d95396c58482c0e9c4d5639655214f75344975"), looks := false }, kinds := [], alts := [], laidByText := true, laidKinds := [.data], laidTests := true, laidLooks := .later }
def KernelNearestCardSaid : Prop := Claim7.holds Tryd.pinned (.plain (OpenSpec.ofChange kernelNearestSpec)) kernelNearestCard

/-- THE SECOND FORM's CARD OF 'dendronlaw05.SolveSizes'. -/
def solveSizesUptoCard : Claim7 := { stood := { row := solveSizesUptoRow, standIns := [], harness := (true, "9f187cf21448688dbe16d90958d95396c58482c0e9c4d5639655214f75344975"), looks := false }, kinds := [], alts := [], laidByText := true, laidKinds := [.data], laidTests := true, laidLooks := .later }
def SolveSizesUptoCardSaid : Prop := Claim7.holds Tryd.pinned (.plain (OpenSpec.upto solveSizesSpec)) solveSizesUptoCard

/-- THE SECOND FORM's CARD OF 'dendronlaw05.SolveProducts'. -/
def solveProductsUptoCard : Claim7 := { stood := { row := solveProductsUptoRow, standIns := [], harness := (true, "9f187cf21448688dbe16d90958d95396c58482c0e9c4d5639655214f75344975"), looks := false }, kinds := [], alts := [], laidByText := true, laidKinds := [.data], laidTests := true, laidLooks := .later }
def SolveProductsUptoCardSaid : Prop := Claim7.holds Tryd.pinned (.plain (OpenSpec.upto solveProductsSpec)) solveProductsUptoCard

/-- THE SECOND FORM's CARD OF 'dendronlaw05.SolveDets'. -/
def solveDetsUptoCard : Claim7 := { stood := { row := solveDetsUptoRow, standIns := [], harness := (true, "9f187cf21448688dbe16d90958d95396c58482c0e9c4d5639655214f75344975"), looks := false }, kinds := [], alts := [], laidByText := true, laidKinds := [.data], laidTests := true, laidLooks := .later }
def SolveDetsUptoCardSaid : Prop := Claim7.holds Tryd.pinned (.plain (OpenSpec.upto solveDetsSpec)) solveDetsUptoCard

/-- THE SECOND FORM's CARD OF 'dendronlaw05.SolveSteps'. -/
def solveStepsUptoCard : Claim7 := { stood := { row := solveStepsUptoRow, standIns := [], harness := (true, "9f187cf21448688dbe16d90958d95396c58482c0e9c4d5639655214f75344975"), looks := false }, kinds := [], alts := [], laidByText := true, laidKinds := [.data], laidTests := true, laidLooks := .later }
def SolveStepsUptoCardSaid : Prop := Claim7.holds Tryd.pinned (.plain (OpenSpec.upto solveStepsSpec)) solveStepsUptoCard

/-- THE SECOND FORM's CARD OF 'dendronlaw05.SolveSolves'. -/
def solveSolvesUptoCard : Claim7 := { stood := { row := solveSolvesUptoRow, standIns := [], harness := (true, "9f187cf21448688dbe16d90958d95396c58482c0e9c4d5639655214f75344975"), looks := false }, kinds := [], alts := [], laidByText := true, laidKinds := [.data], laidTests := true, laidLooks := .later }
def SolveSolvesUptoCardSaid : Prop := Claim7.holds Tryd.pinned (.plain (OpenSpec.upto solveSolvesSpec)) solveSolvesUptoCard

/-- THE SECOND FORM's CARD OF 'dendronlaw05.SolveKernels'. -/
def solveKernelsUptoCard : Claim7 := { stood := { row := solveKernelsUptoRow, standIns := [], harness := (true, "9f187cf21448688dbe16d90958d95396c58482c0e9c4d5639655214f75344975"), looks := false }, kinds := [], alts := [], laidByText := true, laidKinds := [.data], laidTests := true, laidLooks := .later }
def SolveKernelsUptoCardSaid : Prop := Claim7.holds Tryd.pinned (.plain (OpenSpec.upto solveKernelsSpec)) solveKernelsUptoCard

/-- THE SECOND FORM's CARD OF 'dendronlaw05.SolveInverses'. -/
def solveInversesUptoCard : Claim7 := { stood := { row := solveInversesUptoRow, standIns := [], harness := (true, "9f187cf21448688dbe16d90958d95396c58482c0e9c4d5639655214f75344975"), looks := false }, kinds := [], alts := [], laidByText := true, laidKinds := [.data], laidTests := true, laidLooks := .later }
def SolveInversesUptoCardSaid : Prop := Claim7.holds Tryd.pinned (.plain (OpenSpec.upto solveInversesSpec)) solveInversesUptoCard

/-- THE SECOND FORM's CARD OF 'dendronlaw05.SolveLeasts'. -/
def solveLeastsUptoCard : Claim7 := { stood := { row := solveLeastsUptoRow, standIns := [], harness := (true, "9f187cf21448688dbe16d90958d95396c58482c0e9c4d5639655214f75344975"), looks := false }, kinds := [], alts := [], laidByText := true, laidKinds := [.data], laidTests := true, laidLooks := .later }
def SolveLeastsUptoCardSaid : Prop := Claim7.holds Tryd.pinned (.plain (OpenSpec.upto solveLeastsSpec)) solveLeastsUptoCard

/-- THE SECOND FORM's CARD OF 'dendronlaw20.KernelNearest'. -/
def kernelNearestUptoCard : Claim7 := { stood := { row := kernelNearestUptoRow, standIns := [], harness := (true, "9f187cf21448688dbe16d90958d95396c58482c0e9c4d5639655214f75344975"), looks := false }, kinds := [], alts := [], laidByText := true, laidKinds := [.data], laidTests := true, laidLooks := .later }
def KernelNearestUptoCardSaid : Prop := Claim7.holds Tryd.pinned (.plain (OpenSpec.upto kernelNearestSpec)) kernelNearestUptoCard
end Rows
end Go.Proofs.YtbghnfhfekfenaaDoor
