/-
  DERIVED. GIVEN WITH THE SEED: THE CARDS: each row of YtgigaimaaijalaaDoorRows.lean that lists a variable, with what it lists TIED to the program's text (the seventh form; the later family's looks); each row that meets fmt, with fmt's text TOLD by the authors' own Lean function (tested against real Go, not proved from fmt's source: count such statements apart). THE CARD IS WHAT COUNTS. Prove the row's statement (the work); the ties are given (YtgigaimaaijalaaDoorTie.lean); close each card by the builder's one call (the guide's Derived/Test/ToyasCard.lean, 'card_holds'). Laid BY PROGRAM, IN A SANDBOX (cutbox-door.mjs). By AI agents, Wed Nov 11 2026. No macro, syntax, notation, axiom, sorry.
-/
import Derived.Test.YtgigaimaaijalaaDoorRows
import GoSem.ClaimSeven
namespace Go.Proofs.YtgigaimaaijalaaDoor
namespace Rows

/-- THE TIED CARD OF 'dendronlaw14.WeighKept'. -/
def weighKeptCard : Claim7 := { stood := { row := weighKeptRow, standIns := [], harness := (true, "27c9cdca1f514341c3679e3cc689eca181028ad05b815de3ed53cd9dca1fba86"), looks := false }, kinds := [], alts := [], laidByText := true, laidKinds := [.data], laidTests := true, laidLooks := .later }
def WeighKeptCardSaid : Prop := Claim7.holds Tryd.pinned (.plain (OpenSpec.ofChange weighKeptSpec)) weighKeptCard

/-- THE TIED CARD OF 'dendronlaw20.KernelNearest'. -/
def kernelNearestCard : Claim7 := { stood := { row := kernelNearestRow, standIns := [], harness := (true, "27c9cdca1f514341c3679e3cc689eca181028ad05b815de3ed53cd9dca1fba86"), looks := false }, kinds := [], alts := [], laidByText := true, laidKinds := [.data], laidTests := true, laidLooks := .later }
def KernelNearestCardSaid : Prop := Claim7.holds Tryd.pinned (.plain (OpenSpec.ofChange kernelNearestSpec)) kernelNearestCard

/-- THE SECOND FORM's CARD OF 'dendronlaw14.WeighKept'. -/
def weighKeptUptoCard : Claim7 := { stood := { row := weighKeptUptoRow, standIns := [], harness := (true, "27c9cdca1f514341c3679e3cc689eca181028ad05b815de3ed53cd9dca1fba86"), looks := false }, kinds := [], alts := [], laidByText := true, laidKinds := [.data], laidTests := true, laidLooks := .later }
def WeighKeptUptoCardSaid : Prop := Claim7.holds Tryd.pinned (.plain (OpenSpec.upto weighKeptSpec)) weighKeptUptoCard

/-- THE SECOND FORM's CARD OF 'dendronlaw20.KernelNearest'. -/
def kernelNearestUptoCard : Claim7 := { stood := { row := kernelNearestUptoRow, standIns := [], harness := (true, "27c9cdca1f514341c3679e3cc689eca181028ad05b815de3ed53cd9dca1fba86"), looks := false }, kinds := [], alts := [], laidByText := true, laidKinds := [.data], laidTests := true, laidLooks := .later }
def KernelNearestUptoCardSaid : Prop := Claim7.holds Tryd.pinned (.plain (OpenSpec.upto kernelNearestSpec)) kernelNearestUptoCard
end Rows
end Go.Proofs.YtgigaimaaijalaaDoor
