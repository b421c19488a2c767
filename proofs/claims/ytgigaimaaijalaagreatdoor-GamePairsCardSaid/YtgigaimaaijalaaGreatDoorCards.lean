/-
  DERIVED. GIVEN WITH THE SEED: THE CARDS: each row of YtgigaimaaijalaaGreatDoorRows.lean that lists a variable, with what it lists TIED to the program's text (the seventh form; the later family's looks); each row that meets fmt, with fmt's text TOLD by the authors' own Lean function (tested against real Go, not proved from fmt's source: count such statements apart). THE CARD IS WHAT COUNTS. Prove the row's statement (the work); the ties are given (YtgigaimaaijalaaGreatDoorTie.lean); close each card by the builder's one call (the guide's Derived/Test/ToyasCard.lean, 'card_holds'). Laid BY PROGRAM, IN A SANDBOX (cutbox-door.mjs). By AI agents, Wed Nov 11 2026. No macro, syntax, notation, axiom, sorry.
-/
import Derived.Test.YtgigaimaaijalaaGreatDoorRows
import GoSem.ClaimSeven
namespace Go.Proofs.YtgigaimaaijalaaGreatDoor
namespace Rows

/-- THE TIED CARD OF 'dendronlaw19.GamePairs'. -/
def gamePairsCard : Claim7 := { stood := { row := gamePairsRow, standIns := [], harness := (true, "1b5f4d9d5e06e19c4ec0e9f255318c26649a8109d40632fe9f66004ba7dd9ffa"), looks := false }, kinds := [], alts := [], laidByText := true, laidKinds := [.data], laidTests := true, laidLooks := .later }
def GamePairsCardSaid : Prop := Claim7.holds Tryz.pinned (.plain (OpenSpec.ofChange gamePairsSpec)) gamePairsCard

/-- THE TIED CARD OF 'dendronlaw20.KernelSystems'. -/
def kernelSystemsCard : Claim7 := { stood := { row := kernelSystemsRow, standIns := [], harness := (true, "1b5f4d9d5e06e19c4ec0e9f255318c26649a8109d40632fe9f66004ba7dd9ffa"), looks := false }, kinds := [], alts := [], laidByText := true, laidKinds := [.data], laidTests := true, laidLooks := .later }
def KernelSystemsCardSaid : Prop := Claim7.holds Tryz.pinned (.plain (OpenSpec.ofChange kernelSystemsSpec)) kernelSystemsCard

/-- THE TIED CARD OF 'dendronlaw20.KernelValues'. -/
def kernelValuesCard : Claim7 := { stood := { row := kernelValuesRow, standIns := [], harness := (true, "1b5f4d9d5e06e19c4ec0e9f255318c26649a8109d40632fe9f66004ba7dd9ffa"), looks := false }, kinds := [], alts := [], laidByText := true, laidKinds := [.data], laidTests := true, laidLooks := .later }
def KernelValuesCardSaid : Prop := Claim7.holds Tryz.pinned (.plain (OpenSpec.ofChange kernelValuesSpec)) kernelValuesCard

/-- THE SECOND FORM's CARD OF 'dendronlaw19.GamePairs'. -/
def gamePairsUptoCard : Claim7 := { stood := { row := gamePairsUptoRow, standIns := [], harness := (true, "1b5f4d9d5e06e19c4ec0e9f255318c26649a8109d40632fe9f66004ba7dd9ffa"), looks := false }, kinds := [], alts := [], laidByText := true, laidKinds := [.data], laidTests := true, laidLooks := .later }
def GamePairsUptoCardSaid : Prop := Claim7.holds Tryz.pinned (.plain (OpenSpec.upto gamePairsSpec)) gamePairsUptoCard

/-- THE SECOND FORM's CARD OF 'dendronlaw20.KernelSystems'. -/
def kernelSystemsUptoCard : Claim7 := { stood := { row := kernelSystemsUptoRow, standIns := [], harness := (true, "1b5f4d9d5e06e19c4ec0e9f255318c26649a8109d40632fe9f66004ba7dd9ffa"), looks := false }, kinds := [], alts := [], laidByText := true, laidKinds := [.data], laidTests := true, laidLooks := .later }
def KernelSystemsUptoCardSaid : Prop := Claim7.holds Tryz.pinned (.plain (OpenSpec.upto kernelSystemsSpec)) kernelSystemsUptoCard

/-- THE SECOND FORM's CARD OF 'dendronlaw20.KernelValues'. -/
def kernelValuesUptoCard : Claim7 := { stood := { row := kernelValuesUptoRow, standIns := [], harness := (true, "1b5f4d9d5e06e19c4ec0e9f255318c26649a8109d40632fe9f66004ba7dd9ffa"), looks := false }, kinds := [], alts := [], laidByText := true, laidKinds := [.data], laidTests := true, laidLooks := .later }
def KernelValuesUptoCardSaid : Prop := Claim7.holds Tryz.pinned (.plain (OpenSpec.upto kernelValuesSpec)) kernelValuesUptoCard
end Rows
end Go.Proofs.YtgigaimaaijalaaGreatDoor
