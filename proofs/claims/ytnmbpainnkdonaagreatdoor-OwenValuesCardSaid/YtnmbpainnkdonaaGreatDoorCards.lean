/-
  DERIVED. GIVEN WITH THE SEED: THE CARDS: each row of YtnmbpainnkdonaaGreatDoorRows.lean that lists a variable, with what it lists TIED to the program's text (the seventh form; the later family's looks); each row that meets fmt, with fmt's text TOLD by the authors' own Lean function (tested against real Go, not proved from fmt's source: count such statements apart). THE CARD IS WHAT COUNTS. Prove the row's statement (the work); the ties are given (YtnmbpainnkdonaaGreatDoorTie.lean); close each card by the builder's one call (the guide's Derived/Test/ToyasCard.lean, 'card_holds'). Laid BY PROGRAM, IN A SANDBOX (cutbox-door.mjs). By AI agents, Wed Nov 11 2026. No macro, syntax, notation, axiom, sorry.
-/
import Derived.Test.YtnmbpainnkdonaaGreatDoorRows
import GoSem.ClaimSeven
namespace Go.Proofs.YtnmbpainnkdonaaGreatDoor
namespace Rows

/-- THE TIED CARD OF 'dendronlaw19.GameShapley'. -/
def gameShapleyCard : Claim7 := { stood := { row := gameShapleyRow, standIns := [], harness := (true, "603381e0ab07fac9eabf363528764bbed1fc14d3b55f5c79534a680d77c9db29"), looks := false }, kinds := [], alts := [], laidByText := true, laidKinds := [.data], laidTests := true, laidLooks := .later }
def GameShapleyCardSaid : Prop := Claim7.holds Tryz.pinned (.plain (OpenSpec.ofChange gameShapleySpec)) gameShapleyCard

/-- THE TIED CARD OF 'dendronlaw19.GameBanzhaf'. -/
def gameBanzhafCard : Claim7 := { stood := { row := gameBanzhafRow, standIns := [], harness := (true, "603381e0ab07fac9eabf363528764bbed1fc14d3b55f5c79534a680d77c9db29"), looks := false }, kinds := [], alts := [], laidByText := true, laidKinds := [.data], laidTests := true, laidLooks := .later }
def GameBanzhafCardSaid : Prop := Claim7.holds Tryz.pinned (.plain (OpenSpec.ofChange gameBanzhafSpec)) gameBanzhafCard

/-- THE TIED CARD OF 'dendronlaw19.GameDuals'. -/
def gameDualsCard : Claim7 := { stood := { row := gameDualsRow, standIns := [], harness := (true, "603381e0ab07fac9eabf363528764bbed1fc14d3b55f5c79534a680d77c9db29"), looks := false }, kinds := [], alts := [], laidByText := true, laidKinds := [.data], laidTests := true, laidLooks := .later }
def GameDualsCardSaid : Prop := Claim7.holds Tryz.pinned (.plain (OpenSpec.ofChange gameDualsSpec)) gameDualsCard

/-- THE TIED CARD OF 'dendronlaw19.GameParts'. -/
def gamePartsCard : Claim7 := { stood := { row := gamePartsRow, standIns := [], harness := (true, "603381e0ab07fac9eabf363528764bbed1fc14d3b55f5c79534a680d77c9db29"), looks := false }, kinds := [], alts := [], laidByText := true, laidKinds := [.data], laidTests := true, laidLooks := .later }
def GamePartsCardSaid : Prop := Claim7.holds Tryz.pinned (.plain (OpenSpec.ofChange gamePartsSpec)) gamePartsCard

/-- THE TIED CARD OF 'dendronlaw19.GameShares'. -/
def gameSharesCard : Claim7 := { stood := { row := gameSharesRow, standIns := [], harness := (true, "603381e0ab07fac9eabf363528764bbed1fc14d3b55f5c79534a680d77c9db29"), looks := false }, kinds := [], alts := [], laidByText := true, laidKinds := [.data], laidTests := true, laidLooks := .later }
def GameSharesCardSaid : Prop := Claim7.holds Tryz.pinned (.plain (OpenSpec.ofChange gameSharesSpec)) gameSharesCard

/-- THE TIED CARD OF 'dendronlaw19.GamePairs'. -/
def gamePairsCard : Claim7 := { stood := { row := gamePairsRow, standIns := [], harness := (true, "603381e0ab07fac9eabf363528764bbed1fc14d3b55f5c79534a680d77c9db29"), looks := false }, kinds := [], alts := [], laidByText := true, laidKinds := [.data], laidTests := true, laidLooks := .later }
def GamePairsCardSaid : Prop := Claim7.holds Tryz.pinned (.plain (OpenSpec.ofChange gamePairsSpec)) gamePairsCard

/-- THE TIED CARD OF 'dendronlaw22.OwenAlones'. -/
def owenAlonesCard : Claim7 := { stood := { row := owenAlonesRow, standIns := [], harness := (true, "603381e0ab07fac9eabf363528764bbed1fc14d3b55f5c79534a680d77c9db29"), looks := false }, kinds := [], alts := [], laidByText := true, laidKinds := [.data], laidTests := true, laidLooks := .later }
def OwenAlonesCardSaid : Prop := Claim7.holds Tryz.pinned (.plain (OpenSpec.ofChange owenAlonesSpec)) owenAlonesCard

/-- THE TIED CARD OF 'dendronlaw22.OwenGroups'. -/
def owenGroupsCard : Claim7 := { stood := { row := owenGroupsRow, standIns := [], harness := (true, "603381e0ab07fac9eabf363528764bbed1fc14d3b55f5c79534a680d77c9db29"), looks := false }, kinds := [], alts := [], laidByText := true, laidKinds := [.data], laidTests := true, laidLooks := .later }
def OwenGroupsCardSaid : Prop := Claim7.holds Tryz.pinned (.plain (OpenSpec.ofChange owenGroupsSpec)) owenGroupsCard

/-- THE TIED CARD OF 'dendronlaw22.OwenValues'. -/
def owenValuesCard : Claim7 := { stood := { row := owenValuesRow, standIns := [], harness := (true, "603381e0ab07fac9eabf363528764bbed1fc14d3b55f5c79534a680d77c9db29"), looks := false }, kinds := [], alts := [], laidByText := true, laidKinds := [.data], laidTests := true, laidLooks := .later }
def OwenValuesCardSaid : Prop := Claim7.holds Tryz.pinned (.plain (OpenSpec.ofChange owenValuesSpec)) owenValuesCard

/-- THE TIED CARD OF 'dendronlaw21.OrdersValues'. -/
def ordersValuesCard : Claim7 := { stood := { row := ordersValuesRow, standIns := [], harness := (true, "603381e0ab07fac9eabf363528764bbed1fc14d3b55f5c79534a680d77c9db29"), looks := false }, kinds := [], alts := [], laidByText := true, laidKinds := [.data], laidTests := true, laidLooks := .later }
def OrdersValuesCardSaid : Prop := Claim7.holds Tryz.pinned (.plain (OpenSpec.ofChange ordersValuesSpec)) ordersValuesCard

/-- THE SECOND FORM's CARD OF 'dendronlaw19.GameShapley'. -/
def gameShapleyUptoCard : Claim7 := { stood := { row := gameShapleyUptoRow, standIns := [], harness := (true, "603381e0ab07fac9eabf363528764bbed1fc14d3b55f5c79534a680d77c9db29"), looks := false }, kinds := [], alts := [], laidByText := true, laidKinds := [.data], laidTests := true, laidLooks := .later }
def GameShapleyUptoCardSaid : Prop := Claim7.holds Tryz.pinned (.plain (OpenSpec.upto gameShapleySpec)) gameShapleyUptoCard

/-- THE SECOND FORM's CARD OF 'dendronlaw19.GameBanzhaf'. -/
def gameBanzhafUptoCard : Claim7 := { stood := { row := gameBanzhafUptoRow, standIns := [], harness := (true, "603381e0ab07fac9eabf363528764bbed1fc14d3b55f5c79534a680d77c9db29"), looks := false }, kinds := [], alts := [], laidByText := true, laidKinds := [.data], laidTests := true, laidLooks := .later }
def GameBanzhafUptoCardSaid : Prop := Claim7.holds Tryz.pinned (.plain (OpenSpec.upto gameBanzhafSpec)) gameBanzhafUptoCard

/-- THE SECOND FORM's CARD OF 'dendronlaw19.GameDuals'. -/
def gameDualsUptoCard : Claim7 := { stood := { row := gameDualsUptoRow, standIns := [], harness := (true, "603381e0ab07fac9eabf363528764bbed1fc14d3b55f5c79534a680d77c9db29"), looks := false }, kinds := [], alts := [], laidByText := true, laidKinds := [.data], laidTests := true, laidLooks := .later }
def GameDualsUptoCardSaid : Prop := Claim7.holds Tryz.pinned (.plain (OpenSpec.upto gameDualsSpec)) gameDualsUptoCard

/-- THE SECOND FORM's CARD OF 'dendronlaw19.GameParts'. -/
def gamePartsUptoCard : Claim7 := { stood := { row := gamePartsUptoRow, standIns := [], harness := (true, "603381e0ab07fac9eabf363528764bbed1fc14d3b55f5c79534a680d77c9db29"), looks := false }, kinds := [], alts := [], laidByText := true, laidKinds := [.data], laidTests := true, laidLooks := .later }
def GamePartsUptoCardSaid : Prop := Claim7.holds Tryz.pinned (.plain (OpenSpec.upto gamePartsSpec)) gamePartsUptoCard

/-- THE SECOND FORM's CARD OF 'dendronlaw19.GameShares'. -/
def gameSharesUptoCard : Claim7 := { stood := { row := gameSharesUptoRow, standIns := [], harness := (true, "603381e0ab07fac9eabf363528764bbed1fc14d3b55f5c79534a680d77c9db29"), looks := false }, kinds := [], alts := [], laidByText := true, laidKinds := [.data], laidTests := true, laidLooks := .later }
def GameSharesUptoCardSaid : Prop := Claim7.holds Tryz.pinned (.plain (OpenSpec.upto gameSharesSpec)) gameSharesUptoCard

/-- THE SECOND FORM's CARD OF 'dendronlaw19.GamePairs'. -/
def gamePairsUptoCard : Claim7 := { stood := { row := gamePairsUptoRow, standIns := [], harness := (true, "603381e0ab07fac9eabf363528764bbed1fc14d3b55f5c79534a680d77c9db29"), looks := false }, kinds := [], alts := [], laidByText := true, laidKinds := [.data], laidTests := true, laidLooks := .later }
def GamePairsUptoCardSaid : Prop := Claim7.holds Tryz.pinned (.plain (OpenSpec.upto gamePairsSpec)) gamePairsUptoCard

/-- THE SECOND FORM's CARD OF 'dendronlaw22.OwenAlones'. -/
def owenAlonesUptoCard : Claim7 := { stood := { row := owenAlonesUptoRow, standIns := [], harness := (true, "603381e0ab07fac9eabf363528764bbed1fc14d3b55f5c79534a680d77c9db29"), looks := false }, kinds := [], alts := [], laidByText := true, laidKinds := [.data], laidTests := true, laidLooks := .later }
def OwenAlonesUptoCardSaid : Prop := Claim7.holds Tryz.pinned (.plain (OpenSpec.upto owenAlonesSpec)) owenAlonesUptoCard

/-- THE SECOND FORM's CARD OF 'dendronlaw22.OwenGroups'. -/
def owenGroupsUptoCard : Claim7 := { stood := { row := owenGroupsUptoRow, standIns := [], harness := (true, "603381e0ab07fac9eabf363528764bbed1fc14d3b55f5c79534a680d77c9db29"), looks := false }, kinds := [], alts := [], laidByText := true, laidKinds := [.data], laidTests := true, laidLooks := .later }
def OwenGroupsUptoCardSaid : Prop := Claim7.holds Tryz.pinned (.plain (OpenSpec.upto owenGroupsSpec)) owenGroupsUptoCard

/-- THE SECOND FORM's CARD OF 'dendronlaw22.OwenValues'. -/
def owenValuesUptoCard : Claim7 := { stood := { row := owenValuesUptoRow, standIns := [], harness := (true, "603381e0ab07fac9eabf363528764bbed1fc14d3b55f5c79534a680d77c9db29"), looks := false }, kinds := [], alts := [], laidByText := true, laidKinds := [.data], laidTests := true, laidLooks := .later }
def OwenValuesUptoCardSaid : Prop := Claim7.holds Tryz.pinned (.plain (OpenSpec.upto owenValuesSpec)) owenValuesUptoCard

/-- THE SECOND FORM's CARD OF 'dendronlaw21.OrdersValues'. -/
def ordersValuesUptoCard : Claim7 := { stood := { row := ordersValuesUptoRow, standIns := [], harness := (true, "603381e0ab07fac9eabf363528764bbed1fc14d3b55f5c79534a680d77c9db29"), looks := false }, kinds := [], alts := [], laidByText := true, laidKinds := [.data], laidTests := true, laidLooks := .later }
def OrdersValuesUptoCardSaid : Prop := Claim7.holds Tryz.pinned (.plain (OpenSpec.upto ordersValuesSpec)) ordersValuesUptoCard
end Rows
end Go.Proofs.YtnmbpainnkdonaaGreatDoor
