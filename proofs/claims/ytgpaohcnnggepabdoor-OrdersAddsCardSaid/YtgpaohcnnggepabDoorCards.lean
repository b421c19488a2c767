/-
  DERIVED. GIVEN WITH THE SEED: THE CARDS: each row of YtgpaohcnnggepabDoorRows.lean that lists a variable, with what it lists TIED to the program's text (the seventh form; the later family's looks); each row that meets fmt, with fmt's text TOLD by the authors' own Lean function (tested against real Go, not proved from fmt's source: count such statements apart). THE CARD IS WHAT COUNTS. Prove the row's statement (the work); the ties are given (YtgpaohcnnggepabDoorTie.lean); close each card by the builder's one call (the guide's Derived/Test/ToyasCard.lean, 'card_holds'). Laid BY PROGRAM, IN A SANDBOX (cutbox-door.mjs). By AI agents, Wed Nov 11 2026. No macro, syntax, notation, axiom, sorry.
-/
import Derived.Test.YtgpaohcnnggepabDoorRows
import GoSem.ClaimSeven
namespace Go.Proofs.YtgpaohcnnggepabDoor
namespace Rows

/-- THE TIED CARD OF 'dendronlaw14.WeighKept'. -/
def weighKeptCard : Claim7 := { stood := { row := weighKeptRow, standIns := [], harness := (true, "08c031627a722910df42cd16284802cee84c223b0a3cce881e60bebfdb6e03a7"), looks := false }, kinds := [], alts := [], laidByText := true, laidKinds := [.data], laidTests := true, laidLooks := .later }
def WeighKeptCardSaid : Prop := Claim7.holds Tryd.pinned (.plain (OpenSpec.ofChange weighKeptSpec)) weighKeptCard

/-- THE TIED CARD OF 'dendronlaw14.WeighFacts'. -/
def weighFactsCard : Claim7 := { stood := { row := weighFactsRow, standIns := [], harness := (true, "08c031627a722910df42cd16284802cee84c223b0a3cce881e60bebfdb6e03a7"), looks := false }, kinds := [], alts := [], laidByText := true, laidKinds := [.data], laidTests := true, laidLooks := .later }
def WeighFactsCardSaid : Prop := Claim7.holds Tryd.pinned (.plain (OpenSpec.ofChange weighFactsSpec)) weighFactsCard

/-- THE TIED CARD OF 'dendronlaw14.WeighWeights'. -/
def weighWeightsCard : Claim7 := { stood := { row := weighWeightsRow, standIns := [], harness := (true, "08c031627a722910df42cd16284802cee84c223b0a3cce881e60bebfdb6e03a7"), looks := false }, kinds := [], alts := [], laidByText := true, laidKinds := [.data], laidTests := true, laidLooks := .later }
def WeighWeightsCardSaid : Prop := Claim7.holds Tryd.pinned (.plain (OpenSpec.ofChange weighWeightsSpec)) weighWeightsCard

/-- THE TIED CARD OF 'dendronlaw14.WeighNobody'. -/
def weighNobodyCard : Claim7 := { stood := { row := weighNobodyRow, standIns := [], harness := (true, "08c031627a722910df42cd16284802cee84c223b0a3cce881e60bebfdb6e03a7"), looks := false }, kinds := [], alts := [], laidByText := true, laidKinds := [.data], laidTests := true, laidLooks := .later }
def WeighNobodyCardSaid : Prop := Claim7.holds Tryd.pinned (.plain (OpenSpec.ofChange weighNobodySpec)) weighNobodyCard

/-- THE TIED CARD OF 'dendronlaw14.WeighPairs'. -/
def weighPairsCard : Claim7 := { stood := { row := weighPairsRow, standIns := [], harness := (true, "08c031627a722910df42cd16284802cee84c223b0a3cce881e60bebfdb6e03a7"), looks := false }, kinds := [], alts := [], laidByText := true, laidKinds := [.data], laidTests := true, laidLooks := .later }
def WeighPairsCardSaid : Prop := Claim7.holds Tryd.pinned (.plain (OpenSpec.ofChange weighPairsSpec)) weighPairsCard

/-- THE TIED CARD OF 'dendronlaw14.WeighNeeds'. -/
def weighNeedsCard : Claim7 := { stood := { row := weighNeedsRow, standIns := [], harness := (true, "08c031627a722910df42cd16284802cee84c223b0a3cce881e60bebfdb6e03a7"), looks := false }, kinds := [], alts := [], laidByText := true, laidKinds := [.data], laidTests := true, laidLooks := .later }
def WeighNeedsCardSaid : Prop := Claim7.holds Tryd.pinned (.plain (OpenSpec.ofChange weighNeedsSpec)) weighNeedsCard

/-- THE TIED CARD OF 'dendronlaw14.WeighAll'. -/
def weighAllCard : Claim7 := { stood := { row := weighAllRow, standIns := [], harness := (true, "08c031627a722910df42cd16284802cee84c223b0a3cce881e60bebfdb6e03a7"), looks := false }, kinds := [], alts := [], laidByText := true, laidKinds := [.data], laidTests := true, laidLooks := .later }
def WeighAllCardSaid : Prop := Claim7.holds Tryd.pinned (.plain (OpenSpec.ofChange weighAllSpec)) weighAllCard

/-- THE TIED CARD OF 'dendronlaw19.GameAlikes'. -/
def gameAlikesCard : Claim7 := { stood := { row := gameAlikesRow, standIns := [], harness := (true, "08c031627a722910df42cd16284802cee84c223b0a3cce881e60bebfdb6e03a7"), looks := false }, kinds := [], alts := [], laidByText := true, laidKinds := [.data], laidTests := true, laidLooks := .later }
def GameAlikesCardSaid : Prop := Claim7.holds Tryd.pinned (.plain (OpenSpec.ofChange gameAlikesSpec)) gameAlikesCard

/-- THE TIED CARD OF 'dendronlaw19.GameNulls'. -/
def gameNullsCard : Claim7 := { stood := { row := gameNullsRow, standIns := [], harness := (true, "08c031627a722910df42cd16284802cee84c223b0a3cce881e60bebfdb6e03a7"), looks := false }, kinds := [], alts := [], laidByText := true, laidKinds := [.data], laidTests := true, laidLooks := .later }
def GameNullsCardSaid : Prop := Claim7.holds Tryd.pinned (.plain (OpenSpec.ofChange gameNullsSpec)) gameNullsCard

/-- THE TIED CARD OF 'dendronlaw19.GameSums'. -/
def gameSumsCard : Claim7 := { stood := { row := gameSumsRow, standIns := [], harness := (true, "08c031627a722910df42cd16284802cee84c223b0a3cce881e60bebfdb6e03a7"), looks := false }, kinds := [], alts := [], laidByText := true, laidKinds := [.data], laidTests := true, laidLooks := .later }
def GameSumsCardSaid : Prop := Claim7.holds Tryd.pinned (.plain (OpenSpec.ofChange gameSumsSpec)) gameSumsCard

/-- THE TIED CARD OF 'dendronlaw22.OwenQuotients'. -/
def owenQuotientsCard : Claim7 := { stood := { row := owenQuotientsRow, standIns := [], harness := (true, "08c031627a722910df42cd16284802cee84c223b0a3cce881e60bebfdb6e03a7"), looks := false }, kinds := [], alts := [], laidByText := true, laidKinds := [.data], laidTests := true, laidLooks := .later }
def OwenQuotientsCardSaid : Prop := Claim7.holds Tryd.pinned (.plain (OpenSpec.ofChange owenQuotientsSpec)) owenQuotientsCard

/-- THE TIED CARD OF 'dendronlaw21.OrdersAdds'. -/
def ordersAddsCard : Claim7 := { stood := { row := ordersAddsRow, standIns := [], harness := (true, "08c031627a722910df42cd16284802cee84c223b0a3cce881e60bebfdb6e03a7"), looks := false }, kinds := [], alts := [], laidByText := true, laidKinds := [.data], laidTests := true, laidLooks := .later }
def OrdersAddsCardSaid : Prop := Claim7.holds Tryd.pinned (.plain (OpenSpec.ofChange ordersAddsSpec)) ordersAddsCard

/-- THE SECOND FORM's CARD OF 'dendronlaw14.WeighKept'. -/
def weighKeptUptoCard : Claim7 := { stood := { row := weighKeptUptoRow, standIns := [], harness := (true, "08c031627a722910df42cd16284802cee84c223b0a3cce881e60bebfdb6e03a7"), looks := false }, kinds := [], alts := [], laidByText := true, laidKinds := [.data], laidTests := true, laidLooks := .later }
def WeighKeptUptoCardSaid : Prop := Claim7.holds Tryd.pinned (.plain (OpenSpec.upto weighKeptSpec)) weighKeptUptoCard

/-- THE SECOND FORM's CARD OF 'dendronlaw14.WeighFacts'. -/
def weighFactsUptoCard : Claim7 := { stood := { row := weighFactsUptoRow, standIns := [], harness := (true, "08c031627a722910df42cd16284802cee84c223b0a3cce881e60bebfdb6e03a7"), looks := false }, kinds := [], alts := [], laidByText := true, laidKinds := [.data], laidTests := true, laidLooks := .later }
def WeighFactsUptoCardSaid : Prop := Claim7.holds Tryd.pinned (.plain (OpenSpec.upto weighFactsSpec)) weighFactsUptoCard

/-- THE SECOND FORM's CARD OF 'dendronlaw14.WeighWeights'. -/
def weighWeightsUptoCard : Claim7 := { stood := { row := weighWeightsUptoRow, standIns := [], harness := (true, "08c031627a722910df42cd16284802cee84c223b0a3cce881e60bebfdb6e03a7"), looks := false }, kinds := [], alts := [], laidByText := true, laidKinds := [.data], laidTests := true, laidLooks := .later }
def WeighWeightsUptoCardSaid : Prop := Claim7.holds Tryd.pinned (.plain (OpenSpec.upto weighWeightsSpec)) weighWeightsUptoCard

/-- THE SECOND FORM's CARD OF 'dendronlaw14.WeighNobody'. -/
def weighNobodyUptoCard : Claim7 := { stood := { row := weighNobodyUptoRow, standIns := [], harness := (true, "08c031627a722910df42cd16284802cee84c223b0a3cce881e60bebfdb6e03a7"), looks := false }, kinds := [], alts := [], laidByText := true, laidKinds := [.data], laidTests := true, laidLooks := .later }
def WeighNobodyUptoCardSaid : Prop := Claim7.holds Tryd.pinned (.plain (OpenSpec.upto weighNobodySpec)) weighNobodyUptoCard

/-- THE SECOND FORM's CARD OF 'dendronlaw14.WeighPairs'. -/
def weighPairsUptoCard : Claim7 := { stood := { row := weighPairsUptoRow, standIns := [], harness := (true, "08c031627a722910df42cd16284802cee84c223b0a3cce881e60bebfdb6e03a7"), looks := false }, kinds := [], alts := [], laidByText := true, laidKinds := [.data], laidTests := true, laidLooks := .later }
def WeighPairsUptoCardSaid : Prop := Claim7.holds Tryd.pinned (.plain (OpenSpec.upto weighPairsSpec)) weighPairsUptoCard

/-- THE SECOND FORM's CARD OF 'dendronlaw14.WeighNeeds'. -/
def weighNeedsUptoCard : Claim7 := { stood := { row := weighNeedsUptoRow, standIns := [], harness := (true, "08c031627a722910df42cd16284802cee84c223b0a3cce881e60bebfdb6e03a7"), looks := false }, kinds := [], alts := [], laidByText := true, laidKinds := [.data], laidTests := true, laidLooks := .later }
def WeighNeedsUptoCardSaid : Prop := Claim7.holds Tryd.pinned (.plain (OpenSpec.upto weighNeedsSpec)) weighNeedsUptoCard

/-- THE SECOND FORM's CARD OF 'dendronlaw14.WeighAll'. -/
def weighAllUptoCard : Claim7 := { stood := { row := weighAllUptoRow, standIns := [], harness := (true, "08c031627a722910df42cd16284802cee84c223b0a3cce881e60bebfdb6e03a7"), looks := false }, kinds := [], alts := [], laidByText := true, laidKinds := [.data], laidTests := true, laidLooks := .later }
def WeighAllUptoCardSaid : Prop := Claim7.holds Tryd.pinned (.plain (OpenSpec.upto weighAllSpec)) weighAllUptoCard

/-- THE SECOND FORM's CARD OF 'dendronlaw19.GameAlikes'. -/
def gameAlikesUptoCard : Claim7 := { stood := { row := gameAlikesUptoRow, standIns := [], harness := (true, "08c031627a722910df42cd16284802cee84c223b0a3cce881e60bebfdb6e03a7"), looks := false }, kinds := [], alts := [], laidByText := true, laidKinds := [.data], laidTests := true, laidLooks := .later }
def GameAlikesUptoCardSaid : Prop := Claim7.holds Tryd.pinned (.plain (OpenSpec.upto gameAlikesSpec)) gameAlikesUptoCard

/-- THE SECOND FORM's CARD OF 'dendronlaw19.GameNulls'. -/
def gameNullsUptoCard : Claim7 := { stood := { row := gameNullsUptoRow, standIns := [], harness := (true, "08c031627a722910df42cd16284802cee84c223b0a3cce881e60bebfdb6e03a7"), looks := false }, kinds := [], alts := [], laidByText := true, laidKinds := [.data], laidTests := true, laidLooks := .later }
def GameNullsUptoCardSaid : Prop := Claim7.holds Tryd.pinned (.plain (OpenSpec.upto gameNullsSpec)) gameNullsUptoCard

/-- THE SECOND FORM's CARD OF 'dendronlaw19.GameSums'. -/
def gameSumsUptoCard : Claim7 := { stood := { row := gameSumsUptoRow, standIns := [], harness := (true, "08c031627a722910df42cd16284802cee84c223b0a3cce881e60bebfdb6e03a7"), looks := false }, kinds := [], alts := [], laidByText := true, laidKinds := [.data], laidTests := true, laidLooks := .later }
def GameSumsUptoCardSaid : Prop := Claim7.holds Tryd.pinned (.plain (OpenSpec.upto gameSumsSpec)) gameSumsUptoCard

/-- THE SECOND FORM's CARD OF 'dendronlaw22.OwenQuotients'. -/
def owenQuotientsUptoCard : Claim7 := { stood := { row := owenQuotientsUptoRow, standIns := [], harness := (true, "08c031627a722910df42cd16284802cee84c223b0a3cce881e60bebfdb6e03a7"), looks := false }, kinds := [], alts := [], laidByText := true, laidKinds := [.data], laidTests := true, laidLooks := .later }
def OwenQuotientsUptoCardSaid : Prop := Claim7.holds Tryd.pinned (.plain (OpenSpec.upto owenQuotientsSpec)) owenQuotientsUptoCard

/-- THE SECOND FORM's CARD OF 'dendronlaw21.OrdersAdds'. -/
def ordersAddsUptoCard : Claim7 := { stood := { row := ordersAddsUptoRow, standIns := [], harness := (true, "08c031627a722910df42cd16284802cee84c223b0a3cce881e60bebfdb6e03a7"), looks := false }, kinds := [], alts := [], laidByText := true, laidKinds := [.data], laidTests := true, laidLooks := .later }
def OrdersAddsUptoCardSaid : Prop := Claim7.holds Tryd.pinned (.plain (OpenSpec.upto ordersAddsSpec)) ordersAddsUptoCard
end Rows
end Go.Proofs.YtgpaohcnnggepabDoor
