/-
  DERIVED. GIVEN WITH THE SEED: THE CARDS: each row of YtnmbpainnkdonaaDoorRows.lean that lists a variable, with what it lists TIED to the program's text (the seventh form; the later family's looks); each row that meets fmt, with fmt's text TOLD by the authors' own Lean function (tested against real Go, not proved from fmt's source: count such statements apart). THE CARD IS WHAT COUNTS. Prove the row's statement (the work); the ties are given (YtnmbpainnkdonaaDoorTie.lean); close each card by the builder's one call (the guide's Derived/Test/ToyasCard.lean, 'card_holds'). Laid BY PROGRAM, IN A SANDBOX (cutbox-door.mjs). By AI agents, Wed Nov 11 2026. No macro, syntax, notation, axiom, sorry.
-/
import Derived.Test.YtnmbpainnkdonaaDoorRows
import GoSem.ClaimSeven
namespace Go.Proofs.YtnmbpainnkdonaaDoor
namespace Rows

/-- THE TIED CARD OF 'dendronlaw21.OrdersMeans'. -/
def ordersMeansCard : Claim7 := { stood := { row := ordersMeansRow, standIns := [], harness := (true, "96e8809fda174bb690fadef24ca560e9609319c8d6ef22496c234db44ae60214"), looks := false }, kinds := [], alts := [], laidByText := true, laidKinds := [.data], laidTests := true, laidLooks := .later }
def OrdersMeansCardSaid : Prop := Claim7.holds Tryd.pinned (.plain (OpenSpec.ofChange ordersMeansSpec)) ordersMeansCard

/-- THE TIED CARD OF 'dendronlaw21.OrdersAheads'. -/
def ordersAheadsCard : Claim7 := { stood := { row := ordersAheadsRow, standIns := [], harness := (true, "96e8809fda174bb690fadef24ca560e9609319c8d6ef22496c234db44ae60214"), looks := false }, kinds := [], alts := [], laidByText := true, laidKinds := [.data], laidTests := true, laidLooks := .later }
def OrdersAheadsCardSaid : Prop := Claim7.holds Tryd.pinned (.plain (OpenSpec.ofChange ordersAheadsSpec)) ordersAheadsCard

/-- THE SECOND FORM's CARD OF 'dendronlaw21.OrdersMeans'. -/
def ordersMeansUptoCard : Claim7 := { stood := { row := ordersMeansUptoRow, standIns := [], harness := (true, "96e8809fda174bb690fadef24ca560e9609319c8d6ef22496c234db44ae60214"), looks := false }, kinds := [], alts := [], laidByText := true, laidKinds := [.data], laidTests := true, laidLooks := .later }
def OrdersMeansUptoCardSaid : Prop := Claim7.holds Tryd.pinned (.plain (OpenSpec.upto ordersMeansSpec)) ordersMeansUptoCard

/-- THE SECOND FORM's CARD OF 'dendronlaw21.OrdersAheads'. -/
def ordersAheadsUptoCard : Claim7 := { stood := { row := ordersAheadsUptoRow, standIns := [], harness := (true, "96e8809fda174bb690fadef24ca560e9609319c8d6ef22496c234db44ae60214"), looks := false }, kinds := [], alts := [], laidByText := true, laidKinds := [.data], laidTests := true, laidLooks := .later }
def OrdersAheadsUptoCardSaid : Prop := Claim7.holds Tryd.pinned (.plain (OpenSpec.upto ordersAheadsSpec)) ordersAheadsUptoCard
end Rows
end Go.Proofs.YtnmbpainnkdonaaDoor
