/-
  No cell of these rows narrows 'for every input' (looked for: loops, veiled, ifaces, maps, wideKeys, modest, calm, conditions, laid).
  DERIVED. THE GIVEN ROWS OF THIS SEAT. 5 by the template 'for every input the law returns true; each argument reads behind the call as it read before'; 0 by the template 'total and deterministic' (their statements: YtdbdkdliacpeoaaTotals.lean).
  GIVEN WITH THE SEED: the statements are not yours to turn. If you find one false, say at which input.
  Laid BY PROGRAM, IN A SANDBOX (cutbox-rows.mjs): the forced cells as the released guide's own fill.sh prints them over the translation d29cd821e8d14c56… (all of the seat's roots in one cut). By AI agents, Wed Nov 11 2026. No macro, syntax, notation, axiom, sorry.
-/
import Derived.Test.YtdbdkdliacpeoaaChecked
import GoSem.Claim
import GoSem.ClaimJoined
import GoSem.ClaimMapViews
import Derived.JoinedTies
import Derived.KernelRfl
namespace Go.Proofs.Ytdbdkdliacpeoaa
/- THE CELL 'sum', in the pinned program and in every row, IS THE sha256 OF THE DUMP (.gsa) THAT YtdbdkdliacpeoaaProg.lean LOADS. Nothing in Lean hashes anything: it is a label: what it is worth is what the hold of that sum in a sandbox is worth. -/
noncomputable def Try.pinned : Pinned := { name := "ytdbdkdliacpeoaa", sum := "d29cd821e8d14c5663fe0027bb0db943bcadd86391381781b2e86554efc1d8fb", checked := Try.checked }
namespace Rows
def none {H : Type} : Left H := { results := [], args := [] }

/-- 'dendronlaw21.OrdersNexts': WHATEVER THE INPUT: true; the input reads as it did. -/
def ordersNextsSpec : ChangeSpec := { name := "ordersNexts", fn := fun _ => fun
  | [d1, d2] => { results := [.lit (.bool true)], args := [d1, d2] }
  | _ => none }
def ordersNextsRow : OpenClaim := { program := "ytdbdkdliacpeoaa", sum := "d29cd821e8d14c5663fe0027bb0db943bcadd86391381781b2e86554efc1d8fb", func := "dendron/dendronlaw21.OrdersNexts", spec := "ordersNexts", apart := false }
def OrdersNextsSaid : Prop := ordersNextsRow.holds Try.pinned (OpenSpec.ofChange ordersNextsSpec)

/-- ITS FALSE NEIGHBOUR: 'it returns false'. Refute it at one input. -/
def ordersNextsWrong : ChangeSpec := { name := "ordersNexts", fn := fun _ => fun
  | [d1, d2] => { results := [.lit (.bool false)], args := [d1, d2] }
  | _ => none }
def OrdersNextsWrongFalsely : Prop := ordersNextsRow.holds Try.pinned (OpenSpec.ofChange ordersNextsWrong)

/-- 'dendronlaw22.OwenRights': WHATEVER THE INPUT: true; the input reads as it did. -/
def owenRightsSpec : ChangeSpec := { name := "owenRights", fn := fun _ => fun
  | [d1, d2] => { results := [.lit (.bool true)], args := [d1, d2] }
  | _ => none }
def owenRightsRow : OpenClaim := { program := "ytdbdkdliacpeoaa", sum := "d29cd821e8d14c5663fe0027bb0db943bcadd86391381781b2e86554efc1d8fb", func := "dendron/dendronlaw22.OwenRights", spec := "owenRights", apart := false }
def OwenRightsSaid : Prop := owenRightsRow.holds Try.pinned (OpenSpec.ofChange owenRightsSpec)

/-- ITS FALSE NEIGHBOUR: 'it returns false'. Refute it at one input. -/
def owenRightsWrong : ChangeSpec := { name := "owenRights", fn := fun _ => fun
  | [d1, d2] => { results := [.lit (.bool false)], args := [d1, d2] }
  | _ => none }
def OwenRightsWrongFalsely : Prop := owenRightsRow.holds Try.pinned (OpenSpec.ofChange owenRightsWrong)

/-- 'dendronlaw21.OrdersFirsts': WHATEVER THE INPUT: true; the input reads as it did. -/
def ordersFirstsSpec : ChangeSpec := { name := "ordersFirsts", fn := fun _ => fun
  | [d] => { results := [.lit (.bool true)], args := [d] }
  | _ => none }
def ordersFirstsRow : OpenClaim := { program := "ytdbdkdliacpeoaa", sum := "d29cd821e8d14c5663fe0027bb0db943bcadd86391381781b2e86554efc1d8fb", func := "dendron/dendronlaw21.OrdersFirsts", spec := "ordersFirsts", apart := false }
def OrdersFirstsSaid : Prop := ordersFirstsRow.holds Try.pinned (OpenSpec.ofChange ordersFirstsSpec)

/-- ITS FALSE NEIGHBOUR: 'it returns false'. Refute it at one input. -/
def ordersFirstsWrong : ChangeSpec := { name := "ordersFirsts", fn := fun _ => fun
  | [d] => { results := [.lit (.bool false)], args := [d] }
  | _ => none }
def OrdersFirstsWrongFalsely : Prop := ordersFirstsRow.holds Try.pinned (OpenSpec.ofChange ordersFirstsWrong)

/-- 'dendronlaw21.OrdersAll': WHATEVER THE INPUT: true; the input reads as it did. -/
def ordersAllSpec : ChangeSpec := { name := "ordersAll", fn := fun _ => fun
  | [d] => { results := [.lit (.bool true)], args := [d] }
  | _ => none }
def ordersAllRow : OpenClaim := { program := "ytdbdkdliacpeoaa", sum := "d29cd821e8d14c5663fe0027bb0db943bcadd86391381781b2e86554efc1d8fb", func := "dendron/dendronlaw21.OrdersAll", spec := "ordersAll", apart := false }
def OrdersAllSaid : Prop := ordersAllRow.holds Try.pinned (OpenSpec.ofChange ordersAllSpec)

/-- ITS FALSE NEIGHBOUR: 'it returns false'. Refute it at one input. -/
def ordersAllWrong : ChangeSpec := { name := "ordersAll", fn := fun _ => fun
  | [d] => { results := [.lit (.bool false)], args := [d] }
  | _ => none }
def OrdersAllWrongFalsely : Prop := ordersAllRow.holds Try.pinned (OpenSpec.ofChange ordersAllWrong)

/-- 'dendronlaw21.OrdersRights': WHATEVER THE INPUT: true; the input reads as it did. -/
def ordersRightsSpec : ChangeSpec := { name := "ordersRights", fn := fun _ => fun
  | [d1, d2] => { results := [.lit (.bool true)], args := [d1, d2] }
  | _ => none }
def ordersRightsRow : OpenClaim := { program := "ytdbdkdliacpeoaa", sum := "d29cd821e8d14c5663fe0027bb0db943bcadd86391381781b2e86554efc1d8fb", func := "dendron/dendronlaw21.OrdersRights", spec := "ordersRights", apart := false }
def OrdersRightsSaid : Prop := ordersRightsRow.holds Try.pinned (OpenSpec.ofChange ordersRightsSpec)

/-- ITS FALSE NEIGHBOUR: 'it returns false'. Refute it at one input. -/
def ordersRightsWrong : ChangeSpec := { name := "ordersRights", fn := fun _ => fun
  | [d1, d2] => { results := [.lit (.bool false)], args := [d1, d2] }
  | _ => none }
def OrdersRightsWrongFalsely : Prop := ordersRightsRow.holds Try.pinned (OpenSpec.ofChange ordersRightsWrong)

/- THE SECOND FORM. 'bulk': how many values and letters a reading holds, each counted each time it is reached (what is shared counts as often as it is met; a slice's spare places count too). A statement '..UptoSaid' is the law's where the arguments, and the package variables that the reading takes, are together of bulk at most 1048576: NARROWER than '..Said'. Prove '..Said' where nothing that the law and all that it calls make is longer than what came in: it says more and counts as full. Else prove '..UptoSaid'. A law counts once. -/
mutual
def uptoBulk {H : Type} : DataW H → Nat
  | .lit (.string bytes) => bytes.length + 1
  | .lit _ => 1
  | .nil => 1
  | .ptr d => uptoBulk d + 1
  | .slice elems spare => uptoBulkAll elems + uptoBulkAll spare + 1
  | .agg parts => uptoBulkAll parts + 1
  | .iface _ d => uptoBulk d + 1
  | .map entries => uptoBulkEntries entries + 1
  | .held _ => 1
def uptoBulkAll {H : Type} : List (DataW H) → Nat
  | [] => 0
  | d :: r => uptoBulk d + uptoBulkAll r
def uptoBulkEntries {H : Type} : List (Lit × DataW H) → Nat
  | [] => 0
  | x :: r => uptoBulkEntry x + uptoBulkEntries r
def uptoBulkEntry {H : Type} : Lit × DataW H → Nat
  | (.string bytes, d) => bytes.length + uptoBulk d + 1
  | (_, d) => uptoBulk d + 1
 end
def uptoSmall : (H : Type) → List (DataW H) → Bool := fun _ ds => decide (uptoBulkAll ds ≤ 1048576)
def OpenSpec.upto (s : _root_.Go.ChangeSpec) : _root_.Go.OpenSpec := { _root_.Go.OpenSpec.ofChange s with cond := some uptoSmall }

/-- 'dendronlaw21.OrdersNexts', WHERE WHAT IT READS IS OF BULK AT MOST 1048576: true; the input reads as it did. -/
def ordersNextsUptoRow : OpenClaim := { program := "ytdbdkdliacpeoaa", sum := "d29cd821e8d14c5663fe0027bb0db943bcadd86391381781b2e86554efc1d8fb", func := "dendron/dendronlaw21.OrdersNexts", spec := "ordersNexts", apart := false, narrowed := true }
def OrdersNextsUptoSaid : Prop := ordersNextsUptoRow.holds Try.pinned (OpenSpec.upto ordersNextsSpec)

/-- 'dendronlaw22.OwenRights', WHERE WHAT IT READS IS OF BULK AT MOST 1048576: true; the input reads as it did. -/
def owenRightsUptoRow : OpenClaim := { program := "ytdbdkdliacpeoaa", sum := "d29cd821e8d14c5663fe0027bb0db943bcadd86391381781b2e86554efc1d8fb", func := "dendron/dendronlaw22.OwenRights", spec := "owenRights", apart := false, narrowed := true }
def OwenRightsUptoSaid : Prop := owenRightsUptoRow.holds Try.pinned (OpenSpec.upto owenRightsSpec)

/-- 'dendronlaw21.OrdersFirsts', WHERE WHAT IT READS IS OF BULK AT MOST 1048576: true; the input reads as it did. -/
def ordersFirstsUptoRow : OpenClaim := { program := "ytdbdkdliacpeoaa", sum := "d29cd821e8d14c5663fe0027bb0db943bcadd86391381781b2e86554efc1d8fb", func := "dendron/dendronlaw21.OrdersFirsts", spec := "ordersFirsts", apart := false, narrowed := true }
def OrdersFirstsUptoSaid : Prop := ordersFirstsUptoRow.holds Try.pinned (OpenSpec.upto ordersFirstsSpec)

/-- 'dendronlaw21.OrdersAll', WHERE WHAT IT READS IS OF BULK AT MOST 1048576: true; the input reads as it did. -/
def ordersAllUptoRow : OpenClaim := { program := "ytdbdkdliacpeoaa", sum := "d29cd821e8d14c5663fe0027bb0db943bcadd86391381781b2e86554efc1d8fb", func := "dendron/dendronlaw21.OrdersAll", spec := "ordersAll", apart := false, narrowed := true }
def OrdersAllUptoSaid : Prop := ordersAllUptoRow.holds Try.pinned (OpenSpec.upto ordersAllSpec)

/-- 'dendronlaw21.OrdersRights', WHERE WHAT IT READS IS OF BULK AT MOST 1048576: true; the input reads as it did. -/
def ordersRightsUptoRow : OpenClaim := { program := "ytdbdkdliacpeoaa", sum := "d29cd821e8d14c5663fe0027bb0db943bcadd86391381781b2e86554efc1d8fb", func := "dendron/dendronlaw21.OrdersRights", spec := "ordersRights", apart := false, narrowed := true }
def OrdersRightsUptoSaid : Prop := ordersRightsUptoRow.holds Try.pinned (OpenSpec.upto ordersRightsSpec)

end Rows
end Go.Proofs.Ytdbdkdliacpeoaa
