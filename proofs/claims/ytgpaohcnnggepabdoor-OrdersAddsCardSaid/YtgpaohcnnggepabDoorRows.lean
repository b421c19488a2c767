/-
  NARROWER THAN 'FOR EVERY INPUT', by the rows' own cells (each row's printed sentence says how): WeighKept: laid · WeighFacts: laid · WeighWeights: laid · WeighNobody: laid · WeighPairs: laid · WeighNeeds: laid · WeighAll: laid · GameAlikes: laid · GameNulls: laid · GameSums: laid · OwenQuotients: laid · OrdersAdds: laid.
  DERIVED. THE GIVEN ROWS OF THIS SEAT. 12 by the template 'for every input the law returns true; each argument reads behind the call as it read before'; 0 by the template 'total and deterministic' (their statements: YtgpaohcnnggepabDoorTotals.lean).
  GIVEN WITH THE SEED: the statements are not yours to turn. If you find one false, say at which input.
  Laid BY PROGRAM, IN A SANDBOX (cutbox-rows.mjs): the forced cells as the released guide's own fill.sh prints them over the translation e6ad7a417ef70da8… (all of the seat's roots in one cut). By AI agents, Wed Nov 11 2026. No macro, syntax, notation, axiom, sorry.
-/
import Derived.Test.YtgpaohcnnggepabDoorChecked
import GoSem.Claim
import GoSem.ClaimJoined
import GoSem.ClaimMapViews
import Derived.JoinedTies
import Derived.KernelRfl
namespace Go.Proofs.YtgpaohcnnggepabDoor
/- THE CELL 'sum', in the pinned program and in every row, IS THE sha256 OF THE DUMP (.gsa) THAT YtgpaohcnnggepabDoorProg.lean LOADS. Nothing in Lean hashes anything: it is a label: what it is worth is what the hold of that sum in a sandbox is worth. -/
noncomputable def Tryd.pinned : Pinned := { name := "ytgpaohcnnggepabdoor", sum := "e6ad7a417ef70da8bb04b2315fdd401e370fdb795364016bd397db18742be530", checked := Tryd.checked }
namespace Rows
def none {H : Type} : Left H := { results := [], args := [] }

/- WHAT THE LISTED PACKAGE-LEVEL VARIABLES READ AS WHEN THE CALL BEGINS. Each datum BY PROGRAM (the guide's laid-datum.mjs) off the statement by which the dump's own 'gosem.cut.vars' lays the variable. In a bare row this is a premise. The card (YtgpaohcnnggepabDoorCards.lean) ties it to the program's text. -/
def laid_math_bits_deBruijn64tab {H : Type} : DataW H := .agg [.lit (.int .u8 0), .lit (.int .u8 1), .lit (.int .u8 56), .lit (.int .u8 2), .lit (.int .u8 57), .lit (.int .u8 49), .lit (.int .u8 28), .lit (.int .u8 3), .lit (.int .u8 61), .lit (.int .u8 58), .lit (.int .u8 42), .lit (.int .u8 50), .lit (.int .u8 38), .lit (.int .u8 29), .lit (.int .u8 17), .lit (.int .u8 4), .lit (.int .u8 62), .lit (.int .u8 47), .lit (.int .u8 59), .lit (.int .u8 36), .lit (.int .u8 45), .lit (.int .u8 43), .lit (.int .u8 51), .lit (.int .u8 22), .lit (.int .u8 53), .lit (.int .u8 39), .lit (.int .u8 33), .lit (.int .u8 30), .lit (.int .u8 24), .lit (.int .u8 18), .lit (.int .u8 12), .lit (.int .u8 5), .lit (.int .u8 63), .lit (.int .u8 55), .lit (.int .u8 48), .lit (.int .u8 27), .lit (.int .u8 60), .lit (.int .u8 41), .lit (.int .u8 37), .lit (.int .u8 16), .lit (.int .u8 46), .lit (.int .u8 35), .lit (.int .u8 44), .lit (.int .u8 21), .lit (.int .u8 52), .lit (.int .u8 32), .lit (.int .u8 23), .lit (.int .u8 11), .lit (.int .u8 54), .lit (.int .u8 26), .lit (.int .u8 40), .lit (.int .u8 15), .lit (.int .u8 34), .lit (.int .u8 20), .lit (.int .u8 31), .lit (.int .u8 10), .lit (.int .u8 25), .lit (.int .u8 14), .lit (.int .u8 19), .lit (.int .u8 9), .lit (.int .u8 13), .lit (.int .u8 8), .lit (.int .u8 7), .lit (.int .u8 6)]

/-- 'dendronlaw14.WeighKept': WHATEVER THE INPUT: true; the input reads as it did. -/
def weighKeptSpec : ChangeSpec := { name := "weighKept", fn := fun _ => fun
  | [d] => { results := [.lit (.bool true)], args := [d] }
  | _ => none }
def weighKeptRow : OpenClaim := { program := "ytgpaohcnnggepabdoor", sum := "e6ad7a417ef70da8bb04b2315fdd401e370fdb795364016bd397db18742be530", func := "dendron/dendronlaw14.WeighKept", spec := "weighKept", inPlace := ["sync/atomic.LoadUint32", "(*internal/sync.Mutex).Lock", "internal/race.Disable", "sync/atomic.CompareAndSwapInt32", "internal/race.Enable", "internal/race.Acquire", "(*internal/sync.Mutex).lockSlow", "internal/sync.runtime_canSpin", "internal/sync.runtime_doSpin", "internal/sync.throw", "internal/sync.runtime_nanotime", "internal/sync.runtime_SemacquireMutex", "sync/atomic.AddInt32", "(*internal/sync.Mutex).Unlock", "internal/race.ReleaseMerge", "(*internal/sync.Mutex).unlockSlow", "internal/sync.fatal", "internal/sync.runtime_Semrelease", "sync/atomic.StoreUint32"], unfollowed := true, recurses := true, named := ["math/bits.deBruijn64tab"], apart := false, laid := [("math/bits.deBruijn64tab", laid_math_bits_deBruijn64tab)] }
def WeighKeptSaid : Prop := weighKeptRow.holds Tryd.pinned (OpenSpec.ofChange weighKeptSpec)

/-- ITS FALSE NEIGHBOUR: 'it returns false'. Refute it at one input. -/
def weighKeptWrong : ChangeSpec := { name := "weighKept", fn := fun _ => fun
  | [d] => { results := [.lit (.bool false)], args := [d] }
  | _ => none }
def WeighKeptWrongFalsely : Prop := weighKeptRow.holds Tryd.pinned (OpenSpec.ofChange weighKeptWrong)

/-- 'dendronlaw14.WeighFacts': WHATEVER THE INPUT: true; the input reads as it did. -/
def weighFactsSpec : ChangeSpec := { name := "weighFacts", fn := fun _ => fun
  | [d1, d2] => { results := [.lit (.bool true)], args := [d1, d2] }
  | _ => none }
def weighFactsRow : OpenClaim := { program := "ytgpaohcnnggepabdoor", sum := "e6ad7a417ef70da8bb04b2315fdd401e370fdb795364016bd397db18742be530", func := "dendron/dendronlaw14.WeighFacts", spec := "weighFacts", inPlace := ["sync/atomic.LoadUint32", "(*internal/sync.Mutex).Lock", "internal/race.Disable", "sync/atomic.CompareAndSwapInt32", "internal/race.Enable", "internal/race.Acquire", "(*internal/sync.Mutex).lockSlow", "internal/sync.runtime_canSpin", "internal/sync.runtime_doSpin", "internal/sync.throw", "internal/sync.runtime_nanotime", "internal/sync.runtime_SemacquireMutex", "sync/atomic.AddInt32", "(*internal/sync.Mutex).Unlock", "internal/race.ReleaseMerge", "(*internal/sync.Mutex).unlockSlow", "internal/sync.fatal", "internal/sync.runtime_Semrelease", "sync/atomic.StoreUint32"], unfollowed := true, recurses := true, named := ["math/bits.deBruijn64tab"], apart := false, laid := [("math/bits.deBruijn64tab", laid_math_bits_deBruijn64tab)] }
def WeighFactsSaid : Prop := weighFactsRow.holds Tryd.pinned (OpenSpec.ofChange weighFactsSpec)

/-- ITS FALSE NEIGHBOUR: 'it returns false'. Refute it at one input. -/
def weighFactsWrong : ChangeSpec := { name := "weighFacts", fn := fun _ => fun
  | [d1, d2] => { results := [.lit (.bool false)], args := [d1, d2] }
  | _ => none }
def WeighFactsWrongFalsely : Prop := weighFactsRow.holds Tryd.pinned (OpenSpec.ofChange weighFactsWrong)

/-- 'dendronlaw14.WeighWeights': WHATEVER THE INPUT: true; the input reads as it did. -/
def weighWeightsSpec : ChangeSpec := { name := "weighWeights", fn := fun _ => fun
  | [d1, d2] => { results := [.lit (.bool true)], args := [d1, d2] }
  | _ => none }
def weighWeightsRow : OpenClaim := { program := "ytgpaohcnnggepabdoor", sum := "e6ad7a417ef70da8bb04b2315fdd401e370fdb795364016bd397db18742be530", func := "dendron/dendronlaw14.WeighWeights", spec := "weighWeights", inPlace := ["sync/atomic.LoadUint32", "(*internal/sync.Mutex).Lock", "internal/race.Disable", "sync/atomic.CompareAndSwapInt32", "internal/race.Enable", "internal/race.Acquire", "(*internal/sync.Mutex).lockSlow", "internal/sync.runtime_canSpin", "internal/sync.runtime_doSpin", "internal/sync.throw", "internal/sync.runtime_nanotime", "internal/sync.runtime_SemacquireMutex", "sync/atomic.AddInt32", "(*internal/sync.Mutex).Unlock", "internal/race.ReleaseMerge", "(*internal/sync.Mutex).unlockSlow", "internal/sync.fatal", "internal/sync.runtime_Semrelease", "sync/atomic.StoreUint32"], unfollowed := true, recurses := true, named := ["math/bits.deBruijn64tab"], apart := false, laid := [("math/bits.deBruijn64tab", laid_math_bits_deBruijn64tab)] }
def WeighWeightsSaid : Prop := weighWeightsRow.holds Tryd.pinned (OpenSpec.ofChange weighWeightsSpec)

/-- ITS FALSE NEIGHBOUR: 'it returns false'. Refute it at one input. -/
def weighWeightsWrong : ChangeSpec := { name := "weighWeights", fn := fun _ => fun
  | [d1, d2] => { results := [.lit (.bool false)], args := [d1, d2] }
  | _ => none }
def WeighWeightsWrongFalsely : Prop := weighWeightsRow.holds Tryd.pinned (OpenSpec.ofChange weighWeightsWrong)

/-- 'dendronlaw14.WeighNobody': WHATEVER THE INPUT: true; the input reads as it did. -/
def weighNobodySpec : ChangeSpec := { name := "weighNobody", fn := fun _ => fun
  | [d1, d2] => { results := [.lit (.bool true)], args := [d1, d2] }
  | _ => none }
def weighNobodyRow : OpenClaim := { program := "ytgpaohcnnggepabdoor", sum := "e6ad7a417ef70da8bb04b2315fdd401e370fdb795364016bd397db18742be530", func := "dendron/dendronlaw14.WeighNobody", spec := "weighNobody", inPlace := ["sync/atomic.LoadUint32", "(*internal/sync.Mutex).Lock", "internal/race.Disable", "sync/atomic.CompareAndSwapInt32", "internal/race.Enable", "internal/race.Acquire", "(*internal/sync.Mutex).lockSlow", "internal/sync.runtime_canSpin", "internal/sync.runtime_doSpin", "internal/sync.throw", "internal/sync.runtime_nanotime", "internal/sync.runtime_SemacquireMutex", "sync/atomic.AddInt32", "(*internal/sync.Mutex).Unlock", "internal/race.ReleaseMerge", "(*internal/sync.Mutex).unlockSlow", "internal/sync.fatal", "internal/sync.runtime_Semrelease", "sync/atomic.StoreUint32"], unfollowed := true, recurses := true, named := ["math/bits.deBruijn64tab"], apart := false, laid := [("math/bits.deBruijn64tab", laid_math_bits_deBruijn64tab)] }
def WeighNobodySaid : Prop := weighNobodyRow.holds Tryd.pinned (OpenSpec.ofChange weighNobodySpec)

/-- ITS FALSE NEIGHBOUR: 'it returns false'. Refute it at one input. -/
def weighNobodyWrong : ChangeSpec := { name := "weighNobody", fn := fun _ => fun
  | [d1, d2] => { results := [.lit (.bool false)], args := [d1, d2] }
  | _ => none }
def WeighNobodyWrongFalsely : Prop := weighNobodyRow.holds Tryd.pinned (OpenSpec.ofChange weighNobodyWrong)

/-- 'dendronlaw14.WeighPairs': WHATEVER THE INPUT: true; the input reads as it did. -/
def weighPairsSpec : ChangeSpec := { name := "weighPairs", fn := fun _ => fun
  | [d1, d2] => { results := [.lit (.bool true)], args := [d1, d2] }
  | _ => none }
def weighPairsRow : OpenClaim := { program := "ytgpaohcnnggepabdoor", sum := "e6ad7a417ef70da8bb04b2315fdd401e370fdb795364016bd397db18742be530", func := "dendron/dendronlaw14.WeighPairs", spec := "weighPairs", inPlace := ["sync/atomic.LoadUint32", "(*internal/sync.Mutex).Lock", "internal/race.Disable", "sync/atomic.CompareAndSwapInt32", "internal/race.Enable", "internal/race.Acquire", "(*internal/sync.Mutex).lockSlow", "internal/sync.runtime_canSpin", "internal/sync.runtime_doSpin", "internal/sync.throw", "internal/sync.runtime_nanotime", "internal/sync.runtime_SemacquireMutex", "sync/atomic.AddInt32", "(*internal/sync.Mutex).Unlock", "internal/race.ReleaseMerge", "(*internal/sync.Mutex).unlockSlow", "internal/sync.fatal", "internal/sync.runtime_Semrelease", "sync/atomic.StoreUint32"], unfollowed := true, recurses := true, named := ["math/bits.deBruijn64tab"], apart := false, laid := [("math/bits.deBruijn64tab", laid_math_bits_deBruijn64tab)] }
def WeighPairsSaid : Prop := weighPairsRow.holds Tryd.pinned (OpenSpec.ofChange weighPairsSpec)

/-- ITS FALSE NEIGHBOUR: 'it returns false'. Refute it at one input. -/
def weighPairsWrong : ChangeSpec := { name := "weighPairs", fn := fun _ => fun
  | [d1, d2] => { results := [.lit (.bool false)], args := [d1, d2] }
  | _ => none }
def WeighPairsWrongFalsely : Prop := weighPairsRow.holds Tryd.pinned (OpenSpec.ofChange weighPairsWrong)

/-- 'dendronlaw14.WeighNeeds': WHATEVER THE INPUT: true; the input reads as it did. -/
def weighNeedsSpec : ChangeSpec := { name := "weighNeeds", fn := fun _ => fun
  | [d1, d2] => { results := [.lit (.bool true)], args := [d1, d2] }
  | _ => none }
def weighNeedsRow : OpenClaim := { program := "ytgpaohcnnggepabdoor", sum := "e6ad7a417ef70da8bb04b2315fdd401e370fdb795364016bd397db18742be530", func := "dendron/dendronlaw14.WeighNeeds", spec := "weighNeeds", inPlace := ["sync/atomic.LoadUint32", "(*internal/sync.Mutex).Lock", "internal/race.Disable", "sync/atomic.CompareAndSwapInt32", "internal/race.Enable", "internal/race.Acquire", "(*internal/sync.Mutex).lockSlow", "internal/sync.runtime_canSpin", "internal/sync.runtime_doSpin", "internal/sync.throw", "internal/sync.runtime_nanotime", "internal/sync.runtime_SemacquireMutex", "sync/atomic.AddInt32", "(*internal/sync.Mutex).Unlock", "internal/race.ReleaseMerge", "(*internal/sync.Mutex).unlockSlow", "internal/sync.fatal", "internal/sync.runtime_Semrelease", "sync/atomic.StoreUint32"], unfollowed := true, recurses := true, named := ["math/bits.deBruijn64tab"], apart := false, laid := [("math/bits.deBruijn64tab", laid_math_bits_deBruijn64tab)] }
def WeighNeedsSaid : Prop := weighNeedsRow.holds Tryd.pinned (OpenSpec.ofChange weighNeedsSpec)

/-- ITS FALSE NEIGHBOUR: 'it returns false'. Refute it at one input. -/
def weighNeedsWrong : ChangeSpec := { name := "weighNeeds", fn := fun _ => fun
  | [d1, d2] => { results := [.lit (.bool false)], args := [d1, d2] }
  | _ => none }
def WeighNeedsWrongFalsely : Prop := weighNeedsRow.holds Tryd.pinned (OpenSpec.ofChange weighNeedsWrong)

/-- 'dendronlaw14.WeighAll': WHATEVER THE INPUT: true; the input reads as it did. -/
def weighAllSpec : ChangeSpec := { name := "weighAll", fn := fun _ => fun
  | [d] => { results := [.lit (.bool true)], args := [d] }
  | _ => none }
def weighAllRow : OpenClaim := { program := "ytgpaohcnnggepabdoor", sum := "e6ad7a417ef70da8bb04b2315fdd401e370fdb795364016bd397db18742be530", func := "dendron/dendronlaw14.WeighAll", spec := "weighAll", inPlace := ["sync/atomic.LoadUint32", "(*internal/sync.Mutex).Lock", "internal/race.Disable", "sync/atomic.CompareAndSwapInt32", "internal/race.Enable", "internal/race.Acquire", "(*internal/sync.Mutex).lockSlow", "internal/sync.runtime_canSpin", "internal/sync.runtime_doSpin", "internal/sync.throw", "internal/sync.runtime_nanotime", "internal/sync.runtime_SemacquireMutex", "sync/atomic.AddInt32", "(*internal/sync.Mutex).Unlock", "internal/race.ReleaseMerge", "(*internal/sync.Mutex).unlockSlow", "internal/sync.fatal", "internal/sync.runtime_Semrelease", "sync/atomic.StoreUint32"], unfollowed := true, recurses := true, named := ["math/bits.deBruijn64tab"], apart := false, laid := [("math/bits.deBruijn64tab", laid_math_bits_deBruijn64tab)] }
def WeighAllSaid : Prop := weighAllRow.holds Tryd.pinned (OpenSpec.ofChange weighAllSpec)

/-- ITS FALSE NEIGHBOUR: 'it returns false'. Refute it at one input. -/
def weighAllWrong : ChangeSpec := { name := "weighAll", fn := fun _ => fun
  | [d] => { results := [.lit (.bool false)], args := [d] }
  | _ => none }
def WeighAllWrongFalsely : Prop := weighAllRow.holds Tryd.pinned (OpenSpec.ofChange weighAllWrong)

/-- 'dendronlaw19.GameAlikes': WHATEVER THE INPUT: true; the input reads as it did. -/
def gameAlikesSpec : ChangeSpec := { name := "gameAlikes", fn := fun _ => fun
  | [d1, d2, d3] => { results := [.lit (.bool true)], args := [d1, d2, d3] }
  | _ => none }
def gameAlikesRow : OpenClaim := { program := "ytgpaohcnnggepabdoor", sum := "e6ad7a417ef70da8bb04b2315fdd401e370fdb795364016bd397db18742be530", func := "dendron/dendronlaw19.GameAlikes", spec := "gameAlikes", inPlace := ["sync/atomic.LoadUint32", "(*internal/sync.Mutex).Lock", "internal/race.Disable", "sync/atomic.CompareAndSwapInt32", "internal/race.Enable", "internal/race.Acquire", "(*internal/sync.Mutex).lockSlow", "internal/sync.runtime_canSpin", "internal/sync.runtime_doSpin", "internal/sync.throw", "internal/sync.runtime_nanotime", "internal/sync.runtime_SemacquireMutex", "sync/atomic.AddInt32", "(*internal/sync.Mutex).Unlock", "internal/race.ReleaseMerge", "(*internal/sync.Mutex).unlockSlow", "internal/sync.fatal", "internal/sync.runtime_Semrelease", "sync/atomic.StoreUint32"], unfollowed := true, recurses := true, named := ["math/bits.deBruijn64tab"], apart := false, laid := [("math/bits.deBruijn64tab", laid_math_bits_deBruijn64tab)] }
def GameAlikesSaid : Prop := gameAlikesRow.holds Tryd.pinned (OpenSpec.ofChange gameAlikesSpec)

/-- ITS FALSE NEIGHBOUR: 'it returns false'. Refute it at one input. -/
def gameAlikesWrong : ChangeSpec := { name := "gameAlikes", fn := fun _ => fun
  | [d1, d2, d3] => { results := [.lit (.bool false)], args := [d1, d2, d3] }
  | _ => none }
def GameAlikesWrongFalsely : Prop := gameAlikesRow.holds Tryd.pinned (OpenSpec.ofChange gameAlikesWrong)

/-- 'dendronlaw19.GameNulls': WHATEVER THE INPUT: true; the input reads as it did. -/
def gameNullsSpec : ChangeSpec := { name := "gameNulls", fn := fun _ => fun
  | [d1, d2] => { results := [.lit (.bool true)], args := [d1, d2] }
  | _ => none }
def gameNullsRow : OpenClaim := { program := "ytgpaohcnnggepabdoor", sum := "e6ad7a417ef70da8bb04b2315fdd401e370fdb795364016bd397db18742be530", func := "dendron/dendronlaw19.GameNulls", spec := "gameNulls", inPlace := ["sync/atomic.LoadUint32", "(*internal/sync.Mutex).Lock", "internal/race.Disable", "sync/atomic.CompareAndSwapInt32", "internal/race.Enable", "internal/race.Acquire", "(*internal/sync.Mutex).lockSlow", "internal/sync.runtime_canSpin", "internal/sync.runtime_doSpin", "internal/sync.throw", "internal/sync.runtime_nanotime", "internal/sync.runtime_SemacquireMutex", "sync/atomic.AddInt32", "(*internal/sync.Mutex).Unlock", "internal/race.ReleaseMerge", "(*internal/sync.Mutex).unlockSlow", "internal/sync.fatal", "internal/sync.runtime_Semrelease", "sync/atomic.StoreUint32"], unfollowed := true, recurses := true, named := ["math/bits.deBruijn64tab"], apart := false, laid := [("math/bits.deBruijn64tab", laid_math_bits_deBruijn64tab)] }
def GameNullsSaid : Prop := gameNullsRow.holds Tryd.pinned (OpenSpec.ofChange gameNullsSpec)

/-- ITS FALSE NEIGHBOUR: 'it returns false'. Refute it at one input. -/
def gameNullsWrong : ChangeSpec := { name := "gameNulls", fn := fun _ => fun
  | [d1, d2] => { results := [.lit (.bool false)], args := [d1, d2] }
  | _ => none }
def GameNullsWrongFalsely : Prop := gameNullsRow.holds Tryd.pinned (OpenSpec.ofChange gameNullsWrong)

/-- 'dendronlaw19.GameSums': WHATEVER THE INPUT: true; the input reads as it did. -/
def gameSumsSpec : ChangeSpec := { name := "gameSums", fn := fun _ => fun
  | [d1, d2] => { results := [.lit (.bool true)], args := [d1, d2] }
  | _ => none }
def gameSumsRow : OpenClaim := { program := "ytgpaohcnnggepabdoor", sum := "e6ad7a417ef70da8bb04b2315fdd401e370fdb795364016bd397db18742be530", func := "dendron/dendronlaw19.GameSums", spec := "gameSums", inPlace := ["sync/atomic.LoadUint32", "(*internal/sync.Mutex).Lock", "internal/race.Disable", "sync/atomic.CompareAndSwapInt32", "internal/race.Enable", "internal/race.Acquire", "(*internal/sync.Mutex).lockSlow", "internal/sync.runtime_canSpin", "internal/sync.runtime_doSpin", "internal/sync.throw", "internal/sync.runtime_nanotime", "internal/sync.runtime_SemacquireMutex", "sync/atomic.AddInt32", "(*internal/sync.Mutex).Unlock", "internal/race.ReleaseMerge", "(*internal/sync.Mutex).unlockSlow", "internal/sync.fatal", "internal/sync.runtime_Semrelease", "sync/atomic.StoreUint32"], unfollowed := true, recurses := true, named := ["math/bits.deBruijn64tab"], apart := false, laid := [("math/bits.deBruijn64tab", laid_math_bits_deBruijn64tab)] }
def GameSumsSaid : Prop := gameSumsRow.holds Tryd.pinned (OpenSpec.ofChange gameSumsSpec)

/-- ITS FALSE NEIGHBOUR: 'it returns false'. Refute it at one input. -/
def gameSumsWrong : ChangeSpec := { name := "gameSums", fn := fun _ => fun
  | [d1, d2] => { results := [.lit (.bool false)], args := [d1, d2] }
  | _ => none }
def GameSumsWrongFalsely : Prop := gameSumsRow.holds Tryd.pinned (OpenSpec.ofChange gameSumsWrong)

/-- 'dendronlaw22.OwenQuotients': WHATEVER THE INPUT: true; the input reads as it did. -/
def owenQuotientsSpec : ChangeSpec := { name := "owenQuotients", fn := fun _ => fun
  | [d1, d2] => { results := [.lit (.bool true)], args := [d1, d2] }
  | _ => none }
def owenQuotientsRow : OpenClaim := { program := "ytgpaohcnnggepabdoor", sum := "e6ad7a417ef70da8bb04b2315fdd401e370fdb795364016bd397db18742be530", func := "dendron/dendronlaw22.OwenQuotients", spec := "owenQuotients", named := ["math/bits.deBruijn64tab"], apart := false, laid := [("math/bits.deBruijn64tab", laid_math_bits_deBruijn64tab)] }
def OwenQuotientsSaid : Prop := owenQuotientsRow.holds Tryd.pinned (OpenSpec.ofChange owenQuotientsSpec)

/-- ITS FALSE NEIGHBOUR: 'it returns false'. Refute it at one input. -/
def owenQuotientsWrong : ChangeSpec := { name := "owenQuotients", fn := fun _ => fun
  | [d1, d2] => { results := [.lit (.bool false)], args := [d1, d2] }
  | _ => none }
def OwenQuotientsWrongFalsely : Prop := owenQuotientsRow.holds Tryd.pinned (OpenSpec.ofChange owenQuotientsWrong)

/-- 'dendronlaw21.OrdersAdds': WHATEVER THE INPUT: true; the input reads as it did. -/
def ordersAddsSpec : ChangeSpec := { name := "ordersAdds", fn := fun _ => fun
  | [d1, d2] => { results := [.lit (.bool true)], args := [d1, d2] }
  | _ => none }
def ordersAddsRow : OpenClaim := { program := "ytgpaohcnnggepabdoor", sum := "e6ad7a417ef70da8bb04b2315fdd401e370fdb795364016bd397db18742be530", func := "dendron/dendronlaw21.OrdersAdds", spec := "ordersAdds", named := ["math/bits.deBruijn64tab"], apart := false, laid := [("math/bits.deBruijn64tab", laid_math_bits_deBruijn64tab)] }
def OrdersAddsSaid : Prop := ordersAddsRow.holds Tryd.pinned (OpenSpec.ofChange ordersAddsSpec)

/-- ITS FALSE NEIGHBOUR: 'it returns false'. Refute it at one input. -/
def ordersAddsWrong : ChangeSpec := { name := "ordersAdds", fn := fun _ => fun
  | [d1, d2] => { results := [.lit (.bool false)], args := [d1, d2] }
  | _ => none }
def OrdersAddsWrongFalsely : Prop := ordersAddsRow.holds Tryd.pinned (OpenSpec.ofChange ordersAddsWrong)

/- THE SECOND FORM. 'bulk': how many values and letters a reading holds, each counted each time it is reached (what is shared counts as often as it is met; a slice's spare places count too). A statement '..UptoSaid' is the law's where the arguments, and the package variables that the reading takes, are together of bulk at most 1048576: NARROWER than '..Said'. Prove '..Said' where nothing that the law and all that it calls make is longer than what came in: it says more and counts as full. Else prove '..UptoSaid'. A law counts once. -/
mutual
def uptoBulk {H : Type} : DataW H → Nat
  | .lit (.string bytes) => bytes.length + 1
  | .lit _ => 1
  | .nil => 1
  | .ptr d => uptoBulk d + 1
  | .slice elems spare => uptoBulkAll elems + uptoBulkAll spare + 1
  | .agg parts => uptoBulkAll parts + 1
  | .iface _ d => uptoBulk d + 1
  | .map entries => uptoBulkEntries entries + 1
  | .held _ => 1
def uptoBulkAll {H : Type} : List (DataW H) → Nat
  | [] => 0
  | d :: r => uptoBulk d + uptoBulkAll r
def uptoBulkEntries {H : Type} : List (Lit × DataW H) → Nat
  | [] => 0
  | x :: r => uptoBulkEntry x + uptoBulkEntries r
def uptoBulkEntry {H : Type} : Lit × DataW H → Nat
  | (.string bytes, d) => bytes.length + uptoBulk d + 1
  | (_, d) => uptoBulk d + 1
 end
def uptoSmall : (H : Type) → List (DataW H) → Bool := fun _ ds => decide (uptoBulkAll ds ≤ 1048576)
def OpenSpec.upto (s : _root_.Go.ChangeSpec) : _root_.Go.OpenSpec := { _root_.Go.OpenSpec.ofChange s with cond := some uptoSmall }

/-- 'dendronlaw14.WeighKept', WHERE WHAT IT READS IS OF BULK AT MOST 1048576: true; the input reads as it did. -/
def weighKeptUptoRow : OpenClaim := { program := "ytgpaohcnnggepabdoor", sum := "e6ad7a417ef70da8bb04b2315fdd401e370fdb795364016bd397db18742be530", func := "dendron/dendronlaw14.WeighKept", spec := "weighKept", inPlace := ["sync/atomic.LoadUint32", "(*internal/sync.Mutex).Lock", "internal/race.Disable", "sync/atomic.CompareAndSwapInt32", "internal/race.Enable", "internal/race.Acquire", "(*internal/sync.Mutex).lockSlow", "internal/sync.runtime_canSpin", "internal/sync.runtime_doSpin", "internal/sync.throw", "internal/sync.runtime_nanotime", "internal/sync.runtime_SemacquireMutex", "sync/atomic.AddInt32", "(*internal/sync.Mutex).Unlock", "internal/race.ReleaseMerge", "(*internal/sync.Mutex).unlockSlow", "internal/sync.fatal", "internal/sync.runtime_Semrelease", "sync/atomic.StoreUint32"], unfollowed := true, recurses := true, named := ["math/bits.deBruijn64tab"], apart := false, laid := [("math/bits.deBruijn64tab", laid_math_bits_deBruijn64tab)], narrowed := true }
def WeighKeptUptoSaid : Prop := weighKeptUptoRow.holds Tryd.pinned (OpenSpec.upto weighKeptSpec)

/-- 'dendronlaw14.WeighFacts', WHERE WHAT IT READS IS OF BULK AT MOST 1048576: true; the input reads as it did. -/
def weighFactsUptoRow : OpenClaim := { program := "ytgpaohcnnggepabdoor", sum := "e6ad7a417ef70da8bb04b2315fdd401e370fdb795364016bd397db18742be530", func := "dendron/dendronlaw14.WeighFacts", spec := "weighFacts", inPlace := ["sync/atomic.LoadUint32", "(*internal/sync.Mutex).Lock", "internal/race.Disable", "sync/atomic.CompareAndSwapInt32", "internal/race.Enable", "internal/race.Acquire", "(*internal/sync.Mutex).lockSlow", "internal/sync.runtime_canSpin", "internal/sync.runtime_doSpin", "internal/sync.throw", "internal/sync.runtime_nanotime", "internal/sync.runtime_SemacquireMutex", "sync/atomic.AddInt32", "(*internal/sync.Mutex).Unlock", "internal/race.ReleaseMerge", "(*internal/sync.Mutex).unlockSlow", "internal/sync.fatal", "internal/sync.runtime_Semrelease", "sync/atomic.StoreUint32"], unfollowed := true, recurses := true, named := ["math/bits.deBruijn64tab"], apart := false, laid := [("math/bits.deBruijn64tab", laid_math_bits_deBruijn64tab)], narrowed := true }
def WeighFactsUptoSaid : Prop := weighFactsUptoRow.holds Tryd.pinned (OpenSpec.upto weighFactsSpec)

/-- 'dendronlaw14.WeighWeights', WHERE WHAT IT READS IS OF BULK AT MOST 1048576: true; the input reads as it did. -/
def weighWeightsUptoRow : OpenClaim := { program := "ytgpaohcnnggepabdoor", sum := "e6ad7a417ef70da8bb04b2315fdd401e370fdb795364016bd397db18742be530", func := "dendron/dendronlaw14.WeighWeights", spec := "weighWeights", inPlace := ["sync/atomic.LoadUint32", "(*internal/sync.Mutex).Lock", "internal/race.Disable", "sync/atomic.CompareAndSwapInt32", "internal/race.Enable", "internal/race.Acquire", "(*internal/sync.Mutex).lockSlow", "internal/sync.runtime_canSpin", "internal/sync.runtime_doSpin", "internal/sync.throw", "internal/sync.runtime_nanotime", "internal/sync.runtime_SemacquireMutex", "sync/atomic.AddInt32", "(*internal/sync.Mutex).Unlock", "internal/race.ReleaseMerge", "(*internal/sync.Mutex).unlockSlow", "internal/sync.fatal", "internal/sync.runtime_Semrelease", "sync/atomic.StoreUint32"], unfollowed := true, recurses := true, named := ["math/bits.deBruijn64tab"], apart := false, laid := [("math/bits.deBruijn64tab", laid_math_bits_deBruijn64tab)], narrowed := true }
def WeighWeightsUptoSaid : Prop := weighWeightsUptoRow.holds Tryd.pinned (OpenSpec.upto weighWeightsSpec)

/-- 'dendronlaw14.WeighNobody', WHERE WHAT IT READS IS OF BULK AT MOST 1048576: true; the input reads as it did. -/
def weighNobodyUptoRow : OpenClaim := { program := "ytgpaohcnnggepabdoor", sum := "e6ad7a417ef70da8bb04b2315fdd401e370fdb795364016bd397db18742be530", func := "dendron/dendronlaw14.WeighNobody", spec := "weighNobody", inPlace := ["sync/atomic.LoadUint32", "(*internal/sync.Mutex).Lock", "internal/race.Disable", "sync/atomic.CompareAndSwapInt32", "internal/race.Enable", "internal/race.Acquire", "(*internal/sync.Mutex).lockSlow", "internal/sync.runtime_canSpin", "internal/sync.runtime_doSpin", "internal/sync.throw", "internal/sync.runtime_nanotime", "internal/sync.runtime_SemacquireMutex", "sync/atomic.AddInt32", "(*internal/sync.Mutex).Unlock", "internal/race.ReleaseMerge", "(*internal/sync.Mutex).unlockSlow", "internal/sync.fatal", "internal/sync.runtime_Semrelease", "sync/atomic.StoreUint32"], unfollowed := true, recurses := true, named := ["math/bits.deBruijn64tab"], apart := false, laid := [("math/bits.deBruijn64tab", laid_math_bits_deBruijn64tab)], narrowed := true }
def WeighNobodyUptoSaid : Prop := weighNobodyUptoRow.holds Tryd.pinned (OpenSpec.upto weighNobodySpec)

/-- 'dendronlaw14.WeighPairs', WHERE WHAT IT READS IS OF BULK AT MOST 1048576: true; the input reads as it did. -/
def weighPairsUptoRow : OpenClaim := { program := "ytgpaohcnnggepabdoor", sum := "e6ad7a417ef70da8bb04b2315fdd401e370fdb795364016bd397db18742be530", func := "dendron/dendronlaw14.WeighPairs", spec := "weighPairs", inPlace := ["sync/atomic.LoadUint32", "(*internal/sync.Mutex).Lock", "internal/race.Disable", "sync/atomic.CompareAndSwapInt32", "internal/race.Enable", "internal/race.Acquire", "(*internal/sync.Mutex).lockSlow", "internal/sync.runtime_canSpin", "internal/sync.runtime_doSpin", "internal/sync.throw", "internal/sync.runtime_nanotime", "internal/sync.runtime_SemacquireMutex", "sync/atomic.AddInt32", "(*internal/sync.Mutex).Unlock", "internal/race.ReleaseMerge", "(*internal/sync.Mutex).unlockSlow", "internal/sync.fatal", "internal/sync.runtime_Semrelease", "sync/atomic.StoreUint32"], unfollowed := true, recurses := true, named := ["math/bits.deBruijn64tab"], apart := false, laid := [("math/bits.deBruijn64tab", laid_math_bits_deBruijn64tab)], narrowed := true }
def WeighPairsUptoSaid : Prop := weighPairsUptoRow.holds Tryd.pinned (OpenSpec.upto weighPairsSpec)

/-- 'dendronlaw14.WeighNeeds', WHERE WHAT IT READS IS OF BULK AT MOST 1048576: true; the input reads as it did. -/
def weighNeedsUptoRow : OpenClaim := { program := "ytgpaohcnnggepabdoor", sum := "e6ad7a417ef70da8bb04b2315fdd401e370fdb795364016bd397db18742be530", func := "dendron/dendronlaw14.WeighNeeds", spec := "weighNeeds", inPlace := ["sync/atomic.LoadUint32", "(*internal/sync.Mutex).Lock", "internal/race.Disable", "sync/atomic.CompareAndSwapInt32", "internal/race.Enable", "internal/race.Acquire", "(*internal/sync.Mutex).lockSlow", "internal/sync.runtime_canSpin", "internal/sync.runtime_doSpin", "internal/sync.throw", "internal/sync.runtime_nanotime", "internal/sync.runtime_SemacquireMutex", "sync/atomic.AddInt32", "(*internal/sync.Mutex).Unlock", "internal/race.ReleaseMerge", "(*internal/sync.Mutex).unlockSlow", "internal/sync.fatal", "internal/sync.runtime_Semrelease", "sync/atomic.StoreUint32"], unfollowed := true, recurses := true, named := ["math/bits.deBruijn64tab"], apart := false, laid := [("math/bits.deBruijn64tab", laid_math_bits_deBruijn64tab)], narrowed := true }
def WeighNeedsUptoSaid : Prop := weighNeedsUptoRow.holds Tryd.pinned (OpenSpec.upto weighNeedsSpec)

/-- 'dendronlaw14.WeighAll', WHERE WHAT IT READS IS OF BULK AT MOST 1048576: true; the input reads as it did. -/
def weighAllUptoRow : OpenClaim := { program := "ytgpaohcnnggepabdoor", sum := "e6ad7a417ef70da8bb04b2315fdd401e370fdb795364016bd397db18742be530", func := "dendron/dendronlaw14.WeighAll", spec := "weighAll", inPlace := ["sync/atomic.LoadUint32", "(*internal/sync.Mutex).Lock", "internal/race.Disable", "sync/atomic.CompareAndSwapInt32", "internal/race.Enable", "internal/race.Acquire", "(*internal/sync.Mutex).lockSlow", "internal/sync.runtime_canSpin", "internal/sync.runtime_doSpin", "internal/sync.throw", "internal/sync.runtime_nanotime", "internal/sync.runtime_SemacquireMutex", "sync/atomic.AddInt32", "(*internal/sync.Mutex).Unlock", "internal/race.ReleaseMerge", "(*internal/sync.Mutex).unlockSlow", "internal/sync.fatal", "internal/sync.runtime_Semrelease", "sync/atomic.StoreUint32"], unfollowed := true, recurses := true, named := ["math/bits.deBruijn64tab"], apart := false, laid := [("math/bits.deBruijn64tab", laid_math_bits_deBruijn64tab)], narrowed := true }
def WeighAllUptoSaid : Prop := weighAllUptoRow.holds Tryd.pinned (OpenSpec.upto weighAllSpec)

/-- 'dendronlaw19.GameAlikes', WHERE WHAT IT READS IS OF BULK AT MOST 1048576: true; the input reads as it did. -/
def gameAlikesUptoRow : OpenClaim := { program := "ytgpaohcnnggepabdoor", sum := "e6ad7a417ef70da8bb04b2315fdd401e370fdb795364016bd397db18742be530", func := "dendron/dendronlaw19.GameAlikes", spec := "gameAlikes", inPlace := ["sync/atomic.LoadUint32", "(*internal/sync.Mutex).Lock", "internal/race.Disable", "sync/atomic.CompareAndSwapInt32", "internal/race.Enable", "internal/race.Acquire", "(*internal/sync.Mutex).lockSlow", "internal/sync.runtime_canSpin", "internal/sync.runtime_doSpin", "internal/sync.throw", "internal/sync.runtime_nanotime", "internal/sync.runtime_SemacquireMutex", "sync/atomic.AddInt32", "(*internal/sync.Mutex).Unlock", "internal/race.ReleaseMerge", "(*internal/sync.Mutex).unlockSlow", "internal/sync.fatal", "internal/sync.runtime_Semrelease", "sync/atomic.StoreUint32"], unfollowed := true, recurses := true, named := ["math/bits.deBruijn64tab"], apart := false, laid := [("math/bits.deBruijn64tab", laid_math_bits_deBruijn64tab)], narrowed := true }
def GameAlikesUptoSaid : Prop := gameAlikesUptoRow.holds Tryd.pinned (OpenSpec.upto gameAlikesSpec)

/-- 'dendronlaw19.GameNulls', WHERE WHAT IT READS IS OF BULK AT MOST 1048576: true; the input reads as it did. -/
def gameNullsUptoRow : OpenClaim := { program := "ytgpaohcnnggepabdoor", sum := "e6ad7a417ef70da8bb04b2315fdd401e370fdb795364016bd397db18742be530", func := "dendron/dendronlaw19.GameNulls", spec := "gameNulls", inPlace := ["sync/atomic.LoadUint32", "(*internal/sync.Mutex).Lock", "internal/race.Disable", "sync/atomic.CompareAndSwapInt32", "internal/race.Enable", "internal/race.Acquire", "(*internal/sync.Mutex).lockSlow", "internal/sync.runtime_canSpin", "internal/sync.runtime_doSpin", "internal/sync.throw", "internal/sync.runtime_nanotime", "internal/sync.runtime_SemacquireMutex", "sync/atomic.AddInt32", "(*internal/sync.Mutex).Unlock", "internal/race.ReleaseMerge", "(*internal/sync.Mutex).unlockSlow", "internal/sync.fatal", "internal/sync.runtime_Semrelease", "sync/atomic.StoreUint32"], unfollowed := true, recurses := true, named := ["math/bits.deBruijn64tab"], apart := false, laid := [("math/bits.deBruijn64tab", laid_math_bits_deBruijn64tab)], narrowed := true }
def GameNullsUptoSaid : Prop := gameNullsUptoRow.holds Tryd.pinned (OpenSpec.upto gameNullsSpec)

/-- 'dendronlaw19.GameSums', WHERE WHAT IT READS IS OF BULK AT MOST 1048576: true; the input reads as it did. -/
def gameSumsUptoRow : OpenClaim := { program := "ytgpaohcnnggepabdoor", sum := "e6ad7a417ef70da8bb04b2315fdd401e370fdb795364016bd397db18742be530", func := "dendron/dendronlaw19.GameSums", spec := "gameSums", inPlace := ["sync/atomic.LoadUint32", "(*internal/sync.Mutex).Lock", "internal/race.Disable", "sync/atomic.CompareAndSwapInt32", "internal/race.Enable", "internal/race.Acquire", "(*internal/sync.Mutex).lockSlow", "internal/sync.runtime_canSpin", "internal/sync.runtime_doSpin", "internal/sync.throw", "internal/sync.runtime_nanotime", "internal/sync.runtime_SemacquireMutex", "sync/atomic.AddInt32", "(*internal/sync.Mutex).Unlock", "internal/race.ReleaseMerge", "(*internal/sync.Mutex).unlockSlow", "internal/sync.fatal", "internal/sync.runtime_Semrelease", "sync/atomic.StoreUint32"], unfollowed := true, recurses := true, named := ["math/bits.deBruijn64tab"], apart := false, laid := [("math/bits.deBruijn64tab", laid_math_bits_deBruijn64tab)], narrowed := true }
def GameSumsUptoSaid : Prop := gameSumsUptoRow.holds Tryd.pinned (OpenSpec.upto gameSumsSpec)

/-- 'dendronlaw22.OwenQuotients', WHERE WHAT IT READS IS OF BULK AT MOST 1048576: true; the input reads as it did. -/
def owenQuotientsUptoRow : OpenClaim := { program := "ytgpaohcnnggepabdoor", sum := "e6ad7a417ef70da8bb04b2315fdd401e370fdb795364016bd397db18742be530", func := "dendron/dendronlaw22.OwenQuotients", spec := "owenQuotients", named := ["math/bits.deBruijn64tab"], apart := false, laid := [("math/bits.deBruijn64tab", laid_math_bits_deBruijn64tab)], narrowed := true }
def OwenQuotientsUptoSaid : Prop := owenQuotientsUptoRow.holds Tryd.pinned (OpenSpec.upto owenQuotientsSpec)

/-- 'dendronlaw21.OrdersAdds', WHERE WHAT IT READS IS OF BULK AT MOST 1048576: true; the input reads as it did. -/
def ordersAddsUptoRow : OpenClaim := { program := "ytgpaohcnnggepabdoor", sum := "e6ad7a417ef70da8bb04b2315fdd401e370fdb795364016bd397db18742be530", func := "dendron/dendronlaw21.OrdersAdds", spec := "ordersAdds", named := ["math/bits.deBruijn64tab"], apart := false, laid := [("math/bits.deBruijn64tab", laid_math_bits_deBruijn64tab)], narrowed := true }
def OrdersAddsUptoSaid : Prop := ordersAddsUptoRow.holds Tryd.pinned (OpenSpec.upto ordersAddsSpec)

end Rows
end Go.Proofs.YtgpaohcnnggepabDoor
