/- The table of math/bits, and what the natives answer. -/
import Derived.Test.YtgigaimaaijalaaDoorTz
import Derived.Test.YtgigaimaaijalaaDoorTie
import Derived.Lib.LaidTab
import Derived.OpenShut
import Derived.ProofKit
import Derived.Deep.DeepHandedRow
import Derived.Below
set_option linter.unusedSimpArgs false
set_option linter.unusedVariables false
namespace Go.Proofs.YtgigaimaaijalaaDoor
open Go Go.Proofs.R
theorem gTab : Tryd.prog.globalNamed "math/bits.deBruijn64tab" = some 0 := by kernel_rfl
theorem gTabType : (Tryd.prog.globals[0]?).map (·.type) = some 145 := by kernel_rfl
theorem gTabCells : Tryd.prog.cellsOf 145 = 64 := by kernel_rfl
theorem gTabCell1 : Tryd.prog.cellsOf 5 = 1 := by kernel_rfl
theorem own : ownKnob Tryd.prog.godebug = none := by kernel_rfl
def L0 : List (String × DataW Unit) := [("math/bits.deBruijn64tab", Rows.laid_math_bits_deBruijn64tab)]
theorem tabIs {W : World} (h : laidMet Tryd.prog L0 W) : Lib.TabIs Tryd.prog W "math/bits.deBruijn64tab" .u8 dbTab :=
  Lib.tabIs_of_head (rest := []) gTab gTabType Tryd.underlying145 Tryd.underlying5 gTabCell1 gTabCells h
theorem tab_obj {W : World} (h : laidMet Tryd.prog L0 W) : ∃ o, W.heap[(0 : Nat)]? = some o ∧ TabObj o := by
  have hc : ∀ i, i < 64 → W.cell? ⟨0, i, none⟩ = some (.int .u8 (dbTab.getD i 0)) := fun i hi => (tabIs h).cell gTab i hi
  cases ho : W.heap[(0 : Nat)]? with
  | none =>
    have := hc 0 (by omega)
    simp [World.cell?, ho] at this
  | some o =>
    refine ⟨o, rfl, fun w hw i hi => ?_⟩
    have := hc i hi
    simp only [World.cell?, ho, hw] at this ⊢
    exact this
/-- What natives answer. -/
def nv : R.Nv := fun f args μ =>
  if f = F.bits_TrailingZeros64 then match args, μ with
    | [.d (.int .u64 x)], [] => if 0 < x ∧ x < 18446744073709551616 then some (.d (.int .i64 (tzN 64 x.toNat : Int)), []) else none
    | _, _ => none
  else none
theorem tzOk : TzOk nv := by
  intro x h0 h1
  obtain ⟨a, b, c⟩ := tzN_ok 64 x h0 (by rw [show (2 : Nat) ^ 64 = 18446744073709551616 from by decide]; exact h1)
  refine ⟨tzN 64 x, by omega, b, c, ?_⟩
  simp only [nv, u, if_true]
  rw [if_pos (by omega)]
  simp
set_option maxRecDepth 100000 in
theorem prog_ok {o : Obj} (ho : TabObj o) : ProgOK Tryd.prog [(0, o)] ip nv where
  code f fn h := tab_ok _ (aget_mem h)
  nat f args μ r μr _ h := by
    unfold nv at h
    split at h
    · rename_i hf
      subst hf
      split at h
      · split at h
        · rename_i x hx
          cases h
          have := tz_native ho x.toNat (by omega) (by omega)
          rw [show u x.toNat = .int .u64 x by simp only [u]; congr 1; omega] at this
          exact this
        · cases h
      · cases h
    · cases h
/-- A world for the witness: the settled one, the table's block holding what its initialiser lays. -/
noncomputable def laidWorld (os : Os) : World :=
  { World.holding Tryd.prog os ⟨#[], #[], []⟩ with heap := (World.holding Tryd.prog os ⟨#[], #[], []⟩).heap.modify 0 fun
      | .cells _ t frozen => .cells (dbTab.map (Value.int .u8)).toArray t frozen
      | o => o }
end Go.Proofs.YtgigaimaaijalaaDoor
