/- OrdersAll: for every number the law returns true. -/
import Derived.Test.YtdbdkdliacpeoaaRows
import Derived.Test.YtdbdkdliacpeoaaYa
import Derived.WalkKit
import Derived.ProofKit
import Derived.OpenShut
import Derived.ShutString
import Derived.ChangeOld
import Derived.Below
import Derived.Carry
import Derived.SizedLaws
namespace Go.Proofs.Ytdbdkdliacpeoaa
open Go.Proofs.R
def nv : R.Nv := fun _ _ _ => none
theorem prog_ok : ProgOK Try.prog [] ip nv := ⟨fun f fn h => tab_ok _ (aget_mem h), fun f args μ r μr _ h => by cases h⟩
end Go.Proofs.Ytdbdkdliacpeoaa
namespace Go.Proofs.Ytdbdkdliacpeoaa.ordersAll
open Go.ChangeShapes Go.WideShapes Go.ChangeAt Go.RowKit Go.Proofs.R
set_option linter.unusedVariables false
theorem own : ownKnob Try.prog.godebug = none := by kernel_rfl
theorem laidOut : laidOutB Try.prog = true := by kernel_rfl
set_option maxRecDepth 100000 in
theorem lifted (os : Os) (started : os.Started) (H : Type) (enc : TypeId × Value → H) :
    ReturnsInHanded {} Try.checked os 6 .any (Rows.ordersAllSpec.pre6 enc Try.prog Try.f6 Rows.ordersAllRow.domain false) (Rows.ordersAllSpec.post enc Try.prog Try.f6 false true false false) := by
  refine returnsInHanded_of_change_sized (C := Try.checked) own started (by kernel_rfl) Try.func6
    (ChangeSpec.witness6 (enc := enc) (C := Try.checked) false ⟨#[], #[.int .i64 0], []⟩ 8 (by kernel_rfl) (by kernel_rfl) (by kernel_rfl) (by kernel_rfl)) ?_
  intro W base args ds gs before hval0 hW hcnd hsz0 _
  have hval : ∀ (j : Nat) t v, Try.f6.params[j]? = some t → args[j]? = some v → Value.okWide Try.prog W .any base t v := hval0
  have hW' := hW
  obtain ⟨p, q, hA0, hV, rfl, hfz, hnd⟩ := hW
  have hA : DataW.TrodAll enc Try.prog W 0 (fun _ => true) true Try.f6.params.toList args.toList ds p := hA0
  rw [Try.params6] at hA hval
  obtain ⟨v0, vs0, d0, ds0, p0, q0, hargs, rfl, rfl, h0, r0⟩ := trodAll_cons hA
  obtain ⟨rfl, rfl, rfl⟩ := trodAll_nil r0
  obtain rfl : args = #[v0] := by cases args; simp_all
  obtain ⟨rfl, rfl⟩ := trodVars_none hV
  obtain ⟨a0, rfl, rfl, rfl, w0⟩ := open_int Try.underlying3 (hval 0 3 v0 rfl rfl) h0
  clear hA0 hval0 hsz0
  refine (R.law_calls (ds := [.int .i64 a0]) (ys := [.int .i64 a0]) (w := W) prog_ok (fun p hp => by cases hp) (ordersAll_ev a0) rfl (fun i d h => by
    match i, h with
    | 0, h => simp at h; subst h; exact ⟨_, rfl, rfl⟩
    | i + 1, h => simp at h)).mono fun e W' ⟨⟨y, he, hy⟩, bel⟩ => ?_
  obtain rfl : y = .bool true := hy
  subst he
  exact ⟨_, rfl, _, _, _, [], _, [], hW', trodAll_mk1 (shut_bool Try.underlying4 _), (trodAll_cons_mk (shut_int Try.underlying3 w0) trodAll_mk0), rfl, bel.frame _, fun h => by cases h⟩
theorem over : Rows.ordersAllRow.holds Try.pinned (OpenSpec.ofChange Rows.ordersAllSpec) :=
  OpenClaim.holds_of_wide 6 Try.f6 rfl rfl rfl rfl rfl rfl rfl ⟨rfl, rfl, rfl, rfl, rfl⟩ rfl rfl rfl rfl rfl (by kernel_rfl) Try.func6 (by kernel_rfl)
    (of_decide_eq_true (by kernel_rfl)) (by unfold Func.isWrapper; first | (rw [if_pos (by decide +kernel)]; kernel_rfl) | (rw [if_neg (by decide +kernel)]; exact ⟨rfl, rfl⟩))
    (fun os started H enc _ => lifted os started H enc)
theorem proved : Rows.OrdersAllSaid := over
end Go.Proofs.Ytdbdkdliacpeoaa.ordersAll
namespace Go.Proofs.Ytdbdkdliacpeoaa
/-- The row, under a short name, for the claim. -/
theorem ordersAll_holds : Rows.OrdersAllSaid := ordersAll.proved
end Go.Proofs.Ytdbdkdliacpeoaa
