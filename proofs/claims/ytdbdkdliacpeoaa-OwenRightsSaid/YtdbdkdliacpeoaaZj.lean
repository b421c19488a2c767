/- OwenRights: for every list and number the law returns true. -/
import Derived.Test.YtdbdkdliacpeoaaRows
import Derived.Test.YtdbdkdliacpeoaaZb
import Derived.WalkKit
import Derived.ProofKit
import Derived.OpenShut
import Derived.ShutString
import Derived.ChangeOld
import Derived.Below
import Derived.Carry
import Derived.SizedLaws
namespace Go.Proofs.Ytdbdkdliacpeoaa
open Go.Proofs.R
def nv : R.Nv := fun _ _ _ => none
theorem prog_ok : ProgOK Try.prog [] ip nv := ⟨fun f fn h => tab_ok _ (aget_mem h), fun f args μ r μr _ h => by cases h⟩
end Go.Proofs.Ytdbdkdliacpeoaa
namespace Go.Proofs.Ytdbdkdliacpeoaa.owenRights
open Go.ChangeShapes Go.WideShapes Go.ChangeAt Go.RowKit Go.Proofs.R
set_option linter.unusedVariables false
theorem own : ownKnob Try.prog.godebug = none := by kernel_rfl
theorem laidOut : laidOutB Try.prog = true := by kernel_rfl
set_option maxRecDepth 100000 in
theorem lifted (os : Os) (started : os.Started) (H : Type) (enc : TypeId × Value → H) :
    ReturnsInHanded {} Try.checked os 4 .any (Rows.owenRightsSpec.pre6 enc Try.prog Try.f4 Rows.owenRightsRow.domain false) (Rows.owenRightsSpec.post enc Try.prog Try.f4 false true false false) := by
  refine returnsInHanded_of_change_sized (C := Try.checked) own started (by kernel_rfl) Try.func4
    (ChangeSpec.witness6 (enc := enc) (C := Try.checked) false ⟨#[], #[.slice none 0 0, .int .i64 0], []⟩ 8 (by kernel_rfl) (by kernel_rfl) (by kernel_rfl) (by kernel_rfl)) ?_
  intro W base args ds gs before hval0 hW hcnd hsz0 _
  have hval : ∀ (j : Nat) t v, Try.f4.params[j]? = some t → args[j]? = some v → Value.okWide Try.prog W .any base t v := hval0
  have hW' := hW
  obtain ⟨p, q, hA0, hV, rfl, hfz, hnd⟩ := hW
  have hA : DataW.TrodAll enc Try.prog W 0 (fun _ => true) true Try.f4.params.toList args.toList ds p := hA0
  rw [Try.params4] at hA hval
  obtain ⟨v0, vs0, d0, ds0, p0, q0, hargs, rfl, rfl, h0, r0⟩ := trodAll_cons hA
  obtain ⟨v1, vs1, d1, ds1, p1, q1, rfl, rfl, rfl, h1, r1⟩ := trodAll_cons r0
  obtain ⟨rfl, rfl, rfl⟩ := trodAll_nil r1
  obtain rfl : args = #[v0, v1] := by cases args; simp_all
  obtain ⟨rfl, rfl⟩ := trodVars_none hV
  obtain ⟨a0, len0, cap0, rfl⟩ := okWide_slice Try.underlying22 (hval 0 22 v0 rfl rfl)
  obtain ⟨a1, rfl, rfl, rfl, w1⟩ := open_int Try.underlying3 (hval 1 3 v1 rfl rfl) h1
  have lt0 : ∀ x ∈ p0, x.block < W.heap.size := by obtain ⟨m, hm⟩ := h0; exact DataW.trod_lt m _ _ _ hm
  obtain ⟨l0, rd0, hl0, -⟩ := arg_list (Gd.all (H := H)) trivial (TV_list Try.underlying22 (by kernel_rfl) (TV_int Try.underlying3)) 5 (by kernel_rfl) (by simp [Value.cells]) h0
  clear hA0 hval0 hsz0
  refine (R.law_calls (ds := [.sl 1 (el l0), .int .i64 a1]) (ys := [.slice a0 len0 cap0, .int .i64 a1]) (w := W) prog_ok (fun p hp => by cases hp) (owenRights_ev l0 a1 hl0) rfl (fun i d h => by
    match i, h with
    | 0, h => simp at h; subst h; exact ⟨_, rfl, rd0⟩
    | 1, h => simp at h; subst h; exact ⟨_, rfl, rfl⟩
    | i + 2, h => simp at h)).mono fun e W' ⟨⟨y, he, hy⟩, bel⟩ => ?_
  obtain rfl : y = .bool true := hy
  subst he
  exact ⟨_, rfl, _, _, _, [], _, [], hW', trodAll_mk1 (shut_bool Try.underlying4 _), (trodAll_cons_mk (Below.trod laidOut (by kernel_rfl) (of_decide_eq_true (by kernel_rfl)) h0 bel lt0) (trodAll_cons_mk (shut_int Try.underlying3 w1) trodAll_mk0)), rfl, bel.frame _, fun h => by cases h⟩
theorem over : Rows.owenRightsRow.holds Try.pinned (OpenSpec.ofChange Rows.owenRightsSpec) :=
  OpenClaim.holds_of_wide 4 Try.f4 rfl rfl rfl rfl rfl rfl rfl ⟨rfl, rfl, rfl, rfl, rfl⟩ rfl rfl rfl rfl rfl (by kernel_rfl) Try.func4 (by kernel_rfl)
    (of_decide_eq_true (by kernel_rfl)) (by unfold Func.isWrapper; first | (rw [if_pos (by decide +kernel)]; kernel_rfl) | (rw [if_neg (by decide +kernel)]; exact ⟨rfl, rfl⟩))
    (fun os started H enc _ => lifted os started H enc)
theorem proved : Rows.OwenRightsSaid := over
end Go.Proofs.Ytdbdkdliacpeoaa.owenRights
namespace Go.Proofs.Ytdbdkdliacpeoaa
/-- The row, under a short name, for the claim. -/
theorem owenRights_holds : Rows.OwenRightsSaid := owenRights.proved
end Go.Proofs.Ytdbdkdliacpeoaa
