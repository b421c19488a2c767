/- More natives: what is answered stays. -/
import Derived.Test.YtnmbpainnkdonaaGreatDoorWh
import Derived.Test.YtnmbpainnkdonaaGreatDoorMa
set_option linter.unusedSimpArgs false
set_option linter.unusedVariables false
namespace Go.Proofs.YtnmbpainnkdonaaGreatDoor
open Go Go.Proofs.R
theorem step_nat {i : R.Ip} {a b : R.Nv} (h : ∀ f args μ r, a f args μ = some r → b f args μ = some r) {g : R.Task → Option R.Out} {t : R.Task} {o : R.Out} (hs : R.step i a g t = some o) : R.step i b g t = some o := by
  cases t with
  | code c e μ => exact hs
  | call f args μ =>
    simp only [R.step] at hs ⊢
    split at hs
    · exact hs
    · cases hf : a f args μ with
      | none => rw [hf] at hs; cases hs
      | some r =>
        rw [hf] at hs
        rw [h _ _ _ _ hf]
        exact hs
theorem ex_nat {i : R.Ip} {a b : R.Nv} (h : ∀ f args μ r, a f args μ = some r → b f args μ = some r) : ∀ (k : Nat) (t : R.Task) (o : R.Out), R.ex i a k t = some o → R.ex i b k t = some o
  | 0, _, _, hk => by simp [R.ex] at hk
  | k + 1, t, o, hk => by
    obtain ⟨l, h1, h2⟩ := Fini.step i a t (R.ex i a k) o hk
    exact step_nat h (h2 _ fun p hp => ex_nat h k p.1 p.2 (h1 p hp))
theorem EX_nat2 {i : R.Ip} {a b : R.Nv} (h : ∀ f args μ r, a f args μ = some r → b f args μ = some r) {t : R.Task} {o : R.Out} (hk : EX i a t = some o) : EX i b t = some o := by
  obtain ⟨k, hk⟩ := (EX_some i a).1 hk
  exact (EX_some i b).2 ⟨k, ex_nat h k t o hk⟩
theorem nv1_right (args : List V) (μ : Mem) : nv1 F.orders_Right args μ = none := by
  unfold nv1
  rw [if_neg (by decide)]
  unfold nv
  rw [if_neg (by decide)]
/-- What the table's native answers, both natives answer. -/
theorem upR {t : R.Task} {o : R.Out} (h : EX ip nv1 t = some o) : EX ip (nvR nv1) t = some o := by
  refine EX_nat2 (fun f args μ r hr => ?_) h
  by_cases c : f = F.orders_Right
  · subst c; rw [nv1_right] at hr; cases hr
  · rw [nvR_other c]; exact hr
theorem prog_ok12 {o : Obj} (ho : TabObj o) : ProgOK Tryz.prog [(0, o)] ip (nvR nv1) := prog_okR (prog_ok1 ho)
end Go.Proofs.YtnmbpainnkdonaaGreatDoor
