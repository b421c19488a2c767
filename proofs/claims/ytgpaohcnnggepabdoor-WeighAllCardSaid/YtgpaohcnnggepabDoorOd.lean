/- Division of rational numbers. -/
import Derived.Test.YtgpaohcnnggepabDoorOb
set_option linter.unusedSimpArgs false
set_option linter.unusedVariables false
namespace Go.Proofs.YtgpaohcnnggepabDoor
open Go Go.Proofs.R
set_option maxRecDepth 10000
section
variable {nv : R.Nv}
theorem rdiv_ev (hz : TzOk nv) (r s : RQ) {j k : Nat} (hr : r.ok j) (hs : s.ok k) (h1 : 1 ≤ j) (h2 : 1 ≤ k) (hk : j + k ≤ 1073741824) : EX ip nv (.call F.ratio_Div [.d (.ag r.c), .d (.ag s.c)] []) = some (.ret (if s.v = 0 then .tp [.d (.ag [.bool false, .sl 1 [], .sl 1 []]), .d (.int .i64 2)] else .tp [.d (.ag (can (r.v / s.v)).c), .d (.int .i64 0)]) []) := by
  rw [S_call ratio_Div.ip rfl]
  have iv := rinv_ev hz s hs h2 (by omega)
  by_cases h0 : s.v = 0
  · rw [if_pos h0] at iv ⊢
    simp only [RQ.c] at iv ⊢
    simp (disch := omega) [ratio_Div, iv]
  · rw [if_neg h0] at iv ⊢
    have mu := rmul_ev hz r (can (s.v)⁻¹) hr (can_ok (Bq.inv (Bq.v hs h2) h0)) h1 h2 hk
    rw [can_v, ← Rat.div_def] at mu
    generalize r.v / s.v = w at *
    generalize (s.v)⁻¹ = y at *
    simp only [RQ.c] at iv mu ⊢
    simp (disch := omega) [ratio_Div, iv, mu]
end
end Go.Proofs.YtgpaohcnnggepabDoor
