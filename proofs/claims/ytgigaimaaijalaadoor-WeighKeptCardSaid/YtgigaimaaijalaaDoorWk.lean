/- The statements' own functions of layer 14: fact, quotient, is, awake. -/
import Derived.Test.YtgigaimaaijalaaDoorWn
import Derived.Test.YtgigaimaaijalaaDoorOc
import Derived.Test.YtgigaimaaijalaaDoorOd
set_option linter.unusedSimpArgs false
set_option linter.unusedVariables false
namespace Go.Proofs.YtgigaimaaijalaaDoor
open Go Go.Proofs.R
set_option maxRecDepth 10000
/-- The product of all numbers up to n, as a rational number. -/
def fq (n : Nat) : Rat := ((fac n : Nat) : Rat)
theorem fq_succ (n : Nat) : fq (n + 1) = fq n * (((n : Int) + 1 : Int) : Rat) := by
  unfold fq
  rw [fac, Rat.natCast_mul]
  congr 1
theorem fq_b {n : Nat} (h : n ≤ 64) : Bq 10 (fq n) := ⟨by unfold fq; rw [Rat.num_natCast, Int.natAbs_natCast]; exact fac_pw h, by unfold fq; rw [Rat.den_natCast]; decide⟩
theorem fq_ne (n : Nat) : fq n ≠ 0 := by
  have := fac_pos n
  unfold fq
  intro h
  have : (fac n : Nat) = 0 := by exact_mod_cast h
  omega
theorem of_b {n : Int} (h : n.natAbs < 18446744073709551616) : Bq 2 (n : Rat) := ⟨by rw [Rat.num_intCast]; simp only [pw]; omega, by rw [Rat.den_intCast]; decide⟩
theorem wq_fq (a b c : Nat) : wq a b c = fq a * fq b / fq c := by
  unfold wq fq
  rw [Rat.divInt_eq_div]
  push_cast
  rfl
section
variable {nv : R.Nv}
theorem fact14_ev (hz : TzOk nv) (n : Nat) (hn : n ≤ 64) : EX ip nv (.call F.dendronlaw14_fact [.d (.int .i64 (n : Int))] []) = some (.ret (.d (.ag (can (fq n)).c)) []) := by
  rw [S_call dendronlaw14_fact.ip rfl]
  have o := rone_ev (nv := nv)
  obtain ⟨_, _, _, hr, -, rfl, rfl, rfl⟩ : ∃ z e μ, EX ip nv (.code (.loop [] [] dendronlaw14_fact.b0) [(0, .d (.int .i64 (n : Int))), (2, .ptr 2 0), (3, .ptr 3 0), (4, .d (.int .i64 1))] [(2, ⟨0, true, [.bool false, .sl 1 [], .sl 1 []]⟩), (3, ⟨0, true, (can 1).c⟩)]) = some (.st z e μ) ∧ z ≠ .normal ∧
      z = .exit 0 ∧ e = [(0, .d (.int .i64 (n : Int))), (2, .ptr 2 0), (3, .ptr 3 0), (4, .d (.int .i64 ((n : Int) + 1))), (8, .d (.bool false))] ∧ μ = [(2, ⟨0, true, [.bool false, .sl 1 [], .sl 1 []]⟩), (3, ⟨0, true, (can (fq n)).c⟩)] := by
    refine loop_n n (fun i e μ => ∃ q : RQ, q = can (fq i) ∧ e = [(0, .d (.int .i64 (n : Int))), (2, .ptr 2 0), (3, .ptr 3 0), (4, .d (.int .i64 ((i : Int) + 1)))] ∧ μ = [(2, ⟨0, true, [.bool false, .sl 1 [], .sl 1 []]⟩), (3, ⟨0, true, q.c⟩)]) ?_ ?_ ⟨_, rfl, rfl, rfl⟩
    · rintro i e μ hi ⟨q, hq, rfl, rfl⟩
      have of := rof_ev (nv := nv) ((i : Int) + 1) (by omega) (by omega)
      have ml := rmul_ev hz (can (fq i)) (can (((i : Int) + 1 : Int) : Rat)) (can_ok (fq_b (by omega))) (can_ok (of_b (by omega))) (by omega) (by omega) (by omega)
      rw [can_v, can_v, ← fq_succ, ← hq] at ml
      refine .inl ⟨_, _, ?_, can (fq (i + 1)), rfl, rfl, rfl⟩
      clear hq
      generalize can (fq (i + 1)) = q1 at *
      generalize can (((i : Int) + 1 : Int) : Rat) = q2 at *
      have h1 : (i : Int) + 1 ≤ (n : Int) := by omega
      simp (disch := omega) [dendronlaw14_fact.b0, h1, of, ml]
    · rintro e μ ⟨q, hq, rfl, rfl⟩
      subst hq
      have h1 : ¬ (n : Int) + 1 ≤ (n : Int) := by omega
      exact ⟨.exit 0, _, _, by simp [dendronlaw14_fact.b0, h1] <;> first | rfl | exact ⟨rfl, rfl⟩, by simp, rfl, rfl, rfl⟩
  generalize can (fq n) = q at *
  generalize can 1 = q1 at *
  simp (disch := omega) [dendronlaw14_fact, o, hr]
end
theorem awake14_ev : EX ip nv1 (.call F.dendronlaw14_awake [] []) = some (.ret (.d (.bool true)) []) := by
  rw [S_call dendronlaw14_awake.ip rfl]
  have n := new_ev
  have w := weightT_ev (c := c0) (.inl rfl) 1 3 (by omega) (by omega)
  obtain ⟨cc, hc, nd⟩ := needT_ev (c := c1) (.inr rfl) 1 1 (by omega)
  have f1 := rfrac_ev tzOk1 1 6 (by omega) (by omega) (by omega) (by omega)
  have f2 := rfrac_ev tzOk1 1 2 (by omega) (by omega) (by omega) (by omega)
  have f3 := rfrac_ev tzOk1 (-1) 2 (by omega) (by omega) (by omega) (by omega)
  have b1 : Bq 1 (Rat.divInt 1 6) := Bq.divI' (by simp [pw]) (by simp [pw]) (by omega)
  have b2 : Bq 1 (Rat.divInt 1 2) := Bq.divI' (by simp [pw]) (by simp [pw]) (by omega)
  have b3 : Bq 1 (Rat.divInt (-1) 2) := Bq.divI' (by simp [pw]) (by simp [pw]) (by omega)
  have e1 : wq 1 (3 - 1 - 1) 3 = Rat.divInt 1 6 := by decide +kernel
  have e2 : nx 1 1 = Rat.divInt 1 2 := by decide +kernel
  have e3 : ny 1 1 = Rat.divInt (-1) 2 := by decide +kernel
  rw [e1] at w
  rw [e2, e3] at nd
  have s1 := rsame_ev tzOk1 _ _ (can_ok b1) (can_ok b1) (by omega) (by omega) (by omega)
  have s2 := rsame_ev tzOk1 _ _ (can_ok b2) (can_ok b2) (by omega) (by omega) (by omega)
  have s3 := rsame_ev tzOk1 _ _ (can_ok b3) (can_ok b3) (by omega) (by omega) (by omega)
  simp only [decide_true] at s1 s2 s3
  clear e1 e2 e3 b1 b2 b3
  generalize can (Rat.divInt 1 6) = q1 at *
  generalize can (Rat.divInt 1 2) = q2 at *
  generalize can (Rat.divInt (-1) 2) = q3 at *
  generalize c0 = cz at *
  generalize c1 = co at *
  have h1 : ((1 : Nat) : Int) = 1 := rfl
  have h3 : ((3 : Nat) : Int) = 3 := rfl
  rw [h1, h3] at w
  rw [h1] at nd
  simp (disch := omega) [dendronlaw14_awake, n, w, nd, f1, f2, f3, s1, s2, s3]
end Go.Proofs.YtgigaimaaijalaaDoor
