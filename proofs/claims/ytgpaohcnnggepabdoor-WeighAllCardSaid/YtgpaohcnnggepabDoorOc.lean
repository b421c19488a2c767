/- A number in its form is right. -/
import Derived.Test.YtgpaohcnnggepabDoorOb
import Derived.Test.YtgpaohcnnggepabDoorRd
set_option linter.unusedSimpArgs false
set_option linter.unusedVariables false
namespace Go.Proofs.YtgpaohcnnggepabDoor
open Go Go.Proofs.R
set_option maxRecDepth 10000
@[simp high] theorem set_rq {x y z : D} {r : RQ} : setAt [x, y, z] 0 r.c = r.c := rfl
@[simp high] theorem set_rq2 {r s : RQ} : setAt r.c 0 s.c = s.c := rfl
@[simp high] theorem take_rq {r : RQ} : r.c.take 3 = r.c := rfl
theorem ixq_ok {l : List RQ} {k : Nat} (h : ∀ r ∈ l, r.ok k) {i : Nat} (hi : i < l.length) : (ix l i).ok k := by
  have : ix l i = l[i] := by simp [ix, hi]
  rw [this]; exact h _ (List.getElem_mem hi)
section
variable {nv : R.Nv}
theorem rright_c (hz : TzOk nv) (q : Rat) {k : Nat} (h : Bq k q) (hk : k ≤ 1073741824) : EX ip nv (.call F.ratio_Right [.d (.ag (can q).c)] []) = some (.ret (.d (.bool true)) []) := by
  rw [S_call ratio_Right.ip rfl]
  obtain ⟨a1, a2⟩ := len_of h
  have w := wRight_ev (nv := nv) (decide (q.num < 0)) (dig q.num.natAbs) (by omega)
  have e : (rightN (dig q.num.natAbs) && (!(dig q.num.natAbs).isEmpty || !decide (q.num < 0))) = true := by
    rw [rightN_dig]
    by_cases h0 : q.num < 0
    · have : dig q.num.natAbs ≠ [] := by rw [ne_eq, dig_nil]; omega
      simp [this, List.isEmpty_iff]
    · simp [h0]
  rw [e] at w
  have d := nright_ev (nv := nv) (dig q.den) (by omega)
  rw [rightN_dig] at d
  have g := gcd_ev hz (dig q.num.natAbs) (dig q.den) (dig_rw (by omega)) (dig_rw (by omega)) (by omega) (by omega)
  rw [lv_dig, lv_dig, q.reduced, dig_one] at g
  have o := one_ev (nv := nv)
  have c := cmp_ev (nv := nv) [1] [1] ⟨by simp, by simp⟩ ⟨by simp, by simp⟩
  have hne : ¬ dig q.den = [] := by rw [dig_nil]; exact q.den_nz
  simp only [RQ.c, can]
  generalize dig q.den = dd at *
  generalize dig q.num.natAbs = nn at *
  simp (disch := omega) [ratio_Right, w, d, hne, g, o, c, cmpI]
theorem i_shrN {s i : Nat} (hi : i ≤ 62) (hs : s < 9223372036854775808) : vBin .shr (some (.d (.int .i64 (s : Int)))) (some (.d (.int .i64 (i : Int)))) = some (.d (.int .i64 ((s / 2 ^ i : Nat) : Int))) := by
  rw [vBin_shr, if_neg (by omega)]
  have : min ((i : Int)).toNat IntKind.i64.bits = i := by
    have : IntKind.i64.bits = 64 := rfl
    omega
  rw [this]
  have e : (2 : Int) ^ i = ((2 ^ i : Nat) : Int) := by simp
  rw [e, Int.fdiv_eq_ediv_of_nonneg _ (Int.natCast_nonneg _)]; rfl
end
end Go.Proofs.YtgpaohcnnggepabDoor
