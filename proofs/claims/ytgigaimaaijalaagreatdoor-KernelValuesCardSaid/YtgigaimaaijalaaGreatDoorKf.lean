/- The distance of long numbers from a game. -/
import Derived.Test.YtgigaimaaijalaaGreatDoorXw
import Derived.Test.YtgigaimaaijalaaGreatDoorGa
import Derived.Test.YtgigaimaaijalaaGreatDoorZz
import Derived.Test.YtgigaimaaijalaaGreatDoorGc
set_option linter.unusedSimpArgs false
set_option linter.unusedVariables false
namespace Go.Proofs.YtgigaimaaijalaaGreatDoor
open Go Go.Proofs.R
set_option maxRecDepth 10000
theorem cnt_facts : ∀ n : Fin 6, ∀ s : Fin 32, 0 < s.val → s.val < 2 ^ n.val - 1 → cntN s n = cntN s 5 ∧ 1 ≤ cntN s n ∧ cntN s n < n := by decide +kernel
def dV (l x : List RQ) (s : Nat) : Nat → Rat
  | 0 => (ix l 0).v - (ix l s).v
  | i + 1 => if s.testBit i then dV l x s i + (ix x i).v else dV l x s i
def sV (l x : List RQ) (n : Nat) : Nat → Rat
  | 0 => 0
  | j + 1 => sV l x n j + kwt (cntN (j + 1) n) n * (dV l x (j + 1) n * dV l x (j + 1) n)
theorem dV_b {l x : List RQ} {b : Nat} (hb : 2 ≤ b) (hl : ∀ r ∈ l, r.ok 2) (hx : ∀ r ∈ x, r.ok b) {s : Nat} (hs : s < l.length) : ∀ i, i ≤ x.length → Bq (5 + (b + 1) * i) (dV l x s i)
  | 0, _ => Bq.sub (Bq.v (ixq_ok hl (by omega)) (by omega)) (Bq.v (ixq_ok hl hs) (by omega))
  | i + 1, h => by
    have ih := dV_b hb hl hx hs i (by omega)
    rw [dV]
    rw [Nat.mul_succ]
    split
    · exact (ih.add (Bq.v (ixq_ok hx (i := i) (by omega)) (by omega))).mono (by omega)
    · exact ih.mono (by omega)
theorem sV_b {l x : List RQ} {n : Nat} (hn : n ≤ 5) (hll : l.length = 2 ^ n) (hxl : x.length = n) {b : Nat} (hb2 : 2 ≤ b) (hb6 : b ≤ 100000) (hl : ∀ r ∈ l, r.ok 2) (hx : ∀ r ∈ x, r.ok b) : ∀ j, j + 2 ≤ l.length → Bq (1 + (2 * (10 + 5 * b) + 5) * j) (sV l x n j)
  | 0, _ => Bq.zero
  | j + 1, h => by
    have ih := sV_b hn hll hxl hb2 hb6 hl hx j (by omega)
    have hp : 2 ^ n ≤ 2 ^ 5 := Nat.pow_le_pow_right (by decide) hn
    obtain ⟨-, c1, c2⟩ := cnt_facts ⟨n, by omega⟩ ⟨j + 1, by omega⟩ (by simp) (by simp only; omega)
    have d := dV_b hb2 hl hx (s := j + 1) (by omega) n (by omega)
    have d5 : (b + 1) * n ≤ (b + 1) * 5 := Nat.mul_le_mul_left _ hn
    rw [Nat.mul_succ]
    rw [sV]
    exact (ih.add ((kwt_b c1 c2 (by omega)).mul (d.mul d))).mono (by omega)
section
variable {nv : R.Nv}
end
end Go.Proofs.YtgigaimaaijalaaGreatDoor
