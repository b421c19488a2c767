/- Trailing zeros: the walk through math/bits's text and its table. -/
import Derived.Test.YtgigaimaaijalaaDoorNf
import Derived.WalkKit
import Derived.Tactics
import Derived.Tactics2
import Derived.StillTactics
import Derived.Laws.Pointers
import Derived.RegionTactic
import Derived.LoopTactic
import Derived.ChangeAlike
set_option linter.unusedSimpArgs false
set_option linter.unusedVariables false
namespace Go.Proofs.YtgigaimaaijalaaDoor
open Go Go.Proofs.R
theorem tz_walk (x z : Int) (hx : x ≠ 0) (hz : 0 ≤ z ∧ z < 256) (i : Nat) (hi : i < 64) (hidx : IntKind.u64.wrap (Go.bits BinOp.and IntKind.u64 x (IntKind.u64.wrap (-x)) * 285870213051353865) / 288230376151711744 = (i : Int)) (w : World) (hc : w.cell? ⟨0, i, none⟩ = some (.int .u8 z)) :
    Calls Tryd.prog F.bits_TrailingZeros64 #[.int .u64 x] w fun e w' => e = .returned (.int .i64 z) ∧ w' = w := by
  unfold F.bits_TrailingZeros64
  have hx' : (x == 0) = false := by simpa using hx
  have hw : IntKind.i64.wrap z = z := by rw [i64_wrap] <;> omega
  have h0 : (0 : Int) ≤ (i : Int) := by omega
  have h1 : (i : Int) < 64 := by omega
  have h2 : ((i : Int)).toNat = i := by omega
  go_enter Tryd.func101, Tryd.ntmps101
  go_wp2
  go_ret
  exact ⟨rfl, rfl⟩
/-- How many bits 0 a number ends with. -/
def tzN : Nat → Nat → Nat
  | 0, _ => 0
  | f + 1, x => if x % 2 = 1 then 0 else tzN f (x / 2) + 1
theorem tzN_ok : ∀ (f x : Nat), 0 < x → x < 2 ^ f → tzN f x < f ∧ x % 2 ^ tzN f x = 0 ∧ x / 2 ^ tzN f x % 2 = 1
  | 0, x, h, h' => by simp at h'; omega
  | f + 1, x, h, h' => by
    by_cases hx : x % 2 = 1
    · simp only [tzN, if_pos hx]
      exact ⟨by omega, by simp [Nat.mod_one], by simpa using hx⟩
    · obtain ⟨h1, h2, h3⟩ := tzN_ok f (x / 2) (by omega) (by rw [Nat.pow_succ] at h'; omega)
      simp only [tzN, if_neg hx]
      refine ⟨by omega, ?_, ?_⟩
      · rw [Nat.pow_succ, Nat.mul_comm, Nat.mod_mul, h2]; omega
      · rw [Nat.pow_succ, Nat.mul_comm, ← Nat.div_div_eq_div_mul]; exact h3
theorem and_neg (x z : Nat) (hz : z < 64) (hx : x < 18446744073709551616) (h1 : x % 2 ^ z = 0) (h2 : x / 2 ^ z % 2 = 1) : x &&& (18446744073709551616 - x) = 2 ^ z := by
  obtain ⟨k, hk⟩ : ∃ k, x / 2 ^ z = 2 * k + 1 := ⟨x / 2 ^ z / 2, by omega⟩
  have hxe : x = 2 ^ z * (2 * k + 1) := by rw [← hk]; exact (odd_part h1)
  have hp : 2 ^ z * (2 * 2 ^ (63 - z)) = 18446744073709551616 := by rw [← Nat.pow_succ', ← Nat.pow_add, show z + (63 - z + 1) = 64 by omega]
  have hkl : k < 2 ^ (63 - z) := by
    have : 2 ^ z * (2 * k + 1) < 2 ^ z * (2 * 2 ^ (63 - z)) := by rw [hp, ← hxe]; exact hx
    have := Nat.lt_of_mul_lt_mul_left this
    omega
  have hn : 18446744073709551616 - x = 2 ^ z * (2 * (2 ^ (63 - z) - (k + 1)) + 1) := by
    rw [hxe, ← hp, ← Nat.mul_sub]
    congr 1
    omega
  have hb : k &&& (2 ^ (63 - z) - (k + 1)) = 0 := by
    apply Nat.eq_of_testBit_eq
    intro i
    rw [Nat.testBit_and, Nat.testBit_two_pow_sub_succ hkl]
    cases h : k.testBit i <;> simp
  have hc : (2 * k + 1) &&& (2 * (2 ^ (63 - z) - (k + 1)) + 1) = 1 := by
    apply Nat.eq_of_testBit_eq
    intro i
    rw [Nat.testBit_and]
    cases i with
    | zero => simp
    | succ i =>
      have e : ∀ a, (2 * a + 1).testBit (i + 1) = a.testBit i := fun a => by
        rw [Nat.testBit_succ]; congr 1; omega
      rw [e, e, ← Nat.testBit_and, hb]
      simp [Nat.testBit_succ]
  rw [hn]
  conv => lhs; lhs; rw [hxe]
  rw [Nat.mul_comm (2 ^ z), Nat.mul_comm (2 ^ z), ← Nat.shiftLeft_eq, ← Nat.shiftLeft_eq, ← Nat.shiftLeft_and_distrib, hc, Nat.shiftLeft_eq, Nat.one_mul]
def dbTab : List Int := [0, 1, 56, 2, 57, 49, 28, 3, 61, 58, 42, 50, 38, 29, 17, 4, 62, 47, 59, 36, 45, 43, 51, 22, 53, 39, 33, 30, 24, 18, 12, 5, 63, 55, 48, 27, 60, 41, 37, 16, 46, 35, 44, 21, 52, 32, 23, 11, 54, 26, 40, 15, 34, 20, 31, 10, 25, 14, 19, 9, 13, 8, 7, 6]
theorem db_all : ∀ z : Fin 64, (2 ^ z.val * 285870213051353865 % 18446744073709551616 / 288230376151711744 < 64) ∧ dbTab.getD (2 ^ z.val * 285870213051353865 % 18446744073709551616 / 288230376151711744) 0 = (z.val : Int) := by decide +kernel
/-- A block that holds the table. -/
def TabObj (o : Obj) : Prop := ∀ w : World, w.heap[0]? = some o → ∀ i, i < 64 → w.cell? ⟨0, i, none⟩ = some (.int .u8 (dbTab.getD i 0))
theorem tz_native {o : Obj} (ho : TabObj o) (x : Nat) (h0 : 0 < x) (h : x < 18446744073709551616) : CallOK Tryd.prog [(0, o)] F.bits_TrailingZeros64 [.d (u x)] [] (.d (.int .i64 (tzN 64 x : Int))) [] := by
  intro O0 m ys w hargs _ hblks _ _ hbase hheap
  obtain ⟨y, t, rfl, hy, rfl⟩ := hargs
  obtain rfl : y = .int .u64 (x : Int) := hy
  obtain ⟨hob, _⟩ := hbase (0, o) (by simp)
  obtain ⟨z1, z2, z3⟩ := tzN_ok 64 x h0 h
  obtain ⟨d1, d2⟩ := db_all ⟨tzN 64 x, z1⟩
  simp only at d1 d2
  have hcell := ho w hob _ d1
  rw [d2] at hcell
  have e1 : IntKind.u64.wrap (-(x : Int)) = ((18446744073709551616 - x : Nat) : Int) := wrap_u (by omega)
  have e2 : Go.bits BinOp.and IntKind.u64 (x : Int) ((18446744073709551616 - x : Nat) : Int) = ((2 ^ tzN 64 x : Nat) : Int) := by
    have := bits_and (a := x) (b := 18446744073709551616 - x) h (by omega)
    rw [and_neg x _ z1 h z2 z3] at this
    exact this
  have e3 : IntKind.u64.wrap (Go.bits BinOp.and IntKind.u64 (x : Int) (IntKind.u64.wrap (-(x : Int))) * 285870213051353865) / 288230376151711744 = ((2 ^ tzN 64 x * 285870213051353865 % 18446744073709551616 / 288230376151711744 : Nat) : Int) := by
    rw [e1, e2, IntKind.wrap_u64]
    generalize 2 ^ tzN 64 x = p
    omega
  refine (tz_walk (x : Int) (tzN 64 x : Int) (by omega) ⟨by omega, by omega⟩ _ d1 e3 w hcell).mono fun e w' ⟨he, hw⟩ => ?_
  subst he hw
  exact ⟨_, m, rfl, rfl, fun b _ => rfl, hblks, fun b hb => by simp [V.says, V.says1] at hb, Fr.refl _ _, hheap⟩
end Go.Proofs.YtgigaimaaijalaaDoor
