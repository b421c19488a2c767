/- Bits of whole numbers; members of a set. -/
import Derived.Test.YtgigaimaaijalaaGreatDoorRd
import Derived.Test.YtgigaimaaijalaaGreatDoorIr
set_option linter.unusedSimpArgs false
set_option linter.unusedVariables false
namespace Go.Proofs.YtgigaimaaijalaaGreatDoor
open Go Go.Proofs.R
set_option maxRecDepth 10000
section
variable {nv : R.Nv}
theorem ibits_and {a b : Nat} (h : a < 9223372036854775808) (h' : b < 9223372036854775808) : bitsD .and .i64 (a : Int) (b : Int) = ((a &&& b : Nat) : Int) := by
  have e : ∀ x : Nat, x < 9223372036854775808 → (BitVec.ofInt 64 (x : Int)).toNat = x := fun x hx => by
    simp [BitVec.toNat_ofInt]; omega
  show IntKind.i64.wrap (((BitVec.ofInt 64 (a : Int) &&& BitVec.ofInt 64 (b : Int)).toNat : Nat) : Int) = _
  rw [BitVec.toNat_and, e a h, e b h']
  have : a &&& b ≤ a := Nat.and_le_left
  exact i64_wrap (by omega) (by omega)
theorem ibits_or {a b : Nat} (h : a < 9223372036854775808) (h' : b < 9223372036854775808) : bitsD .or .i64 (a : Int) (b : Int) = ((a ||| b : Nat) : Int) := by
  have e : ∀ x : Nat, x < 9223372036854775808 → (BitVec.ofInt 64 (x : Int)).toNat = x := fun x hx => by
    simp [BitVec.toNat_ofInt]; omega
  show IntKind.i64.wrap (((BitVec.ofInt 64 (a : Int) ||| BitVec.ofInt 64 (b : Int)).toNat : Nat) : Int) = _
  rw [BitVec.toNat_or, e a h, e b h']
  have : a ||| b < 2 ^ 63 := Nat.or_lt_two_pow (by omega) (by omega)
  exact i64_wrap (by omega) (by omega)
theorem pow_lt {n : Nat} (h : n ≤ 12) : 2 ^ n ≤ 4096 := Nat.pow_le_pow_right (by decide) h
theorem i_shl1 {n : Nat} (h : n ≤ 12) : vBin .shl (some (.d (.int .i64 1))) (some (.d (.int .i64 (n : Int)))) = some (.d (.int .i64 ((2 ^ n : Nat) : Int))) := by
  have hp := pow_lt h
  rw [vBin_shl, if_neg (by omega)]
  have : min ((n : Int)).toNat IntKind.i64.bits = n := by
    have : IntKind.i64.bits = 64 := rfl
    omega
  rw [this, Int.one_mul]
  have e : (2 : Int) ^ n = ((2 ^ n : Nat) : Int) := by simp
  rw [e]
  generalize 2 ^ n = q at *
  rw [i64_wrap (by omega) (by omega)]
theorem tdiv2 (a : Nat) : ((a : Int)).tdiv 2 = ((a / 2 : Nat) : Int) := rfl
theorem tmod2 (a : Nat) : ((a : Int)).tmod 2 = ((a % 2 : Nat) : Int) := rfl
theorem in_ev (s i : Nat) (hs : s < 9223372036854775808) (hi : i ≤ 1000000) : EX ip nv (.call F.dendronref19_In [.d (.int .i64 (s : Int)), .d (.int .i64 (i : Int))] []) = some (.ret (.d (.bool (s.testBit i))) []) := by
  rw [S_call dendronref19_In.ip rfl]
  obtain ⟨_, _, _, hr, -, rfl, rfl, rfl⟩ : ∃ z e μ, EX ip nv (.code (.loop [] [] dendronref19_In.b0) [(0, .d (.int .i64 (s : Int))), (1, .d (.int .i64 (i : Int))), (5, .d (.int .i64 0))] []) = some (.st z e μ) ∧ z ≠ .normal ∧
      z = .exit 0 ∧ e = [(0, .d (.int .i64 ((s / 2 ^ i : Nat) : Int))), (1, .d (.int .i64 (i : Int))), (5, .d (.int .i64 (i : Int))), (8, .d (.bool false))] ∧ μ = [] := by
    refine loop_n i (fun k e μ => ∃ m : Nat, m = s / 2 ^ k ∧ e = [(0, .d (.int .i64 (m : Int))), (1, .d (.int .i64 (i : Int))), (5, .d (.int .i64 (k : Int)))] ∧ μ = []) ?_ ?_ ⟨s, by simp, rfl, rfl⟩
    · rintro k e μ hk ⟨m, hm, rfl, rfl⟩
      have hle : m ≤ s := by rw [hm]; exact Nat.div_le_self _ _
      refine .inl ⟨_, _, ?_, m / 2, by rw [hm, Nat.div_div_eq_div_mul, Nat.pow_succ], rfl, rfl⟩
      have e3 : IntKind.i64.wrap ((m : Int) / 2) = ((m / 2 : Nat) : Int) := by rw [i64_wrap (by omega) (by omega)]; omega
      clear hm
      generalize m / 2 = q at *
      simp (disch := omega) [dendronref19_In.b0, hk, e3]
    · rintro e μ ⟨m, hm, rfl, rfl⟩
      subst hm
      exact ⟨.exit 0, _, [], by simp [dendronref19_In.b0] <;> rfl, by simp, rfl, rfl, rfl⟩
  rw [Nat.testBit_eq_decide_div_mod_eq]
  generalize s / 2 ^ i = m at *
  have e4 := tmod2 m
  have e5 : ((m % 2 : Nat) : Int) = 1 ↔ m % 2 = 1 := by omega
  generalize m % 2 = q at *
  simp (disch := omega) [dendronref19_In, hr, e4, e5]
end
end Go.Proofs.YtgigaimaaijalaaGreatDoor
