/- Bits of whole numbers; members of a set. -/
import Derived.Test.YtgigaimaaijalaaGreatDoorRd
import Derived.Test.YtgigaimaaijalaaGreatDoorIr
set_option linter.unusedSimpArgs false
set_option linter.unusedVariables false
namespace Go.Proofs.YtgigaimaaijalaaGreatDoor
open Go Go.Proofs.R
set_option maxRecDepth 10000
section
variable {nv : R.Nv}
theorem ibits_and {a b : Nat} (h : a < 9223372036854775808) (h' : b < 9223372036854775808) : bitsD .and .i64 (a : Int) (b : Int) = ((a &&& b : Nat) : Int) := by
  have e : ∀ x : Nat, x < 9223372036854775808 → (BitVec.ofInt 64 (x : Int)).toNat = x := fun x hx => by
    simp [BitVec.toNat_ofInt]; omega
  show IntKind.i64.wrap (((BitVec.ofInt 64 (a : Int) &&& BitVec.ofInt 64 (b : Int)).toNat : Nat) : Int) = _
  rw [BitVec.toNat_and, e a h, e b h']
  have : a &&& b ≤ a := Nat.and_le_left
  exact i64_wrap (by omega) (by omega)
theorem ibits_or {a b : Nat} (h : a < 9223372036854775808) (h' : b < 9223372036854775808) : bitsD .or .i64 (a : Int) (b : Int) = ((a ||| b : Nat) : Int) := by
  have e : ∀ x : Nat, x < 9223372036854775808 → (BitVec.ofInt 64 (x : Int)).toNat = x := fun x hx => by
    simp [BitVec.toNat_ofInt]; omega
  show IntKind.i64.wrap (((BitVec.ofInt 64 (a : Int) ||| BitVec.ofInt 64 (b : Int)).toNat : Nat) : Int) = _
  rw [BitVec.toNat_or, e a h, e b h']
  have : a ||| b < 2 ^ 63 := Nat.or_lt_two_pow (by omega) (by omega)
  exact i64_wrap (by omega) (by omega)
theorem pow_lt {n : Nat} (h : n ≤ 12) : 2 ^ n ≤ 4096 := Nat.pow_le_pow_right (by decide) h
theorem i_shl1 {n : Nat} (h : n ≤ 12) : vBin .shl (some (.d (.int .i64 1))) (some (.d (.int .i64 (n : Int)))) = some (.d (.int .i64 ((2 ^ n : Nat) : Int))) := by
  have hp := pow_lt h
  rw [vBin_shl, if_neg (by omega)]
  have : min ((n : Int)).toNat IntKind.i64.bits = n := by
    have : IntKind.i64.bits = 64 := rfl
    omega
  rw [this, Int.one_mul]
  have e : (2 : Int) ^ n = ((2 ^ n : Nat) : Int) := by simp
  rw [e]
  generalize 2 ^ n = q at *
  rw [i64_wrap (by omega) (by omega)]
theorem tdiv2 (a : Nat) : ((a : Int)).tdiv 2 = ((a / 2 : Nat) : Int) := rfl
theorem tmod2 (a : Nat) : ((a : Int)).tmod 2 = ((a % 2 : Nat) : Int) := rfl
end
end Go.Proofs.YtgigaimaaijalaaGreatDoor
