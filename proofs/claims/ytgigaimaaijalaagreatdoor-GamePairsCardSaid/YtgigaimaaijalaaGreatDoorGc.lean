/- How many are in a set; tables by numbers. -/
import Derived.Test.YtgigaimaaijalaaGreatDoorRf
import Derived.Test.YtgigaimaaijalaaGreatDoorIr
set_option linter.unusedSimpArgs false
set_option linter.unusedVariables false
namespace Go.Proofs.YtgigaimaaijalaaGreatDoor
open Go Go.Proofs.R
set_option maxRecDepth 10000
/-- How many of so many players are in a set. -/
def cntN (s n : Nat) : Nat := (List.range n).countP fun i => s.testBit i
theorem cntN_succ (s n : Nat) : cntN s (n + 1) = cntN s n + if s.testBit n then 1 else 0 := by
  simp [cntN, List.range_succ, List.countP_append, List.countP_cons]
theorem cntN_le (s n : Nat) : cntN s n ≤ n := by
  unfold cntN
  exact Nat.le_trans List.countP_le_length (by simp)
/-- A table by its places. -/
def tb {α : Type} (n : Nat) (f : Nat → α) : List α := (List.range n).map f
@[simp] theorem tb_len {α : Type} (n : Nat) (f : Nat → α) : (tb n f).length = n := by simp [tb]
theorem tb_succ {α : Type} (n : Nat) (f : Nat → α) : tb (n + 1) f = tb n f ++ [f n] := by simp [tb, List.range_succ]
theorem tb_ix {α : Type} [Inhabited α] {n i : Nat} {f : Nat → α} (h : i < n) : ix (tb n f) i = f i := by simp [ix, tb, h]
theorem tb_mem {α : Type} {n : Nat} {f : Nat → α} {x : α} (h : x ∈ tb n f) : ∃ i, i < n ∧ x = f i := by
  simp only [tb, List.mem_map, List.mem_range] at h
  obtain ⟨i, hi, rfl⟩ := h
  exact ⟨i, hi, rfl⟩
section
variable {nv : R.Nv}
theorem ones_ev : ∀ x : Nat, x < 32 → EX ip nv (.call F.bits_OnesCount [.d (.int .u64 (x : Int))] []) = some (.ret (.d (.int .i64 (cntN x 5 : Nat))) [])
  | 0, _ => (EX_some ip nv).2 ⟨100, by kernel_rfl⟩
  | 1, _ => (EX_some ip nv).2 ⟨100, by kernel_rfl⟩
  | 2, _ => (EX_some ip nv).2 ⟨100, by kernel_rfl⟩
  | 3, _ => (EX_some ip nv).2 ⟨100, by kernel_rfl⟩
  | 4, _ => (EX_some ip nv).2 ⟨100, by kernel_rfl⟩
  | 5, _ => (EX_some ip nv).2 ⟨100, by kernel_rfl⟩
  | 6, _ => (EX_some ip nv).2 ⟨100, by kernel_rfl⟩
  | 7, _ => (EX_some ip nv).2 ⟨100, by kernel_rfl⟩
  | 8, _ => (EX_some ip nv).2 ⟨100, by kernel_rfl⟩
  | 9, _ => (EX_some ip nv).2 ⟨100, by kernel_rfl⟩
  | 10, _ => (EX_some ip nv).2 ⟨100, by kernel_rfl⟩
  | 11, _ => (EX_some ip nv).2 ⟨100, by kernel_rfl⟩
  | 12, _ => (EX_some ip nv).2 ⟨100, by kernel_rfl⟩
  | 13, _ => (EX_some ip nv).2 ⟨100, by kernel_rfl⟩
  | 14, _ => (EX_some ip nv).2 ⟨100, by kernel_rfl⟩
  | 15, _ => (EX_some ip nv).2 ⟨100, by kernel_rfl⟩
  | 16, _ => (EX_some ip nv).2 ⟨100, by kernel_rfl⟩
  | 17, _ => (EX_some ip nv).2 ⟨100, by kernel_rfl⟩
  | 18, _ => (EX_some ip nv).2 ⟨100, by kernel_rfl⟩
  | 19, _ => (EX_some ip nv).2 ⟨100, by kernel_rfl⟩
  | 20, _ => (EX_some ip nv).2 ⟨100, by kernel_rfl⟩
  | 21, _ => (EX_some ip nv).2 ⟨100, by kernel_rfl⟩
  | 22, _ => (EX_some ip nv).2 ⟨100, by kernel_rfl⟩
  | 23, _ => (EX_some ip nv).2 ⟨100, by kernel_rfl⟩
  | 24, _ => (EX_some ip nv).2 ⟨100, by kernel_rfl⟩
  | 25, _ => (EX_some ip nv).2 ⟨100, by kernel_rfl⟩
  | 26, _ => (EX_some ip nv).2 ⟨100, by kernel_rfl⟩
  | 27, _ => (EX_some ip nv).2 ⟨100, by kernel_rfl⟩
  | 28, _ => (EX_some ip nv).2 ⟨100, by kernel_rfl⟩
  | 29, _ => (EX_some ip nv).2 ⟨100, by kernel_rfl⟩
  | 30, _ => (EX_some ip nv).2 ⟨100, by kernel_rfl⟩
  | 31, _ => (EX_some ip nv).2 ⟨100, by kernel_rfl⟩
  | n + 32, h => by omega
end
end Go.Proofs.YtgigaimaaijalaaGreatDoor
