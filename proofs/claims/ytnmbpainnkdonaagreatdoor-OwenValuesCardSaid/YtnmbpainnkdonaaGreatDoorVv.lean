/- OrdersValues: the mean over all orders is what each player gets. -/
import Derived.Test.YtnmbpainnkdonaaGreatDoorVd
import Derived.Test.YtnmbpainnkdonaaGreatDoorVn
import Derived.Test.YtnmbpainnkdonaaGreatDoorGh
set_option linter.unusedSimpArgs false
set_option linter.unusedVariables false
namespace Go.Proofs.YtnmbpainnkdonaaGreatDoor
open Go Go.Proofs.R
set_option maxRecDepth 10000
/-- Those who come ahead of a player, as a set. -/
def pre (o : List Int) (p : Nat) : Nat → Nat
  | 0 => 0
  | i + 1 => if (p : Int) = ix o i then ps o i else pre o p i
theorem aV_pre {v : Nat → Rat} {o : List Int} {p : Nat} : ∀ i, (p : Int) ∈ o.take i → i ≤ o.length → aV v o i p = v (pre o p i + 2 ^ p) - v (pre o p i)
  | 0, h, _ => by simp at h
  | i + 1, h, hi => by
    rw [aV, pre]
    by_cases c : (p : Int) = ix o i
    · rw [if_pos c, if_pos c, ps, ← c, Int.toNat_natCast]
    · rw [if_neg c, if_neg c]
      rw [take_ix (by omega : i < o.length), List.mem_append, List.mem_singleton] at h
      exact aV_pre i (h.resolve_right c) (by omega)
/-- How often a set comes ahead of a player. -/
def cnt (os : List (List Int)) (n p s : Nat) : Nat := os.countP fun o => pre o p n == s
theorem pre_lt {o : List Int} {n p : Nat} (h : o.Perm (nums n)) (hp : p < n) : ∀ i, i ≤ n → (p : Int) ∈ o.take i → pre o p i + 2 ^ p < 2 ^ n
  | 0, _, hm => by simp at hm
  | i + 1, hi, hm => by
    have hl := h.length_eq
    simp at hl
    rw [pre]
    by_cases c : (p : Int) = ix o i
    · rw [if_pos c]
      have := ps_lt h hi
      rw [ps, ← c, Int.toNat_natCast] at this
      exact this
    · rw [if_neg c]
      rw [take_ix (by omega : i < o.length), List.mem_append, List.mem_singleton] at hm
      exact pre_lt h hp i (by omega) (hm.resolve_right c)
/-- A sum over orders, by what comes ahead. -/
theorem sV_cnt {v : Nat → Rat} {os : List (List Int)} {n p : Nat} (hp : p < n) (hr : ∀ j, j < os.length → rightB (ix os j) n = true) : ∀ k, k ≤ os.length → sV v os n k p = sm (2 ^ n) fun s => ((cnt (os.take k) n p s : Nat) : Rat) * (v (s + 2 ^ p) - v s)
  | 0, _ => by
    rw [sV, sm_congr (g := fun _ => 0) (fun s _ => by simp [cnt]), sm_zero]
  | k + 1, h => by
    have hperm := rightB_perm.1 (hr k (by omega))
    have hl := hperm.length_eq
    simp at hl
    have hm : (p : Int) ∈ (ix os k).take n := by
      rw [List.take_of_length_le (by omega)]
      exact hperm.mem_iff.2 (nums_mem.2 (by omega))
    have hlt := pre_lt hperm hp n (Nat.le_refl _) hm
    rw [sV, sV_cnt hp hr k (by omega), aV_pre n hm (by omega)]
    have e := sm_one (fun s => v (s + 2 ^ p) - v s) (fun s => v (s + 2 ^ p) - v s) (pre (ix os k) p n) (2 ^ n)
    rw [if_pos (Nat.lt_of_le_of_lt (Nat.le_add_right _ _) hlt)] at e
    have hcnt : ∀ s, ((cnt (os.take (k + 1)) n p s : Nat) : Rat) = ((cnt (os.take k) n p s : Nat) : Rat) + if s = pre (ix os k) p n then 1 else 0 := by
      intro s
      unfold cnt
      rw [take_ix (by omega : k < os.length), List.countP_append]
      by_cases c : s = pre (ix os k) p n
      · rw [if_pos c, c]; simp
      · rw [if_neg c]
        have : (pre (ix os k) p n == s) = false := by simpa using fun h => c h.symm
        simp [this]
        exact (Rat.add_zero _).symm
    have e2 : sm (2 ^ n) (fun s => ((cnt (os.take (k + 1)) n p s : Nat) : Rat) * (v (s + 2 ^ p) - v s)) = sm (2 ^ n) (fun s => ((cnt (os.take k) n p s : Nat) : Rat) * (v (s + 2 ^ p) - v s)) + sm (2 ^ n) (fun s => if s = pre (ix os k) p n then v (s + 2 ^ p) - v s else 0) := by
      rw [← sm_add]
      refine sm_congr fun s _ => ?_
      rw [hcnt s, Rat.add_mul]
      by_cases c : s = pre (ix os k) p n
      · rw [if_pos c, if_pos c, Rat.one_mul]
      · rw [if_neg c, if_neg c, Rat.zero_mul]
    rw [e2, e]
/-- What each player gets, by sets. -/
theorem shS_sm (v : Nat → Rat) (n i : Nat) : ∀ m, shS v n i m = sm m fun s => (if s.testBit i then 0 else wq (cntN s 5) (n - cntN s 5 - 1) n) * (v (s + 2 ^ i) - v s)
  | 0 => rfl
  | m + 1 => by
    rw [shS, sm, ← shS_sm v n i m]
    split
    · rw [Rat.zero_mul, Rat.add_zero]
    · rfl
theorem cnt_all : ∀ n : Fin 6, ∀ p : Fin 5, ∀ s : Fin 32, p.val < n.val → s.val < 2 ^ n.val → cnt (allL 5041 (iot n.val)) n.val p.val s.val = (if s.val.testBit p.val then 0 else fac (cntN s.val 5) * fac (n.val - cntN s.val 5 - 1)) ∧ (allL 5041 (iot n.val)).length = fac n.val := by decide +kernel
theorem mean_shap {v : Nat → Rat} {n p : Nat} (hn : n ≤ 5) (hp : p < n) : mV v (allL 5041 (iot n)) n p = shV v n p := by
  obtain ⟨-, -, -, hall⟩ := all_right ⟨n, by omega⟩
  simp only at hall
  have hr : ∀ j, j < (allL 5041 (iot n)).length → rightB (ix (allL 5041 (iot n)) j) n = true := fun j hj => List.all_eq_true.1 hall _ (os_ix hj)
  have hp5 : 2 ^ n ≤ 2 ^ 5 := Nat.pow_le_pow_right (by decide) hn
  have hc := fun s (hs : s < 2 ^ n) => cnt_all ⟨n, by omega⟩ ⟨p, by omega⟩ ⟨s, by omega⟩ hp hs
  simp only at hc
  have hlen := (hc 0 (Nat.two_pow_pos n)).2
  unfold mV shV
  rw [sV_cnt hp hr _ (Nat.le_refl _), shS_sm, Rat.mul_comm, ← sm_mul]
  refine sm_congr fun s hs => ?_
  rw [List.take_of_length_le (Nat.le_refl _), (hc s hs).1, ← Rat.mul_assoc]
  congr 1
  rw [hlen]
  split
  · simp
  · unfold wq
    rw [Rat.divInt_eq_div, Rat.divInt_eq_div]
    push_cast
    rw [Rat.div_def, Rat.div_def]
    simp only [Rat.intCast_one, Rat.one_mul]
    rw [Rat.mul_comm]
end Go.Proofs.YtnmbpainnkdonaaGreatDoor
