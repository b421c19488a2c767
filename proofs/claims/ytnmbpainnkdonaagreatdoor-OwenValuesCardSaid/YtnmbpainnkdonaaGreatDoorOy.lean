/- Orders in which groups stay together: what comes ahead of a player, counted. -/
import Derived.Test.YtnmbpainnkdonaaGreatDoorOp
import Derived.Test.YtnmbpainnkdonaaGreatDoorVv
set_option linter.unusedSimpArgs false
set_option linter.unusedVariables false
namespace Go.Proofs.YtnmbpainnkdonaaGreatDoor
open Go Go.Proofs.R
set_option maxRecDepth 10000
/-- Do a group's players come one right behind the other? Place, first, last (each and one), count. -/
def tgS (g : Nat) : List Int → Nat → Nat → Nat → Nat → Bool
  | [], _, f, l, c => Nat.beq (l + 1) (c + f)
  | x :: r, k, f, l, c => if g.testBit x.toNat then tgS g r (k + 1) (if f = 0 then k + 1 else f) (k + 1) (c + 1) else tgS g r (k + 1) f l c
def togB (gs : List Int) (o : List Int) : Bool := gs.all fun g => tgS g.toNat o 0 0 0 0
/-- The check of a list of groups. -/
def okG (n : Nat) (os0 : List (List Int)) (gs : List Int) : Bool :=
  (fun os : List (List Int) => Nat.blt 0 os.length && (List.range n).all fun p => os.all (fun o => Nat.beq (pre o p n ||| 2 ^ p) (pre o p n + 2 ^ p)) && lsB 32 (os.map fun o => (3600, pre o p n)) (sc os.length (ogL gs p gs.length))) (os0.filter (togB gs))
def allS (n : Nat) (f : List Int → Bool) : Nat → List Int → Nat → Bool
  | 0, _, _ => false
  | k + 1, acc, s => if s = 2 ^ n - 1 then f acc else (List.range (2 ^ n)).all fun g => if g = 0 then true else if s &&& g ≠ 0 then true else allS n f k (acc ++ [(g : Int)]) (s ||| g)
theorem allS_ok {n : Nat} {f : List Int → Bool} : ∀ (rest : List Int) (k : Nat) (acc : List Int) (s : Nat), rest.length < k → s < 2 ^ n → orF n rest s = true → allS n f k acc s = true → f (acc ++ rest) = true
  | [], k, acc, s, hk, _, ho, ha => by
    obtain ⟨k, rfl⟩ : ∃ j, k = j + 1 := ⟨k - 1, by simp at hk; omega⟩
    simp only [orF, decide_eq_true_eq] at ho
    rw [allS, if_pos ho] at ha
    rw [List.append_nil]
    exact ha
  | g :: r, k, acc, s, hk, hs, ho, ha => by
    obtain ⟨k, rfl⟩ : ∃ j, k = j + 1 := ⟨k - 1, by simp at hk; omega⟩
    rw [orF] at ho
    split at ho
    · cases ho
    · rename_i c1
      split at ho
      · cases ho
      · rename_i c2
        split at ho
        · cases ho
        · rename_i c3
          have c3' : s &&& g.toNat = 0 := by simpa using c3
          rw [allS] at ha
          have hne : ¬ s = 2 ^ n - 1 := by
            intro e
            rw [e, Nat.and_comm, Nat.and_two_pow_sub_one_eq_mod, Nat.mod_eq_of_lt (by omega)] at c3'
            omega
          rw [if_neg hne, List.all_eq_true] at ha
          have h := ha g.toNat (List.mem_range.2 (by omega))
          rw [if_neg (by omega), if_neg c3] at h
          rw [show ((g.toNat : Nat) : Int) = g by omega] at h
          have := allS_ok r k (acc ++ [g]) (s ||| g.toNat) (by simp at hk; omega) (Nat.or_lt_two_pow hs (by omega)) ho h
          rwa [List.append_assoc] at this
theorem sV_ls {v : Nat → Rat} {os : List (List Int)} {n p : Nat} (hp : p < n) (hr : ∀ j, j < os.length → rightB (ix os j) n = true) : ∀ k, k ≤ os.length → sV v os n k p = ls ((os.take k).map fun o => (1, pre o p n)) (fun s => v (s + 2 ^ p) - v s)
  | 0, _ => by simp [sV, ls]
  | k + 1, h => by
    have hperm := rightB_perm.1 (hr k (by omega))
    have hl := hperm.length_eq
    simp at hl
    have hm : (p : Int) ∈ (ix os k).take n := by
      rw [List.take_of_length_le (by omega)]
      exact hperm.mem_iff.2 (nums_mem.2 (by omega))
    rw [sV, sV_ls hp hr k (by omega), aV_pre n hm (by omega), take_ix (by omega : k < os.length), List.map_append, ls_app]
    simp only [List.map_cons, List.map_nil, ls]
    grind
theorem ls_same {T : List (Nat × Nat)} {F G : Nat → Rat} (h : ∀ t ∈ T, F t.2 = G t.2) : ls T F = ls T G := by
  induction T with
  | nil => rfl
  | cons t r ih => rw [ls, ls, ih fun x hx => h x (by simp [hx]), h t (by simp)]
theorem mean_ow {v : Nat → Rat} {os0 : List (List Int)} {gs : List Int} {n p : Nat} (hn : n ≤ 5) (h : rightG gs n = true) (hr : ∀ o ∈ os0, rightB o n = true) (hok : okG n os0 gs = true) (hp : p < n) : mV v (os0.filter (togB gs)) n p = owV v gs p := by
  have hm := rightG_len h
  have hr' : ∀ j, j < (os0.filter (togB gs)).length → rightB (ix (os0.filter (togB gs)) j) n = true := fun j hj => hr _ (List.mem_filter.1 (os_ix hj)).1
  unfold okG at hok
  simp only at hok
  generalize os0.filter (togB gs) = os at *
  rw [Bool.and_eq_true, List.all_eq_true] at hok
  obtain ⟨h0, hall⟩ := hok
  have h0' : 0 < os.length := blt_lt h0
  have h1 := hall p (List.mem_range.2 hp)
  rw [Bool.and_eq_true, List.all_eq_true] at h1
  obtain ⟨h2, h3⟩ := h1
  unfold mV
  rw [sV_ls hp hr' _ (Nat.le_refl _), List.take_of_length_le (Nat.le_refl _), owV_ls hn (by omega) (rightG_iff h).1 hp]
  have e1 : ls (os.map fun o => (1, pre o p n)) (fun s => v (s + 2 ^ p) - v s) = ls (os.map fun o => (1, pre o p n)) (mF v p) := ls_same fun t ht => by
    obtain ⟨o, ho, rfl⟩ := List.mem_map.1 ht
    have := Nat.eq_of_beq_eq_true (h2 o ho)
    simp only [mF]
    rw [this]
  have e2 : (os.map fun o => (3600, pre o p n)) = sc 3600 (os.map fun o => (1, pre o p n)) := by
    simp [sc, List.map_map, Function.comp_def]
  have e3 := lsB_eq h3 (mF v p)
  rw [e2, ls_sc, ls_sc] at e3
  rw [e1, Rat.divInt_eq_div]
  have hne : ((os.length : Int) : Rat) ≠ 0 := by
    have : (os.length : Int) ≠ 0 := by omega
    exact_mod_cast this
  push_cast at e3 hne ⊢
  rw [Rat.div_def]
  grind
end Go.Proofs.YtnmbpainnkdonaaGreatDoor
