/- Orders of players: each once; the sets of those who came. -/
import Derived.Test.YtnmbpainnkdonaaGreatDoorVa
import Derived.Test.YtnmbpainnkdonaaGreatDoorMa
import Derived.Test.YtnmbpainnkdonaaGreatDoorLf
set_option linter.unusedSimpArgs false
set_option linter.unusedVariables false
namespace Go.Proofs.YtnmbpainnkdonaaGreatDoor
open Go Go.Proofs.R
/-- A list without doubles within another one that is not longer: the other one's numbers. -/
theorem perm_of : ∀ {a b : List Int}, a.Nodup → (∀ x ∈ a, x ∈ b) → b.length ≤ a.length → a.Perm b
  | [], b, _, _, hl => by
    have : b = [] := List.length_eq_zero_iff.1 (by simpa using hl)
    rw [this]
  | x :: r, b, hn, hs, hl => by
    have hx : x ∈ b := hs x (by simp)
    have hn' := List.nodup_cons.1 hn
    have hb := List.perm_cons_erase hx
    have hlen := hb.length_eq
    simp only [List.length_cons] at hlen hl
    refine (List.Perm.cons x (perm_of hn'.2 (fun y hy => ?_) (by omega))).trans hb.symm
    have hy' := hs y (by simp [hy])
    rw [List.mem_erase_of_ne (by intro h; subst h; exact hn'.1 hy)]
    exact hy'
/-- The numbers below one. -/
def nums (n : Nat) : List Int := (List.range n).map fun (j : Nat) => (j : Int)
@[simp] theorem nums_len (n : Nat) : (nums n).length = n := by simp [nums]
theorem nums_mem {n : Nat} {x : Int} : x ∈ nums n ↔ 0 ≤ x ∧ x < (n : Int) := by
  simp only [nums, List.mem_map, List.mem_range]
  constructor
  · rintro ⟨j, hj, rfl⟩; omega
  · intro h; exact ⟨x.toNat, by omega, by omega⟩
theorem nums_nodup (n : Nat) : (nums n).Nodup := by
  unfold nums
  rw [List.nodup_iff_pairwise_ne, List.pairwise_map]
  exact (List.nodup_iff_pairwise_ne.1 List.nodup_range).imp (by intro a b h; omega)
theorem okP_iff (n : Int) (l : List Int) : ∀ j, j ≤ l.length → (okP n l j = true ↔ (l.take j).Nodup ∧ ∀ x ∈ l.take j, 0 ≤ x ∧ x < n)
  | 0, _ => by simp [okP]
  | j + 1, h => by
    rw [okP_succ, Bool.and_eq_true, okP_iff n l j (by omega), take_ix (by omega : j < l.length)]
    simp only [okAt, Bool.and_eq_true, decide_eq_true_eq, Bool.not_eq_true', List.contains_eq_mem, decide_eq_false_iff_not, List.mem_append, List.mem_singleton]
    rw [List.nodup_append]
    constructor
    · rintro ⟨⟨h1, h2⟩, ⟨h3, h4⟩, h5⟩
      refine ⟨⟨h1, by simp, fun a ha b hb => ?_⟩, fun x hx => ?_⟩
      · rw [List.mem_singleton] at hb
        subst hb
        intro he
        subst he
        exact h5 ha
      · rcases hx with hx | rfl
        · exact h2 x hx
        · exact ⟨h3, h4⟩
    · rintro ⟨⟨h1, -, h3⟩, h4⟩
      exact ⟨⟨h1, fun x hx => h4 x (.inl hx)⟩, h4 _ (.inr rfl), fun hm => h3 _ hm _ (by simp) rfl⟩
theorem rightO_perm {l : List Int} {n : Nat} : rightO l (n : Int) = true ↔ l.Perm (nums n) := by
  have e := okP_iff (n : Int) l l.length (Nat.le_refl _)
  rw [List.take_of_length_le (Nat.le_refl _)] at e
  simp only [rightO, Bool.and_eq_true, decide_eq_true_eq, e]
  constructor
  · rintro ⟨⟨-, h2⟩, h3, h4⟩
    exact perm_of h3 (fun x hx => nums_mem.2 (h4 x hx)) (by simp; omega)
  · intro h
    have hl := h.length_eq
    simp at hl
    exact ⟨⟨by omega, by omega⟩, h.symm.nodup (nums_nodup n), fun x hx => nums_mem.1 (h.mem_iff.1 hx)⟩
theorem rightB_perm {l : List Int} {n : Nat} : rightB l n = true ↔ l.Perm (nums n) := by
  simp only [rightB, Bool.and_eq_true, decide_eq_true_eq, List.all_eq_true, List.mem_range, beq_iff_eq]
  constructor
  · rintro ⟨h1, h2⟩
    refine (perm_of (nums_nodup n) (fun x hx => ?_) (by simp; omega)).symm
    obtain ⟨a, b⟩ := nums_mem.1 hx
    have := h2 x.toNat (by omega)
    rw [show ((x.toNat : Nat) : Int) = x by omega] at this
    exact List.count_pos_iff.1 (by omega)
  · intro h
    have hl := h.length_eq
    simp at hl
    refine ⟨hl, fun i hi => ?_⟩
    rw [h.count_eq, (nums_nodup n).count, if_pos (nums_mem.2 (by omega))]
theorem rightOB (l : List Int) (n : Nat) : rightO l (n : Int) = rightB l n := by
  rw [Bool.eq_iff_iff, rightO_perm, rightB_perm]
/-- Those who came, up to a place, as a set. -/
def ps (o : List Int) : Nat → Nat
  | 0 => 0
  | i + 1 => ps o i + 2 ^ (ix o i).toNat
theorem ps_sum (o : List Int) : ∀ i, i ≤ o.length → ps o i = ((o.take i).map fun x => 2 ^ x.toNat).sum
  | 0, _ => rfl
  | i + 1, h => by rw [ps, ps_sum o i (by omega), take_ix (by omega : i < o.length), List.map_append, List.sum_append]; simp
theorem nums_sum : ∀ n, ((nums n).map fun x => 2 ^ x.toNat).sum = 2 ^ n - 1
  | 0 => rfl
  | n + 1 => by
    have e : nums (n + 1) = nums n ++ [(n : Int)] := by simp [nums, List.range_succ]
    rw [e, List.map_append, List.sum_append, nums_sum n, Nat.pow_succ]
    have := Nat.two_pow_pos n
    simp
    omega
theorem ps_all {o : List Int} {n : Nat} (h : o.Perm (nums n)) : ps o n = 2 ^ n - 1 := by
  have hl := h.length_eq
  simp at hl
  rw [ps_sum o n (by omega), List.take_of_length_le (by omega), (h.map _).sum_nat, nums_sum]
theorem ps_mono (o : List Int) {i j : Nat} (h : i ≤ j) : ps o i ≤ ps o j := by
  induction h with
  | refl => exact Nat.le_refl _
  | step _ ih => rw [ps]; exact Nat.le_trans ih (Nat.le_add_right _ _)
theorem addOr : ∀ (f a b : Nat), a < 2 ^ f → b < 2 ^ f → a &&& b = 0 → a + b = a ||| b
  | 0, a, b, ha, hb, _ => by
    have : a = 0 := by simpa using ha
    have : b = 0 := by simpa using hb
    subst_vars; rfl
  | f + 1, a, b, ha, hb, h => by
    rw [Nat.pow_succ] at ha hb
    have h1 : a / 2 &&& b / 2 = 0 := by rw [← Nat.and_div_two, h]
    have ih := addOr f (a / 2) (b / 2) (by omega) (by omega) h1
    have h2 : ¬ (a % 2 = 1 ∧ b % 2 = 1) := by
      rw [← Nat.and_mod_two_eq_one, h]; omega
    have h3 : (a ||| b) / 2 = a / 2 ||| b / 2 := Nat.or_div_two
    have h4 : (a ||| b) % 2 = 1 ↔ a % 2 = 1 ∨ b % 2 = 1 := Nat.or_mod_two_eq_one
    omega
theorem or_bit {x q : Nat} (h : x.testBit q = false) : x ||| 2 ^ q = x + 2 ^ q := by
  have h1 : x &&& 2 ^ q = 0 := by
    apply Nat.eq_of_testBit_eq
    intro i
    rw [Nat.testBit_and, Nat.testBit_two_pow, Nat.zero_testBit]
    by_cases c : q = i
    · subst c; simp [h]
    · simp [c]
  have h2 : x < 2 ^ (x + q + 1) := Nat.lt_of_lt_of_le Nat.lt_two_pow_self (Nat.pow_le_pow_right (by decide) (by omega))
  have h3 : 2 ^ q < 2 ^ (x + q + 1) := Nat.pow_lt_pow_right (by decide) (by omega)
  exact (addOr _ _ _ h2 h3 h1).symm
theorem ps_bit {o : List Int} {n : Nat} (h : o.Perm (nums n)) : ∀ i, i ≤ n → ∀ p : Nat, (ps o i).testBit p = (o.take i).contains (p : Int)
  | 0, _, p => by simp [ps]
  | i + 1, hi, p => by
    have hl := h.length_eq
    simp at hl
    have hx := nums_mem.1 (h.mem_iff.1 (show ix o i ∈ o by
      have : ix o i = o[i] := by simp [ix, show i < o.length by omega]
      rw [this]; exact List.getElem_mem _))
    obtain ⟨q, hq⟩ : ∃ q : Nat, ix o i = (q : Int) := ⟨(ix o i).toNat, by omega⟩
    have hnot : (ps o i).testBit q = false := by
      rw [ps_bit h i (by omega) q]
      have hnd : o.Nodup := h.symm.nodup (nums_nodup n)
      have : (o.take (i + 1)).Nodup := hnd.sublist (List.take_sublist _ _)
      rw [take_ix (by omega : i < o.length), List.nodup_append] at this
      rw [hq] at this
      simp only [List.contains_eq_mem, decide_eq_false_iff_not]
      intro hm
      exact this.2.2 _ hm _ (by simp) rfl
    rw [ps, hq, Int.toNat_natCast, ← or_bit hnot, Nat.testBit_or, ps_bit h i (by omega) p, take_ix (by omega : i < o.length), hq, Nat.testBit_two_pow]
    simp only [List.contains_eq_mem, List.mem_append, List.mem_singleton]
    rw [Bool.eq_iff_iff]
    simp
    constructor
    · rintro (h | h)
      · exact .inl h
      · exact .inr (by omega)
    · rintro (h | h)
      · exact .inl h
      · exact .inr (by omega)
/-- What each adds, up to a place. -/
def aV (v : Nat → Rat) (o : List Int) : Nat → Nat → Rat
  | 0, _ => 0
  | i + 1, p => if (p : Int) = ix o i then v (ps o (i + 1)) - v (ps o i) else aV v o i p
theorem aV_none {v : Nat → Rat} {o : List Int} : ∀ i (p : Nat), i ≤ o.length → (p : Int) ∉ o.take i → aV v o i p = 0
  | 0, _, _, _ => rfl
  | i + 1, p, hi, h => by
    rw [take_ix (by omega : i < o.length), List.mem_append, List.mem_singleton] at h
    rw [aV, if_neg (fun e => h (.inr e)), aV_none i p (by omega) (fun hm => h (.inl hm))]
theorem sm_upd {f : Nat → Rat} {k : Nat} {x : Rat} : ∀ {m : Nat}, k < m → sm m (fun p => if p = k then x else f p) = sm m f + x - f k
  | 0, h => by omega
  | m + 1, h => by
    rw [sm, sm]
    by_cases e : k = m
    · subst e
      rw [if_pos rfl, sm_congr (g := f) (fun j hj => by rw [if_neg (by omega)])]
      grind
    · rw [if_neg (by omega), sm_upd (by omega)]
      grind
theorem aV_sum {v : Nat → Rat} {o : List Int} {n : Nat} (h : o.Perm (nums n)) : ∀ i, i ≤ n → sm n (aV v o i) = v (ps o i) - v 0
  | 0, _ => by
    rw [sm_congr (f := aV v o 0) (g := fun _ => 0) (fun j _ => rfl), sm_zero, ps, Rat.sub_self]
  | i + 1, hi => by
    have hl := h.length_eq
    simp at hl
    have hx := nums_mem.1 (h.mem_iff.1 (show ix o i ∈ o by
      have : ix o i = o[i] := by simp [ix, show i < o.length by omega]
      rw [this]; exact List.getElem_mem _))
    obtain ⟨q, hq⟩ : ∃ q : Nat, ix o i = (q : Int) := ⟨(ix o i).toNat, by omega⟩
    have hz : aV v o i q = 0 := by
      refine aV_none i q (by omega) ?_
      have hnd : o.Nodup := h.symm.nodup (nums_nodup n)
      have : (o.take (i + 1)).Nodup := hnd.sublist (List.take_sublist _ _)
      rw [take_ix (by omega : i < o.length), List.nodup_append] at this
      intro hm
      exact this.2.2 _ hm _ (by simp) hq.symm
    rw [sm_congr (g := fun p => if p = q then v (ps o (i + 1)) - v (ps o i) else aV v o i p) (fun j _ => by
      rw [aV, hq]
      by_cases c : j = q
      · rw [if_pos (by omega), if_pos c]
      · rw [if_neg (by omega), if_neg c]), sm_upd (by omega), aV_sum h i (by omega), hz]
    grind
end Go.Proofs.YtnmbpainnkdonaaGreatDoor
