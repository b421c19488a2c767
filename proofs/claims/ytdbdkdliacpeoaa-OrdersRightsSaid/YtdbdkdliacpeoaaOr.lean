/- OrdersRights: the law evaluated. -/
import Derived.Test.YtdbdkdliacpeoaaVa
import Derived.Test.YtdbdkdliacpeoaaMp
set_option linter.unusedSimpArgs false
set_option linter.unusedVariables false
namespace Go.Proofs.Ytdbdkdliacpeoaa
open Go Go.Proofs.R
set_option maxRecDepth 10000
/-- A list without doubles within another one that is not longer: the other one's numbers. -/
theorem perm_of : ∀ {a b : List Int}, a.Nodup → (∀ x ∈ a, x ∈ b) → b.length ≤ a.length → a.Perm b
  | [], b, _, _, hl => by
    have : b = [] := List.length_eq_zero_iff.1 (by simpa using hl)
    rw [this]
  | x :: r, b, hn, hs, hl => by
    have hx : x ∈ b := hs x (by simp)
    have hn' := List.nodup_cons.1 hn
    have hb := List.perm_cons_erase hx
    have hlen := hb.length_eq
    simp only [List.length_cons] at hlen hl
    refine (List.Perm.cons x (perm_of hn'.2 (fun y hy => ?_) (by omega))).trans hb.symm
    have hy' := hs y (by simp [hy])
    rw [List.mem_erase_of_ne (by intro h; subst h; exact hn'.1 hy)]
    exact hy'
/-- The numbers below one. -/
def nums (n : Nat) : List Int := (List.range n).map fun (j : Nat) => (j : Int)
@[simp] theorem nums_len (n : Nat) : (nums n).length = n := by simp [nums]
theorem nums_mem {n : Nat} {x : Int} : x ∈ nums n ↔ 0 ≤ x ∧ x < (n : Int) := by
  simp only [nums, List.mem_map, List.mem_range]
  constructor
  · rintro ⟨j, hj, rfl⟩; omega
  · intro h; exact ⟨x.toNat, by omega, by omega⟩
theorem nums_nodup (n : Nat) : (nums n).Nodup := by
  unfold nums
  rw [List.nodup_iff_pairwise_ne, List.pairwise_map]
  exact (List.nodup_iff_pairwise_ne.1 List.nodup_range).imp (by intro a b h; omega)
theorem okP_iff (n : Int) (l : List Int) : ∀ j, j ≤ l.length → (okP n l j = true ↔ (l.take j).Nodup ∧ ∀ x ∈ l.take j, 0 ≤ x ∧ x < n)
  | 0, _ => by simp [okP]
  | j + 1, h => by
    rw [okP_succ, Bool.and_eq_true, okP_iff n l j (by omega), take_ix (by omega : j < l.length)]
    simp only [okAt, Bool.and_eq_true, decide_eq_true_eq, Bool.not_eq_true', List.contains_eq_mem, decide_eq_false_iff_not, List.mem_append, List.mem_singleton]
    rw [List.nodup_append]
    constructor
    · rintro ⟨⟨h1, h2⟩, ⟨h3, h4⟩, h5⟩
      refine ⟨⟨h1, by simp, fun a ha b hb => ?_⟩, fun x hx => ?_⟩
      · rw [List.mem_singleton] at hb
        subst hb
        intro he
        subst he
        exact h5 ha
      · rcases hx with hx | rfl
        · exact h2 x hx
        · exact ⟨h3, h4⟩
    · rintro ⟨⟨h1, -, h3⟩, h4⟩
      exact ⟨⟨h1, fun x hx => h4 x (.inl hx)⟩, h4 _ (.inr rfl), fun hm => h3 _ hm _ (by simp) rfl⟩
theorem rightO_perm {l : List Int} {n : Nat} : rightO l (n : Int) = true ↔ l.Perm (nums n) := by
  have e := okP_iff (n : Int) l l.length (Nat.le_refl _)
  rw [List.take_of_length_le (Nat.le_refl _)] at e
  simp only [rightO, Bool.and_eq_true, decide_eq_true_eq, e]
  constructor
  · rintro ⟨⟨-, h2⟩, h3, h4⟩
    exact perm_of h3 (fun x hx => nums_mem.2 (h4 x hx)) (by simp; omega)
  · intro h
    have hl := h.length_eq
    simp at hl
    exact ⟨⟨by omega, by omega⟩, h.symm.nodup (nums_nodup n), fun x hx => nums_mem.1 (h.mem_iff.1 hx)⟩
theorem rightB_perm {l : List Int} {n : Nat} : rightB l n = true ↔ l.Perm (nums n) := by
  simp only [rightB, Bool.and_eq_true, decide_eq_true_eq, List.all_eq_true, List.mem_range, beq_iff_eq]
  constructor
  · rintro ⟨h1, h2⟩
    refine (perm_of (nums_nodup n) (fun x hx => ?_) (by simp; omega)).symm
    obtain ⟨a, b⟩ := nums_mem.1 hx
    have := h2 x.toNat (by omega)
    rw [show ((x.toNat : Nat) : Int) = x by omega] at this
    exact List.count_pos_iff.1 (by omega)
  · intro h
    have hl := h.length_eq
    simp at hl
    refine ⟨hl, fun i hi => ?_⟩
    rw [h.count_eq, (nums_nodup n).count, if_pos (nums_mem.2 (by omega))]
theorem rightOB (l : List Int) (n : Nat) : rightO l (n : Int) = rightB l n := by
  rw [Bool.eq_iff_iff, rightO_perm, rightB_perm]
section
variable {nv : R.Nv}
theorem right21_int (o : List Int) (n : Int) (ho : o.length ≤ 1000000) : EX ip nv (.call F.dendronlaw21_right [.d (.sl 1 (el o)), .d (.int .i64 n)] []) = some (.ret (.d (.bool (rightO o n))) []) := by
  by_cases h : (o.length : Int) = n
  · subst h
    rw [right21_ev o o.length ho, rightOB]
  · rw [S_call dendronlaw21_right.ip rfl]
    have : rightO o n = false := by simp [rightO, h]
    simp (disch := omega) [dendronlaw21_right, h, this]
theorem rev_ix {l : List Int} {i : Nat} (h : i < l.length) : ix l.reverse (l.length - 1 - i) = ix l i := by
  simp only [ix, List.getD_eq_getElem?_getD]
  rw [List.getElem?_reverse (by omega)]
  congr 2; omega
theorem back_ev (o : List Int) (ho : o.length ≤ 1000000) : EX ip nv (.call F.orders_Back [.d (.sl 1 (el o))] []) = some (.ret (.d (.sl 1 (el o.reverse))) []) := by
  rw [S_call orders_Back.ip rfl]
  obtain ⟨x, e, μ, hr, -, rfl, rfl, rfl⟩ : ∃ x e μ, EX ip nv (.code (.loop [] [] orders_Back.b0) [(0, .d (.sl 1 (el o))), (3, .own 3 1 0 0), (4, .d (.int .i64 ((o.length : Int) - 1)))] [(3, ⟨0, false, []⟩)]) = some (.st x e μ) ∧ x ≠ .normal ∧
      x = .exit 0 ∧ e = [(0, .d (.sl 1 (el o))), (3, .own 3 1 0 o.length), (4, .d (.int .i64 (-1))), (9, .d (.bool false))] ∧ μ = [(3, ⟨0, false, el o.reverse⟩)] := by
    refine loop_n o.length (fun i e μ => ∃ l : List Int, l = o.reverse.take i ∧ e = [(0, .d (.sl 1 (el o))), (3, .own 3 1 0 i), (4, .d (.int .i64 ((o.length : Int) - 1 - (i : Int))))] ∧ μ = [(3, ⟨0, false, el l⟩)]) ?_ ?_ ⟨[], by simp, by simp, rfl⟩
    · rintro i e μ hi ⟨l, hl, rfl, rfl⟩
      have hll : l.length = i := by rw [hl]; simp; omega
      have ht : l.take i = l := List.take_of_length_le (by omega)
      have e1 : o.reverse.take (i + 1) = l ++ [ix o (o.length - 1 - i)] := by
        rw [take_ix (by simp; exact hi), ← hl]
        congr 2
        have := rev_ix (l := o.reverse) (i := i) (by simpa using hi)
        simpa using this.symm
      obtain ⟨j, hj⟩ : ∃ j : Nat, j = o.length - 1 - i := ⟨_, rfl⟩
      have e2 : (o.length : Int) - 1 - (i : Int) = (j : Int) := by omega
      have e3 : (o.length : Int) - 1 - ((i + 1 : Nat) : Int) = (j : Int) - 1 := by omega
      rw [← hj] at e1
      rw [e2, e3]
      refine .inl ⟨_, _, ?_, l ++ [ix o j], e1.symm, rfl, rfl⟩
      simp (disch := omega) [orders_Back.b0, hi, ht]
    · rintro e μ ⟨l, hl, rfl, rfl⟩
      have : l = o.reverse := by rw [hl]; exact List.take_of_length_le (by simp)
      subst this
      have e2 : (o.length : Int) - 1 - (o.length : Int) = -1 := by omega
      rw [e2]
      exact ⟨_, _, _, by simp [orders_Back.b0] <;> rfl, by simp, rfl, rfl, rfl⟩
  have hl : o.reverse.length = o.length := by simp
  generalize o.reverse = b at *
  simp (disch := omega) [orders_Back, hr]
theorem rights_ev {nv : R.Nv} (o : List Int) (n : Int) (ho : o.length ≤ maxLen) (hn : In64 n) (hx : ∀ x ∈ o, In64 x) : EX ip (nvR nv) (.call F.dendronlaw21_OrdersRights [.d (.sl 1 (el o)), .d (.int .i64 n)] []) = some (.ret (.d (.bool true)) []) := by
  rw [S_call dendronlaw21_OrdersRights.ip rfl]
  have f1 := few21_ev (nv := nvR nv) o ho
  have hal : (o.take 12).length ≤ 12 := by simp; omega
  have hx' : ∀ x ∈ o.take 12, In64 x := fun x h => hx x (List.mem_of_mem_take h)
  generalize o.take 12 = a at *
  have bk := back_ev (nv := nvR nv) a (by omega)
  have r1 := right21_int (nv := nvR nv) a n (by omega)
  have r2 := oright_ev (nv := nv) a n (by omega) hn hx'
  have aw := awake21_ev (nv := nvR nv)
  have hrl : a.reverse.length = a.length := by simp
  obtain ⟨x, e, μ, hr, -, v, rfl, rfl, rfl⟩ : ∃ x e μ, EX ip (nvR nv) (.code (.loop [] [] dendronlaw21_OrdersRights.b0) [(0, .d (.sl 1 (el a))), (1, .d (.int .i64 n)), (5, .d (.sl 1 (el a.reverse))), (6, .d (.int .i64 0))] []) = some (.st x e μ) ∧ x ≠ .normal ∧
      ∃ v, x = .exit 0 ∧ e = [(0, .d (.sl 1 (el a))), (1, .d (.int .i64 n)), (5, .d (.sl 1 (el a.reverse))), (6, v), (19, .d (.bool false))] ∧ μ = [] := by
    refine loop_n a.length (fun i e μ => e = [(0, .d (.sl 1 (el a))), (1, .d (.int .i64 n)), (5, .d (.sl 1 (el a.reverse))), (6, .d (.int .i64 (i : Int)))] ∧ μ = []) ?_ ?_ ⟨rfl, rfl⟩
    · rintro i e μ hi ⟨rfl, rfl⟩
      refine .inl ⟨_, _, ?_, rfl, rfl⟩
      have e1 := rev_ix (l := a) (i := i) hi
      obtain ⟨j, hj⟩ : ∃ j : Nat, j = a.length - 1 - i := ⟨_, rfl⟩
      have e2 : (a.length : Int) - 1 - (i : Int) = (j : Int) := by omega
      rw [← hj] at e1
      simp (disch := (first | omega | (simp; omega))) [dendronlaw21_OrdersRights.b0, hi, e2, e1]
    · rintro e μ ⟨rfl, rfl⟩
      exact ⟨_, _, _, by simp [dendronlaw21_OrdersRights.b0] <;> rfl, by simp, _, rfl, rfl, rfl⟩
  generalize a.reverse = b at *
  have hbl : (b.length : Int) = a.length := by omega
  generalize rightO a n = t at *
  cases t <;> simp (disch := omega) [dendronlaw21_OrdersRights, f1, bk, r1, r2, aw, hr, hbl]
end
end Go.Proofs.Ytdbdkdliacpeoaa
