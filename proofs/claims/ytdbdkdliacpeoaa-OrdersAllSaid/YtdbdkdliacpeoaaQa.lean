/- Orders: the plain loops over numbers. -/
import Derived.Test.YtdbdkdliacpeoaaRd
import Derived.Test.YtdbdkdliacpeoaaRe
import Derived.Test.YtdbdkdliacpeoaaIr
set_option linter.unusedSimpArgs false
set_option linter.unusedVariables false
namespace Go.Proofs.Ytdbdkdliacpeoaa
open Go Go.Proofs.R
set_option maxRecDepth 10000
section
variable {nv : R.Nv}
/-- The first numbers. -/
def iot (n : Nat) : List Int := (List.range n).map fun (j : Nat) => (j : Int)
theorem iot_succ (n : Nat) : iot (n + 1) = iot n ++ [(n : Int)] := by simp [iot, List.range_succ]
@[simp] theorem iot_len (n : Nat) : (iot n).length = n := by simp [iot]
theorem first_loop (n : Nat) (hn : n ≤ 1000000) : ∃ x e μ, EX ip nv (.code (.loop [] [] orders_First.b0) [(3, .own 3 1 0 0), (5, .d (.int .i64 (n : Int))), (6, .d (.int .i64 0))] [(3, ⟨0, false, []⟩)]) = some (.st x e μ) ∧ x ≠ .normal ∧
    x = .exit 0 ∧ e = [(3, .own 3 1 0 n), (5, .d (.int .i64 (n : Int))), (6, .d (.int .i64 (n : Int))), (7, .d (.bool false))] ∧ μ = [(3, ⟨0, false, el (iot n)⟩)] := by
  refine loop_n n (fun i e μ => ∃ l : List Int, l = iot i ∧ e = [(3, .own 3 1 0 i), (5, .d (.int .i64 (n : Int))), (6, .d (.int .i64 (i : Int)))] ∧ μ = [(3, ⟨0, false, el l⟩)]) ?_ ?_ ⟨[], rfl, rfl, rfl⟩
  · rintro i e μ hi ⟨l, hl, rfl, rfl⟩
    have hll : l.length = i := by rw [hl]; simp
    refine .inl ⟨_, _, ?_, l ++ [(i : Int)], by rw [hl, iot_succ], rfl, rfl⟩
    have ht : l.take i = l := List.take_of_length_le (by omega)
    simp (disch := omega) [orders_First.b0, hi, ht]
  · rintro e μ ⟨l, hl, rfl, rfl⟩
    subst hl
    exact ⟨_, _, _, by simp [orders_First.b0] <;> rfl, by simp, rfl, rfl, rfl⟩
theorem first_ev (n : Int) (hn : n ≤ 1000000) : EX ip nv (.call F.orders_First [.d (.int .i64 n)] []) = some (.ret (.d (.sl 1 (el (iot n.toNat)))) []) := by
  rw [S_call orders_First.ip rfl]
  by_cases h : 0 ≤ n
  · obtain ⟨m, rfl⟩ := Int.eq_ofNat_of_zero_le h
    obtain ⟨_, _, _, hr, -, rfl, rfl, rfl⟩ := first_loop (nv := nv) m (by omega)
    have := iot_len m
    simp (disch := simp) [orders_First, hr]
  · have h0 : n.toNat = 0 := by omega
    have h1 : ¬ (0 : Int) < n := by omega
    have hr : EX ip nv (.code (.loop [] [] orders_First.b0) [(3, .own 3 1 0 0), (5, .d (.int .i64 n)), (6, .d (.int .i64 0))] [(3, ⟨0, false, []⟩)]) =
      some (.st (.exit 0) [(3, .own 3 1 0 0), (5, .d (.int .i64 n)), (6, .d (.int .i64 0)), (7, .d (.bool false))] [(3, ⟨0, false, []⟩)]) := by
      rw [R_loop]
      simp [orders_First.b0, h1]
    simp [orders_First, hr, h0, iot]
theorem few21_ev (l : List Int) (hl : l.length ≤ maxLen) : EX ip nv (.call F.dendronlaw21_few [.d (.sl 1 (el l))] []) = some (.ret (.d (.sl 1 (el (l.take 12)))) []) := by
  rw [S_call dendronlaw21_few.ip rfl]
  by_cases h : (12 : Int) < l.length
  · simp (disch := omega) [dendronlaw21_few, h]
  · have : l.take 12 = l := List.take_of_length_le (by omega)
    simp (disch := omega) [dendronlaw21_few, h, this]
theorem drop_ix {α : Type} [Inhabited α] {l : List α} {i : Nat} (h : i < l.length) : l.drop i = ix l i :: l.drop (i + 1) := by
  rw [List.drop_eq_getElem_cons h]; simp [ix, h]
theorem take_ix {α : Type} [Inhabited α] {l : List α} {i : Nat} (h : i < l.length) : l.take (i + 1) = l.take i ++ [ix l i] := by
  rw [List.take_add_one, ix_in h]; rfl
theorem same21_ev (a b : List Int) (ha : a.length ≤ 1000000) (hb : b.length ≤ 1000000) : EX ip nv (.call F.dendronlaw21_same [.d (.sl 1 (el a)), .d (.sl 1 (el b))] []) = some (.ret (.d (.bool (decide (a = b)))) []) := by
  rw [S_call dendronlaw21_same.ip rfl]
  by_cases h : a.length = b.length
  · obtain ⟨x, e, μ, hr, -, hp⟩ : ∃ x e μ, EX ip nv (.code (.loop [] [] dendronlaw21_same.b0) [(0, .d (.sl 1 (el a))), (1, .d (.sl 1 (el b))), (5, .d (.int .i64 0))] []) = some (.st x e μ) ∧ x ≠ .normal ∧
        ((∃ v w, x = .exit 0 ∧ e = [(0, .d (.sl 1 (el a))), (1, .d (.sl 1 (el b))), (5, v), (14, w)] ∧ μ = [] ∧ a = b) ∨ (x = .ret ∧ e = [(4, .d (.bool false))] ∧ μ = [] ∧ a ≠ b)) := by
      refine loop_n a.length (fun i e μ => e = [(0, .d (.sl 1 (el a))), (1, .d (.sl 1 (el b))), (5, .d (.int .i64 (i : Int)))] ∧ μ = [] ∧ a.take i = b.take i) ?_ ?_ ⟨rfl, rfl, rfl⟩
      · rintro i e μ hi ⟨rfl, rfl, he⟩
        by_cases hc : ix a i = ix b i
        · refine .inl ⟨_, _, ?_, rfl, rfl, ?_⟩
          · simp (disch := omega) [dendronlaw21_same.b0, hi, hc]
          · rw [take_ix hi, take_ix (by omega), he, hc]
        · refine .inr ⟨_, _, _, by simp (disch := omega) [dendronlaw21_same.b0, hi, hc] <;> first | rfl | exact ⟨rfl, rfl⟩ | exact ⟨rfl, rfl, rfl⟩, by simp, .inr ⟨rfl, rfl, rfl, ?_⟩⟩
          rintro rfl; exact hc rfl
      · rintro e μ ⟨rfl, rfl, he⟩
        refine ⟨_, _, _, by simp [dendronlaw21_same.b0] <;> first | rfl | exact ⟨rfl, rfl⟩ | exact ⟨rfl, rfl, rfl⟩, by simp, .inl ⟨_, _, rfl, rfl, rfl, ?_⟩⟩
        rwa [List.take_of_length_le (Nat.le_refl _), List.take_of_length_le (by omega)] at he
    rcases hp with ⟨v, w, rfl, rfl, rfl, rfl⟩ | ⟨rfl, rfl, rfl, hne⟩
    · simp (disch := omega) [dendronlaw21_same, hr]
    · have h' : (a.length : Int) = b.length := by omega
      simp (disch := omega) [dendronlaw21_same, h', hr, hne]
  · have h' : ¬ (a.length : Int) = b.length := by omega
    have : a ≠ b := by rintro rfl; exact h rfl
    simp (disch := omega) [dendronlaw21_same, h', this]
theorem less21_ev (a b : List Int) (ha : a.length ≤ 1000000) (hab : a.length ≤ b.length) : EX ip nv (.call F.dendronlaw21_less [.d (.sl 1 (el a)), .d (.sl 1 (el b))] []) = some (.ret (.d (.bool (lessL a b))) []) := by
  rw [S_call dendronlaw21_less.ip rfl]
  obtain ⟨x, e, μ, hr, -, hp⟩ : ∃ x e μ, EX ip nv (.code (.loop [] [] dendronlaw21_less.b0) [(0, .d (.sl 1 (el a))), (1, .d (.sl 1 (el b))), (5, .d (.int .i64 0))] []) = some (.st x e μ) ∧ x ≠ .normal ∧
      ((∃ v w, x = .exit 0 ∧ e = [(0, .d (.sl 1 (el a))), (1, .d (.sl 1 (el b))), (5, v), (9, w)] ∧ μ = [] ∧ lessL a b = false) ∨ (x = .ret ∧ e = [(4, .d (.bool (lessL a b)))] ∧ μ = [])) := by
    refine loop_n a.length (fun i e μ => e = [(0, .d (.sl 1 (el a))), (1, .d (.sl 1 (el b))), (5, .d (.int .i64 (i : Int)))] ∧ μ = [] ∧ lessL a b = lessL (a.drop i) (b.drop i)) ?_ ?_ ⟨rfl, rfl, rfl⟩
    · rintro i e μ hi ⟨rfl, rfl, he⟩
      have e2 : ∀ (x y : Int) (p q : List Int), lessL (x :: p) (y :: q) = if x < y then true else if y < x then false else lessL p q := fun _ _ _ _ => rfl
      rw [drop_ix hi, drop_ix (l := b) (i := i) (by omega), e2] at he
      by_cases hc : ix a i < ix b i
      · rw [if_pos hc] at he
        exact .inr ⟨_, _, _, by simp (disch := omega) [dendronlaw21_less.b0, hi, hc] <;> first | rfl | exact ⟨rfl, rfl⟩ | exact ⟨rfl, rfl, rfl⟩, by simp, .inr ⟨rfl, by rw [he], rfl⟩⟩
      · rw [if_neg hc] at he
        by_cases hd : ix b i < ix a i
        · rw [if_pos hd] at he
          exact .inr ⟨_, _, _, by simp (disch := omega) [dendronlaw21_less.b0, hi, hc, hd] <;> first | rfl | exact ⟨rfl, rfl⟩ | exact ⟨rfl, rfl, rfl⟩, by simp, .inr ⟨rfl, by rw [he], rfl⟩⟩
        · rw [if_neg hd] at he
          refine .inl ⟨_, _, ?_, rfl, rfl, he⟩
          simp (disch := omega) [dendronlaw21_less.b0, hi, hc, hd]
    · rintro e μ ⟨rfl, rfl, he⟩
      refine ⟨_, _, _, by simp [dendronlaw21_less.b0] <;> first | rfl | exact ⟨rfl, rfl⟩ | exact ⟨rfl, rfl, rfl⟩, by simp, .inl ⟨_, _, rfl, rfl, rfl, ?_⟩⟩
      rw [he, List.drop_of_length_le (Nat.le_refl _)]
      rfl
  rcases hp with ⟨v, w, rfl, rfl, rfl, h⟩ | ⟨rfl, rfl, rfl⟩
  · simp (disch := omega) [dendronlaw21_less, hr, h]
  · simp (disch := omega) [dendronlaw21_less, hr]
theorem alike_in (a b : List Int) (i : Nat) (x : Int) (hi : i < a.length) (hx : ix a i = x) (ha : a.length ≤ 1000000) (hb : b.length = a.length) : ∃ y e μ, EX ip nv (.code (.loop [] [] dendronlaw21_alike.b2) [(0, .d (.sl 1 (el a))), (1, .d (.sl 1 (el b))), (5, .d (.int .i64 (i : Int))), (6, .d (.int .i64 0)), (7, .d (.int .i64 0)), (8, .d (.int .i64 0))] []) = some (.st y e μ) ∧ y ≠ .normal ∧
    ∃ v w, y = .exit 2 ∧ e = [(0, .d (.sl 1 (el a))), (1, .d (.sl 1 (el b))), (5, .d (.int .i64 (i : Int))), (6, .d (.int .i64 ((a.count x : Nat) : Int))), (7, .d (.int .i64 ((b.count x : Nat) : Int))), (8, v), (23, w)] ∧ μ = [] := by
  refine loop_n a.length (fun k e μ => ∃ m n : Nat, e = [(0, .d (.sl 1 (el a))), (1, .d (.sl 1 (el b))), (5, .d (.int .i64 (i : Int))), (6, .d (.int .i64 (m : Int))), (7, .d (.int .i64 (n : Int))), (8, .d (.int .i64 (k : Int)))] ∧ μ = [] ∧ m = (a.take k).count x ∧ n = (b.take k).count x) ?_ ?_ ⟨0, 0, rfl, rfl, by simp, by simp⟩
  · rintro k e μ hk ⟨m, n, rfl, rfl, hm, hn⟩
    have l1 : m ≤ k := by rw [hm]; exact Nat.le_trans List.count_le_length (by simp; omega)
    have l2 : n ≤ k := by rw [hn]; exact Nat.le_trans List.count_le_length (by simp; omega)
    have e1 : (a.take (k + 1)).count x = m + if ix a k = x then 1 else 0 := by
      rw [take_ix hk, List.count_append, ← hm]; simp [List.count_singleton]
    have e2 : (b.take (k + 1)).count x = n + if ix b k = x then 1 else 0 := by
      rw [take_ix (by omega), List.count_append, ← hn]; simp [List.count_singleton]
    refine .inl ⟨_, _, ?_, m + (if ix a k = x then 1 else 0), n + (if ix b k = x then 1 else 0), rfl, rfl, e1.symm, e2.symm⟩
    by_cases c1 : ix a k = x
    · by_cases c2 : ix b k = x
      · simp (disch := omega) [dendronlaw21_alike.b2, hk, hx, c1, c2]
      · simp (disch := omega) [dendronlaw21_alike.b2, hk, hx, c1, c2]
    · by_cases c2 : ix b k = x
      · simp (disch := omega) [dendronlaw21_alike.b2, hk, hx, c1, c2]
      · simp (disch := omega) [dendronlaw21_alike.b2, hk, hx, c1, c2]
  · rintro e μ ⟨m, n, rfl, rfl, hm, hn⟩
    rw [List.take_of_length_le (Nat.le_refl _)] at hm
    rw [List.take_of_length_le (by omega)] at hn
    subst hm hn
    exact ⟨.exit 2, _, [], by simp [dendronlaw21_alike.b2], by simp, .d (.int .i64 (a.length : Int)), .d (.bool false), rfl, rfl, rfl⟩
/-- Have two lists the same numbers, each as often? -/
def alikeB (a b : List Int) : Bool := decide (a.Perm b)
theorem alike21_ev (a b : List Int) (ha : a.length ≤ 1000000) (hb : b.length ≤ 1000000) : EX ip nv (.call F.dendronlaw21_alike [.d (.sl 1 (el a)), .d (.sl 1 (el b))] []) = some (.ret (.d (.bool (alikeB a b))) []) := by
  rw [S_call dendronlaw21_alike.ip rfl]
  unfold alikeB
  by_cases h : a.length = b.length
  · obtain ⟨x, e, μ, hr, -, hp⟩ : ∃ x e μ, EX ip nv (.code (.loop [] [] dendronlaw21_alike.b0) [(0, .d (.sl 1 (el a))), (1, .d (.sl 1 (el b))), (5, .d (.int .i64 0))] []) = some (.st x e μ) ∧ x ≠ .normal ∧
        ((∃ v w, x = .exit 0 ∧ e = [(0, .d (.sl 1 (el a))), (1, .d (.sl 1 (el b))), (5, v), (17, w)] ∧ μ = [] ∧ a.Perm b) ∨ (x = .ret ∧ e = [(4, .d (.bool false))] ∧ μ = [] ∧ ¬ a.Perm b)) := by
      refine loop_n a.length (fun i e μ => e = [(0, .d (.sl 1 (el a))), (1, .d (.sl 1 (el b))), (5, .d (.int .i64 (i : Int)))] ∧ μ = [] ∧ ∀ x ∈ a.take i, a.count x = b.count x) ?_ ?_ ⟨rfl, rfl, by simp⟩
      · rintro i e μ hi ⟨rfl, rfl, he⟩
        obtain ⟨_, _, _, hl, -, v, w, rfl, rfl, rfl⟩ := alike_in (nv := nv) a b i (ix a i) hi rfl ha h.symm
        by_cases hc : a.count (ix a i) = b.count (ix a i)
        · refine .inl ⟨_, _, ?_, rfl, rfl, ?_⟩
          · simp (disch := omega) [dendronlaw21_alike.b0, hi, hl, hc]
          · intro x hx
            rw [take_ix hi] at hx
            rcases List.mem_append.1 hx with hx | hx
            · exact he x hx
            · rw [List.mem_singleton] at hx; subst hx; exact hc
        · have hc' : ¬ ((a.count (ix a i) : Nat) : Int) = ((b.count (ix a i) : Nat) : Int) := by omega
          refine .inr ⟨.ret, [(4, .d (.bool false))], [], by simp (disch := omega) [dendronlaw21_alike.b0, hi, hl, hc'], by simp, .inr ⟨rfl, rfl, rfl, fun hp => hc (hp.count_eq _)⟩⟩
      · rintro e μ ⟨rfl, rfl, he⟩
        refine ⟨_, _, _, by simp [dendronlaw21_alike.b0] <;> first | rfl | exact ⟨rfl, rfl⟩ | exact ⟨rfl, rfl, rfl⟩, by simp, .inl ⟨_, _, rfl, rfl, rfl, ?_⟩⟩
        rw [List.take_of_length_le (Nat.le_refl _)] at he
        exact perm_of_counts h he
    rcases hp with ⟨v, w, rfl, rfl, rfl, hq⟩ | ⟨rfl, rfl, rfl, hne⟩
    · have h' : (a.length : Int) = b.length := by omega
      simp (disch := omega) [dendronlaw21_alike, h', hr, hq]
    · have h' : (a.length : Int) = b.length := by omega
      simp (disch := omega) [dendronlaw21_alike, h', hr, hne]
  · have h' : ¬ (a.length : Int) = b.length := by omega
    have : ¬ a.Perm b := fun hp => h hp.length_eq
    simp (disch := omega) [dendronlaw21_alike, h', this]
end
end Go.Proofs.Ytdbdkdliacpeoaa
