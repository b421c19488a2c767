/- A number in its form is right. -/
import Derived.Test.YtgigaimaaijalaaGreatDoorOb
import Derived.Test.YtgigaimaaijalaaGreatDoorRf
set_option linter.unusedSimpArgs false
set_option linter.unusedVariables false
namespace Go.Proofs.YtgigaimaaijalaaGreatDoor
open Go Go.Proofs.R
set_option maxRecDepth 10000
section
variable {nv : R.Nv}
/-- May limbs be a number? -/
def rightN (l : List Nat) : Bool := l.all (fun x => decide (x ≤ 4294967295)) && (l.isEmpty || lb l (l.length - 1) != 0)
theorem right_loop (l : List Nat) (hl : l.length ≤ 1099511627776) : ∃ x e μ, EX ip nv (.code (.loop [] [] nat_Right.b0) [(0, .d (.sl 1 (us l))), (5, .d (.sl 1 (us l))), (6, .d (.int .i64 (l.length : Int))), (7, .d (.int .i64 0))] []) = some (.st x e μ) ∧ x ≠ .normal ∧
    μ = [] ∧ ((x = .exit 0 ∧ e = [(0, .d (.sl 1 (us l))), (5, .d (.sl 1 (us l))), (6, .d (.int .i64 (l.length : Int))), (7, .d (.int .i64 (l.length : Int))), (8, .d (.bool false))] ∧ ∀ i, i < l.length → lb l i ≤ 4294967295) ∨ (x = .ret ∧ e = [(2, .d (.bool false))] ∧ ∃ i, i < l.length ∧ ¬ lb l i ≤ 4294967295)) := by
  refine loop_n l.length (fun i e μ => e = [(0, .d (.sl 1 (us l))), (5, .d (.sl 1 (us l))), (6, .d (.int .i64 (l.length : Int))), (7, .d (.int .i64 (i : Int)))] ∧ μ = [] ∧ ∀ j, j < i → lb l j ≤ 4294967295) ?_ ?_ ⟨rfl, rfl, fun j h => by omega⟩
  · rintro i e μ hi ⟨rfl, rfl, hv⟩
    have hi' : (i : Int) < l.length := by omega
    by_cases h : lb l i ≤ 4294967295
    · have h' : ¬ 4294967295 < lb l i := by omega
      refine .inl ⟨[(0, .d (.sl 1 (us l))), (5, .d (.sl 1 (us l))), (6, .d (.int .i64 (l.length : Int))), (7, .d (.int .i64 ((i + 1 : Nat) : Int)))], [], ?_, rfl, rfl, fun j hj => ?_⟩
      · simp (disch := omega) [nat_Right.b0, hi', h']
      · by_cases hji : j = i
        · subst hji; exact h
        · exact hv j (by omega)
    · have h' : 4294967295 < lb l i := by omega
      refine .inr ⟨.ret, [(2, .d (.bool false))], [], ?_, by simp, rfl, .inr ⟨rfl, rfl, i, hi, h⟩⟩
      simp (disch := omega) [nat_Right.b0, hi', h']
  · rintro e μ ⟨rfl, rfl, hv⟩
    exact ⟨.exit 0, _, _, by simp [nat_Right.b0], by simp, rfl, .inl ⟨rfl, rfl, hv⟩⟩
theorem rightN_iff (l : List Nat) : rightN l = true ↔ Cl l ∧ (l = [] ∨ lb l (l.length - 1) ≠ 0) := by
  simp only [rightN, Bool.and_eq_true, List.all_eq_true, decide_eq_true_eq, Bool.or_eq_true, List.isEmpty_iff, bne_iff_ne, ne_eq, Cl]
  constructor
  · rintro ⟨h1, h2⟩; exact ⟨fun x hx => by have := h1 x hx; omega, h2⟩
  · rintro ⟨h1, h2⟩; exact ⟨fun x hx => by have := h1 x hx; omega, h2⟩
theorem rightN_dig (n : Nat) : rightN (dig n) = true := by
  rw [rightN_iff]
  refine ⟨dig_cl n, ?_⟩
  rcases Nat.eq_zero_or_pos n with h | h
  · left; rw [dig_nil]; exact h
  · right; exact dig_last h
theorem nright_ev (l : List Nat) (hl : l.length ≤ 1099511627776) : EX ip nv (.call F.nat_Right [.d (.sl 1 (us l))] []) = some (.ret (.d (.bool (rightN l))) []) := by
  rw [S_call nat_Right.ip rfl]
  obtain ⟨x, e, μ, hr, -, rfl, ⟨rfl, rfl, hv⟩ | ⟨rfl, rfl, i, hi, hv⟩⟩ := right_loop (nv := nv) l hl
  · have hall : l.all (fun x => decide (x ≤ 4294967295)) = true := by
      rw [List.all_eq_true]
      intro x hx
      obtain ⟨i, hi, rfl⟩ := List.getElem_of_mem hx
      have := hv i hi
      rw [← lb_getElem hi] at this
      simpa using this
    cases l with
    | nil => simp [nat_Right, hr, rightN] at hr ⊢
    | cons y r =>
      have hlen : (y :: r).length - 1 < (y :: r).length := by simp
      by_cases h0 : lb (y :: r) ((y :: r).length - 1) = 0
      · have : rightN (y :: r) = false := by simp only [rightN, h0]; simp
        rw [this]
        generalize hl' : y :: r = l at *
        have hne : ¬ l.length = 0 := by rw [← hl']; simp
        have hne' : ¬ l = [] := by rw [← hl']; simp
        simp (disch := omega) [nat_Right, hr, hne, hne', h0]
      · have : rightN (y :: r) = true := by simp only [rightN, hall]; simpa using h0
        rw [this]
        generalize hl' : y :: r = l at *
        have hne : ¬ l.length = 0 := by rw [← hl']; simp
        have hne' : ¬ l = [] := by rw [← hl']; simp
        simp (disch := omega) [nat_Right, hr, hne, hne', h0]
  · have : rightN l = false := by
      cases hb : rightN l with
      | false => rfl
      | true =>
        rw [rightN_iff] at hb
        have := lb_lt hb.1 i
        omega
    rw [this]
    simp [nat_Right, hr]
theorem wRight_ev (neg : Bool) (l : List Nat) (hl : l.length ≤ 1099511627776) : EX ip nv (.call F.whole_Right [.d (.ag [.bool neg, .sl 1 (us l)])] []) = some (.ret (.d (.bool (rightN l && (!l.isEmpty || !neg)))) []) := by
  rw [S_call whole_Right.ip rfl]
  have hr := nright_ev (nv := nv) l hl
  cases hb : rightN l
  · rw [hb] at hr
    simp [whole_Right, hr]
  · rw [hb] at hr
    cases l with
    | nil =>
      simp at hr
      cases neg <;> simp [whole_Right, hr]
    | cons x r =>
      generalize hl' : x :: r = l at *
      have h1 : 0 < l.length := by rw [← hl']; simp
      have h2 : l.isEmpty = false := by rw [← hl']; rfl
      have h3 : (0 : Int) < l.length := by omega
      simp [whole_Right, hr, h1, h2, h3]
theorem rright_c (hz : TzOk nv) (q : Rat) {k : Nat} (h : Bq k q) (hk : k ≤ 1073741824) : EX ip nv (.call F.ratio_Right [.d (.ag (can q).c)] []) = some (.ret (.d (.bool true)) []) := by
  rw [S_call ratio_Right.ip rfl]
  obtain ⟨a1, a2⟩ := len_of h
  have w := wRight_ev (nv := nv) (decide (q.num < 0)) (dig q.num.natAbs) (by omega)
  have e : (rightN (dig q.num.natAbs) && (!(dig q.num.natAbs).isEmpty || !decide (q.num < 0))) = true := by
    rw [rightN_dig]
    by_cases h0 : q.num < 0
    · have : dig q.num.natAbs ≠ [] := by rw [ne_eq, dig_nil]; omega
      simp [this, List.isEmpty_iff]
    · simp [h0]
  rw [e] at w
  have d := nright_ev (nv := nv) (dig q.den) (by omega)
  rw [rightN_dig] at d
  have g := gcd_ev hz (dig q.num.natAbs) (dig q.den) (dig_rw (by omega)) (dig_rw (by omega)) (by omega) (by omega)
  rw [lv_dig, lv_dig, q.reduced, dig_one] at g
  have o := one_ev (nv := nv)
  have c := cmp_ev (nv := nv) [1] [1] ⟨by simp, by simp⟩ ⟨by simp, by simp⟩
  have hne : ¬ dig q.den = [] := by rw [dig_nil]; exact q.den_nz
  simp only [RQ.c, can]
  generalize dig q.den = dd at *
  generalize dig q.num.natAbs = nn at *
  simp (disch := omega) [ratio_Right, w, d, hne, g, o, c, cmpI]
end
end Go.Proofs.YtgigaimaaijalaaGreatDoor
