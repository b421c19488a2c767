/- The statements' own functions of layer 21: few, right, awake. -/
import Derived.Test.YtnmbpainnkdonaaDoorRf
import Derived.Test.YtnmbpainnkdonaaDoorIr
set_option linter.unusedSimpArgs false
set_option linter.unusedVariables false
namespace Go.Proofs.YtnmbpainnkdonaaDoor
open Go Go.Proofs.R
set_option maxRecDepth 10000
theorem drop_ix {α : Type} [Inhabited α] {l : List α} {i : Nat} (h : i < l.length) : l.drop i = ix l i :: l.drop (i + 1) := by
  rw [List.drop_eq_getElem_cons h]; simp [ix, h]
theorem take_ix {α : Type} [Inhabited α] {l : List α} {i : Nat} (h : i < l.length) : l.take (i + 1) = l.take i ++ [ix l i] := by
  rw [List.take_add_one, ix_in h]; rfl
def rightB (o : List Int) (n : Nat) : Bool := decide (o.length = n) && (List.range n).all fun (i : Nat) => o.count (i : Int) == 1
section
variable {nv : R.Nv}
theorem few21_ev (l : List Int) (hl : l.length ≤ maxLen) : EX ip nv (.call F.dendronlaw21_few [.d (.sl 1 (el l))] []) = some (.ret (.d (.sl 1 (el (l.take 12)))) []) := by
  rw [S_call dendronlaw21_few.ip rfl]
  by_cases h : (12 : Int) < l.length
  · simp (disch := omega) [dendronlaw21_few, h]
  · have : l.take 12 = l := List.take_of_length_le (by omega)
    simp (disch := omega) [dendronlaw21_few, h, this]
theorem right_in (o : List Int) (n i : Nat) (ho : o.length ≤ 1000000) : ∃ y e μ, EX ip nv (.code (.loop [] [] dendronlaw21_right.b2) [(0, .d (.sl 1 (el o))), (1, .d (.int .i64 (n : Int))), (5, .d (.int .i64 (i : Int))), (6, .d (.int .i64 0)), (7, .d (.int .i64 0))] []) = some (.st y e μ) ∧ y ≠ .normal ∧
    ∃ v w, y = .exit 2 ∧ e = [(0, .d (.sl 1 (el o))), (1, .d (.int .i64 (n : Int))), (5, .d (.int .i64 (i : Int))), (6, .d (.int .i64 ((o.count (i : Int) : Nat) : Int))), (7, v), (20, w)] ∧ μ = [] := by
  refine loop_n o.length (fun k e μ => ∃ m : Nat, e = [(0, .d (.sl 1 (el o))), (1, .d (.int .i64 (n : Int))), (5, .d (.int .i64 (i : Int))), (6, .d (.int .i64 (m : Int))), (7, .d (.int .i64 (k : Int)))] ∧ μ = [] ∧ m = (o.take k).count (i : Int)) ?_ ?_ ⟨0, rfl, rfl, by simp⟩
  · rintro k e μ hk ⟨m, rfl, rfl, hm⟩
    have l1 : m ≤ k := by rw [hm]; exact Nat.le_trans List.count_le_length (by simp; omega)
    have e1 : (o.take (k + 1)).count (i : Int) = m + if ix o k = (i : Int) then 1 else 0 := by
      rw [take_ix hk, List.count_append, ← hm]; simp [List.count_singleton]
    refine .inl ⟨_, _, ?_, m + (if ix o k = (i : Int) then 1 else 0), rfl, rfl, e1.symm⟩
    by_cases c1 : ix o k = (i : Int)
    · simp (disch := omega) [dendronlaw21_right.b2, hk, c1]
    · simp (disch := omega) [dendronlaw21_right.b2, hk, c1]
  · rintro e μ ⟨m, rfl, rfl, hm⟩
    rw [List.take_of_length_le (Nat.le_refl _)] at hm
    subst hm
    exact ⟨.exit 2, _, [], by simp [dendronlaw21_right.b2], by simp, .d (.int .i64 (o.length : Int)), .d (.bool false), rfl, rfl, rfl⟩
theorem right21_ev (o : List Int) (n : Nat) (ho : o.length ≤ 1000000) : EX ip nv (.call F.dendronlaw21_right [.d (.sl 1 (el o)), .d (.int .i64 (n : Int))] []) = some (.ret (.d (.bool (rightB o n))) []) := by
  rw [S_call dendronlaw21_right.ip rfl]
  by_cases h : o.length = n
  · obtain ⟨x, e, μ, hr, -, hp⟩ : ∃ x e μ, EX ip nv (.code (.loop [] [] dendronlaw21_right.b0) [(0, .d (.sl 1 (el o))), (1, .d (.int .i64 (n : Int))), (5, .d (.int .i64 0))] []) = some (.st x e μ) ∧ x ≠ .normal ∧
        ((∃ v w, x = .exit 0 ∧ e = [(0, .d (.sl 1 (el o))), (1, .d (.int .i64 (n : Int))), (5, v), (14, w)] ∧ μ = [] ∧ rightB o n = true) ∨ (x = .ret ∧ e = [(4, .d (.bool false))] ∧ μ = [] ∧ rightB o n = false)) := by
      refine loop_n n (fun i e μ => e = [(0, .d (.sl 1 (el o))), (1, .d (.int .i64 (n : Int))), (5, .d (.int .i64 (i : Int)))] ∧ μ = [] ∧ ∀ j : Nat, j < i → o.count (j : Int) = 1) ?_ ?_ ⟨rfl, rfl, fun j hj => by omega⟩
      · rintro i e μ hi ⟨rfl, rfl, he⟩
        obtain ⟨_, _, _, hl, -, v, w, rfl, rfl, rfl⟩ := right_in (nv := nv) o n i ho
        by_cases hc : o.count (i : Int) = 1
        · have hc' : ((o.count (i : Int) : Nat) : Int) = 1 := by omega
          refine .inl ⟨_, _, ?_, rfl, rfl, ?_⟩
          · simp (disch := omega) [dendronlaw21_right.b0, hi, hl, hc']
          · intro j hj
            by_cases e : j = i
            · subst e; exact hc
            · exact he j (by omega)
        · have hc' : ¬ ((o.count (i : Int) : Nat) : Int) = 1 := by omega
          refine .inr ⟨.ret, [(4, .d (.bool false))], [], by simp (disch := omega) [dendronlaw21_right.b0, hi, hl, hc'], by simp, .inr ⟨rfl, rfl, rfl, ?_⟩⟩
          simp only [rightB, Bool.and_eq_false_iff]
          right
          rw [List.all_eq_false]
          exact ⟨i, by simpa using hi, by simpa using hc⟩
      · rintro e μ ⟨rfl, rfl, he⟩
        refine ⟨.exit 0, _, [], by simp [dendronlaw21_right.b0] <;> rfl, by simp, .inl ⟨.d (.int .i64 (n : Int)), .d (.bool false), rfl, rfl, rfl, ?_⟩⟩
        simp only [rightB, h, decide_true, Bool.true_and, List.all_eq_true, List.mem_range, beq_iff_eq]
        exact fun j hj => he j hj
    have h' : (o.length : Int) = n := by omega
    rcases hp with ⟨v, w, rfl, rfl, rfl, hq⟩ | ⟨rfl, rfl, rfl, hq⟩
    · simp (disch := omega) [dendronlaw21_right, h', hr, hq]
    · simp (disch := omega) [dendronlaw21_right, h', hr, hq]
  · have h' : ¬ (o.length : Int) = n := by omega
    have : rightB o n = false := by simp [rightB, h]
    simp (disch := omega) [dendronlaw21_right, h', this]
theorem awake21_ev : EX ip nv (.call F.dendronlaw21_awake [] []) = some (.ret (.d (.bool true)) []) := (EX_some ip nv).2 ⟨1000, by kernel_rfl⟩
end
end Go.Proofs.YtnmbpainnkdonaaDoor
