/- orders.Ahead: the mean over all orders in which, of each pair, the first comes ahead. -/
import Derived.Test.YtnmbpainnkdonaaDoorVd
import Derived.Test.YtnmbpainnkdonaaDoorVn
set_option linter.unusedSimpArgs false
set_option linter.unusedVariables false
namespace Go.Proofs.YtnmbpainnkdonaaDoor
open Go Go.Proofs.R
set_option maxRecDepth 10000
/-- Is a pair out of range? -/
def outP (n : Nat) (p : Int × Int) : Bool := decide (p.1 < 0) || decide ((n : Int) ≤ p.1) || decide (p.2 < 0) || decide ((n : Int) ≤ p.2)
theorem outP_false {n : Nat} {a b : Int} : outP n (a, b) = false ↔ (0 ≤ a ∧ a < n) ∧ (0 ≤ b ∧ b < n) := by
  simp only [outP, Bool.or_eq_false_iff, decide_eq_false_iff_not]
  omega
/-- Of each pair the first comes ahead of the second. -/
def ahd (o : List Int) (p : Int × Int) : Bool := decide (o.idxOf p.1 < o.idxOf p.2)
section
variable {nv : R.Nv}
theorem ahead_b0 (l : List RQ) (ps : List (Int × Int)) (os : List (List Int)) (n : Nat) (hn : n ≤ 5) (hp : ps.length ≤ 1000) :
    ∃ z e μ, EX ip nv (.code (.loop [] [] orders_Ahead.b0) [(0, .d (.sl 3 (el l))), (1, .d (.sl 2 (el ps))), (6, .d (.int .i64 (n : Int))), (8, .d (.sl 1 (el os))), (35, .d (.sl 2 (el ps))), (36, .d (.int .i64 (ps.length : Int))), (37, .d (.int .i64 0))] []) = some (.st z e μ) ∧ z ≠ .normal ∧
    ((z = .exit 0 ∧ e = [(0, .d (.sl 3 (el l))), (1, .d (.sl 2 (el ps))), (6, .d (.int .i64 (n : Int))), (8, .d (.sl 1 (el os))), (35, .d (.sl 2 (el ps))), (36, .d (.int .i64 (ps.length : Int))), (37, .d (.int .i64 (ps.length : Int))), (38, .d (.bool false))] ∧ μ = [] ∧ ∀ j, j < ps.length → outP n (ix ps j) = false) ∨
     (z = .ret ∧ e = [(4, .d (.sl 3 [])), (5, .d (.int .i64 8))] ∧ μ = [] ∧ ∃ j, j < ps.length ∧ outP n (ix ps j) = true)) := by
  refine loop_n ps.length (fun k e μ => e = [(0, .d (.sl 3 (el l))), (1, .d (.sl 2 (el ps))), (6, .d (.int .i64 (n : Int))), (8, .d (.sl 1 (el os))), (35, .d (.sl 2 (el ps))), (36, .d (.int .i64 (ps.length : Int))), (37, .d (.int .i64 (k : Int)))] ∧ μ = [] ∧ ∀ j, j < k → outP n (ix ps j) = false) ?_ ?_ ⟨rfl, rfl, fun j hj => by omega⟩
  · rintro k e μ hk ⟨rfl, rfl, hr⟩
    generalize hq : ix ps k = p at *
    obtain ⟨a, b⟩ := p
    cases c : outP n (a, b)
    · obtain ⟨⟨c1, c2⟩, c3, c4⟩ := outP_false.1 c
      have d1 : ¬ a < 0 := by omega
      have d2 : ¬ (n : Int) ≤ a := by omega
      have d3 : ¬ b < 0 := by omega
      have d4 : ¬ (n : Int) ≤ b := by omega
      refine .inl ⟨_, _, ?_, rfl, rfl, fun j hj => ?_⟩
      · simp (disch := omega) [orders_Ahead.b0, hk, hq, d1, d2, d3, d4]
      · by_cases e : j = k
        · rw [e, hq]; exact c
        · exact hr j (by omega)
    · refine .inr ⟨.ret, _, _, ?_, by simp, .inr ⟨rfl, rfl, rfl, k, hk, by rw [hq]; exact c⟩⟩
      simp only [outP, Bool.or_eq_true, decide_eq_true_eq] at c
      by_cases c1 : a < 0
      · simp (disch := omega) [orders_Ahead.b0, hk, hq, c1]
      · by_cases c2 : (n : Int) ≤ a
        · simp (disch := omega) [orders_Ahead.b0, hk, hq, c1, c2]
        · by_cases c3 : b < 0
          · simp (disch := omega) [orders_Ahead.b0, hk, hq, c1, c2, c3]
          · have c4 : (n : Int) ≤ b := by omega
            simp (disch := omega) [orders_Ahead.b0, hk, hq, c1, c2, c3, c4]
  · rintro e μ ⟨rfl, rfl, hr⟩
    exact ⟨.exit 0, _, [], by simp [orders_Ahead.b0] <;> rfl, by simp, .inl ⟨rfl, rfl, rfl, hr⟩⟩
theorem ixs_same {a : List Int} {i : Nat} {x : Int} (h : i < a.length) : ix (a.set i x) i = x := by
  simp [ix, List.getD_eq_getElem?_getD, h]
theorem ixs_ne {a : List Int} {i j : Nat} {x : Int} (h : i ≠ j) : ix (a.set i x) j = ix a j := by
  simp only [ix, List.getD_eq_getElem?_getD, List.getElem?_set_ne h]
/-- Where each player stands. -/
def Plc (o a : List Int) (n : Nat) : Prop := a.length = n ∧ ∀ p : Int, 0 ≤ p → p < n → ix a p.toNat = (o.idxOf p : Int)
theorem ahead_b4 (l : List RQ) (ps : List (Int × Int)) (os sm : List (List Int)) (o : List Int) (n k : Nat) (hn : n ≤ 5) (hr : rightB o n = true) :
    ∃ z e μ, EX ip nv (.code (.loop [] [] orders_Ahead.b4) [(0, .d (.sl 3 (el l))), (1, .d (.sl 2 (el ps))), (6, .d (.int .i64 (n : Int))), (12, .own 12 1 0 sm.length), (14, .d (.sl 1 (el o))), (15, .own 69 1 0 n), (62, .d (.sl 1 (el os))), (63, .d (.int .i64 (os.length : Int))), (64, .d (.int .i64 (k : Int))), (70, .d (.sl 1 (el o))), (71, .d (.int .i64 (n : Int))), (72, .d (.int .i64 0))] [(12, ⟨0, false, el sm⟩), (69, ⟨0, false, el (List.replicate n (0 : Int))⟩)]) = some (.st z e μ) ∧ z ≠ .normal ∧
    ∃ a, z = .exit 4 ∧ e = [(0, .d (.sl 3 (el l))), (1, .d (.sl 2 (el ps))), (6, .d (.int .i64 (n : Int))), (12, .own 12 1 0 sm.length), (14, .d (.sl 1 (el o))), (15, .own 69 1 0 n), (62, .d (.sl 1 (el os))), (63, .d (.int .i64 (os.length : Int))), (64, .d (.int .i64 (k : Int))), (70, .d (.sl 1 (el o))), (71, .d (.int .i64 (n : Int))), (72, .d (.int .i64 (n : Int))), (73, .d (.bool false))] ∧ μ = [(12, ⟨0, false, el sm⟩), (69, ⟨0, false, el a⟩)] ∧ Plc o a n := by
  have hperm := rightB_perm.1 hr
  have hol : o.length = n := by have := hperm.length_eq; simpa using this
  have hnd : o.Nodup := hperm.symm.nodup (nums_nodup n)
  refine loop_n n (fun i e μ => ∃ a : List Int, (a.length = n ∧ ∀ j, j < i → ix a (ix o j).toNat = (j : Int)) ∧ e = [(0, .d (.sl 3 (el l))), (1, .d (.sl 2 (el ps))), (6, .d (.int .i64 (n : Int))), (12, .own 12 1 0 sm.length), (14, .d (.sl 1 (el o))), (15, .own 69 1 0 n), (62, .d (.sl 1 (el os))), (63, .d (.int .i64 (os.length : Int))), (64, .d (.int .i64 (k : Int))), (70, .d (.sl 1 (el o))), (71, .d (.int .i64 (n : Int))), (72, .d (.int .i64 (i : Int)))] ∧ μ = [(12, ⟨0, false, el sm⟩), (69, ⟨0, false, el a⟩)]) ?_ ?_ ⟨_, ⟨by simp, fun j hj => by omega⟩, rfl, rfl⟩
  · rintro i e μ hi ⟨a, ⟨hal, ha⟩, rfl, rfl⟩
    have hio : i < o.length := by omega
    have hm : ix o i ∈ o := by simp only [ix, List.getD_eq_getElem?_getD, List.getElem?_eq_getElem hio, Option.getD_some]; exact List.getElem_mem hio
    obtain ⟨x0, x1⟩ := nums_mem.1 (hperm.mem_iff.1 hm)
    refine .inl ⟨_, _, ?_, a.set (ix o i).toNat (i : Int), ⟨by simp [hal], fun j hj => ?_⟩, rfl, rfl⟩
    · generalize hx : ix o i = x at *
      simp (disch := omega) [orders_Ahead.b4, hi, hio, hal, hx]
    · by_cases e : j = i
      · subst e
        exact ixs_same (by omega)
      · have hjo : j < o.length := by omega
        have hmj : ix o j ∈ o := by simp only [ix, List.getD_eq_getElem?_getD, List.getElem?_eq_getElem hjo, Option.getD_some]; exact List.getElem_mem hjo
        obtain ⟨y0, y1⟩ := nums_mem.1 (hperm.mem_iff.1 hmj)
        have hne : ix o i ≠ ix o j := by
          simp only [ix, List.getD_eq_getElem?_getD, List.getElem?_eq_getElem hio, List.getElem?_eq_getElem hjo, Option.getD_some]
          intro h
          have e1 := hnd.idxOf_getElem i hio
          have e2 := hnd.idxOf_getElem j hjo
          rw [h, e2] at e1
          omega
        have hne' : (ix o i).toNat ≠ (ix o j).toNat := by omega
        have := ha j (by omega)
        rw [← this]
        exact ixs_ne hne'
  · rintro e μ ⟨a, ⟨hal, ha⟩, rfl, rfl⟩
    refine ⟨.exit 4, _, _, by simp [orders_Ahead.b4] <;> first | rfl | exact ⟨rfl, rfl⟩, by simp, a, rfl, rfl, rfl, hal, fun p hp0 hp1 => ?_⟩
    have hpm : p ∈ o := hperm.symm.mem_iff.1 (nums_mem.2 ⟨hp0, hp1⟩)
    have hlt : o.idxOf p < o.length := List.idxOf_lt_length_of_mem hpm
    have := ha (o.idxOf p) (by omega)
    have e1 : ix o (o.idxOf p) = p := by
      simp only [ix, List.getD_eq_getElem?_getD, List.getElem?_eq_getElem hlt, Option.getD_some]
      exact List.getElem_idxOf hlt
    rw [e1] at this
    exact this
theorem ahead_b6 (l : List RQ) (ps : List (Int × Int)) (os sm : List (List Int)) (o a : List Int) (n k : Nat) (hn : n ≤ 5) (hp : ps.length ≤ 1000) (hr : ∀ j, j < ps.length → outP n (ix ps j) = false) (ha : Plc o a n) :
    ∃ z e μ, EX ip nv (.code (.loop [] [] orders_Ahead.b6) [(0, .d (.sl 3 (el l))), (1, .d (.sl 2 (el ps))), (6, .d (.int .i64 (n : Int))), (12, .own 12 1 0 sm.length), (14, .d (.sl 1 (el o))), (15, .own 69 1 0 n), (62, .d (.sl 1 (el os))), (63, .d (.int .i64 (os.length : Int))), (64, .d (.int .i64 (k : Int))), (82, .d (.sl 2 (el ps))), (83, .d (.int .i64 (ps.length : Int))), (84, .d (.int .i64 0))] [(12, ⟨0, false, el sm⟩), (69, ⟨0, false, el a⟩)]) = some (.st z e μ) ∧ z ≠ .normal ∧
    ((z = .exit 6 ∧ e = [(0, .d (.sl 3 (el l))), (1, .d (.sl 2 (el ps))), (6, .d (.int .i64 (n : Int))), (12, .own 12 1 0 sm.length), (14, .d (.sl 1 (el o))), (15, .own 69 1 0 n), (62, .d (.sl 1 (el os))), (63, .d (.int .i64 (os.length : Int))), (64, .d (.int .i64 (k : Int))), (82, .d (.sl 2 (el ps))), (83, .d (.int .i64 (ps.length : Int))), (84, .d (.int .i64 (ps.length : Int))), (85, .d (.bool false))] ∧ μ = [(12, ⟨0, false, el sm⟩), (69, ⟨0, false, el a⟩)] ∧ ps.all (ahd o) = true) ∨
     (∃ i : Int, z = .exit 3 ∧ e = [(0, .d (.sl 3 (el l))), (1, .d (.sl 2 (el ps))), (6, .d (.int .i64 (n : Int))), (12, .own 12 1 0 sm.length), (14, .d (.sl 1 (el o))), (15, .own 69 1 0 n), (62, .d (.sl 1 (el os))), (63, .d (.int .i64 (os.length : Int))), (64, .d (.int .i64 (k : Int))), (82, .d (.sl 2 (el ps))), (83, .d (.int .i64 (ps.length : Int))), (84, .d (.int .i64 i)), (98, .d (.bool true))] ∧ μ = [(12, ⟨0, false, el sm⟩), (69, ⟨0, false, el a⟩)] ∧ ps.all (ahd o) = false)) := by
  obtain ⟨hal, hpl⟩ := ha
  refine loop_n ps.length (fun i e μ => e = [(0, .d (.sl 3 (el l))), (1, .d (.sl 2 (el ps))), (6, .d (.int .i64 (n : Int))), (12, .own 12 1 0 sm.length), (14, .d (.sl 1 (el o))), (15, .own 69 1 0 n), (62, .d (.sl 1 (el os))), (63, .d (.int .i64 (os.length : Int))), (64, .d (.int .i64 (k : Int))), (82, .d (.sl 2 (el ps))), (83, .d (.int .i64 (ps.length : Int))), (84, .d (.int .i64 (i : Int)))] ∧ μ = [(12, ⟨0, false, el sm⟩), (69, ⟨0, false, el a⟩)] ∧ (ps.take i).all (ahd o) = true) ?_ ?_ ⟨rfl, rfl, rfl⟩
  · rintro i e μ hi ⟨rfl, rfl, hall⟩
    have hri := hr i hi
    have e1 : (ps.take (i + 1)).all (ahd o) = ahd o (ix ps i) := by rw [take_ix hi, List.all_append, hall]; simp
    have hin : ix ps i ∈ ps := by simp only [ix, List.getD_eq_getElem?_getD, List.getElem?_eq_getElem hi, Option.getD_some]; exact List.getElem_mem hi
    generalize hq : ix ps i = p at *
    obtain ⟨x, y⟩ := p
    obtain ⟨⟨x0, x1⟩, y0, y1⟩ := outP_false.1 hri
    have px := hpl x x0 x1
    have py := hpl y y0 y1
    have hxl : x.toNat < a.length := by omega
    have hyl : y.toNat < a.length := by omega
    cases c : ahd o (x, y)
    · refine .inr ⟨.exit 3, _, _, ?_, by simp, .inr ⟨(i : Int), rfl, rfl, rfl, ?_⟩⟩
      · have c' : (o.idxOf y : Int) ≤ (o.idxOf x : Int) := by simp only [ahd, decide_eq_false_iff_not] at c; omega
        simp (disch := omega) [orders_Ahead.b6, hi, hq, hal, px, py, c', x0, y0, x1, y1, hxl, hyl]
      · rw [List.all_eq_false]
        exact ⟨_, hin, by rw [c]; simp⟩
    · refine .inl ⟨_, _, ?_, rfl, rfl, by rw [e1]; exact c⟩
      have c' : ¬ (o.idxOf y : Int) ≤ (o.idxOf x : Int) := by simp only [ahd, decide_eq_true_eq] at c; omega
      simp (disch := omega) [orders_Ahead.b6, hi, hq, hal, px, py, c', x0, y0, x1, y1, hxl, hyl]
  · rintro e μ ⟨rfl, rfl, hall⟩
    rw [List.take_of_length_le (Nat.le_refl _)] at hall
    exact ⟨.exit 6, _, _, by simp [orders_Ahead.b6] <;> first | rfl | exact ⟨rfl, rfl⟩, by simp, .inl ⟨rfl, rfl, rfl, hall⟩⟩
/-- The orders in which, of each pair, the first comes ahead. -/
def ahL (os : List (List Int)) (ps : List (Int × Int)) : List (List Int) := os.filter fun o => ps.all (ahd o)
theorem ahead_b2 (l : List RQ) (ps : List (Int × Int)) (os : List (List Int)) (n : Nat) (hn : n ≤ 5) (hp : ps.length ≤ 1000) (ho : os.length ≤ 1000) (hr : ∀ j, j < ps.length → outP n (ix ps j) = false) (hro : ∀ o ∈ os, rightB o n = true) :
    ∃ z e μ, EX ip nv (.code (.loop [] [] orders_Ahead.b2) [(0, .d (.sl 3 (el l))), (1, .d (.sl 2 (el ps))), (6, .d (.int .i64 (n : Int))), (12, .own 12 1 0 0), (62, .d (.sl 1 (el os))), (63, .d (.int .i64 (os.length : Int))), (64, .d (.int .i64 0))] [(12, ⟨0, false, []⟩)]) = some (.st z e μ) ∧ z ≠ .normal ∧
    z = .exit 2 ∧ e = [(0, .d (.sl 3 (el l))), (1, .d (.sl 2 (el ps))), (6, .d (.int .i64 (n : Int))), (12, .own 12 1 0 (ahL os ps).length), (62, .d (.sl 1 (el os))), (63, .d (.int .i64 (os.length : Int))), (64, .d (.int .i64 (os.length : Int))), (65, .d (.bool false))] ∧ μ = [(12, ⟨0, false, el (ahL os ps)⟩)] := by
  refine loop_n os.length (fun k e μ => ∃ sm, sm = ahL (os.take k) ps ∧ e = [(0, .d (.sl 3 (el l))), (1, .d (.sl 2 (el ps))), (6, .d (.int .i64 (n : Int))), (12, .own 12 1 0 sm.length), (62, .d (.sl 1 (el os))), (63, .d (.int .i64 (os.length : Int))), (64, .d (.int .i64 (k : Int)))] ∧ μ = [(12, ⟨0, false, el sm⟩)]) ?_ ?_ ⟨[], by simp [ahL], rfl, rfl⟩
  · rintro k e μ hk ⟨sm, hsm, rfl, rfl⟩
    have hin := os_ix hk
    have hr1 := hro _ hin
    have hsl : sm.length ≤ 1000 := by rw [hsm]; exact Nat.le_trans (List.length_filter_le _ _) (by simp; omega)
    have e1 : ahL (os.take (k + 1)) ps = if ps.all (ahd (ix os k)) = true then sm ++ [ix os k] else sm := by
      simp only [ahL] at hsm ⊢
      rw [take_ix hk, List.filter_append, ← hsm, List.filter_cons]
      split <;> simp
    have hol : (ix os k).length = n := by simp only [rightB, Bool.and_eq_true, decide_eq_true_eq] at hr1; exact hr1.1
    generalize hoe : ix os k = o at *
    obtain ⟨_, _, _, h4, -, a, rfl, rfl, rfl, hpl⟩ := ahead_b4 (nv := nv) l ps os sm o n k hn hr1
    obtain ⟨_, _, _, h6, -, hc⟩ := ahead_b6 (nv := nv) l ps os sm o a n k hn hp hr hpl
    have hmk : ((n : Int) : Int) < 9223372036854775808 := by omega
    rcases hc with ⟨rfl, rfl, rfl, hc⟩ | ⟨i, rfl, rfl, rfl, hc⟩
    · rw [if_pos hc] at e1
      refine .inl ⟨_, _, ?_, sm ++ [o], e1.symm, rfl, rfl⟩
      clear e1 hsm
      simp (disch := omega) [orders_Ahead.b2, hk, hoe, hol, h4, h6]
    · rw [if_neg (by rw [hc]; simp)] at e1
      refine .inl ⟨_, _, ?_, sm, e1.symm, rfl, rfl⟩
      clear e1 hsm
      simp (disch := omega) [orders_Ahead.b2, hk, hoe, hol, h4, h6]
  · rintro e μ ⟨sm, hsm, rfl, rfl⟩
    rw [List.take_of_length_le (Nat.le_refl _)] at hsm
    subst hsm
    exact ⟨.exit 2, _, _, by simp [orders_Ahead.b2] <;> first | rfl | exact ⟨rfl, rfl⟩, by simp, rfl, rfl, rfl⟩
end
end Go.Proofs.YtnmbpainnkdonaaDoor
