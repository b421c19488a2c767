/- What the statements of layer 5 are told by: tables cut, their size, sameness, columns, sums of products. -/
import Derived.Test.YtbghnfhfekfenaaDoorTg
import Derived.Test.YtbghnfhfekfenaaDoorOc
set_option linter.unusedSimpArgs false
set_option linter.unusedVariables false
namespace Go.Proofs.YtbghnfhfekfenaaDoor
open Go Go.Proofs.R
set_option maxRecDepth 10000
/-- A number of one limb above and below. -/
def cut1 (r : RQ) : RQ := ⟨r.neg, r.num.take 1, r.den.take 1⟩
theorem cut1_ok {r : RQ} {k : Nat} (h : r.ok k) : (cut1 r).ok 1 :=
  ⟨fun x hx => h.n x (List.mem_of_mem_take hx), fun x hx => h.d x (List.mem_of_mem_take hx), by simp only [cut1, List.length_take]; omega, by simp only [cut1, List.length_take]; omega⟩
def row5 (n : Nat) (l : List RQ) : List RQ := (l.take n).map cut1
def few5 (n : Nat) (a : List (List RQ)) : List (List RQ) := (a.take n).map (row5 n)
theorem row5_len (n : Nat) (l : List RQ) : (row5 n l).length ≤ n := by simp [row5]; omega
theorem few5_len (n : Nat) (a : List (List RQ)) : (few5 n a).length ≤ n := by simp [few5]; omega
theorem row5_ok {n k : Nat} {l : List RQ} (h : ∀ r ∈ l, r.ok k) : ∀ r ∈ row5 n l, r.ok 1 := by
  intro r hr
  simp only [row5, List.mem_map] at hr
  obtain ⟨s, hs, rfl⟩ := hr
  exact cut1_ok (h s (List.mem_of_mem_take hs))
theorem few5_ok {n k : Nat} {a : List (List RQ)} (h : ∀ r ∈ a, ∀ x ∈ r, x.ok k) : ∀ r ∈ few5 n a, ∀ x ∈ r, x.ok 1 := by
  intro r hr
  simp only [few5, List.mem_map] at hr
  obtain ⟨s, hs, rfl⟩ := hr
  exact row5_ok (h s (List.mem_of_mem_take hs))
theorem few5_row {n : Nat} {a : List (List RQ)} : ∀ r ∈ few5 n a, r.length ≤ n := by
  intro r hr
  simp only [few5, List.mem_map] at hr
  obtain ⟨s, hs, rfl⟩ := hr
  exact row5_len n s
theorem few5_cols (n : Nat) (a : List (List RQ)) : colsN (few5 n a) ≤ n := by
  unfold colsN
  by_cases h : 0 < (few5 n a).length
  · exact few5_row _ (ix_mem h)
  · have : few5 n a = [] := List.length_eq_zero_iff.1 (by omega)
    rw [this]; exact Nat.zero_le _
section
variable {nv : R.Nv}
theorem number5_ev (r : RQ) : EX ip nv (.call F.dendronlaw05_number [.d (.ag r.c)] []) = some (.ret (.d (.ag (cut1 r).c)) []) := by
  rw [S_call dendronlaw05_number.ip rfl]
  obtain ⟨b, n, d⟩ := r
  simp only [RQ.c, cut1]
  by_cases h1 : (1 : Int) < n.length
  · by_cases h2 : (1 : Int) < d.length
    · simp (disch := omega) [dendronlaw05_number, h1, h2]
    · have e2 : d.take 1 = d := List.take_of_length_le (by omega)
      simp (disch := omega) [dendronlaw05_number, h1, h2, e2]
  · have e1 : n.take 1 = n := List.take_of_length_le (by omega)
    by_cases h2 : (1 : Int) < d.length
    · simp (disch := omega) [dendronlaw05_number, h1, h2, e1]
    · have e2 : d.take 1 = d := List.take_of_length_le (by omega)
      simp (disch := omega) [dendronlaw05_number, h1, h2, e1, e2]
theorem row5_ev (l : List RQ) (n : Nat) (hn : n ≤ 100) : EX ip nv (.call F.dendronlaw05_row [.d (.sl 3 (el l)), .d (.int .i64 (n : Int))] []) = some (.ret (.d (.sl 3 (el (row5 n l)))) []) := by
  rw [S_call dendronlaw05_row.ip rfl]
  obtain ⟨x, hlp⟩ : ∃ x, ∃ z e μ, EX ip nv (.code (.loop [] [] dendronlaw05_row.b0) [(0, .d (.sl 3 (el l))), (1, .d (.int .i64 (n : Int))), (5, .own 5 3 0 0), (6, .d (.int .i64 0))] [(5, ⟨0, false, []⟩)]) = some (.st z e μ) ∧ z ≠ .normal ∧
      z = .exit 0 ∧ e = [(0, .d (.sl 3 (el l))), (1, .d (.int .i64 (n : Int))), (5, .own 5 3 0 (row5 n l).length), (6, .d (.int .i64 ((min l.length n : Nat) : Int))), (15, .d (.bool false))] ∧ μ = [(5, ⟨0, false, el (row5 n l)⟩)] := by
    refine ⟨0, loop_n (min l.length n) (fun i e μ => ∃ g : List RQ, g = (l.take i).map cut1 ∧ e = [(0, .d (.sl 3 (el l))), (1, .d (.int .i64 (n : Int))), (5, .own 5 3 0 g.length), (6, .d (.int .i64 (i : Int)))] ∧ μ = [(5, ⟨0, false, el g⟩)]) ?_ ?_ ⟨[], by simp, rfl, rfl⟩⟩
    · rintro i e μ hi ⟨g, hg, rfl, rfl⟩
      have hi1 : i < l.length := by omega
      have hi2 : i < n := by omega
      have hal : g.length = i := by rw [hg]; simp; omega
      have nb := number5_ev (nv := nv) (ix l i)
      have e1 : (l.take (i + 1)).map cut1 = g ++ [cut1 (ix l i)] := by
        rw [List.take_add_one, ix_in hi1, hg]; simp
      refine .inl ⟨_, _, ?_, g ++ [cut1 (ix l i)], e1.symm, rfl, rfl⟩
      clear hg e1
      generalize cut1 (ix l i) = c at *
      simp (disch := omega) [dendronlaw05_row.b0, hi1, hi2, nb]
    · rintro e μ ⟨g, hg, rfl, rfl⟩
      have e1 : g = row5 n l := by rw [hg, row5]; congr 1; rw [List.take_eq_take_iff]; omega
      subst e1
      by_cases h : l.length ≤ n
      · rw [Nat.min_eq_left h]
        exact ⟨.exit 0, _, _, by simp (disch := omega) [dendronlaw05_row.b0] <;> first | rfl | exact ⟨rfl, rfl⟩, by simp, rfl, rfl, rfl⟩
      · rw [Nat.min_eq_right (by omega)]
        have h1 : n < l.length := by omega
        exact ⟨.exit 0, _, _, by simp (disch := omega) [dendronlaw05_row.b0, h1] <;> first | rfl | exact ⟨rfl, rfl⟩, by simp, rfl, rfl, rfl⟩
  obtain ⟨_, _, _, hr, -, rfl, rfl, rfl⟩ := hlp
  generalize row5 n l = g at *
  simp (disch := omega) [dendronlaw05_row, hr]
theorem few5_ev (a : List (List RQ)) (n : Nat) (hn : n ≤ 100) : EX ip nv (.call F.dendronlaw05_few [.d (.sl 1 (el a)), .d (.int .i64 (n : Int))] []) = some (.ret (.d (.sl 1 (el (few5 n a)))) []) := by
  rw [S_call dendronlaw05_few.ip rfl]
  obtain ⟨_, _, _, hr, -, rfl, rfl, rfl⟩ : ∃ z e μ, EX ip nv (.code (.loop [] [] dendronlaw05_few.b0) [(0, .d (.sl 1 (el a))), (1, .d (.int .i64 (n : Int))), (5, .own 5 1 0 0), (6, .d (.int .i64 0))] [(5, ⟨0, false, []⟩)]) = some (.st z e μ) ∧ z ≠ .normal ∧
      z = .exit 0 ∧ e = [(0, .d (.sl 1 (el a))), (1, .d (.int .i64 (n : Int))), (5, .own 5 1 0 (few5 n a).length), (6, .d (.int .i64 ((min a.length n : Nat) : Int))), (15, .d (.bool false))] ∧ μ = [(5, ⟨0, false, el (few5 n a)⟩)] := by
    refine loop_n (min a.length n) (fun i e μ => ∃ g : List (List RQ), g = (a.take i).map (row5 n) ∧ e = [(0, .d (.sl 1 (el a))), (1, .d (.int .i64 (n : Int))), (5, .own 5 1 0 g.length), (6, .d (.int .i64 (i : Int)))] ∧ μ = [(5, ⟨0, false, el g⟩)]) ?_ ?_ ⟨[], by simp, rfl, rfl⟩
    · rintro i e μ hi ⟨g, hg, rfl, rfl⟩
      have hi1 : i < a.length := by omega
      have hi2 : i < n := by omega
      have hal : g.length = i := by rw [hg]; simp; omega
      have nb := row5_ev (nv := nv) (ix a i) n hn
      have e1 : (a.take (i + 1)).map (row5 n) = g ++ [row5 n (ix a i)] := by
        rw [List.take_add_one, ix_in hi1, hg]; simp
      refine .inl ⟨_, _, ?_, g ++ [row5 n (ix a i)], e1.symm, rfl, rfl⟩
      clear hg e1
      generalize row5 n (ix a i) = c at *
      simp (disch := omega) [dendronlaw05_few.b0, hi1, hi2, nb]
    · rintro e μ ⟨g, hg, rfl, rfl⟩
      have e1 : g = few5 n a := by rw [hg, few5]; congr 1; rw [List.take_eq_take_iff]; omega
      subst e1
      by_cases h : a.length ≤ n
      · rw [Nat.min_eq_left h]
        exact ⟨.exit 0, _, _, by simp (disch := omega) [dendronlaw05_few.b0] <;> first | rfl | exact ⟨rfl, rfl⟩, by simp, rfl, rfl, rfl⟩
      · rw [Nat.min_eq_right (by omega)]
        have h1 : n < a.length := by omega
        exact ⟨.exit 0, _, _, by simp (disch := omega) [dendronlaw05_few.b0, h1] <;> first | rfl | exact ⟨rfl, rfl⟩, by simp, rfl, rfl, rfl⟩
  generalize few5 n a = g at *
  simp (disch := omega) [dendronlaw05_few, hr]
theorem size5_ev (a : List (List RQ)) (hl : a.length ≤ 1000000) : EX ip nv (.call F.dendronlaw05_size [.d (.sl 1 (el a))] []) = some (.ret (sizeV a) []) := by
  rw [S_call dendronlaw05_size.ip rfl]
  obtain ⟨z, e, μ, hlp, -, hz⟩ : ∃ z e μ, EX ip nv (.code (.loop [] [] dendronlaw05_size.b0) [(0, .d (.sl 1 (el a))), (5, .d (.int .i64 0))] []) = some (.st z e μ) ∧ z ≠ .normal ∧
      ((z = .ret ∧ rectB a = false ∧ e = [(2, .d (.int .i64 0)), (3, .d (.int .i64 0)), (4, .d (.bool false))] ∧ μ = []) ∨
       (z = .exit 0 ∧ rectB a = true ∧ e = [(0, .d (.sl 1 (el a))), (5, .d (.int .i64 (a.length : Int))), (9, .d (.bool false))] ∧ μ = [])) := by
    refine loop_n a.length (fun i e μ => (∀ j, j < i → (ix a j).length = (ix a 0).length) ∧ e = [(0, .d (.sl 1 (el a))), (5, .d (.int .i64 (i : Int)))] ∧ μ = []) ?_ ?_ ⟨fun j h => by omega, rfl, rfl⟩
    · rintro i e μ hi ⟨hj, rfl, rfl⟩
      have h00 : 0 < a.length := by omega
      by_cases he : (ix a i).length = (ix a 0).length
      · refine .inl ⟨_, _, ?_, fun j h => ?_, rfl, rfl⟩
        · simp (disch := omega) [dendronlaw05_size.b0, hi, h00, he]
        · by_cases e : j = i
          · rw [e]; exact he
          · exact hj j (by omega)
      · refine .inr ⟨.ret, _, _, ?_, by simp, .inl ⟨rfl, not_rect hi he, rfl, rfl⟩⟩
        have hne : ¬ (((ix a i).length : Int) = ((ix a 0).length : Int)) := by omega
        simp (disch := omega) [dendronlaw05_size.b0, hi, h00, hne, he]
    · rintro e μ ⟨hj, rfl, rfl⟩
      exact ⟨.exit 0, _, _, by simp [dendronlaw05_size.b0] <;> first | rfl | exact ⟨rfl, rfl⟩, by simp, .inr ⟨rfl, is_rect hj, rfl, rfl⟩⟩
  rcases hz with ⟨rfl, hr, rfl, rfl⟩ | ⟨rfl, hr, rfl, rfl⟩
  · simp (disch := omega) [dendronlaw05_size, sizeV, hr, hlp]
  · by_cases h0 : a.length = 0
    · have : a = [] := List.length_eq_zero_iff.1 h0
      subst this
      have e0 : ((([] : List (List RQ)).length : Nat) : Int) = 0 := rfl
      have c0 : colsN [] = 0 := rfl
      rw [e0] at hlp
      simp only [el_nil] at hlp
      simp (disch := omega) [dendronlaw05_size, sizeV, hr, hlp, c0]
    · have hn : ¬ ((a.length : Int) = 0) := by omega
      have h00 : 0 < a.length := by omega
      simp (disch := omega) [dendronlaw05_size, sizeV, hr, h0, hn, hlp, colsN]
/-- Are a row in its form and another one the same? -/
theorem same5_ev (hz : TzOk nv) (n : Nat) (g : Nat → Rat) (y : List RQ) {j k : Nat} (hg : ∀ i, i < n → Bq j (g i)) (hy : ∀ r ∈ y, r.ok k) (hj : 1 ≤ j) (hk : 1 ≤ k) (hb : j + k ≤ 1073741824) (hl : y.length = n) (hn : n ≤ 1000000) :
    EX ip nv (.call F.dendronlaw05_same [.d (.sl 3 (el (rw' n g))), .d (.sl 3 (el y))] []) = some (.ret (.d (.bool (decide (∀ i, i < n → g i = (ix y i).v)))) []) := by
  rw [S_call dendronlaw05_same.ip rfl]
  obtain ⟨z, e, μ, hlp, -, hz1⟩ : ∃ z e μ, EX ip nv (.code (.loop [] [] dendronlaw05_same.b0) [(0, .d (.sl 3 (el (rw' n g)))), (1, .d (.sl 3 (el y))), (5, .d (.int .i64 0))] []) = some (.st z e μ) ∧ z ≠ .normal ∧
      ((z = .ret ∧ ¬ (∀ i, i < n → g i = (ix y i).v) ∧ e = [(4, .d (.bool false))] ∧ μ = []) ∨
       (z = .exit 0 ∧ (∀ i, i < n → g i = (ix y i).v) ∧ e = [(0, .d (.sl 3 (el (rw' n g)))), (1, .d (.sl 3 (el y))), (5, .d (.int .i64 (n : Int))), (14, .d (.bool false))] ∧ μ = [])) := by
    refine loop_n n (fun i e μ => (∀ j, j < i → g j = (ix y j).v) ∧ e = [(0, .d (.sl 3 (el (rw' n g)))), (1, .d (.sl 3 (el y))), (5, .d (.int .i64 (i : Int)))] ∧ μ = []) ?_ ?_ ⟨fun j h => by omega, rfl, rfl⟩
    · rintro i e μ hi ⟨hjj, rfl, rfl⟩
      have hiy : i < y.length := by omega
      have hlen := rw_len n g
      have hix := rw_ix g hi
      have rt := rright_c (nv := nv) hz (g i) (hg i hi) (by omega)
      have sm := rsame_ev (nv := nv) hz (can (g i)) (ix y i) (can_ok (hg i hi)) (hy _ (ix_mem hiy)) hj hk hb
      rw [can_v] at sm
      by_cases he : g i = (ix y i).v
      · refine .inl ⟨_, _, ?_, fun j h => ?_, rfl, rfl⟩
        · rw [decide_eq_true he] at sm
          have hir : i < (rw' n g).length := by omega
          generalize rw' n g = gg at *
          generalize can (g i) = q at *
          simp (disch := omega) [dendronlaw05_same.b0, hi, hiy, hlen, hix, rt, sm]
        · by_cases e : j = i
          · rw [e]; exact he
          · exact hjj j (by omega)
      · refine .inr ⟨.ret, _, _, ?_, by simp, .inl ⟨rfl, fun h => he (h i hi), rfl, rfl⟩⟩
        rw [decide_eq_false he] at sm
        have hir : i < (rw' n g).length := by omega
        generalize rw' n g = gg at *
        generalize can (g i) = q at *
        simp (disch := omega) [dendronlaw05_same.b0, hi, hiy, hlen, hix, rt, sm]
    · rintro e μ ⟨hjj, rfl, rfl⟩
      have hlen := rw_len n g
      refine ⟨.exit 0, _, _, ?_, by simp, .inr ⟨rfl, hjj, rfl, rfl⟩⟩
      generalize rw' n g = gg at *
      simp [dendronlaw05_same.b0, hlen]
  have hlen := rw_len n g
  have hll : (rw' n g).length = y.length := by omega
  have hli : ((rw' n g).length : Int) = (y.length : Int) := by omega
  rcases hz1 with ⟨rfl, hno, rfl, rfl⟩ | ⟨rfl, hyes, rfl, rfl⟩
  · rw [decide_eq_false hno]
    generalize rw' n g = gg at *
    simp (disch := omega) [dendronlaw05_same, hlp, hll]
  · rw [decide_eq_true hyes]
    generalize rw' n g = gg at *
    simp (disch := omega) [dendronlaw05_same, hlp, hll]
theorem tables5_ev (hz : TzOk nv) (x y : List (List RQ)) {j k : Nat} (hlen : x.length = y.length) (hx : ∀ i, i < x.length → ∃ g, ix x i = rw' (ix y i).length g ∧ ∀ q, q < (ix y i).length → Bq j (g q) ∧ g q = (ix (ix y i) q).v) (hy : ∀ r ∈ y, ∀ z ∈ r, z.ok k) (hj : 1 ≤ j) (hk : 1 ≤ k) (hb : j + k ≤ 1073741824) (hn : y.length ≤ 1000000) (hm : ∀ r ∈ y, r.length ≤ 1000000) :
    EX ip nv (.call F.dendronlaw05_tables [.d (.sl 1 (el x)), .d (.sl 1 (el y))] []) = some (.ret (.d (.bool true)) []) := by
  rw [S_call dendronlaw05_tables.ip rfl]
  obtain ⟨_, _, _, hlp, -, rfl, rfl, rfl⟩ : ∃ z e μ, EX ip nv (.code (.loop [] [] dendronlaw05_tables.b0) [(0, .d (.sl 1 (el x))), (1, .d (.sl 1 (el y))), (5, .d (.int .i64 0))] []) = some (.st z e μ) ∧ z ≠ .normal ∧
      z = .exit 0 ∧ e = [(0, .d (.sl 1 (el x))), (1, .d (.sl 1 (el y))), (5, .d (.int .i64 (x.length : Int))), (14, .d (.bool false))] ∧ μ = [] := by
    refine loop_n x.length (fun i e μ => e = [(0, .d (.sl 1 (el x))), (1, .d (.sl 1 (el y))), (5, .d (.int .i64 (i : Int)))] ∧ μ = []) ?_ ?_ ⟨rfl, rfl⟩
    · rintro i e μ hi ⟨rfl, rfl⟩
      have hiy : i < y.length := by omega
      obtain ⟨g, hg, hgq⟩ := hx i hi
      have sm := same5_ev (nv := nv) hz (ix y i).length g (ix y i) (fun q hq => (hgq q hq).1) (hy _ (ix_mem hiy)) hj hk hb rfl (hm _ (ix_mem hiy))
      rw [decide_eq_true (fun q hq => (hgq q hq).2), ← hg] at sm
      refine .inl ⟨_, _, ?_, rfl, rfl⟩
      simp (disch := omega) [dendronlaw05_tables.b0, hi, hiy, sm]
    · rintro e μ ⟨rfl, rfl⟩
      exact ⟨.exit 0, _, _, by simp [dendronlaw05_tables.b0] <;> first | rfl | exact ⟨rfl, rfl⟩, by simp, rfl, rfl, rfl⟩
  simp (disch := omega) [dendronlaw05_tables, hlp, hlen]
/-- A column. -/
def colL (a : List (List RQ)) (k : Nat) : List RQ := (List.range a.length).map fun i => ix (ix a i) k
@[simp] theorem colL_len (a : List (List RQ)) (k : Nat) : (colL a k).length = a.length := by simp [colL]
theorem colL_ix {a : List (List RQ)} {i k : Nat} (h : i < a.length) : ix (colL a k) i = ix (ix a i) k := by simp [ix, colL, h]
theorem col5_ev (a : List (List RQ)) (k : Nat) (hl : a.length ≤ 1000000) (hk : ∀ i, i < a.length → k < (ix a i).length) (hk2 : k ≤ 1000000) : EX ip nv (.call F.dendronlaw05_column [.d (.sl 1 (el a)), .d (.int .i64 (k : Int))] []) = some (.ret (.d (.sl 3 (el (colL a k)))) []) := by
  rw [S_call dendronlaw05_column.ip rfl]
  obtain ⟨_, _, _, hlp, -, rfl, rfl, rfl⟩ : ∃ z e μ, EX ip nv (.code (.loop [] [] dendronlaw05_column.b0) [(0, .d (.sl 1 (el a))), (1, .d (.int .i64 (k : Int))), (5, .own 5 3 0 0), (6, .d (.int .i64 0))] [(5, ⟨0, false, []⟩)]) = some (.st z e μ) ∧ z ≠ .normal ∧
      z = .exit 0 ∧ e = [(0, .d (.sl 1 (el a))), (1, .d (.int .i64 (k : Int))), (5, .own 5 3 0 a.length), (6, .d (.int .i64 (a.length : Int))), (10, .d (.bool false))] ∧ μ = [(5, ⟨0, false, el (colL a k)⟩)] := by
    refine loop_n a.length (fun i e μ => ∃ g : List RQ, g = (List.range i).map (fun i => ix (ix a i) k) ∧ e = [(0, .d (.sl 1 (el a))), (1, .d (.int .i64 (k : Int))), (5, .own 5 3 0 i), (6, .d (.int .i64 (i : Int)))] ∧ μ = [(5, ⟨0, false, el g⟩)]) ?_ ?_ ⟨[], rfl, rfl, rfl⟩
    · rintro i e μ hi ⟨g, hg, rfl, rfl⟩
      have hki := hk i hi
      have hgl : g.length = i := by rw [hg]; simp
      have ht2 : List.take i g = g := List.take_of_length_le (by omega)
      refine .inl ⟨_, _, ?_, g ++ [ix (ix a i) k], by rw [hg, List.range_succ, List.map_append]; rfl, rfl, rfl⟩
      clear hg
      simp (disch := omega) [dendronlaw05_column.b0, hi, hki, hgl, ht2]
    · rintro e μ ⟨g, hg, rfl, rfl⟩
      have : g = colL a k := hg
      subst this
      exact ⟨.exit 0, _, _, by simp [dendronlaw05_column.b0] <;> first | rfl | exact ⟨rfl, rfl⟩, by simp, rfl, rfl, rfl⟩
  have hlen := colL_len a k
  generalize colL a k = g at *
  simp (disch := omega) [dendronlaw05_column, hlp]
theorem dot5_ev (hz : TzOk nv) (x y : List RQ) {j k : Nat} (hx : ∀ r ∈ x, r.ok j) (hy : ∀ r ∈ y, r.ok k) (hj : 1 ≤ j) (hk : 1 ≤ k) (hxl : x.length ≤ 1000000) (hyl : y.length ≤ 1000000) (hb : 1 + (min x.length y.length + 1) * (j + k + 1) ≤ 1073741824) :
    EX ip nv (.call F.dendronlaw05_dot [.d (.sl 3 (el x)), .d (.sl 3 (el y))] []) = some (.ret (.d (.ag (can (dotS x y (min x.length y.length))).c)) []) := by
  rw [S_call dendronlaw05_dot.ip rfl]
  obtain ⟨_, _, _, hlp, -, rfl, rfl, rfl⟩ : ∃ z e μ, EX ip nv (.code (.loop [] [] dendronlaw05_dot.b0) [(0, .d (.sl 3 (el x))), (1, .d (.sl 3 (el y))), (4, .ptr 4 0), (5, .ptr 5 0), (6, .d (.int .i64 0))] [(4, ⟨0, true, [.bool false, .sl 1 [], .sl 1 []]⟩), (5, ⟨0, true, (can 0).c⟩)]) = some (.st z e μ) ∧ z ≠ .normal ∧
      z = .exit 0 ∧ e = [(0, .d (.sl 3 (el x))), (1, .d (.sl 3 (el y))), (4, .ptr 4 0), (5, .ptr 5 0), (6, .d (.int .i64 ((min x.length y.length : Nat) : Int))), (17, .d (.bool false))] ∧ μ = [(4, ⟨0, true, [.bool false, .sl 1 [], .sl 1 []]⟩), (5, ⟨0, true, (can (dotS x y (min x.length y.length))).c⟩)] := by
    refine loop_n (min x.length y.length) (fun i e μ => e = [(0, .d (.sl 3 (el x))), (1, .d (.sl 3 (el y))), (4, .ptr 4 0), (5, .ptr 5 0), (6, .d (.int .i64 (i : Int)))] ∧ μ = [(4, ⟨0, true, [.bool false, .sl 1 [], .sl 1 []]⟩), (5, ⟨0, true, (can (dotS x y i)).c⟩)]) ?_ ?_ ⟨rfl, rfl⟩
    · rintro i e μ hi ⟨rfl, rfl⟩
      have hix : i < x.length := by omega
      have hiy : i < y.length := by omega
      have hbi : 1 + i * (j + k + 1) + (j + k) + 1 ≤ 1073741824 := by
        have : (i + 1) * (j + k + 1) ≤ (min x.length y.length + 1) * (j + k + 1) := Nat.mul_le_mul_right _ (by omega)
        rw [Nat.add_mul] at this
        omega
      have ml := rmul_ev (nv := nv) hz (ix x i) (ix y i) (hx _ (ix_mem hix)) (hy _ (ix_mem hiy)) hj hk (by omega)
      have ad := radd_ev (nv := nv) hz (can (dotS x y i)) (can ((ix x i).v * (ix y i).v)) (can_ok (dotS_b hx hy hj hk i (by omega) (by omega))) (can_ok ((Bq.v (hx _ (ix_mem hix)) hj).mul (Bq.v (hy _ (ix_mem hiy)) hk))) (by omega) (by omega) (by omega)
      rw [can_v, can_v] at ad
      refine .inl ⟨_, _, ?_, rfl, rfl⟩
      show _ = some (Out.st .normal _ [(4, _), (5, ⟨0, true, (can (dotS x y i + (ix x i).v * (ix y i).v)).c⟩)])
      generalize can (dotS x y i + (ix x i).v * (ix y i).v) = q1 at *
      generalize can (dotS x y i) = q2 at *
      generalize can ((ix x i).v * (ix y i).v) = q3 at *
      simp (disch := omega) [-vIA_o, dendronlaw05_dot.b0, hix, hiy, ml, ad]
    · rintro e μ ⟨rfl, rfl⟩
      generalize can (dotS x y (min x.length y.length)) = q at *
      by_cases h : x.length ≤ y.length
      · rw [Nat.min_eq_left h]
        exact ⟨.exit 0, _, _, by simp (disch := omega) [dendronlaw05_dot.b0] <;> first | rfl | exact ⟨rfl, rfl⟩, by simp, rfl, rfl, rfl⟩
      · rw [Nat.min_eq_right (by omega)]
        have h1 : y.length < x.length := by omega
        exact ⟨.exit 0, _, _, by simp (disch := omega) [dendronlaw05_dot.b0, h1] <;> first | rfl | exact ⟨rfl, rfl⟩, by simp, rfl, rfl, rfl⟩
  have zer := zero_ev (nv := nv)
  generalize can (dotS x y (min x.length y.length)) = q at *
  generalize can 0 = q0 at *
  simp (disch := omega) [dendronlaw05_dot, hlp, zer]
end
end Go.Proofs.YtbghnfhfekfenaaDoor
