/- SolveLeasts: the loss, the rows that weigh. -/
import Derived.Test.YtbghnfhfekfenaaDoorTs
import Derived.Test.YtbghnfhfekfenaaDoorTh
import Derived.Test.YtbghnfhfekfenaaDoorOc
set_option linter.unusedSimpArgs false
set_option linter.unusedVariables false
namespace Go.Proofs.YtbghnfhfekfenaaDoor
open Go Go.Proofs.R
set_option maxRecDepth 10000
/-- What a row adds to the loss. -/
def lsD (A : List (List RQ)) (b x : List RQ) (i : Nat) : Rat := dotS (ix A i) x (min (ix A i).length x.length) - (ix b i).v
def lsI (A : List (List RQ)) (b w x : List RQ) (m : Nat) : Rat := sm m (fun i => (ix w i).v * (lsD A b x i * lsD A b x i))
/-- The rows that weigh. -/
def hvL (A : List (List RQ)) (w : List RQ) (m : Nat) : List (List RQ) := ((List.range m).filter fun i => decide (0 < (ix w i).v)).map fun i => ix A i
theorem hvL_succ (A : List (List RQ)) (w : List RQ) (m : Nat) : hvL A w (m + 1) = if 0 < (ix w m).v then hvL A w m ++ [ix A m] else hvL A w m := by
  unfold hvL
  rw [List.range_succ, List.filter_append, List.map_append]
  by_cases h : 0 < (ix w m).v
  · rw [if_pos h, List.filter_cons_of_pos (by simpa using h)]; rfl
  · rw [if_neg h, List.filter_cons_of_neg (by simpa using h)]; simp
theorem hvL_mem {A : List (List RQ)} {w : List RQ} {m : Nat} {r : List RQ} : r ∈ hvL A w m ↔ ∃ i, i < m ∧ 0 < (ix w i).v ∧ ix A i = r := by
  unfold hvL
  simp only [List.mem_map, List.mem_filter, List.mem_range, decide_eq_true_eq]
  exact ⟨fun ⟨i, ⟨h1, h2⟩, h3⟩ => ⟨i, h1, h2, h3⟩, fun ⟨i, h1, h2, h3⟩ => ⟨i, ⟨h1, h2⟩, h3⟩⟩
theorem hvL_len (A : List (List RQ)) (w : List RQ) (m : Nat) : (hvL A w m).length ≤ m := by
  unfold hvL
  rw [List.length_map]
  exact Nat.le_trans (List.length_filter_le _ _) (by simp)
theorem sign_pos (q : Rat) : 0 < q.num.sign ↔ 0 < q := by
  have h0 := sign_neg q
  have h1 := sign_zero q
  rcases Int.lt_trichotomy q.num 0 with h | h | h
  · have e : q.num.sign = -1 := Int.sign_eq_neg_one_of_neg h
    have : q < 0 := h0.1 (by omega)
    rw [e]
    exact ⟨fun h => absurd h (by decide), fun h => by grind⟩
  · have e : q = 0 := by rw [← h1, h]; rfl
    subst e
    exact ⟨fun h => absurd h (by decide +kernel), fun h => absurd h (Rat.lt_irrefl)⟩
  · have e : q.num.sign = 1 := Int.sign_eq_one_of_pos h
    rw [e]
    refine ⟨fun _ => ?_, fun _ => by decide⟩
    have h2 : 0 ≤ q := Rat.num_nonneg.1 (by omega)
    have h3 : q ≠ 0 := fun e2 => by rw [e2] at h; exact absurd h (by decide)
    grind
section
variable {nv : R.Nv}
theorem lsD_b {A : List (List RQ)} {b x : List RQ} {j : Nat} (hA : ∀ r ∈ A, ∀ y ∈ r, y.ok 1) (hb : ∀ y ∈ b, y.ok 1) (hx : ∀ y ∈ x, y.ok j) (hj : 1 ≤ j) (hxl : x.length ≤ 4) {i : Nat} (hi : i < A.length) (hib : i < b.length) :
    Bq (1 + 4 * (1 + j + 1) + 1 + 1) (lsD A b x i) ∧ Bq (1 + 4 * (1 + j + 1)) (dotS (ix A i) x (min (ix A i).length x.length)) := by
  have h1 := dotS_b (hA _ (ix_mem hi)) hx (Nat.le_refl 1) hj (min (ix A i).length x.length) (by omega) (by omega)
  have h2 : min (ix A i).length x.length * (1 + j + 1) ≤ 4 * (1 + j + 1) := Nat.mul_le_mul_right _ (by omega)
  exact ⟨(h1.sub (Bq.v (hb _ (ix_mem hib)) (Nat.le_refl 1))).mono (by omega), h1.mono (by omega)⟩
theorem loss5_b0 (hz : TzOk nv) (A : List (List RQ)) (b w x : List RQ) {j J : Nat} (hA : ∀ r ∈ A, ∀ y ∈ r, y.ok 1) (hb : ∀ y ∈ b, y.ok 1) (hw : ∀ y ∈ w, y.ok 1) (hx : ∀ y ∈ x, y.ok j) (hj : 1 ≤ j) (hJ : J = 1 + 4 * (1 + j + 1) + 1 + 1) (hJb : 20 * J ≤ 1073741824) (hxl : x.length ≤ 4) (hAl : A.length ≤ 4) (hAr : ∀ r ∈ A, r.length ≤ 4) (hbl : b.length = A.length) (hwl : w.length = A.length) :
    ∃ z e μ, EX ip nv (.code (.loop [] [] dendronlaw05_loss.b0) [(0, .d (.sl 1 (el A))), (1, .d (.sl 3 (el b))), (2, .d (.sl 3 (el w))), (3, .d (.sl 3 (el x))), (8, .ptr 8 0), (9, .ptr 9 0), (10, .d (.int .i64 0))] [(8, ⟨0, true, [.bool false, .sl 1 [], .sl 1 []]⟩), (9, ⟨0, true, (can 0).c⟩)]) = some (.st z e μ) ∧ z ≠ .normal ∧
      z = .exit 0 ∧ e = [(0, .d (.sl 1 (el A))), (1, .d (.sl 3 (el b))), (2, .d (.sl 3 (el w))), (3, .d (.sl 3 (el x))), (8, .ptr 8 0), (9, .ptr 9 0), (10, .d (.int .i64 (A.length : Int))), (16, .d (.bool false))] ∧ μ = [(8, ⟨0, true, [.bool false, .sl 1 [], .sl 1 []]⟩), (9, ⟨0, true, (can (lsI A b w x A.length)).c⟩)] := by
  have hterm : ∀ i, i < A.length → Bq (1 + (J + J)) ((ix w i).v * (lsD A b x i * lsD A b x i)) := fun i hi => by
    have h := (lsD_b hA hb hx hj hxl hi (by omega)).1
    rw [← hJ] at h
    exact (Bq.v (hw _ (ix_mem (by omega))) (Nat.le_refl 1)).mul (h.mul h)
  refine loop_n A.length (fun i e μ => e = [(0, .d (.sl 1 (el A))), (1, .d (.sl 3 (el b))), (2, .d (.sl 3 (el w))), (3, .d (.sl 3 (el x))), (8, .ptr 8 0), (9, .ptr 9 0), (10, .d (.int .i64 (i : Int)))] ∧ μ = [(8, ⟨0, true, [.bool false, .sl 1 [], .sl 1 []]⟩), (9, ⟨0, true, (can (lsI A b w x i)).c⟩)]) ?_ ?_ ⟨rfl, rfl⟩
  · rintro i e μ hi ⟨rfl, rfl⟩
    have hib : i < b.length := by omega
    have hiw : i < w.length := by omega
    obtain ⟨h1, h2⟩ := lsD_b hA hb hx hj hxl hi hib
    rw [← hJ] at h1
    have hxl2 : (ix A i).length ≤ 4 := hAr _ (ix_mem hi)
    have hmn : (min (ix A i).length x.length + 1) * (1 + j + 1) ≤ 5 * (1 + j + 1) := Nat.mul_le_mul_right _ (by omega)
    have hS := sm_b hterm i (by omega)
    have hi4 : i * (1 + (J + J) + 1) ≤ 3 * (1 + (J + J) + 1) := Nat.mul_le_mul_right _ (by omega)
    have d5 := dot5_ev (nv := nv) hz (ix A i) x (hA _ (ix_mem hi)) hx (Nat.le_refl 1) hj (by omega) (by omega) (by omega)
    have sb := rsub_ev (nv := nv) hz (can (dotS (ix A i) x (min (ix A i).length x.length))) (ix b i) (can_ok h2) (hb _ (ix_mem hib)) (by omega) (Nat.le_refl 1) (by omega)
    rw [can_v, show dotS (ix A i) x (min (ix A i).length x.length) - (ix b i).v = lsD A b x i from rfl] at sb
    have m1 := rmul_ev (nv := nv) hz (can (lsD A b x i)) (can (lsD A b x i)) (can_ok h1) (can_ok h1) (by omega) (by omega) (by omega)
    rw [can_v] at m1
    have m2 := rmul_ev (nv := nv) hz (ix w i) (can (lsD A b x i * lsD A b x i)) (hw _ (ix_mem hiw)) (can_ok (h1.mul h1)) (Nat.le_refl 1) (by omega) (by omega)
    rw [can_v] at m2
    have ad := radd_ev (nv := nv) hz (can (lsI A b w x i)) (can ((ix w i).v * (lsD A b x i * lsD A b x i))) (can_ok hS) (can_ok (hterm i hi)) (by omega) (by omega) (by omega)
    rw [can_v, can_v, show lsI A b w x i + (ix w i).v * (lsD A b x i * lsD A b x i) = lsI A b w x (i + 1) from rfl] at ad
    refine .inl ⟨_, _, ?_, rfl, rfl⟩
    generalize can (lsI A b w x (i + 1)) = q1 at *
    generalize can (lsI A b w x i) = q2 at *
    generalize can ((ix w i).v * (lsD A b x i * lsD A b x i)) = q3 at *
    generalize can (lsD A b x i * lsD A b x i) = q4 at *
    generalize can (lsD A b x i) = q5 at *
    generalize can (dotS (ix A i) x (min (ix A i).length x.length)) = q6 at *
    generalize hrow : ix A i = row at *
    generalize hnum : ix b i = num at *
    generalize hwt : ix w i = wt at *
    simp (disch := omega) [-vIA_o, dendronlaw05_loss.b0, hi, hib, hiw, hrow, hnum, hwt, d5, sb, m1, m2, ad]
    done
  · rintro e μ ⟨rfl, rfl⟩
    exact ⟨.exit 0, _, _, by simp [dendronlaw05_loss.b0] <;> first | rfl | exact ⟨rfl, rfl⟩, by simp, rfl, rfl, rfl⟩
theorem loss5_ev (hz : TzOk nv) (A : List (List RQ)) (b w x : List RQ) {j J : Nat} (hA : ∀ r ∈ A, ∀ y ∈ r, y.ok 1) (hb : ∀ y ∈ b, y.ok 1) (hw : ∀ y ∈ w, y.ok 1) (hx : ∀ y ∈ x, y.ok j) (hj : 1 ≤ j) (hJ : J = 1 + 4 * (1 + j + 1) + 1 + 1) (hJb : 20 * J ≤ 1073741824) (hxl : x.length ≤ 4) (hAl : A.length ≤ 4) (hAr : ∀ r ∈ A, r.length ≤ 4) (hbl : b.length = A.length) (hwl : w.length = A.length) :
    EX ip nv (.call F.dendronlaw05_loss [.d (.sl 1 (el A)), .d (.sl 3 (el b)), .d (.sl 3 (el w)), .d (.sl 3 (el x))] []) = some (.ret (.d (.ag (can (lsI A b w x A.length)).c)) []) := by
  rw [S_call dendronlaw05_loss.ip rfl]
  obtain ⟨_, _, _, l0, -, rfl, rfl, rfl⟩ := loss5_b0 (nv := nv) hz A b w x hA hb hw hx hj hJ hJb hxl hAl hAr hbl hwl
  have zer := zero_ev (nv := nv)
  generalize can (lsI A b w x A.length) = q at *
  generalize can 0 = q0 at *
  simp (disch := omega) [dendronlaw05_loss, l0, zer]
/-- The rows that weigh, put together. -/
theorem leasts_b2 (hz : TzOk nv) (A : List (List RQ)) (B Y X : D) (w : List RQ) (E C : Int) (hw : ∀ x ∈ w, x.ok 1) (hl : A.length ≤ 4) (hwl : w.length = A.length) :
    ∃ z e μ, EX ip nv (.code (.loop [] [] dendronlaw05_SolveLeasts.b2) [(0, .d (.sl 1 (el A))), (1, .d B), (2, .d (.sl 3 (el w))), (3, .d Y), (9, .d X), (10, .d (.int .i64 E)), (11, .d (.int .i64 (A.length : Int))), (12, .d (.int .i64 C)), (15, .own 15 1 0 0), (16, .d (.int .i64 0))] [(15, ⟨0, false, []⟩)]) = some (.st z e μ) ∧ z ≠ .normal ∧
      z = .exit 2 ∧ e = [(0, .d (.sl 1 (el A))), (1, .d B), (2, .d (.sl 3 (el w))), (3, .d Y), (9, .d X), (10, .d (.int .i64 E)), (11, .d (.int .i64 (A.length : Int))), (12, .d (.int .i64 C)), (15, .own 15 1 0 (hvL A w A.length).length), (16, .d (.int .i64 (A.length : Int))), (87, .d (.bool false))] ∧ μ = [(15, ⟨0, false, el (hvL A w A.length)⟩)] := by
  refine loop_n A.length (fun i e μ => e = [(0, .d (.sl 1 (el A))), (1, .d B), (2, .d (.sl 3 (el w))), (3, .d Y), (9, .d X), (10, .d (.int .i64 E)), (11, .d (.int .i64 (A.length : Int))), (12, .d (.int .i64 C)), (15, .own 15 1 0 (hvL A w i).length), (16, .d (.int .i64 (i : Int)))] ∧ μ = [(15, ⟨0, false, el (hvL A w i)⟩)]) ?_ ?_ ⟨rfl, rfl⟩
  · rintro i e μ hi ⟨rfl, rfl⟩
    have hiw : i < w.length := by omega
    have hlen := hvL_len A w i
    have sg := rsign_ev (nv := nv) hz (ix w i) (hw _ (ix_mem hiw)) (Nat.le_refl 1) (by decide)
    have hsp := sign_pos (ix w i).v
    have hby : ((hvL A w i).length + 1) * 24 ≤ 70368744177664 := by omega
    refine .inl ⟨_, _, ?_, rfl, rfl⟩
    rw [hvL_succ]
    generalize hvL A w i = g at *
    by_cases h0 : 0 < (ix w i).v
    · have hs := hsp.2 h0
      rw [if_pos h0]
      generalize (ix w i).v.num.sign = sn at *
      generalize hx : ix w i = x at *
      generalize hr : ix A i = row at *
      simp (disch := omega) [-vIA_o, dendronlaw05_SolveLeasts.b2, hi, hiw, hx, hr, sg, hs, hby]
      done
    · have hs : ¬ 0 < (ix w i).v.num.sign := fun h => h0 (hsp.1 h)
      rw [if_neg h0]
      generalize (ix w i).v.num.sign = sn at *
      generalize hx : ix w i = x at *
      simp (disch := omega) [-vIA_o, dendronlaw05_SolveLeasts.b2, hi, hiw, hx, sg, hs]
      done
  · rintro e μ ⟨rfl, rfl⟩
    exact ⟨.exit 2, _, _, by simp [dendronlaw05_SolveLeasts.b2] <;> first | rfl | exact ⟨rfl, rfl⟩, by simp, rfl, rfl, rfl⟩
theorem leasts_b0 (hz : TzOk nv) (A B Y : D) (w x : List RQ) (E C : Int) (hw : ∀ x ∈ w, x.ok 1) (hl : w.length ≤ 4) (hX : negW w → x.length = 0 ∧ E = 8) :
    ∃ z e μ, EX ip nv (.code (.loop [] [] dendronlaw05_SolveLeasts.b0) [(0, .d A), (1, .d B), (2, .d (.sl 3 (el w))), (3, .d Y), (9, .d (.sl 3 (el x))), (10, .d (.int .i64 E)), (11, .d (.int .i64 (w.length : Int))), (12, .d (.int .i64 C)), (14, .d (.int .i64 0))] []) = some (.st z e μ) ∧ z ≠ .normal ∧
      ((z = .ret ∧ negW w ∧ e = [(8, .d (.bool true))] ∧ μ = []) ∨
       (z = .exit 0 ∧ ¬ negW w ∧ e = [(0, .d A), (1, .d B), (2, .d (.sl 3 (el w))), (3, .d Y), (9, .d (.sl 3 (el x))), (10, .d (.int .i64 E)), (11, .d (.int .i64 (w.length : Int))), (12, .d (.int .i64 C)), (14, .d (.int .i64 (w.length : Int))), (66, .d (.bool false))] ∧ μ = [])) := by
  refine loop_n w.length (fun i e μ => (∀ j, j < i → ¬ (ix w j).v < 0) ∧ e = [(0, .d A), (1, .d B), (2, .d (.sl 3 (el w))), (3, .d Y), (9, .d (.sl 3 (el x))), (10, .d (.int .i64 E)), (11, .d (.int .i64 (w.length : Int))), (12, .d (.int .i64 C)), (14, .d (.int .i64 (i : Int)))] ∧ μ = []) ?_ ?_ ⟨fun j h => by omega, rfl, rfl⟩
  · rintro i e μ hi ⟨hj, rfl, rfl⟩
    have sg := rsign_ev (nv := nv) hz (ix w i) (hw _ (ix_mem hi)) (Nat.le_refl 1) (by decide)
    have hsn := sign_neg (ix w i).v
    have aw := awake5_ev (nv := nv) hz
    by_cases h0 : (ix w i).v < 0
    · obtain ⟨hx0, rfl⟩ := hX ⟨i, hi, h0⟩
      have hx1 : x = [] := List.length_eq_zero_iff.1 hx0
      refine .inr ⟨.ret, _, _, ?_, by simp, .inl ⟨rfl, ⟨i, hi, h0⟩, rfl, rfl⟩⟩
      have hs := hsn.2 h0
      generalize (ix w i).v.num.sign = sn at *
      generalize hx : ix w i = y at *
      simp (disch := omega) [-vIA_o, dendronlaw05_SolveLeasts.b0, hi, hx, sg, hs, hx1, aw]
    · refine .inl ⟨_, _, ?_, fun j h => ?_, rfl, rfl⟩
      · have hs : ¬ (ix w i).v.num.sign < 0 := fun h => h0 (hsn.1 h)
        generalize (ix w i).v.num.sign = sn at *
        generalize hx : ix w i = y at *
        simp (disch := omega) [-vIA_o, dendronlaw05_SolveLeasts.b0, hi, hx, sg, hs]
      · by_cases e : j = i
        · rw [e]; exact h0
        · exact hj j (by omega)
  · rintro e μ ⟨hj, rfl, rfl⟩
    refine ⟨.exit 0, _, _, ?_, by simp, .inr ⟨rfl, fun ⟨i, h1, h2⟩ => hj i h1 h2, rfl, rfl⟩⟩
    simp [dendronlaw05_SolveLeasts.b0]
/-- The equations have one answer just if the rows that weigh have full rank. -/
theorem lead_le (R : Nat) (f : Tb) (n : Nat) : (runR R f n).lead.length ≤ n := by
  rw [run_lead]; exact Nat.le_trans (List.length_filter_le _ _) (by simp)
def oneA (A : List (List RQ)) (w : List RQ) : Prop := ∀ x : Nat → Rat, (∀ i, i < A.length → 0 < (ix w i).v → sm (colsN A) (fun k => tf A i k * x k) = 0) → ∀ k, k < colsN A → x k = 0
theorem heavy_rank {A : List (List RQ)} {w : List RQ} (hr : rectB A = true) : ((stp (hvL A w A.length)).lead.length < colsN A ↔ ¬ oneA A w) := by
  have hle := lead_le (hvL A w A.length).length (tf (hvL A w A.length)) (colsN (hvL A w A.length))
  by_cases h0 : (hvL A w A.length).length = 0
  · have hn : ∀ i, i < A.length → ¬ 0 < (ix w i).v := fun i hi h => by
      have : ix A i ∈ hvL A w A.length := hvL_mem.2 ⟨i, hi, h, rfl⟩
      rw [List.length_eq_zero_iff.1 h0] at this
      cases this
    have hc : colsN (hvL A w A.length) = 0 := by rw [List.length_eq_zero_iff.1 h0]; rfl
    have hle2 : (stp (hvL A w A.length)).lead.length ≤ 0 := by rw [hc] at hle; rw [show stp (hvL A w A.length) = runR (hvL A w A.length).length (tf (hvL A w A.length)) 0 by unfold stp; rw [hc]]; exact hle
    constructor
    · intro h1 h2
      have := h2 (fun _ => 1) (fun i hi h => absurd h (hn i hi)) 0 (by omega)
      exact absurd this (by decide +kernel)
    · intro h
      have : 0 < colsN A := by
        refine Nat.pos_of_ne_zero fun e => h fun x _ k hk => by omega
      omega
  · have hrow : ∀ r ∈ hvL A w A.length, r.length = colsN A := fun r hr' => by
      obtain ⟨i, hi, _, rfl⟩ := hvL_mem.1 hr'
      exact rect_row hr hi
    have hc : colsN (hvL A w A.length) = colsN A := hrow _ (ix_mem (by omega))
    have hle2 : (stp (hvL A w A.length)).lead.length ≤ colsN A := by rw [← hc]; exact hle
    have hf : (stp (hvL A w A.length)).lead.length = colsN A ↔ oneA A w := by
      have h1 := full_iff (R := (hvL A w A.length).length) (f := tf (hvL A w A.length)) (n := colsN (hvL A w A.length))
      rw [show runR (hvL A w A.length).length (tf (hvL A w A.length)) (colsN (hvL A w A.length)) = stp (hvL A w A.length) from rfl, hc] at h1
      rw [h1]
      have hk : ∀ x : Nat → Rat, Ker (hvL A w A.length).length (colsN A) (tf (hvL A w A.length)) x ↔ ∀ i, i < A.length → 0 < (ix w i).v → sm (colsN A) (fun k => tf A i k * x k) = 0 := by
        intro x
        constructor
        · intro h i hi hp
          have hm : ix A i ∈ hvL A w A.length := hvL_mem.2 ⟨i, hi, hp, rfl⟩
          obtain ⟨q, hq, e⟩ := List.getElem_of_mem hm
          have := h q hq
          have e2 : ix (hvL A w A.length) q = ix A i := by rw [ix_get hq]; exact e
          rw [← this]
          apply sm_congr
          intro k _
          show (ix (ix A i) k).v * x k = (ix (ix (hvL A w A.length) q) k).v * x k
          rw [e2]
        · intro h q hq
          have hm : ix (hvL A w A.length) q ∈ hvL A w A.length := ix_mem hq
          obtain ⟨i, hi, hp, e⟩ := hvL_mem.1 hm
          rw [← h i hi hp]
          apply sm_congr
          intro k _
          show (ix (ix (hvL A w A.length) q) k).v * x k = (ix (ix A i) k).v * x k
          rw [e]
      constructor
      · intro h x hx; exact h x ((hk x).2 hx)
      · intro h x hx; exact h x ((hk x).1 hx)
    rw [← hf]
    omega
/-- The equations' table is the one of the plain law. -/
theorem lsN_tf {A : List (List RQ)} {w : List RQ} (hC0 : 0 < colsN A) : ∀ j k, j < colsN A → k < colsN A → tf (lsN A w) j k = nrmF A.length (tf A) (fun i => (ix w i).v) j k := by
  intro j k hj hk
  unfold lsN
  rw [tf_tbl _ hj hk]
  unfold mulF nrmF
  have hTc : colsN (lsT A w) = A.length := tbl_cols _ _ hC0
  rw [hTc]
  apply sm_congr
  intro i hi
  unfold lsT
  rw [tf_tbl _ hj hi]
  grind
theorem lsN_full {A : List (List RQ)} {w : List RQ} (hC0 : 0 < colsN A) (hw : ∀ i, i < A.length → 0 ≤ (ix w i).v) : ((invS (lsN A w)).lead.length < colsN A ↔ ¬ oneA A w) := by
  have hl := lsN_len A w
  have e : (invS (lsN A w)).lead = (runR (colsN A) (tf (lsN A w)) (colsN A)).lead := by
    show (runR (lsN A w).length (besF (lsN A w).length (tf (lsN A w)) unitF) (lsN A w).length).lead = _
    rw [hl]; exact bes_lead _ _ _ _
  rw [e]
  have hle := lead_le (colsN A) (tf (lsN A w)) (colsN A)
  have h1 := full_iff (R := colsN A) (f := tf (lsN A w)) (n := colsN A)
  have h2 : (runR (colsN A) (tf (lsN A w)) (colsN A)).lead.length = colsN A ↔ oneA A w := by
    rw [h1]
    have hk : ∀ x : Nat → Rat, Ker (colsN A) (colsN A) (tf (lsN A w)) x ↔ ∀ i, i < A.length → 0 < (ix w i).v → sm (colsN A) (fun k => tf A i k * x k) = 0 := fun x => by
      rw [Ker_congr (lsN_tf hC0)]
      exact nrm_ker hw x
    constructor
    · intro h x hx; exact h x ((hk x).2 hx)
    · intro h x hx; exact h x ((hk x).1 hx)
  rw [← h2]
  omega
end
end Go.Proofs.YtbghnfhfekfenaaDoor
