/- SolveSolves: what the statement computes. -/
import Derived.Test.YtbghnfhfekfenaaDoorTq
import Derived.Test.YtbghnfhfekfenaaDoorTy
set_option linter.unusedSimpArgs false
set_option linter.unusedVariables false
namespace Go.Proofs.YtbghnfhfekfenaaDoor
open Go Go.Proofs.R
set_option maxRecDepth 10000
/-- The rows of a system, with the right side's numbers. -/
def widR (A : List (List RQ)) (b : List RQ) (m : Nat) : List (List RQ) := (List.range m).map fun i => ix A i ++ [ix b i]
@[simp] theorem widR_len (A : List (List RQ)) (b : List RQ) (m : Nat) : (widR A b m).length = m := by simp [widR]
theorem widR_succ (A : List (List RQ)) (b : List RQ) (m : Nat) : widR A b (m + 1) = widR A b m ++ [ix A m ++ [ix b m]] := by simp [widR, List.range_succ]
theorem widR_ix {A : List (List RQ)} {b : List RQ} {m i : Nat} (h : i < m) : ix (widR A b m) i = ix A i ++ [ix b i] := by simp [ix, widR, h]
section
variable {nv : R.Nv}
theorem solves_b0 (A : List (List RQ)) (b x : List RQ) (E L : D) (C : Int) (hA : A.length ≤ 4) (hb : b.length = A.length) (hr : ∀ i, i < A.length → (ix A i).length ≤ 4) :
    ∃ z e μ, EX ip nv (.code (.loop [] [] dendronlaw05_SolveSolves.b0) [(0, .d (.sl 1 (el A))), (1, .d (.sl 3 (el b))), (5, .d (.sl 3 (el x))), (6, .d E), (7, .d (.int .i64 (A.length : Int))), (8, .d (.int .i64 C)), (11, .d L), (13, .own 13 1 0 0), (14, .d (.int .i64 0))] [(13, ⟨0, false, []⟩)]) = some (.st z e μ) ∧ z ≠ .normal ∧
      ∃ H, z = .exit 0 ∧ Hp H ∧ e = [(0, .d (.sl 1 (el A))), (1, .d (.sl 3 (el b))), (5, .d (.sl 3 (el x))), (6, .d E), (7, .d (.int .i64 (A.length : Int))), (8, .d (.int .i64 C)), (11, .d L), (13, .own 13 1 0 A.length), (14, .d (.int .i64 (A.length : Int))), (62, .d (.bool false))] ∧ μ = ((13, ⟨0, false, el (widR A b A.length)⟩) :: H) := by
  refine loop_n A.length (fun i e μ => ∃ H' c', Hp H' ∧ cntOf H' = 1099511627776 + c' ∧ e = [(0, .d (.sl 1 (el A))), (1, .d (.sl 3 (el b))), (5, .d (.sl 3 (el x))), (6, .d E), (7, .d (.int .i64 (A.length : Int))), (8, .d (.int .i64 C)), (11, .d L), (13, .own 13 1 0 i), (14, .d (.int .i64 (i : Int)))] ∧ μ = ((13, ⟨0, false, el (widR A b i)⟩) :: H')) ?_ ?_ ⟨[], 0, Hp.nil, rfl, rfl, rfl⟩
  · rintro i e μ hi ⟨H', c', hp, hcn, rfl, rfl⟩
    have hri := hr i hi
    have hib : i < b.length := by omega
    have hml := widR_len A b i
    have ht2 : List.take i (widR A b i) = widR A b i := List.take_of_length_le (by omega)
    -- the heap's ways
    have hge : 1099511627776 ≤ cntOf H' := by omega
    have f1 : ∀ B, aget (hput B H') (1099511627776 + c') = some B := fun B => by rw [aget_hput hge B (by omega), hcn, if_pos rfl]
    have f2 : ∀ B, cntOf (hput B H') = 1099511627776 + (c' + 1) := fun B => by rw [cntOf_hput, hcn]; omega
    have f3 : ∀ B, cntOf (adel (1099511627776 + c') (hput B H')) = 1099511627776 + (c' + 1) := fun B => by rw [← f2 B]; exact cntOf_low (aget_adel_ne (by omega) _)
    have f4 : ∀ B B', aget (hput B' (adel (1099511627776 + c') (hput B H'))) (1099511627776 + (c' + 1)) = some B' := fun B B' => by rw [aget_hput (by rw [f3]; omega) B' (by omega), f3, if_pos rfl]
    have f5 : ∀ B B', cntOf (hput B' (adel (1099511627776 + c') (hput B H'))) = 1099511627776 + (c' + 2) := fun B B' => by rw [cntOf_hput, f3]; omega
    have f6 : ∀ B B', cntOf (adel (1099511627776 + (c' + 1)) (hput B' (adel (1099511627776 + c') (hput B H')))) = 1099511627776 + (c' + 2) := fun B B' => by rw [← f5 B B']; exact cntOf_low (aget_adel_ne (by omega) _)
    have g1 : ∀ v x, hput v ((13, x) :: H') = (13, x) :: hput v H' := fun v x => hput_lit (by decide) hge
    have g2 : ∀ v x B, hput v ((13, x) :: adel (1099511627776 + c') (hput B H')) = (13, x) :: hput v (adel (1099511627776 + c') (hput B H')) := fun v x B => hput_lit (by decide) (by rw [f3]; omega)
    have g3 : ∀ v x B B', hput v ((13, x) :: adel (1099511627776 + (c' + 1)) (hput B' (adel (1099511627776 + c') (hput B H')))) = (13, x) :: hput v (adel (1099511627776 + (c' + 1)) (hput B' (adel (1099511627776 + c') (hput B H')))) := fun v x B B' => hput_lit (by decide) (by rw [f6]; omega)
    have p1 : ∀ B, Hp (hput B H') := fun B => hp.hput (by omega) B
    have p2 : ∀ B B', Hp (hput B' (adel (1099511627776 + c') (hput B H'))) := fun B B' => ((p1 B).del).hput (by rw [f3]; omega) B'
    have p3 : ∀ B B' B'', Hp (adel (1099511627776 + (c' + 2)) (hput B'' (adel (1099511627776 + (c' + 1)) (hput B' (adel (1099511627776 + c') (hput B H')))))) := fun B B' B'' => (((p2 B B').del).hput (by rw [f6]; omega) B'').del
    have a1 : ∀ B k, k < 1099511627775 → aget (hput B H') k = none := fun B k hk => (p1 B).aget hk
    have a2 : ∀ B B' k, k < 1099511627775 → aget (hput B' (adel (1099511627776 + c') (hput B H'))) k = none := fun B B' k hk => (p2 B B').aget hk
    have a3 : ∀ B B' B'' k, k < 1099511627775 → adel k (adel (1099511627776 + (c' + 2)) (hput B'' (adel (1099511627776 + (c' + 1)) (hput B' (adel (1099511627776 + c') (hput B H')))))) = adel (1099511627776 + (c' + 2)) (hput B'' (adel (1099511627776 + (c' + 1)) (hput B' (adel (1099511627776 + c') (hput B H'))))) := fun B B' B'' k hk => (p3 B B' B'').adel hk
    have a26 : ∀ B, aget (hput B H') 71 = none := fun B => a1 B _ (by decide)
    have a41 : ∀ B B', aget (hput B' (adel (1099511627776 + c') (hput B H'))) 77 = none := fun B B' => a2 B B' _ (by decide)
    have hsu := widR_succ A b i
    refine .inl ⟨_, _, ?_, _, c' + 3, p3 ⟨0, false, []⟩ ⟨0, false, el (ix A i)⟩ ⟨0, false, el (ix A i) ++ (ix b i).c⟩, ?_, rfl, rfl⟩
    · rw [hsu]
      have htk : List.take (ix A i).length (ix A i) = ix A i := List.take_length
      generalize hrow : ix A i = row at *
      generalize hnum : ix b i = num at *
      have hap : el (row ++ [num]) = el row ++ num.c := by
        rw [← el_app]; congr 1
      have hcat : el (widR A b i ++ [row ++ [num]]) = List.take i (el (widR A b i)) ++ [D.sl 3 (el row ++ num.c)] := by
        rw [List.take_of_length_le (by rw [el_len]; omega), ← el_app, ← hap]; rfl
      rw [hcat]
      have hcr : ∀ c k o n, (D.ref c k o n).cells = [.ref c k o n] := fun _ _ _ _ => rfl
      have b1 : row.length * 3 * 56 ≤ 211106232532992 := by omega
      have b2 : (row.length * 3 + 3) * 56 ≤ 211106232532992 := by omega
      have b3 : (i + 1) * 24 ≤ 70368744177664 := by omega
      simp (disch := omega) [-vIA_o, dendronlaw05_SolveSolves.b0, hi, hib, hrow, hnum, hp.aget, hp.adel, hcn, f1, f2, f3, f4, f5, f6, g1, g2, g3, a26, a41, a3, hml, ht2, htk, hcr, b1, b2, b3]
    · rw [cntOf_low (aget_adel_ne (by omega) _), cntOf_hput, f6]; omega
  · rintro e μ ⟨H', c', hp, hcn, rfl, rfl⟩
    exact ⟨.exit 0, _, _, by simp [dendronlaw05_SolveSolves.b0] <;> first | rfl | exact ⟨rfl, rfl⟩, by simp, H', rfl, hp, rfl, rfl⟩
/-- Each row times what is told is the right side's number. -/
theorem solves_b2 (hz : TzOk nv) (A : List (List RQ)) (b x : List RQ) (C : Nat) (L : D) (hA : A.length ≤ 4) (hb : b.length = A.length) (hr : ∀ i, i < A.length → (ix A i).length = C) (hC : C ≤ 4) (hx : x.length = C)
    (hAok : ∀ r ∈ A, ∀ y ∈ r, y.ok 1) (hbok : ∀ y ∈ b, y.ok 1) (hxok : ∀ y ∈ x, y.ok 5000) (hs : ∀ i, i < A.length → dotS (ix A i) x C = (ix b i).v) {H : Mem} (hp : Hp H) :
    ∃ z e μ, EX ip nv (.code (.loop [] [] dendronlaw05_SolveSolves.b2) [(0, .d (.sl 1 (el A))), (1, .d (.sl 3 (el b))), (5, .d (.sl 3 (el x))), (7, .d (.int .i64 (A.length : Int))), (8, .d (.int .i64 (C : Int))), (11, .d L), (17, .d (.int .i64 0))] H) = some (.st z e μ) ∧ z ≠ .normal ∧
      z = .exit 2 ∧ e = [(0, .d (.sl 1 (el A))), (1, .d (.sl 3 (el b))), (5, .d (.sl 3 (el x))), (7, .d (.int .i64 (A.length : Int))), (8, .d (.int .i64 (C : Int))), (11, .d L), (17, .d (.int .i64 (A.length : Int))), (109, .d (.bool false))] ∧ μ = H := by
  refine loop_n A.length (fun i e μ => e = [(0, .d (.sl 1 (el A))), (1, .d (.sl 3 (el b))), (5, .d (.sl 3 (el x))), (7, .d (.int .i64 (A.length : Int))), (8, .d (.int .i64 (C : Int))), (11, .d L), (17, .d (.int .i64 (i : Int)))] ∧ μ = H) ?_ ?_ ⟨rfl, rfl⟩
  · rintro i e μ hi ⟨rfl, rfl⟩
    have hib : i < b.length := by omega
    have hri := hr i hi
    have hmin : min (ix A i).length x.length = C := by omega
    have hmem : ix A i ∈ A := ix_mem hi
    have dt := dot5_ev (nv := nv) hz (ix A i) x (hAok _ hmem) hxok (Nat.le_refl 1) (by decide) (by omega) (by omega) (by
      rw [hmin]
      have : (C + 1) * (1 + 5000 + 1) ≤ 5 * 5002 := Nat.mul_le_mul_right _ (by omega)
      omega)
    rw [hmin, hs i hi] at dt
    have hbi : (ix b i).ok 1 := hbok _ (ix_mem hib)
    have bq : Bq 1 (ix b i).v := Bq.v hbi (Nat.le_refl 1)
    have sm := rsame_ev (nv := nv) hz (can (ix b i).v) (ix b i) (can_ok bq) hbi (Nat.le_refl 1) (Nat.le_refl 1) (by decide)
    rw [can_v, decide_eq_true rfl] at sm
    refine .inl ⟨_, _, ?_, rfl, rfl⟩
    generalize can (ix b i).v = q at *
    generalize hrow : ix A i = row at *
    generalize hnum : ix b i = num at *
    simp (disch := omega) [-vIA_o, dendronlaw05_SolveSolves.b2, hi, hib, hrow, hnum, dt, sm, hp.aget]
  · rintro e μ ⟨rfl, rfl⟩
    exact ⟨.exit 2, _, _, by simp [dendronlaw05_SolveSolves.b2] <;> first | rfl | exact ⟨rfl, rfl⟩, by simp, rfl, rfl, rfl⟩
/-- What is told is 0 wherever it may be. -/
theorem solves_b4 (hz : TzOk nv) {R C : Nat} {s : Rs} {f0 : Tb} (h : Inv R f0 s C) (hC : C ≤ 4) (hR : R ≤ 4) {H : Mem} (hp : Hp H) :
    ∃ z e μ, EX ip nv (.code (.loop [] [] dendronlaw05_SolveSolves.b4) [(5, .d (.sl 3 (el (rw' C (solX C s))))), (8, .d (.int .i64 (C : Int))), (11, .d (.sl 1 (el (nats s.lead)))), (18, .d (.int .i64 0)), (19, .d (.int .i64 0))] H) = some (.st z e μ) ∧ z ≠ .normal ∧
      z = .exit 4 ∧ (∃ at', e = [(5, .d (.sl 3 (el (rw' C (solX C s))))), (8, .d (.int .i64 (C : Int))), (11, .d (.sl 1 (el (nats s.lead)))), (18, .d (.int .i64 at')), (19, .d (.int .i64 (C : Int))), (126, .d (.bool false))]) ∧ μ = H := by
  refine loop_n C (fun k e μ => (∃ q : Nat, q ≤ s.lead.length ∧ (∀ j, j < q → ix s.lead j < k) ∧ (∀ j, q ≤ j → j < s.lead.length → k ≤ ix s.lead j) ∧ e = [(5, .d (.sl 3 (el (rw' C (solX C s))))), (8, .d (.int .i64 (C : Int))), (11, .d (.sl 1 (el (nats s.lead)))), (18, .d (.int .i64 (q : Int))), (19, .d (.int .i64 (k : Int)))]) ∧ μ = H) ?_ ?_ ⟨⟨0, Nat.zero_le _, fun j hj => by omega, fun j _ _ => Nat.zero_le _, rfl⟩, rfl⟩
  · rintro k e μ hk ⟨⟨q, hq, hlo, hhi, rfl⟩, rfl⟩
    have hxl := rw_len C (solX C s)
    have hxi := rw_ix (solX C s) hk
    have hnl := nats_len s.lead
    have hlen := h.len
    have hlC : ∀ j, j < s.lead.length → ix s.lead j < C := h.lt
    by_cases hql : q < s.lead.length
    · have hni := nats_ix hql
      by_cases he : ix s.lead q = k
      · refine .inl ⟨_, _, ?_, ⟨q + 1, by omega, fun j hj => ?_, fun j hj1 hj2 => ?_, rfl⟩, rfl⟩
        · rw [he] at hni
          have hq4 : q < 4 := by omega
          generalize rw' C (solX C s) = X at *
          generalize nats s.lead = ns at *
          simp (disch := omega) [-vIA_o, dendronlaw05_SolveSolves.b4, hk, hql, hni, hnl]
          done
        · by_cases e : j = q
          · rw [e, he]; omega
          · have := hlo j (by omega); omega
        · have := h.inc q j (by omega) hj2
          omega
      · have hgt : k < ix s.lead q := by have := hhi q (Nat.le_refl q) hql; omega
        have hx0 : solX C s k = 0 := by
          unfold solX
          apply sm_zero
          intro j hj
          rw [if_neg]
          intro e
          by_cases e1 : j < q
          · have := hlo j e1; omega
          · by_cases e2 : j = q
            · rw [e2] at e; omega
            · have := h.inc q j (by omega) hj; omega
        have sg := rsign_ev (nv := nv) hz (can (solX C s k)) (can_ok (k := 1) (by rw [hx0]; exact Bq.zero)) (by decide) (by decide)
        rw [can_v, (sign_zero _).mpr hx0] at sg
        have hne : ¬ ((ix s.lead q : Nat) : Int) = (k : Int) := by omega
        refine .inl ⟨_, _, ?_, ⟨q, hq, fun j hj => by have := hlo j hj; omega, fun j hj1 hj2 => ?_, rfl⟩, rfl⟩
        · generalize can (solX C s k) = c at *
          generalize rw' C (solX C s) = X at *
          generalize nats s.lead = ns at *
          generalize ix s.lead q = lq at *
          simp (disch := omega) [-vIA_o, dendronlaw05_SolveSolves.b4, hk, hql, hni, hnl, hxl, hxi, hne, he, sg]
          done
        · by_cases e2 : j = q
          · rw [e2]; exact hgt
          · have := h.inc q j (by omega) hj2; omega
    · have hx0 : solX C s k = 0 := by
        unfold solX
        apply sm_zero
        intro j hj
        rw [if_neg]
        intro e
        have := hlo j (by omega); omega
      have sg := rsign_ev (nv := nv) hz (can (solX C s k)) (can_ok (k := 1) (by rw [hx0]; exact Bq.zero)) (by decide) (by decide)
      rw [can_v, (sign_zero _).mpr hx0] at sg
      refine .inl ⟨_, _, ?_, ⟨q, hq, fun j hj => by have := hlo j hj; omega, fun j hj1 hj2 => by omega, rfl⟩, rfl⟩
      generalize can (solX C s k) = c at *
      generalize rw' C (solX C s) = X at *
      generalize nats s.lead = ns at *
      simp (disch := omega) [-vIA_o, dendronlaw05_SolveSolves.b4, hk, hql, hnl, hxl, hxi, sg]
      done
  · rintro e μ ⟨⟨q, _, _, _, rfl⟩, rfl⟩
    exact ⟨.exit 4, _, _, by simp [dendronlaw05_SolveSolves.b4] <;> first | rfl | exact ⟨rfl, rfl⟩, by simp, rfl, ⟨_, rfl⟩, rfl⟩
theorem sm_one {n p : Nat} {f : Nat → Rat} (hp : p < n) (h : ∀ i, i < n → i ≠ p → f i = 0) : sm n f = f p := by
  induction n with
  | zero => omega
  | succ n ih =>
    simp only [sm]
    by_cases e : p = n
    · rw [sm_zero (fun i hi => h i (by omega) (by omega)), e]; grind
    · rw [ih (by omega) (fun i hi hne => h i (by omega) hne), h n (by omega) (fun e' => e e'.symm)]; grind
theorem solX_b {R C k : Nat} {f0 : Tb} {s : Rs} (h : Inv R f0 s C) (hb : ∀ i, i < R → Bq k (s.f i C)) (j : Nat) : Bq (k + 1) (solX C s j) := by
  unfold solX
  by_cases he : ∃ p, p < s.lead.length ∧ j = ix s.lead p
  · obtain ⟨p, hp, e⟩ := he
    rw [sm_one hp (fun i hi hne => ?_), if_pos e]
    · exact (hb p (by have := h.len; omega)).mono (by omega)
    · rw [if_neg]
      intro e2
      rcases Nat.lt_or_gt_of_ne hne with h1 | h1
      · have := h.inc i p h1 hp; omega
      · have := h.inc p i h1 hi; omega
  · rw [sm_zero fun i hi => if_neg fun e => he ⟨i, hi, e⟩]
    exact Bq.zero.mono (by omega)
/-- The rank of the rows with the right side's numbers. -/
theorem widR_rank {A : List (List RQ)} {b : List RQ} (hr : rectB A = true) (hb : b.length = A.length) :
    ((∀ i, i < A.length → (solS A b).lead.length ≤ i → (solS A b).f i (colsN A) = 0) → (stp (widR A b A.length)).lead.length ≤ (stp A).lead.length) ∧
    (¬ (∀ i, i < A.length → (solS A b).lead.length ≤ i → (solS A b).f i (colsN A) = 0) → (stp A).lead.length < (stp (widR A b A.length)).lead.length) := by
  by_cases h0 : A.length = 0
  · have h1 := (run_inv (widR A b A.length).length (tf (widR A b A.length)) (colsN (widR A b A.length))).len
    rw [widR_len] at h1
    refine ⟨fun _ => ?_, fun h => absurd (fun i hi => by omega) h⟩
    show (runR (widR A b A.length).length _ _).lead.length ≤ _
    rw [widR_len]
    omega
  · have hpos : 0 < A.length := by omega
    have hc : colsN (widR A b A.length) = colsN A + 1 := by
      unfold colsN; rw [widR_ix hpos]; simp
    have hl : (stp (widR A b A.length)).lead = (runR A.length (solF A b) (colsN A + 1)).lead := by
      show (runR (widR A b A.length).length (tf (widR A b A.length)) (colsN (widR A b A.length))).lead = _
      rw [widR_len, hc]
      apply lead_congr
      intro k hk
      apply FreeC_congr
      intro i j hi hj
      show (ix (ix (widR A b A.length) i) j).v = _
      rw [widR_ix hi]
      have hri := rect_row hr hi
      unfold solF besF
      by_cases h : j < colsN A
      · rw [if_pos h, ix_app (by omega)]; rfl
      · rw [if_neg h]
        have e : j = (ix A i).length := by omega
        rw [e, ix_last]
    have hs : (stp A).lead = (solS A b).lead := (bes_lead _ _ _ _).symm
    rw [hl, hs]
    refine ⟨fun h => ?_, fun h => ?_⟩
    · rw [more_none fun i h1 h2 => h i h2 h1]; exact Nat.le_refl _
    · have : ∃ i, i < A.length ∧ (solS A b).lead.length ≤ i ∧ (solS A b).f i (colsN A) ≠ 0 := by
        refine Classical.byContradiction fun hn => h fun i h1 h2 => Classical.byContradiction fun h3 => hn ⟨i, h1, h2, h3⟩
      obtain ⟨i, h1, h2, h3⟩ := this
      rw [more_some h2 h1 h3, List.length_append]
      simp
theorem solves_ev (hz : TzOk nv) (a : List (List RQ)) (b : List RQ) (ha : ∀ r ∈ a, ∀ y ∈ r, y.ok maxLen) (hb : ∀ y ∈ b, y.ok maxLen) :
    ∃ μ, EX ip nv (.call F.dendronlaw05_SolveSolves [.d (.sl 1 (el a)), .d (.sl 3 (el b))] []) = some (.ret (.d (.bool true)) μ) := by
  rw [S_call dendronlaw05_SolveSolves.ip rfl]
  have f1 := few5_ev (nv := nv) a 4 (by decide)
  have f2 := row5_ev (nv := nv) b 4 (by decide)
  have hA := few5_ok (n := 4) ha
  have hB := row5_ok (n := 4) hb
  have hAl := few5_len 4 a
  have hBl := row5_len 4 b
  have hAr := few5_row (n := 4) (a := a)
  have hAc := few5_cols 4 a
  have aw := awake5_ev (nv := nv) hz
  generalize few5 4 a = A at *
  generalize row5 4 b = B at *
  clear ha hb
  have sA := size5_ev (nv := nv) A (by omega)
  unfold sizeV at sA
  have c4 : ((4 : Nat) : Int) = 4 := rfl
  rw [c4] at f1 f2
  by_cases h : rectB A = true ∧ B.length = A.length
  · obtain ⟨hr, hbl⟩ := h
    have hp5 : 5 ^ colsN A ≤ 5 ^ 4 := Nat.pow_le_pow_right (by decide) hAc
    have so := solve_ev (nv := nv) hz A B hA hB (Nat.le_refl 1) (by omega) (by omega) hr (by omega) hbl
    have st := steps_ev (nv := nv) hz A hA (Nat.le_refl 1) (by omega) (by omega) hr (by omega)
    have hrow : ∀ i, i < A.length → (ix A i).length = colsN A := fun i hi => rect_row hr hi
    have hls : (stp A).lead = (solS A B).lead := (bes_lead _ _ _ _).symm
    have hsb := sol_b hA hB (Nat.le_refl 1) hr hbl
    obtain ⟨fB, _⟩ := run_b hsb (Nat.le_refl 1) (colsN A) (Nat.le_succ _)
    have hinv := run_inv A.length (solF A B) (colsN A)
    have hWok : ∀ r ∈ widR A B A.length, ∀ x ∈ r, x.ok 1 := by
      intro r hr' x hx
      simp only [widR, List.mem_map, List.mem_range] at hr'
      obtain ⟨i, hi, rfl⟩ := hr'
      rcases List.mem_append.1 hx with h | h
      · exact hA _ (ix_mem hi) _ h
      · rw [List.mem_singleton.1 h]; exact hB _ (ix_mem (by omega))
    have hWr : rectB (widR A B A.length) = true := by
      apply is_rect
      intro j hj
      rw [widR_len] at hj
      rw [widR_ix hj, widR_ix (by omega), List.length_append, List.length_append, hrow j hj, hrow 0 (by omega)]
      rfl
    have hWc : colsN (widR A B A.length) ≤ 5 := by
      refine cols_le fun r hr' => ?_
      simp only [widR, List.mem_map, List.mem_range] at hr'
      obtain ⟨i, hi, rfl⟩ := hr'
      rw [List.length_append, hrow i hi]
      simp; omega
    have hW5 : 5 ^ colsN (widR A B A.length) ≤ 5 ^ 5 := Nat.pow_le_pow_right (by decide) hWc
    have rk := rank_ev (nv := nv) hz (widR A B A.length) hWok (Nat.le_refl 1) (by omega) (by simp; omega) hWr (by omega)
    obtain ⟨r1, r2⟩ := widR_rank hr hbl
    rw [hls] at st r1 r2
    rw [if_pos hr] at sA
    have hnl := nats_len (solS A B).lead
    have hWl := widR_len A B A.length
    have htk : List.take A.length (widR A B A.length) = widR A B A.length := List.take_of_length_le (by omega)
    have hbi : (B.length : Int) = (A.length : Int) := by omega
    by_cases hP : ∀ i, i < A.length → (solS A B).lead.length ≤ i → (solS A B).f i (colsN A) = 0
    · rw [if_pos hP, if_pos hP] at so
      have hK := r1 hP
      have hX : ∀ y ∈ rw' (colsN A) (solX (colsN A) (solS A B)), y.ok 5000 := by
        intro y hy
        obtain ⟨j, hj, rfl⟩ := List.getElem_of_mem hy
        rw [rw_len] at hj
        rw [← ix_get (by simpa using hj), rw_ix _ hj]
        exact can_ok (solX_b (k := 4999) hinv (fun i hi => (fB i _ hi (Nat.lt_succ_self _)).mono (by omega)) j)
      have hXl := rw_len (colsN A) (solX (colsN A) (solS A B))
      obtain ⟨_, _, _, l0, -, H, rfl, hp, rfl, rfl⟩ := solves_b0 (nv := nv) A B (rw' (colsN A) (solX (colsN A) (solS A B))) (.int .i64 0) (.sl 1 (el (nats (solS A B).lead))) (colsN A : Int) hAl hbl (fun i hi => by rw [hrow i hi]; exact hAc)
      obtain ⟨_, _, _, l2, -, rfl, rfl, e2⟩ := solves_b2 (nv := nv) hz A B (rw' (colsN A) (solX (colsN A) (solS A B))) (colsN A) (.sl 1 (el (nats (solS A B).lead))) hAl hbl hrow hAc hXl hA hB hX (fun i hi => by
        have := sol_ok (R := A.length) (n := colsN A) (f := tf A) (b := fun i => (ix B i).v) (fun i h1 h2 => hP i h2 h1) hi
        rw [← this]
        unfold dotS
        apply sm_congr
        intro k hk
        rw [rw_ix _ hk, can_v]
        rfl) hp
      obtain ⟨_, _, _, l4, -, rfl, ⟨_, rfl⟩, e4⟩ := solves_b4 (nv := nv) hz hinv hAc hAl hp
      rw [e2] at l2
      rw [e4] at l4
      have hKi : ¬ (((solS A B).lead.length : Int) < ((stp (widR A B A.length)).lead.length : Int)) := by omega
      generalize (stp (widR A B A.length)).lead.length = K at *
      generalize widR A B A.length = W at *
      generalize rw' (colsN A) (solX (colsN A) (solS A B)) = X at *
      generalize tbl A.length (colsN A) (stp A).f = S at *
      generalize nats (solS A B).lead = ns at *
      refine ⟨H, ?_⟩
      simp (disch := omega) [-vIA_o, dendronlaw05_SolveSolves, f1, f2, so, sA, st, aw, l0, rk, l2, l4, hKi, hK, hWl, htk, hnl, hXl, hbl, hbi, hp.aget, hp.adel, hp.aput, hp.keeps]
      done
    · rw [if_neg hP, if_neg hP] at so
      have hK := r2 hP
      obtain ⟨_, _, _, l0, -, H, rfl, hp, rfl, rfl⟩ := solves_b0 (nv := nv) A B [] (.int .i64 17) (.sl 1 (el (nats (solS A B).lead))) (colsN A : Int) hAl hbl (fun i hi => by rw [hrow i hi]; exact hAc)
      have e0 : el ([] : List RQ) = [] := rfl
      rw [e0] at l0
      have hKi : ((solS A B).lead.length : Int) < ((stp (widR A B A.length)).lead.length : Int) := by omega
      generalize (stp (widR A B A.length)).lead.length = K at *
      generalize widR A B A.length = W at *
      generalize tbl A.length (colsN A) (stp A).f = S at *
      generalize nats (solS A B).lead = ns at *
      refine ⟨H, ?_⟩
      simp (disch := omega) [-vIA_o, dendronlaw05_SolveSolves, f1, f2, so, sA, st, aw, l0, rk, hKi, hK, hWl, htk, hnl, hbl, hbi, hp.aget, hp.adel, hp.aput, hp.keeps]
      done
  · have so := solve_bad (nv := nv) A B (by omega) (by
      by_cases hr : rectB A = true
      · exact .inr ⟨hr, fun e => h ⟨hr, e⟩⟩
      · exact .inl (by simpa using hr))
    refine ⟨[], ?_⟩
    by_cases hr : rectB A = true
    · have hne : ¬ (A.length : Int) = (B.length : Int) := fun e => h ⟨hr, by omega⟩
      rw [if_pos hr] at sA
      simp (disch := omega) [-vIA_o, dendronlaw05_SolveSolves, f1, f2, so, sA, aw, hne]
    · rw [if_neg hr] at sA
      simp (disch := omega) [-vIA_o, dendronlaw05_SolveSolves, f1, f2, so, sA, aw]
end
end Go.Proofs.YtbghnfhfekfenaaDoor
