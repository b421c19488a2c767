/- The kernel, as the program tells it. -/
import Derived.Test.YtbghnfhfekfenaaDoorTe
import Derived.Test.YtbghnfhfekfenaaDoorTi
import Derived.Test.YtbghnfhfekfenaaDoorTh
set_option linter.unusedSimpArgs false
set_option linter.unusedVariables false
namespace Go.Proofs.YtbghnfhfekfenaaDoor
open Go Go.Proofs.R
set_option maxRecDepth 10000
/-- Has a column no leader? -/
def nld (lead : List Nat) (k : Nat) : Bool := !lead.contains k
theorem nld_iff {lead : List Nat} {k : Nat} : nld lead k = true ↔ ∀ i, i < lead.length → ix lead i ≠ k := by
  unfold nld
  rw [Bool.not_eq_true', ← Bool.not_eq_true, List.contains_iff_mem]
  constructor
  · intro h i hi e
    exact h (by rw [← e]; exact ix_mem hi)
  · intro h hm
    obtain ⟨i, hi, rfl⟩ := List.getElem_of_mem hm
    exact h i hi (ix_get hi)
/-- The columns without a leader. -/
def clL (lead : List Nat) (k : Nat) : List Nat := (List.range k).filter (nld lead)
theorem clL_yes {lead : List Nat} {k : Nat} (h : nld lead k = true) : clL lead (k + 1) = clL lead k ++ [k] := by
  unfold clL; rw [List.range_succ, List.filter_append, List.filter_cons_of_pos h, List.filter_nil]
theorem clL_no {lead : List Nat} {k : Nat} (h : ¬ nld lead k = true) : clL lead (k + 1) = clL lead k := by
  unfold clL; rw [List.range_succ, List.filter_append, List.filter_cons_of_neg h, List.filter_nil, List.append_nil]
theorem clL_mem {lead : List Nat} {k i : Nat} (h : i < (clL lead k).length) : ix (clL lead k) i < k ∧ nld lead (ix (clL lead k) i) = true := by
  have := List.mem_filter.1 (ix_mem h)
  exact ⟨List.mem_range.1 this.1, this.2⟩
theorem clL_pre {lead : List Nat} {k : Nat} : ∀ {C : Nat}, k ≤ C → ∃ r, clL lead C = clL lead k ++ r
  | 0, h => ⟨[], by rw [show k = 0 by omega, List.append_nil]⟩
  | C + 1, h => by
    by_cases e : k = C + 1
    · exact ⟨[], by rw [e, List.append_nil]⟩
    · obtain ⟨r, hr⟩ := clL_pre (lead := lead) (k := k) (C := C) (by omega)
      by_cases hc : nld lead C = true
      · exact ⟨r ++ [C], by rw [clL_yes hc, hr, List.append_assoc]⟩
      · exact ⟨r, by rw [clL_no hc, hr]⟩
theorem clL_inc {lead : List Nat} : ∀ {k i j : Nat}, i < j → j < (clL lead k).length → ix (clL lead k) i < ix (clL lead k) j
  | 0, i, j, h1, h2 => by simp [clL] at h2
  | k + 1, i, j, h1, h2 => by
    by_cases hc : nld lead k = true
    · rw [clL_yes hc, List.length_append, List.length_cons, List.length_nil] at h2
      rw [clL_yes hc, ix_app1, ix_app1, if_pos (by omega)]
      by_cases e : j < (clL lead k).length
      · rw [if_pos e]; exact clL_inc h1 e
      · rw [if_neg e, if_pos (by omega)]
        exact (clL_mem (by omega)).1
    · rw [clL_no hc] at h2 ⊢; exact clL_inc h1 h2
/-- The column without a leader that stands at a place. -/
theorem clL_at {lead : List Nat} {k C : Nat} (hk : k < C) (h : nld lead k = true) : (clL lead k).length < (clL lead C).length ∧ ix (clL lead C) (clL lead k).length = k := by
  obtain ⟨r, hr⟩ := clL_pre (lead := lead) (k := k + 1) (C := C) hk
  rw [hr, clL_yes h]
  refine ⟨by simp, ?_⟩
  rw [ix_get (by simp), List.getElem_append_left (by simp), List.getElem_append_right (Nat.le_refl _)]
  simp
theorem clL_is {lead : List Nat} {k C i : Nat} (hk : k < C) (h : nld lead k = true) (hi : i < (clL lead C).length) : ix (clL lead C) i = k ↔ i = (clL lead k).length := by
  obtain ⟨h1, h2⟩ := clL_at hk h
  constructor
  · intro e
    rcases Nat.lt_trichotomy i (clL lead k).length with h3 | h3 | h3
    · have := clL_inc h3 h1; omega
    · exact h3
    · have := clL_inc h3 hi; omega
  · intro e; rw [e]; exact h2
/-- A column's numbers, so far. -/
def kvI (s : Rs) (k i : Nat) : Nat → Rat := fun j => (if j = k then 1 else 0) - sm i (fun i' => if j = ix s.lead i' then s.f i' k else 0)
theorem kvI_all (s : Rs) (k : Nat) : kvI s k s.lead.length = kv s.f s.lead k := rfl
theorem kvI_zero (C k : Nat) (s : Rs) : (rw' C (fun _ => 0)).set k (can 1) = rw' C (kvI s k 0) := by
  rw [rw_set]
  apply rw_congr
  intro j _
  unfold kvI
  simp only [sm]
  by_cases e : j = k
  · rw [if_pos e]; grind
  · rw [if_neg e]; grind
theorem kvI_step {R C k : Nat} {f0 : Tb} {s : Rs} (h : Inv R f0 s C) (hk : nld s.lead k = true) {i : Nat} (hi : i < s.lead.length) : (rw' C (kvI s k i)).set (ix s.lead i) (can (-(s.f i k))) = rw' C (kvI s k (i + 1)) := by
  rw [rw_set]
  apply rw_congr
  intro j hj
  unfold kvI
  simp only [sm]
  by_cases e : j = ix s.lead i
  · have hne := nld_iff.1 hk i hi
    rw [if_pos e, if_pos e, if_neg (by omega), sm_zero]
    · grind
    · intro k' hk'
      rw [if_neg]
      rw [e]
      intro e2
      have := h.inc k' i hk' hi
      omega
  · rw [if_neg e, if_neg e]; grind
/-- The kernel's rows. -/
def kerL (C : Nat) (s : Rs) (k : Nat) : List (List RQ) := (clL s.lead k).map fun c => rw' C (kv s.f s.lead c)
@[simp] theorem kerL_len (C : Nat) (s : Rs) (k : Nat) : (kerL C s k).length = (clL s.lead k).length := by simp [kerL]
theorem kerL_ix {C : Nat} {s : Rs} {k i : Nat} (h : i < (clL s.lead k).length) : ix (kerL C s k) i = rw' C (kv s.f s.lead (ix (clL s.lead k) i)) := by
  rw [ix_get (by simpa using h), ix_get h]; simp [kerL]
section
variable {nv : R.Nv}
theorem kern_b2 (C : Nat) (hC : C ≤ 1000) (S Ld : D) (m nx k : Nat) (B : Blk) :
    ∃ z e μ, EX ip nv (.code (.loop [] [] solve_Kernel.b2) [(4, .d S), (5, .d Ld), (8, .d (.int .i64 (C : Int))), (10, .own 10 1 0 m), (11, .d (.int .i64 (nx : Int))), (12, .d (.int .i64 (k : Int))), (13, .own 51 3 0 C), (32, .d (.int .i64 (C : Int))), (33, .d (.int .i64 (k : Int))), (53, .d (.int .i64 (C : Int))), (54, .d (.int .i64 0))] [(10, B), (51, ⟨0, false, el (rq' C (zr 0))⟩)]) = some (.st z e μ) ∧ z ≠ .normal ∧
      z = .exit 2 ∧ e = [(4, .d S), (5, .d Ld), (8, .d (.int .i64 (C : Int))), (10, .own 10 1 0 m), (11, .d (.int .i64 (nx : Int))), (12, .d (.int .i64 (k : Int))), (13, .own 51 3 0 C), (32, .d (.int .i64 (C : Int))), (33, .d (.int .i64 (k : Int))), (53, .d (.int .i64 (C : Int))), (54, .d (.int .i64 (C : Int))), (55, .d (.bool false))] ∧ μ = [(10, B), (51, ⟨0, false, el (rw' C (fun _ => 0))⟩)] := by
  refine loop_n C (fun i e μ => e = [(4, .d S), (5, .d Ld), (8, .d (.int .i64 (C : Int))), (10, .own 10 1 0 m), (11, .d (.int .i64 (nx : Int))), (12, .d (.int .i64 (k : Int))), (13, .own 51 3 0 C), (32, .d (.int .i64 (C : Int))), (33, .d (.int .i64 (k : Int))), (53, .d (.int .i64 (C : Int))), (54, .d (.int .i64 (i : Int)))] ∧ μ = [(10, B), (51, ⟨0, false, el (rq' C (zr i))⟩)]) ?_ ?_ ⟨rfl, rfl⟩
  · rintro i e μ hi ⟨rfl, rfl⟩
    have hz0 := zero_ev (nv := nv)
    have hs := zr_set (C := C) (i := i)
    have hlen := rq_len C (zr i)
    refine .inl ⟨_, _, ?_, rfl, rfl⟩
    generalize rq' C (zr (i + 1)) = g' at *
    generalize rq' C (zr i) = g at *
    generalize can 0 = q at *
    simp (disch := omega) [-vIA_o, solve_Kernel.b2, hi, hz0, hs, hlen]
  · rintro e μ ⟨rfl, rfl⟩
    rw [zr_all]
    exact ⟨.exit 2, _, _, by simp [solve_Kernel.b2] <;> first | rfl | exact ⟨rfl, rfl⟩, by simp, rfl, rfl, rfl⟩
theorem kern_b4 (hz : TzOk nv) {R C : Nat} {s : Rs} {f0 : Tb} (h : Inv R f0 s C) {b : Nat} (hb : ∀ i k, i < R → k < C → Bq b (s.f i k)) (hb0 : 1 ≤ b) (hb1 : b ≤ 1073741824) (hC : C ≤ 1000) (hR : R ≤ 1000) (m nx k : Nat) (hk : k < C) (hn : nld s.lead k = true) (B : Blk) :
    ∃ z e μ, EX ip nv (.code (.loop [] [] solve_Kernel.b4) [(4, .d (.sl 1 (el (tbl R C s.f)))), (5, .d (.sl 1 (el (nats s.lead)))), (8, .d (.int .i64 (C : Int))), (10, .own 10 1 0 m), (11, .d (.int .i64 (nx : Int))), (12, .d (.int .i64 (k : Int))), (13, .own 51 3 0 C), (32, .d (.int .i64 (C : Int))), (33, .d (.int .i64 (k : Int))), (66, .d (.sl 1 (el (nats s.lead)))), (67, .d (.int .i64 (s.lead.length : Int))), (68, .d (.int .i64 0))] [(10, B), (51, ⟨0, false, el (rw' C (kvI s k 0))⟩)]) = some (.st z e μ) ∧ z ≠ .normal ∧
      z = .exit 4 ∧ e = [(4, .d (.sl 1 (el (tbl R C s.f)))), (5, .d (.sl 1 (el (nats s.lead)))), (8, .d (.int .i64 (C : Int))), (10, .own 10 1 0 m), (11, .d (.int .i64 (nx : Int))), (12, .d (.int .i64 (k : Int))), (13, .own 51 3 0 C), (32, .d (.int .i64 (C : Int))), (33, .d (.int .i64 (k : Int))), (66, .d (.sl 1 (el (nats s.lead)))), (67, .d (.int .i64 (s.lead.length : Int))), (68, .d (.int .i64 (s.lead.length : Int))), (69, .d (.bool false))] ∧ μ = [(10, B), (51, ⟨0, false, el (rw' C (kv s.f s.lead k))⟩)] := by
  have hll := h.len
  have hnl := nats_len s.lead
  refine loop_n s.lead.length (fun i e μ => e = [(4, .d (.sl 1 (el (tbl R C s.f)))), (5, .d (.sl 1 (el (nats s.lead)))), (8, .d (.int .i64 (C : Int))), (10, .own 10 1 0 m), (11, .d (.int .i64 (nx : Int))), (12, .d (.int .i64 (k : Int))), (13, .own 51 3 0 C), (32, .d (.int .i64 (C : Int))), (33, .d (.int .i64 (k : Int))), (66, .d (.sl 1 (el (nats s.lead)))), (67, .d (.int .i64 (s.lead.length : Int))), (68, .d (.int .i64 (i : Int)))] ∧ μ = [(10, B), (51, ⟨0, false, el (rw' C (kvI s k i))⟩)]) ?_ ?_ ⟨rfl, rfl⟩
  · rintro i e μ hi ⟨rfl, rfl⟩
    have hiR : i < R := by omega
    have hli := h.lt i hi
    have tix := tbl_ix (R := R) (C := C) (f := s.f) hiR
    have tln := tbl_len R C s.f
    have hlen := rw_len C (s.f i)
    have hix := rw_ix (s.f i) hk
    have hni := nats_ix hi
    have hin : i < (nats s.lead).length := by omega
    have ng := rneg_ev (nv := nv) hz (can (s.f i k)) (can_ok (hb i k hiR hk)) hb0 hb1
    rw [can_v] at ng
    have st := kvI_step h hn hi
    have hl3 := rw_len C (kvI s k i)
    refine .inl ⟨_, _, ?_, rfl, rfl⟩
    generalize rw' C (kvI s k (i + 1)) = g' at *
    generalize rw' C (kvI s k i) = g at *
    generalize can (-(s.f i k)) = q at *
    generalize can (s.f i k) = q2 at *
    generalize rw' C (s.f i) = row at *
    generalize tbl R C s.f = mm at *
    generalize ix s.lead i = li at *
    generalize nats s.lead = ns at *
    simp (disch := omega) [-vIA_o, solve_Kernel.b4, hi, tix, hix, hni, st, hl3, ng]
  · rintro e μ ⟨rfl, rfl⟩
    rw [kvI_all]
    exact ⟨.exit 4, _, _, by simp [solve_Kernel.b4] <;> first | rfl | exact ⟨rfl, rfl⟩, by simp, rfl, rfl, rfl⟩
theorem kern_b0 (hz : TzOk nv) {R C : Nat} {s : Rs} {f0 : Tb} (h : Inv R f0 s C) {b : Nat} (hb : ∀ i k, i < R → k < C → Bq b (s.f i k)) (hb0 : 1 ≤ b) (hb1 : b ≤ 1073741824) (hC : C ≤ 1000) (hR : R ≤ 1000) :
    ∃ z e μ, EX ip nv (.code (.loop [] [] solve_Kernel.b0) [(4, .d (.sl 1 (el (tbl R C s.f)))), (5, .d (.sl 1 (el (nats s.lead)))), (8, .d (.int .i64 (C : Int))), (10, .own 10 1 0 0), (11, .d (.int .i64 0)), (32, .d (.int .i64 (C : Int))), (33, .d (.int .i64 0))] [(10, ⟨0, false, []⟩)]) = some (.st z e μ) ∧ z ≠ .normal ∧
      (clL s.lead C).length + s.lead.length = C ∧ z = .exit 0 ∧ e = [(4, .d (.sl 1 (el (tbl R C s.f)))), (5, .d (.sl 1 (el (nats s.lead)))), (8, .d (.int .i64 (C : Int))), (10, .own 10 1 0 (clL s.lead C).length), (11, .d (.int .i64 (s.lead.length : Int))), (32, .d (.int .i64 (C : Int))), (33, .d (.int .i64 (C : Int))), (34, .d (.bool false))] ∧ μ = [(10, ⟨0, false, el (kerL C s C)⟩)] := by
  have hll := h.len
  have hnl := nats_len s.lead
  refine loop_n C (fun k e μ => ∃ nx, nx ≤ s.lead.length ∧ (∀ i, i < nx → ix s.lead i < k) ∧ (∀ i, nx ≤ i → i < s.lead.length → k ≤ ix s.lead i) ∧ (clL s.lead k).length + nx = k ∧ e = [(4, .d (.sl 1 (el (tbl R C s.f)))), (5, .d (.sl 1 (el (nats s.lead)))), (8, .d (.int .i64 (C : Int))), (10, .own 10 1 0 (clL s.lead k).length), (11, .d (.int .i64 (nx : Int))), (32, .d (.int .i64 (C : Int))), (33, .d (.int .i64 (k : Int)))] ∧ μ = [(10, ⟨0, false, el (kerL C s k)⟩)]) ?_ ?_ ⟨0, by omega, fun i hi => by omega, fun i _ _ => by omega, rfl, rfl, rfl⟩
  · rintro k e μ hk ⟨nx, n1, n2, n3, n4, rfl, rfl⟩
    by_cases hl : nx < s.lead.length ∧ ix s.lead nx = k
    · obtain ⟨l1, l2⟩ := hl
      have hnn : ¬ nld s.lead k = true := fun hc => nld_iff.1 hc nx l1 l2
      have hni := nats_ix l1
      have hin : nx < (nats s.lead).length := by omega
      refine .inl ⟨_, _, ?_, nx + 1, by omega, fun i hi => ?_, fun i h1 h2 => ?_, by rw [clL_no hnn]; omega, rfl, rfl⟩
      · rw [clL_no hnn]
        have e1 : kerL C s (k + 1) = kerL C s k := by unfold kerL; rw [clL_no hnn]
        rw [e1]
        rw [l2] at hni
        generalize nats s.lead = ns at *
        simp (disch := omega) [-vIA_o, solve_Kernel.b0, hk, l1, hni, hnl]
      · by_cases e : i = nx
        · rw [e, l2]; omega
        · have := n2 i (by omega); omega
      · have h3 := n3 i (by omega) h2
        have := h.inc nx i (by omega) h2
        omega
    · have hnn : nld s.lead k = true := nld_iff.2 fun i hi e => by
        by_cases h1 : i < nx
        · have := n2 i h1; omega
        · by_cases h2 : i = nx
          · exact hl ⟨by omega, by rw [← h2]; exact e⟩
          · have := h.inc nx i (by omega) hi
            have := n3 nx (Nat.le_refl _) (by omega)
            omega
      obtain ⟨_, _, _, lb2, -, rfl, rfl, rfl⟩ := kern_b2 (nv := nv) C hC (.sl 1 (el (tbl R C s.f))) (.sl 1 (el (nats s.lead))) (clL s.lead k).length nx k ⟨0, false, el (kerL C s k)⟩
      obtain ⟨_, _, _, lb4, -, rfl, rfl, rfl⟩ := kern_b4 (nv := nv) hz h hb hb0 hb1 hC hR (clL s.lead k).length nx k hk hnn ⟨0, false, el (kerL C s k)⟩
      have hrep : el (List.replicate C (⟨false, [], []⟩ : RQ)) = el (rq' C (zr 0)) := by rw [rep_rq]; rfl
      have kz := kvI_zero C k s
      have one := rone_ev (nv := nv)
      have hl0 := rw_len C (fun _ => 0)
      have hlk := rw_len C (kv s.f s.lead k)
      have hkl := kerL_len C s k
      have e1 : kerL C s (k + 1) = kerL C s k ++ [rw' C (kv s.f s.lead k)] := by unfold kerL; rw [clL_yes hnn, List.map_append]; rfl
      have ht2 : List.take (clL s.lead k).length (kerL C s k) = kerL C s k := List.take_of_length_le (by omega)
      have hmm : (clL s.lead k).length ≤ k := by omega
      refine .inl ⟨_, _, ?_, nx, n1, fun i hi => by have := n2 i hi; omega, fun i h1 h2 => ?_, by rw [clL_yes hnn]; simp; omega, rfl, rfl⟩
      · rw [e1, clL_yes hnn, List.length_append, List.length_cons, List.length_nil]
        generalize rw' C (kv s.f s.lead k) = r2 at *
        generalize rw' C (kvI s k 0) = r1 at *
        generalize rw' C (fun _ => 0) = r0 at *
        generalize rq' C (zr 0) = rz at *
        generalize kerL C s k = kl at *
        generalize (clL s.lead k).length = m at *
        generalize can 1 = q at *
        generalize tbl R C s.f = tb at *
        have hmk : 56 * C ≤ 281474976710656 := by omega
        by_cases l1 : nx < s.lead.length
        · have l2 : ¬ ix s.lead nx = k := fun e => hl ⟨l1, e⟩
          have hni := nats_ix l1
          have hin : nx < (nats s.lead).length := by omega
          have l2i : ¬ ((ix s.lead nx : Nat) : Int) = (k : Int) := by omega
          generalize ix s.lead nx = li at *
          generalize nats s.lead = ns at *
          simp (disch := omega) [-vIA_o, solve_Kernel.b0, hk, l1, l2, l2i, hni, hnl, hrep, hmk, lb2, one, kz, hl0, lb4, hlk, hkl, ht2]
        · generalize nats s.lead = ns at *
          simp (disch := omega) [-vIA_o, solve_Kernel.b0, hk, l1, hnl, hrep, hmk, lb2, one, kz, hl0, lb4, hlk, hkl, ht2]
      · have h3 := n3 i h1 h2
        have := nld_iff.1 hnn i h2
        omega
  · rintro e μ ⟨nx, n1, n2, n3, n4, rfl, rfl⟩
    have e1 : nx = s.lead.length := by
      by_cases e : nx < s.lead.length
      · have h1 := n3 nx (Nat.le_refl _) e
        have h2 := h.lt nx e
        omega
      · omega
    subst e1
    exact ⟨.exit 0, _, _, by simp [solve_Kernel.b0] <;> first | rfl | exact ⟨rfl, rfl⟩, by simp, n4, rfl, rfl, rfl⟩
theorem kern_ev (hz : TzOk nv) (a : List (List RQ)) (ha : ∀ r ∈ a, ∀ x ∈ r, x.ok 1) (hl : a.length ≤ 5) (hr : rectB a = true) (hc : colsN a ≤ 5) :
    (clL (stp a).lead (colsN a)).length + (stp a).lead.length = colsN a ∧
    EX ip nv (.call F.solve_Kernel [.d (.sl 1 (el a))] []) = some (.ret (.tp [.d (.sl 1 (el (kerL (colsN a) (stp a) (colsN a)))), .d (.int .i64 0)]) []) := by
  rw [S_call solve_Kernel.ip rfl]
  have hp5 : 5 ^ colsN a ≤ 3125 := Nat.le_trans (Nat.pow_le_pow_right (by decide) hc) (by decide)
  have hp1 : 1 ≤ 5 ^ colsN a := Nat.pow_pos (by decide)
  have st := steps_ev (nv := nv) hz a ha (by decide) (by omega) (by omega) hr (by omega)
  have sz := size_ev (nv := nv) a (by omega)
  unfold sizeV at sz
  rw [if_pos hr] at sz
  obtain ⟨fB, -⟩ := run_b (tf_b ha (by decide) hr) (by decide) (colsN a) (Nat.le_refl _)
  obtain ⟨_, _, _, l0, -, hcnt, rfl, rfl, rfl⟩ := kern_b0 (nv := nv) hz (run_inv a.length (tf a) (colsN a)) fB (by omega) (by omega) (by omega) (by omega)
  refine ⟨hcnt, ?_⟩
  have hkl := kerL_len (colsN a) (stp a) (colsN a)
  unfold stp at *
  generalize runR a.length (tf a) (colsN a) = s at *
  generalize kerL (colsN a) s (colsN a) = kl at *
  generalize (clL s.lead (colsN a)).length = m at *
  simp (disch := omega) [solve_Kernel, st, sz, l0, hkl]
theorem kern_bad (a : List (List RQ)) (hl : a.length ≤ 1000) (hr : rectB a = false) : EX ip nv (.call F.solve_Kernel [.d (.sl 1 (el a))] []) = some (.ret (.tp [.d (.sl 1 []), .d (.int .i64 14)]) []) := by
  rw [S_call solve_Kernel.ip rfl]
  have st := steps_bad (nv := nv) a (by omega) hr
  simp (disch := omega) [solve_Kernel, st]
end
/-- The kernel's numbers: at a column without a leader. -/
theorem ker_at {s : Rs} {C k i : Nat} (hk : k < C) (hn : nld s.lead k = true) (hi : i < (clL s.lead C).length) : kv s.f s.lead (ix (clL s.lead C) i) k = if i = (clL s.lead k).length then 1 else 0 := by
  unfold kv
  rw [sm_zero (fun j hj => if_neg (fun e => nld_iff.1 hn j hj e.symm))]
  by_cases e : i = (clL s.lead k).length
  · rw [if_pos e, if_pos ((clL_is hk hn hi).2 e).symm]; grind
  · rw [if_neg e, if_neg (fun h => e ((clL_is hk hn hi).1 h.symm))]; grind
theorem kv_b {R C : Nat} {s : Rs} {f0 : Tb} (h : Inv R f0 s C) {b : Nat} (hb : ∀ i k, i < R → k < C → Bq b (s.f i k)) (hb0 : 1 ≤ b) {k : Nat} (hk : k < C) (hn : nld s.lead k = true) (j : Nat) : Bq b (kv s.f s.lead k j) := by
  have hR := h.len
  -- a leader's column or not
  by_cases hj : ∃ i, i < s.lead.length ∧ ix s.lead i = j
  · obtain ⟨i, hi, rfl⟩ := hj
    have : kv s.f s.lead k (ix s.lead i) = -(s.f i k) := by
      unfold kv
      have hne := nld_iff.1 hn i hi
      rw [if_neg hne]
      have e1 : sm s.lead.length (fun i' => if ix s.lead i = ix s.lead i' then s.f i' k else 0) = s.f i k := by
        rw [← sm_one hi (s.f i k)]
        apply sm_congr
        intro i' hi'
        by_cases e : i' = i
        · subst e; rw [if_pos rfl, if_pos rfl]
        · rw [if_neg e, if_neg]
          intro e2
          rcases Nat.lt_trichotomy i i' with h3 | h3 | h3
          · have := h.inc i i' h3 hi'; omega
          · exact e h3.symm
          · have := h.inc i' i h3 hi; omega
      rw [e1]; grind
    rw [this]
    exact (hb i k (by omega) hk).neg
  · have : kv s.f s.lead k j = if j = k then 1 else 0 := by
      unfold kv
      rw [sm_zero (fun i hi => if_neg (fun e => hj ⟨i, hi, e.symm⟩))]
      grind
    rw [this]
    have b1 : Bq 1 (1 : Rat) := ⟨by simp [pw], by simp [pw]⟩
    split
    · exact b1.mono hb0
    · exact Bq.zero.mono hb0
section
variable {nv : R.Nv}
theorem kers_b2 (hz : TzOk nv) {R C : Nat} {s : Rs} {f0 : Tb} (h : Inv R f0 s C) {b : Nat} (hb : ∀ i k, i < R → k < C → Bq b (s.f i k)) (hb0 : 1 ≤ b) (hb1 : 2 * b ≤ 1073741824) (hC : C ≤ 1000) (A Rw Ld : D) (nx k : Nat) (hk : k < C) (hn : nld s.lead k = true) :
    ∃ z e μ, EX ip nv (.code (.loop [] [] dendronlaw05_SolveKernels.b2) [(0, .d A), (3, .d (.sl 1 (el (kerL C s C)))), (5, .d Rw), (6, .d (.int .i64 (C : Int))), (9, .d Ld), (11, .d (.int .i64 ((clL s.lead k).length : Int))), (12, .d (.int .i64 (nx : Int))), (13, .d (.int .i64 (k : Int))), (14, .d (.int .i64 0))] []) = some (.st z e μ) ∧ z ≠ .normal ∧
      z = .exit 2 ∧ e = [(0, .d A), (3, .d (.sl 1 (el (kerL C s C)))), (5, .d Rw), (6, .d (.int .i64 (C : Int))), (9, .d Ld), (11, .d (.int .i64 ((clL s.lead k).length : Int))), (12, .d (.int .i64 (nx : Int))), (13, .d (.int .i64 (k : Int))), (14, .d (.int .i64 ((clL s.lead C).length : Int))), (82, .d (.bool false))] ∧ μ = [] := by
  have hkl := kerL_len C s C
  refine loop_n (clL s.lead C).length (fun i e μ => e = [(0, .d A), (3, .d (.sl 1 (el (kerL C s C)))), (5, .d Rw), (6, .d (.int .i64 (C : Int))), (9, .d Ld), (11, .d (.int .i64 ((clL s.lead k).length : Int))), (12, .d (.int .i64 (nx : Int))), (13, .d (.int .i64 (k : Int))), (14, .d (.int .i64 (i : Int)))] ∧ μ = []) ?_ ?_ ⟨rfl, rfl⟩
  · rintro i e μ hi ⟨rfl, rfl⟩
    obtain ⟨cm1, cm2⟩ := clL_mem hi
    have hcl : (clL s.lead C).length ≤ C := Nat.le_trans (List.length_filter_le _ _) (by simp)
    have kix := kerL_ix (C := C) hi
    have hlen := rw_len C (kv s.f s.lead (ix (clL s.lead C) i))
    have hix := rw_ix (kv s.f s.lead (ix (clL s.lead C) i)) hk
    have one := rone_ev (nv := nv)
    have zer := zero_ev (nv := nv)
    have bb := kv_b h hb hb0 cm1 cm2 k
    rw [ker_at hk hn hi] at hix bb
    have sm := rsame_ev (nv := nv) hz (can (if i = (clL s.lead k).length then 1 else 0)) (can (if i = (clL s.lead k).length then 1 else 0)) (can_ok (bb.mono (Nat.le_refl b))) (can_ok bb) hb0 hb0 (by omega)
    rw [decide_eq_true rfl] at sm
    refine .inl ⟨_, _, ?_, rfl, rfl⟩
    by_cases e : i = (clL s.lead k).length
    · rw [if_pos e] at sm hix
      have ei : (i : Int) = ((clL s.lead k).length : Int) := by omega
      generalize can 1 = q at *
      generalize can 0 = q0 at *
      generalize rw' C (kv s.f s.lead (ix (clL s.lead C) i)) = row at *
      generalize kerL C s C = kl at *
      generalize (clL s.lead k).length = n0 at *
      subst e
      simp (disch := omega) [-vIA_o, dendronlaw05_SolveKernels.b2, hkl, hi, one, zer, kix, hlen, hix, sm]
    · rw [if_neg e] at sm hix
      have ei : ¬ (i : Int) = ((clL s.lead k).length : Int) := by omega
      generalize can 1 = q at *
      generalize can 0 = q0 at *
      generalize rw' C (kv s.f s.lead (ix (clL s.lead C) i)) = row at *
      generalize kerL C s C = kl at *
      generalize (clL s.lead k).length = n0 at *
      simp (disch := omega) [-vIA_o, dendronlaw05_SolveKernels.b2, hkl, hi, one, zer, kix, hlen, hix, sm, e, ei]
  · rintro e μ ⟨rfl, rfl⟩
    refine ⟨.exit 2, _, _, ?_, by simp, rfl, rfl, rfl⟩
    generalize kerL C s C = kl at *
    simp [dendronlaw05_SolveKernels.b2, hkl]
theorem kers_b0 (hz : TzOk nv) {R C : Nat} {s : Rs} {f0 : Tb} (h : Inv R f0 s C) {b : Nat} (hb : ∀ i k, i < R → k < C → Bq b (s.f i k)) (hb0 : 1 ≤ b) (hb1 : 2 * b ≤ 1073741824) (hC : C ≤ 1000) (hR : R ≤ 1000) (A Rw : D) :
    ∃ z e μ, EX ip nv (.code (.loop [] [] dendronlaw05_SolveKernels.b0) [(0, .d A), (3, .d (.sl 1 (el (kerL C s C)))), (5, .d Rw), (6, .d (.int .i64 (C : Int))), (9, .d (.sl 1 (el (nats s.lead)))), (11, .d (.int .i64 0)), (12, .d (.int .i64 0)), (13, .d (.int .i64 0))] []) = some (.st z e μ) ∧ z ≠ .normal ∧
      ∃ n1 n2 : Nat, z = .exit 0 ∧ e = [(0, .d A), (3, .d (.sl 1 (el (kerL C s C)))), (5, .d Rw), (6, .d (.int .i64 (C : Int))), (9, .d (.sl 1 (el (nats s.lead)))), (11, .d (.int .i64 (n1 : Int))), (12, .d (.int .i64 (n2 : Int))), (13, .d (.int .i64 (C : Int))), (62, .d (.bool false))] ∧ μ = [] := by
  have hll := h.len
  have hnl := nats_len s.lead
  refine loop_n C (fun k e μ => ∃ nx, nx ≤ s.lead.length ∧ (∀ i, i < nx → ix s.lead i < k) ∧ (∀ i, nx ≤ i → i < s.lead.length → k ≤ ix s.lead i) ∧ e = [(0, .d A), (3, .d (.sl 1 (el (kerL C s C)))), (5, .d Rw), (6, .d (.int .i64 (C : Int))), (9, .d (.sl 1 (el (nats s.lead)))), (11, .d (.int .i64 ((clL s.lead k).length : Int))), (12, .d (.int .i64 (nx : Int))), (13, .d (.int .i64 (k : Int)))] ∧ μ = []) ?_ ?_ ⟨0, by omega, fun i hi => by omega, fun i _ _ => by omega, rfl, rfl⟩
  · rintro k e μ hk ⟨nx, n1, n2, n3, rfl, rfl⟩
    have hcl : (clL s.lead k).length ≤ k := Nat.le_trans (List.length_filter_le _ _) (by simp)
    by_cases hl : nx < s.lead.length ∧ ix s.lead nx = k
    · obtain ⟨l1, l2⟩ := hl
      have hnn : ¬ nld s.lead k = true := fun hc => nld_iff.1 hc nx l1 l2
      have hni := nats_ix l1
      have hin : nx < (nats s.lead).length := by omega
      refine .inl ⟨_, _, ?_, nx + 1, by omega, fun i hi => ?_, fun i h1 h2 => ?_, rfl, rfl⟩
      · rw [clL_no hnn]
        rw [l2] at hni
        generalize kerL C s C = kl at *
        generalize nats s.lead = ns at *
        simp (disch := omega) [-vIA_o, dendronlaw05_SolveKernels.b0, hk, l1, hni, hnl]
      · by_cases e : i = nx
        · rw [e, l2]; omega
        · have := n2 i (by omega); omega
      · have h3 := n3 i (by omega) h2
        have := h.inc nx i (by omega) h2
        omega
    · have hnn : nld s.lead k = true := nld_iff.2 fun i hi e => by
        by_cases h1 : i < nx
        · have := n2 i h1; omega
        · by_cases h2 : i = nx
          · exact hl ⟨by omega, by rw [← h2]; exact e⟩
          · have := h.inc nx i (by omega) hi
            have := n3 nx (Nat.le_refl _) (by omega)
            omega
      obtain ⟨_, _, _, lb2, -, rfl, rfl, rfl⟩ := kers_b2 (nv := nv) hz h hb hb0 hb1 hC A Rw (.sl 1 (el (nats s.lead))) nx k hk hnn
      refine .inl ⟨_, _, ?_, nx, n1, fun i hi => by have := n2 i hi; omega, fun i h1 h2 => ?_, rfl, rfl⟩
      · rw [clL_yes hnn, List.length_append, List.length_cons, List.length_nil]
        generalize kerL C s C = kl at *
        generalize (clL s.lead k).length = m at *
        by_cases l1 : nx < s.lead.length
        · have l2 : ¬ ix s.lead nx = k := fun e => hl ⟨l1, e⟩
          have hni := nats_ix l1
          have hin : nx < (nats s.lead).length := by omega
          have l2i : ¬ ((ix s.lead nx : Nat) : Int) = (k : Int) := by omega
          generalize ix s.lead nx = li at *
          generalize nats s.lead = ns at *
          simp (disch := omega) [-vIA_o, dendronlaw05_SolveKernels.b0, hk, l1, l2, l2i, hni, hnl, lb2]
        · generalize nats s.lead = ns at *
          simp (disch := omega) [-vIA_o, dendronlaw05_SolveKernels.b0, hk, l1, hnl, lb2]
      · have h3 := n3 i h1 h2
        have := nld_iff.1 hnn i h2
        omega
  · rintro e μ ⟨nx, n1, n2, n3, rfl, rfl⟩
    exact ⟨.exit 0, _, _, by simp [dendronlaw05_SolveKernels.b0] <;> first | rfl | exact ⟨rfl, rfl⟩, by simp, _, _, rfl, rfl, rfl⟩
/-- A table times a row of the kernel is 0. -/
theorem kers_b4 (hz : TzOk nv) (A : List (List RQ)) (hA : ∀ r ∈ A, ∀ y ∈ r, y.ok 1) (hAl : A.length ≤ 5) (hAr : rectB A = true) (hAc : colsN A ≤ 5) (L : List (List RQ)) (hLl : L.length ≤ 5) (hL : ∀ i, i < L.length → ∃ g, ix L i = rw' (colsN A) g ∧ (∀ j, j < colsN A → Bq 3125 (g j)) ∧ ∀ k, k < A.length → sm (colsN A) (fun j => tf A k j * g j) = 0) :
    ∃ z e μ, EX ip nv (.code (.loop [] [] dendronlaw05_SolveKernels.b4) [(0, .d (.sl 1 (el A))), (3, .d (.sl 1 (el L))), (5, .d (.int .i64 (A.length : Int))), (16, .d (.int .i64 0))] []) = some (.st z e μ) ∧ z ≠ .normal ∧
      z = .exit 4 ∧ e = [(0, .d (.sl 1 (el A))), (3, .d (.sl 1 (el L))), (5, .d (.int .i64 (A.length : Int))), (16, .d (.int .i64 (L.length : Int))), (114, .d (.bool false))] ∧ μ = [] := by
  refine loop_n L.length (fun i e μ => e = [(0, .d (.sl 1 (el A))), (3, .d (.sl 1 (el L))), (5, .d (.int .i64 (A.length : Int))), (16, .d (.int .i64 (i : Int)))] ∧ μ = []) ?_ ?_ ⟨rfl, rfl⟩
  · rintro i e μ hi ⟨rfl, rfl⟩
    obtain ⟨g, hg, gb, g0⟩ := hL i hi
    obtain ⟨_, _, _, l6, -, rfl, rfl, rfl⟩ : ∃ z e μ, EX ip nv (.code (.loop [] [] dendronlaw05_SolveKernels.b6) [(0, .d (.sl 1 (el A))), (3, .d (.sl 1 (el L))), (5, .d (.int .i64 (A.length : Int))), (16, .d (.int .i64 (i : Int))), (17, .d (.int .i64 0))] []) = some (.st z e μ) ∧ z ≠ .normal ∧
        z = .exit 6 ∧ e = [(0, .d (.sl 1 (el A))), (3, .d (.sl 1 (el L))), (5, .d (.int .i64 (A.length : Int))), (16, .d (.int .i64 (i : Int))), (17, .d (.int .i64 (A.length : Int))), (119, .d (.bool false))] ∧ μ = [] := by
      refine loop_n A.length (fun k e μ => e = [(0, .d (.sl 1 (el A))), (3, .d (.sl 1 (el L))), (5, .d (.int .i64 (A.length : Int))), (16, .d (.int .i64 (i : Int))), (17, .d (.int .i64 (k : Int)))] ∧ μ = []) ?_ ?_ ⟨rfl, rfl⟩
      · rintro k e μ hk ⟨rfl, rfl⟩
        have hrk := rect_row hAr hk
        have hok : ∀ r ∈ rw' (colsN A) g, r.ok 3125 := fun r hr => by
          obtain ⟨j, hj, rfl⟩ := List.getElem_of_mem hr
          rw [rw_len] at hj
          rw [← ix_get (by simpa using hj), rw_ix _ hj]
          exact can_ok (gb j hj)
        have hlg := rw_len (colsN A) g
        have d5 := dot5_ev (nv := nv) hz (ix A k) (rw' (colsN A) g) (hA _ (ix_mem hk)) hok (by decide) (by decide) (by omega) (by omega) (by rw [hrk, hlg, Nat.min_self]; have := Nat.mul_le_mul_right (1 + 3125 + 1) (show colsN A + 1 ≤ 6 by omega); omega)
        have e0 : dotS (ix A k) (rw' (colsN A) g) (min (ix A k).length (rw' (colsN A) g).length) = 0 := by
          rw [hrk, hlg, Nat.min_self, ← g0 k hk]
          unfold dotS
          apply sm_congr
          intro j hj
          rw [rw_ix _ hj, can_v]
          rfl
        rw [e0, ← hg] at d5
        have b0 : Bq 1 (0 : Rat) := Bq.zero
        have sg := rsign_ev (nv := nv) hz (can 0) (can_ok b0) (by decide) (by decide)
        rw [can_v] at sg
        have s0 : (0 : Rat).num.sign = 0 := rfl
        rw [s0] at sg
        refine .inl ⟨_, _, ?_, rfl, rfl⟩
        generalize can 0 = q at *
        simp (disch := omega) [-vIA_o, dendronlaw05_SolveKernels.b6, hk, hi, d5, sg]
      · rintro e μ ⟨rfl, rfl⟩
        exact ⟨.exit 6, _, _, by simp [dendronlaw05_SolveKernels.b6] <;> first | rfl | exact ⟨rfl, rfl⟩, by simp, rfl, rfl, rfl⟩
    refine .inl ⟨_, _, ?_, rfl, rfl⟩
    simp (disch := omega) [-vIA_o, dendronlaw05_SolveKernels.b4, hi, l6]
  · rintro e μ ⟨rfl, rfl⟩
    exact ⟨.exit 4, _, _, by simp [dendronlaw05_SolveKernels.b4] <;> first | rfl | exact ⟨rfl, rfl⟩, by simp, rfl, rfl, rfl⟩
theorem kernels5_ev (hz : TzOk nv) (a : List (List RQ)) (ha : ∀ r ∈ a, ∀ y ∈ r, y.ok maxLen) :
    EX ip nv (.call F.dendronlaw05_SolveKernels [.d (.sl 1 (el a))] []) = some (.ret (.d (.bool true)) []) := by
  rw [S_call dendronlaw05_SolveKernels.ip rfl]
  have f1 := few5_ev (nv := nv) a 5 (by decide)
  have hA := few5_ok (n := 5) ha
  have hAl := few5_len 5 a
  have hAc := few5_cols 5 a
  have aw := awake5_ev (nv := nv) hz
  generalize few5 5 a = A at *
  clear ha
  have c5 : ((5 : Nat) : Int) = 5 := rfl
  rw [c5] at f1
  have sA := size5_ev (nv := nv) A (by omega)
  unfold sizeV at sA
  by_cases hr : rectB A = true
  · rw [if_pos hr] at sA
    have hp5 : 5 ^ colsN A ≤ 3125 := Nat.le_trans (Nat.pow_le_pow_right (by decide) hAc) (by decide)
    have hp1 : 1 ≤ 5 ^ colsN A := Nat.pow_pos (by decide)
    have st := steps_ev (nv := nv) hz A hA (by decide) (by omega) (by omega) hr (by omega)
    obtain ⟨hcnt, kn⟩ := kern_ev (nv := nv) hz A hA hAl hr hAc
    have hinv := run_inv A.length (tf A) (colsN A)
    obtain ⟨fB, -⟩ := run_b (tf_b hA (by decide) hr) (by decide) (colsN A) (Nat.le_refl _)
    have fB' : ∀ i k, i < A.length → k < colsN A → Bq 3125 ((stp A).f i k) := fun i k hi hk => (fB i k hi hk).mono (by omega)
    obtain ⟨_, _, _, l0, -, n1, n2, rfl, rfl, rfl⟩ := kers_b0 (nv := nv) hz hinv fB' (by decide) (by decide) (by omega) (by omega) (.sl 1 (el A)) (.int .i64 (A.length : Int))
    have hkl := kerL_len (colsN A) (stp A) (colsN A)
    obtain ⟨_, _, _, l4, -, rfl, rfl, rfl⟩ := kers_b4 (nv := nv) hz A hA hAl hr hAc (kerL (colsN A) (stp A) (colsN A)) (by omega) (fun i hi => by
      rw [hkl] at hi
      obtain ⟨c1, c2⟩ := clL_mem hi
      refine ⟨_, kerL_ix hi, fun j _ => kv_b hinv fB' (by decide) c1 c2 j, fun k hk => ?_⟩
      have := (hinv.ker (colsN A) _).1 (kv_ker hinv (Nat.le_refl _) c1 (fun m h1 h2 => hinv.low m _ h1 h2 c1)) k hk
      exact this)
    have hnl := nats_len (stp A).lead
    unfold stp at *
    generalize runR A.length (tf A) (colsN A) = s at *
    have hsub : ((colsN A : Nat) : Int) - (s.lead.length : Int) = ((clL s.lead (colsN A)).length : Int) := by omega
    have hwr : IntKind.i64.wrap ((colsN A : Int) - (s.lead.length : Int)) = ((clL s.lead (colsN A)).length : Int) := by rw [hsub]; exact i64_wrap (by omega) (by omega)
    generalize kerL (colsN A) s (colsN A) = kl at *
    generalize (clL s.lead (colsN A)).length = m at *
    generalize tbl A.length (colsN A) s.f = S at *
    generalize nats s.lead = ns at *
    simp (disch := omega) [dendronlaw05_SolveKernels, f1, kn, sA, st, hkl, hnl, hwr, hsub, l0, l4, aw]
  · rw [if_neg hr] at sA
    have kn := kern_bad (nv := nv) A (by omega) (by simpa using hr)
    simp (disch := omega) [dendronlaw05_SolveKernels, f1, kn, sA, aw]
end
end Go.Proofs.YtbghnfhfekfenaaDoor
