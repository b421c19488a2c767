/- SolveSteps: what the statement computes. -/
import Derived.Test.YtbghnfhfekfenaaDoorTh
import Derived.Test.YtbghnfhfekfenaaDoorTi
import Derived.Test.YtbghnfhfekfenaaDoorTe
set_option linter.unusedSimpArgs false
set_option linter.unusedVariables false
namespace Go.Proofs.YtbghnfhfekfenaaDoor
open Go Go.Proofs.R
set_option maxRecDepth 10000
theorem rwq_ok' {n k : Nat} {g : Nat → Rat} (h : ∀ i, i < n → Bq k (g i)) : ∀ r ∈ rw' n g, r.ok k := by
  intro r hr
  obtain ⟨i, hi, rfl⟩ := List.getElem_of_mem hr
  rw [rw_len] at hi
  rw [← ix_get (by simpa using hi), rw_ix _ hi]
  exact can_ok (h i hi)
/-- Where a row in steps begins. -/
def fst' (C : Nat) (lead : List Nat) (i : Nat) : Nat := if i < lead.length then ix lead i else C
section
variable {nv : R.Nv}
theorem insteps_b2 (hz : TzOk nv) {R C : Nat} {s : Rs} {f0 : Tb} (h : Inv R f0 s C) {b : Nat} (hb : ∀ i k, i < R → k < C → Bq b (s.f i k)) (hb0 : 1 ≤ b) (hb1 : b ≤ 1073741824) (hC : C ≤ 1000) (hR : R ≤ 1000) {i : Nat} (hi : i < R) (Ld : D) :
    ∃ z e μ, EX ip nv (.code (.loop [] [] dendronlaw05_inSteps.b2) [(0, .d (.sl 1 (el (tbl R C s.f)))), (1, .d Ld), (5, .d (.int .i64 (i : Int))), (6, .d (.int .i64 0))] []) = some (.st z e μ) ∧ z ≠ .normal ∧
      z = .exit 2 ∧ e = [(0, .d (.sl 1 (el (tbl R C s.f)))), (1, .d Ld), (5, .d (.int .i64 (i : Int))), (6, .d (.int .i64 (fst' C s.lead i : Int))), (31, .d (.bool false))] ∧ μ = [] := by
  have tix := tbl_ix (R := R) (C := C) (f := s.f) hi
  have tln := tbl_len R C s.f
  have hlen := rw_len C (s.f i)
  have hf : fst' C s.lead i ≤ C := by
    unfold fst'; split
    · rename_i h1; have := h.lt i h1; omega
    · exact Nat.le_refl _
  have hz0 : ∀ k, k < fst' C s.lead i → s.f i k = 0 := by
    intro k hk
    unfold fst' at hk
    split at hk
    · rename_i h1; exact h.left i k h1 hk
    · rename_i h1; exact h.low i k (by omega) hi hk
  refine loop_n (fst' C s.lead i) (fun k e μ => e = [(0, .d (.sl 1 (el (tbl R C s.f)))), (1, .d Ld), (5, .d (.int .i64 (i : Int))), (6, .d (.int .i64 (k : Int)))] ∧ μ = []) ?_ ?_ ⟨rfl, rfl⟩
  · rintro k e μ hk ⟨rfl, rfl⟩
    have hkC : k < C := by omega
    have hix := rw_ix (s.f i) hkC
    have sg := rsign_ev (nv := nv) hz (can (s.f i k)) (can_ok (hb i k hi hkC)) hb0 hb1
    rw [can_v, (sign_zero _).mpr (hz0 k hk)] at sg
    refine .inl ⟨_, _, ?_, rfl, rfl⟩
    generalize can (s.f i k) = q at *
    generalize rw' C (s.f i) = row at *
    generalize tbl R C s.f = m at *
    simp (disch := omega) [-vIA_o, dendronlaw05_inSteps.b2, hi, hkC, tix, hlen, hix, sg]
  · rintro e μ ⟨rfl, rfl⟩
    refine ⟨.exit 2, _, _, ?_, by simp, rfl, rfl, rfl⟩
    by_cases h1 : i < s.lead.length
    · have e1 : fst' C s.lead i = ix s.lead i := if_pos h1
      have hkC := h.lt i h1
      rw [e1]
      have hix := rw_ix (s.f i) hkC
      have sg := rsign_ev (nv := nv) hz (can (s.f i (ix s.lead i))) (can_ok (hb i _ hi hkC)) hb0 hb1
      rw [can_v, h.one i h1] at sg
      have s1 : (1 : Rat).num.sign = 1 := by decide +kernel
      rw [s1] at sg
      rw [h.one i h1] at hix
      generalize can 1 = q at *
      generalize ix s.lead i = li at *
      generalize rw' C (s.f i) = row at *
      generalize tbl R C s.f = m at *
      simp (disch := omega) [-vIA_o, dendronlaw05_inSteps.b2, hi, hkC, tix, hlen, hix, sg]
    · have e1 : fst' C s.lead i = C := if_neg h1
      rw [e1]
      generalize rw' C (s.f i) = row at *
      generalize tbl R C s.f = m at *
      simp (disch := omega) [-vIA_o, dendronlaw05_inSteps.b2, hi, tix, hlen]
theorem insteps_b4 (hz : TzOk nv) {R C : Nat} {s : Rs} {f0 : Tb} (h : Inv R f0 s C) {b : Nat} (hb : ∀ i k, i < R → k < C → Bq b (s.f i k)) (hb0 : 1 ≤ b) (hb1 : b ≤ 1073741824) (hC : C ≤ 1000) (hR : R ≤ 1000) {i : Nat} (hi : i < s.lead.length) (Ld : D) :
    ∃ z e μ, EX ip nv (.code (.loop [] [] dendronlaw05_inSteps.b4) [(0, .d (.sl 1 (el (tbl R C s.f)))), (1, .d Ld), (5, .d (.int .i64 (i : Int))), (6, .d (.int .i64 (ix s.lead i : Nat))), (7, .d (.int .i64 0))] []) = some (.st z e μ) ∧ z ≠ .normal ∧
      z = .exit 4 ∧ e = [(0, .d (.sl 1 (el (tbl R C s.f)))), (1, .d Ld), (5, .d (.int .i64 (i : Int))), (6, .d (.int .i64 (ix s.lead i : Nat))), (7, .d (.int .i64 (R : Int))), (91, .d (.bool false))] ∧ μ = [] := by
  have tln := tbl_len R C s.f
  have hkC := h.lt i hi
  refine loop_n R (fun k e μ => e = [(0, .d (.sl 1 (el (tbl R C s.f)))), (1, .d Ld), (5, .d (.int .i64 (i : Int))), (6, .d (.int .i64 (ix s.lead i : Nat))), (7, .d (.int .i64 (k : Int)))] ∧ μ = []) ?_ ?_ ⟨rfl, rfl⟩
  · rintro k e μ hk ⟨rfl, rfl⟩
    have tix := tbl_ix (R := R) (C := C) (f := s.f) hk
    have hlen := rw_len C (s.f k)
    have hix := rw_ix (s.f k) hkC
    by_cases hki : k = i
    · subst hki
      refine .inl ⟨_, _, ?_, rfl, rfl⟩
      generalize ix s.lead k = li at *
      generalize tbl R C s.f = m at *
      simp (disch := omega) [-vIA_o, dendronlaw05_inSteps.b4, hk, tln]
    · have hki' : ¬ (k : Int) = (i : Int) := by omega
      have sg := rsign_ev (nv := nv) hz (can (s.f k (ix s.lead i))) (can_ok (hb k _ hk hkC)) hb0 hb1
      rw [can_v, (sign_zero _).mpr (h.alone i k hi hk hki)] at sg
      refine .inl ⟨_, _, ?_, rfl, rfl⟩
      generalize can (s.f k (ix s.lead i)) = q at *
      generalize ix s.lead i = li at *
      generalize rw' C (s.f k) = row at *
      generalize tbl R C s.f = m at *
      simp (disch := omega) [-vIA_o, dendronlaw05_inSteps.b4, hk, tln, hki, hki', tix, hlen, hix, sg]
  · rintro e μ ⟨rfl, rfl⟩
    refine ⟨.exit 4, _, _, ?_, by simp, rfl, rfl, rfl⟩
    generalize tbl R C s.f = m at *
    simp [dendronlaw05_inSteps.b4, tln]
theorem insteps_ev (hz : TzOk nv) {R C : Nat} {s : Rs} {f0 : Tb} (h : Inv R f0 s C) {b : Nat} (hb : ∀ i k, i < R → k < C → Bq b (s.f i k)) (hb0 : 1 ≤ b) (hb1 : b + 1 ≤ 1073741824) (hC : C ≤ 1000) (hR : R ≤ 1000) :
    EX ip nv (.call F.dendronlaw05_inSteps [.d (.sl 1 (el (tbl R C s.f))), .d (.sl 1 (el (nats s.lead)))] []) = some (.ret (.d (.bool true)) []) := by
  rw [S_call dendronlaw05_inSteps.ip rfl]
  have tln := tbl_len R C s.f
  have hll := h.len
  have hnl := nats_len s.lead
  obtain ⟨_, _, _, hlp, -, rfl, rfl, rfl⟩ : ∃ z e μ, EX ip nv (.code (.loop [] [] dendronlaw05_inSteps.b0) [(0, .d (.sl 1 (el (tbl R C s.f)))), (1, .d (.sl 1 (el (nats s.lead)))), (5, .d (.int .i64 0))] []) = some (.st z e μ) ∧ z ≠ .normal ∧
      z = .exit 0 ∧ e = [(0, .d (.sl 1 (el (tbl R C s.f)))), (1, .d (.sl 1 (el (nats s.lead)))), (5, .d (.int .i64 (R : Int))), (11, .d (.bool false))] ∧ μ = [] := by
    refine loop_n R (fun i e μ => e = [(0, .d (.sl 1 (el (tbl R C s.f)))), (1, .d (.sl 1 (el (nats s.lead)))), (5, .d (.int .i64 (i : Int)))] ∧ μ = []) ?_ ?_ ⟨rfl, rfl⟩
    · rintro i e μ hi ⟨rfl, rfl⟩
      obtain ⟨_, _, _, l2, -, rfl, rfl, rfl⟩ := insteps_b2 (nv := nv) hz h hb hb0 (by omega) hC hR hi (.sl 1 (el (nats s.lead)))
      have tix := tbl_ix (R := R) (C := C) (f := s.f) hi
      have hlen := rw_len C (s.f i)
      refine .inl ⟨_, _, ?_, rfl, rfl⟩
      by_cases h1 : i < s.lead.length
      · obtain ⟨_, _, _, l4, -, rfl, rfl, rfl⟩ := insteps_b4 (nv := nv) hz h hb hb0 (by omega) hC hR h1 (.sl 1 (el (nats s.lead)))
        have e1 : fst' C s.lead i = ix s.lead i := if_pos h1
        rw [e1] at l2
        have hkC := h.lt i h1
        have hix := rw_ix (s.f i) hkC
        rw [h.one i h1] at hix
        have one := rone_ev (nv := nv)
        have b1 : Bq 1 (1 : Rat) := ⟨by simp [pw], by simp [pw]⟩
        have sm := rsame_ev (nv := nv) hz (can 1) (can 1) (can_ok b1) (can_ok b1) (by decide) (by decide) (by decide)
        rw [decide_eq_true rfl] at sm
        have hni := nats_ix h1
        have hin : i < (nats s.lead).length := by omega
        have hge : ¬ s.lead.length ≤ i := by omega
        have hln : ¬ s.lead = [] := fun e => by rw [e] at h1; simp at h1
        have hCl : ¬ C ≤ ix s.lead i := by omega
        by_cases h00 : i = 0
        · subst h00
          generalize can 1 = q at *
          generalize ix s.lead 0 = li at *
          generalize nats s.lead = ns at *
          generalize rw' C (s.f 0) = row at *
          generalize tbl R C s.f = m at *
          have z0 : ((0 : Nat) : Int) = 0 := rfl
          rw [z0] at l2 l4
          simp (disch := omega) [-vIA_o, dendronlaw05_inSteps.b0, hi, tln, l2, l4, hge, hln, hCl, hni, tix, hlen, hix, one, sm, hkC, h1, hnl]
        · have hinc := h.inc (i - 1) i (by omega) h1
          have hni2 := nats_ix (l := s.lead) (i := i - 1) (by omega)
          have hin2 : i - 1 < (nats s.lead).length := by omega
          have hpos : 0 < i := by omega
          have hnle : ¬ ix s.lead i ≤ ix s.lead (i - 1) := by omega
          generalize can 1 = q at *
          generalize ix s.lead i = li at *
          generalize ix s.lead (i - 1) = lj at *
          generalize nats s.lead = ns at *
          generalize rw' C (s.f i) = row at *
          generalize tbl R C s.f = m at *
          simp (disch := omega) [-vIA_o, dendronlaw05_inSteps.b0, hi, tln, l2, l4, hge, hln, hCl, hni, hni2, hpos, hnle, tix, hlen, hix, one, sm, hkC, h1, hnl]
      · have e1 : fst' C s.lead i = C := if_neg h1
        rw [e1] at l2
        have hge : s.lead.length ≤ i := by omega
        generalize nats s.lead = ns at *
        generalize rw' C (s.f i) = row at *
        generalize tbl R C s.f = m at *
        simp (disch := omega) [-vIA_o, dendronlaw05_inSteps.b0, hi, tln, l2, hge, tix, hlen, hnl]
    · rintro e μ ⟨rfl, rfl⟩
      refine ⟨.exit 0, _, _, ?_, by simp, rfl, rfl, rfl⟩
      generalize tbl R C s.f = m at *
      simp [dendronlaw05_inSteps.b0, tln]
  generalize nats s.lead = ns at *
  generalize tbl R C s.f = m at *
  simp (disch := omega) [dendronlaw05_inSteps, hlp, tln, hnl, hll]
/-- A sum over the leaders. -/
def mdS (l : List RQ) (s : Rs) (k j : Nat) : Rat := sm j (fun i => (ix l (ix s.lead i)).v * s.f i k)
theorem mdS_b {l : List RQ} {R C : Nat} {s : Rs} {f0 : Tb} (h : Inv R f0 s C) {b c : Nat} (hl : ∀ r ∈ l, r.ok c) (hc : 1 ≤ c) (hlC : l.length = C) (hb : ∀ i k, i < R → k < C → Bq b (s.f i k)) (hb0 : 1 ≤ b) {k : Nat} (hk : k < C) : ∀ j, j ≤ s.lead.length → Bq (1 + j * (b + c + 1)) (mdS l s k j)
  | 0, _ => Bq.zero.mono (by omega)
  | j + 1, hj => by
    have ih := mdS_b h hl hc hlC hb hb0 hk j (by omega)
    have hlt := h.lt j (by omega)
    have hR := h.len
    have := ih.add ((Bq.v (hl _ (ix_mem (i := ix s.lead j) (by omega))) hc).mul (hb j k (by omega) hk))
    exact this.mono (by rw [Nat.add_mul]; omega)
theorem made_b2 (hz : TzOk nv) {R C : Nat} {s : Rs} {f0 : Tb} (h : Inv R f0 s C) {b : Nat} (l : List RQ) (hl : ∀ r ∈ l, r.ok 1) (hlC : l.length = C) (hb : ∀ i k, i < R → k < C → Bq b (s.f i k)) (hb0 : 1 ≤ b) (hb1 : 1 + (s.lead.length + 1) * (b + 1 + 1) ≤ 1073741824) (hC : C ≤ 1000) (hR : R ≤ 1000) {k : Nat} (hk : k < C) :
    ∃ z e μ, EX ip nv (.code (.loop [] [] dendronlaw05_made.b2) [(0, .d (.sl 3 (el l))), (1, .d (.sl 1 (el (tbl R C s.f)))), (2, .d (.sl 1 (el (nats s.lead)))), (7, .d (.int .i64 (k : Int))), (8, .ptr 8 0), (9, .d (.int .i64 0))] [(8, ⟨0, true, (can 0).c⟩)]) = some (.st z e μ) ∧ z ≠ .normal ∧
      z = .exit 2 ∧ e = [(0, .d (.sl 3 (el l))), (1, .d (.sl 1 (el (tbl R C s.f)))), (2, .d (.sl 1 (el (nats s.lead)))), (7, .d (.int .i64 (k : Int))), (8, .ptr 8 0), (9, .d (.int .i64 (s.lead.length : Int))), (20, .d (.bool false))] ∧ μ = [(8, ⟨0, true, (can (mdS l s k s.lead.length)).c⟩)] := by
  have tln := tbl_len R C s.f
  have hnl := nats_len s.lead
  have hll := h.len
  refine loop_n s.lead.length (fun j e μ => e = [(0, .d (.sl 3 (el l))), (1, .d (.sl 1 (el (tbl R C s.f)))), (2, .d (.sl 1 (el (nats s.lead)))), (7, .d (.int .i64 (k : Int))), (8, .ptr 8 0), (9, .d (.int .i64 (j : Int)))] ∧ μ = [(8, ⟨0, true, (can (mdS l s k j)).c⟩)]) ?_ ?_ ⟨rfl, rfl⟩
  · rintro j e μ hj ⟨rfl, rfl⟩
    have hjR : j < R := by omega
    have hlt := h.lt j hj
    have tix := tbl_ix (R := R) (C := C) (f := s.f) hjR
    have hlen := rw_len C (s.f j)
    have hix := rw_ix (s.f j) hk
    have hni := nats_ix hj
    have hjn : j < (nats s.lead).length := by omega
    have hm : ix s.lead j < l.length := by omega
    have hbj : 1 + j * (b + 1 + 1) + (1 + b) + 1 ≤ 1073741824 := by
      have : (j + 1) * (b + 1 + 1) ≤ (s.lead.length + 1) * (b + 1 + 1) := Nat.mul_le_mul_right _ (by omega)
      rw [Nat.add_mul] at this
      omega
    have ml := rmul_ev (nv := nv) hz (ix l (ix s.lead j)) (can (s.f j k)) (hl _ (ix_mem hm)) (can_ok (hb j k hjR hk)) (by decide) hb0 (by omega)
    rw [can_v] at ml
    have ad := radd_ev (nv := nv) hz (can (mdS l s k j)) (can ((ix l (ix s.lead j)).v * s.f j k)) (can_ok (mdS_b h hl (by decide) hlC hb hb0 hk j (by omega))) (can_ok ((Bq.v (hl _ (ix_mem hm)) (by decide)).mul (hb j k hjR hk))) (by omega) (by omega) (by omega)
    rw [can_v, can_v] at ad
    refine .inl ⟨_, _, ?_, rfl, rfl⟩
    show _ = some (Out.st .normal _ [(8, ⟨0, true, (can (mdS l s k j + (ix l (ix s.lead j)).v * s.f j k)).c⟩)])
    generalize can (mdS l s k j + (ix l (ix s.lead j)).v * s.f j k) = q1 at *
    generalize can (mdS l s k j) = q2 at *
    generalize can ((ix l (ix s.lead j)).v * s.f j k) = q3 at *
    generalize can (s.f j k) = q4 at *
    generalize ix s.lead j = li at *
    generalize nats s.lead = ns at *
    generalize rw' C (s.f j) = row at *
    generalize tbl R C s.f = m at *
    simp (disch := omega) [-vIA_o, dendronlaw05_made.b2, hj, tix, hix, hni, hnl, ml, ad]
  · rintro e μ ⟨rfl, rfl⟩
    refine ⟨.exit 2, _, _, ?_, by simp, rfl, rfl, rfl⟩
    generalize nats s.lead = ns at *
    simp [dendronlaw05_made.b2, hnl]
theorem made_ev (hz : TzOk nv) {R C : Nat} {s : Rs} {f0 : Tb} (h : Inv R f0 s C) {b : Nat} (l : List RQ) (hl : ∀ r ∈ l, r.ok 1) (hlC : l.length = C) (hb : ∀ i k, i < R → k < C → Bq b (s.f i k)) (hb0 : 1 ≤ b) (hb1 : 1 + (s.lead.length + 1) * (b + 1 + 1) ≤ 1073741823) (hC : C ≤ 1000) (hR : R ≤ 1000)
    (hm : ∀ k, k < C → mdS l s k s.lead.length = (ix l k).v) :
    EX ip nv (.call F.dendronlaw05_made [.d (.sl 3 (el l)), .d (.sl 1 (el (tbl R C s.f))), .d (.sl 1 (el (nats s.lead)))] []) = some (.ret (.d (.bool true)) []) := by
  rw [S_call dendronlaw05_made.ip rfl]
  obtain ⟨_, _, _, hlp, -, rfl, rfl, rfl⟩ : ∃ z e μ, EX ip nv (.code (.loop [] [] dendronlaw05_made.b0) [(0, .d (.sl 3 (el l))), (1, .d (.sl 1 (el (tbl R C s.f)))), (2, .d (.sl 1 (el (nats s.lead)))), (7, .d (.int .i64 0))] []) = some (.st z e μ) ∧ z ≠ .normal ∧
      z = .exit 0 ∧ e = [(0, .d (.sl 3 (el l))), (1, .d (.sl 1 (el (tbl R C s.f)))), (2, .d (.sl 1 (el (nats s.lead)))), (7, .d (.int .i64 (C : Int))), (13, .d (.bool false))] ∧ μ = [] := by
    refine loop_n C (fun k e μ => e = [(0, .d (.sl 3 (el l))), (1, .d (.sl 1 (el (tbl R C s.f)))), (2, .d (.sl 1 (el (nats s.lead)))), (7, .d (.int .i64 (k : Int)))] ∧ μ = []) ?_ ?_ ⟨rfl, rfl⟩
    · rintro k e μ hk ⟨rfl, rfl⟩
      obtain ⟨_, _, _, l2, -, rfl, rfl, rfl⟩ := made_b2 (nv := nv) hz h l hl hlC hb hb0 (by omega) hC hR hk
      have hkl : k < l.length := by omega
      have hlk := hl _ (ix_mem hkl)
      have sm := rsame_ev (nv := nv) hz (can (mdS l s k s.lead.length)) (ix l k) (can_ok (mdS_b h hl (by decide) hlC hb hb0 hk s.lead.length (Nat.le_refl _))) hlk (by omega) (by decide) (by rw [Nat.add_mul] at hb1; omega)
      rw [can_v, decide_eq_true (hm k hk)] at sm
      have zer := zero_ev (nv := nv)
      refine .inl ⟨_, _, ?_, rfl, rfl⟩
      generalize can (mdS l s k s.lead.length) = q at *
      generalize can 0 = q0 at *
      generalize nats s.lead = ns at *
      generalize tbl R C s.f = m at *
      simp (disch := omega) [-vIA_o, dendronlaw05_made.b0, hkl, l2, sm, zer]
    · rintro e μ ⟨rfl, rfl⟩
      refine ⟨.exit 0, _, _, ?_, by simp, rfl, rfl, rfl⟩
      simp [dendronlaw05_made.b0, hlC]
  simp (disch := omega) [dendronlaw05_made, hlp]
/-- Rows below rows. -/
theorem both_tf {A B : List (List RQ)} {C : Nat} (hA : rectB A = true) (hAC : colsN A = C) (hB : ∀ i, i < B.length → (ix B i).length = C) (h0 : A.length = B.length) : rectB (A ++ B) = true ∧ colsN (A ++ B) = C := by
  have hix : ∀ i, i < (A ++ B).length → (ix (A ++ B) i).length = C := by
    intro i hi
    rw [ix_get hi, List.getElem_append]
    split
    · rename_i h1; rw [← ix_get h1, rect_row hA h1, hAC]
    · rename_i h1
      rw [List.length_append] at hi
      rw [← ix_get]; exact hB _ (by omega)
  by_cases h : 0 < (A ++ B).length
  · have hc : colsN (A ++ B) = C := hix 0 h
    exact ⟨is_rect fun i hi => by rw [hix i hi]; exact hc.symm, hc⟩
  · have : A ++ B = [] := List.length_eq_zero_iff.1 (by omega)
    have hA0 : A = [] := by
      cases A with
      | nil => rfl
      | cons x r => simp at this
    rw [this]
    refine ⟨rfl, ?_⟩
    rw [← hAC, hA0]
theorem steps5_ev (hz : TzOk nv) (a : List (List RQ)) (ha : ∀ r ∈ a, ∀ y ∈ r, y.ok maxLen) :
    EX ip nv (.call F.dendronlaw05_SolveSteps [.d (.sl 1 (el a))] []) = some (.ret (.d (.bool true)) []) := by
  rw [S_call dendronlaw05_SolveSteps.ip rfl]
  have f1 := few5_ev (nv := nv) a 5 (by decide)
  have hA := few5_ok (n := 5) ha
  have hAl := few5_len 5 a
  have hAc := few5_cols 5 a
  have aw := awake5_ev (nv := nv) hz
  generalize few5 5 a = A at *
  clear ha
  have c5 : ((5 : Nat) : Int) = 5 := rfl
  rw [c5] at f1
  have sA := size5_ev (nv := nv) A (by omega)
  unfold sizeV at sA
  by_cases hr : rectB A = true
  · rw [if_pos hr] at sA
    have hp5 : 5 ^ colsN A ≤ 3125 := Nat.le_trans (Nat.pow_le_pow_right (by decide) hAc) (by decide)
    have hp1 : 1 ≤ 5 ^ colsN A := Nat.pow_pos (by decide)
    have st := steps_ev (nv := nv) hz A hA (by decide) (by omega) (by omega) hr (by omega)
    have rk := rank_ev (nv := nv) hz A hA (by decide) (by omega) (by omega) hr (by omega)
    have hinv := run_inv A.length (tf A) (colsN A)
    obtain ⟨fB, -⟩ := run_b (tf_b hA (by decide) hr) (by decide) (colsN A) (Nat.le_refl _)
    have fB' : ∀ i k, i < A.length → k < colsN A → Bq 3125 ((stp A).f i k) := fun i k hi hk => (fB i k hi hk).mono (by omega)
    have hlen : (stp A).lead.length ≤ A.length := hinv.len
    have ins := insteps_ev (nv := nv) hz hinv fB' (by decide) (by decide) (by omega) (by omega)
    have hmul : (stp A).lead.length * 3127 ≤ 5 * 3127 := Nat.mul_le_mul_right _ (by omega)
    have md : ∀ i, i < A.length → EX ip nv (.call F.dendronlaw05_made [.d (.sl 3 (el (ix A i))), .d (.sl 1 (el (tbl A.length (colsN A) (stp A).f))), .d (.sl 1 (el (nats (stp A).lead)))] []) = some (.ret (.d (.bool true)) []) := fun i hi =>
      made_ev (nv := nv) hz hinv (ix A i) (hA _ (ix_mem hi)) (rect_row hr hi) fB' (by decide) (by show 1 + ((stp A).lead.length + 1) * 3127 ≤ _; rw [Nat.add_mul]; omega) (by omega) (by omega) (fun k hk => (made_row (R := A.length) (n := colsN A) (f := tf A) hi hk).symm)
    have hB1 : ∀ i, i < (tbl A.length (colsN A) (stp A).f).length → (ix (tbl A.length (colsN A) (stp A).f) i).length = colsN A := fun i hi => by
      rw [tbl_len] at hi
      rw [tbl_ix hi, rw_len]
    obtain ⟨br, bc⟩ := both_tf hr rfl hB1 (tbl_len _ _ _).symm
    have bok : ∀ r ∈ A ++ tbl A.length (colsN A) (stp A).f, ∀ x ∈ r, x.ok 3125 := by
      intro r hr' x hx
      rcases List.mem_append.1 hr' with h1 | h1
      · exact (hA r h1 x hx).mono (by decide)
      · obtain ⟨i, hi, rfl⟩ := List.getElem_of_mem h1
        rw [tbl_len] at hi
        rw [← ix_get (by simpa using hi), tbl_ix hi] at hx
        exact rwq_ok' (fun k hk => fB' i k hi hk) x hx
    have rk2 := rank_ev (nv := nv) hz (A ++ tbl A.length (colsN A) (stp A).f) bok (by decide) (by rw [bc]; have := Nat.mul_le_mul_right 3125 hp5; omega) (by simp; omega) br (by rw [bc]; omega)
    have el2 : (stp (A ++ tbl A.length (colsN A) (stp A).f)).lead = (stp A).lead := by
      have e1 : (A ++ tbl A.length (colsN A) (stp A).f).length = A.length + A.length := by simp
      have hS : ∀ i, i < A.length + A.length → i < (A ++ tbl A.length (colsN A) (stp A).f).length := fun i hi => by rw [e1]; exact hi
      show (runR (A ++ tbl A.length (colsN A) (stp A).f).length (tf (A ++ tbl A.length (colsN A) (stp A).f)) (colsN (A ++ tbl A.length (colsN A) (stp A).f))).lead = (runR A.length (tf A) (colsN A)).lead
      rw [e1, bc, ← bel_lead A.length (colsN A) (tf A)]
      apply lead_congr
      intro k hk
      apply FreeC_congr
      intro i j hi hj
      unfold belF
      unfold tf
      by_cases h1 : i < A.length
      · rw [if_pos h1, ix_get (hS i hi), List.getElem_append_left h1, ← ix_get h1]
      · rw [if_neg h1, ix_get (hS i hi), List.getElem_append_right (by omega), ← ix_get (l := tbl A.length (colsN A) (stp A).f) (by simp; omega), tbl_ix (by omega), rw_ix _ (by omega), can_v]
        rfl
    rw [el2] at rk2
    clear el2 bok br bc hB1
    have tln := tbl_len A.length (colsN A) (stp A).f
    have hnl := nats_len (stp A).lead
    have trow : ∀ i, i < A.length → (ix (tbl A.length (colsN A) (stp A).f) i).length = colsN A := fun i hi => by rw [tbl_ix hi, rw_len]
    generalize (stp A).lead.length = nl at *
    generalize tbl A.length (colsN A) (stp A).f = S at *
    generalize nats (stp A).lead = ns at *
    have st' := st
    have rk' := rk
    clear hinv fB fB' st rk
    have ac : (A.length : Int) = (A.length : Int) := rfl
    obtain ⟨_, _, _, l0, -, rfl, rfl, rfl⟩ : ∃ z e μ, EX ip nv (.code (.loop [] [] dendronlaw05_SolveSteps.b0) [(0, .d (.sl 1 (el A))), (3, .d (.sl 1 (el S))), (4, .d (.sl 1 (el ns))), (6, .d (.int .i64 (nl : Int))), (8, .d (.int .i64 (A.length : Int))), (9, .d (.int .i64 (colsN A : Int))), (11, .d (.int .i64 0))] []) = some (.st z e μ) ∧ z ≠ .normal ∧
        z = .exit 0 ∧ e = [(0, .d (.sl 1 (el A))), (3, .d (.sl 1 (el S))), (4, .d (.sl 1 (el ns))), (6, .d (.int .i64 (nl : Int))), (8, .d (.int .i64 (A.length : Int))), (9, .d (.int .i64 (colsN A : Int))), (11, .d (.int .i64 (A.length : Int))), (76, .d (.bool false))] ∧ μ = [] := by
      refine loop_n A.length (fun i e μ => e = [(0, .d (.sl 1 (el A))), (3, .d (.sl 1 (el S))), (4, .d (.sl 1 (el ns))), (6, .d (.int .i64 (nl : Int))), (8, .d (.int .i64 (A.length : Int))), (9, .d (.int .i64 (colsN A : Int))), (11, .d (.int .i64 (i : Int)))] ∧ μ = []) ?_ ?_ ⟨rfl, rfl⟩
      · rintro i e μ hi ⟨rfl, rfl⟩
        have hr1 := trow i hi
        refine .inl ⟨_, _, ?_, rfl, rfl⟩
        simp (disch := omega) [-vIA_o, dendronlaw05_SolveSteps.b0, hi, hr1]
      · rintro e μ ⟨rfl, rfl⟩
        exact ⟨.exit 0, _, _, by simp [dendronlaw05_SolveSteps.b0] <;> first | rfl | exact ⟨rfl, rfl⟩, by simp, rfl, rfl, rfl⟩
    obtain ⟨_, _, _, l2, -, rfl, rfl, rfl⟩ : ∃ z e μ, EX ip nv (.code (.loop [] [] dendronlaw05_SolveSteps.b2) [(0, .d (.sl 1 (el A))), (3, .d (.sl 1 (el S))), (4, .d (.sl 1 (el ns))), (6, .d (.int .i64 (nl : Int))), (8, .d (.int .i64 (A.length : Int))), (12, .d (.int .i64 0))] []) = some (.st z e μ) ∧ z ≠ .normal ∧
        z = .exit 2 ∧ e = [(0, .d (.sl 1 (el A))), (3, .d (.sl 1 (el S))), (4, .d (.sl 1 (el ns))), (6, .d (.int .i64 (nl : Int))), (8, .d (.int .i64 (A.length : Int))), (12, .d (.int .i64 (A.length : Int))), (92, .d (.bool false))] ∧ μ = [] := by
      refine loop_n A.length (fun i e μ => e = [(0, .d (.sl 1 (el A))), (3, .d (.sl 1 (el S))), (4, .d (.sl 1 (el ns))), (6, .d (.int .i64 (nl : Int))), (8, .d (.int .i64 (A.length : Int))), (12, .d (.int .i64 (i : Int)))] ∧ μ = []) ?_ ?_ ⟨rfl, rfl⟩
      · rintro i e μ hi ⟨rfl, rfl⟩
        have hm := md i hi
        refine .inl ⟨_, _, ?_, rfl, rfl⟩
        simp (disch := omega) [-vIA_o, dendronlaw05_SolveSteps.b2, hi, hm]
      · rintro e μ ⟨rfl, rfl⟩
        exact ⟨.exit 2, _, _, by simp [dendronlaw05_SolveSteps.b2] <;> first | rfl | exact ⟨rfl, rfl⟩, by simp, rfl, rfl, rfl⟩
    have hby : (A.length + A.length) * 24 ≤ 70368744177664 := by omega
    have hab : (A ++ S).length = A.length + A.length := by simp [tln]
    have htk : List.take (A.length + A.length) (el (A ++ S)) = el (A ++ S) := List.take_of_length_le (by rw [el_len]; omega)
    simp (disch := omega) [dendronlaw05_SolveSteps, f1, st', rk', sA, tln, hnl, l0, ins, l2, rk2, aw, htk]
  · rw [if_neg hr] at sA
    have st := steps_bad (nv := nv) A (by omega) (by simpa using hr)
    have rk := rank_bad (nv := nv) A (by omega) (by simpa using hr)
    simp (disch := omega) [dendronlaw05_SolveSteps, f1, st, rk, sA, aw]
end
end Go.Proofs.YtbghnfhfekfenaaDoor
