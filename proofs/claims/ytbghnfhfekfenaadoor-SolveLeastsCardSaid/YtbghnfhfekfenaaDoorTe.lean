/- Steps, ranks, determinants, as the program tells them. -/
import Derived.Test.YtbghnfhfekfenaaDoorTb
import Derived.Test.YtbghnfhfekfenaaDoorTd
set_option linter.unusedSimpArgs false
set_option linter.unusedVariables false
namespace Go.Proofs.YtbghnfhfekfenaaDoor
open Go Go.Proofs.R
set_option maxRecDepth 10000
theorem tf_b {a : List (List RQ)} {b : Nat} (hb : ∀ r ∈ a, ∀ x ∈ r, x.ok b) (hb0 : 1 ≤ b) (hr : rectB a = true) : ∀ i k, i < a.length → k < colsN a → Bq b (tf a i k) := fun i k hi hk => by
  have hl := rect_row hr hi
  exact Bq.v (hb _ (ix_mem hi) _ (ix_mem (l := ix a i) (by omega))) hb0
section
variable {nv : R.Nv}
/-- A table's rows in steps. -/
abbrev stp (a : List (List RQ)) : Rs := runR a.length (tf a) (colsN a)
theorem steps_ev (hz : TzOk nv) (a : List (List RQ)) {b : Nat} (hb : ∀ r ∈ a, ∀ x ∈ r, x.ok b) (hb0 : 1 ≤ b) (hb1 : 5 * (5 ^ colsN a * b) ≤ 1073741824) (hl : a.length ≤ 100000) (hr : rectB a = true) (hc : colsN a ≤ 100000) :
    EX ip nv (.call F.solve_Steps [.d (.sl 1 (el a))] []) = some (.ret (.tp [.d (.sl 1 (el (tbl a.length (colsN a) (stp a).f))), .d (.sl 1 (el (nats (stp a).lead))), .d (.int .i64 0)]) []) := by
  rw [S_call solve_Steps.ip rfl]
  have sz := size_ev (nv := nv) a (by omega)
  unfold sizeV at sz
  rw [if_pos hr] at sz
  have hp5 : 1 ≤ 5 ^ colsN a := Nat.pow_pos (by decide)
  have hbb : b ≤ 5 ^ colsN a * b := Nat.le_mul_of_pos_left b hp5
  obtain ⟨H, cp, hH⟩ := copy_ev (nv := nv) hz a hb (by omega) (by omega) (fun r hr' => by
    obtain ⟨i, hi, rfl⟩ := List.getElem_of_mem hr'
    rw [← ix_get hi, rect_row hr hi]; omega)
  rw [clT_tbl hr] at hH
  have hT := hH.ht
  obtain ⟨H', n', ids', L, rn, h1, h2⟩ := run_ev (nv := nv) hz (Nat.le_refl (colsN a)) (tf_b hb hb0 hr) hb0 hb1 (by omega) (by omega) (.bool false) (.raw (.slice none 0 0)) (.raw (.slice none 0 0)) hT
  have ht := hT.tab
  have ht' := h1.tab
  have dp := h1.deep (k0 := 1)
  have hpn : hpart [] = [] := rfl
  have hnn : npart [] = [] := rfl
  have hcr : ∀ c k o n, (D.ref c k o n).cells = [.ref c k o n] := fun _ _ _ _ => rfl
  unfold redC at rn
  have hnl : nrefL [] = true := rfl
  unfold stp
  generalize runR a.length (tf a) (colsN a) = s at *
  by_cases hln : s.lead = []
  · rw [hln, ldD_nil] at rn
    rw [hln, nats_nil, el_nil]
    simp (disch := omega) [-vIA_o, solve_Steps, hnl, sz, cp, hpn, hnn, hT.hp.hpart, hT.hp.npart, hT.hp.aget, hT.hp.aput, ht, hcr, rn, hpart_cons, npart_cons, ht', h1.hp.hpart, h1.hp.aget, h1.hp.adel, dp]
  · rw [ldD_cons hln] at rn
    have ld := lead_deep h2 hln 1
    have lr := h2.row hln
    simp (disch := omega) [-vIA_o, solve_Steps, hnl, sz, cp, hpn, hnn, hT.hp.hpart, hT.hp.npart, hT.hp.aget, hT.hp.aput, ht, hcr, rn, hpart_cons, npart_cons, ht', h1.hp.hpart, h1.hp.aget, h1.hp.adel, dp, ld, lr]
theorem steps_bad (a : List (List RQ)) (hl : a.length ≤ 1000000) (hr : rectB a = false) : EX ip nv (.call F.solve_Steps [.d (.sl 1 (el a))] []) = some (.ret (.tp [.d (.sl 1 []), .d (.sl 1 []), .d (.int .i64 14)]) []) := by
  rw [S_call solve_Steps.ip rfl]
  have sz := size_ev (nv := nv) a hl
  unfold sizeV at sz
  rw [if_neg (by simp [hr])] at sz
  have hnl : nrefL [] = true := rfl
  simp (disch := omega) [solve_Steps, sz, hnl]
theorem rank_ev (hz : TzOk nv) (a : List (List RQ)) {b : Nat} (hb : ∀ r ∈ a, ∀ x ∈ r, x.ok b) (hb0 : 1 ≤ b) (hb1 : 5 * (5 ^ colsN a * b) ≤ 1073741824) (hl : a.length ≤ 100000) (hr : rectB a = true) (hc : colsN a ≤ 100000) :
    EX ip nv (.call F.solve_Rank [.d (.sl 1 (el a))] []) = some (.ret (.tp [.d (.int .i64 ((stp a).lead.length : Int)), .d (.int .i64 0)]) []) := by
  rw [S_call solve_Rank.ip rfl]
  have st := steps_ev (nv := nv) hz a hb hb0 hb1 hl hr hc
  simp (disch := omega) [solve_Rank, st]
theorem rank_bad (a : List (List RQ)) (hl : a.length ≤ 1000000) (hr : rectB a = false) : EX ip nv (.call F.solve_Rank [.d (.sl 1 (el a))] []) = some (.ret (.tp [.d (.int .i64 0), .d (.int .i64 14)]) []) := by
  rw [S_call solve_Rank.ip rfl]
  have st := steps_bad (nv := nv) a hl hr
  simp (disch := omega) [solve_Rank, st]
/-- What is told of a determinant. -/
def detQ (a : List (List RQ)) : Rat := if (stp a).lead.length < a.length then 0 else if (stp a).minus then -(stp a).det else (stp a).det
theorem det_ev (hz : TzOk nv) (a : List (List RQ)) {b : Nat} (hb : ∀ r ∈ a, ∀ x ∈ r, x.ok b) (hb0 : 1 ≤ b) (hb1 : 5 * (5 ^ colsN a * b) ≤ 1073741824) (hl : a.length ≤ 100000) (hr : rectB a = true) (hc : colsN a = a.length) :
    EX ip nv (.call F.solve_Det [.d (.sl 1 (el a))] []) = some (.ret (.tp [.d (.ag (can (detQ a)).c), .d (.int .i64 0)]) []) := by
  rw [S_call solve_Det.ip rfl]
  have sz := size_ev (nv := nv) a (by omega)
  unfold sizeV at sz
  rw [if_pos hr, hc] at sz
  have hp5 : 1 ≤ 5 ^ colsN a := Nat.pow_pos (by decide)
  have hbb : b ≤ 5 ^ colsN a * b := Nat.le_mul_of_pos_left b hp5
  obtain ⟨H, cp, hH⟩ := copy_ev (nv := nv) hz a hb (by omega) (by omega) (fun r hr' => by
    obtain ⟨i, hi, rfl⟩ := List.getElem_of_mem hr'
    rw [← ix_get hi, rect_row hr hi]; omega)
  rw [clT_tbl hr] at hH
  have hT := hH.ht
  obtain ⟨H', n', ids', L, rn, h1, h2⟩ := run_ev (nv := nv) hz (Nat.le_refl (colsN a)) (tf_b hb hb0 hr) hb0 hb1 (by omega) (by omega) (.bool false) (.raw (.slice none 0 0)) (.raw (.slice none 0 0)) hT
  obtain ⟨_, dB⟩ := run_b (tf_b hb hb0 hr) hb0 (colsN a) (Nat.le_refl _)
  have ht := hT.tab
  have ht' := h1.tab
  have hpn : hpart [] = [] := rfl
  have hnn : npart [] = [] := rfl
  have hcr : ∀ c k o n, (D.ref c k o n).cells = [.ref c k o n] := fun _ _ _ _ => rfl
  have hz0 := zero_ev (nv := nv)
  have h5 : 1 ≤ 5 ^ colsN a * b := by omega
  have ng := rneg_ev (nv := nv) hz (can (stp a).det) (can_ok dB) h5 (by omega)
  rw [can_v] at ng
  have hlen := (run_inv a.length (tf a) (colsN a)).len
  unfold detQ stp
  unfold stp at ng
  unfold redC at rn
  have ng' := ng
  clear ng
  generalize runR a.length (tf a) (colsN a) = s at *
  have hpt : ∀ (x1 x2 x3 x4 : D) (x : RQ), List.take 3 (List.drop 4 (x1 :: x2 :: x3 :: x4 :: x.c)) = x.c := fun _ _ _ _ _ => rfl
  rw [hc] at *
  by_cases hln : s.lead = []
  · rw [hln, ldD_nil] at rn
    rw [hln] at hlen ⊢
    by_cases h0 : 0 < a.length
    · have hq : (0 : Int) < (a.length : Int) := by omega
      rw [if_pos (by simpa using h0)]
      simp (disch := omega) [-vIA_o, solve_Det, sz, cp, hpn, hnn, hT.hp.hpart, hT.hp.npart, hT.hp.aget, hT.hp.aput, ht, hcr, rn, hpart_cons, npart_cons, ht', h1.hp.hpart, h1.hp.aget, h1.hp.adel, hz0, hq, h0]
    · have hq : ¬ (0 : Int) < (a.length : Int) := by omega
      rw [if_neg (by simpa using h0)]
      cases hm : s.minus
      · rw [hm] at rn
        simp only [if_true, Bool.false_eq_true, if_false]
        generalize can s.det = q at *
        simp (disch := omega) [-vIA_o, solve_Det, sz, cp, hpn, hnn, hT.hp.hpart, hT.hp.npart, hT.hp.aget, hT.hp.aput, ht, hcr, rn, hpart_cons, npart_cons, ht', h1.hp.hpart, h1.hp.aget, h1.hp.adel, hz0, hq, h0, hpt]
      · rw [hm] at rn
        simp only [if_true, Bool.false_eq_true, if_false]
        generalize can s.det = q at *
        generalize can (-s.det) = q' at *
        simp (disch := omega) [-vIA_o, solve_Det, sz, cp, hpn, hnn, hT.hp.hpart, hT.hp.npart, hT.hp.aget, hT.hp.aput, ht, hcr, rn, hpart_cons, npart_cons, ht', h1.hp.hpart, h1.hp.aget, h1.hp.adel, hz0, hq, h0, hpt, ng']
  · rw [ldD_cons hln] at rn
    have lr := h2.row hln
    by_cases h0 : s.lead.length < a.length
    · have hq : (s.lead.length : Int) < (a.length : Int) := by omega
      rw [if_pos h0]
      simp (disch := omega) [-vIA_o, solve_Det, sz, cp, hpn, hnn, hT.hp.hpart, hT.hp.npart, hT.hp.aget, hT.hp.aput, ht, hcr, rn, hpart_cons, npart_cons, ht', h1.hp.hpart, h1.hp.aget, h1.hp.adel, hz0, hq, h0, lr]
    · have hq : ¬ (s.lead.length : Int) < (a.length : Int) := by omega
      rw [if_neg h0]
      cases hm : s.minus
      · rw [hm] at rn
        simp only [if_true, Bool.false_eq_true, if_false]
        generalize can s.det = q at *
        simp (disch := omega) [-vIA_o, solve_Det, sz, cp, hpn, hnn, hT.hp.hpart, hT.hp.npart, hT.hp.aget, hT.hp.aput, ht, hcr, rn, hpart_cons, npart_cons, ht', h1.hp.hpart, h1.hp.aget, h1.hp.adel, hz0, hq, h0, hpt, lr]
      · rw [hm] at rn
        simp only [if_true, Bool.false_eq_true, if_false]
        generalize can s.det = q at *
        generalize can (-s.det) = q' at *
        simp (disch := omega) [-vIA_o, solve_Det, sz, cp, hpn, hnn, hT.hp.hpart, hT.hp.npart, hT.hp.aget, hT.hp.aput, ht, hcr, rn, hpart_cons, npart_cons, ht', h1.hp.hpart, h1.hp.aget, h1.hp.adel, hz0, hq, h0, hpt, lr, ng']
end
end Go.Proofs.YtbghnfhfekfenaaDoor
