/- Row reduction as the program does it: all columns. -/
import Derived.Test.YtgigaimaaijalaaGreatDoorTa
set_option linter.unusedSimpArgs false
set_option linter.unusedVariables false
namespace Go.Proofs.YtgigaimaaijalaaGreatDoor
open Go Go.Proofs.R
set_option maxRecDepth 10000
theorem swap_b {R C b p r : Nat} {f : Tb} (hb : ∀ i k, i < R → k < C → Bq b (f i k)) (hp : p < R) (hr : r < R) : ∀ i k, i < R → k < C → Bq b (swapF f p r i k) := by
  intro i k hi hk
  unfold swapF
  split
  · exact hb r k hr hk
  · split
    · exact hb p k hp hk
    · exact hb i k hi hk
theorem clear_b {R C b r c : Nat} {f : Tb} (hb : ∀ i k, i < R → k < C → Bq b (f i k)) (hb0 : 1 ≤ b) (hr : r < R) (hc : c < C) (h0 : f r c ≠ 0) : ∀ i k, i < R → k < C → Bq (5 * b) (clearF f r c i k) := by
  intro i k hi hk
  have hy := (hb r c hr hc).inv h0
  unfold clearF
  split
  · exact ((hb r k hr hk).mul hy).mono (by omega)
  · exact ((hb i k hi hk).sub ((hb i c hi hc).mul ((hb r k hr hk).mul hy))).mono (by omega)
theorem swap_row (f : Tb) (p r : Nat) : swapF f p r r = f p := by
  unfold swapF; by_cases e : r = p
  · rw [if_pos e, e]
  · rw [if_neg e, if_pos rfl]
/-- How long the numbers grow. -/
theorem run_b {R C b : Nat} {f : Tb} (hb : ∀ i k, i < R → k < C → Bq b (f i k)) (hb0 : 1 ≤ b) : ∀ c, c ≤ C → (∀ i k, i < R → k < C → Bq (5 ^ c * b) ((runR R f c).f i k)) ∧ Bq (5 ^ c * b) (runR R f c).det
  | 0, _ => ⟨by simpa [runR] using hb, by
    have : Bq 1 1 := ⟨by simp [pw], by simp [pw]⟩
    exact this.mono (by simpa using hb0)⟩
  | c + 1, hc => by
    obtain ⟨h1, h2⟩ := run_b hb hb0 c (by omega)
    have hp : 1 ≤ 5 ^ c * b := Nat.mul_pos (Nat.pow_pos (by decide)) hb0
    rw [Nat.pow_succ, show 5 ^ c * 5 * b = 5 * (5 ^ c * b) by rw [Nat.mul_comm (5 ^ c) 5, Nat.mul_assoc]]
    show (∀ i k, i < R → k < C → Bq (5 * (5 ^ c * b)) ((stepR R (runR R f c) c).f i k)) ∧ Bq (5 * (5 ^ c * b)) (stepR R (runR R f c) c).det
    generalize 5 ^ c * b = B at *
    unfold stepR
    cases hpv : piv R (runR R f c).f c (runR R f c).lead.length with
    | none => exact ⟨fun i k hi hk => (h1 i k hi hk).mono (by omega), h2.mono (by omega)⟩
    | some p =>
      obtain ⟨p1, p2, p3⟩ := piv_some hpv
      simp only
      refine ⟨clear_b (swap_b h1 p2 (by omega)) hp (by omega) (by omega) (by rw [swap_row]; exact p3), ?_⟩
      rw [swap_row]
      exact (h2.mul (h1 p c p2 (by omega))).mono (by omega)
/-- The reducer's cells. -/
def redC (T R cols L : Nat) (s : Rs) : List D := .ref (1099511627776 + T) 1 0 R :: .int .i64 (cols : Int) :: ldD L s.lead :: .bool s.minus :: (can s.det).c
section
variable {nv : R.Nv}
theorem run_ev (hz : TzOk nv) {n T : Nat} {ids : Nat → Nat} {R C cols : Nat} {f : Tb} {b : Nat} (hcl : cols ≤ C) (hb : ∀ i k, i < R → k < C → Bq b (f i k)) (hb0 : 1 ≤ b) (hb1 : 5 * (5 ^ cols * b) ≤ 1073741824) (hC : C ≤ 1000000) (hR : R ≤ 1000000) (a1 a2 a3 : D)
    {H : Mem} (h : HT H n T ids R C f) :
    ∃ H' n' ids' L, EX ip nv (.call F.dendron_solve_reducer_run [.ptr 0 0] ((0, ⟨0, true, [.ref (1099511627776 + T) 1 0 R, .int .i64 (cols : Int), .raw (.slice none 0 0), .bool false, a1, a2, a3]⟩) :: H)) = some (.ret (.tp []) ((0, ⟨0, true, redC T R cols L (runR R f cols)⟩) :: H')) ∧
      HT H' n' T ids' R C (runR R f cols).f ∧ HL H' n' T ids' R L (runR R f cols).lead := by
  rw [S_call dendron_solve_reducer_run.ip rfl]
  obtain ⟨_, _, _, hlp, -, H', n', ids', L, rfl, rfl, rfl, h1, h2⟩ : ∃ z e μ, EX ip nv (.code (.loop [] [] dendron_solve_reducer_run.b0) [(0, .ptr 0 0), (12, .d (.int .i64 (cols : Int))), (13, .d (.int .i64 0))] ((0, ⟨0, true, redC T R cols 0 (runR R f 0)⟩) :: H)) = some (.st z e μ) ∧ z ≠ .normal ∧
      ∃ H' n' ids' L, z = .exit 0 ∧ e = [(0, .ptr 0 0), (12, .d (.int .i64 (cols : Int))), (13, .d (.int .i64 (cols : Int))), (14, .d (.bool false))] ∧ μ = ((0, ⟨0, true, redC T R cols L (runR R f cols)⟩) :: H') ∧ HT H' n' T ids' R C (runR R f cols).f ∧ HL H' n' T ids' R L (runR R f cols).lead := by
    refine loop_n cols (fun c e μ => ∃ H' n' ids' L, HT H' n' T ids' R C (runR R f c).f ∧ HL H' n' T ids' R L (runR R f c).lead ∧ e = [(0, .ptr 0 0), (12, .d (.int .i64 (cols : Int))), (13, .d (.int .i64 (c : Int)))] ∧ μ = ((0, ⟨0, true, redC T R cols L (runR R f c)⟩) :: H')) ?_ ?_ ⟨H, n, ids, 0, h, HL.nil _ _ _ _ _ _, rfl, rfl⟩
    · rintro c e μ hc ⟨H', n', ids', L, h', hl', rfl, rfl⟩
      obtain ⟨b1, b2⟩ := run_b hb hb0 c (by omega)
      have hB1 : 1 ≤ 5 ^ c * b := Nat.mul_pos (Nat.pow_pos (by decide)) hb0
      have hB2 : 5 * (5 ^ c * b) ≤ 1073741824 := Nat.le_trans (Nat.mul_le_mul_left 5 (Nat.mul_le_mul_right b (Nat.pow_le_pow_right (by decide) (by omega)))) hb1
      have hlen := (run_inv R f c).len
      show (∃ e' μ', _ ∧ ∃ H' n' ids' L, HT H' n' T ids' R C (stepR R (runR R f c) c).f ∧ HL H' n' T ids' R L (stepR R (runR R f c) c).lead ∧ _ ∧ μ' = ((0, ⟨0, true, redC T R cols L (stepR R (runR R f c) c)⟩) :: H')) ∨ _
      generalize runR R f c = s at *
      generalize 5 ^ c * b = B at *
      have pv := pivot_ev (nv := nv) hz h' b1 hB1 (by omega) (by omega) hlen (show c < C by omega) (.int .i64 (cols : Int) :: ldD L s.lead :: .bool s.minus :: (can s.det).c)
      have e0 : ((([] : List Nat).length : Nat) : Int) = 0 := rfl
      unfold stepR
      cases hpv : piv R s.f c s.lead.length with
      | none =>
        rw [hpv] at pv
        refine .inl ⟨_, _, ?_, H', n', ids', L, h', hl', rfl, rfl⟩
        unfold redC
        by_cases hln : s.lead = []
        · rw [hln, ldD_nil, e0] at pv
          rw [hln, ldD_nil]
          simp (disch := omega) [-vIA_o, dendron_solve_reducer_run.b0, hc, pv, pivI, hpart_cons, npart_cons, h'.hp.hpart, h'.hp.npart]
        · rw [ldD_cons hln] at pv ⊢
          have hrow := hl'.row hln
          simp (disch := omega) [-vIA_o, dendron_solve_reducer_run.b0, hc, pv, pivI, hpart_cons, npart_cons, h'.hp.hpart, h'.hp.npart, hrow]
      | some p =>
        rw [hpv] at pv
        obtain ⟨p1, p2, p3⟩ := piv_some hpv
        have hrR : s.lead.length < R := by omega
        obtain ⟨Hs, ids2, hs, hsl, e1, e2⟩ : ∃ Hs ids2, HT Hs n' T ids2 R C (swapF s.f p s.lead.length) ∧ HL Hs n' T ids2 R L s.lead ∧ (p = s.lead.length → Hs = H') ∧ (p ≠ s.lead.length → Hs = aput (1099511627776 + T) ⟨0, false, refs (fun j => if j = s.lead.length then ids' p else if j = p then ids' s.lead.length else ids' j) R C⟩ H') := by
          by_cases e : p = s.lead.length
          · exact ⟨H', ids', by rw [e, swapF_same]; exact h', hl', fun _ => rfl, fun h => absurd e h⟩
          · exact ⟨_, _, h'.swap p2 hrR e, hl'.swap p2 hrR _, fun h => absurd h e, fun _ => rfl⟩
        have h0 : swapF s.f p s.lead.length s.lead.length c ≠ 0 := by rw [swap_row]; exact p3
        obtain ⟨Hc, ce, hc1, hc2⟩ := clear_ev (nv := nv) hz hrR (show c < C by omega) (swap_b b1 p2 hrR) hB1 (by omega) (by omega) (by omega) h0 (.int .i64 (cols : Int)) (ldD L s.lead) (.bool (if p = s.lead.length then s.minus else !s.minus)) s.det b2 hs hsl
        obtain ⟨g1, g2⟩ := hc1.grow hc2 c
        have hcnt := hc1.cnt
        have hge : 1099511627776 ≤ cntOf Hc := by omega
        have gat := g2.row (by simp)
        refine .inl ⟨_, _, ?_, _, _, ids2, _, g1, g2, rfl, rfl⟩
        have ht := h'.tab
        have hgp := refs_get (ids := ids') (C := C) p2
        have hgr := refs_get (ids := ids') (C := C) hrR
        have rowp := h'.row p p2
        have rowr := h'.row _ hrR
        have hne : s.lead ++ [c] ≠ [] := by simp
        have hp0 : ¬ ((p : Int) < 0) := by omega
        have q1 : p + 1 ≤ R := p2
        have q2 : s.lead.length + 1 ≤ R := hrR
        have q0 : 1 ≤ R := by omega
        have q3 : (s.lead.length + 1) * 8 ≤ 70368744177664 := by omega
        have hrp : ∀ B : Blk, aget (aput (1099511627776 + T) B H') (1099511627776 + ids' p) = aget H' (1099511627776 + ids' p) := fun B => by rw [aget_hb, if_neg (h'.ne p p2)]
        have hl0 : ¬ ((s.lead.length : Int) < 0) := by omega
        have hcr : ∀ c k o n, (D.ref c k o n).cells = [.ref c k o n] := fun _ _ _ _ => rfl
        unfold redC
        rw [ldD_cons hne]
        dsimp only
        by_cases hln : s.lead = []
        · rw [if_pos hln] at gat ⊢
          rw [hln] at pv gat ce hgr rowr e1 e2 ⊢
          have z0 : ((0 : Nat) : Int) = 0 := rfl
          simp only [ldD_nil, List.nil_append, List.length_nil, z0] at pv gat ce hgr rowr e1 e2 ⊢
          have hel : el (nats [c]) = [D.int .i64 (c : Int)] := rfl
          rw [hel] at gat ⊢
          by_cases hpr : p = 0
          · have hH := e1 hpr
            subst hH
            subst hpr
            simp only [if_true] at ce ⊢
            simp (disch := omega) [-vIA_o, dendron_solve_reducer_run.b0, hc, pv, pivI, hp0, hl0, hcr, q0, q1, q2, q3, hpart_cons, npart_cons, h'.hp.hpart, h'.hp.npart, ce, hc1.hp.hpart, hc1.hp.npart, hc1.hp.aget, hcnt, gat]
          · have hH := e2 hpr
            have hpi : ¬ ((p : Int) = 0) := by omega
            simp only [if_neg hpr] at ce ⊢
            have hsp := hs.hp.hpart
            have hsn := hs.hp.npart
            rw [hH] at ce hsp hsn
            simp (disch := omega) [-vIA_o, dendron_solve_reducer_run.b0, hc, pv, pivI, hp0, hl0, hcr, q0, q1, q2, q3, hpart_cons, npart_cons, h'.hp.hpart, h'.hp.npart, ce, hc1.hp.hpart, hc1.hp.npart, hc1.hp.aget, hcnt, gat, ht, hgp, hgr, rowp, rowr, hpi, hpr, hrp, p2, hrR, hsp, hsn, refs_set]
        · have e3 : s.lead.length ≠ 0 := fun h => hln (List.length_eq_zero_iff.1 h)
          have hrow := hl'.row hln
          have hrc := hc2.row hln
          rw [if_neg hln] at gat ⊢
          rw [ldD_cons hln] at pv ce ⊢
          have hcl2 : cntOf (adel (1099511627776 + L) Hc) = 1099511627776 + n' := by rw [← hcnt]; exact cntOf_low (aget_adel_ne (by omega) _)
          have hcg : 1099511627776 ≤ cntOf (adel (1099511627776 + L) Hc) := by omega
          have hel : el (nats (s.lead ++ [c])) = List.take s.lead.length (el (nats s.lead)) ++ [D.int .i64 (c : Int)] := by
            rw [List.take_of_length_le (by simp), ← nats_app, ← el_app]; rfl
          rw [hel] at gat ⊢
          by_cases hpr : p = s.lead.length
          · have hH := e1 hpr
            subst hH
            subst hpr
            simp only [if_true] at ce ⊢
            simp (disch := omega) [-vIA_o, dendron_solve_reducer_run.b0, hc, pv, pivI, hp0, hl0, hcr, q0, q1, q2, q3, hpart_cons, npart_cons, h'.hp.hpart, h'.hp.npart, ce, hc1.hp.hpart, hc1.hp.npart, hc1.hp.aget, hcnt, gat, hrow, hrc, hcl2]
          · have hH := e2 hpr
            have hpi : ¬ ((p : Int) = (s.lead.length : Int)) := by omega
            simp only [if_neg hpr] at ce ⊢
            have hsp := hs.hp.hpart
            have hsn := hs.hp.npart
            rw [hH] at ce hsp hsn
            simp (disch := omega) [-vIA_o, dendron_solve_reducer_run.b0, hc, pv, pivI, hp0, hl0, hcr, q0, q1, q2, q3, hpart_cons, npart_cons, h'.hp.hpart, h'.hp.npart, ce, hc1.hp.hpart, hc1.hp.npart, hc1.hp.aget, hcnt, gat, ht, hgp, hgr, rowp, rowr, hpi, hpr, hrp, p2, hrR, hsp, hsn, refs_set, hrow, hrc, hcl2]
    · rintro e μ ⟨H', n', ids', L, h', hl', rfl, rfl⟩
      exact ⟨.exit 0, _, _, by simp [dendron_solve_reducer_run.b0] <;> first | rfl | exact ⟨rfl, rfl⟩, by simp, H', n', ids', L, rfl, rfl, rfl, h', hl'⟩
  refine ⟨H', n', ids', L, ?_, h1, h2⟩
  have hpad : ∀ x : RQ, setAt [D.ref (1099511627776 + T) 1 0 R, .int .i64 (cols : Int), .raw (.slice none 0 0), .bool false, a1, a2, a3] 4 x.c = D.ref (1099511627776 + T) 1 0 R :: .int .i64 (cols : Int) :: .raw (.slice none 0 0) :: .bool false :: x.c := fun _ => rfl
  have one := rone_ev (nv := nv)
  unfold redC at hlp ⊢
  simp only [runR, ldD_nil] at hlp
  generalize can 1 = q at *
  simp (disch := omega) [-setAt, dendron_solve_reducer_run, hpad, one, hlp, h1.hp.keeps]
end
end Go.Proofs.YtgigaimaaijalaaGreatDoor
