/- Row reduction as the program does it: one column's pivot, and what clears it. -/
import Derived.Test.YtgigaimaaijalaaGreatDoorRg
import Derived.Test.YtgigaimaaijalaaGreatDoorRf
import Derived.Test.YtgigaimaaijalaaGreatDoorOb
set_option linter.unusedSimpArgs false
set_option linter.unusedVariables false
namespace Go.Proofs.YtgigaimaaijalaaGreatDoor
open Go Go.Proofs.R
set_option maxRecDepth 10000
section
variable {nv : R.Nv}
theorem pivot_ev (hz : TzOk nv) {H : Mem} {n T : Nat} {ids : Nat → Nat} {R C : Nat} {f : Tb} (h : HT H n T ids R C f) {b : Nat} (hb : ∀ i k, i < R → k < C → Bq b (f i k)) (hb0 : 1 ≤ b) (hb1 : b ≤ 1073741824) (hR : R ≤ 4611686018427387904) {r c : Nat} (hr : r ≤ R) (hc : c < C) (cs : List D) :
    EX ip nv (.call F.dendron_solve_reducer_pivot [.ptr 0 0, .d (.int .i64 (r : Int)), .d (.int .i64 (c : Int))] ((0, ⟨0, true, .ref (1099511627776 + T) 1 0 R :: cs⟩) :: H)) =
      some (.ret (.d (.int .i64 (pivI (piv R f c r)))) ((0, ⟨0, true, .ref (1099511627776 + T) 1 0 R :: cs⟩) :: H)) := by
  rw [S_call dendron_solve_reducer_pivot.ip rfl]
  obtain ⟨z, e, μ, hl, -, hz1⟩ : ∃ z e μ, EX ip nv (.code (.loop [] [] dendron_solve_reducer_pivot.b0) [(0, .ptr 0 0), (2, .d (.int .i64 (c : Int))), (7, .d (.int .i64 (r : Int)))] ((0, ⟨0, true, .ref (1099511627776 + T) 1 0 R :: cs⟩) :: H)) = some (.st z e μ) ∧ z ≠ .normal ∧
      ((∃ p, z = .ret ∧ piv R f c r = some p ∧ e = [(6, .d (.int .i64 (p : Int)))] ∧ μ = ((0, ⟨0, true, .ref (1099511627776 + T) 1 0 R :: cs⟩) :: H)) ∨
       (z = .exit 0 ∧ piv R f c r = none ∧ e = [(0, .ptr 0 0), (2, .d (.int .i64 (c : Int))), (7, .d (.int .i64 (R : Int))), (15, .d (.bool false))] ∧ μ = ((0, ⟨0, true, .ref (1099511627776 + T) 1 0 R :: cs⟩) :: H))) := by
    refine loop_n (R - r) (fun i e μ => (∀ j, r ≤ j → j < r + i → f j c = 0) ∧ e = [(0, .ptr 0 0), (2, .d (.int .i64 (c : Int))), (7, .d (.int .i64 ((r + i : Nat) : Int)))] ∧ μ = ((0, ⟨0, true, .ref (1099511627776 + T) 1 0 R :: cs⟩) :: H)) ?_ ?_ ⟨fun j h1 h2 => by omega, rfl, rfl⟩
    · rintro i e μ hi ⟨hj, rfl, rfl⟩
      obtain ⟨m, hm⟩ : ∃ m, m = r + i := ⟨_, rfl⟩
      rw [← hm] at hj ⊢
      have hmR : m < R := by omega
      have ht := h.tab
      have hrow := h.row m hmR
      have hget := refs_get (ids := ids) (C := C) hmR
      have sg := rsign_ev (nv := nv) hz (can (f m c)) (can_ok (hb m c hmR hc)) hb0 hb1
      rw [can_v] at sg
      have hix := rw_ix (f m) hc
      have hlen := rw_len C (f m)
      by_cases h0 : f m c = 0
      · refine .inl ⟨_, _, ?_, fun j h1 h2 => ?_, rfl, rfl⟩
        · have hs : (f m c).num.sign = 0 := by rw [sign_zero]; exact h0
          rw [hs] at sg
          rw [show r + (i + 1) = m + 1 by omega]
          simp (disch := omega) [-vIA_o, dendron_solve_reducer_pivot.b0, ht, hrow, hget, hix, hmR, sg]
        · by_cases hjm : j = m
          · rw [hjm]; exact h0
          · exact hj j h1 (by omega)
      · refine .inr ⟨.ret, _, _, ?_, by simp, .inl ⟨m, rfl, piv_is (by omega) hmR h0 hj, rfl, rfl⟩⟩
        have hs : (f m c).num.sign ≠ 0 := by rw [ne_eq, sign_zero]; exact h0
        generalize (f m c).num.sign = sg' at *
        simp (disch := omega) [-vIA_o, dendron_solve_reducer_pivot.b0, ht, hrow, hget, hix, hmR, sg, hs]
    · rintro e μ ⟨hj, rfl, rfl⟩
      have ht := h.tab
      rw [show r + (R - r) = R by omega] at *
      refine ⟨.exit 0, _, _, ?_, by simp, .inr ⟨rfl, piv_no hj, rfl, rfl⟩⟩
      simp [dendron_solve_reducer_pivot.b0, ht]
  rcases hz1 with ⟨p, rfl, hp, rfl, rfl⟩ | ⟨rfl, hp, rfl, rfl⟩
  · simp [dendron_solve_reducer_pivot, hl, hp, pivI, h.hp.keeps]
  · simp [dendron_solve_reducer_pivot, hl, hp, pivI, h.hp.keeps]
/-- The row of the leader is divided by its number. -/
theorem clear_b0 (hz : TzOk nv) {n T : Nat} {ids : Nat → Nat} {R C : Nat} {f : Tb} {b : Nat} (hb : ∀ i k, i < R → k < C → Bq b (f i k)) (hb0 : 1 ≤ b) (hb1 : 2 * b ≤ 1073741824) (hC : C ≤ 1099511627776) {r c : Nat} (hr : r < R) (hc : c < C) (y : Rat) (hy : Bq b y) (cs : List D)
    {H : Mem} (h : HT H n T ids R C f) {L : Nat} {l : List Nat} (hl : HL H n T ids R L l) :
    ∃ z e μ, EX ip nv (.code (.loop [] [] dendron_solve_reducer_clear.b0) [(0, .ptr 0 0), (1, .d (.int .i64 (r : Int))), (2, .d (.int .i64 (c : Int))), (6, .ptr 6 0), (51, .d (.int .i64 (C : Int))), (52, .d (.int .i64 0))] ((0, ⟨0, true, .ref (1099511627776 + T) 1 0 R :: cs⟩) :: (6, ⟨0, true, (can y).c⟩) :: H)) = some (.st z e μ) ∧ z ≠ .normal ∧
      ∃ H', z = .exit 0 ∧ e = [(0, .ptr 0 0), (1, .d (.int .i64 (r : Int))), (2, .d (.int .i64 (c : Int))), (6, .ptr 6 0), (51, .d (.int .i64 (C : Int))), (52, .d (.int .i64 (C : Int))), (53, .d (.bool false))] ∧ μ = ((0, ⟨0, true, .ref (1099511627776 + T) 1 0 R :: cs⟩) :: (6, ⟨0, true, (can y).c⟩) :: H') ∧
        HT H' n T ids R C (rwAt f r (fun k => f r k * y)) ∧ HL H' n T ids R L l := by
  refine loop_n C (fun k e μ => ∃ H', HT H' n T ids R C (rwAt f r (mx' k (fun k => f r k * y) (f r))) ∧ HL H' n T ids R L l ∧ e = [(0, .ptr 0 0), (1, .d (.int .i64 (r : Int))), (2, .d (.int .i64 (c : Int))), (6, .ptr 6 0), (51, .d (.int .i64 (C : Int))), (52, .d (.int .i64 (k : Int)))] ∧ μ = ((0, ⟨0, true, .ref (1099511627776 + T) 1 0 R :: cs⟩) :: (6, ⟨0, true, (can y).c⟩) :: H')) ?_ ?_ ⟨H, by rw [mx_zero, rwAt_id]; exact h, hl, rfl, rfl⟩
  · rintro k e μ hk ⟨H', h', hl', rfl, rfl⟩
    have ht := h'.tab
    have hrow := h'.row r hr
    rw [rwAt_same] at hrow
    have hget := refs_get (ids := ids) (C := C) hr
    have hix := rw_ix (mx' k (fun k => f r k * y) (f r)) hk
    rw [mx_at] at hix
    have hlen := rw_len C (mx' k (fun k => f r k * y) (f r))
    have ml := rmul_ev (nv := nv) hz (can (f r k)) (can y) (can_ok (hb r k hr hk)) (can_ok hy) hb0 hb0 (by omega)
    rw [can_v, can_v] at ml
    have hp := h'.put hr (mx' (k + 1) (fun k => f r k * y) (f r))
    rw [rwAt_rwAt, ← mx_set] at hp
    refine .inl ⟨_, _, ?_, _, hp, hl'.setRow hr _, rfl, rfl⟩
    generalize mx' k (fun k => f r k * y) (f r) = g at *
    generalize can (f r k) = q1 at *
    generalize can (f r k * y) = q2 at *
    generalize can y = q3 at *
    simp (disch := omega) [-vIA_o, dendron_solve_reducer_clear.b0, ht, hrow, hget, hix, hk, hr, ml]
  · rintro e μ ⟨H', h', hl', rfl, rfl⟩
    exact ⟨.exit 0, _, _, by simp [dendron_solve_reducer_clear.b0] <;> first | rfl | exact ⟨rfl, rfl⟩, by simp, H', rfl, rfl, rfl, h'.congr (fun i k hi hk => by
      by_cases e : i = r
      · rw [e, rwAt_same, rwAt_same, mx_all _ _ hk]
      · rw [rwAt_ne _ _ e, rwAt_ne _ _ e]), hl'⟩
/-- Of a row so much of the leader's row is taken away. -/
theorem clear_b4 (hz : TzOk nv) {n T : Nat} {ids : Nat → Nat} {R C : Nat} {f : Tb} {b d : Nat} {r i c : Nat} (hr : r < R) (hi : i < R) (hir : i ≠ r) (hb : ∀ k, k < C → Bq b (f i k)) (hd : ∀ k, k < C → Bq d (f r k)) (hb0 : 1 ≤ b) (hd0 : 1 ≤ d) (hb1 : 2 * b + d + 1 ≤ 1073741824) (hC : C ≤ 1099511627776) (hR : R ≤ 1099511627776) (y : Rat) (hy : Bq b y) (cs : List D)
    {H : Mem} (h : HT H n T ids R C f) {L : Nat} {l : List Nat} (hl : HL H n T ids R L l) :
    ∃ z e μ, EX ip nv (.code (.loop [] [] dendron_solve_reducer_clear.b4) [(0, .ptr 0 0), (1, .d (.int .i64 (r : Int))), (2, .d (.int .i64 (c : Int))), (9, .d (.int .i64 (i : Int))), (10, .ptr 10 0), (81, .d (.int .i64 (R : Int))), (82, .d (.int .i64 (i : Int))), (119, .d (.int .i64 (C : Int))), (120, .d (.int .i64 0))] ((0, ⟨0, true, .ref (1099511627776 + T) 1 0 R :: cs⟩) :: (10, ⟨0, true, (can y).c⟩) :: H)) = some (.st z e μ) ∧ z ≠ .normal ∧
      ∃ H', z = .exit 4 ∧ e = [(0, .ptr 0 0), (1, .d (.int .i64 (r : Int))), (2, .d (.int .i64 (c : Int))), (9, .d (.int .i64 (i : Int))), (10, .ptr 10 0), (81, .d (.int .i64 (R : Int))), (82, .d (.int .i64 (i : Int))), (119, .d (.int .i64 (C : Int))), (120, .d (.int .i64 (C : Int))), (121, .d (.bool false))] ∧ μ = ((0, ⟨0, true, .ref (1099511627776 + T) 1 0 R :: cs⟩) :: (10, ⟨0, true, (can y).c⟩) :: H') ∧
        HT H' n T ids R C (rwAt f i (fun k => f i k - y * f r k)) ∧ HL H' n T ids R L l := by
  refine loop_n C (fun k e μ => ∃ H', HT H' n T ids R C (rwAt f i (mx' k (fun k => f i k - y * f r k) (f i))) ∧ HL H' n T ids R L l ∧ e = [(0, .ptr 0 0), (1, .d (.int .i64 (r : Int))), (2, .d (.int .i64 (c : Int))), (9, .d (.int .i64 (i : Int))), (10, .ptr 10 0), (81, .d (.int .i64 (R : Int))), (82, .d (.int .i64 (i : Int))), (119, .d (.int .i64 (C : Int))), (120, .d (.int .i64 (k : Int)))] ∧ μ = ((0, ⟨0, true, .ref (1099511627776 + T) 1 0 R :: cs⟩) :: (10, ⟨0, true, (can y).c⟩) :: H')) ?_ ?_ ⟨H, by rw [mx_zero, rwAt_id]; exact h, hl, rfl, rfl⟩
  · rintro k e μ hk ⟨H', h', hl', rfl, rfl⟩
    have ht := h'.tab
    have hrow := h'.row i hi
    have hrow2 := h'.row r hr
    rw [rwAt_same] at hrow
    rw [rwAt_ne _ _ (Ne.symm hir)] at hrow2
    have hget := refs_get (ids := ids) (C := C) hi
    have hget2 := refs_get (ids := ids) (C := C) hr
    have hix := rw_ix (mx' k (fun k => f i k - y * f r k) (f i)) hk
    rw [mx_at] at hix
    have hix2 := rw_ix (f r) hk
    have hlen := rw_len C (mx' k (fun k => f i k - y * f r k) (f i))
    have hlen2 := rw_len C (f r)
    have ml := rmul_ev (nv := nv) hz (can y) (can (f r k)) (can_ok hy) (can_ok (hd k hk)) hb0 hd0 (by omega)
    rw [can_v, can_v] at ml
    have sb := rsub_ev (nv := nv) hz (can (f i k)) (can (y * f r k)) (can_ok (hb k hk)) (can_ok (hy.mul (hd k hk))) hb0 (by omega) (by omega)
    rw [can_v, can_v] at sb
    have hp := h'.put hi (mx' (k + 1) (fun k => f i k - y * f r k) (f i))
    rw [rwAt_rwAt, ← mx_set] at hp
    refine .inl ⟨_, _, ?_, _, hp, hl'.setRow hi _, rfl, rfl⟩
    generalize mx' k (fun k => f i k - y * f r k) (f i) = g at *
    generalize rw' C (f r) = g2 at *
    generalize can (f i k - y * f r k) = q2 at *
    generalize can (f i k) = q1 at *
    generalize can (y * f r k) = q4 at *
    generalize can (f r k) = q5 at *
    generalize can y = q3 at *
    simp (disch := omega) [-vIA_o, dendron_solve_reducer_clear.b4, ht, hrow, hrow2, hget, hget2, hix, hix2, hk, hr, hi, ml, sb]
  · rintro e μ ⟨H', h', hl', rfl, rfl⟩
    exact ⟨.exit 4, _, _, by simp [dendron_solve_reducer_clear.b4] <;> first | rfl | exact ⟨rfl, rfl⟩, by simp, H', rfl, rfl, rfl, h'.congr (fun j k hj hk => by
      by_cases e : j = i
      · rw [e, rwAt_same, rwAt_same, mx_all _ _ hk]
      · rw [rwAt_ne _ _ e, rwAt_ne _ _ e]), hl'⟩
/-- A table whose first rows have been cleared. -/
def clI (f : Tb) (r c : Nat) (i : Nat) : Tb := fun j => if j = r then (fun k => f r k * (f r c)⁻¹) else if j < i then (fun k => f j k - f j c * (f r k * (f r c)⁻¹)) else f j
theorem clear_b2 (hz : TzOk nv) {n T : Nat} {ids : Nat → Nat} {R C : Nat} {f : Tb} {b : Nat} {r c : Nat} (hr : r < R) (hc : c < C) (hb : ∀ i k, i < R → k < C → Bq b (f i k)) (hy : Bq b (f r c)⁻¹) (hb0 : 1 ≤ b) (hb1 : 4 * b + 1 ≤ 1073741824) (hC : C ≤ 1099511627776) (hR : R ≤ 1099511627776) (cs : List D)
    {H : Mem} (h : HT H n T ids R C (rwAt f r (fun k => f r k * (f r c)⁻¹))) {L : Nat} {l : List Nat} (hl : HL H n T ids R L l) :
    ∃ z e μ, EX ip nv (.code (.loop [] [] dendron_solve_reducer_clear.b2) [(0, .ptr 0 0), (1, .d (.int .i64 (r : Int))), (2, .d (.int .i64 (c : Int))), (81, .d (.int .i64 (R : Int))), (82, .d (.int .i64 0))] ((0, ⟨0, true, .ref (1099511627776 + T) 1 0 R :: cs⟩) :: H)) = some (.st z e μ) ∧ z ≠ .normal ∧
      ∃ H', z = .exit 2 ∧ e = [(0, .ptr 0 0), (1, .d (.int .i64 (r : Int))), (2, .d (.int .i64 (c : Int))), (81, .d (.int .i64 (R : Int))), (82, .d (.int .i64 (R : Int))), (83, .d (.bool false))] ∧ μ = ((0, ⟨0, true, .ref (1099511627776 + T) 1 0 R :: cs⟩) :: H') ∧
        HT H' n T ids R C (clearF f r c) ∧ HL H' n T ids R L l := by
  refine loop_n R (fun i e μ => ∃ H', HT H' n T ids R C (clI f r c i) ∧ HL H' n T ids R L l ∧ e = [(0, .ptr 0 0), (1, .d (.int .i64 (r : Int))), (2, .d (.int .i64 (c : Int))), (81, .d (.int .i64 (R : Int))), (82, .d (.int .i64 (i : Int)))] ∧ μ = ((0, ⟨0, true, .ref (1099511627776 + T) 1 0 R :: cs⟩) :: H')) ?_ ?_ ⟨H, h.congr (fun j k hj hk => ?_), hl, rfl, rfl⟩
  · rintro i e μ hi ⟨H', h', hl', rfl, rfl⟩
    have ht := h'.tab
    have hrow := h'.row i hi
    have hget := refs_get (ids := ids) (C := C) hi
    have hlen := rw_len C (clI f r c i i)
    by_cases hir : i = r
    · subst hir
      refine .inl ⟨_, _, ?_, H', h'.congr (fun j k hj hk => ?_), hl', rfl, rfl⟩
      · simp (disch := omega) [-vIA_o, dendron_solve_reducer_clear.b2, hi, h'.hp.adel]
      · unfold clI
        by_cases e : j = i
        · rw [if_pos e, if_pos e]
        · rw [if_neg e, if_neg e]
          by_cases e2 : j < i
          · rw [if_pos e2, if_pos (by omega)]
          · rw [if_neg e2, if_neg (by omega)]
    · have hrw : clI f r c i i = f i := by unfold clI; rw [if_neg hir, if_neg (Nat.lt_irrefl i)]
      have hix := rw_ix (f i) hc
      rw [hrw] at hrow hlen
      have hne : ¬ ((i : Int) = (r : Int)) := by omega
      have sg := rsign_ev (nv := nv) hz (can (f i c)) (can_ok (hb i c hi hc)) hb0 (by omega)
      rw [can_v] at sg
      by_cases h0 : f i c = 0
      · refine .inl ⟨_, _, ?_, H', h'.congr (fun j k hj hk => ?_), hl', rfl, rfl⟩
        · have hs : (f i c).num.sign = 0 := by rw [sign_zero]; exact h0
          rw [hs] at sg
          generalize can (f i c) = q at *
          simp (disch := omega) [-vIA_o, dendron_solve_reducer_clear.b2, hi, hne, ht, hrow, hget, hix, sg, h'.hp.adel]
        · unfold clI
          by_cases e : j = r
          · rw [if_pos e, if_pos e]
          · rw [if_neg e, if_neg e]
            by_cases e2 : j < i
            · rw [if_pos e2, if_pos (by omega)]
            · rw [if_neg e2]
              by_cases e3 : j = i
              · rw [e3, if_pos (by omega), h0]; grind
              · rw [if_neg (by omega)]
      · have hs : (f i c).num.sign ≠ 0 := by rw [ne_eq, sign_zero]; exact h0
        have hrr : clI f r c i r = fun k => f r k * (f r c)⁻¹ := by unfold clI; rw [if_pos rfl]
        obtain ⟨_, _, _, l4, -, H2, rfl, rfl, rfl, h2, hl2⟩ := clear_b4 hz (f := clI f r c i) (b := b) (d := 2 * b) (c := c) hr hi hir (fun k hk => by rw [hrw]; exact hb i k hi hk) (fun k hk => by rw [hrr]; exact ((hb r k hr hk).mul hy).mono (by omega)) hb0 (by omega) (by omega) hC hR (f i c) (hb i c hi hc) cs h' hl'
        refine .inl ⟨_, _, ?_, H2, h2.congr (fun j k hj hk => ?_), hl2, rfl, rfl⟩
        · generalize (f i c).num.sign = sg' at *
          generalize can (f i c) = q at *
          simp (disch := omega) [-vIA_o, dendron_solve_reducer_clear.b2, hi, hne, ht, hrow, hget, hix, sg, hs, l4, h'.hp.aget, h'.hp.aput, h2.hp.adel]
        · by_cases e : j = i
          · rw [e, rwAt_same, hrw, hrr]
            unfold clI
            rw [if_neg hir, if_pos (by omega)]
          · rw [rwAt_ne _ _ e]
            unfold clI
            by_cases e1 : j = r
            · rw [if_pos e1, if_pos e1]
            · rw [if_neg e1, if_neg e1]
              by_cases e2 : j < i
              · rw [if_pos e2, if_pos (by omega)]
              · rw [if_neg e2, if_neg (by omega)]
  · rintro e μ ⟨H', h', hl', rfl, rfl⟩
    exact ⟨.exit 2, _, _, by simp [dendron_solve_reducer_clear.b2] <;> first | rfl | exact ⟨rfl, rfl⟩, by simp, H', rfl, rfl, rfl, h'.congr (fun j k hj hk => by
      unfold clI clearF
      by_cases e : j = r
      · rw [if_pos e, if_pos e]
      · rw [if_neg e, if_neg e, if_pos hj]), hl'⟩
  · unfold clI rwAt
    by_cases e : j = r
    · rw [if_pos e, if_pos e]
    · rw [if_neg e, if_neg e, if_neg (by omega)]
/-- A column gets its leader. -/
theorem clear_ev (hz : TzOk nv) {n T : Nat} {ids : Nat → Nat} {R C : Nat} {f : Tb} {b : Nat} {r c : Nat} (hr : r < R) (hc : c < C) (hb : ∀ i k, i < R → k < C → Bq b (f i k)) (hb0 : 1 ≤ b) (hb1 : 4 * b + 1 ≤ 1073741824) (hC : C ≤ 1099511627776) (hR : R ≤ 1099511627776) (h0 : f r c ≠ 0) (x1 x2 x3 : D) (dq : Rat) (hdq : Bq b dq)
    {H : Mem} (h : HT H n T ids R C f) {L : Nat} {l : List Nat} (hl : HL H n T ids R L l) :
    ∃ H', EX ip nv (.call F.dendron_solve_reducer_clear [.ptr 0 0, .d (.int .i64 (r : Int)), .d (.int .i64 (c : Int))] ((0, ⟨0, true, .ref (1099511627776 + T) 1 0 R :: x1 :: x2 :: x3 :: (can dq).c⟩) :: H)) = some (.ret (.tp []) ((0, ⟨0, true, .ref (1099511627776 + T) 1 0 R :: x1 :: x2 :: x3 :: (can (dq * f r c)).c⟩) :: H')) ∧
      HT H' n T ids R C (clearF f r c) ∧ HL H' n T ids R L l := by
  rw [S_call dendron_solve_reducer_clear.ip rfl]
  have hy : Bq b (f r c)⁻¹ := (hb r c hr hc).inv h0
  have ht := h.tab
  have hrow := h.row r hr
  have hget := refs_get (ids := ids) (C := C) hr
  have hlen := rw_len C (f r)
  have hix := rw_ix (f r) hc
  have iv := rinv_ev (nv := nv) hz (can (f r c)) (can_ok (hb r c hr hc)) hb0 (by omega)
  rw [can_v, if_neg h0] at iv
  have ml := rmul_ev (nv := nv) hz (can dq) (can (f r c)) (can_ok hdq) (can_ok (hb r c hr hc)) hb0 hb0 (by omega)
  rw [can_v, can_v] at ml
  obtain ⟨_, _, _, l0, -, H1, rfl, rfl, rfl, h1, hl1⟩ := clear_b0 hz hb hb0 (by omega) hC hr hc (f r c)⁻¹ hy (x1 :: x2 :: x3 :: (can (dq * f r c)).c) h hl
  obtain ⟨_, _, _, l2, -, H2, rfl, rfl, rfl, h2, hl2⟩ := clear_b2 hz hr hc hb hy hb0 hb1 hC hR (x1 :: x2 :: x3 :: (can (dq * f r c)).c) h1 hl1
  have hrow1 := h1.row r hr
  have hlen1 := rw_len C (rwAt f r (fun k => f r k * (f r c)⁻¹) r)
  have ht1 := h1.tab
  refine ⟨H2, ?_, h2, hl2⟩
  have hpad : ∀ x y : RQ, setAt (D.ref (1099511627776 + T) 1 0 R :: x1 :: x2 :: x3 :: x.c) 4 y.c = D.ref (1099511627776 + T) 1 0 R :: x1 :: x2 :: x3 :: y.c := fun _ _ => rfl
  have hpt : ∀ x : RQ, ((D.ref (1099511627776 + T) 1 0 R :: x1 :: x2 :: x3 :: x.c).drop 4).take 3 = x.c := fun _ => rfl
  generalize can (f r c) = q1 at *
  generalize can (f r c)⁻¹ = q2 at *
  generalize can dq = q3 at *
  generalize can (dq * f r c) = q4 at *
  simp (disch := omega) [-vIA_o, -setAt, dendron_solve_reducer_clear, hr, hc, ht, hrow, hget, hix, iv, ml, l0, l2, hrow1, ht1, h.hp.aput, h1.hp.adel, h2.hp.keeps, h.hp.aget, hpad, hpt]
end
end Go.Proofs.YtgigaimaaijalaaGreatDoor
