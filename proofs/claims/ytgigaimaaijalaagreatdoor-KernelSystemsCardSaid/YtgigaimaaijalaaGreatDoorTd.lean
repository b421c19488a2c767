/- A table beside another one; a table's columns as rows. -/
import Derived.Test.YtgigaimaaijalaaGreatDoorTc
set_option linter.unusedSimpArgs false
set_option linter.unusedVariables false
namespace Go.Proofs.YtgigaimaaijalaaGreatDoor
open Go Go.Proofs.R
set_option maxRecDepth 10000
section
variable {nv : R.Nv}
theorem ix_mem {α : Type} [Inhabited α] {l : List α} {i : Nat} (h : i < l.length) : ix l i ∈ l := by rw [ix_get h]; exact List.getElem_mem h
theorem wide_ev (hz : TzOk nv) (a b : List (List RQ)) {k : Nat} (ha : ∀ r ∈ a, ∀ x ∈ r, x.ok k) (hb : ∀ r ∈ b, ∀ x ∈ r, x.ok k) (hk : k ≤ 1073741824) (hal : a.length ≤ 100000) (hbl : a.length ≤ b.length) (hbl2 : b.length ≤ 100000) (har : ∀ r ∈ a, r.length ≤ 100000) (hbr : ∀ r ∈ b, r.length ≤ 100000) :
    ∃ H n ids, EX ip nv (.call F.solve_wide [.d (.sl 1 (el a)), .d (.sl 1 (el b))] []) = some (.ret (.own (1099511627776 + a.length) 1 0 a.length) H) ∧ HG H n a.length ids (wideT a b) := by
  rw [S_call solve_wide.ip rfl]
  obtain ⟨H0, cp, h0⟩ := copy_ev (nv := nv) hz a ha hk (by omega) (fun r hr => by have := har r hr; omega)
  obtain ⟨_, _, H, hlp, -, n, ids, rfl, rfl, hH⟩ : ∃ z e μ, EX ip nv (.code (.loop [] [] solve_wide.b0) [(1, .d (.sl 1 (el b))), (5, .own (1099511627776 + a.length) 1 0 a.length), (10, .d (.int .i64 (a.length : Int))), (11, .d (.int .i64 0))] H0) = some (.st z e μ) ∧ z ≠ .normal ∧
      ∃ n ids, z = .exit 0 ∧ e = [(1, .d (.sl 1 (el b))), (5, .own (1099511627776 + a.length) 1 0 a.length), (10, .d (.int .i64 (a.length : Int))), (11, .d (.int .i64 (a.length : Int))), (12, .d (.bool false))] ∧ HG μ n a.length ids (wideT a b) := by
    refine loop_n a.length (fun i e μ => ∃ n ids, HG μ n a.length ids (wideI a b i) ∧ e = [(1, .d (.sl 1 (el b))), (5, .own (1099511627776 + a.length) 1 0 a.length), (10, .d (.int .i64 (a.length : Int))), (11, .d (.int .i64 (i : Int)))]) ?_ ?_ ⟨_, _, by rw [wideI_zero]; exact h0, rfl⟩
    · rintro i e H hi ⟨n, ids, hH, rfl⟩
      have hll := wideI_len a b i
      have hib : i < b.length := by omega
      have hiw : i < (wideI a b i).length := by omega
      have ht := hH.tab
      have hrow := hH.row i hiw
      have hget := refsG_get (ids := ids) hiw
      rw [wideI_ix hi] at hrow hget
      have hci : (ix (clT a) i).length ≤ 100000 := by rw [clT_ix hi, List.length_map]; exact har _ (ix_mem hi)
      have hbi : (ix b i).length ≤ 100000 := hbr _ (ix_mem hib)
      obtain ⟨H1, c1, h1⟩ := copy_ev (nv := nv) hz [ix b i] (fun r hr => by rw [List.mem_singleton.1 hr]; exact hb _ (ix_mem hib)) hk (by simp) (fun r hr => by rw [List.mem_singleton.1 hr]; omega)
      have dd := h1.deep (k0 := 1)
      have e1 : clT [ix b i] = [ix (clT b) i] := by rw [clT_ix hib]; rfl
      rw [e1] at dd
      have hl1 : ([ix (clT b) i] : List (List RQ)).length = 1 := rfl
      have hl2 : ([ix b i] : List (List RQ)).length = 1 := rfl
      rw [hl1, hl2] at dd
      rw [hl2] at c1
      have hn1 : 1099511627776 + 1 = 1099511627777 := rfl
      rw [hn1] at dd c1
      have sl : List.take 1 (List.drop i b) = [ix b i] := by
        rw [List.drop_eq_getElem_cons hib, List.take_succ_cons, List.take_zero, ix_get hib]
      obtain ⟨g1, g2, g3⟩ := hH.grow_at hiw ⟨0, false, el (ix (clT a) i ++ ix (clT b) i)⟩
      have hg := hH.grow hiw (ix (clT a) i ++ ix (clT b) i)
      rw [wideI_set hi] at hg
      have hset := refsG_set (ids := ids) (n := n) (r := ix (clT a) i ++ ix (clT b) i) hiw
      rw [wideI_set hi, List.length_append] at hset
      have hcnt := hH.cnt
      have ix0 : ix ([ix (clT b) i] : List (List RQ)) 0 = ix (clT b) i := rfl
      refine .inl ⟨_, _, ?_, _, _, hg, rfl⟩
      have hli : (ix (clT b) i).length ≤ 100000 := by rw [clT_ix hib, List.length_map]; exact hbi
      have hri := refsG_len ids (wideI a b i)
      rw [hll] at hri
      generalize refsG (fun j => if j = i then n else ids j) (wideI a b (i + 1)) = g' at *
      generalize refsG ids (wideI a b i) = g at *
      obtain ⟨hgi, hget2⟩ := List.getElem?_eq_some_iff.1 hget
      generalize ix (clT a) i = ra at *
      generalize ix (clT b) i = rb at *
      have hcr : ∀ c k o n, (D.ref c k o n).cells = [.ref c k o n] := fun _ _ _ _ => rfl
      have hla : (el [rb]).length = 1 := by simp
      have hi1 : i + 1 ≤ a.length := hi
      have hby : (ra.length * 3 + rb.length * 3) * 56 ≤ 211106232532992 := by omega
      simp (disch := omega) [-vIA_o, solve_wide.b0, hi, hib, ht, hrow, hget, hget2, c1, dd, sl, ix0, hcnt, g1, g2, g3, hH.hp.aget, hset, hcr, hri, hby, hi1]
    · rintro e H ⟨n, ids, hH, rfl⟩
      rw [wideI_all] at hH
      exact ⟨.exit 0, _, _, by simp [solve_wide.b0] <;> first | rfl | exact ⟨rfl, rfl⟩, by simp, n, ids, rfl, rfl, hH⟩
  refine ⟨H, n, ids, ?_, hH⟩
  have ht0 := h0.tab
  have hpn : hpart [] = [] := rfl
  have hnn : npart [] = [] := rfl
  simp (disch := omega) [solve_wide, cp, hlp, h0.hp.hpart, hpart_cons, npart_cons, hH.hp.keeps, ht0, hpn, hnn]
/-- A column. -/
theorem flip_b2 (hz : TzOk nv) (a : List (List RQ)) (i k0 C : Nat) (B7 : Blk) {b : Nat} (hb : ∀ r ∈ a, ∀ x ∈ r, x.ok b) (hb1 : b ≤ 1073741824) (hl : a.length ≤ 1000000) (hi : ∀ j, j < a.length → i < (ix a j).length) {H : Mem} (hp : Hp H) :
    ∃ z e μ, EX ip nv (.code (.loop [] [] solve_Flip.b2) [(0, .d (.sl 1 (el a))), (7, .own 7 1 0 k0), (8, .d (.int .i64 (i : Int))), (9, .own 9 3 0 0), (19, .d (.int .i64 (C : Int))), (20, .d (.int .i64 (i : Int))), (24, .d (.int .i64 (a.length : Int))), (25, .d (.int .i64 0))] ((7, B7) :: (9, ⟨0, false, []⟩) :: H)) = some (.st z e μ) ∧ z ≠ .normal ∧
      z = .exit 2 ∧ e = [(0, .d (.sl 1 (el a))), (7, .own 7 1 0 k0), (8, .d (.int .i64 (i : Int))), (9, .own 9 3 0 a.length), (19, .d (.int .i64 (C : Int))), (20, .d (.int .i64 (i : Int))), (24, .d (.int .i64 (a.length : Int))), (25, .d (.int .i64 (a.length : Int))), (26, .d (.bool false))] ∧ μ = ((7, B7) :: (9, ⟨0, false, el (rw' a.length fun j => tf a j i)⟩) :: H) := by
  refine loop_n a.length (fun j e μ => e = [(0, .d (.sl 1 (el a))), (7, .own 7 1 0 k0), (8, .d (.int .i64 (i : Int))), (9, .own 9 3 0 j), (19, .d (.int .i64 (C : Int))), (20, .d (.int .i64 (i : Int))), (24, .d (.int .i64 (a.length : Int))), (25, .d (.int .i64 (j : Int)))] ∧ μ = ((7, B7) :: (9, ⟨0, false, el (rw' j fun j => tf a j i)⟩) :: H)) ?_ ?_ ⟨rfl, rfl⟩
  · rintro j e μ hj ⟨rfl, rfl⟩
    have hij := hi j hj
    have cl := rclean_ev (nv := nv) hz (ix (ix a j) i) (hb _ (ix_mem hj) _ (ix_mem hij)) hb1
    have hlen := rw_len j fun j => tf a j i
    have hsu : rw' (j + 1) (fun j => tf a j i) = rw' j (fun j => tf a j i) ++ [can (ix (ix a j) i).v] := by
      simp [rw', List.range_succ, tf]
    have ht2 : List.take j (rw' j fun j => tf a j i) = rw' j fun j => tf a j i := List.take_of_length_le (by omega)
    refine .inl ⟨_, _, ?_, rfl, rfl⟩
    rw [hsu]
    generalize (rw' j fun j => tf a j i) = g at *
    generalize can (ix (ix a j) i).v = q at *
    simp (disch := omega) [-vIA_o, solve_Flip.b2, hj, hij, cl, hlen, ht2, hp.aget, hp.aput, hp.adel]
  · rintro e μ ⟨rfl, rfl⟩
    exact ⟨.exit 2, _, _, by simp [solve_Flip.b2] <;> first | rfl | exact ⟨rfl, rfl⟩, by simp, rfl, rfl, rfl⟩
theorem flip_ev (hz : TzOk nv) (a : List (List RQ)) {b : Nat} (hb : ∀ r ∈ a, ∀ x ∈ r, x.ok b) (hb1 : b ≤ 1073741824) (hl : a.length ≤ 1000000) (hr : rectB a = true) (hc : colsN a ≤ 1000000) :
    ∃ H, EX ip nv (.call F.solve_Flip [.d (.sl 1 (el a))] []) = some (.ret (.tp [.own (1099511627776 + colsN a) 1 0 (colsN a), .d (.int .i64 0)]) H) ∧ HG H (colsN a + 1) (colsN a) (fun i => i) (tbl (colsN a) a.length fun k i => tf a i k) := by
  rw [S_call solve_Flip.ip rfl]
  have sz := size_ev (nv := nv) a hl
  unfold sizeV at sz
  rw [if_pos hr] at sz
  obtain ⟨_, _, _, hlp, -, H, rfl, rfl, rfl, hH⟩ : ∃ z e μ, EX ip nv (.code (.loop [] [] solve_Flip.b0) [(0, .d (.sl 1 (el a))), (7, .own 7 1 0 0), (19, .d (.int .i64 (colsN a : Int))), (20, .d (.int .i64 0))] [(7, ⟨0, false, []⟩)]) = some (.st z e μ) ∧ z ≠ .normal ∧
      ∃ H, z = .exit 0 ∧ e = [(0, .d (.sl 1 (el a))), (7, .own 7 1 0 (colsN a)), (19, .d (.int .i64 (colsN a : Int))), (20, .d (.int .i64 (colsN a : Int))), (21, .d (.bool false))] ∧ μ = (7, ⟨0, false, refsG (fun i => i) (tbl (colsN a) a.length fun k i => tf a i k)⟩) :: H ∧ HP H (tbl (colsN a) a.length fun k i => tf a i k) := by
    refine loop_n (colsN a) (fun i e μ => ∃ H, HP H (tbl i a.length fun k i => tf a i k) ∧ e = [(0, .d (.sl 1 (el a))), (7, .own 7 1 0 i), (19, .d (.int .i64 (colsN a : Int))), (20, .d (.int .i64 (i : Int)))] ∧ μ = (7, ⟨0, false, refsG (fun i => i) (tbl i a.length fun k i => tf a i k)⟩) :: H) ?_ ?_ ⟨[], HP.nil, rfl, rfl⟩
    · rintro i e μ hi ⟨H, hH, rfl, rfl⟩
      obtain ⟨_, _, _, l2, -, rfl, rfl, rfl⟩ := flip_b2 (nv := nv) hz a i i (colsN a) ⟨0, false, refsG (fun i => i) (tbl i a.length fun k i => tf a i k)⟩ hb hb1 hl (fun j hj => by rw [rect_row hr hj]; exact hi) hH.hp
      have hsu := tbl_succ i a.length fun k i => tf a i k
      have hpu := hH.push (rw' a.length fun j => tf a j i)
      have hlt : (tbl i a.length fun k i => tf a i k).length = i := tbl_len _ _ _
      have hrl := refsG_len (fun i => i) (tbl i a.length fun k i => tf a i k)
      rw [hlt] at hrl
      have hcnt := hH.cnt
      rw [hlt] at hcnt
      have hge : 1099511627776 ≤ cntOf H := by omega
      have hra := refsG_app (fun i => i) (tbl i a.length fun k i => tf a i k) (rw' a.length fun j => tf a j i)
      rw [hlt, rw_len] at hra
      have hnew : aget (hput ⟨0, false, el (rw' a.length fun j => tf a j i)⟩ H) (1099511627776 + i) = some ⟨0, false, el (rw' a.length fun j => tf a j i)⟩ := by
        have := hpu.row i (by simp)
        rw [this]
        have e := ix_last (l := tbl i a.length fun k i => tf a i k) (x := rw' a.length fun j => tf a j i)
        rw [hlt] at e
        rw [e]
      have htake : List.take i (refsG (fun i => i) (tbl i a.length fun k i => tf a i k)) = refsG (fun i => i) (tbl i a.length fun k i => tf a i k) := List.take_of_length_le (by omega)
      refine .inl ⟨_, _, ?_, _, by rw [hsu]; exact hpu, rfl, rfl⟩
      rw [hsu, hra]
      have hrwl := rw_len a.length fun j => tf a j i
      generalize (rw' a.length fun j => tf a j i) = row at *
      generalize refsG (fun i => i) (tbl i a.length fun k i => tf a i k) = g at *
      have hcr : ∀ c k o n, (D.ref c k o n).cells = [.ref c k o n] := fun _ _ _ _ => rfl
      have hby : (i + 1) * 24 ≤ 70368744177664 := by omega
      simp (disch := omega) [-vIA_o, solve_Flip.b0, hi, hby, hH.hp.aget, hH.hp.aput, hH.hp.adel, hpu.hp.adel, l2, hcnt, hnew, hrl, htake, hcr]
    · rintro e μ ⟨H, hH, rfl, rfl⟩
      exact ⟨.exit 0, _, _, by simp [solve_Flip.b0] <;> first | rfl | exact ⟨rfl, rfl⟩, by simp, H, rfl, rfl, rfl, hH⟩
  have ht := hH.tab
  have hcnt := hH.cnt
  rw [tbl_len] at ht hcnt
  have hge : 1099511627776 ≤ cntOf H := by omega
  refine ⟨_, ?_, ht⟩
  simp (disch := omega) [solve_Flip, sz, hlp, hH.hp.adel, hcnt, ht.hp.keeps]
end
end Go.Proofs.YtgigaimaaijalaaGreatDoor
