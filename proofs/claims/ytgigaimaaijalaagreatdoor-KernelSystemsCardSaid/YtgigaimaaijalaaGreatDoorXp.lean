/- Inverses, as the program makes them. -/
import Derived.Test.YtgigaimaaijalaaGreatDoorXg
import Derived.Test.YtgigaimaaijalaaGreatDoorXe
set_option linter.unusedSimpArgs false
set_option linter.unusedVariables false
namespace Go.Proofs.YtgigaimaaijalaaGreatDoor
open Go Go.Proofs.R
set_option maxRecDepth 10000
theorem tbl_rect (R C : Nat) (f : Tb) : rectB (tbl R C f) = true := by
  apply is_rect
  intro j hj
  rw [tbl_len] at hj
  rw [tbl_ix hj, tbl_ix (by omega), rw_len, rw_len]
theorem tbl_cols {R : Nat} (C : Nat) (f : Tb) (h : 0 < R) : colsN (tbl R C f) = C := by
  unfold colsN; rw [tbl_ix h, rw_len]
theorem tbl_sq (n : Nat) (f : Tb) : colsN (tbl n n f) = n := by
  by_cases h : 0 < n
  · exact tbl_cols n f h
  · obtain rfl : n = 0 := by omega
    rfl
theorem tf_tbl {R C i k : Nat} (f : Tb) (hi : i < R) (hk : k < C) : tf (tbl R C f) i k = f i k := by
  unfold tf; rw [tbl_ix hi, rw_ix _ hk, can_v]
/-- A table's cells: the numbers of its rows' blocks, each from a place on. -/
def refsO (ids : Nat → Nat) (R C : Nat) : List D := (List.range R).map fun i => .ref (1099511627776 + ids i) 3 (C * 3) C
@[simp] theorem refsO_len (ids : Nat → Nat) (R C : Nat) : (refsO ids R C).length = R := by simp [refsO]
theorem refsO_succ (ids : Nat → Nat) (R C : Nat) : refsO ids R C ++ [.ref (1099511627776 + ids R) 3 (C * 3) C] = refsO ids (R + 1) C := by simp [refsO, List.range_succ]
theorem rw_drop (C n : Nat) (g : Nat → Rat) : (rw' (C + n) g).drop C = rw' n fun k => g (C + k) := by
  apply List.ext_getElem
  · simp
  · intro i h1 h2
    simp [rw']
theorem el_split {l : List RQ} {C n : Nat} (h : l.length = C + n) : ((el l).drop (C * 3)).take (n * 3) = el (l.drop C) := by
  rw [el_drop, el_take, List.take_of_length_le (by simp; omega)]
theorem asDD_tabO {μ : Mem} {b : Nat} {ids : Nat → Nat} {R C k0 : Nat} {f : Tb} (ht : aget μ b = some ⟨0, false, refsO ids R C⟩) (hr : ∀ i, i < R → aget μ (1099511627776 + ids i) = some ⟨0, false, el (rw' (C + C) (f i))⟩) :
    asDD μ k0 (.own b 1 0 R) = some (.sl 1 (el (tbl R C fun i k => f i (C + k)))) := by
  simp only [asDD, ht]
  rw [if_pos (by simp)]
  congr 2
  apply List.ext_getElem
  · simp
  · intro i h1 h2
    have hi : i < R := by simpa using h2
    have e1 : (el (tbl R C fun i k => f i (C + k)))[i]? = some (.sl 3 (el (rw' C fun k => f i (C + k)))) := by
      have := view_el (l := tbl R C fun i k => f i (C + k)) (i := i) (by simpa using hi)
      rw [view_f, Nat.mul_one, tbl_ix hi] at this
      exact this
    have e2 : (el (tbl R C fun i k => f i (C + k)))[i] = .sl 3 (el (rw' C fun k => f i (C + k))) := by
      rw [List.getElem?_eq_getElem h2] at e1
      exact Option.some.inj e1
    rw [e2]
    simp only [List.getElem_map, List.drop_zero, refsO]
    simp only [Nat.mul_one, List.getElem_take, List.getElem_map, List.getElem_range, un, hr i hi]
    rw [if_pos (by rw [el_len, rw_len]; omega), el_split (rw_len _ _), rw_drop]
/-- What is told of an inverse. -/
abbrev invS (a : List (List RQ)) : Rs := runR a.length (besF a.length (tf a) unitF) a.length
def invT (a : List (List RQ)) : List (List RQ) := tbl a.length a.length fun i k => (invS a).f i (a.length + k)
theorem tbl_mem_ok {R C k : Nat} {f : Tb} (h : ∀ i j, i < R → j < C → Bq k (f i j)) : ∀ r ∈ tbl R C f, ∀ x ∈ r, x.ok k := by
  intro r hr x hx
  obtain ⟨i, hi, rfl⟩ := List.getElem_of_mem hr
  rw [tbl_len] at hi
  rw [← ix_get (by simpa using hi), tbl_ix hi] at hx
  obtain ⟨j, hj, rfl⟩ := List.getElem_of_mem hx
  rw [rw_len] at hj
  rw [← ix_get (by simpa using hj), rw_ix _ hj]
  exact can_ok (h i j hi hj)
theorem unit_b {i k : Nat} : Bq 1 (unitF i k) := by
  unfold unitF; split
  · exact ⟨by simp [pw], by simp [pw]⟩
  · exact Bq.zero
section
variable {nv : R.Nv}
theorem inv_b0 {n T : Nat} {ids : Nat → Nat} {R : Nat} {f : Tb} (hR : R ≤ 1000000) {H : Mem} (h : HT H n T ids R (R + R) f) :
    ∃ z e μ, EX ip nv (.code (.loop [] [] solve_Inverse.b0) [(5, .d (.int .i64 (R : Int))), (8, .own 8 1 0 0), (43, .own (1099511627776 + T) 1 0 R), (44, .d (.int .i64 (R : Int))), (45, .d (.int .i64 0))] ((8, ⟨0, false, []⟩) :: H)) = some (.st z e μ) ∧ z ≠ .normal ∧
      z = .exit 0 ∧ e = [(5, .d (.int .i64 (R : Int))), (8, .own 8 1 0 R), (43, .own (1099511627776 + T) 1 0 R), (44, .d (.int .i64 (R : Int))), (45, .d (.int .i64 (R : Int))), (46, .d (.bool false))] ∧ μ = ((8, ⟨0, false, refsO ids R R⟩) :: H) := by
  refine loop_n R (fun i e μ => e = [(5, .d (.int .i64 (R : Int))), (8, .own 8 1 0 i), (43, .own (1099511627776 + T) 1 0 R), (44, .d (.int .i64 (R : Int))), (45, .d (.int .i64 (i : Int)))] ∧ μ = ((8, ⟨0, false, refsO ids i R⟩) :: H)) ?_ ?_ ⟨rfl, rfl⟩
  · rintro i e μ hi ⟨rfl, rfl⟩
    have ht := h.tab
    have hget := refs_get (ids := ids) (C := R + R) hi
    have hlen := refsO_len ids i R
    have hs := refsO_succ ids i R
    have htk : List.take i (refsO ids i R) = refsO ids i R := List.take_of_length_le (by omega)
    have hby : (i + 1) * 24 ≤ 70368744177664 := by omega
    have hsub : R + R - R = R := by omega
    have hrow := h.row i hi
    have hso : vS.vSo 3 (1099511627776 + ids i) 3 0 (R + R) (some (R : Int)) (some ((R : Int) + (R : Int))) = some (.own (1099511627776 + ids i) 3 (R * 3) R) := by
      rw [vSo_s (by omega) (by omega) (by omega)]
      have e1 : ((R : Int)).toNat = R := by omega
      have e2 : ((R : Int) + (R : Int)).toNat = R + R := by omega
      rw [e1, e2, hsub, Nat.zero_add]
    refine .inl ⟨_, _, ?_, rfl, rfl⟩
    rw [← hs]
    have hrl := refs_len ids R (R + R)
    generalize refs ids R (R + R) = rf at *
    generalize refsO ids i R = ro at *
    obtain ⟨hgi, hget2⟩ := List.getElem?_eq_some_iff.1 hget
    simp (disch := omega) [-vIA_o, solve_Inverse.b0, hi, ht, hget, hget2, hlen, htk, hby, hsub, hrow, hrl, hso, h.hp.aget]
  · rintro e μ ⟨rfl, rfl⟩
    exact ⟨.exit 0, _, _, by simp [solve_Inverse.b0] <;> first | rfl | exact ⟨rfl, rfl⟩, by simp, rfl, rfl, rfl⟩
/-- The heap holds a table and the unit beside it. -/
theorem wide_unit {a : List (List RQ)} (hr : rectB a = true) (hc : colsN a = a.length) {H : Mem} {n : Nat} {ids : Nat → Nat} (h : HG H n a.length ids (wideT a (tbl a.length a.length unitF))) : HT H n a.length ids a.length (a.length + a.length) (besF a.length (tf a) unitF) := by
  rw [wideT_tbl hr (m := a.length) (fun i hi => ⟨by simp; omega, by rw [tbl_ix hi, rw_len]⟩), hc] at h
  refine h.ht.congr fun i k hi hk => ?_
  unfold besF
  split
  · rfl
  · show (ix (ix (tbl a.length a.length unitF) i) (k - a.length)).v = _
    rw [tbl_ix hi, rw_ix _ (by omega), can_v]
theorem inverse_ev (hz : TzOk nv) (a : List (List RQ)) {k : Nat} (ha : ∀ r ∈ a, ∀ x ∈ r, x.ok k) (hk0 : 1 ≤ k) (hk1 : 5 * (5 ^ a.length * k) ≤ 1073741824) (hl : a.length ≤ 1000) (hr : rectB a = true) (hc : colsN a = a.length) :
    EX ip nv (.call F.solve_Inverse [.d (.sl 1 (el a))] []) = some (.ret (.tp [.d (.sl 1 (el (if (invS a).lead.length < a.length then [] else invT a))), .d (.int .i64 (if (invS a).lead.length < a.length then 2 else 0))]) []) := by
  rw [S_call solve_Inverse.ip rfl]
  have sz := size_ev (nv := nv) a (by omega)
  unfold sizeV at sz
  rw [if_pos hr, hc] at sz
  have un := unit_ev (nv := nv) a.length hl
  have hp5 : 1 ≤ 5 ^ a.length := Nat.pow_pos (by decide)
  have hbb : k ≤ 5 ^ a.length * k := Nat.le_mul_of_pos_left k hp5
  have hul := tbl_len a.length a.length unitF
  obtain ⟨H, n, ids, wd, hH⟩ := wide_ev (nv := nv) hz a (tbl a.length a.length unitF) ha (tbl_mem_ok fun i j _ _ => unit_b.mono hk0) (by omega) (by omega) (by omega) (by omega) (fun r hr' => by
    obtain ⟨i, hi, rfl⟩ := List.getElem_of_mem hr'
    rw [← ix_get hi, rect_row hr hi]; omega) (fun r hr' => by
    obtain ⟨i, hi, rfl⟩ := List.getElem_of_mem hr'
    rw [← ix_get hi, tbl_ix (by omega), rw_len]; omega)
  have hT := wide_unit hr hc hH
  have hsb : ∀ i j, i < a.length → j < a.length + a.length → Bq k (besF a.length (tf a) unitF i j) := fun i j hi hj => by
    unfold besF
    split
    · exact tf_b ha hk0 hr i j hi (by omega)
    · exact unit_b.mono hk0
  obtain ⟨H', n', ids', L, rn, h1, h2⟩ := run_ev (nv := nv) hz (Nat.le_add_right a.length a.length) hsb hk0 hk1 (by omega) (by omega) (.bool false) (.raw (.slice none 0 0)) (.raw (.slice none 0 0)) hT
  have ht := hT.tab
  have ht' := h1.tab
  have hpn : hpart [] = [] := rfl
  have hnn : npart [] = [] := rfl
  have hcr : ∀ c k o n, (D.ref c k o n).cells = [.ref c k o n] := fun _ _ _ _ => rfl
  have hinv := run_inv a.length (besF a.length (tf a) unitF) a.length
  have hlen := hinv.len
  unfold redC at rn
  unfold invT invS
  generalize runR a.length (besF a.length (tf a) unitF) a.length = s at *
  obtain ⟨_, _, _, l0, -, rfl, rfl, rfl⟩ := inv_b0 (nv := nv) (by omega) h1
  have dd := asDD_tabO (μ := ((8, (⟨0, false, refsO ids' a.length a.length⟩ : Blk)) :: H')) (b := 8) (k0 := 1) (R := a.length) (C := a.length) (f := s.f) rfl (fun i hi => by rw [aget_lit (by decide)]; exact h1.row i hi)
  generalize (tbl a.length a.length fun i k => s.f i (a.length + k)) = I at *
  generalize (tbl a.length a.length unitF) = U at *
  by_cases hln : s.lead = []
  · rw [hln, ldD_nil] at rn
    rw [hln]
    by_cases h0 : 0 < a.length
    · have hq : (0 : Int) < (a.length : Int) := by omega
      rw [if_pos (by simpa using h0), if_pos (by simpa using h0)]
      simp (disch := omega) [-vIA_o, solve_Inverse, sz, un, wd, hul, hpn, hnn, hT.hp.hpart, hT.hp.npart, hT.hp.aget, hT.hp.aput, hT.hp.adel, ht, hcr, rn, hpart_cons, npart_cons, ht', h1.hp.hpart, h1.hp.npart, h1.hp.aget, h1.hp.adel, h1.hp.aput, hq, h0]
      done
    · have hq : ¬ (0 : Int) < (a.length : Int) := by omega
      rw [if_neg (by simpa using h0), if_neg (by simpa using h0)]
      simp (disch := omega) [-vIA_o, solve_Inverse, sz, un, wd, hul, hpn, hnn, hT.hp.hpart, hT.hp.npart, hT.hp.aget, hT.hp.aput, hT.hp.adel, ht, hcr, rn, hpart_cons, npart_cons, ht', h1.hp.hpart, h1.hp.npart, h1.hp.aget, h1.hp.adel, h1.hp.aput, hq, h0, l0, dd]
      done
  · rw [ldD_cons hln] at rn
    have lr := h2.row hln
    by_cases h0 : s.lead.length < a.length
    · have hq : (s.lead.length : Int) < (a.length : Int) := by omega
      rw [if_pos h0, if_pos h0]
      simp (disch := omega) [-vIA_o, solve_Inverse, sz, un, wd, hul, hpn, hnn, hT.hp.hpart, hT.hp.npart, hT.hp.aget, hT.hp.aput, hT.hp.adel, ht, hcr, rn, hpart_cons, npart_cons, ht', h1.hp.hpart, h1.hp.npart, h1.hp.aget, h1.hp.adel, h1.hp.aput, hq, h0, lr]
      done
    · have hq : ¬ (s.lead.length : Int) < (a.length : Int) := by omega
      rw [if_neg h0, if_neg h0]
      simp (disch := omega) [-vIA_o, solve_Inverse, sz, un, wd, hul, hpn, hnn, hT.hp.hpart, hT.hp.npart, hT.hp.aget, hT.hp.aput, hT.hp.adel, ht, hcr, rn, hpart_cons, npart_cons, ht', h1.hp.hpart, h1.hp.npart, h1.hp.aget, h1.hp.adel, h1.hp.aput, hq, h0, lr, l0, dd]
      done
end
end Go.Proofs.YtgigaimaaijalaaGreatDoor
