/- A table's size, its copy, and a table beside another one. -/
import Derived.Test.YtgigaimaaijalaaGreatDoorRg
import Derived.Test.YtgigaimaaijalaaGreatDoorRf
import Derived.Test.YtgigaimaaijalaaGreatDoorOb
set_option linter.unusedSimpArgs false
set_option linter.unusedVariables false
namespace Go.Proofs.YtgigaimaaijalaaGreatDoor
open Go Go.Proofs.R
set_option maxRecDepth 10000
/-- What is told of a table's size. -/
def sizeV (a : List (List RQ)) : V := if rectB a = true then .tp [.d (.int .i64 (a.length : Int)), .d (.int .i64 (colsN a : Int)), .d (.bool true)] else .tp [.d (.int .i64 0), .d (.int .i64 0), .d (.bool false)]
theorem not_rect {a : List (List RQ)} {i : Nat} (hi : i < a.length) (h : (ix a i).length ≠ (ix a 0).length) : rectB a = false := by
  unfold rectB
  rw [List.all_eq_false]
  refine ⟨a[i], List.getElem_mem hi, ?_⟩
  have : ix a i = a[i] := by simp [ix, hi]
  rw [← this]
  simpa using h
theorem is_rect {a : List (List RQ)} (h : ∀ i, i < a.length → (ix a i).length = (ix a 0).length) : rectB a = true := by
  unfold rectB
  rw [List.all_eq_true]
  intro r hr
  obtain ⟨i, hi, rfl⟩ := List.getElem_of_mem hr
  have := h i hi
  have e : ix a i = a[i] := by simp [ix, hi]
  rw [e] at this
  simpa using this
section
variable {nv : R.Nv}
theorem size_ev (a : List (List RQ)) (hl : a.length ≤ 1000000) : EX ip nv (.call F.solve_Size [.d (.sl 1 (el a))] []) = some (.ret (sizeV a) []) := by
  rw [S_call solve_Size.ip rfl]
  by_cases h0 : a.length = 0
  · have : a = [] := List.length_eq_zero_iff.1 h0
    subst this
    simp (disch := omega) [solve_Size, sizeV, rectB, colsN, ix]
    rfl
  · obtain ⟨z, e, μ, hlp, -, hz⟩ : ∃ z e μ, EX ip nv (.code (.loop [] [] solve_Size.b0) [(0, .d (.sl 1 (el a))), (10, .d (.sl 1 (el a))), (11, .d (.int .i64 (a.length : Int))), (12, .d (.int .i64 0))] []) = some (.st z e μ) ∧ z ≠ .normal ∧
        ((z = .ret ∧ rectB a = false ∧ e = [(2, .d (.int .i64 0)), (3, .d (.int .i64 0)), (4, .d (.bool false))] ∧ μ = []) ∨
         (z = .exit 0 ∧ rectB a = true ∧ e = [(0, .d (.sl 1 (el a))), (10, .d (.sl 1 (el a))), (11, .d (.int .i64 (a.length : Int))), (12, .d (.int .i64 (a.length : Int))), (13, .d (.bool false))] ∧ μ = [])) := by
      refine loop_n a.length (fun i e μ => (∀ j, j < i → (ix a j).length = (ix a 0).length) ∧ e = [(0, .d (.sl 1 (el a))), (10, .d (.sl 1 (el a))), (11, .d (.int .i64 (a.length : Int))), (12, .d (.int .i64 (i : Int)))] ∧ μ = []) ?_ ?_ ⟨fun j h => by omega, rfl, rfl⟩
      · rintro i e μ hi ⟨hj, rfl, rfl⟩
        have h00 : 0 < a.length := by omega
        by_cases he : (ix a i).length = (ix a 0).length
        · refine .inl ⟨_, _, ?_, fun j h => ?_, rfl, rfl⟩
          · simp (disch := omega) [solve_Size.b0, hi, h00, he]
          · by_cases e : j = i
            · rw [e]; exact he
            · exact hj j (by omega)
        · refine .inr ⟨.ret, _, _, ?_, by simp, .inl ⟨rfl, not_rect hi he, rfl, rfl⟩⟩
          have hne : ¬ (((ix a i).length : Int) = ((ix a 0).length : Int)) := by omega
          simp (disch := omega) [solve_Size.b0, hi, h00, hne, he]
      · rintro e μ ⟨hj, rfl, rfl⟩
        exact ⟨.exit 0, _, _, by simp [solve_Size.b0] <;> first | rfl | exact ⟨rfl, rfl⟩, by simp, .inr ⟨rfl, is_rect hj, rfl, rfl⟩⟩
    have hn : ¬ ((a.length : Int) = 0) := by omega
    have h00 : 0 < a.length := by omega
    rcases hz with ⟨rfl, hr, rfl, rfl⟩ | ⟨rfl, hr, rfl, rfl⟩
    · simp (disch := omega) [solve_Size, sizeV, hr, h0, hn, hlp]
    · simp (disch := omega) [solve_Size, sizeV, hr, h0, hn, hlp, colsN]
/-- One row's copy. -/
theorem copy_b2 (hz : TzOk nv) (A : D) (k0 : Nat) (i : Nat) (B3 : Blk) (R : Nat) (r : List RQ) {b : Nat} (hb : ∀ x ∈ r, x.ok b) (hb1 : b ≤ 1073741824) (hr : r.length ≤ 1000000) {H : Mem} (hp : Hp H) :
    ∃ z e μ, EX ip nv (.code (.loop [] [] solve_Copy.b2) [(3, .own 3 1 0 k0), (6, .own 6 3 0 0), (9, .d A), (10, .d (.int .i64 (R : Int))), (11, .d (.int .i64 (i : Int))), (15, .d (.sl 3 (el r))), (16, .d (.int .i64 (r.length : Int))), (17, .d (.int .i64 0))] ((3, B3) :: (6, ⟨0, false, []⟩) :: H)) = some (.st z e μ) ∧ z ≠ .normal ∧
      z = .exit 2 ∧ e = [(3, .own 3 1 0 k0), (6, .own 6 3 0 r.length), (9, .d A), (10, .d (.int .i64 (R : Int))), (11, .d (.int .i64 (i : Int))), (15, .d (.sl 3 (el r))), (16, .d (.int .i64 (r.length : Int))), (17, .d (.int .i64 (r.length : Int))), (18, .d (.bool false))] ∧ μ = ((3, B3) :: (6, ⟨0, false, el (r.map fun x => can x.v)⟩) :: H) := by
  refine loop_n r.length (fun j e μ => e = [(3, .own 3 1 0 k0), (6, .own 6 3 0 j), (9, .d A), (10, .d (.int .i64 (R : Int))), (11, .d (.int .i64 (i : Int))), (15, .d (.sl 3 (el r))), (16, .d (.int .i64 (r.length : Int))), (17, .d (.int .i64 (j : Int)))] ∧ μ = ((3, B3) :: (6, ⟨0, false, el ((r.take j).map fun x => can x.v)⟩) :: H)) ?_ ?_ ⟨rfl, rfl⟩
  · rintro j e μ hj ⟨rfl, rfl⟩
    have hm : ix r j ∈ r := by
      have : ix r j = r[j] := by simp [ix, hj]
      rw [this]; exact List.getElem_mem hj
    have cl := rclean_ev (nv := nv) hz (ix r j) (hb _ hm) hb1
    have hlen : ((r.take j).map fun x => can x.v).length = j := by simp; omega
    have htk : ((r.take (j + 1)).map fun x => can x.v) = ((r.take j).map fun x => can x.v) ++ [can (ix r j).v] := by
      rw [List.take_add_one, List.map_append]
      have : r[j]? = some (ix r j) := by simp [ix, hj]
      rw [this]; rfl
    have ht2 : List.take j ((r.take j).map fun x => can x.v) = (r.take j).map fun x => can x.v := List.take_of_length_le (by omega)
    refine .inl ⟨_, _, ?_, rfl, rfl⟩
    rw [htk]
    generalize ((r.take j).map fun x => can x.v) = g at *
    generalize can (ix r j).v = q at *
    simp (disch := omega) [-vIA_o, solve_Copy.b2, hj, cl, hlen, ht2, hp.aget, hp.aput, hp.adel]
  · rintro e μ ⟨rfl, rfl⟩
    refine ⟨.exit 2, _, _, ?_, by simp, rfl, rfl, rfl⟩
    rw [List.take_length]
    simp [solve_Copy.b2] <;> first | rfl | exact ⟨rfl, rfl⟩
/-- All rows' copies. -/
theorem copy_ev (hz : TzOk nv) (a : List (List RQ)) {b : Nat} (hb : ∀ r ∈ a, ∀ x ∈ r, x.ok b) (hb1 : b ≤ 1073741824) (hl : a.length ≤ 1000000) (hr : ∀ r ∈ a, r.length ≤ 1000000) :
    ∃ H, EX ip nv (.call F.solve_Copy [.d (.sl 1 (el a))] []) = some (.ret (.own (1099511627776 + a.length) 1 0 a.length) H) ∧ HG H (a.length + 1) a.length (fun i => i) (clT a) := by
  rw [S_call solve_Copy.ip rfl]
  obtain ⟨_, _, _, hlp, -, H, rfl, rfl, rfl, hH⟩ : ∃ z e μ, EX ip nv (.code (.loop [] [] solve_Copy.b0) [(3, .own 3 1 0 0), (9, .d (.sl 1 (el a))), (10, .d (.int .i64 (a.length : Int))), (11, .d (.int .i64 0))] [(3, ⟨0, false, []⟩)]) = some (.st z e μ) ∧ z ≠ .normal ∧
      ∃ H, z = .exit 0 ∧ e = [(3, .own 3 1 0 a.length), (9, .d (.sl 1 (el a))), (10, .d (.int .i64 (a.length : Int))), (11, .d (.int .i64 (a.length : Int))), (12, .d (.bool false))] ∧ μ = (3, ⟨0, false, refsG (fun i => i) (clT a)⟩) :: H ∧ HP H (clT a) := by
    refine loop_n a.length (fun i e μ => ∃ H, HP H (clT (a.take i)) ∧ e = [(3, .own 3 1 0 i), (9, .d (.sl 1 (el a))), (10, .d (.int .i64 (a.length : Int))), (11, .d (.int .i64 (i : Int)))] ∧ μ = (3, ⟨0, false, refsG (fun i => i) (clT (a.take i))⟩) :: H) ?_ ?_ ⟨[], HP.nil, rfl, rfl⟩
    · rintro i e μ hi ⟨H, hH, rfl, rfl⟩
      have hm : ix a i ∈ a := by
        have : ix a i = a[i] := by simp [ix, hi]
        rw [this]; exact List.getElem_mem hi
      have htk : clT (a.take (i + 1)) = clT (a.take i) ++ [(ix a i).map fun x => can x.v] := by
        unfold clT
        rw [List.take_add_one, List.map_append]
        have : a[i]? = some (ix a i) := by simp [ix, hi]
        rw [this]; rfl
      have hlt : (clT (a.take i)).length = i := by simp; omega
      obtain ⟨_, _, _, l2, -, rfl, rfl, rfl⟩ := copy_b2 (nv := nv) hz (.sl 1 (el a)) i i ⟨0, false, refsG (fun i => i) (clT (a.take i))⟩ a.length (ix a i) (hb _ hm) hb1 (hr _ hm) hH.hp
      have hpu := hH.push ((ix a i).map fun x => can x.v)
      have hrl := refsG_len (fun i => i) (clT (a.take i))
      rw [hlt] at hrl
      have hcnt := hH.cnt
      rw [hlt] at hcnt
      have hge : 1099511627776 ≤ cntOf H := by omega
      have hra := refsG_app (fun i => i) (clT (a.take i)) ((ix a i).map fun x => can x.v)
      rw [hlt, List.length_map] at hra
      have hnew : aget (hput ⟨0, false, el ((ix a i).map fun x => can x.v)⟩ H) (1099511627776 + i) = some ⟨0, false, el ((ix a i).map fun x => can x.v)⟩ := by
        have := hpu.row i (by simp; omega)
        rw [this]
        have e := ix_last (l := clT (a.take i)) (x := (ix a i).map fun x => can x.v)
        rw [hlt] at e
        rw [e]
      have htake : List.take i (refsG (fun i => i) (clT (a.take i))) = refsG (fun i => i) (clT (a.take i)) := List.take_of_length_le (by omega)
      refine .inl ⟨_, _, ?_, _, by rw [htk]; exact hpu, rfl, rfl⟩
      rw [htk, hra]
      generalize ((ix a i).map fun x => can x.v) = row at *
      generalize refsG (fun i => i) (clT (a.take i)) = g at *
      have hcr : ∀ c k o n, (D.ref c k o n).cells = [.ref c k o n] := fun _ _ _ _ => rfl
      have hby : (i + 1) * 24 ≤ 70368744177664 := by omega
      simp (disch := omega) [-vIA_o, solve_Copy.b0, hi, hby, hH.hp.aget, hH.hp.aput, hH.hp.adel, hpu.hp.adel, l2, hcnt, hnew, hrl, htake, hcr]
    · rintro e μ ⟨H, hH, rfl, rfl⟩
      rw [List.take_length] at *
      exact ⟨.exit 0, _, _, by simp [solve_Copy.b0] <;> first | rfl | exact ⟨rfl, rfl⟩, by simp, H, rfl, rfl, rfl, hH⟩
  have ht := hH.tab
  have hcnt := hH.cnt
  rw [clT_len] at ht hcnt
  have hge : 1099511627776 ≤ cntOf H := by omega
  refine ⟨_, ?_, ht⟩
  simp (disch := omega) [solve_Copy, hlp, hH.hp.adel, hcnt, ht.hp.keeps]
end
end Go.Proofs.YtgigaimaaijalaaGreatDoor
