/- The unit, sums of products, a table times a row, a table times a table. -/
import Derived.Test.YtgigaimaaijalaaGreatDoorTd
set_option linter.unusedSimpArgs false
set_option linter.unusedVariables false
namespace Go.Proofs.YtgigaimaaijalaaGreatDoor
open Go Go.Proofs.R
set_option maxRecDepth 10000
theorem rw_succ (C : Nat) (g : Nat → Rat) : rw' (C + 1) g = rw' C g ++ [can (g C)] := by simp [rw', List.range_succ]
/-- A sum of products of two rows. -/
def dotS (x y : List RQ) (i : Nat) : Rat := sm i (fun k => (ix x k).v * (ix y k).v)
theorem dotS_b {x y : List RQ} {j k : Nat} (hx : ∀ r ∈ x, r.ok j) (hy : ∀ r ∈ y, r.ok k) (hj : 1 ≤ j) (hk : 1 ≤ k) : ∀ i, i ≤ x.length → i ≤ y.length → Bq (1 + i * (j + k + 1)) (dotS x y i)
  | 0, _, _ => Bq.zero.mono (by omega)
  | i + 1, h1, h2 => by
    have ih := dotS_b hx hy hj hk i (by omega) (by omega)
    have := ih.add ((Bq.v (hx _ (ix_mem (i := i) (by omega))) hj).mul (Bq.v (hy _ (ix_mem (i := i) (by omega))) hk))
    exact this.mono (by rw [Nat.add_mul]; omega)
section
variable {nv : R.Nv}
theorem unit_b2 (n i : Nat) (hn : n ≤ 1000) (B : Blk) :
    ∃ z e μ, EX ip nv (.code (.loop [] [] solve_Unit.b2) [(0, .d (.int .i64 (n : Int))), (3, .own 3 1 0 i), (4, .d (.int .i64 (i : Int))), (5, .own 5 3 0 0), (7, .d (.int .i64 (n : Int))), (8, .d (.int .i64 (i : Int))), (11, .d (.int .i64 (n : Int))), (12, .d (.int .i64 0))] [(3, B), (5, ⟨0, false, []⟩)]) = some (.st z e μ) ∧ z ≠ .normal ∧
      z = .exit 2 ∧ e = [(0, .d (.int .i64 (n : Int))), (3, .own 3 1 0 i), (4, .d (.int .i64 (i : Int))), (5, .own 5 3 0 n), (7, .d (.int .i64 (n : Int))), (8, .d (.int .i64 (i : Int))), (11, .d (.int .i64 (n : Int))), (12, .d (.int .i64 (n : Int))), (13, .d (.bool false))] ∧ μ = [(3, B), (5, ⟨0, false, el (rw' n (unitF i))⟩)] := by
  refine loop_n n (fun k e μ => e = [(0, .d (.int .i64 (n : Int))), (3, .own 3 1 0 i), (4, .d (.int .i64 (i : Int))), (5, .own 5 3 0 k), (7, .d (.int .i64 (n : Int))), (8, .d (.int .i64 (i : Int))), (11, .d (.int .i64 (n : Int))), (12, .d (.int .i64 (k : Int)))] ∧ μ = [(3, B), (5, ⟨0, false, el (rw' k (unitF i))⟩)]) ?_ ?_ ⟨rfl, rfl⟩
  · rintro k e μ hk ⟨rfl, rfl⟩
    have hlen := rw_len k (unitF i)
    have hsu := rw_succ k (unitF i)
    have ht2 : List.take k (rw' k (unitF i)) = rw' k (unitF i) := List.take_of_length_le (by omega)
    have one := rone_ev (nv := nv)
    have zer := zero_ev (nv := nv)
    refine .inl ⟨_, _, ?_, rfl, rfl⟩
    rw [hsu]
    by_cases e : i = k
    · have hu : unitF i k = 1 := by unfold unitF; rw [if_pos e]
      rw [hu]
      generalize can 1 = q at *
      have e' : (i : Int) = (k : Int) := by omega
      generalize rw' k (unitF i) = g at *
      subst e
      simp (disch := omega) [-vIA_o, solve_Unit.b2, hk, one, hlen, ht2]
    · have hu : unitF i k = 0 := by unfold unitF; rw [if_neg e]
      rw [hu]
      generalize can 0 = q at *
      have e' : ¬ (i : Int) = (k : Int) := by omega
      generalize rw' k (unitF i) = g at *
      simp (disch := omega) [-vIA_o, solve_Unit.b2, hk, zer, hlen, ht2, e, e']
  · rintro e μ ⟨rfl, rfl⟩
    exact ⟨.exit 2, _, _, by simp [solve_Unit.b2] <;> first | rfl | exact ⟨rfl, rfl⟩, by simp, rfl, rfl, rfl⟩
theorem unit_ev (n : Nat) (hn : n ≤ 1000) : EX ip nv (.call F.solve_Unit [.d (.int .i64 (n : Int))] []) = some (.ret (.d (.sl 1 (el (tbl n n unitF)))) []) := by
  rw [S_call solve_Unit.ip rfl]
  obtain ⟨_, _, _, hlp, -, rfl, rfl, rfl⟩ : ∃ z e μ, EX ip nv (.code (.loop [] [] solve_Unit.b0) [(0, .d (.int .i64 (n : Int))), (3, .own 3 1 0 0), (7, .d (.int .i64 (n : Int))), (8, .d (.int .i64 0))] [(3, ⟨0, false, []⟩)]) = some (.st z e μ) ∧ z ≠ .normal ∧
      z = .exit 0 ∧ e = [(0, .d (.int .i64 (n : Int))), (3, .own 3 1 0 n), (7, .d (.int .i64 (n : Int))), (8, .d (.int .i64 (n : Int))), (9, .d (.bool false))] ∧ μ = [(3, ⟨0, false, el (tbl n n unitF)⟩)] := by
    refine loop_n n (fun i e μ => e = [(0, .d (.int .i64 (n : Int))), (3, .own 3 1 0 i), (7, .d (.int .i64 (n : Int))), (8, .d (.int .i64 (i : Int)))] ∧ μ = [(3, ⟨0, false, el (tbl i n unitF)⟩)]) ?_ ?_ ⟨rfl, rfl⟩
    · rintro i e μ hi ⟨rfl, rfl⟩
      obtain ⟨_, _, _, l2, -, rfl, rfl, rfl⟩ := unit_b2 (nv := nv) n i hn ⟨0, false, el (tbl i n unitF)⟩
      have hsu := tbl_succ i n unitF
      have hlen := tbl_len i n unitF
      have hlr := rw_len n (unitF i)
      have ht2 : List.take i (tbl i n unitF) = tbl i n unitF := List.take_of_length_le (by omega)
      refine .inl ⟨_, _, ?_, rfl, rfl⟩
      rw [hsu]
      generalize rw' n (unitF i) = row at *
      generalize tbl i n unitF = g at *
      simp (disch := omega) [-vIA_o, solve_Unit.b0, hi, l2, hlen, ht2]
    · rintro e μ ⟨rfl, rfl⟩
      exact ⟨.exit 0, _, _, by simp [solve_Unit.b0] <;> first | rfl | exact ⟨rfl, rfl⟩, by simp, rfl, rfl, rfl⟩
  have hlen := tbl_len n n unitF
  generalize tbl n n unitF = g at *
  simp (disch := omega) [solve_Unit, hlp]
theorem dot_ev (hz : TzOk nv) (x y : List RQ) {j k : Nat} (hx : ∀ r ∈ x, r.ok j) (hy : ∀ r ∈ y, r.ok k) (hj : 1 ≤ j) (hk : 1 ≤ k) (hl : x.length = y.length) (hb : 1 + (x.length + 1) * (j + k + 1) ≤ 1073741824) :
    EX ip nv (.call F.solve_Dot [.d (.sl 3 (el x)), .d (.sl 3 (el y))] []) = some (.ret (.tp [.d (.ag (can (dotS x y x.length)).c), .d (.int .i64 0)]) []) := by
  rw [S_call solve_Dot.ip rfl]
  have hxl : x.length ≤ 1073741824 := by
    have := Nat.le_mul_of_pos_right (x.length + 1) (show 0 < j + k + 1 by omega)
    omega
  obtain ⟨_, _, _, hlp, -, rfl, rfl, rfl⟩ : ∃ z e μ, EX ip nv (.code (.loop [] [] solve_Dot.b0) [(0, .d (.sl 3 (el x))), (1, .d (.sl 3 (el y))), (4, .ptr 4 0), (6, .ptr 6 0), (16, .d (.int .i64 (x.length : Int))), (17, .d (.int .i64 0))] [(4, ⟨0, true, [.bool false, .sl 1 [], .sl 1 []]⟩), (6, ⟨0, true, (can 0).c⟩)]) = some (.st z e μ) ∧ z ≠ .normal ∧
      z = .exit 0 ∧ e = [(0, .d (.sl 3 (el x))), (1, .d (.sl 3 (el y))), (4, .ptr 4 0), (6, .ptr 6 0), (16, .d (.int .i64 (x.length : Int))), (17, .d (.int .i64 (x.length : Int))), (18, .d (.bool false))] ∧ μ = [(4, ⟨0, true, [.bool false, .sl 1 [], .sl 1 []]⟩), (6, ⟨0, true, (can (dotS x y x.length)).c⟩)] := by
    refine loop_n x.length (fun i e μ => e = [(0, .d (.sl 3 (el x))), (1, .d (.sl 3 (el y))), (4, .ptr 4 0), (6, .ptr 6 0), (16, .d (.int .i64 (x.length : Int))), (17, .d (.int .i64 (i : Int)))] ∧ μ = [(4, ⟨0, true, [.bool false, .sl 1 [], .sl 1 []]⟩), (6, ⟨0, true, (can (dotS x y i)).c⟩)]) ?_ ?_ ⟨rfl, rfl⟩
    · rintro i e μ hi ⟨rfl, rfl⟩
      have hiy : i < y.length := by omega
      have hbi : 1 + i * (j + k + 1) + (j + k) + 1 ≤ 1073741824 := by
        have : (i + 1) * (j + k + 1) ≤ (x.length + 1) * (j + k + 1) := Nat.mul_le_mul_right _ (by omega)
        rw [Nat.add_mul] at this
        omega
      have ml := rmul_ev (nv := nv) hz (ix x i) (ix y i) (hx _ (ix_mem hi)) (hy _ (ix_mem hiy)) hj hk (by omega)
      have ad := radd_ev (nv := nv) hz (can (dotS x y i)) (can ((ix x i).v * (ix y i).v)) (can_ok (dotS_b hx hy hj hk i (by omega) (by omega))) (can_ok ((Bq.v (hx _ (ix_mem hi)) hj).mul (Bq.v (hy _ (ix_mem hiy)) hk))) (by omega) (by omega) (by omega)
      rw [can_v, can_v] at ad
      refine .inl ⟨_, _, ?_, rfl, rfl⟩
      show _ = some (Out.st .normal _ [(4, _), (6, ⟨0, true, (can (dotS x y i + (ix x i).v * (ix y i).v)).c⟩)])
      generalize can (dotS x y i + (ix x i).v * (ix y i).v) = q1 at *
      generalize can (dotS x y i) = q2 at *
      generalize can ((ix x i).v * (ix y i).v) = q3 at *
      simp (disch := omega) [-vIA_o, solve_Dot.b0, hi, hiy, ml, ad]
    · rintro e μ ⟨rfl, rfl⟩
      exact ⟨.exit 0, _, _, by simp [solve_Dot.b0] <;> first | rfl | exact ⟨rfl, rfl⟩, by simp, rfl, rfl, rfl⟩
  have hli : (x.length : Int) = (y.length : Int) := by omega
  have zer := zero_ev (nv := nv)
  generalize can (dotS x y x.length) = q at *
  generalize can 0 = q0 at *
  rw [hl] at hlp
  simp (disch := omega) [solve_Dot, hlp, hl, hli, zer]
/-- A table times a row. -/
def apS (a : List (List RQ)) (x : List RQ) : Nat → Rat := fun i => dotS (ix a i) x x.length
theorem apply_h (hz : TzOk nv) (a : List (List RQ)) (x : List RQ) {j k : Nat} (ha : ∀ r ∈ a, ∀ y ∈ r, y.ok j) (hx : ∀ r ∈ x, r.ok k) (hj : 1 ≤ j) (hk : 1 ≤ k) (hl : a.length ≤ 1000000) (har : ∀ r ∈ a, r.length ≤ 1000000) (hxl : x.length ≤ 1000000) (hb : 1 + (x.length + 1) * (j + k + 1) ≤ 1073741824) (hf : ∀ r ∈ a, r.length = x.length) {H : Mem} (hp : Hp H) :
    EX ip nv (.call F.solve_Apply [.d (.sl 1 (el a)), .d (.sl 3 (el x))] H) = some (.ret (.tp [.own 6 3 0 a.length, .d (.int .i64 0)]) ((6, ⟨0, false, el (rw' a.length (apS a x))⟩) :: H)) := by
  rw [S_call solve_Apply.ip rfl]
  obtain ⟨_, _, _, hlp, -, rfl, rfl, rfl⟩ : ∃ z e μ, EX ip nv (.code (.loop [] [] solve_Apply.b0) [(1, .d (.sl 3 (el x))), (6, .own 6 3 0 0), (11, .d (.sl 1 (el a))), (12, .d (.int .i64 (a.length : Int))), (13, .d (.int .i64 0))] ((6, ⟨0, false, []⟩) :: H)) = some (.st z e μ) ∧ z ≠ .normal ∧
      z = .exit 0 ∧ e = [(1, .d (.sl 3 (el x))), (6, .own 6 3 0 a.length), (11, .d (.sl 1 (el a))), (12, .d (.int .i64 (a.length : Int))), (13, .d (.int .i64 (a.length : Int))), (14, .d (.bool false))] ∧ μ = ((6, ⟨0, false, el (rw' a.length (apS a x))⟩) :: H) := by
    refine loop_n a.length (fun i e μ => e = [(1, .d (.sl 3 (el x))), (6, .own 6 3 0 i), (11, .d (.sl 1 (el a))), (12, .d (.int .i64 (a.length : Int))), (13, .d (.int .i64 (i : Int)))] ∧ μ = ((6, ⟨0, false, el (rw' i (apS a x))⟩) :: H)) ?_ ?_ ⟨rfl, rfl⟩
    · rintro i e μ hi ⟨rfl, rfl⟩
      have he := hf _ (ix_mem hi)
      have dt := dot_ev (nv := nv) hz (ix a i) x (ha _ (ix_mem hi)) hx hj hk he (by rw [he]; exact hb)
      have hsu := rw_succ i (apS a x)
      have hap : dotS (ix a i) x (ix a i).length = apS a x i := by unfold apS; rw [he]
      rw [hap] at dt
      have hlen := rw_len i (apS a x)
      have ht2 : List.take i (rw' i (apS a x)) = rw' i (apS a x) := List.take_of_length_le (by omega)
      refine .inl ⟨_, _, ?_, rfl, rfl⟩
      rw [hsu]
      generalize can (apS a x i) = q at *
      generalize rw' i (apS a x) = g at *
      simp (disch := omega) [-vIA_o, solve_Apply.b0, hi, dt, hlen, ht2, hp.aget, hp.aput, hp.adel]
    · rintro e μ ⟨rfl, rfl⟩
      exact ⟨.exit 0, _, _, by simp [solve_Apply.b0] <;> first | rfl | exact ⟨rfl, rfl⟩, by simp, rfl, rfl, rfl⟩
  have hlen := rw_len a.length (apS a x)
  generalize rw' a.length (apS a x) = g at *
  simp (disch := omega) [solve_Apply, hlp, hlen, hp.aget, hp.aput, hp.adel, hp.hpart, hp.npart, hp.keeps, hpart_cons, npart_cons]
/-- A product of tables, as the program adds it up. -/
def mulF (a b : List (List RQ)) : Tb := fun i k => sm (colsN a) (fun j => tf b j k * tf a i j)
theorem tmul_ev (hz : TzOk nv) (a b : List (List RQ)) {j k : Nat} (ha : ∀ r ∈ a, ∀ y ∈ r, y.ok j) (hb : ∀ r ∈ b, ∀ y ∈ r, y.ok k) (hj : 1 ≤ j) (hk : 1 ≤ k) (hra : rectB a = true) (hrb : rectB b = true) (hab : colsN a = b.length) (hal : a.length ≤ 10000) (hbl : b.length ≤ 10000) (hbc : colsN b ≤ 10000) (hbd : 1 + (b.length + 1) * (k + j + 1) ≤ 1073741824) :
    EX ip nv (.call F.solve_Mul [.d (.sl 1 (el a)), .d (.sl 1 (el b))] []) = some (.ret (.tp [.d (.sl 1 (el (tbl a.length (colsN b) (mulF a b)))), .d (.int .i64 0)]) []) := by
  rw [S_call solve_Mul.ip rfl]
  have sz := size_ev (nv := nv) a (by omega)
  unfold sizeV at sz
  rw [if_pos hra] at sz
  have sz2 := size_ev (nv := nv) b (by omega)
  unfold sizeV at sz2
  rw [if_pos hrb] at sz2
  have hkk : k ≤ 1073741824 := by
    have := Nat.le_mul_of_pos_left (k + j + 1) (show 0 < b.length + 1 by omega)
    omega
  obtain ⟨H, fl, hH⟩ := flip_ev (nv := nv) hz b hb hkk (by omega) hrb (by omega)
  have dd := hH.deep (k0 := 1)
  rw [tbl_len] at dd
  have tix : ∀ i, i < colsN b → ix (tbl (colsN b) b.length fun k i => tf b i k) i = rw' b.length (fun i' => tf b i' i) := fun i hi => tbl_ix hi
  have tok : ∀ r ∈ (tbl (colsN b) b.length fun k i => tf b i k), ∀ y ∈ r, y.ok k := by
    intro r hr y hy
    obtain ⟨i, hi, rfl⟩ := List.getElem_of_mem hr
    rw [tbl_len] at hi
    rw [← ix_get (by simpa using hi), tix i hi] at hy
    obtain ⟨i', hi', rfl⟩ := List.getElem_of_mem hy
    rw [rw_len] at hi'
    rw [← ix_get (by simpa using hi'), rw_ix _ hi']
    have hl := rect_row hrb hi'
    exact can_ok (Bq.v (hb _ (ix_mem hi') _ (ix_mem (l := ix b i') (by omega))) hk)
  have tll : ∀ r ∈ (tbl (colsN b) b.length fun k i => tf b i k), r.length = b.length := by
    intro r hr
    obtain ⟨i, hi, rfl⟩ := List.getElem_of_mem hr
    rw [tbl_len] at hi
    rw [← ix_get (by simpa using hi), tix i hi, rw_len]
  obtain ⟨_, _, _, hlp, -, rfl, rfl, rfl⟩ : ∃ z e μ, EX ip nv (.code (.loop [] [] solve_Mul.b0) [(12, .d (.sl 1 (el (tbl (colsN b) b.length fun k i => tf b i k)))), (14, .own 14 1 0 0), (47, .d (.sl 1 (el a))), (48, .d (.int .i64 (a.length : Int))), (49, .d (.int .i64 0))] [(14, ⟨0, false, []⟩)]) = some (.st z e μ) ∧ z ≠ .normal ∧
      z = .exit 0 ∧ e = [(12, .d (.sl 1 (el (tbl (colsN b) b.length fun k i => tf b i k)))), (14, .own 14 1 0 a.length), (47, .d (.sl 1 (el a))), (48, .d (.int .i64 (a.length : Int))), (49, .d (.int .i64 (a.length : Int))), (50, .d (.bool false))] ∧ μ = [(14, ⟨0, false, el (tbl a.length (colsN b) (mulF a b))⟩)] := by
    refine loop_n a.length (fun i e μ => e = [(12, .d (.sl 1 (el (tbl (colsN b) b.length fun k i => tf b i k)))), (14, .own 14 1 0 i), (47, .d (.sl 1 (el a))), (48, .d (.int .i64 (a.length : Int))), (49, .d (.int .i64 (i : Int)))] ∧ μ = [(14, ⟨0, false, el (tbl i (colsN b) (mulF a b))⟩)]) ?_ ?_ ⟨rfl, rfl⟩
    · rintro i e μ hi ⟨rfl, rfl⟩
      have hri := rect_row hra hi
      have hall : ∀ r ∈ (tbl (colsN b) b.length fun k i => tf b i k), r.length = (ix a i).length := fun r hr => by rw [tll r hr, hri, hab]
      have ap := apply_h (nv := nv) hz (tbl (colsN b) b.length fun k i => tf b i k) (ix a i) tok (ha _ (ix_mem hi)) hk hj (by simp; omega) (fun r hr => by rw [tll r hr]; omega) (by omega) (by rw [hri, hab]; exact hbd) hall Hp.nil
      rw [tbl_len] at ap
      have hrow : rw' (colsN b) (apS (tbl (colsN b) b.length fun k i => tf b i k) (ix a i)) = rw' (colsN b) (mulF a b i) := rw_congr fun q hq => by
        unfold apS dotS mulF
        rw [tix q hq, hri]
        apply sm_congr
        intro m hm
        rw [rw_ix _ (by omega), can_v]
        rfl
      rw [hrow] at ap
      have hrl := rw_len (colsN b) (mulF a b i)
      have htk := List.take_of_length_le (l := rw' (colsN b) (mulF a b i)) (i := colsN b) (by omega)
      have d3 : asDD [(6, (⟨0, false, el (rw' (colsN b) (mulF a b i))⟩ : Blk))] 1 (.own 6 3 0 (colsN b)) = some (.sl 3 (el (rw' (colsN b) (mulF a b i)))) := asDD_row rfl (by simp) (un_rqs _ _)
      have hsu := tbl_succ i (colsN b) (mulF a b)
      have hlen := tbl_len i (colsN b) (mulF a b)
      have ht2 : List.take i (tbl i (colsN b) (mulF a b)) = tbl i (colsN b) (mulF a b) := List.take_of_length_le (by omega)
      refine .inl ⟨_, _, ?_, rfl, rfl⟩
      rw [hsu]
      generalize rw' (colsN b) (mulF a b i) = row at *
      generalize tbl i (colsN b) (mulF a b) = g at *
      simp (disch := omega) [-vIA_o, solve_Mul.b0, hi, ap, d3, hlen, ht2, hrl, htk]
    · rintro e μ ⟨rfl, rfl⟩
      exact ⟨.exit 0, _, _, by simp [solve_Mul.b0] <;> first | rfl | exact ⟨rfl, rfl⟩, by simp, rfl, rfl, rfl⟩
  have hlen := tbl_len a.length (colsN b) (mulF a b)
  have habi : (colsN a : Int) = (b.length : Int) := by omega
  generalize tbl a.length (colsN b) (mulF a b) = g at *
  simp (disch := omega) [solve_Mul, sz, sz2, fl, dd, hlp, hab, habi]
end
end Go.Proofs.YtgigaimaaijalaaGreatDoor
