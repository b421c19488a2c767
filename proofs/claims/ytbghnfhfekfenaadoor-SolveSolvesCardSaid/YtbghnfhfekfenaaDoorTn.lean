/- SolveDets: the determinant by the first row. -/
import Derived.Test.YtbghnfhfekfenaaDoorTh
import Derived.Test.YtbghnfhfekfenaaDoorTi
import Derived.Test.YtbghnfhfekfenaaDoorOc
set_option linter.unusedSimpArgs false
set_option linter.unusedVariables false
namespace Go.Proofs.YtbghnfhfekfenaaDoor
open Go Go.Proofs.R
set_option maxRecDepth 10000
theorem dt_congr : ∀ (n : Nat) {f g : Tb}, (∀ i j, i < n → j < n → f i j = g i j) → dt n f = dt n g
  | 0, _, _, _ => rfl
  | n + 1, f, g, h => by
    simp only [dt]
    apply sm_congr
    intro k hk
    rw [h 0 k (by omega) hk, dt_congr n (f := fun i j => f (i + 1) (if j < k then j else j + 1)) (g := fun i j => g (i + 1) (if j < k then j else j + 1)) (fun i j hi hj => h _ _ (by omega) (by split <;> omega))]
/-- A row without one number. -/
def minR (r : List RQ) (k : Nat) : List RQ := r.take k ++ r.drop (k + 1)
theorem minR_len {r : List RQ} {k : Nat} (h : k < r.length) : (minR r k).length = r.length - 1 := by simp [minR]; omega
theorem minR_ix {r : List RQ} {k j : Nat} (h : k < r.length) (hj : j < r.length - 1) : ix (minR r k) j = ix r (if j < k then j else j + 1) := by
  rw [ix_get (by rw [minR_len h]; exact hj)]
  unfold minR
  rw [List.getElem_append]
  simp only [List.length_take, Nat.min_eq_left (Nat.le_of_lt h)]
  by_cases e : j < k
  · rw [dif_pos e, if_pos e, List.getElem_take, ix_get (by omega)]
  · rw [dif_neg e, if_neg e, List.getElem_drop, ix_get (by omega)]
    congr 1; omega
/-- The rows behind the first one, without a column. -/
def minL (a : List (List RQ)) (k m : Nat) : List (List RQ) := (List.range m).map fun i => minR (ix a (i + 1)) k
@[simp] theorem minL_len (a : List (List RQ)) (k m : Nat) : (minL a k m).length = m := by simp [minL]
theorem minL_ix {a : List (List RQ)} {k m i : Nat} (h : i < m) : ix (minL a k m) i = minR (ix a (i + 1)) k := by simp [ix, minL, h]
theorem minL_succ (a : List (List RQ)) (k m : Nat) : minL a k (m + 1) = minL a k m ++ [minR (ix a (m + 1)) k] := by simp [minL, List.range_succ]
/-- How long a determinant's numbers are. -/
def dB : Nat → Nat
  | 0 => 1
  | n + 1 => 1 + (n + 1) * (1 + dB n + 1)
/-- One part of the sum. -/
def dterm (n : Nat) (f : Tb) (k : Nat) : Rat := if k % 2 = 1 then -(f 0 k * dt n (fun i j => f (i + 1) (if j < k then j else j + 1))) else f 0 k * dt n (fun i j => f (i + 1) (if j < k then j else j + 1))
theorem dt_b : ∀ (n : Nat) {f : Tb}, (∀ i j, i < n → j < n → Bq 1 (f i j)) → Bq (dB n) (dt n f) ∧ (∀ k, k < n → Bq (1 + dB (n - 1)) (f 0 k * dt (n - 1) (fun i j => f (i + 1) (if j < k then j else j + 1)))) ∧ ∀ m, m ≤ n → Bq (1 + m * (1 + dB (n - 1) + 1)) (sm m (dterm (n - 1) f))
  | 0, f, h => ⟨⟨by simp [pw, dt, dB], by simp [pw, dt, dB]⟩, fun k hk => by omega, fun m hm => by
    rw [show m = 0 by omega]; exact Bq.zero.mono (by omega)⟩
  | n + 1, f, h => by
    have h1 : ∀ k, k < n + 1 → Bq (1 + dB n) (f 0 k * dt n (fun i j => f (i + 1) (if j < k then j else j + 1))) := fun k hk =>
      (h 0 k (by omega) hk).mul (dt_b n (f := fun i j => f (i + 1) (if j < k then j else j + 1)) (fun i j hi hj => h _ _ (by omega) (by split <;> omega))).1
    have h2 : ∀ m, m ≤ n + 1 → Bq (1 + m * (1 + dB n + 1)) (sm m (dterm n f)) := by
      intro m
      induction m with
      | zero => intro _; exact Bq.zero.mono (by omega)
      | succ m ih =>
        intro hm
        simp only [sm]
        have hd : Bq (1 + dB n) (dterm n f m) := by
          unfold dterm; split
          · exact (h1 m (by omega)).neg
          · exact h1 m (by omega)
        exact ((ih (by omega)).add hd).mono (by rw [Nat.add_mul]; omega)
    exact ⟨h2 (n + 1) (Nat.le_refl _), h1, h2⟩
theorem dB_le {n : Nat} (h : n ≤ 4) : dB n ≤ 193 := by
  have : n = 0 ∨ n = 1 ∨ n = 2 ∨ n = 3 ∨ n = 4 := by omega
  rcases this with rfl | rfl | rfl | rfl | rfl <;> decide
section
variable {nv : R.Nv}
/-- The rows of a minor. -/
theorem det_b2 (a : List (List RQ)) (n k : Nat) (hn : a.length = n + 1) (hn4 : n ≤ 3) (hr : ∀ i, i < a.length → (ix a i).length = n + 1) (hk : k < n + 1) (B2 B3 : Blk) {H : Mem} {c : Nat} (hH : Hp H) (hc : cntOf H = 1099511627776 + c) :
    ∃ z e μ, EX ip nv (.code (.loop [] [] dendronlaw05_det.b2) [(0, .d (.sl 1 (el a))), (2, .ptr 2 0), (3, .ptr 3 0), (4, .d (.int .i64 (k : Int))), (5, .own 5 1 0 0), (6, .d (.int .i64 1))] ((2, B2) :: (3, B3) :: (5, ⟨0, false, []⟩) :: H)) = some (.st z e μ) ∧ z ≠ .normal ∧
      ∃ H' c', z = .exit 2 ∧ e = [(0, .d (.sl 1 (el a))), (2, .ptr 2 0), (3, .ptr 3 0), (4, .d (.int .i64 (k : Int))), (5, .own 5 1 0 n), (6, .d (.int .i64 ((n : Int) + 1))), (22, .d (.bool false))] ∧ μ = ((2, B2) :: (3, B3) :: (5, ⟨0, false, el (minL a k n)⟩) :: H') ∧ Hp H' ∧ cntOf H' = 1099511627776 + c' := by
  refine loop_n n (fun i e μ => ∃ H' c', Hp H' ∧ cntOf H' = 1099511627776 + c' ∧ e = [(0, .d (.sl 1 (el a))), (2, .ptr 2 0), (3, .ptr 3 0), (4, .d (.int .i64 (k : Int))), (5, .own 5 1 0 i), (6, .d (.int .i64 ((i : Int) + 1)))] ∧ μ = ((2, B2) :: (3, B3) :: (5, ⟨0, false, el (minL a k i)⟩) :: H')) ?_ ?_ ⟨H, c, hH, hc, rfl, rfl⟩
  · rintro i e μ hi ⟨H', c', hp, hcn, rfl, rfl⟩
    have hi1 : i + 1 < a.length := by omega
    have hri := hr (i + 1) hi1
    have hml := minL_len a k i
    have ht2 : List.take i (minL a k i) = minL a k i := List.take_of_length_le (by omega)
    -- the heap's ways
    have hge : 1099511627776 ≤ cntOf H' := by omega
    have f1 : ∀ B, aget (hput B H') (1099511627776 + c') = some B := fun B => by rw [aget_hput hge B (by omega), hcn, if_pos rfl]
    have f2 : ∀ B, cntOf (hput B H') = 1099511627776 + (c' + 1) := fun B => by rw [cntOf_hput, hcn]; omega
    have f3 : ∀ B, cntOf (adel (1099511627776 + c') (hput B H')) = 1099511627776 + (c' + 1) := fun B => by rw [← f2 B]; exact cntOf_low (aget_adel_ne (by omega) _)
    have f4 : ∀ B B', aget (hput B' (adel (1099511627776 + c') (hput B H'))) (1099511627776 + (c' + 1)) = some B' := fun B B' => by rw [aget_hput (by rw [f3]; omega) B' (by omega), f3, if_pos rfl]
    have f5 : ∀ B B', cntOf (hput B' (adel (1099511627776 + c') (hput B H'))) = 1099511627776 + (c' + 2) := fun B B' => by rw [cntOf_hput, f3]; omega
    have f6 : ∀ B B', cntOf (adel (1099511627776 + (c' + 1)) (hput B' (adel (1099511627776 + c') (hput B H')))) = 1099511627776 + (c' + 2) := fun B B' => by rw [← f5 B B']; exact cntOf_low (aget_adel_ne (by omega) _)
    have g1 : ∀ v x y z, hput v ((2, x) :: (3, y) :: (5, z) :: H') = (2, x) :: (3, y) :: (5, z) :: hput v H' := fun v x y z => by
      rw [hput_lit (by decide) (by rw [cntOf_lit (by decide), cntOf_lit (by decide)]; exact hge), hput_lit (by decide) (by rw [cntOf_lit (by decide)]; exact hge), hput_lit (by decide) hge]
    have g2 : ∀ v x y z B, hput v ((2, x) :: (3, y) :: (5, z) :: adel (1099511627776 + c') (hput B H')) = (2, x) :: (3, y) :: (5, z) :: hput v (adel (1099511627776 + c') (hput B H')) := fun v x y z B => by
      have : 1099511627776 ≤ cntOf (adel (1099511627776 + c') (hput B H')) := by rw [f3]; omega
      rw [hput_lit (by decide) (by rw [cntOf_lit (by decide), cntOf_lit (by decide)]; exact this), hput_lit (by decide) (by rw [cntOf_lit (by decide)]; exact this), hput_lit (by decide) this]
    have g3 : ∀ v x y z B B', hput v ((2, x) :: (3, y) :: (5, z) :: adel (1099511627776 + (c' + 1)) (hput B' (adel (1099511627776 + c') (hput B H')))) = (2, x) :: (3, y) :: (5, z) :: hput v (adel (1099511627776 + (c' + 1)) (hput B' (adel (1099511627776 + c') (hput B H')))) := fun v x y z B B' => by
      have : 1099511627776 ≤ cntOf (adel (1099511627776 + (c' + 1)) (hput B' (adel (1099511627776 + c') (hput B H')))) := by rw [f6]; omega
      rw [hput_lit (by decide) (by rw [cntOf_lit (by decide), cntOf_lit (by decide)]; exact this), hput_lit (by decide) (by rw [cntOf_lit (by decide)]; exact this), hput_lit (by decide) this]
    have low : ∀ {X : Mem} {B : Blk} {k}, 1099511627776 ≤ cntOf X → k < 1099511627775 → aget (hput B X) k = aget X k := fun {X B k} h1 h2 => by
      unfold hput; rw [aget_aput_ne (by omega), aget_aput_ne (by omega)]
    have p1 : ∀ B, Hp (hput B H') := fun B => hp.hput (by omega) B
    have p2 : ∀ B B', Hp (hput B' (adel (1099511627776 + c') (hput B H'))) := fun B B' => ((p1 B).del).hput (by rw [f3]; omega) B'
    have p3 : ∀ B B' B'', Hp (adel (1099511627776 + (c' + 2)) (hput B'' (adel (1099511627776 + (c' + 1)) (hput B' (adel (1099511627776 + c') (hput B H')))))) := fun B B' B'' => (((p2 B B').del).hput (by rw [f6]; omega) B'').del
    have a1 : ∀ B k, k < 1099511627775 → aget (hput B H') k = none := fun B k hk => (p1 B).aget hk
    have a2 : ∀ B B' k, k < 1099511627775 → aget (hput B' (adel (1099511627776 + c') (hput B H'))) k = none := fun B B' k hk => (p2 B B').aget hk
    have a3 : ∀ B B' B'' k, k < 1099511627775 → adel k (adel (1099511627776 + (c' + 2)) (hput B'' (adel (1099511627776 + (c' + 1)) (hput B' (adel (1099511627776 + c') (hput B H')))))) = adel (1099511627776 + (c' + 2)) (hput B'' (adel (1099511627776 + (c' + 1)) (hput B' (adel (1099511627776 + c') (hput B H'))))) := fun B B' B'' k hk => (p3 B B' B'').adel hk
    have a26 : ∀ B, aget (hput B H') 33 = none := fun B => a1 B _ (by decide)
    have a41 : ∀ B B', aget (hput B' (adel (1099511627776 + c') (hput B H'))) 41 = none := fun B B' => a2 B B' _ (by decide)
    have hsu := minL_succ a k i
    have hmr : minR (ix a (i + 1)) k = List.take k (ix a (i + 1)) ++ List.drop (k + 1) (ix a (i + 1)) := rfl
    refine .inl ⟨_, _, ?_, _, c' + 3, p3 ⟨0, false, []⟩ ⟨0, false, el (List.take k (ix a (i + 1)))⟩ ⟨0, false, el (minR (ix a (i + 1)) k)⟩, ?_, rfl, rfl⟩
    · rw [hsu, hmr]
      have hk1 : k ≤ (ix a (i + 1)).length := by omega
      have hk2 : k + 1 ≤ (ix a (i + 1)).length := by omega
      have hl1 : (List.take k (ix a (i + 1))).length = k := by simp; omega
      have hl2 : (List.drop (k + 1) (ix a (i + 1))).length = n - k := by simp; omega
      have e3 : List.take (n - k) (List.drop (k + 1) (ix a (i + 1))) = List.drop (k + 1) (ix a (i + 1)) := List.take_of_length_le (by omega)
      have e2 : List.take k (List.take k (ix a (i + 1))) = List.take k (ix a (i + 1)) := List.take_of_length_le (by omega)
      have hcr : ∀ c k o n, (D.ref c k o n).cells = [.ref c k o n] := fun _ _ _ _ => rfl
      have b1 : k * 3 * 56 ≤ 211106232532992 := by omega
      have b2 : (k * 3 + (n - k) * 3) * 56 ≤ 211106232532992 := by omega
      have b3 : (i + 1) * 24 ≤ 70368744177664 := by omega
      have hlt : (i : Int) + 1 < (a.length : Int) := by omega
      simp (disch := omega) [-vIA_o, dendronlaw05_det.b2, hi, hi1, hlt, hri, hp.aget, hp.adel, hcn, f1, f2, f3, f4, f5, f6, g1, g2, g3, a26, a41, a3, hml, ht2, hl1, hl2, e2, e3, hcr, b1, b2, b3]
    · have q1 : 1099511627776 ≤ cntOf (adel (1099511627776 + (c' + 1)) (hput ⟨0, false, el (List.take k (ix a (i + 1)))⟩ (adel (1099511627776 + c') (hput ⟨0, false, []⟩ H')))) := by rw [f6]; omega
      rw [cntOf_low (aget_adel_ne (by omega) _), cntOf_hput, f6]; omega
  · rintro e μ ⟨H', c', hp, hcn, rfl, rfl⟩
    refine ⟨.exit 2, _, _, ?_, by simp, H', c', rfl, rfl, rfl, hp, hcn⟩
    have hlt : ¬ (n : Int) + 1 < (a.length : Int) := by omega
    simp (disch := omega) [dendronlaw05_det.b2, hlt]
theorem dB_pos (n : Nat) : 1 ≤ dB n := by cases n <;> simp [dB] <;> omega
/-- The minor's table. -/
theorem minL_tf {a : List (List RQ)} {n k : Nat} (hn : a.length = n + 1) (hr : ∀ i, i < n + 1 → (ix a i).length = n + 1) (hk : k < n + 1) : dt n (tf (minL a k n)) = dt n (fun i j => tf a (i + 1) (if j < k then j else j + 1)) := by
  apply dt_congr
  intro i j hi hj
  have h1 := hr (i + 1) (by omega)
  show (ix (ix (minL a k n) i) j).v = (ix (ix a (i + 1)) (if j < k then j else j + 1)).v
  rw [minL_ix hi, minR_ix (by omega) (by omega)]
theorem minL_rows {a : List (List RQ)} {n k : Nat} (hr : ∀ i, i < n + 1 → (ix a i).length = n + 1) (hk : k < n + 1) : ∀ i, i < n → (ix (minL a k n) i).length = n := by
  intro i hi
  have h1 := hr (i + 1) (by omega)
  rw [minL_ix hi, minR_len (by omega), h1]; rfl
theorem minL_ok {a : List (List RQ)} {n k b : Nat} (hn : a.length = n + 1) (ha : ∀ r ∈ a, ∀ x ∈ r, x.ok b) : ∀ r ∈ minL a k n, ∀ x ∈ r, x.ok b := by
  intro r hr x hx
  obtain ⟨i, hi, rfl⟩ := List.getElem_of_mem hr
  rw [minL_len] at hi
  rw [← ix_get (by simpa using hi), minL_ix hi] at hx
  unfold minR at hx
  rcases List.mem_append.1 hx with h | h
  · exact ha _ (ix_mem (by omega)) x (List.mem_of_mem_take h)
  · exact ha _ (ix_mem (by omega)) x (List.mem_of_mem_drop h)
theorem tf_b1 {a : List (List RQ)} {n b : Nat} (hn : a.length = n) (hr : ∀ i, i < n → (ix a i).length = n) (ha : ∀ r ∈ a, ∀ x ∈ r, x.ok b) (hb : 1 ≤ b) : ∀ i j, i < n → j < n → Bq b (tf a i j) := fun i j hi hj => by
  have h1 := hr i hi
  exact Bq.v (ha _ (ix_mem (by omega)) _ (ix_mem (by omega))) hb
theorem det_b0 (hz : TzOk nv) (n : Nat) (a : List (List RQ)) (hn4 : n ≤ 3) (hn : a.length = n + 1) (hr : ∀ i, i < n + 1 → (ix a i).length = n + 1) (ha : ∀ r ∈ a, ∀ x ∈ r, x.ok 1)
    (ih : ∀ k, k < n + 1 → ∃ μ, EX ip nv (.call F.dendronlaw05_det [.d (.sl 1 (el (minL a k n)))] []) = some (.ret (.d (.ag (can (dt n (tf (minL a k n)))).c)) μ)) (B2 : Blk) :
    ∃ z e μ, EX ip nv (.code (.loop [] [] dendronlaw05_det.b0) [(0, .d (.sl 1 (el a))), (2, .ptr 2 0), (3, .ptr 3 0), (4, .d (.int .i64 0))] [(2, B2), (3, ⟨0, true, (can 0).c⟩)]) = some (.st z e μ) ∧ z ≠ .normal ∧
      ∃ H c, Hp H ∧ cntOf H = 1099511627776 + c ∧ z = .exit 0 ∧ e = [(0, .d (.sl 1 (el a))), (2, .ptr 2 0), (3, .ptr 3 0), (4, .d (.int .i64 ((n : Int) + 1))), (16, .d (.bool false))] ∧ μ = ((2, B2) :: (3, ⟨0, true, (can (dt (n + 1) (tf a))).c⟩) :: H) := by
  obtain ⟨hb1, hb2, hb3⟩ := dt_b (n + 1) (f := tf a) (tf_b1 hn hr ha (Nat.le_refl 1))
  have hdB := dB_le (n := n) (by omega)
  simp only [Nat.add_sub_cancel] at hb2 hb3
  refine loop_n (n + 1) (fun k e μ => ∃ H c, Hp H ∧ cntOf H = 1099511627776 + c ∧ e = [(0, .d (.sl 1 (el a))), (2, .ptr 2 0), (3, .ptr 3 0), (4, .d (.int .i64 (k : Int)))] ∧ μ = ((2, B2) :: (3, ⟨0, true, (can (sm k (dterm n (tf a)))).c⟩) :: H)) ?_ ?_ ⟨[], 0, Hp.nil, rfl, rfl, rfl⟩
  · rintro k e μ hk ⟨H, c, hp, hcn, rfl, rfl⟩
    have hkl : k < a.length := by omega
    have h0l : 0 < a.length := by omega
    have hr0 := hr 0 (by omega)
    obtain ⟨_, _, _, l2, -, H', c', rfl, rfl, rfl, hp', hcn'⟩ := det_b2 (nv := nv) a n k hn hn4 (fun i hi => hr i (by omega)) hk B2 ⟨0, true, (can (sm k (dterm n (tf a)))).c⟩ hp hcn
    obtain ⟨ν, hd⟩ := ih k hk
    rw [minL_tf hn hr hk] at hd
    have hm1 : ((k : Int) % 2 = 1) ↔ k % 2 = 1 := by omega
    have hdm := (dt_b n (f := fun i j => tf a (i + 1) (if j < k then j else j + 1)) (fun i j hi hj => tf_b1 hn hr ha (Nat.le_refl 1) _ _ (by omega) (by split <;> omega))).1
    have hml := minL_len a k n
    have hpos := dB_pos n
    have m1 := rmul_ev (nv := nv) hz (ix (ix a 0) k) (can (dt n (fun i j => tf a (i + 1) (if j < k then j else j + 1)))) (ha _ (ix_mem h0l) _ (ix_mem (by omega))) (can_ok hdm) (by decide) hpos (by omega)
    rw [can_v, show (ix (ix a 0) k).v = tf a 0 k from rfl] at m1
    have hP := hb2 k hk
    have hS := hb3 k (by omega)
    have hk4 : k * (1 + dB n + 1) ≤ 3 * (1 + dB n + 1) := Nat.mul_le_mul_right _ (by omega)
    have hkl2 : k < (ix a 0).length := by omega
    have hst : sm (k + 1) (dterm n (tf a)) = sm k (dterm n (tf a)) + dterm n (tf a) k := rfl
    have hg : cntOf H' = 1099511627776 + c' := hcn'
    by_cases hodd : k % 2 = 1
    · have hd2 : dterm n (tf a) k = -(tf a 0 k * dt n (fun i j => tf a (i + 1) (if j < k then j else j + 1))) := if_pos hodd
      rw [hd2] at hst
      generalize dt n (fun i j => tf a (i + 1) (if j < k then j else j + 1)) = D at *
      generalize tf a 0 k * D = P at *
      have ng := rneg_ev (nv := nv) hz (can P) (can_ok hP) (by omega) (by omega)
      have ad := radd_ev (nv := nv) hz (can (sm k (dterm n (tf a)))) (can (-P)) (can_ok hS) (can_ok hP.neg) (by omega) (by omega) (by omega)
      rw [can_v] at ng
      rw [can_v, can_v, ← hst] at ad
      refine .inl ⟨_, _, ?_, H', c', hp', hcn', rfl, rfl⟩
      have hm2 : (k : Int).tmod 2 = 1 := by rw [Int.tmod_eq_emod_of_nonneg (by omega)]; omega
      generalize minL a k n = M at *
      generalize can (sm (k + 1) (dterm n (tf a))) = S' at *
      generalize can (sm k (dterm n (tf a))) = S at *
      generalize can (-P) = P' at *
      generalize can P = P0 at *
      generalize can D = D0 at *
      generalize hr0' : ix a 0 = row at *
      simp (disch := omega) [-vIA_o, dendronlaw05_det.b0, hkl, h0l, hkl2, l2, hd, m1, ng, ad, hm2, hml, hp'.aget, hp'.aput, hp'.adel, hp.aget, hp.aput, hp.adel, hr0']
    · have hd2 : dterm n (tf a) k = tf a 0 k * dt n (fun i j => tf a (i + 1) (if j < k then j else j + 1)) := if_neg hodd
      rw [hd2] at hst
      generalize dt n (fun i j => tf a (i + 1) (if j < k then j else j + 1)) = D at *
      generalize tf a 0 k * D = P at *
      have ad := radd_ev (nv := nv) hz (can (sm k (dterm n (tf a)))) (can P) (can_ok hS) (can_ok hP) (by omega) (by omega) (by omega)
      rw [can_v, can_v, ← hst] at ad
      refine .inl ⟨_, _, ?_, H', c', hp', hcn', rfl, rfl⟩
      have hm2 : (k : Int).tmod 2 = 0 := by rw [Int.tmod_eq_emod_of_nonneg (by omega)]; omega
      generalize minL a k n = M at *
      generalize can (sm (k + 1) (dterm n (tf a))) = S' at *
      generalize can (sm k (dterm n (tf a))) = S at *
      generalize can P = P0 at *
      generalize can D = D0 at *
      generalize hr0' : ix a 0 = row at *
      simp (disch := omega) [-vIA_o, dendronlaw05_det.b0, hkl, h0l, hkl2, l2, hd, m1, ad, hm2, hml, hp'.aget, hp'.aput, hp'.adel, hp.aget, hp.aput, hp.adel, hr0']
  · rintro e μ ⟨H, c, hp, hcn, rfl, rfl⟩
    refine ⟨.exit 0, _, _, ?_, by simp, H, c, hp, hcn, rfl, rfl, rfl⟩
    have hlt : ¬ (n : Int) + 1 < (a.length : Int) := by omega
    simp (disch := omega) [dendronlaw05_det.b0, hlt, dt]
    rfl
theorem det5_ev (hz : TzOk nv) : ∀ (n : Nat) (a : List (List RQ)), n ≤ 4 → a.length = n → (∀ i, i < n → (ix a i).length = n) → (∀ r ∈ a, ∀ x ∈ r, x.ok 1) →
    ∃ μ, EX ip nv (.call F.dendronlaw05_det [.d (.sl 1 (el a))] []) = some (.ret (.d (.ag (can (dt n (tf a))).c)) μ)
  | 0, a, _, hn, _, _ => by
    obtain rfl : a = [] := List.eq_nil_of_length_eq_zero hn
    rw [S_call dendronlaw05_det.ip rfl]
    have one := rone_ev (nv := nv)
    have e0 : dt 0 (tf []) = 1 := rfl
    rw [e0]
    generalize can 1 = q at *
    refine ⟨[], ?_⟩
    simp [dendronlaw05_det, one]
  | n + 1, a, hn4, hn, hr, ha => by
    rw [S_call dendronlaw05_det.ip rfl]
    have zero := zero_ev (nv := nv)
    obtain ⟨_, _, _, l0, -, H, c, hp, hcn, rfl, rfl, rfl⟩ := det_b0 (nv := nv) hz n a (by omega) hn hr ha (fun k hk => det5_ev hz n (minL a k n) (by omega) (minL_len _ _ _) (minL_rows hr hk) (minL_ok hn ha)) ⟨0, true, [.bool false, .sl 1 [], .sl 1 []]⟩
    have hne : ¬ a.length = 0 := by omega
    generalize can (dt (n + 1) (tf a)) = q at *
    generalize can 0 = z at *
    refine ⟨H, ?_⟩
    simp [dendronlaw05_det, zero, hne, l0, hp.aget, hp.adel, hp.aput, hp.keeps]
end
end Go.Proofs.YtbghnfhfekfenaaDoor
