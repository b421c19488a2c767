/- What comes nearest to a system, as the program finds it. -/
import Derived.Test.YtgigaimaaijalaaGreatDoorXp
set_option linter.unusedSimpArgs false
set_option linter.unusedVariables false
namespace Go.Proofs.YtgigaimaaijalaaGreatDoor
open Go Go.Proofs.R
set_option maxRecDepth 10000
theorem hp_adels {H : Mem} (h : Hp H) : ∀ l, Hp (adels l H)
  | [] => h
  | c :: r => hp_adels h.del r
theorem cnt_adels : ∀ (l : List Nat) {H : Mem}, (∀ c ∈ l, 1099511627776 ≤ c) → cntOf (adels l H) = cntOf H
  | [], _, _ => rfl
  | c :: r, H, h => by
    show cntOf (adels r (adel c H)) = _
    rw [cnt_adels r fun x hx => h x (List.mem_cons_of_mem _ hx)]
    have := h c List.mem_cons_self
    exact cntOf_low (aget_adel_ne (by omega) _)
theorem refs_hi : ∀ (l : List D) {c : Nat}, c ∈ heapRefs l → 1099511627776 ≤ c
  | [], _, h => by cases h
  | .ref b k o n :: r, c, h => by
    simp only [heapRefs] at h
    split at h
    · rcases List.mem_cons.1 h with e | h
      · omega
      · exact refs_hi r h
    · exact refs_hi r h
  | .int _ _ :: r, c, h => refs_hi r (by simpa only [heapRefs] using h)
  | .bool _ :: r, c, h => refs_hi r (by simpa only [heapRefs] using h)
  | .str _ :: r, c, h => refs_hi r (by simpa only [heapRefs] using h)
  | .raw _ :: r, c, h => refs_hi r (by simpa only [heapRefs] using h)
  | .sl _ _ :: r, c, h => refs_hi r (by simpa only [heapRefs] using h)
  | .ag _ :: r, c, h => refs_hi r (by simpa only [heapRefs] using h)
/-- A table on the heap becomes data. -/
theorem frz_tab {H : Mem} {n T : Nat} {ids : Nat → Nat} {R C : Nat} {f : Tb} (h : HT H n T ids R C f) {t : Nat} {e : Env} (he : aget e t = some (.own (1099511627776 + T) 1 0 R)) :
    ∃ H', frz t e H = some (aput t (.d (.sl 1 (el (tbl R C f)))) e, H') ∧ Hp H' ∧ cntOf H' = 1099511627776 + n := by
  unfold frz
  rw [he]
  simp only [Option.bind_some]
  rw [if_pos (Nat.le_add_right _ _), h.tab]
  simp only [Option.bind_some]
  rw [h.deep]
  simp only [Option.bind_some]
  rw [if_pos (by simp)]
  refine ⟨_, rfl, hp_adels h.hp _, ?_⟩
  rw [cnt_adels, h.cnt]
  intro c hc
  rcases List.mem_cons.1 hc with rfl | hc
  · omega
  · exact refs_hi _ hc
/-- Is there a weight below 0? -/
def negW (w : List RQ) : Prop := ∃ i, i < w.length ∧ (ix w i).v < 0
theorem sign_neg (q : Rat) : q.num.sign < 0 ↔ q < 0 := by
  have h1 : q.num.sign < 0 ↔ q.num < 0 := by
    rcases Int.lt_trichotomy q.num 0 with h | h | h
    · rw [Int.sign_eq_neg_one_of_neg h]; simp [h]
    · rw [h]; simp
    · rw [Int.sign_eq_one_of_pos h]; omega
  have h2 : 0 ≤ q.num ↔ 0 ≤ q := Rat.num_nonneg
  rw [h1, ← Rat.not_le, ← h2]; omega
section
variable {nv : R.Nv}
theorem least_b0 (hz : TzOk nv) (A B : D) (w : List RQ) (C : Int) {k : Nat} (hw : ∀ x ∈ w, x.ok k) (hk : 1 ≤ k) (hk1 : k ≤ 1073741824) (hl : w.length ≤ 1000000) :
    ∃ z e μ, EX ip nv (.code (.loop [] [] solve_Least.b0) [(0, .d A), (1, .d B), (2, .d (.sl 3 (el w))), (9, .d (.int .i64 C)), (42, .d (.sl 3 (el w))), (43, .d (.int .i64 (w.length : Int))), (44, .d (.int .i64 0))] []) = some (.st z e μ) ∧ z ≠ .normal ∧
      ((z = .ret ∧ negW w ∧ e = [(6, .d (.sl 3 [])), (7, .d (.int .i64 8))] ∧ μ = []) ∨
       (z = .exit 0 ∧ ¬ negW w ∧ e = [(0, .d A), (1, .d B), (2, .d (.sl 3 (el w))), (9, .d (.int .i64 C)), (42, .d (.sl 3 (el w))), (43, .d (.int .i64 (w.length : Int))), (44, .d (.int .i64 (w.length : Int))), (45, .d (.bool false))] ∧ μ = [])) := by
  refine loop_n w.length (fun i e μ => (∀ j, j < i → ¬ (ix w j).v < 0) ∧ e = [(0, .d A), (1, .d B), (2, .d (.sl 3 (el w))), (9, .d (.int .i64 C)), (42, .d (.sl 3 (el w))), (43, .d (.int .i64 (w.length : Int))), (44, .d (.int .i64 (i : Int)))] ∧ μ = []) ?_ ?_ ⟨fun j h => by omega, rfl, rfl⟩
  · rintro i e μ hi ⟨hj, rfl, rfl⟩
    have sg := rsign_ev (nv := nv) hz (ix w i) (hw _ (ix_mem hi)) hk hk1
    have hsn := sign_neg (ix w i).v
    by_cases h0 : (ix w i).v < 0
    · refine .inr ⟨.ret, _, _, ?_, by simp, .inl ⟨rfl, ⟨i, hi, h0⟩, rfl, rfl⟩⟩
      have hs := hsn.2 h0
      generalize (ix w i).v.num.sign = sn at *
      generalize hx : ix w i = x at *
      simp (disch := omega) [-vIA_o, solve_Least.b0, hi, hx, sg, hs]
    · refine .inl ⟨_, _, ?_, fun j h => ?_, rfl, rfl⟩
      · have hs : ¬ (ix w i).v.num.sign < 0 := fun h => h0 (hsn.1 h)
        generalize (ix w i).v.num.sign = sn at *
        generalize hx : ix w i = x at *
        simp (disch := omega) [-vIA_o, solve_Least.b0, hi, hx, sg, hs]
      · by_cases e : j = i
        · rw [e]; exact h0
        · exact hj j (by omega)
  · rintro e μ ⟨hj, rfl, rfl⟩
    refine ⟨.exit 0, _, _, ?_, by simp, .inr ⟨rfl, fun ⟨i, h1, h2⟩ => hj i h1 h2, rfl, rfl⟩⟩
    simp [solve_Least.b0]
/-- A row's numbers, each so many times. -/
theorem least_b4 (hz : TzOk nv) {n T : Nat} {ids : Nat → Nat} {R C : Nat} {f : Tb} {k : Nat} (A B : D) (w : List RQ) {r : Nat} (hr : r < R) (hb : ∀ i, i < C → Bq k (f r i)) (hw : ∀ x ∈ w, x.ok k) (hk : 1 ≤ k) (hk1 : 2 * k ≤ 1073741824) (hC : C ≤ 1000000) (hR : R ≤ 1000000) (hwl : w.length = C)
    {H : Mem} (h : HT H n T ids R C f) :
    ∃ z e μ, EX ip nv (.code (.loop [] [] solve_Least.b4) [(0, .d A), (1, .d B), (2, .d (.sl 3 (el w))), (13, .own (1099511627776 + T) 1 0 R), (15, .d (.int .i64 (r : Int))), (60, .d (.int .i64 (R : Int))), (61, .d (.int .i64 (r : Int))), (68, .d (.int .i64 (C : Int))), (69, .d (.int .i64 0))] H) = some (.st z e μ) ∧ z ≠ .normal ∧
      z = .exit 4 ∧ e = [(0, .d A), (1, .d B), (2, .d (.sl 3 (el w))), (13, .own (1099511627776 + T) 1 0 R), (15, .d (.int .i64 (r : Int))), (60, .d (.int .i64 (R : Int))), (61, .d (.int .i64 (r : Int))), (68, .d (.int .i64 (C : Int))), (69, .d (.int .i64 (C : Int))), (70, .d (.bool false))] ∧
        HT μ n T ids R C (rwAt f r (fun i => f r i * (ix w i).v)) := by
  refine loop_n C (fun i e μ => HT μ n T ids R C (rwAt f r (mx' i (fun i => f r i * (ix w i).v) (f r))) ∧ e = [(0, .d A), (1, .d B), (2, .d (.sl 3 (el w))), (13, .own (1099511627776 + T) 1 0 R), (15, .d (.int .i64 (r : Int))), (60, .d (.int .i64 (R : Int))), (61, .d (.int .i64 (r : Int))), (68, .d (.int .i64 (C : Int))), (69, .d (.int .i64 (i : Int)))]) ?_ ?_ ⟨by rw [mx_zero, rwAt_id]; exact h, rfl⟩
  · rintro i e H' hi ⟨h', rfl⟩
    have hiw : i < w.length := by omega
    have ht := h'.tab
    have hrow := h'.row r hr
    rw [rwAt_same] at hrow
    have hget := refs_get (ids := ids) (C := C) hr
    have hix := rw_ix (mx' i (fun i => f r i * (ix w i).v) (f r)) hi
    rw [mx_at] at hix
    have hlen := rw_len C (mx' i (fun i => f r i * (ix w i).v) (f r))
    have ml := rmul_ev (nv := nv) hz (can (f r i)) (ix w i) (can_ok (hb i hi)) (hw _ (ix_mem hiw)) hk hk (by omega)
    rw [can_v] at ml
    have hp := h'.put hr (mx' (i + 1) (fun i => f r i * (ix w i).v) (f r))
    rw [rwAt_rwAt, ← mx_set] at hp
    refine .inl ⟨_, _, ?_, hp, rfl⟩
    generalize mx' i (fun i => f r i * (ix w i).v) (f r) = g at *
    generalize can (f r i * (ix w i).v) = q2 at *
    generalize can (f r i) = q1 at *
    generalize hx : ix w i = x at *
    simp (disch := omega) [-vIA_o, solve_Least.b4, ht, hrow, hget, hix, hi, hiw, hx, hr, ml, h'.hp.aget, h'.hp.adel]
  · rintro e μ ⟨h', rfl⟩
    exact ⟨.exit 4, _, _, by simp [solve_Least.b4] <;> first | rfl | exact ⟨rfl, rfl⟩, by simp, rfl, rfl, h'.congr (fun j k hj hk => by
      by_cases e : j = r
      · rw [e, rwAt_same, rwAt_same, mx_all _ _ hk]
      · rw [rwAt_ne _ _ e, rwAt_ne _ _ e])⟩
/-- A table whose first rows count so many times. -/
def wtI (f : Tb) (w : List RQ) (r : Nat) : Tb := fun j i => if j < r then f j i * (ix w i).v else f j i
theorem least_b2 (hz : TzOk nv) {n T : Nat} {ids : Nat → Nat} {R C : Nat} {f : Tb} {k : Nat} (A B : D) (w : List RQ) (hb : ∀ r i, r < R → i < C → Bq k (f r i)) (hw : ∀ x ∈ w, x.ok k) (hk : 1 ≤ k) (hk1 : 2 * k ≤ 1073741824) (hC : C ≤ 1000000) (hR : R ≤ 1000000) (hwl : w.length = C)
    {H : Mem} (h : HT H n T ids R C f) :
    ∃ z e μ, EX ip nv (.code (.loop [] [] solve_Least.b2) [(0, .d A), (1, .d B), (2, .d (.sl 3 (el w))), (13, .own (1099511627776 + T) 1 0 R), (60, .d (.int .i64 (R : Int))), (61, .d (.int .i64 0))] H) = some (.st z e μ) ∧ z ≠ .normal ∧
      z = .exit 2 ∧ e = [(0, .d A), (1, .d B), (2, .d (.sl 3 (el w))), (13, .own (1099511627776 + T) 1 0 R), (60, .d (.int .i64 (R : Int))), (61, .d (.int .i64 (R : Int))), (62, .d (.bool false))] ∧
        HT μ n T ids R C (fun j i => f j i * (ix w i).v) := by
  refine loop_n R (fun r e μ => HT μ n T ids R C (wtI f w r) ∧ e = [(0, .d A), (1, .d B), (2, .d (.sl 3 (el w))), (13, .own (1099511627776 + T) 1 0 R), (60, .d (.int .i64 (R : Int))), (61, .d (.int .i64 (r : Int)))]) ?_ ?_ ⟨h.congr fun j i _ _ => by unfold wtI; rw [if_neg (Nat.not_lt_zero j)], rfl⟩
  · rintro r e H' hr ⟨h', rfl⟩
    have hrw : ∀ i, wtI f w r r i = f r i := fun i => by unfold wtI; rw [if_neg (Nat.lt_irrefl r)]
    obtain ⟨_, _, H2, l4, -, rfl, rfl, h2⟩ := least_b4 (nv := nv) hz A B w hr (fun i hi => by rw [hrw]; exact hb r i hr hi) hw hk hk1 hC hR hwl h'
    have ht := h'.tab
    have hrow := h'.row r hr
    have hget := refs_get (ids := ids) (C := C) hr
    have hlen := rw_len C (wtI f w r r)
    refine .inl ⟨_, H2, ?_, h2.congr fun j i hj hi => ?_, rfl⟩
    · generalize rw' C (wtI f w r r) = row at *
      simp (disch := omega) [-vIA_o, solve_Least.b2, ht, hrow, hget, hlen, hr, l4, h'.hp.aget, h'.hp.adel, h2.hp.adel]
    · by_cases e : j = r
      · rw [e, rwAt_same, hrw]
        unfold wtI; rw [if_pos (Nat.lt_succ_self r)]
      · rw [rwAt_ne _ _ e]
        unfold wtI
        by_cases e2 : j < r
        · rw [if_pos e2, if_pos (by omega)]
        · rw [if_neg e2, if_neg (by omega)]
  · rintro e μ ⟨h', rfl⟩
    exact ⟨.exit 2, _, _, by simp [solve_Least.b2] <;> first | rfl | exact ⟨rfl, rfl⟩, by simp, rfl, rfl, h'.congr fun j i hj hi => by unfold wtI; rw [if_pos hj]⟩
/-- The columns, as they weigh; the equations; their right side; what is told. -/
def lsT (a : List (List RQ)) (w : List RQ) : List (List RQ) := tbl (colsN a) a.length fun k i => tf a i k * (ix w i).v
def lsN (a : List (List RQ)) (w : List RQ) : List (List RQ) := tbl (colsN a) (colsN a) (mulF (lsT a w) a)
def lsC (a : List (List RQ)) (b w : List RQ) : List RQ := rw' (colsN a) (apS (lsT a w) b)
def lsX (a : List (List RQ)) (b w : List RQ) : List RQ := rw' (colsN a) (apS (invT (lsN a w)) (lsC a b w))
theorem lsN_len (a : List (List RQ)) (w : List RQ) : (lsN a w).length = colsN a := tbl_len _ _ _
theorem lsT_len (a : List (List RQ)) (w : List RQ) : (lsT a w).length = colsN a := tbl_len _ _ _
theorem lsC_len (a : List (List RQ)) (b w : List RQ) : (lsC a b w).length = colsN a := rw_len _ _
theorem tbl_row {R C : Nat} {f : Tb} : ∀ r ∈ tbl R C f, r.length = C := by
  intro r hr
  obtain ⟨i, hi, rfl⟩ := List.getElem_of_mem hr
  rw [tbl_len] at hi
  rw [← ix_get (by simpa using hi), tbl_ix hi, rw_len]
theorem sm_b {n k : Nat} {f : Nat → Rat} (h : ∀ i, i < n → Bq k (f i)) (m : Nat) (hm : m ≤ n) : Bq (1 + m * (k + 1)) (sm m f) := by
  induction m with
  | zero => exact Bq.zero.mono (by omega)
  | succ m ih => exact ((ih (by omega)).add (h m (by omega))).mono (by rw [Nat.add_mul]; omega)
set_option maxHeartbeats 2000000 in
theorem least_h (hz : TzOk nv) (a : List (List RQ)) (b w : List RQ) {k m : Nat} (ha : ∀ r ∈ a, ∀ x ∈ r, x.ok k) (hb : ∀ x ∈ b, x.ok k) (hw : ∀ x ∈ w, x.ok k) (hk : 1 ≤ k) (hm : 1 + (a.length + 1) * (3 * k + 1) ≤ m) (hbig : 5 * ((colsN a + 1) * (5 ^ colsN a * m + m + 1)) ≤ 1073741823)
    (hr : rectB a = true) (hbl : b.length = a.length) (hwl : w.length = a.length) (hl : a.length ≤ 1000) (hC : colsN a ≤ 1000) (hC0 : 0 < colsN a) (hnw : ¬ negW w) (hld : ¬ (invS (lsN a w)).lead.length < colsN a) :
    ∃ H, EX ip nv (.call F.solve_Least [.d (.sl 1 (el a)), .d (.sl 3 (el b)), .d (.sl 3 (el w))] []) = some (.ret (.tp [.own 117 3 0 (colsN a), .d (.int .i64 0)]) ((117, ⟨0, false, el (lsX a b w)⟩) :: H)) ∧ Hp H := by
  rw [S_call solve_Least.ip rfl]
  have hR0 : 0 < a.length := by
    refine Nat.pos_of_ne_zero fun e => ?_
    rw [List.length_eq_zero_iff.1 e] at hC0
    exact absurd hC0 (by decide)
  have h5 : 1 ≤ 5 ^ colsN a := Nat.pow_pos (by decide)
  have h5m : m ≤ 5 ^ colsN a * m := Nat.le_mul_of_pos_left m h5
  have hbig2 : 5 ^ colsN a * m + m + 1 ≤ (colsN a + 1) * (5 ^ colsN a * m + m + 1) := Nat.le_mul_of_pos_left _ (by omega)
  have hmk : 2 * (3 * k + 1) ≤ (a.length + 1) * (3 * k + 1) := Nat.mul_le_mul_right _ (by omega)
  have sz := size_ev (nv := nv) a (by omega)
  unfold sizeV at sz
  rw [if_pos hr] at sz
  obtain ⟨_, _, _, l0, -, hz0⟩ := least_b0 (nv := nv) hz (.sl 1 (el a)) (.sl 3 (el b)) w (colsN a : Int) hw hk (by omega) (by omega)
  rcases hz0 with ⟨_, hn, _⟩ | ⟨rfl, -, rfl, rfl⟩
  · exact absurd hn hnw
  obtain ⟨H, fl, hH⟩ := flip_ev (nv := nv) hz a ha (by omega) (by omega) hr (by omega)
  have hT := hH.ht
  obtain ⟨_, _, H2, l2, -, rfl, rfl, h2⟩ := least_b2 (nv := nv) hz (.sl 1 (el a)) (.sl 3 (el b)) w (fun r i hr' hi => tf_b ha hk hr i r hi hr') hw hk (by omega) (by omega) (by omega) hwl hT
  obtain ⟨H3, fz, hp3, hc3⟩ := frz_tab h2 (t := 13) (e := [(0, .d (.sl 1 (el a))), (1, .d (.sl 3 (el b))), (2, .d (.sl 3 (el w))), (13, .own (1099511627776 + colsN a) 1 0 (colsN a)), (60, .d (.int .i64 (colsN a : Int))), (61, .d (.int .i64 (colsN a : Int))), (62, .d (.bool false))]) rfl
  have hTok : ∀ r ∈ lsT a w, ∀ x ∈ r, x.ok (k + k) := tbl_mem_ok fun j i hj hi => (tf_b ha hk hr i j hi hj).mul (Bq.v (hw _ (ix_mem (by omega))) hk)
  have hTr : rectB (lsT a w) = true := tbl_rect _ _ _
  have hTc : colsN (lsT a w) = a.length := tbl_cols _ _ hC0
  have hTl := lsT_len a w
  have e3 : k + (k + k) + 1 = 3 * k + 1 := by omega
  have ml := tmul_ev (nv := nv) hz (lsT a w) a hTok ha (by omega) hk hTr hr hTc (by omega) (by omega) (by omega) (by rw [e3]; omega)
  rw [hTl] at ml
  have hTrow : ∀ r ∈ lsT a w, r.length = b.length := fun r hr' => by rw [tbl_row r hr', hbl]
  have ap := apply_h (nv := nv) hz (lsT a w) b hTok hb (by omega) hk (by omega) (fun r hr' => by rw [hTrow r hr']; omega) (by omega) (by rw [hbl, show k + k + k + 1 = 3 * k + 1 by omega]; omega) hTrow hp3
  rw [hTl] at ap
  have hNb : ∀ j i, j < colsN a → i < colsN a → Bq m (mulF (lsT a w) a j i) := fun j i hj hi => by
    unfold mulF
    rw [hTc]
    refine (sm_b (n := a.length) (k := 3 * k) (fun q hq => ?_) a.length (Nat.le_refl _)).mono ?_
    · refine ((tf_b ha hk hr q i hq hi).mul ?_).mono (by omega : k + (k + k) ≤ 3 * k)
      exact tf_b hTok (by omega) hTr j q (by omega) (by omega)
    · have : a.length * (3 * k + 1) ≤ (a.length + 1) * (3 * k + 1) := Nat.mul_le_mul_right _ (by omega)
      omega
  have hNok : ∀ r ∈ lsN a w, ∀ x ∈ r, x.ok m := tbl_mem_ok hNb
  have hNl := lsN_len a w
  have hNr : rectB (lsN a w) = true := tbl_rect _ _ _
  have hNc : colsN (lsN a w) = (lsN a w).length := by rw [hNl]; exact tbl_sq _ _
  have iv := inverse_ev (nv := nv) hz (lsN a w) hNok (by omega) (by rw [hNl]; omega) (by omega) hNr hNc
  rw [hNl] at iv
  have hCl := lsC_len a b w
  have hCok : ∀ x ∈ lsC a b w, x.ok m := by
    intro x hx
    obtain ⟨j, hj, rfl⟩ := List.getElem_of_mem hx
    rw [hCl] at hj
    rw [← ix_get (by omega)]
    unfold lsC
    rw [rw_ix _ hj]
    refine can_ok ((sm_b (n := b.length) (k := 3 * k) (fun q hq => ?_) b.length (Nat.le_refl _)).mono ?_)
    · refine ((Bq.v (hTok _ (ix_mem (by omega)) _ (ix_mem ?_)) (by omega)).mul (Bq.v (hb _ (ix_mem hq)) hk)).mono (by omega : k + k + k ≤ 3 * k)
      rw [hTrow _ (ix_mem (by omega))]; exact hq
    · have : b.length * (3 * k + 1) ≤ (a.length + 1) * (3 * k + 1) := Nat.mul_le_mul_right _ (by omega)
      omega
  have hIl : (invT (lsN a w)).length = colsN a := by unfold invT; rw [tbl_len, hNl]
  have hIrow : ∀ r ∈ invT (lsN a w), r.length = (lsC a b w).length := fun r hr' => by rw [tbl_row r hr', hNl, hCl]
  have hsb : ∀ i j, i < (lsN a w).length → j < (lsN a w).length + (lsN a w).length → Bq m (besF (lsN a w).length (tf (lsN a w)) unitF i j) := fun i j hi hj => by
    unfold besF
    split
    · exact tf_b hNok (by omega) hNr i j hi (by omega)
    · exact unit_b.mono (by omega)
  obtain ⟨fB, _⟩ := run_b hsb (by omega) (lsN a w).length (Nat.le_add_right _ _)
  have hIok : ∀ r ∈ invT (lsN a w), ∀ y ∈ r, y.ok (5 ^ colsN a * m) := tbl_mem_ok fun i j hi hj => by
    have := fB i ((lsN a w).length + j) hi (by omega)
    have e5 : 5 ^ (lsN a w).length * m = 5 ^ colsN a * m := by rw [hNl]
    rw [e5] at this
    exact this
  have ap2 := apply_h (nv := nv) hz (invT (lsN a w)) (lsC a b w) hIok hCok (by omega) (by omega) (by omega) (fun r hr' => by rw [hIrow r hr']; omega) (by omega) (by rw [hCl]; omega) hIrow hp3
  rw [hIl] at ap2
  rw [hwl] at l0
  have ht := hT.tab
  have hCi : ¬ (colsN a : Int) = 0 := by omega
  have hCn : ¬ colsN a = 0 := by omega
  have hpn : hpart [] = [] := rfl
  have hnn : npart [] = [] := rfl
  rw [show tbl (colsN a) (colsN a) (mulF (lsT a w) a) = lsN a w from rfl] at ml
  rw [show rw' (colsN a) (apS (lsT a w) b) = lsC a b w from rfl] at ap
  rw [show rw' (colsN a) (apS (invT (lsN a w)) (lsC a b w)) = lsX a b w from rfl] at ap2
  rw [show (tbl (colsN a) a.length fun k i => tf a i k * (ix w i).v) = lsT a w from rfl] at fz
  rw [if_neg hld, if_neg hld] at iv
  refine ⟨H3, ?_, hp3⟩
  have tkC : List.take (colsN a) (lsC a b w) = lsC a b w := List.take_of_length_le (by omega)
  generalize lsX a b w = X at *
  generalize invT (lsN a w) = I at *
  generalize lsT a w = T at *
  generalize lsC a b w = c at *
  generalize lsN a w = N at *
  simp (disch := omega) [-vIA_o, solve_Least, sz, l0, fl, hpn, hnn, hT.hp.hpart, hT.hp.npart, hT.hp.aget, hT.hp.aput, hT.hp.adel, hpart_cons, npart_cons, l2, fz, ml, ap, iv, ap2, h2.hp.aget, h2.hp.adel, hp3.aget, hp3.adel, hp3.aput, hp3.hpart, hp3.npart, hp3.keeps, tkC, hCl, hbl, hwl, hCi, hCn, ht]
end
end Go.Proofs.YtgigaimaaijalaaGreatDoor
