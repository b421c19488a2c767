/- SolveInverses: what the statement computes. -/
import Derived.Test.YtbghnfhfekfenaaDoorTp
import Derived.Test.YtbghnfhfekfenaaDoorTi
set_option linter.unusedSimpArgs false
set_option linter.unusedVariables false
namespace Go.Proofs.YtbghnfhfekfenaaDoor
open Go Go.Proofs.R
set_option maxRecDepth 10000
theorem tbl_rect (R C : Nat) (f : Tb) : rectB (tbl R C f) = true := by
  apply is_rect
  intro j hj
  rw [tbl_len] at hj
  rw [tbl_ix hj, tbl_ix (by omega), rw_len, rw_len]
theorem tbl_cols {R : Nat} (C : Nat) (f : Tb) (h : 0 < R) : colsN (tbl R C f) = C := by
  unfold colsN; rw [tbl_ix h, rw_len]
theorem tbl_sq (n : Nat) (f : Tb) : colsN (tbl n n f) = n := by
  by_cases h : 0 < n
  · exact tbl_cols n f h
  · obtain rfl : n = 0 := by omega
    rfl
theorem tf_tbl {R C i k : Nat} (f : Tb) (hi : i < R) (hk : k < C) : tf (tbl R C f) i k = f i k := by
  unfold tf; rw [tbl_ix hi, rw_ix _ hk, can_v]
section
variable {nv : R.Nv}
theorem unit_same (hz : TzOk nv) (n : Nat) (hn : n ≤ 1000) (f : Tb) (hf : ∀ i k, i < n → k < n → f i k = unitF i k) :
    EX ip nv (.call F.dendronlaw05_tables [.d (.sl 1 (el (tbl n n f))), .d (.sl 1 (el (tbl n n unitF)))] []) = some (.ret (.d (.bool true)) []) :=
  tables5_ev (nv := nv) hz (tbl n n f) (tbl n n unitF) (j := 1) (k := 1) (by simp) (fun i hi => by
    rw [tbl_len] at hi
    refine ⟨f i, by rw [tbl_ix hi, tbl_ix hi, rw_len], fun q hq => ?_⟩
    rw [tbl_ix hi, rw_len] at hq
    rw [hf i q hi hq, tbl_ix hi, rw_ix _ hq, can_v]
    exact ⟨unit_b, rfl⟩) (tbl_mem_ok fun i j _ _ => unit_b) (by decide) (by decide) (by decide) (by simp; omega) (fun r hr => by
    obtain ⟨i, hi, rfl⟩ := List.getElem_of_mem hr
    rw [tbl_len] at hi
    rw [← ix_get (by simpa using hi), tbl_ix hi, rw_len]; omega)
/-- Both products of a table and its inverse. -/
theorem inv_mul (hz : TzOk nv) (A : List (List RQ)) (hA : ∀ r ∈ A, ∀ y ∈ r, y.ok 1) (hAl : A.length ≤ 4) (hr : rectB A = true) (hc : colsN A = A.length) (h : (invS A).lead.length = A.length) :
    ∃ P Q : List (List RQ), EX ip nv (.call F.solve_Mul [.d (.sl 1 (el A)), .d (.sl 1 (el (invT A)))] []) = some (.ret (.tp [.d (.sl 1 (el P)), .d (.int .i64 0)]) []) ∧
      EX ip nv (.call F.solve_Mul [.d (.sl 1 (el (invT A))), .d (.sl 1 (el A))] []) = some (.ret (.tp [.d (.sl 1 (el Q)), .d (.int .i64 0)]) []) ∧
      EX ip nv (.call F.dendronlaw05_tables [.d (.sl 1 (el P)), .d (.sl 1 (el (tbl A.length A.length unitF)))] []) = some (.ret (.d (.bool true)) []) ∧
      EX ip nv (.call F.dendronlaw05_tables [.d (.sl 1 (el Q)), .d (.sl 1 (el (tbl A.length A.length unitF)))] []) = some (.ret (.d (.bool true)) []) := by
  have hsb : ∀ i j, i < A.length → j < A.length + A.length → Bq 1 (besF A.length (tf A) unitF i j) := fun i j hi hj => by
    unfold besF
    split
    · exact tf_b hA (Nat.le_refl 1) hr i j hi (by omega)
    · exact unit_b
  obtain ⟨fB, _⟩ := run_b hsb (Nat.le_refl 1) A.length (Nat.le_add_right _ _)
  have hp5 : 5 ^ A.length ≤ 5 ^ 4 := Nat.pow_le_pow_right (by decide) hAl
  have hp1 : 1 ≤ 5 ^ A.length := Nat.pow_pos (by decide)
  have hI : ∀ r ∈ invT A, ∀ y ∈ r, y.ok (5 ^ A.length * 1) := tbl_mem_ok fun i j hi hj => fB i _ hi (by omega)
  have hIr : rectB (invT A) = true := tbl_rect _ _ _
  have hIc : colsN (invT A) = A.length := tbl_sq _ _
  have hIl : (invT A).length = A.length := tbl_len _ _ _
  have hbd : ∀ x, x ≤ 5 → 1 + x * (5 ^ A.length * 1 + 1 + 1) ≤ 1073741824 := fun x hx => by
    have : x * (5 ^ A.length * 1 + 1 + 1) ≤ 5 * (625 + 2) := Nat.mul_le_mul hx (by omega)
    omega
  have m1 := tmul_ev (nv := nv) hz A (invT A) hA hI (Nat.le_refl 1) (by omega) hr hIr (by omega) (by omega) (by omega) (by omega) (by rw [hIl]; exact hbd _ (by omega))
  have m2 := tmul_ev (nv := nv) hz (invT A) A hI hA (by omega) (Nat.le_refl 1) hIr hr (by omega) (by omega) (by omega) (by omega) (by rw [show 1 + 5 ^ A.length * 1 + 1 = 5 ^ A.length * 1 + 1 + 1 by omega]; exact hbd _ (by omega))
  rw [hIc] at m1
  rw [hIl, hc] at m2
  refine ⟨_, _, m1, m2, unit_same hz _ (by omega) _ fun i k hi hk => ?_, unit_same hz _ (by omega) _ fun i k hi hk => ?_⟩
  · unfold mulF
    rw [hc]
    rw [show unitF i k = if i = k then 1 else 0 from rfl, ← inv_right h hi hk]
    apply sm_congr
    intro j hj
    unfold invT
    rw [tf_tbl _ hj hk]
    grind
  · unfold mulF
    rw [hIc]
    rw [show unitF i k = if i = k then 1 else 0 from rfl, ← inv_left h hi hk]
    apply sm_congr
    intro j hj
    unfold invT
    rw [tf_tbl _ hi hj]
    grind
theorem inverses_ev (hz : TzOk nv) (a : List (List RQ)) (w : Bool) (ha : ∀ r ∈ a, ∀ y ∈ r, y.ok maxLen) :
    EX ip nv (.call F.dendronlaw05_SolveInverses [.d (.sl 1 (el a)), .d (.bool w)] []) = some (.ret (.d (.bool true)) []) := by
  rw [S_call dendronlaw05_SolveInverses.ip rfl]
  have f1 := few5_ev (nv := nv) a 4 (by decide)
  have hA := few5_ok (n := 4) ha
  have hAl := few5_len 4 a
  have hAr := few5_row (n := 4) (a := a)
  have aw := awake5_ev (nv := nv) hz
  generalize few5 4 a = A at *
  clear ha
  have sq := square_ev (nv := nv) A (by omega)
  obtain ⟨T, hT, hTok, hTl, hTc⟩ : ∃ T, T = (if w then sqL A A.length else A) ∧ (∀ r ∈ T, ∀ y ∈ r, y.ok 1) ∧ T.length ≤ 4 ∧ colsN T ≤ 4 := by
    refine ⟨_, rfl, ?_, ?_, ?_⟩
    · cases w
      · exact hA
      · exact sqL_ok hA (by decide)
    · cases w
      · exact hAl
      · simpa using hAl
    · cases w
      · exact cols_le hAr
      · exact cols_le fun r hr => by have := sqL_row r hr; omega
  have sT := size5_ev (nv := nv) T (by omega)
  unfold sizeV at sT
  have c4 : ((4 : Nat) : Int) = 4 := rfl
  rw [c4] at f1
  by_cases h : rectB T = true ∧ colsN T = T.length
  · obtain ⟨hr, hc⟩ := h
    have hp5 : 5 ^ T.length ≤ 5 ^ 4 := Nat.pow_le_pow_right (by decide) hTl
    have iv := inverse_ev (nv := nv) hz T hTok (Nat.le_refl 1) (by omega) (by omega) hr hc
    have hrow : ∀ i, i < T.length → (ix T i).length = T.length := fun i hi => by rw [rect_row hr hi, hc]
    obtain ⟨ν, d5⟩ := det5_ev (nv := nv) hz T.length T hTl rfl hrow hTok
    have hb := (dt_b T.length (tf_b1 rfl hrow hTok (Nat.le_refl 1))).1
    have hdB := dB_le hTl
    have hpos := dB_pos T.length
    have sg := rsign_ev (nv := nv) hz (can (dt T.length (tf T))) (can_ok hb) hpos (by omega)
    rw [can_v] at sg
    rw [if_pos hr] at sT
    have hd0 := det_zero (tf T) hTl
    have hbl : (invS T).lead = (runR T.length (tf T) T.length).lead := bes_lead _ _ _ _
    rw [← hbl] at hd0
    have un := unit_ev (nv := nv) T.length (by omega)
    by_cases h0 : (invS T).lead.length < T.length
    · have hs : (dt T.length (tf T)).num.sign = 0 := by rw [sign_zero]; exact hd0.2 h0
      rw [hs] at sg
      rw [if_pos h0, if_pos h0] at iv
      generalize can (dt T.length (tf T)) = q at *
      cases w
      · simp only [Bool.false_eq_true, if_false] at hT
        subst hT
        simp (disch := omega) [-vIA_o, dendronlaw05_SolveInverses, f1, sT, iv, d5, sg, aw, hc]
      · simp only [if_true] at hT
        rw [← hT] at sq
        simp (disch := omega) [-vIA_o, dendronlaw05_SolveInverses, f1, sq, sT, iv, d5, sg, aw, hc]
    · have hs : ¬ (dt T.length (tf T)).num.sign = 0 := by rw [sign_zero]; exact fun e => h0 (hd0.1 e)
      have hle : (invS T).lead.length ≤ T.length := (run_inv T.length (besF T.length (tf T) unitF) T.length).len
      obtain ⟨P, Q, m1, m2, t1, t2⟩ := inv_mul (nv := nv) hz T hTok hTl hr hc (by omega)
      rw [if_neg h0, if_neg h0] at iv
      generalize can (dt T.length (tf T)) = q at *
      generalize (dt T.length (tf T)).num.sign = sn at *
      generalize invT T = I at *
      generalize tbl T.length T.length unitF = U at *
      cases w
      · simp only [Bool.false_eq_true, if_false] at hT
        subst hT
        simp (disch := omega) [-vIA_o, dendronlaw05_SolveInverses, f1, sT, iv, d5, sg, hs, aw, hc, m1, m2, t1, t2, un]
      · simp only [if_true] at hT
        rw [← hT] at sq
        simp (disch := omega) [-vIA_o, dendronlaw05_SolveInverses, f1, sq, sT, iv, d5, sg, hs, aw, hc, m1, m2, t1, t2, un]
  · have iv := inverse_bad (nv := nv) T (by omega) h
    have hs : ∃ R C b, EX ip nv (.call F.dendronlaw05_size [.d (.sl 1 (el T))] []) = some (.ret (.tp [.d (.int .i64 R), .d (.int .i64 C), .d (.bool b)]) []) ∧ (b = false ∨ ¬ R = C) := by
      by_cases hr : rectB T = true
      · rw [if_pos hr] at sT
        exact ⟨_, _, _, sT, .inr fun e => h ⟨hr, by omega⟩⟩
      · rw [if_neg hr] at sT
        exact ⟨_, _, _, sT, .inl rfl⟩
    obtain ⟨R, C, b, sT', hb⟩ := hs
    clear sT
    cases w
    · simp only [Bool.false_eq_true, if_false] at hT
      subst hT
      rcases hb with rfl | hb
      · simp (disch := omega) [-vIA_o, dendronlaw05_SolveInverses, f1, sT', iv, aw]
      · cases b <;> simp (disch := omega) [-vIA_o, dendronlaw05_SolveInverses, f1, sT', iv, aw, hb]
    · simp only [if_true] at hT
      rw [← hT] at sq
      rcases hb with rfl | hb
      · simp (disch := omega) [-vIA_o, dendronlaw05_SolveInverses, f1, sq, sT', iv, aw]
      · cases b <;> simp (disch := omega) [-vIA_o, dendronlaw05_SolveInverses, f1, sq, sT', iv, aw, hb]
end
end Go.Proofs.YtbghnfhfekfenaaDoor
