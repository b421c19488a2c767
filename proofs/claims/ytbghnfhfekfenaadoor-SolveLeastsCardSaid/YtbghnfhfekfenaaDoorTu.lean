/- SolveLeasts: what the statement computes. -/
import Derived.Test.YtbghnfhfekfenaaDoorTt
set_option linter.unusedSimpArgs false
set_option linter.unusedVariables false
namespace Go.Proofs.YtbghnfhfekfenaaDoor
open Go Go.Proofs.R
set_option maxRecDepth 10000
theorem sm_pt {n p : Nat} {f : Nat → Rat} (hp : p < n) (h : ∀ i, i < n → i ≠ p → f i = 0) : sm n f = f p := by
  induction n with
  | zero => omega
  | succ n ih =>
    simp only [sm]
    by_cases e : p = n
    · rw [sm_zero (fun i hi => h i (by omega) (by omega)), e]; grind
    · rw [ih (by omega) (fun i hi hne => h i (by omega) hne), h n (by omega) (fun e' => e e'.symm)]; grind
theorem invT_tbl (A : List (List RQ)) {n : Nat} (h : A.length = n) : invT A = tbl n n fun i k => (runR n (besF n (tf A) unitF) n).f i (n + k) := by
  subst h; rfl
theorem invS_len (A : List (List RQ)) {n : Nat} (h : A.length = n) : (invS A).lead.length = (runR n (besF n (tf A) unitF) n).lead.length := by
  subst h; rfl
/-- What is told solves the equations. -/
theorem lsX_eq {A : List (List RQ)} {b w : List RQ} (hC0 : 0 < colsN A) (hbl : b.length = A.length) (hf : ¬ (invS (lsN A w)).lead.length < colsN A) {j : Nat} (hj : j < colsN A) :
    sm (colsN A) (fun k => nrmF A.length (tf A) (fun i => (ix w i).v) j k * (ix (lsX A b w) k).v) = sm A.length (fun i => tf A i j * (ix w i).v * (ix b i).v) := by
  have hl := lsN_len A w
  have hle : (runR (colsN A) (besF (colsN A) (tf (lsN A w)) unitF) (colsN A)).lead.length ≤ colsN A := lead_le _ _ _
  rw [invS_len _ hl] at hf
  have hfull : (runR (colsN A) (besF (colsN A) (tf (lsN A w)) unitF) (colsN A)).lead.length = colsN A := by omega
  have hc : ∀ q, q < colsN A → (ix (lsC A b w) q).v = sm A.length (fun i => tf A i q * (ix w i).v * (ix b i).v) := fun q hq => by
    unfold lsC
    rw [rw_ix _ hq, can_v]
    unfold apS dotS
    rw [hbl]
    apply sm_congr
    intro i hi
    have : (ix (ix (lsT A w) q) i).v = tf A i q * (ix w i).v := tf_tbl (fun k i => tf A i k * (ix w i).v) hq hi
    rw [this]
  have hx : ∀ k, k < colsN A → (ix (lsX A b w) k).v = sm (colsN A) (fun q => (runR (colsN A) (besF (colsN A) (tf (lsN A w)) unitF) (colsN A)).f k (colsN A + q) * (ix (lsC A b w) q).v) := fun k hk => by
    unfold lsX
    rw [rw_ix _ hk, can_v]
    unfold apS dotS
    rw [lsC_len, invT_tbl _ hl]
    apply sm_congr
    intro q hq
    have : (ix (ix (tbl (colsN A) (colsN A) fun i k => (runR (colsN A) (besF (colsN A) (tf (lsN A w)) unitF) (colsN A)).f i (colsN A + k)) k) q).v = _ := tf_tbl _ hk hq
    rw [this]
  rw [← hc j hj]
  have e1 : sm (colsN A) (fun k => nrmF A.length (tf A) (fun i => (ix w i).v) j k * (ix (lsX A b w) k).v) = sm (colsN A) (fun k => sm (colsN A) (fun q => tf (lsN A w) j k * (runR (colsN A) (besF (colsN A) (tf (lsN A w)) unitF) (colsN A)).f k (colsN A + q) * (ix (lsC A b w) q).v)) := by
    apply sm_congr
    intro k hk
    rw [hx k hk, ← lsN_tf hC0 j k hj hk, ← sm_mul]
    apply sm_congr
    intro q _
    grind
  rw [e1, sm_comm]
  have e2 : ∀ q, q < colsN A → sm (colsN A) (fun k => tf (lsN A w) j k * (runR (colsN A) (besF (colsN A) (tf (lsN A w)) unitF) (colsN A)).f k (colsN A + q) * (ix (lsC A b w) q).v) = if q = j then (ix (lsC A b w) q).v else 0 := fun q hq => by
    have h := inv_right hfull hj hq
    rw [sm_mulr, h]
    by_cases e : j = q
    · rw [if_pos e, if_pos e.symm]; grind
    · rw [if_neg e, if_neg (fun e' => e e'.symm)]; grind
  rw [sm_congr e2, sm_pt hj (fun i hi hne => if_neg hne), if_pos rfl]
theorem lsI_loss {A : List (List RQ)} {b w x : List RQ} (hr : rectB A = true) (hx : x.length = colsN A) : lsI A b w x A.length = lossF A.length (colsN A) (tf A) (fun i => (ix b i).v) (fun i => (ix w i).v) (fun k => (ix x k).v) := by
  unfold lsI lossF
  apply sm_congr
  intro i hi
  have h1 := rect_row hr hi
  have : lsD A b x i = sm (colsN A) (fun k => tf A i k * (ix x k).v) - (ix b i).v := by
    unfold lsD dotS
    rw [h1, hx, Nat.min_self]
    rfl
  rw [this]
section
variable {nv : R.Nv}
/-- Before the equations: what is no system, what weighs below 0, what has no columns. -/
theorem least_bad (a : List (List RQ)) (b w : List RQ) (hl : a.length ≤ 10000) (h : ¬ (rectB a = true ∧ b.length = a.length ∧ w.length = a.length)) :
    EX ip nv (.call F.solve_Least [.d (.sl 1 (el a)), .d (.sl 3 (el b)), .d (.sl 3 (el w))] []) = some (.ret (.tp [.d (.sl 3 []), .d (.int .i64 14)]) []) := by
  rw [S_call solve_Least.ip rfl]
  have sz := size_ev (nv := nv) a (by omega)
  unfold sizeV at sz
  by_cases hr : rectB a = true
  · rw [if_pos hr] at sz
    by_cases hb : b.length = a.length
    · have hw : ¬ w.length = a.length := fun e => h ⟨hr, hb, e⟩
      have hwi : ¬ (a.length : Int) = (w.length : Int) := by omega
      have hwn : ¬ a.length = w.length := fun e => hw e.symm
      simp (disch := omega) [solve_Least, sz, hb, hwi, hwn]
    · have hbi : ¬ (a.length : Int) = (b.length : Int) := by omega
      have hbn : ¬ a.length = b.length := fun e => hb e.symm
      simp (disch := omega) [solve_Least, sz, hbi, hbn]
  · rw [if_neg hr] at sz
    simp (disch := omega) [solve_Least, sz]
theorem least_low (hz : TzOk nv) (a : List (List RQ)) (b w : List RQ) {k : Nat} (hw : ∀ x ∈ w, x.ok k) (hk : 1 ≤ k) (hk1 : k ≤ 1073741824) (hl : a.length ≤ 10000) (hr : rectB a = true) (hbl : b.length = a.length) (hwl : w.length = a.length) (h : negW w ∨ colsN a = 0) :
    ∃ E, EX ip nv (.call F.solve_Least [.d (.sl 1 (el a)), .d (.sl 3 (el b)), .d (.sl 3 (el w))] []) = some (.ret (.tp [.d (.sl 3 []), .d (.int .i64 E)]) []) ∧ (negW w → E = 8) ∧ (¬ negW w → E = 0) := by
  rw [S_call solve_Least.ip rfl]
  have sz := size_ev (nv := nv) a (by omega)
  unfold sizeV at sz
  rw [if_pos hr] at sz
  obtain ⟨_, _, _, l0, -, hz0⟩ := least_b0 (nv := nv) hz (.sl 1 (el a)) (.sl 3 (el b)) w (colsN a : Int) hw hk (by omega) (by omega)
  rw [hwl] at l0
  rcases hz0 with ⟨rfl, hn, rfl, rfl⟩ | ⟨rfl, hn, rfl, rfl⟩
  · refine ⟨8, ?_, fun _ => rfl, fun h => absurd hn h⟩
    simp (disch := omega) [solve_Least, sz, l0, hbl, hwl]
  · have hc : colsN a = 0 := by rcases h with h | h; exact absurd h hn; exact h
    refine ⟨0, ?_, fun h => absurd h hn, fun _ => rfl⟩
    rw [hc] at sz l0
    have z0 : ((0 : Nat) : Int) = 0 := rfl
    rw [z0] at sz l0
    simp (disch := omega) [solve_Least, sz, l0, hbl, hwl]
end
end Go.Proofs.YtbghnfhfekfenaaDoor
