/- What the equations' answer is. -/
import Derived.Test.YtgigaimaaijalaaGreatDoorXs
set_option linter.unusedSimpArgs false
set_option linter.unusedVariables false
namespace Go.Proofs.YtgigaimaaijalaaGreatDoor
open Go Go.Proofs.R
set_option maxRecDepth 10000
theorem lead_le (R : Nat) (f : Tb) (n : Nat) : (runR R f n).lead.length ≤ n := by
  rw [run_lead]; exact Nat.le_trans (List.length_filter_le _ _) (by simp)
def oneA (A : List (List RQ)) (w : List RQ) : Prop := ∀ x : Nat → Rat, (∀ i, i < A.length → 0 < (ix w i).v → sm (colsN A) (fun k => tf A i k * x k) = 0) → ∀ k, k < colsN A → x k = 0
/-- The equations' table is the one of the plain law. -/
theorem lsN_tf {A : List (List RQ)} {w : List RQ} (hC0 : 0 < colsN A) : ∀ j k, j < colsN A → k < colsN A → tf (lsN A w) j k = nrmF A.length (tf A) (fun i => (ix w i).v) j k := by
  intro j k hj hk
  unfold lsN
  rw [tf_tbl _ hj hk]
  unfold mulF nrmF
  have hTc : colsN (lsT A w) = A.length := tbl_cols _ _ hC0
  rw [hTc]
  apply sm_congr
  intro i hi
  unfold lsT
  rw [tf_tbl _ hj hi]
  grind
theorem lsN_full {A : List (List RQ)} {w : List RQ} (hC0 : 0 < colsN A) (hw : ∀ i, i < A.length → 0 ≤ (ix w i).v) : ((invS (lsN A w)).lead.length < colsN A ↔ ¬ oneA A w) := by
  have hl := lsN_len A w
  have e : (invS (lsN A w)).lead = (runR (colsN A) (tf (lsN A w)) (colsN A)).lead := by
    show (runR (lsN A w).length (besF (lsN A w).length (tf (lsN A w)) unitF) (lsN A w).length).lead = _
    rw [hl]; exact bes_lead _ _ _ _
  rw [e]
  have hle := lead_le (colsN A) (tf (lsN A w)) (colsN A)
  have h1 := full_iff (R := colsN A) (f := tf (lsN A w)) (n := colsN A)
  have h2 : (runR (colsN A) (tf (lsN A w)) (colsN A)).lead.length = colsN A ↔ oneA A w := by
    rw [h1]
    have hk : ∀ x : Nat → Rat, Ker (colsN A) (colsN A) (tf (lsN A w)) x ↔ ∀ i, i < A.length → 0 < (ix w i).v → sm (colsN A) (fun k => tf A i k * x k) = 0 := fun x => by
      rw [Ker_congr (lsN_tf hC0)]
      exact nrm_ker hw x
    constructor
    · intro h x hx; exact h x ((hk x).2 hx)
    · intro h x hx; exact h x ((hk x).1 hx)
  rw [← h2]
  omega
theorem sm_pt {n p : Nat} {f : Nat → Rat} (hp : p < n) (h : ∀ i, i < n → i ≠ p → f i = 0) : sm n f = f p := by
  induction n with
  | zero => omega
  | succ n ih =>
    simp only [sm]
    by_cases e : p = n
    · rw [sm_zero (fun i hi => h i (by omega) (by omega)), e]; grind
    · rw [ih (by omega) (fun i hi hne => h i (by omega) hne), h n (by omega) (fun e' => e e'.symm)]; grind
theorem invT_tbl (A : List (List RQ)) {n : Nat} (h : A.length = n) : invT A = tbl n n fun i k => (runR n (besF n (tf A) unitF) n).f i (n + k) := by
  subst h; rfl
theorem invS_len (A : List (List RQ)) {n : Nat} (h : A.length = n) : (invS A).lead.length = (runR n (besF n (tf A) unitF) n).lead.length := by
  subst h; rfl
/-- What is told solves the equations. -/
theorem lsX_eq {A : List (List RQ)} {b w : List RQ} (hC0 : 0 < colsN A) (hbl : b.length = A.length) (hf : ¬ (invS (lsN A w)).lead.length < colsN A) {j : Nat} (hj : j < colsN A) :
    sm (colsN A) (fun k => nrmF A.length (tf A) (fun i => (ix w i).v) j k * (ix (lsX A b w) k).v) = sm A.length (fun i => tf A i j * (ix w i).v * (ix b i).v) := by
  have hl := lsN_len A w
  have hle : (runR (colsN A) (besF (colsN A) (tf (lsN A w)) unitF) (colsN A)).lead.length ≤ colsN A := lead_le _ _ _
  rw [invS_len _ hl] at hf
  have hfull : (runR (colsN A) (besF (colsN A) (tf (lsN A w)) unitF) (colsN A)).lead.length = colsN A := by omega
  have hc : ∀ q, q < colsN A → (ix (lsC A b w) q).v = sm A.length (fun i => tf A i q * (ix w i).v * (ix b i).v) := fun q hq => by
    unfold lsC
    rw [rw_ix _ hq, can_v]
    unfold apS dotS
    rw [hbl]
    apply sm_congr
    intro i hi
    have : (ix (ix (lsT A w) q) i).v = tf A i q * (ix w i).v := tf_tbl (fun k i => tf A i k * (ix w i).v) hq hi
    rw [this]
  have hx : ∀ k, k < colsN A → (ix (lsX A b w) k).v = sm (colsN A) (fun q => (runR (colsN A) (besF (colsN A) (tf (lsN A w)) unitF) (colsN A)).f k (colsN A + q) * (ix (lsC A b w) q).v) := fun k hk => by
    unfold lsX
    rw [rw_ix _ hk, can_v]
    unfold apS dotS
    rw [lsC_len, invT_tbl _ hl]
    apply sm_congr
    intro q hq
    have : (ix (ix (tbl (colsN A) (colsN A) fun i k => (runR (colsN A) (besF (colsN A) (tf (lsN A w)) unitF) (colsN A)).f i (colsN A + k)) k) q).v = _ := tf_tbl _ hk hq
    rw [this]
  rw [← hc j hj]
  have e1 : sm (colsN A) (fun k => nrmF A.length (tf A) (fun i => (ix w i).v) j k * (ix (lsX A b w) k).v) = sm (colsN A) (fun k => sm (colsN A) (fun q => tf (lsN A w) j k * (runR (colsN A) (besF (colsN A) (tf (lsN A w)) unitF) (colsN A)).f k (colsN A + q) * (ix (lsC A b w) q).v)) := by
    apply sm_congr
    intro k hk
    rw [hx k hk, ← lsN_tf hC0 j k hj hk, ← sm_mul]
    apply sm_congr
    intro q _
    grind
  rw [e1, sm_comm]
  have e2 : ∀ q, q < colsN A → sm (colsN A) (fun k => tf (lsN A w) j k * (runR (colsN A) (besF (colsN A) (tf (lsN A w)) unitF) (colsN A)).f k (colsN A + q) * (ix (lsC A b w) q).v) = if q = j then (ix (lsC A b w) q).v else 0 := fun q hq => by
    have h := inv_right hfull hj hq
    rw [sm_mulr, h]
    by_cases e : j = q
    · rw [if_pos e, if_pos e.symm]; grind
    · rw [if_neg e, if_neg (fun e' => e e'.symm)]; grind
  rw [sm_congr e2, sm_pt hj (fun i hi hne => if_neg hne), if_pos rfl]
end Go.Proofs.YtgigaimaaijalaaGreatDoor
