/- OrdersAheads: the law evaluated, joined. -/
import Derived.Test.YtnmbpainnkdonaaDoorVr
set_option linter.unusedSimpArgs false
set_option linter.unusedVariables false
namespace Go.Proofs.YtnmbpainnkdonaaDoor
open Go Go.Proofs.R
set_option maxRecDepth 10000
/-- Each share of the mean, summed. -/
def uV (v : Nat → Rat) (os : List (List Int)) (n : Nat) (f : Rat) : Nat → Nat → Rat
  | 0, _ => 0
  | k + 1, p => uV v os n f k p + aV v (ix os k) n p * f
theorem uV_eq (v : Nat → Rat) (os : List (List Int)) (n : Nat) (f : Rat) (p : Nat) : ∀ k, uV v os n f k p = sV v os n k p * f
  | 0 => by rw [uV, sV, Rat.zero_mul]
  | k + 1 => by rw [uV, sV, uV_eq v os n f p k, Rat.add_mul]
theorem uV_b {l : List RQ} {os : List (List Int)} {n K : Nat} {f : Rat} (hf : Bq 1 f) (hk : ∀ r ∈ l, r.ok K) (h1 : 1 ≤ K) (hl : l.length = 2 ^ n) : ∀ k, k ≤ os.length → (∀ j, j < k → rightB (ix os j) n = true) → ∀ p, Bq (1 + (2 * K + 3) * k) (uV (vl l) os n f k p)
  | 0, _, _, _ => Bq.zero
  | k + 1, h, hr, p => by
    rw [uV]
    have e : 1 + (2 * K + 3) * (k + 1) = 1 + (2 * K + 3) * k + (2 * K + 3) := by rw [Nat.mul_add]; omega
    exact ((uV_b hf hk h1 hl k (by omega) (fun j hj => hr j (by omega)) p).add ((aV_b hk h1 hl (rightB_perm.1 (hr k (by omega))) n (Nat.le_refl _) p).mul hf)).mono (by omega)
section
variable {nv : R.Nv}
theorem plc_in {o : List Int} {n : Nat} {x : Int} (hr : rightB o n = true) (h0 : 0 ≤ x) (h1 : x < n) : plcI o x = (o.idxOf x : Int) := by
  unfold plcI
  rw [if_pos ((rightB_perm.1 hr).symm.mem_iff.1 (nums_mem.2 ⟨h0, h1⟩))]
theorem aheads_b4 (l : List RQ) (ps : List (Int × Int)) (os sm : List (List Int)) (o : List Int) (n k : Nat) (dx : List D) (i6 i10 : Int) (hn : n ≤ 5) (hp : ps.length ≤ 1000) (hk : k < os.length) (ho : ix os k = o) (hro : rightB o n = true) (hr : ∀ j, j < ps.length → outP n (ix ps j) = false) :
    ∃ z e μ, EX ip nv (.code (.loop [] [] dendronlaw21_OrdersAheads.b4) [(0, .d (.sl 3 (el l))), (1, .d (.sl 2 (el ps))), (5, .d (.sl 3 dx)), (6, .d (.int .i64 i6)), (7, .d (.int .i64 (n : Int))), (9, .d (.sl 1 (el os))), (10, .d (.int .i64 i10)), (11, .own 11 1 0 sm.length), (12, .d (.int .i64 (k : Int))), (13, .d (.bool true)), (14, .d (.int .i64 0))] [(11, ⟨0, false, el sm⟩)]) = some (.st z e μ) ∧ z ≠ .normal ∧
    z = .exit 4 ∧ e = [(0, .d (.sl 3 (el l))), (1, .d (.sl 2 (el ps))), (5, .d (.sl 3 dx)), (6, .d (.int .i64 i6)), (7, .d (.int .i64 (n : Int))), (9, .d (.sl 1 (el os))), (10, .d (.int .i64 i10)), (11, .own 11 1 0 sm.length), (12, .d (.int .i64 (k : Int))), (13, .d (.bool (ps.all (ahd o)))), (14, .d (.int .i64 (ps.length : Int))), (118, .d (.bool false))] ∧ μ = [(11, ⟨0, false, el sm⟩)] := by
  have hol : o.length = n := by simp only [rightB, Bool.and_eq_true, decide_eq_true_eq] at hro; exact hro.1
  refine loop_n ps.length (fun i e μ => ∃ b, b = (ps.take i).all (ahd o) ∧ e = [(0, .d (.sl 3 (el l))), (1, .d (.sl 2 (el ps))), (5, .d (.sl 3 dx)), (6, .d (.int .i64 i6)), (7, .d (.int .i64 (n : Int))), (9, .d (.sl 1 (el os))), (10, .d (.int .i64 i10)), (11, .own 11 1 0 sm.length), (12, .d (.int .i64 (k : Int))), (13, .d (.bool b)), (14, .d (.int .i64 (i : Int)))] ∧ μ = [(11, ⟨0, false, el sm⟩)]) ?_ ?_ ⟨_, rfl, rfl, rfl⟩
  · rintro i e μ hi ⟨b, hb, rfl, rfl⟩
    have hri := hr i hi
    have p0 := fun μ => ld_pair0 (μ := μ) hi
    have p1 := fun μ => ld_pair1 (μ := μ) hi
    have e1 : (ps.take (i + 1)).all (ahd o) = (b && ahd o (ix ps i)) := by rw [take_ix hi, List.all_append, ← hb]; simp
    generalize ix ps i = p at *
    obtain ⟨x, y⟩ := p
    obtain ⟨⟨x0, x1⟩, y0, y1⟩ := outP_false.1 hri
    have cx := place_ev (nv := nv) o x (by omega)
    have cy := place_ev (nv := nv) o y (by omega)
    rw [plc_in hro x0 x1] at cx
    rw [plc_in hro y0 y1] at cy
    refine .inl ⟨_, _, ?_, b && ahd o (x, y), e1.symm, rfl, rfl⟩
    clear hb e1
    simp only [ahd]
    generalize o.idxOf x = jx at *
    generalize o.idxOf y = jy at *
    simp only at p0 p1
    cases b
    · simp (disch := omega) [dendronlaw21_OrdersAheads.b4, hi]
    · by_cases c : jx < jy
      · have c' : (jx : Int) < jy := by omega
        simp (disch := omega) [dendronlaw21_OrdersAheads.b4, hi, hk, ho, p0, p1, cx, cy, c, c']
      · have c' : ¬ (jx : Int) < jy := by omega
        simp (disch := omega) [dendronlaw21_OrdersAheads.b4, hi, hk, ho, p0, p1, cx, cy, c, c']
  · rintro e μ ⟨b, hb, rfl, rfl⟩
    rw [List.take_of_length_le (Nat.le_refl _)] at hb
    subst hb
    exact ⟨.exit 4, _, _, by simp [dendronlaw21_OrdersAheads.b4] <;> first | rfl | exact ⟨rfl, rfl⟩, by simp, rfl, rfl, rfl⟩
theorem aheads_b2 (l : List RQ) (ps : List (Int × Int)) (os : List (List Int)) (n : Nat) (dx : List D) (i6 i10 : Int) (hn : n ≤ 5) (hp : ps.length ≤ 1000) (hos : os.length ≤ 1000) (hro : ∀ o ∈ os, rightB o n = true) (hr : ∀ j, j < ps.length → outP n (ix ps j) = false) :
    ∃ z e μ, EX ip nv (.code (.loop [] [] dendronlaw21_OrdersAheads.b2) [(0, .d (.sl 3 (el l))), (1, .d (.sl 2 (el ps))), (5, .d (.sl 3 dx)), (6, .d (.int .i64 i6)), (7, .d (.int .i64 (n : Int))), (9, .d (.sl 1 (el os))), (10, .d (.int .i64 i10)), (11, .own 11 1 0 0), (12, .d (.int .i64 0))] [(11, ⟨0, false, []⟩)]) = some (.st z e μ) ∧ z ≠ .normal ∧
    z = .exit 2 ∧ e = [(0, .d (.sl 3 (el l))), (1, .d (.sl 2 (el ps))), (5, .d (.sl 3 dx)), (6, .d (.int .i64 i6)), (7, .d (.int .i64 (n : Int))), (9, .d (.sl 1 (el os))), (10, .d (.int .i64 i10)), (11, .own 11 1 0 (ahL os ps).length), (12, .d (.int .i64 (os.length : Int))), (105, .d (.bool false))] ∧ μ = [(11, ⟨0, false, el (ahL os ps)⟩)] := by
  refine loop_n os.length (fun k e μ => ∃ sm, sm = ahL (os.take k) ps ∧ e = [(0, .d (.sl 3 (el l))), (1, .d (.sl 2 (el ps))), (5, .d (.sl 3 dx)), (6, .d (.int .i64 i6)), (7, .d (.int .i64 (n : Int))), (9, .d (.sl 1 (el os))), (10, .d (.int .i64 i10)), (11, .own 11 1 0 sm.length), (12, .d (.int .i64 (k : Int)))] ∧ μ = [(11, ⟨0, false, el sm⟩)]) ?_ ?_ ⟨[], by simp [ahL], rfl, rfl⟩
  · rintro k e μ hk ⟨sm, hsm, rfl, rfl⟩
    have hin := os_ix hk
    have hr1 := hro _ hin
    have hsl : sm.length ≤ 1000 := by rw [hsm]; exact Nat.le_trans (List.length_filter_le _ _) (by simp; omega)
    have e1 : ahL (os.take (k + 1)) ps = if ps.all (ahd (ix os k)) = true then sm ++ [ix os k] else sm := by
      simp only [ahL] at hsm ⊢
      rw [take_ix hk, List.filter_append, ← hsm, List.filter_cons]
      split <;> simp
    have hol : (ix os k).length = n := by simp only [rightB, Bool.and_eq_true, decide_eq_true_eq] at hr1; exact hr1.1
    generalize hoe : ix os k = o at *
    obtain ⟨_, _, _, h4, -, rfl, rfl, rfl⟩ := aheads_b4 (nv := nv) l ps os sm o n k dx i6 i10 hn hp hk hoe hr1 hr
    have hol' : (o.length : Int) = n := by omega
    cases c : ps.all (ahd o)
    · rw [if_neg (by rw [c]; simp)] at e1
      rw [c] at h4
      refine .inl ⟨_, _, ?_, sm, e1.symm, rfl, rfl⟩
      clear e1 hsm c
      simp (disch := omega) [dendronlaw21_OrdersAheads.b2, hk, hoe, hol', h4]
    · rw [if_pos c] at e1
      rw [c] at h4
      refine .inl ⟨_, _, ?_, sm ++ [o], e1.symm, rfl, rfl⟩
      clear e1 hsm c
      simp (disch := omega) [dendronlaw21_OrdersAheads.b2, hk, hoe, hol', h4]
  · rintro e μ ⟨sm, hsm, rfl, rfl⟩
    rw [List.take_of_length_le (Nat.le_refl _)] at hsm
    subst hsm
    exact ⟨.exit 2, _, _, by simp [dendronlaw21_OrdersAheads.b2] <;> first | rfl | exact ⟨rfl, rfl⟩, by simp, rfl, rfl, rfl⟩
theorem aheads_b0 (l : List RQ) (ps : List (Int × Int)) (n : Nat) (dx : List D) (i6 : Int) (hn : n ≤ 5) (hp : ps.length ≤ 1000) (hbad : (∃ j, j < ps.length ∧ outP n (ix ps j) = true) → dx = [] ∧ i6 = 8) :
    ∃ z e μ, EX ip nv (.code (.loop [] [] dendronlaw21_OrdersAheads.b0) [(0, .d (.sl 3 (el l))), (1, .d (.sl 2 (el ps))), (5, .d (.sl 3 dx)), (6, .d (.int .i64 i6)), (7, .d (.int .i64 (n : Int))), (8, .d (.int .i64 0))] []) = some (.st z e μ) ∧ z ≠ .normal ∧
    ((z = .exit 0 ∧ e = [(0, .d (.sl 3 (el l))), (1, .d (.sl 2 (el ps))), (5, .d (.sl 3 dx)), (6, .d (.int .i64 i6)), (7, .d (.int .i64 (n : Int))), (8, .d (.int .i64 (ps.length : Int))), (52, .d (.bool false))] ∧ μ = [] ∧ ∀ j, j < ps.length → outP n (ix ps j) = false) ∨
     (z = .ret ∧ e = [(4, .d (.bool true))] ∧ μ = [] ∧ ∃ j, j < ps.length ∧ outP n (ix ps j) = true)) := by
  have aw := awake21_ev (nv := nv)
  refine loop_n ps.length (fun k e μ => e = [(0, .d (.sl 3 (el l))), (1, .d (.sl 2 (el ps))), (5, .d (.sl 3 dx)), (6, .d (.int .i64 i6)), (7, .d (.int .i64 (n : Int))), (8, .d (.int .i64 (k : Int)))] ∧ μ = [] ∧ ∀ j, j < k → outP n (ix ps j) = false) ?_ ?_ ⟨rfl, rfl, fun j hj => by omega⟩
  · rintro k e μ hk ⟨rfl, rfl, hr⟩
    have p0 := fun μ => ld_pair0 (μ := μ) hk
    have p1 := fun μ => ld_pair1 (μ := μ) hk
    generalize hq : ix ps k = p at *
    obtain ⟨a, b⟩ := p
    simp only at p0 p1
    cases c : outP n (a, b)
    · obtain ⟨⟨c1, c2⟩, c3, c4⟩ := outP_false.1 c
      have d1 : ¬ a < 0 := by omega
      have d2 : ¬ (n : Int) ≤ a := by omega
      have d3 : ¬ b < 0 := by omega
      have d4 : ¬ (n : Int) ≤ b := by omega
      refine .inl ⟨_, _, ?_, rfl, rfl, fun j hj => ?_⟩
      · simp (disch := omega) [dendronlaw21_OrdersAheads.b0, hk, p0, p1, d1, d2, d3, d4]
      · by_cases e : j = k
        · rw [e, hq]; exact c
        · exact hr j (by omega)
    · obtain ⟨rfl, rfl⟩ := hbad ⟨k, hk, by rw [hq]; exact c⟩
      refine .inr ⟨.ret, _, _, ?_, by simp, .inr ⟨rfl, rfl, rfl, k, hk, by rw [hq]; exact c⟩⟩
      simp only [outP, Bool.or_eq_true, decide_eq_true_eq] at c
      by_cases c1 : a < 0
      · simp (disch := omega) [dendronlaw21_OrdersAheads.b0, hk, p0, p1, aw, c1]
      · by_cases c2 : (n : Int) ≤ a
        · simp (disch := omega) [dendronlaw21_OrdersAheads.b0, hk, p0, p1, aw, c1, c2]
        · by_cases c3 : b < 0
          · simp (disch := omega) [dendronlaw21_OrdersAheads.b0, hk, p0, p1, aw, c1, c2, c3]
          · have c4 : (n : Int) ≤ b := by omega
            simp (disch := omega) [dendronlaw21_OrdersAheads.b0, hk, p0, p1, aw, c1, c2, c3, c4]
  · rintro e μ ⟨rfl, rfl, hr⟩
    exact ⟨.exit 0, _, [], by simp [dendronlaw21_OrdersAheads.b0] <;> rfl, by simp, .inl ⟨rfl, rfl, rfl, hr⟩⟩
end
theorem aheads_core (hz : TzOk (nvR nv)) (l : List RQ) (ps : List (Int × Int)) (hl : l.length ≤ 33) (hk : ∀ r ∈ l, r.ok 2) (hp : ps.length ≤ 6) : ∃ (dx : List D) (i6 : Int),
    EX ip (nvR nv) (.call F.orders_Ahead [.d (.sl 3 (el l)), .d (.sl 2 (el ps))] []) = some (.ret (.tp [.d (.sl 3 dx), .d (.int .i64 i6)]) []) ∧
    ((gmN l.length = none ∧ dx = [] ∧ i6 = 1) ∨ ∃ n, gmN l.length = some n ∧ ((dx = [] ∧ i6 = 8 ∧ ∃ j, j < ps.length ∧ outP n (ix ps j) = true) ∨
      ((∀ j, j < ps.length → outP n (ix ps j) = false) ∧ EX ip (nvR nv) (.call F.orders_Mean [.d (.sl 3 (el l)), .d (.sl 1 (el (ahL (allL 5041 (iot n)) ps)))] []) = some (.ret (.tp [.d (.sl 3 dx), .d (.int .i64 i6)]) []) ∧
        ((ahL (allL 5041 (iot n)) ps = [] ∧ dx = [] ∧ i6 = 15) ∨ (ahL (allL 5041 (iot n)) ps ≠ [] ∧ i6 = 0 ∧ EX ip (nvR nv) (.call F.dendronref10_All [.d (.sl 3 dx), .d (.sl 3 dx)] []) = some (.ret (.d (.bool true)) [])))))) := by
  cases hn : gmN l.length with
  | none => exact ⟨[], 1, ahead_none l ps hl hn, .inl ⟨rfl, rfl, rfl⟩⟩
  | some n =>
    have hn6 := gmN_lt ⟨l.length, by omega⟩ n hn
    have hlen := (gmN_some ⟨l.length, by omega⟩ ⟨n, hn6⟩ hn).1
    simp only at hlen
    by_cases hb : ∃ j, j < ps.length ∧ outP n (ix ps j) = true
    · exact ⟨[], 8, ahead_bad l ps n hl hn (by omega) hb, .inr ⟨n, rfl, .inl ⟨rfl, rfl, hb⟩⟩⟩
    · have hr : ∀ j, j < ps.length → outP n (ix ps j) = false := fun j hj => by
        cases c : outP n (ix ps j)
        · rfl
        · exact absurd ⟨j, hj, c⟩ hb
      obtain ⟨hd, hle, h0, hall⟩ := all_right ⟨n, by omega⟩
      simp only at hd hle h0 hall
      have hall' := List.all_eq_true.1 hall
      have hx := allL_in64' (n := n) (by omega)
      have sub : ∀ o ∈ ahL (allL 5041 (iot n)) ps, o ∈ allL 5041 (iot n) := fun o ho => (List.mem_filter.1 ho).1
      have sl : (ahL (allL 5041 (iot n)) ps).length ≤ 1000 := Nat.le_trans (List.length_filter_le _ _) (by omega)
      have me := mean_ev hz l (ahL (allL 5041 (iot n)) ps) n 2 hl hn hk (by omega) (by omega) sl (fun o ho => (hx o (sub o ho)).1) (fun o ho => (hx o (sub o ho)).2) (fun j hj => hall' _ (sub _ (os_ix hj)))
      by_cases hs : ahL (allL 5041 (iot n)) ps = []
      · rw [if_pos (by rw [hs]; rfl)] at me
        exact ⟨[], 15, ahead_ok l ps n _ _ hl hn (by omega) hr me, .inr ⟨n, rfl, .inr ⟨hr, me, .inl ⟨hs, rfl, rfl⟩⟩⟩⟩
      · have hlp : 0 < (ahL (allL 5041 (iot n)) ps).length := List.length_pos_iff.2 hs
        rw [if_neg (by omega)] at me
        refine ⟨_, 0, ahead_ok l ps n _ _ hl hn (by omega) hr me, .inr ⟨n, rfl, .inr ⟨hr, me, .inr ⟨hs, rfl, ?_⟩⟩⟩⟩
        have hroO : ∀ j, j < (ahL (allL 5041 (iot n)) ps).length → rightB (ix (ahL (allL 5041 (iot n)) ps) j) n = true := fun j hj => hall' _ (sub _ (os_ix hj))
        have fb := frac1_b (m := (ahL (allL 5041 (iot n)) ps).length) hlp (by omega)
        have hsl : (ahL (allL 5041 (iot n)) ps).length ≤ 120 := Nat.le_trans (List.length_filter_le _ _) hle
        generalize ahL (allL 5041 (iot n)) ps = os at *
        have hub := fun p => uV_b (os := os) fb hk (by omega) hlen os.length (Nat.le_refl _) hroO p
        have hle' : (2 * 2 + 3) * os.length ≤ (2 * 2 + 3) * 120 := Nat.mul_le_mul_left _ hsl
        have vb : ∀ p, p < n → Bq (1 + (2 * 2 + 3) * 120) (mV (vl l) os n p) := fun p hp => by
          have := hub p
          rw [uV_eq] at this
          exact this.mono (by omega)
        exact all10_ev hz n (1 + (2 * 2 + 3) * 120) (fun p => mV (vl l) os n p) (meL l os n) (by simp [meL]) (by omega) (fun p hp => by
          have : ix (meL l os n) p = can (mV (vl l) os n p) := tb_ix hp
          rw [this]
          exact ⟨can_v _, can_ok (vb p hp)⟩) vb (by omega) (by omega)
theorem ordersAheads_ev (hz : TzOk (nvR nv)) (L : List RQ) (O : List (Int × Int)) (hL : L.length ≤ maxLen) (hO : O.length ≤ maxLen) (hk : ∀ r ∈ L, r.ok maxLen) : EX ip (nvR nv) (.call F.dendronlaw21_OrdersAheads [.d (.sl 3 (el L)), .d (.sl 2 (el O))] []) = some (.ret (.d (.bool true)) []) := by
  rw [S_call dendronlaw21_OrdersAheads.ip rfl]
  have f1 := few19_ev (nv := nvR nv) L hL
  have hk2 := fewR_ok hk
  have hl : (fewR L).length ≤ 33 := by rw [fewR_len]; omega
  have aw := awake21_ev (nv := nvR nv)
  generalize fewR L = l at *
  have h16 : ∀ r ∈ l.take 16, r.ok 2 := fun r h => hk2 r (List.mem_of_mem_take h)
  have hl16 : (l.take 16).length ≤ 33 := by simp; omega
  have hO6 : (O.take 6).length ≤ 6 := by simp; omega
  have key : ∀ (l' : List RQ) (ps : List (Int × Int)), l'.length ≤ 33 → (∀ r ∈ l', r.ok 2) → ps.length ≤ 6 → ((l.length ≤ 16 ∧ l' = l) ∨ (16 < l.length ∧ l' = l.take 16)) → ((O.length ≤ 6 ∧ ps = O) ∨ (6 < O.length ∧ ps = O.take 6)) → EX ip (nvR nv) (.code dendronlaw21_OrdersAheads.body (params 0 [.d (.sl 3 (el L)), .d (.sl 2 (el O))]) []) = some (.st .ret [(4, .d (.bool true))] []) := by
    intro l' ps hl' hk' hps h1 h2
    obtain ⟨dx, i6, ah, hc⟩ := aheads_core hz l' ps hl' hk' hps
    have sz := size19_ev (nv := nvR nv) l' hl'
    rcases hc with ⟨hn, rfl, rfl⟩ | ⟨n, hn, hc⟩
    · rw [hn] at sz
      simp only at sz
      rcases h1 with ⟨h1, rfl⟩ | ⟨h1, rfl⟩ <;> rcases h2 with ⟨h2, rfl⟩ | ⟨h2, rfl⟩
      · have c1 : ¬ (16 : Int) < l'.length := by omega
        have c2 : ¬ (6 : Int) < ps.length := by omega
        simp (disch := omega) [dendronlaw21_OrdersAheads, f1, ah, sz, aw, c1, c2]
      · have c1 : ¬ (16 : Int) < l'.length := by omega
        have c2 : (6 : Int) < O.length := by omega
        simp (disch := omega) [dendronlaw21_OrdersAheads, f1, ah, sz, aw, c1, c2]
      · have c1 : (16 : Int) < l.length := by omega
        have c2 : ¬ (6 : Int) < ps.length := by omega
        simp (disch := omega) [dendronlaw21_OrdersAheads, f1, ah, sz, aw, c1, c2]
      · have c1 : (16 : Int) < l.length := by omega
        have c2 : (6 : Int) < O.length := by omega
        simp (disch := omega) [dendronlaw21_OrdersAheads, f1, ah, sz, aw, c1, c2]
    · rw [hn] at sz
      simp only at sz
      have hn6 := gmN_lt ⟨l'.length, by omega⟩ n hn
      have n0 : ¬ (n : Int) < 0 := by omega
      rcases hc with ⟨rfl, rfl, hb⟩ | ⟨hr, me, hc⟩
      · obtain ⟨_, _, _, b0, -, h⟩ := aheads_b0 (nv := nvR nv) l' ps n [] 8 (by omega) (by omega) (fun _ => ⟨rfl, rfl⟩)
        rcases h with ⟨-, -, -, hr⟩ | ⟨rfl, rfl, rfl, -⟩
        · obtain ⟨j, hj, c⟩ := hb
          rw [hr j hj] at c; cases c
        clear hb
        rcases h1 with ⟨h1, rfl⟩ | ⟨h1, rfl⟩ <;> rcases h2 with ⟨h2, rfl⟩ | ⟨h2, rfl⟩
        · have c1 : ¬ (16 : Int) < l'.length := by omega
          have c2 : ¬ (6 : Int) < ps.length := by omega
          simp (disch := omega) [dendronlaw21_OrdersAheads, f1, ah, sz, aw, c1, c2, n0, b0]
        · have c1 : ¬ (16 : Int) < l'.length := by omega
          have c2 : (6 : Int) < O.length := by omega
          simp (disch := omega) [dendronlaw21_OrdersAheads, f1, ah, sz, aw, c1, c2, n0, b0]
        · have c1 : (16 : Int) < l.length := by omega
          have c2 : ¬ (6 : Int) < ps.length := by omega
          simp (disch := omega) [dendronlaw21_OrdersAheads, f1, ah, sz, aw, c1, c2, n0, b0]
        · have c1 : (16 : Int) < l.length := by omega
          have c2 : (6 : Int) < O.length := by omega
          simp (disch := omega) [dendronlaw21_OrdersAheads, f1, ah, sz, aw, c1, c2, n0, b0]
      · obtain ⟨hd, hle, h0, hall⟩ := all_right ⟨n, by omega⟩
        simp only at hd hle h0 hall
        have al := all_ev (nv := nvR nv) n (by omega) hd
        have hall' := List.all_eq_true.1 hall
        clear hall
        generalize allL 5041 (iot n) = os at *
        obtain ⟨_, _, _, b0, -, h⟩ := aheads_b0 (nv := nvR nv) l' ps n dx i6 (by omega) (by omega) (fun h => by
          obtain ⟨j, hj, c⟩ := h
          rw [hr j hj] at c; cases c)
        rcases h with ⟨rfl, rfl, rfl, -⟩ | ⟨-, -, -, j, hj, c⟩
        rotate_left
        · rw [hr j hj] at c; cases c
        obtain ⟨_, _, _, b2, -, rfl, rfl, rfl⟩ := aheads_b2 (nv := nvR nv) l' ps os n dx i6 0 (by omega) (by omega) (by omega) hall' hr
        clear hall' hr
        rcases hc with ⟨hs, rfl, rfl⟩ | ⟨hs, rfl, a10⟩
        · rw [hs] at b2 me
          simp only [el_nil, List.length_nil, Int.natCast_zero] at b2 me
          rcases h1 with ⟨h1, rfl⟩ | ⟨h1, rfl⟩ <;> rcases h2 with ⟨h2, rfl⟩ | ⟨h2, rfl⟩
          · have c1 : ¬ (16 : Int) < l'.length := by omega
            have c2 : ¬ (6 : Int) < ps.length := by omega
            simp (disch := omega) [dendronlaw21_OrdersAheads, f1, ah, sz, aw, c1, c2, n0, b0, al, b2, me]
          · have c1 : ¬ (16 : Int) < l'.length := by omega
            have c2 : (6 : Int) < O.length := by omega
            simp (disch := omega) [dendronlaw21_OrdersAheads, f1, ah, sz, aw, c1, c2, n0, b0, al, b2, me]
          · have c1 : (16 : Int) < l.length := by omega
            have c2 : ¬ (6 : Int) < ps.length := by omega
            simp (disch := omega) [dendronlaw21_OrdersAheads, f1, ah, sz, aw, c1, c2, n0, b0, al, b2, me]
          · have c1 : (16 : Int) < l.length := by omega
            have c2 : (6 : Int) < O.length := by omega
            simp (disch := omega) [dendronlaw21_OrdersAheads, f1, ah, sz, aw, c1, c2, n0, b0, al, b2, me]
        · have hlp : 0 < (ahL os ps).length := List.length_pos_iff.2 hs
          have hne : ¬ (((ahL os ps).length : Nat) : Int) = 0 := by omega
          clear hlp
          generalize hsm : ahL os ps = sm at *
          clear hsm
          rcases h1 with ⟨h1, rfl⟩ | ⟨h1, rfl⟩ <;> rcases h2 with ⟨h2, rfl⟩ | ⟨h2, rfl⟩
          · have c1 : ¬ (16 : Int) < l'.length := by omega
            have c2 : ¬ (6 : Int) < ps.length := by omega
            simp (disch := omega) [dendronlaw21_OrdersAheads, f1, ah, sz, aw, c1, c2, n0, b0, al, b2, me, a10, hne, hs]
          · have c1 : ¬ (16 : Int) < l'.length := by omega
            have c2 : (6 : Int) < O.length := by omega
            simp (disch := omega) [dendronlaw21_OrdersAheads, f1, ah, sz, aw, c1, c2, n0, b0, al, b2, me, a10, hne, hs]
          · have c1 : (16 : Int) < l.length := by omega
            have c2 : ¬ (6 : Int) < ps.length := by omega
            simp (disch := omega) [dendronlaw21_OrdersAheads, f1, ah, sz, aw, c1, c2, n0, b0, al, b2, me, a10, hne, hs]
          · have c1 : (16 : Int) < l.length := by omega
            have c2 : (6 : Int) < O.length := by omega
            simp (disch := omega) [dendronlaw21_OrdersAheads, f1, ah, sz, aw, c1, c2, n0, b0, al, b2, me, a10, hne, hs]
  rcases Nat.lt_or_ge 16 l.length with c1 | c1 <;> rcases Nat.lt_or_ge 6 O.length with c2 | c2
  · rw [key _ _ hl16 h16 hO6 (.inr ⟨c1, rfl⟩) (.inr ⟨c2, rfl⟩)]; simp [dendronlaw21_OrdersAheads]
  · rw [key _ O hl16 h16 (by omega) (.inr ⟨c1, rfl⟩) (.inl ⟨c2, rfl⟩)]; simp [dendronlaw21_OrdersAheads]
  · rw [key l _ hl hk2 hO6 (.inl ⟨c1, rfl⟩) (.inr ⟨c2, rfl⟩)]; simp [dendronlaw21_OrdersAheads]
  · rw [key l O hl hk2 (by omega) (.inl ⟨c1, rfl⟩) (.inl ⟨c2, rfl⟩)]; simp [dendronlaw21_OrdersAheads]
end Go.Proofs.YtnmbpainnkdonaaDoor
