/- Knuth's division, part one: multiples taken and given back in a window; shifts. -/
import Derived.Test.YtnmbpainnkdonaaDoorNc
set_option linter.unusedSimpArgs false
set_option linter.unusedVariables false
namespace Go.Proofs.YtnmbpainnkdonaaDoor
open Go Go.Proofs.R
set_option maxRecDepth 10000
section
variable {nv : R.Nv}
theorem lb_win {p w q : List Nat} {i : Nat} (h : i < w.length) : lb (p ++ w ++ q) (p.length + i) = lb w i := by
  rw [List.append_assoc, lb_append_right (by omega), Nat.add_sub_cancel_left, lb_append_left h]
theorem set_win {p w q : List Nat} {i x : Nat} (h : i < w.length) : (p ++ w ++ q).set (p.length + i) x = p ++ w.set i x ++ q := by
  rw [List.append_assoc, List.set_append, if_neg (by omega), Nat.add_sub_cancel_left, List.set_append, if_pos h, List.append_assoc]

theorem take_loop (p w q v : List Nat) (t m : Nat) (hw : Cl w) (hv : Cl v) (ht : t < 4294967296) (hm : w.length = m) (U0 : List Nat) (hU : U0 = p ++ w ++ q) (hL : U0.length ≤ 4398046511104) (hvl : v.length ≤ 1099511627776) (hm2 : m ≤ 1099511627777) :
    ∃ x e μ, EX ip nv (.code (.loop [] [] nat_take.b0) [(0, .own 0 1 p.length m), (1, .d (.sl 1 (us v))), (2, .d (u t)), (7, .d (u 0)), (8, .d (u 0)), (12, .d (.int .i64 (m : Int))), (13, .d (.int .i64 0))] [(0, ⟨0, true, us U0⟩)]) = some (.st x e μ) ∧ x ≠ .normal ∧
    ∃ w' c d U, x = .exit 0 ∧ e = [(0, .own 0 1 p.length m), (1, .d (.sl 1 (us v))), (2, .d (u t)), (7, .d (u c)), (8, .d (u d)), (12, .d (.int .i64 (m : Int))), (13, .d (.int .i64 (m : Int))), (14, .d (.bool false))] ∧ μ = [(0, ⟨0, true, us U⟩)] ∧ U = p ++ w' ++ q ∧
      w'.length = m ∧ Cl w' ∧ d ≤ 1 ∧ pw m * c ≤ t * lv (v.take m) ∧ lv w' + t * lv (v.take m) = lv w + pw m * (c + d) := by
  have hLe : U0.length = p.length + m + q.length := by rw [hU]; simp; omega
  refine loop_n m (fun i e μ => ∃ w' c d U, e = [(0, .own 0 1 p.length m), (1, .d (.sl 1 (us v))), (2, .d (u t)), (7, .d (u c)), (8, .d (u d)), (12, .d (.int .i64 (m : Int))), (13, .d (.int .i64 (i : Int)))] ∧ μ = [(0, ⟨0, true, us U⟩)] ∧ U = p ++ w' ++ q ∧
      w'.length = m ∧ Cl w' ∧ d ≤ 1 ∧ c < 4294967296 ∧ pw i * c ≤ t * lv (v.take i) ∧ (∀ j, i ≤ j → lb w' j = lb w j) ∧ lv (w'.take i) + t * lv (v.take i) = lv (w.take i) + pw i * (c + d)) ?_ ?_ ⟨w, 0, 0, U0, rfl, rfl, hU, hm, hw, by omega, by omega, by simp, fun _ _ => rfl, by simp [lv]⟩
  · rintro i e μ hi ⟨w', c, d, U, rfl, rfl, hUw, hlen, hc, hd, hc1, hcle, hj, hval⟩
    left
    have hi' : (i : Int) < m := by omega
    have l1 := lb_lt hv i
    have l2 := lb_lt hc i
    have hlU : U.length = p.length + m + q.length := by rw [hUw]; simp; omega
    have hlb : lb U (p.length + i) = lb w' i := by rw [hUw]; exact lb_win (by omega)
    have hmm : t * lb v i ≤ 4294967295 * 4294967295 := Nat.mul_le_mul (by omega) (by omega)
    have e2 := limb_ev (nv := nv) v i hvl (by omega)
    obtain ⟨s, hs⟩ : ∃ s, s = c + t * lb v i := ⟨_, rfl⟩
    obtain ⟨x, hx⟩ : ∃ x, x = 4294967296 + lb w' i - s % 4294967296 - d := ⟨_, rfl⟩
    have hset : U.set (p.length + i) (x % 4294967296) = p ++ w'.set i (x % 4294967296) ++ q := by rw [hUw]; exact set_win (by omega)
    have ev := lv_take_succ hv i
    have ew := lv_take_succ hw i
    rw [← hj i (Nat.le_refl _)] at ew
    have eo := lv_take_set (x := x % 4294967296) hc (i := i) (by omega) (by omega)
    have es := pw_split i s
    have ex := pw_split i x
    refine ⟨[(0, .own 0 1 p.length m), (1, .d (.sl 1 (us v))), (2, .d (u t)), (7, .d (u (s / 4294967296))), (8, .d (u (1 - x / 4294967296))), (12, .d (.int .i64 (m : Int))), (13, .d (.int .i64 ((i + 1 : Nat) : Int)))], [(0, ⟨0, true, us (U.set (p.length + i) (x % 4294967296))⟩)], ?_, _, _, _, _, rfl, rfl, hset, by simpa using hlen, hc.set _ (by omega), by omega, by omega, ?_, fun j hj' => ?_, ?_⟩
    · rw [hx, hs]
      simp (disch := omega) [nat_take.b0, hi', e2, hlb]
    · rw [ev, Nat.mul_add, Nat.mul_left_comm]
      have : pw i * s = pw i * c + pw i * (t * lb v i) := by rw [hs, Nat.mul_add]
      omega
    · rw [lb_set_ne (by omega)]; exact hj j (by omega)
    · rw [eo, ev, ew, Nat.mul_add, Nat.mul_left_comm t]
      have e1 : pw i * s = pw i * c + pw i * (t * lb v i) := by rw [hs, Nat.mul_add]
      have e3 : pw i * x + pw i * (s % 4294967296) + pw i * d = pw i * 4294967296 + pw i * lb w' i := by
        rw [← Nat.mul_add, ← Nat.mul_add, ← Nat.mul_add]
        congr 1
        omega
      have e4 : pw (i + 1) = pw i * 4294967296 := by rw [pw_succ, Nat.mul_comm]
      rw [Nat.mul_add] at hval ⊢
      have h6 : x / 4294967296 = 0 ∨ x / 4294967296 = 1 := by omega
      rcases h6 with h6 | h6 <;> rw [h6] at ex ⊢ <;> omega
  · rintro e μ ⟨w', c, d, U, rfl, rfl, hUw, hlen, hc, hd, hc1, hcle, hj, hval⟩
    rw [lv_take_all (show w'.length ≤ m by omega), lv_take_all (show w.length ≤ m by omega)] at hval
    exact ⟨.exit 0, _, _, by simp [nat_take.b0], by simp, w', c, d, U, rfl, rfl, rfl, hUw, hlen, hc, hd, hcle, hval⟩
/-- What taking a multiple away comes to: nothing is left over but perhaps one debt. -/
theorem take_ev (p w q v : List Nat) (t : Nat) (hw : Cl w) (hv : Cl v) (ht : t < 4294967296) (hm : w.length = v.length + 1) (U0 : List Nat) (hU : U0 = p ++ w ++ q) (hL : U0.length ≤ 4398046511104) (hvl : v.length ≤ 1099511627776) :
    ∃ w' d, EX ip nv (.call F.nat_take [.own 0 1 p.length w.length, .d (.sl 1 (us v)), .d (u t)] [(0, ⟨0, true, us U0⟩)]) = some (.ret (.d (.bool (decide (d = 1)))) [(0, ⟨0, true, us (p ++ w' ++ q)⟩)]) ∧
      w'.length = w.length ∧ Cl w' ∧ d ≤ 1 ∧ lv w' + t * lv v = lv w + pw w.length * d := by
  obtain ⟨_, _, _, hr, -, w', c, d, U, rfl, rfl, rfl, q1, q2, q3, q4, q5, q6⟩ := take_loop (nv := nv) p w q v t w.length hw hv ht rfl U0 hU hL hvl (by omega)
  rw [lv_take_all (by omega)] at q5 q6
  have hc0 : c = 0 := by
    have h1 := lv_lt v
    have h2 : t * lv v < pw w.length := by
      rw [hm, pw_succ]
      calc t * lv v ≤ t * pw v.length := Nat.mul_le_mul_left _ (by omega)
        _ < 4294967296 * pw v.length := Nat.mul_lt_mul_of_pos_right ht (pw_pos _)
    rcases Nat.eq_zero_or_pos c with h | h
    · exact h
    · have : pw w.length * 1 ≤ pw w.length * c := Nat.mul_le_mul_left _ h
      omega
  subst hc0
  refine ⟨w', d, ?_, q2, q3, q4, by simpa using q6⟩
  rw [S_call nat_take.ip rfl]
  simp (disch := omega) [nat_take, hr, q1]

theorem give_loop (p w q v : List Nat) (m : Nat) (hw : Cl w) (hv : Cl v) (hm : w.length = m) (U0 : List Nat) (hU : U0 = p ++ w ++ q) (hL : U0.length ≤ 4398046511104) (hvl : v.length ≤ 1099511627776) (hm2 : m ≤ 1099511627777) :
    ∃ x e μ, EX ip nv (.code (.loop [] [] nat_give.b0) [(0, .own 0 1 p.length m), (1, .d (.sl 1 (us v))), (4, .d (u 0)), (7, .d (.int .i64 (m : Int))), (8, .d (.int .i64 0))] [(0, ⟨0, true, us U0⟩)]) = some (.st x e μ) ∧ x ≠ .normal ∧
    ∃ w' c U, x = .exit 0 ∧ e = [(0, .own 0 1 p.length m), (1, .d (.sl 1 (us v))), (4, .d (u c)), (7, .d (.int .i64 (m : Int))), (8, .d (.int .i64 (m : Int))), (9, .d (.bool false))] ∧ μ = [(0, ⟨0, true, us U⟩)] ∧ U = p ++ w' ++ q ∧
      w'.length = m ∧ Cl w' ∧ c ≤ 1 ∧ lv w' + pw m * c = lv w + lv (v.take m) := by
  have hLe : U0.length = p.length + m + q.length := by rw [hU]; simp; omega
  refine loop_n m (fun i e μ => ∃ w' c U, e = [(0, .own 0 1 p.length m), (1, .d (.sl 1 (us v))), (4, .d (u c)), (7, .d (.int .i64 (m : Int))), (8, .d (.int .i64 (i : Int)))] ∧ μ = [(0, ⟨0, true, us U⟩)] ∧ U = p ++ w' ++ q ∧
      w'.length = m ∧ Cl w' ∧ c ≤ 1 ∧ (∀ j, i ≤ j → lb w' j = lb w j) ∧ lv (w'.take i) + pw i * c = lv (w.take i) + lv (v.take i)) ?_ ?_ ⟨w, 0, U0, rfl, rfl, hU, hm, hw, by omega, fun _ _ => rfl, by simp [lv]⟩
  · rintro i e μ hi ⟨w', c, U, rfl, rfl, hUw, hlen, hc, hc1, hj, hval⟩
    left
    have hi' : (i : Int) < m := by omega
    have l1 := lb_lt hv i
    have l2 := lb_lt hc i
    have hlU : U.length = p.length + m + q.length := by rw [hUw]; simp; omega
    have hlb : lb U (p.length + i) = lb w' i := by rw [hUw]; exact lb_win (by omega)
    have e2 := limb_ev (nv := nv) v i hvl (by omega)
    obtain ⟨s, hs⟩ : ∃ s, s = c + (lb w' i + lb v i) := ⟨_, rfl⟩
    have hset : U.set (p.length + i) (s % 4294967296) = p ++ w'.set i (s % 4294967296) ++ q := by rw [hUw]; exact set_win (by omega)
    have ev := lv_take_succ hv i
    have ew := lv_take_succ hw i
    rw [← hj i (Nat.le_refl _)] at ew
    have eo := lv_take_set (x := s % 4294967296) hc (i := i) (by omega) (by omega)
    have es := pw_split i s
    refine ⟨[(0, .own 0 1 p.length m), (1, .d (.sl 1 (us v))), (4, .d (u (s / 4294967296))), (7, .d (.int .i64 (m : Int))), (8, .d (.int .i64 ((i + 1 : Nat) : Int)))], [(0, ⟨0, true, us (U.set (p.length + i) (s % 4294967296))⟩)], ?_, _, _, _, rfl, rfl, hset, by simpa using hlen, hc.set _ (by omega), by omega, fun j hj' => ?_, ?_⟩
    · rw [hs]
      simp (disch := omega) [nat_give.b0, hi', e2, hlb]
    · rw [lb_set_ne (by omega)]; exact hj j (by omega)
    · rw [eo, ev, ew]
      have e1 : pw i * s = pw i * c + (pw i * lb w' i + pw i * lb v i) := by rw [hs, Nat.mul_add, Nat.mul_add]
      omega
  · rintro e μ ⟨w', c, U, rfl, rfl, hUw, hlen, hc, hc1, hj, hval⟩
    rw [lv_take_all (show w'.length ≤ m by omega), lv_take_all (show w.length ≤ m by omega)] at hval
    exact ⟨.exit 0, _, _, by simp [nat_give.b0], by simp, w', c, U, rfl, rfl, rfl, hUw, hlen, hc, hc1, hval⟩
theorem give_ev (p w q v : List Nat) (hw : Cl w) (hv : Cl v) (hm : w.length = v.length + 1) (U0 : List Nat) (hU : U0 = p ++ w ++ q) (hL : U0.length ≤ 4398046511104) (hvl : v.length ≤ 1099511627776) :
    ∃ w' c, EX ip nv (.call F.nat_give [.own 0 1 p.length w.length, .d (.sl 1 (us v))] [(0, ⟨0, true, us U0⟩)]) = some (.ret (.tp []) [(0, ⟨0, true, us (p ++ w' ++ q)⟩)]) ∧
      w'.length = w.length ∧ Cl w' ∧ c ≤ 1 ∧ lv w' + pw w.length * c = lv w + lv v := by
  obtain ⟨_, _, _, hr, -, w', c, U, rfl, rfl, rfl, q1, q2, q3, q4, q5⟩ := give_loop (nv := nv) p w q v w.length hw hv rfl U0 hU hL hvl (by omega)
  rw [lv_take_all (by omega)] at q5
  refine ⟨w', c, ?_, q2, q3, q4, q5⟩
  rw [S_call nat_give.ip rfl]
  simp (disch := omega) [nat_give, hr, q1]
end
end Go.Proofs.YtnmbpainnkdonaaDoor
