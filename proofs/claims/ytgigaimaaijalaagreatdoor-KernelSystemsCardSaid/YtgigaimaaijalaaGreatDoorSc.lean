/- The reference's products, and the number that limbs are. -/
import Derived.Test.YtgigaimaaijalaaGreatDoorSb
import Derived.Test.YtgigaimaaijalaaGreatDoorNf
set_option linter.unusedSimpArgs false
set_option linter.unusedVariables false
namespace Go.Proofs.YtgigaimaaijalaaGreatDoor
open Go Go.Proofs.R
set_option maxRecDepth 10000
section
variable {nv : R.Nv}
theorem times1_inner (a b : List Nat) (hb : T.Cl b) (i : Nat) (hi : i < a.length) (hx : T.lb a i < 10000) (L : Nat) (hL : i + b.length < L) (hL2 : L ≤ 4398046511104) (out0 : List Nat) (h0 : out0.length = L) (hc0 : T.Cl out0) :
    ∃ y e μ, EX ip nv (.code (.loop [] [] dendronref01_Times.b2) [(0, .d (.sl 1 (el a))), (1, .d (.sl 1 (el b))), (5, .own 14 1 0 L), (6, .d (.int .i64 (i : Int))), (7, .d (.int .i64 0)), (8, .d (.int .i64 0))] [(14, ⟨0, false, el out0⟩)]) = some (.st y e μ) ∧ y ≠ .normal ∧
    ∃ (out : List Nat) (c : Nat), y = .exit 2 ∧ e = [(0, .d (.sl 1 (el a))), (1, .d (.sl 1 (el b))), (5, .own 14 1 0 L), (6, .d (.int .i64 (i : Int))), (7, .d (.int .i64 (c : Int))), (8, .d (.int .i64 (b.length : Int))), (24, .d (.bool false))] ∧ μ = [(14, ⟨0, false, el out⟩)] ∧
      out.length = L ∧ T.Cl out ∧ c < 10000 ∧ T.lv out + T.pw (i + b.length) * c = T.lv out0 + T.pw i * (T.lb a i * T.lv b) ∧ ∀ j, i + b.length ≤ j → T.lb out j = T.lb out0 j := by
  refine loop_n b.length (fun k e μ => ∃ (out : List Nat) (c : Nat), e = [(0, .d (.sl 1 (el a))), (1, .d (.sl 1 (el b))), (5, .own 14 1 0 L), (6, .d (.int .i64 (i : Int))), (7, .d (.int .i64 (c : Int))), (8, .d (.int .i64 (k : Int)))] ∧ μ = [(14, ⟨0, false, el out⟩)] ∧
      out.length = L ∧ T.Cl out ∧ c < 10000 ∧ T.lv out + T.pw (i + k) * c = T.lv out0 + T.pw i * (T.lb a i * T.lv (b.take k)) ∧ ∀ j, i + k ≤ j → T.lb out j = T.lb out0 j) ?_ ?_ ⟨out0, 0, rfl, rfl, h0, hc0, by omega, by simp [T.lv], fun _ _ => rfl⟩
  · rintro k e μ hk ⟨out, c, rfl, rfl, hlen, hc, hc1, hv, hj⟩
    left
    have hk' : (k : Int) < b.length := by omega
    have l1 := T.lb_lt hb k
    have l2 := T.lb_lt hc (i + k)
    have hm : T.lb a i * T.lb b k ≤ 9999 * 9999 := Nat.mul_le_mul (by omega) (by omega)
    obtain ⟨s, hs⟩ : ∃ s, s = c + T.lb out (i + k) + T.lb a i * T.lb b k := ⟨_, rfl⟩
    have eb := T.lv_take_succ hb k
    have es := T.pw_split (i + k) s
    have eo := T.lv_set hc (i := i + k) (x := s % 10000) (by omega) (by omega)
    have r1 := i_rem4 (x := s)
    have q1 := i_quo4 (x := s) (by omega)
    refine ⟨[(0, .d (.sl 1 (el a))), (1, .d (.sl 1 (el b))), (5, .own 14 1 0 L), (6, .d (.int .i64 (i : Int))), (7, .d (.int .i64 ((s / 10000 : Nat) : Int))), (8, .d (.int .i64 ((k + 1 : Nat) : Int)))], [(14, ⟨0, false, el (out.set (i + k) (s % 10000))⟩)], ?_, _, _, rfl, rfl, by simpa using hlen, hc.set _ (by omega), by omega, ?_, fun j hj' => ?_⟩
    · have ei : ((T.lb a i : Nat) : Int) * ((T.lb b k : Nat) : Int) = ((T.lb a i * T.lb b k : Nat) : Int) := by simp
      have e1 : (c : Int) + ((T.lb out (i + k) : Nat) : Int) + ((T.lb a i * T.lb b k : Nat) : Int) = (s : Int) := by omega
      have x1 : ix a i = T.lb a i := rfl
      have x2 : ix b k = T.lb b k := rfl
      have x3 : ix out (i + k) = T.lb out (i + k) := rfl
      clear eb es eo hv hj
      generalize T.lb a i * T.lb b k = p at *
      generalize T.lb out (i + k) = o at *
      generalize T.lb a i = x at *
      generalize T.lb b k = y at *
      have hs' : s < 1000000000 := by omega
      generalize s / 10000 = q at *
      generalize s % 10000 = r at *
      have m1 : vBin .mul (some (.d (.int .i64 (x : Int)))) (some (.d (.int .i64 (y : Int)))) = some (.d (.int .i64 (p : Int))) := by
        rw [← ei]; exact i_mul (by omega) (by omega)
      simp (disch := omega) [dendronref01_Times.b2, hk, hk', x1, x2, x3, m1, e1, r1, q1, -vBin_rem, -vBin_quo, -vBin_mul, -i_mul]
    · rw [eb]
      have e1 : T.pw (i + k) * s = T.pw (i + k) * c + (T.pw (i + k) * T.lb out (i + k) + T.pw i * (T.lb a i * (T.pw k * T.lb b k))) := by
        rw [hs, Nat.mul_add, Nat.mul_add, T.pw_add, Nat.add_assoc]
        congr 2
        rw [Nat.mul_assoc, Nat.mul_left_comm (T.pw k)]
      rw [Nat.mul_add, Nat.mul_add]
      rw [show i + (k + 1) = i + k + 1 by omega]
      omega
    · rw [T.lb_set_ne (by omega)]
      exact hj j (by omega)
  · rintro e μ ⟨out, c, rfl, rfl, hlen, hc, hc1, hv, hj⟩
    rw [T.lv_take_all (Nat.le_refl _)] at hv
    exact ⟨.exit 2, _, _, by simp [dendronref01_Times.b2] <;> first | rfl | exact ⟨rfl, rfl⟩, by simp, out, c, rfl, rfl, rfl, hlen, hc, hc1, hv, hj⟩
theorem times1_loop (a b : List Nat) (ha : T.Cl a) (hb : T.Cl b) (hs : a.length ≤ 1099511627776) (hs' : b.length ≤ 1099511627776) (L : Nat) (hL : L = a.length + b.length) : ∃ x e μ, EX ip nv (.code (.loop [] [] dendronref01_Times.b0) [(0, .d (.sl 1 (el a))), (1, .d (.sl 1 (el b))), (5, .own 14 1 0 L), (6, .d (.int .i64 0))] [(14, ⟨0, false, el (List.replicate L (0 : Nat))⟩)]) = some (.st x e μ) ∧ x ≠ .normal ∧
    ∃ out : List Nat, x = .exit 0 ∧ e = [(0, .d (.sl 1 (el a))), (1, .d (.sl 1 (el b))), (5, .own 14 1 0 L), (6, .d (.int .i64 (a.length : Int))), (18, .d (.bool false))] ∧ μ = [(14, ⟨0, false, el out⟩)] ∧ out.length = L ∧ T.Cl out ∧ T.lv out = T.lv a * T.lv b := by
  refine loop_n a.length (fun i e μ => ∃ out : List Nat, e = [(0, .d (.sl 1 (el a))), (1, .d (.sl 1 (el b))), (5, .own 14 1 0 L), (6, .d (.int .i64 (i : Int)))] ∧ μ = [(14, ⟨0, false, el out⟩)] ∧ out.length = L ∧ T.Cl out ∧ T.lv out = T.lv (a.take i) * T.lv b ∧ ∀ j, i + b.length ≤ j → T.lb out j = 0) ?_ ?_ ⟨_, rfl, rfl, by simp, T.Cl.zeros L, by simp [T.lv, T.lv_zeros], fun j _ => by simp only [T.lb, List.getD_eq_getElem?_getD, List.getElem?_replicate]; split <;> rfl⟩
  · rintro i e μ hi ⟨out, rfl, rfl, hlen, hc, hv, hj⟩
    left
    have hi' : (i : Int) < a.length := by omega
    have l1 := T.lb_lt ha i
    obtain ⟨_, _, _, hr, -, out1, c, rfl, rfl, rfl, q1, q2, q3, q4, q5⟩ := times1_inner (nv := nv) a b hb i hi l1 L (by omega) (by omega) out hlen hc
    have ea := T.lv_take_succ ha i
    have eo := T.lv_set q2 (i := i + b.length) (x := c) (by omega) q3
    rw [q5 _ (Nat.le_refl _), hj _ (Nat.le_refl _)] at eo
    refine ⟨[(0, .d (.sl 1 (el a))), (1, .d (.sl 1 (el b))), (5, .own 14 1 0 L), (6, .d (.int .i64 ((i + 1 : Nat) : Int)))], [(14, ⟨0, false, el (out1.set (i + b.length) c)⟩)], ?_, _, rfl, rfl, by simpa using q1, q2.set _ q3, ?_, fun j hj' => ?_⟩
    · simp (disch := omega) [dendronref01_Times.b0, hi, hi', hr]
    · rw [ea, Nat.add_mul, ← hv, Nat.mul_assoc]
      omega
    · rw [T.lb_set_ne (by omega), q5 j (by omega)]
      exact hj j (by omega)
  · rintro e μ ⟨out, rfl, rfl, hlen, hc, hv, hj⟩
    rw [T.lv_take_all (Nat.le_refl _)] at hv
    exact ⟨.exit 0, _, _, by simp [dendronref01_Times.b0] <;> first | rfl | exact ⟨rfl, rfl⟩, by simp, out, rfl, rfl, rfl, hlen, hc, hv⟩
theorem times1_ev (m n : Nat) (hm : (T.dig m).length ≤ 1099511627776) (hn : (T.dig n).length ≤ 1099511627776) : EX ip nv (.call F.dendronref01_Times [.d (.sl 1 (el (T.dig m))), .d (.sl 1 (el (T.dig n)))] []) = some (.ret (.d (.sl 1 (el (T.dig (m * n))))) []) := by
  rw [S_call dendronref01_Times.ip rfl]
  obtain ⟨_, _, _, hr, -, out, rfl, rfl, rfl, hlen, hc, hv⟩ := times1_loop (nv := nv) (T.dig m) (T.dig n) (T.dig_cl _) (T.dig_cl _) hm hn _ rfl
  rw [T.lv_dig, T.lv_dig] at hv
  have ht := trim1_ev (nv := nv) out (by omega) hc
  rw [hv] at ht
  simp (disch := omega) [dendronref01_Times, mk_nat0, -mk_int, -kMk_n, hr, ht]
theorem tlen_mul {m n j k : Nat} (hm : (T.dig m).length ≤ j) (hn : (T.dig n).length ≤ k) : (T.dig (m * n)).length ≤ j + k := by
  rw [T.dig_len_le] at hm hn ⊢
  rw [T.pw_add]
  exact Nat.mul_lt_mul'' hm hn
theorem lv_len3 (l : List Nat) : (T.dig (lv l)).length ≤ 3 * l.length := by
  rw [T.dig_len_le]
  have h := lv_lt l
  refine Nat.lt_of_lt_of_le h ?_
  have : T.pw (3 * l.length) = (10000 ^ 3) ^ l.length := by rw [T.pw, Nat.pow_mul]
  rw [this]
  exact Nat.pow_le_pow_left (by decide) _
theorem u_mask {x : Nat} (hx : x < 18446744073709551616) : vBin .and (some (.d (u x))) (some (.d (u 4294967295))) = some (.d (u (x % 4294967296))) := u_low hx
theorem from1_loop (l : List Nat) (hl : l.length ≤ 1073741824) (hr : ∀ x ∈ l, x < 18446744073709551616) : ∃ x e μ, EX ip nv (.code (.loop [] [] dendronref01_From.b0) [(0, .d (.sl 1 (us l))), (3, .d (.sl 1 [])), (4, .d (.sl 1 (el (T.dig 4294967296)))), (5, .d (.int .i64 ((l.length : Int) - 1)))] []) = some (.st x e μ) ∧ x ≠ .normal ∧
    x = .exit 0 ∧ e = [(0, .d (.sl 1 (us l))), (3, .d (.sl 1 (el (T.dig (lv l))))), (4, .d (.sl 1 (el (T.dig 4294967296)))), (5, .d (.int .i64 (-1))), (11, .d (.bool false))] ∧ μ = [] := by
  refine loop_m (fun k e μ => ∃ v : Nat, v = lv (l.drop k) ∧ e = [(0, .d (.sl 1 (us l))), (3, .d (.sl 1 (el (T.dig v)))), (4, .d (.sl 1 (el (T.dig 4294967296)))), (5, .d (.int .i64 ((k : Int) - 1)))] ∧ μ = [] ∧ k ≤ l.length) ?_ l.length _ _ ⟨0, by simp [lv], by rw [T.dig_zero]; rfl, rfl, Nat.le_refl _⟩
  rintro k e μ ⟨v, hv, rfl, rfl, hk⟩
  cases k with
  | zero =>
    have : v = lv l := by simpa using hv
    subst this
    exact .inr ⟨.exit 0, _, [], by simp [dendronref01_From.b0] <;> rfl, by simp, rfl, rfl, rfl⟩
  | succ k =>
    have hvl : (T.dig v).length ≤ 3 * 1073741824 := by
      have := lv_len3 (l.drop (k + 1))
      rw [← hv, List.length_drop] at this
      omega
    have hu : (T.dig 4294967296).length ≤ 3 := tlen (by simp [T.pw])
    have t1 := times1_ev (nv := nv) v 4294967296 (by omega) (by omega)
    have hb : lb l k < 18446744073709551616 := by
      have : lb l k = l[k] := by simp [lb, show k < l.length by omega]
      rw [this]; exact hr _ (List.getElem_mem _)
    have mk := u_mask hb
    have s1 := small1_ev (nv := nv) (lb l k % 4294967296) (by omega)
    have hsl : (T.dig (lb l k % 4294967296)).length ≤ 3 := tlen (by simp [T.pw]; omega)
    have p1 := plus1_ev (nv := nv) (v * 4294967296) (lb l k % 4294967296) (3 * 1073741824 + 3) (tlen_mul hvl hu) (by omega) (by omega)
    have cv := u_convI (a := lb l k % 4294967296) (by omega)
    have e1 : v * 4294967296 + lb l k % 4294967296 = lv (l.drop k) := by
      rw [List.drop_eq_getElem_cons (show k < l.length by omega), lv, ← hv, lb_getElem (by omega)]
      omega
    have hk0 : (0 : Int) ≤ (k : Int) := by omega
    rw [e1] at p1
    refine .inl ⟨[(0, .d (.sl 1 (us l))), (3, .d (.sl 1 (el (T.dig (lv (l.drop k)))))), (4, .d (.sl 1 (el (T.dig 4294967296)))), (5, .d (.int .i64 ((k : Int) - 1)))], [], ?_, k, by omega, lv (l.drop k), rfl, rfl, rfl, by omega⟩
    clear e1 hv hvl hsl hu
    generalize T.dig 4294967296 = dd at *
    generalize T.dig (lv (l.drop k)) = d1 at *
    generalize T.dig (v * 4294967296) = d2 at *
    generalize lb l k % 4294967296 = m at *
    generalize T.dig v = d3 at *
    generalize T.dig m = d4 at *
    simp (disch := omega) [dendronref01_From.b0, hk0, mk, t1, s1, p1, cv, -u_low]
theorem from1_ev (l : List Nat) (hl : l.length ≤ 1073741824) (hr : ∀ x ∈ l, x < 18446744073709551616) : EX ip nv (.call F.dendronref01_From [.d (.sl 1 (us l))] []) = some (.ret (.d (.sl 1 (el (T.dig (lv l))))) []) := by
  rw [S_call dendronref01_From.ip rfl]
  have s := small1_ev (nv := nv) 4294967296 (by omega)
  obtain ⟨_, _, _, h, -, rfl, rfl, rfl⟩ := from1_loop (nv := nv) l hl hr
  have e : ((4294967296 : Nat) : Int) = 4294967296 := rfl
  rw [e] at s
  generalize T.dig 4294967296 = dd at *
  generalize T.dig (lv l) = d1 at *
  simp (disch := omega) [dendronref01_From, s, h]
end
end Go.Proofs.YtgigaimaaijalaaGreatDoor
