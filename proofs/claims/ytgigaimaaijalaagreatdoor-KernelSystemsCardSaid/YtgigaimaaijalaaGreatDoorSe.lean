/- The reference's whole numbers and fractions; what the statements ask of numbers. -/
import Derived.Test.YtgigaimaaijalaaGreatDoorSd
import Derived.Test.YtgigaimaaijalaaGreatDoorRd
set_option linter.unusedSimpArgs false
set_option linter.unusedVariables false
namespace Go.Proofs.YtgigaimaaijalaaGreatDoor
open Go Go.Proofs.R
set_option maxRecDepth 10000
/-- A whole number of the reference's. -/
def zT (z : Int) : List D := [.bool (decide (z < 0)), .sl 1 (el (T.dig z.natAbs))]
/-- A fraction of the reference's. -/
def fT (z : Int) (d : Nat) : List D := [.bool (decide (z < 0)), .sl 1 (el (T.dig z.natAbs)), .sl 1 (el (T.dig d))]
@[simp] theorem zT_len (z : Int) : (zT z).length = 2 := rfl
@[simp high] theorem set_zT {x y : D} {z : Int} : setAt [x, y] 0 (zT z) = zT z := rfl
@[simp high] theorem take_zT {z : Int} : (zT z).take 2 = zT z := rfl
@[simp high] theorem fT_drop0 {z : Int} {d : Nat} : (fT z d).take 2 = zT z := rfl
@[simp] theorem fT_len (z : Int) (d : Nat) : (fT z d).length = 3 := rfl
@[simp high] theorem set_fT {x y w : D} {z : Int} {d : Nat} : setAt [x, y, w] 0 (fT z d) = fT z d := rfl
@[simp high] theorem take_fT {z : Int} {d : Nat} : (fT z d).take 3 = fT z d := rfl
@[simp high] theorem get_fT2 {z : Int} {d : Nat} : (fT z d)[2]? = some (.sl 1 (el (T.dig d))) := rfl
@[simp high] theorem set_zf {z : Int} {d : Nat} : (setAt [D.bool false, .sl 1 [], .sl 1 []] 0 (zT z)).set 2 (.sl 1 (el (T.dig d))) = fT z d := rfl
@[simp high] theorem len_zf {x y w : D} {z : Int} : (setAt [x, y, w] 0 (zT z)).length = 3 := rfl
@[simp high] theorem get_zT0 {z : Int} : (zT z)[0]? = some (.bool (decide (z < 0))) := rfl
@[simp high] theorem get_zT1 {z : Int} : (zT z)[1]? = some (.sl 1 (el (T.dig z.natAbs))) := rfl
/-- How two whole numbers stand. -/
def cmpW (a b : Int) : Int := if a < b then -1 else if b < a then 1 else 0
theorem cmpW_eq (a b : Int) : cmpW a b = 0 ↔ a = b := by
  unfold cmpW
  split
  · simp; omega
  · split
    · simp; omega
    · simp; omega
section
variable {nv : R.Nv}
theorem make2_ev (neg : Bool) (n : Nat) : EX ip nv (.call F.dendronref02_Make [.d (.bool neg), .d (.sl 1 (el (T.dig n)))] []) = some (.ret (.d (.ag (zT (zs neg n)))) []) := by
  rw [S_call dendronref02_Make.ip rfl]
  unfold zT
  rw [zs_abs, zs_neg]
  have h := T.dig_len_pos (n := n)
  by_cases h0 : 0 < n
  · have hp := h.2 h0
    generalize T.dig n = a at *
    have hne : a ≠ [] := by intro h; subst h; simp at hp
    cases neg <;> simp (disch := omega) [dendronref02_Make, h0, hp, hne]
  · have hz : n = 0 := by omega
    subst hz
    rw [T.dig_zero]
    cases neg <;> simp (disch := omega) [dendronref02_Make]
theorem from2_ev (neg : Bool) (l : List Nat) (hl : l.length ≤ 1073741824) (hr : ∀ x ∈ l, x < 18446744073709551616) : EX ip nv (.call F.dendronref02_From [.d (.ag [.bool neg, .sl 1 (us l)])] []) = some (.ret (.d (.ag (zT (zs neg (lv l))))) []) := by
  rw [S_call dendronref02_From.ip rfl]
  have f := from1_ev (nv := nv) l hl hr
  have m := make2_ev (nv := nv) neg (lv l)
  generalize T.dig (lv l) = a at *
  generalize zs neg (lv l) = z at *
  simp (disch := omega) [dendronref02_From, f, m]
theorem zs_mul (a b : Int) : zs (decide (a < 0) != decide (b < 0)) (a.natAbs * b.natAbs) = a * b := by
  by_cases ha : a < 0 <;> by_cases hb : b < 0 <;> simp [zs, ha, hb]
  · rw [Int.ofNat_natAbs_of_nonpos (by omega), Int.ofNat_natAbs_of_nonpos (by omega), Int.neg_mul_neg]
  · rw [Int.ofNat_natAbs_of_nonpos (by omega), Int.natAbs_of_nonneg (by omega), Int.neg_mul, Int.neg_neg]
  · rw [Int.natAbs_of_nonneg (by omega), Int.ofNat_natAbs_of_nonpos (by omega), Int.mul_neg, Int.neg_neg]
  · rw [Int.natAbs_of_nonneg (by omega), Int.natAbs_of_nonneg (by omega)]
theorem times2_ev (a b : Int) (ha : (T.dig a.natAbs).length ≤ 1099511627776) (hb : (T.dig b.natAbs).length ≤ 1099511627776) : EX ip nv (.call F.dendronref02_Times [.d (.ag (zT a)), .d (.ag (zT b))] []) = some (.ret (.d (.ag (zT (a * b)))) []) := by
  rw [S_call dendronref02_Times.ip rfl]
  have t := times1_ev (nv := nv) a.natAbs b.natAbs ha hb
  have m := make2_ev (nv := nv) (decide (a < 0) != decide (b < 0)) (a.natAbs * b.natAbs)
  rw [zs_mul] at m
  have e : (if True then !(decide (a < 0) == decide (b < 0)) else decide (a < 0) == decide (b < 0)) = (decide (a < 0) != decide (b < 0)) := rfl
  unfold zT at *
  generalize T.dig (a.natAbs * b.natAbs) = w at *
  generalize decide (a * b < 0) = c at *
  generalize T.dig (a * b).natAbs = w2 at *
  generalize T.dig a.natAbs = w3 at *
  generalize T.dig b.natAbs = w4 at *
  generalize decide (a < 0) = x at *
  generalize decide (b < 0) = y at *
  cases x <;> cases y <;> (simp at m; simp (disch := omega) [dendronref02_Times, t, m])
theorem order2_ev (a b : Int) (ha : (T.dig a.natAbs).length ≤ 1099511627776) (hb : (T.dig b.natAbs).length ≤ 1099511627776) : EX ip nv (.call F.dendronref02_Order [.d (.ag (zT a)), .d (.ag (zT b))] []) = some (.ret (.d (.int .i64 (cmpW a b))) []) := by
  rw [S_call dendronref02_Order.ip rfl]
  have o1 := order1_ev (nv := nv) a.natAbs b.natAbs ha hb
  have o2 := order1_ev (nv := nv) b.natAbs a.natAbs hb ha
  unfold zT
  by_cases h1 : a < 0
  · by_cases h2 : b < 0
    · have e : cmpN b.natAbs a.natAbs = cmpW a b := by
        unfold cmpN cmpW
        split <;> split <;> (try split) <;> first | rfl | omega
      rw [e] at o2
      generalize T.dig a.natAbs = w3 at *
      generalize T.dig b.natAbs = w4 at *
      simp (disch := omega) [dendronref02_Order, h1, h2, o2]
    · have e : cmpW a b = -1 := by unfold cmpW; rw [if_pos (by omega)]
      rw [e]
      simp (disch := omega) [dendronref02_Order, h1, h2]
  · by_cases h2 : b < 0
    · have e : cmpW a b = 1 := by unfold cmpW; rw [if_neg (by omega), if_pos (by omega)]
      rw [e]
      simp (disch := omega) [dendronref02_Order, h1, h2]
    · have e : cmpN a.natAbs b.natAbs = cmpW a b := by
        unfold cmpN cmpW
        split <;> split <;> (try split) <;> first | rfl | omega
      rw [e] at o1
      generalize T.dig a.natAbs = w3 at *
      generalize T.dig b.natAbs = w4 at *
      simp (disch := omega) [dendronref02_Order, h1, h2, o1]
theorem den3_ev (z : Int) (d : Nat) : EX ip nv (.call F.dendronref03_den [.d (.ag (fT z d))] []) = some (.ret (.d (.ag (zT (d : Int)))) []) := by
  rw [S_call dendronref03_den.ip rfl]
  have m := make2_ev (nv := nv) false d
  have e : zs false d = (d : Int) := rfl
  rw [e] at m
  simp (disch := omega) [dendronref03_den, m]
theorem order3_ev (a b : Int) (m n : Nat) {k : Nat} (ha : (T.dig a.natAbs).length ≤ k) (hb : (T.dig b.natAbs).length ≤ k) (hm : (T.dig m).length ≤ k) (hn : (T.dig n).length ≤ k) (hk : k ≤ 500000000000) : EX ip nv (.call F.dendronref03_Order [.d (.ag (fT a m)), .d (.ag (fT b n))] []) = some (.ret (.d (.int .i64 (cmpW (a * n) (b * m)))) []) := by
  rw [S_call dendronref03_Order.ip rfl]
  have d1 := den3_ev (nv := nv) a m
  have d2 := den3_ev (nv := nv) b n
  have t1 := times2_ev (nv := nv) a (n : Int) (by omega) (by rw [Int.natAbs_natCast]; omega)
  have t2 := times2_ev (nv := nv) b (m : Int) (by omega) (by rw [Int.natAbs_natCast]; omega)
  have o := order2_ev (nv := nv) (a * (n : Int)) (b * (m : Int)) (by rw [Int.natAbs_mul, Int.natAbs_natCast]; exact Nat.le_trans (tlen_mul ha hn) (by omega)) (by rw [Int.natAbs_mul, Int.natAbs_natCast]; exact Nat.le_trans (tlen_mul hb hm) (by omega))
  generalize cmpW (a * (n : Int)) (b * (m : Int)) = c at *
  simp (disch := omega) [dendronref03_Order, d1, d2, t1, t2, o]
theorem small3_ev : EX ip nv (.call F.dendronref03_Small [.d (.int .i64 0), .d (.int .i64 1)] []) = some (.ret (.d (.ag (fT 0 1))) []) := by
  have s0 := small1_ev (nv := nv) 0 (by omega)
  have s1 := small1_ev (nv := nv) 1 (by omega)
  have m := make2_ev (nv := nv) false 0
  have e : zs false 0 = 0 := rfl
  rw [e] at m
  have e0 : ((0 : Nat) : Int) = 0 := rfl
  have e1 : ((1 : Nat) : Int) = 1 := rfl
  rw [e0] at s0
  rw [e1] at s1
  have s2 : EX ip nv (.call F.dendronref02_Small [.d (.int .i64 0)] []) = some (.ret (.d (.ag (zT 0))) []) := by
    rw [S_call dendronref02_Small.ip rfl]
    generalize T.dig 0 = d0 at *
    simp (disch := omega) [dendronref02_Small, s0, m]
  rw [S_call dendronref03_Small.ip rfl]
  simp (disch := omega) [dendronref03_Small, s1, s2]
/-- A number as the reference's fraction. -/
def fn (r : RQ) : Int := if lv r.den = 0 then 0 else zs r.neg (lv r.num)
def fd (r : RQ) : Nat := if lv r.den = 0 then 1 else lv r.den
theorem fnd_v (r : RQ) : r.v = mkRat (fn r) (fd r) := by
  unfold RQ.v fn fd
  split
  · rfl
  · rfl
theorem fd_pos (r : RQ) : fd r ≠ 0 := by
  unfold fd
  split <;> omega
theorem from3_ev (r : RQ) {k : Nat} (h : r.ok k) (hk : k ≤ 100000000) : EX ip nv (.call F.dendronref03_From [.d (.ag r.c)] []) = some (.ret (.d (.ag (fT (fn r) (fd r)))) []) := by
  rw [S_call dendronref03_From.ip rfl]
  have f1 := from1_ev (nv := nv) r.den (Nat.le_trans h.ld (by omega)) h.d
  have f2 := from2_ev (nv := nv) r.neg r.num (Nat.le_trans h.ln (by omega)) h.n
  have s := small3_ev (nv := nv)
  have hp := T.dig_len_pos (n := lv r.den)
  unfold fn fd
  by_cases h0 : lv r.den = 0
  · rw [h0, T.dig_zero] at f1
    rw [if_pos h0, if_pos h0]
    simp only [RQ.c]
    generalize us r.den = x1 at *
    generalize us r.num = x2 at *
    simp (disch := omega) [dendronref03_From, f1, s]
  · rw [if_neg h0, if_neg h0]
    have hp1 := hp.2 (by omega)
    have hne : T.dig (lv r.den) ≠ [] := by intro h; rw [h] at hp1; simp at hp1
    have e : el (T.dig (lv r.den)) = el (T.dig (lv r.den)) := rfl
    simp only [RQ.c]
    generalize us r.den = x1 at *
    generalize us r.num = x2 at *
    simp (disch := omega) [dendronref03_From, f1, f2, hne]
theorem can_len {q : Rat} {k : Nat} (h : Bq k q) : (dig q.num.natAbs).length ≤ k ∧ (dig q.den).length ≤ k := ⟨dig_len_le.2 h.n, dig_len_le.2 h.d⟩
theorem tlen3 {n k : Nat} (h : (dig n).length ≤ k) : (T.dig n).length ≤ 3 * k := by
  have := lv_len3 (dig n)
  rw [lv_dig] at this
  omega
theorem right3_ev (q : Rat) {k : Nat} (h : Bq k q) (hk : k ≤ 100000000) : EX ip nv (.call F.dendronref03_Right [.d (.ag (can q).c)] []) = some (.ret (.d (.bool true)) []) := by
  rw [S_call dendronref03_Right.ip rfl]
  obtain ⟨l1, l2⟩ := can_len h
  have r1 := right1_ev (nv := nv) q.num.natAbs (by omega)
  have r2 := right1_ev (nv := nv) q.den (by omega)
  have f1 := from1_ev (nv := nv) (dig q.num.natAbs) (by omega) (fun x hx => by have := dig_cl _ x hx; omega)
  have f2 := from1_ev (nv := nv) (dig q.den) (by omega) (fun x hx => by have := dig_cl _ x hx; omega)
  rw [lv_dig] at f1 f2
  have g := gcd1_ev (nv := nv) q.num.natAbs q.den (Nat.le_trans (tlen3 l1) (by omega)) (Nat.le_trans (tlen3 l2) (by omega))
  rw [q.reduced] at g
  have s := small1_ev (nv := nv) 1 (by omega)
  have e1 : ((1 : Nat) : Int) = 1 := rfl
  rw [e1] at s
  have o := order1_ev (nv := nv) 1 1 (Nat.le_trans (tlen (k := 1) (by simp [T.pw])) (by decide)) (Nat.le_trans (tlen (k := 1) (by simp [T.pw])) (by decide))
  have e2 : cmpN 1 1 = 0 := rfl
  rw [e2] at o
  have hd : dig q.den ≠ [] := by intro h; exact q.den_nz (dig_nil.1 h)
  have hn : q.num < 0 → dig q.num.natAbs ≠ [] := by intro h h2; have := dig_nil.1 h2; omega
  simp only [RQ.c, can]
  generalize dig q.num.natAbs = a at *
  generalize dig q.den = b at *
  by_cases h0 : q.num < 0
  · have hn0 := hn h0
    simp (disch := omega) [dendronref03_Right, r1, r2, f1, f2, g, s, o, hd, h0, hn0]
  · by_cases ha : a = []
    · subst ha
      rw [show us [] = [] from rfl] at *
      simp (disch := omega) [dendronref03_Right, r1, r2, f1, f2, g, s, o, hd, h0]
    · simp (disch := omega) [dendronref03_Right, r1, r2, f1, f2, g, s, o, hd, h0, ha]
theorem fT_can (q : Rat) : fn (can q) = q.num ∧ fd (can q) = q.den := by
  unfold fn fd can
  simp only [lv_dig, zs_can]
  rw [if_neg q.den_nz, if_neg q.den_nz]
  exact ⟨rfl, rfl⟩
theorem q_eq (q : Rat) (z : Int) (d : Nat) (hd : d ≠ 0) : q.num * (d : Int) = z * (q.den : Int) ↔ q = mkRat z d := by
  rw [← Rat.mkRat_eq_iff q.den_nz hd, Rat.mkRat_self]
theorem fn_len {r : RQ} {k : Nat} (h : r.ok k) : (T.dig (fn r).natAbs).length ≤ 3 * k := by
  unfold fn
  split
  · rw [Int.natAbs_zero, T.dig_zero]; simp
  · rw [zs_abs]
    have := lv_len3 r.num
    have := h.ln
    omega
theorem fd_len {r : RQ} {k : Nat} (h : r.ok k) (h1 : 1 ≤ k) : (T.dig (fd r)).length ≤ 3 * k := by
  unfold fd
  split
  · exact Nat.le_trans (tlen (k := 1) (by simp [T.pw])) (by omega)
  · have := lv_len3 r.den
    have := h.ld
    omega
theorem is3_ev (q : Rat) (r : RQ) {j k : Nat} (hq : Bq j q) (hr : r.ok k) (h1 : 1 ≤ j) (h2 : 1 ≤ k) (hj : j ≤ 100000000) (hk : k ≤ 100000000) : EX ip nv (.call F.dendronref03_Is [.d (.ag (can q).c), .d (.ag (fT (fn r) (fd r)))] []) = some (.ret (.d (.bool (decide (q = r.v)))) []) := by
  rw [S_call dendronref03_Is.ip rfl]
  have rt := right3_ev (nv := nv) q hq hj
  have f := from3_ev (nv := nv) (can q) (can_ok hq) hj
  have l1 := fn_len (can_ok hq)
  have l2 := fd_len (can_ok hq) h1
  have l3 := fn_len hr
  have l4 := fd_len hr h2
  have o := order3_ev (nv := nv) (fn (can q)) (fn r) (fd (can q)) (fd r) (k := 300000000) (by omega) (by omega) (by omega) (by omega) (by omega)
  have e : cmpW (fn (can q) * (fd r : Int)) (fn r * (fd (can q) : Int)) = 0 ↔ q = r.v := by
    rw [cmpW_eq, (fT_can q).1, (fT_can q).2, fnd_v]
    exact q_eq q (fn r) (fd r) (fd_pos r)
  have e2 : decide (cmpW (fn (can q) * (fd r : Int)) (fn r * (fd (can q) : Int)) = 0) = decide (q = r.v) := by rw [decide_eq_decide]; exact e
  clear e l1 l2 l3 l4
  generalize cmpW (fn (can q) * (fd r : Int)) (fn r * (fd (can q) : Int)) = c at *
  generalize decide (q = r.v) = b at *
  generalize can q = cq at *
  generalize fn cq = x1 at *
  generalize fd cq = x2 at *
  simp (disch := omega) [dendronref03_Is, rt, f, o, e2]
theorem is10_ev (q : Rat) (r : RQ) {j k : Nat} (hq : Bq j q) (hr : r.ok k) (h1 : 1 ≤ j) (h2 : 1 ≤ k) (hj : j ≤ 100000000) (hk : k ≤ 100000000) : EX ip nv (.call F.dendronref10_Is [.d (.ag (can q).c), .d (.ag r.c)] []) = some (.ret (.d (.bool (decide (q = r.v)))) []) := by
  rw [S_call dendronref10_Is.ip rfl]
  have f := from3_ev (nv := nv) r hr hk
  have i := is3_ev (nv := nv) q r hq hr h1 h2 hj hk
  generalize can q = cq at *
  simp (disch := omega) [dendronref10_Is, f, i]
end
end Go.Proofs.YtgigaimaaijalaaGreatDoor
