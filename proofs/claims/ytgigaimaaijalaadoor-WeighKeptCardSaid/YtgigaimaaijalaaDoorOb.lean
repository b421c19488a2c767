/- Rational numbers of the program. -/
import Derived.Test.YtgigaimaaijalaaDoorOa
set_option linter.unusedSimpArgs false
set_option linter.unusedVariables false
namespace Go.Proofs.YtgigaimaaijalaaDoor
open Go Go.Proofs.R
set_option maxRecDepth 10000
section
variable {nv : R.Nv}
theorem dig_one : dig 1 = [1] := by rw [dig_pos (by decide), show 1 / 4294967296 = 0 from rfl, dig_zero]
theorem one_ev : EX ip nv (.call F.nat_Of [.d (u 1)] []) = some (.ret (.d (.sl 1 (us [1]))) []) := by
  have := of_ev (nv := nv) 1 (by decide)
  rwa [dig_one] at this
theorem can_zero : (can 0).c = [.bool false, .sl 1 [], .sl 1 (us [1])] := by
  simp [can, RQ.c, dig_zero, dig_one]
theorem form_ev (hz : TzOk nv) (z : Int) (d : Nat) (hd : 0 < d) (hzl : (dig z.natAbs).length ≤ 1073741824) (hdl : (dig d).length ≤ 1073741824) : EX ip nv (.call F.ratio_form [.d (.ag [.bool (decide (z < 0)), .sl 1 (us (dig z.natAbs))]), .d (.sl 1 (us (dig d)))] []) = some (.ret (.d (.ag (can (mkRat z d)).c)) []) := by
  rw [S_call ratio_form.ip rfl]
  have h1 := one_ev (nv := nv)
  by_cases h0 : z = 0
  · subst h0
    have e : mkRat 0 d = 0 := Rat.zero_mkRat d
    rw [e, can_zero]
    simp (disch := omega) [ratio_form, dig_zero, h1]
  · have hne : ¬ dig z.natAbs = [] := by rw [dig_nil]; omega
    have hg := gcd_ev hz (dig z.natAbs) (dig d) (dig_rw (by omega)) (dig_rw (by omega)) hzl hdl
    rw [lv_dig, lv_dig] at hg
    obtain ⟨p1, p2, p3⟩ := mkRat_parts h0 hd
    have hgp : 0 < Nat.gcd z.natAbs d := Nat.gcd_pos_of_pos_right _ hd
    have hgle := dig_len_mono (Nat.gcd_le_right z.natAbs hd)
    have q1 := divmod_ev (nv := nv) (dig z.natAbs) (dig (Nat.gcd z.natAbs d)) (dig_rw (by omega)) (dig_rw (by omega)) (by omega)
    have q2 := divmod_ev (nv := nv) (dig d) (dig (Nat.gcd z.natAbs d)) (dig_rw (by omega)) (dig_rw (by omega)) (by omega)
    rw [lv_dig, lv_dig, if_neg (by omega)] at q1 q2
    simp only [can, RQ.c, p1, p2, p3]
    by_cases hg1 : Nat.gcd z.natAbs d = 1
    · rw [hg1, Nat.div_one, Nat.div_one]
      rw [hg1, dig_one] at hg
      have l0 : lb [1] 0 = 1 := rfl
      simp (disch := first | omega | simp) [ratio_form, hne, hg, l0]
    · have hcond : ∀ (e : Env) (μ : Mem), (dig (Nat.gcd z.natAbs d)).length = 1 → lb (dig (Nat.gcd z.natAbs d)) 0 ≠ 1 := by
        intro _ _ hl h
        obtain ⟨d1, _, _⟩ := dig_len1 hl
        rw [d1] at h
        exact hg1 h
      by_cases hl1 : (dig (Nat.gcd z.natAbs d)).length = 1
      · have hlb := hcond [] [] hl1
        have hl1' : ((dig (Nat.gcd z.natAbs d)).length : Int) = 1 := by omega
        generalize Nat.gcd z.natAbs d = g at *
        generalize z.natAbs / g = zq at *
        generalize z.natAbs % g = zr at *
        generalize d / g = dq at *
        generalize d % g = dr at *
        generalize hb : decide (z < 0) = b at *
        simp (disch := omega) [ratio_form, hne, hg, hl1, hl1', hlb, q1, q2]
      · have hl1' : ¬ ((dig (Nat.gcd z.natAbs d)).length : Int) = 1 := by omega
        generalize Nat.gcd z.natAbs d = g at *
        generalize z.natAbs / g = zq at *
        generalize z.natAbs % g = zr at *
        generalize d / g = dq at *
        generalize d % g = dr at *
        generalize hb : decide (z < 0) = b at *
        simp (disch := omega) [ratio_form, hne, hg, hl1, hl1', q1, q2]
theorem zero_ev : EX ip nv (.call F.ratio_Zero [] []) = some (.ret (.d (.ag (can 0).c)) []) := by
  rw [S_call ratio_Zero.ip rfl, can_zero]
  simp [ratio_Zero, one_ev (nv := nv)]
theorem rn {r : RQ} {k : Nat} (h : r.ok k) (hk : k ≤ 1099511627776) : Rw r.num := ⟨h.n, Nat.le_trans h.ln hk⟩
theorem rd' {r : RQ} {k : Nat} (h : r.ok k) (hk : k ≤ 1099511627776) : Rw r.den := ⟨h.d, Nat.le_trans h.ld hk⟩
theorem rclean_ev (hz : TzOk nv) (r : RQ) {k : Nat} (h : r.ok k) (hk : k ≤ 1073741824) : EX ip nv (.call F.ratio_Clean [.d (.ag r.c)] []) = some (.ret (.d (.ag (can r.v).c)) []) := by
  rw [S_call ratio_Clean.ip rfl]
  have hd := clean_ev (nv := nv) r.den (rd' h (by omega))
  by_cases h0 : lv r.den = 0
  · have e : r.v = 0 := by simp [RQ.v, h0]
    rw [h0, dig_zero] at hd
    have hz0 := zero_ev (nv := nv)
    rw [e]
    rw [can_zero] at *
    simp (disch := omega) [ratio_Clean, RQ.c, hd, hz0]
  · have hne : ¬ dig (lv r.den) = [] := by rw [dig_nil]; exact h0
    have e : r.v = mkRat (zs r.neg (lv r.num)) (lv r.den) := by simp [RQ.v, h0]
    have hn := wclean_ev (nv := nv) r.neg r.num (rn h (by omega))
    have h3 : (dig (lv r.num)).length ≤ 1073741824 := Nat.le_trans (lv_len (rn h (by omega))) (Nat.le_trans h.ln hk)
    have h4 : (dig (lv r.den)).length ≤ 1073741824 := Nat.le_trans (lv_len (rd' h (by omega))) (Nat.le_trans h.ld hk)
    have hf := form_ev hz (zs r.neg (lv r.num)) (lv r.den) (by omega) (by rw [zs_abs]; exact h3) h4
    rw [e]
    generalize mkRat (zs r.neg (lv r.num)) (lv r.den) = q at *
    generalize zs r.neg (lv r.num) = z at *
    generalize lv r.den = dd at *
    simp only [zI] at hn
    simp only [RQ.c] at hf ⊢
    simp (disch := omega) [ratio_Clean, hd, hne, hn, hf]
theorem rclean_c (hz : TzOk nv) (q : Rat) {k : Nat} (h : Bq k q) (hk : k ≤ 1073741824) : EX ip nv (.call F.ratio_Clean [.d (.ag (can q).c)] []) = some (.ret (.d (.ag (can q).c)) []) := by
  have := rclean_ev hz (can q) (can_ok h) hk
  rwa [can_v] at this
theorem nneg (n : Nat) : decide ((n : Int) < 0) = false := by simp
theorem len_of {q : Rat} {k : Nat} (h : Bq k q) : (dig q.num.natAbs).length ≤ k ∧ (dig q.den).length ≤ k := ⟨dig_len_le.2 h.n, dig_len_le.2 h.d⟩
theorem rden_ev (b : Bool) (x y : List D) : EX ip nv (.call F.ratio_den [.d (.ag [.bool b, .sl 1 x, .sl 1 y])] []) = some (.ret (.d (.ag [.bool false, .sl 1 y])) []) := by
  rw [S_call ratio_den.ip rfl]
  simp [ratio_den]
theorem rmul_ev (hz : TzOk nv) (r s : RQ) {j k : Nat} (hr : r.ok j) (hs : s.ok k) (h1 : 1 ≤ j) (h2 : 1 ≤ k) (hk : j + k ≤ 1073741824) : EX ip nv (.call F.ratio_Mul [.d (.ag r.c), .d (.ag s.c)] []) = some (.ret (.d (.ag (can (r.v * s.v)).c)) []) := by
  rw [S_call ratio_Mul.ip rfl]
  have cr := rclean_ev hz r hr (by omega)
  have cs := rclean_ev hz s hs (by omega)
  have bn := Bq.v hr h1
  have bm := Bq.v hs h2
  generalize r.v = a at *
  generalize s.v = b at *
  obtain ⟨a1, a2⟩ := len_of bn
  obtain ⟨b1, b2⟩ := len_of bm
  have m1 := wMul_c (nv := nv) a.num b.num (by omega) (by omega)
  have m3 := mul_ev (nv := nv) (dig a.den) (dig b.den) (dig_rw (by omega)) (dig_rw (by omega))
  rw [lv_dig, lv_dig] at m3
  have l1 : (dig (a.num * b.num).natAbs).length ≤ j + k := by rw [Int.natAbs_mul]; exact len_mul a1 b1
  have l3 : (dig (a.den * b.den)).length ≤ j + k := len_mul a2 b2
  have fo := form_ev hz (a.num * b.num) (a.den * b.den) (Nat.mul_pos a.den_pos b.den_pos) (by omega) (by omega)
  rw [← Rat.mul_def'] at fo
  generalize a.num * b.num = x at *
  generalize a.den * b.den = d at *
  generalize a * b = w at *
  simp only [zI] at m1
  simp only [RQ.c, can] at cr cs fo ⊢
  simp (disch := omega) [ratio_Mul, cr, cs, m1, m3, fo]
theorem rneg_ev (hz : TzOk nv) (r : RQ) {k : Nat} (h : r.ok k) (h1 : 1 ≤ k) (hk : k ≤ 1073741824) : EX ip nv (.call F.ratio_Neg [.d (.ag r.c)] []) = some (.ret (.d (.ag (can (-r.v)).c)) []) := by
  rw [S_call ratio_Neg.ip rfl]
  have cr := rclean_ev hz r h hk
  have bn := Bq.v h h1
  generalize r.v = a at *
  obtain ⟨a1, a2⟩ := len_of bn
  have m1 := wneg_c (nv := nv) a.num (by omega)
  have e1 : (-a).num = -a.num := Rat.neg_num a
  have e2 : (-a).den = a.den := Rat.neg_den a
  simp only [zI] at m1
  simp only [RQ.c, can, e1, e2] at cr ⊢
  generalize -a.num = n at *
  simp (disch := omega) [ratio_Neg, cr, m1]
theorem rmake_c (hz : TzOk nv) (a b : Int) {k : Nat} (ha : (dig a.natAbs).length ≤ k) (hb : (dig b.natAbs).length ≤ k) (hk : k ≤ 1073741824) : EX ip nv (.call F.ratio_Make [.d (.ag [.bool (decide (a < 0)), .sl 1 (us (dig a.natAbs))]), .d (.ag [.bool (decide (b < 0)), .sl 1 (us (dig b.natAbs))])] []) = some (.ret (if b = 0 then .tp [.d (.ag [.bool false, .sl 1 [], .sl 1 []]), .d (.int .i64 2)] else .tp [.d (.ag (can (Rat.divInt a b)).c), .d (.int .i64 0)]) []) := by
  rw [S_call ratio_Make.ip rfl]
  have ca := wclean_c (nv := nv) a (by omega)
  have cb := wclean_c (nv := nv) b (by omega)
  have sg := wSign_c (nv := nv) b (by omega)
  simp only [zI] at ca cb
  by_cases h0 : b = 0
  · subst h0
    simp [dig_zero] at cb sg
    simp (disch := omega) [ratio_Make, ca, cb, sg, dig_zero]
  · have hs : ¬ b.sign = 0 := by rw [Int.sign_eq_zero_iff_zero]; exact h0
    by_cases hn : b < 0
    · obtain ⟨m, rfl⟩ : ∃ m, b = Int.negSucc m := by
        cases b with
        | ofNat m => exact absurd hn (by simp)
        | negSucc m => exact ⟨m, rfl⟩
      have e : Rat.divInt a (Int.negSucc m) = mkRat (-a) (m + 1) := Rat.normalize_eq_mkRat (Nat.succ_ne_zero m)
      have ng := wneg_c (nv := nv) a (by omega)
      have fo := form_ev hz (-a) (m + 1) (by omega) (by rw [Int.natAbs_neg]; omega) (by have : (Int.negSucc m).natAbs = m + 1 := rfl; rw [this] at hb; omega)
      have e2 : (Int.negSucc m).natAbs = m + 1 := rfl
      rw [e, if_neg h0]
      generalize mkRat (-a) (m + 1) = w at *
      simp only [zI] at ng
      generalize -a = na at *
      rw [e2] at cb sg ⊢
      simp only [hn, decide_true] at cb sg ⊢
      generalize Int.negSucc m = b at *
      simp only [RQ.c] at fo ⊢
      simp (disch := omega) [ratio_Make, ca, cb, sg, hs, ng, fo]
    · obtain ⟨m, rfl⟩ : ∃ m : Nat, b = (m : Int) := ⟨b.toNat, by omega⟩
      have e : Rat.divInt a (m : Int) = mkRat a m := rfl
      have fo := form_ev hz a m (by omega) (by omega) (by rw [Int.natAbs_natCast] at hb; omega)
      rw [e, if_neg h0]
      generalize mkRat a m = w at *
      rw [Int.natAbs_natCast] at cb sg ⊢
      simp only [hn, decide_false] at cb sg ⊢
      simp only [RQ.c] at fo ⊢
      simp (disch := omega) [ratio_Make, ca, cb, sg, hs, fo]
theorem rof_ev (n : Int) (h1 : -9223372036854775808 ≤ n) (h2 : n ≤ 9223372036854775807) : EX ip nv (.call F.ratio_Of [.d (.int .i64 n)] []) = some (.ret (.d (.ag (can (n : Rat)).c)) []) := by
  rw [S_call ratio_Of.ip rfl]
  have w := wOf_ev (nv := nv) n h1 h2
  have o := one_ev (nv := nv)
  have e1 : (n : Rat).num = n := Rat.num_intCast n
  have e2 : (n : Rat).den = 1 := Rat.den_intCast n
  simp only [zI] at w
  simp only [RQ.c, can, e1, e2, dig_one]
  simp (disch := omega) [ratio_Of, w, o]
theorem rone_ev : EX ip nv (.call F.ratio_One [] []) = some (.ret (.d (.ag (can 1).c)) []) := by
  rw [S_call ratio_One.ip rfl]
  have w := rof_ev (nv := nv) 1 (by decide) (by decide)
  have e : ((1 : Int) : Rat) = 1 := rfl
  rw [e] at w
  simp only [RQ.c] at w ⊢
  simp (disch := omega) [ratio_One, w]
theorem rint_ev (neg : Bool) (l : List Nat) (h : Rw l) : EX ip nv (.call F.ratio_Int [.d (.ag [.bool neg, .sl 1 (us l)])] []) = some (.ret (.d (.ag (can ((zs neg (lv l) : Int) : Rat)).c)) []) := by
  rw [S_call ratio_Int.ip rfl]
  have w := wclean_ev (nv := nv) neg l h
  have o := one_ev (nv := nv)
  generalize zs neg (lv l) = n at *
  have e1 : (n : Rat).num = n := Rat.num_intCast n
  have e2 : (n : Rat).den = 1 := Rat.den_intCast n
  simp only [zI] at w
  simp only [RQ.c, can, e1, e2, dig_one]
  simp (disch := omega) [ratio_Int, w, o]
theorem rfrac_ev (hz : TzOk nv) (n d : Int) (h1 : -9223372036854775808 ≤ n) (h2 : n ≤ 9223372036854775807) (h3 : -9223372036854775808 ≤ d) (h4 : d ≤ 9223372036854775807) : EX ip nv (.call F.ratio_Frac [.d (.int .i64 n), .d (.int .i64 d)] []) = some (.ret (.d (.ag (can (Rat.divInt n d)).c)) []) := by
  rw [S_call ratio_Frac.ip rfl]
  have w1 := wOf_ev (nv := nv) n h1 h2
  have w2 := wOf_ev (nv := nv) d h3 h4
  have l1 : (dig n.natAbs).length ≤ 2 := dig_len_le.2 (by simp only [pw]; omega)
  have l2 : (dig d.natAbs).length ≤ 2 := dig_len_le.2 (by simp only [pw]; omega)
  have mk := rmake_c hz n d (k := 2) l1 l2 (by decide)
  simp only [zI] at w1 w2
  by_cases h0 : d = 0
  · subst h0
    rw [if_pos rfl] at mk
    have e : Rat.divInt n 0 = 0 := Rat.divInt_zero n
    have c := rclean_ev hz ⟨false, [], []⟩ (k := 1) ⟨by simp, by simp, by simp, by simp⟩ (by decide)
    have ev : (RQ.mk false [] []).v = 0 := by simp [RQ.v, lv]
    rw [ev] at c
    rw [e]
    simp only [RQ.c, us_nil] at c ⊢
    simp [dig_zero] at w2 mk
    simp (disch := omega) [ratio_Frac, w1, w2, mk, c, dig_zero]
  · rw [if_neg h0] at mk
    have hb : Bq 2 (Rat.divInt n d) := by
      cases d with
      | ofNat m => exact Bq.mkR (d := m) (dig_len_le.1 l1) (dig_len_le.1 l2) (by rintro rfl; exact h0 rfl)
      | negSucc m =>
        have e : Rat.divInt n (Int.negSucc m) = mkRat (-n) (m + 1) := Rat.normalize_eq_mkRat (Nat.succ_ne_zero m)
        rw [e]
        exact Bq.mkR (by rw [Int.natAbs_neg]; exact dig_len_le.1 l1) (dig_len_le.1 l2) (by omega)
    have c := rclean_c hz (Rat.divInt n d) hb (by decide)
    generalize Rat.divInt n d = q at *
    simp only [RQ.c] at mk c ⊢
    simp (disch := omega) [ratio_Frac, w1, w2, mk, c]
/-- How two rational numbers stand. -/
def cmpQ (a b : Rat) : Int := if a < b then -1 else if b < a then 1 else 0
theorem rcmp_ev (hz : TzOk nv) (r s : RQ) {j k : Nat} (hr : r.ok j) (hs : s.ok k) (h1 : 1 ≤ j) (h2 : 1 ≤ k) (hk : j + k ≤ 1073741824) : EX ip nv (.call F.ratio_Cmp [.d (.ag r.c), .d (.ag s.c)] []) = some (.ret (.d (.int .i64 (cmpQ r.v s.v))) []) := by
  rw [S_call ratio_Cmp.ip rfl]
  have cr := rclean_ev hz r hr (by omega)
  have cs := rclean_ev hz s hs (by omega)
  have bn := Bq.v hr h1
  have bm := Bq.v hs h2
  generalize r.v = a at *
  generalize s.v = b at *
  obtain ⟨a1, a2⟩ := len_of bn
  obtain ⟨b1, b2⟩ := len_of bm
  have m1 := wMul_c (nv := nv) a.num (b.den : Int) (by omega) (by simp only [Int.natAbs_natCast]; omega)
  have m2 := wMul_c (nv := nv) b.num (a.den : Int) (by omega) (by simp only [Int.natAbs_natCast]; omega)
  simp only [nneg, Int.natAbs_natCast] at m1 m2
  have l1 : (dig (a.num * (b.den : Int)).natAbs).length ≤ j + k := by rw [Int.natAbs_mul, Int.natAbs_natCast]; exact len_mul a1 b2
  have l2 : (dig (b.num * (a.den : Int)).natAbs).length ≤ j + k := by rw [Int.natAbs_mul, Int.natAbs_natCast, Nat.add_comm]; exact len_mul b1 a2
  have cm := wCmp_c (nv := nv) (a.num * (b.den : Int)) (b.num * (a.den : Int)) (by omega) (by omega)
  have e : cmpZ (a.num * (b.den : Int)) (b.num * (a.den : Int)) = cmpQ a b := by
    simp only [cmpZ, cmpQ, Rat.lt_iff]
  rw [e] at cm
  generalize cmpQ a b = w at *
  generalize a.num * (b.den : Int) = x at *
  generalize b.num * (a.den : Int) = y at *
  simp only [zI] at m1 m2
  simp only [RQ.c, can] at cr cs ⊢
  simp (disch := omega) [ratio_Cmp, cr, cs, rden_ev, m1, m2, cm]
theorem cmpQ_eq (a b : Rat) : cmpQ a b = 0 ↔ a = b := by
  simp only [cmpQ]
  constructor
  · intro h
    split at h
    · omega
    · split at h
      · omega
      · rename_i h1 h2
        exact Rat.le_antisymm (Rat.not_lt.1 h2) (Rat.not_lt.1 h1)
  · rintro rfl
    simp [Rat.lt_irrefl]
theorem rsame_ev (hz : TzOk nv) (r s : RQ) {j k : Nat} (hr : r.ok j) (hs : s.ok k) (h1 : 1 ≤ j) (h2 : 1 ≤ k) (hk : j + k ≤ 1073741824) : EX ip nv (.call F.ratio_Same [.d (.ag r.c), .d (.ag s.c)] []) = some (.ret (.d (.bool (decide (r.v = s.v)))) []) := by
  rw [S_call ratio_Same.ip rfl]
  have c := rcmp_ev hz r s hr hs h1 h2 hk
  have e := cmpQ_eq r.v s.v
  generalize cmpQ r.v s.v = w at *
  simp only [RQ.c] at c ⊢
  simp (disch := omega) [ratio_Same, c, e]
end
end Go.Proofs.YtgigaimaaijalaaDoor
