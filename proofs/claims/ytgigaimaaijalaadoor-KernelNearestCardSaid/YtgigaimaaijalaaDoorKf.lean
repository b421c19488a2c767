/- The distance of long numbers from a game. -/
import Derived.Test.YtgigaimaaijalaaDoorXw
import Derived.Test.YtgigaimaaijalaaDoorGa
import Derived.Test.YtgigaimaaijalaaDoorZz
import Derived.Test.YtgigaimaaijalaaDoorGc
set_option linter.unusedSimpArgs false
set_option linter.unusedVariables false
namespace Go.Proofs.YtgigaimaaijalaaDoor
open Go Go.Proofs.R
set_option maxRecDepth 10000
theorem cnt_facts : ∀ n : Fin 6, ∀ s : Fin 32, 0 < s.val → s.val < 2 ^ n.val - 1 → cntN s n = cntN s 5 ∧ 1 ≤ cntN s n ∧ cntN s n < n := by decide +kernel
def dV (l x : List RQ) (s : Nat) : Nat → Rat
  | 0 => (ix l 0).v - (ix l s).v
  | i + 1 => if s.testBit i then dV l x s i + (ix x i).v else dV l x s i
def sV (l x : List RQ) (n : Nat) : Nat → Rat
  | 0 => 0
  | j + 1 => sV l x n j + kwt (cntN (j + 1) n) n * (dV l x (j + 1) n * dV l x (j + 1) n)
theorem dV_b {l x : List RQ} {b : Nat} (hb : 2 ≤ b) (hl : ∀ r ∈ l, r.ok 2) (hx : ∀ r ∈ x, r.ok b) {s : Nat} (hs : s < l.length) : ∀ i, i ≤ x.length → Bq (5 + (b + 1) * i) (dV l x s i)
  | 0, _ => Bq.sub (Bq.v (ixq_ok hl (by omega)) (by omega)) (Bq.v (ixq_ok hl hs) (by omega))
  | i + 1, h => by
    have ih := dV_b hb hl hx hs i (by omega)
    rw [dV]
    rw [Nat.mul_succ]
    split
    · exact (ih.add (Bq.v (ixq_ok hx (i := i) (by omega)) (by omega))).mono (by omega)
    · exact ih.mono (by omega)
theorem sV_b {l x : List RQ} {n : Nat} (hn : n ≤ 5) (hll : l.length = 2 ^ n) (hxl : x.length = n) {b : Nat} (hb2 : 2 ≤ b) (hb6 : b ≤ 100000) (hl : ∀ r ∈ l, r.ok 2) (hx : ∀ r ∈ x, r.ok b) : ∀ j, j + 2 ≤ l.length → Bq (1 + (2 * (10 + 5 * b) + 5) * j) (sV l x n j)
  | 0, _ => Bq.zero
  | j + 1, h => by
    have ih := sV_b hn hll hxl hb2 hb6 hl hx j (by omega)
    have hp : 2 ^ n ≤ 2 ^ 5 := Nat.pow_le_pow_right (by decide) hn
    obtain ⟨-, c1, c2⟩ := cnt_facts ⟨n, by omega⟩ ⟨j + 1, by omega⟩ (by simp) (by simp only; omega)
    have d := dV_b hb2 hl hx (s := j + 1) (by omega) n (by omega)
    have d5 : (b + 1) * n ≤ (b + 1) * 5 := Nat.mul_le_mul_left _ hn
    rw [Nat.mul_succ]
    rw [sV]
    exact (ih.add ((kwt_b c1 c2 (by omega)).mul (d.mul d))).mono (by omega)
section
variable {nv : R.Nv}
theorem kd_b2 (hz : TzOk nv) (l x : List RQ) (s n : Nat) (B4 B8 : Blk) (hn : n ≤ 5) (hs : s < l.length) (hll : l.length ≤ 33) (hxl : x.length = n) {b : Nat} (hb2 : 2 ≤ b) (hb6 : b ≤ 100000) (hl : ∀ r ∈ l, r.ok 2) (hx : ∀ r ∈ x, r.ok b) :
    ∃ z e μ, EX ip nv (.code (.loop [] [] kernel_Distance.b2) [(0, .d (.sl 3 (el l))), (1, .d (.sl 3 (el x))), (4, .ptr 4 0), (6, .d (.int .i64 (n : Int))), (8, .ptr 8 0), (9, .d (.int .i64 (s : Int))), (10, .ptr 10 0), (47, .d (.int .i64 (n : Int))), (48, .d (.int .i64 0))] [(4, B4), (8, B8), (10, ⟨0, true, (can (dV l x s 0)).c⟩)]) = some (.st z e μ) ∧ z ≠ .normal ∧
    z = .exit 2 ∧ e = [(0, .d (.sl 3 (el l))), (1, .d (.sl 3 (el x))), (4, .ptr 4 0), (6, .d (.int .i64 (n : Int))), (8, .ptr 8 0), (9, .d (.int .i64 (s : Int))), (10, .ptr 10 0), (47, .d (.int .i64 (n : Int))), (48, .d (.int .i64 (n : Int))), (49, .d (.bool false))] ∧ μ = [(4, B4), (8, B8), (10, ⟨0, true, (can (dV l x s n)).c⟩)] := by
  refine loop_n n (fun i e μ => ∃ c : RQ, c = can (dV l x s i) ∧ e = [(0, .d (.sl 3 (el l))), (1, .d (.sl 3 (el x))), (4, .ptr 4 0), (6, .d (.int .i64 (n : Int))), (8, .ptr 8 0), (9, .d (.int .i64 (s : Int))), (10, .ptr 10 0), (47, .d (.int .i64 (n : Int))), (48, .d (.int .i64 (i : Int)))] ∧ μ = [(4, B4), (8, B8), (10, ⟨0, true, c.c⟩)]) ?_ ?_ ⟨_, rfl, rfl, rfl⟩
  · rintro i e μ hi ⟨c, hc, rfl, rfl⟩
    have sh := i_shrN (s := s) (i := i) (by omega) (by omega)
    have hle : s / 2 ^ i ≤ s := Nat.div_le_self _ _
    have ha := ibits_and (a := s / 2 ^ i) (b := 1) (by omega) (by omega)
    rw [show s / 2 ^ i &&& 1 = s / 2 ^ i % 2 from Nat.and_one_is_mod _] at ha
    have tb : s.testBit i = decide (s / 2 ^ i % 2 = 1) := Nat.testBit_eq_decide_div_mod_eq
    have d5 : (b + 1) * i ≤ (b + 1) * 5 := Nat.mul_le_mul_left _ (by omega)
    have ad := radd_ev hz (can (dV l x s i)) (ix x i) (can_ok (dV_b hb2 hl hx hs i (by omega))) (ixq_ok hx (by omega)) (by omega) (by omega) (by omega)
    rw [can_v, ← hc] at ad
    by_cases c1 : s / 2 ^ i % 2 = 1
    · have tb' : s.testBit i = true := by rw [tb]; simpa using c1
      rw [c1] at ha
      refine .inl ⟨_, _, ?_, can (dV l x s (i + 1)), rfl, rfl, rfl⟩
      rw [dV, if_pos tb']
      generalize can (dV l x s i + (ix x i).v) = c' at *
      clear hc tb tb'
      generalize s / 2 ^ i = q at *
      have ha' : bitsD .and .i64 (q : Int) 1 = 1 := ha
      simp (disch := omega) [kernel_Distance.b2, hi, sh, ha', ad, -vBin_shr]
    · have tb' : s.testBit i = false := by rw [tb]; simpa using c1
      have c0 : s / 2 ^ i % 2 = 0 := by omega
      rw [c0] at ha
      refine .inl ⟨_, _, ?_, c, by rw [dV, tb', hc]; rfl, rfl, rfl⟩
      clear hc tb tb' ad
      generalize s / 2 ^ i = q at *
      have ha' : bitsD .and .i64 (q : Int) 1 = 0 := ha
      simp (disch := omega) [kernel_Distance.b2, hi, sh, ha', -vBin_shr]
  · rintro e μ ⟨c, hc, rfl, rfl⟩
    subst hc
    exact ⟨.exit 2, _, _, by simp [kernel_Distance.b2] <;> first | rfl | exact ⟨rfl, rfl⟩, by simp, rfl, rfl, rfl⟩
theorem kd_b0 (hz : TzOk nv) (l x : List RQ) (n : Nat) (B4 : Blk) (hn : n ≤ 5) (hll : l.length = 2 ^ n) (h2 : 2 ≤ l.length) (hxl : x.length = n) {b : Nat} (hb2 : 2 ≤ b) (hb6 : b ≤ 100000) (hl : ∀ r ∈ l, r.ok 2) (hx : ∀ r ∈ x, r.ok b) :
    ∃ z e μ, EX ip nv (.code (.loop [] [] kernel_Distance.b0) [(0, .d (.sl 3 (el l))), (1, .d (.sl 3 (el x))), (4, .ptr 4 0), (6, .d (.int .i64 (n : Int))), (8, .ptr 8 0), (9, .d (.int .i64 1))] [(4, B4), (8, ⟨0, true, (can 0).c⟩)]) = some (.st z e μ) ∧ z ≠ .normal ∧
    z = .exit 0 ∧ e = [(0, .d (.sl 3 (el l))), (1, .d (.sl 3 (el x))), (4, .ptr 4 0), (6, .d (.int .i64 (n : Int))), (8, .ptr 8 0), (9, .d (.int .i64 ((l.length - 2 : Nat) + 1 : Int))), (36, .d (.bool false))] ∧ μ = [(4, B4), (8, ⟨0, true, (can (sV l x n (l.length - 2))).c⟩)] := by
  have hp : 2 ^ n ≤ 2 ^ 5 := Nat.pow_le_pow_right (by decide) hn
  refine loop_n (l.length - 2) (fun j e μ => ∃ c : RQ, c = can (sV l x n j) ∧ e = [(0, .d (.sl 3 (el l))), (1, .d (.sl 3 (el x))), (4, .ptr 4 0), (6, .d (.int .i64 (n : Int))), (8, .ptr 8 0), (9, .d (.int .i64 ((j : Int) + 1)))] ∧ μ = [(4, B4), (8, ⟨0, true, c.c⟩)]) ?_ ?_ ⟨_, rfl, rfl, rfl⟩
  · rintro j e μ hj ⟨c, hc, rfl, rfl⟩
    obtain ⟨c0, c1, c2⟩ := cnt_facts ⟨n, by omega⟩ ⟨j + 1, by omega⟩ (by simp) (by simp only; omega)
    simp only at c0 c1 c2
    have db := dV_b hb2 hl hx (s := j + 1) (by omega) n (by omega)
    have d5 : (b + 1) * n ≤ (b + 1) * 5 := Nat.mul_le_mul_left _ hn
    have sb := sV_b hn hll hxl hb2 hb6 hl hx j (by omega)
    have s5 : (2 * (10 + 5 * b) + 5) * j ≤ (2 * (10 + 5 * b) + 5) * 30 := Nat.mul_le_mul_left _ (by omega)
    have wb := kwt_b c1 c2 (by omega)
    have o := ones_ev (nv := nv) (j + 1) (by omega)
    rw [← c0] at o
    have w := kweight_ev hz c1 c2 (by omega)
    have su := rsub_ev hz (ix l 0) (ix l (j + 1)) (ixq_ok hl (by omega)) (ixq_ok hl (by omega)) (by omega) (by omega) (by omega)
    obtain ⟨_, _, _, lp, -, rfl, rfl, rfl⟩ := kd_b2 hz l x (j + 1) n B4 ⟨0, true, c.c⟩ hn (by omega) (by omega) hxl hb2 hb6 hl hx
    have m1 := rmul_ev hz (can (dV l x (j + 1) n)) (can (dV l x (j + 1) n)) (can_ok db) (can_ok db) (by omega) (by omega) (by omega)
    rw [can_v] at m1
    have m2 := rmul_ev hz (can (kwt (cntN (j + 1) n) n)) (can (dV l x (j + 1) n * dV l x (j + 1) n)) (can_ok wb) (can_ok (db.mul db)) (by omega) (by omega) (by omega)
    rw [can_v, can_v] at m2
    have ad := radd_ev hz (can (sV l x n j)) (can (kwt (cntN (j + 1) n) n * (dV l x (j + 1) n * dV l x (j + 1) n))) (can_ok sb) (can_ok (wb.mul (db.mul db))) (by omega) (by omega) (by omega)
    rw [can_v, can_v, ← hc] at ad
    refine .inl ⟨_, _, ?_, can (sV l x n (j + 1)), rfl, rfl, rfl⟩
    rw [sV]
    rw [show (ix l 0).v - (ix l (j + 1)).v = dV l x (j + 1) 0 from rfl] at su
    generalize can (sV l x n j + kwt (cntN (j + 1) n) n * (dV l x (j + 1) n * dV l x (j + 1) n)) = q1 at *
    generalize can (kwt (cntN (j + 1) n) n * (dV l x (j + 1) n * dV l x (j + 1) n)) = q2 at *
    generalize can (dV l x (j + 1) n * dV l x (j + 1) n) = q3 at *
    generalize can (kwt (cntN (j + 1) n) n) = q4 at *
    generalize can (dV l x (j + 1) n) = q5 at *
    generalize can (dV l x (j + 1) 0) = q6 at *
    generalize cntN (j + 1) n = ct at *
    clear hc sb db wb
    have e1 : (j : Int) + 1 < (l.length : Int) - 1 := by omega
    have e2 : u (j + 1) = .int .u64 (((j + 1 : Nat)) : Int) := rfl
    rw [← e2] at o
    have e3 : ((j + 1 : Nat) : Int) = (j : Int) + 1 := by omega
    rw [e3] at lp
    simp (disch := omega) [kernel_Distance.b0, e1, su, lp, o, w, m1, m2, ad]
  · rintro e μ ⟨c, hc, rfl, rfl⟩
    subst hc
    have e1 : ¬ ((l.length - 2 : Nat) : Int) + 1 < (l.length : Int) - 1 := by omega
    exact ⟨.exit 0, _, _, by simp (disch := omega) [kernel_Distance.b0, e1] <;> first | rfl | exact ⟨rfl, rfl⟩, by simp, rfl, rfl, rfl⟩
theorem kdist_ev (hz : TzOk nv) (l x : List RQ) (n : Nat) (hl33 : l.length ≤ 33) (hg : gmN l.length = some n) (h2 : 2 ≤ n) (hxl : x.length = n) {b : Nat} (hb2 : 2 ≤ b) (hb6 : b ≤ 100000) (hl : ∀ r ∈ l, r.ok 2) (hx : ∀ r ∈ x, r.ok b) :
    EX ip nv (.call F.kernel_Distance [.d (.sl 3 (el l)), .d (.sl 3 (el x))] []) = some (.ret (.tp [.d (.ag (can (sV l x n (l.length - 2))).c), .d (.int .i64 0)]) []) := by
  rw [S_call kernel_Distance.ip rfl]
  have p := players_ev (nv := nv) l hl33
  rw [hg] at p
  simp only at p
  have hn6 := gmN_lt ⟨l.length, by omega⟩ n hg
  have hlen := (gmN_some ⟨l.length, by omega⟩ ⟨n, hn6⟩ hg).1
  simp only at hlen
  have hp : 2 ^ 2 ≤ 2 ^ n := Nat.pow_le_pow_right (by decide) h2
  have z := zero_ev (nv := nv)
  obtain ⟨_, _, _, lp, -, rfl, rfl, rfl⟩ := kd_b0 hz l x n ⟨0, true, [.bool false, .sl 1 [], .sl 1 []]⟩ (by omega) hlen (by omega) hxl hb2 hb6 hl hx
  generalize can (sV l x n (l.length - 2)) = q at *
  generalize can 0 = zz at *
  have e1 : ¬ (n : Int) < 2 := by omega
  have e2 : (x.length : Int) = (n : Int) := by omega
  simp (disch := omega) [kernel_Distance, p, e1, e2, z, lp]
end
end Go.Proofs.YtgigaimaaijalaaDoor
