/- KernelDistances: the distance of numbers from a game. -/
import Derived.Test.YtgpaohcnnggepaaDoorKw
import Derived.Test.YtgpaohcnnggepaaDoorGa
import Derived.Test.YtgpaohcnnggepaaDoorZz
set_option linter.unusedSimpArgs false
set_option linter.unusedVariables false
namespace Go.Proofs.YtgpaohcnnggepaaDoor
open Go Go.Proofs.R
set_option maxRecDepth 10000
@[simp high] theorem set_rq2 {r s : RQ} : setAt r.c 0 s.c = s.c := rfl
@[simp high] theorem take_rq {r : RQ} : r.c.take 3 = r.c := rfl
theorem ixq_ok {l : List RQ} {k : Nat} (h : ∀ r ∈ l, r.ok k) {i : Nat} (hi : i < l.length) : (ix l i).ok k := by
  have : ix l i = l[i] := by simp [ix, hi]
  rw [this]; exact h _ (List.getElem_mem hi)
/-- How many of so many players are in a set. -/
def cntN (s n : Nat) : Nat := (List.range n).countP fun i => s.testBit i
theorem cntN_succ (s n : Nat) : cntN s (n + 1) = cntN s n + if s.testBit n then 1 else 0 := by
  simp [cntN, List.range_succ, List.countP_append, List.countP_cons]
theorem cntN_le (s n : Nat) : cntN s n ≤ n := by
  unfold cntN
  exact Nat.le_trans List.countP_le_length (by simp)
theorem cnt_facts : ∀ n : Fin 6, ∀ s : Fin 32, 0 < s.val → s.val < 2 ^ n.val - 1 → cntN s n = cntN s 5 ∧ 1 ≤ cntN s n ∧ cntN s n < n := by decide +kernel
def dV (l x : List RQ) (s : Nat) : Nat → Rat
  | 0 => (ix l 0).v - (ix l s).v
  | i + 1 => if s.testBit i then dV l x s i + (ix x i).v else dV l x s i
def sV (l x : List RQ) (n : Nat) : Nat → Rat
  | 0 => 0
  | j + 1 => sV l x n j + kwt (cntN (j + 1) n) n * (dV l x (j + 1) n * dV l x (j + 1) n)
theorem dV_b {l x : List RQ} (hl : ∀ r ∈ l, r.ok 2) (hx : ∀ r ∈ x, r.ok 2) {s : Nat} (hs : s < l.length) : ∀ i, i ≤ x.length → Bq (5 + 3 * i) (dV l x s i)
  | 0, _ => Bq.sub (Bq.v (ixq_ok hl (by omega)) (by omega)) (Bq.v (ixq_ok hl hs) (by omega))
  | i + 1, h => by
    have ih := dV_b hl hx hs i (by omega)
    rw [dV]
    split
    · exact (ih.add (Bq.v (ixq_ok hx (i := i) (by omega)) (by omega))).mono (by omega)
    · exact ih.mono (by omega)
theorem sV_b {l x : List RQ} {n : Nat} (hn : n ≤ 5) (hll : l.length = 2 ^ n) (hxl : x.length = n) (hl : ∀ r ∈ l, r.ok 2) (hx : ∀ r ∈ x, r.ok 2) : ∀ j, j + 2 ≤ l.length → Bq (1 + 45 * j) (sV l x n j)
  | 0, _ => Bq.zero
  | j + 1, h => by
    have ih := sV_b hn hll hxl hl hx j (by omega)
    have hp : 2 ^ n ≤ 2 ^ 5 := Nat.pow_le_pow_right (by decide) hn
    obtain ⟨-, c1, c2⟩ := cnt_facts ⟨n, by omega⟩ ⟨j + 1, by omega⟩ (by simp) (by simp only; omega)
    have d := dV_b hl hx (s := j + 1) (by omega) n (by omega)
    rw [sV]
    exact (ih.add ((kwt_b c1 c2 (by omega)).mul (d.mul d))).mono (by omega)
section
variable {nv : R.Nv}
theorem i_shrN {s i : Nat} (hi : i ≤ 62) (hs : s < 9223372036854775808) : vBin .shr (some (.d (.int .i64 (s : Int)))) (some (.d (.int .i64 (i : Int)))) = some (.d (.int .i64 ((s / 2 ^ i : Nat) : Int))) := by
  rw [vBin_shr, if_neg (by omega)]
  have : min ((i : Int)).toNat IntKind.i64.bits = i := by
    have : IntKind.i64.bits = 64 := rfl
    omega
  rw [this]
  have e : (2 : Int) ^ i = ((2 ^ i : Nat) : Int) := by simp
  rw [e, Int.fdiv_eq_ediv_of_nonneg _ (Int.natCast_nonneg _)]; rfl
theorem count19_ev (s n : Nat) (hs : s < 9223372036854775808) (hn : n ≤ 1000) : EX ip nv (.call F.dendronlaw19_Count [.d (.int .i64 (s : Int)), .d (.int .i64 (n : Int))] []) = some (.ret (.d (.int .i64 (cntN s n : Nat))) []) := by
  rw [S_call dendronlaw19_Count.ip rfl]
  obtain ⟨_, _, _, hr, -, rfl, rfl, rfl⟩ : ∃ z e μ, EX ip nv (.code (.loop [] [] dendronlaw19_Count.b0) [(0, .d (.int .i64 (s : Int))), (1, .d (.int .i64 (n : Int))), (5, .d (.int .i64 0)), (6, .d (.int .i64 0))] []) = some (.st z e μ) ∧ z ≠ .normal ∧
      z = .exit 0 ∧ e = [(0, .d (.int .i64 (s : Int))), (1, .d (.int .i64 (n : Int))), (5, .d (.int .i64 (cntN s n : Nat))), (6, .d (.int .i64 (n : Int))), (9, .d (.bool false))] ∧ μ = [] := by
    refine loop_n n (fun i e μ => ∃ m : Nat, m = cntN s i ∧ e = [(0, .d (.int .i64 (s : Int))), (1, .d (.int .i64 (n : Int))), (5, .d (.int .i64 (m : Int))), (6, .d (.int .i64 (i : Int)))] ∧ μ = []) ?_ ?_ ⟨0, rfl, rfl, rfl⟩
    · rintro i e μ hi ⟨m, hm, rfl, rfl⟩
      have ie := in_ev (nv := nv) s i hs (by omega)
      have hml := cntN_le s i
      rw [← hm] at hml
      refine .inl ⟨_, _, ?_, m + (if s.testBit i then 1 else 0), by rw [cntN_succ, hm], rfl, rfl⟩
      cases hb : s.testBit i
      · rw [hb] at ie
        simp (disch := omega) [dendronlaw19_Count.b0, hi, ie]
      · rw [hb] at ie
        simp (disch := omega) [dendronlaw19_Count.b0, hi, ie]
    · rintro e μ ⟨m, hm, rfl, rfl⟩
      subst hm
      exact ⟨.exit 0, _, [], by simp [dendronlaw19_Count.b0] <;> rfl, by simp, rfl, rfl, rfl⟩
  simp (disch := omega) [dendronlaw19_Count, hr]
theorem ones_ev : ∀ x : Nat, x < 32 → EX ip nv (.call F.bits_OnesCount [.d (.int .u64 (x : Int))] []) = some (.ret (.d (.int .i64 (cntN x 5 : Nat))) [])
  | 0, _ => (EX_some ip nv).2 ⟨100, by kernel_rfl⟩
  | 1, _ => (EX_some ip nv).2 ⟨100, by kernel_rfl⟩
  | 2, _ => (EX_some ip nv).2 ⟨100, by kernel_rfl⟩
  | 3, _ => (EX_some ip nv).2 ⟨100, by kernel_rfl⟩
  | 4, _ => (EX_some ip nv).2 ⟨100, by kernel_rfl⟩
  | 5, _ => (EX_some ip nv).2 ⟨100, by kernel_rfl⟩
  | 6, _ => (EX_some ip nv).2 ⟨100, by kernel_rfl⟩
  | 7, _ => (EX_some ip nv).2 ⟨100, by kernel_rfl⟩
  | 8, _ => (EX_some ip nv).2 ⟨100, by kernel_rfl⟩
  | 9, _ => (EX_some ip nv).2 ⟨100, by kernel_rfl⟩
  | 10, _ => (EX_some ip nv).2 ⟨100, by kernel_rfl⟩
  | 11, _ => (EX_some ip nv).2 ⟨100, by kernel_rfl⟩
  | 12, _ => (EX_some ip nv).2 ⟨100, by kernel_rfl⟩
  | 13, _ => (EX_some ip nv).2 ⟨100, by kernel_rfl⟩
  | 14, _ => (EX_some ip nv).2 ⟨100, by kernel_rfl⟩
  | 15, _ => (EX_some ip nv).2 ⟨100, by kernel_rfl⟩
  | 16, _ => (EX_some ip nv).2 ⟨100, by kernel_rfl⟩
  | 17, _ => (EX_some ip nv).2 ⟨100, by kernel_rfl⟩
  | 18, _ => (EX_some ip nv).2 ⟨100, by kernel_rfl⟩
  | 19, _ => (EX_some ip nv).2 ⟨100, by kernel_rfl⟩
  | 20, _ => (EX_some ip nv).2 ⟨100, by kernel_rfl⟩
  | 21, _ => (EX_some ip nv).2 ⟨100, by kernel_rfl⟩
  | 22, _ => (EX_some ip nv).2 ⟨100, by kernel_rfl⟩
  | 23, _ => (EX_some ip nv).2 ⟨100, by kernel_rfl⟩
  | 24, _ => (EX_some ip nv).2 ⟨100, by kernel_rfl⟩
  | 25, _ => (EX_some ip nv).2 ⟨100, by kernel_rfl⟩
  | 26, _ => (EX_some ip nv).2 ⟨100, by kernel_rfl⟩
  | 27, _ => (EX_some ip nv).2 ⟨100, by kernel_rfl⟩
  | 28, _ => (EX_some ip nv).2 ⟨100, by kernel_rfl⟩
  | 29, _ => (EX_some ip nv).2 ⟨100, by kernel_rfl⟩
  | 30, _ => (EX_some ip nv).2 ⟨100, by kernel_rfl⟩
  | 31, _ => (EX_some ip nv).2 ⟨100, by kernel_rfl⟩
  | n + 32, h => by omega
theorem kd_b2 (hz : TzOk nv) (l x : List RQ) (s n : Nat) (B4 B8 : Blk) (hn : n ≤ 5) (hs : s < l.length) (hll : l.length ≤ 33) (hxl : x.length = n) (hl : ∀ r ∈ l, r.ok 2) (hx : ∀ r ∈ x, r.ok 2) :
    ∃ z e μ, EX ip nv (.code (.loop [] [] kernel_Distance.b2) [(0, .d (.sl 3 (el l))), (1, .d (.sl 3 (el x))), (4, .ptr 4 0), (6, .d (.int .i64 (n : Int))), (8, .ptr 8 0), (9, .d (.int .i64 (s : Int))), (10, .ptr 10 0), (47, .d (.int .i64 (n : Int))), (48, .d (.int .i64 0))] [(4, B4), (8, B8), (10, ⟨0, true, (can (dV l x s 0)).c⟩)]) = some (.st z e μ) ∧ z ≠ .normal ∧
    z = .exit 2 ∧ e = [(0, .d (.sl 3 (el l))), (1, .d (.sl 3 (el x))), (4, .ptr 4 0), (6, .d (.int .i64 (n : Int))), (8, .ptr 8 0), (9, .d (.int .i64 (s : Int))), (10, .ptr 10 0), (47, .d (.int .i64 (n : Int))), (48, .d (.int .i64 (n : Int))), (49, .d (.bool false))] ∧ μ = [(4, B4), (8, B8), (10, ⟨0, true, (can (dV l x s n)).c⟩)] := by
  refine loop_n n (fun i e μ => ∃ c : RQ, c = can (dV l x s i) ∧ e = [(0, .d (.sl 3 (el l))), (1, .d (.sl 3 (el x))), (4, .ptr 4 0), (6, .d (.int .i64 (n : Int))), (8, .ptr 8 0), (9, .d (.int .i64 (s : Int))), (10, .ptr 10 0), (47, .d (.int .i64 (n : Int))), (48, .d (.int .i64 (i : Int)))] ∧ μ = [(4, B4), (8, B8), (10, ⟨0, true, c.c⟩)]) ?_ ?_ ⟨_, rfl, rfl, rfl⟩
  · rintro i e μ hi ⟨c, hc, rfl, rfl⟩
    have sh := i_shrN (s := s) (i := i) (by omega) (by omega)
    have hle : s / 2 ^ i ≤ s := Nat.div_le_self _ _
    have ha := ibits_and (a := s / 2 ^ i) (b := 1) (by omega) (by omega)
    rw [show s / 2 ^ i &&& 1 = s / 2 ^ i % 2 from Nat.and_one_is_mod _] at ha
    have tb : s.testBit i = decide (s / 2 ^ i % 2 = 1) := Nat.testBit_eq_decide_div_mod_eq
    have ad := radd_ev hz (can (dV l x s i)) (ix x i) (can_ok (dV_b hl hx hs i (by omega))) (ixq_ok hx (by omega)) (by omega) (by omega) (by omega)
    rw [can_v, ← hc] at ad
    by_cases c1 : s / 2 ^ i % 2 = 1
    · have tb' : s.testBit i = true := by rw [tb]; simpa using c1
      rw [c1] at ha
      refine .inl ⟨_, _, ?_, can (dV l x s (i + 1)), rfl, rfl, rfl⟩
      rw [dV, if_pos tb']
      generalize can (dV l x s i + (ix x i).v) = c' at *
      clear hc tb tb'
      generalize s / 2 ^ i = q at *
      have ha' : bitsD .and .i64 (q : Int) 1 = 1 := ha
      simp (disch := omega) [kernel_Distance.b2, hi, sh, ha', ad, -vBin_shr]
    · have tb' : s.testBit i = false := by rw [tb]; simpa using c1
      have c0 : s / 2 ^ i % 2 = 0 := by omega
      rw [c0] at ha
      refine .inl ⟨_, _, ?_, c, by rw [dV, tb', hc]; rfl, rfl, rfl⟩
      clear hc tb tb' ad
      generalize s / 2 ^ i = q at *
      have ha' : bitsD .and .i64 (q : Int) 1 = 0 := ha
      simp (disch := omega) [kernel_Distance.b2, hi, sh, ha', -vBin_shr]
  · rintro e μ ⟨c, hc, rfl, rfl⟩
    subst hc
    exact ⟨.exit 2, _, _, by simp [kernel_Distance.b2] <;> first | rfl | exact ⟨rfl, rfl⟩, by simp, rfl, rfl, rfl⟩
theorem kd_b0 (hz : TzOk nv) (l x : List RQ) (n : Nat) (B4 : Blk) (hn : n ≤ 5) (hll : l.length = 2 ^ n) (h2 : 2 ≤ l.length) (hxl : x.length = n) (hl : ∀ r ∈ l, r.ok 2) (hx : ∀ r ∈ x, r.ok 2) :
    ∃ z e μ, EX ip nv (.code (.loop [] [] kernel_Distance.b0) [(0, .d (.sl 3 (el l))), (1, .d (.sl 3 (el x))), (4, .ptr 4 0), (6, .d (.int .i64 (n : Int))), (8, .ptr 8 0), (9, .d (.int .i64 1))] [(4, B4), (8, ⟨0, true, (can 0).c⟩)]) = some (.st z e μ) ∧ z ≠ .normal ∧
    z = .exit 0 ∧ e = [(0, .d (.sl 3 (el l))), (1, .d (.sl 3 (el x))), (4, .ptr 4 0), (6, .d (.int .i64 (n : Int))), (8, .ptr 8 0), (9, .d (.int .i64 ((l.length - 2 : Nat) + 1 : Int))), (36, .d (.bool false))] ∧ μ = [(4, B4), (8, ⟨0, true, (can (sV l x n (l.length - 2))).c⟩)] := by
  have hp : 2 ^ n ≤ 2 ^ 5 := Nat.pow_le_pow_right (by decide) hn
  refine loop_n (l.length - 2) (fun j e μ => ∃ c : RQ, c = can (sV l x n j) ∧ e = [(0, .d (.sl 3 (el l))), (1, .d (.sl 3 (el x))), (4, .ptr 4 0), (6, .d (.int .i64 (n : Int))), (8, .ptr 8 0), (9, .d (.int .i64 ((j : Int) + 1)))] ∧ μ = [(4, B4), (8, ⟨0, true, c.c⟩)]) ?_ ?_ ⟨_, rfl, rfl, rfl⟩
  · rintro j e μ hj ⟨c, hc, rfl, rfl⟩
    obtain ⟨c0, c1, c2⟩ := cnt_facts ⟨n, by omega⟩ ⟨j + 1, by omega⟩ (by simp) (by simp only; omega)
    simp only at c0 c1 c2
    have db := dV_b hl hx (s := j + 1) (by omega) n (by omega)
    have sb := sV_b hn hll hxl hl hx j (by omega)
    have wb := kwt_b c1 c2 (by omega)
    have o := ones_ev (nv := nv) (j + 1) (by omega)
    rw [← c0] at o
    have w := kweight_ev hz c1 c2 (by omega)
    have su := rsub_ev hz (ix l 0) (ix l (j + 1)) (ixq_ok hl (by omega)) (ixq_ok hl (by omega)) (by omega) (by omega) (by omega)
    obtain ⟨_, _, _, lp, -, rfl, rfl, rfl⟩ := kd_b2 hz l x (j + 1) n B4 ⟨0, true, c.c⟩ hn (by omega) (by omega) hxl hl hx
    have m1 := rmul_ev hz (can (dV l x (j + 1) n)) (can (dV l x (j + 1) n)) (can_ok db) (can_ok db) (by omega) (by omega) (by omega)
    rw [can_v] at m1
    have m2 := rmul_ev hz (can (kwt (cntN (j + 1) n) n)) (can (dV l x (j + 1) n * dV l x (j + 1) n)) (can_ok wb) (can_ok (db.mul db)) (by omega) (by omega) (by omega)
    rw [can_v, can_v] at m2
    have ad := radd_ev hz (can (sV l x n j)) (can (kwt (cntN (j + 1) n) n * (dV l x (j + 1) n * dV l x (j + 1) n))) (can_ok sb) (can_ok (wb.mul (db.mul db))) (by omega) (by omega) (by omega)
    rw [can_v, can_v, ← hc] at ad
    refine .inl ⟨_, _, ?_, can (sV l x n (j + 1)), rfl, rfl, rfl⟩
    rw [sV]
    rw [show (ix l 0).v - (ix l (j + 1)).v = dV l x (j + 1) 0 from rfl] at su
    generalize can (sV l x n j + kwt (cntN (j + 1) n) n * (dV l x (j + 1) n * dV l x (j + 1) n)) = q1 at *
    generalize can (kwt (cntN (j + 1) n) n * (dV l x (j + 1) n * dV l x (j + 1) n)) = q2 at *
    generalize can (dV l x (j + 1) n * dV l x (j + 1) n) = q3 at *
    generalize can (kwt (cntN (j + 1) n) n) = q4 at *
    generalize can (dV l x (j + 1) n) = q5 at *
    generalize can (dV l x (j + 1) 0) = q6 at *
    generalize cntN (j + 1) n = ct at *
    clear hc sb db wb
    have e1 : (j : Int) + 1 < (l.length : Int) - 1 := by omega
    have e2 : u (j + 1) = .int .u64 (((j + 1 : Nat)) : Int) := rfl
    rw [← e2] at o
    have e3 : ((j + 1 : Nat) : Int) = (j : Int) + 1 := by omega
    rw [e3] at lp
    simp (disch := omega) [kernel_Distance.b0, e1, su, lp, o, w, m1, m2, ad]
  · rintro e μ ⟨c, hc, rfl, rfl⟩
    subst hc
    have e1 : ¬ ((l.length - 2 : Nat) : Int) + 1 < (l.length : Int) - 1 := by omega
    exact ⟨.exit 0, _, _, by simp (disch := omega) [kernel_Distance.b0, e1] <;> first | rfl | exact ⟨rfl, rfl⟩, by simp, rfl, rfl, rfl⟩
end
end Go.Proofs.YtgpaohcnnggepaaDoor
