/- KernelDistances: what the law computes. -/
import Derived.Test.YtgpaohcnnggepaaDoorKd
set_option linter.unusedSimpArgs false
set_option linter.unusedVariables false
namespace Go.Proofs.YtgpaohcnnggepaaDoor
open Go Go.Proofs.R
set_option maxRecDepth 10000
section
variable {nv : R.Nv}
theorem zero_c : EX ip nv (.call F.ratio_Zero [] []) = some (.ret (.d (.ag (can 0).c)) []) := zero_ev
theorem kdist_ev (hz : TzOk nv) (l x : List RQ) (n : Nat) (hl33 : l.length ≤ 33) (hg : gmN l.length = some n) (h2 : 2 ≤ n) (hxl : x.length = n) (hl : ∀ r ∈ l, r.ok 2) (hx : ∀ r ∈ x, r.ok 2) :
    EX ip nv (.call F.kernel_Distance [.d (.sl 3 (el l)), .d (.sl 3 (el x))] []) = some (.ret (.tp [.d (.ag (can (sV l x n (l.length - 2))).c), .d (.int .i64 0)]) []) := by
  rw [S_call kernel_Distance.ip rfl]
  have p := players_ev (nv := nv) l hl33
  rw [hg] at p
  simp only at p
  have hn6 := gmN_lt ⟨l.length, by omega⟩ n hg
  have hlen := (gmN_some ⟨l.length, by omega⟩ ⟨n, hn6⟩ hg).1
  simp only at hlen
  have hp : 2 ^ 2 ≤ 2 ^ n := Nat.pow_le_pow_right (by decide) h2
  have z := zero_c (nv := nv)
  obtain ⟨_, _, _, lp, -, rfl, rfl, rfl⟩ := kd_b0 hz l x n ⟨0, true, [.bool false, .sl 1 [], .sl 1 []]⟩ (by omega) hlen (by omega) hxl hl hx
  generalize can (sV l x n (l.length - 2)) = q at *
  generalize can 0 = zz at *
  have e1 : ¬ (n : Int) < 2 := by omega
  have e2 : (x.length : Int) = (n : Int) := by omega
  simp (disch := omega) [kernel_Distance, p, e1, e2, z, lp]
theorem kdist_bad1 (l x : List RQ) (hl33 : l.length ≤ 33) (hg : ∀ n, gmN l.length = some n → n < 2) :
    EX ip nv (.call F.kernel_Distance [.d (.sl 3 (el l)), .d (.sl 3 (el x))] []) = some (.ret (.tp [.d (.ag [.bool false, .sl 1 [], .sl 1 []]), .d (.int .i64 1)]) []) := by
  rw [S_call kernel_Distance.ip rfl]
  have p := players_ev (nv := nv) l hl33
  cases hn : gmN l.length with
  | none =>
    rw [hn] at p
    simp only at p
    simp (disch := omega) [kernel_Distance, p]
  | some n =>
    rw [hn] at p
    simp only at p
    have h2 := hg n hn
    have e1 : (n : Int) < 2 := by omega
    simp (disch := omega) [kernel_Distance, p, e1]
theorem kdist_bad2 (l x : List RQ) (n : Nat) (hl33 : l.length ≤ 33) (hg : gmN l.length = some n) (h2 : 2 ≤ n) (hxl : x.length ≠ n) :
    EX ip nv (.call F.kernel_Distance [.d (.sl 3 (el l)), .d (.sl 3 (el x))] []) = some (.ret (.tp [.d (.ag [.bool false, .sl 1 [], .sl 1 []]), .d (.int .i64 14)]) []) := by
  rw [S_call kernel_Distance.ip rfl]
  have p := players_ev (nv := nv) l hl33
  rw [hg] at p
  simp only at p
  have e1 : ¬ (n : Int) < 2 := by omega
  have e2 : ¬ (x.length : Int) = (n : Int) := by omega
  simp (disch := omega) [kernel_Distance, p, e1, e2]
theorem ld_b2 (hz : TzOk nv) (l x : List RQ) (s n : Nat) (B6 B7 : Blk) (hn : n ≤ 5) (hs : s < l.length) (hll : l.length ≤ 33) (hxl : x.length = n) (hl : ∀ r ∈ l, r.ok 2) (hx : ∀ r ∈ x, r.ok 2) :
    ∃ z e μ, EX ip nv (.code (.loop [] [] dendronlaw20_distance.b2) [(0, .d (.sl 3 (el l))), (1, .d (.sl 3 (el x))), (2, .d (.int .i64 (n : Int))), (6, .ptr 6 0), (7, .ptr 7 0), (8, .d (.int .i64 (s : Int))), (9, .ptr 9 0), (10, .d (.int .i64 0))] [(6, B6), (7, B7), (9, ⟨0, true, (can (dV l x s 0)).c⟩)]) = some (.st z e μ) ∧ z ≠ .normal ∧
    z = .exit 2 ∧ e = [(0, .d (.sl 3 (el l))), (1, .d (.sl 3 (el x))), (2, .d (.int .i64 (n : Int))), (6, .ptr 6 0), (7, .ptr 7 0), (8, .d (.int .i64 (s : Int))), (9, .ptr 9 0), (10, .d (.int .i64 (n : Int))), (31, .d (.bool false))] ∧ μ = [(6, B6), (7, B7), (9, ⟨0, true, (can (dV l x s n)).c⟩)] := by
  refine loop_n n (fun i e μ => ∃ c : RQ, c = can (dV l x s i) ∧ e = [(0, .d (.sl 3 (el l))), (1, .d (.sl 3 (el x))), (2, .d (.int .i64 (n : Int))), (6, .ptr 6 0), (7, .ptr 7 0), (8, .d (.int .i64 (s : Int))), (9, .ptr 9 0), (10, .d (.int .i64 (i : Int)))] ∧ μ = [(6, B6), (7, B7), (9, ⟨0, true, c.c⟩)]) ?_ ?_ ⟨_, rfl, rfl, rfl⟩
  · rintro i e μ hi ⟨c, hc, rfl, rfl⟩
    have ie := in_ev (nv := nv) s i (by omega) (by omega)
    have ad := radd_ev hz (can (dV l x s i)) (ix x i) (can_ok (dV_b hl hx hs i (by omega))) (ixq_ok hx (by omega)) (by omega) (by omega) (by omega)
    rw [can_v, ← hc] at ad
    cases hb : s.testBit i
    · rw [hb] at ie
      refine .inl ⟨_, _, ?_, c, by rw [dV, hb, hc]; rfl, rfl, rfl⟩
      clear hc ad
      simp (disch := omega) [dendronlaw20_distance.b2, hi, ie]
    · rw [hb] at ie
      refine .inl ⟨_, _, ?_, can (dV l x s (i + 1)), rfl, rfl, rfl⟩
      rw [dV, if_pos hb]
      generalize can (dV l x s i + (ix x i).v) = c' at *
      clear hc
      simp (disch := omega) [dendronlaw20_distance.b2, hi, ie, ad]
  · rintro e μ ⟨c, hc, rfl, rfl⟩
    subst hc
    exact ⟨.exit 2, _, _, by simp [dendronlaw20_distance.b2] <;> first | rfl | exact ⟨rfl, rfl⟩, by simp, rfl, rfl, rfl⟩
theorem ld_b0 (hz : TzOk nv) (l x : List RQ) (n : Nat) (B6 : Blk) (hn : n ≤ 5) (hll : l.length = 2 ^ n) (h2 : 2 ≤ l.length) (hxl : x.length = n) (hl : ∀ r ∈ l, r.ok 2) (hx : ∀ r ∈ x, r.ok 2) :
    ∃ z e μ, EX ip nv (.code (.loop [] [] dendronlaw20_distance.b0) [(0, .d (.sl 3 (el l))), (1, .d (.sl 3 (el x))), (2, .d (.int .i64 (n : Int))), (6, .ptr 6 0), (7, .ptr 7 0), (8, .d (.int .i64 1))] [(6, B6), (7, ⟨0, true, (can 0).c⟩)]) = some (.st z e μ) ∧ z ≠ .normal ∧
    z = .exit 0 ∧ e = [(0, .d (.sl 3 (el l))), (1, .d (.sl 3 (el x))), (2, .d (.int .i64 (n : Int))), (6, .ptr 6 0), (7, .ptr 7 0), (8, .d (.int .i64 ((l.length - 2 : Nat) + 1 : Int))), (18, .d (.bool false))] ∧ μ = [(6, B6), (7, ⟨0, true, (can (sV l x n (l.length - 2))).c⟩)] := by
  have hp : 2 ^ n ≤ 2 ^ 5 := Nat.pow_le_pow_right (by decide) hn
  refine loop_n (l.length - 2) (fun j e μ => ∃ c : RQ, c = can (sV l x n j) ∧ e = [(0, .d (.sl 3 (el l))), (1, .d (.sl 3 (el x))), (2, .d (.int .i64 (n : Int))), (6, .ptr 6 0), (7, .ptr 7 0), (8, .d (.int .i64 ((j : Int) + 1)))] ∧ μ = [(6, B6), (7, ⟨0, true, c.c⟩)]) ?_ ?_ ⟨_, rfl, rfl, rfl⟩
  · rintro j e μ hj ⟨c, hc, rfl, rfl⟩
    obtain ⟨c0, c1, c2⟩ := cnt_facts ⟨n, by omega⟩ ⟨j + 1, by omega⟩ (by simp) (by simp only; omega)
    simp only at c0 c1 c2
    have db := dV_b hl hx (s := j + 1) (by omega) n (by omega)
    have sb := sV_b hn hll hxl hl hx j (by omega)
    have wb := kwt_b c1 c2 (by omega)
    have o := count19_ev (nv := nv) (j + 1) n (by omega) (by omega)
    have w := kweight_ev hz c1 c2 (by omega)
    have su := rsub_ev hz (ix l 0) (ix l (j + 1)) (ixq_ok hl (by omega)) (ixq_ok hl (by omega)) (by omega) (by omega) (by omega)
    obtain ⟨_, _, _, lp, -, rfl, rfl, rfl⟩ := ld_b2 hz l x (j + 1) n B6 ⟨0, true, c.c⟩ hn (by omega) (by omega) hxl hl hx
    have m1 := rmul_ev hz (can (dV l x (j + 1) n)) (can (dV l x (j + 1) n)) (can_ok db) (can_ok db) (by omega) (by omega) (by omega)
    rw [can_v] at m1
    have m2 := rmul_ev hz (can (kwt (cntN (j + 1) n) n)) (can (dV l x (j + 1) n * dV l x (j + 1) n)) (can_ok wb) (can_ok (db.mul db)) (by omega) (by omega) (by omega)
    rw [can_v, can_v] at m2
    have ad := radd_ev hz (can (sV l x n j)) (can (kwt (cntN (j + 1) n) n * (dV l x (j + 1) n * dV l x (j + 1) n))) (can_ok sb) (can_ok (wb.mul (db.mul db))) (by omega) (by omega) (by omega)
    rw [can_v, can_v, ← hc] at ad
    refine .inl ⟨_, _, ?_, can (sV l x n (j + 1)), rfl, rfl, rfl⟩
    rw [sV]
    rw [show (ix l 0).v - (ix l (j + 1)).v = dV l x (j + 1) 0 from rfl] at su
    generalize can (sV l x n j + kwt (cntN (j + 1) n) n * (dV l x (j + 1) n * dV l x (j + 1) n)) = q1 at *
    generalize can (kwt (cntN (j + 1) n) n * (dV l x (j + 1) n * dV l x (j + 1) n)) = q2 at *
    generalize can (dV l x (j + 1) n * dV l x (j + 1) n) = q3 at *
    generalize can (kwt (cntN (j + 1) n) n) = q4 at *
    generalize can (dV l x (j + 1) n) = q5 at *
    generalize can (dV l x (j + 1) 0) = q6 at *
    generalize cntN (j + 1) n = ct at *
    clear hc sb db wb
    have e1 : (j : Int) + 1 < (l.length : Int) - 1 := by omega
    have e3 : ((j + 1 : Nat) : Int) = (j : Int) + 1 := by omega
    rw [e3] at lp o
    simp (disch := omega) [dendronlaw20_distance.b0, e1, su, lp, o, w, m1, m2, ad]
  · rintro e μ ⟨c, hc, rfl, rfl⟩
    subst hc
    have e1 : ¬ ((l.length - 2 : Nat) : Int) + 1 < (l.length : Int) - 1 := by omega
    exact ⟨.exit 0, _, _, by simp (disch := omega) [dendronlaw20_distance.b0, e1] <;> first | rfl | exact ⟨rfl, rfl⟩, by simp, rfl, rfl, rfl⟩
theorem ldist_ev (hz : TzOk nv) (l x : List RQ) (n : Nat) (hl33 : l.length ≤ 33) (hg : gmN l.length = some n) (h2 : 2 ≤ n) (hxl : x.length = n) (hl : ∀ r ∈ l, r.ok 2) (hx : ∀ r ∈ x, r.ok 2) :
    EX ip nv (.call F.dendronlaw20_distance [.d (.sl 3 (el l)), .d (.sl 3 (el x)), .d (.int .i64 (n : Int))] []) = some (.ret (.d (.ag (can (sV l x n (l.length - 2))).c)) []) := by
  rw [S_call dendronlaw20_distance.ip rfl]
  have hn6 := gmN_lt ⟨l.length, by omega⟩ n hg
  have hlen := (gmN_some ⟨l.length, by omega⟩ ⟨n, hn6⟩ hg).1
  simp only at hlen
  have hp : 2 ^ 2 ≤ 2 ^ n := Nat.pow_le_pow_right (by decide) h2
  have z := zero_c (nv := nv)
  obtain ⟨_, _, _, lp, -, rfl, rfl, rfl⟩ := ld_b0 hz l x n ⟨0, true, [.bool false, .sl 1 [], .sl 1 []]⟩ (by omega) hlen (by omega) hxl hl hx
  generalize can (sV l x n (l.length - 2)) = q at *
  generalize can 0 = zz at *
  simp (disch := omega) [dendronlaw20_distance, z, lp]
theorem kernelDistances_ev (hz : TzOk nv) (L X : List RQ) (hL : L.length ≤ maxLen) (hX : X.length ≤ maxLen) (hkL : ∀ r ∈ L, r.ok maxLen) (hkX : ∀ r ∈ X, r.ok maxLen) : EX ip nv (.call F.dendronlaw20_KernelDistances [.d (.sl 3 (el L)), .d (.sl 3 (el X))] []) = some (.ret (.d (.bool true)) []) := by
  rw [S_call dendronlaw20_KernelDistances.ip rfl]
  have f1 := few19_ev (nv := nv) L hL
  have f2 := few19_ev (nv := nv) X hX
  have hl := fewR_ok hkL
  have hx := fewR_ok hkX
  have hl33 : (fewR L).length ≤ 33 := by rw [fewR_len]; omega
  have hx33 : (fewR X).length ≤ 33 := by rw [fewR_len]; omega
  have aw := kawake (nv := nv) hz
  generalize fewR L = l at *
  generalize fewR X = x at *
  have sz := size19_ev (nv := nv) l hl33
  cases hn : gmN l.length with
  | none =>
    rw [hn] at sz
    simp only at sz
    have k := kdist_bad1 (nv := nv) l x hl33 (fun n h => by rw [hn] at h; cases h)
    simp (disch := omega) [dendronlaw20_KernelDistances, f1, f2, k, sz, aw]
  | some n =>
    rw [hn] at sz
    simp only at sz
    by_cases h2 : n < 2
    · have k := kdist_bad1 (nv := nv) l x hl33 (fun m h => by rw [hn] at h; cases h; exact h2)
      have e1 : (n : Int) < 2 := by omega
      simp (disch := omega) [dendronlaw20_KernelDistances, f1, f2, k, sz, e1, aw]
    · have e1 : ¬ (n : Int) < 2 := by omega
      by_cases hxl : x.length = n
      · have k := kdist_ev (nv := nv) hz l x n hl33 hn (by omega) hxl hl hx
        have d := ldist_ev (nv := nv) hz l x n hl33 hn (by omega) hxl hl hx
        have hn6 := gmN_lt ⟨l.length, by omega⟩ n hn
        have hlen := (gmN_some ⟨l.length, by omega⟩ ⟨n, hn6⟩ hn).1
        simp only at hlen
        have hp : 2 ^ 2 ≤ 2 ^ n := Nat.pow_le_pow_right (by decide) (by omega)
        have hp5 : 2 ^ n ≤ 2 ^ 5 := Nat.pow_le_pow_right (by decide) (by omega)
        have sb := sV_b (by omega) hlen hxl hl hx (l.length - 2) (by omega)
        have sb' : Bq 2000 (sV l x n (l.length - 2)) := sb.mono (by omega)
        have rr := rright_c (nv := nv) hz _ sb' (by omega)
        have sm := rsame_ev (nv := nv) hz (can (sV l x n (l.length - 2))) (can (sV l x n (l.length - 2))) (can_ok sb') (can_ok sb') (by omega) (by omega) (by omega)
        simp only [decide_true] at sm
        have e2 : (x.length : Int) = (n : Int) := by omega
        clear sb sb'
        generalize can (sV l x n (l.length - 2)) = q at *
        simp (disch := omega) [dendronlaw20_KernelDistances, f1, f2, k, sz, e1, e2, rr, d, sm, aw]
      · have k := kdist_bad2 (nv := nv) l x n hl33 hn (by omega) hxl
        have e2 : ¬ (x.length : Int) = (n : Int) := by omega
        simp (disch := omega) [dendronlaw20_KernelDistances, f1, f2, k, sz, e1, e2, aw]
end
end Go.Proofs.YtgpaohcnnggepaaDoor
