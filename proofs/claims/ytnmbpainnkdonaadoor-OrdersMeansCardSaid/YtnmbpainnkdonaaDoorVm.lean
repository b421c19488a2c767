/- OrdersMeans: the mean of what each adds in any orders. -/
import Derived.Test.YtnmbpainnkdonaaDoorVd
set_option linter.unusedSimpArgs false
set_option linter.unusedVariables false
namespace Go.Proofs.YtnmbpainnkdonaaDoor
open Go Go.Proofs.R
set_option maxRecDepth 10000
/-- Each share of the mean, summed. -/
def uV (v : Nat → Rat) (os : List (List Int)) (n : Nat) (f : Rat) : Nat → Nat → Rat
  | 0, _ => 0
  | k + 1, p => uV v os n f k p + aV v (ix os k) n p * f
theorem uV_eq (v : Nat → Rat) (os : List (List Int)) (n : Nat) (f : Rat) (p : Nat) : ∀ k, uV v os n f k p = sV v os n k p * f
  | 0 => by rw [uV, sV, Rat.zero_mul]
  | k + 1 => by rw [uV, sV, uV_eq v os n f p k, Rat.add_mul]
/-- A sum's number: nothing yet, or in its form. -/
def gU (v : Nat → Rat) (os : List (List Int)) (n : Nat) (f : Rat) (k p : Nat) : RQ := if k = 0 then ⟨false, [], []⟩ else can (uV v os n f k p)
theorem gU_v (v : Nat → Rat) (os : List (List Int)) (n : Nat) (f : Rat) (k p : Nat) : (gU v os n f k p).v = uV v os n f k p := by
  unfold gU
  split
  · rename_i h; subst h; rfl
  · exact can_v _
theorem uV_b {l : List RQ} {os : List (List Int)} {n K : Nat} {f : Rat} (hf : Bq 1 f) (hk : ∀ r ∈ l, r.ok K) (h1 : 1 ≤ K) (hl : l.length = 2 ^ n) : ∀ k, k ≤ os.length → (∀ j, j < k → rightB (ix os j) n = true) → ∀ p, Bq (1 + (2 * K + 3) * k) (uV (vl l) os n f k p)
  | 0, _, _, _ => Bq.zero
  | k + 1, h, hr, p => by
    rw [uV]
    have e : 1 + (2 * K + 3) * (k + 1) = 1 + (2 * K + 3) * k + (2 * K + 3) := by rw [Nat.mul_add]; omega
    exact ((uV_b hf hk h1 hl k (by omega) (fun j hj => hr j (by omega)) p).add ((aV_b hk h1 hl (rightB_perm.1 (hr k (by omega))) n (Nat.le_refl _) p).mul hf)).mono (by omega)
theorem gU_ok {l : List RQ} {os : List (List Int)} {n : Nat} {f : Rat} {k p : Nat} {J : Nat} (h : Bq J (uV (vl l) os n f k p)) : (gU (vl l) os n f k p).ok J := by
  unfold gU
  split
  · exact ⟨by simp, by simp, by simp, by simp⟩
  · exact can_ok h
section
variable {nv : R.Nv}
theorem means_b0 (l : List RQ) (all : List (List Int)) (hx : ∀ o ∈ all, o.length ≤ maxLen) :
    ∃ z e μ, EX ip nv (.code (.loop [] [] dendronlaw21_OrdersMeans.b0) [(0, .d (.sl 3 (el l))), (1, .d (.sl 1 (el all))), (5, .own 5 1 0 0), (6, .d (.int .i64 0))] [(5, ⟨0, false, []⟩)]) = some (.st z e μ) ∧ z ≠ .normal ∧
    ∃ v : Int, z = .exit 0 ∧ e = [(0, .d (.sl 3 (el l))), (1, .d (.sl 1 (el all))), (5, .own 5 1 0 ((all.take 8).map fun o => o.take 12).length), (6, .d (.int .i64 v)), (23, .d (.bool false))] ∧ μ = [(5, ⟨0, false, el ((all.take 8).map fun o => o.take 12)⟩)] := by
  refine loop_n (min all.length 8) (fun i e μ => ∃ a : List (List Int), a = (all.take i).map (fun o => o.take 12) ∧ e = [(0, .d (.sl 3 (el l))), (1, .d (.sl 1 (el all))), (5, .own 5 1 0 a.length), (6, .d (.int .i64 (i : Int)))] ∧ μ = [(5, ⟨0, false, el a⟩)]) ?_ ?_ ⟨[], by simp, rfl, rfl⟩
  · rintro i e μ hi ⟨a, ha, rfl, rfl⟩
    have hi1 : i < all.length := by omega
    have hi2 : (i : Int) < 8 := by omega
    have hal : a.length = i := by rw [ha]; simp; omega
    have nb := few21_ev (nv := nv) (ix all i) (hx _ (os_ix hi1))
    have e1 : (all.take (i + 1)).map (fun o => o.take 12) = a ++ [(ix all i).take 12] := by
      rw [take_ix hi1, ha]; simp
    refine .inl ⟨_, _, ?_, a ++ [(ix all i).take 12], e1.symm, rfl, rfl⟩
    clear ha e1
    generalize (ix all i).take 12 = c at *
    simp (disch := omega) [dendronlaw21_OrdersMeans.b0, hi1, hi2, nb]
  · rintro e μ ⟨a, ha, rfl, rfl⟩
    have e1 : a = (all.take 8).map fun o => o.take 12 := by rw [ha]; congr 1; rw [List.take_eq_take_iff]; omega
    subst e1
    by_cases h : all.length ≤ 8
    · rw [Nat.min_eq_left h]
      exact ⟨.exit 0, _, _, by simp (disch := omega) [dendronlaw21_OrdersMeans.b0] <;> first | rfl | exact ⟨rfl, rfl⟩, by simp, _, rfl, rfl, rfl⟩
    · rw [Nat.min_eq_right (by omega)]
      have h1 : (8 : Int) < all.length := by omega
      have h2 : ((8 : Nat) : Int) = 8 := rfl
      rw [h2]
      exact ⟨.exit 0, _, _, by simp (disch := omega) [dendronlaw21_OrdersMeans.b0, h1] <;> first | rfl | exact ⟨rfl, rfl⟩, by simp, _, rfl, rfl, rfl⟩
theorem means_b4 (hz : TzOk nv) (n K J : Nat) (hn5 : n ≤ 5) (g : Nat → RQ) (A : Nat → Rat) (os : List (List Int)) (hg : ∀ p, p < n → (g p).ok K) (hA : ∀ p, p < n → Bq J (A p)) (h1 : 1 ≤ K) (h2 : 1 ≤ J) (hK : K + (J + 1) + 1 ≤ 1073741824) (h0 : 0 < os.length) (hm : os.length ≤ 1000) (x0 x7 x8 x11 : V) (d0 d7 : D) (i8 i11 : Int) (pb : Nat)
    (e0 : x0 = .d d0) (e7 : x7 = .d d7) (e8 : x8 = .d (.int .i64 i8)) (e11 : x11 = .d (.int .i64 i11)) :
    ∃ z e μ, EX ip nv (.code (.loop [] [] dendronlaw21_OrdersMeans.b4) [(0, x0), (5, .own 5 1 0 os.length), (7, x7), (8, x8), (9, .d (.int .i64 (n : Int))), (10, .own 55 3 0 n), (11, x11), (12, .d (.sl 3 (el (tb n fun p => can (A p))))), (13, .d (.int .i64 0))] [(5, ⟨pb, false, el os⟩), (55, ⟨0, false, el (tb n g)⟩)]) = some (.st z e μ) ∧ z ≠ .normal ∧
    z = .exit 4 ∧ e = [(0, x0), (5, .own 5 1 0 os.length), (7, x7), (8, x8), (9, .d (.int .i64 (n : Int))), (10, .own 55 3 0 n), (11, x11), (12, .d (.sl 3 (el (tb n fun p => can (A p))))), (13, .d (.int .i64 (n : Int))), (87, .d (.bool false))] ∧ μ = [(5, ⟨pb, false, el os⟩), (55, ⟨0, false, el (tb n fun p => can ((g p).v + A p * Rat.divInt 1 (os.length : Int)))⟩)] := by
  subst e0 e7 e8 e11
  have fr := rfrac_ev hz 1 (os.length : Int) (by omega) (by omega) (by omega) (by omega)
  have fb := frac1_b h0 (by omega : os.length < 4294967296)
  generalize Rat.divInt 1 (os.length : Int) = fq at *
  have hal : (tb n fun p => can (A p)).length = n := tb_len _ _
  have hai : ∀ p, p < n → ix (tb n fun p => can (A p)) p = can (A p) := fun p hp => tb_ix hp
  generalize (tb n fun p => can (A p)) = al at *
  refine loop_n n (fun i e μ => ∃ a : List RQ, a = tb n (mix i (fun p => can ((g p).v + A p * fq)) g) ∧ e = [(0, .d d0), (5, .own 5 1 0 os.length), (7, .d d7), (8, .d (.int .i64 i8)), (9, .d (.int .i64 (n : Int))), (10, .own 55 3 0 n), (11, .d (.int .i64 i11)), (12, .d (.sl 3 (el al))), (13, .d (.int .i64 (i : Int)))] ∧ μ = [(5, ⟨pb, false, el os⟩), (55, ⟨0, false, el a⟩)]) ?_ ?_ ⟨_, mix_zero.symm, rfl, rfl⟩
  · rintro i e μ hi ⟨a, ha, rfl, rfl⟩
    have hal2 : a.length = n := by rw [ha]; simp
    have hx : ix a i = g i := by rw [ha, tb_ix hi, mix_at]
    have ml := rmul_ev hz (can (A i)) (can fq) (can_ok (hA i hi)) (can_ok fb) h2 (by omega) (by omega)
    rw [can_v, can_v] at ml
    have ad := radd_ev hz (g i) (can (A i * fq)) (hg i hi) (can_ok ((hA i hi).mul fb)) h1 (by omega) hK
    rw [can_v] at ad
    have st := mix_step (n := n) (i := i) (g := fun p => can ((g p).v + A p * fq)) (f := g)
    rw [← ha] at st
    have hy := hai i hi
    refine .inl ⟨_, _, ?_, a.set i (can ((g i).v + A i * fq)), st, rfl, rfl⟩
    clear st ha hai
    generalize can ((g i).v + A i * fq) = q at *
    generalize can (A i * fq) = q3 at *
    generalize g i = q1 at *
    generalize can (A i) = q2 at *
    generalize can fq = q4 at *
    simp (disch := omega) [dendronlaw21_OrdersMeans.b4, hi, hal, hal2, hx, hy, fr, ml, ad, -vIA_o]
  · rintro e μ ⟨a, ha, rfl, rfl⟩
    rw [mix_all] at ha
    subst ha
    exact ⟨.exit 4, _, _, by simp [dendronlaw21_OrdersMeans.b4] <;> first | rfl | exact ⟨rfl, rfl⟩, by simp, rfl, rfl, rfl⟩
theorem means_b2 (hz : TzOk nv) (l : List RQ) (os : List (List Int)) (n K : Nat) (hn : n ≤ 5) (hlen : l.length = 2 ^ n) (hk : ∀ r ∈ l, r.ok K) (h1 : 1 ≤ K) (hK : K ≤ 10000) (ho : os.length ≤ 1000) (hol : ∀ o ∈ os, o.length ≤ 1000) (dx : List D) (i8 : Int) (pb : Nat) (hbad : (∃ j, j < os.length ∧ rightB (ix os j) n = false) → dx = [] ∧ i8 = 1) :
    ∃ z e μ, EX ip nv (.code (.loop [] [] dendronlaw21_OrdersMeans.b2) [(0, .d (.sl 3 (el l))), (5, .own 5 1 0 os.length), (7, .d (.sl 3 dx)), (8, .d (.int .i64 i8)), (9, .d (.int .i64 (n : Int))), (10, .own 55 3 0 n), (11, .d (.int .i64 0))] [(5, ⟨pb, false, el os⟩), (55, ⟨0, false, el (List.replicate n (⟨false, [], []⟩ : RQ))⟩)]) = some (.st z e μ) ∧ z ≠ .normal ∧
    ((z = .exit 2 ∧ e = [(0, .d (.sl 3 (el l))), (5, .own 5 1 0 os.length), (7, .d (.sl 3 dx)), (8, .d (.int .i64 i8)), (9, .d (.int .i64 (n : Int))), (10, .own 55 3 0 n), (11, .d (.int .i64 (os.length : Int))), (59, .d (.bool false))] ∧ μ = [(5, ⟨pb, false, el os⟩), (55, ⟨0, false, el (tb n (gU (vl l) os n (Rat.divInt 1 (os.length : Int)) os.length))⟩)] ∧ ∀ j, j < os.length → rightB (ix os j) n = true) ∨
     (z = .ret ∧ e = [(4, .d (.bool true))] ∧ μ = [] ∧ ∃ j, j < os.length ∧ rightB (ix os j) n = false)) := by
  have aw := awake21_ev (nv := nv)
  refine loop_n os.length (fun k e μ => e = [(0, .d (.sl 3 (el l))), (5, .own 5 1 0 os.length), (7, .d (.sl 3 dx)), (8, .d (.int .i64 i8)), (9, .d (.int .i64 (n : Int))), (10, .own 55 3 0 n), (11, .d (.int .i64 (k : Int)))] ∧ μ = [(5, ⟨pb, false, el os⟩), (55, ⟨0, false, el (tb n (gU (vl l) os n (Rat.divInt 1 (os.length : Int)) k))⟩)] ∧ ∀ j, j < k → rightB (ix os j) n = true) ?_ ?_ ⟨rfl, by rw [← rep_tb]; rfl, fun j hj => by omega⟩
  · rintro k e μ hk1 ⟨rfl, rfl, hr⟩
    have hm := os_ix hk1
    have hro := hol _ hm
    have r := right21_ev (nv := nv) (ix os k) n (by omega)
    cases c : rightB (ix os k) n
    · obtain ⟨rfl, rfl⟩ := hbad ⟨k, hk1, c⟩
      rw [c] at r
      refine .inr ⟨.ret, _, _, ?_, by simp, .inr ⟨rfl, rfl, rfl, k, hk1, c⟩⟩
      generalize (tb n (gU (vl l) os n (Rat.divInt 1 (os.length : Int)) k)) = a at *
      simp (disch := omega) [dendronlaw21_OrdersMeans.b2, hk1, r, aw, -vIA_o]
    · rw [c] at r
      have hperm := rightB_perm.1 c
      have la := ladds_ev hz l (ix os k) n K hn hlen hk h1 (by omega) c
      have fb := frac1_b (m := os.length) (by omega) (by omega)
      have hb := fun p => uV_b (os := os) fb hk h1 hlen k (by omega) hr p
      have hle : (2 * K + 3) * k ≤ (2 * K + 3) * 1000 := Nat.mul_le_mul_left _ (by omega)
      obtain ⟨_, _, _, b4, -, rfl, rfl, rfl⟩ := means_b4 hz n (1 + (2 * K + 3) * k) (2 * K + 1) hn (gU (vl l) os n (Rat.divInt 1 (os.length : Int)) k) (fun p => aV (vl l) (ix os k) n p) os (fun p _ => gU_ok (hb p)) (fun p _ => aV_b hk h1 hlen hperm n (Nat.le_refl _) p) (by omega) (by omega) (by omega) (by omega) ho
        (.d (.sl 3 (el l))) (.d (.sl 3 dx)) (.d (.int .i64 i8)) (.d (.int .i64 (k : Int))) _ _ _ _ pb rfl rfl rfl rfl
      refine .inl ⟨_, _, ?_, rfl, rfl, fun j hj => ?_⟩
      · have hal : (adL l (ix os k) n).length = n := by simp [adL]
        have e2 : tb n (gU (vl l) os n (Rat.divInt 1 (os.length : Int)) (k + 1)) = tb n fun p => can ((gU (vl l) os n (Rat.divInt 1 (os.length : Int)) k p).v + aV (vl l) (ix os k) n p * Rat.divInt 1 (os.length : Int)) := by
          refine tb_congr fun p hp => ?_
          rw [gU_v]
          unfold gU
          rw [if_neg (by omega)]
          rfl
        rw [e2]
        have e3 : adL l (ix os k) n = tb n fun p => can (aV (vl l) (ix os k) n p) := rfl
        rw [← e3] at b4
        generalize (tb n fun p => can ((gU (vl l) os n (Rat.divInt 1 (os.length : Int)) k p).v + aV (vl l) (ix os k) n p * Rat.divInt 1 (os.length : Int))) = a2 at *
        generalize (tb n (gU (vl l) os n (Rat.divInt 1 (os.length : Int)) k)) = a at *
        clear e3 e2
        generalize adL l (ix os k) n = a3 at *
        generalize hoe : ix os k = o at *
        simp (disch := omega) [dendronlaw21_OrdersMeans.b2, hk1, r, la, b4, hoe, -vIA_o]
      · by_cases e : j = k
        · rw [e]; exact c
        · exact hr j (by omega)
  · rintro e μ ⟨rfl, rfl, hr⟩
    exact ⟨.exit 2, _, _, by simp [dendronlaw21_OrdersMeans.b2] <;> first | rfl | exact ⟨rfl, rfl⟩, by simp, .inl ⟨rfl, rfl, rfl, hr⟩⟩
theorem ordersMeans_ev (hz : TzOk (nvR nv)) (L : List RQ) (O : List (List Int)) (hL : L.length ≤ maxLen) (hO : O.length ≤ maxLen) (hk : ∀ r ∈ L, r.ok maxLen) (hol : ∀ o ∈ O, o.length ≤ maxLen) (hx : ∀ o ∈ O, ∀ x ∈ o, In64 x) : EX ip (nvR nv) (.call F.dendronlaw21_OrdersMeans [.d (.sl 3 (el L)), .d (.sl 1 (el O))] []) = some (.ret (.d (.bool true)) []) := by
  rw [S_call dendronlaw21_OrdersMeans.ip rfl]
  have f1 := few19_ev (nv := nvR nv) L hL
  have hk2 := fewR_ok hk
  have hl : (fewR L).length ≤ 33 := by rw [fewR_len]; omega
  have aw := awake21_ev (nv := nvR nv)
  obtain ⟨_, _, _, r0, -, v, rfl, rfl, rfl⟩ := means_b0 (nv := nvR nv) (fewR L) O hol
  have hos : ((O.take 8).map fun o => o.take 12).length ≤ 8 := by simp; omega
  have hoo : ∀ o ∈ (O.take 8).map (fun o => o.take 12), o.length ≤ 1000 := by
    intro o ho
    obtain ⟨o', -, rfl⟩ := List.mem_map.1 ho
    simp; omega
  have hxo : ∀ o ∈ (O.take 8).map (fun o => o.take 12), ∀ x ∈ o, In64 x := by
    intro o ho x hxx
    obtain ⟨o', ho', rfl⟩ := List.mem_map.1 ho
    exact hx o' (List.mem_of_mem_take ho') x (List.mem_of_mem_take hxx)
  generalize fewR L = l at *
  generalize ((O.take 8).map fun o => o.take 12) = os at *
  have sz := size19_ev (nv := nvR nv) l hl
  cases hn : gmN l.length with
  | none =>
    rw [hn] at sz
    simp only at sz
    have b := mean_none (nv := nvR nv) l os hl hn
    simp (disch := omega) [dendronlaw21_OrdersMeans, f1, r0, b, sz, aw]
  | some n =>
    rw [hn] at sz
    simp only at sz
    have hn6 := gmN_lt ⟨l.length, by omega⟩ n hn
    have hlen := (gmN_some ⟨l.length, by omega⟩ ⟨n, hn6⟩ hn).1
    simp only at hlen
    have n0 : ¬ (n : Int) < 0 := by omega
    by_cases hb : ∃ j, j < os.length ∧ rightB (ix os j) n = false
    · have b := mean_bad hz l os n 2 hl hn hk2 (by omega) (by omega) (by omega) hoo hxo hb
      obtain ⟨z, e, μ, r2, -, h⟩ := means_b2 hz l os n 2 (by omega) hlen hk2 (by omega) (by omega) (by omega) hoo [] 1 os.length (fun _ => ⟨rfl, rfl⟩)
      rcases h with ⟨-, -, -, hr⟩ | ⟨rfl, rfl, rfl, -⟩
      · obtain ⟨j, hj, c⟩ := hb
        rw [hr j hj] at c; cases c
      · simp (disch := omega) [dendronlaw21_OrdersMeans, f1, r0, b, sz, n0, r2]
    · have hr : ∀ j, j < os.length → rightB (ix os j) n = true := fun j hj => by
        cases c : rightB (ix os j) n
        · exact absurd ⟨j, hj, c⟩ hb
        · rfl
      have b := mean_ev hz l os n 2 hl hn hk2 (by omega) (by omega) (by omega) hoo hxo hr
      by_cases h0 : os.length = 0
      · rw [if_pos h0] at b
        obtain ⟨z, e, μ, r2, -, h⟩ := means_b2 hz l os n 2 (by omega) hlen hk2 (by omega) (by omega) (by omega) hoo [] 15 os.length (fun h => absurd h hb)
        rcases h with ⟨rfl, rfl, rfl, -⟩ | ⟨-, -, -, j, hj, c⟩
        · have h0' : os = [] := List.length_eq_zero_iff.1 h0
          subst h0'
          generalize tb n (gU (vl l) ([] : List (List Int)) n (Rat.divInt 1 ((([] : List (List Int)).length : Nat) : Int)) ([] : List (List Int)).length) = a at *
          simp only [el_nil, List.length_nil, Int.natCast_zero] at r0 r2 b
          simp (disch := omega) [dendronlaw21_OrdersMeans, f1, r0, b, sz, n0, r2, aw]
        · rw [hr j hj] at c; cases c
      · rw [if_neg h0] at b
        obtain ⟨z, e, μ, r2, -, h⟩ := means_b2 hz l os n 2 (by omega) hlen hk2 (by omega) (by omega) (by omega) hoo (el (meL l os n)) 0 os.length (fun h => absurd h hb)
        rcases h with ⟨rfl, rfl, rfl, -⟩ | ⟨-, -, -, j, hj, c⟩
        rotate_left
        · rw [hr j hj] at c; cases c
        have fb := frac1_b (m := os.length) (by omega) (by omega)
        have hub := fun p => uV_b (os := os) fb hk2 (by omega) hlen os.length (Nat.le_refl _) hr p
        have hle : (2 * 2 + 3) * os.length ≤ (2 * 2 + 3) * 8 := Nat.mul_le_mul_left _ (by omega)
        have al : EX ip (nvR nv) (.call F.dendronref10_All [.d (.sl 3 (el (meL l os n))), .d (.sl 3 (el (tb n (gU (vl l) os n (Rat.divInt 1 (os.length : Int)) os.length))))] []) = some (.ret (.d (.bool true)) []) :=
          all10_ev hz n (1 + (2 * 2 + 3) * 8) (fun p => mV (vl l) os n p) _ (by simp) (by omega) (fun p hp => by
            rw [tb_ix hp]
            exact ⟨by rw [gU_v, uV_eq]; rfl, (gU_ok (hub p)).mono (by omega)⟩) (fun p hp => by
            have := hub p
            rw [uV_eq] at this
            exact this.mono (by omega)) (by omega) (by omega)
        have hgl : (tb n (gU (vl l) os n (Rat.divInt 1 (os.length : Int)) os.length)).length = n := by simp
        have h0' : ¬ ((os.length : Int) = 0) := by omega
        clear hub fb hb hr
        generalize (tb n (gU (vl l) os n (Rat.divInt 1 (os.length : Int)) os.length)) = a at *
        generalize meL l os n = x at *
        simp (disch := omega) [dendronlaw21_OrdersMeans, f1, r0, b, sz, n0, r2, aw, h0, h0', al, hgl]
end
end Go.Proofs.YtnmbpainnkdonaaDoor
