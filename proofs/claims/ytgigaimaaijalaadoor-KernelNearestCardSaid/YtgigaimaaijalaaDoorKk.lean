/- KernelNearest: the law. -/
import Derived.Test.YtgigaimaaijalaaDoorKi
set_option linter.unusedSimpArgs false
set_option linter.unusedVariables false
namespace Go.Proofs.YtgigaimaaijalaaDoor
open Go Go.Proofs.R
set_option maxRecDepth 10000
theorem kV_len {l x : List RQ} {C : Nat} (h : x.length = C) : (kV l C x).length = C + 1 := by unfold kV; simp [h]
theorem kV_ix {l x : List RQ} {C i : Nat} (h : x.length = C) (hi : i < C) : ix (kV l C x) i = ix x i := by unfold kV; exact ix_app (by omega)
theorem kV_last {l x : List RQ} {C : Nat} (h : x.length = C) : ix (kV l C x) C = can (kT l - sm C (fun i => (ix x i).v)) := by unfold kV; subst h; exact ix_last
theorem kV_loss {l x : List RQ} {C : Nat} (h : x.length = C) (R : Nat) : sV l (kV l C x) (C + 1) R = lossF R C (kA C) (kB l C) (kW C) (fun i => (ix x i).v) := by
  rw [sV_loss l (kV l C x) C ?_ R]
  · unfold lossF
    apply sm_congr
    intro i _
    have e : sm C (fun k => kA C i k * (ix (kV l C x) k).v) = sm C (fun k => kA C i k * (ix x k).v) := sm_congr fun k hk => by rw [kV_ix h hk]
    simp only [e]
  · rw [kV_last h, can_v]
    congr 1
    exact sm_congr fun i hi => by rw [kV_ix h hi]
theorem kV_ok {l x : List RQ} {C k : Nat} (hl : ∀ r ∈ l, r.ok 2) (h2 : 2 ≤ l.length) (h : x.length = C) (hC : C ≤ 4) (hx : ∀ r ∈ x, r.ok k) (hk : 2 ≤ k) : ∀ r ∈ kV l C x, r.ok (5 * k + 11) := by
  intro r hr
  unfold kV at hr
  have hs := sm_b (n := C) (k := k) (f := fun i => (ix x i).v) (fun i hi => Bq.v (ixq_ok hx (by omega)) (by omega)) C (Nat.le_refl _)
  have hc4 : C * (k + 1) ≤ 4 * (k + 1) := Nat.mul_le_mul_right _ hC
  rcases List.mem_append.1 hr with hr | hr
  · obtain ⟨h1, h3, h4, h5⟩ := hx r hr
    exact ⟨h1, h3, by omega, by omega⟩
  · rw [List.mem_singleton.1 hr]
    exact can_ok (((kT_b hl h2).sub hs).mono (by omega))
/-- No other numbers come as near. -/
theorem k_strict {l y : List RQ} {C : Nat} (h1 : 1 ≤ C) (hC : C ≤ 4) (hyl : y.length = C) (hne : ∃ k, k < C ∧ (ix y k).v ≠ (ix (kX l C) k).v) : sV l (kV l C (kX l C)) (C + 1) (2 ^ (C + 1) - 2) < sV l (kV l C y) (C + 1) (2 ^ (C + 1) - 2) := by
  rw [kV_loss (kX_len l h1), kV_loss hyl]
  refine least_strict (kW_nn hC) (fun j hj => kX_eq l h1 hC j hj) (fun z hz => ?_) hne
  have hk := (nrm_ker (R := 2 ^ (C + 1) - 2) (n := C) (A := kA C) (w := kW C) (kW_nn hC) z).2 hz
  intro k hkC
  rw [kJ_turn hC (x := z) (c := fun _ => 0) hk hkC]
  exact sm_zero fun i _ => by grind
theorem k_same {l x y : List RQ} {C : Nat} (hxl : x.length = C) (hyl : y.length = C) (he : ∀ k, k < C → (ix x k).v = (ix y k).v) (R : Nat) : sV l (kV l C x) (C + 1) R = sV l (kV l C y) (C + 1) R := by
  rw [kV_loss hxl, kV_loss hyl]
  unfold lossF
  apply sm_congr
  intro i _
  have e : sm C (fun k => kA C i k * (ix x k).v) = sm C (fun k => kA C i k * (ix y k).v) := sm_congr fun k hk => by rw [he k hk]
  simp only [e]
section
variable {nv : R.Nv}
theorem near_b0 (hz : TzOk nv) (v y : List RQ) (n : Nat) (B9 B11 : Blk) (p : Nat) {k : Nat} (hv : ∀ r ∈ v, r.ok k) (hy : ∀ r ∈ y, r.ok k) (hk : 1 ≤ k) (hk1 : k ≤ 1000000) (hvl : v.length = n) (hyl : y.length = n) (hn : n ≤ 1000) :
    ∃ z e μ, EX ip nv (.code (.loop [] [] dendronlaw20_KernelNearest.b0) [(5, .d (.int .i64 (n : Int))), (6, .d (.sl 3 (el v))), (8, .own 44 3 0 n), (9, .ptr 9 0), (10, .d (.int .i64 0)), (11, .ptr 11 0), (12, .d (.int .i64 0)), (13, .d (.bool true)), (14, .d (.int .i64 0))] [(9, B9), (11, B11), (44, ⟨p, false, el y⟩)]) = some (.st z e μ) ∧ z ≠ .normal ∧
      z = .exit 0 ∧ e = [(5, .d (.int .i64 (n : Int))), (6, .d (.sl 3 (el v))), (8, .own 44 3 0 n), (9, .ptr 9 0), (10, .d (.int .i64 0)), (11, .ptr 11 0), (12, .d (.int .i64 0)), (13, .d (.bool (decide (∀ i, i < n → (ix v i).v = (ix y i).v)))), (14, .d (.int .i64 (n : Int))), (80, .d (.bool false))] ∧ μ = [(9, B9), (11, B11), (44, ⟨p, false, el y⟩)] := by
  refine loop_n n (fun i e μ => ∃ b : Bool, b = decide (∀ j, j < i → (ix v j).v = (ix y j).v) ∧ e = [(5, .d (.int .i64 (n : Int))), (6, .d (.sl 3 (el v))), (8, .own 44 3 0 n), (9, .ptr 9 0), (10, .d (.int .i64 0)), (11, .ptr 11 0), (12, .d (.int .i64 0)), (13, .d (.bool b)), (14, .d (.int .i64 (i : Int)))] ∧ μ = [(9, B9), (11, B11), (44, ⟨p, false, el y⟩)]) ?_ ?_ ⟨true, (decide_eq_true fun j h => by omega).symm, rfl, rfl⟩
  · rintro i e μ hi ⟨b, hb, rfl, rfl⟩
    have h1 : i < v.length := by omega
    have h2 : i < y.length := by omega
    have sm := rsame_ev (nv := nv) hz (ix v i) (ix y i) (ixq_ok hv h1) (ixq_ok hy h2) hk hk (by omega)
    refine .inl ⟨_, _, ?_, b && decide ((ix v i).v = (ix y i).v), ?_, rfl, rfl⟩
    · generalize decide ((ix v i).v = (ix y i).v) = c at *
      generalize hvi : ix v i = vi at *
      generalize hyi : ix y i = yi at *
      clear hb
      cases b <;> simp (disch := omega) [-vIA_o, dendronlaw20_KernelNearest.b0, hi, h1, h2, hvi, hyi, sm, hyl, hvl]
    · rw [hb, ← Bool.decide_and]
      apply decide_eq_decide.2
      constructor
      · rintro ⟨h, h'⟩ j hj
        by_cases e : j = i
        · rw [e]; exact h'
        · exact h j (by omega)
      · exact fun h => ⟨fun j hj => h j (by omega), h i (by omega)⟩
  · rintro e μ ⟨b, hb, rfl, rfl⟩
    subst hb
    exact ⟨.exit 0, _, _, by simp [dendronlaw20_KernelNearest.b0] <;> first | rfl | exact ⟨rfl, rfl⟩, by simp, rfl, rfl, rfl⟩
theorem nearest_ev (hz : TzOk nv) (a b : List RQ) (hal : a.length ≤ maxLen) (hbl : b.length ≤ maxLen) (ha : ∀ r ∈ a, r.ok maxLen) (hb : ∀ r ∈ b, r.ok maxLen) :
    EX ip nv (.call F.dendronlaw20_KernelNearest [.d (.sl 3 (el a)), .d (.sl 3 (el b))] []) = some (.ret (.d (.bool true)) []) := by
  rw [S_call dendronlaw20_KernelNearest.ip rfl]
  have f1 := few19_ev (nv := nv) a hal
  have f2 := few19_ev (nv := nv) b hbl
  have hl := fewR_ok ha
  have hy := fewR_ok hb
  have hl33 : (fewR a).length ≤ 33 := by rw [fewR_len]; omega
  have hy33 : (fewR b).length ≤ 33 := by rw [fewR_len]; omega
  have aw := kawake (nv := nv) hz
  generalize fewR a = l at *
  generalize fewR b = y at *
  clear ha hb hal hbl
  have sz := size19_ev (nv := nv) l hl33
  by_cases hg : ∃ C, 1 ≤ C ∧ gmN l.length = some (C + 1) ∧ C + 1 ≤ y.length
  · obtain ⟨C, h1, hg, hyC⟩ := hg
    have hn6 := gmN_lt ⟨l.length, by omega⟩ (C + 1) hg
    have hC : C ≤ 4 := by omega
    have hlen := (gmN_some ⟨l.length, by omega⟩ ⟨C + 1, hn6⟩ hg).1
    simp only at hlen
    have hR := kR_pos h1
    rw [hg] at sz
    simp only at sz
    have va := values_ev (nv := nv) hz l C h1 hC hl33 hg hl
    have hxl := kX_len l h1
    have hxok := kX_ok hl h1 hC hlen
    have htl : (y.take C).length = C := by simp; omega
    have htok : ∀ r ∈ y.take C, r.ok 2 := fun r hr => hy r (List.mem_of_mem_take hr)
    have hVl := kV_len (l := l) hxl
    have hWl := kV_len (l := l) htl
    have hVok := kV_ok hl (by omega) hxl hC hxok (by decide)
    have hWok := kV_ok hl (by omega) htl hC htok (by decide)
    have hWok2 : ∀ r ∈ kV l C (y.take C), r.ok (5 * 3000 + 11) := fun r hr => by
      obtain ⟨q1, q2, q3, q4⟩ := hWok r hr
      exact ⟨q1, q2, by omega, by omega⟩
    have su := ksum_ev (nv := nv) hz (y.take C) 2 htok (by decide) (by decide) (by omega)
    rw [htl] at su
    have hsb := (sm_b (n := C) (k := 2) (f := fun i => (ix (y.take C) i).v) (fun i hi => Bq.v (ixq_ok htok (by omega)) (by decide)) C (Nat.le_refl _)).mono (show 1 + C * (2 + 1) ≤ 20 by omega)
    have h0 : 0 < l.length := by omega
    have hL : l.length - 1 < l.length := by omega
    have s1 := rsub_ev (nv := nv) hz (ix l (l.length - 1)) (ix l 0) (ixq_ok hl hL) (ixq_ok hl h0) (by decide) (by decide) (by decide)
    rw [show (ix l (l.length - 1)).v - (ix l 0).v = kT l from rfl] at s1
    have s2 := rsub_ev (nv := nv) hz (can (kT l)) (can (sm C (fun i => (ix (y.take C) i).v))) (can_ok (kT_b hl (by omega))) (can_ok hsb) (by decide) (by decide) (by decide)
    rw [can_v, can_v] at s2
    have d1 := kdist_ev (nv := nv) hz l (kV l C (kX l C)) (C + 1) hl33 hg (by omega) hVl (b := 15011) (by decide) (by decide) hl hVok
    have d2 := kdist_ev (nv := nv) hz l (kV l C (y.take C)) (C + 1) hl33 hg (by omega) hWl (b := 15011) (by decide) (by decide) hl hWok2
    have hlR : l.length - 2 = 2 ^ (C + 1) - 2 := by omega
    rw [hlR] at d1 d2
    have hp25 : 2 ^ (C + 1) ≤ 2 ^ 5 := Nat.pow_le_pow_right (by decide) (by omega)
    have b1 := (sV_b (by omega) hlen hVl (b := 15011) (by decide) (by decide) hl hVok (2 ^ (C + 1) - 2) (by omega)).mono (show 1 + (2 * (10 + 5 * 15011) + 5) * (2 ^ (C + 1) - 2) ≤ 5000000 by omega)
    have b2 := (sV_b (by omega) hlen hWl (b := 15011) (by decide) (by decide) hl hWok2 (2 ^ (C + 1) - 2) (by omega)).mono (show 1 + (2 * (10 + 5 * 15011) + 5) * (2 ^ (C + 1) - 2) ≤ 5000000 by omega)
    have cm := rcmp_ev (nv := nv) hz (can (sV l (kV l C (kX l C)) (C + 1) (2 ^ (C + 1) - 2))) (can (sV l (kV l C (y.take C)) (C + 1) (2 ^ (C + 1) - 2))) (can_ok b1) (can_ok b2) (by decide) (by decide) (by decide)
    rw [can_v, can_v] at cm
    -- same numbers just if the first ones are
    have hdec : (∀ i, i < C + 1 → (ix (kV l C (kX l C)) i).v = (ix (kV l C (y.take C)) i).v) ↔ ∀ i, i < C → (ix (kX l C) i).v = (ix (y.take C) i).v := by
      constructor
      · intro h i hi
        have := h i (by omega)
        rwa [kV_ix hxl hi, kV_ix htl hi] at this
      · intro h i hi
        by_cases e : i = C
        · rw [e, kV_last hxl, kV_last htl, can_v, can_v]
          congr 1
          exact sm_congr h
        · rw [kV_ix hxl (by omega), kV_ix htl (by omega)]; exact h i (by omega)
    obtain ⟨_, _, _, lp, -, rfl, rfl, rfl⟩ := near_b0 (nv := nv) hz (kV l C (kX l C)) (kV l C (y.take C)) (C + 1) ⟨0, true, (can (sV l (kV l C (kX l C)) (C + 1) (2 ^ (C + 1) - 2))).c⟩ ⟨0, true, (can (sV l (kV l C (y.take C)) (C + 1) (2 ^ (C + 1) - 2))).c⟩ ((C + 1) * 3) hVok hWok2 (by decide) (by decide) hVl hWl (by omega)
    have e3 : ((C + 1 : Nat) : Int) = (C : Int) + 1 := by omega
    rw [e3] at sz lp
    have eL : (l.length : Int) - 1 = ((l.length - 1 : Nat) : Int) := by omega
    have n1 : ¬ (C : Int) + 1 < 2 := by omega
    have n2 : ¬ (y.length : Int) < (C : Int) + 1 := by omega
    have tkt : List.take C (List.take C y) = List.take C y := List.take_of_length_le (by omega)
    have kvf : List.take C y ++ [can (kT l - sm C (fun i => (ix (List.take C y) i).v))] = kV l C (List.take C y) := rfl
    have tkk : List.take (C + 1) (kV l C (List.take C y)) = kV l C (List.take C y) := List.take_of_length_le (by omega)
    by_cases hs : ∀ i, i < C → (ix (kX l C) i).v = (ix (y.take C) i).v
    · rw [decide_eq_true (hdec.2 hs)] at lp
      rw [show cmpQ (sV l (kV l C (kX l C)) (C + 1) (2 ^ (C + 1) - 2)) (sV l (kV l C (y.take C)) (C + 1) (2 ^ (C + 1) - 2)) = 0 by rw [k_same hxl htl hs]; unfold cmpQ; rw [if_neg Rat.lt_irrefl, if_neg Rat.lt_irrefl]] at cm
      simp (disch := omega) [-vIA_o, dendronlaw20_KernelNearest, f1, f2, sz, n1, n2, va, su, s1, s2, d1, d2, cm, lp, aw, eL, hL, h0, hVl, hWl, htl, tkt, kvf, tkk]
    · rw [decide_eq_false fun h => hs (hdec.1 h)] at lp
      have hlt : sV l (kV l C (kX l C)) (C + 1) (2 ^ (C + 1) - 2) < sV l (kV l C (y.take C)) (C + 1) (2 ^ (C + 1) - 2) := k_strict h1 hC htl (Classical.byContradiction fun hno => hs fun i hi => Classical.byContradiction fun hne => hno ⟨i, hi, fun e => hne e.symm⟩)
      rw [show cmpQ (sV l (kV l C (kX l C)) (C + 1) (2 ^ (C + 1) - 2)) (sV l (kV l C (y.take C)) (C + 1) (2 ^ (C + 1) - 2)) = -1 from if_pos hlt] at cm
      simp (disch := omega) [-vIA_o, dendronlaw20_KernelNearest, f1, f2, sz, n1, n2, va, su, s1, s2, d1, d2, cm, lp, aw, eL, hL, h0, hVl, hWl, htl, tkt, kvf, tkk]
  · have : ∃ n : Int, EX ip nv (.call F.dendronlaw19_Size [.d (.sl 3 (el l))] []) = some (.ret (.d (.int .i64 n)) []) ∧ (n < 2 ∨ (y.length : Int) < n) := by
      refine ⟨_, sz, ?_⟩
      cases hn : gmN l.length with
      | none => left; simp only; decide
      | some m =>
        simp only
        by_cases hm : m < 2
        · left; omega
        · right
          have : ¬ (m ≤ y.length) := fun h => hg ⟨m - 1, by omega, by rw [hn]; congr 1; omega, by omega⟩
          omega
    obtain ⟨n, sn, hn⟩ := this
    by_cases hn2 : n < 2
    · simp (disch := omega) [-vIA_o, dendronlaw20_KernelNearest, f1, f2, sn, hn2, aw]
    · have hyn : (y.length : Int) < n := by omega
      simp (disch := omega) [-vIA_o, dendronlaw20_KernelNearest, f1, f2, sn, hn2, hyn, aw]
end
end Go.Proofs.YtgigaimaaijalaaDoor
