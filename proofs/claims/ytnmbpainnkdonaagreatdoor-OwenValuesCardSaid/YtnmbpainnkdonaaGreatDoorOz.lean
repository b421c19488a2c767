/- OwenValues: the law evaluated. -/
import Derived.Test.YtnmbpainnkdonaaGreatDoorOt
import Derived.Test.YtnmbpainnkdonaaGreatDoorNx
set_option linter.unusedSimpArgs false
set_option linter.unusedVariables false
namespace Go.Proofs.YtnmbpainnkdonaaGreatDoor
open Go Go.Proofs.R
set_option maxRecDepth 10000
theorem groups4 : ∀ n : Fin 5, allS n.val (okG n.val (allL 5041 (iot n.val))) 6 [] 0 = true := by decide +kernel
theorem all_ow {v : Nat → Rat} {n : Nat} {gs : List Int} (hn : n ≤ 5) (h : rightG gs n = true) (hr : ∀ o ∈ allL 5041 (iot n), rightB o n = true) : 0 < ((allL 5041 (iot n)).filter (togB gs)).length ∧ ∀ p, p < n → mV v ((allL 5041 (iot n)).filter (togB gs)) n p = owV v gs p := by
  have hl := rightG_len h
  have ho : orF n gs 0 = true := by rw [orF_right, h]
  rcases Nat.lt_or_ge n 5 with c | c
  · have hok := allS_ok gs 6 [] 0 (by omega) (Nat.two_pow_pos n) ho (groups4 ⟨n, c⟩)
    simp only [List.nil_append] at hok
    refine ⟨?_, fun p hp => mean_ow (by omega) h hr hok hp⟩
    unfold okG at hok
    simp only [Bool.and_eq_true] at hok
    exact blt_lt hok.1
  · obtain rfl : n = 5 := by omega
    rw [ord5_eq] at hr ⊢
    have hok := allS_ok gs 6 [] 0 (by omega) (by decide) ho groups5
    simp only [List.nil_append] at hok
    exact ⟨(mean_ow5 (v := v) (p := 0) h hr hok (by omega)).1, fun p hp => (mean_ow5 h hr hok hp).2⟩
section
variable {nv : R.Nv}
theorem tog_b2 (o gs : List Int) (i n g : Nat) (hol : o.length = n) (hn : n ≤ 5) (ho : ∀ x ∈ o, 0 ≤ x ∧ x < (n : Int)) (hi : i < gs.length) (hgi : ix gs i = (g : Int)) (hg : g < 4096) (hgs : gs.length ≤ 12) :
    ∃ z e μ, EX ip nv (.code (.loop [] [] dendronlaw22_together.b2) [(0, .d (.sl 1 (el o))), (1, .d (.sl 1 (el gs))), (5, .d (.int .i64 (i : Int))), (6, .d (.int .i64 (-1))), (7, .d (.int .i64 (-1))), (8, .d (.int .i64 0)), (9, .d (.int .i64 0))] []) = some (.st z e μ) ∧ z ≠ .normal ∧
    ∃ f l c : Nat, z = .exit 2 ∧ e = [(0, .d (.sl 1 (el o))), (1, .d (.sl 1 (el gs))), (5, .d (.int .i64 (i : Int))), (6, .d (.int .i64 ((f : Int) - 1))), (7, .d (.int .i64 ((l : Int) - 1))), (8, .d (.int .i64 (c : Int))), (9, .d (.int .i64 (o.length : Int))), (19, .d (.bool false))] ∧ μ = [] ∧ f ≤ n ∧ l ≤ n ∧ c ≤ n ∧ tgS g o 0 0 0 0 = decide ((l : Int) - 1 - ((f : Int) - 1) + 1 = (c : Int)) := by
  refine loop_n o.length (fun k e μ => ∃ f l c : Nat, e = [(0, .d (.sl 1 (el o))), (1, .d (.sl 1 (el gs))), (5, .d (.int .i64 (i : Int))), (6, .d (.int .i64 ((f : Int) - 1))), (7, .d (.int .i64 ((l : Int) - 1))), (8, .d (.int .i64 (c : Int))), (9, .d (.int .i64 (k : Int)))] ∧ μ = [] ∧ f ≤ k ∧ l ≤ k ∧ c ≤ k ∧ tgS g o 0 0 0 0 = tgS g (o.drop k) k f l c) ?_ ?_ ⟨0, 0, 0, rfl, rfl, by omega, by omega, by omega, rfl⟩
  · rintro k e μ hk ⟨f, l, c, rfl, rfl, hf, hl, hc, ht⟩
    have hm := ho _ (mem_ix hk)
    obtain ⟨x, hx⟩ : ∃ x : Nat, ix o k = (x : Int) := ⟨(ix o k).toNat, by omega⟩
    have ie := in_ev (nv := nv) g x (by omega) (by omega)
    rw [drop_ix hk, tgS, hx, Int.toNat_natCast] at ht
    cases hb : g.testBit x
    · rw [hb] at ie ht
      refine .inl ⟨_, _, ?_, f, l, c, rfl, rfl, by omega, by omega, by omega, by simpa using ht⟩
      clear ht
      simp (disch := omega) [dendronlaw22_together.b2, hk, hi, hgi, hx, ie]
    · rw [hb] at ie ht
      simp only [if_true] at ht
      by_cases hf0 : f = 0
      · subst hf0
        refine .inl ⟨_, _, ?_, k + 1, k + 1, c + 1, rfl, rfl, by omega, by omega, by omega, by simpa using ht⟩
        clear ht
        simp (disch := omega) [dendronlaw22_together.b2, hk, hi, hgi, hx, ie]
      · have h1 : ¬ ((f : Int) - 1 < 0) := by omega
        refine .inl ⟨_, _, ?_, f, k + 1, c + 1, rfl, rfl, by omega, by omega, by omega, by simpa [hf0] using ht⟩
        clear ht
        simp (disch := omega) [dendronlaw22_together.b2, hk, hi, hgi, hx, ie, h1]
  · rintro e μ ⟨f, l, c, rfl, rfl, hf, hl, hc, ht⟩
    rw [List.drop_of_length_le (Nat.le_refl _), tgS] at ht
    refine ⟨.exit 2, _, _, by simp [dendronlaw22_together.b2] <;> first | rfl | exact ⟨rfl, rfl⟩, by simp, f, l, c, rfl, rfl, rfl, by omega, by omega, by omega, ?_⟩
    rw [ht, Bool.eq_iff_iff]
    simp only [Nat.beq_eq, decide_eq_true_eq]
    omega
theorem together_ev (o gs : List Int) (n : Nat) (hol : o.length = n) (hn : n ≤ 5) (ho : ∀ x ∈ o, 0 ≤ x ∧ x < (n : Int)) (hg : ∀ g ∈ gs, 0 < g ∧ g < ((2 ^ n : Nat) : Int)) (hgs : gs.length ≤ 12) : EX ip nv (.call F.dendronlaw22_together [.d (.sl 1 (el o)), .d (.sl 1 (el gs))] []) = some (.ret (.d (.bool (togB gs o))) []) := by
  rw [S_call dendronlaw22_together.ip rfl]
  have hp := pow_lt (n := n) (by omega)
  obtain ⟨x, e, μ, hr, -, hq⟩ : ∃ x e μ, EX ip nv (.code (.loop [] [] dendronlaw22_together.b0) [(0, .d (.sl 1 (el o))), (1, .d (.sl 1 (el gs))), (5, .d (.int .i64 0))] []) = some (.st x e μ) ∧ x ≠ .normal ∧
      ((∃ v w, x = .exit 0 ∧ e = [(0, .d (.sl 1 (el o))), (1, .d (.sl 1 (el gs))), (5, v), (13, w)] ∧ μ = [] ∧ togB gs o = true) ∨ (x = .ret ∧ e = [(4, .d (.bool false))] ∧ μ = [] ∧ togB gs o = false)) := by
    refine loop_n gs.length (fun i e μ => e = [(0, .d (.sl 1 (el o))), (1, .d (.sl 1 (el gs))), (5, .d (.int .i64 (i : Int)))] ∧ μ = [] ∧ togB (gs.take i) o = true) ?_ ?_ ⟨rfl, rfl, rfl⟩
    · rintro i e μ hi ⟨rfl, rfl, ht⟩
      have hx := hg _ (mem_ix hi)
      obtain ⟨g, hgg⟩ : ∃ g : Nat, ix gs i = (g : Int) := ⟨(ix gs i).toNat, by omega⟩
      obtain ⟨_, _, _, b2, -, f, l, c, rfl, rfl, rfl, hf, hl, hc, htg⟩ := tog_b2 (nv := nv) o gs i n g hol hn ho hi hgg (by omega) hgs
      cases hb : tgS g o 0 0 0 0
      · have h1 : ¬ ((l : Int) - 1 - ((f : Int) - 1) + 1 = (c : Int)) := by rw [hb] at htg; simpa using htg.symm
        refine .inr ⟨.ret, _, _, ?_, by simp, .inr ⟨rfl, rfl, rfl, ?_⟩⟩
        · simp (disch := omega) [dendronlaw22_together.b0, hi, b2, h1]
        · unfold togB
          rw [List.all_eq_false]
          exact ⟨_, mem_ix hi, by rw [hgg, Int.toNat_natCast, hb]; simp⟩
      · have h1 : ((l : Int) - 1 - ((f : Int) - 1) + 1 = (c : Int)) := by rw [hb] at htg; simpa using htg.symm
        refine .inl ⟨_, _, ?_, rfl, rfl, ?_⟩
        · simp (disch := omega) [dendronlaw22_together.b0, hi, b2, h1]
        · unfold togB at ht ⊢
          rw [take_ix hi, List.all_append, ht]
          simp [hgg, hb]
    · rintro e μ ⟨rfl, rfl, ht⟩
      rw [List.take_of_length_le (Nat.le_refl _)] at ht
      exact ⟨_, _, _, by simp [dendronlaw22_together.b0] <;> first | rfl | exact ⟨rfl, rfl⟩, by simp, .inl ⟨_, _, rfl, rfl, rfl, ht⟩⟩
  rcases hq with ⟨v, w, rfl, rfl, rfl, h⟩ | ⟨rfl, rfl, rfl, h⟩
  · simp (disch := omega) [dendronlaw22_together, hr, h]
  · simp (disch := omega) [dendronlaw22_together, hr, h]
theorem ovl_b0 (l : List RQ) (gs : List Int) (os : List (List Int)) (dx : List D) (i6 i9 : Int) (n : Nat) (hn : n ≤ 5) (hos : os.length ≤ 1000) (hr : ∀ o ∈ os, rightB o n = true) (hg : ∀ g ∈ gs, 0 < g ∧ g < ((2 ^ n : Nat) : Int)) (hgs : gs.length ≤ 12) :
    ∃ z e μ, EX ip nv (.code (.loop [] [] dendronlaw22_OwenValues.b0) [(0, .d (.sl 3 (el l))), (1, .d (.sl 1 (el gs))), (5, .d (.sl 3 dx)), (6, .d (.int .i64 i6)), (8, .d (.sl 1 (el os))), (9, .d (.int .i64 i9)), (10, .own 10 1 0 0), (11, .d (.int .i64 0))] [(10, ⟨0, false, []⟩)]) = some (.st z e μ) ∧ z ≠ .normal ∧
    z = .exit 0 ∧ e = [(0, .d (.sl 3 (el l))), (1, .d (.sl 1 (el gs))), (5, .d (.sl 3 dx)), (6, .d (.int .i64 i6)), (8, .d (.sl 1 (el os))), (9, .d (.int .i64 i9)), (10, .own 10 1 0 (os.filter (togB gs)).length), (11, .d (.int .i64 (os.length : Int))), (52, .d (.bool false))] ∧ μ = [(10, ⟨0, false, el (os.filter (togB gs))⟩)] := by
  refine loop_n os.length (fun k e μ => ∃ sm, sm = (os.take k).filter (togB gs) ∧ e = [(0, .d (.sl 3 (el l))), (1, .d (.sl 1 (el gs))), (5, .d (.sl 3 dx)), (6, .d (.int .i64 i6)), (8, .d (.sl 1 (el os))), (9, .d (.int .i64 i9)), (10, .own 10 1 0 sm.length), (11, .d (.int .i64 (k : Int)))] ∧ μ = [(10, ⟨0, false, el sm⟩)]) ?_ ?_ ⟨[], by simp, rfl, rfl⟩
  · rintro k e μ hk ⟨sm, hsm, rfl, rfl⟩
    have hp := rightB_perm.1 (hr _ (os_ix hk))
    have hol := hp.length_eq
    simp at hol
    have hsl : sm.length ≤ 1000 := by rw [hsm]; exact Nat.le_trans (List.length_filter_le _ _) (by simp; omega)
    have te := together_ev (nv := nv) (ix os k) gs n hol hn (fun x hx => nums_mem.1 (hp.mem_iff.1 hx)) hg hgs
    have e1 : (os.take (k + 1)).filter (togB gs) = if togB gs (ix os k) = true then sm ++ [ix os k] else sm := by
      rw [take_ix hk, List.filter_append, ← hsm, List.filter_cons]
      split <;> simp
    generalize hoe : ix os k = o at *
    cases c : togB gs o
    · rw [if_neg (by rw [c]; simp)] at e1
      rw [c] at te
      refine .inl ⟨_, _, ?_, sm, e1.symm, rfl, rfl⟩
      clear e1 hsm c
      simp (disch := omega) [dendronlaw22_OwenValues.b0, hk, hoe, te]
    · rw [if_pos c] at e1
      rw [c] at te
      refine .inl ⟨_, _, ?_, sm ++ [o], e1.symm, rfl, rfl⟩
      clear e1 hsm c
      simp (disch := omega) [dendronlaw22_OwenValues.b0, hk, hoe, te]
  · rintro e μ ⟨sm, hsm, rfl, rfl⟩
    rw [List.take_of_length_le (Nat.le_refl _)] at hsm
    subst hsm
    exact ⟨.exit 0, _, _, by simp [dendronlaw22_OwenValues.b0] <;> first | rfl | exact ⟨rfl, rfl⟩, by simp, rfl, rfl, rfl⟩
end
theorem allL_in64' {n : Nat} (hn : n ≤ 5) : ∀ o ∈ allL 5041 (iot n), o.length ≤ 1000 ∧ ∀ x ∈ o, In64 x := by
  intro o ho
  obtain ⟨-, -, -, hall⟩ := all_right ⟨n, by omega⟩
  simp only at hall
  have hp := rightB_perm.1 (List.all_eq_true.1 hall o ho)
  have hl := hp.length_eq
  simp at hl
  refine ⟨by omega, fun x hx => ?_⟩
  obtain ⟨a, b⟩ := nums_mem.1 (hp.mem_iff.1 hx)
  exact ⟨by omega, by omega⟩
theorem owenValues_ev (L : List RQ) (G : List Int) (hL : L.length ≤ maxLen) (hG : G.length ≤ maxLen) (hk : ∀ r ∈ L, r.ok maxLen) : EX ip (nvR nv1) (.call F.dendronlaw22_OwenValues [.d (.sl 3 (el L)), .d (.sl 1 (el G))] []) = some (.ret (.d (.bool true)) []) := by
  rw [S_call dendronlaw22_OwenValues.ip rfl]
  have hz := tzOkR tzOk1
  have f1 := few19_ev (nv := nvR nv1) L hL
  have f2 := few22_ev (nv := nvR nv1) G hG
  have hk2 := fewR_ok hk
  have hl : (fewR L).length ≤ 33 := by rw [fewR_len]; omega
  have hg : (G.take 12).length ≤ 12 := by simp; omega
  have aw := awake22_ev (nv := nvR nv1)
  generalize fewR L = l at *
  generalize G.take 12 = g at *
  have sz := size19_ev (nv := nvR nv1) l hl
  cases hn : gmN l.length with
  | none =>
    rw [hn] at sz
    simp only at sz
    have q := upR (owen_bad l g hl hg (fun n h => by rw [hn] at h; cases h))
    simp (disch := omega) [dendronlaw22_OwenValues, f1, f2, q, sz, aw]
  | some n =>
    rw [hn] at sz
    simp only at sz
    have hn6 := gmN_lt ⟨l.length, by omega⟩ n hn
    have hlen := (gmN_some ⟨l.length, by omega⟩ ⟨n, hn6⟩ hn).1
    simp only at hlen
    have r := right22_ev (nv := nvR nv1) g n (by omega) (by omega)
    have n0 : ¬ (n : Int) < 0 := by omega
    cases h : rightG g n
    · rw [h] at r
      have q := upR (owen_bad l g hl hg (fun m hm => by rw [hn] at hm; cases hm; exact h))
      simp (disch := omega) [dendronlaw22_OwenValues, f1, f2, q, sz, n0, r, aw]
    · rw [h] at r
      have x := upR (owen_ev l g n 2 hl hg hn h hk2 (by omega) (by omega))
      obtain ⟨hd, hle, h0, hall⟩ := all_right ⟨n, by omega⟩
      simp only at hd hle h0 hall
      have al := all_ev (nv := nvR nv1) n (by omega) hd
      have hall' := List.all_eq_true.1 hall
      have hx := allL_in64' (n := n) (by omega)
      obtain ⟨hpos, hmo⟩ := all_ow (v := vl l) (by omega) h hall'
      obtain ⟨_, _, _, b0, -, rfl, rfl, rfl⟩ := ovl_b0 (nv := nvR nv1) l g (allL 5041 (iot n)) (el (owL l g n)) 0 0 n (by omega) (by omega) hall' (rightG_iff h).1 hg
      have sub : ∀ o ∈ (allL 5041 (iot n)).filter (togB g), o ∈ allL 5041 (iot n) := fun o ho => (List.mem_filter.1 ho).1
      have sl : ((allL 5041 (iot n)).filter (togB g)).length ≤ 1000 := Nat.le_trans (List.length_filter_le _ _) (by omega)
      have me := mean_ev hz l ((allL 5041 (iot n)).filter (togB g)) n 2 hl hn hk2 (by omega) (by omega) sl (fun o ho => (hx o (sub o ho)).1) (fun o ho => (hx o (sub o ho)).2) (fun j hj => hall' _ (sub _ (os_ix hj)))
      rw [if_neg (by omega)] at me
      have e : meL l ((allL 5041 (iot n)).filter (togB g)) n = owL l g n := tb_congr fun p hp => by rw [hmo p hp]; rfl
      rw [e] at me
      have hvb : ∀ s, s < 2 ^ n → Bq 2 (gv l s) := fun s hs => gv_b hk2 (by omega) (by omega)
      have hm := rightG_len h
      have vb : ∀ p, p < n → Bq (1 + (oT 2 * 32 + 3) * 5) (owV (gv l) g p) := fun p hp => by
        have := (oAt_b (gs := g) (K := 2) (by omega) (by omega) hvb (rightG_iff h).1 hp g.length (Nat.le_refl _)).1
        have hle : (oT 2 * 32 + 3) * g.length ≤ (oT 2 * 32 + 3) * 5 := Nat.mul_le_mul_left _ (by omega)
        exact this.mono (by omega)
      have a10 : EX ip (nvR nv1) (.call F.dendronref10_All [.d (.sl 3 (el (owL l g n))), .d (.sl 3 (el (owL l g n)))] []) = some (.ret (.d (.bool true)) []) :=
        all10_ev hz n (1 + (oT 2 * 32 + 3) * 5) (fun p => owV (gv l) g p) (owL l g n) (by simp [owL]) (by omega) (fun p hp => by
          have : ix (owL l g n) p = can (owV (gv l) g p) := tb_ix hp
          rw [this]
          exact ⟨can_v _, can_ok (vb p hp)⟩) vb (by decide) (by decide)
      clear e hmo hpos sub hx hall' hall hle hd h0 vb hvb
      generalize (allL 5041 (iot n)).filter (togB g) = sm at *
      generalize allL 5041 (iot n) = os at *
      generalize owL l g n = q at *
      simp (disch := omega) [dendronlaw22_OwenValues, f1, f2, x, sz, n0, r, aw, al, b0, me, a10]
end Go.Proofs.YtnmbpainnkdonaaGreatDoor
