/- GameSums: the sum of two games. -/
import Derived.Test.YtgpaohcnnggepabDoorGs
import Derived.Test.YtgpaohcnnggepabDoorOc
set_option linter.unusedSimpArgs false
set_option linter.unusedVariables false
namespace Go.Proofs.YtgpaohcnnggepabDoor
open Go Go.Proofs.R
set_option maxRecDepth 10000
/-- The numbers of the sum of two games. -/
def suL (a b : List RQ) (m : Nat) : List RQ := tb m fun s => can (gv a s + gv b s)
theorem suL_v {a b : List RQ} {m s : Nat} (h : s < m) : gv (suL a b m) s = gv a s + gv b s := by
  unfold gv suL
  rw [tb_ix h, can_v]
  rfl
theorem suL_ok {a b : List RQ} {m K : Nat} (ha : ∀ r ∈ a, r.ok K) (hb : ∀ r ∈ b, r.ok K) (h1 : 1 ≤ K) (hm : a.length = m) (hm' : b.length = m) : ∀ r ∈ suL a b m, r.ok (2 * K + 1) := by
  intro r hr
  obtain ⟨s, hs, rfl⟩ := tb_mem hr
  exact can_ok (((gv_b ha h1 (s := s) (by omega)).add (gv_b hb h1 (s := s) (by omega))).mono (by omega))
theorem shS_sum {u v w : Nat → Rat} {n i : Nat} (hn : n ≤ 5) (hi : i < n) (h : ∀ s, s < 2 ^ n → w s = u s + v s) : ∀ s, s ≤ 2 ^ n → shS w n i s = shS u n i s + shS v n i s
  | 0, _ => by simp [shS, Rat.add_zero]
  | s + 1, hs => by
    have ih := shS_sum hn hi h s (by omega)
    have hp : 2 ^ n ≤ 2 ^ 5 := Nat.pow_le_pow_right (by decide) hn
    rw [shS, shS, shS, ih]
    split
    · rfl
    · rename_i c
      have c' : s.testBit i = false := by simpa using c
      obtain ⟨-, -, -, f4⟩ := set_facts ⟨n, by omega⟩ ⟨i, by omega⟩ ⟨s, by omega⟩ hi (by simp only; omega) c'
      simp only at f4
      rw [h _ f4, h s (by omega)]
      generalize wq (cntN s 5) (n - cntN s 5 - 1) n = x
      grind
theorem gsum_bad (a b : List RQ) (ha : a.length ≤ 33) (hb : b.length ≤ 33) (h : gmN a.length = none ∨ a.length ≠ b.length) {nv : R.Nv} : EX ip nv (.call F.game_Sum [.d (.sl 3 (el a)), .d (.sl 3 (el b))] []) = some (.ret (.tp [.d (.sl 3 []), .d (.int .i64 1)]) []) := by
  rw [S_call game_Sum.ip rfl]
  have p := players_ev (nv := nv) a ha
  cases hg : gmN a.length with
  | none =>
    rw [hg] at p
    simp only at p
    simp (disch := omega) [game_Sum, p]
  | some n =>
    rw [hg] at p
    simp only at p
    have h2 : a.length ≠ b.length := by
      rcases h with h | h
      · rw [hg] at h; cases h
      · exact h
    have h3 : ¬ (a.length : Int) = (b.length : Int) := by omega
    simp (disch := omega) [game_Sum, p, h2, h3]
theorem gsum_ev {nv : R.Nv} (hz : TzOk nv) (a b : List RQ) (n K : Nat) (ha : a.length ≤ 33) (hab : b.length = a.length) (hn : gmN a.length = some n) (hka : ∀ r ∈ a, r.ok K) (hkb : ∀ r ∈ b, r.ok K) (h1 : 1 ≤ K) (hK : K ≤ 100000) : EX ip nv (.call F.game_Sum [.d (.sl 3 (el a)), .d (.sl 3 (el b))] []) = some (.ret (.tp [.d (.sl 3 (el (suL a b a.length))), .d (.int .i64 0)]) []) := by
  rw [S_call game_Sum.ip rfl]
  have p := players_ev (nv := nv) a ha
  rw [hn] at p
  simp only at p
  obtain ⟨_, _, _, hr, -, rfl, rfl, rfl⟩ : ∃ z e μ, EX ip nv (.code (.loop [] [] game_Sum.b0) [(0, .d (.sl 3 (el a))), (1, .d (.sl 3 (el b))), (8, .own 8 3 0 0), (25, .d (.int .i64 (a.length : Int))), (26, .d (.int .i64 0))] [(8, ⟨0, false, []⟩)]) = some (.st z e μ) ∧ z ≠ .normal ∧
      z = .exit 0 ∧ e = [(0, .d (.sl 3 (el a))), (1, .d (.sl 3 (el b))), (8, .own 8 3 0 a.length), (25, .d (.int .i64 (a.length : Int))), (26, .d (.int .i64 (a.length : Int))), (27, .d (.bool false))] ∧ μ = [(8, ⟨0, false, el (suL a b a.length)⟩)] := by
    refine loop_n a.length (fun s e μ => ∃ x : List RQ, x = suL a b s ∧ e = [(0, .d (.sl 3 (el a))), (1, .d (.sl 3 (el b))), (8, .own 8 3 0 x.length), (25, .d (.int .i64 (a.length : Int))), (26, .d (.int .i64 (s : Int)))] ∧ μ = [(8, ⟨0, false, el x⟩)]) ?_ ?_ ⟨[], rfl, rfl, rfl⟩
    · rintro s e μ hs ⟨x, hx, rfl, rfl⟩
      have hxl : x.length = s := by rw [hx]; simp [suL]
      have hsb : s < b.length := by omega
      have ad : EX ip nv (.call F.ratio_Add [.d (.ag (ix a s).c), .d (.ag (ix b s).c)] []) = some (.ret (.d (.ag (can (gv a s + gv b s)).c)) []) := radd_ev hz (ix a s) (ix b s) (ixq_ok hka hs) (ixq_ok hkb hsb) h1 h1 (by omega)
      refine .inl ⟨_, _, ?_, x ++ [can (gv a s + gv b s)], by rw [hx, suL, suL, tb_succ], rfl, rfl⟩
      clear hx
      generalize can (gv a s + gv b s) = q at *
      simp (disch := omega) [game_Sum.b0, hs, hsb, ad]
    · rintro e μ ⟨x, hx, rfl, rfl⟩
      have hxl : x.length = a.length := by rw [hx]; simp [suL]
      rw [hxl]
      exact ⟨.exit 0, _, _, by simp [game_Sum.b0] <;> first | rfl | exact ⟨rfl, rfl⟩, by simp, rfl, rfl, by rw [hx]⟩
  have hsl : (suL a b a.length).length = a.length := by simp [suL]
  generalize suL a b a.length = q at *
  simp (disch := omega) [game_Sum, p, hab, hr, hsl]
theorem gs_b0 (a b : List RQ) (K : Nat) (m : Nat) (hm : m ≤ 33) (ha : a.length = m) (hb : b.length = m) (hka : ∀ r ∈ a, r.ok K) (hkb : ∀ r ∈ b, r.ok K) (h1 : 1 ≤ K) (hK : K ≤ 100000) :
    ∃ z e μ, EX ip nv1 (.code (.loop [] [] dendronlaw19_GameSums.b0) [(0, .d (.sl 3 (el a))), (1, .d (.sl 3 (el b))), (5, .d (.sl 3 (el (suL a b m)))), (7, .d (.int .i64 0))] []) = some (.st z e μ) ∧ z ≠ .normal ∧
    z = .exit 0 ∧ e = [(0, .d (.sl 3 (el a))), (1, .d (.sl 3 (el b))), (5, .d (.sl 3 (el (suL a b m)))), (7, .d (.int .i64 (m : Int))), (57, .d (.bool false))] ∧ μ = [] := by
  have hsl : (suL a b m).length = m := by simp [suL]
  have hsx : ∀ s, s < m → ix (suL a b m) s = can (gv a s + gv b s) := fun s hs => tb_ix hs
  generalize suL a b m = su at *
  refine loop_n m (fun s e μ => e = [(0, .d (.sl 3 (el a))), (1, .d (.sl 3 (el b))), (5, .d (.sl 3 (el su))), (7, .d (.int .i64 (s : Int)))] ∧ μ = []) ?_ ?_ ⟨rfl, rfl⟩
  · rintro s e μ hs ⟨rfl, rfl⟩
    have hsa : s < a.length := by omega
    have hsb : s < b.length := by omega
    have ad : EX ip nv1 (.call F.ratio_Add [.d (.ag (ix a s).c), .d (.ag (ix b s).c)] []) = some (.ret (.d (.ag (can (gv a s + gv b s)).c)) []) := radd_ev tzOk1 (ix a s) (ix b s) (ixq_ok hka hsa) (ixq_ok hkb hsb) h1 h1 (by omega)
    have vb := (gv_b hka h1 hsa).add (gv_b hkb h1 hsb)
    have rr := rright_c (nv := nv1) tzOk1 _ vb (by omega)
    have sm := rsame_ev tzOk1 (can (gv a s + gv b s)) (can (gv a s + gv b s)) (can_ok vb) (can_ok vb) (by omega) (by omega) (by omega)
    simp only [decide_true] at sm
    have hx := hsx s hs
    refine .inl ⟨_, _, ?_, rfl, rfl⟩
    clear hsx vb
    generalize can (gv a s + gv b s) = q at *
    simp (disch := omega) [dendronlaw19_GameSums.b0, hs, hsa, hsb, hsl, hx, ad, rr, sm]
  · rintro e μ ⟨rfl, rfl⟩
    exact ⟨.exit 0, _, [], by simp [dendronlaw19_GameSums.b0, hsl] <;> rfl, by simp, rfl, rfl, rfl⟩
theorem gs_b2 (x y z : List RQ) (n K : Nat) (hn : n ≤ 5) (f g : Nat → Rat) (hx : x = tb n fun i => can (f i)) (hy : y = tb n fun i => can (g i)) (hz : z = tb n fun i => can (f i + g i)) (hf : ∀ i, i < n → Bq K (f i)) (hg : ∀ i, i < n → Bq K (g i)) (h1 : 1 ≤ K) (hK : K ≤ 100000000) :
    ∃ w e μ, EX ip nv1 (.code (.loop [] [] dendronlaw19_GameSums.b2) [(8, .d (.sl 3 (el x))), (10, .d (.sl 3 (el y))), (12, .d (.sl 3 (el z))), (14, .d (.int .i64 0))] []) = some (.st w e μ) ∧ w ≠ .normal ∧
    w = .exit 2 ∧ e = [(8, .d (.sl 3 (el x))), (10, .d (.sl 3 (el y))), (12, .d (.sl 3 (el z))), (14, .d (.int .i64 (n : Int))), (125, .d (.bool false))] ∧ μ = [] := by
  have hxl : x.length = n := by rw [hx]; simp
  have hyl : y.length = n := by rw [hy]; simp
  have hzl : z.length = n := by rw [hz]; simp
  have hxi : ∀ i, i < n → ix x i = can (f i) := fun i hi => by rw [hx, tb_ix hi]
  have hyi : ∀ i, i < n → ix y i = can (g i) := fun i hi => by rw [hy, tb_ix hi]
  have hzi : ∀ i, i < n → ix z i = can (f i + g i) := fun i hi => by rw [hz, tb_ix hi]
  clear hx hy hz
  refine loop_n n (fun i e μ => e = [(8, .d (.sl 3 (el x))), (10, .d (.sl 3 (el y))), (12, .d (.sl 3 (el z))), (14, .d (.int .i64 (i : Int)))] ∧ μ = []) ?_ ?_ ⟨rfl, rfl⟩
  · rintro i e μ hi ⟨rfl, rfl⟩
    have ad := radd_ev tzOk1 (can (f i)) (can (g i)) (can_ok (hf i hi)) (can_ok (hg i hi)) h1 h1 (by omega)
    rw [can_v, can_v] at ad
    have vb := (hf i hi).add (hg i hi)
    have sm := rsame_ev tzOk1 (can (f i + g i)) (can (f i + g i)) (can_ok vb) (can_ok vb) (by omega) (by omega) (by omega)
    simp only [decide_true] at sm
    have e1 := hxi i hi
    have e2 := hyi i hi
    have e3 := hzi i hi
    refine .inl ⟨_, _, ?_, rfl, rfl⟩
    clear hxi hyi hzi vb
    generalize can (f i + g i) = p at *
    generalize can (f i) = p1 at *
    generalize can (g i) = p2 at *
    simp (disch := omega) [dendronlaw19_GameSums.b2, hi, hxl, hyl, hzl, e1, e2, e3, ad, sm]
  · rintro e μ ⟨rfl, rfl⟩
    exact ⟨.exit 2, _, [], by simp [dendronlaw19_GameSums.b2, hzl] <;> rfl, by simp, rfl, rfl, rfl⟩
theorem gameSums_ev (A B : List RQ) (hA : A.length ≤ maxLen) (hB : B.length ≤ maxLen) (hka : ∀ r ∈ A, r.ok maxLen) (hkb : ∀ r ∈ B, r.ok maxLen) : EX ip nv1 (.call F.dendronlaw19_GameSums [.d (.sl 3 (el A)), .d (.sl 3 (el B))] []) = some (.ret (.d (.bool true)) []) := by
  rw [S_call dendronlaw19_GameSums.ip rfl]
  have f1 := few19_ev (nv := nv1) A hA
  have f2 := few19_ev (nv := nv1) B hB
  have hka2 := fewR_ok hka
  have hkb2 := fewR_ok hkb
  have hla : (fewR A).length ≤ 33 := by rw [fewR_len]; omega
  have hlb : (fewR B).length ≤ 33 := by rw [fewR_len]; omega
  have aw := awake19_ev
  generalize fewR A = a at *
  generalize fewR B = b at *
  have sz := size19_ev (nv := nv1) a hla
  cases hn : gmN a.length with
  | none =>
    rw [hn] at sz
    simp only at sz
    have s := gsum_bad (nv := nv1) a b hla hlb (.inl hn)
    simp (disch := omega) [dendronlaw19_GameSums, f1, f2, s, sz, aw]
  | some n =>
    rw [hn] at sz
    simp only at sz
    have hn6 := gmN_lt ⟨a.length, by omega⟩ n hn
    have hlen := (gmN_some ⟨a.length, by omega⟩ ⟨n, hn6⟩ hn).1
    simp only at hlen
    have n0 : ¬ (n : Int) < 0 := by omega
    by_cases hab : a.length = b.length
    · have hba : b.length = a.length := hab.symm
      have s := gsum_ev tzOk1 a b n 2 hla hba hn hka2 hkb2 (by omega) (by omega)
      have hnb : gmN b.length = some n := by rw [hba]; exact hn
      have hns : gmN (suL a b a.length).length = some n := by simp [suL]; exact hn
      have okS := suL_ok hka2 hkb2 (by omega) rfl hba
      have sa := shap_ev a n 2 hla hn hka2 (by omega) (by omega)
      have sb := shap_ev b n 2 hlb hnb hkb2 (by omega) (by omega)
      have ss := shap_ev (suL a b a.length) n 5 (by simp [suL]; omega) hns okS (by omega) (by omega)
      obtain ⟨_, _, _, lp0, -, rfl, rfl, rfl⟩ := gs_b0 a b 2 a.length (by omega) rfl hba hka2 hkb2 (by omega) (by omega)
      have hadd : ∀ i, i < n → shV (gv (suL a b a.length)) n i = shV (gv a) n i + shV (gv b) n i := fun i hi =>
        shS_sum (by omega) hi (fun s hs => suL_v (by omega)) _ (Nat.le_refl _)
      have hz : shL (suL a b a.length) n = tb n fun i => can (shV (gv a) n i + shV (gv b) n i) := by
        unfold shL tb
        refine List.map_congr_left fun i hi => ?_
        rw [hadd i (List.mem_range.1 hi)]
      have hp : 2 ^ n ≤ 2 ^ 5 := Nat.pow_le_pow_right (by decide) (by omega)
      obtain ⟨_, _, _, lp2, -, rfl, rfl, rfl⟩ := gs_b2 (shL a n) (shL b n) (shL (suL a b a.length) n) n (1 + (2 * 2 + 22) * 32) (by omega) (shV (gv a) n) (shV (gv b) n) rfl rfl hz
        (fun i hi => shV_b (by omega) (fun s hs => gv_b hka2 (by omega) (by omega)) hi) (fun i hi => shV_b (by omega) (fun s hs => gv_b hkb2 (by omega) (by omega)) hi) (by omega) (by omega)
      have l1 : (shL a n).length = n := by simp [shL]
      have l2 : (shL b n).length = n := by simp [shL]
      have l3 : (shL (suL a b a.length) n).length = n := by simp [shL]
      have l4 : (suL a b a.length).length = a.length := by simp [suL]
      clear hz hadd okS hns
      generalize shL (suL a b a.length) n = zz at *
      generalize suL a b a.length = su at *
      generalize shL a n = xx at *
      generalize shL b n = yy at *
      simp (disch := omega) [dendronlaw19_GameSums, f1, f2, s, sz, aw, n0, hba, sa, sb, ss, lp0, lp2, l1, l2, l3, l4]
    · have s := gsum_bad (nv := nv1) a b hla hlb (.inr hab)
      have hab' : ¬ (a.length : Int) = (b.length : Int) := by omega
      simp (disch := omega) [dendronlaw19_GameSums, f1, f2, s, sz, aw, n0, hab, hab']
end Go.Proofs.YtgpaohcnnggepabDoor
