/- GameAlikes: which two players add the same. -/
import Derived.Test.YtgpaohcnnggepabDoorGl
set_option linter.unusedSimpArgs false
set_option linter.unusedVariables false
namespace Go.Proofs.YtgpaohcnnggepabDoor
open Go Go.Proofs.R
set_option maxRecDepth 10000
section
variable {nv : R.Nv}
theorem alike_loop (hz : TzOk nv) (l : List RQ) (n i k K : Nat) (hn : n ≤ 5) (hi : i < n) (hkn : k < n) (hl : l.length = 2 ^ n) (hk : ∀ r ∈ l, r.ok K) (h1 : 1 ≤ K) (hK : K ≤ 100000) :
    ∃ z e μ, EX ip nv (.code (.loop [] [] game_Alike.b0) [(0, .d (.sl 3 (el l))), (1, .d (.int .i64 (i : Int))), (2, .d (.int .i64 (k : Int))), (36, .d (.int .i64 (l.length : Int))), (37, .d (.int .i64 0))] []) = some (.st z e μ) ∧ z ≠ .normal ∧ μ = [] ∧
    ((z = .exit 0 ∧ e = [(0, .d (.sl 3 (el l))), (1, .d (.int .i64 (i : Int))), (2, .d (.int .i64 (k : Int))), (36, .d (.int .i64 (l.length : Int))), (37, .d (.int .i64 (l.length : Int))), (38, .d (.bool false))] ∧ allB l.length (alikeAt (gv l) i k) = true) ∨ (z = .ret ∧ e = [(6, .d (.bool false))] ∧ allB l.length (alikeAt (gv l) i k) = false)) := by
  have hp : 2 ^ n ≤ 2 ^ 5 := Nat.pow_le_pow_right (by decide) hn
  refine loop_n l.length (fun s e μ => e = [(0, .d (.sl 3 (el l))), (1, .d (.int .i64 (i : Int))), (2, .d (.int .i64 (k : Int))), (36, .d (.int .i64 (l.length : Int))), (37, .d (.int .i64 (s : Int)))] ∧ μ = [] ∧ ∀ t, t < s → alikeAt (gv l) i k t = true) ?_ ?_ ⟨rfl, rfl, fun t h => by omega⟩
  · rintro s e μ hs ⟨rfl, rfl, ht⟩
    have hs32 : s < 32 := by omega
    have hl32 : l.length ≤ 32 := by omega
    obtain ⟨sh, ha⟩ := bit_facts (s := s) (i := i) (by omega) (by omega)
    obtain ⟨shk, hak⟩ := bit_facts (s := s) (i := k) (by omega) (by omega)
    cases c : s.testBit i
    · rw [c] at ha
      cases ck : s.testBit k
      · rw [ck] at hak
        obtain ⟨-, -, f3, f4⟩ := set_facts ⟨n, by omega⟩ ⟨i, by omega⟩ ⟨s, by omega⟩ hi (by simp only; omega) c
        obtain ⟨-, -, k3, k4⟩ := set_facts ⟨n, by omega⟩ ⟨k, by omega⟩ ⟨s, by omega⟩ hkn (by simp only; omega) ck
        simp only at f3 f4 k3 k4
        have s1 := i_shl1 (n := i) (by omega)
        have s2 := i_shl1 (n := k) (by omega)
        have ho := ibits_or (a := s) (b := 2 ^ i) (by omega) (by omega)
        have hok := ibits_or (a := s) (b := 2 ^ k) (by omega) (by omega)
        rw [f3] at ho
        rw [k3] at hok
        have f4' : s + 2 ^ i < l.length := by omega
        have k4' : s + 2 ^ k < l.length := by omega
        have sm : EX ip nv (.call F.ratio_Same [.d (.ag (ix l (s + 2 ^ i)).c), .d (.ag (ix l (s + 2 ^ k)).c)] []) = some (.ret (.d (.bool (decide (gv l (s + 2 ^ i) = gv l (s + 2 ^ k))))) []) := rsame_ev hz (ix l (s + 2 ^ i)) (ix l (s + 2 ^ k)) (ixq_ok hk f4') (ixq_ok hk k4') h1 h1 (by omega)
        have hna : alikeAt (gv l) i k s = decide (gv l (s + 2 ^ i) = gv l (s + 2 ^ k)) := by simp [alikeAt, c, ck]
        rw [← hna] at sm
        cases hb : alikeAt (gv l) i k s
        · have hf := allB_false hs hb
          rw [hb] at sm
          refine .inr ⟨.ret, [(6, .d (.bool false))], [], ?_, by simp, rfl, .inr ⟨rfl, rfl, hf⟩⟩
          clear hna hb hf ht f4 k4 hl hp c ck f3 k3
          generalize s + 2 ^ i = t at *
          generalize s + 2 ^ k = t2 at *
          generalize 2 ^ i = p5 at *
          generalize 2 ^ k = p6 at *
          generalize s / p5 = d at *
          generalize s / p6 = d2 at *
          have ha' : bitsD .and .i64 (d : Int) 1 = 0 := ha
          have hak' : bitsD .and .i64 (d2 : Int) 1 = 0 := hak
          simp (disch := omega) [game_Alike.b0, hs, sh, shk, ha', hak', s1, s2, ho, hok, sm, f4', k4', -vBin_shr, -vBin_shl]
        · rw [hb] at sm
          refine .inl ⟨_, _, ?_, rfl, rfl, fun t h => ?_⟩
          · clear hna hb ht f4 k4 hl hp c ck f3 k3
            generalize s + 2 ^ i = t at *
            generalize s + 2 ^ k = t2 at *
            generalize 2 ^ i = p5 at *
            generalize 2 ^ k = p6 at *
            generalize s / p5 = d at *
            generalize s / p6 = d2 at *
            have ha' : bitsD .and .i64 (d : Int) 1 = 0 := ha
            have hak' : bitsD .and .i64 (d2 : Int) 1 = 0 := hak
            simp (disch := omega) [game_Alike.b0, hs, sh, shk, ha', hak', s1, s2, ho, hok, sm, f4', k4', -vBin_shr, -vBin_shl]
          · by_cases e : t = s
            · rw [e]; exact hb
            · exact ht t (by omega)
      · rw [ck] at hak
        refine .inl ⟨_, _, ?_, rfl, rfl, fun t h => ?_⟩
        · clear hl hp ht
          generalize s / 2 ^ i = d at *
          generalize s / 2 ^ k = d2 at *
          have ha' : bitsD .and .i64 (d : Int) 1 = 0 := ha
          have hak' : bitsD .and .i64 (d2 : Int) 1 = 1 := hak
          simp (disch := omega) [game_Alike.b0, hs, sh, shk, ha', hak', -vBin_shr]
        · by_cases e : t = s
          · rw [e]; simp [alikeAt, ck]
          · exact ht t (by omega)
    · rw [c] at ha
      refine .inl ⟨_, _, ?_, rfl, rfl, fun t h => ?_⟩
      · clear hl hp ht
        generalize s / 2 ^ i = d at *
        have ha' : bitsD .and .i64 (d : Int) 1 = 1 := ha
        simp (disch := omega) [game_Alike.b0, hs, sh, ha', -vBin_shr]
      · by_cases e : t = s
        · rw [e]; simp [alikeAt, c]
        · exact ht t (by omega)
  · rintro e μ ⟨rfl, rfl, ht⟩
    exact ⟨.exit 0, _, [], by simp [game_Alike.b0] <;> rfl, by simp, rfl, .inl ⟨rfl, rfl, allB_iff.2 ht⟩⟩
theorem alike_bad (l : List RQ) (i k : Int) (hl : l.length ≤ 33) (h : ∀ n, gmN l.length = some n → i < 0 ∨ (n : Int) ≤ i ∨ k < 0 ∨ (n : Int) ≤ k) : EX ip nv (.call F.game_Alike [.d (.sl 3 (el l)), .d (.int .i64 i), .d (.int .i64 k)] []) = some (.ret (.d (.bool false)) []) := by
  rw [S_call game_Alike.ip rfl]
  have p := players_ev (nv := nv) l hl
  cases hg : gmN l.length with
  | none =>
    rw [hg] at p
    simp only at p
    simp (disch := omega) [game_Alike, p]
  | some n =>
    rw [hg] at p
    simp only at p
    have hh := h n hg
    by_cases h1 : i < 0
    · simp (disch := omega) [game_Alike, p, h1]
    · by_cases h2 : (n : Int) ≤ i
      · simp (disch := omega) [game_Alike, p, h1, h2]
      · by_cases h3 : k < 0
        · simp (disch := omega) [game_Alike, p, h1, h2, h3]
        · have h4 : (n : Int) ≤ k := by omega
          simp (disch := omega) [game_Alike, p, h1, h2, h3, h4]
theorem alike_ev (hz : TzOk nv) (l : List RQ) (n i k K : Nat) (hl : l.length ≤ 33) (hn : gmN l.length = some n) (hi : i < n) (hkn : k < n) (hk : ∀ r ∈ l, r.ok K) (h1 : 1 ≤ K) (hK : K ≤ 100000) : EX ip nv (.call F.game_Alike [.d (.sl 3 (el l)), .d (.int .i64 (i : Int)), .d (.int .i64 (k : Int))] []) = some (.ret (.d (.bool (allB l.length (alikeAt (gv l) i k)))) []) := by
  rw [S_call game_Alike.ip rfl]
  have p := players_ev (nv := nv) l hl
  rw [hn] at p
  simp only at p
  have hn6 := gmN_lt ⟨l.length, by omega⟩ n hn
  have hlen := (gmN_some ⟨l.length, by omega⟩ ⟨n, hn6⟩ hn).1
  simp only at hlen
  have g1 : ¬ (i : Int) < 0 := by omega
  have g2 : ¬ (n : Int) ≤ (i : Int) := by omega
  have g3 : ¬ (k : Int) < 0 := by omega
  have g4 : ¬ (n : Int) ≤ (k : Int) := by omega
  obtain ⟨z, e, μ, hr, -, rfl, ⟨rfl, rfl, hb⟩ | ⟨rfl, rfl, hb⟩⟩ := alike_loop hz l n i k K (by omega) hi hkn hlen hk h1 hK
  · rw [hb]
    simp (disch := omega) [game_Alike, p, g1, g2, g3, g4, hr]
  · rw [hb]
    simp (disch := omega) [game_Alike, p, g1, g2, g3, g4, hr]
theorem lalike_ev (hz : TzOk nv) (l : List RQ) (n i k K : Nat) (hn : n ≤ 5) (hi : i < n) (hkn : k < n) (hl : l.length = 2 ^ n) (hk : ∀ r ∈ l, r.ok K) (h1 : 1 ≤ K) (hK : K ≤ 100000) : EX ip nv (.call F.dendronlaw19_alike [.d (.sl 3 (el l)), .d (.int .i64 (i : Int)), .d (.int .i64 (k : Int))] []) = some (.ret (.d (.bool (allB l.length (alikeAt (gv l) i k)))) []) := by
  have hp : 2 ^ n ≤ 2 ^ 5 := Nat.pow_le_pow_right (by decide) hn
  rw [S_call dendronlaw19_alike.ip rfl]
  obtain ⟨z, e, μ, hr, -, rfl, ⟨rfl, rfl, hb⟩ | ⟨rfl, rfl, hb⟩⟩ : ∃ z e μ, EX ip nv (.code (.loop [] [] dendronlaw19_alike.b0) [(0, .d (.sl 3 (el l))), (1, .d (.int .i64 (i : Int))), (2, .d (.int .i64 (k : Int))), (7, .d (.int .i64 0))] []) = some (.st z e μ) ∧ z ≠ .normal ∧ μ = [] ∧
      ((z = .exit 0 ∧ e = [(0, .d (.sl 3 (el l))), (1, .d (.int .i64 (i : Int))), (2, .d (.int .i64 (k : Int))), (7, .d (.int .i64 (l.length : Int))), (11, .d (.bool false))] ∧ allB l.length (alikeAt (gv l) i k) = true) ∨ (z = .ret ∧ e = [(6, .d (.bool false))] ∧ allB l.length (alikeAt (gv l) i k) = false)) := by
    refine loop_n l.length (fun s e μ => e = [(0, .d (.sl 3 (el l))), (1, .d (.int .i64 (i : Int))), (2, .d (.int .i64 (k : Int))), (7, .d (.int .i64 (s : Int)))] ∧ μ = [] ∧ ∀ t, t < s → alikeAt (gv l) i k t = true) ?_ ?_ ⟨rfl, rfl, fun t h => by omega⟩
    · rintro s e μ hs ⟨rfl, rfl, ht⟩
      have hs32 : s < 32 := by omega
      have hl32 : l.length ≤ 32 := by omega
      have ie := in_ev (nv := nv) s i (by omega) (by omega)
      have ik := in_ev (nv := nv) s k (by omega) (by omega)
      cases c : s.testBit i
      · rw [c] at ie
        cases ck : s.testBit k
        · rw [ck] at ik
          obtain ⟨-, -, f3, f4⟩ := set_facts ⟨n, by omega⟩ ⟨i, by omega⟩ ⟨s, by omega⟩ hi (by simp only; omega) c
          obtain ⟨-, -, k3, k4⟩ := set_facts ⟨n, by omega⟩ ⟨k, by omega⟩ ⟨s, by omega⟩ hkn (by simp only; omega) ck
          simp only at f3 f4 k3 k4
          have tw := two19_ev (nv := nv) i (by omega)
          have tk := two19_ev (nv := nv) k (by omega)
          have f4' : s + 2 ^ i < l.length := by omega
          have k4' : s + 2 ^ k < l.length := by omega
          have sm : EX ip nv (.call F.ratio_Same [.d (.ag (ix l (s + 2 ^ i)).c), .d (.ag (ix l (s + 2 ^ k)).c)] []) = some (.ret (.d (.bool (decide (gv l (s + 2 ^ i) = gv l (s + 2 ^ k))))) []) := rsame_ev hz (ix l (s + 2 ^ i)) (ix l (s + 2 ^ k)) (ixq_ok hk f4') (ixq_ok hk k4') h1 h1 (by omega)
          have hna : alikeAt (gv l) i k s = decide (gv l (s + 2 ^ i) = gv l (s + 2 ^ k)) := by simp [alikeAt, c, ck]
          rw [← hna] at sm
          cases hb : alikeAt (gv l) i k s
          · have hf := allB_false hs hb
            rw [hb] at sm
            refine .inr ⟨.ret, [(6, .d (.bool false))], [], ?_, by simp, rfl, .inr ⟨rfl, rfl, hf⟩⟩
            clear hna hb hf ht f4 k4 hl hp c ck f3 k3
            generalize 2 ^ i = p5 at *
            generalize 2 ^ k = p6 at *
            simp (disch := omega) [dendronlaw19_alike.b0, hs, ie, ik, tw, tk, sm, f4', k4']
          · rw [hb] at sm
            refine .inl ⟨_, _, ?_, rfl, rfl, fun t h => ?_⟩
            · clear hna hb ht f4 k4 hl hp c ck f3 k3
              generalize 2 ^ i = p5 at *
              generalize 2 ^ k = p6 at *
              simp (disch := omega) [dendronlaw19_alike.b0, hs, ie, ik, tw, tk, sm, f4', k4']
            · by_cases e : t = s
              · rw [e]; exact hb
              · exact ht t (by omega)
        · rw [ck] at ik
          refine .inl ⟨_, _, ?_, rfl, rfl, fun t h => ?_⟩
          · simp (disch := omega) [dendronlaw19_alike.b0, hs, ie, ik]
          · by_cases e : t = s
            · rw [e]; simp [alikeAt, ck]
            · exact ht t (by omega)
      · rw [c] at ie
        refine .inl ⟨_, _, ?_, rfl, rfl, fun t h => ?_⟩
        · simp (disch := omega) [dendronlaw19_alike.b0, hs, ie]
        · by_cases e : t = s
          · rw [e]; simp [alikeAt, c]
          · exact ht t (by omega)
    · rintro e μ ⟨rfl, rfl, ht⟩
      exact ⟨.exit 0, _, [], by simp [dendronlaw19_alike.b0] <;> rfl, by simp, rfl, .inl ⟨rfl, rfl, allB_iff.2 ht⟩⟩
  · rw [hb]
    simp (disch := omega) [dendronlaw19_alike, hr]
  · rw [hb]
    simp (disch := omega) [dendronlaw19_alike, hr]
end
theorem gameAlikes_ev (L : List RQ) (i k : Int) (hL : L.length ≤ maxLen) (hk : ∀ r ∈ L, r.ok maxLen) : EX ip nv1 (.call F.dendronlaw19_GameAlikes [.d (.sl 3 (el L)), .d (.int .i64 i), .d (.int .i64 k)] []) = some (.ret (.d (.bool true)) []) := by
  rw [S_call dendronlaw19_GameAlikes.ip rfl]
  have f1 := few19_ev (nv := nv1) L hL
  have hk2 := fewR_ok hk
  have hl : (fewR L).length ≤ 33 := by rw [fewR_len]; omega
  have aw := awake19_ev
  generalize fewR L = l at *
  have sz := size19_ev (nv := nv1) l hl
  cases hn : gmN l.length with
  | none =>
    rw [hn] at sz
    simp only at sz
    have b := alike_bad (nv := nv1) l i k hl (fun n h => by rw [hn] at h; cases h)
    simp (disch := omega) [dendronlaw19_GameAlikes, f1, b, sz, aw]
  | some n =>
    rw [hn] at sz
    simp only at sz
    have hn6 := gmN_lt ⟨l.length, by omega⟩ n hn
    have hlen := (gmN_some ⟨l.length, by omega⟩ ⟨n, hn6⟩ hn).1
    simp only at hlen
    have n0 : ¬ (n : Int) < 0 := by omega
    by_cases h : i < 0 ∨ (n : Int) ≤ i ∨ k < 0 ∨ (n : Int) ≤ k
    · have b := alike_bad (nv := nv1) l i k hl (fun m hm => by rw [hn] at hm; cases hm; exact h)
      by_cases h1 : i < 0
      · simp (disch := omega) [dendronlaw19_GameAlikes, f1, b, sz, aw, n0, h1]
      · by_cases h2 : (n : Int) ≤ i
        · simp (disch := omega) [dendronlaw19_GameAlikes, f1, b, sz, aw, n0, h1, h2]
        · by_cases h3 : k < 0
          · simp (disch := omega) [dendronlaw19_GameAlikes, f1, b, sz, aw, n0, h1, h2, h3]
          · have h4 : (n : Int) ≤ k := by omega
            simp (disch := omega) [dendronlaw19_GameAlikes, f1, b, sz, aw, n0, h1, h2, h3, h4]
    · obtain ⟨a, rfl⟩ : ∃ a : Nat, i = (a : Int) := ⟨i.toNat, by omega⟩
      obtain ⟨b, rfl⟩ : ∃ b : Nat, k = (b : Int) := ⟨k.toNat, by omega⟩
      have han : a < n := by omega
      have hbn : b < n := by omega
      have p := alike_ev tzOk1 l n a b 2 hl hn han hbn hk2 (by omega) (by omega)
      have q := lalike_ev tzOk1 l n a b 2 (by omega) han hbn hlen hk2 (by omega) (by omega)
      have sh := shap_ev l n 2 hl hn hk2 (by omega) (by omega)
      have hsl : (shL l n).length = n := by simp [shL]
      have hx : ix (shL l n) a = can (shV (gv l) n a) := tb_ix han
      have hy : ix (shL l n) b = can (shV (gv l) n b) := tb_ix hbn
      have hva : Bq (1 + (2 * 2 + 22) * 32) (shV (gv l) n a) := shV_b (by omega) (fun s hs => gv_b hk2 (by omega) (by omega)) han
      have hvb : Bq (1 + (2 * 2 + 22) * 32) (shV (gv l) n b) := shV_b (by omega) (fun s hs => gv_b hk2 (by omega) (by omega)) hbn
      have sm := rsame_ev tzOk1 (can (shV (gv l) n a)) (can (shV (gv l) n b)) (can_ok hva) (can_ok hvb) (by omega) (by omega) (by omega)
      rw [can_v, can_v] at sm
      have h1 : ¬ (a : Int) < 0 := by omega
      have h2 : ¬ (n : Int) ≤ (a : Int) := by omega
      have h3 : ¬ (b : Int) < 0 := by omega
      have h4 : ¬ (n : Int) ≤ (b : Int) := by omega
      cases hb : allB l.length (alikeAt (gv l) a b)
      · rw [hb] at p q
        generalize shL l n = sl at *
        simp (disch := omega) [dendronlaw19_GameAlikes, f1, p, q, sz, aw, n0, h1, h2, h3, h4, sh, hsl]
      · rw [hb] at p q
        rw [hlen] at hb
        have he := alike_same (by omega) han hbn hb
        rw [he] at sm hx
        simp only [decide_true] at sm
        clear hva hvb he
        generalize shL l n = sl at *
        generalize can (shV (gv l) n b) = q0 at *
        simp (disch := omega) [dendronlaw19_GameAlikes, f1, p, q, sz, aw, n0, h1, h2, h3, h4, sh, hsl, hx, hy, sm]
end Go.Proofs.YtgpaohcnnggepabDoor
