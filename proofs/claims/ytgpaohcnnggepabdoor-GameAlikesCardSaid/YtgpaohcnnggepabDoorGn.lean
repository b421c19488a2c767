/- Who adds nothing, and who add the same: Null, Alike. -/
import Derived.Test.YtgpaohcnnggepabDoorGs
set_option linter.unusedSimpArgs false
set_option linter.unusedVariables false
namespace Go.Proofs.YtgpaohcnnggepabDoor
open Go Go.Proofs.R
set_option maxRecDepth 10000
/-- What holds at every number below one. -/
def allB (m : Nat) (f : Nat → Bool) : Bool := (List.range m).all f
theorem allB_iff {m : Nat} {f : Nat → Bool} : allB m f = true ↔ ∀ s, s < m → f s = true := by simp [allB]
theorem allB_false {m s : Nat} {f : Nat → Bool} (h : s < m) (hf : f s = false) : allB m f = false := by
  cases hb : allB m f with
  | false => rfl
  | true => rw [allB_iff] at hb; rw [hb s h] at hf; cases hf
def nullAt (v : Nat → Rat) (i s : Nat) : Bool := s.testBit i || decide (v (s + 2 ^ i) = v s)
def alikeAt (v : Nat → Rat) (i k s : Nat) : Bool := s.testBit i || s.testBit k || decide (v (s + 2 ^ i) = v (s + 2 ^ k))
section
variable {nv : R.Nv}
theorem bit_facts {s i : Nat} (hs : s < 9223372036854775808) (hi : i ≤ 62) : vBin .shr (some (.d (.int .i64 (s : Int)))) (some (.d (.int .i64 (i : Int)))) = some (.d (.int .i64 ((s / 2 ^ i : Nat) : Int))) ∧ bitsD .and .i64 ((s / 2 ^ i : Nat) : Int) 1 = (if s.testBit i then 1 else 0) := by
  refine ⟨i_shrN hi hs, ?_⟩
  have ha := ibits_and (a := s / 2 ^ i) (b := 1) (by have := Nat.div_le_self s (2 ^ i); omega) (by omega)
  rw [show s / 2 ^ i &&& 1 = s / 2 ^ i % 2 from Nat.and_one_is_mod _] at ha
  rw [Nat.testBit_eq_decide_div_mod_eq]
  refine Eq.trans ha ?_
  by_cases c : s / 2 ^ i % 2 = 1
  · simp [c]
  · have c0 : s / 2 ^ i % 2 = 0 := by omega
    simp [c0]
theorem null_loop (hz : TzOk nv) (l : List RQ) (n i K : Nat) (hn : n ≤ 5) (hi : i < n) (hl : l.length = 2 ^ n) (hk : ∀ r ∈ l, r.ok K) (h1 : 1 ≤ K) (hK : K ≤ 100000) :
    ∃ z e μ, EX ip nv (.code (.loop [] [] game_Null.b0) [(0, .d (.sl 3 (el l))), (1, .d (.int .i64 (i : Int))), (25, .d (.int .i64 (l.length : Int))), (26, .d (.int .i64 0))] []) = some (.st z e μ) ∧ z ≠ .normal ∧ μ = [] ∧
    ((z = .exit 0 ∧ e = [(0, .d (.sl 3 (el l))), (1, .d (.int .i64 (i : Int))), (25, .d (.int .i64 (l.length : Int))), (26, .d (.int .i64 (l.length : Int))), (27, .d (.bool false))] ∧ allB l.length (nullAt (gv l) i) = true) ∨ (z = .ret ∧ e = [(4, .d (.bool false))] ∧ allB l.length (nullAt (gv l) i) = false)) := by
  have hp : 2 ^ n ≤ 2 ^ 5 := Nat.pow_le_pow_right (by decide) hn
  refine loop_n l.length (fun s e μ => e = [(0, .d (.sl 3 (el l))), (1, .d (.int .i64 (i : Int))), (25, .d (.int .i64 (l.length : Int))), (26, .d (.int .i64 (s : Int)))] ∧ μ = [] ∧ ∀ t, t < s → nullAt (gv l) i t = true) ?_ ?_ ⟨rfl, rfl, fun t h => by omega⟩
  · rintro s e μ hs ⟨rfl, rfl, ht⟩
    have hs32 : s < 32 := by omega
    have hl32 : l.length ≤ 32 := by omega
    obtain ⟨sh, ha⟩ := bit_facts (s := s) (i := i) (by omega) (by omega)
    cases c : s.testBit i
    · rw [c] at ha
      obtain ⟨-, -, f3, f4⟩ := set_facts ⟨n, by omega⟩ ⟨i, by omega⟩ ⟨s, by omega⟩ hi (by simp only; omega) c
      simp only at f3 f4
      have s1 := i_shl1 (n := i) (by omega)
      have ho := ibits_or (a := s) (b := 2 ^ i) (by omega) (by omega)
      rw [f3] at ho
      have f4' : s + 2 ^ i < l.length := by omega
      have sm : EX ip nv (.call F.ratio_Same [.d (.ag (ix l (s + 2 ^ i)).c), .d (.ag (ix l s).c)] []) = some (.ret (.d (.bool (decide (gv l (s + 2 ^ i) = gv l s)))) []) := rsame_ev hz (ix l (s + 2 ^ i)) (ix l s) (ixq_ok hk f4') (ixq_ok hk hs) h1 h1 (by omega)
      have hna : nullAt (gv l) i s = decide (gv l (s + 2 ^ i) = gv l s) := by simp [nullAt, c]
      rw [← hna] at sm
      cases hb : nullAt (gv l) i s
      · have hf := allB_false hs hb
        rw [hb] at sm
        refine .inr ⟨.ret, [(4, .d (.bool false))], [], ?_, by simp, rfl, .inr ⟨rfl, rfl, hf⟩⟩
        clear hna hb hf ht f4 hl hp c f3
        generalize s + 2 ^ i = t at *
        generalize 2 ^ i = p5 at *
        generalize s / p5 = d at *
        have ha' : bitsD .and .i64 (d : Int) 1 = 0 := ha
        simp (disch := omega) [game_Null.b0, hs, sh, ha', s1, ho, sm, f4', -vBin_shr, -vBin_shl]
      · rw [hb] at sm
        refine .inl ⟨_, _, ?_, rfl, rfl, fun t h => ?_⟩
        · clear hna hb ht f4 hl hp c f3
          generalize s + 2 ^ i = t at *
          generalize 2 ^ i = p5 at *
          generalize s / p5 = d at *
          have ha' : bitsD .and .i64 (d : Int) 1 = 0 := ha
          simp (disch := omega) [game_Null.b0, hs, sh, ha', s1, ho, sm, f4', -vBin_shr, -vBin_shl]
        · by_cases e : t = s
          · rw [e]; exact hb
          · exact ht t (by omega)
    · rw [c] at ha
      refine .inl ⟨_, _, ?_, rfl, rfl, fun t h => ?_⟩
      · clear hl hp ht
        generalize s / 2 ^ i = d at *
        have ha' : bitsD .and .i64 (d : Int) 1 = 1 := ha
        simp (disch := omega) [game_Null.b0, hs, sh, ha', -vBin_shr]
      · by_cases e : t = s
        · rw [e]; simp [nullAt, c]
        · exact ht t (by omega)
  · rintro e μ ⟨rfl, rfl, ht⟩
    exact ⟨.exit 0, _, [], by simp [game_Null.b0] <;> rfl, by simp, rfl, .inl ⟨rfl, rfl, allB_iff.2 ht⟩⟩
theorem null_bad (l : List RQ) (i : Int) (hl : l.length ≤ 33) (h : gmN l.length = none ∨ i < 0 ∨ ∃ n, gmN l.length = some n ∧ (n : Int) ≤ i) : EX ip nv (.call F.game_Null [.d (.sl 3 (el l)), .d (.int .i64 i)] []) = some (.ret (.d (.bool false)) []) := by
  rw [S_call game_Null.ip rfl]
  have p := players_ev (nv := nv) l hl
  cases hg : gmN l.length with
  | none =>
    rw [hg] at p
    simp only at p
    simp (disch := omega) [game_Null, p]
  | some n =>
    rw [hg] at p
    simp only at p
    by_cases h1 : i < 0
    · simp (disch := omega) [game_Null, p, h1]
    · have h2 : (n : Int) ≤ i := by
        rcases h with h | h | ⟨m, h, h'⟩
        · rw [hg] at h; cases h
        · omega
        · rw [hg] at h; cases h; exact h'
      simp (disch := omega) [game_Null, p, h1, h2]
theorem null_ev (hz : TzOk nv) (l : List RQ) (n i K : Nat) (hl : l.length ≤ 33) (hn : gmN l.length = some n) (hi : i < n) (hk : ∀ r ∈ l, r.ok K) (h1 : 1 ≤ K) (hK : K ≤ 100000) : EX ip nv (.call F.game_Null [.d (.sl 3 (el l)), .d (.int .i64 (i : Int))] []) = some (.ret (.d (.bool (allB l.length (nullAt (gv l) i)))) []) := by
  rw [S_call game_Null.ip rfl]
  have p := players_ev (nv := nv) l hl
  rw [hn] at p
  simp only at p
  have hn6 := gmN_lt ⟨l.length, by omega⟩ n hn
  have hlen := (gmN_some ⟨l.length, by omega⟩ ⟨n, hn6⟩ hn).1
  simp only at hlen
  have g1 : ¬ (i : Int) < 0 := by omega
  have g2 : ¬ (n : Int) ≤ (i : Int) := by omega
  obtain ⟨z, e, μ, hr, -, rfl, ⟨rfl, rfl, hb⟩ | ⟨rfl, rfl, hb⟩⟩ := null_loop hz l n i K (by omega) hi hlen hk h1 hK
  · rw [hb]
    simp (disch := omega) [game_Null, p, g1, g2, hr]
  · rw [hb]
    simp (disch := omega) [game_Null, p, g1, g2, hr]
theorem lnull_ev (hz : TzOk nv) (l : List RQ) (n i K : Nat) (hn : n ≤ 5) (hi : i < n) (hl : l.length = 2 ^ n) (hk : ∀ r ∈ l, r.ok K) (h1 : 1 ≤ K) (hK : K ≤ 100000) : EX ip nv (.call F.dendronlaw19_null [.d (.sl 3 (el l)), .d (.int .i64 (i : Int))] []) = some (.ret (.d (.bool (allB l.length (nullAt (gv l) i)))) []) := by
  have hp : 2 ^ n ≤ 2 ^ 5 := Nat.pow_le_pow_right (by decide) hn
  rw [S_call dendronlaw19_null.ip rfl]
  obtain ⟨z, e, μ, hr, -, rfl, ⟨rfl, rfl, hb⟩ | ⟨rfl, rfl, hb⟩⟩ : ∃ z e μ, EX ip nv (.code (.loop [] [] dendronlaw19_null.b0) [(0, .d (.sl 3 (el l))), (1, .d (.int .i64 (i : Int))), (5, .d (.int .i64 0))] []) = some (.st z e μ) ∧ z ≠ .normal ∧ μ = [] ∧
      ((z = .exit 0 ∧ e = [(0, .d (.sl 3 (el l))), (1, .d (.int .i64 (i : Int))), (5, .d (.int .i64 (l.length : Int))), (9, .d (.bool false))] ∧ allB l.length (nullAt (gv l) i) = true) ∨ (z = .ret ∧ e = [(4, .d (.bool false))] ∧ allB l.length (nullAt (gv l) i) = false)) := by
    refine loop_n l.length (fun s e μ => e = [(0, .d (.sl 3 (el l))), (1, .d (.int .i64 (i : Int))), (5, .d (.int .i64 (s : Int)))] ∧ μ = [] ∧ ∀ t, t < s → nullAt (gv l) i t = true) ?_ ?_ ⟨rfl, rfl, fun t h => by omega⟩
    · rintro s e μ hs ⟨rfl, rfl, ht⟩
      have hs32 : s < 32 := by omega
      have hl32 : l.length ≤ 32 := by omega
      have ie := in_ev (nv := nv) s i (by omega) (by omega)
      cases c : s.testBit i
      · rw [c] at ie
        obtain ⟨-, -, f3, f4⟩ := set_facts ⟨n, by omega⟩ ⟨i, by omega⟩ ⟨s, by omega⟩ hi (by simp only; omega) c
        simp only at f3 f4
        have tw := two19_ev (nv := nv) i (by omega)
        have f4' : s + 2 ^ i < l.length := by omega
        have sm : EX ip nv (.call F.ratio_Same [.d (.ag (ix l (s + 2 ^ i)).c), .d (.ag (ix l s).c)] []) = some (.ret (.d (.bool (decide (gv l (s + 2 ^ i) = gv l s)))) []) := rsame_ev hz (ix l (s + 2 ^ i)) (ix l s) (ixq_ok hk f4') (ixq_ok hk hs) h1 h1 (by omega)
        have hna : nullAt (gv l) i s = decide (gv l (s + 2 ^ i) = gv l s) := by simp [nullAt, c]
        rw [← hna] at sm
        cases hb : nullAt (gv l) i s
        · have hf := allB_false hs hb
          rw [hb] at sm
          refine .inr ⟨.ret, [(4, .d (.bool false))], [], ?_, by simp, rfl, .inr ⟨rfl, rfl, hf⟩⟩
          clear hna hb hf ht f4 hl hp c f3
          generalize 2 ^ i = p5 at *
          simp (disch := omega) [dendronlaw19_null.b0, hs, ie, tw, sm, f4']
        · rw [hb] at sm
          refine .inl ⟨_, _, ?_, rfl, rfl, fun t h => ?_⟩
          · clear hna hb ht f4 hl hp c f3
            generalize 2 ^ i = p5 at *
            simp (disch := omega) [dendronlaw19_null.b0, hs, ie, tw, sm, f4']
          · by_cases e : t = s
            · rw [e]; exact hb
            · exact ht t (by omega)
      · rw [c] at ie
        refine .inl ⟨_, _, ?_, rfl, rfl, fun t h => ?_⟩
        · simp (disch := omega) [dendronlaw19_null.b0, hs, ie]
        · by_cases e : t = s
          · rw [e]; simp [nullAt, c]
          · exact ht t (by omega)
    · rintro e μ ⟨rfl, rfl, ht⟩
      exact ⟨.exit 0, _, [], by simp [dendronlaw19_null.b0] <;> rfl, by simp, rfl, .inl ⟨rfl, rfl, allB_iff.2 ht⟩⟩
  · rw [hb]
    simp (disch := omega) [dendronlaw19_null, hr]
  · rw [hb]
    simp (disch := omega) [dendronlaw19_null, hr]
end
/-- Who adds nothing gets nothing. -/
theorem null_zero {v : Nat → Rat} {n i : Nat} : ∀ m, (∀ s, s < m → nullAt v i s = true) → shS v n i m = 0
  | 0, _ => rfl
  | s + 1, h => by
    have ih := null_zero (n := n) s (fun t ht => h t (by omega))
    have hs := h s (by omega)
    rw [shS]
    split
    · exact ih
    · rename_i c
      have c' : s.testBit i = false := by simpa using c
      simp only [nullAt, c', Bool.false_or, decide_eq_true_eq] at hs
      rw [ih, hs, Rat.sub_self, Rat.mul_zero, Rat.add_zero]
theorem gameNulls_ev (L : List RQ) (i : Int) (hL : L.length ≤ maxLen) (hk : ∀ r ∈ L, r.ok maxLen) : EX ip nv1 (.call F.dendronlaw19_GameNulls [.d (.sl 3 (el L)), .d (.int .i64 i)] []) = some (.ret (.d (.bool true)) []) := by
  rw [S_call dendronlaw19_GameNulls.ip rfl]
  have f1 := few19_ev (nv := nv1) L hL
  have hk2 := fewR_ok hk
  have hl : (fewR L).length ≤ 33 := by rw [fewR_len]; omega
  have aw := awake19_ev
  generalize fewR L = l at *
  have sz := size19_ev (nv := nv1) l hl
  cases hn : gmN l.length with
  | none =>
    rw [hn] at sz
    simp only at sz
    have b := null_bad (nv := nv1) l i hl (.inl hn)
    simp (disch := omega) [dendronlaw19_GameNulls, f1, b, sz, aw]
  | some n =>
    rw [hn] at sz
    simp only at sz
    have hn6 := gmN_lt ⟨l.length, by omega⟩ n hn
    have hlen := (gmN_some ⟨l.length, by omega⟩ ⟨n, hn6⟩ hn).1
    simp only at hlen
    have n0 : ¬ (n : Int) < 0 := by omega
    by_cases h : i < 0 ∨ (n : Int) ≤ i
    · have b := null_bad (nv := nv1) l i hl (by rcases h with h | h; exact .inr (.inl h); exact .inr (.inr ⟨n, hn, h⟩))
      by_cases h1 : i < 0
      · simp (disch := omega) [dendronlaw19_GameNulls, f1, b, sz, aw, n0, h1]
      · have h2 : (n : Int) ≤ i := by omega
        simp (disch := omega) [dendronlaw19_GameNulls, f1, b, sz, aw, n0, h1, h2]
    · obtain ⟨k, rfl⟩ : ∃ k : Nat, i = (k : Int) := ⟨i.toNat, by omega⟩
      have hkn : k < n := by omega
      have a := null_ev tzOk1 l n k 2 hl hn hkn hk2 (by omega) (by omega)
      have b := lnull_ev tzOk1 l n k 2 (by omega) hkn hlen hk2 (by omega) (by omega)
      have sh := shap_ev l n 2 hl hn hk2 (by omega) (by omega)
      have hsl : (shL l n).length = n := by simp [shL]
      have hx : ix (shL l n) k = can (shV (gv l) n k) := tb_ix hkn
      have sg := rsign_ev tzOk1 (can (shV (gv l) n k)) (can_ok (shV_b (K := 2) (by omega) (fun s hs => gv_b hk2 (by omega) (by omega)) hkn)) (by omega) (by omega)
      rw [can_v] at sg
      have h1 : ¬ (k : Int) < 0 := by omega
      have h2 : ¬ (n : Int) ≤ (k : Int) := by omega
      cases hb : allB l.length (nullAt (gv l) k)
      · rw [hb] at a b
        generalize shL l n = q at *
        simp (disch := omega) [dendronlaw19_GameNulls, f1, a, b, sz, aw, n0, h1, h2, sh, hsl]
      · rw [hb] at a b
        have hz : shV (gv l) n k = 0 := by
          unfold shV
          rw [← hlen]
          exact null_zero _ (allB_iff.1 hb)
        rw [hz] at sg hx
        have e0 : (0 : Rat).num.sign = 0 := rfl
        rw [e0] at sg
        generalize shL l n = q at *
        generalize can 0 = q0 at *
        simp (disch := omega) [dendronlaw19_GameNulls, f1, a, b, sz, aw, n0, h1, h2, sh, hsl, hx, sg]
end Go.Proofs.YtgpaohcnnggepabDoor
