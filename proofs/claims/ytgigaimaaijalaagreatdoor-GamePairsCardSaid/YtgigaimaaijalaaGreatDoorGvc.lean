/- GamePairs: the law. -/
import Derived.Test.YtgigaimaaijalaaGreatDoorGvb
import Derived.Test.YtgigaimaaijalaaGreatDoorOc
set_option linter.unusedSimpArgs false
set_option linter.unusedVariables false
namespace Go.Proofs.YtgigaimaaijalaaGreatDoor
open Go Go.Proofs.R
set_option maxRecDepth 10000
section
variable {nv : R.Nv}
theorem count19_ev (s n : Nat) (hs : s < 9223372036854775808) (hn : n ≤ 1000) : EX ip nv (.call F.dendronlaw19_Count [.d (.int .i64 (s : Int)), .d (.int .i64 (n : Int))] []) = some (.ret (.d (.int .i64 (cntN s n : Nat))) []) := by
  rw [S_call dendronlaw19_Count.ip rfl]
  obtain ⟨_, _, _, hr, -, rfl, rfl, rfl⟩ : ∃ z e μ, EX ip nv (.code (.loop [] [] dendronlaw19_Count.b0) [(0, .d (.int .i64 (s : Int))), (1, .d (.int .i64 (n : Int))), (5, .d (.int .i64 0)), (6, .d (.int .i64 0))] []) = some (.st z e μ) ∧ z ≠ .normal ∧
      z = .exit 0 ∧ e = [(0, .d (.int .i64 (s : Int))), (1, .d (.int .i64 (n : Int))), (5, .d (.int .i64 (cntN s n : Nat))), (6, .d (.int .i64 (n : Int))), (9, .d (.bool false))] ∧ μ = [] := by
    refine loop_n n (fun i e μ => ∃ m : Nat, m = cntN s i ∧ e = [(0, .d (.int .i64 (s : Int))), (1, .d (.int .i64 (n : Int))), (5, .d (.int .i64 (m : Int))), (6, .d (.int .i64 (i : Int)))] ∧ μ = []) ?_ ?_ ⟨0, rfl, rfl, rfl⟩
    · rintro i e μ hi ⟨m, hm, rfl, rfl⟩
      have ie := in_ev (nv := nv) s i hs (by omega)
      have hml := cntN_le s i
      rw [← hm] at hml
      refine .inl ⟨_, _, ?_, m + (if s.testBit i then 1 else 0), by rw [cntN_succ, hm], rfl, rfl⟩
      cases hb : s.testBit i
      · rw [hb] at ie
        simp (disch := omega) [dendronlaw19_Count.b0, hi, ie]
      · rw [hb] at ie
        simp (disch := omega) [dendronlaw19_Count.b0, hi, ie]
    · rintro e μ ⟨m, hm, rfl, rfl⟩
      subst hm
      exact ⟨.exit 0, _, [], by simp [dendronlaw19_Count.b0] <;> rfl, by simp, rfl, rfl, rfl⟩
  simp (disch := omega) [dendronlaw19_Count, hr]
end
theorem gp_b4 (l sh : List RQ) (X : List (List RQ)) (n i k : Nat) (hn : n ≤ 5) (hi : i < n) (hk : k < n) (hik : i ≠ k) (hl : l.length = 2 ^ n) (hlo : ∀ r ∈ l, r.ok 2) (B9 : Blk) (c : List D) (hc : TS c) :
    ∃ z e μ, EX ip nv1 (.code (.loop [] [] dendronlaw19_GamePairs.b4) [(0, .d (.sl 3 (el l))), (3, .d (.sl 1 (el X))), (5, .d (.int .i64 (n : Int))), (6, .d (.sl 3 (el sh))), (7, .ptr 49 0), (8, .d (.int .i64 (i : Int))), (9, .ptr 9 0), (10, .d (.int .i64 (k : Int))), (11, .ptr 11 0), (12, .d (.int .i64 0))] [(9, B9), (11, ⟨0, true, (can 0).c⟩), (49, ⟨0, false, c⟩)]) = some (.st z e μ) ∧ z ≠ .normal ∧
      ∃ c', TS c' ∧ z = .exit 4 ∧ e = [(0, .d (.sl 3 (el l))), (3, .d (.sl 1 (el X))), (5, .d (.int .i64 (n : Int))), (6, .d (.sl 3 (el sh))), (7, .ptr 49 0), (8, .d (.int .i64 (i : Int))), (9, .ptr 9 0), (10, .d (.int .i64 (k : Int))), (11, .ptr 11 0), (12, .d (.int .i64 (l.length : Int))), (78, .d (.bool false))] ∧ μ = [(9, B9), (11, ⟨0, true, (can (pV (gv l) n i k)).c⟩), (49, ⟨0, false, c'⟩)] := by
  have hp5 : 2 ^ n ≤ 2 ^ 5 := Nat.pow_le_pow_right (by decide) hn
  refine loop_n l.length (fun s e μ => ∃ (q : RQ) (c' : List D), TS c' ∧ q = can (pS (gv l) n i k s) ∧ e = [(0, .d (.sl 3 (el l))), (3, .d (.sl 1 (el X))), (5, .d (.int .i64 (n : Int))), (6, .d (.sl 3 (el sh))), (7, .ptr 49 0), (8, .d (.int .i64 (i : Int))), (9, .ptr 9 0), (10, .d (.int .i64 (k : Int))), (11, .ptr 11 0), (12, .d (.int .i64 (s : Int)))] ∧ μ = [(9, B9), (11, ⟨0, true, q.c⟩), (49, ⟨0, false, c'⟩)]) ?_ ?_ ⟨_, c, hc, rfl, rfl, rfl⟩
  · rintro s e μ hs ⟨q, c', hc', hq, rfl, rfl⟩
    have hs32 : s < 32 := by omega
    have hl32 : l.length ≤ 32 := by omega
    have i1 := in_ev (nv := nv1) s i (by omega) (by omega)
    have i2 := in_ev (nv := nv1) s k (by omega) (by omega)
    cases b1 : s.testBit i
    · rw [b1] at i1
      cases b2 : s.testBit k
      · rw [b2] at i2
        obtain ⟨f1, f2, f3, f4, f5, f6⟩ := set_facts2 ⟨n, by omega⟩ ⟨i, by omega⟩ ⟨k, by omega⟩ ⟨s, by omega⟩ hik hi hk (by simp only; omega) b1 b2
        simp only at f1 f2 f6
        have hvb : ∀ s, s < 2 ^ n → Bq 2 (gv l s) := fun s hs => gv_b hlo (by omega) (by omega)
        have t1 := two19_ev (nv := nv1) i (by omega)
        have t2 := two19_ev (nv := nv1) k (by omega)
        have ct := count19_ev (nv := nv1) s n (by omega) (by omega)
        rw [f2] at ct
        have pr := pairT_ev hc' (cntN s 5) n f1 (by omega)
        have xb := xV_b hvb f6
        have wb := wp_b f1 (show n ≤ 64 by omega)
        have g1 : s + 2 ^ i + 2 ^ k < l.length := by omega
        have g2 : s + 2 ^ i < l.length := Nat.lt_of_le_of_lt (Nat.le_add_right _ _) g1
        have g3 : s + 2 ^ k < l.length := Nat.lt_of_le_of_lt (Nat.add_le_add_right (Nat.le_add_right _ _) _) g1
        have hvl : ∀ s, s < l.length → Bq 2 (gv l s) := fun s hs => gv_b hlo (by omega) hs
        have a1 : EX ip nv1 (.call F.ratio_Add [.d (.ag (ix l (s + 2 ^ i + 2 ^ k)).c), .d (.ag (ix l s).c)] []) = some (.ret (.d (.ag (can (gv l (s + 2 ^ i + 2 ^ k) + gv l s)).c)) []) := radd_ev tzOk1 _ _ (ixq_ok hlo g1) (ixq_ok hlo hs) (by omega) (by omega) (by omega)
        have a2 : EX ip nv1 (.call F.ratio_Add [.d (.ag (ix l (s + 2 ^ i)).c), .d (.ag (ix l (s + 2 ^ k)).c)] []) = some (.ret (.d (.ag (can (gv l (s + 2 ^ i) + gv l (s + 2 ^ k))).c)) []) := radd_ev tzOk1 _ _ (ixq_ok hlo g2) (ixq_ok hlo g3) (by omega) (by omega) (by omega)
        have sb := rsub_ev tzOk1 (can (gv l (s + 2 ^ i + 2 ^ k) + gv l s)) (can (gv l (s + 2 ^ i) + gv l (s + 2 ^ k))) (can_ok ((hvl _ g1).add (hvl _ hs))) (can_ok ((hvl _ g2).add (hvl _ g3))) (by omega) (by omega) (by omega)
        rw [can_v, can_v, show gv l (s + 2 ^ i + 2 ^ k) + gv l s - (gv l (s + 2 ^ i) + gv l (s + 2 ^ k)) = xV (gv l) s i k from rfl] at sb
        have ml := rmul_ev tzOk1 (can (wp (cntN s 5) n)) (can (xV (gv l) s i k)) (can_ok wb) (can_ok xb) (by omega) (by omega) (by omega)
        have sB := pS_b hn hvb hi hk hik s (by omega)
        have ad := radd_ev tzOk1 (can (pS (gv l) n i k s)) (can (wp (cntN s 5) n * xV (gv l) s i k)) (can_ok sB) (can_ok (wb.mul xb)) (by omega) (by omega) (by omega)
        rw [can_v, can_v] at ml ad
        have e1 : pS (gv l) n i k (s + 1) = pS (gv l) n i k s + wp (cntN s 5) n * xV (gv l) s i k := by rw [pS, b1, b2]; rfl
        rw [← e1, ← hq] at ad
        have c1' : (s : Int) + ((2 ^ i : Nat) : Int) = ((s + 2 ^ i : Nat) : Int) := (Int.natCast_add _ _).symm
        have c2' : ((s + 2 ^ i : Nat) : Int) + ((2 ^ k : Nat) : Int) = ((s + 2 ^ i + 2 ^ k : Nat) : Int) := (Int.natCast_add _ _).symm
        have c3' : (s : Int) + ((2 ^ k : Nat) : Int) = ((s + 2 ^ k : Nat) : Int) := (Int.natCast_add _ _).symm
        refine .inl ⟨_, _, ?_, can (pS (gv l) n i k (s + 1)), c1, .inr rfl, rfl, rfl, rfl⟩
        clear b1 b2 hq hp5 hvb hvl e1 sB wb xb f2 f3 f4 f5 f6 hl
        generalize can (pS (gv l) n i k (s + 1)) = p1 at *
        generalize can (wp (cntN s 5) n * xV (gv l) s i k) = p2 at *
        generalize can (wp (cntN s 5) n) = p3 at *
        generalize can (xV (gv l) s i k) = p4 at *
        generalize can (gv l (s + 2 ^ i + 2 ^ k) + gv l s) = p5 at *
        generalize can (gv l (s + 2 ^ i) + gv l (s + 2 ^ k)) = p6 at *
        generalize cntN s 5 = cn at *
        generalize c1 = co at *
        generalize s + 2 ^ i + 2 ^ k = u1 at *
        generalize s + 2 ^ i = u2 at *
        generalize s + 2 ^ k = u3 at *
        generalize 2 ^ i = u4 at *
        generalize 2 ^ k = u5 at *
        simp (disch := omega) [-vIA_o, dendronlaw19_GamePairs.b4, hs, i1, i2, t1, t2, ct, pr, a1, a2, sb, ml, ad, c1', c2', c3', g1, g2, g3]
      · rw [b2] at i2
        refine .inl ⟨_, _, ?_, q, c', hc', by rw [pS, b2, Bool.or_true, if_pos rfl, hq], rfl, rfl⟩
        clear hq hp5 hl
        simp (disch := omega) [-vIA_o, dendronlaw19_GamePairs.b4, hs, i1, i2]
    · rw [b1] at i1
      refine .inl ⟨_, _, ?_, q, c', hc', by rw [pS, b1, Bool.true_or, if_pos rfl, hq], rfl, rfl⟩
      clear hq hp5 hl
      simp (disch := omega) [-vIA_o, dendronlaw19_GamePairs.b4, hs, i1]
  · rintro e μ ⟨q, c', hc', hq, rfl, rfl⟩
    subst hq
    refine ⟨.exit 4, _, _, ?_, by simp, c', hc', rfl, rfl, by rw [pV, ← hl]⟩
    simp [dendronlaw19_GamePairs.b4] <;> first | rfl | exact ⟨rfl, rfl⟩
theorem gp_b2 (l sh : List RQ) (X : List (List RQ)) (n i : Nat) (hn : n ≤ 5) (hi : i < n) (hl : l.length = 2 ^ n) (hlo : ∀ r ∈ l, r.ok 2) (hX : X.length = n) (hXi : (ix X i).length = n) (hXk : ∀ k, k < n → k ≠ i → ix (ix X i) k = can (pV (gv l) n i k)) (c : List D) (hc : TS c) :
    ∃ z e μ, EX ip nv1 (.code (.loop [] [] dendronlaw19_GamePairs.b2) [(0, .d (.sl 3 (el l))), (3, .d (.sl 1 (el X))), (5, .d (.int .i64 (n : Int))), (6, .d (.sl 3 (el sh))), (7, .ptr 49 0), (8, .d (.int .i64 (i : Int))), (9, .ptr 9 0), (10, .d (.int .i64 0))] [(9, ⟨0, true, (can (pL (gv l) n i 0)).c⟩), (49, ⟨0, false, c⟩)]) = some (.st z e μ) ∧ z ≠ .normal ∧
      ∃ c', TS c' ∧ z = .exit 2 ∧ e = [(0, .d (.sl 3 (el l))), (3, .d (.sl 1 (el X))), (5, .d (.int .i64 (n : Int))), (6, .d (.sl 3 (el sh))), (7, .ptr 49 0), (8, .d (.int .i64 (i : Int))), (9, .ptr 9 0), (10, .d (.int .i64 (n : Int))), (68, .d (.bool false))] ∧ μ = [(9, ⟨0, true, (can (pL (gv l) n i n)).c⟩), (49, ⟨0, false, c'⟩)] := by
  refine loop_n n (fun k e μ => ∃ (q : RQ) (c' : List D), TS c' ∧ q = can (pL (gv l) n i k) ∧ e = [(0, .d (.sl 3 (el l))), (3, .d (.sl 1 (el X))), (5, .d (.int .i64 (n : Int))), (6, .d (.sl 3 (el sh))), (7, .ptr 49 0), (8, .d (.int .i64 (i : Int))), (9, .ptr 9 0), (10, .d (.int .i64 (k : Int)))] ∧ μ = [(9, ⟨0, true, q.c⟩), (49, ⟨0, false, c'⟩)]) ?_ ?_ ⟨_, c, hc, rfl, rfl, rfl⟩
  · rintro k e μ hk ⟨q, c', hc', hq, rfl, rfl⟩
    by_cases hik : k = i
    · subst hik
      refine .inl ⟨_, _, ?_, q, c', hc', by rw [pL, if_pos rfl, hq], rfl, rfl⟩
      clear hq
      simp (disch := omega) [-vIA_o, dendronlaw19_GamePairs.b2, hk]
    · have hvb : ∀ s, s < 2 ^ n → Bq 2 (gv l s) := fun s hs => gv_b hlo (by omega) (by omega)
      have z := zero_ev (nv := nv1)
      obtain ⟨_, _, _, l4, -, c2, hc2, rfl, rfl, rfl⟩ := gp_b4 l sh X n i k hn hi hk (fun e => hik e.symm) hl hlo ⟨0, true, q.c⟩ c' hc'
      have pb := pV_b hn hvb hi hk (fun e => hik e.symm)
      have lb := pL_b hn hvb hi k (by omega)
      have sb := rsub_ev tzOk1 (can (pL (gv l) n i k)) (can (pV (gv l) n i k)) (can_ok lb) (can_ok pb) (by omega) (by omega) (by omega)
      rw [can_v, can_v] at sb
      have e1 : pL (gv l) n i (k + 1) = pL (gv l) n i k - pV (gv l) n i k := by rw [pL, if_neg hik]
      rw [← e1, ← hq] at sb
      have hx := hXk k hk hik
      have rt := rright_c (nv := nv1) tzOk1 (pV (gv l) n i k) pb (by omega)
      have sm := rsame_ev tzOk1 (can (pV (gv l) n i k)) (can (pV (gv l) n i k)) (can_ok pb) (can_ok pb) (by omega) (by omega) (by omega)
      simp only [decide_true] at sm
      have hik' : ¬ (k : Int) = (i : Int) := by omega
      have hiX : i < X.length := by omega
      have hkX : k < (ix X i).length := by omega
      refine .inl ⟨_, _, ?_, can (pL (gv l) n i (k + 1)), c2, hc2, rfl, rfl, rfl⟩
      clear hq pb lb e1 hvb hXk
      generalize can (pL (gv l) n i (k + 1)) = q1 at *
      generalize can (pV (gv l) n i k) = q3 at *
      generalize can 0 = q0 at *
      simp (disch := omega) [-vIA_o, dendronlaw19_GamePairs.b2, hk, hik, hik', z, l4, sb, hx, rt, sm, hiX, hkX, hXi, hX]
  · rintro e μ ⟨q, c', hc', hq, rfl, rfl⟩
    subst hq
    refine ⟨.exit 2, _, _, ?_, by simp, c', hc', rfl, rfl, rfl⟩
    simp [dendronlaw19_GamePairs.b2] <;> first | rfl | exact ⟨rfl, rfl⟩
theorem gp_b0 (l : List RQ) (n : Nat) (hn : n ≤ 5) (hl : l.length = 2 ^ n) (hlo : ∀ r ∈ l, r.ok 2) (sh : List RQ) (hsh : sh = shL l n) (X : List (List RQ)) (hX : X = tbl n n (pT (gv l) n)) (c : List D) (hc : TS c) :
    ∃ z e μ, EX ip nv1 (.code (.loop [] [] dendronlaw19_GamePairs.b0) [(0, .d (.sl 3 (el l))), (3, .d (.sl 1 (el X))), (5, .d (.int .i64 (n : Int))), (6, .d (.sl 3 (el sh))), (7, .ptr 49 0), (8, .d (.int .i64 0))] [(49, ⟨0, false, c⟩)]) = some (.st z e μ) ∧ z ≠ .normal ∧
      ∃ c', TS c' ∧ z = .exit 0 ∧ e = [(0, .d (.sl 3 (el l))), (3, .d (.sl 1 (el X))), (5, .d (.int .i64 (n : Int))), (6, .d (.sl 3 (el sh))), (7, .ptr 49 0), (8, .d (.int .i64 (n : Int))), (52, .d (.bool false))] ∧ μ = [(49, ⟨0, false, c'⟩)] := by
  refine loop_n n (fun i e μ => ∃ c', TS c' ∧ e = [(0, .d (.sl 3 (el l))), (3, .d (.sl 1 (el X))), (5, .d (.int .i64 (n : Int))), (6, .d (.sl 3 (el sh))), (7, .ptr 49 0), (8, .d (.int .i64 (i : Int)))] ∧ μ = [(49, ⟨0, false, c'⟩)]) ?_ ?_ ⟨c, hc, rfl, rfl⟩
  · rintro i e μ hi ⟨c', hc', rfl, rfl⟩
    have hvb : ∀ s, s < 2 ^ n → Bq 2 (gv l s) := fun s hs => gv_b hlo (by omega) (by omega)
    have hXl : X.length = n := by rw [hX, tbl_len]
    have hXi : ix X i = rw' n (pT (gv l) n i) := by rw [hX, tbl_ix hi]
    have hXil : (ix X i).length = n := by rw [hXi, rw_len]
    have hsi : ix sh i = can (pL (gv l) n i 0) := by rw [hsh, shL, tb_ix hi, pL]
    have hsl : sh.length = n := by rw [hsh]; simp [shL]
    have hii : ix (ix X i) i = can (pL (gv l) n i n) := by
      rw [hXi, rw_ix _ hi]
      unfold pT
      rw [if_pos rfl]
    obtain ⟨_, _, _, l2, -, c2, hc2, rfl, rfl, rfl⟩ := gp_b2 l sh X n i hn hi hl hlo hXl hXil (fun k hk hne => by
      rw [hXi, rw_ix _ hk]
      unfold pT
      rw [if_neg hne]) c' hc'
    have lb := pL_b hn hvb hi n (by omega)
    have rt := rright_c (nv := nv1) tzOk1 (pL (gv l) n i n) lb (by omega)
    have sm := rsame_ev tzOk1 (can (pL (gv l) n i n)) (can (pL (gv l) n i n)) (can_ok lb) (can_ok lb) (by omega) (by omega) (by omega)
    simp only [decide_true] at sm
    have hiX : i < X.length := by omega
    have hkX : i < (ix X i).length := by omega
    have hiS : i < sh.length := by omega
    refine .inl ⟨_, _, ?_, c2, hc2, rfl, rfl⟩
    clear lb hvb hX hXi hsh
    generalize can (pL (gv l) n i n) = q1 at *
    generalize can (pL (gv l) n i 0) = q0 at *
    simp (disch := omega) [-vIA_o, dendronlaw19_GamePairs.b0, hi, l2, hsi, hii, rt, sm, hiX, hkX, hiS, hXl, hXil, hsl]
  · rintro e μ ⟨c', hc', rfl, rfl⟩
    refine ⟨.exit 0, _, _, ?_, by simp, c', hc', rfl, rfl, rfl⟩
    simp [dendronlaw19_GamePairs.b0] <;> first | rfl | exact ⟨rfl, rfl⟩
theorem gamePairs_ev (a : List RQ) (hal : a.length ≤ maxLen) (ha : ∀ r ∈ a, r.ok maxLen) : EX ip nv1 (.call F.dendronlaw19_GamePairs [.d (.sl 3 (el a))] []) = some (.ret (.d (.bool true)) []) := by
  rw [S_call dendronlaw19_GamePairs.ip rfl]
  have f1 := few19_ev (nv := nv1) a hal
  have hl := fewR_ok ha
  have hl33 : (fewR a).length ≤ 33 := by rw [fewR_len]; omega
  have aw := awake19_ev
  generalize fewR a = l at *
  clear ha hal
  have sz := size19_ev (nv := nv1) l hl33
  cases hg : gmN l.length with
  | none =>
    rw [hg] at sz
    simp only at sz
    have pb := pairs_bad l hl33 hg
    simp (disch := omega) [dendronlaw19_GamePairs, f1, sz, pb, aw]
  | some n =>
    rw [hg] at sz
    simp only at sz
    have hn6 := gmN_lt ⟨l.length, by omega⟩ n hg
    have hlen := (gmN_some ⟨l.length, by omega⟩ ⟨n, hn6⟩ hg).1
    simp only at hlen
    have pe := pairs_ev l n hl33 hg hl
    have sh := s15_ev l n 2 (by omega) hlen hl (by omega) (by omega)
    have nw := new_ev
    have hXl : (tbl n n (pT (gv l) n)).length = n := tbl_len _ _ _
    obtain ⟨_, _, _, l0, -, c2, hc2, rfl, rfl, rfl⟩ := gp_b0 l n (by omega) hlen hl (shL l n) rfl (tbl n n (pT (gv l) n)) rfl c0 (.inl rfl)
    have n0 : ¬ (n : Int) < 0 := by omega
    generalize tbl n n (pT (gv l) n) = X at *
    generalize shL l n = shl at *
    generalize c0 = cz at *
    simp (disch := omega) [dendronlaw19_GamePairs, f1, sz, n0, pe, hXl, sh, nw, l0, aw]
end Go.Proofs.YtgigaimaaijalaaGreatDoor
