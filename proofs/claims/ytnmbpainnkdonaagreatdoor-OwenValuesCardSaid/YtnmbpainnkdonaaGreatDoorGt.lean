/- The game of groups: merged, Quotient. -/
import Derived.Test.YtnmbpainnkdonaaGreatDoorGa
import Derived.Test.YtnmbpainnkdonaaGreatDoorZa
import Derived.Test.YtnmbpainnkdonaaGreatDoorOc
set_option linter.unusedSimpArgs false
set_option linter.unusedVariables false
namespace Go.Proofs.YtnmbpainnkdonaaGreatDoor
open Go Go.Proofs.R
set_option maxRecDepth 10000
/-- A set of groups as a set of players. -/
def mgN (l : List Int) (s : Nat) : Nat → Nat
  | 0 => 0
  | i + 1 => if s.testBit i then mgN l s i ||| (ix l i).toNat else mgN l s i
theorem mem_ix {l : List Int} {i : Nat} (h : i < l.length) : ix l i ∈ l := by
  have : ix l i = l[i] := by simp [ix, h]
  rw [this]; exact List.getElem_mem h
theorem mgN_lt {l : List Int} {n : Nat} (hg : ∀ g ∈ l, 0 < g ∧ g < ((2 ^ n : Nat) : Int)) (s : Nat) : ∀ i, i ≤ l.length → mgN l s i < 2 ^ n
  | 0, _ => Nat.two_pow_pos n
  | i + 1, h => by
    have ih := mgN_lt hg s i (by omega)
    have hx := hg _ (mem_ix (l := l) (i := i) (by omega))
    rw [mgN]
    split
    · exact Nat.or_lt_two_pow ih (by omega)
    · exact ih
theorem mgN_bit {l : List Int} (s p : Nat) : ∀ i, i ≤ l.length → (mgN l s i).testBit p = true → ∃ j, j < i ∧ (ix l j).toNat.testBit p = true
  | 0, _, h => by simp [mgN] at h
  | i + 1, hl, h => by
    rw [mgN] at h
    split at h
    · rw [Nat.testBit_or, Bool.or_eq_true] at h
      rcases h with h | h
      · obtain ⟨j, hj, hb⟩ := mgN_bit s p i (by omega) h
        exact ⟨j, by omega, hb⟩
      · exact ⟨i, by omega, h⟩
    · obtain ⟨j, hj, hb⟩ := mgN_bit s p i (by omega) h
      exact ⟨j, by omega, hb⟩
theorem rightG_iff {l : List Int} {n : Nat} (h : rightG l n = true) : (∀ g ∈ l, 0 < g ∧ g < ((2 ^ n : Nat) : Int)) ∧ ∀ p, p < n → l.countP (fun g => g.toNat.testBit p) = 1 := by
  simp only [rightG, Bool.and_eq_true, List.all_eq_true, decide_eq_true_eq, List.mem_range, beq_iff_eq] at h
  exact h
theorem mgN_apart {l : List Int} {n : Nat} (h : rightG l n = true) (s : Nat) {i : Nat} (hi : i < l.length) : mgN l s i &&& (ix l i).toNat = 0 := by
  obtain ⟨hg, hc⟩ := rightG_iff h
  apply Nat.eq_of_testBit_eq
  intro p
  rw [Nat.zero_testBit, Nat.testBit_and]
  cases h1 : (mgN l s i).testBit p
  · rfl
  · cases h2 : (ix l i).toNat.testBit p
    · rfl
    · exfalso
      have hx := hg _ (mem_ix hi)
      have hp : p < n := by
        rcases Nat.lt_or_ge p n with hp | hp
        · exact hp
        · rw [bit_ge (s := (ix l i).toNat) (n := n) (by omega) hp] at h2; cases h2
      obtain ⟨j, hj, hb⟩ := mgN_bit s p i (by omega) h1
      have e : l = l.take i ++ (ix l i :: l.drop (i + 1)) := by
        rw [← drop_ix' hi, List.take_append_drop]
      have c := hc p hp
      rw [e, List.countP_append, List.countP_cons, h2] at c
      have : 0 < (l.take i).countP (fun g => g.toNat.testBit p) := by
        rw [List.countP_pos_iff]
        refine ⟨ix l j, ?_, hb⟩
        have hjl : j < (l.take i).length := by simp; omega
        have : (l.take i)[j] = ix l j := by simp [ix, show j < l.length by omega]
        rw [← this]; exact List.getElem_mem hjl
      simp at c
      omega
theorem add_or : ∀ (f a b : Nat), a < 2 ^ f → b < 2 ^ f → a &&& b = 0 → a + b = a ||| b
  | 0, a, b, ha, hb, _ => by
    have : a = 0 := by simpa using ha
    have : b = 0 := by simpa using hb
    subst_vars; rfl
  | f + 1, a, b, ha, hb, h => by
    rw [Nat.pow_succ] at ha hb
    have h1 : a / 2 &&& b / 2 = 0 := by rw [← Nat.and_div_two, h]
    have ih := add_or f (a / 2) (b / 2) (by omega) (by omega) h1
    have h2 : ¬ (a % 2 = 1 ∧ b % 2 = 1) := by
      rw [← Nat.and_mod_two_eq_one, h]; omega
    have h3 : (a ||| b) / 2 = a / 2 ||| b / 2 := Nat.or_div_two
    have h4 : (a ||| b) % 2 = 1 ↔ a % 2 = 1 ∨ b % 2 = 1 := Nat.or_mod_two_eq_one
    omega
section
variable {nv : R.Nv}
theorem merged_ev (l : List Int) (s n : Nat) (hs : s < 9223372036854775808) (hn : n ≤ 12) (hl : l.length ≤ 12) (hg : ∀ g ∈ l, 0 < g ∧ g < ((2 ^ n : Nat) : Int)) : EX ip nv (.call F.owen_merged [.d (.sl 1 (el l)), .d (.int .i64 (s : Int))] []) = some (.ret (.d (.int .i64 (mgN l s l.length : Nat))) []) := by
  rw [S_call owen_merged.ip rfl]
  have hpw := pow_lt hn
  obtain ⟨_, _, _, hr, -, rfl, rfl, rfl⟩ : ∃ z e μ, EX ip nv (.code (.loop [] [] owen_merged.b0) [(1, .d (.int .i64 (s : Int))), (5, .d (.int .i64 0)), (8, .d (.sl 1 (el l))), (9, .d (.int .i64 (l.length : Int))), (10, .d (.int .i64 0))] []) = some (.st z e μ) ∧ z ≠ .normal ∧
      z = .exit 0 ∧ e = [(1, .d (.int .i64 (s : Int))), (5, .d (.int .i64 (mgN l s l.length : Nat))), (8, .d (.sl 1 (el l))), (9, .d (.int .i64 (l.length : Int))), (10, .d (.int .i64 (l.length : Int))), (11, .d (.bool false))] ∧ μ = [] := by
    refine loop_n l.length (fun i e μ => ∃ m : Nat, m = mgN l s i ∧ e = [(1, .d (.int .i64 (s : Int))), (5, .d (.int .i64 (m : Int))), (8, .d (.sl 1 (el l))), (9, .d (.int .i64 (l.length : Int))), (10, .d (.int .i64 (i : Int)))] ∧ μ = []) ?_ ?_ ⟨0, rfl, rfl, rfl⟩
    · rintro i e μ hi ⟨m, hm, rfl, rfl⟩
      have hml := mgN_lt hg s i (by omega)
      rw [← hm] at hml
      obtain ⟨g0, g1⟩ := hg _ (mem_ix hi)
      obtain ⟨g, hgn⟩ : ∃ g : Nat, ix l i = (g : Int) := ⟨(ix l i).toNat, by omega⟩
      rw [hgn] at g0 g1
      have sh := i_shrN (s := s) (i := i) (by omega) hs
      have hle : s / 2 ^ i ≤ s := Nat.div_le_self _ _
      have ha := ibits_and (a := s / 2 ^ i) (b := 1) (by omega) (by omega)
      have ho := ibits_or (a := m) (b := g) (by omega) (by omega)
      rw [show s / 2 ^ i &&& 1 = s / 2 ^ i % 2 from Nat.and_one_is_mod _] at ha
      have tb : s.testBit i = decide (s / 2 ^ i % 2 = 1) := Nat.testBit_eq_decide_div_mod_eq
      have e1 : mgN l s (i + 1) = if s.testBit i then m ||| g else m := by rw [mgN, ← hm, hgn, Int.toNat_natCast]
      refine .inl ⟨_, _, ?_, (if s.testBit i then m ||| g else m), e1.symm, rfl, rfl⟩
      by_cases c : s / 2 ^ i % 2 = 1
      · have tb' : s.testBit i = true := by rw [tb]; simpa using c
        rw [c] at ha
        rw [tb']
        clear e1 tb tb'
        generalize m ||| g = o at *
        generalize s / 2 ^ i = q at *
        have ha' : bitsD .and .i64 (q : Int) 1 = 1 := ha
        simp (disch := omega) [owen_merged.b0, hi, hgn, sh, ha', ho, -vBin_shr]
      · have tb' : s.testBit i = false := by rw [tb]; simpa using c
        have c0 : s / 2 ^ i % 2 = 0 := by omega
        rw [c0] at ha
        rw [tb']
        clear e1 tb tb'
        generalize s / 2 ^ i = q at *
        have ha' : bitsD .and .i64 (q : Int) 1 = 0 := ha
        simp (disch := omega) [owen_merged.b0, hi, hgn, sh, ha', -vBin_shr]
    · rintro e μ ⟨m, hm, rfl, rfl⟩
      subst hm
      exact ⟨.exit 0, _, [], by simp [owen_merged.b0] <;> rfl, by simp, rfl, rfl, rfl⟩
  simp (disch := omega) [owen_merged, hr]
/-- The numbers of the game of groups. -/
def quoL (l : List RQ) (g : List Int) (m : Nat) : List RQ := (List.range m).map fun s => can (ix l (mgN g s g.length)).v
theorem quoL_succ (l : List RQ) (g : List Int) (m : Nat) : quoL l g (m + 1) = quoL l g m ++ [can (ix l (mgN g m g.length)).v] := by simp [quoL, List.range_succ]
@[simp] theorem quoL_len (l : List RQ) (g : List Int) (m : Nat) : (quoL l g m).length = m := by simp [quoL]
theorem quoL_ix {l : List RQ} {g : List Int} {m s : Nat} (h : s < m) : ix (quoL l g m) s = can (ix l (mgN g s g.length)).v := by simp [ix, quoL, h]
theorem quotient_bad (l : List RQ) (g : List Int) (hl : l.length ≤ 33) (hg : g.length ≤ 12) (h : ∀ n, gmN l.length = some n → rightG g n = false) : EX ip nv (.call F.owen_Quotient [.d (.sl 3 (el l)), .d (.sl 1 (el g))] []) = some (.ret (.tp [.d (.sl 3 []), .d (.int .i64 1)]) []) := by
  rw [S_call owen_Quotient.ip rfl]
  have p := players_ev (nv := nv) l hl
  cases hn : gmN l.length with
  | none =>
    rw [hn] at p
    simp only at p
    simp (disch := omega) [owen_Quotient, p]
  | some n =>
    rw [hn] at p
    simp only at p
    have hn6 := gmN_lt ⟨l.length, by omega⟩ n hn
    have o := owenRight_ev (nv := nv) g n (by omega) (by omega)
    rw [orF_right, h n hn] at o
    simp (disch := omega) [owen_Quotient, p, o]
theorem quotient_ev (hz : TzOk nv) (l : List RQ) (g : List Int) (n : Nat) (hl : l.length ≤ 33) (hg : g.length ≤ 12) (hn : gmN l.length = some n) (h : rightG g n = true) (hk : ∀ r ∈ l, r.ok 2) : EX ip nv (.call F.owen_Quotient [.d (.sl 3 (el l)), .d (.sl 1 (el g))] []) = some (.ret (.tp [.d (.sl 3 (el (quoL l g (2 ^ g.length)))), .d (.int .i64 0)]) []) := by
  rw [S_call owen_Quotient.ip rfl]
  have p := players_ev (nv := nv) l hl
  rw [hn] at p
  simp only at p
  have hn6 := gmN_lt ⟨l.length, by omega⟩ n hn
  have hlen := (gmN_some ⟨l.length, by omega⟩ ⟨n, hn6⟩ hn).1
  simp only at hlen
  have o := owenRight_ev (nv := nv) g n (by omega) (by omega)
  rw [orF_right, h] at o
  have sh := i_shl1 (n := g.length) hg
  have hpw := pow_lt hg
  obtain ⟨hgr, -⟩ := rightG_iff h
  obtain ⟨_, _, _, hr, -, rfl, rfl, rfl⟩ : ∃ z e μ, EX ip nv (.code (.loop [] [] owen_Quotient.b0) [(0, .d (.sl 3 (el l))), (1, .d (.sl 1 (el g))), (8, .own 8 3 0 0), (25, .d (.int .i64 ((2 ^ g.length : Nat) : Int))), (26, .d (.int .i64 0))] [(8, ⟨0, false, []⟩)]) = some (.st z e μ) ∧ z ≠ .normal ∧
      z = .exit 0 ∧ e = [(0, .d (.sl 3 (el l))), (1, .d (.sl 1 (el g))), (8, .own 8 3 0 (2 ^ g.length)), (25, .d (.int .i64 ((2 ^ g.length : Nat) : Int))), (26, .d (.int .i64 ((2 ^ g.length : Nat) : Int))), (27, .d (.bool false))] ∧ μ = [(8, ⟨0, false, el (quoL l g (2 ^ g.length))⟩)] := by
    generalize 2 ^ g.length = N at *
    refine loop_n N (fun s e μ => ∃ a : List RQ, a = quoL l g s ∧ e = [(0, .d (.sl 3 (el l))), (1, .d (.sl 1 (el g))), (8, .own 8 3 0 a.length), (25, .d (.int .i64 (N : Int))), (26, .d (.int .i64 (s : Int)))] ∧ μ = [(8, ⟨0, false, el a⟩)]) ?_ ?_ ⟨[], rfl, rfl, rfl⟩
    · rintro s e μ hs ⟨a, ha, rfl, rfl⟩
      have hal : a.length = s := by rw [ha]; simp
      have mg := merged_ev (nv := nv) g s n (by omega) (by omega) hg hgr
      have ml := mgN_lt hgr s g.length (Nat.le_refl _)
      rw [← hlen] at ml
      have c := rclean_ev hz (ix l (mgN g s g.length)) (ixq_ok hk ml) (by omega)
      refine .inl ⟨_, _, ?_, a ++ [can (ix l (mgN g s g.length)).v], by rw [ha, quoL_succ], rfl, rfl⟩
      clear ha
      generalize mgN g s g.length = i at *
      generalize can (ix l i).v = q at *
      simp (disch := omega) [owen_Quotient.b0, hs, mg, ml, c]
    · rintro e μ ⟨a, ha, rfl, rfl⟩
      subst ha
      exact ⟨.exit 0, _, _, by simp [owen_Quotient.b0] <;> first | rfl | exact ⟨rfl, rfl⟩, by simp, by simp, by simp, by simp⟩
  have hql := quoL_len l g (2 ^ g.length)
  generalize quoL l g (2 ^ g.length) = qs at *
  generalize 2 ^ g.length = N at *
  simp (disch := omega) [owen_Quotient, p, o, sh, hr, hql, -vBin_shl]
end
end Go.Proofs.YtnmbpainnkdonaaGreatDoor
