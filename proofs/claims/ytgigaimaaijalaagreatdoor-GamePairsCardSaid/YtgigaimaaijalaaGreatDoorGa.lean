/- Games: their numbers, cut; how many players. -/
import Derived.Test.YtgigaimaaijalaaGreatDoorOb
import Derived.Test.YtgigaimaaijalaaGreatDoorRf
import Derived.Test.YtgigaimaaijalaaGreatDoorRd
set_option linter.unusedSimpArgs false
set_option linter.unusedVariables false
namespace Go.Proofs.YtgigaimaaijalaaGreatDoor
open Go Go.Proofs.R
set_option maxRecDepth 10000
/-- A number whose parts are cut to two limbs. -/
def cut (r : RQ) : RQ := ⟨r.neg, r.num.take 2, r.den.take 2⟩
theorem cut_ok {r : RQ} {k : Nat} (h : r.ok k) : (cut r).ok 2 :=
  ⟨fun x hx => h.n x (List.mem_of_mem_take hx), fun x hx => h.d x (List.mem_of_mem_take hx), by simp only [cut, List.length_take]; omega, by simp only [cut, List.length_take]; omega⟩
section
variable {nv : R.Nv}
theorem number19_ev (r : RQ) : EX ip nv (.call F.dendronlaw19_number [.d (.ag r.c)] []) = some (.ret (.d (.ag (cut r).c)) []) := by
  rw [S_call dendronlaw19_number.ip rfl]
  obtain ⟨b, n, d⟩ := r
  simp only [RQ.c, cut]
  by_cases h1 : (2 : Int) < n.length
  · by_cases h2 : (2 : Int) < d.length
    · simp (disch := omega) [dendronlaw19_number, h1, h2]
    · have e2 : d.take 2 = d := List.take_of_length_le (by omega)
      simp (disch := omega) [dendronlaw19_number, h1, h2, e2]
  · have e1 : n.take 2 = n := List.take_of_length_le (by omega)
    by_cases h2 : (2 : Int) < d.length
    · simp (disch := omega) [dendronlaw19_number, h1, h2, e1]
    · have e2 : d.take 2 = d := List.take_of_length_le (by omega)
      simp (disch := omega) [dendronlaw19_number, h1, h2, e1, e2]
/-- A game's numbers. -/
def fewR (l : List RQ) : List RQ := (l.take 33).map cut
theorem fewR_len (l : List RQ) : (fewR l).length = min l.length 33 := by simp [fewR]; omega
theorem fewR_ok {l : List RQ} {k : Nat} (h : ∀ r ∈ l, r.ok k) : ∀ r ∈ fewR l, r.ok 2 := by
  intro r hr
  simp only [fewR, List.mem_map] at hr
  obtain ⟨s, hs, rfl⟩ := hr
  exact cut_ok (h s (List.mem_of_mem_take hs))
theorem few19_loop (l : List RQ) (hl : l.length ≤ maxLen) : ∃ z e μ, EX ip nv (.code (.loop [] [] dendronlaw19_Few.b0) [(0, .d (.sl 3 (el l))), (3, .own 3 3 0 0), (4, .d (.int .i64 0))] [(3, ⟨0, false, []⟩)]) = some (.st z e μ) ∧ z ≠ .normal ∧
    z = .exit 0 ∧ e = [(0, .d (.sl 3 (el l))), (3, .own 3 3 0 (fewR l).length), (4, .d (.int .i64 (min l.length 33 : Nat))), (12, .d (.bool false))] ∧ μ = [(3, ⟨0, false, el (fewR l)⟩)] := by
  refine loop_n (min l.length 33) (fun i e μ => ∃ a : List RQ, a = (l.take i).map cut ∧ e = [(0, .d (.sl 3 (el l))), (3, .own 3 3 0 a.length), (4, .d (.int .i64 (i : Int)))] ∧ μ = [(3, ⟨0, false, el a⟩)]) ?_ ?_ ⟨[], by simp, rfl, rfl⟩
  · rintro i e μ hi ⟨a, ha, rfl, rfl⟩
    have hi1 : i < l.length := by omega
    have hi2 : (i : Int) < 33 := by omega
    have hal : a.length = i := by rw [ha]; simp; omega
    have nb := number19_ev (nv := nv) (ix l i)
    have e1 : (l.take (i + 1)).map cut = a ++ [cut (ix l i)] := by
      rw [List.take_add_one, ix_in hi1, ha]; simp
    refine .inl ⟨_, _, ?_, a ++ [cut (ix l i)], e1.symm, rfl, rfl⟩
    clear ha e1
    generalize cut (ix l i) = c at *
    simp (disch := omega) [dendronlaw19_Few.b0, hi1, hi2, nb]
  · rintro e μ ⟨a, ha, rfl, rfl⟩
    have e1 : a = fewR l := by rw [ha, fewR]; congr 1; rw [List.take_eq_take_iff]; omega
    subst e1
    by_cases h : l.length ≤ 33
    · rw [Nat.min_eq_left h]
      exact ⟨.exit 0, _, _, by simp (disch := omega) [dendronlaw19_Few.b0] <;> first | rfl | exact ⟨rfl, rfl⟩, by simp, rfl, rfl, rfl⟩
    · rw [Nat.min_eq_right (by omega)]
      have h1 : (33 : Int) < l.length := by omega
      have h2 : ((33 : Nat) : Int) = 33 := rfl
      rw [h2]
      exact ⟨.exit 0, _, _, by simp (disch := omega) [dendronlaw19_Few.b0, h1] <;> first | rfl | exact ⟨rfl, rfl⟩, by simp, rfl, rfl, rfl⟩
theorem few19_ev (l : List RQ) (hl : l.length ≤ maxLen) : EX ip nv (.call F.dendronlaw19_Few [.d (.sl 3 (el l))] []) = some (.ret (.d (.sl 3 (el (fewR l)))) []) := by
  rw [S_call dendronlaw19_Few.ip rfl]
  obtain ⟨_, _, _, hr, -, rfl, rfl, rfl⟩ := few19_loop (nv := nv) l hl
  generalize fewR l = a at *
  simp (disch := simp) [dendronlaw19_Few, hr]
theorem len64_ev (x : Nat) (h : x < 256) : EX ip nv (.call F.bits_Len64 [.d (u x)] []) = some (.ret (.d (.int .i64 (bl x : Int))) []) := by
  obtain ⟨b, k1, k2⟩ := len8_get x h
  have k3 := (bl_lt x h).2
  have h1 : ¬ 4294967296 ≤ x := by omega
  have h2 : ¬ 65536 ≤ x := by omega
  have h3 : ¬ 256 ≤ x := by omega
  rw [S_call bits_Len64.ip rfl]
  simp only [bits_Len64, len8_lit]
  simp (disch := omega) [h1, h2, h3, k1, k2]
theorem len_ev (x : Nat) (h : x < 256) : EX ip nv (.call F.bits_Len [.d (u x)] []) = some (.ret (.d (.int .i64 (bl x : Int))) []) := by
  rw [S_call bits_Len.ip rfl]
  have := len64_ev (nv := nv) x h
  simp (disch := omega) [bits_Len, this]
/-- Is a list of so many numbers a game? Of how many players? -/
def gmN (m : Nat) : Option Nat := if m = 1 then some 0 else if m = 2 then some 1 else if m = 4 then some 2 else if m = 8 then some 3 else if m = 16 then some 4 else if m = 32 then some 5 else none
theorem gmN_some : ∀ m : Fin 34, ∀ k : Fin 6, gmN m = some k.val → m.val = 2 ^ k.val ∧ bl m = k + 1 := by decide
theorem gmN_lt : ∀ m : Fin 34, ∀ n, gmN m = some n → n < 6 := by
  intro m n h
  unfold gmN at h
  repeat' split at h
  all_goals simp at h; try omega
theorem gmN_none : ∀ m : Fin 34, gmN m = none → ∀ k : Fin 6, m.val ≠ 2 ^ k.val := by decide
theorem gmN_bl : ∀ m : Fin 34, gmN m = none → m.val ≠ 0 → bl m - 1 < 6 ∧ 1 ≤ bl m := by decide
theorem i_shlB {n : Nat} (h : n ≤ 12) : vBin .shl (some (.d (.int .i64 1))) (some (.d (.int .i64 (n : Int)))) = some (.d (.int .i64 ((2 ^ n : Nat) : Int))) := by
  have hp : 2 ^ n ≤ 4096 := Nat.pow_le_pow_right (by decide) h
  rw [vBin_shl, if_neg (by omega)]
  have : min ((n : Int)).toNat IntKind.i64.bits = n := by
    have : IntKind.i64.bits = 64 := rfl
    omega
  rw [this, Int.one_mul]
  have e : (2 : Int) ^ n = ((2 ^ n : Nat) : Int) := by simp
  rw [e]
  generalize 2 ^ n = q at *
  rw [i64_wrap (by omega) (by omega)]
theorem players_ev (l : List RQ) (hl : l.length ≤ 33) : EX ip nv (.call F.game_Players [.d (.sl 3 (el l))] []) = some (.ret (match gmN l.length with | some n => .tp [.d (.int .i64 (n : Int)), .d (.bool true)] | none => .tp [.d (.int .i64 0), .d (.bool false)]) []) := by
  rw [S_call game_Players.ip rfl]
  have ln := len_ev (nv := nv) l.length (by omega)
  by_cases h0 : l.length = 0
  · have e0 : l = [] := List.length_eq_zero_iff.1 h0
    subst e0
    simp only [List.length_nil] at ln
    have hb : bl 0 = 0 := rfl
    rw [hb] at ln
    simp (disch := omega) [game_Players, ln, gmN]
  · cases hg : gmN l.length with
    | some n =>
      have hn := gmN_lt ⟨l.length, by omega⟩ n hg
      obtain ⟨h1, h2⟩ := gmN_some ⟨l.length, by omega⟩ ⟨n, hn⟩ hg
      simp only at h1 h2
      have sh := i_shlB (n := n) (by omega)
      rw [← h1] at sh
      rw [h2] at ln
      have e1 : ((n + 1 : Nat) : Int) - 1 = (n : Int) := by omega
      have e2 : ¬ (12 : Int) < (n : Int) := by omega
      have e3 : l ≠ [] := by intro h; exact h0 (by simp [h])
      simp (disch := omega) [game_Players, ln, sh, e1, e2, e3, h0, -vBin_shl]
    | none =>
      obtain ⟨h3, h4⟩ := gmN_bl ⟨l.length, by omega⟩ hg h0
      have h5 := gmN_none ⟨l.length, by omega⟩ hg ⟨bl l.length - 1, h3⟩
      simp only at h3 h4 h5
      obtain ⟨k, hk⟩ : ∃ k, bl l.length = k + 1 := ⟨bl l.length - 1, by omega⟩
      rw [hk] at ln h3 h5
      rw [Nat.add_sub_cancel] at h3 h5
      have sh := i_shlB (n := k) (by omega)
      have h6 : ¬ (l.length : Int) = ((2 ^ k : Nat) : Int) := by omega
      have e3 : l ≠ [] := by intro h; exact h0 (by simp [h])
      generalize 2 ^ k = q at *
      simp (disch := omega) [game_Players, ln, sh, e3, h0, h6, -vBin_shl]
theorem two19_ev (n : Nat) (hn : n ≤ 12) : EX ip nv (.call F.dendronlaw19_two [.d (.int .i64 (n : Int))] []) = some (.ret (.d (.int .i64 ((2 ^ n : Nat) : Int))) []) := by
  rw [S_call dendronlaw19_two.ip rfl]
  obtain ⟨_, _, _, hr, -, rfl, rfl, rfl⟩ : ∃ z e μ, EX ip nv (.code (.loop [] [] dendronlaw19_two.b0) [(0, .d (.int .i64 (n : Int))), (3, .d (.int .i64 1)), (4, .d (.int .i64 0))] []) = some (.st z e μ) ∧ z ≠ .normal ∧
      z = .exit 0 ∧ e = [(0, .d (.int .i64 (n : Int))), (3, .d (.int .i64 ((2 ^ n : Nat) : Int))), (4, .d (.int .i64 (n : Int))), (7, .d (.bool false))] ∧ μ = [] := by
    refine loop_n n (fun i e μ => ∃ m : Nat, m = 2 ^ i ∧ e = [(0, .d (.int .i64 (n : Int))), (3, .d (.int .i64 (m : Int))), (4, .d (.int .i64 (i : Int)))] ∧ μ = []) ?_ ?_ ⟨1, rfl, rfl, rfl⟩
    · rintro i e μ hi ⟨m, hm, rfl, rfl⟩
      have hp : 2 ^ i ≤ 2 ^ 12 := Nat.pow_le_pow_right (by decide) (by omega)
      refine .inl ⟨_, _, ?_, 2 * m, by rw [hm, Nat.pow_succ, Nat.mul_comm], rfl, rfl⟩
      have e3 : IntKind.i64.wrap (2 * (m : Int)) = 2 * (m : Int) := i64_wrap (by omega) (by omega)
      simp (disch := omega) [dendronlaw19_two.b0, hi, e3]
    · rintro e μ ⟨m, hm, rfl, rfl⟩
      subst hm
      exact ⟨.exit 0, _, [], by simp [dendronlaw19_two.b0] <;> rfl, by simp, rfl, rfl, rfl⟩
  generalize 2 ^ n = m at *
  simp (disch := omega) [dendronlaw19_two, hr]
theorem size19_ev (l : List RQ) (hl : l.length ≤ 33) : EX ip nv (.call F.dendronlaw19_Size [.d (.sl 3 (el l))] []) = some (.ret (.d (.int .i64 (match gmN l.length with | some n => (n : Int) | none => -1))) []) := by
  rw [S_call dendronlaw19_Size.ip rfl]
  obtain ⟨x, e, μ, hr, -, hq⟩ : ∃ z e μ, EX ip nv (.code (.loop [] [] dendronlaw19_Size.b0) [(0, .d (.sl 3 (el l))), (3, .d (.int .i64 0))] []) = some (.st z e μ) ∧ z ≠ .normal ∧
      ((z = .exit 0 ∧ e = [(0, .d (.sl 3 (el l))), (3, .d (.int .i64 6)), (5, .d (.bool false))] ∧ μ = [] ∧ gmN l.length = none) ∨ (∃ n : Nat, z = .ret ∧ e = [(2, .d (.int .i64 (n : Int)))] ∧ μ = [] ∧ gmN l.length = some n)) := by
    refine loop_n 6 (fun i e μ => e = [(0, .d (.sl 3 (el l))), (3, .d (.int .i64 (i : Int)))] ∧ μ = [] ∧ ∀ j, j < i → l.length ≠ 2 ^ j) ?_ ?_ ⟨rfl, rfl, fun j hj => by omega⟩
    · rintro i e μ hi ⟨rfl, rfl, he⟩
      have tw := two19_ev (nv := nv) i (by omega)
      have hi6 : (i : Int) < 6 := by omega
      by_cases hc : l.length = 2 ^ i
      · have hg : gmN l.length = some i := by
          have : ∀ i : Fin 6, gmN (2 ^ i.val) = some i.val := by decide
          rw [hc]; exact this ⟨i, hi⟩
        have hc' : (l.length : Int) = ((2 ^ i : Nat) : Int) := by omega
        clear he hc
        generalize 2 ^ i = q at *
        exact .inr ⟨.ret, _, [], by simp (disch := omega) [dendronlaw19_Size.b0, hi6, tw, hc'] <;> rfl, by simp, .inr ⟨i, rfl, rfl, rfl, hg⟩⟩
      · have hc' : ¬ (l.length : Int) = ((2 ^ i : Nat) : Int) := by omega
        refine .inl ⟨_, _, ?_, rfl, rfl, fun j hj => ?_⟩
        · clear he hc
          generalize 2 ^ i = q at *
          simp (disch := omega) [dendronlaw19_Size.b0, hi6, tw, hc']
        · by_cases e : j = i
          · subst e; exact hc
          · exact he j (by omega)
    · rintro e μ ⟨rfl, rfl, he⟩
      refine ⟨.exit 0, _, [], by simp [dendronlaw19_Size.b0] <;> rfl, by simp, .inl ⟨rfl, rfl, rfl, ?_⟩⟩
      have := he 0 (by omega)
      have := he 1 (by omega)
      have := he 2 (by omega)
      have := he 3 (by omega)
      have := he 4 (by omega)
      have := he 5 (by omega)
      simp only [gmN]
      repeat rw [if_neg (by omega)]
  rcases hq with ⟨rfl, rfl, rfl, hg⟩ | ⟨n, rfl, rfl, rfl, hg⟩
  · simp (disch := omega) [dendronlaw19_Size, hr, hg]
  · simp (disch := omega) [dendronlaw19_Size, hr, hg]
end
end Go.Proofs.YtgigaimaaijalaaGreatDoor
