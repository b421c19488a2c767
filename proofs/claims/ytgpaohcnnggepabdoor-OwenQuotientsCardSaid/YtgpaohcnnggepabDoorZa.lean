/- Groups of players. -/
import Derived.Test.YtgpaohcnnggepabDoorRd
import Derived.Test.YtgpaohcnnggepabDoorIr
set_option linter.unusedSimpArgs false
set_option linter.unusedVariables false
namespace Go.Proofs.YtgpaohcnnggepabDoor
open Go Go.Proofs.R
set_option maxRecDepth 10000
section
variable {nv : R.Nv}
theorem ibits_and {a b : Nat} (h : a < 9223372036854775808) (h' : b < 9223372036854775808) : bitsD .and .i64 (a : Int) (b : Int) = ((a &&& b : Nat) : Int) := by
  have e : ∀ x : Nat, x < 9223372036854775808 → (BitVec.ofInt 64 (x : Int)).toNat = x := fun x hx => by
    simp [BitVec.toNat_ofInt]; omega
  show IntKind.i64.wrap (((BitVec.ofInt 64 (a : Int) &&& BitVec.ofInt 64 (b : Int)).toNat : Nat) : Int) = _
  rw [BitVec.toNat_and, e a h, e b h']
  have : a &&& b ≤ a := Nat.and_le_left
  exact i64_wrap (by omega) (by omega)
theorem ibits_or {a b : Nat} (h : a < 9223372036854775808) (h' : b < 9223372036854775808) : bitsD .or .i64 (a : Int) (b : Int) = ((a ||| b : Nat) : Int) := by
  have e : ∀ x : Nat, x < 9223372036854775808 → (BitVec.ofInt 64 (x : Int)).toNat = x := fun x hx => by
    simp [BitVec.toNat_ofInt]; omega
  show IntKind.i64.wrap (((BitVec.ofInt 64 (a : Int) ||| BitVec.ofInt 64 (b : Int)).toNat : Nat) : Int) = _
  rw [BitVec.toNat_or, e a h, e b h']
  have : a ||| b < 2 ^ 63 := Nat.or_lt_two_pow (by omega) (by omega)
  exact i64_wrap (by omega) (by omega)
theorem pow_lt {n : Nat} (h : n ≤ 12) : 2 ^ n ≤ 4096 := Nat.pow_le_pow_right (by decide) h
theorem i_shl1 {n : Nat} (h : n ≤ 12) : vBin .shl (some (.d (.int .i64 1))) (some (.d (.int .i64 (n : Int)))) = some (.d (.int .i64 ((2 ^ n : Nat) : Int))) := by
  have hp := pow_lt h
  rw [vBin_shl, if_neg (by omega)]
  have : min ((n : Int)).toNat IntKind.i64.bits = n := by
    have : IntKind.i64.bits = 64 := rfl
    omega
  rw [this, Int.one_mul]
  have e : (2 : Int) ^ n = ((2 ^ n : Nat) : Int) := by simp
  rw [e]
  generalize 2 ^ n = q at *
  rw [i64_wrap (by omega) (by omega)]
theorem two_ev (n : Nat) (hn : n ≤ 12) : EX ip nv (.call F.dendronlaw22_two [.d (.int .i64 (n : Int))] []) = some (.ret (.d (.int .i64 ((2 ^ n : Nat) : Int))) []) := by
  rw [S_call dendronlaw22_two.ip rfl]
  obtain ⟨_, _, _, hr, -, rfl, rfl, rfl⟩ : ∃ z e μ, EX ip nv (.code (.loop [] [] dendronlaw22_two.b0) [(0, .d (.int .i64 (n : Int))), (3, .d (.int .i64 1)), (4, .d (.int .i64 0))] []) = some (.st z e μ) ∧ z ≠ .normal ∧
      z = .exit 0 ∧ e = [(0, .d (.int .i64 (n : Int))), (3, .d (.int .i64 ((2 ^ n : Nat) : Int))), (4, .d (.int .i64 (n : Int))), (7, .d (.bool false))] ∧ μ = [] := by
    refine loop_n n (fun i e μ => ∃ m : Nat, m = 2 ^ i ∧ e = [(0, .d (.int .i64 (n : Int))), (3, .d (.int .i64 (m : Int))), (4, .d (.int .i64 (i : Int)))] ∧ μ = []) ?_ ?_ ⟨1, rfl, rfl, rfl⟩
    · rintro i e μ hi ⟨m, hm, rfl, rfl⟩
      have hp := pow_lt (n := i) (by omega)
      have e2 : ((2 * m : Nat) : Int) = 2 * (m : Int) := by omega
      refine .inl ⟨_, _, ?_, 2 * m, by rw [hm, Nat.pow_succ, Nat.mul_comm], rfl, rfl⟩
      have e3 : IntKind.i64.wrap (2 * (m : Int)) = 2 * (m : Int) := i64_wrap (by omega) (by omega)
      simp (disch := omega) [dendronlaw22_two.b0, hi, e3]
    · rintro e μ ⟨m, hm, rfl, rfl⟩
      subst hm
      exact ⟨.exit 0, _, [], by simp [dendronlaw22_two.b0] <;> rfl, by simp, rfl, rfl, rfl⟩
  generalize 2 ^ n = m at *
  simp (disch := omega) [dendronlaw22_two, hr]
theorem few22_ev (l : List Int) (hl : l.length ≤ maxLen) : EX ip nv (.call F.dendronlaw22_few [.d (.sl 1 (el l))] []) = some (.ret (.d (.sl 1 (el (l.take 12)))) []) := by
  rw [S_call dendronlaw22_few.ip rfl]
  by_cases h : (12 : Int) < l.length
  · simp (disch := omega) [dendronlaw22_few, h]
  · have : l.take 12 = l := List.take_of_length_le (by omega)
    simp (disch := omega) [dendronlaw22_few, h, this]
theorem tdiv2 (a : Nat) : ((a : Int)).tdiv 2 = ((a / 2 : Nat) : Int) := rfl
theorem tmod2 (a : Nat) : ((a : Int)).tmod 2 = ((a % 2 : Nat) : Int) := rfl
theorem in_ev (s i : Nat) (hs : s < 9223372036854775808) (hi : i ≤ 1000000) : EX ip nv (.call F.dendronref19_In [.d (.int .i64 (s : Int)), .d (.int .i64 (i : Int))] []) = some (.ret (.d (.bool (s.testBit i))) []) := by
  rw [S_call dendronref19_In.ip rfl]
  obtain ⟨_, _, _, hr, -, rfl, rfl, rfl⟩ : ∃ z e μ, EX ip nv (.code (.loop [] [] dendronref19_In.b0) [(0, .d (.int .i64 (s : Int))), (1, .d (.int .i64 (i : Int))), (5, .d (.int .i64 0))] []) = some (.st z e μ) ∧ z ≠ .normal ∧
      z = .exit 0 ∧ e = [(0, .d (.int .i64 ((s / 2 ^ i : Nat) : Int))), (1, .d (.int .i64 (i : Int))), (5, .d (.int .i64 (i : Int))), (8, .d (.bool false))] ∧ μ = [] := by
    refine loop_n i (fun k e μ => ∃ m : Nat, m = s / 2 ^ k ∧ e = [(0, .d (.int .i64 (m : Int))), (1, .d (.int .i64 (i : Int))), (5, .d (.int .i64 (k : Int)))] ∧ μ = []) ?_ ?_ ⟨s, by simp, rfl, rfl⟩
    · rintro k e μ hk ⟨m, hm, rfl, rfl⟩
      have hle : m ≤ s := by rw [hm]; exact Nat.div_le_self _ _
      refine .inl ⟨_, _, ?_, m / 2, by rw [hm, Nat.div_div_eq_div_mul, Nat.pow_succ], rfl, rfl⟩
      have e3 : IntKind.i64.wrap ((m : Int) / 2) = ((m / 2 : Nat) : Int) := by rw [i64_wrap (by omega) (by omega)]; omega
      clear hm
      generalize m / 2 = q at *
      simp (disch := omega) [dendronref19_In.b0, hk, e3]
    · rintro e μ ⟨m, hm, rfl, rfl⟩
      subst hm
      exact ⟨.exit 0, _, [], by simp [dendronref19_In.b0] <;> rfl, by simp, rfl, rfl, rfl⟩
  rw [Nat.testBit_eq_decide_div_mod_eq]
  generalize s / 2 ^ i = m at *
  have e4 := tmod2 m
  have e5 : ((m % 2 : Nat) : Int) = 1 ↔ m % 2 = 1 := by omega
  generalize m % 2 = q at *
  simp (disch := omega) [dendronref19_In, hr, e4, e5]
def twos (n : Nat) : List Int := (List.range n).map fun i => ((2 ^ i : Nat) : Int)
@[simp] theorem twos_len (n : Nat) : (twos n).length = n := by simp [twos]
theorem twos_succ (n : Nat) : twos (n + 1) = twos n ++ [((2 ^ n : Nat) : Int)] := by simp [twos, List.range_succ]
theorem twos_ix {n i : Nat} (h : i < n) : ix (twos n) i = ((2 ^ i : Nat) : Int) := by simp [ix, twos, h]
theorem alone_ev (n : Nat) (hn : n ≤ 12) : EX ip nv (.call F.owen_Alone [.d (.int .i64 (n : Int))] []) = some (.ret (.d (.sl 1 (el (twos n)))) []) := by
  rw [S_call owen_Alone.ip rfl]
  obtain ⟨_, _, _, hr, -, rfl, rfl, rfl⟩ : ∃ z e μ, EX ip nv (.code (.loop [] [] owen_Alone.b0) [(3, .own 3 1 0 0), (5, .d (.int .i64 (n : Int))), (6, .d (.int .i64 0))] [(3, ⟨0, false, []⟩)]) = some (.st z e μ) ∧ z ≠ .normal ∧
      z = .exit 0 ∧ e = [(3, .own 3 1 0 n), (5, .d (.int .i64 (n : Int))), (6, .d (.int .i64 (n : Int))), (7, .d (.bool false))] ∧ μ = [(3, ⟨0, false, el (twos n)⟩)] := by
    refine loop_n n (fun i e μ => ∃ l : List Int, l = twos i ∧ e = [(3, .own 3 1 0 i), (5, .d (.int .i64 (n : Int))), (6, .d (.int .i64 (i : Int)))] ∧ μ = [(3, ⟨0, false, el l⟩)]) ?_ ?_ ⟨[], rfl, rfl, rfl⟩
    · rintro i e μ hi ⟨l, hl, rfl, rfl⟩
      have hll : l.length = i := by rw [hl]; simp
      have hs := i_shl1 (n := i) (by omega)
      refine .inl ⟨_, _, ?_, l ++ [((2 ^ i : Nat) : Int)], by rw [hl, twos_succ], rfl, rfl⟩
      have ht : l.take i = l := List.take_of_length_le (by omega)
      generalize 2 ^ i = m at *
      simp (disch := omega) [owen_Alone.b0, hi, ht, hs, -vBin_shl]
    · rintro e μ ⟨l, hl, rfl, rfl⟩
      subst hl
      exact ⟨.exit 0, _, _, by simp [owen_Alone.b0] <;> first | rfl | exact ⟨rfl, rfl⟩, by simp, rfl, rfl, rfl⟩
  have := twos_len n
  simp (disch := simp) [owen_Alone, hr]
theorem awake22_ev : EX ip nv (.call F.dendronlaw22_awake [] []) = some (.ret (.d (.bool true)) []) := (EX_some ip nv).2 ⟨1000, by kernel_rfl⟩
/-- Groups one by one: each lies apart from those ahead. -/
def orF (n : Nat) : List Int → Nat → Bool
  | [], s => decide (s = 2 ^ n - 1)
  | g :: r, s => if g ≤ 0 then false else if ((2 ^ n : Nat) : Int) ≤ g then false else if s &&& g.toNat ≠ 0 then false else orF n r (s ||| g.toNat)
theorem owenRight_bad (l : List Int) (n : Int) (h : n < 0 ∨ 12 < n) : EX ip nv (.call F.owen_Right [.d (.sl 1 (el l)), .d (.int .i64 n)] []) = some (.ret (.d (.bool false)) []) := by
  rw [S_call owen_Right.ip rfl]
  by_cases h1 : n < 0
  · simp [owen_Right, h1]
  · have h2 : 12 < n := by omega
    simp [owen_Right, h1, h2]
theorem drop_ix' {l : List Int} {i : Nat} (h : i < l.length) : l.drop i = ix l i :: l.drop (i + 1) := by
  rw [List.drop_eq_getElem_cons h]; simp [ix, h]
theorem owenRight_ev (l : List Int) (n : Nat) (hn : n ≤ 12) (hl : l.length ≤ 1000000) : EX ip nv (.call F.owen_Right [.d (.sl 1 (el l)), .d (.int .i64 (n : Int))] []) = some (.ret (.d (.bool (orF n l 0))) []) := by
  rw [S_call owen_Right.ip rfl]
  have hs := i_shl1 hn
  have hp := pow_lt hn
  obtain ⟨x, e, μ, hr, -, hq⟩ : ∃ x e μ, EX ip nv (.code (.loop [] [] owen_Right.b0) [(1, .d (.int .i64 (n : Int))), (5, .d (.int .i64 0)), (14, .d (.sl 1 (el l))), (15, .d (.int .i64 (l.length : Int))), (16, .d (.int .i64 0))] []) = some (.st x e μ) ∧ x ≠ .normal ∧
      ((∃ (s : Nat) (v w u' : V), x = .exit 0 ∧ e = [(1, .d (.int .i64 (n : Int))), (5, .d (.int .i64 (s : Int))), (14, u'), (15, v), (16, w), (17, .d (.bool false))] ∧ μ = [] ∧ orF n l 0 = decide (s = 2 ^ n - 1)) ∨ (x = .ret ∧ e = [(4, .d (.bool false))] ∧ μ = [] ∧ orF n l 0 = false)) := by
    refine loop_n l.length (fun i e μ => ∃ s : Nat, e = [(1, .d (.int .i64 (n : Int))), (5, .d (.int .i64 (s : Int))), (14, .d (.sl 1 (el l))), (15, .d (.int .i64 (l.length : Int))), (16, .d (.int .i64 (i : Int)))] ∧ μ = [] ∧ s < 2 ^ n ∧ orF n l 0 = orF n (l.drop i) s) ?_ ?_ ⟨0, rfl, rfl, Nat.two_pow_pos n, rfl⟩
    · rintro i e μ hi ⟨s, rfl, rfl, hsn, he⟩
      rw [drop_ix' hi, orF] at he
      by_cases c1 : ix l i ≤ 0
      · rw [if_pos c1] at he
        exact .inr ⟨.ret, [(4, .d (.bool false))], [], by simp (disch := omega) [owen_Right.b0, hi, c1], by simp, .inr ⟨rfl, rfl, rfl, he⟩⟩
      · rw [if_neg c1] at he
        by_cases c2 : ((2 ^ n : Nat) : Int) ≤ ix l i
        · rw [if_pos c2] at he
          generalize 2 ^ n = m at *
          exact .inr ⟨.ret, [(4, .d (.bool false))], [], by simp (disch := omega) [owen_Right.b0, hi, c1, hs, c2, -vBin_shl], by simp, .inr ⟨rfl, rfl, rfl, he⟩⟩
        · rw [if_neg c2] at he
          obtain ⟨g, hg⟩ : ∃ g : Nat, ix l i = (g : Int) := ⟨(ix l i).toNat, by omega⟩
          rw [hg] at c1 c2 he
          rw [Int.toNat_natCast] at he
          have ha := ibits_and (a := s) (b := g) (by omega) (by omega)
          have ho := ibits_or (a := s) (b := g) (by omega) (by omega)
          have hob : s ||| g < 2 ^ n := Nat.or_lt_two_pow hsn (by omega)
          by_cases c3 : s &&& g = 0
          · rw [if_neg (by simpa using c3)] at he
            refine .inl ⟨_, _, ?_, s ||| g, rfl, rfl, hob, he⟩
            clear he
            generalize s ||| g = o at *
            rw [c3, Int.natCast_zero] at ha
            have g0 : ¬ g = 0 := by omega
            generalize 2 ^ n = m at *
            simp (disch := omega) [owen_Right.b0, hi, hg, c1, g0, hs, c2, ha, ho, -vBin_shl]
          · rw [if_pos (by simpa using c3)] at he
            have c3' : ¬ ((s &&& g : Nat) : Int) = 0 := by omega
            have g0 : ¬ g = 0 := by omega
            clear hob
            generalize s &&& g = o at *
            generalize 2 ^ n = m at *
            exact .inr ⟨.ret, [(4, .d (.bool false))], [], by simp (disch := omega) [owen_Right.b0, hi, hg, c1, g0, hs, c2, ha, c3, c3', -vBin_shl], by simp, .inr ⟨rfl, rfl, rfl, he⟩⟩
    · rintro e μ ⟨s, rfl, rfl, hsn, he⟩
      rw [List.drop_of_length_le (Nat.le_refl _), orF] at he
      exact ⟨.exit 0, _, [], by simp [owen_Right.b0] <;> rfl, by simp, .inl ⟨s, .d (.int .i64 (l.length : Int)), .d (.int .i64 (l.length : Int)), .d (.sl 1 (el l)), rfl, rfl, rfl, he⟩⟩
  have h1 : ¬ (n : Int) < 0 := by omega
  have h2 : ¬ (12 : Int) < (n : Int) := by omega
  rcases hq with ⟨s, v, w, u', rfl, rfl, rfl, ho⟩ | ⟨rfl, rfl, rfl, ho⟩
  · rw [ho]
    have hpos := Nat.two_pow_pos n
    have e1 : (s : Int) = ((2 ^ n : Nat) : Int) - 1 ↔ s = 2 ^ n - 1 := by omega
    clear ho
    generalize 2 ^ n = m at *
    simp (disch := omega) [owen_Right, h1, h2, hr, hs, e1, -vBin_shl]
  · rw [ho]
    simp (disch := omega) [owen_Right, h1, h2, hr]
end
end Go.Proofs.YtgpaohcnnggepabDoor
