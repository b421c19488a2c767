/- Groups of players. -/
import Derived.Test.YtnmbpainnkdonaaGreatDoorZz
set_option linter.unusedSimpArgs false
set_option linter.unusedVariables false
namespace Go.Proofs.YtnmbpainnkdonaaGreatDoor
open Go Go.Proofs.R
set_option maxRecDepth 10000
section
variable {nv : R.Nv}
theorem two_ev (n : Nat) (hn : n ≤ 12) : EX ip nv (.call F.dendronlaw22_two [.d (.int .i64 (n : Int))] []) = some (.ret (.d (.int .i64 ((2 ^ n : Nat) : Int))) []) := by
  rw [S_call dendronlaw22_two.ip rfl]
  obtain ⟨_, _, _, hr, -, rfl, rfl, rfl⟩ : ∃ z e μ, EX ip nv (.code (.loop [] [] dendronlaw22_two.b0) [(0, .d (.int .i64 (n : Int))), (3, .d (.int .i64 1)), (4, .d (.int .i64 0))] []) = some (.st z e μ) ∧ z ≠ .normal ∧
      z = .exit 0 ∧ e = [(0, .d (.int .i64 (n : Int))), (3, .d (.int .i64 ((2 ^ n : Nat) : Int))), (4, .d (.int .i64 (n : Int))), (7, .d (.bool false))] ∧ μ = [] := by
    refine loop_n n (fun i e μ => ∃ m : Nat, m = 2 ^ i ∧ e = [(0, .d (.int .i64 (n : Int))), (3, .d (.int .i64 (m : Int))), (4, .d (.int .i64 (i : Int)))] ∧ μ = []) ?_ ?_ ⟨1, rfl, rfl, rfl⟩
    · rintro i e μ hi ⟨m, hm, rfl, rfl⟩
      have hp := pow_lt (n := i) (by omega)
      have e2 : ((2 * m : Nat) : Int) = 2 * (m : Int) := by omega
      refine .inl ⟨_, _, ?_, 2 * m, by rw [hm, Nat.pow_succ, Nat.mul_comm], rfl, rfl⟩
      have e3 : IntKind.i64.wrap (2 * (m : Int)) = 2 * (m : Int) := i64_wrap (by omega) (by omega)
      simp (disch := omega) [dendronlaw22_two.b0, hi, e3]
    · rintro e μ ⟨m, hm, rfl, rfl⟩
      subst hm
      exact ⟨.exit 0, _, [], by simp [dendronlaw22_two.b0] <;> rfl, by simp, rfl, rfl, rfl⟩
  generalize 2 ^ n = m at *
  simp (disch := omega) [dendronlaw22_two, hr]
theorem few22_ev (l : List Int) (hl : l.length ≤ maxLen) : EX ip nv (.call F.dendronlaw22_few [.d (.sl 1 (el l))] []) = some (.ret (.d (.sl 1 (el (l.take 12)))) []) := by
  rw [S_call dendronlaw22_few.ip rfl]
  by_cases h : (12 : Int) < l.length
  · simp (disch := omega) [dendronlaw22_few, h]
  · have : l.take 12 = l := List.take_of_length_le (by omega)
    simp (disch := omega) [dendronlaw22_few, h, this]
def twos (n : Nat) : List Int := (List.range n).map fun i => ((2 ^ i : Nat) : Int)
@[simp] theorem twos_len (n : Nat) : (twos n).length = n := by simp [twos]
theorem twos_succ (n : Nat) : twos (n + 1) = twos n ++ [((2 ^ n : Nat) : Int)] := by simp [twos, List.range_succ]
theorem twos_ix {n i : Nat} (h : i < n) : ix (twos n) i = ((2 ^ i : Nat) : Int) := by simp [ix, twos, h]
theorem alone_ev (n : Nat) (hn : n ≤ 12) : EX ip nv (.call F.owen_Alone [.d (.int .i64 (n : Int))] []) = some (.ret (.d (.sl 1 (el (twos n)))) []) := by
  rw [S_call owen_Alone.ip rfl]
  obtain ⟨_, _, _, hr, -, rfl, rfl, rfl⟩ : ∃ z e μ, EX ip nv (.code (.loop [] [] owen_Alone.b0) [(3, .own 3 1 0 0), (5, .d (.int .i64 (n : Int))), (6, .d (.int .i64 0))] [(3, ⟨0, false, []⟩)]) = some (.st z e μ) ∧ z ≠ .normal ∧
      z = .exit 0 ∧ e = [(3, .own 3 1 0 n), (5, .d (.int .i64 (n : Int))), (6, .d (.int .i64 (n : Int))), (7, .d (.bool false))] ∧ μ = [(3, ⟨0, false, el (twos n)⟩)] := by
    refine loop_n n (fun i e μ => ∃ l : List Int, l = twos i ∧ e = [(3, .own 3 1 0 i), (5, .d (.int .i64 (n : Int))), (6, .d (.int .i64 (i : Int)))] ∧ μ = [(3, ⟨0, false, el l⟩)]) ?_ ?_ ⟨[], rfl, rfl, rfl⟩
    · rintro i e μ hi ⟨l, hl, rfl, rfl⟩
      have hll : l.length = i := by rw [hl]; simp
      have hs := i_shl1 (n := i) (by omega)
      refine .inl ⟨_, _, ?_, l ++ [((2 ^ i : Nat) : Int)], by rw [hl, twos_succ], rfl, rfl⟩
      have ht : l.take i = l := List.take_of_length_le (by omega)
      generalize 2 ^ i = m at *
      simp (disch := omega) [owen_Alone.b0, hi, ht, hs, -vBin_shl]
    · rintro e μ ⟨l, hl, rfl, rfl⟩
      subst hl
      exact ⟨.exit 0, _, _, by simp [owen_Alone.b0] <;> first | rfl | exact ⟨rfl, rfl⟩, by simp, rfl, rfl, rfl⟩
  have := twos_len n
  simp (disch := simp) [owen_Alone, hr]
theorem awake22_ev : EX ip nv (.call F.dendronlaw22_awake [] []) = some (.ret (.d (.bool true)) []) := (EX_some ip nv).2 ⟨1000, by kernel_rfl⟩
/-- Groups one by one: each lies apart from those ahead. -/
def orF (n : Nat) : List Int → Nat → Bool
  | [], s => decide (s = 2 ^ n - 1)
  | g :: r, s => if g ≤ 0 then false else if ((2 ^ n : Nat) : Int) ≤ g then false else if s &&& g.toNat ≠ 0 then false else orF n r (s ||| g.toNat)
theorem owenRight_bad (l : List Int) (n : Int) (h : n < 0 ∨ 12 < n) : EX ip nv (.call F.owen_Right [.d (.sl 1 (el l)), .d (.int .i64 n)] []) = some (.ret (.d (.bool false)) []) := by
  rw [S_call owen_Right.ip rfl]
  by_cases h1 : n < 0
  · simp [owen_Right, h1]
  · have h2 : 12 < n := by omega
    simp [owen_Right, h1, h2]
theorem drop_ix' {l : List Int} {i : Nat} (h : i < l.length) : l.drop i = ix l i :: l.drop (i + 1) := by
  rw [List.drop_eq_getElem_cons h]; simp [ix, h]
theorem owenRight_ev (l : List Int) (n : Nat) (hn : n ≤ 12) (hl : l.length ≤ 1000000) : EX ip nv (.call F.owen_Right [.d (.sl 1 (el l)), .d (.int .i64 (n : Int))] []) = some (.ret (.d (.bool (orF n l 0))) []) := by
  rw [S_call owen_Right.ip rfl]
  have hs := i_shl1 hn
  have hp := pow_lt hn
  obtain ⟨x, e, μ, hr, -, hq⟩ : ∃ x e μ, EX ip nv (.code (.loop [] [] owen_Right.b0) [(1, .d (.int .i64 (n : Int))), (5, .d (.int .i64 0)), (14, .d (.sl 1 (el l))), (15, .d (.int .i64 (l.length : Int))), (16, .d (.int .i64 0))] []) = some (.st x e μ) ∧ x ≠ .normal ∧
      ((∃ (s : Nat) (v w u' : V), x = .exit 0 ∧ e = [(1, .d (.int .i64 (n : Int))), (5, .d (.int .i64 (s : Int))), (14, u'), (15, v), (16, w), (17, .d (.bool false))] ∧ μ = [] ∧ orF n l 0 = decide (s = 2 ^ n - 1)) ∨ (x = .ret ∧ e = [(4, .d (.bool false))] ∧ μ = [] ∧ orF n l 0 = false)) := by
    refine loop_n l.length (fun i e μ => ∃ s : Nat, e = [(1, .d (.int .i64 (n : Int))), (5, .d (.int .i64 (s : Int))), (14, .d (.sl 1 (el l))), (15, .d (.int .i64 (l.length : Int))), (16, .d (.int .i64 (i : Int)))] ∧ μ = [] ∧ s < 2 ^ n ∧ orF n l 0 = orF n (l.drop i) s) ?_ ?_ ⟨0, rfl, rfl, Nat.two_pow_pos n, rfl⟩
    · rintro i e μ hi ⟨s, rfl, rfl, hsn, he⟩
      rw [drop_ix' hi, orF] at he
      by_cases c1 : ix l i ≤ 0
      · rw [if_pos c1] at he
        exact .inr ⟨.ret, [(4, .d (.bool false))], [], by simp (disch := omega) [owen_Right.b0, hi, c1], by simp, .inr ⟨rfl, rfl, rfl, he⟩⟩
      · rw [if_neg c1] at he
        by_cases c2 : ((2 ^ n : Nat) : Int) ≤ ix l i
        · rw [if_pos c2] at he
          generalize 2 ^ n = m at *
          exact .inr ⟨.ret, [(4, .d (.bool false))], [], by simp (disch := omega) [owen_Right.b0, hi, c1, hs, c2, -vBin_shl], by simp, .inr ⟨rfl, rfl, rfl, he⟩⟩
        · rw [if_neg c2] at he
          obtain ⟨g, hg⟩ : ∃ g : Nat, ix l i = (g : Int) := ⟨(ix l i).toNat, by omega⟩
          rw [hg] at c1 c2 he
          rw [Int.toNat_natCast] at he
          have ha := ibits_and (a := s) (b := g) (by omega) (by omega)
          have ho := ibits_or (a := s) (b := g) (by omega) (by omega)
          have hob : s ||| g < 2 ^ n := Nat.or_lt_two_pow hsn (by omega)
          by_cases c3 : s &&& g = 0
          · rw [if_neg (by simpa using c3)] at he
            refine .inl ⟨_, _, ?_, s ||| g, rfl, rfl, hob, he⟩
            clear he
            generalize s ||| g = o at *
            rw [c3, Int.natCast_zero] at ha
            have g0 : ¬ g = 0 := by omega
            generalize 2 ^ n = m at *
            simp (disch := omega) [owen_Right.b0, hi, hg, c1, g0, hs, c2, ha, ho, -vBin_shl]
          · rw [if_pos (by simpa using c3)] at he
            have c3' : ¬ ((s &&& g : Nat) : Int) = 0 := by omega
            have g0 : ¬ g = 0 := by omega
            clear hob
            generalize s &&& g = o at *
            generalize 2 ^ n = m at *
            exact .inr ⟨.ret, [(4, .d (.bool false))], [], by simp (disch := omega) [owen_Right.b0, hi, hg, c1, g0, hs, c2, ha, c3, c3', -vBin_shl], by simp, .inr ⟨rfl, rfl, rfl, he⟩⟩
    · rintro e μ ⟨s, rfl, rfl, hsn, he⟩
      rw [List.drop_of_length_le (Nat.le_refl _), orF] at he
      exact ⟨.exit 0, _, [], by simp [owen_Right.b0] <;> rfl, by simp, .inl ⟨s, .d (.int .i64 (l.length : Int)), .d (.int .i64 (l.length : Int)), .d (.sl 1 (el l)), rfl, rfl, rfl, he⟩⟩
  have h1 : ¬ (n : Int) < 0 := by omega
  have h2 : ¬ (12 : Int) < (n : Int) := by omega
  rcases hq with ⟨s, v, w, u', rfl, rfl, rfl, ho⟩ | ⟨rfl, rfl, rfl, ho⟩
  · rw [ho]
    have hpos := Nat.two_pow_pos n
    have e1 : (s : Int) = ((2 ^ n : Nat) : Int) - 1 ↔ s = 2 ^ n - 1 := by omega
    clear ho
    generalize 2 ^ n = m at *
    simp (disch := omega) [owen_Right, h1, h2, hr, hs, e1, -vBin_shl]
  · rw [ho]
    simp (disch := omega) [owen_Right, h1, h2, hr]
end
end Go.Proofs.YtnmbpainnkdonaaGreatDoor

/-! OwenRights: what the law computes. -/
namespace Go.Proofs.YtnmbpainnkdonaaGreatDoor
open Go Go.Proofs.R
set_option maxRecDepth 10000
/-- Are numbers groups of so many players? -/
def rightG (l : List Int) (n : Nat) : Bool := l.all (fun g => decide (0 < g ∧ g < ((2 ^ n : Nat) : Int))) && (List.range n).all fun p => l.countP (fun g => g.toNat.testBit p) == 1
theorem bit_ge {s n p : Nat} (h : s < 2 ^ n) (hp : n ≤ p) : s.testBit p = false := Nat.testBit_lt_two_pow (Nat.lt_of_lt_of_le h (Nat.pow_le_pow_right (by decide) hp))
theorem orF_iff (n : Nat) : ∀ (l : List Int) (s : Nat), s < 2 ^ n → (orF n l s = true ↔ (∀ g ∈ l, 0 < g ∧ g < ((2 ^ n : Nat) : Int)) ∧ ∀ p, p < n → (s.testBit p).toNat + l.countP (fun g => g.toNat.testBit p) = 1)
  | [], s, hs => by
    simp only [orF, decide_eq_true_eq, List.not_mem_nil, false_imp_iff, implies_true, true_and, List.countP_nil, Nat.add_zero]
    constructor
    · rintro rfl p hp
      rw [Nat.testBit_two_pow_sub_one]; simp [hp]
    · intro h
      apply Nat.eq_of_testBit_eq
      intro p
      rw [Nat.testBit_two_pow_sub_one]
      by_cases hp : p < n
      · have := h p hp
        cases hb : s.testBit p
        · rw [hb] at this; simp at this
        · simp [hp]
      · rw [bit_ge hs (by omega)]; simp [hp]
  | g :: r, s, hs => by
    rw [orF]
    by_cases c1 : g ≤ 0
    · rw [if_pos c1]
      simp only [Bool.false_eq_true, false_iff]
      rintro ⟨h, _⟩
      have := h g (by simp)
      omega
    rw [if_neg c1]
    by_cases c2 : ((2 ^ n : Nat) : Int) ≤ g
    · rw [if_pos c2]
      simp only [Bool.false_eq_true, false_iff]
      rintro ⟨h, _⟩
      have := (h g (by simp)).2
      omega
    rw [if_neg c2]
    have hg : g.toNat < 2 ^ n := by omega
    by_cases c3 : s &&& g.toNat = 0
    · rw [if_neg (by simpa using c3), orF_iff n r _ (Nat.or_lt_two_pow hs hg)]
      have hbit : ∀ p, ((s ||| g.toNat).testBit p).toNat = (s.testBit p).toNat + (g.toNat.testBit p).toNat := by
        intro p
        have : (s &&& g.toNat).testBit p = false := by rw [c3]; exact Nat.zero_testBit p
        rw [Nat.testBit_and] at this
        rw [Nat.testBit_or]
        cases h3 : s.testBit p <;> cases h4 : g.toNat.testBit p <;> simp [h3, h4] at this ⊢
      have hcp : ∀ p, (g :: r).countP (fun g => g.toNat.testBit p) = (g.toNat.testBit p).toNat + r.countP (fun g => g.toNat.testBit p) := by
        intro p
        rw [List.countP_cons]
        cases g.toNat.testBit p <;> simp
        omega
      constructor
      · rintro ⟨h1, h2⟩
        refine ⟨fun x hx => ?_, fun p hp => ?_⟩
        · rcases List.mem_cons.1 hx with rfl | hx
          · omega
          · exact h1 x hx
        · have := h2 p hp
          rw [hbit] at this
          rw [hcp]; omega
      · rintro ⟨h1, h2⟩
        refine ⟨fun x hx => h1 x (by simp [hx]), fun p hp => ?_⟩
        have := h2 p hp
        rw [hcp] at this
        rw [hbit]; omega
    · rw [if_pos (by simpa using c3)]
      simp only [Bool.false_eq_true, false_iff]
      rintro ⟨_, h2⟩
      apply c3
      apply Nat.eq_of_testBit_eq
      intro p
      rw [Nat.zero_testBit, Nat.testBit_and]
      by_cases hp : p < n
      · have := h2 p hp
        rw [List.countP_cons] at this
        cases h3 : s.testBit p
        · rfl
        · cases h4 : g.toNat.testBit p
          · rfl
          · rw [h3, h4] at this; simp at this
      · rw [bit_ge hs (by omega)]; rfl
theorem orF_right (n : Nat) (l : List Int) : orF n l 0 = rightG l n := by
  rw [Bool.eq_iff_iff, orF_iff n l 0 (Nat.two_pow_pos n)]
  simp only [rightG, Bool.and_eq_true, List.all_eq_true, decide_eq_true_eq, List.mem_range, beq_iff_eq, Nat.zero_testBit, Bool.toNat_false, Nat.zero_add]
section
variable {nv : R.Nv}
theorem right_b4 (l : List Int) (n p : Nat) (hn : n ≤ 12) (hl : l.length ≤ 1000000) (hp : p ≤ 12) (hg : ∀ g ∈ l, 0 < g ∧ g < ((2 ^ n : Nat) : Int)) : ∃ z e μ, EX ip nv (.code (.loop [] [] dendronlaw22_right.b4) [(0, .d (.sl 1 (el l))), (1, .d (.int .i64 (n : Int))), (6, .d (.int .i64 (p : Int))), (7, .d (.int .i64 0)), (8, .d (.int .i64 0))] []) = some (.st z e μ) ∧ z ≠ .normal ∧
    z = .exit 4 ∧ e = [(0, .d (.sl 1 (el l))), (1, .d (.int .i64 (n : Int))), (6, .d (.int .i64 (p : Int))), (7, .d (.int .i64 (l.countP (fun g => g.toNat.testBit p) : Nat))), (8, .d (.int .i64 (l.length : Int))), (37, .d (.bool false))] ∧ μ = [] := by
  have hpw := pow_lt hn
  refine loop_n l.length (fun k e μ => ∃ m : Nat, e = [(0, .d (.sl 1 (el l))), (1, .d (.int .i64 (n : Int))), (6, .d (.int .i64 (p : Int))), (7, .d (.int .i64 (m : Int))), (8, .d (.int .i64 (k : Int)))] ∧ μ = [] ∧ m = (l.take k).countP (fun g => g.toNat.testBit p)) ?_ ?_ ⟨0, rfl, rfl, by simp⟩
  · rintro k e μ hk ⟨m, rfl, rfl, hm⟩
    have l1 : m ≤ k := by rw [hm]; exact Nat.le_trans List.countP_le_length (by simp; omega)
    have hmem : ix l k ∈ l := by
      have : ix l k = l[k] := by simp [ix, hk]
      rw [this]; exact List.getElem_mem hk
    obtain ⟨g0, g1⟩ := hg _ hmem
    have e1 : (l.take (k + 1)).countP (fun g => g.toNat.testBit p) = m + if (ix l k).toNat.testBit p then 1 else 0 := by
      have : l.take (k + 1) = l.take k ++ [ix l k] := by rw [List.take_add_one, ix_in hk]; rfl
      rw [this, List.countP_append, ← hm]; simp [List.countP_cons]
    obtain ⟨g, hgn⟩ : ∃ g : Nat, ix l k = (g : Int) := ⟨(ix l k).toNat, by omega⟩
    rw [hgn] at g0 g1 e1
    rw [Int.toNat_natCast] at e1
    have i1 := in_ev (nv := nv) g p (by generalize 2 ^ n = q at *; omega) (by omega)
    refine .inl ⟨_, _, ?_, m + (if g.testBit p then 1 else 0), rfl, rfl, e1.symm⟩
    cases hb : g.testBit p
    · rw [hb] at i1
      simp (disch := omega) [dendronlaw22_right.b4, hk, hgn, i1]
    · rw [hb] at i1
      simp (disch := omega) [dendronlaw22_right.b4, hk, hgn, i1]
  · rintro e μ ⟨m, rfl, rfl, hm⟩
    rw [List.take_of_length_le (Nat.le_refl _)] at hm
    subst hm
    exact ⟨.exit 4, _, [], by simp [dendronlaw22_right.b4] <;> rfl, by simp, rfl, rfl, rfl⟩
theorem right22_ev (l : List Int) (n : Nat) (hn : n ≤ 12) (hl : l.length ≤ 1000000) : EX ip nv (.call F.dendronlaw22_right [.d (.sl 1 (el l)), .d (.int .i64 (n : Int))] []) = some (.ret (.d (.bool (rightG l n))) []) := by
  rw [S_call dendronlaw22_right.ip rfl]
  have tw := two_ev (nv := nv) n hn
  have hpw := pow_lt hn
  obtain ⟨x, e, μ, hr, -, hq⟩ : ∃ x e μ, EX ip nv (.code (.loop [] [] dendronlaw22_right.b0) [(0, .d (.sl 1 (el l))), (1, .d (.int .i64 (n : Int))), (5, .d (.int .i64 0))] []) = some (.st x e μ) ∧ x ≠ .normal ∧
      ((x = .exit 0 ∧ e = [(0, .d (.sl 1 (el l))), (1, .d (.int .i64 (n : Int))), (5, .d (.int .i64 (l.length : Int))), (12, .d (.bool false))] ∧ μ = [] ∧ ∀ g ∈ l, 0 < g ∧ g < ((2 ^ n : Nat) : Int)) ∨ (x = .ret ∧ e = [(4, .d (.bool false))] ∧ μ = [] ∧ rightG l n = false)) := by
    refine loop_n l.length (fun i e μ => e = [(0, .d (.sl 1 (el l))), (1, .d (.int .i64 (n : Int))), (5, .d (.int .i64 (i : Int)))] ∧ μ = [] ∧ ∀ g ∈ l.take i, 0 < g ∧ g < ((2 ^ n : Nat) : Int)) ?_ ?_ ⟨rfl, rfl, by simp⟩
    · rintro i e μ hi ⟨rfl, rfl, he⟩
      have hmem : ix l i ∈ l := by
        have : ix l i = l[i] := by simp [ix, hi]
        rw [this]; exact List.getElem_mem hi
      by_cases hc : 0 < ix l i ∧ ix l i < ((2 ^ n : Nat) : Int)
      · have c1 : ¬ ix l i < 1 := by omega
        have c2 : ¬ ((2 ^ n : Nat) : Int) ≤ ix l i := by omega
        refine .inl ⟨_, _, ?_, rfl, rfl, ?_⟩
        · clear he hc
          generalize 2 ^ n = q at *
          simp (disch := omega) [dendronlaw22_right.b0, hi, tw, c1, c2]
        · intro g hg
          have : l.take (i + 1) = l.take i ++ [ix l i] := by rw [List.take_add_one, ix_in hi]; rfl
          rw [this] at hg
          rcases List.mem_append.1 hg with hg | hg
          · exact he g hg
          · rw [List.mem_singleton] at hg; subst hg; exact hc
      · have hf : rightG l n = false := by
          rw [Bool.eq_false_iff]
          intro h
          simp only [rightG, Bool.and_eq_true, List.all_eq_true, decide_eq_true_eq] at h
          exact hc (h.1 _ hmem)
        by_cases c1 : ix l i < 1
        · exact .inr ⟨.ret, [(4, .d (.bool false))], [], by simp (disch := omega) [dendronlaw22_right.b0, hi, c1], by simp, .inr ⟨rfl, rfl, rfl, hf⟩⟩
        · have c2 : ((2 ^ n : Nat) : Int) ≤ ix l i := by omega
          clear hc he
          generalize 2 ^ n = q at *
          exact .inr ⟨.ret, [(4, .d (.bool false))], [], by simp (disch := omega) [dendronlaw22_right.b0, hi, tw, c1, c2], by simp, .inr ⟨rfl, rfl, rfl, hf⟩⟩
    · rintro e μ ⟨rfl, rfl, he⟩
      rw [List.take_of_length_le (Nat.le_refl _)] at he
      exact ⟨.exit 0, _, [], by simp [dendronlaw22_right.b0] <;> rfl, by simp, .inl ⟨rfl, rfl, rfl, he⟩⟩
  rcases hq with ⟨rfl, rfl, rfl, hg⟩ | ⟨rfl, rfl, rfl, hf⟩
  · have hall : l.all (fun g => decide (0 < g ∧ g < ((2 ^ n : Nat) : Int))) = true := by
      rw [List.all_eq_true]; intro g h; simpa using hg g h
    obtain ⟨x, e, μ, hr2, -, hq⟩ : ∃ x e μ, EX ip nv (.code (.loop [] [] dendronlaw22_right.b2) [(0, .d (.sl 1 (el l))), (1, .d (.int .i64 (n : Int))), (6, .d (.int .i64 0))] []) = some (.st x e μ) ∧ x ≠ .normal ∧
        ((x = .exit 2 ∧ e = [(0, .d (.sl 1 (el l))), (1, .d (.int .i64 (n : Int))), (6, .d (.int .i64 (n : Int))), (31, .d (.bool false))] ∧ μ = [] ∧ rightG l n = true) ∨ (x = .ret ∧ e = [(4, .d (.bool false))] ∧ μ = [] ∧ rightG l n = false)) := by
      refine loop_n n (fun i e μ => e = [(0, .d (.sl 1 (el l))), (1, .d (.int .i64 (n : Int))), (6, .d (.int .i64 (i : Int)))] ∧ μ = [] ∧ ∀ p, p < i → l.countP (fun g => g.toNat.testBit p) = 1) ?_ ?_ ⟨rfl, rfl, fun p hp => by omega⟩
      · rintro i e μ hi ⟨rfl, rfl, he⟩
        obtain ⟨_, _, _, lp, -, rfl, rfl, rfl⟩ := right_b4 (nv := nv) l n i hn hl (by omega) hg
        by_cases hc : l.countP (fun g => g.toNat.testBit i) = 1
        · refine .inl ⟨_, _, ?_, rfl, rfl, ?_⟩
          · have hc' : ((l.countP (fun g => g.toNat.testBit i) : Nat) : Int) = 1 := by omega
            clear he hc
            generalize l.countP (fun g => g.toNat.testBit i) = c at *
            simp (disch := omega) [dendronlaw22_right.b2, hi, lp, hc']
          · intro p hp
            by_cases e : p = i
            · subst e; exact hc
            · exact he p (by omega)
        · have hf : rightG l n = false := by
            rw [Bool.eq_false_iff]
            intro h
            simp only [rightG, Bool.and_eq_true, List.all_eq_true, decide_eq_true_eq, List.mem_range, beq_iff_eq] at h
            exact hc (h.2 i hi)
          have hc' : ¬ ((l.countP (fun g => g.toNat.testBit i) : Nat) : Int) = 1 := by omega
          clear he hc
          generalize l.countP (fun g => g.toNat.testBit i) = c at *
          exact .inr ⟨.ret, [(4, .d (.bool false))], [], by simp (disch := omega) [dendronlaw22_right.b2, hi, lp, hc'], by simp, .inr ⟨rfl, rfl, rfl, hf⟩⟩
      · rintro e μ ⟨rfl, rfl, he⟩
        refine ⟨.exit 2, _, [], by simp [dendronlaw22_right.b2] <;> rfl, by simp, .inl ⟨rfl, rfl, rfl, ?_⟩⟩
        simp only [rightG, hall, Bool.true_and, List.all_eq_true, List.mem_range, beq_iff_eq]
        exact he
    rcases hq with ⟨rfl, rfl, rfl, ho⟩ | ⟨rfl, rfl, rfl, ho⟩
    · simp (disch := omega) [dendronlaw22_right, hr, hr2, ho]
    · simp (disch := omega) [dendronlaw22_right, hr, hr2, ho]
  · simp (disch := omega) [dendronlaw22_right, hr, hf]
theorem twos_right : ∀ n : Fin 13, rightG (twos n) n = true := by decide +kernel
end
end Go.Proofs.YtnmbpainnkdonaaGreatDoor
