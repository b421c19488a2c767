/- The first order, the next one, all orders. -/
import Derived.Test.YtnmbpainnkdonaaGreatDoorRd
import Derived.Test.YtnmbpainnkdonaaGreatDoorRe
import Derived.Test.YtnmbpainnkdonaaGreatDoorIr
import Derived.Test.YtnmbpainnkdonaaGreatDoorVa
set_option linter.unusedSimpArgs false
set_option linter.unusedVariables false
namespace Go.Proofs.YtnmbpainnkdonaaGreatDoor
open Go Go.Proofs.R
set_option maxRecDepth 10000
section
variable {nv : R.Nv}
/-- The first numbers. -/
def iot (n : Nat) : List Int := (List.range n).map fun (j : Nat) => (j : Int)
theorem iot_succ (n : Nat) : iot (n + 1) = iot n ++ [(n : Int)] := by simp [iot, List.range_succ]
@[simp] theorem iot_len (n : Nat) : (iot n).length = n := by simp [iot]
theorem first_loop (n : Nat) (hn : n ≤ 1000000) : ∃ x e μ, EX ip nv (.code (.loop [] [] orders_First.b0) [(3, .own 3 1 0 0), (5, .d (.int .i64 (n : Int))), (6, .d (.int .i64 0))] [(3, ⟨0, false, []⟩)]) = some (.st x e μ) ∧ x ≠ .normal ∧
    x = .exit 0 ∧ e = [(3, .own 3 1 0 n), (5, .d (.int .i64 (n : Int))), (6, .d (.int .i64 (n : Int))), (7, .d (.bool false))] ∧ μ = [(3, ⟨0, false, el (iot n)⟩)] := by
  refine loop_n n (fun i e μ => ∃ l : List Int, l = iot i ∧ e = [(3, .own 3 1 0 i), (5, .d (.int .i64 (n : Int))), (6, .d (.int .i64 (i : Int)))] ∧ μ = [(3, ⟨0, false, el l⟩)]) ?_ ?_ ⟨[], rfl, rfl, rfl⟩
  · rintro i e μ hi ⟨l, hl, rfl, rfl⟩
    have hll : l.length = i := by rw [hl]; simp
    refine .inl ⟨_, _, ?_, l ++ [(i : Int)], by rw [hl, iot_succ], rfl, rfl⟩
    have ht : l.take i = l := List.take_of_length_le (by omega)
    simp (disch := omega) [orders_First.b0, hi, ht]
  · rintro e μ ⟨l, hl, rfl, rfl⟩
    subst hl
    exact ⟨_, _, _, by simp [orders_First.b0] <;> rfl, by simp, rfl, rfl, rfl⟩
theorem first_ev (n : Int) (hn : n ≤ 1000000) : EX ip nv (.call F.orders_First [.d (.int .i64 n)] []) = some (.ret (.d (.sl 1 (el (iot n.toNat)))) []) := by
  rw [S_call orders_First.ip rfl]
  by_cases h : 0 ≤ n
  · obtain ⟨m, rfl⟩ := Int.eq_ofNat_of_zero_le h
    obtain ⟨_, _, _, hr, -, rfl, rfl, rfl⟩ := first_loop (nv := nv) m (by omega)
    have := iot_len m
    simp (disch := simp) [orders_First, hr]
  · have h0 : n.toNat = 0 := by omega
    have h1 : ¬ (0 : Int) < n := by omega
    have hr : EX ip nv (.code (.loop [] [] orders_First.b0) [(3, .own 3 1 0 0), (5, .d (.int .i64 n)), (6, .d (.int .i64 0))] [(3, ⟨0, false, []⟩)]) =
      some (.st (.exit 0) [(3, .own 3 1 0 0), (5, .d (.int .i64 n)), (6, .d (.int .i64 0)), (7, .d (.bool false))] [(3, ⟨0, false, []⟩)]) := by
      rw [R_loop]
      simp [orders_First.b0, h1]
    simp [orders_First, hr, h0, iot]
theorem ix_D (l : List Int) (i : Nat) : ix l i = l.getD i 0 := rfl
theorem next_l0 (l : List Int) (hn : l.length ≤ 1000000) : ∀ k : Nat, k + 1 ≤ l.length →
    EX ip nv (.code (.loop [] [] orders_Next.b0) [(4, .own 9 1 0 l.length), (5, .d (.int .i64 ((k : Int) - 1)))] [(9, ⟨0, false, el l⟩)]) =
      some (.st (.exit 0) [(4, .own 9 1 0 l.length), (5, .d (.int .i64 (fI l k))), (28, .d (.bool false))] [(9, ⟨0, false, el l⟩)])
  | 0, h => by
    rw [R_loop]
    simp [orders_Next.b0, fI]
  | k + 1, h => by
    rw [R_loop]
    have e1 : ((k + 1 : Nat) : Int) - 1 = k := by omega
    by_cases hc : ix l (k + 1) ≤ ix l k
    · have body : EX ip nv (.code orders_Next.b0 [(4, .own 9 1 0 l.length), (5, .d (.int .i64 (((k + 1 : Nat) : Int) - 1)))] [(9, ⟨0, false, el l⟩)]) = some (.st .normal [(4, .own 9 1 0 l.length), (5, .d (.int .i64 ((k : Int) - 1)))] [(9, ⟨0, false, el l⟩)]) := by
        rw [e1]
        simp (disch := omega) [orders_Next.b0, hc]
      simp only [killT_nil, killB, body]
      rw [next_l0 l hn k (by omega)]
      rw [ix_D, ix_D] at hc
      simp only [fI, if_pos hc]
    · have body : EX ip nv (.code orders_Next.b0 [(4, .own 9 1 0 l.length), (5, .d (.int .i64 (((k + 1 : Nat) : Int) - 1)))] [(9, ⟨0, false, el l⟩)]) = some (.st (.exit 0) [(4, .own 9 1 0 l.length), (5, .d (.int .i64 (k : Int))), (28, .d (.bool false))] [(9, ⟨0, false, el l⟩)]) := by
        rw [e1]
        simp (disch := omega) [orders_Next.b0, hc]
      simp only [killT_nil, killB, body]
      rw [ix_D, ix_D] at hc
      simp only [fI, if_neg hc]
theorem next_l2 (l : List Int) (hn : l.length ≤ 1000000) (i : Nat) (hi : i < l.length) : ∀ k : Nat, k < l.length → (∃ j, j ≤ k ∧ l.getD i 0 < l.getD j 0) →
    EX ip nv (.code (.loop [] [] orders_Next.b2) [(4, .own 9 1 0 l.length), (5, .d (.int .i64 (i : Int))), (6, .d (.int .i64 (k : Int)))] [(9, ⟨0, false, el l⟩)]) =
      some (.st (.exit 2) [(4, .own 9 1 0 l.length), (5, .d (.int .i64 (i : Int))), (6, .d (.int .i64 (fK l (l.getD i 0) k : Int))), (44, .d (.bool false))] [(9, ⟨0, false, el l⟩)])
  | 0, h, ⟨j, hj, hlt⟩ => by
    obtain rfl : j = 0 := by omega
    rw [R_loop]
    have hc : ¬ ix l 0 ≤ ix l i := by rw [ix_D, ix_D]; omega
    simp (disch := omega) [orders_Next.b2, hc, fK]
  | k + 1, h, ⟨j, hj, hlt⟩ => by
    rw [R_loop]
    have e1 : ((k + 1 : Nat) : Int) = (k : Int) + 1 := by omega
    by_cases hc : ix l (k + 1) ≤ ix l i
    · have body : EX ip nv (.code orders_Next.b2 [(4, .own 9 1 0 l.length), (5, .d (.int .i64 (i : Int))), (6, .d (.int .i64 ((k + 1 : Nat) : Int)))] [(9, ⟨0, false, el l⟩)]) = some (.st .normal [(4, .own 9 1 0 l.length), (5, .d (.int .i64 (i : Int))), (6, .d (.int .i64 (k : Int)))] [(9, ⟨0, false, el l⟩)]) := by
        rw [e1]
        simp (disch := omega) [orders_Next.b2, hc]
      simp only [killT_nil, killB, body]
      rw [ix_D, ix_D] at hc
      rw [next_l2 l hn i hi k (by omega) ⟨j, by
        by_cases e : j = k + 1
        · subst e; omega
        · omega, hlt⟩]
      simp only [fK, if_pos hc]
    · have body : EX ip nv (.code orders_Next.b2 [(4, .own 9 1 0 l.length), (5, .d (.int .i64 (i : Int))), (6, .d (.int .i64 ((k + 1 : Nat) : Int)))] [(9, ⟨0, false, el l⟩)]) = some (.st (.exit 2) [(4, .own 9 1 0 l.length), (5, .d (.int .i64 (i : Int))), (6, .d (.int .i64 ((k + 1 : Nat) : Int))), (44, .d (.bool false))] [(9, ⟨0, false, el l⟩)]) := by
        rw [e1]
        simp (disch := omega) [orders_Next.b2, hc]
      simp only [killT_nil, killB, body]
      rw [ix_D, ix_D] at hc
      simp only [fK, if_neg hc]
theorem next_l4 : ∀ (f : Nat) (l : List Int) (a b : Nat), l.length ≤ 1000000 → b ≤ a + f → b < l.length → a ≤ l.length →
    ∃ w w' : Int, EX ip nv (.code (.loop [] [] orders_Next.b4) [(4, .own 9 1 0 l.length), (7, .d (.int .i64 (a : Int))), (8, .d (.int .i64 (b : Int)))] [(9, ⟨0, false, el l⟩)]) =
      some (.st (.exit 4) [(4, .own 9 1 0 l.length), (7, .d (.int .i64 w)), (8, .d (.int .i64 w')), (68, .d (.bool false))] [(9, ⟨0, false, el (rev4 f l a b)⟩)])
  | 0, l, a, b, hn, hf, hb, ha => by
    have hc : ¬ (a : Int) < (b : Int) := by omega
    refine ⟨a, b, ?_⟩
    rw [R_loop]
    simp (disch := omega) [orders_Next.b4, hc, rev4]
  | f + 1, l, a, b, hn, hf, hb, ha => by
    by_cases hc : a < b
    · have body : EX ip nv (.code orders_Next.b4 [(4, .own 9 1 0 l.length), (7, .d (.int .i64 (a : Int))), (8, .d (.int .i64 (b : Int)))] [(9, ⟨0, false, el l⟩)]) =
          some (.st .normal [(4, .own 9 1 0 l.length), (7, .d (.int .i64 ((a + 1 : Nat) : Int))), (8, .d (.int .i64 ((b - 1 : Nat) : Int)))] [(9, ⟨0, false, el ((l.set a (ix l b)).set b (ix l a))⟩)]) := by
        have hc' : (a : Int) < (b : Int) := by omega
        have h1 : a < l.length := by omega
        have e1 : (l.set a (ix l b)).length = l.length := by simp
        have e2 : ((b - 1 : Nat) : Int) = (b : Int) - 1 := by omega
        simp (disch := first | omega | (simp; omega)) [orders_Next.b4, hc', hc, e1, e2]
      have hl : ((l.set a (ix l b)).set b (ix l a)).length = l.length := by simp
      obtain ⟨w, w', ih⟩ := next_l4 f ((l.set a (ix l b)).set b (ix l a)) (a + 1) (b - 1) (by omega) (by omega) (by omega) (by omega)
      rw [hl] at ih
      refine ⟨w, w', ?_⟩
      rw [R_loop]
      simp only [killT_nil, killB, body]
      rw [ih, rev4, if_pos hc, ix_D, ix_D]
    · have hc' : ¬ (a : Int) < (b : Int) := by omega
      refine ⟨a, b, ?_⟩
      rw [R_loop]
      simp (disch := omega) [orders_Next.b4, hc', rev4, hc]
def nextV (l : List Int) : V := match nextL l with
  | some n => .tp [.d (.sl 1 (el n)), .d (.bool true)]
  | none => .tp [.d (.sl 1 []), .d (.bool false)]
theorem rev4_len : ∀ (f : Nat) (l : List Int) (a b : Nat), (rev4 f l a b).length = l.length
  | 0, l, a, b => rfl
  | f + 1, l, a, b => by
    rw [rev4]
    split
    · rw [rev4_len]; simp
    · rfl
theorem next_ev (l : List Int) (hn : l.length ≤ 1000000) : EX ip nv (.call F.orders_Next [.d (.sl 1 (el l))] []) = some (.ret (nextV l) []) := by
  rw [S_call orders_Next.ip rfl]
  by_cases h0 : l = []
  · subst h0
    have e : nextV [] = .tp [.d (.sl 1 []), .d (.bool false)] := by simp [nextV, nextL, fI]
    have hr : EX ip nv (.code (.loop [] [] orders_Next.b0) [(4, .own 9 1 0 0), (5, .d (.int .i64 (-2)))] [(9, ⟨0, false, []⟩)]) = some (.st (.exit 0) [(4, .own 9 1 0 0), (5, .d (.int .i64 (-2))), (28, .d (.bool false))] [(9, ⟨0, false, []⟩)]) := by
      rw [R_loop]
      simp [orders_Next.b0]
    rw [e]
    simp (disch := omega) [orders_Next, hr]
  have hl : 0 < l.length := List.length_pos_iff.2 h0
  have r0 := next_l0 (nv := nv) l hn (l.length - 1) (by omega)
  have e0 : (((l.length - 1 : Nat) : Int) - 1) = (l.length : Int) - 2 := by omega
  rw [e0] at r0
  obtain ⟨h1, h2, h3⟩ := fI_desc l (l.length - 1) (by omega)
  unfold nextV nextL
  by_cases hf : fI l (l.length - 1) < 0
  · rw [if_pos hf]
    simp (disch := omega) [orders_Next, r0, hf]
  · rw [if_neg hf]
    obtain ⟨i, hi⟩ : ∃ i : Nat, fI l (l.length - 1) = (i : Int) := ⟨(fI l (l.length - 1)).toNat, by omega⟩
    obtain ⟨h4, h5⟩ := h2 (by omega)
    rw [hi] at r0 h4 h5 ⊢
    simp only [Int.toNat_natCast] at h5 ⊢
    have r2 := next_l2 (nv := nv) l hn i (by omega) (l.length - 1) (by omega) ⟨i + 1, by omega, h5⟩
    have e2 : (((l.length - 1 : Nat) : Int)) = (l.length : Int) - 1 := by omega
    rw [e2] at r2
    obtain ⟨k1, -, -⟩ := fK_spec l (l.getD i 0) (l.length - 1) ⟨i + 1, by omega, h5⟩
    rw [← ix_D l i] at k1 r2 ⊢
    generalize fK l (ix l i) (l.length - 1) = k at *
    rw [← ix_D l k]
    obtain ⟨w, w', r4⟩ := next_l4 (nv := nv) l.length ((l.set i (ix l k)).set k (ix l i)) (i + 1) (l.length - 1) (by simp; omega) (by omega) (by simp; omega) (by simp; omega)
    have hl4 : ((l.set i (ix l k)).set k (ix l i)).length = l.length := by simp
    rw [hl4] at r4
    have e3 : ((i + 1 : Nat) : Int) = (i : Int) + 1 := by omega
    rw [e2, e3] at r4
    have hl5 := rev4_len l.length ((l.set i (ix l k)).set k (ix l i)) (i + 1) (l.length - 1)
    rw [hl4] at hl5
    generalize rev4 l.length ((l.set i (ix l k)).set k (ix l i)) (i + 1) (l.length - 1) = n at *
    have e1 : (l.set i (ix l k)).length = l.length := by simp
    have hni : ¬ (i : Int) < 0 := by omega
    have hil : i < l.length := by omega
    have hkl : k < l.length := by omega
    simp (disch := first | omega | (simp; omega)) [orders_Next, r0, r2, r4, hni, e1, hl5, hil, hkl]
/-- Lists, from one on. -/
def allL : Nat → List Int → List (List Int)
  | 0, _ => []
  | f + 1, o => o :: match nextL o with
    | some n => allL f n
    | none => []
def allD : Nat → List Int → Bool
  | 0, _ => false
  | f + 1, o => match nextL o with
    | some n => allD f n
    | none => true
theorem nextL_len {l n : List Int} (h : nextL l = some n) : n.length = l.length := by
  rcases nextL_spec l with ⟨h1, _⟩ | ⟨n', p, x, s1, z, s2, h1, hn⟩
  · rw [h1] at h; cases h
  · rw [h1] at h; cases h; exact hn.perm.length_eq.symm
theorem all_loop : ∀ (f : Nat) (acc : List (List Int)) (o : List Int), allD f o = true → o.length ≤ 1000 → acc.length + f ≤ 1000000 →
    EX ip nv (.code (.loop [] [] orders_All.b0) [(4, .own 4 1 0 acc.length), (5, .d (.sl 1 (el o))), (6, .d (.bool true))] [(4, ⟨0, false, el acc⟩)]) =
      some (.st (.exit 0) [(4, .own 4 1 0 (acc.length + (allL f o).length)), (5, .d (.sl 1 [])), (15, .d (.bool false))] [(4, ⟨0, false, el (acc ++ allL f o)⟩)])
  | 0, acc, o, h, _, _ => by simp [allD] at h
  | f + 1, acc, o, h, hol, hl => by
    have nx := next_ev (nv := nv) o (by omega)
    rw [R_loop]
    cases hn : nextL o with
    | some n =>
      have e1 : nextV o = .tp [.d (.sl 1 (el n)), .d (.bool true)] := by simp [nextV, hn]
      rw [e1] at nx
      have body : EX ip nv (.code orders_All.b0 [(4, .own 4 1 0 acc.length), (5, .d (.sl 1 (el o))), (6, .d (.bool true))] [(4, ⟨0, false, el acc⟩)]) = some (.st .normal [(4, .own 4 1 0 (acc ++ [o]).length), (5, .d (.sl 1 (el n))), (6, .d (.bool true))] [(4, ⟨0, false, el (acc ++ [o])⟩)]) := by
        simp (disch := omega) [orders_All.b0, nx]
      simp only [allD, hn] at h
      have hnl := nextL_len hn
      simp only [killT_nil, killB, body]
      rw [all_loop f (acc ++ [o]) n h (by omega) (by simp; omega)]
      simp only [allL, hn, List.length_append, List.length_cons, List.length_nil, List.append_assoc, List.cons_append, List.nil_append]
      rw [show acc.length + (0 + 1) + (allL f n).length = acc.length + ((allL f n).length + 1) by omega]
    | none =>
      have e1 : nextV o = .tp [.d (.sl 1 []), .d (.bool false)] := by simp [nextV, hn]
      rw [e1] at nx
      have body : EX ip nv (.code orders_All.b0 [(4, .own 4 1 0 acc.length), (5, .d (.sl 1 (el o))), (6, .d (.bool true))] [(4, ⟨0, false, el acc⟩)]) = some (.st .normal [(4, .own 4 1 0 (acc.length + 1)), (5, .d (.sl 1 [])), (6, .d (.bool false))] [(4, ⟨0, false, el (acc ++ [o])⟩)]) := by
        simp (disch := omega) [orders_All.b0, nx]
      simp only [killT_nil, killB, body]
      rw [R_loop]
      simp [orders_All.b0, allL, hn]
theorem all_ev (n : Nat) (hn : n ≤ 7) (hd : allD 5041 (iot n) = true) : EX ip nv (.call F.orders_All [.d (.int .i64 (n : Int))] []) = some (.ret (.tp [.d (.sl 1 (el (allL 5041 (iot n)))), .d (.int .i64 0)]) []) := by
  rw [S_call orders_All.ip rfl]
  have f := first_ev (nv := nv) (n : Int) (by omega)
  rw [Int.toNat_natCast] at f
  have lp := all_loop (nv := nv) 5041 [] (iot n) hd (by simp; omega) (by simp)
  have h1 : ¬ (n : Int) < 0 := by omega
  have h2 : ¬ (7 : Int) < (n : Int) := by omega
  simp only [List.length_nil, Nat.zero_add, List.nil_append, el_nil] at lp
  generalize allL 5041 (iot n) = l at *
  generalize iot n = o at *
  simp (disch := omega) [orders_All, f, h1, h2, lp]
theorem all_bad (n : Int) (h : n < 0 ∨ 7 < n) : EX ip nv (.call F.orders_All [.d (.int .i64 n)] []) = some (.ret (.tp [.d (.sl 1 []), .d (.int .i64 16)]) []) := by
  rw [S_call orders_All.ip rfl]
  by_cases h1 : n < 0
  · simp [orders_All, h1]
  · have h2 : 7 < n := by omega
    simp [orders_All, h1, h2]
/-- All orders of few players are orders, and there are some. -/
theorem all_right : ∀ n : Fin 6, allD 5041 (iot n) = true ∧ (allL 5041 (iot n)).length ≤ 120 ∧ 0 < (allL 5041 (iot n)).length ∧ (allL 5041 (iot n)).all (fun o => rightB o n.val) = true := by decide +kernel
end
end Go.Proofs.YtnmbpainnkdonaaGreatDoor
