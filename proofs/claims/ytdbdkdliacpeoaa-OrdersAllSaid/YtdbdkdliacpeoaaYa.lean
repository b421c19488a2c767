/- All orders, and what the law says of them. -/
import Derived.Test.YtdbdkdliacpeoaaQc
set_option linter.unusedSimpArgs false
set_option linter.unusedVariables false
namespace Go.Proofs.Ytdbdkdliacpeoaa
open Go Go.Proofs.R
set_option maxRecDepth 10000
section
variable {nv : R.Nv}
/-- Lists, from one on. -/
def allL : Nat → List Int → List (List Int)
  | 0, _ => []
  | f + 1, o => o :: match nextL o with
    | some n => allL f n
    | none => []
def allD : Nat → List Int → Bool
  | 0, _ => false
  | f + 1, o => match nextL o with
    | some n => allD f n
    | none => true
theorem nextL_len {l n : List Int} (h : nextL l = some n) : n.length = l.length := by
  rcases nextL_spec l with ⟨h1, _⟩ | ⟨n', p, x, s1, z, s2, h1, hn⟩
  · rw [h1] at h; cases h
  · rw [h1] at h; cases h; exact hn.perm.length_eq.symm
theorem all_loop : ∀ (f : Nat) (acc : List (List Int)) (o : List Int), allD f o = true → o.length ≤ 1000 → acc.length + f ≤ 1000000 →
    EX ip nv (.code (.loop [] [] orders_All.b0) [(4, .own 4 1 0 acc.length), (5, .d (.sl 1 (el o))), (6, .d (.bool true))] [(4, ⟨0, false, el acc⟩)]) =
      some (.st (.exit 0) [(4, .own 4 1 0 (acc.length + (allL f o).length)), (5, .d (.sl 1 [])), (15, .d (.bool false))] [(4, ⟨0, false, el (acc ++ allL f o)⟩)])
  | 0, acc, o, h, _, _ => by simp [allD] at h
  | f + 1, acc, o, h, hol, hl => by
    have nx := next_ev (nv := nv) o (by omega)
    rw [R_loop]
    cases hn : nextL o with
    | some n =>
      have e1 : nextV o = .tp [.d (.sl 1 (el n)), .d (.bool true)] := by simp [nextV, hn]
      rw [e1] at nx
      have body : EX ip nv (.code orders_All.b0 [(4, .own 4 1 0 acc.length), (5, .d (.sl 1 (el o))), (6, .d (.bool true))] [(4, ⟨0, false, el acc⟩)]) = some (.st .normal [(4, .own 4 1 0 (acc ++ [o]).length), (5, .d (.sl 1 (el n))), (6, .d (.bool true))] [(4, ⟨0, false, el (acc ++ [o])⟩)]) := by
        simp (disch := omega) [orders_All.b0, nx]
      simp only [allD, hn] at h
      have hnl := nextL_len hn
      simp only [killT_nil, killB, body]
      rw [all_loop f (acc ++ [o]) n h (by omega) (by simp; omega)]
      simp only [allL, hn, List.length_append, List.length_cons, List.length_nil, List.append_assoc, List.cons_append, List.nil_append]
      rw [show acc.length + (0 + 1) + (allL f n).length = acc.length + ((allL f n).length + 1) by omega]
    | none =>
      have e1 : nextV o = .tp [.d (.sl 1 []), .d (.bool false)] := by simp [nextV, hn]
      rw [e1] at nx
      have body : EX ip nv (.code orders_All.b0 [(4, .own 4 1 0 acc.length), (5, .d (.sl 1 (el o))), (6, .d (.bool true))] [(4, ⟨0, false, el acc⟩)]) = some (.st .normal [(4, .own 4 1 0 (acc.length + 1)), (5, .d (.sl 1 [])), (6, .d (.bool false))] [(4, ⟨0, false, el (acc ++ [o])⟩)]) := by
        simp (disch := omega) [orders_All.b0, nx]
      simp only [killT_nil, killB, body]
      rw [R_loop]
      simp [orders_All.b0, allL, hn]
theorem all_ev (n : Nat) (hn : n ≤ 7) (hd : allD 5041 (iot n) = true) : EX ip nv (.call F.orders_All [.d (.int .i64 (n : Int))] []) = some (.ret (.tp [.d (.sl 1 (el (allL 5041 (iot n)))), .d (.int .i64 0)]) []) := by
  rw [S_call orders_All.ip rfl]
  have f := first_ev (nv := nv) (n : Int) (by omega)
  rw [Int.toNat_natCast] at f
  have lp := all_loop (nv := nv) 5041 [] (iot n) hd (by simp; omega) (by simp)
  have h1 : ¬ (n : Int) < 0 := by omega
  have h2 : ¬ (7 : Int) < (n : Int) := by omega
  simp only [List.length_nil, Nat.zero_add, List.nil_append, el_nil] at lp
  generalize allL 5041 (iot n) = l at *
  generalize iot n = o at *
  simp (disch := omega) [orders_All, f, h1, h2, lp]
theorem all_bad (n : Int) (h : n < 0 ∨ 7 < n) : EX ip nv (.call F.orders_All [.d (.int .i64 n)] []) = some (.ret (.tp [.d (.sl 1 []), .d (.int .i64 16)]) []) := by
  rw [S_call orders_All.ip rfl]
  by_cases h1 : n < 0
  · simp [orders_All, h1]
  · have h2 : 7 < n := by omega
    simp [orders_All, h1, h2]
def rightB (o : List Int) (n : Nat) : Bool := decide (o.length = n) && (List.range n).all fun (i : Nat) => o.count (i : Int) == 1
theorem right_in (o : List Int) (n i : Nat) (ho : o.length ≤ 1000000) : ∃ y e μ, EX ip nv (.code (.loop [] [] dendronlaw21_right.b2) [(0, .d (.sl 1 (el o))), (1, .d (.int .i64 (n : Int))), (5, .d (.int .i64 (i : Int))), (6, .d (.int .i64 0)), (7, .d (.int .i64 0))] []) = some (.st y e μ) ∧ y ≠ .normal ∧
    ∃ v w, y = .exit 2 ∧ e = [(0, .d (.sl 1 (el o))), (1, .d (.int .i64 (n : Int))), (5, .d (.int .i64 (i : Int))), (6, .d (.int .i64 ((o.count (i : Int) : Nat) : Int))), (7, v), (20, w)] ∧ μ = [] := by
  refine loop_n o.length (fun k e μ => ∃ m : Nat, e = [(0, .d (.sl 1 (el o))), (1, .d (.int .i64 (n : Int))), (5, .d (.int .i64 (i : Int))), (6, .d (.int .i64 (m : Int))), (7, .d (.int .i64 (k : Int)))] ∧ μ = [] ∧ m = (o.take k).count (i : Int)) ?_ ?_ ⟨0, rfl, rfl, by simp⟩
  · rintro k e μ hk ⟨m, rfl, rfl, hm⟩
    have l1 : m ≤ k := by rw [hm]; exact Nat.le_trans List.count_le_length (by simp; omega)
    have e1 : (o.take (k + 1)).count (i : Int) = m + if ix o k = (i : Int) then 1 else 0 := by
      rw [take_ix hk, List.count_append, ← hm]; simp [List.count_singleton]
    refine .inl ⟨_, _, ?_, m + (if ix o k = (i : Int) then 1 else 0), rfl, rfl, e1.symm⟩
    by_cases c1 : ix o k = (i : Int)
    · simp (disch := omega) [dendronlaw21_right.b2, hk, c1]
    · simp (disch := omega) [dendronlaw21_right.b2, hk, c1]
  · rintro e μ ⟨m, rfl, rfl, hm⟩
    rw [List.take_of_length_le (Nat.le_refl _)] at hm
    subst hm
    exact ⟨.exit 2, _, [], by simp [dendronlaw21_right.b2], by simp, .d (.int .i64 (o.length : Int)), .d (.bool false), rfl, rfl, rfl⟩
theorem right21_ev (o : List Int) (n : Nat) (ho : o.length ≤ 1000000) : EX ip nv (.call F.dendronlaw21_right [.d (.sl 1 (el o)), .d (.int .i64 (n : Int))] []) = some (.ret (.d (.bool (rightB o n))) []) := by
  rw [S_call dendronlaw21_right.ip rfl]
  by_cases h : o.length = n
  · obtain ⟨x, e, μ, hr, -, hp⟩ : ∃ x e μ, EX ip nv (.code (.loop [] [] dendronlaw21_right.b0) [(0, .d (.sl 1 (el o))), (1, .d (.int .i64 (n : Int))), (5, .d (.int .i64 0))] []) = some (.st x e μ) ∧ x ≠ .normal ∧
        ((∃ v w, x = .exit 0 ∧ e = [(0, .d (.sl 1 (el o))), (1, .d (.int .i64 (n : Int))), (5, v), (14, w)] ∧ μ = [] ∧ rightB o n = true) ∨ (x = .ret ∧ e = [(4, .d (.bool false))] ∧ μ = [] ∧ rightB o n = false)) := by
      refine loop_n n (fun i e μ => e = [(0, .d (.sl 1 (el o))), (1, .d (.int .i64 (n : Int))), (5, .d (.int .i64 (i : Int)))] ∧ μ = [] ∧ ∀ j : Nat, j < i → o.count (j : Int) = 1) ?_ ?_ ⟨rfl, rfl, fun j hj => by omega⟩
      · rintro i e μ hi ⟨rfl, rfl, he⟩
        obtain ⟨_, _, _, hl, -, v, w, rfl, rfl, rfl⟩ := right_in (nv := nv) o n i ho
        by_cases hc : o.count (i : Int) = 1
        · have hc' : ((o.count (i : Int) : Nat) : Int) = 1 := by omega
          refine .inl ⟨_, _, ?_, rfl, rfl, ?_⟩
          · simp (disch := omega) [dendronlaw21_right.b0, hi, hl, hc']
          · intro j hj
            by_cases e : j = i
            · subst e; exact hc
            · exact he j (by omega)
        · have hc' : ¬ ((o.count (i : Int) : Nat) : Int) = 1 := by omega
          refine .inr ⟨.ret, [(4, .d (.bool false))], [], by simp (disch := omega) [dendronlaw21_right.b0, hi, hl, hc'], by simp, .inr ⟨rfl, rfl, rfl, ?_⟩⟩
          simp only [rightB, Bool.and_eq_false_iff]
          right
          rw [List.all_eq_false]
          exact ⟨i, by simpa using hi, by simpa using hc⟩
      · rintro e μ ⟨rfl, rfl, he⟩
        refine ⟨.exit 0, _, [], by simp [dendronlaw21_right.b0] <;> rfl, by simp, .inl ⟨.d (.int .i64 (n : Int)), .d (.bool false), rfl, rfl, rfl, ?_⟩⟩
        simp only [rightB, h, decide_true, Bool.true_and, List.all_eq_true, List.mem_range, beq_iff_eq]
        exact fun j hj => he j hj
    have h' : (o.length : Int) = n := by omega
    rcases hp with ⟨v, w, rfl, rfl, rfl, hq⟩ | ⟨rfl, rfl, rfl, hq⟩
    · simp (disch := omega) [dendronlaw21_right, h', hr, hq]
    · simp (disch := omega) [dendronlaw21_right, h', hr, hq]
  · have h' : ¬ (o.length : Int) = n := by omega
    have : rightB o n = false := by simp [rightB, h]
    simp (disch := omega) [dendronlaw21_right, h', this]
def fct : Nat → Nat
  | 0 => 1
  | n + 1 => fct n * (n + 1)
theorem fct_le : ∀ i : Fin 6, fct i ≤ 120 := by decide
theorem fct_loop (n : Nat) (hn : n ≤ 5) (x y : V) : ∃ z e μ, EX ip nv (.code (.loop [] [] dendronlaw21_OrdersAll.b0) [(0, .d (.int .i64 (n : Int))), (3, x), (4, y), (5, .d (.int .i64 1)), (6, .d (.int .i64 1))] []) = some (.st z e μ) ∧ z ≠ .normal ∧
    z = .exit 0 ∧ e = [(0, .d (.int .i64 (n : Int))), (3, x), (4, y), (5, .d (.int .i64 (fct n : Int))), (6, .d (.int .i64 ((n : Int) + 1))), (38, .d (.bool false))] ∧ μ = [] := by
  refine loop_n n (fun i e μ => e = [(0, .d (.int .i64 (n : Int))), (3, x), (4, y), (5, .d (.int .i64 (fct i : Int))), (6, .d (.int .i64 ((i : Int) + 1)))] ∧ μ = []) ?_ ?_ ⟨rfl, rfl⟩
  · rintro i e μ hi ⟨rfl, rfl⟩
    have h1 := fct_le ⟨i, by omega⟩
    have h2 := fct_le ⟨i + 1, by omega⟩
    have h3 : IntKind.i64.wrap ((fct i : Int) * ((i : Int) + 1)) = (fct (i + 1) : Int) := by
      have e : (fct i : Int) * ((i : Int) + 1) = (fct (i + 1) : Int) := by simp [fct]
      rw [e, i64_wrap (by omega) (by simp only at h2; omega)]
    have hi' : (i : Int) + 1 ≤ (n : Int) := by omega
    refine .inl ⟨_, _, ?_, rfl, rfl⟩
    simp (disch := omega) [dendronlaw21_OrdersAll.b0, hi', h3]
  · rintro e μ ⟨rfl, rfl⟩
    have hi' : ¬ (n : Int) + 1 ≤ (n : Int) := by omega
    exact ⟨.exit 0, _, [], by simp (disch := omega) [dendronlaw21_OrdersAll.b0, hi'] <;> rfl, by simp, rfl, rfl, rfl⟩
/-- What the law looks at in the list of all orders. -/
def allOk (n : Nat) (l : List (List Int)) : Bool :=
  decide (l.length = fct n) && decide (ix l 0 = iot n) && (List.range l.length).all fun i => rightB (ix l i) n && (decide (i = 0) || lessL (ix l (i - 1)) (ix l i))
theorem all_facts : ∀ n : Fin 6, allD 5041 (iot n) = true ∧ allOk n (allL 5041 (iot n)) = true := by decide +kernel
theorem look_loop (n : Nat) (l : List (List Int)) (hl : l.length ≤ 1000) (hn : n ≤ 1000) (h : ∀ i, i < l.length → rightB (ix l i) n = true ∧ (0 < i → lessL (ix l (i - 1)) (ix l i) = true)) : ∃ z e μ, EX ip nv (.code (.loop [] [] dendronlaw21_OrdersAll.b2) [(0, .d (.int .i64 (n : Int))), (3, .d (.sl 1 (el l))), (7, .d (.int .i64 0))] []) = some (.st z e μ) ∧ z ≠ .normal ∧
    z = .exit 2 ∧ e = [(0, .d (.int .i64 (n : Int))), (3, .d (.sl 1 (el l))), (7, .d (.int .i64 (l.length : Int))), (64, .d (.bool false))] ∧ μ = [] := by
  have hlen : ∀ i, i < l.length → (ix l i).length = n := fun i hi => by
    have := (h i hi).1
    simp only [rightB, Bool.and_eq_true, decide_eq_true_eq] at this
    exact this.1
  refine loop_n l.length (fun i e μ => e = [(0, .d (.int .i64 (n : Int))), (3, .d (.sl 1 (el l))), (7, .d (.int .i64 (i : Int)))] ∧ μ = []) ?_ ?_ ⟨rfl, rfl⟩
  · rintro i e μ hi ⟨rfl, rfl⟩
    have rt := right21_ev (nv := nv) (ix l i) n (by rw [hlen i hi]; omega)
    rw [(h i hi).1] at rt
    refine .inl ⟨_, _, ?_, rfl, rfl⟩
    by_cases h0 : i = 0
    · subst h0
      simp only [Int.natCast_zero] at *
      simp (disch := omega) [dendronlaw21_OrdersAll.b2, hi, rt]
    · obtain ⟨k, rfl⟩ : ∃ k, i = k + 1 := ⟨i - 1, by omega⟩
      have ls := less21_ev (nv := nv) (ix l k) (ix l (k + 1)) (by rw [hlen _ (by omega)]; omega) (by rw [hlen _ (by omega), hlen _ hi]; omega)
      have hlt := (h (k + 1) hi).2 (by omega)
      rw [Nat.add_sub_cancel] at hlt
      rw [hlt] at ls
      clear h hlen h0
      have h1 : (k : Int) + 1 < (l.length : Int) := by omega
      have h2 : (0 : Int) < (k : Int) + 1 := by omega
      have h3 : (k : Int) + 1 - 1 = (k : Int) := by omega
      simp (disch := omega) [dendronlaw21_OrdersAll.b2, h1, h2, h3, rt, ls]
  · rintro e μ ⟨rfl, rfl⟩
    exact ⟨.exit 2, _, [], by simp [dendronlaw21_OrdersAll.b2] <;> rfl, by simp, rfl, rfl, rfl⟩
theorem ordersAll_ev (n : Int) : EX ip nv (.call F.dendronlaw21_OrdersAll [.d (.int .i64 n)] []) = some (.ret (.d (.bool true)) []) := by
  rw [S_call dendronlaw21_OrdersAll.ip rfl]
  have aw := awake21_ev (nv := nv)
  by_cases h5 : 5 < n
  · by_cases h7 : n ≤ 7
    · simp (disch := omega) [dendronlaw21_OrdersAll, h5, h7, aw]
    · have b := all_bad (nv := nv) n (by omega)
      have h8 : 7 < n := by omega
      have h0 : ¬ n < 0 := by omega
      simp (disch := omega) [dendronlaw21_OrdersAll, h5, h7, h8, h0, b, aw]
  · by_cases h0 : n < 0
    · have b := all_bad (nv := nv) n (by omega)
      simp (disch := omega) [dendronlaw21_OrdersAll, h5, h0, b, aw]
    · obtain ⟨m, rfl⟩ : ∃ m : Nat, n = (m : Int) := ⟨n.toNat, by omega⟩
      have hm : m ≤ 5 := by omega
      obtain ⟨hd, hok⟩ := all_facts ⟨m, by omega⟩
      simp only at hd hok
      have a := all_ev (nv := nv) m (by omega) hd
      have f := first_ev (nv := nv) (m : Int) (by omega)
      rw [Int.toNat_natCast] at f
      simp only [allOk, Bool.and_eq_true, decide_eq_true_eq, List.all_eq_true, List.mem_range, Bool.or_eq_true] at hok
      obtain ⟨⟨k1, k2⟩, k3⟩ := hok
      have sm := same21_ev (nv := nv) (iot m) (iot m) (by simp; omega) (by simp; omega)
      simp only [decide_true] at sm
      have hfp := fct_le ⟨m, by omega⟩
      simp only at hfp
      have hpos : 0 < fct m := by
        have : ∀ i : Fin 6, 0 < fct i := by decide
        exact this ⟨m, by omega⟩
      have h7 : ¬ (7 : Int) < (m : Int) := by omega
      generalize allL 5041 (iot m) = l at *
      obtain ⟨_, _, _, fl, -, rfl, rfl, rfl⟩ := fct_loop (nv := nv) m hm (.d (.sl 1 (el l))) (.d (.int .i64 0))
      have hk : ∀ i, i < l.length → rightB (ix l i) m = true ∧ (0 < i → lessL (ix l (i - 1)) (ix l i) = true) := by
        intro i hi
        refine ⟨(k3 i hi).1, fun h => ?_⟩
        rcases (k3 i hi).2 with h1 | h1
        · omega
        · exact h1
      obtain ⟨_, _, _, ll, -, rfl, rfl, rfl⟩ := look_loop (nv := nv) m l (by omega) (by omega) hk
      have k1' : (l.length : Int) = (fct m : Int) := by omega
      generalize iot m = o at *
      simp (disch := omega) [dendronlaw21_OrdersAll, h5, h0, h7, a, f, sm, fl, ll, k1', k2, aw]
end
end Go.Proofs.Ytdbdkdliacpeoaa
