/- The interpreter of the road R, part Re: its data, its steps, and that it is right. -/
import Derived.Test.YtnmbpainnkdonaaGreatDoorRd
set_option linter.unusedVariables false
set_option linter.unusedSimpArgs false
/- The next order of some numbers, as plain mathematics: it is the least of those above. -/
namespace Go.Proofs.R

/-- Does a list stand ahead of another one? -/
def lessL : List Int → List Int → Bool
  | a :: r, b :: s => if a < b then true else if b < a then false else lessL r s
  | _, _ => false

theorem lessL_pre (p a b : List Int) : lessL (p ++ a) (p ++ b) = lessL a b := by
  induction p with
  | nil => rfl
  | cons x p ih => simp [lessL, ih]

theorem max_desc : ∀ {s q : List Int}, s.Pairwise (fun a b => b ≤ a) → s.Perm q → lessL s q = false
  | [], q, _, h => by simp [lessL]
  | a :: r, [], _, h => by simp [lessL]
  | a :: r, b :: t, hs, h => by
    obtain ⟨h1, h2⟩ := List.pairwise_cons.1 hs
    have hb : b ∈ a :: r := h.mem_iff.2 (by simp)
    have hba : b ≤ a := by
      rcases List.mem_cons.1 hb with rfl | hb
      · omega
      · exact h1 b hb
    simp only [lessL]
    rw [if_neg (by omega)]
    split
    · rfl
    · have : a = b := by omega
      subst this
      exact max_desc h2 h.cons_inv

theorem min_asc : ∀ {s q : List Int}, s.Pairwise (fun a b => a ≤ b) → s.Perm q → lessL q s = false
  | [], q, _, h => by cases q <;> simp [lessL]
  | a :: r, [], _, h => by simp [lessL]
  | a :: r, b :: t, hs, h => by
    obtain ⟨h1, h2⟩ := List.pairwise_cons.1 hs
    have hb : b ∈ a :: r := h.mem_iff.2 (by simp)
    have hba : a ≤ b := by
      rcases List.mem_cons.1 hb with rfl | hb
      · omega
      · exact h1 b hb
    simp only [lessL]
    rw [if_neg (by omega)]
    split
    · rfl
    · have : a = b := by omega
      subst this
      exact min_asc h2 h.cons_inv

/-- A list and the next one. -/
structure Nx (l n : List Int) (p : List Int) (x : Int) (s1 : List Int) (z : Int) (s2 : List Int) : Prop where
  l : l = p ++ x :: (s1 ++ z :: s2)
  n : n = p ++ z :: (s1 ++ x :: s2).reverse
  desc : (s1 ++ z :: s2).Pairwise (fun a b => b ≤ a)
  lt : x < z
  low : ∀ y ∈ s2, y ≤ x

theorem Nx.perm {l n p : List Int} {x : Int} {s1 : List Int} {z : Int} {s2 : List Int} (h : Nx l n p x s1 z s2) : l.Perm n := by
  rw [h.l, h.n]
  refine List.Perm.append_left p ?_
  have e1 : (x :: (s1 ++ z :: s2)).Perm (x :: z :: (s1 ++ s2)) := List.Perm.cons x List.perm_middle
  have e2 : (z :: (s1 ++ x :: s2).reverse).Perm (z :: x :: (s1 ++ s2)) := List.Perm.cons z ((List.reverse_perm _).trans List.perm_middle)
  exact e1.trans ((List.Perm.swap z x _).trans e2.symm)
theorem Nx.less {l n p : List Int} {x : Int} {s1 : List Int} {z : Int} {s2 : List Int} (h : Nx l n p x s1 z s2) : lessL l n = true := by
  rw [h.l, h.n, lessL_pre]
  simp only [lessL, h.lt, if_true]
theorem Nx.least_aux {x z : Int} {s1 s2 : List Int} (desc : (s1 ++ z :: s2).Pairwise (fun a b => b ≤ a)) (lt : x < z) (low : ∀ y ∈ s2, y ≤ x) : ∀ (p q : List Int), (p ++ x :: (s1 ++ z :: s2)).Perm q → lessL (p ++ x :: (s1 ++ z :: s2)) q = true →
    lessL q (p ++ z :: (s1 ++ x :: s2).reverse) = false
  | [], [], hp, hl => by simp [lessL] at hl
  | c :: p, [], hp, hl => by simp [lessL] at hl
  | c :: p, d :: q, hp, hl => by
    simp only [List.cons_append, lessL] at hl ⊢
    by_cases h1 : c < d
    · rw [if_neg (by omega), if_pos h1]
    · rw [if_neg h1] at hl
      by_cases h2 : d < c
      · rw [if_pos h2] at hl; cases hl
      · rw [if_neg h2] at hl
        have : c = d := by omega
        subst this
        rw [if_neg (by omega), if_neg (by omega)]
        exact Nx.least_aux desc lt low p q hp.cons_inv hl
  | [], y :: q, hp, hl => by
    simp only [List.nil_append, lessL] at hl hp ⊢
    have hz1 : ∀ a ∈ s1, z ≤ a := fun a ha => (List.pairwise_append.1 desc).2.2 a ha z (by simp)
    by_cases h1 : x < y
    · have hy : y ∈ x :: (s1 ++ z :: s2) := hp.mem_iff.2 (by simp)
      have hzy : z ≤ y := by
        simp only [List.mem_cons, List.mem_append] at hy
        rcases hy with rfl | hy | rfl | hy
        · omega
        · exact hz1 y hy
        · omega
        · have := low y hy; omega
      rw [if_neg (by omega)]
      by_cases h2 : z < y
      · rw [if_pos h2]
      · have : y = z := by omega
        subst this
        rw [if_neg h2]
        have e1 : (x :: (s1 ++ y :: s2)).Perm (y :: (s1 ++ x :: s2)) :=
          (List.Perm.cons x List.perm_middle).trans ((List.Perm.swap y x _).trans (List.Perm.cons y List.perm_middle.symm))
        have e2 : (s1 ++ x :: s2).Perm q := (e1.symm.trans hp).cons_inv
        refine min_asc (List.pairwise_reverse.2 ?_) ((List.reverse_perm _).trans e2)
        rw [List.pairwise_append] at desc ⊢
        refine ⟨desc.1, List.pairwise_cons.2 ⟨low, (List.pairwise_cons.1 desc.2.1).2⟩, fun a ha b hb => ?_⟩
        rcases List.mem_cons.1 hb with rfl | hb
        · have := hz1 a ha; omega
        · exact desc.2.2 a ha b (by simp [hb])
    · rw [if_neg h1] at hl
      by_cases h2 : y < x
      · rw [if_pos h2] at hl; cases hl
      · rw [if_neg h2] at hl
        have : x = y := by omega
        subst this
        rw [max_desc desc hp.cons_inv] at hl
        cases hl
theorem Nx.least {l n p : List Int} {x : Int} {s1 : List Int} {z : Int} {s2 : List Int} (h : Nx l n p x s1 z s2) {q : List Int} (hp : l.Perm q) (hl : lessL l q = true) : lessL q n = false := by
  rw [h.n]
  rw [h.l] at hp hl
  exact Nx.least_aux h.desc h.lt h.low p q hp hl

/-- Lists of one length whose numbers are as often. -/
theorem perm_of_counts : ∀ {a b : List Int}, a.length = b.length → (∀ x ∈ a, a.count x = b.count x) → a.Perm b
  | [], b, h, _ => by
    have : b = [] := List.length_eq_zero_iff.1 h.symm
    rw [this]
  | x :: r, b, h, hc => by
    have hx : x ∈ b := by
      have := hc x (by simp)
      rw [List.count_cons_self] at this
      exact List.count_pos_iff.1 (by omega)
    have e := List.perm_cons_erase hx
    refine (List.Perm.cons x (perm_of_counts ?_ fun y hy => ?_)).trans e.symm
    · have := e.length_eq
      simp only [List.length_cons] at this h
      omega
    · have h1 := hc y (by simp [hy])
      rw [e.count_eq, List.count_cons, List.count_cons] at h1
      omega
end Go.Proofs.R

/- What the next list's three loops make. -/
namespace Go.Proofs.R
def fI (l : List Int) : Nat → Int
  | 0 => -1
  | k + 1 => if l.getD (k + 1) 0 ≤ l.getD k 0 then fI l k else k
def fK (l : List Int) (x : Int) : Nat → Nat
  | 0 => 0
  | k + 1 => if l.getD (k + 1) 0 ≤ x then fK l x k else k + 1
def rev4 : Nat → List Int → Nat → Nat → List Int
  | 0, l, _, _ => l
  | f + 1, l, a, b => if a < b then rev4 f ((l.set a (l.getD b 0)).set b (l.getD a 0)) (a + 1) (b - 1) else l
def nextL (l : List Int) : Option (List Int) :=
  if fI l (l.length - 1) < 0 then none else
    some (rev4 l.length ((l.set (fI l (l.length - 1)).toNat (l.getD (fK l (l.getD (fI l (l.length - 1)).toNat 0) (l.length - 1)) 0)).set (fK l (l.getD (fI l (l.length - 1)).toNat 0) (l.length - 1)) (l.getD (fI l (l.length - 1)).toNat 0)) ((fI l (l.length - 1)).toNat + 1) (l.length - 1))
theorem fI_desc (l : List Int) : ∀ k : Nat, k < l.length → (∀ j : Nat, fI l k < (j : Int) → j < k → l.getD (j + 1) 0 ≤ l.getD j 0) ∧ (0 ≤ fI l k → fI l k < k ∧ l.getD (fI l k).toNat 0 < l.getD ((fI l k).toNat + 1) 0) ∧ -1 ≤ fI l k
  | 0, _ => ⟨fun j h h' => by omega, fun h => by simp [fI] at h, by simp [fI]⟩
  | k + 1, hk => by
    obtain ⟨h1, h2, h3⟩ := fI_desc l k (by omega)
    simp only [fI]
    split
    · rename_i hc
      refine ⟨fun j hj hjk => ?_, fun h => ⟨by have := (h2 h).1; omega, (h2 h).2⟩, h3⟩
      by_cases e : j = k
      · subst e; exact hc
      · exact h1 j hj (by omega)
    · rename_i hc
      refine ⟨fun j hj hjk => by omega, fun _ => ⟨by omega, by simpa using Int.not_le.1 hc⟩, by omega⟩
theorem fK_spec (l : List Int) (x : Int) : ∀ k : Nat, (∃ j, j ≤ k ∧ x < l.getD j 0) → fK l x k ≤ k ∧ x < l.getD (fK l x k) 0 ∧ ∀ j, fK l x k < j → j ≤ k → l.getD j 0 ≤ x
  | 0, ⟨j, hj, h⟩ => by
    obtain rfl : j = 0 := by omega
    exact ⟨Nat.le_refl _, h, fun j h1 h2 => by simp only [fK] at h1; omega⟩
  | k + 1, ⟨j, hj, h⟩ => by
    simp only [fK]
    split
    · rename_i hc
      obtain ⟨h1, h2, h3⟩ := fK_spec l x k ⟨j, by
        by_cases e : j = k + 1
        · subst e; omega
        · omega, h⟩
      refine ⟨by omega, h2, fun j hj hjk => ?_⟩
      by_cases e : j = k + 1
      · subst e; exact hc
      · exact h3 j hj (by omega)
    · rename_i hc
      exact ⟨Nat.le_refl _, by omega, fun j h1 h2 => by omega⟩
theorem getD_mid (p s : List Int) (y : Int) (b : Nat) (h : b = p.length) : (p ++ y :: s).getD b 0 = y := by subst h; simp
theorem set_mid (p s : List Int) (y x : Int) (b : Nat) (h : b = p.length) : (p ++ y :: s).set b x = p ++ x :: s := by subst h; simp
/-- A part turned round. -/
theorem rev4_eq : ∀ (f : Nat) (p m s : List Int) (a b : Nat), a = p.length → b + 1 = p.length + m.length → m.length ≤ 2 * f + 1 → rev4 f (p ++ m ++ s) a b = p ++ m.reverse ++ s
  | 0, p, m, s, a, b, ha, hb, hf => by
    match m with
    | [] => simp [rev4]
    | [x] => simp [rev4]
    | x :: y :: m => simp at hf
  | f + 1, p, m, s, a, b, ha, hb, hf => by
    rw [rev4]
    split
    · rename_i h
      obtain ⟨x, m1, rfl⟩ : ∃ x m1, m = x :: m1 := by
        cases m with
        | nil => simp at hb; omega
        | cons x m1 => exact ⟨x, m1, rfl⟩
      obtain ⟨m2, y, rfl⟩ : ∃ m2 y, m1 = m2 ++ [y] := by
        rcases List.eq_nil_or_concat m1 with h0 | ⟨m2, y, h0⟩
        · subst h0; simp at hb; omega
        · exact ⟨m2, y, by simpa using h0⟩
      simp only [List.length_cons, List.length_append, List.length_nil] at hb hf
      have e0 : p ++ (x :: (m2 ++ [y])) ++ s = (p ++ x :: m2) ++ y :: s := by simp
      have e0' : p ++ (x :: (m2 ++ [y])) ++ s = p ++ x :: (m2 ++ y :: s) := by simp
      have e1 : (p ++ (x :: (m2 ++ [y])) ++ s).getD b 0 = y := by rw [e0]; exact getD_mid _ _ _ _ (by simp; omega)
      have e2 : (p ++ (x :: (m2 ++ [y])) ++ s).getD a 0 = x := by rw [e0']; exact getD_mid _ _ _ _ ha
      rw [e1, e2]
      have e3 : ((p ++ (x :: (m2 ++ [y])) ++ s).set a y).set b x = (p ++ [y]) ++ m2 ++ ([x] ++ s) := by
        rw [e0', set_mid _ _ _ _ _ ha, show p ++ y :: (m2 ++ y :: s) = (p ++ y :: m2) ++ y :: s by simp, set_mid _ _ _ _ _ (by simp; omega)]
        simp
      rw [e3, rev4_eq f (p ++ [y]) m2 ([x] ++ s) (a + 1) (b - 1) (by simp; omega) (by simp; omega) (by omega)]
      simp
    · rename_i h
      match m with
      | [] => simp
      | [x] => simp
      | x :: y :: m => simp at hb; omega
/-- The next list is the least above; where there is none, the list falls. -/
theorem nextL_spec (l : List Int) : (nextL l = none ∧ l.Pairwise (fun a b => b ≤ a)) ∨ ∃ n p x s1 z s2, nextL l = some n ∧ Nx l n p x s1 z s2 := by
  by_cases h0 : l = []
  · subst h0; left; simp [nextL, fI]
  have hl : 0 < l.length := List.length_pos_iff.2 h0
  obtain ⟨h1, h2, h3⟩ := fI_desc l (l.length - 1) (by omega)
  have hD : ∀ (i : Nat), (fI l (l.length - 1) < (i : Int)) → (l.drop i).Pairwise (fun a b => b ≤ a) := by
    intro i hi
    have step : ∀ (n i : Nat), i + n = l.length → (fI l (l.length - 1) < (i : Int)) → (l.drop i).Pairwise (fun a b => b ≤ a) := by
      intro n
      induction n with
      | zero => intro i hn _; rw [List.drop_of_length_le (by omega)]; exact List.Pairwise.nil
      | succ n ih =>
        intro i hn hi
        have hil : i < l.length := by omega
        have r := ih (i + 1) (by omega) (by omega)
        rw [List.drop_eq_getElem_cons hil, List.pairwise_cons]
        refine ⟨?_, r⟩
        by_cases e : i + 1 = l.length
        · rw [List.drop_of_length_le (by omega)]; simp
        · have hc := h1 i hi (by omega)
          have hi2 : i + 1 < l.length := by omega
          rw [List.drop_eq_getElem_cons hi2] at r ⊢
          rw [List.pairwise_cons] at r
          simp only [List.getD_eq_getElem?_getD, List.getElem?_eq_getElem hil, List.getElem?_eq_getElem hi2, Option.getD_some] at hc
          intro y hy
          rcases List.mem_cons.1 hy with rfl | hy
          · exact hc
          · exact Int.le_trans (r.1 y hy) hc
    by_cases hil : i ≤ l.length
    · exact step (l.length - i) i (by omega) hi
    · rw [List.drop_of_length_le (by omega)]; exact List.Pairwise.nil
  by_cases hn : fI l (l.length - 1) < 0
  · left
    refine ⟨by simp [nextL, hn], ?_⟩
    simpa using hD 0 (by omega)
  · right
    obtain ⟨i, hi⟩ : ∃ i : Nat, fI l (l.length - 1) = (i : Int) := ⟨(fI l (l.length - 1)).toNat, by omega⟩
    obtain ⟨h4, h5⟩ := h2 (by omega)
    have hD' := hD (i + 1) (by omega)
    rw [nextL, if_neg hn, hi]
    rw [hi] at h4 h5
    simp only [Int.toNat_natCast] at h5 ⊢
    have hil : i < l.length := by omega
    obtain ⟨k1, k2, k3⟩ := fK_spec l (l.getD i 0) (l.length - 1) ⟨i + 1, by omega, h5⟩
    generalize fK l (l.getD i 0) (l.length - 1) = k at *
    have hik : i < k := by
      rcases Nat.lt_or_ge i k with h | h
      · exact h
      · exfalso
        by_cases e : k = i
        · subst e; omega
        · have := k3 (i + 1) (by omega) (by omega)
          omega
    have hk : k < l.length := by omega
    -- the parts
    have hdr : l.drop (i + 1) = (l.drop (i + 1)).take (k - (i + 1)) ++ l.getD k 0 :: l.drop (k + 1) := by
      have a4 : (l.drop (i + 1)).drop (k - (i + 1)) = l.getD k 0 :: l.drop (k + 1) := by
        rw [List.drop_drop, show i + 1 + (k - (i + 1)) = k by omega, List.drop_eq_getElem_cons hk]; simp [hk]
      rw [← a4]; exact (List.take_append_drop _ _).symm
    have el : l = l.take i ++ l.getD i 0 :: ((l.drop (i + 1)).take (k - (i + 1)) ++ l.getD k 0 :: l.drop (k + 1)) := by
      have a1 : l = l.take i ++ l.drop i := (List.take_append_drop i l).symm
      have a2 : l.drop i = l.getD i 0 :: l.drop (i + 1) := by rw [List.drop_eq_getElem_cons hil]; simp [hil]
      rw [← hdr, ← a2, ← a1]
    have hp : (l.take i).length = i := by simp; omega
    have hs1 : ((l.drop (i + 1)).take (k - (i + 1))).length = k - (i + 1) := by simp; omega
    have hs2 : (l.drop (k + 1)).length = l.length - (k + 1) := by simp
    have low : ∀ y ∈ l.drop (k + 1), y ≤ l.getD i 0 := by
      intro y hy
      obtain ⟨j, hj, rfl⟩ := List.getElem_of_mem hy
      have := k3 (k + 1 + j) (by omega) (by simp at hj; omega)
      simp at hj
      have hkj : k + 1 + j < l.length := by omega
      simp only [List.getElem_drop]
      simpa [List.getD_eq_getElem?_getD, List.getElem?_eq_getElem hkj] using this
    generalize hx : l.getD i 0 = x at *
    generalize hz : l.getD k 0 = z at *
    generalize l.take i = p at *
    generalize (l.drop (i + 1)).take (k - (i + 1)) = s1 at *
    generalize l.drop (k + 1) = s2 at *
    refine ⟨_, p, x, s1, z, s2, rfl, el, ?_, by rw [← hdr]; exact hD', k2, low⟩
    have hlen : l.length = i + 1 + (s1.length + (s2.length + 1)) := by rw [el]; simp; omega
    generalize l.length = n at *
    rw [el, set_mid _ _ _ _ _ hp.symm, show p ++ z :: (s1 ++ z :: s2) = (p ++ z :: s1) ++ z :: s2 by simp, set_mid _ _ _ _ _ (by simp; omega)]
    have := rev4_eq n (p ++ [z]) (s1 ++ x :: s2) [] (i + 1) (n - 1) (by simp; omega) (by simp; omega) (by simp; omega)
    rw [show (p ++ z :: s1) ++ x :: s2 = (p ++ [z]) ++ (s1 ++ x :: s2) ++ [] by simp, this]
    simp
end Go.Proofs.R
