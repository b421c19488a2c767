/- What a player of a group adds, weighed within it, behind some other groups: owen.part. -/
import Derived.Test.YtnmbpainnkdonaaGreatDoorGs
import Derived.Test.YtnmbpainnkdonaaGreatDoorGt
import Derived.Test.YtnmbpainnkdonaaGreatDoorVd
set_option linter.unusedSimpArgs false
set_option linter.unusedVariables false
namespace Go.Proofs.YtnmbpainnkdonaaGreatDoor
open Go Go.Proofs.R
set_option maxRecDepth 10000
/-- The sets within one, from it down. -/
def subs (rest : Nat) : Nat → Nat → List Nat
  | 0, _ => []
  | f + 1, s => s :: if s = 0 then [] else subs rest f ((s - 1) &&& rest)
/-- What one set adds. -/
def ptT (v : Nat → Rat) (sz i b s : Nat) : Rat := wq (cntN s 5) (sz - cntN s 5 - 1) sz * (v (b ||| s ||| 2 ^ i) - v (b ||| s))
def ptA (v : Nat → Rat) (sz i b : Nat) : List Nat → Rat → Rat
  | [], a => a
  | s :: r, a => ptA v sz i b r (a + ptT v sz i b s)
/-- All of them. -/
def ptV (v : Nat → Rat) (g i b : Nat) : Rat := ptA v (cntN g 5) i b (subs (g - 2 ^ i) 32 (g - 2 ^ i)) 0
theorem andnot_tab : ∀ g : Fin 32, ∀ i : Fin 5, g.val.testBit i.val = true → bitsD .andNot .i64 (g.val : Int) ((2 ^ i.val : Nat) : Int) = ((g.val - 2 ^ i.val : Nat) : Int) ∧ 2 ^ i.val ≤ g.val := by decide +kernel
theorem sub_facts : ∀ g : Fin 32, ∀ i : Fin 5, ∀ s : Fin 32, g.val.testBit i.val = true → s.val &&& (g.val - 2 ^ i.val) = s.val → cntN s.val 5 < cntN g.val 5 := by decide +kernel
theorem subs_in {rest : Nat} : ∀ {f s : Nat}, s &&& rest = s → ∀ x ∈ subs rest f s, x &&& rest = x
  | 0, s, _, x, h => by simp [subs] at h
  | f + 1, s, hs, x, h => by
    simp only [subs, List.mem_cons] at h
    rcases h with rfl | h
    · exact hs
    · split at h
      · simp at h
      · exact subs_in (by rw [Nat.and_assoc, Nat.and_self]) x h
theorem ptT_b {v : Nat → Rat} {n K : Nat} (hv : ∀ s, s < 2 ^ n → Bq K (v s)) {sz i b s : Nat} (hsz : sz ≤ 5) (h1 : b ||| s ||| 2 ^ i < 2 ^ n) (h2 : b ||| s < 2 ^ n) : Bq (2 * K + 22) (ptT v sz i b s) := by
  have hc := cntN_le s 5
  exact ((wq_b (a := cntN s 5) (b := sz - cntN s 5 - 1) (c := sz) (by omega) (by omega) (by omega)).mul ((hv _ h1).sub (hv _ h2))).mono (by omega)
theorem ptA_b {v : Nat → Rat} {n K : Nat} (hv : ∀ s, s < 2 ^ n → Bq K (v s)) {sz i b : Nat} (hsz : sz ≤ 5) : ∀ {r : List Nat} {a : Rat} {J : Nat}, (∀ s ∈ r, b ||| s ||| 2 ^ i < 2 ^ n ∧ b ||| s < 2 ^ n) → Bq J a → Bq (J + (2 * K + 23) * r.length) (ptA v sz i b r a)
  | [], a, J, _, ha => by simpa [ptA] using ha
  | s :: r, a, J, h, ha => by
    obtain ⟨h1, h2⟩ := h s (by simp)
    have := ptA_b (r := r) hv hsz (i := i) (b := b) (fun s hs => h s (by simp [hs])) (ha.add (ptT_b hv hsz h1 h2))
    rw [ptA]
    refine this.mono ?_
    simp only [List.length_cons, Nat.mul_add]
    omega
theorem subs_len (rest : Nat) : ∀ (f s : Nat), (subs rest f s).length ≤ f
  | 0, s => by simp [subs]
  | f + 1, s => by
    simp only [subs, List.length_cons]
    split
    · simp
    · have := subs_len rest f ((s - 1) &&& rest); omega
theorem ptV_b {v : Nat → Rat} {n K : Nat} (hn : n ≤ 5) (hv : ∀ s, s < 2 ^ n → Bq K (v s)) {g i b : Nat} (hg : g < 2 ^ n) (hb : b < 2 ^ n) (hi : i < n) : Bq (1 + (2 * K + 23) * 32) (ptV v g i b) := by
  have hs : ∀ s ∈ subs (g - 2 ^ i) 32 (g - 2 ^ i), b ||| s ||| 2 ^ i < 2 ^ n ∧ b ||| s < 2 ^ n := by
    intro s hs
    have h1 := subs_in (rest := g - 2 ^ i) (by rw [Nat.and_self]) s hs
    have h2 : s < 2 ^ n := by
      have : s ≤ g - 2 ^ i := by rw [← h1]; exact Nat.and_le_right
      exact Nat.lt_of_le_of_lt (Nat.le_trans this (Nat.sub_le _ _)) hg
    have h3 := Nat.or_lt_two_pow hb h2
    exact ⟨Nat.or_lt_two_pow h3 (Nat.pow_lt_pow_right (by decide) hi), h3⟩
  have := ptA_b hv (sz := cntN g 5) (i := i) (b := b) (cntN_le g 5) hs Bq.zero
  refine this.mono ?_
  have := subs_len (g - 2 ^ i) 32 (g - 2 ^ i)
  have : (2 * K + 23) * (subs (g - 2 ^ i) 32 (g - 2 ^ i)).length ≤ (2 * K + 23) * 32 := Nat.mul_le_mul_left _ this
  omega
/-- One round. -/
theorem part_body (l : List RQ) (n i g b s K J : Nat) (a : Rat) (c : List D) (z : RQ) (hn : n ≤ 5) (hl : l.length = 2 ^ n) (hk : ∀ r ∈ l, r.ok K) (h1 : 1 ≤ K) (hJ1 : 1 ≤ J) (hK : K ≤ 100000) (hJ : J ≤ 100000000) (hg : g < 2 ^ n) (hi : i < n) (hb : b < 2 ^ n) (hgi : g.testBit i = true) (hs : s &&& (g - 2 ^ i) = s) (ha : Bq J a) (hc : TS c) :
    EX ip nv1 (.code owen_part.b0 [(0, .d (.sl 3 (el l))), (1, .ptr 1 0), (3, .d (.int .i64 (i : Int))), (4, .d (.int .i64 (b : Int))), (10, .ptr 10 0), (11, .ptr 11 0), (12, .d (.int .i64 (cntN g 5 : Nat))), (13, .d (.int .i64 ((g - 2 ^ i : Nat) : Int))), (14, .d (.int .i64 (s : Int)))] [(1, ⟨0, true, c⟩), (10, ⟨0, true, z.c⟩), (11, ⟨0, true, (can a).c⟩)]) =
      if s = 0 then some (.st .ret [(10, .ptr 10 0)] [(1, ⟨0, true, c1⟩), (10, ⟨0, true, (can (a + ptT (gv l) (cntN g 5) i b s)).c⟩)])
      else some (.st .normal [(0, .d (.sl 3 (el l))), (1, .ptr 1 0), (3, .d (.int .i64 (i : Int))), (4, .d (.int .i64 (b : Int))), (10, .ptr 10 0), (11, .ptr 11 0), (12, .d (.int .i64 (cntN g 5 : Nat))), (13, .d (.int .i64 ((g - 2 ^ i : Nat) : Int))), (14, .d (.int .i64 (((s - 1) &&& (g - 2 ^ i) : Nat) : Int)))] [(1, ⟨0, true, c1⟩), (10, ⟨0, true, z.c⟩), (11, ⟨0, true, (can (a + ptT (gv l) (cntN g 5) i b s)).c⟩)]) := by
  have hp : 2 ^ n ≤ 2 ^ 5 := Nat.pow_le_pow_right (by decide) hn
  have hgi2 : g - 2 ^ i < 2 ^ n := Nat.lt_of_le_of_lt (Nat.sub_le _ _) hg
  have hsl : s ≤ g - 2 ^ i := by rw [← hs]; exact Nat.and_le_right
  have hs2 : s < 2 ^ n := Nat.lt_of_le_of_lt hsl hgi2
  have f1 := sub_facts ⟨g, by omega⟩ ⟨i, by omega⟩ ⟨s, by omega⟩ hgi hs
  simp only at f1
  have hbs := Nat.or_lt_two_pow hb hs2
  have hi2 : 2 ^ i < 2 ^ n := Nat.pow_lt_pow_right (by decide) hi
  have hbsi := Nat.or_lt_two_pow hbs hi2
  have hvb : ∀ s, s < 2 ^ n → Bq K (gv l s) := fun s hs => gv_b hk h1 (by omega)
  have wt := weightT_ev hc (cntN s 5) (cntN g 5) f1 (Nat.le_trans (cntN_le g 5) (by omega))
  have on : EX ip nv1 (.call F.bits_OnesCount [.d (u s)] []) = some (.ret (.d (.int .i64 (cntN s 5 : Nat))) []) := ones_ev s (by omega)
  have s1 := i_shl1 (n := i) (by omega)
  have o1 := ibits_or (a := b) (b := s) (by omega) (by omega)
  have o2 := ibits_or (a := b ||| s) (b := 2 ^ i) (by omega) (by omega)
  have sb : EX ip nv1 (.call F.ratio_Sub [.d (.ag (ix l (b ||| s ||| 2 ^ i)).c), .d (.ag (ix l (b ||| s)).c)] []) = some (.ret (.d (.ag (can (gv l (b ||| s ||| 2 ^ i) - gv l (b ||| s))).c)) []) :=
    rsub_ev tzOk1 (ix l (b ||| s ||| 2 ^ i)) (ix l (b ||| s)) (ixq_ok hk (by omega)) (ixq_ok hk (by omega)) h1 h1 (by omega)
  have hd := (hvb _ hbsi).sub (hvb _ hbs)
  have hc5 := cntN_le s 5
  have hg5 := cntN_le g 5
  have wb := wq_b (a := cntN s 5) (b := cntN g 5 - cntN s 5 - 1) (c := cntN g 5) (by omega) (by omega) (by omega)
  have ml := rmul_ev tzOk1 (can (wq (cntN s 5) (cntN g 5 - cntN s 5 - 1) (cntN g 5))) (can (gv l (b ||| s ||| 2 ^ i) - gv l (b ||| s))) (can_ok wb) (can_ok hd) (by omega) (by omega) (by omega)
  have ad := radd_ev tzOk1 (can a) (can (wq (cntN s 5) (cntN g 5 - cntN s 5 - 1) (cntN g 5) * (gv l (b ||| s ||| 2 ^ i) - gv l (b ||| s)))) (can_ok ha) (can_ok (wb.mul hd)) (by omega) (by omega) (by omega)
  rw [can_v, can_v] at ml ad
  have e1 : a + ptT (gv l) (cntN g 5) i b s = a + wq (cntN s 5) (cntN g 5 - cntN s 5 - 1) (cntN g 5) * (gv l (b ||| s ||| 2 ^ i) - gv l (b ||| s)) := rfl
  rw [e1]
  have hx1 : b ||| s ||| 2 ^ i < l.length := by omega
  have hx2 : b ||| s < l.length := by omega
  clear e1 wb hd hvb ha hc5 hbs hbsi f1 hs
  generalize can (a + wq (cntN s 5) (cntN g 5 - cntN s 5 - 1) (cntN g 5) * (gv l (b ||| s ||| 2 ^ i) - gv l (b ||| s))) = p1 at *
  generalize can (wq (cntN s 5) (cntN g 5 - cntN s 5 - 1) (cntN g 5) * (gv l (b ||| s ||| 2 ^ i) - gv l (b ||| s))) = p2 at *
  generalize can (wq (cntN s 5) (cntN g 5 - cntN s 5 - 1) (cntN g 5)) = p3 at *
  generalize can (gv l (b ||| s ||| 2 ^ i) - gv l (b ||| s)) = p4 at *
  generalize can a = p5 at *
  generalize b ||| s ||| 2 ^ i = x1 at *
  generalize b ||| s = x2 at *
  generalize cntN s 5 = cs at *
  generalize cntN g 5 = cg at *
  generalize c1 = cc at *
  have hl32 : l.length ≤ 32 := by omega
  have e0 : (s : Int) = 0 ↔ s = 0 := by omega
  have an : 1 ≤ s → bitsD .and .i64 ((s - 1 : Nat) : Int) ((g - 2 ^ i : Nat) : Int) = (((s - 1) &&& (g - 2 ^ i) : Nat) : Int) := fun _ => ibits_and (a := s - 1) (b := g - 2 ^ i) (by omega) (by omega)
  generalize (s - 1) &&& (g - 2 ^ i) = nx at *
  generalize 2 ^ i = y at *
  generalize g - y = rest at *
  by_cases h0 : s = 0
  · have h0' : ((s : Int) = 0) = True := by simp [h0]
    rw [if_pos h0]
    clear h0 an e0
    simp (disch := omega) [owen_part.b0, wt, on, s1, o1, o2, sb, ml, ad, hx1, hx2, h0', -vBin_shl, -Int.natCast_eq_zero]
  · have an' := an (by omega)
    have e2 : (s : Int) - 1 = ((s - 1 : Nat) : Int) := by omega
    clear an
    generalize s - 1 = t at *
    simp (disch := omega) [owen_part.b0, wt, on, s1, o1, o2, sb, ml, ad, hx1, hx2, an', e0, e2, h0, -vBin_shl, -Int.natCast_eq_zero]
theorem part_loop (l : List RQ) (n i g b K : Nat) (z : RQ) (hn : n ≤ 5) (hl : l.length = 2 ^ n) (hk : ∀ r ∈ l, r.ok K) (h1 : 1 ≤ K) (hK : K ≤ 100000) (hg : g < 2 ^ n) (hi : i < n) (hb : b < 2 ^ n) (hgi : g.testBit i = true) :
    ∀ (f s : Nat) (a : Rat) (c : List D) (J : Nat), f ≤ 32 → s < f → s &&& (g - 2 ^ i) = s → Bq J a → 1 ≤ J → J + (2 * K + 23) * f ≤ 100000000 → TS c →
    EX ip nv1 (.code (.loop [] [] owen_part.b0) [(0, .d (.sl 3 (el l))), (1, .ptr 1 0), (3, .d (.int .i64 (i : Int))), (4, .d (.int .i64 (b : Int))), (10, .ptr 10 0), (11, .ptr 11 0), (12, .d (.int .i64 (cntN g 5 : Nat))), (13, .d (.int .i64 ((g - 2 ^ i : Nat) : Int))), (14, .d (.int .i64 (s : Int)))] [(1, ⟨0, true, c⟩), (10, ⟨0, true, z.c⟩), (11, ⟨0, true, (can a).c⟩)]) =
      some (.st .ret [(10, .ptr 10 0)] [(1, ⟨0, true, c1⟩), (10, ⟨0, true, (can (ptA (gv l) (cntN g 5) i b (subs (g - 2 ^ i) f s) a)).c⟩)])
  | 0, s, a, c, J, _, h, _, _, _, _, _ => by omega
  | f + 1, s, a, c, J, hf, hsf, hs, ha, hJ1, hJ, hc => by
    have body := part_body l n i g b s K J a c z hn hl hk h1 hJ1 hK (by omega) hg hi hb hgi hs ha hc
    have hp : 2 ^ n ≤ 2 ^ 5 := Nat.pow_le_pow_right (by decide) hn
    have hgi2 : g - 2 ^ i < 2 ^ n := Nat.lt_of_le_of_lt (Nat.sub_le _ _) hg
    have hsl : s ≤ g - 2 ^ i := by rw [← hs]; exact Nat.and_le_right
    have hs2 : s < 2 ^ n := Nat.lt_of_le_of_lt hsl hgi2
    have hbs := Nat.or_lt_two_pow hb hs2
    have hbsi := Nat.or_lt_two_pow hbs (Nat.pow_lt_pow_right (by decide : 1 < 2) hi)
    have hvb : ∀ s, s < 2 ^ n → Bq K (gv l s) := fun s hs => gv_b hk h1 (by omega)
    have tb := ha.add (ptT_b (sz := cntN g 5) (i := i) (b := b) (s := s) hvb (cntN_le g 5) hbsi hbs)
    rw [R_loop]
    simp only [killT_nil, killB]
    rw [body]
    by_cases h0 : s = 0
    · rw [if_pos h0]
      subst h0
      simp only [subs, if_true, ptA]
    · rw [if_neg h0]
      simp only
      have hle : (s - 1) &&& (g - 2 ^ i) ≤ s - 1 := Nat.and_le_left
      have e : J + (2 * K + 23) * (f + 1) = J + (2 * K + 23) * f + (2 * K + 23) := by rw [Nat.mul_add]; omega
      rw [part_loop l n i g b K z hn hl hk h1 hK hg hi hb hgi f ((s - 1) &&& (g - 2 ^ i)) _ c1 (J + (2 * K + 22) + 1) (by omega) (by omega) (by rw [Nat.and_assoc, Nat.and_self]) (tb.mono (by omega)) (by omega) (by omega) (.inr rfl)]
      rw [subs, if_neg h0, ptA]
theorem part_ev (l : List RQ) (n i g b K : Nat) (c : List D) (hn : n ≤ 5) (hl : l.length = 2 ^ n) (hk : ∀ r ∈ l, r.ok K) (h1 : 1 ≤ K) (hK : K ≤ 100000) (hg : g < 2 ^ n) (hi : i < n) (hb : b < 2 ^ n) (hgi : g.testBit i = true) (hc : TS c) :
    EX ip nv1 (.call F.owen_part [.d (.sl 3 (el l)), .ptr 1 0, .d (.int .i64 (g : Int)), .d (.int .i64 (i : Int)), .d (.int .i64 (b : Int))] [(1, ⟨0, true, c⟩)]) = some (.ret (.d (.ag (can (ptV (gv l) g i b)).c)) [(1, ⟨0, true, c1⟩)]) := by
  rw [S_call owen_part.ip rfl]
  have hp : 2 ^ n ≤ 2 ^ 5 := Nat.pow_le_pow_right (by decide) hn
  have z := zero_ev (nv := nv1)
  have on : EX ip nv1 (.call F.bits_OnesCount [.d (u g)] []) = some (.ret (.d (.int .i64 (cntN g 5 : Nat))) []) := ones_ev g (by omega)
  have s1 := i_shl1 (n := i) (by omega)
  obtain ⟨an, hle⟩ := andnot_tab ⟨g, by omega⟩ ⟨i, by omega⟩ hgi
  simp only at an hle
  have lp := part_loop l n i g b K ⟨false, [], []⟩ hn hl hk h1 hK hg hi hb hgi 32 (g - 2 ^ i) 0 c 1 (by omega) (by have := Nat.two_pow_pos i; omega) (by rw [Nat.and_self]) Bq.zero (by omega) (by omega) hc
  have e1 : ptA (gv l) (cntN g 5) i b (subs (g - 2 ^ i) 32 (g - 2 ^ i)) 0 = ptV (gv l) g i b := rfl
  rw [e1] at lp
  have hy := Nat.pow_lt_pow_right (by decide : 1 < 2) hi
  clear e1
  have hl32 : l.length ≤ 32 := by omega
  generalize can (ptV (gv l) g i b) = q at *
  generalize can 0 = q0 at *
  generalize cntN g 5 = cg at *
  generalize 2 ^ i = y at *
  generalize g - y = rest at *
  generalize c1 = cc at *
  have ez : (⟨false, [], []⟩ : RQ).c = [.bool false, .sl 1 [], .sl 1 []] := rfl
  rw [ez] at lp
  simp (disch := omega) [owen_part, z, on, s1, an, lp, -vBin_shl]
end Go.Proofs.YtnmbpainnkdonaaGreatDoor

/-! What each player gets who comes in a group: owen.Values. -/
namespace Go.Proofs.YtnmbpainnkdonaaGreatDoor
open Go Go.Proofs.R
set_option maxRecDepth 10000
/-- What a player of a group gets, up to a set of groups. -/
def oSet (v : Nat → Rat) (gs : List Int) (i j : Nat) : Nat → Rat
  | 0 => 0
  | s + 1 => if s.testBit j then oSet v gs i j s else oSet v gs i j s + wq (cntN s 5) (gs.length - cntN s 5 - 1) gs.length * ptV v (ix gs j).toNat i (mgN gs s gs.length)
/-- What a player gets, up to a group. -/
def oG (v : Nat → Rat) (gs : List Int) (i : Nat) : Nat → Rat
  | 0 => 0
  | j + 1 => oG v gs i j + if (ix gs j).toNat.testBit i then oSet v gs i j (2 ^ gs.length) else 0
def owV (v : Nat → Rat) (gs : List Int) (i : Nat) : Rat := oG v gs i gs.length
def owL (l : List RQ) (gs : List Int) (n : Nat) : List RQ := tb n fun i => can (owV (gv l) gs i)
/-- While a group's turn lasts. -/
def oAt (v : Nat → Rat) (gs : List Int) (j s i : Nat) : Rat := oG v gs i j + if (ix gs j).toNat.testBit i then oSet v gs i j s else 0
theorem oAt_zero (v : Nat → Rat) (gs : List Int) (j i : Nat) : oAt v gs j 0 i = oG v gs i j := by
  unfold oAt
  simp only [oSet, ite_self, Rat.add_zero]
theorem oAt_all (v : Nat → Rat) (gs : List Int) (j i : Nat) : oAt v gs j (2 ^ gs.length) i = oG v gs i (j + 1) := rfl
/-- A bound for one share. -/
def oT (K : Nat) : Nat := (2 * K + 23) * 32 + 23
section
variable {v : Nat → Rat} {gs : List Int} {n K : Nat}
theorem oSet_b (hn : n ≤ 5) (hm : gs.length ≤ 5) (hv : ∀ s, s < 2 ^ n → Bq K (v s)) (hg : ∀ g ∈ gs, 0 < g ∧ g < ((2 ^ n : Nat) : Int)) {i j : Nat} (hi : i < n) (hj : j < gs.length) : ∀ s, Bq (1 + oT K * s) (oSet v gs i j s)
  | 0 => Bq.zero
  | s + 1 => by
    have ih := oSet_b hn hm hv hg hi hj s
    have e : 1 + oT K * (s + 1) = 1 + oT K * s + oT K := by rw [Nat.mul_add]; omega
    rw [oSet]
    split
    · exact ih.mono (by omega)
    · have hc := cntN_le s 5
      have hx := hg _ (mem_ix hj)
      have wb := wq_b (a := cntN s 5) (b := gs.length - cntN s 5 - 1) (c := gs.length) (by omega) (by omega) (by omega)
      have pb := ptV_b (g := (ix gs j).toNat) (b := mgN gs s gs.length) (i := i) hn hv (by omega) (mgN_lt hg s gs.length (Nat.le_refl _)) hi
      refine (ih.add (wb.mul pb)).mono ?_
      rw [e]
      unfold oT
      omega
theorem oAt_b (hn : n ≤ 5) (hm : gs.length ≤ 5) (hv : ∀ s, s < 2 ^ n → Bq K (v s)) (hg : ∀ g ∈ gs, 0 < g ∧ g < ((2 ^ n : Nat) : Int)) {i : Nat} (hi : i < n) : ∀ j, j ≤ gs.length → Bq (1 + (oT K * 32 + 3) * j) (oG v gs i j) ∧ (j < gs.length → ∀ s, s ≤ 2 ^ gs.length → Bq (1 + (oT K * 32 + 3) * j + (oT K * 32 + 2)) (oAt v gs j s i))
  | 0, _ => by
    refine ⟨Bq.zero, fun hj s hs => ?_⟩
    have hp : 2 ^ gs.length ≤ 2 ^ 5 := Nat.pow_le_pow_right (by decide) hm
    unfold oAt
    split
    · have hle : oT K * s ≤ oT K * 32 := Nat.mul_le_mul_left _ (by omega)
      exact ((Bq.zero : Bq 1 0).add (oSet_b hn hm hv hg hi hj s)).mono (by omega)
    · exact ((Bq.zero : Bq 1 0).add (Bq.zero : Bq 1 0)).mono (by omega)
  | j + 1, h => by
    have hp : 2 ^ gs.length ≤ 2 ^ 5 := Nat.pow_le_pow_right (by decide) hm
    have e : (oT K * 32 + 3) * (j + 1) = (oT K * 32 + 3) * j + (oT K * 32 + 3) := by rw [Nat.mul_add]; omega
    have h1 : Bq (1 + (oT K * 32 + 3) * (j + 1)) (oG v gs i (j + 1)) := by
      have := (oAt_b hn hm hv hg hi j (by omega)).2 (by omega) (2 ^ gs.length) (Nat.le_refl _)
      rw [oAt_all] at this
      exact this.mono (by omega)
    refine ⟨h1, fun hj s hs => ?_⟩
    unfold oAt
    split
    · have hle : oT K * s ≤ oT K * 32 := Nat.mul_le_mul_left _ (by omega)
      exact (h1.add (oSet_b hn hm hv hg hi hj s)).mono (by omega)
    · exact (h1.add (Bq.zero : Bq 1 0)).mono (by omega)
end
theorem set_ix {a : List RQ} {i : Nat} (h : i < a.length) : a.set i (ix a i) = a := by
  have : ix a i = a[i] := by simp [ix, h]
  rw [this, List.set_getElem_self]
theorem tb_rep {α : Type} (x : α) : ∀ n, List.replicate n x = tb n fun _ => x
  | 0 => rfl
  | n + 1 => by rw [tb_succ, List.replicate_succ', tb_rep x n]
theorem own_b0 (l : List RQ) (gs : List Int) (n : Nat) (hn : n ≤ 5) (c : List D) :
    ∃ z e μ, EX ip nv1 (.code (.loop [] [] owen_Values.b0) [(0, .d (.sl 3 (el l))), (1, .d (.sl 1 (el gs))), (6, .d (.int .i64 (n : Int))), (8, .ptr 30 0), (9, .own 32 3 0 n), (34, .d (.int .i64 (n : Int))), (35, .d (.int .i64 0))] [(30, ⟨0, false, c⟩), (32, ⟨0, false, el (List.replicate n (⟨false, [], []⟩ : RQ))⟩)]) = some (.st z e μ) ∧ z ≠ .normal ∧
    z = .exit 0 ∧ e = [(0, .d (.sl 3 (el l))), (1, .d (.sl 1 (el gs))), (6, .d (.int .i64 (n : Int))), (8, .ptr 30 0), (9, .own 32 3 0 n), (34, .d (.int .i64 (n : Int))), (35, .d (.int .i64 (n : Int))), (36, .d (.bool false))] ∧ μ = [(30, ⟨0, false, c⟩), (32, ⟨0, false, el (tb n fun _ => can 0)⟩)] := by
  have z := zero_ev (nv := nv1)
  generalize can 0 = q0 at *
  refine loop_n n (fun i e μ => ∃ a : List RQ, a = tb n (mix i (fun _ => q0) (fun _ => ⟨false, [], []⟩)) ∧ e = [(0, .d (.sl 3 (el l))), (1, .d (.sl 1 (el gs))), (6, .d (.int .i64 (n : Int))), (8, .ptr 30 0), (9, .own 32 3 0 n), (34, .d (.int .i64 (n : Int))), (35, .d (.int .i64 (i : Int)))] ∧ μ = [(30, ⟨0, false, c⟩), (32, ⟨0, false, el a⟩)]) ?_ ?_ ⟨_, by rw [mix_zero, tb_rep], rfl, rfl⟩
  · rintro i e μ hi ⟨a, ha, rfl, rfl⟩
    have hal : a.length = n := by rw [ha]; simp
    have st := mix_step (n := n) (i := i) (g := fun _ => q0) (f := fun _ => (⟨false, [], []⟩ : RQ))
    rw [← ha] at st
    refine .inl ⟨_, _, ?_, a.set i q0, st, rfl, rfl⟩
    clear st ha
    simp (disch := omega) [owen_Values.b0, hi, hal, z, -vIA_o]
  · rintro e μ ⟨a, ha, rfl, rfl⟩
    rw [mix_all] at ha
    subst ha
    exact ⟨.exit 0, _, _, by simp [owen_Values.b0] <;> first | rfl | exact ⟨rfl, rfl⟩, by simp, rfl, rfl, rfl⟩
theorem own_b6 (l : List RQ) (gs : List Int) (n j g s K J : Nat) (c : List D) (w : Rat) (A : Nat → Rat) (hn : n ≤ 5) (hm : gs.length ≤ 5) (hl : l.length = 2 ^ n) (hk : ∀ r ∈ l, r.ok K) (h1 : 1 ≤ K) (hK : K ≤ 1000) (hgs : ∀ g ∈ gs, 0 < g ∧ g < ((2 ^ n : Nat) : Int)) (hj : j < gs.length) (hs : s < 2 ^ gs.length) (hg : ix gs j = (g : Int)) (hA : ∀ p, p < n → Bq J (A p)) (hJ1 : 1 ≤ J) (hJ : J ≤ 100000000) (hw : Bq 20 w) (hc : TS c) :
    ∃ z e μ, EX ip nv1 (.code (.loop [] [] owen_Values.b6) [(0, .d (.sl 3 (el l))), (1, .d (.sl 1 (el gs))), (6, .d (.int .i64 (n : Int))), (8, .ptr 30 0), (9, .own 32 3 0 n), (11, .d (.int .i64 (j : Int))), (12, .d (.int .i64 (g : Int))), (13, .d (.int .i64 (s : Int))), (14, .ptr 14 0), (43, .d (.sl 1 (el gs))), (44, .d (.int .i64 (gs.length : Int))), (45, .d (.int .i64 (j : Int))), (52, .d (.int .i64 ((2 ^ gs.length : Nat) : Int))), (53, .d (.int .i64 (s : Int))), (71, .d (.int .i64 (n : Int))), (72, .d (.int .i64 0))] [(14, ⟨0, true, (can w).c⟩), (30, ⟨0, false, c⟩), (32, ⟨0, false, el (tb n fun p => can (A p))⟩)]) = some (.st z e μ) ∧ z ≠ .normal ∧
    ∃ c', TS c' ∧ z = .exit 6 ∧ e = [(0, .d (.sl 3 (el l))), (1, .d (.sl 1 (el gs))), (6, .d (.int .i64 (n : Int))), (8, .ptr 30 0), (9, .own 32 3 0 n), (11, .d (.int .i64 (j : Int))), (12, .d (.int .i64 (g : Int))), (13, .d (.int .i64 (s : Int))), (14, .ptr 14 0), (43, .d (.sl 1 (el gs))), (44, .d (.int .i64 (gs.length : Int))), (45, .d (.int .i64 (j : Int))), (52, .d (.int .i64 ((2 ^ gs.length : Nat) : Int))), (53, .d (.int .i64 (s : Int))), (71, .d (.int .i64 (n : Int))), (72, .d (.int .i64 (n : Int))), (73, .d (.bool false))] ∧ μ = [(14, ⟨0, true, (can w).c⟩), (30, ⟨0, false, c'⟩), (32, ⟨0, false, el (tb n fun p => can (if g.testBit p then A p + w * ptV (gv l) g p (mgN gs s gs.length) else A p))⟩)] := by
  have hp : 2 ^ n ≤ 2 ^ 5 := Nat.pow_le_pow_right (by decide) hn
  have hpm : 2 ^ gs.length ≤ 2 ^ 5 := Nat.pow_le_pow_right (by decide) hm
  have hgx := hgs _ (mem_ix hj)
  rw [hg] at hgx
  have hg2 : g < 2 ^ n := by omega
  have mg := merged_ev (nv := nv1) gs s n (by omega) (by omega) (by omega) hgs
  have hb := mgN_lt hgs s gs.length (Nat.le_refl _)
  have hvb : ∀ s, s < 2 ^ n → Bq K (gv l s) := fun s hs => gv_b hk h1 (by omega)
  have hgm : ((gs.length : Nat) : Int) = ((gs.length : Nat) : Int) := rfl
  refine loop_n n (fun p e μ => ∃ (c' : List D) (a : List RQ), TS c' ∧ a = tb n (mix p (fun p => can (if g.testBit p then A p + w * ptV (gv l) g p (mgN gs s gs.length) else A p)) (fun p => can (A p))) ∧ e = [(0, .d (.sl 3 (el l))), (1, .d (.sl 1 (el gs))), (6, .d (.int .i64 (n : Int))), (8, .ptr 30 0), (9, .own 32 3 0 n), (11, .d (.int .i64 (j : Int))), (12, .d (.int .i64 (g : Int))), (13, .d (.int .i64 (s : Int))), (14, .ptr 14 0), (43, .d (.sl 1 (el gs))), (44, .d (.int .i64 (gs.length : Int))), (45, .d (.int .i64 (j : Int))), (52, .d (.int .i64 ((2 ^ gs.length : Nat) : Int))), (53, .d (.int .i64 (s : Int))), (71, .d (.int .i64 (n : Int))), (72, .d (.int .i64 (p : Int)))] ∧ μ = [(14, ⟨0, true, (can w).c⟩), (30, ⟨0, false, c'⟩), (32, ⟨0, false, el a⟩)]) ?_ ?_ ⟨c, _, hc, mix_zero.symm, rfl, rfl⟩
  · rintro p e μ hpn ⟨c', a, hc', ha, rfl, rfl⟩
    have hal : a.length = n := by rw [ha]; simp
    have hx : ix a p = can (A p) := by rw [ha, tb_ix hpn, mix_at]
    have st := mix_step (n := n) (i := p) (g := fun p => can (if g.testBit p then A p + w * ptV (gv l) g p (mgN gs s gs.length) else A p)) (f := fun p => can (A p))
    rw [← ha] at st
    have sh := i_shrN (s := g) (i := p) (by omega) (by omega)
    have han := ibits_and (a := g / 2 ^ p) (b := 1) (by have := Nat.div_le_self g (2 ^ p); omega) (by omega)
    rw [show g / 2 ^ p &&& 1 = g / 2 ^ p % 2 from Nat.and_one_is_mod _] at han
    have tbit : g.testBit p = decide (g / 2 ^ p % 2 = 1) := Nat.testBit_eq_decide_div_mod_eq
    by_cases cb : g / 2 ^ p % 2 = 1
    · have tb' : g.testBit p = true := by rw [tbit]; simpa using cb
      rw [cb] at han
      have pe := part_ev l n p g (mgN gs s gs.length) K c' hn hl hk h1 (by omega) hg2 hpn hb tb' hc'
      have pb := ptV_b (g := g) (b := mgN gs s gs.length) (i := p) hn hvb hg2 hb hpn
      have ml := rmul_ev tzOk1 (can w) (can (ptV (gv l) g p (mgN gs s gs.length))) (can_ok hw) (can_ok pb) (by omega) (by omega) (by omega)
      have ad := radd_ev tzOk1 (can (A p)) (can (w * ptV (gv l) g p (mgN gs s gs.length))) (can_ok (hA p hpn)) (can_ok (hw.mul pb)) (by omega) (by omega) (by omega)
      rw [can_v, can_v] at ml ad
      simp only [tb', if_true] at st
      refine .inl ⟨_, _, ?_, c1, _, .inr rfl, st, rfl, rfl⟩
      clear st ha pb tb' tbit hvb hA hw
      generalize can (A p + w * ptV (gv l) g p (mgN gs s gs.length)) = r1 at *
      generalize can (w * ptV (gv l) g p (mgN gs s gs.length)) = r2 at *
      generalize can (ptV (gv l) g p (mgN gs s gs.length)) = r3 at *
      generalize can w = r4 at *
      generalize can (A p) = r5 at *
      generalize mgN gs s gs.length = b at *
      generalize g / 2 ^ p = q at *
      generalize 2 ^ gs.length = M at *
      have ha' : bitsD .and .i64 (q : Int) 1 = 1 := han
      generalize c1 = cc at *
      simp (disch := omega) [owen_Values.b6, hpn, sh, ha', mg, pe, ml, ad, hx, hal, -vBin_shr, -vIA_o]
    · have tb' : g.testBit p = false := by rw [tbit]; simpa using cb
      have c0' : g / 2 ^ p % 2 = 0 := by omega
      rw [c0'] at han
      have st' : tb n (mix (p + 1) (fun p => can (if g.testBit p then A p + w * ptV (gv l) g p (mgN gs s gs.length) else A p)) (fun p => can (A p))) = a := by
        rw [← st]
        simp only [tb', Bool.false_eq_true, if_false]
        rw [← hx]
        exact set_ix (by omega)
      refine .inl ⟨_, _, ?_, c', a, hc', st'.symm, rfl, rfl⟩
      clear st st' ha tb' tbit hvb hA hw
      generalize can w = r4 at *
      generalize mgN gs s gs.length = b at *
      generalize g / 2 ^ p = q at *
      generalize 2 ^ gs.length = M at *
      have ha' : bitsD .and .i64 (q : Int) 1 = 0 := han
      simp (disch := omega) [owen_Values.b6, hpn, sh, ha', -vBin_shr, -vIA_o]
  · rintro e μ ⟨c', a, hc', ha, rfl, rfl⟩
    rw [mix_all] at ha
    subst ha
    exact ⟨.exit 6, _, _, by simp [owen_Values.b6] <;> first | rfl | exact ⟨rfl, rfl⟩, by simp, c', hc', rfl, rfl, rfl⟩
theorem own_b4 (l : List RQ) (gs : List Int) (n j g K : Nat) (c : List D) (hn : n ≤ 5) (hm : gs.length ≤ 5) (hl : l.length = 2 ^ n) (hk : ∀ r ∈ l, r.ok K) (h1 : 1 ≤ K) (hK : K ≤ 1000) (hgs : ∀ g ∈ gs, 0 < g ∧ g < ((2 ^ n : Nat) : Int)) (hj : j < gs.length) (hg : ix gs j = (g : Int)) (hc : TS c) :
    ∃ z e μ, EX ip nv1 (.code (.loop [] [] owen_Values.b4) [(0, .d (.sl 3 (el l))), (1, .d (.sl 1 (el gs))), (6, .d (.int .i64 (n : Int))), (8, .ptr 30 0), (9, .own 32 3 0 n), (11, .d (.int .i64 (j : Int))), (12, .d (.int .i64 (g : Int))), (43, .d (.sl 1 (el gs))), (44, .d (.int .i64 (gs.length : Int))), (45, .d (.int .i64 (j : Int))), (52, .d (.int .i64 ((2 ^ gs.length : Nat) : Int))), (53, .d (.int .i64 0))] [(30, ⟨0, false, c⟩), (32, ⟨0, false, el (tb n fun p => can (oG (gv l) gs p j))⟩)]) = some (.st z e μ) ∧ z ≠ .normal ∧
    ∃ c', TS c' ∧ z = .exit 4 ∧ e = [(0, .d (.sl 3 (el l))), (1, .d (.sl 1 (el gs))), (6, .d (.int .i64 (n : Int))), (8, .ptr 30 0), (9, .own 32 3 0 n), (11, .d (.int .i64 (j : Int))), (12, .d (.int .i64 (g : Int))), (43, .d (.sl 1 (el gs))), (44, .d (.int .i64 (gs.length : Int))), (45, .d (.int .i64 (j : Int))), (52, .d (.int .i64 ((2 ^ gs.length : Nat) : Int))), (53, .d (.int .i64 ((2 ^ gs.length : Nat) : Int))), (54, .d (.bool false))] ∧ μ = [(30, ⟨0, false, c'⟩), (32, ⟨0, false, el (tb n fun p => can (oG (gv l) gs p (j + 1)))⟩)] := by
  have hpm : 2 ^ gs.length ≤ 2 ^ 5 := Nat.pow_le_pow_right (by decide) hm
  have hp : 2 ^ n ≤ 2 ^ 5 := Nat.pow_le_pow_right (by decide) hn
  have hvb : ∀ s, s < 2 ^ n → Bq K (gv l s) := fun s hs => gv_b hk h1 (by omega)
  have hgt : (ix gs j).toNat = g := by rw [hg]; rfl
  refine loop_n (2 ^ gs.length) (fun s e μ => ∃ (c' : List D) (a : List RQ), TS c' ∧ a = tb n (fun p => can (oAt (gv l) gs j s p)) ∧ e = [(0, .d (.sl 3 (el l))), (1, .d (.sl 1 (el gs))), (6, .d (.int .i64 (n : Int))), (8, .ptr 30 0), (9, .own 32 3 0 n), (11, .d (.int .i64 (j : Int))), (12, .d (.int .i64 (g : Int))), (43, .d (.sl 1 (el gs))), (44, .d (.int .i64 (gs.length : Int))), (45, .d (.int .i64 (j : Int))), (52, .d (.int .i64 ((2 ^ gs.length : Nat) : Int))), (53, .d (.int .i64 (s : Int)))] ∧ μ = [(30, ⟨0, false, c'⟩), (32, ⟨0, false, el a⟩)]) ?_ ?_ ⟨c, _, hc, tb_congr fun p _ => by rw [oAt_zero], rfl, rfl⟩
  · rintro s e μ hs ⟨c', a, hc', ha, rfl, rfl⟩
    have sh := i_shrN (s := s) (i := j) (by omega) (by omega)
    have han := ibits_and (a := s / 2 ^ j) (b := 1) (by have := Nat.div_le_self s (2 ^ j); omega) (by omega)
    rw [show s / 2 ^ j &&& 1 = s / 2 ^ j % 2 from Nat.and_one_is_mod _] at han
    have tbit : s.testBit j = decide (s / 2 ^ j % 2 = 1) := Nat.testBit_eq_decide_div_mod_eq
    by_cases cb : s / 2 ^ j % 2 = 1
    · have tb' : s.testBit j = true := by rw [tbit]; simpa using cb
      rw [cb] at han
      have e1 : a = tb n (fun p => can (oAt (gv l) gs j (s + 1) p)) := by
        rw [ha]
        refine tb_congr fun p _ => ?_
        unfold oAt
        rw [oSet, tb']
        rfl
      refine .inl ⟨_, _, ?_, c', a, hc', e1, rfl, rfl⟩
      clear e1 ha tb' tbit
      generalize 2 ^ gs.length = M at *
      generalize s / 2 ^ j = q at *
      have ha' : bitsD .and .i64 (q : Int) 1 = 1 := han
      simp (disch := omega) [owen_Values.b4, hs, sh, ha', -vBin_shr]
    · have tb' : s.testBit j = false := by rw [tbit]; simpa using cb
      have c0' : s / 2 ^ j % 2 = 0 := by omega
      rw [c0'] at han
      obtain ⟨f1, -, -, -⟩ := set_facts ⟨gs.length, by omega⟩ ⟨j, by omega⟩ ⟨s, by omega⟩ hj hs tb'
      simp only at f1
      have on : EX ip nv1 (.call F.bits_OnesCount [.d (u s)] []) = some (.ret (.d (.int .i64 (cntN s 5 : Nat))) []) := ones_ev s (by omega)
      have wt := weightT_ev hc' (cntN s 5) gs.length f1 (by omega)
      have wb := wq_b (a := cntN s 5) (b := gs.length - cntN s 5 - 1) (c := gs.length) (by omega) (by omega) (by omega)
      have le2 : (oT K * 32 + 3) * j ≤ (oT K * 32 + 3) * 5 := Nat.mul_le_mul_left _ (by omega)
      have hT : oT K ≤ 70000 := by unfold oT; omega
      obtain ⟨_, _, _, b6, -, c2, hc2, rfl, rfl, rfl⟩ := own_b6 l gs n j g s K (1 + (oT K * 32 + 3) * j + (oT K * 32 + 2)) c1 (wq (cntN s 5) (gs.length - cntN s 5 - 1) gs.length) (fun p => oAt (gv l) gs j s p) hn hm hl hk h1 hK hgs hj hs hg (fun p hp => (oAt_b hn hm hvb hgs hp j (by omega)).2 hj s (by omega)) (by omega) (by omega) wb (.inr rfl)
      have e1 : (tb n fun p => can (if g.testBit p then oAt (gv l) gs j s p + wq (cntN s 5) (gs.length - cntN s 5 - 1) gs.length * ptV (gv l) g p (mgN gs s gs.length) else oAt (gv l) gs j s p)) = tb n (fun p => can (oAt (gv l) gs j (s + 1) p)) := by
        refine tb_congr fun p _ => ?_
        congr 1
        unfold oAt
        rw [oSet, tb', hgt]
        cases g.testBit p
        · rfl
        · simp only [if_true, Bool.false_eq_true, if_false]
          rw [Rat.add_assoc]
      rw [e1] at b6
      refine .inl ⟨_, _, ?_, c2, _, hc2, rfl, rfl, rfl⟩
      rw [← ha] at b6
      clear ha e1 wb tb' tbit le2 hT
      generalize tb n (fun p => can (oAt (gv l) gs j (s + 1) p)) = a2 at *
      generalize can (wq (cntN s 5) (gs.length - cntN s 5 - 1) gs.length) = r4 at *
      generalize cntN s 5 = cs at *
      generalize 2 ^ gs.length = M at *
      generalize s / 2 ^ j = q at *
      have ha' : bitsD .and .i64 (q : Int) 1 = 0 := han
      generalize c1 = cc at *
      simp (disch := omega) [owen_Values.b4, hs, sh, ha', on, wt, b6, -vBin_shr]
  · rintro e μ ⟨c', a, hc', ha, rfl, rfl⟩
    have : a = tb n fun p => can (oG (gv l) gs p (j + 1)) := by rw [ha]; exact tb_congr fun p _ => by rw [oAt_all]
    subst this
    clear ha
    generalize 2 ^ gs.length = M at *
    exact ⟨.exit 4, _, _, by simp [owen_Values.b4] <;> first | rfl | exact ⟨rfl, rfl⟩, by simp, c', hc', rfl, rfl, rfl⟩
theorem own_b2 (l : List RQ) (gs : List Int) (n K : Nat) (c : List D) (hn : n ≤ 5) (hm : gs.length ≤ 5) (hl : l.length = 2 ^ n) (hk : ∀ r ∈ l, r.ok K) (h1 : 1 ≤ K) (hK : K ≤ 1000) (hgs : ∀ g ∈ gs, 0 < g ∧ g < ((2 ^ n : Nat) : Int)) (hc : TS c) :
    ∃ z e μ, EX ip nv1 (.code (.loop [] [] owen_Values.b2) [(0, .d (.sl 3 (el l))), (1, .d (.sl 1 (el gs))), (6, .d (.int .i64 (n : Int))), (8, .ptr 30 0), (9, .own 32 3 0 n), (43, .d (.sl 1 (el gs))), (44, .d (.int .i64 (gs.length : Int))), (45, .d (.int .i64 0))] [(30, ⟨0, false, c⟩), (32, ⟨0, false, el (tb n fun _ => can 0)⟩)]) = some (.st z e μ) ∧ z ≠ .normal ∧
    ∃ c', TS c' ∧ z = .exit 2 ∧ e = [(0, .d (.sl 3 (el l))), (1, .d (.sl 1 (el gs))), (6, .d (.int .i64 (n : Int))), (8, .ptr 30 0), (9, .own 32 3 0 n), (43, .d (.sl 1 (el gs))), (44, .d (.int .i64 (gs.length : Int))), (45, .d (.int .i64 (gs.length : Int))), (46, .d (.bool false))] ∧ μ = [(30, ⟨0, false, c'⟩), (32, ⟨0, false, el (owL l gs n)⟩)] := by
  refine loop_n gs.length (fun j e μ => ∃ (c' : List D) (a : List RQ), TS c' ∧ a = tb n (fun p => can (oG (gv l) gs p j)) ∧ e = [(0, .d (.sl 3 (el l))), (1, .d (.sl 1 (el gs))), (6, .d (.int .i64 (n : Int))), (8, .ptr 30 0), (9, .own 32 3 0 n), (43, .d (.sl 1 (el gs))), (44, .d (.int .i64 (gs.length : Int))), (45, .d (.int .i64 (j : Int)))] ∧ μ = [(30, ⟨0, false, c'⟩), (32, ⟨0, false, el a⟩)]) ?_ ?_ ⟨c, _, hc, rfl, rfl, rfl⟩
  · rintro j e μ hj ⟨c', a, hc', ha, rfl, rfl⟩
    have hx := hgs _ (mem_ix hj)
    obtain ⟨g, hg⟩ : ∃ g : Nat, ix gs j = (g : Int) := ⟨(ix gs j).toNat, by omega⟩
    obtain ⟨_, _, _, b4, -, c2, hc2, rfl, rfl, rfl⟩ := own_b4 l gs n j g K c' hn hm hl hk h1 hK hgs hj hg hc'
    have sh := i_shl1 (n := gs.length) (by omega)
    rw [← ha] at b4
    refine .inl ⟨_, _, ?_, c2, _, hc2, rfl, rfl, rfl⟩
    clear ha
    generalize tb n (fun p => can (oG (gv l) gs p (j + 1))) = a2 at *
    generalize 2 ^ gs.length = M at *
    simp (disch := omega) [owen_Values.b2, hj, hg, sh, b4, -vBin_shl]
  · rintro e μ ⟨c', a, hc', ha, rfl, rfl⟩
    have : a = owL l gs n := ha
    subst this
    clear ha
    exact ⟨.exit 2, _, _, by simp [owen_Values.b2] <;> first | rfl | exact ⟨rfl, rfl⟩, by simp, c', hc', rfl, rfl, rfl⟩
/-- Groups of so many players are no more than those. -/
theorem cnt_sum : ∀ (gs : List Int) (n : Nat), (∀ p, p < n → gs.countP (fun g => g.toNat.testBit p) = 1) → ((List.range n).map fun p => gs.countP fun g => g.toNat.testBit p).sum = n := by
  intro gs n h
  induction n with
  | zero => rfl
  | succ n ih =>
    rw [List.range_succ, List.map_append, List.sum_append, ih fun p hp => h p (by omega)]
    simp [h n (by omega)]
theorem cnt_swap (n : Nat) : ∀ gs : List Int, ((List.range n).map fun p => gs.countP fun g => g.toNat.testBit p).sum = (gs.map fun g => cntN g.toNat n).sum
  | [] => by
    induction n with
    | zero => rfl
    | succ n ih => rw [List.range_succ, List.map_append, List.sum_append, ih]; simp
  | g :: r => by
    have ih := cnt_swap n r
    rw [List.map_cons, List.sum_cons, ← ih]
    clear ih
    unfold cntN
    induction n with
    | zero => rfl
    | succ n ih =>
      rw [List.range_succ, List.map_append, List.sum_append, ih, List.map_append, List.sum_append, List.countP_append]
      simp only [List.map_cons, List.map_nil, List.sum_cons, List.sum_nil, List.countP_cons, List.countP_nil]
      omega
theorem rightG_len {gs : List Int} {n : Nat} (h : rightG gs n = true) : gs.length ≤ n := by
  obtain ⟨hg, hc⟩ := rightG_iff h
  have e := cnt_sum gs n hc
  rw [cnt_swap] at e
  have : ∀ gs : List Int, (∀ g ∈ gs, 0 < g ∧ g < ((2 ^ n : Nat) : Int)) → gs.length ≤ (gs.map fun g => cntN g.toNat n).sum := by
    intro gs
    induction gs with
    | nil => intro _; simp
    | cons g r ih =>
      intro h
      have h1 := ih fun x hx => h x (by simp [hx])
      obtain ⟨g0, g1⟩ := h g (by simp)
      have : 0 < cntN g.toNat n := by
        unfold cntN
        rw [List.countP_pos_iff]
        obtain ⟨p, hp⟩ := Nat.exists_testBit_of_ne_zero (x := g.toNat) (by omega)
        refine ⟨p, List.mem_range.2 ?_, hp⟩
        rcases Nat.lt_or_ge p n with hpn | hpn
        · exact hpn
        · rw [bit_ge (s := g.toNat) (n := n) (by omega) hpn] at hp; cases hp
      rw [List.map_cons, List.sum_cons, List.length_cons]
      omega
  have := this gs hg
  omega
theorem owen_bad (l : List RQ) (g : List Int) (hl : l.length ≤ 33) (hg : g.length ≤ 12) (h : ∀ n, gmN l.length = some n → rightG g n = false) : EX ip nv1 (.call F.owen_Values [.d (.sl 3 (el l)), .d (.sl 1 (el g))] []) = some (.ret (.tp [.d (.sl 3 []), .d (.int .i64 1)]) []) := by
  rw [S_call owen_Values.ip rfl]
  have p := players_ev (nv := nv1) l hl
  cases hn : gmN l.length with
  | none =>
    rw [hn] at p
    simp only at p
    simp (disch := omega) [owen_Values, p]
  | some n =>
    rw [hn] at p
    simp only at p
    have hn6 := gmN_lt ⟨l.length, by omega⟩ n hn
    have o := owenRight_ev (nv := nv1) g n (by omega) (by omega)
    rw [orF_right, h n hn] at o
    simp (disch := omega) [owen_Values, p, o]
theorem owen_ev (l : List RQ) (gs : List Int) (n K : Nat) (hl : l.length ≤ 33) (hg : gs.length ≤ 12) (hn : gmN l.length = some n) (h : rightG gs n = true) (hk : ∀ r ∈ l, r.ok K) (h1 : 1 ≤ K) (hK : K ≤ 1000) : EX ip nv1 (.call F.owen_Values [.d (.sl 3 (el l)), .d (.sl 1 (el gs))] []) = some (.ret (.tp [.d (.sl 3 (el (owL l gs n))), .d (.int .i64 0)]) []) := by
  rw [S_call owen_Values.ip rfl]
  have p := players_ev (nv := nv1) l hl
  rw [hn] at p
  simp only at p
  have hn6 := gmN_lt ⟨l.length, by omega⟩ n hn
  have hlen := (gmN_some ⟨l.length, by omega⟩ ⟨n, hn6⟩ hn).1
  simp only at hlen
  have o := owenRight_ev (nv := nv1) gs n (by omega) (by omega)
  rw [orF_right, h] at o
  obtain ⟨hgr, -⟩ := rightG_iff h
  have hm := rightG_len h
  have nw := new_ev
  obtain ⟨_, _, _, b0, -, rfl, rfl, rfl⟩ := own_b0 l gs n (by omega) c0
  obtain ⟨_, _, _, b2, -, c', -, rfl, rfl, rfl⟩ := own_b2 l gs n K c0 (by omega) (by omega) hlen hk h1 hK hgr (.inl rfl)
  have hol : (owL l gs n).length = n := by simp [owL]
  have hzl : (tb n fun _ => can 0).length = n := by simp
  generalize owL l gs n = a at *
  generalize (tb n fun _ => can 0) = a0 at *
  generalize c0 = cz at *
  simp (disch := omega) [owen_Values, p, o, nw, b0, b2, hol]
end Go.Proofs.YtnmbpainnkdonaaGreatDoor

/-! Weighed sums over sets: two are one if their numbers in a great base are. What a player of a group gets, as such a sum. -/
namespace Go.Proofs.YtnmbpainnkdonaaGreatDoor
open Go Go.Proofs.R
set_option maxRecDepth 10000
/-- A weighed sum: weights and sets. -/
def ls : List (Nat × Nat) → (Nat → Rat) → Rat
  | [], _ => 0
  | t :: r, F => (t.1 : Rat) * F t.2 + ls r F
theorem ls_app (F : Nat → Rat) : ∀ T U : List (Nat × Nat), ls (T ++ U) F = ls T F + ls U F
  | [], U => by simp [ls, Rat.zero_add]
  | t :: r, U => by rw [List.cons_append, ls, ls_app F r U, ls]; grind
/-- All weights so many times. -/
def sc (k : Nat) (T : List (Nat × Nat)) : List (Nat × Nat) := T.map fun t => (k * t.1, t.2)
theorem ls_sc (F : Nat → Rat) (k : Nat) : ∀ T : List (Nat × Nat), ls (sc k T) F = (k : Rat) * ls T F
  | [] => by simp [sc, ls, Rat.mul_zero]
  | t :: r => by
    have ih := ls_sc F k r
    simp only [sc] at ih ⊢
    rw [List.map_cons, ls, ih, ls]
    push_cast
    grind
/-- The weights as one number. -/
def gf (T : List (Nat × Nat)) : Nat := T.foldr (fun t n => t.1 * 16777216 ^ t.2 + n) 0
def tot (T : List (Nat × Nat)) : Nat := T.foldr (fun t n => t.1 + n) 0
def cf (T : List (Nat × Nat)) (s : Nat) : Nat := T.foldr (fun t n => (if s = t.2 then t.1 else 0) + n) 0
theorem cf_le (s : Nat) : ∀ T : List (Nat × Nat), cf T s ≤ tot T
  | [] => Nat.le_refl _
  | t :: r => by
    have := cf_le s r
    simp only [cf, tot, List.foldr_cons] at this ⊢
    split <;> omega
theorem ls_cf (F : Nat → Rat) (M : Nat) : ∀ T : List (Nat × Nat), (∀ t ∈ T, t.2 < M) → ls T F = sm M fun s => ((cf T s : Nat) : Rat) * F s
  | [], _ => by
    rw [ls, sm_congr (g := fun _ => 0) (fun s _ => by simp [cf]), sm_zero]
  | t :: r, h => by
    have ih := ls_cf F M r fun x hx => h x (by simp [hx])
    have e := sm_one (fun s => (t.1 : Rat) * F s) (fun s => (t.1 : Rat) * F s) t.2 M
    rw [if_pos (h t (by simp))] at e
    rw [ls, ih, ← e, ← sm_add]
    refine sm_congr fun s _ => ?_
    have e1 : cf (t :: r) s = (if s = t.2 then t.1 else 0) + cf r s := rfl
    rw [e1]
    push_cast
    by_cases c : s = t.2
    · subst c; simp only [if_true]; grind
    · simp only [if_neg c]; grind
/-- Digits in the great base. -/
def dgs (f : Nat → Nat) : Nat → Nat
  | 0 => 0
  | M + 1 => dgs f M + f M * 16777216 ^ M
theorem dgs_add (f g : Nat → Nat) : ∀ M, dgs (fun s => f s + g s) M = dgs f M + dgs g M
  | 0 => rfl
  | M + 1 => by simp only [dgs]; rw [dgs_add f g M, Nat.add_mul]; omega
theorem dgs_zero : ∀ M, dgs (fun _ => 0) M = 0
  | 0 => rfl
  | M + 1 => by simp only [dgs]; rw [dgs_zero M]; omega
theorem dgs_one (a k : Nat) : ∀ M, dgs (fun s => if s = k then a else 0) M = if k < M then a * 16777216 ^ k else 0
  | 0 => by simp [dgs]
  | M + 1 => by
    simp only [dgs]
    rw [dgs_one a k M]
    by_cases h : M = k
    · subst h; simp
    · by_cases h2 : k < M
      · rw [if_pos h2, if_neg h, if_pos (by omega)]; omega
      · rw [if_neg h2, if_neg h, if_neg (by omega)]; omega
theorem gf_dgs (M : Nat) : ∀ T : List (Nat × Nat), (∀ t ∈ T, t.2 < M) → gf T = dgs (cf T) M
  | [], _ => (dgs_zero M).symm
  | t :: r, h => by
    have ih := gf_dgs M r fun x hx => h x (by simp [hx])
    have e := dgs_one t.1 t.2 M
    rw [if_pos (h t (by simp))] at e
    have e1 : cf (t :: r) = fun s => (if s = t.2 then t.1 else 0) + cf r s := rfl
    rw [e1, dgs_add, e, ← ih]
    rfl
theorem dgs_lt {f : Nat → Nat} : ∀ M, (∀ s, s < M → f s < 16777216) → dgs f M < 16777216 ^ M
  | 0, _ => by simp [dgs]
  | M + 1, h => by
    have ih := dgs_lt M fun s hs => h s (by omega)
    have hf := h M (by omega)
    simp only [dgs, Nat.pow_succ]
    generalize 16777216 ^ M = P at *
    have : f M * P + P ≤ 16777216 * P := by
      have := Nat.mul_le_mul_right P (show f M + 1 ≤ 16777216 by omega)
      rw [Nat.add_mul] at this
      omega
    omega
theorem dgs_inj {f g : Nat → Nat} : ∀ M, (∀ s, s < M → f s < 16777216) → (∀ s, s < M → g s < 16777216) → dgs f M = dgs g M → ∀ s, s < M → f s = g s
  | 0, _, _, _, s, hs => by omega
  | M + 1, hf, hg, h, s, hs => by
    have l1 := dgs_lt M fun s hs => hf s (by omega)
    have l2 := dgs_lt M fun s hs => hg s (by omega)
    simp only [dgs] at h
    have hM : f M = g M := by
      have e1 : (dgs f M + f M * 16777216 ^ M) / 16777216 ^ M = f M := by
        rw [Nat.add_mul_div_right _ _ (by omega), Nat.div_eq_of_lt l1, Nat.zero_add]
      have e2 : (dgs g M + g M * 16777216 ^ M) / 16777216 ^ M = g M := by
        rw [Nat.add_mul_div_right _ _ (by omega), Nat.div_eq_of_lt l2, Nat.zero_add]
      rw [← e1, ← e2, h]
    by_cases c : s = M
    · rw [c]; exact hM
    · refine dgs_inj M (fun s hs => hf s (by omega)) (fun s hs => hg s (by omega)) ?_ s (by omega)
      rw [hM] at h
      omega
theorem ls_eq {T U : List (Nat × Nat)} (M : Nat) (hT : ∀ t ∈ T, t.2 < M) (hU : ∀ t ∈ U, t.2 < M) (tT : tot T < 16777216) (tU : tot U < 16777216) (h : gf T = gf U) (F : Nat → Rat) : ls T F = ls U F := by
  rw [gf_dgs M T hT, gf_dgs M U hU] at h
  have e := dgs_inj M (fun s _ => Nat.lt_of_le_of_lt (cf_le s T) tT) (fun s _ => Nat.lt_of_le_of_lt (cf_le s U) tU) h
  rw [ls_cf F M T hT, ls_cf F M U hU]
  exact sm_congr fun s hs => by rw [e s hs]
/-- The check of two sums. -/
def lsB (M : Nat) (T U : List (Nat × Nat)) : Bool := T.all (fun t => Nat.blt t.2 M) && U.all (fun t => Nat.blt t.2 M) && Nat.blt (tot T) 16777216 && Nat.blt (tot U) 16777216 && Nat.beq (gf T) (gf U)
theorem blt_lt {a b : Nat} (h : Nat.blt a b = true) : a < b := Nat.le_of_ble_eq_true h
theorem lsB_eq {M : Nat} {T U : List (Nat × Nat)} (h : lsB M T U = true) (F : Nat → Rat) : ls T F = ls U F := by
  simp only [lsB, Bool.and_eq_true, List.all_eq_true] at h
  obtain ⟨⟨⟨⟨h1, h2⟩, h3⟩, h4⟩, h5⟩ := h
  exact ls_eq M (fun t ht => blt_lt (h1 t ht)) (fun t ht => blt_lt (h2 t ht)) (blt_lt h3) (blt_lt h4) (Nat.eq_of_beq_eq_true h5) F
/-- Sixty times how much a coalition counts. -/
def w60 (c n : Nat) : Nat := 60 * (fac c * fac (n - c - 1)) / fac n
theorem w60_eq : ∀ n : Fin 6, ∀ c : Fin 5, c.val < n.val → wq c.val (n.val - c.val - 1) n.val = (w60 c.val n.val : Rat) / 60 := by decide +kernel
theorem wq60 {c n : Nat} (hn : n ≤ 5) (hc : c < n) : wq c (n - c - 1) n = (w60 c n : Rat) * (1 / 60) := by
  have := w60_eq ⟨n, by omega⟩ ⟨c, by omega⟩ hc
  simp only at this
  rw [this]
  grind
/-- What a player adds to a set. -/
def mF (v : Nat → Rat) (i : Nat) (s : Nat) : Rat := v (s ||| 2 ^ i) - v s
/-- The shares of a group's player behind some groups. -/
def ptL (g i b : Nat) : List (Nat × Nat) := (subs (g - 2 ^ i) 32 (g - 2 ^ i)).map fun s => (w60 (cntN s 5) (cntN g 5), b ||| s)
theorem ptA_ls {v : Nat → Rat} {sz i b : Nat} (hsz : sz ≤ 5) : ∀ (r : List Nat) (a : Rat), (∀ s ∈ r, cntN s 5 < sz) → ptA v sz i b r a = a + (1 / 60 : Rat) * ls (r.map fun s => (w60 (cntN s 5) sz, b ||| s)) (mF v i)
  | [], a, _ => by simp only [ptA, List.map_nil, ls]; grind
  | s :: r, a, h => by
    rw [ptA, ptA_ls hsz r _ fun x hx => h x (by simp [hx]), List.map_cons, ls]
    unfold ptT mF
    rw [wq60 hsz (h s (by simp))]
    grind
theorem ptV_ls {v : Nat → Rat} {g i b : Nat} (hg : g < 32) (hi : i < 5) (hgi : g.testBit i = true) : ptV v g i b = (1 / 60 : Rat) * ls (ptL g i b) (mF v i) := by
  unfold ptV ptL
  rw [ptA_ls (cntN_le g 5)]
  · grind
  · intro s hs
    have h1 := subs_in (rest := g - 2 ^ i) (by rw [Nat.and_self]) s hs
    have h2 : s < 32 := by
      have : s ≤ g - 2 ^ i := by rw [← h1]; exact Nat.and_le_right
      exact Nat.lt_of_le_of_lt (Nat.le_trans this (Nat.sub_le _ _)) hg
    exact sub_facts ⟨g, hg⟩ ⟨i, hi⟩ ⟨s, h2⟩ hgi h1
/-- The shares of a player, up to a set of groups; up to a group; all. -/
def osL (gs : List Int) (i j : Nat) : Nat → List (Nat × Nat)
  | 0 => []
  | s + 1 => if s.testBit j then osL gs i j s else osL gs i j s ++ sc (w60 (cntN s 5) gs.length) (ptL (ix gs j).toNat i (mgN gs s gs.length))
def ogL (gs : List Int) (i : Nat) : Nat → List (Nat × Nat)
  | 0 => []
  | j + 1 => ogL gs i j ++ if (ix gs j).toNat.testBit i then osL gs i j (2 ^ gs.length) else []
theorem oSet_ls {v : Nat → Rat} {gs : List Int} {i j : Nat} (hm : gs.length ≤ 5) (hj : j < gs.length) (hi : i < 5) (hg : (ix gs j).toNat < 32) (hgi : (ix gs j).toNat.testBit i = true) : ∀ s, s ≤ 2 ^ gs.length → oSet v gs i j s = (1 / 3600 : Rat) * ls (osL gs i j s) (mF v i)
  | 0, _ => by simp only [oSet, osL, ls]; grind
  | s + 1, h => by
    have hpm : 2 ^ gs.length ≤ 2 ^ 5 := Nat.pow_le_pow_right (by decide) hm
    rw [oSet, osL, oSet_ls hm hj hi hg hgi s (by omega)]
    cases hb : s.testBit j
    · obtain ⟨f1, -, -, -⟩ := set_facts ⟨gs.length, by omega⟩ ⟨j, by omega⟩ ⟨s, by omega⟩ hj (by simp only; omega) hb
      simp only at f1
      simp only [Bool.false_eq_true, if_false]
      rw [ls_app, ls_sc, ptV_ls hg hi hgi, wq60 hm f1]
      grind
    · simp only [if_true]
theorem owV_ls {v : Nat → Rat} {gs : List Int} {n i : Nat} (hn : n ≤ 5) (hm : gs.length ≤ 5) (hg : ∀ g ∈ gs, 0 < g ∧ g < ((2 ^ n : Nat) : Int)) (hi : i < n) : owV v gs i = (1 / 3600 : Rat) * ls (ogL gs i gs.length) (mF v i) := by
  have hp : 2 ^ n ≤ 2 ^ 5 := Nat.pow_le_pow_right (by decide) hn
  have : ∀ j, j ≤ gs.length → oG v gs i j = (1 / 3600 : Rat) * ls (ogL gs i j) (mF v i) := by
    intro j
    induction j with
    | zero => intro _; simp only [oG, ogL, ls]; grind
    | succ j ih =>
      intro hj
      have hx := hg _ (mem_ix (l := gs) (i := j) (by omega))
      rw [oG, ogL, ih (by omega), ls_app]
      split
      · rename_i hb
        rw [oSet_ls hm (by omega) (by omega) (by omega) hb _ (Nat.le_refl _)]
        grind
      · simp only [ls]; grind
  exact this gs.length (Nat.le_refl _)
/-- The shares of a player of the game itself. -/
def shT (n i : Nat) : Nat → List (Nat × Nat)
  | 0 => []
  | s + 1 => if s.testBit i then shT n i s else shT n i s ++ [(w60 (cntN s 5) n, s)]
theorem shS_ls {v : Nat → Rat} {n i : Nat} (hn : n ≤ 5) (hi : i < n) : ∀ s, s ≤ 2 ^ n → shS v n i s = (1 / 60 : Rat) * ls (shT n i s) (mF v i)
  | 0, _ => by simp only [shS, shT, ls]; grind
  | s + 1, h => by
    have hp : 2 ^ n ≤ 2 ^ 5 := Nat.pow_le_pow_right (by decide) hn
    rw [shS, shT, shS_ls hn hi s (by omega)]
    cases hb : s.testBit i
    · obtain ⟨f1, f2, f3, f4⟩ := set_facts ⟨n, by omega⟩ ⟨i, by omega⟩ ⟨s, by omega⟩ hi (by simp only; omega) hb
      simp only at f1 f3
      simp only [Bool.false_eq_true, if_false]
      rw [ls_app, wq60 hn f1]
      simp only [ls, mF, f3]
      grind
    · simp only [if_true]
theorem shV_ls {v : Nat → Rat} {n i : Nat} (hn : n ≤ 5) (hi : i < n) : shV v n i = (1 / 60 : Rat) * ls (shT n i (2 ^ n)) (mF v i) := shS_ls hn hi _ (Nat.le_refl _)
theorem ow_sh {v : Nat → Rat} {gs : List Int} {n i : Nat} (hn : n ≤ 5) (hm : gs.length ≤ 5) (hg : ∀ g ∈ gs, 0 < g ∧ g < ((2 ^ n : Nat) : Int)) (hi : i < n) (h : lsB 32 (ogL gs i gs.length) (sc 60 (shT n i (2 ^ n))) = true) : owV v gs i = shV v n i := by
  rw [owV_ls hn hm hg hi, shV_ls hn hi, lsB_eq h, ls_sc]
  grind
theorem alone_tab : ∀ n : Fin 6, ∀ i : Fin 5, i.val < n.val → lsB 32 (ogL (twos n.val) i.val (twos n.val).length) (sc 60 (shT n.val i.val (2 ^ n.val))) = true := by decide +kernel
theorem onegroup_tab : ∀ n : Fin 6, ∀ i : Fin 5, i.val < n.val → lsB 32 (ogL [((2 ^ n.val - 1 : Nat) : Int)] i.val 1) (sc 60 (shT n.val i.val (2 ^ n.val))) = true := by decide +kernel
theorem owL_sh {l : List RQ} {gs : List Int} {n : Nat} (h : ∀ i, i < n → owV (gv l) gs i = shV (gv l) n i) : owL l gs n = shL l n := tb_congr fun i hi => by rw [h i hi]
theorem shAll_ev {nv : R.Nv} (hz : TzOk nv) (l : List RQ) (n : Nat) (hn : n ≤ 5) (hl : l.length = 2 ^ n) (hk : ∀ r ∈ l, r.ok 2) : EX ip nv (.call F.dendronref10_All [.d (.sl 3 (el (shL l n))), .d (.sl 3 (el (shL l n)))] []) = some (.ret (.d (.bool true)) []) := by
  have vb : ∀ p, p < n → Bq (1 + (2 * 2 + 22) * 32) (shV (gv l) n p) := fun p hp => shV_b hn (fun s hs => gv_b hk (by omega) (by omega)) hp
  exact all10_ev hz n (1 + (2 * 2 + 22) * 32) (fun p => shV (gv l) n p) (shL l n) (by simp [shL]) (by omega) (fun p hp => by
    have : ix (shL l n) p = can (shV (gv l) n p) := tb_ix hp
    rw [this]
    exact ⟨can_v _, can_ok (vb p hp)⟩) vb (by omega) (by omega)
end Go.Proofs.YtnmbpainnkdonaaGreatDoor
