/- What a group's players get comes to what the group gets of the game of groups; owen.Groups. -/
import Derived.Test.YtnmbpainnkdonaaGreatDoorOp
import Derived.Test.YtnmbpainnkdonaaGreatDoorGh
set_option linter.unusedSimpArgs false
set_option linter.unusedVariables false
namespace Go.Proofs.YtnmbpainnkdonaaGreatDoor
open Go Go.Proofs.R
set_option maxRecDepth 10000
/-- A sum over a set's players. -/
def sB (f : Nat → Rat) (g : Nat) : Nat → Rat
  | 0 => 0
  | i + 1 => if g.testBit i then sB f g i + f i else sB f g i
theorem sB_congr {f h : Nat → Rat} {g : Nat} : ∀ {n : Nat}, (∀ i, i < n → g.testBit i = true → f i = h i) → sB f g n = sB h g n
  | 0, _ => rfl
  | n + 1, H => by
    rw [sB, sB, sB_congr fun i hi hb => H i (by omega) hb]
    split
    · rename_i hb; rw [H n (by omega) hb]
    · rfl
theorem sB_lin (f h : Nat → Rat) (c : Rat) (g : Nat) : ∀ n, sB (fun i => f i + c * h i) g n = sB f g n + c * sB h g n
  | 0 => by simp only [sB]; grind
  | n + 1 => by
    simp only [sB]
    rw [sB_lin f h c g n]
    split
    · grind
    · rfl
theorem sB_zero (g : Nat) : ∀ n, sB (fun _ => 0) g n = 0
  | 0 => rfl
  | n + 1 => by simp only [sB]; rw [sB_zero g n]; split <;> grind
theorem sB_b {f : Nat → Rat} {g K : Nat} : ∀ {n : Nat}, (∀ i, i < n → Bq K (f i)) → Bq (1 + (K + 1) * n) (sB f g n)
  | 0, _ => Bq.zero
  | n + 1, h => by
    have ih := sB_b (g := g) (n := n) fun i hi => h i (by omega)
    have e : 1 + (K + 1) * (n + 1) = 1 + (K + 1) * n + (K + 1) := by rw [Nat.mul_add]; omega
    rw [sB]
    split
    · exact (ih.add (h n (by omega))).mono (by omega)
    · exact ih.mono (by omega)
/-- All shares within a group: with the player, and without. -/
def pP (g : Nat) : Nat → List (Nat × Nat)
  | 0 => []
  | i + 1 => pP g i ++ if g.testBit i then (subs (g - 2 ^ i) 32 (g - 2 ^ i)).map fun s => (w60 (cntN s 5) (cntN g 5), s ||| 2 ^ i) else []
def pM (g : Nat) : Nat → List (Nat × Nat)
  | 0 => []
  | i + 1 => pM g i ++ if g.testBit i then (subs (g - 2 ^ i) 32 (g - 2 ^ i)).map fun s => (w60 (cntN s 5) (cntN g 5), s) else []
theorem eff_tab : ∀ g : Fin 32, ∀ n : Fin 6, g.val < 2 ^ n.val → lsB 32 (pP g.val n.val ++ [(60, 0)]) (pM g.val n.val ++ [(60, g.val)]) = true := by decide +kernel
theorem ls_map (v : Nat → Rat) (i b : Nat) (w : Nat → Nat) : ∀ r : List Nat, ls (r.map fun s => (w s, b ||| s)) (mF v i) = ls (r.map fun s => (w s, s ||| 2 ^ i)) (fun s => v (b ||| s)) - ls (r.map fun s => (w s, s)) (fun s => v (b ||| s))
  | [] => by simp only [List.map_nil, ls]; grind
  | s :: r => by
    simp only [List.map_cons, ls]
    rw [ls_map v i b w r]
    unfold mF
    rw [Nat.or_assoc]
    grind
theorem sB_pt (v : Nat → Rat) (g b : Nat) (hg : g < 32) : ∀ n, n ≤ 5 → sB (fun i => ptV v g i b) g n = (1 / 60 : Rat) * (ls (pP g n) (fun s => v (b ||| s)) - ls (pM g n) (fun s => v (b ||| s)))
  | 0, _ => by simp only [sB, pP, pM, ls]; grind
  | n + 1, h => by
    rw [sB, pP, pM, ls_app, ls_app, sB_pt v g b hg n (by omega)]
    cases hb : g.testBit n
    · simp only [Bool.false_eq_true, if_false, ls]
      grind
    · simp only [if_true]
      rw [ptV_ls hg (by omega) hb]
      unfold ptL
      rw [ls_map]
      grind
/-- All shares of a group come to what it adds. -/
theorem eff (v : Nat → Rat) {g b n : Nat} (hn : n ≤ 5) (hg : g < 2 ^ n) : sB (fun i => ptV v g i b) g n = v (b ||| g) - v b := by
  have hp : 2 ^ n ≤ 2 ^ 5 := Nat.pow_le_pow_right (by decide) hn
  have h := lsB_eq (eff_tab ⟨g, by omega⟩ ⟨n, by omega⟩ hg) (fun s => v (b ||| s))
  simp only [ls_app, ls, Nat.or_zero] at h
  rw [sB_pt v g b (by omega) n hn]
  push_cast at h
  grind
theorem mg_set {gs : List Int} {s j : Nat} (hb : s.testBit j = false) : ∀ k, mgN gs (s ||| 2 ^ j) k = if j < k then mgN gs s k ||| (ix gs j).toNat else mgN gs s k
  | 0 => rfl
  | k + 1 => by
    have ih := mg_set (gs := gs) hb k
    have e1 : mgN gs (s ||| 2 ^ j) (k + 1) = if (s ||| 2 ^ j).testBit k then mgN gs (s ||| 2 ^ j) k ||| (ix gs k).toNat else mgN gs (s ||| 2 ^ j) k := rfl
    have e2 : mgN gs s (k + 1) = if s.testBit k then mgN gs s k ||| (ix gs k).toNat else mgN gs s k := rfl
    rw [e1, ih, Nat.testBit_or, Nat.testBit_two_pow, e2]
    rcases Nat.lt_trichotomy j k with c | c | c
    · have h1 : j < k + 1 := by omega
      have h2 : ¬ j = k := by omega
      simp only [c, h1, h2, decide_false, Bool.or_false, if_true]
      split
      · rw [Nat.or_assoc, Nat.or_comm (ix gs j).toNat, ← Nat.or_assoc]
      · rfl
    · subst c
      have h1 : j < j + 1 := by omega
      have h2 : ¬ j < j := by omega
      simp only [hb, h1, h2, decide_true, Bool.or_true, if_true, if_false, Bool.false_eq_true]
    · have h1 : ¬ j < k + 1 := by omega
      have h2 : ¬ j = k := by omega
      have h3 : ¬ j < k := by omega
      simp only [h1, h2, h3, decide_false, Bool.or_false, if_false]
theorem grp_uniq {gs : List Int} {n : Nat} (h : rightG gs n = true) {p j k : Nat} (hp : p < n) (hj : j < gs.length) (hk : k < gs.length) (bj : (ix gs j).toNat.testBit p = true) (bk : (ix gs k).toNat.testBit p = true) : j = k := by
  have key : ∀ {j k : Nat}, j < k → k < gs.length → (ix gs j).toNat.testBit p = true → (ix gs k).toNat.testBit p = true → False := by
    intro j k hjk hk bj bk
    have c := (rightG_iff h).2 p hp
    have e : gs = gs.take k ++ (ix gs k :: gs.drop (k + 1)) := by rw [← drop_ix' hk, List.take_append_drop]
    rw [e, List.countP_append, List.countP_cons, bk] at c
    have : 0 < (gs.take k).countP (fun g => g.toNat.testBit p) := by
      rw [List.countP_pos_iff]
      refine ⟨ix gs j, ?_, bj⟩
      have : ix gs j = (gs.take k)[j]'(by simp; omega) := by simp [ix, List.getD_eq_getElem?_getD, (by omega : j < gs.length)]
      rw [this]
      exact List.getElem_mem _
    simp at c
    omega
  rcases Nat.lt_trichotomy j k with hlt | heq | hlt
  · exact (key hlt hk bj bk).elim
  · exact heq
  · exact (key hlt hj bk bj).elim
theorem oG_one {v : Nat → Rat} {gs : List Int} {n : Nat} (h : rightG gs n = true) {i j : Nat} (hi : i < n) (hj : j < gs.length) (hb : (ix gs j).toNat.testBit i = true) : ∀ k, k ≤ gs.length → oG v gs i k = if j < k then oSet v gs i j (2 ^ gs.length) else 0
  | 0, _ => rfl
  | k + 1, hk => by
    rw [oG, oG_one h hi hj hb k (by omega)]
    by_cases c : j = k
    · subst c
      rw [if_pos hb, if_neg (by omega), if_pos (by omega), Rat.zero_add]
    · have : (ix gs k).toNat.testBit i = false := by
        cases hbk : (ix gs k).toNat.testBit i
        · rfl
        · exact absurd (grp_uniq h hi hj (by omega) hb hbk) c
      rw [this]
      simp only [Bool.false_eq_true, if_false, Rat.add_zero]
      by_cases c2 : j < k
      · rw [if_pos c2, if_pos (by omega)]
      · rw [if_neg c2, if_neg (by omega)]
/-- A group's players together: what the group gets of the game of groups. -/
theorem sB_set {v : Nat → Rat} {gs : List Int} {n j : Nat} (hn : n ≤ 5) (hm : gs.length ≤ 5) (hj : j < gs.length) (hg : (ix gs j).toNat < 2 ^ n) : ∀ s, s ≤ 2 ^ gs.length → sB (fun i => oSet v gs i j s) (ix gs j).toNat n = shS (fun s => v (mgN gs s gs.length)) gs.length j s
  | 0, _ => by
    simp only [oSet, shS]
    exact sB_zero _ _
  | s + 1, h => by
    have hpm : 2 ^ gs.length ≤ 2 ^ 5 := Nat.pow_le_pow_right (by decide) hm
    rw [shS, ← sB_set hn hm hj hg s (by omega)]
    cases hb : s.testBit j
    · obtain ⟨f1, f2, f3, f4⟩ := set_facts ⟨gs.length, by omega⟩ ⟨j, by omega⟩ ⟨s, by omega⟩ hj (by simp only; omega) hb
      simp only at f3
      have e : sB (fun i => oSet v gs i j (s + 1)) (ix gs j).toNat n = sB (fun i => oSet v gs i j s + wq (cntN s 5) (gs.length - cntN s 5 - 1) gs.length * ptV v (ix gs j).toNat i (mgN gs s gs.length)) (ix gs j).toNat n :=
        sB_congr fun i _ _ => by rw [oSet, hb]; rfl
      rw [e, sB_lin, eff v hn hg]
      simp only [Bool.false_eq_true, if_false]
      rw [← f3, mg_set hb, if_pos hj]
    · have e : sB (fun i => oSet v gs i j (s + 1)) (ix gs j).toNat n = sB (fun i => oSet v gs i j s) (ix gs j).toNat n :=
        sB_congr fun i _ _ => by rw [oSet, hb]; rfl
      rw [e]
      simp only [if_true]
theorem sB_ow {v : Nat → Rat} {gs : List Int} {n j : Nat} (hn : n ≤ 5) (h : rightG gs n = true) (hj : j < gs.length) : sB (fun i => owV v gs i) (ix gs j).toNat n = shV (fun s => v (mgN gs s gs.length)) gs.length j := by
  have hm := rightG_len h
  have hx := (rightG_iff h).1 _ (mem_ix hj)
  have e : sB (fun i => owV v gs i) (ix gs j).toNat n = sB (fun i => oSet v gs i j (2 ^ gs.length)) (ix gs j).toNat n :=
    sB_congr fun i hi hb => by
      unfold owV
      rw [oG_one h hi hj hb _ (Nat.le_refl _), if_pos hj]
  rw [e, sB_set hn (by omega) hj (by omega) _ (Nat.le_refl _)]
  rfl
/-- What each group gets. -/
def grL (vals : List RQ) (gs : List Int) : List RQ := tb gs.length fun j => can (sB (fun i => (ix vals i).v) (ix gs j).toNat vals.length)
section
variable {nv : R.Nv}
theorem groups_b2 (hz : TzOk nv) (vals : List RQ) (gs : List Int) (g m K : Nat) (j : Nat) (B6 : Blk) (hv : ∀ r ∈ vals, r.ok K) (h1 : 1 ≤ K) (hK : K ≤ 1000000) (hl : vals.length ≤ 12) (hg : g < 4096) :
    ∃ z e μ, EX ip nv (.code (.loop [] [] owen_Groups.b2) [(0, .d (.sl 3 (el vals))), (6, .own 6 3 0 m), (8, .d (.int .i64 (g : Int))), (9, .ptr 9 0), (17, .d (.sl 1 (el gs))), (18, .d (.int .i64 (gs.length : Int))), (19, .d (.int .i64 (j : Int))), (24, .d (.sl 3 (el vals))), (25, .d (.int .i64 (vals.length : Int))), (26, .d (.int .i64 0))] [(6, B6), (9, ⟨0, true, (can 0).c⟩)]) = some (.st z e μ) ∧ z ≠ .normal ∧
    z = .exit 2 ∧ e = [(0, .d (.sl 3 (el vals))), (6, .own 6 3 0 m), (8, .d (.int .i64 (g : Int))), (9, .ptr 9 0), (17, .d (.sl 1 (el gs))), (18, .d (.int .i64 (gs.length : Int))), (19, .d (.int .i64 (j : Int))), (24, .d (.sl 3 (el vals))), (25, .d (.int .i64 (vals.length : Int))), (26, .d (.int .i64 (vals.length : Int))), (27, .d (.bool false))] ∧ μ = [(6, B6), (9, ⟨0, true, (can (sB (fun i => (ix vals i).v) g vals.length)).c⟩)] := by
  refine loop_n vals.length (fun i e μ => ∃ q : RQ, q = can (sB (fun i => (ix vals i).v) g i) ∧ e = [(0, .d (.sl 3 (el vals))), (6, .own 6 3 0 m), (8, .d (.int .i64 (g : Int))), (9, .ptr 9 0), (17, .d (.sl 1 (el gs))), (18, .d (.int .i64 (gs.length : Int))), (19, .d (.int .i64 (j : Int))), (24, .d (.sl 3 (el vals))), (25, .d (.int .i64 (vals.length : Int))), (26, .d (.int .i64 (i : Int)))] ∧ μ = [(6, B6), (9, ⟨0, true, q.c⟩)]) ?_ ?_ ⟨_, rfl, rfl, rfl⟩
  · rintro i e μ hi ⟨q, hq, rfl, rfl⟩
    have sh := i_shrN (s := g) (i := i) (by omega) (by omega)
    have ha := ibits_and (a := g / 2 ^ i) (b := 1) (by have := Nat.div_le_self g (2 ^ i); omega) (by omega)
    rw [show g / 2 ^ i &&& 1 = g / 2 ^ i % 2 from Nat.and_one_is_mod _] at ha
    have tb : g.testBit i = decide (g / 2 ^ i % 2 = 1) := Nat.testBit_eq_decide_div_mod_eq
    by_cases c : g / 2 ^ i % 2 = 1
    · have tb' : g.testBit i = true := by rw [tb]; simpa using c
      rw [c] at ha
      have sb := sB_b (f := fun i => (ix vals i).v) (g := g) (K := K) (n := i) fun i' hi' => Bq.v (ixq_ok hv (by omega)) h1
      have hle : (K + 1) * i ≤ (K + 1) * 12 := Nat.mul_le_mul_left _ (by omega)
      have ad := radd_ev hz (can (sB (fun i => (ix vals i).v) g i)) (ix vals i) (can_ok sb) (ixq_ok hv hi) (by omega) h1 (by omega)
      rw [can_v, ← hq] at ad
      refine .inl ⟨_, _, ?_, can (sB (fun i => (ix vals i).v) g i + (ix vals i).v), by rw [sB, if_pos tb'], rfl, rfl⟩
      clear tb tb' hq sb hle
      generalize can (sB (fun i => (ix vals i).v) g i + (ix vals i).v) = q2 at *
      generalize g / 2 ^ i = d at *
      have ha' : bitsD .and .i64 (d : Int) 1 = 1 := ha
      simp (disch := omega) [owen_Groups.b2, hi, sh, ha', ad, -vBin_shr]
    · have tb' : g.testBit i = false := by rw [tb]; simpa using c
      have c0 : g / 2 ^ i % 2 = 0 := by omega
      rw [c0] at ha
      refine .inl ⟨_, _, ?_, q, by rw [sB, tb', hq]; rfl, rfl, rfl⟩
      clear tb tb' hq
      generalize g / 2 ^ i = d at *
      have ha' : bitsD .and .i64 (d : Int) 1 = 0 := ha
      simp (disch := omega) [owen_Groups.b2, hi, sh, ha', -vBin_shr]
  · rintro e μ ⟨q, hq, rfl, rfl⟩
    subst hq
    exact ⟨.exit 2, _, _, by simp [owen_Groups.b2] <;> first | rfl | exact ⟨rfl, rfl⟩, by simp, rfl, rfl, rfl⟩
theorem groups_bad (vals : List RQ) (gs : List Int) (hl : vals.length ≤ 12) (hg : gs.length ≤ 12) (h : rightG gs vals.length = false) : EX ip nv (.call F.owen_Groups [.d (.sl 3 (el vals)), .d (.sl 1 (el gs))] []) = some (.ret (.tp [.d (.sl 3 []), .d (.int .i64 1)]) []) := by
  rw [S_call owen_Groups.ip rfl]
  have o := owenRight_ev (nv := nv) gs vals.length (by omega) (by omega)
  rw [orF_right, h] at o
  simp (disch := omega) [owen_Groups, o]
theorem groups_ev (hz : TzOk nv) (vals : List RQ) (gs : List Int) (K : Nat) (hv : ∀ r ∈ vals, r.ok K) (h1 : 1 ≤ K) (hK : K ≤ 1000000) (hl : vals.length ≤ 12) (hg : gs.length ≤ 12) (h : rightG gs vals.length = true) : EX ip nv (.call F.owen_Groups [.d (.sl 3 (el vals)), .d (.sl 1 (el gs))] []) = some (.ret (.tp [.d (.sl 3 (el (grL vals gs))), .d (.int .i64 0)]) []) := by
  rw [S_call owen_Groups.ip rfl]
  have o := owenRight_ev (nv := nv) gs vals.length (by omega) (by omega)
  rw [orF_right, h] at o
  have z := zero_ev (nv := nv)
  have hpw := pow_lt (n := vals.length) hl
  obtain ⟨_, _, _, hr, -, rfl, rfl, rfl⟩ : ∃ z e μ, EX ip nv (.code (.loop [] [] owen_Groups.b0) [(0, .d (.sl 3 (el vals))), (6, .own 6 3 0 0), (17, .d (.sl 1 (el gs))), (18, .d (.int .i64 (gs.length : Int))), (19, .d (.int .i64 0))] [(6, ⟨0, false, []⟩)]) = some (.st z e μ) ∧ z ≠ .normal ∧
      z = .exit 0 ∧ e = [(0, .d (.sl 3 (el vals))), (6, .own 6 3 0 gs.length), (17, .d (.sl 1 (el gs))), (18, .d (.int .i64 (gs.length : Int))), (19, .d (.int .i64 (gs.length : Int))), (20, .d (.bool false))] ∧ μ = [(6, ⟨0, false, el (grL vals gs)⟩)] := by
    refine loop_n gs.length (fun j e μ => ∃ a : List RQ, a = tb j (fun j => can (sB (fun i => (ix vals i).v) (ix gs j).toNat vals.length)) ∧ e = [(0, .d (.sl 3 (el vals))), (6, .own 6 3 0 a.length), (17, .d (.sl 1 (el gs))), (18, .d (.int .i64 (gs.length : Int))), (19, .d (.int .i64 (j : Int)))] ∧ μ = [(6, ⟨0, false, el a⟩)]) ?_ ?_ ⟨[], rfl, rfl, rfl⟩
    · rintro j e μ hj ⟨a, ha, rfl, rfl⟩
      have hal : a.length = j := by rw [ha]; simp
      have hx := (rightG_iff h).1 _ (mem_ix hj)
      obtain ⟨g, hgg⟩ : ∃ g : Nat, ix gs j = (g : Int) := ⟨(ix gs j).toNat, by omega⟩
      obtain ⟨_, _, _, b2, -, rfl, rfl, rfl⟩ := groups_b2 hz vals gs g a.length K j ⟨0, false, el a⟩ hv h1 hK hl (by omega)
      refine .inl ⟨_, _, ?_, a ++ [can (sB (fun i => (ix vals i).v) g vals.length)], by rw [tb_succ, ← ha, hgg, Int.toNat_natCast], rfl, rfl⟩
      clear ha
      generalize can (sB (fun i => (ix vals i).v) g vals.length) = q at *
      generalize can 0 = q0 at *
      simp (disch := omega) [owen_Groups.b0, hj, hgg, z, b2]
    · rintro e μ ⟨a, ha, rfl, rfl⟩
      have hal : a.length = gs.length := by rw [ha]; simp
      rw [hal]
      exact ⟨.exit 0, _, _, by simp [owen_Groups.b0] <;> first | rfl | exact ⟨rfl, rfl⟩, by simp, rfl, rfl, by rw [ha]; rfl⟩
  have hgl : (grL vals gs).length = gs.length := by simp [grL]
  generalize grL vals gs = a at *
  simp (disch := omega) [owen_Groups, o, hr, hgl]
end
end Go.Proofs.YtnmbpainnkdonaaGreatDoor

/-! OwenGroups: the law evaluated. -/
namespace Go.Proofs.YtnmbpainnkdonaaGreatDoor
open Go Go.Proofs.R
set_option maxRecDepth 10000
section
variable {nv : R.Nv}
theorem og_b2 (hz : TzOk nv) (l vals sv : List RQ) (gs : List Int) (g i K : Nat) (hv : ∀ r ∈ vals, r.ok K) (h1 : 1 ≤ K) (hK : K ≤ 1000000) (hl : vals.length ≤ 12) (hg : g < 4096) (hi : i < gs.length) (hgi : ix gs i = (g : Int)) :
    ∃ z e μ, EX ip nv (.code (.loop [] [] dendronlaw22_OwenGroups.b2) [(0, .d (.sl 3 (el l))), (1, .d (.sl 1 (el gs))), (2, .d (.sl 3 (el vals))), (7, .d (.sl 3 (el sv))), (9, .d (.int .i64 (i : Int))), (10, .ptr 10 0), (11, .d (.int .i64 0))] [(10, ⟨0, true, (can 0).c⟩)]) = some (.st z e μ) ∧ z ≠ .normal ∧
    z = .exit 2 ∧ e = [(0, .d (.sl 3 (el l))), (1, .d (.sl 1 (el gs))), (2, .d (.sl 3 (el vals))), (7, .d (.sl 3 (el sv))), (9, .d (.int .i64 (i : Int))), (10, .ptr 10 0), (11, .d (.int .i64 (vals.length : Int))), (69, .d (.bool false))] ∧ μ = [(10, ⟨0, true, (can (sB (fun i => (ix vals i).v) g vals.length)).c⟩)] := by
  refine loop_n vals.length (fun p e μ => ∃ q : RQ, q = can (sB (fun i => (ix vals i).v) g p) ∧ e = [(0, .d (.sl 3 (el l))), (1, .d (.sl 1 (el gs))), (2, .d (.sl 3 (el vals))), (7, .d (.sl 3 (el sv))), (9, .d (.int .i64 (i : Int))), (10, .ptr 10 0), (11, .d (.int .i64 (p : Int)))] ∧ μ = [(10, ⟨0, true, q.c⟩)]) ?_ ?_ ⟨_, rfl, rfl, rfl⟩
  · rintro p e μ hp ⟨q, hq, rfl, rfl⟩
    have ie := in_ev (nv := nv) g p (by omega) (by omega)
    cases hb : g.testBit p
    · rw [hb] at ie
      refine .inl ⟨_, _, ?_, q, by rw [sB, hb, hq]; rfl, rfl, rfl⟩
      clear hq
      simp (disch := omega) [dendronlaw22_OwenGroups.b2, hp, hi, hgi, ie]
    · rw [hb] at ie
      have sb := sB_b (f := fun i => (ix vals i).v) (g := g) (K := K) (n := p) fun i' hi' => Bq.v (ixq_ok hv (by omega)) h1
      have hle : (K + 1) * p ≤ (K + 1) * 12 := Nat.mul_le_mul_left _ (by omega)
      have ad := radd_ev hz (can (sB (fun i => (ix vals i).v) g p)) (ix vals p) (can_ok sb) (ixq_ok hv hp) (by omega) h1 (by omega)
      rw [can_v, ← hq] at ad
      refine .inl ⟨_, _, ?_, can (sB (fun i => (ix vals i).v) g p + (ix vals p).v), by rw [sB, if_pos hb], rfl, rfl⟩
      clear hq sb hle hb
      generalize can (sB (fun i => (ix vals i).v) g p + (ix vals p).v) = q2 at *
      simp (disch := omega) [dendronlaw22_OwenGroups.b2, hp, hi, hgi, ie, ad]
  · rintro e μ ⟨q, hq, rfl, rfl⟩
    subst hq
    exact ⟨.exit 2, _, _, by simp [dendronlaw22_OwenGroups.b2] <;> first | rfl | exact ⟨rfl, rfl⟩, by simp, rfl, rfl, rfl⟩
theorem og_b0 (hz : TzOk nv) (l vals : List RQ) (gs : List Int) (K : Nat) (hv : ∀ r ∈ vals, r.ok K) (h1 : 1 ≤ K) (hK : K ≤ 1000000) (hl : vals.length ≤ 12) (hgl0 : gs.length ≤ 12) (h : rightG gs vals.length = true) :
    ∃ z e μ, EX ip nv (.code (.loop [] [] dendronlaw22_OwenGroups.b0) [(0, .d (.sl 3 (el l))), (1, .d (.sl 1 (el gs))), (2, .d (.sl 3 (el vals))), (7, .d (.sl 3 (el (grL vals gs)))), (9, .d (.int .i64 0))] []) = some (.st z e μ) ∧ z ≠ .normal ∧
    z = .exit 0 ∧ e = [(0, .d (.sl 3 (el l))), (1, .d (.sl 1 (el gs))), (2, .d (.sl 3 (el vals))), (7, .d (.sl 3 (el (grL vals gs)))), (9, .d (.int .i64 (gs.length : Int))), (62, .d (.bool false))] ∧ μ = [] := by
  have z := zero_ev (nv := nv)
  have hpw := pow_lt (n := vals.length) hl
  have hgl : (grL vals gs).length = gs.length := by simp [grL]
  have hgx : ∀ j, j < gs.length → ix (grL vals gs) j = can (sB (fun i => (ix vals i).v) (ix gs j).toNat vals.length) := fun j hj => tb_ix hj
  generalize grL vals gs = sv at *
  refine loop_n gs.length (fun i e μ => e = [(0, .d (.sl 3 (el l))), (1, .d (.sl 1 (el gs))), (2, .d (.sl 3 (el vals))), (7, .d (.sl 3 (el sv))), (9, .d (.int .i64 (i : Int)))] ∧ μ = []) ?_ ?_ ⟨rfl, rfl⟩
  · rintro i e μ hi ⟨rfl, rfl⟩
    have hx := (rightG_iff h).1 _ (mem_ix hi)
    obtain ⟨g, hgg⟩ : ∃ g : Nat, ix gs i = (g : Int) := ⟨(ix gs i).toNat, by omega⟩
    obtain ⟨_, _, _, b2, -, rfl, rfl, rfl⟩ := og_b2 hz l vals sv gs g i K hv h1 hK hl (by omega) hi hgg
    have hsx := hgx i hi
    rw [hgg, Int.toNat_natCast] at hsx
    have sb := sB_b (f := fun i => (ix vals i).v) (g := g) (K := K) (n := vals.length) fun i' hi' => Bq.v (ixq_ok hv (by omega)) h1
    have hle : (K + 1) * vals.length ≤ (K + 1) * 12 := Nat.mul_le_mul_left _ (by omega)
    have rr := rright_c hz _ sb (by omega)
    have sm := rsame_ev hz (can (sB (fun i => (ix vals i).v) g vals.length)) (can (sB (fun i => (ix vals i).v) g vals.length)) (can_ok sb) (can_ok sb) (by omega) (by omega) (by omega)
    simp only [decide_true] at sm
    refine .inl ⟨_, _, ?_, rfl, rfl⟩
    clear sb hle hgx
    generalize can (sB (fun i => (ix vals i).v) g vals.length) = q at *
    generalize can 0 = q0 at *
    simp (disch := omega) [dendronlaw22_OwenGroups.b0, hi, hgl, z, b2, hsx, rr, sm]
  · rintro e μ ⟨rfl, rfl⟩
    exact ⟨.exit 0, _, _, by simp [dendronlaw22_OwenGroups.b0] <;> first | rfl | exact ⟨rfl, rfl⟩, by simp, rfl, rfl, rfl⟩
end
theorem gm_pow : ∀ m : Fin 6, gmN (2 ^ m.val) = some m.val := by decide +kernel
theorem quoL_ok {l : List RQ} {gs : List Int} {n : Nat} (hl : l.length = 2 ^ n) (hg : ∀ g ∈ gs, 0 < g ∧ g < ((2 ^ n : Nat) : Int)) (hk : ∀ r ∈ l, r.ok 2) (m : Nat) : ∀ r ∈ quoL l gs m, r.ok 2 := by
  intro r hr
  obtain ⟨s, -, rfl⟩ := List.mem_map.1 hr
  have := mgN_lt hg s gs.length (Nat.le_refl _)
  exact can_ok (Bq.v (ixq_ok hk (by omega)) (by omega))
theorem gr_sh {l : List RQ} {gs : List Int} {n : Nat} (hn : n ≤ 5) (hl : l.length = 2 ^ n) (h : rightG gs n = true) : grL (owL l gs n) gs = shL (quoL l gs (2 ^ gs.length)) gs.length := by
  have hm := rightG_len h
  unfold grL shL
  refine tb_congr fun j hj => ?_
  have e1 : (owL l gs n).length = n := by simp [owL]
  rw [e1]
  have e2 : sB (fun i => (ix (owL l gs n) i).v) (ix gs j).toNat n = sB (fun i => owV (gv l) gs i) (ix gs j).toNat n := sB_congr fun i hi _ => by
    have : ix (owL l gs n) i = can (owV (gv l) gs i) := tb_ix hi
    rw [this, can_v]
  rw [e2, sB_ow hn h hj]
  congr 1
  refine (Lin.look (shV_lin (by omega) hj) fun s hs => ?_)
  unfold gv
  rw [quoL_ix hs, can_v]
theorem og_core (v vals l : List RQ) (g : List Int) (L V : List RQ) (G : List Int) (f1 : EX ip nv1 (.call F.dendronlaw19_Few [.d (.sl 3 (el L))] []) = some (.ret (.d (.sl 3 (el l))) [])) (f2 : EX ip nv1 (.call F.dendronlaw22_few [.d (.sl 1 (el G))] []) = some (.ret (.d (.sl 1 (el g))) []))
    (f3 : EX ip nv1 (.call F.dendronlaw19_Few [.d (.sl 3 (el V))] []) = some (.ret (.d (.sl 3 (el v))) [])) (hl : l.length ≤ 33) (hk : ∀ r ∈ l, r.ok 2) (hg : g.length ≤ 12) (hvl : v.length ≤ 33) (hv : ∀ r ∈ vals, r.ok 2) (hvals : vals.length ≤ 12) (hc : (v.length ≤ 12 ∧ vals = v) ∨ (12 < v.length ∧ v.take 12 = vals)) :
    EX ip nv1 (.call F.dendronlaw22_OwenGroups [.d (.sl 3 (el L)), .d (.sl 1 (el G)), .d (.sl 3 (el V))] []) = some (.ret (.d (.bool true)) []) := by
  rw [S_call dendronlaw22_OwenGroups.ip rfl]
  have aw := awake22_ev (nv := nv1)
  have sz := size19_ev (nv := nv1) l hl
  have rv := right22_ev (nv := nv1) g vals.length (by omega) (by omega)
  -- the first part
  have part1 : ∃ (dx : List D) (i8 : Int), EX ip nv1 (.call F.owen_Groups [.d (.sl 3 (el vals)), .d (.sl 1 (el g))] []) = some (.ret (.tp [.d (.sl 3 dx), .d (.int .i64 i8)]) []) ∧
      ((rightG g vals.length = false ∧ dx = [] ∧ i8 = 1) ∨ (rightG g vals.length = true ∧ i8 = 0 ∧ dx.length / 3 = g.length ∧ EX ip nv1 (.code (.loop [] [] dendronlaw22_OwenGroups.b0) [(0, .d (.sl 3 (el l))), (1, .d (.sl 1 (el g))), (2, .d (.sl 3 (el vals))), (7, .d (.sl 3 dx)), (9, .d (.int .i64 0))] []) =
        some (.st (.exit 0) [(0, .d (.sl 3 (el l))), (1, .d (.sl 1 (el g))), (2, .d (.sl 3 (el vals))), (7, .d (.sl 3 dx)), (9, .d (.int .i64 (g.length : Int))), (62, .d (.bool false))] []))) := by
    cases h : rightG g vals.length
    · exact ⟨[], 1, groups_bad vals g hvals hg h, .inl ⟨rfl, rfl, rfl⟩⟩
    · obtain ⟨_, _, _, b0, -, rfl, rfl, rfl⟩ := og_b0 tzOk1 l vals g 2 hv (by omega) (by omega) hvals hg h
      exact ⟨_, 0, groups_ev tzOk1 vals g 2 hv (by omega) (by omega) hvals hg h, .inr ⟨rfl, rfl, by simp [grL], b0⟩⟩
  obtain ⟨dx, i8, g1, h1⟩ := part1
  have part2 : (gmN l.length = none) ∨ (∃ n, gmN l.length = some n ∧ n < 6 ∧ rightG g n = false) ∨ (∃ (n m : Nat) (dx dy dz : List RQ), gmN l.length = some n ∧ n < 6 ∧ rightG g n = true ∧
      EX ip nv1 (.call F.owen_Values [.d (.sl 3 (el l)), .d (.sl 1 (el g))] []) = some (.ret (.tp [.d (.sl 3 (el dx)), .d (.int .i64 0)]) []) ∧ EX ip nv1 (.call F.owen_Groups [.d (.sl 3 (el dx)), .d (.sl 1 (el g))] []) = some (.ret (.tp [.d (.sl 3 (el dy)), .d (.int .i64 0)]) []) ∧
      EX ip nv1 (.call F.owen_Quotient [.d (.sl 3 (el l)), .d (.sl 1 (el g))] []) = some (.ret (.tp [.d (.sl 3 (el dz)), .d (.int .i64 0)]) []) ∧ EX ip nv1 (.call F.game_Shapley [.d (.sl 3 (el dz))] []) = some (.ret (.tp [.d (.sl 3 (el dy)), .d (.int .i64 0)]) []) ∧
      EX ip nv1 (.call F.dendronref10_All [.d (.sl 3 (el dy)), .d (.sl 3 (el dy))] []) = some (.ret (.d (.bool true)) []) ∧ dy = shL dz m) := by
    cases hn : gmN l.length with
    | none => exact .inl rfl
    | some n =>
      have hn6 := gmN_lt ⟨l.length, by omega⟩ n hn
      have hlen := (gmN_some ⟨l.length, by omega⟩ ⟨n, hn6⟩ hn).1
      simp only at hlen
      cases h : rightG g n
      · exact .inr (.inl ⟨n, rfl, hn6, h⟩)
      · have hm := rightG_len h
        have hgr := (rightG_iff h).1
        have hol : (owL l g n).length = n := by simp [owL]
        have hvb : ∀ s, s < 2 ^ n → Bq 2 (gv l s) := fun s hs => gv_b hk (by omega) (by omega)
        have hok : ∀ r ∈ owL l g n, r.ok (1 + (oT 2 * 32 + 3) * 5) := by
          intro r hr
          obtain ⟨i, hi, rfl⟩ := tb_mem hr
          have := (oAt_b (gs := g) (K := 2) (by omega) (by omega) hvb hgr hi g.length (Nat.le_refl _)).1
          have hle : (oT 2 * 32 + 3) * g.length ≤ (oT 2 * 32 + 3) * 5 := Nat.mul_le_mul_left _ (by omega)
          exact can_ok (this.mono (by omega))
        have hql := quoL_len l g (2 ^ g.length)
        have hqok := quoL_ok hlen hgr hk (2 ^ g.length)
        have hp5 : 2 ^ g.length ≤ 2 ^ 5 := Nat.pow_le_pow_right (by decide) (by omega)
        have hgm := gm_pow ⟨g.length, by omega⟩
        simp only at hgm
        have v1 := owen_ev l g n 2 hl hg hn h hk (by omega) (by omega)
        have v2 := groups_ev tzOk1 (owL l g n) g (1 + (oT 2 * 32 + 3) * 5) hok (by omega) (by decide) (by omega) hg (by rw [hol]; exact h)
        rw [gr_sh (by omega) hlen h] at v2
        exact .inr (.inr ⟨n, g.length, _, _, _, rfl, hn6, h, v1, v2, quotient_ev tzOk1 l g n hl hg hn h hk, shap_ev _ g.length 2 (by omega) (by rw [hql]; exact hgm) hqok (by omega) (by omega), shAll_ev tzOk1 _ g.length (by omega) hql hqok, rfl⟩)
  rcases part2 with hn | ⟨n, hn, hn6, hr⟩ | ⟨n, m, dx2, dy, dz, hn, hn6, hr, v1, v2, v3, v4, v5, -⟩
  · rw [hn] at sz
    simp only at sz
    rcases h1 with ⟨h, rfl, rfl⟩ | ⟨h, rfl, hd, b0⟩
    · rw [h] at rv
      rcases hc with ⟨hc, rfl⟩ | ⟨hc, ht⟩
      · have c1 : ¬ (12 : Int) < vals.length := by omega
        simp (disch := omega) [dendronlaw22_OwenGroups, f1, f2, f3, aw, c1, g1, rv, sz]
      · have c1 : (12 : Int) < v.length := by omega
        simp (disch := omega) [dendronlaw22_OwenGroups, f1, f2, f3, aw, c1, ht, g1, rv, sz]
    · rw [h] at rv
      rcases hc with ⟨hc, rfl⟩ | ⟨hc, ht⟩
      · have c1 : ¬ (12 : Int) < vals.length := by omega
        simp (disch := omega) [dendronlaw22_OwenGroups, f1, f2, f3, aw, c1, g1, rv, sz, hd, b0]
      · have c1 : (12 : Int) < v.length := by omega
        simp (disch := omega) [dendronlaw22_OwenGroups, f1, f2, f3, aw, c1, ht, g1, rv, sz, hd, b0]
  · rw [hn] at sz
    simp only at sz
    have n0 : ¬ (n : Int) < 0 := by omega
    have r2 := right22_ev (nv := nv1) g n (by omega) (by omega)
    rw [hr] at r2
    rcases h1 with ⟨h, rfl, rfl⟩ | ⟨h, rfl, hd, b0⟩
    · rw [h] at rv
      rcases hc with ⟨hc, rfl⟩ | ⟨hc, ht⟩
      · have c1 : ¬ (12 : Int) < vals.length := by omega
        simp (disch := omega) [dendronlaw22_OwenGroups, f1, f2, f3, aw, c1, g1, rv, sz, n0, r2]
      · have c1 : (12 : Int) < v.length := by omega
        simp (disch := omega) [dendronlaw22_OwenGroups, f1, f2, f3, aw, c1, ht, g1, rv, sz, n0, r2]
    · rw [h] at rv
      rcases hc with ⟨hc, rfl⟩ | ⟨hc, ht⟩
      · have c1 : ¬ (12 : Int) < vals.length := by omega
        simp (disch := omega) [dendronlaw22_OwenGroups, f1, f2, f3, aw, c1, g1, rv, sz, n0, r2, hd, b0]
      · have c1 : (12 : Int) < v.length := by omega
        simp (disch := omega) [dendronlaw22_OwenGroups, f1, f2, f3, aw, c1, ht, g1, rv, sz, n0, r2, hd, b0]
  · rw [hn] at sz
    simp only at sz
    have n0 : ¬ (n : Int) < 0 := by omega
    have r2 := right22_ev (nv := nv1) g n (by omega) (by omega)
    rw [hr] at r2
    rcases h1 with ⟨h, rfl, rfl⟩ | ⟨h, rfl, hd, b0⟩
    · rw [h] at rv
      rcases hc with ⟨hc, rfl⟩ | ⟨hc, ht⟩
      · have c1 : ¬ (12 : Int) < vals.length := by omega
        simp (disch := omega) [dendronlaw22_OwenGroups, f1, f2, f3, aw, c1, g1, rv, sz, n0, r2, v1, v2, v3, v4, v5]
      · have c1 : (12 : Int) < v.length := by omega
        simp (disch := omega) [dendronlaw22_OwenGroups, f1, f2, f3, aw, c1, ht, g1, rv, sz, n0, r2, v1, v2, v3, v4, v5]
    · rw [h] at rv
      rcases hc with ⟨hc, rfl⟩ | ⟨hc, ht⟩
      · have c1 : ¬ (12 : Int) < vals.length := by omega
        simp (disch := omega) [dendronlaw22_OwenGroups, f1, f2, f3, aw, c1, g1, rv, sz, n0, r2, hd, b0, v1, v2, v3, v4, v5]
      · have c1 : (12 : Int) < v.length := by omega
        simp (disch := omega) [dendronlaw22_OwenGroups, f1, f2, f3, aw, c1, ht, g1, rv, sz, n0, r2, hd, b0, v1, v2, v3, v4, v5]
theorem owenGroups_ev (L : List RQ) (G : List Int) (V : List RQ) (hL : L.length ≤ maxLen) (hG : G.length ≤ maxLen) (hV : V.length ≤ maxLen) (hk : ∀ r ∈ L, r.ok maxLen) (hv : ∀ r ∈ V, r.ok maxLen) : EX ip nv1 (.call F.dendronlaw22_OwenGroups [.d (.sl 3 (el L)), .d (.sl 1 (el G)), .d (.sl 3 (el V))] []) = some (.ret (.d (.bool true)) []) := by
  have f1 := few19_ev (nv := nv1) L hL
  have f3 := few19_ev (nv := nv1) V hV
  have f2 := few22_ev (nv := nv1) G hG
  have hk2 := fewR_ok hk
  have hv2 := fewR_ok hv
  have hl : (fewR L).length ≤ 33 := by rw [fewR_len]; omega
  have hvl : (fewR V).length ≤ 33 := by rw [fewR_len]; omega
  have hg : (G.take 12).length ≤ 12 := by simp; omega
  rcases Nat.lt_or_ge 12 (fewR V).length with c | c
  · exact og_core _ ((fewR V).take 12) _ _ L V G f1 f2 f3 hl hk2 hg hvl (fun r h => hv2 r (List.mem_of_mem_take h)) (by simp; omega) (.inr ⟨c, rfl⟩)
  · exact og_core _ (fewR V) _ _ L V G f1 f2 f3 hl hk2 hg hvl hv2 c (.inl ⟨c, rfl⟩)
end Go.Proofs.YtnmbpainnkdonaaGreatDoor
