/- What each adds in an order: orders.Adds, the statement's own; lists of numbers compared; sums. -/
import Derived.Test.YtnmbpainnkdonaaGreatDoorVb
import Derived.Test.YtnmbpainnkdonaaGreatDoorGa
import Derived.Test.YtnmbpainnkdonaaGreatDoorSe
import Derived.Test.YtnmbpainnkdonaaGreatDoorZz
set_option linter.unusedSimpArgs false
set_option linter.unusedVariables false
namespace Go.Proofs.YtnmbpainnkdonaaGreatDoor
open Go Go.Proofs.R
set_option maxRecDepth 10000
/-- What a coalition is worth. -/
def vl (l : List RQ) (s : Nat) : Rat := (ix l s).v
theorem vl_b {l : List RQ} {K : Nat} (hk : ∀ r ∈ l, r.ok K) (h1 : 1 ≤ K) {s : Nat} (hs : s < l.length) : Bq K (vl l s) := Bq.v (ixq_ok hk hs) h1
theorem sm_b {f : Nat → Rat} {K : Nat} : ∀ m, (∀ i, i < m → Bq K (f i)) → Bq (1 + (K + 1) * m) (sm m f)
  | 0, _ => Bq.zero
  | m + 1, h => by
    have ih := sm_b m fun i hi => h i (by omega)
    rw [sm]
    have e : 1 + (K + 1) * (m + 1) = 1 + (K + 1) * m + (K + 1) := by rw [Nat.mul_add]; omega
    exact (ih.add (h m (by omega))).mono (by omega)
section
variable {nv : R.Nv}
theorem all10_ev (hz : TzOk nv) (n K : Nat) (f : Nat → Rat) (y : List RQ) (hyl : y.length = n) (hn : n ≤ 1000000) (hy : ∀ p, p < n → (ix y p).v = f p ∧ (ix y p).ok K) (hf : ∀ p, p < n → Bq K (f p)) (h1 : 1 ≤ K) (hK : K ≤ 100000000) :
    EX ip nv (.call F.dendronref10_All [.d (.sl 3 (el (tb n fun p => can (f p)))), .d (.sl 3 (el y))] []) = some (.ret (.d (.bool true)) []) := by
  rw [S_call dendronref10_All.ip rfl]
  have hxl : (tb n fun p => can (f p)).length = n := tb_len _ _
  have hxi : ∀ p, p < n → ix (tb n fun p => can (f p)) p = can (f p) := fun p hp => tb_ix hp
  generalize (tb n fun p => can (f p)) = x at *
  obtain ⟨_, _, _, hr, -, rfl, rfl, rfl⟩ : ∃ z e μ, EX ip nv (.code (.loop [] [] dendronref10_All.b0) [(0, .d (.sl 3 (el x))), (1, .d (.sl 3 (el y))), (5, .d (.int .i64 0))] []) = some (.st z e μ) ∧ z ≠ .normal ∧
      z = .exit 0 ∧ e = [(0, .d (.sl 3 (el x))), (1, .d (.sl 3 (el y))), (5, .d (.int .i64 (n : Int))), (14, .d (.bool false))] ∧ μ = [] := by
    refine loop_n n (fun p e μ => e = [(0, .d (.sl 3 (el x))), (1, .d (.sl 3 (el y))), (5, .d (.int .i64 (p : Int)))] ∧ μ = []) ?_ ?_ ⟨rfl, rfl⟩
    · rintro p e μ hp ⟨rfl, rfl⟩
      obtain ⟨v, ok⟩ := hy p hp
      have is := is10_ev (nv := nv) (f p) (ix y p) (hf p hp) ok h1 h1 hK hK
      rw [v] at is
      simp only [decide_true] at is
      have hx := hxi p hp
      refine .inl ⟨_, _, ?_, rfl, rfl⟩
      generalize can (f p) = q at *
      simp (disch := omega) [dendronref10_All.b0, hp, hxl, hyl, hx, is]
    · rintro e μ ⟨rfl, rfl⟩
      exact ⟨.exit 0, _, [], by simp [dendronref10_All.b0, hxl] <;> rfl, by simp, rfl, rfl, rfl⟩
  simp (disch := omega) [dendronref10_All, hxl, hyl, hr]
theorem rsum_ev (hz : TzOk nv) (x : List RQ) (K : Nat) (hk : ∀ r ∈ x, r.ok K) (h1 : 1 ≤ K) (hK : K ≤ 100000) (hx : x.length ≤ 1000) : EX ip nv (.call F.ratio_Sum [.d (.sl 3 (el x))] []) = some (.ret (.d (.ag (can (sm x.length (vl x))).c)) []) := by
  rw [S_call ratio_Sum.ip rfl]
  have z := zero_ev (nv := nv)
  obtain ⟨_, _, _, hr, -, rfl, rfl, rfl⟩ : ∃ z e μ, EX ip nv (.code (.loop [] [] ratio_Sum.b0) [(2, .ptr 2 0), (3, .ptr 3 0), (7, .d (.sl 3 (el x))), (8, .d (.int .i64 (x.length : Int))), (9, .d (.int .i64 0))] [(2, ⟨0, true, [.bool false, .sl 1 [], .sl 1 []]⟩), (3, ⟨0, true, (can 0).c⟩)]) = some (.st z e μ) ∧ z ≠ .normal ∧
      z = .exit 0 ∧ e = [(2, .ptr 2 0), (3, .ptr 3 0), (7, .d (.sl 3 (el x))), (8, .d (.int .i64 (x.length : Int))), (9, .d (.int .i64 (x.length : Int))), (10, .d (.bool false))] ∧ μ = [(2, ⟨0, true, [.bool false, .sl 1 [], .sl 1 []]⟩), (3, ⟨0, true, (can (sm x.length (vl x))).c⟩)] := by
    refine loop_n x.length (fun i e μ => ∃ q : RQ, q = can (sm i (vl x)) ∧ e = [(2, .ptr 2 0), (3, .ptr 3 0), (7, .d (.sl 3 (el x))), (8, .d (.int .i64 (x.length : Int))), (9, .d (.int .i64 (i : Int)))] ∧ μ = [(2, ⟨0, true, [.bool false, .sl 1 [], .sl 1 []]⟩), (3, ⟨0, true, q.c⟩)]) ?_ ?_ ⟨_, rfl, rfl, rfl⟩
    · rintro i e μ hi ⟨q, hq, rfl, rfl⟩
      have hb := sm_b (f := vl x) (K := K) i (fun j hj => vl_b hk h1 (by omega))
      have hle : (K + 1) * i ≤ (K + 1) * 1000 := Nat.mul_le_mul_left _ (by omega)
      have ad := radd_ev hz (can (sm i (vl x))) (ix x i) (can_ok hb) (ixq_ok hk hi) (by omega) h1 (by omega)
      rw [can_v, ← hq, show sm i (vl x) + (ix x i).v = sm (i + 1) (vl x) from rfl] at ad
      refine .inl ⟨_, _, ?_, can (sm (i + 1) (vl x)), rfl, rfl, rfl⟩
      clear hq hb
      generalize can (sm (i + 1) (vl x)) = q' at *
      simp (disch := omega) [ratio_Sum.b0, hi, ad]
    · rintro e μ ⟨q, hq, rfl, rfl⟩
      subst hq
      exact ⟨.exit 0, _, _, by simp [ratio_Sum.b0] <;> first | rfl | exact ⟨rfl, rfl⟩, by simp, rfl, rfl, rfl⟩
  generalize can (sm x.length (vl x)) = q at *
  generalize can 0 = q0 at *
  simp (disch := omega) [ratio_Sum, z, hr]
end
/-- The numbers, up to a place: those who came have theirs. -/
def adF (v : Nat → Rat) (o : List Int) (i p : Nat) : RQ := if (o.take i).contains (p : Int) then can (aV v o i p) else ⟨false, [], []⟩
theorem tb_set {α : Type} {n k : Nat} {f g : Nat → α} {x : α} (h : ∀ p, p < n → g p = if p = k then x else f p) : (tb n f).set k x = tb n g := by
  apply List.ext_getElem
  · simp
  · intro p h1 h2
    simp only [tb_len, List.length_set] at h1 h2
    rw [List.getElem_set]
    have e : ∀ (f : Nat → α) (hp : p < (tb n f).length), (tb n f)[p] = f p := fun f hp => by simp [tb]
    rw [e, e, h p h2]
    by_cases c : p = k
    · rw [if_pos c, if_pos c.symm]
    · rw [if_neg c, if_neg (fun h => c h.symm)]
theorem perm_ix {o : List Int} {n i : Nat} (h : o.Perm (nums n)) (hi : i < n) : ∃ q : Nat, ix o i = (q : Int) ∧ q < n ∧ i < o.length ∧ (ps o i).testBit q = false := by
  have hl := h.length_eq
  simp at hl
  have hm : ix o i ∈ o := by
    have : ix o i = o[i] := by simp [ix, show i < o.length by omega]
    rw [this]; exact List.getElem_mem _
  obtain ⟨h0, h1⟩ := nums_mem.1 (h.mem_iff.1 hm)
  refine ⟨(ix o i).toNat, by omega, by omega, by omega, ?_⟩
  rw [ps_bit h i (by omega), show (((ix o i).toNat : Nat) : Int) = ix o i by omega]
  have hnd : o.Nodup := h.symm.nodup (nums_nodup n)
  have : (o.take (i + 1)).Nodup := hnd.sublist (List.take_sublist _ _)
  rw [take_ix (by omega : i < o.length), List.nodup_append] at this
  simp only [List.contains_eq_mem, decide_eq_false_iff_not]
  intro hm
  exact this.2.2 _ hm _ (by simp) rfl
theorem ps_lt {o : List Int} {n i : Nat} (h : o.Perm (nums n)) (hi : i ≤ n) : ps o i < 2 ^ n := by
  have := ps_mono o hi
  rw [ps_all h] at this
  have := Nat.two_pow_pos n
  omega
theorem ad_step {v : Nat → Rat} {o : List Int} {n i q : Nat} (hi : i < o.length) (hq : ix o i = (q : Int)) : (tb n (adF v o i)).set q (can (v (ps o (i + 1)) - v (ps o i))) = tb n (adF v o (i + 1)) := by
  refine tb_set fun p hp => ?_
  unfold adF
  rw [take_ix hi, hq]
  by_cases c : p = q
  · subst c
    rw [if_pos rfl, if_pos (by simp), aV, if_pos hq.symm]
  · have hne : ¬ ((p : Int) = ix o i) := by rw [hq]; omega
    rw [if_neg c, aV, if_neg hne]
    have e : (o.take i ++ [(q : Int)]).contains (p : Int) = (o.take i).contains (p : Int) := by
      simp only [List.contains_eq_mem, List.mem_append, List.mem_singleton]
      rw [decide_eq_decide]
      constructor
      · rintro (h | h)
        · exact h
        · omega
      · exact .inl
    rw [e]
theorem ad_zero (v : Nat → Rat) (o : List Int) (n : Nat) : List.replicate n (⟨false, [], []⟩ : RQ) = tb n (adF v o 0) := by
  apply List.ext_getElem
  · simp
  · intro p h1 h2
    simp [tb, adF]
theorem ad_all {v : Nat → Rat} {o : List Int} {n : Nat} (h : o.Perm (nums n)) : tb n (adF v o n) = tb n fun p => can (aV v o n p) := by
  unfold tb
  refine List.map_congr_left fun p hp => ?_
  have hp' := List.mem_range.1 hp
  unfold adF
  have hl := h.length_eq
  simp at hl
  rw [List.take_of_length_le (by omega), if_pos (by
    simp only [List.contains_eq_mem, decide_eq_true_eq]
    exact h.mem_iff.2 (nums_mem.2 (by omega)))]
theorem aV_b {l : List RQ} {o : List Int} {n K : Nat} (hk : ∀ r ∈ l, r.ok K) (h1 : 1 ≤ K) (hl : l.length = 2 ^ n) (h : o.Perm (nums n)) : ∀ i, i ≤ n → ∀ p, Bq (2 * K + 1) (aV (vl l) o i p)
  | 0, _, _ => Bq.zero.mono (by omega)
  | i + 1, hi, p => by
    rw [aV]
    split
    · exact ((vl_b hk h1 (by rw [hl]; exact ps_lt h hi)).sub (vl_b hk h1 (by rw [hl]; exact ps_lt h (by omega)))).mono (by omega)
    · exact aV_b hk h1 hl h i (by omega) p
/-- What each adds in an order. -/
def adL (l : List RQ) (o : List Int) (n : Nat) : List RQ := tb n fun p => can (aV (vl l) o n p)
section
variable {nv : R.Nv}
theorem adds_bad (l : List RQ) (o : List Int) (hl : l.length ≤ 33) (ho : o.length ≤ 1000) (hx : ∀ x ∈ o, In64 x) (h : ∀ n, gmN l.length = some n → rightB o n = false) : EX ip (nvR nv) (.call F.orders_Adds [.d (.sl 3 (el l)), .d (.sl 1 (el o))] []) = some (.ret (.tp [.d (.sl 3 []), .d (.int .i64 1)]) []) := by
  rw [S_call orders_Adds.ip rfl]
  have p := players_ev (nv := nvR nv) l hl
  cases hg : gmN l.length with
  | none =>
    rw [hg] at p
    simp only at p
    simp (disch := omega) [orders_Adds, p]
  | some n =>
    rw [hg] at p
    simp only at p
    have hn6 := gmN_lt ⟨l.length, by omega⟩ n hg
    have r := oright_ev (nv := nv) o (n : Int) ho ⟨by omega, by omega⟩ hx
    rw [rightOB, h n hg] at r
    simp (disch := omega) [orders_Adds, p, r]
theorem adds_ev (hz : TzOk (nvR nv)) (l : List RQ) (o : List Int) (n K : Nat) (hl : l.length ≤ 33) (hn : gmN l.length = some n) (hk : ∀ r ∈ l, r.ok K) (h1 : 1 ≤ K) (hK : K ≤ 100000) (ho : o.length ≤ 1000) (hx : ∀ x ∈ o, In64 x) (h : rightB o n = true) : EX ip (nvR nv) (.call F.orders_Adds [.d (.sl 3 (el l)), .d (.sl 1 (el o))] []) = some (.ret (.tp [.d (.sl 3 (el (adL l o n))), .d (.int .i64 0)]) []) := by
  rw [S_call orders_Adds.ip rfl]
  have p := players_ev (nv := nvR nv) l hl
  rw [hn] at p
  simp only at p
  have hn6 := gmN_lt ⟨l.length, by omega⟩ n hn
  have hlen := (gmN_some ⟨l.length, by omega⟩ ⟨n, hn6⟩ hn).1
  simp only at hlen
  have hp32 : 2 ^ n ≤ 2 ^ 5 := Nat.pow_le_pow_right (by decide) (by omega)
  have r := oright_ev (nv := nv) o (n : Int) ho ⟨by omega, by omega⟩ hx
  rw [rightOB, h] at r
  have hperm := rightB_perm.1 h
  have hol := hperm.length_eq
  simp at hol
  obtain ⟨_, _, _, hr, -, rfl, ⟨s, rfl⟩, rfl⟩ : ∃ z e μ, EX ip (nvR nv) (.code (.loop [] [] orders_Adds.b0) [(0, .d (.sl 3 (el l))), (8, .own 26 3 0 n), (9, .d (.int .i64 0)), (27, .d (.sl 1 (el o))), (28, .d (.int .i64 (n : Int))), (29, .d (.int .i64 0))] [(26, ⟨0, false, el (List.replicate n (⟨false, [], []⟩ : RQ))⟩)]) = some (.st z e μ) ∧ z ≠ .normal ∧
      z = .exit 0 ∧ (∃ s : Int, e = [(0, .d (.sl 3 (el l))), (8, .own 26 3 0 n), (9, .d (.int .i64 s)), (27, .d (.sl 1 (el o))), (28, .d (.int .i64 (n : Int))), (29, .d (.int .i64 (n : Int))), (30, .d (.bool false))]) ∧ μ = [(26, ⟨0, false, el (adL l o n)⟩)] := by
    refine loop_n n (fun i e μ => ∃ a : List RQ, a = tb n (adF (vl l) o i) ∧ e = [(0, .d (.sl 3 (el l))), (8, .own 26 3 0 n), (9, .d (.int .i64 (ps o i : Nat))), (27, .d (.sl 1 (el o))), (28, .d (.int .i64 (n : Int))), (29, .d (.int .i64 (i : Int)))] ∧ μ = [(26, ⟨0, false, el a⟩)]) ?_ ?_ ⟨_, ad_zero _ _ _, rfl, rfl⟩
    · rintro i e μ hi ⟨a, ha, rfl, rfl⟩
      have hal : a.length = n := by rw [ha]; simp
      obtain ⟨q, hq, hqn, hio, hbit⟩ := perm_ix hperm hi
      have s1 := i_shl1 (n := q) (by omega)
      have l0 := ps_lt hperm (i := i) (by omega)
      have l1 := ps_lt hperm (i := i + 1) (by omega)
      have hps : ps o (i + 1) = ps o i + 2 ^ q := by rw [ps, hq, Int.toNat_natCast]
      have hor := ibits_or (a := ps o i) (b := 2 ^ q) (by omega) (by omega)
      rw [or_bit hbit, ← hps] at hor
      have sb : EX ip (nvR nv) (.call F.ratio_Sub [.d (.ag (ix l (ps o (i + 1))).c), .d (.ag (ix l (ps o i)).c)] []) = some (.ret (.d (.ag (can (vl l (ps o (i + 1)) - vl l (ps o i))).c)) []) := rsub_ev hz (ix l (ps o (i + 1))) (ix l (ps o i)) (ixq_ok hk (by omega)) (ixq_ok hk (by omega)) h1 h1 (by omega)
      have st := ad_step (v := vl l) (n := n) hio hq
      rw [← ha] at st
      refine .inl ⟨_, _, ?_, a.set q (can (vl l (ps o (i + 1)) - vl l (ps o i))), st, rfl, rfl⟩
      clear st ha hbit hps
      rw [← hlen] at l0 l1
      clear hlen hp32
      generalize can (vl l (ps o (i + 1)) - vl l (ps o i)) = x at *
      generalize ps o (i + 1) = t at *
      generalize ps o i = s at *
      generalize 2 ^ q = b at *
      simp (disch := omega) [orders_Adds.b0, hi, hio, hq, s1, hor, l0, l1, sb, hal, -vBin_shl, -vIA_o]
    · rintro e μ ⟨a, ha, rfl, rfl⟩
      rw [ad_all hperm] at ha
      subst ha
      exact ⟨.exit 0, _, _, by simp [orders_Adds.b0] <;> first | rfl | exact ⟨rfl, rfl⟩, by simp, rfl, ⟨_, rfl⟩, rfl⟩
  have hal : (adL l o n).length = n := by simp [adL]
  generalize adL l o n = a at *
  have hol' : (o.length : Int) = (n : Int) := by omega
  simp (disch := omega) [orders_Adds, p, r, hr, hal, hol, hol']
end
end Go.Proofs.YtnmbpainnkdonaaGreatDoor
