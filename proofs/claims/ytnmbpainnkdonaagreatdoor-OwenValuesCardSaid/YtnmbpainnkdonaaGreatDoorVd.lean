/- orders.Mean: the mean of what each adds over some orders. -/
import Derived.Test.YtnmbpainnkdonaaGreatDoorVc
set_option linter.unusedSimpArgs false
set_option linter.unusedVariables false
namespace Go.Proofs.YtnmbpainnkdonaaGreatDoor
open Go Go.Proofs.R
set_option maxRecDepth 10000
/-- A table turned from the first place on. -/
def mix {α : Type} (i : Nat) (g f : Nat → α) : Nat → α := fun p => if p < i then g p else f p
theorem mix_step {α : Type} {n i : Nat} {g f : Nat → α} : (tb n (mix i g f)).set i (g i) = tb n (mix (i + 1) g f) := by
  refine tb_set fun p hp => ?_
  unfold mix
  by_cases c : p = i
  · subst c; rw [if_pos (by omega), if_pos rfl]
  · rw [if_neg c]
    by_cases d : p < i
    · rw [if_pos (by omega), if_pos d]
    · rw [if_neg (by omega), if_neg d]
theorem tb_congr {α : Type} {n : Nat} {f g : Nat → α} (h : ∀ p, p < n → f p = g p) : tb n f = tb n g := by
  unfold tb
  exact List.map_congr_left fun p hp => h p (List.mem_range.1 hp)
theorem mix_zero {α : Type} {n : Nat} {g f : Nat → α} : tb n (mix 0 g f) = tb n f := tb_congr fun p hp => by unfold mix; rw [if_neg (by omega)]
theorem mix_all {α : Type} {n : Nat} {g f : Nat → α} : tb n (mix n g f) = tb n g := tb_congr fun p hp => by unfold mix; rw [if_pos hp]
theorem rep_tb {α : Type} (n : Nat) (x : α) : tb n (fun _ => x) = List.replicate n x := by
  apply List.ext_getElem
  · simp
  · intro p h1 h2
    simp [tb]
theorem mix_at {α : Type} {i : Nat} {g f : Nat → α} : mix i g f i = f i := by unfold mix; rw [if_neg (by omega)]
/-- What each adds, over the first of some orders. -/
def sV (v : Nat → Rat) (os : List (List Int)) (n : Nat) : Nat → Nat → Rat
  | 0, _ => 0
  | k + 1, p => sV v os n k p + aV v (ix os k) n p
def mV (v : Nat → Rat) (os : List (List Int)) (n p : Nat) : Rat := sV v os n os.length p * Rat.divInt 1 (os.length : Int)
def meL (l : List RQ) (os : List (List Int)) (n : Nat) : List RQ := tb n fun p => can (mV (vl l) os n p)
theorem os_ix {os : List (List Int)} {k : Nat} (h : k < os.length) : ix os k ∈ os := by
  have : ix os k = os[k] := by simp [ix, h]
  rw [this]; exact List.getElem_mem _
theorem sV_b {l : List RQ} {os : List (List Int)} {n K : Nat} (hk : ∀ r ∈ l, r.ok K) (h1 : 1 ≤ K) (hl : l.length = 2 ^ n) : ∀ k, k ≤ os.length → (∀ j, j < k → rightB (ix os j) n = true) → ∀ p, Bq (1 + (2 * K + 2) * k) (sV (vl l) os n k p)
  | 0, _, _, _ => Bq.zero
  | k + 1, h, hr, p => by
    rw [sV]
    have e : 1 + (2 * K + 2) * (k + 1) = 1 + (2 * K + 2) * k + (2 * K + 2) := by rw [Nat.mul_add]; omega
    exact ((sV_b hk h1 hl k (by omega) (fun j hj => hr j (by omega)) p).add (aV_b hk h1 hl (rightB_perm.1 (hr k (by omega))) n (Nat.le_refl _) p)).mono (by omega)
theorem frac1_b {m : Nat} (h : 0 < m) (hm : m < 4294967296) : Bq 1 (Rat.divInt 1 (m : Int)) := by
  have e : Rat.divInt 1 (m : Int) = mkRat 1 m := rfl
  rw [e]
  exact Bq.mkR (by simp [pw]) (by simp [pw]; omega) (by omega)
theorem mV_b {l : List RQ} {os : List (List Int)} {n K : Nat} (hk : ∀ r ∈ l, r.ok K) (h1 : 1 ≤ K) (hl : l.length = 2 ^ n) (h0 : 0 < os.length) (hm : os.length < 4294967296) (hr : ∀ j, j < os.length → rightB (ix os j) n = true) (p : Nat) : Bq (1 + (2 * K + 2) * os.length + 1) (mV (vl l) os n p) :=
  (sV_b hk h1 hl os.length (Nat.le_refl _) hr p).mul (frac1_b h0 hm)
section
variable {nv : R.Nv}
theorem mean_b4 (hz : TzOk nv) (n K J : Nat) (hn : n ≤ 5) (S A : Nat → Rat) (hS : ∀ p, p < n → Bq K (S p)) (hA : ∀ p, p < n → Bq J (A p)) (h1 : 1 ≤ K) (h2 : 1 ≤ J) (hK : K + J + 1 ≤ 1073741824) (x0 x1 x8 x36 x37 x38 : V)
    (e0 : x8 = .own 25 3 0 n) (d0 : D) (d1 : D) (d36 : D) (i37 i38 : Int) (ex0 : x0 = .d d0) (ex1 : x1 = .d d1) (ex36 : x36 = .d d36) (ex37 : x37 = .d (.int .i64 i37)) (ex38 : x38 = .d (.int .i64 i38)) :
    ∃ z e μ, EX ip nv (.code (.loop [] [] orders_Mean.b4) [(0, x0), (1, x1), (8, x8), (36, x36), (37, x37), (38, x38), (51, .d (.sl 3 (el (tb n fun p => can (A p))))), (52, .d (.int .i64 (n : Int))), (53, .d (.int .i64 0))] [(25, ⟨0, false, el (tb n fun p => can (S p))⟩)]) = some (.st z e μ) ∧ z ≠ .normal ∧
    z = .exit 4 ∧ e = [(0, x0), (1, x1), (8, x8), (36, x36), (37, x37), (38, x38), (51, .d (.sl 3 (el (tb n fun p => can (A p))))), (52, .d (.int .i64 (n : Int))), (53, .d (.int .i64 (n : Int))), (54, .d (.bool false))] ∧ μ = [(25, ⟨0, false, el (tb n fun p => can (S p + A p))⟩)] := by
  subst e0 ex0 ex1 ex36 ex37 ex38
  have hal : (tb n fun p => can (A p)).length = n := tb_len _ _
  have hai : ∀ p, p < n → ix (tb n fun p => can (A p)) p = can (A p) := fun p hp => tb_ix hp
  generalize (tb n fun p => can (A p)) = al at *
  refine loop_n n (fun i e μ => ∃ a : List RQ, a = tb n (mix i (fun p => can (S p + A p)) fun p => can (S p)) ∧ e = [(0, .d d0), (1, .d d1), (8, .own 25 3 0 n), (36, .d d36), (37, .d (.int .i64 i37)), (38, .d (.int .i64 i38)), (51, .d (.sl 3 (el al))), (52, .d (.int .i64 (n : Int))), (53, .d (.int .i64 (i : Int)))] ∧ μ = [(25, ⟨0, false, el a⟩)]) ?_ ?_ ⟨_, mix_zero.symm, rfl, rfl⟩
  · rintro i e μ hi ⟨a, ha, rfl, rfl⟩
    have hal2 : a.length = n := by rw [ha]; simp
    have hx : ix a i = can (S i) := by rw [ha, tb_ix hi, mix_at]
    have ad := radd_ev hz (can (S i)) (can (A i)) (can_ok (hS i hi)) (can_ok (hA i hi)) h1 h2 hK
    rw [can_v, can_v] at ad
    have st := mix_step (n := n) (i := i) (g := fun p => can (S p + A p)) (f := fun p => can (S p))
    rw [← ha] at st
    have hy := hai i hi
    refine .inl ⟨_, _, ?_, a.set i (can (S i + A i)), st, rfl, rfl⟩
    clear st ha hai
    generalize can (S i + A i) = q at *
    generalize can (S i) = q1 at *
    generalize can (A i) = q2 at *
    simp (disch := omega) [orders_Mean.b4, hi, hal, hal2, hx, hy, ad, -vIA_o]
  · rintro e μ ⟨a, ha, rfl, rfl⟩
    rw [mix_all] at ha
    subst ha
    exact ⟨.exit 4, _, _, by simp [orders_Mean.b4] <;> first | rfl | exact ⟨rfl, rfl⟩, by simp, rfl, rfl, rfl⟩
theorem mean_b2 (hz : TzOk (nvR nv)) (l : List RQ) (os : List (List Int)) (n K : Nat) (hl : l.length ≤ 33) (hn : gmN l.length = some n) (hk : ∀ r ∈ l, r.ok K) (h1 : 1 ≤ K) (hK : K ≤ 10000) (ho : os.length ≤ 1000) (hol : ∀ o ∈ os, o.length ≤ 1000) (hx : ∀ o ∈ os, ∀ x ∈ o, In64 x) :
    ∃ z e μ, EX ip (nvR nv) (.code (.loop [] [] orders_Mean.b2) [(0, .d (.sl 3 (el l))), (1, .d (.sl 1 (el os))), (8, .own 25 3 0 n), (36, .d (.sl 1 (el os))), (37, .d (.int .i64 (os.length : Int))), (38, .d (.int .i64 0))] [(25, ⟨0, false, el (tb n fun _ => can 0)⟩)]) = some (.st z e μ) ∧ z ≠ .normal ∧
    ((z = .exit 2 ∧ e = [(0, .d (.sl 3 (el l))), (1, .d (.sl 1 (el os))), (8, .own 25 3 0 n), (36, .d (.sl 1 (el os))), (37, .d (.int .i64 (os.length : Int))), (38, .d (.int .i64 (os.length : Int))), (39, .d (.bool false))] ∧ μ = [(25, ⟨0, false, el (tb n fun p => can (sV (vl l) os n os.length p))⟩)] ∧ ∀ j, j < os.length → rightB (ix os j) n = true) ∨
     (z = .ret ∧ e = [(4, .d (.sl 3 [])), (5, .d (.int .i64 1))] ∧ (∃ a, μ = [(25, ⟨0, false, a⟩)]) ∧ ∃ j, j < os.length ∧ rightB (ix os j) n = false)) := by
  have hn6 := gmN_lt ⟨l.length, by omega⟩ n hn
  have hlen := (gmN_some ⟨l.length, by omega⟩ ⟨n, hn6⟩ hn).1
  simp only at hlen
  refine loop_n os.length (fun k e μ => e = [(0, .d (.sl 3 (el l))), (1, .d (.sl 1 (el os))), (8, .own 25 3 0 n), (36, .d (.sl 1 (el os))), (37, .d (.int .i64 (os.length : Int))), (38, .d (.int .i64 (k : Int)))] ∧ μ = [(25, ⟨0, false, el (tb n fun p => can (sV (vl l) os n k p))⟩)] ∧ ∀ j, j < k → rightB (ix os j) n = true) ?_ ?_ ⟨rfl, rfl, fun j hj => by omega⟩
  · rintro k e μ hk1 ⟨rfl, rfl, hr⟩
    have hm := os_ix hk1
    cases c : rightB (ix os k) n
    · have ad := adds_bad (nv := nv) l (ix os k) hl (hol _ hm) (hx _ hm) (fun m hm => by rw [hn] at hm; cases hm; exact c)
      refine .inr ⟨.ret, _, [(25, ⟨0, false, el (tb n fun p => can (sV (vl l) os n k p))⟩)], ?_, by simp, .inr ⟨rfl, rfl, ⟨_, rfl⟩, k, hk1, c⟩⟩
      · generalize (tb n fun p => can (sV (vl l) os n k p)) = a at *
        simp (disch := omega) [orders_Mean.b2, hk1, ad]
        try exact rfl
    · have hperm := rightB_perm.1 c
      have ad := adds_ev hz l (ix os k) n K hl hn hk h1 (by omega) (hol _ hm) (hx _ hm) c
      have hb := fun p => sV_b (os := os) hk h1 hlen k (by omega) hr p
      have hle : (2 * K + 2) * k ≤ (2 * K + 2) * 1000 := Nat.mul_le_mul_left _ (by omega)
      obtain ⟨_, _, _, b4, -, rfl, rfl, rfl⟩ := mean_b4 hz n (1 + (2 * K + 2) * k) (2 * K + 1) (by omega) (fun p => sV (vl l) os n k p) (fun p => aV (vl l) (ix os k) n p) (fun p _ => hb p) (fun p _ => aV_b hk h1 hlen hperm n (Nat.le_refl _) p) (by omega) (by omega) (by omega)
        (.d (.sl 3 (el l))) (.d (.sl 1 (el os))) (.own 25 3 0 n) (.d (.sl 1 (el os))) (.d (.int .i64 (os.length : Int))) (.d (.int .i64 (k : Int))) rfl _ _ _ _ _ rfl rfl rfl rfl rfl
      refine .inl ⟨_, _, ?_, rfl, rfl, fun j hj => ?_⟩
      · have hal : (adL l (ix os k) n).length = n := by simp [adL]
        have e2 : (tb n fun p => can (sV (vl l) os n (k + 1) p)) = tb n fun p => can (sV (vl l) os n k p + aV (vl l) (ix os k) n p) := rfl
        rw [e2]
        have e3 : adL l (ix os k) n = tb n fun p => can (aV (vl l) (ix os k) n p) := rfl
        rw [← e3] at b4
        generalize (tb n fun p => can (sV (vl l) os n k p + aV (vl l) (ix os k) n p)) = a2 at *
        generalize (tb n fun p => can (sV (vl l) os n k p)) = a at *
        clear e3
        generalize adL l (ix os k) n = a3 at *
        simp (disch := omega) [orders_Mean.b2, hk1, ad, hal, b4]
      · by_cases e : j = k
        · rw [e]; exact c
        · exact hr j (by omega)
  · rintro e μ ⟨rfl, rfl, hr⟩
    exact ⟨.exit 2, _, _, by simp [orders_Mean.b2] <;> first | rfl | exact ⟨rfl, rfl⟩, by simp, .inl ⟨rfl, rfl, rfl, hr⟩⟩
theorem mean_b0 (l : List RQ) (os : List (List Int)) (n : Nat) (hn5 : n ≤ 5) :
    ∃ z e μ, EX ip nv (.code (.loop [] [] orders_Mean.b0) [(0, .d (.sl 3 (el l))), (1, .d (.sl 1 (el os))), (8, .own 25 3 0 n), (27, .d (.int .i64 (n : Int))), (28, .d (.int .i64 0))] [(25, ⟨0, false, el (List.replicate n (⟨false, [], []⟩ : RQ))⟩)]) = some (.st z e μ) ∧ z ≠ .normal ∧
    z = .exit 0 ∧ e = [(0, .d (.sl 3 (el l))), (1, .d (.sl 1 (el os))), (8, .own 25 3 0 n), (27, .d (.int .i64 (n : Int))), (28, .d (.int .i64 (n : Int))), (29, .d (.bool false))] ∧ μ = [(25, ⟨0, false, el (tb n fun _ => can 0)⟩)] := by
  have z := zero_ev (nv := nv)
  generalize can 0 = q0 at *
  refine loop_n n (fun i e μ => ∃ a : List RQ, a = tb n (mix i (fun _ => q0) fun _ => ⟨false, [], []⟩) ∧ e = [(0, .d (.sl 3 (el l))), (1, .d (.sl 1 (el os))), (8, .own 25 3 0 n), (27, .d (.int .i64 (n : Int))), (28, .d (.int .i64 (i : Int)))] ∧ μ = [(25, ⟨0, false, el a⟩)]) ?_ ?_ ⟨_, by rw [mix_zero, rep_tb], rfl, rfl⟩
  · rintro i e μ hi ⟨a, ha, rfl, rfl⟩
    have hal : a.length = n := by rw [ha]; simp
    have st := mix_step (n := n) (i := i) (g := fun _ => q0) (f := fun _ => (⟨false, [], []⟩ : RQ))
    rw [← ha] at st
    refine .inl ⟨_, _, ?_, a.set i q0, st, rfl, rfl⟩
    clear st ha
    simp (disch := omega) [orders_Mean.b0, hi, hal, z, -vIA_o]
  · rintro e μ ⟨a, ha, rfl, rfl⟩
    rw [mix_all] at ha
    subst ha
    exact ⟨.exit 0, _, _, by simp [orders_Mean.b0] <;> first | rfl | exact ⟨rfl, rfl⟩, by simp, rfl, rfl, rfl⟩
theorem mean_b6 (hz : TzOk nv) (l : List RQ) (os : List (List Int)) (n K : Nat) (hn5 : n ≤ 5) (S : Nat → Rat) (hS : ∀ p, p < n → Bq K (S p)) (h1 : 1 ≤ K) (hK : K + 1 ≤ 1073741824) (h0 : 0 < os.length) (hm : os.length ≤ 1000) :
    ∃ z e μ, EX ip nv (.code (.loop [] [] orders_Mean.b6) [(1, .d (.sl 1 (el os))), (8, .own 25 3 0 n), (73, .d (.int .i64 (n : Int))), (74, .d (.int .i64 0))] [(25, ⟨0, false, el (tb n fun p => can (S p))⟩)]) = some (.st z e μ) ∧ z ≠ .normal ∧
    z = .exit 6 ∧ e = [(1, .d (.sl 1 (el os))), (8, .own 25 3 0 n), (73, .d (.int .i64 (n : Int))), (74, .d (.int .i64 (n : Int))), (75, .d (.bool false))] ∧ μ = [(25, ⟨0, false, el (tb n fun p => can (S p * Rat.divInt 1 (os.length : Int)))⟩)] := by
  have fr := rfrac_ev hz 1 (os.length : Int) (by omega) (by omega) (by omega) (by omega)
  have fb := frac1_b h0 (by omega : os.length < 4294967296)
  generalize Rat.divInt 1 (os.length : Int) = fq at *
  refine loop_n n (fun i e μ => ∃ a : List RQ, a = tb n (mix i (fun p => can (S p * fq)) fun p => can (S p)) ∧ e = [(1, .d (.sl 1 (el os))), (8, .own 25 3 0 n), (73, .d (.int .i64 (n : Int))), (74, .d (.int .i64 (i : Int)))] ∧ μ = [(25, ⟨0, false, el a⟩)]) ?_ ?_ ⟨_, mix_zero.symm, rfl, rfl⟩
  · rintro i e μ hi ⟨a, ha, rfl, rfl⟩
    have hal : a.length = n := by rw [ha]; simp
    have hx : ix a i = can (S i) := by rw [ha, tb_ix hi, mix_at]
    have ml := rmul_ev hz (can (S i)) (can fq) (can_ok (hS i hi)) (can_ok fb) h1 (by omega) hK
    rw [can_v, can_v] at ml
    have st := mix_step (n := n) (i := i) (g := fun p => can (S p * fq)) (f := fun p => can (S p))
    rw [← ha] at st
    refine .inl ⟨_, _, ?_, a.set i (can (S i * fq)), st, rfl, rfl⟩
    clear st ha
    generalize can (S i * fq) = q at *
    generalize can (S i) = q1 at *
    generalize can fq = q2 at *
    simp (disch := omega) [orders_Mean.b6, hi, hal, hx, fr, ml, -vIA_o]
  · rintro e μ ⟨a, ha, rfl, rfl⟩
    rw [mix_all] at ha
    subst ha
    exact ⟨.exit 6, _, _, by simp [orders_Mean.b6] <;> first | rfl | exact ⟨rfl, rfl⟩, by simp, rfl, rfl, rfl⟩
theorem mean_none (l : List RQ) (os : List (List Int)) (hl : l.length ≤ 33) (hn : gmN l.length = none) : EX ip nv (.call F.orders_Mean [.d (.sl 3 (el l)), .d (.sl 1 (el os))] []) = some (.ret (.tp [.d (.sl 3 []), .d (.int .i64 1)]) []) := by
  rw [S_call orders_Mean.ip rfl]
  have p := players_ev (nv := nv) l hl
  rw [hn] at p
  simp only at p
  simp (disch := omega) [orders_Mean, p]
theorem mean_bad (hz : TzOk (nvR nv)) (l : List RQ) (os : List (List Int)) (n K : Nat) (hl : l.length ≤ 33) (hn : gmN l.length = some n) (hk : ∀ r ∈ l, r.ok K) (h1 : 1 ≤ K) (hK : K ≤ 10000) (ho : os.length ≤ 1000) (hol : ∀ o ∈ os, o.length ≤ 1000) (hx : ∀ o ∈ os, ∀ x ∈ o, In64 x) (hb : ∃ j, j < os.length ∧ rightB (ix os j) n = false) :
    EX ip (nvR nv) (.call F.orders_Mean [.d (.sl 3 (el l)), .d (.sl 1 (el os))] []) = some (.ret (.tp [.d (.sl 3 []), .d (.int .i64 1)]) []) := by
  rw [S_call orders_Mean.ip rfl]
  have p := players_ev (nv := nvR nv) l hl
  rw [hn] at p
  simp only at p
  have hn6 := gmN_lt ⟨l.length, by omega⟩ n hn
  obtain ⟨_, _, _, r0, -, rfl, rfl, rfl⟩ := mean_b0 (nv := nvR nv) l os n (by omega)
  obtain ⟨z, e, μ, r2, -, h⟩ := mean_b2 hz l os n K hl hn hk h1 hK ho hol hx
  rcases h with ⟨-, -, -, hr⟩ | ⟨rfl, rfl, ⟨a, rfl⟩, -⟩
  · obtain ⟨j, hj, c⟩ := hb
    rw [hr j hj] at c; cases c
  · generalize can 0 = q0 at *
    simp (disch := omega) [orders_Mean, p, r0, r2]
theorem mean_ev (hz : TzOk (nvR nv)) (l : List RQ) (os : List (List Int)) (n K : Nat) (hl : l.length ≤ 33) (hn : gmN l.length = some n) (hk : ∀ r ∈ l, r.ok K) (h1 : 1 ≤ K) (hK : K ≤ 10000) (ho : os.length ≤ 1000) (hol : ∀ o ∈ os, o.length ≤ 1000) (hx : ∀ o ∈ os, ∀ x ∈ o, In64 x) (hr : ∀ j, j < os.length → rightB (ix os j) n = true) :
    EX ip (nvR nv) (.call F.orders_Mean [.d (.sl 3 (el l)), .d (.sl 1 (el os))] []) = some (.ret (if os.length = 0 then .tp [.d (.sl 3 []), .d (.int .i64 15)] else .tp [.d (.sl 3 (el (meL l os n))), .d (.int .i64 0)]) []) := by
  rw [S_call orders_Mean.ip rfl]
  have p := players_ev (nv := nvR nv) l hl
  rw [hn] at p
  simp only at p
  have hn6 := gmN_lt ⟨l.length, by omega⟩ n hn
  have hlen := (gmN_some ⟨l.length, by omega⟩ ⟨n, hn6⟩ hn).1
  simp only at hlen
  obtain ⟨_, _, _, r0, -, rfl, rfl, rfl⟩ := mean_b0 (nv := nvR nv) l os n (by omega)
  obtain ⟨z, e, μ, r2, -, h⟩ := mean_b2 hz l os n K hl hn hk h1 hK ho hol hx
  rcases h with ⟨rfl, rfl, rfl, -⟩ | ⟨-, -, -, j, hj, c⟩
  rotate_left
  · rw [hr j hj] at c; cases c
  by_cases h0 : os.length = 0
  · rw [if_pos h0]
    have h0' : os = [] := List.length_eq_zero_iff.1 h0
    subst h0'
    generalize (tb n fun p => can (sV (vl l) [] n ([] : List (List Int)).length p)) = a at *
    generalize can 0 = q0 at *
    simp only [el_nil, List.length_nil, Int.natCast_zero] at r0 r2
    simp (disch := omega) [orders_Mean, p, r0, r2]
  · rw [if_neg h0]
    have hle : (2 * K + 2) * os.length ≤ (2 * K + 2) * 1000 := Nat.mul_le_mul_left _ (by omega)
    obtain ⟨_, _, _, r6, -, rfl, rfl, rfl⟩ := mean_b6 hz l os n (1 + (2 * K + 2) * os.length) (by omega) (fun p => sV (vl l) os n os.length p) (fun p _ => sV_b hk h1 hlen os.length (Nat.le_refl _) hr p) (by omega) (by omega) (by omega) ho
    have e : (tb n fun p => can (sV (vl l) os n os.length p * Rat.divInt 1 (os.length : Int))) = meL l os n := rfl
    rw [e] at r6
    clear e
    have hml : (meL l os n).length = n := by simp [meL]
    have hsl : (tb n fun p => can (sV (vl l) os n os.length p)).length = n := by simp
    generalize (tb n fun p => can (sV (vl l) os n os.length p)) = a at *
    generalize meL l os n = b at *
    generalize can 0 = q0 at *
    have h0' : ¬ ((os.length : Int) = 0) := by omega
    simp (disch := omega) [orders_Mean, p, r0, r2, r6, h0, h0', hml, hsl]
end
end Go.Proofs.YtnmbpainnkdonaaGreatDoor
