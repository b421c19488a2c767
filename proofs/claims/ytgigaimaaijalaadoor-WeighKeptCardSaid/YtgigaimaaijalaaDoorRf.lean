/- The interpreter of the road R, part Rf: its data, its steps, and that it is right. -/
import Derived.Test.YtgigaimaaijalaaDoorRd
set_option linter.unusedVariables false
set_option linter.unusedSimpArgs false
/- Numbers as lists of limbs of 32 bits, the lowest first. -/
namespace Go.Proofs.R.T

/-- What limbs say; of each the lowest 32 bits. -/
def lv : List Nat → Nat
  | [] => 0
  | x :: r => x % 10000 + 10000 * lv r

/-- The limbs of a number. -/
def dig (n : Nat) : List Nat := if h : n = 0 then [] else n % 10000 :: dig (n / 10000)
termination_by n
decreasing_by omega

/-- Every limb is one. -/
def Cl (l : List Nat) : Prop := ∀ x ∈ l, x < 10000

/-- A power of the base. -/
def pw (k : Nat) : Nat := 10000 ^ k
theorem pw_zero : pw 0 = 1 := rfl
theorem pw_succ (k : Nat) : pw (k + 1) = 10000 * pw k := by simp [pw, Nat.pow_succ, Nat.mul_comm]
theorem pw_pos (k : Nat) : 0 < pw k := Nat.pow_pos (by decide)
theorem pw_add (j k : Nat) : pw (j + k) = pw j * pw k := by simp [pw, Nat.pow_add]
theorem pw_le {j k : Nat} (h : j ≤ k) : pw j ≤ pw k := Nat.pow_le_pow_right (by decide) h
theorem pw_lt {j k : Nat} (h : j < k) : pw j < pw k := Nat.pow_lt_pow_right (by decide) h

theorem dig_zero : dig 0 = [] := by rw [dig]; simp
theorem dig_pos {n : Nat} (h : n ≠ 0) : dig n = n % 10000 :: dig (n / 10000) := by rw [dig, dif_neg h]
theorem lv_dig (n : Nat) : lv (dig n) = n := by
  induction n using Nat.strongRecOn with
  | ind n ih =>
    by_cases h : n = 0
    · subst h; simp [dig_zero, lv]
    · rw [dig_pos h]
      have := ih (n / 10000) (by omega)
      simp only [lv, this]
      omega
theorem dig_cl (n : Nat) : Cl (dig n) := by
  induction n using Nat.strongRecOn with
  | ind n ih =>
    by_cases h : n = 0
    · subst h; simp [dig_zero, Cl]
    · rw [dig_pos h]
      intro x hx
      rcases List.mem_cons.1 hx with rfl | hx
      · omega
      · exact ih _ (by omega) x hx
theorem dig_nil {n : Nat} : dig n = [] ↔ n = 0 := by
  constructor
  · intro h
    by_cases h0 : n = 0
    · exact h0
    · rw [dig_pos h0] at h; cases h
  · rintro rfl; exact dig_zero
theorem dig_inj {m n : Nat} (h : dig m = dig n) : m = n := by rw [← lv_dig m, ← lv_dig n, h]

theorem lv_lt (l : List Nat) : lv l < pw l.length := by
  induction l with
  | nil => simp [lv, pw]
  | cons x r ih =>
    simp only [lv, List.length_cons, pw_succ]
    have : x % 10000 < 10000 := Nat.mod_lt _ (by decide)
    omega
theorem lv_append (a b : List Nat) : lv (a ++ b) = lv a + pw a.length * lv b := by
  induction a with
  | nil => simp [lv, pw]
  | cons x r ih =>
    simp only [List.cons_append, lv, ih, List.length_cons, pw_succ]
    rw [Nat.mul_add, ← Nat.mul_assoc]
    omega
theorem lv_zeros (k : Nat) : lv (List.replicate k 0) = 0 := by
  induction k with
  | zero => rfl
  | succ k ih => simp only [List.replicate_succ, lv, ih]
theorem dig_len_le {n k : Nat} : (dig n).length ≤ k ↔ n < pw k := by
  induction k generalizing n with
  | zero => simp [pw, dig_nil]
  | succ k ih =>
    by_cases h : n = 0
    · subst h; simp [dig_zero, pw_pos]
    · rw [dig_pos h, List.length_cons, pw_succ, Nat.add_le_add_iff_right, ih]
      omega
theorem dig_len_pos {n : Nat} : 0 < (dig n).length ↔ 0 < n := by
  rw [List.length_pos_iff, ne_eq, dig_nil]; omega
theorem dig_len_mono {m n : Nat} (h : m ≤ n) : (dig m).length ≤ (dig n).length :=
  dig_len_le.2 (Nat.lt_of_le_of_lt h (dig_len_le.1 (Nat.le_refl _)))
/-- At least a power of the base. -/
theorem dig_ge {n : Nat} (h : 0 < n) : pw ((dig n).length - 1) ≤ n := by
  have h1 := dig_len_pos.2 h
  rcases Nat.lt_or_ge n (pw ((dig n).length - 1)) with h2 | h2
  · have := dig_len_le.2 h2; omega
  · exact h2
theorem dig_lt (n : Nat) : n < pw (dig n).length := dig_len_le.1 (Nat.le_refl _)
theorem dig_len_eq {n k : Nat} (h1 : pw k ≤ n) (h2 : n < pw (k + 1)) : (dig n).length = k + 1 := by
  have := dig_len_le.2 h2
  rcases Nat.lt_or_ge (dig n).length (k + 1) with h | h
  · have := dig_len_le.1 (show (dig n).length ≤ k by omega); omega
  · omega

theorem Cl.cons {x : Nat} {r : List Nat} : Cl (x :: r) ↔ x < 10000 ∧ Cl r := by simp [Cl]
theorem Cl.nil : Cl [] := by simp [Cl]
theorem Cl.append {a b : List Nat} : Cl (a ++ b) ↔ Cl a ∧ Cl b := by
  simp only [Cl, List.mem_append]
  exact ⟨fun h => ⟨fun x hx => h x (.inl hx), fun x hx => h x (.inr hx)⟩, fun h x hx => hx.elim (h.1 x) (h.2 x)⟩
theorem Cl.take {a : List Nat} (h : Cl a) (n : Nat) : Cl (a.take n) := fun x hx => h x (List.mem_of_mem_take hx)
theorem Cl.drop {a : List Nat} (h : Cl a) (n : Nat) : Cl (a.drop n) := fun x hx => h x (List.mem_of_mem_drop hx)
theorem Cl.zeros (k : Nat) : Cl (List.replicate k 0) := fun x hx => by rw [List.mem_replicate] at hx; omega

/-- A limb; beyond the last 0. -/
def lb (l : List Nat) (i : Nat) : Nat := l.getD i 0
theorem lb_lt {l : List Nat} (h : Cl l) (i : Nat) : lb l i < 10000 := by
  unfold lb
  rw [List.getD_eq_getElem?_getD]
  cases hi : l[i]? with
  | none => simp
  | some x => simpa using h x (List.mem_of_getElem? hi)
theorem lb_out {l : List Nat} {i : Nat} (h : l.length ≤ i) : lb l i = 0 := by simp [lb, h]
theorem lb_in {l : List Nat} {i : Nat} (h : i < l.length) : l[i]? = some (lb l i) := by simp [lb, h]
theorem lb_getElem {l : List Nat} {i : Nat} (h : i < l.length) : l[i] = lb l i := by simp [lb, h]
theorem lb_cons_zero (x : Nat) (r : List Nat) : lb (x :: r) 0 = x := rfl
theorem lb_cons_succ (x : Nat) (r : List Nat) (i : Nat) : lb (x :: r) (i + 1) = lb r i := rfl
theorem lb_append_left {a b : List Nat} {i : Nat} (h : i < a.length) : lb (a ++ b) i = lb a i := by simp [lb, List.getElem?_append, h]
theorem lb_append_right {a b : List Nat} {i : Nat} (h : a.length ≤ i) : lb (a ++ b) i = lb b (i - a.length) := by
  simp [lb, List.getElem?_append, Nat.not_lt.2 h]

/-- What the first limbs say. -/
theorem lv_take_succ {l : List Nat} (h : Cl l) (i : Nat) : lv (l.take (i + 1)) = lv (l.take i) + pw i * lb l i := by
  induction l generalizing i with
  | nil => simp [lv, lb]
  | cons x r ih =>
    obtain ⟨h1, h2⟩ := Cl.cons.1 h
    cases i with
    | zero => simp [lv, pw, lb, Nat.mod_eq_of_lt h1]
    | succ i =>
      simp only [List.take_succ_cons, lv, ih h2 i, lb_cons_succ, pw_succ]
      rw [Nat.mul_add, ← Nat.mul_assoc]; omega
theorem lv_cut (l : List Nat) (i : Nat) (h : i ≤ l.length) : lv l = lv (l.take i) + pw i * lv (l.drop i) := by
  conv => lhs; rw [← List.take_append_drop i l, lv_append]
  rw [List.length_take, Nat.min_eq_left h]
theorem lv_drop {l : List Nat} (h : Cl l) {i : Nat} (hi : i < l.length) : lv (l.drop i) = lb l i + 10000 * lv (l.drop (i + 1)) := by
  rw [List.drop_eq_getElem_cons hi]
  simp only [lv, lb_getElem hi]
  have := lb_lt h i
  omega
theorem lv_pos_of_last {l : List Nat} (h : Cl l) (h0 : l ≠ []) (hl : lb l (l.length - 1) ≠ 0) : pw (l.length - 1) ≤ lv l := by
  have hp : 0 < l.length := List.length_pos_iff.2 h0
  rw [lv_cut l (l.length - 1) (by omega), lv_drop h (by omega)]
  have : 1 ≤ lb l (l.length - 1) := by omega
  calc pw (l.length - 1) = pw (l.length - 1) * 1 := by omega
    _ ≤ pw (l.length - 1) * (lb l (l.length - 1) + 10000 * lv (l.drop (l.length - 1 + 1))) := Nat.mul_le_mul_left _ (by omega)
    _ ≤ _ := Nat.le_add_left _ _
theorem Cl.ext {a b : List Nat} (ha : Cl a) (hb : Cl b) (hl : a.length = b.length) (hv : lv a = lv b) : a = b := by
  induction a generalizing b with
  | nil => cases b with
    | nil => rfl
    | cons y s => simp at hl
  | cons x r ih => cases b with
    | nil => simp at hl
    | cons y s =>
      obtain ⟨h1, h2⟩ := Cl.cons.1 ha
      obtain ⟨h3, h4⟩ := Cl.cons.1 hb
      simp only [lv] at hv
      simp only [List.length_cons] at hl
      have := ih h2 h4 (by omega) (by omega)
      have hxy : x = y := by omega
      rw [this, hxy]
/-- Limbs whose last is not 0 are the limbs of what they say. -/
theorem dig_lv {l : List Nat} (h : Cl l) (hl : l = [] ∨ lb l (l.length - 1) ≠ 0) : dig (lv l) = l := by
  rcases hl with rfl | hl
  · simp [lv, dig_zero]
  · by_cases h0 : l = []
    · subst h0; simp [lv, dig_zero]
    · have hp : 0 < l.length := List.length_pos_iff.2 h0
      have h1 := lv_pos_of_last h h0 hl
      have h2 := lv_lt l
      have := dig_len_eq (k := l.length - 1) h1 (by rw [show l.length - 1 + 1 = l.length by omega]; exact h2)
      exact Cl.ext (dig_cl _) h (by omega) (lv_dig _)
theorem dig_last {n : Nat} (h : 0 < n) : lb (dig n) ((dig n).length - 1) ≠ 0 := by
  intro h0
  have hp := dig_len_pos.2 h
  have h1 := lv_cut (dig n) ((dig n).length - 1) (by omega)
  rw [lv_drop (dig_cl n) (by omega), h0, show (dig n).length - 1 + 1 = (dig n).length by omega, List.drop_length, lv_dig] at h1
  have h2 := lv_lt ((dig n).take ((dig n).length - 1))
  rw [List.length_take, Nat.min_eq_left (by omega)] at h2
  have h3 := dig_ge h
  simp only [lv, Nat.mul_zero, Nat.add_zero] at h1
  omega
/-- Without limbs 0 from above. -/
theorem dig_take {l : List Nat} (h : Cl l) {n : Nat} (hn : n ≤ l.length) (h0 : lv (l.drop n) = 0) (hl : n = 0 ∨ lb l (n - 1) ≠ 0) : dig (lv l) = l.take n := by
  rw [lv_cut l n hn, h0, Nat.mul_zero, Nat.add_zero]
  apply dig_lv (h.take n)
  rcases hl with rfl | hl
  · left; simp
  · by_cases hz : n = 0
    · left; subst hz; simp
    · right
      have : (l.take n).length = n := by rw [List.length_take]; omega
      rw [this]
      have e : lb (l.take n) (n - 1) = lb l (n - 1) := by
        simp only [lb, List.getD_eq_getElem?_getD, List.getElem?_take]
        rw [if_pos (by omega)]
      rw [e]; exact hl
theorem lv_map_mod (l : List Nat) : lv (l.map (· % 10000)) = lv l := by
  induction l with
  | nil => rfl
  | cons x r ih => simp only [List.map_cons, lv, ih]; omega
theorem cl_map_mod (l : List Nat) : Cl (l.map (· % 10000)) := by
  intro x hx
  obtain ⟨y, _, rfl⟩ := List.mem_map.1 hx
  omega
theorem lv_set {l : List Nat} (h : Cl l) {i x : Nat} (hi : i < l.length) (hx : x < 10000) : lv (l.set i x) + pw i * lb l i = lv l + pw i * x := by
  induction l generalizing i with
  | nil => simp at hi
  | cons y r ih =>
    obtain ⟨h1, h2⟩ := Cl.cons.1 h
    cases i with
    | zero => simp only [List.set_cons_zero, lv, lb_cons_zero, pw_zero]; omega
    | succ i =>
      have := ih h2 (i := i) (by simpa using hi)
      simp only [List.set_cons_succ, lv, lb_cons_succ, pw_succ]
      have e : ∀ z, 10000 * pw i * z = 10000 * (pw i * z) := fun z => Nat.mul_assoc ..
      rw [e, e]
      omega
theorem Cl.set {l : List Nat} (h : Cl l) (i : Nat) {x : Nat} (hx : x < 10000) : Cl (l.set i x) := fun y hy => by
  rcases List.mem_or_eq_of_mem_set hy with h1 | rfl
  · exact h y h1
  · exact hx
theorem lb_set_eq {l : List Nat} {i x : Nat} (h : i < l.length) : lb (l.set i x) i = x := by simp [lb, h]
theorem lb_set_ne {l : List Nat} {i j x : Nat} (h : i ≠ j) : lb (l.set i x) j = lb l j := by simp [lb, List.getElem?_set_ne h]
theorem Cl.one {x : Nat} (h : x < 10000) : Cl [x] := by simpa [Cl] using h
theorem lv_one {x : Nat} (h : x < 10000) : lv [x] = x := by simp [lv, Nat.mod_eq_of_lt h]
theorem lv_nil : lv [] = 0 := rfl
theorem lv_cons {x : Nat} (h : x < 10000) (r : List Nat) : lv (x :: r) = x + 10000 * lv r := by simp [lv, Nat.mod_eq_of_lt h]
theorem lv_take_set {l : List Nat} (h : Cl l) {i x : Nat} (hi : i < l.length) (hx : x < 10000) : lv ((l.set i x).take (i + 1)) = lv (l.take i) + pw i * x := by
  rw [lv_take_succ (h.set i hx), lb_set_eq hi]
  congr 2
  rw [List.take_set, List.set_eq_of_length_le (by rw [List.length_take]; omega)]
theorem lv_take_all {l : List Nat} {n : Nat} (h : l.length ≤ n) : lv (l.take n) = lv l := by rw [List.take_of_length_le h]
theorem pw_split (i s : Nat) : pw i * (s % 10000) + pw (i + 1) * (s / 10000) = pw i * s := by
  rw [pw_succ, Nat.mul_comm 10000 (pw i), Nat.mul_assoc, ← Nat.mul_add]
  congr 1
  omega
theorem drop_set {l : List Nat} {i x : Nat} (h : i < l.length) : (l.set i x).drop i = x :: l.drop (i + 1) := by
  rw [List.drop_eq_getElem_cons (by simpa using h), List.drop_set, if_pos (by omega)]
  simp
/-- What a shorter list's number says of its length. -/
theorem dig_le_len {m n : Nat} (h : m ≤ n) : (dig m).length ≤ (dig n).length := dig_len_mono h
theorem dig_small {n k : Nat} (h : n < pw k) : (dig n).length ≤ k := dig_len_le.2 h
theorem lv_take_lt {l : List Nat} {k : Nat} (hk : k ≤ l.length) (h : lv l < pw k) : lv (l.take k) = lv l := by
  have e := lv_cut l k hk
  rcases Nat.eq_zero_or_pos (lv (l.drop k)) with h0 | h0
  · rw [h0, Nat.mul_zero, Nat.add_zero] at e; exact e.symm
  · exfalso
    have := Nat.le_mul_of_pos_right (pw k) h0
    omega
theorem mul_le_pw {n m s k : Nat} (h : n ≤ m) (hm : m < pw k) (hs : 2 ^ s ≤ 10000) : n * 2 ^ s ≤ pw (k + 1) := by
  rw [pw_succ, Nat.mul_comm 10000]
  exact Nat.mul_le_mul (Nat.le_of_lt (Nat.lt_of_le_of_lt h hm)) hs
end Go.Proofs.R.T

/- Tables of small numbers; digits to the base 10000. -/
namespace Go.Proofs.R
open Go
set_option linter.unusedSimpArgs false
instance : Enc Nat 1 false := ⟨fun x => .int .i64 (x : Int), fun _ => rfl, by decide, fun _ => ⟨by simp, fun _ => ⟨rfl, rfl⟩⟩⟩
@[simp] theorem d_nat (x : Nat) : Enc.d x = D.int .i64 (x : Int) := rfl
theorem ix_lb (l : List Nat) (i : Nat) : ix l i = T.lb l i := rfl
section
variable {g : Task → Option Out} {r : List I} {d : Nat} {e : Env} {μ : Mem}
@[simp high] theorem st_nat {b i p x : Nat} {f : Bool} {l : List Nat} (h : i < l.length) (h' : p ≤ i) : kSt.kStB g r e μ 1 b i (.int .i64 (x : Int)) (some ⟨p, f, el l⟩) = exIs g r e (aput b ⟨p, f, el (l.set i x)⟩ μ) := st_el1 (x := x) h h'
theorem mk_nat {bytes z : Nat} {k1 k2 : IntKind} {l c : Int} (h0 : 0 ≤ l) (h1 : l ≤ c) (h2 : bytes * c.toNat ≤ 281474976710656) (h3 : c < 9223372036854775808) : kMk g r d e μ 1 bytes [.int .i64 (z : Int)] (some (.d (.int k1 l))) (some (.d (.int k2 c))) none = exIs g r (aput d (.own d 1 0 l.toNat) e) (aput d ⟨0, false, el (List.replicate l.toNat z)⟩ μ) := mk_el (z := z) h0 h1 h2 h3
theorem mk_nat0 {bytes : Nat} {k1 k2 : IntKind} {l c : Int} (h0 : 0 ≤ l) (h1 : l ≤ c) (h2 : bytes * c.toNat ≤ 281474976710656) (h3 : c < 9223372036854775808) : kMk g r d e μ 1 bytes [.int .i64 0] (some (.d (.int k1 l))) (some (.d (.int k2 c))) none = exIs g r (aput d (.own d 1 0 l.toNat) e) (aput d ⟨0, false, el (List.replicate l.toNat (0 : Nat))⟩ μ) := mk_el (z := (0 : Nat)) h0 h1 h2 h3
@[simp high] theorem app_nat {bytes b n p x : Nat} {l : List Nat} (h : n ≤ l.length) (hp : p ≤ n) (hs : (n + 1) * bytes ≤ 70368744177664) : kApp.kAppB g r d e μ 1 bytes b 1 0 n 1 [.int .i64 (x : Int)] (some ⟨p, false, el l⟩) = exIs g r (aput d (.own b 1 0 (n + 1)) (drop b e)) (aput b ⟨p, false, el (l.take n ++ [x])⟩ μ) := by
  have := app_el (g := g) (r := r) (d := d) (e := e) (μ := μ) (bytes := bytes) (b := b) (p := p) (m := [x]) h (by omega) (by simpa using hs)
  exact this
end
/-- Division of small numbers. -/
theorem i_remN {x y : Nat} (h : 0 < y) : vBin .rem (some (.d (.int .i64 (x : Int)))) (some (.d (.int .i64 (y : Int)))) = some (.d (.int .i64 ((x % y : Nat) : Int))) := by
  rw [vBin_rem, if_neg (by omega)]
  congr 3
theorem i_quoN {x y : Nat} (h : 0 < y) (hx : x < 9223372036854775808) : vBin .quo (some (.d (.int .i64 (x : Int)))) (some (.d (.int .i64 (y : Int)))) = some (.d (.int .i64 ((x / y : Nat) : Int))) := by
  rw [vBin_quo, if_neg (by omega)]
  have e : (x : Int).tdiv (y : Int) = ((x / y : Nat) : Int) := rfl
  have : x / y ≤ x := Nat.div_le_self _ _
  rw [e]
  clear e
  generalize x / y = q at *
  rw [i64_wrap (by omega) (by omega)]
theorem i_rem4 {x : Nat} : vBin .rem (some (.d (.int .i64 (x : Int)))) (some (.d (.int .i64 10000))) = some (.d (.int .i64 ((x % 10000 : Nat) : Int))) := i_remN (y := 10000) (by decide)
theorem i_quo4 {x : Nat} (hx : x < 9223372036854775808) : vBin .quo (some (.d (.int .i64 (x : Int)))) (some (.d (.int .i64 10000))) = some (.d (.int .i64 ((x / 10000 : Nat) : Int))) := i_quoN (y := 10000) (by decide) hx
theorem i_quo2 {x : Nat} (hx : x < 9223372036854775808) : vBin .quo (some (.d (.int .i64 (x : Int)))) (some (.d (.int .i64 2))) = some (.d (.int .i64 ((x / 2 : Nat) : Int))) := i_quoN (y := 2) (by decide) hx
@[simp high] theorem set_rq {x y z : D} {r : RQ} : setAt [x, y, z] 0 r.c = r.c := rfl
@[simp high] theorem set_rq2 {r s : RQ} : setAt r.c 0 s.c = s.c := rfl
@[simp high] theorem take_rq {r : RQ} : r.c.take 3 = r.c := rfl
theorem ixq_ok {l : List RQ} {k : Nat} (h : ∀ r ∈ l, r.ok k) {i : Nat} (hi : i < l.length) : (ix l i).ok k := by
  have : ix l i = l[i] := by simp [ix, hi]
  rw [this]; exact h _ (List.getElem_mem hi)
theorem i_shrN {s i : Nat} (hi : i ≤ 62) (hs : s < 9223372036854775808) : vBin .shr (some (.d (.int .i64 (s : Int)))) (some (.d (.int .i64 (i : Int)))) = some (.d (.int .i64 ((s / 2 ^ i : Nat) : Int))) := by
  rw [vBin_shr, if_neg (by omega)]
  have : min ((i : Int)).toNat IntKind.i64.bits = i := by
    have : IntKind.i64.bits = 64 := rfl
    omega
  rw [this]
  have e : (2 : Int) ^ i = ((2 ^ i : Nat) : Int) := by simp
  rw [e, Int.fdiv_eq_ediv_of_nonneg _ (Int.natCast_nonneg _)]; rfl
end Go.Proofs.R
