/- The interpreter of the road R, part Rc: its data, its steps, and that it is right. -/
import Derived.Test.YtgigaimaaijalaaDoorRb
set_option linter.unusedVariables false
set_option linter.unusedSimpArgs false
/- Numbers as lists of limbs of 32 bits, the lowest first. -/
namespace Go.Proofs.R

/-- What limbs say; of each the lowest 32 bits. -/
def lv : List Nat → Nat
  | [] => 0
  | x :: r => x % 4294967296 + 4294967296 * lv r

/-- The limbs of a number. -/
def dig (n : Nat) : List Nat := if h : n = 0 then [] else n % 4294967296 :: dig (n / 4294967296)
termination_by n
decreasing_by omega

/-- Every limb is one. -/
def Cl (l : List Nat) : Prop := ∀ x ∈ l, x < 4294967296

/-- A power of the base. -/
def pw (k : Nat) : Nat := 4294967296 ^ k
theorem pw_zero : pw 0 = 1 := rfl
theorem pw_succ (k : Nat) : pw (k + 1) = 4294967296 * pw k := by simp [pw, Nat.pow_succ, Nat.mul_comm]
theorem pw_pos (k : Nat) : 0 < pw k := Nat.pow_pos (by decide)
theorem pw_add (j k : Nat) : pw (j + k) = pw j * pw k := by simp [pw, Nat.pow_add]
theorem pw_le {j k : Nat} (h : j ≤ k) : pw j ≤ pw k := Nat.pow_le_pow_right (by decide) h
theorem pw_lt {j k : Nat} (h : j < k) : pw j < pw k := Nat.pow_lt_pow_right (by decide) h

theorem dig_zero : dig 0 = [] := by rw [dig]; simp
theorem dig_pos {n : Nat} (h : n ≠ 0) : dig n = n % 4294967296 :: dig (n / 4294967296) := by rw [dig, dif_neg h]
theorem lv_dig (n : Nat) : lv (dig n) = n := by
  induction n using Nat.strongRecOn with
  | ind n ih =>
    by_cases h : n = 0
    · subst h; simp [dig_zero, lv]
    · rw [dig_pos h]
      have := ih (n / 4294967296) (by omega)
      simp only [lv, this]
      omega
theorem dig_cl (n : Nat) : Cl (dig n) := by
  induction n using Nat.strongRecOn with
  | ind n ih =>
    by_cases h : n = 0
    · subst h; simp [dig_zero, Cl]
    · rw [dig_pos h]
      intro x hx
      rcases List.mem_cons.1 hx with rfl | hx
      · omega
      · exact ih _ (by omega) x hx
theorem dig_nil {n : Nat} : dig n = [] ↔ n = 0 := by
  constructor
  · intro h
    by_cases h0 : n = 0
    · exact h0
    · rw [dig_pos h0] at h; cases h
  · rintro rfl; exact dig_zero
theorem dig_inj {m n : Nat} (h : dig m = dig n) : m = n := by rw [← lv_dig m, ← lv_dig n, h]

theorem lv_lt (l : List Nat) : lv l < pw l.length := by
  induction l with
  | nil => simp [lv, pw]
  | cons x r ih =>
    simp only [lv, List.length_cons, pw_succ]
    have : x % 4294967296 < 4294967296 := Nat.mod_lt _ (by decide)
    omega
theorem lv_append (a b : List Nat) : lv (a ++ b) = lv a + pw a.length * lv b := by
  induction a with
  | nil => simp [lv, pw]
  | cons x r ih =>
    simp only [List.cons_append, lv, ih, List.length_cons, pw_succ]
    rw [Nat.mul_add, ← Nat.mul_assoc]
    omega
theorem lv_zeros (k : Nat) : lv (List.replicate k 0) = 0 := by
  induction k with
  | zero => rfl
  | succ k ih => simp only [List.replicate_succ, lv, ih]
theorem dig_len_le {n k : Nat} : (dig n).length ≤ k ↔ n < pw k := by
  induction k generalizing n with
  | zero => simp [pw, dig_nil]
  | succ k ih =>
    by_cases h : n = 0
    · subst h; simp [dig_zero, pw_pos]
    · rw [dig_pos h, List.length_cons, pw_succ, Nat.add_le_add_iff_right, ih]
      omega
theorem dig_len_pos {n : Nat} : 0 < (dig n).length ↔ 0 < n := by
  rw [List.length_pos_iff, ne_eq, dig_nil]; omega
theorem dig_len_mono {m n : Nat} (h : m ≤ n) : (dig m).length ≤ (dig n).length :=
  dig_len_le.2 (Nat.lt_of_le_of_lt h (dig_len_le.1 (Nat.le_refl _)))
/-- At least a power of the base. -/
theorem dig_ge {n : Nat} (h : 0 < n) : pw ((dig n).length - 1) ≤ n := by
  have h1 := dig_len_pos.2 h
  rcases Nat.lt_or_ge n (pw ((dig n).length - 1)) with h2 | h2
  · have := dig_len_le.2 h2; omega
  · exact h2
theorem dig_lt (n : Nat) : n < pw (dig n).length := dig_len_le.1 (Nat.le_refl _)
theorem dig_len_eq {n k : Nat} (h1 : pw k ≤ n) (h2 : n < pw (k + 1)) : (dig n).length = k + 1 := by
  have := dig_len_le.2 h2
  rcases Nat.lt_or_ge (dig n).length (k + 1) with h | h
  · have := dig_len_le.1 (show (dig n).length ≤ k by omega); omega
  · omega

theorem Cl.cons {x : Nat} {r : List Nat} : Cl (x :: r) ↔ x < 4294967296 ∧ Cl r := by simp [Cl]
theorem Cl.nil : Cl [] := by simp [Cl]
theorem Cl.append {a b : List Nat} : Cl (a ++ b) ↔ Cl a ∧ Cl b := by
  simp only [Cl, List.mem_append]
  exact ⟨fun h => ⟨fun x hx => h x (.inl hx), fun x hx => h x (.inr hx)⟩, fun h x hx => hx.elim (h.1 x) (h.2 x)⟩
theorem Cl.take {a : List Nat} (h : Cl a) (n : Nat) : Cl (a.take n) := fun x hx => h x (List.mem_of_mem_take hx)
theorem Cl.drop {a : List Nat} (h : Cl a) (n : Nat) : Cl (a.drop n) := fun x hx => h x (List.mem_of_mem_drop hx)
theorem Cl.zeros (k : Nat) : Cl (List.replicate k 0) := fun x hx => by rw [List.mem_replicate] at hx; omega

/-- A limb; beyond the last 0. -/
def lb (l : List Nat) (i : Nat) : Nat := l.getD i 0
theorem lb_lt {l : List Nat} (h : Cl l) (i : Nat) : lb l i < 4294967296 := by
  unfold lb
  rw [List.getD_eq_getElem?_getD]
  cases hi : l[i]? with
  | none => simp
  | some x => simpa using h x (List.mem_of_getElem? hi)
theorem lb_out {l : List Nat} {i : Nat} (h : l.length ≤ i) : lb l i = 0 := by simp [lb, h]
theorem lb_in {l : List Nat} {i : Nat} (h : i < l.length) : l[i]? = some (lb l i) := by simp [lb, h]
theorem lb_getElem {l : List Nat} {i : Nat} (h : i < l.length) : l[i] = lb l i := by simp [lb, h]
theorem lb_cons_zero (x : Nat) (r : List Nat) : lb (x :: r) 0 = x := rfl
theorem lb_cons_succ (x : Nat) (r : List Nat) (i : Nat) : lb (x :: r) (i + 1) = lb r i := rfl
theorem lb_append_left {a b : List Nat} {i : Nat} (h : i < a.length) : lb (a ++ b) i = lb a i := by simp [lb, List.getElem?_append, h]
theorem lb_append_right {a b : List Nat} {i : Nat} (h : a.length ≤ i) : lb (a ++ b) i = lb b (i - a.length) := by
  simp [lb, List.getElem?_append, Nat.not_lt.2 h]

/-- What the first limbs say. -/
theorem lv_take_succ {l : List Nat} (h : Cl l) (i : Nat) : lv (l.take (i + 1)) = lv (l.take i) + pw i * lb l i := by
  induction l generalizing i with
  | nil => simp [lv, lb]
  | cons x r ih =>
    obtain ⟨h1, h2⟩ := Cl.cons.1 h
    cases i with
    | zero => simp [lv, pw, lb, Nat.mod_eq_of_lt h1]
    | succ i =>
      simp only [List.take_succ_cons, lv, ih h2 i, lb_cons_succ, pw_succ]
      rw [Nat.mul_add, ← Nat.mul_assoc]; omega
theorem lv_cut (l : List Nat) (i : Nat) (h : i ≤ l.length) : lv l = lv (l.take i) + pw i * lv (l.drop i) := by
  conv => lhs; rw [← List.take_append_drop i l, lv_append]
  rw [List.length_take, Nat.min_eq_left h]
theorem lv_drop {l : List Nat} (h : Cl l) {i : Nat} (hi : i < l.length) : lv (l.drop i) = lb l i + 4294967296 * lv (l.drop (i + 1)) := by
  rw [List.drop_eq_getElem_cons hi]
  simp only [lv, lb_getElem hi]
  have := lb_lt h i
  omega
theorem lv_pos_of_last {l : List Nat} (h : Cl l) (h0 : l ≠ []) (hl : lb l (l.length - 1) ≠ 0) : pw (l.length - 1) ≤ lv l := by
  have hp : 0 < l.length := List.length_pos_iff.2 h0
  rw [lv_cut l (l.length - 1) (by omega), lv_drop h (by omega)]
  have : 1 ≤ lb l (l.length - 1) := by omega
  calc pw (l.length - 1) = pw (l.length - 1) * 1 := by omega
    _ ≤ pw (l.length - 1) * (lb l (l.length - 1) + 4294967296 * lv (l.drop (l.length - 1 + 1))) := Nat.mul_le_mul_left _ (by omega)
    _ ≤ _ := Nat.le_add_left _ _
theorem Cl.ext {a b : List Nat} (ha : Cl a) (hb : Cl b) (hl : a.length = b.length) (hv : lv a = lv b) : a = b := by
  induction a generalizing b with
  | nil => cases b with
    | nil => rfl
    | cons y s => simp at hl
  | cons x r ih => cases b with
    | nil => simp at hl
    | cons y s =>
      obtain ⟨h1, h2⟩ := Cl.cons.1 ha
      obtain ⟨h3, h4⟩ := Cl.cons.1 hb
      simp only [lv] at hv
      simp only [List.length_cons] at hl
      have := ih h2 h4 (by omega) (by omega)
      have hxy : x = y := by omega
      rw [this, hxy]
/-- Limbs whose last is not 0 are the limbs of what they say. -/
theorem dig_lv {l : List Nat} (h : Cl l) (hl : l = [] ∨ lb l (l.length - 1) ≠ 0) : dig (lv l) = l := by
  rcases hl with rfl | hl
  · simp [lv, dig_zero]
  · by_cases h0 : l = []
    · subst h0; simp [lv, dig_zero]
    · have hp : 0 < l.length := List.length_pos_iff.2 h0
      have h1 := lv_pos_of_last h h0 hl
      have h2 := lv_lt l
      have := dig_len_eq (k := l.length - 1) h1 (by rw [show l.length - 1 + 1 = l.length by omega]; exact h2)
      exact Cl.ext (dig_cl _) h (by omega) (lv_dig _)
theorem dig_last {n : Nat} (h : 0 < n) : lb (dig n) ((dig n).length - 1) ≠ 0 := by
  intro h0
  have hp := dig_len_pos.2 h
  have h1 := lv_cut (dig n) ((dig n).length - 1) (by omega)
  rw [lv_drop (dig_cl n) (by omega), h0, show (dig n).length - 1 + 1 = (dig n).length by omega, List.drop_length, lv_dig] at h1
  have h2 := lv_lt ((dig n).take ((dig n).length - 1))
  rw [List.length_take, Nat.min_eq_left (by omega)] at h2
  have h3 := dig_ge h
  simp only [lv, Nat.mul_zero, Nat.add_zero] at h1
  omega
/-- Without limbs 0 from above. -/
theorem dig_take {l : List Nat} (h : Cl l) {n : Nat} (hn : n ≤ l.length) (h0 : lv (l.drop n) = 0) (hl : n = 0 ∨ lb l (n - 1) ≠ 0) : dig (lv l) = l.take n := by
  rw [lv_cut l n hn, h0, Nat.mul_zero, Nat.add_zero]
  apply dig_lv (h.take n)
  rcases hl with rfl | hl
  · left; simp
  · by_cases hz : n = 0
    · left; subst hz; simp
    · right
      have : (l.take n).length = n := by rw [List.length_take]; omega
      rw [this]
      have e : lb (l.take n) (n - 1) = lb l (n - 1) := by
        simp only [lb, List.getD_eq_getElem?_getD, List.getElem?_take]
        rw [if_pos (by omega)]
      rw [e]; exact hl
theorem lv_map_mod (l : List Nat) : lv (l.map (· % 4294967296)) = lv l := by
  induction l with
  | nil => rfl
  | cons x r ih => simp only [List.map_cons, lv, ih]; omega
theorem cl_map_mod (l : List Nat) : Cl (l.map (· % 4294967296)) := by
  intro x hx
  obtain ⟨y, _, rfl⟩ := List.mem_map.1 hx
  omega
theorem lv_set {l : List Nat} (h : Cl l) {i x : Nat} (hi : i < l.length) (hx : x < 4294967296) : lv (l.set i x) + pw i * lb l i = lv l + pw i * x := by
  induction l generalizing i with
  | nil => simp at hi
  | cons y r ih =>
    obtain ⟨h1, h2⟩ := Cl.cons.1 h
    cases i with
    | zero => simp only [List.set_cons_zero, lv, lb_cons_zero, pw_zero]; omega
    | succ i =>
      have := ih h2 (i := i) (by simpa using hi)
      simp only [List.set_cons_succ, lv, lb_cons_succ, pw_succ]
      have e : ∀ z, 4294967296 * pw i * z = 4294967296 * (pw i * z) := fun z => Nat.mul_assoc ..
      rw [e, e]
      omega
theorem Cl.set {l : List Nat} (h : Cl l) (i : Nat) {x : Nat} (hx : x < 4294967296) : Cl (l.set i x) := fun y hy => by
  rcases List.mem_or_eq_of_mem_set hy with h1 | rfl
  · exact h y h1
  · exact hx
theorem lb_set_eq {l : List Nat} {i x : Nat} (h : i < l.length) : lb (l.set i x) i = x := by simp [lb, h]
theorem lb_set_ne {l : List Nat} {i j x : Nat} (h : i ≠ j) : lb (l.set i x) j = lb l j := by simp [lb, List.getElem?_set_ne h]
theorem Cl.one {x : Nat} (h : x < 4294967296) : Cl [x] := by simpa [Cl] using h
theorem lv_one {x : Nat} (h : x < 4294967296) : lv [x] = x := by simp [lv, Nat.mod_eq_of_lt h]
theorem lv_nil : lv [] = 0 := rfl
theorem lv_cons {x : Nat} (h : x < 4294967296) (r : List Nat) : lv (x :: r) = x + 4294967296 * lv r := by simp [lv, Nat.mod_eq_of_lt h]
theorem lv_take_set {l : List Nat} (h : Cl l) {i x : Nat} (hi : i < l.length) (hx : x < 4294967296) : lv ((l.set i x).take (i + 1)) = lv (l.take i) + pw i * x := by
  rw [lv_take_succ (h.set i hx), lb_set_eq hi]
  congr 2
  rw [List.take_set, List.set_eq_of_length_le (by rw [List.length_take]; omega)]
theorem lv_take_all {l : List Nat} {n : Nat} (h : l.length ≤ n) : lv (l.take n) = lv l := by rw [List.take_of_length_le h]
theorem pw_split (i s : Nat) : pw i * (s % 4294967296) + pw (i + 1) * (s / 4294967296) = pw i * s := by
  rw [pw_succ, Nat.mul_comm 4294967296 (pw i), Nat.mul_assoc, ← Nat.mul_add]
  congr 1
  omega
theorem drop_set {l : List Nat} {i x : Nat} (h : i < l.length) : (l.set i x).drop i = x :: l.drop (i + 1) := by
  rw [List.drop_eq_getElem_cons (by simpa using h), List.drop_set, if_pos (by omega)]
  simp
/-- What a shorter list's number says of its length. -/
theorem dig_le_len {m n : Nat} (h : m ≤ n) : (dig m).length ≤ (dig n).length := dig_len_mono h
theorem dig_small {n k : Nat} (h : n < pw k) : (dig n).length ≤ k := dig_len_le.2 h
theorem lv_take_lt {l : List Nat} {k : Nat} (hk : k ≤ l.length) (h : lv l < pw k) : lv (l.take k) = lv l := by
  have e := lv_cut l k hk
  rcases Nat.eq_zero_or_pos (lv (l.drop k)) with h0 | h0
  · rw [h0, Nat.mul_zero, Nat.add_zero] at e; exact e.symm
  · exfalso
    have := Nat.le_mul_of_pos_right (pw k) h0
    omega
theorem mul_le_pw {n m s k : Nat} (h : n ≤ m) (hm : m < pw k) (hs : 2 ^ s ≤ 4294967296) : n * 2 ^ s ≤ pw (k + 1) := by
  rw [pw_succ, Nat.mul_comm 4294967296]
  exact Nat.mul_le_mul (Nat.le_of_lt (Nat.lt_of_le_of_lt h hm)) hs
end Go.Proofs.R

/- Limbs in symbolic runs; loops by what stays true. -/
namespace Go.Proofs.R
open Go
set_option linter.unusedSimpArgs false

/-- A number of 64 bits without a sign, as data. -/
def u (x : Nat) : D := .int .u64 (x : Int)
/-- Limbs as data. -/
def us (l : List Nat) : List D := l.map u
@[simp] theorem u_lit (n : Nat) : D.int .u64 (no_index (OfNat.ofNat n : Int)) = u (OfNat.ofNat n) := rfl
@[simp] theorem u_cast (n : Nat) : D.int .u64 (n : Int) = u n := rfl
theorem u_inj {a b : Nat} : u a = u b ↔ a = b := by simp only [u, D.int.injEq, true_and]; omega
@[simp] theorem us_nil : us [] = [] := rfl
@[simp] theorem us_len (l : List Nat) : (us l).length = l.length := by simp [us]
@[simp] theorem us_take (l : List Nat) (n : Nat) : (us l).take n = us (l.take n) := by simp [us, List.map_take]
@[simp] theorem us_drop (l : List Nat) (n : Nat) : (us l).drop n = us (l.drop n) := by simp [us, List.map_drop]
@[simp] theorem us_set (l : List Nat) (i x : Nat) : (us l).set i (u x) = us (l.set i x) := by simp [us, List.map_set]
@[simp] theorem us_app (a b : List Nat) : us a ++ us b = us (a ++ b) := by simp [us]
@[simp] theorem us_app1 (a : List Nat) (x : Nat) : us a ++ [u x] = us (a ++ [x]) := by simp [us]
theorem us_one (x : Nat) : [u x] = us [x] := rfl
theorem us_cons (x : Nat) (l : List Nat) : us (x :: l) = u x :: us l := rfl
@[simp] theorem us_zeros (n : Nat) : (List.replicate n [u 0]).flatten = us (List.replicate n 0) := by
  induction n with
  | zero => rfl
  | succ n ih => rw [List.replicate_succ, List.flatten_cons, ih, List.replicate_succ, us_cons]; rfl
theorem us_get {l : List Nat} {i : Nat} (h : i < l.length) : (us l)[i]? = some (u (lb l i)) := by
  simp only [us, List.getElem?_map, lb_in h, Option.map_some]
theorem us_inj {a b : List Nat} : us a = us b ↔ a = b := by
  constructor
  · intro h
    induction a generalizing b with
    | nil => cases b with
      | nil => rfl
      | cons y s => simp [us] at h
    | cons x r ih => cases b with
      | nil => simp [us] at h
      | cons y s =>
        simp only [us_cons, List.cons.injEq] at h
        rw [u_inj.1 h.1, ih h.2]
  · rintro rfl; rfl

theorem wrap_u {x : Int} {n : Nat} (h : x % 18446744073709551616 = (n : Int)) : IntKind.u64.wrap x = (n : Int) := by rw [IntKind.wrap_u64, h]
section
variable {a b : Nat}
theorem u_add (h : a + b < 18446744073709551616) : vBin .add (some (.d (u a))) (some (.d (u b))) = some (.d (u (a + b))) := by
  simp only [u, vBin_add]; rw [wrap_u (n := a + b)]; omega
theorem u_sub (h : b ≤ a) (h' : a < 18446744073709551616) : vBin .sub (some (.d (u a))) (some (.d (u b))) = some (.d (u (a - b))) := by
  simp only [u, vBin_sub]; rw [wrap_u (n := a - b)]; omega
theorem u_mul (h : a * b < 18446744073709551616) : vBin .mul (some (.d (u a))) (some (.d (u b))) = some (.d (u (a * b))) := by
  simp only [u, vBin_mul]
  rw [wrap_u (n := a * b)]
  rw [← Int.natCast_mul]
  omega
theorem u_quo (h : 0 < b) (h' : a < 18446744073709551616) : vBin .quo (some (.d (u a))) (some (.d (u b))) = some (.d (u (a / b))) := by
  simp only [u, vBin_quo]
  have : ((a : Int).tdiv b) = ((a / b : Nat) : Int) := rfl
  have h1 : a / b ≤ a := Nat.div_le_self a b
  rw [if_neg (by omega), this]
  generalize a / b = q at h1 ⊢
  rw [wrap_u (n := q)]
  omega
theorem u_rem (h : 0 < b) : vBin .rem (some (.d (u a))) (some (.d (u b))) = some (.d (u (a % b))) := by
  simp only [u, vBin_rem]
  rw [if_neg (by omega)]
  rfl
@[simp] theorem u_lss : vBin .lss (some (.d (u a))) (some (.d (u b))) = some (.d (.bool (decide (a < b)))) := by
  simp only [u, vBin_lss, Int.ofNat_lt]
@[simp] theorem u_leq : vBin .leq (some (.d (u a))) (some (.d (u b))) = some (.d (.bool (decide (a ≤ b)))) := by
  simp only [u, vBin_leq, Int.ofNat_le]
@[simp] theorem u_gtr : vBin .gtr (some (.d (u a))) (some (.d (u b))) = some (.d (.bool (decide (b < a)))) := by
  simp only [u, vBin_gtr, Int.ofNat_lt]
@[simp] theorem u_geq : vBin .geq (some (.d (u a))) (some (.d (u b))) = some (.d (.bool (decide (b ≤ a)))) := by
  simp only [u, vBin_geq, Int.ofNat_le]
@[simp] theorem u_eql : vBin .eql (some (.d (u a))) (some (.d (u b))) = some (.d (.bool (decide (a = b)))) := by
  simp only [u, vBin_eql, Int.ofNat_inj]
@[simp] theorem u_neq : vBin .neq (some (.d (u a))) (some (.d (u b))) = some (.d (.bool (!decide (a = b)))) := by
  simp only [u, vBin_neq, Int.ofNat_inj]
theorem bits_and (h : a < 18446744073709551616) (h' : b < 18446744073709551616) : bitsD .and .u64 a b = ((a &&& b : Nat) : Int) := by
  have e : ∀ x : Nat, x < 18446744073709551616 → (BitVec.ofInt 64 (x : Int)).toNat = x := fun x hx => by
    simp [BitVec.toNat_ofInt]; omega
  show IntKind.u64.wrap (((BitVec.ofInt 64 (a : Int) &&& BitVec.ofInt 64 (b : Int)).toNat : Nat) : Int) = _
  rw [BitVec.toNat_and, e a h, e b h']
  apply wrap_u
  have : a &&& b ≤ a := Nat.and_le_left
  omega
theorem bits_or (h : a < 18446744073709551616) (h' : b < 18446744073709551616) : bitsD .or .u64 a b = ((a ||| b : Nat) : Int) := by
  have e : ∀ x : Nat, x < 18446744073709551616 → (BitVec.ofInt 64 (x : Int)).toNat = x := fun x hx => by
    simp [BitVec.toNat_ofInt]; omega
  show IntKind.u64.wrap (((BitVec.ofInt 64 (a : Int) ||| BitVec.ofInt 64 (b : Int)).toNat : Nat) : Int) = _
  rw [BitVec.toNat_or, e a h, e b h']
  apply wrap_u
  have : a ||| b < 2 ^ 64 := Nat.or_lt_two_pow h h'
  omega
/-- The lowest 32 bits. -/
theorem u_low (h : a < 18446744073709551616) : vBin .and (some (.d (u a))) (some (.d (u 4294967295))) = some (.d (u (a % 4294967296))) := by
  have := bits_and h (show 4294967295 < 18446744073709551616 by decide)
  simp only [u, vBin_and, this]
  rw [show (4294967295 : Nat) = 2 ^ 32 - 1 from rfl, Nat.and_two_pow_sub_one_eq_mod]
/-- The lowest bit. -/
theorem u_and1 (h : a < 18446744073709551616) : vBin .and (some (.d (u a))) (some (.d (u 1))) = some (.d (u (a % 2))) := by
  have := bits_and h (show 1 < 18446744073709551616 by decide)
  simp only [u, vBin_and, this]
  rw [show (1 : Nat) = 2 ^ 1 - 1 from rfl, Nat.and_two_pow_sub_one_eq_mod]
/-- A number above 32 bits. -/
theorem u_or (h : b < 4294967296) (h' : a < 4294967296) : vBin .or (some (.d (u (a * 4294967296)))) (some (.d (u b))) = some (.d (u (a * 4294967296 + b))) := by
  have := bits_or (a := a * 4294967296) (b := b) (by omega) (by omega)
  simp only [u, vBin_or, this]
  rw [Nat.mul_comm, show (4294967296 : Nat) = 2 ^ 32 from rfl, ← Nat.two_pow_add_eq_or_of_lt h]
theorem u_or_dis {s : Nat} (h : b < 2 ^ s) (h' : 2 ^ s * a + b < 18446744073709551616) : vBin .or (some (.d (u (2 ^ s * a)))) (some (.d (u b))) = some (.d (u (2 ^ s * a + b))) := by
  have := bits_or (a := 2 ^ s * a) (b := b) (by omega) (by omega)
  simp only [u, vBin_or, this]
  rw [← Nat.two_pow_add_eq_or_of_lt h]
theorem u_shl {k : IntKind} {n : Int} (h0 : 0 ≤ n) (h1 : n ≤ 64) (h : a * 2 ^ n.toNat < 18446744073709551616) : vBin .shl (some (.d (u a))) (some (.d (.int k n))) = some (.d (u (a * 2 ^ n.toNat))) := by
  simp only [u, vBin_shl]
  rw [if_neg (by omega)]
  have : min n.toNat IntKind.u64.bits = n.toNat := by
    have : IntKind.u64.bits = 64 := rfl
    omega
  rw [this]
  have e : (a : Int) * 2 ^ n.toNat = ((a * 2 ^ n.toNat : Nat) : Int) := by simp
  rw [e, wrap_u (n := a * 2 ^ n.toNat)]
  omega
theorem u_shl32 {k : IntKind} (h : a < 4294967296) : vBin .shl (some (.d (u a))) (some (.d (.int k 32))) = some (.d (u (a * 4294967296))) := by
  rw [u_shl (by decide) (by decide) (by rw [show (32 : Int).toNat = 32 from rfl]; omega)]
  rfl
theorem u_shr {k : IntKind} {n : Int} (h0 : 0 ≤ n) (h1 : n ≤ 64) : vBin .shr (some (.d (u a))) (some (.d (.int k n))) = some (.d (u (a / 2 ^ n.toNat))) := by
  simp only [u, vBin_shr]
  rw [if_neg (by omega)]
  have : min n.toNat IntKind.u64.bits = n.toNat := by
    have : IntKind.u64.bits = 64 := rfl
    omega
  rw [this]
  have e : (2 : Int) ^ n.toNat = ((2 ^ n.toNat : Nat) : Int) := by simp
  rw [e]
  have : (a : Int).fdiv ((2 ^ n.toNat : Nat) : Int) = ((a / 2 ^ n.toNat : Nat) : Int) := by
    rw [Int.fdiv_eq_ediv_of_nonneg _ (Int.natCast_nonneg _)]; rfl
  rw [this]
theorem u_shr32 {k : IntKind} : vBin .shr (some (.d (u a))) (some (.d (.int k 32))) = some (.d (u (a / 4294967296))) := by
  rw [u_shr (by decide) (by decide)]; rfl
theorem u_conv64 {k : IntKind} {n : Int} (h : 0 ≤ n) (h' : n < 18446744073709551616) : vConv .u64 (some (.d (.int k n))) = some (.d (u n.toNat)) := by
  simp only [vConv_s]
  rw [wrap_u (n := n.toNat) (by omega)]; rfl
theorem u_convI (h : a < 9223372036854775808) : vConv .i64 (some (.d (u a))) = some (.d (.int .i64 (a : Int))) := by
  simp only [u, vConv_s]
  rw [i64_wrap (by omega) (by omega)]
end
section
variable {a b : Int}
theorem i_add (h : -9223372036854775808 ≤ a + b) (h' : a + b ≤ 9223372036854775807) : vBin .add (some (.d (.int .i64 a))) (some (.d (.int .i64 b))) = some (.d (.int .i64 (a + b))) := by
  rw [vBin_add, i64_wrap h h']
theorem i_sub (h : -9223372036854775808 ≤ a - b) (h' : a - b ≤ 9223372036854775807) : vBin .sub (some (.d (.int .i64 a))) (some (.d (.int .i64 b))) = some (.d (.int .i64 (a - b))) := by
  rw [vBin_sub, i64_wrap h h']
theorem i_mul (h : -9223372036854775808 ≤ a * b) (h' : a * b ≤ 9223372036854775807) : vBin .mul (some (.d (.int .i64 a))) (some (.d (.int .i64 b))) = some (.d (.int .i64 (a * b))) := by
  rw [vBin_mul, i64_wrap h h']
end
section
variable {a b : Nat}
theorem ofInt63 {x : Nat} (hx : x < 9223372036854775808) : (BitVec.ofInt 64 (x : Int)).toNat = x := by
  simp [BitVec.toNat_ofInt]; omega
theorem i_and (h : a < 9223372036854775808) (h' : b < 9223372036854775808) : vBin .and (some (.d (.int .i64 (a : Int)))) (some (.d (.int .i64 (b : Int)))) = some (.d (.int .i64 ((a &&& b : Nat) : Int))) := by
  have e : bitsD .and .i64 (a : Int) (b : Int) = IntKind.i64.wrap (((BitVec.ofInt 64 (a : Int) &&& BitVec.ofInt 64 (b : Int)).toNat : Nat) : Int) := rfl
  rw [vBin_and, e, BitVec.toNat_and, ofInt63 h, ofInt63 h', i64_wrap]
  · have : a &&& b ≤ a := Nat.and_le_left
    omega
  · have : a &&& b ≤ a := Nat.and_le_left
    omega
theorem i_or (h : a < 9223372036854775808) (h' : b < 9223372036854775808) : vBin .or (some (.d (.int .i64 (a : Int)))) (some (.d (.int .i64 (b : Int)))) = some (.d (.int .i64 ((a ||| b : Nat) : Int))) := by
  have : a ||| b < 2 ^ 63 := Nat.or_lt_two_pow h h'
  have e : bitsD .or .i64 (a : Int) (b : Int) = IntKind.i64.wrap (((BitVec.ofInt 64 (a : Int) ||| BitVec.ofInt 64 (b : Int)).toNat : Nat) : Int) := rfl
  rw [vBin_or, e, BitVec.toNat_or, ofInt63 h, ofInt63 h', i64_wrap] <;> omega
theorem i_xor (h : a < 9223372036854775808) (h' : b < 9223372036854775808) : vBin .xor (some (.d (.int .i64 (a : Int)))) (some (.d (.int .i64 (b : Int)))) = some (.d (.int .i64 ((a ^^^ b : Nat) : Int))) := by
  have : a ^^^ b < 2 ^ 63 := Nat.xor_lt_two_pow h h'
  have e : bitsD .xor .i64 (a : Int) (b : Int) = IntKind.i64.wrap (((BitVec.ofInt 64 (a : Int) ^^^ BitVec.ofInt 64 (b : Int)).toNat : Nat) : Int) := rfl
  rw [vBin_xor, e, BitVec.toNat_xor, ofInt63 h, ofInt63 h', i64_wrap] <;> omega
theorem i_and1 (h : a < 9223372036854775808) : vBin .and (some (.d (.int .i64 (a : Int)))) (some (.d (.int .i64 1))) = some (.d (.int .i64 ((a % 2 : Nat) : Int))) := by
  have := i_and h (show 1 < 9223372036854775808 by decide)
  rw [show (1 : Nat) = 2 ^ 1 - 1 from rfl, Nat.and_two_pow_sub_one_eq_mod] at this
  exact this
theorem i_shr {k : IntKind} {n : Nat} (h1 : n ≤ 64) : vBin .shr (some (.d (.int .i64 (a : Int)))) (some (.d (.int k (n : Int)))) = some (.d (.int .i64 ((a / 2 ^ n : Nat) : Int))) := by
  simp only [vBin_shr]
  rw [if_neg (by omega)]
  have : min (n : Int).toNat IntKind.i64.bits = n := by
    have : IntKind.i64.bits = 64 := rfl
    omega
  rw [this]
  have e : (2 : Int) ^ n = ((2 ^ n : Nat) : Int) := by simp
  rw [e, Int.fdiv_eq_ediv_of_nonneg _ (Int.natCast_nonneg _)]; rfl
theorem i_shl1 {k : IntKind} {n : Nat} (h1 : n ≤ 62) : vBin .shl (some (.d (.int .i64 1))) (some (.d (.int k (n : Int)))) = some (.d (.int .i64 ((2 ^ n : Nat) : Int))) := by
  simp only [vBin_shl]
  rw [if_neg (by omega)]
  have : min (n : Int).toNat IntKind.i64.bits = n := by
    have : IntKind.i64.bits = 64 := rfl
    omega
  rw [this]
  have e : (1 : Int) * 2 ^ n = ((2 ^ n : Nat) : Int) := by simp
  have : 2 ^ n ≤ 2 ^ 62 := Nat.pow_le_pow_right (by decide) h1
  rw [e]
  generalize 2 ^ n = q at this ⊢
  rw [i64_wrap] <;> omega
end
theorem iA_d {k k' : Nat} {l : List D} {kk : IntKind} {i : Int} (h : 0 ≤ i) (h1 : k' = k) (h2 : (i.toNat + 1) * k ≤ l.length) : vIA k (some (.d (.sl k' l))) (some (.d (.int kk i))) = some (.cp l (i.toNat * k)) := by
  rw [vIA_d, if_pos ⟨h, h1, h2⟩]
theorem iA_o {k k' b off n : Nat} {kk : IntKind} {i : Int} (h : 0 ≤ i) (h1 : k' = k) (h2 : i.toNat < n) : vIA k (some (.own b k' off n)) (some (.d (.int kk i))) = some (.ptr b (off + i.toNat * k)) := by
  rw [vIA_o, if_pos ⟨h, h1, h2⟩]

/-! Slices of slices; calls that hand blocks over. -/
section
variable {g : Task → Option Out} {r : List I} {d : Nat} {e : Env} {μ : Mem}
/-- A bound that may be left out. -/
def oE (e : Env) : Option X → Option (Option V)
  | none => none
  | some x => some (x.ev e)
@[simp] theorem oE_none : oE e none = none := rfl
@[simp] theorem oE_some {x : X} : oE e (some x) = some (x.ev e) := rfl
def bd (n : Nat) : Option (Option V) → Option Int
  | none => some (n : Int)
  | some (some (.d (.int _ i))) => some i
  | _ => none
@[simp] theorem bd_none {n : Nat} : bd n none = some (n : Int) := rfl
@[simp] theorem bd_some {n : Nat} {k : IntKind} {i : Int} : bd n (some (some (.d (.int k i)))) = some i := rfl
def vS (k : Nat) : Option V → Option (Option V) → Option (Option V) → Option V
  | some (.d (.sl k' l)), lo, hi => vSd k k' l (bd 0 lo) (bd (l.length / k) hi)
  | some (.own b k' off n), lo, hi => vSo k b k' off n (bd 0 lo) (bd n hi)
  | _, _, _ => none
where
  vSd (k k' : Nat) (l : List D) : Option Int → Option Int → Option V
    | some lo, some hi => if k' = k ∧ 0 ≤ lo ∧ lo ≤ hi ∧ hi.toNat * k ≤ l.length then some (.d (.sl k ((l.drop (lo.toNat * k)).take ((hi.toNat - lo.toNat) * k)))) else none
    | _, _ => none
  vSo (k b k' off n : Nat) : Option Int → Option Int → Option V
    | some lo, some hi => if k' = k ∧ 0 ≤ lo ∧ lo ≤ hi ∧ hi.toNat ≤ n then some (.own b k (off + lo.toNat * k) (hi.toNat - lo.toNat)) else none
    | _, _ => none
theorem evO_bd {n : Nat} {x : Option X} : evO e n x = (bd n (oE e x)).bind fun i => if 0 ≤ i then some i.toNat else none := by
  cases x with
  | none => simp [evO, bd, oE]
  | some x =>
    simp only [evO, oE]
    cases x.ev e with
    | none => rfl
    | some v => cases v with
      | d z => cases z <;> rfl
      | _ => rfl
@[simp] theorem T_slc {k : Nat} {x : X} {lo hi : Option X} : exIs g (.a d (.slc k x lo hi) :: r) e μ = kPut g r d e μ (vS k (x.ev e) (oE e lo) (oE e hi)) := by
  rw [T_slc0]
  congr 1
  simp only [val]
  cases x.ev e with
  | none => rfl
  | some v => cases v with
    | d z => cases z with
      | sl k' l =>
        simp only [Option.bind_some, vS, evO_bd]
        cases bd 0 (oE e lo) with
        | none => cases bd (l.length / k) (oE e hi) <;> simp [vS.vSd]
        | some a => cases bd (l.length / k) (oE e hi) with
          | none => simp [vS.vSd]
          | some b =>
            simp only [vS.vSd, Option.bind_some]
            by_cases hk : k' = k
            · by_cases ha : 0 ≤ a
              · by_cases hb : 0 ≤ b
                · simp only [hk, ha, hb, if_true, true_and, Option.bind_some]
                  by_cases hc : a ≤ b ∧ b.toNat * k ≤ l.length
                  · rw [if_pos hc, if_pos ⟨by omega, hc.2⟩]
                  · rw [if_neg hc, if_neg (fun h => hc ⟨by omega, h.2⟩)]
                · simp only [hk, ha, hb, if_true, if_false, true_and, Option.bind_none]
                  rw [if_neg (fun h => hb (by omega))]
              · simp only [hk, ha, if_true, if_false, false_and, and_false, Option.bind_none]
                cases (if 0 ≤ b then some b.toNat else none : Option Nat) <;> rfl
            · simp only [hk, if_false, false_and]
      | _ => rfl
    | own b0 k' off n =>
      simp only [Option.bind_some, vS, evO_bd]
      cases bd 0 (oE e lo) with
      | none => cases bd n (oE e hi) <;> simp [vS.vSo]
      | some a => cases bd n (oE e hi) with
        | none => simp [vS.vSo]
        | some b =>
          simp only [vS.vSo, Option.bind_some]
          by_cases hk : k' = k
          · by_cases ha : 0 ≤ a
            · by_cases hb : 0 ≤ b
              · simp only [hk, ha, hb, if_true, true_and, Option.bind_some]
                by_cases hc : a ≤ b ∧ b.toNat ≤ n
                · rw [if_pos hc, if_pos ⟨by omega, hc.2⟩]
                · rw [if_neg hc, if_neg (fun h => hc ⟨by omega, h.2⟩)]
              · simp only [hk, ha, hb, if_true, if_false, true_and, Option.bind_none]
                rw [if_neg (fun h => hb (by omega))]
            · simp only [hk, ha, if_true, if_false, false_and, and_false, Option.bind_none]
              cases (if 0 ≤ b then some b.toNat else none : Option Nat) <;> rfl
          · simp only [hk, if_false, false_and]
    | _ => rfl
@[simp] theorem vS_d {k k' : Nat} {l : List D} {lo hi : Option (Option V)} : vS k (some (.d (.sl k' l))) lo hi = vS.vSd k k' l (bd 0 lo) (bd (l.length / k) hi) := rfl
@[simp] theorem vS_o {k b k' off n : Nat} {lo hi : Option (Option V)} : vS k (some (.own b k' off n)) lo hi = vS.vSo k b k' off n (bd 0 lo) (bd n hi) := rfl
theorem vSd_s {k : Nat} {l : List D} {lo hi : Int} (h1 : 0 ≤ lo) (h2 : lo ≤ hi) (h3 : hi.toNat * k ≤ l.length) : vS.vSd k k l (some lo) (some hi) = some (.d (.sl k ((l.drop (lo.toNat * k)).take ((hi.toNat - lo.toNat) * k)))) := by
  simp only [vS.vSd]; rw [if_pos ⟨trivial, h1, h2, h3⟩]
theorem vSo_s {k b off n : Nat} {lo hi : Int} (h1 : 0 ≤ lo) (h2 : lo ≤ hi) (h3 : hi.toNat ≤ n) : vS.vSo k b k off n (some lo) (some hi) = some (.own b k (off + lo.toNat * k) (hi.toNat - lo.toNat)) := by
  simp only [vS.vSo]; rw [if_pos ⟨trivial, h1, h2, h3⟩]
end

/-! Rows of limbs, in blocks and as data. -/
section
variable {g : Task → Option Out} {r : List I} {d : Nat} {e : Env} {μ : Mem}
def vMn : Option V → Option V → Option V
  | some (.d (.int k a)), some (.d (.int _ b)) => some (.d (.int k (if b < a then b else a)))
  | _, _ => none
def vMx : Option V → Option V → Option V
  | some (.d (.int k a)), some (.d (.int _ b)) => some (.d (.int k (if a < b then b else a)))
  | _, _ => none
@[simp] theorem T_mn {x y : X} : exIs g (.a d (.mn x y) :: r) e μ = kPut g r d e μ (vMn (x.ev e) (y.ev e)) := by
  rw [I_quiet rfl]; simp only [val]
  cases x.ev e with
  | none => rfl
  | some u => cases y.ev e with
    | none => cases u with
      | d z => cases z <;> rfl
      | _ => rfl
    | some v => cases u with
      | d z => cases z with
        | int k a => cases v with
          | d z => cases z <;> rfl
          | _ => rfl
        | _ => rfl
      | _ => rfl
@[simp] theorem T_mx {x y : X} : exIs g (.a d (.mx x y) :: r) e μ = kPut g r d e μ (vMx (x.ev e) (y.ev e)) := by
  rw [I_quiet rfl]; simp only [val]
  cases x.ev e with
  | none => rfl
  | some u => cases y.ev e with
    | none => cases u with
      | d z => cases z <;> rfl
      | _ => rfl
    | some v => cases u with
      | d z => cases z with
        | int k a => cases v with
          | d z => cases z <;> rfl
          | _ => rfl
        | _ => rfl
      | _ => rfl
@[simp] theorem vMn_s {k k' : IntKind} {a b : Int} : vMn (some (.d (.int k a))) (some (.d (.int k' b))) = some (.d (.int k (if b < a then b else a))) := rfl
@[simp] theorem vMx_s {k k' : IntKind} {a b : Int} : vMx (some (.d (.int k a))) (some (.d (.int k' b))) = some (.d (.int k (if a < b then b else a))) := rfl
def vLns : Option V → Option V
  | some (.d (.str s)) => some (.d (.int .i64 (s.size : Int)))
  | _ => none
@[simp] theorem T_lns {x : X} : exIs g (.a d (.lns x) :: r) e μ = kPut g r d e μ (vLns (x.ev e)) := by
  rw [I_quiet rfl]; simp only [val]
  cases x.ev e with
  | none => rfl
  | some v => cases v with
    | d z => cases z <;> rfl
    | _ => rfl
@[simp] theorem vLns_s {s : ByteArray} : vLns (some (.d (.str s))) = some (.d (.int .i64 (s.size : Int))) := rfl
def vSI : Option V → Option V → Option V
  | some (.d (.str s)), some (.d (.int _ i)) => if 0 ≤ i then s[i.toNat]?.map fun b => .d (.int .u8 b.toNat) else none
  | _, _ => none
@[simp] theorem T_sI {x i : X} : exIs g (.a d (.sI x i) :: r) e μ = kPut g r d e μ (vSI (x.ev e) (i.ev e)) := by
  rw [I_quiet rfl]; simp only [val]
  cases x.ev e with
  | none => rfl
  | some v => cases i.ev e with
    | none => cases v with
      | d z => cases z <;> rfl
      | _ => rfl
    | some w => cases w with
      | d z => cases z with
        | int k n =>
          simp only [Option.bind_some, natOf]
          by_cases h : 0 ≤ n
          · simp only [h, if_true, Option.bind_some]
            cases v with
            | d z => cases z with
              | str s => simp only [vSI, h, if_true]; cases s[n.toNat]? <;> rfl
              | _ => rfl
            | _ => rfl
          · simp only [h, if_false, Option.bind_none]
            cases v with
            | d z => cases z with
              | str s => simp only [vSI, h, if_false]; rfl
              | _ => rfl
            | _ => rfl
        | _ => cases v with
          | d z => cases z <;> rfl
          | _ => rfl
      | _ => cases v with
        | d z => cases z <;> rfl
        | _ => rfl
@[simp] theorem vSI_s {s : ByteArray} {k : IntKind} {i : Int} : vSI (some (.d (.str s))) (some (.d (.int k i))) = if 0 ≤ i then s[i.toNat]?.map fun b => .d (.int .u8 b.toNat) else none := rfl
/-- A call that hands blocks over. -/
def kCk (g : Task → Option Out) (r : List I) (d : Nat) (e : Env) (μ : Mem) (f : Nat) (io : List (Nat × Nat)) (na : Nat) : Option (List V × Mem) → Option (Env × Mem)
  | some (vs, ν) => if distinct (io.map (·.2)) && decide (na < 1099511627775) then kN (kCk1 g r d e μ io (g (.call f vs ν))) (aget μ 1099511627775) else none
  | none => none
where
  kCk1 (g : Task → Option Out) (r : List I) (d : Nat) (e : Env) (μ : Mem) (io : List (Nat × Nat)) : Option Out → Option (Env × Mem)
    | some (.ret v ν) => kN (kCk2 g r d e io ν v (backK ν io μ)) (aget ν 1099511627775)
    | _ => none
  kCk2 (g : Task → Option Out) (r : List I) (d : Nat) (e : Env) (io : List (Nat × Nat)) (ν : Mem) (v : V) : Option Mem → Option (Env × Mem)
    | some μ => kCk3 g r d e (resKK io ν d μ v)
    | none => none
  kCk3 (g : Task → Option Out) (r : List I) (d : Nat) (e : Env) : Option (V × Mem) → Option (Env × Mem)
    | some (v, μ) => exIs g r (aput d v e) μ
    | none => none
@[simp] theorem T_callk {f : Nat} {args : List (Bool × X)} : exIs g (.a d (.callk f args) :: r) e μ = kCk g r d e μ f (ioK e 0 args) args.length (argsK e μ 0 args) := by
  simp only [exIs, exI, exO]
  cases argsK e μ 0 args with
  | none => rfl
  | some p =>
    obtain ⟨vs, ν⟩ := p
    simp only [Option.bind_some, kCk]
    cases aget μ 1099511627775 with
    | some B => simp [kN]
    | none =>
      simp only [Option.isNone_none, Bool.and_true, kN_n]
      split
      · cases g (.call f vs ν) with
        | none => rfl
        | some o => cases o with
          | st x e μ => rfl
          | ret v ν' =>
            simp only [Option.bind_some, kCk.kCk1]
            cases aget ν' 1099511627775 with
            | some B => rfl
            | none =>
              simp only [Option.isNone_none, if_true, kN_n]
              cases backK ν' (ioK e 0 args) μ with
              | none => rfl
              | some μ' =>
                simp only [Option.bind_some, kCk.kCk2]
                cases resKK (ioK e 0 args) ν' d μ' v with
                | none => rfl
                | some q => rfl
      · rfl
@[simp] theorem kCk_s {f na : Nat} {io : List (Nat × Nat)} {vs : List V} {ν : Mem} : kCk g r d e μ f io na (some (vs, ν)) = if distinct (io.map (·.2)) && decide (na < 1099511627775) then kN (kCk.kCk1 g r d e μ io (g (.call f vs ν))) (aget μ 1099511627775) else none := rfl
@[simp] theorem kCk1_s {io : List (Nat × Nat)} {v : V} {ν : Mem} : kCk.kCk1 g r d e μ io (some (.ret v ν)) = kN (kCk.kCk2 g r d e io ν v (backK ν io μ)) (aget ν 1099511627775) := rfl
/-- A call that the heap goes with. -/
def kCh (g : Task → Option Out) (r : List I) (d : Nat) (e : Env) (μ : Mem) (f : Nat) (io : List (Nat × Nat)) (na : Nat) : Option (List V × Mem) → Option (Env × Mem)
  | some (vs, ν) => if distinct (io.map (·.2)) && io.all (fun p => decide (p.2 < 1099511627775)) && decide (na < 1099511627775) && decide (d < 1099511000000) then kCh1 g r d e μ io (g (.call f vs (ν ++ hpart μ))) else none
  | none => none
where
  kCh1 (g : Task → Option Out) (r : List I) (d : Nat) (e : Env) (μ : Mem) (io : List (Nat × Nat)) : Option Out → Option (Env × Mem)
    | some (.ret v ν) => kCh2 g r d e io ν v (backK ν io μ)
    | _ => none
  kCh2 (g : Task → Option Out) (r : List I) (d : Nat) (e : Env) (io : List (Nat × Nat)) (ν : Mem) (v : V) : Option Mem → Option (Env × Mem)
    | some μ => kCk.kCk3 g r d e (resKK io ν d (npart μ ++ hpart ν) v)
    | none => none
@[simp] theorem T_callh {f : Nat} {args : List (Bool × X)} : exIs g (.a d (.callh f args) :: r) e μ = kCh g r d e μ f (ioK e 0 args) args.length (argsK e μ 0 args) := by
  simp only [exIs, exI, exO]
  cases argsK e μ 0 args with
  | none => rfl
  | some p =>
    obtain ⟨vs, ν⟩ := p
    simp only [Option.bind_some, kCh]
    split
    · cases g (.call f vs (ν ++ hpart μ)) with
      | none => rfl
      | some o => cases o with
        | st x e μ => rfl
        | ret v ν' =>
          simp only [Option.bind_some, kCh.kCh1]
          cases backK ν' (ioK e 0 args) μ with
          | none => rfl
          | some μ' =>
            simp only [Option.bind_some, kCh.kCh2]
            cases resKK (ioK e 0 args) ν' d (npart μ' ++ hpart ν') v with
            | none => rfl
            | some q => rfl
    · rfl
@[simp] theorem kCh_s {f na : Nat} {io : List (Nat × Nat)} {vs : List V} {ν : Mem} : kCh g r d e μ f io na (some (vs, ν)) = if distinct (io.map (·.2)) && io.all (fun p => decide (p.2 < 1099511627775)) && decide (na < 1099511627775) && decide (d < 1099511000000) then kCh.kCh1 g r d e μ io (g (.call f vs (ν ++ hpart μ))) else none := rfl
@[simp] theorem kCh1_s {io : List (Nat × Nat)} {v : V} {ν : Mem} : kCh.kCh1 g r d e μ io (some (.ret v ν)) = kCh.kCh2 g r d e io ν v (backK ν io μ) := rfl
@[simp] theorem kCh2_s {io : List (Nat × Nat)} {v : V} {ν : Mem} : kCh.kCh2 g r d e io ν v (some μ) = kCk.kCk3 g r d e (resKK io ν d (npart μ ++ hpart ν) v) := rfl
@[simp] theorem kCk2_s {io : List (Nat × Nat)} {v : V} {ν : Mem} : kCk.kCk2 g r d e io ν v (some μ) = kCk.kCk3 g r d e (resKK io ν d μ v) := rfl
@[simp] theorem kCk3_s {v : V} : kCk.kCk3 g r d e (some (v, μ)) = exIs g r (aput d v e) μ := rfl
attribute [simp] ioK argsK V.blk? V.re distinct backK resKK resKs resK
attribute [simp high] i_add i_sub i_mul u_low u_and1 u_shl32 u_shr32
attribute [simp] u_add u_sub u_mul u_quo u_rem u_or u_convI lb_cons_zero
attribute [simp high] u_conv64
theorem u_eq (x : Nat) : u x = .int .u64 (x : Int) := rfl
@[simp] theorem u_cells (x : Nat) : (u x).cells = [u x] := rfl
@[simp] theorem cells_ag (l : List D) : (D.ag l).cells = l := rfl
@[simp] theorem cells_bool (b : Bool) : (D.bool b).cells = [.bool b] := rfl
@[simp] theorem cells_int (k : IntKind) (n : Int) : (D.int k n).cells = [.int k n] := rfl
@[simp] theorem cells_sl (k : Nat) (l : List D) : (D.sl k l).cells = [.sl k l] := rfl
@[simp] theorem cells_str (s : ByteArray) : (D.str s).cells = [.str s] := rfl
@[simp] theorem cells_raw (v : Value) : (D.raw v).cells = [.raw v] := rfl
@[simp high] theorem iA_us {l : List Nat} {kk : IntKind} {i : Int} (h : 0 ≤ i) (h1 : i.toNat < l.length) : vIA 1 (some (.d (.sl 1 (us l)))) (some (.d (.int kk i))) = some (.cp (us l) i.toNat) := by
  rw [vIA_d, if_pos ⟨h, rfl, by simp; omega⟩, Nat.mul_one]
@[simp high] theorem iA_own {b off n : Nat} {kk : IntKind} {i : Int} (h : 0 ≤ i) (h1 : i.toNat < n) : vIA 1 (some (.own b 1 off n)) (some (.d (.int kk i))) = some (.ptr b (off + i.toNat)) := by
  rw [vIA_o, if_pos ⟨h, rfl, h1⟩, Nat.mul_one]
@[simp high] theorem ld_us {o : Nat} {p : Nat} {f : Bool} {l : List Nat} (h : o < l.length) : vLd.vLdB 1 false o (some ⟨p, f, us l⟩) = some (.d (u (lb l o))) := by
  simp only [vLd_b, view_f, us_get h, Option.map_some]
@[simp high] theorem ldc_us {i : Nat} {l : List Nat} (h : i < l.length) : vLd 1 false μ (some (.cp (us l) i)) = some (.d (u (lb l i))) := by
  simp only [vLd_c, view_f, us_get h, Option.map_some]
@[simp high] theorem st_us {b o x p : Nat} {f : Bool} {l : List Nat} (h : o < l.length) (h' : p ≤ o) : kSt.kStB g r e μ 1 b o (u x) (some ⟨p, f, us l⟩) = exIs g r e (aput b ⟨p, f, us (l.set o x)⟩ μ) := by
  rw [kStB_s, if_pos ⟨rfl, by simp; omega, h'⟩]
  simp
@[simp high] theorem gv_us {b m p : Nat} {f : Bool} {l : List Nat} {rr : List Nat} (h : m ≤ l.length) : kGv.kGvB e rr μ b m (some ⟨p, f, us l⟩) = give e rr (aput b ⟨max p m, f, us l⟩ μ) := by
  rw [kGvB_s, if_pos (by simpa using h)]
@[simp 10010] theorem dOwn_all {n p : Nat} {f : Bool} {l : List Nat} (h : n = l.length) (h' : n ≤ p) : dOwn 1 0 n (some ⟨p, f, us l⟩) = some (.sl 1 (us l)) := by
  subst h
  rw [dOwn_s, if_pos ⟨by simp, by simpa using h'⟩]
  simp
@[simp 10010] theorem aOwn_all {n p : Nat} {f : Bool} {l : List Nat} (h : n = l.length) : aOwn 1 0 n (some ⟨p, f, us l⟩) = some (.sl 1 (us l)) := by
  subst h
  rw [aOwn_s, if_pos (by simp)]
  simp
@[simp high] theorem mk_us {bytes : Nat} {k1 k2 : IntKind} {l c : Int} (h0 : 0 ≤ l) (h1 : l ≤ c) (h2 : bytes * c.toNat ≤ 281474976710656) (h3 : c < 9223372036854775808) : kMk g r d e μ 1 bytes [u 0] (some (.d (.int k1 l))) (some (.d (.int k2 c))) none = exIs g r (aput d (.own d 1 0 l.toNat) e) (aput d ⟨0, false, us (List.replicate l.toNat 0)⟩ μ) := by
  rw [kMk_n, if_pos ⟨h0, h1, h2, h3⟩, us_zeros]
@[simp high] theorem slc_us {l : List Nat} {lo hi : Int} (h1 : 0 ≤ lo) (h2 : lo ≤ hi) (h3 : hi.toNat ≤ l.length) : vS.vSd 1 1 (us l) (some lo) (some hi) = some (.d (.sl 1 (us ((l.drop lo.toNat).take (hi.toNat - lo.toNat))))) := by
  rw [vSd_s h1 h2 (by simp; omega)]
  simp
@[simp high] theorem slc_own {b off n : Nat} {lo hi : Int} (h1 : 0 ≤ lo) (h2 : lo ≤ hi) (h3 : hi.toNat ≤ n) : vS.vSo 1 b 1 off n (some lo) (some hi) = some (.own b 1 (off + lo.toNat) (hi.toNat - lo.toNat)) := by
  rw [vSo_s h1 h2 h3, Nat.mul_one]
@[simp] theorem vLn_us {l : List Nat} : vLn (some (.d (.sl 1 (us l)))) = some (.d (.int .i64 (l.length : Int))) := by simp
@[simp] theorem toNat_add1 (a : Nat) : ((a : Int) + 1).toNat = a + 1 := by omega
@[simp] theorem toNat_add2 (a b : Nat) : ((a : Int) + (b : Int)).toNat = a + b := by omega
@[simp] theorem toNat_add3 (a b c : Nat) : ((a : Int) + (b : Int) + (c : Int)).toNat = a + b + c := by omega
@[simp] theorem toNat_add4 (a b : Nat) : ((a : Int) + (b : Int) + 1).toNat = a + b + 1 := by omega
@[simp] theorem toNat_sub1 (a : Nat) : ((a : Int) - 1).toNat = a - 1 := by omega
@[simp] theorem toNat_sub2 (a b : Nat) : ((a : Int) - (b : Int)).toNat = a - b := by omega
@[simp high] theorem mx_nat {a b : Nat} : vMx (some (.d (.int .i64 (a : Int)))) (some (.d (.int .i64 (b : Int)))) = some (.d (.int .i64 ((max a b : Nat) : Int))) := by
  simp only [vMx_s]
  congr 3
  split <;> omega
@[simp high] theorem mn_nat {a b : Nat} : vMn (some (.d (.int .i64 (a : Int)))) (some (.d (.int .i64 (b : Int)))) = some (.d (.int .i64 ((min a b : Nat) : Int))) := by
  simp only [vMn_s]
  congr 3
  split <;> omega
@[simp high] theorem u_shr32u {a : Nat} : vBin .shr (some (.d (u a))) (some (.d (u 32))) = some (.d (u (a / 4294967296))) := u_shr32 (k := .u64)
@[simp high] theorem u_shl32u {a : Nat} (h : a < 4294967296) : vBin .shl (some (.d (u a))) (some (.d (u 32))) = some (.d (u (a * 4294967296))) := u_shl32 (k := .u64) h
theorem u_shru {a n : Nat} (h : n ≤ 64) : vBin .shr (some (.d (u a))) (some (.d (u n))) = some (.d (u (a / 2 ^ n))) := u_shr (k := .u64) (n := (n : Int)) (by omega) (by omega)
@[simp] theorem resV_0 : resV [] = .tp [] := rfl
/-- Numbers of 32 and of 8 bits without a sign, as data. -/
def w32 (x : Nat) : D := .int .u32 (x : Int)
def w8 (x : Nat) : D := .int .u8 (x : Int)
@[simp] theorem w32_lit (n : Nat) : D.int .u32 (no_index (OfNat.ofNat n : Int)) = w32 (OfNat.ofNat n) := rfl
@[simp] theorem conv32 {a : Nat} (h : a < 4294967296) : vConv .u32 (some (.d (u a))) = some (.d (w32 a)) := by
  simp only [u, vConv_s, w32]
  rw [IntKind.wrap_u32']
  congr 3
  omega
@[simp] theorem w32_geq {a b : Nat} : vBin .geq (some (.d (w32 a))) (some (.d (w32 b))) = some (.d (.bool (decide (b ≤ a)))) := by
  simp only [w32, vBin_geq, Int.ofNat_le]
@[simp] theorem w32_shr {a n : Nat} (h : n ≤ 32) : vBin .shr (some (.d (w32 a))) (some (.d (u n))) = some (.d (w32 (a / 2 ^ n))) := by
  simp only [u, w32, vBin_shr]
  rw [if_neg (by omega)]
  have : min ((n : Int)).toNat IntKind.u32.bits = n := by
    have : IntKind.u32.bits = 32 := rfl
    omega
  rw [this]
  have e : (2 : Int) ^ n = ((2 ^ n : Nat) : Int) := by simp
  rw [e, Int.fdiv_eq_ediv_of_nonneg _ (Int.natCast_nonneg _)]; rfl
@[simp] theorem conv8 {a : Nat} (h : a < 256) : vConv .u8 (some (.d (w32 a))) = some (.d (w8 a)) := by
  simp only [w32, w8, vConv_s]
  congr 3
  simp only [IntKind.wrap, IntKind.bits, IntKind.signed]
  simp
  omega
@[simp] theorem conv8u {a : Nat} (h : a < 256) : vConv .u8 (some (.d (u a))) = some (.d (w8 a)) := by
  simp only [u, w8, vConv_s]
  congr 3
  simp only [IntKind.wrap, IntKind.bits, IntKind.signed]
  simp
  omega
@[simp] theorem conv8I {a : Nat} (h : a < 256) : vConv .i64 (some (.d (w8 a))) = some (.d (.int .i64 (a : Int))) := by
  simp only [w8, vConv_s]
  rw [i64_wrap (by omega) (by omega)]
@[simp] theorem sI_w8 {s : ByteArray} {i : Nat} : vSI (some (.d (.str s))) (some (.d (w8 i))) = s[i]?.map fun b => .d (w8 b.toNat) := by
  simp only [w8, vSI_s, Int.toNat_natCast]
  rw [if_pos (by omega)]
@[simp] theorem w8_cells (x : Nat) : (w8 x).cells = [w8 x] := rfl
@[simp] theorem w32_cells (x : Nat) : (w32 x).cells = [w32 x] := rfl
@[simp] theorem toNat_sublit (a n : Nat) : ((a : Int) - (no_index (OfNat.ofNat n : Int))).toNat = a - OfNat.ofNat n := by
  show ((a : Int) - ((n : Nat) : Int)).toNat = a - n
  omega
@[simp] theorem toNat_addlit (a n : Nat) : ((a : Int) + (no_index (OfNat.ofNat n : Int))).toNat = a + OfNat.ofNat n := by
  show ((a : Int) + ((n : Nat) : Int)).toNat = a + n
  omega
@[simp high] theorem aOwn_take {n p : Nat} {f : Bool} {l : List Nat} (h : n ≤ l.length) : aOwn 1 0 n (some ⟨p, f, us l⟩) = some (.sl 1 (us (l.take n))) := by
  rw [aOwn_s, if_pos (by simpa using h)]
  simp
@[simp high] theorem dOwn_take {n p : Nat} {f : Bool} {l : List Nat} (h : n ≤ l.length) (h' : n ≤ p) : dOwn 1 0 n (some ⟨p, f, us l⟩) = some (.sl 1 (us (l.take n))) := by
  rw [dOwn_s, if_pos ⟨by simpa using h, by simpa using h'⟩]
  simp
@[simp high] theorem app_us2 {b n p x y : Nat} {l : List Nat} (h : n ≤ l.length) (hp : p ≤ n) (hs : n ≤ 4398046511104) : kApp.kAppB g r d e μ 1 8 b 1 0 n 1 [u x, u y] (some ⟨p, false, us l⟩) = exIs g r (aput d (.own b 1 0 (n + 2)) (drop b e)) (aput b ⟨p, false, us (l.take n ++ [x, y])⟩ μ) := by
  rw [kAppB_s, if_pos ⟨rfl, rfl, .inl rfl, by simpa using h, by simpa using hp, rfl, by simp; omega⟩]
  have e1 : [u x, u y] = us [x, y] := rfl
  rw [e1]
  simp
@[simp high] theorem vExt_0 {a : V} {l : List V} : vExt 0 (some (.tp (a :: l))) = some a := rfl
@[simp high] theorem vExt_1 {a b : V} {l : List V} : vExt 1 (some (.tp (a :: b :: l))) = some b := rfl
@[simp high] theorem vExt_2 {a b c : V} {l : List V} : vExt 2 (some (.tp (a :: b :: c :: l))) = some c := rfl
@[simp high] theorem vExt_3 {a b c d : V} {l : List V} : vExt 3 (some (.tp (a :: b :: c :: d :: l))) = some d := rfl
@[simp] theorem resD_own {ν : Mem} {b k off n : Nat} : resD ν (.own b k off n) = (aOwn k off n (aget ν b)).map .d := by
  simp only [resD, asD_o]
@[simp high] theorem get0 {α : Type} {a : α} {l : List α} : (a :: l)[0]? = some a := rfl
@[simp high] theorem get1 {α : Type} {a b : α} {l : List α} : (a :: b :: l)[1]? = some b := rfl
@[simp high] theorem get2 {α : Type} {a b c : α} {l : List α} : (a :: b :: c :: l)[2]? = some c := rfl
@[simp high] theorem get3 {α : Type} {a b c d : α} {l : List α} : (a :: b :: c :: d :: l)[3]? = some d := rfl
end
end Go.Proofs.R

/- Loops by what stays true. -/
namespace Go.Proofs.R
open Go
section
variable {ip : Ip} {nv : Nv} {b : C} {Post : Ex → Env → Mem → Prop}
/-- A loop whose measure falls. -/
theorem loop_m (I : Nat → Env → Mem → Prop)
    (step : ∀ k e μ, I k e μ → (∃ e' μ', EX ip nv (.code b e μ) = some (.st .normal e' μ') ∧ ∃ k', k' < k ∧ I k' e' μ') ∨ (∃ x e' μ', EX ip nv (.code b e μ) = some (.st x e' μ') ∧ x ≠ .normal ∧ Post x e' μ')) :
    ∀ k e μ, I k e μ → ∃ x e' μ', EX ip nv (.code (.loop [] [] b) e μ) = some (.st x e' μ') ∧ x ≠ .normal ∧ Post x e' μ' := by
  intro k
  induction k using Nat.strongRecOn with
  | ind k ih =>
    intro e μ h
    rcases step k e μ h with ⟨e', μ', h1, k', hk, h2⟩ | ⟨x, e', μ', h1, h2, h3⟩
    · obtain ⟨x, e'', μ'', h3, h4⟩ := ih k' hk e' μ' h2
      refine ⟨x, e'', μ'', ?_, h4⟩
      rw [R_loop]
      simp only [killT_nil, killB, h1]
      exact h3
    · refine ⟨x, e', μ', ?_, h2, h3⟩
      rw [R_loop]
      simp only [killT_nil, killB, h1]
      cases x with
      | normal => exact absurd rfl h2
      | _ => rfl
/-- A loop that counts up. -/
theorem loop_n (n : Nat) (I : Nat → Env → Mem → Prop)
    (step : ∀ i e μ, i < n → I i e μ → (∃ e' μ', EX ip nv (.code b e μ) = some (.st .normal e' μ') ∧ I (i + 1) e' μ') ∨ (∃ x e' μ', EX ip nv (.code b e μ) = some (.st x e' μ') ∧ x ≠ .normal ∧ Post x e' μ'))
    (last : ∀ e μ, I n e μ → ∃ x e' μ', EX ip nv (.code b e μ) = some (.st x e' μ') ∧ x ≠ .normal ∧ Post x e' μ') {e : Env} {μ : Mem} (h0 : I 0 e μ) :
    ∃ x e' μ', EX ip nv (.code (.loop [] [] b) e μ) = some (.st x e' μ') ∧ x ≠ .normal ∧ Post x e' μ' := by
  refine loop_m (fun k e μ => ∃ i, i + k = n ∧ I i e μ) (fun k e μ ⟨i, hi, h⟩ => ?_) n e μ ⟨0, by omega, h0⟩
  by_cases hk : k = 0
  · subst hk
    obtain rfl : i = n := by omega
    exact .inr (last e μ h)
  · rcases step i e μ (by omega) h with ⟨e', μ', h1, h2⟩ | h
    · exact .inl ⟨e', μ', h1, k - 1, by omega, i + 1, by omega, h2⟩
    · exact .inr h
/-- A loop whose measure falls, with temporaries that are forgotten ahead of each round. -/
theorem loop_mk {kl : List Nat} (I : Nat → Env → Mem → Prop)
    (step : ∀ k e μ, I k e μ → (∃ e' μ', EX ip nv (.code b e μ) = some (.st .normal e' μ') ∧ ∃ k', k' < k ∧ I k' (killT kl e') μ') ∨ (∃ x e' μ', EX ip nv (.code b e μ) = some (.st x e' μ') ∧ x ≠ .normal ∧ Post x e' μ')) :
    ∀ k e μ, I k (killT kl e) μ → ∃ x e' μ', EX ip nv (.code (.loop kl [] b) e μ) = some (.st x e' μ') ∧ x ≠ .normal ∧ Post x e' μ' := by
  intro k
  induction k using Nat.strongRecOn with
  | ind k ih =>
    intro e μ h
    rcases step k _ μ h with ⟨e', μ', h1, k', hk, h2⟩ | ⟨x, e', μ', h1, h2, h3⟩
    · obtain ⟨x, e'', μ'', h3, h4⟩ := ih k' hk e' μ' h2
      refine ⟨x, e'', μ'', ?_, h4⟩
      rw [R_loop]
      simp only [killB, h1]
      exact h3
    · refine ⟨x, e', μ', ?_, h2, h3⟩
      rw [R_loop]
      simp only [killB, h1]
      cases x with
      | normal => exact absurd rfl h2
      | _ => rfl
end
end Go.Proofs.R

/- Knuth's guess: numbers alone. -/
namespace Go.Proofs.R
section
variable {P B v1 v2 vr u2 two ur V W q g r : Nat}
theorem kn_a (hV : V = vr + P * (v2 + B * v1)) (hW : W = ur + P * (u2 + B * two)) (hur : ur < P) (hu2 : u2 < B) (h : q * V ≤ W) : q * v1 ≤ two := by
  rcases Nat.lt_or_ge two (q * v1) with hc | hc
  · exfalso
    have h1 : P * B * (two + 1) ≤ P * B * (q * v1) := Nat.mul_le_mul_left _ hc
    have h2 : P * (u2 + 1) ≤ P * B := Nat.mul_le_mul_left _ hu2
    have h3 : q * V = q * vr + q * (P * v2) + P * B * (q * v1) := by rw [hV]; grind
    have h4 : W = ur + P * u2 + P * B * two := by rw [hW]; grind
    have h5 : P * B * (two + 1) = P * B * two + P * B := by grind
    have h6 : P * (u2 + 1) = P * u2 + P := by grind
    omega
  · exact hc
/-- Where the test says that the guess is too great, it is. -/
theorem kn_c (hV : V = vr + P * (v2 + B * v1)) (hW : W = ur + P * (u2 + B * two)) (hur : ur < P) (hg : g * v1 + r = two) (h : r * B + u2 < g * v2) : W < g * V := by
  have h1 : P * (r * B + u2 + 1) ≤ P * (g * v2) := Nat.mul_le_mul_left _ h
  have h2 : g * V = g * vr + P * (g * v2) + P * B * (g * v1) := by rw [hV]; grind
  have h3 : W = ur + P * u2 + P * B * (g * v1) + P * (r * B) := by rw [hW, ← hg]; grind
  have h4 : P * (r * B + u2 + 1) = P * (r * B) + P * u2 + P := by grind
  omega
/-- Where the rest is great the guess is small. -/
theorem kn_b (hV : V = vr + P * (v2 + B * v1)) (hW : W = ur + P * (u2 + B * two)) (hvr : vr < P) (hv2 : v2 < B) (hWV : W < B * V) (hg : g * v1 + r = two) (hr : B ≤ r) : g < B := by
  rcases Nat.lt_or_ge g B with hc | hc
  · exact hc
  · exfalso
    have h1 : B * v1 ≤ g * v1 := Nat.mul_le_mul_right _ hc
    have h2 : P * B * (B * v1 + B) ≤ P * B * two := Nat.mul_le_mul_left _ (by omega)
    have h3 : P * (v2 + 1) ≤ P * B := Nat.mul_le_mul_left _ hv2
    have h4 : B * (vr + P * v2) ≤ B * (P * B) := Nat.mul_le_mul_left _ (by have : P * (v2 + 1) = P * v2 + P := by grind
                                                                           omega)
    have h5 : B * V = B * (vr + P * v2) + P * B * (B * v1) := by rw [hV]; grind
    have h6 : W = ur + P * u2 + P * B * two := by rw [hW]; grind
    have h7 : P * B * (B * v1 + B) = P * B * (B * v1) + B * (P * B) := by grind
    omega
/-- Behind the test the guess is too great by one at most. -/
theorem kn_d (hV : V = vr + P * (v2 + B * v1)) (hW : W = ur + P * (u2 + B * two)) (hvr : vr < P) (hv1 : 0 < v1) (hg : g * v1 + r = two) (hgB : g < B) (h : g * v2 ≤ r * B + u2) : g * V < W + V := by
  have h1 : P * (g * v2) ≤ P * (r * B + u2) := Nat.mul_le_mul_left _ h
  have h2 : g * V = g * vr + P * (g * v2) + P * B * (g * v1) := by rw [hV]; grind
  have h3 : W = ur + P * u2 + P * B * (g * v1) + P * (r * B) := by rw [hW, ← hg]; grind
  have h4 : P * (r * B + u2) = P * (r * B) + P * u2 := by grind
  have h5 : g * vr ≤ B * vr := Nat.mul_le_mul_right _ (by omega)
  have h6 : B * (vr + 1) ≤ B * P := Nat.mul_le_mul_left _ hvr
  have h7 : P * B * 1 ≤ P * B * v1 := Nat.mul_le_mul_left _ hv1
  have h8 : V = vr + P * v2 + P * B * v1 := by rw [hV]; grind
  have h9 : B * (vr + 1) = B * vr + B := by grind
  have h10 : B * P = P * B := Nat.mul_comm _ _
  omega
end
end Go.Proofs.R

/- Whole and rational numbers as the program has them. -/
namespace Go.Proofs.R
open Go
set_option linter.unusedSimpArgs false

/-- A whole number of a sign and an amount. -/
def zs (neg : Bool) (n : Nat) : Int := if neg then -(n : Int) else n
/-- A whole number's cells. -/
def zI (z : Int) : List D := [.bool (decide (z < 0)), .sl 1 (us (dig z.natAbs))]
theorem zs_abs (neg : Bool) (n : Nat) : (zs neg n).natAbs = n := by cases neg <;> simp [zs]
theorem zs_neg (neg : Bool) (n : Nat) : decide (zs neg n < 0) = (neg && decide (0 < n)) := by
  cases neg <;> simp [zs]
theorem zs_can (z : Int) : zs (decide (z < 0)) z.natAbs = z := by
  by_cases h : z < 0 <;> simp [zs, h] <;> omega

/-- A rational number as it lies in memory. -/
structure RQ where
  neg : Bool
  num : List Nat
  den : List Nat
def RQ.c (r : RQ) : List D := [.bool r.neg, .sl 1 (us r.num), .sl 1 (us r.den)]
/-- Its limbs are of 64 bits, and so many at most. -/
structure RQ.ok (r : RQ) (k : Nat) : Prop where
  n : ∀ x ∈ r.num, x < 18446744073709551616
  d : ∀ x ∈ r.den, x < 18446744073709551616
  ln : r.num.length ≤ k
  ld : r.den.length ≤ k
/-- Its value; of a divisor 0: 0. -/
def RQ.v (r : RQ) : Rat := if lv r.den = 0 then 0 else mkRat (zs r.neg (lv r.num)) (lv r.den)
/-- A number in its form. -/
def can (q : Rat) : RQ := ⟨decide (q.num < 0), dig q.num.natAbs, dig q.den⟩
/-- A number's parts have so many limbs at most. -/
structure Bq (k : Nat) (q : Rat) : Prop where
  n : q.num.natAbs < pw k
  d : q.den < pw k

@[simp] theorem can_v (q : Rat) : (can q).v = q := by
  simp only [RQ.v, can, lv_dig, zs_can]
  rw [if_neg q.den_nz, Rat.mkRat_self]
theorem can_ok {q : Rat} {k : Nat} (h : Bq k q) : (can q).ok k :=
  ⟨fun x hx => by have := dig_cl _ x hx; omega, fun x hx => by have := dig_cl _ x hx; omega, dig_len_le.2 h.n, dig_len_le.2 h.d⟩
theorem RQ.ok.mono {r : RQ} {j k : Nat} (h : r.ok j) (hk : j ≤ k) : r.ok k := ⟨h.n, h.d, Nat.le_trans h.ln hk, Nat.le_trans h.ld hk⟩
theorem Bq.mono {q : Rat} {j k : Nat} (h : Bq j q) (hk : j ≤ k) : Bq k q := ⟨Nat.lt_of_lt_of_le h.n (pw_le hk), Nat.lt_of_lt_of_le h.d (pw_le hk)⟩
@[simp] theorem RQ.c_len (r : RQ) : r.c.length = 3 := rfl

/-- A fraction in its lowest terms has no greater parts. -/
theorem mkRat_le (n : Int) (d : Nat) (hd : d ≠ 0) : (mkRat n d).num.natAbs ≤ n.natAbs ∧ (mkRat n d).den ≤ d := by
  rw [Rat.num_mkRat, Rat.den_mkRat, if_neg hd, if_neg hd]
  refine ⟨?_, Nat.div_le_self _ _⟩
  have hdv : ((d.gcd n.natAbs : Nat) : Int) ∣ n := Int.ofNat_dvd_left.2 (Nat.gcd_dvd_right _ _)
  rw [Int.natAbs_ediv_of_dvd hdv]
  exact Nat.div_le_self _ _
theorem Bq.mkR {n : Int} {d k : Nat} (hn : n.natAbs < pw k) (hd : d < pw k) (h0 : d ≠ 0) : Bq k (mkRat n d) :=
  ⟨Nat.lt_of_le_of_lt (mkRat_le n d h0).1 hn, Nat.lt_of_le_of_lt (mkRat_le n d h0).2 hd⟩
theorem Bq.zero : Bq 1 0 := ⟨by simp [pw], by simp [pw]⟩
theorem Bq.v {r : RQ} {k : Nat} (h : r.ok k) (hk : 1 ≤ k) : Bq k r.v := by
  unfold RQ.v
  split
  · exact Bq.zero.mono hk
  · rename_i h0
    exact Bq.mkR (by rw [zs_abs]; exact Nat.lt_of_lt_of_le (lv_lt _) (pw_le h.ln)) (Nat.lt_of_lt_of_le (lv_lt _) (pw_le h.ld)) h0
theorem len_mul {m n j k : Nat} (hm : (dig m).length ≤ j) (hn : (dig n).length ≤ k) : (dig (m * n)).length ≤ j + k := by
  rw [dig_len_le] at hm hn ⊢
  rw [pw_add]
  exact Nat.mul_lt_mul'' hm hn
theorem len_add {m n k : Nat} (hm : (dig m).length ≤ k) (hn : (dig n).length ≤ k) : (dig (m + n)).length ≤ k + 1 := by
  rw [dig_len_le] at hm hn ⊢
  rw [pw_succ]; omega
theorem pw_mul_lt {m n j k : Nat} (hm : m < pw j) (hn : n < pw k) : m * n < pw (j + k) := by rw [pw_add]; exact Nat.mul_lt_mul'' hm hn
theorem Bq.add {a b : Rat} {j k : Nat} (ha : Bq j a) (hb : Bq k b) : Bq (j + k + 1) (a + b) := by
  rw [Rat.add_def']
  have h1 := pw_mul_lt ha.n hb.d
  have h2 := pw_mul_lt hb.n ha.d
  have h3 := pw_mul_lt ha.d hb.d
  rw [Nat.add_comm k j] at h2
  refine Bq.mkR ?_ ?_ (Nat.mul_ne_zero a.den_nz b.den_nz)
  · refine Nat.lt_of_le_of_lt (Int.natAbs_add_le _ _) ?_
    rw [Int.natAbs_mul, Int.natAbs_mul, Int.natAbs_natCast, Int.natAbs_natCast, pw_succ]
    omega
  · rw [pw_succ]; omega
theorem Bq.mul {a b : Rat} {j k : Nat} (ha : Bq j a) (hb : Bq k b) : Bq (j + k) (a * b) := by
  rw [Rat.mul_def']
  refine Bq.mkR ?_ (pw_mul_lt ha.d hb.d) (Nat.mul_ne_zero a.den_nz b.den_nz)
  rw [Int.natAbs_mul]
  exact pw_mul_lt ha.n hb.n
theorem Bq.neg {a : Rat} {k : Nat} (h : Bq k a) : Bq k (-a) := ⟨by rw [Rat.neg_num, Int.natAbs_neg]; exact h.n, by rw [Rat.neg_den]; exact h.d⟩
theorem Bq.sub {a b : Rat} {j k : Nat} (ha : Bq j a) (hb : Bq k b) : Bq (j + k + 1) (a - b) := by
  rw [Rat.sub_eq_add_neg]; exact ha.add hb.neg
theorem Bq.inv {a : Rat} {k : Nat} (h : Bq k a) (h0 : a ≠ 0) : Bq k a⁻¹ := by
  rw [Rat.inv_def]
  have hn : a.num ≠ 0 := by rwa [ne_eq, Rat.num_eq_zero]
  cases hc : a.num with
  | ofNat m =>
    have e : Rat.divInt (a.den : Int) (Int.ofNat m) = mkRat (a.den : Int) m := rfl
    rw [e]
    have hn' := h.n
    rw [hc] at hn hn'
    exact Bq.mkR (by rw [Int.natAbs_natCast]; exact h.d) hn' (by rintro rfl; exact hn rfl)
  | negSucc m =>
    have e : Rat.divInt (a.den : Int) (Int.negSucc m) = mkRat (-(a.den : Int)) (m + 1) := Rat.normalize_eq_mkRat (Nat.succ_ne_zero m)
    rw [e]
    have hn' := h.n
    rw [hc] at hn'
    exact Bq.mkR (by rw [Int.natAbs_neg, Int.natAbs_natCast]; exact h.d) hn' (by omega)
/-- The parts of a fraction in its form. -/
theorem mkRat_parts {z : Int} {d : Nat} (hz : z ≠ 0) (hd : 0 < d) : (mkRat z d).num.natAbs = z.natAbs / Nat.gcd z.natAbs d ∧ (decide ((mkRat z d).num < 0) = decide (z < 0)) ∧ (mkRat z d).den = d / Nat.gcd z.natAbs d := by
  have hg : 0 < Nat.gcd z.natAbs d := Nat.gcd_pos_of_pos_right _ hd
  have hdv : ((Nat.gcd z.natAbs d : Nat) : Int) ∣ z := Int.ofNat_dvd_left.2 (Nat.gcd_dvd_left _ _)
  rw [Rat.num_mkRat, Rat.den_mkRat, if_neg (by omega), if_neg (by omega), Nat.gcd_comm d]
  refine ⟨Int.natAbs_ediv_of_dvd hdv, ?_, rfl⟩
  obtain ⟨c, hc⟩ := hdv
  have hgi : (0 : Int) < ((Nat.gcd z.natAbs d : Nat) : Int) := by omega
  generalize ((Nat.gcd z.natAbs d : Nat) : Int) = g at *
  have e : z / g = c := by
    rw [hc]
    exact Int.mul_ediv_cancel_left _ (by omega)
  rw [e]
  congr 1
  rw [eq_iff_iff]
  subst hc
  constructor
  · intro h; exact Int.mul_neg_of_pos_of_neg hgi h
  · intro h
    rcases Int.lt_or_le c 0 with h1 | h1
    · exact h1
    · have := Int.mul_nonneg (Int.le_of_lt hgi) h1; omega
end Go.Proofs.R
