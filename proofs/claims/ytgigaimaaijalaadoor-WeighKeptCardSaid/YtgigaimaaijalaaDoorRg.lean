/- The interpreter of the road R, part Rg: its data, its steps, and that it is right. -/
import Derived.Test.YtgigaimaaijalaaDoorRd
set_option linter.unusedVariables false
set_option linter.unusedSimpArgs false
/- The heap behind the blocks. -/
namespace Go.Proofs.R
open Go
/-- Nothing but the heap. -/
def Hp (H : Mem) : Prop := ∀ p ∈ H, 1099511627775 ≤ p.1
theorem Hp.nil : Hp [] := by intro p h; cases h
theorem Hp.aget {H : Mem} (h : Hp H) {k : Nat} (hk : k < 1099511627775) : aget H k = none := by
  cases hh : R.aget H k with
  | none => rfl
  | some v => have := h _ (aget_mem hh); simp only at this; omega
theorem Hp.aput {H : Mem} (h : Hp H) {k : Nat} (hk : k < 1099511627775) (v : Blk) : aput k v H = (k, v) :: H := by
  cases H with
  | nil => rfl
  | cons p r => have := h p (by simp); simp only [R.aput]; rw [if_pos (by omega)]
theorem Hp.adel {H : Mem} (h : Hp H) {k : Nat} (hk : k < 1099511627775) : adel k H = H := adel_none (h.aget hk)
theorem Hp.put {H : Mem} (h : Hp H) {k : Nat} (hk : 1099511627775 ≤ k) (v : Blk) : Hp (R.aput k v H) := fun p hp => by
  rcases mem_aput hp with rfl | hp
  · exact hk
  · exact h p hp
theorem Hp.del {H : Mem} (h : Hp H) {k : Nat} : Hp (R.adel k H) := fun p hp => h p (mem_adel hp)
theorem Hp.hput {H : Mem} (h : Hp H) (hc : 1099511627775 ≤ cntOf H) (B : Blk) : Hp (R.hput B H) := (h.put hc _).put (Nat.le_refl _) _
theorem Hp.hpart {H : Mem} (h : Hp H) : hpart H = H := by
  unfold R.hpart
  rw [List.filter_eq_self]
  intro p hp
  simpa using h p hp
theorem hpart_cons {k : Nat} {v : Blk} {H : Mem} (hk : k < 1099511627775) : hpart ((k, v) :: H) = hpart H := by
  unfold hpart
  rw [List.filter_cons, if_neg (by simp; omega)]
theorem Hp.npart {H : Mem} (h : Hp H) : npart H = [] := by
  unfold R.npart
  rw [List.filter_eq_nil_iff]
  intro p hp
  have := h p hp
  simp; omega
theorem npart_cons {k : Nat} {v : Blk} {H : Mem} (hk : k < 1099511627775) : npart ((k, v) :: H) = (k, v) :: npart H := by
  unfold npart
  rw [List.filter_cons, if_pos (by simp; omega)]
theorem cntOf_hput (B : Blk) (H : Mem) : cntOf (hput B H) = cntOf H + 1 := cntOf_some (aget_aput_same _ _ _)
theorem aget_hput {H : Mem} (hc : 1099511627776 ≤ cntOf H) (B : Blk) {k : Nat} (hk : 1099511627776 ≤ k) : aget (hput B H) k = if k = cntOf H then some B else aget H k := by
  unfold hput
  rw [aget_aput_ne (by omega), aget_aput]
/-- What the heap holds: how many numbers are given out, and which blocks there are. -/
structure HS (H : Mem) (n : Nat) (f : Nat → Option Blk) : Prop where
  hp : Hp H
  cnt : cntOf H = 1099511627776 + n
  at_ : ∀ i, aget H (1099511627776 + i) = f i
theorem HS.nil : HS [] 0 (fun _ => none) := ⟨Hp.nil, rfl, fun _ => rfl⟩
def fput (i : Nat) (B : Option Blk) (f : Nat → Option Blk) : Nat → Option Blk := fun j => if j = i then B else f j
theorem HS.hput {H : Mem} {n : Nat} {f : Nat → Option Blk} (h : HS H n f) (B : Blk) : HS (hput B H) (n + 1) (fput n (some B) f) := by
  refine ⟨h.hp.hput (by rw [h.cnt]; omega) B, by rw [cntOf_hput, h.cnt]; omega, fun i => ?_⟩
  rw [aget_hput (by rw [h.cnt]; omega) B (by omega), h.cnt, h.at_]
  unfold fput
  by_cases hi : i = n
  · rw [if_pos (by omega), if_pos hi]
  · rw [if_neg (by omega), if_neg hi]
theorem HS.put {H : Mem} {n : Nat} {f : Nat → Option Blk} (h : HS H n f) (i : Nat) (B : Blk) : HS (aput (1099511627776 + i) B H) n (fput i (some B) f) := by
  refine ⟨h.hp.put (by omega) B, by rw [cntOf_low (aget_aput_ne (by omega) _ _), h.cnt], fun j => ?_⟩
  rw [aget_aput, h.at_]
  unfold fput
  by_cases hi : j = i
  · rw [if_pos (by omega), if_pos hi]
  · rw [if_neg (by omega), if_neg hi]
theorem HS.del {H : Mem} {n : Nat} {f : Nat → Option Blk} (h : HS H n f) (i : Nat) : HS (adel (1099511627776 + i) H) n (fput i none f) := by
  refine ⟨h.hp.del, by rw [cntOf_low (aget_adel_ne (by omega) _), h.cnt], fun j => ?_⟩
  rw [aget_adel, h.at_]
  unfold fput
  by_cases hi : j = i
  · rw [if_pos (by omega), if_pos hi]
  · rw [if_neg (by omega), if_neg hi]
end Go.Proofs.R

/- Row reduction over the rational numbers: what stays true of a table, and what its leaders tell. -/
namespace Go.Proofs.R
set_option linter.unusedVariables false

/-! Sums. -/
def sm : Nat → (Nat → Rat) → Rat
  | 0, _ => 0
  | n + 1, f => sm n f + f n
theorem sm_congr {n : Nat} {f g : Nat → Rat} (h : ∀ i, i < n → f i = g i) : sm n f = sm n g := by
  induction n with
  | zero => rfl
  | succ n ih => simp only [sm]; rw [ih (fun i hi => h i (by omega)), h n (by omega)]
theorem sm_zero {n : Nat} {f : Nat → Rat} (h : ∀ i, i < n → f i = 0) : sm n f = 0 := by
  induction n with
  | zero => rfl
  | succ n ih => simp only [sm]; rw [ih (fun i hi => h i (by omega)), h n (by omega)]; grind
theorem sm_add (n : Nat) (f g : Nat → Rat) : sm n (fun i => f i + g i) = sm n f + sm n g := by
  induction n with
  | zero => simp only [sm]; grind
  | succ n ih => simp only [sm]; rw [ih]; grind
theorem sm_mul (n : Nat) (c : Rat) (f : Nat → Rat) : sm n (fun i => c * f i) = c * sm n f := by
  induction n with
  | zero => simp only [sm]; grind
  | succ n ih => simp only [sm]; rw [ih]; grind
theorem sm_mulr (n : Nat) (c : Rat) (f : Nat → Rat) : sm n (fun i => f i * c) = sm n f * c := by
  rw [Rat.mul_comm, ← sm_mul]; exact sm_congr fun i _ => Rat.mul_comm _ _
theorem sm_neg (n : Nat) (f : Nat → Rat) : sm n (fun i => - f i) = - sm n f := by
  have := sm_mul n (-1) f
  rw [show (fun i => -1 * f i) = fun i => - f i from funext fun i => by grind] at this
  rw [this]; grind
theorem sm_sub (n : Nat) (f g : Nat → Rat) : sm n (fun i => f i - g i) = sm n f - sm n g := by
  have := sm_add n f (fun i => - g i)
  rw [sm_neg] at this
  rw [show (fun i => f i - g i) = fun i => f i + - g i from funext fun i => by grind, this]; grind
theorem sm_one {n k : Nat} (hk : k < n) (v : Rat) : sm n (fun i => if i = k then v else 0) = v := by
  induction n with
  | zero => omega
  | succ n ih =>
    simp only [sm]
    by_cases h : k = n
    · subst h
      rw [if_pos rfl, sm_zero (fun i hi => if_neg (by omega))]; grind
    · rw [ih (by omega), if_neg (by omega)]; grind
theorem sm_pick {n k : Nat} (hk : k < n) (f : Nat → Rat) : sm n (fun i => f i * (if i = k then 1 else 0)) = f k := by
  rw [← sm_one hk (f k)]
  apply sm_congr
  intro i _
  by_cases h : i = k
  · subst h; rw [if_pos rfl, if_pos rfl]; grind
  · rw [if_neg h, if_neg h]; grind
theorem sm_comm (m n : Nat) (f : Nat → Nat → Rat) : sm m (fun i => sm n (fun j => f i j)) = sm n (fun j => sm m (fun i => f i j)) := by
  induction m with
  | zero => simp only [sm]; rw [sm_zero]; intro _ _; rfl
  | succ m ih => simp only [sm]; rw [ih, sm_add]
/-- A sum may end where nothing is behind. -/
theorem sm_cut {m n : Nat} {f : Nat → Rat} (h : m ≤ n) (hz : ∀ i, m ≤ i → i < n → f i = 0) : sm n f = sm m f := by
  induction n with
  | zero => rw [show m = 0 by omega]
  | succ n ih =>
    by_cases hm : m = n + 1
    · rw [hm]
    · simp only [sm]; rw [ih (by omega) (fun i h1 h2 => hz i h1 (by omega)), hz n (by omega) (by omega)]; grind
theorem sm_split (m n : Nat) (f : Nat → Rat) : sm (m + n) f = sm m f + sm n (fun i => f (m + i)) := by
  induction n with
  | zero => simp only [sm, Nat.add_zero]; grind
  | succ n ih => rw [← Nat.add_assoc]; simp only [sm]; rw [ih]; grind
theorem sm_nonneg {n : Nat} {f : Nat → Rat} (h : ∀ i, i < n → 0 ≤ f i) : 0 ≤ sm n f := by
  induction n with
  | zero => simp [sm]
  | succ n ih => simp only [sm]; have := ih (fun i hi => h i (by omega)); have := h n (by omega); grind
theorem sm_nonneg0 {n : Nat} {f : Nat → Rat} (h : ∀ i, i < n → 0 ≤ f i) (hs : sm n f = 0) : ∀ i, i < n → f i = 0 := by
  induction n with
  | zero => intro i hi; omega
  | succ n ih =>
    simp only [sm] at hs
    have h1 := sm_nonneg (n := n) (f := f) (fun i hi => h i (by omega))
    have h2 := h n (by omega)
    have h3 : sm n f = 0 := by grind
    intro i hi
    by_cases hin : i = n
    · subst hin; grind
    · exact ih (fun i hi => h i (by omega)) h3 i (by omega)

/-! Tables, and the numbers that they make 0. -/
abbrev Tb := Nat → Nat → Rat
/-- Of each row the sum of products is 0. -/
def Ker (R C : Nat) (f : Tb) (x : Nat → Rat) : Prop := ∀ i, i < R → sm C (fun k => f i k * x k) = 0
def swapF (f : Tb) (p r : Nat) : Tb := fun i => if i = p then f r else if i = r then f p else f i
def clearF (f : Tb) (r c : Nat) : Tb := fun i k => if i = r then f r k * (f r c)⁻¹ else f i k - f i c * (f r k * (f r c)⁻¹)
theorem swapF_same (f : Tb) (p : Nat) : swapF f p p = f := by
  funext i; unfold swapF
  by_cases h : i = p
  · rw [if_pos h, h]
  · rw [if_neg h, if_neg h]
theorem Ker_swap {R C p r : Nat} {f : Tb} {x : Nat → Rat} (hp : p < R) (hr : r < R) : Ker R C (swapF f p r) x ↔ Ker R C f x := by
  constructor
  · intro h i hi
    by_cases h1 : i = p
    · have := h r hr
      unfold swapF at this
      by_cases h2 : r = p
      · rw [if_pos h2] at this; rw [h1, ← h2]; exact this
      · rw [if_neg h2, if_pos rfl] at this; rw [h1]; exact this
    · by_cases h2 : i = r
      · have := h p hp
        unfold swapF at this
        rw [if_pos rfl] at this; rw [h2]; exact this
      · have := h i hi
        unfold swapF at this
        rw [if_neg h1, if_neg h2] at this; exact this
  · intro h i hi
    unfold swapF
    split
    · exact h r hr
    · split
      · exact h p hp
      · exact h i hi
theorem clear_row (f : Tb) (r c C : Nat) (x : Nat → Rat) : sm C (fun k => clearF f r c r k * x k) = (f r c)⁻¹ * sm C (fun k => f r k * x k) := by
  rw [← sm_mul]; apply sm_congr; intro k _; unfold clearF; rw [if_pos rfl]; grind
theorem clear_other (f : Tb) {i r : Nat} (c C : Nat) (x : Nat → Rat) (h : i ≠ r) : sm C (fun k => clearF f r c i k * x k) = sm C (fun k => f i k * x k) - f i c * (f r c)⁻¹ * sm C (fun k => f r k * x k) := by
  rw [← sm_mul, ← sm_sub]; apply sm_congr; intro k _; unfold clearF; rw [if_neg h]; grind
theorem Ker_clear {R C r c : Nat} {f : Tb} {x : Nat → Rat} (hr : r < R) (h0 : f r c ≠ 0) : Ker R C (clearF f r c) x ↔ Ker R C f x := by
  constructor
  · intro h
    have h1 := h r hr
    rw [clear_row] at h1
    have hi : (f r c)⁻¹ * f r c = 1 := Rat.inv_mul_cancel _ h0
    have h2 : sm C (fun k => f r k * x k) = 0 := by
      generalize sm C (fun k => f r k * x k) = s at h1 ⊢
      grind
    intro i hi
    by_cases hir : i = r
    · rw [hir]; exact h2
    · have h3 := h i hi
      rw [clear_other f c C x hir, h2] at h3
      grind
  · intro h i hi
    by_cases hir : i = r
    · rw [hir, clear_row, h r hr]; grind
    · rw [clear_other f c C x hir, h i hi, h r hr]; grind

/-! The steps. -/
structure Rs where
  f : Tb
  lead : List Nat
  minus : Bool
  det : Rat
/-- The first row from one on that has something in a column. -/
def piv (R : Nat) (f : Tb) (c r : Nat) : Option Nat := (List.range' r (R - r)).find? fun i => decide (f i c ≠ 0)
def stepR (R : Nat) (s : Rs) (c : Nat) : Rs := match piv R s.f c s.lead.length with
  | none => s
  | some p => ⟨clearF (swapF s.f p s.lead.length) s.lead.length c, s.lead ++ [c], if p = s.lead.length then s.minus else !s.minus, s.det * swapF s.f p s.lead.length s.lead.length c⟩
def runR (R : Nat) (f : Tb) : Nat → Rs
  | 0 => ⟨f, [], false, 1⟩
  | c + 1 => stepR R (runR R f c) c
theorem piv_none {R c r : Nat} {f : Tb} (h : piv R f c r = none) : ∀ i, r ≤ i → i < R → f i c = 0 := by
  intro i h1 h2
  have := List.find?_eq_none.1 h i (by rw [List.mem_range'_1]; omega)
  simpa using this
theorem piv_some {R c r p : Nat} {f : Tb} (h : piv R f c r = some p) : r ≤ p ∧ p < R ∧ f p c ≠ 0 := by
  have h1 := List.find?_some h
  have h2 := List.mem_of_find?_eq_some h
  rw [List.mem_range'_1] at h2
  exact ⟨h2.1, by omega, by simpa using h1⟩
/-- What stays true. -/
structure Inv (R : Nat) (f0 : Tb) (s : Rs) (c : Nat) : Prop where
  len : s.lead.length ≤ R
  lt : ∀ i, i < s.lead.length → ix s.lead i < c
  inc : ∀ i j, i < j → j < s.lead.length → ix s.lead i < ix s.lead j
  one : ∀ i, i < s.lead.length → s.f i (ix s.lead i) = 1
  alone : ∀ i k, i < s.lead.length → k < R → k ≠ i → s.f k (ix s.lead i) = 0
  low : ∀ i k, s.lead.length ≤ i → i < R → k < c → s.f i k = 0
  left : ∀ i k, i < s.lead.length → k < ix s.lead i → s.f i k = 0
  ker : ∀ C x, Ker R C s.f x ↔ Ker R C f0 x
theorem Inv.zero (R : Nat) (f : Tb) : Inv R f (runR R f 0) 0 := by
  refine ⟨by simp [runR], ?_, ?_, ?_, ?_, ?_, ?_, fun _ _ => Iff.rfl⟩
  · intro i hi; simp [runR] at hi
  · intro i j _ hi; simp [runR] at hi
  · intro i hi; simp [runR] at hi
  · intro i k hi; simp [runR] at hi
  · intro i k _ _ h; omega
  · intro i k hi; simp [runR] at hi
theorem ix_app1 {l : List Nat} {x i : Nat} : ix (l ++ [x]) i = if i < l.length then ix l i else if i = l.length then x else 0 := by
  unfold ix
  simp only [List.getD_eq_getElem?_getD]
  by_cases h : i < l.length
  · rw [if_pos h, List.getElem?_append_left h]
  · rw [if_neg h, List.getElem?_append_right (by omega)]
    by_cases h2 : i = l.length
    · rw [if_pos h2, h2]; simp
    · rw [if_neg h2, List.getElem?_eq_none (by simp; omega)]; rfl
theorem Inv.step {R : Nat} {f0 : Tb} {s : Rs} {c : Nat} (h : Inv R f0 s c) : Inv R f0 (stepR R s c) (c + 1) := by
  unfold stepR
  cases hp : piv R s.f c s.lead.length with
  | none =>
    have hn := piv_none hp
    simp only
    refine ⟨h.len, fun i hi => by have := h.lt i hi; omega, h.inc, h.one, h.alone, ?_, h.left, h.ker⟩
    intro i k h1 h2 h3
    by_cases hk : k = c
    · rw [hk]; exact hn i h1 h2
    · exact h.low i k h1 h2 (by omega)
  | some p =>
    obtain ⟨hp1, hp2, hp3⟩ := piv_some hp
    simp only
    generalize hr : s.lead.length = r at *
    have hrR : r < R := by omega
    have hl := h.low
    have ha := h.alone
    have ho := h.one
    have hlf := h.left
    have hlt := h.lt
    rw [hr] at hl ha ho hlf hlt
    have hrow : swapF s.f p r r = s.f p := by
      unfold swapF; by_cases e : r = p
      · rw [if_pos e, e]
      · rw [if_neg e, if_pos rfl]
    have hlo : ∀ i, i < r → swapF s.f p r i = s.f i := fun i hi => by
      unfold swapF; rw [if_neg (by omega), if_neg (by omega)]
    have hhi : ∀ i, r ≤ i → i < R → ∃ j, r ≤ j ∧ j < R ∧ swapF s.f p r i = s.f j := fun i h1 h2 => by
      unfold swapF
      by_cases e : i = p
      · exact ⟨r, Nat.le_refl _, hrR, by rw [if_pos e]⟩
      · by_cases e2 : i = r
        · exact ⟨p, hp1, hp2, by rw [if_neg e, if_pos e2]⟩
        · exact ⟨i, h1, h2, by rw [if_neg e, if_neg e2]⟩
    have hz : ∀ i k, r ≤ i → i < R → k < c → swapF s.f p r i k = 0 := fun i k h1 h2 h3 => by
      obtain ⟨j, j1, j2, e⟩ := hhi i h1 h2
      rw [e]; exact hl j k j1 j2 h3
    have hal : ∀ i k, i < r → k < R → k ≠ i → swapF s.f p r k (ix s.lead i) = 0 := fun i k h1 h2 h3 => by
      by_cases hk : k < r
      · rw [hlo k hk]; exact ha i k h1 h2 h3
      · exact hz k _ (by omega) h2 (hlt i h1)
    have hrc : swapF s.f p r r c ≠ 0 := by rw [hrow]; exact hp3
    have hinv : swapF s.f p r r c * (swapF s.f p r r c)⁻¹ = 1 := Rat.mul_inv_cancel _ hrc
    have hker : ∀ C x, Ker R C (clearF (swapF s.f p r) r c) x ↔ Ker R C f0 x := fun C x => by
      rw [Ker_clear hrR hrc, Ker_swap hp2 hrR]; exact h.ker C x
    generalize swapF s.f p r = g at *
    have cr : ∀ k, clearF g r c r k = g r k * (g r c)⁻¹ := fun k => by unfold clearF; rw [if_pos rfl]
    have co : ∀ i k, i ≠ r → clearF g r c i k = g i k - g i c * (g r k * (g r c)⁻¹) := fun i k hi => by unfold clearF; rw [if_neg hi]
    refine ⟨by simp [hr]; omega, ?_, ?_, ?_, ?_, ?_, ?_, hker⟩ <;> dsimp only
    · intro i hi
      simp only [List.length_append, List.length_cons, List.length_nil, hr] at hi
      rw [ix_app1, hr]
      by_cases e : i < r
      · rw [if_pos e]; have := hlt i e; omega
      · rw [if_neg e, if_pos (by omega)]; omega
    · intro i j hij hj
      simp only [List.length_append, List.length_cons, List.length_nil, hr] at hj
      rw [ix_app1, ix_app1, hr, if_pos (show i < r by omega)]
      by_cases e : j < r
      · rw [if_pos e]; exact h.inc i j hij (by omega)
      · rw [if_neg e, if_pos (by omega)]; exact hlt i (by omega)
    · intro i hi
      simp only [List.length_append, List.length_cons, List.length_nil, hr] at hi
      rw [ix_app1, hr]
      by_cases e : i < r
      · rw [if_pos e, co i _ (by omega), hlo i e, ho i e, hz r _ (Nat.le_refl _) hrR (hlt i e)]; grind
      · rw [if_neg e, if_pos (by omega), show i = r by omega, cr]; exact hinv
    · intro i k hi hk hki
      simp only [List.length_append, List.length_cons, List.length_nil, hr] at hi
      rw [ix_app1, hr]
      by_cases e : i < r
      · rw [if_pos e]
        by_cases ek : k = r
        · rw [ek, cr, hz r _ (Nat.le_refl _) hrR (hlt i e)]; grind
        · rw [co k _ ek, hal i k e hk hki, hz r _ (Nat.le_refl _) hrR (hlt i e)]; grind
      · rw [if_neg e, if_pos (by omega), co k _ (by omega), hinv]; grind
    · intro i k h1 h2 h3
      simp only [List.length_append, List.length_cons, List.length_nil, hr] at h1
      rw [co i _ (by omega)]
      by_cases ek : k = c
      · rw [ek, hinv]; grind
      · rw [hz i k (by omega) h2 (by omega), hz r k (Nat.le_refl _) hrR (by omega)]; grind
    · intro i k hi hk
      simp only [List.length_append, List.length_cons, List.length_nil, hr] at hi
      rw [ix_app1, hr] at hk
      by_cases e : i < r
      · rw [if_pos e] at hk
        have := hlt i e
        rw [co i _ (by omega), hlo i e, hlf i k e hk, hz r k (Nat.le_refl _) hrR (by omega)]; grind
      · rw [if_neg e, if_pos (by omega)] at hk
        rw [show i = r by omega, cr, hz r k (Nat.le_refl _) hrR hk]; grind
theorem run_inv (R : Nat) (f : Tb) (c : Nat) : Inv R f (runR R f c) c := by
  induction c with
  | zero => exact Inv.zero R f
  | succ c ih => exact ih.step

/-! Numbers that a table in steps makes 0: one for each column. -/
def kv (f : Tb) (lead : List Nat) (k : Nat) : Nat → Rat := fun j => (if j = k then 1 else 0) - sm lead.length (fun i => if j = ix lead i then f i k else 0)
theorem kv_sum {R : Nat} {f0 : Tb} {s : Rs} {c : Nat} (h : Inv R f0 s c) {C k : Nat} (hc : c ≤ C) (hk : k < C) (g : Nat → Rat) : sm C (fun j => g j * kv s.f s.lead k j) = g k - sm s.lead.length (fun i => s.f i k * g (ix s.lead i)) := by
  have e1 : sm C (fun j => g j * kv s.f s.lead k j) = sm C (fun j => g j * (if j = k then 1 else 0)) - sm C (fun j => sm s.lead.length (fun i => g j * (if j = ix s.lead i then s.f i k else 0))) := by
    rw [← sm_sub]; apply sm_congr; intro j _; rw [sm_mul]; unfold kv; grind
  rw [e1, sm_pick hk, sm_comm]
  congr 1
  apply sm_congr
  intro i hi
  have := h.lt i hi
  rw [← sm_one (n := C) (k := ix s.lead i) (by omega) (s.f i k * g (ix s.lead i))]
  apply sm_congr
  intro j _
  by_cases e : j = ix s.lead i
  · rw [if_pos e, if_pos e, ← e]; grind
  · rw [if_neg e, if_neg e]; grind
/-- They are made 0, if the rows below have nothing in that column. -/
theorem kv_ker {R : Nat} {f0 : Tb} {s : Rs} {c : Nat} (h : Inv R f0 s c) {C k : Nat} (hc : c ≤ C) (hk : k < C) (hz : ∀ i, s.lead.length ≤ i → i < R → s.f i k = 0) : Ker R C s.f (kv s.f s.lead k) := by
  intro m hm
  rw [kv_sum h hc hk]
  by_cases hr : m < s.lead.length
  · have : sm s.lead.length (fun i => s.f i k * s.f m (ix s.lead i)) = s.f m k := by
      rw [← sm_pick hr (fun i => s.f i k)]
      apply sm_congr
      intro i hi
      by_cases e : i = m
      · subst e; rw [if_pos rfl, h.one i hi]
      · rw [if_neg e, h.alone i m hi hm (by omega)]
    rw [this]; grind
  · rw [hz m (by omega) hm, sm_zero]
    · grind
    · intro i hi
      rw [h.low m _ (by omega) hm (h.lt i hi)]; grind
theorem kv_right {R : Nat} {f0 : Tb} {s : Rs} {c : Nat} (h : Inv R f0 s c) {k j : Nat} (hkj : k < j) : kv s.f s.lead k j = 0 := by
  unfold kv
  rw [if_neg (by omega), sm_zero]
  · grind
  · intro i hi
    by_cases e : j = ix s.lead i
    · rw [if_pos e]; exact h.left i k hi (by omega)
    · exact if_neg e
theorem kv_at {s : Rs} {k : Nat} (hk : ∀ i, i < s.lead.length → ix s.lead i ≠ k) : kv s.f s.lead k k = 1 := by
  unfold kv
  rw [if_pos rfl, sm_zero]
  · grind
  · intro i hi; exact if_neg (fun e => hk i hi e.symm)

/-! Which columns have a leader is told by the numbers that the table makes 0. -/
/-- A column that is a sum of those to its left. -/
def FreeC (R : Nat) (f : Tb) (k : Nat) : Prop := ∃ x, Ker R (k + 1) f x ∧ x k = 1
noncomputable def nfree (R : Nat) (f : Tb) (k : Nat) : Bool := @decide (¬ FreeC R f k) (Classical.propDecidable _)
theorem nfree_iff {R : Nat} {f : Tb} {k : Nat} : nfree R f k = true ↔ ¬ FreeC R f k := by unfold nfree; exact @decide_eq_true_iff _ (Classical.propDecidable _)
theorem run_lead (R : Nat) (f : Tb) (c : Nat) : (runR R f c).lead = (List.range c).filter (nfree R f) := by
  induction c with
  | zero => rfl
  | succ c ih =>
    have hi := run_inv R f c
    have hi' := run_inv R f (c + 1)
    rw [List.range_succ, List.filter_append, ← ih]
    have e : runR R f (c + 1) = stepR R (runR R f c) c := rfl
    rw [e] at hi' ⊢
    unfold stepR at hi' ⊢
    cases hp : piv R (runR R f c).f c (runR R f c).lead.length with
    | none =>
      have hl : FreeC R f c := by
        refine ⟨kv (runR R f c).f (runR R f c).lead c, ?_, kv_at fun i h => by have := hi.lt i h; omega⟩
        rw [← hi.ker]
        exact kv_ker hi (Nat.le_succ c) (Nat.lt_succ_self c) (piv_none hp)
      simp only
      rw [List.filter_cons_of_neg (by rw [nfree_iff]; exact fun h => h hl), List.filter_nil, List.append_nil]
    | some p =>
      rw [hp] at hi'
      simp only at hi' ⊢
      have hl : ¬ FreeC R f c := by
        rintro ⟨x, hx, h1⟩
        rw [← hi'.ker] at hx
        dsimp only at hx
        have hr : (runR R f c).lead.length < R := by have := piv_some hp; omega
        have hrow := hx _ hr
        have h3 := hi'.one (runR R f c).lead.length (by simp)
        have h4 := fun k => hi'.left (runR R f c).lead.length k (by simp)
        simp only [ix_app1, Nat.lt_irrefl, if_false, if_true] at h3 h4
        rw [sm, sm_zero (fun k hk => by rw [h4 k hk]; grind), h3, h1] at hrow
        grind
      rw [List.filter_cons_of_pos (by rw [nfree_iff]; exact hl), List.filter_nil]
theorem Ker_congr {R C : Nat} {f g : Tb} {x : Nat → Rat} (h : ∀ i k, i < R → k < C → f i k = g i k) : Ker R C f x ↔ Ker R C g x := by
  constructor
  · intro hk i hi; rw [← hk i hi]; exact sm_congr fun k hc => by rw [h i k hi hc]
  · intro hk i hi; rw [← hk i hi]; exact sm_congr fun k hc => by rw [h i k hi hc]
theorem FreeC_congr {R k : Nat} {f g : Tb} (h : ∀ i j, i < R → j ≤ k → f i j = g i j) : FreeC R f k ↔ FreeC R g k := by
  unfold FreeC
  constructor
  · rintro ⟨x, hx, h1⟩; exact ⟨x, (Ker_congr fun i j hi hj => h i j hi (by omega)).1 hx, h1⟩
  · rintro ⟨x, hx, h1⟩; exact ⟨x, (Ker_congr fun i j hi hj => h i j hi (by omega)).2 hx, h1⟩
theorem FreeC_ker {R R' k : Nat} {f g : Tb} (h : ∀ x, Ker R (k + 1) f x ↔ Ker R' (k + 1) g x) : FreeC R f k ↔ FreeC R' g k := by
  unfold FreeC
  constructor
  · rintro ⟨x, hx, h1⟩; exact ⟨x, (h x).1 hx, h1⟩
  · rintro ⟨x, hx, h1⟩; exact ⟨x, (h x).2 hx, h1⟩
theorem lead_congr {R R' : Nat} {f g : Tb} {c : Nat} (h : ∀ k, k < c → (FreeC R f k ↔ FreeC R' g k)) : (runR R f c).lead = (runR R' g c).lead := by
  rw [run_lead, run_lead]
  apply List.filter_congr
  intro k hk
  have := h k (List.mem_range.1 hk)
  rw [Bool.eq_iff_iff, nfree_iff, nfree_iff, this]
/-- All columns have leaders just if only 0 is made 0. -/
theorem full_iff {R : Nat} {f : Tb} {n : Nat} : (runR R f n).lead.length = n ↔ ∀ x, Ker R n f x → ∀ k, k < n → x k = 0 := by
  rw [run_lead]
  have e : ((List.range n).filter (nfree R f)).length = n ↔ ∀ k, k < n → ¬ FreeC R f k := by
    have h := List.length_filter_eq_length_iff (p := nfree R f) (l := List.range n)
    rw [List.length_range] at h
    rw [h]
    exact ⟨fun h k hk => nfree_iff.1 (h k (List.mem_range.2 hk)), fun h k hk => nfree_iff.2 (h k (List.mem_range.1 hk))⟩
  rw [e]
  constructor
  · intro h x hx
    -- the last one that is not 0
    have key : ∀ m, m ≤ n → (∀ k, m ≤ k → k < n → x k = 0) → ∀ k, k < n → x k = 0 := by
      intro m
      induction m with
      | zero => intro _ h0 k hk; exact h0 k (Nat.zero_le _) hk
      | succ m ih =>
        intro hm h0
        by_cases hx0 : x m = 0
        · exact ih (by omega) (fun k h1 h2 => by
            by_cases e : k = m
            · rw [e]; exact hx0
            · exact h0 k (by omega) h2)
        · exfalso
          apply h m (by omega)
          refine ⟨fun k => (x m)⁻¹ * x k, ?_, Rat.inv_mul_cancel _ hx0⟩
          intro i hi
          have := hx i hi
          rw [sm_cut (m := m + 1) hm (fun j h1 h2 => by rw [h0 j h1 h2]; grind)] at this
          rw [show (fun k => f i k * ((x m)⁻¹ * x k)) = fun k => (x m)⁻¹ * (f i k * x k) from funext fun k => by grind, sm_mul, this]
          grind
    exact key n (Nat.le_refl n) (fun k h1 h2 => by omega)
  · rintro h k hk ⟨x, hx, h1⟩
    have := h (fun j => if j ≤ k then x j else 0) (by
      intro i hi
      rw [sm_cut (m := k + 1) (by omega) (fun j h1 h2 => by dsimp only; rw [if_neg (by omega)]; grind)]
      rw [← hx i hi]
      apply sm_congr
      intro j hj
      dsimp only
      rw [if_pos (by omega)]) k hk
    simp only [Nat.le_refl, if_true] at this
    rw [this] at h1
    grind
theorem full_lead {R : Nat} {f : Tb} {n : Nat} (h : (runR R f n).lead.length = n) : (runR R f n).lead = List.range n := by
  rw [run_lead] at h ⊢
  have h2 := List.length_filter_eq_length_iff (p := nfree R f) (l := List.range n)
  rw [List.length_range] at h2
  exact List.filter_eq_self.2 (h2.1 h)
theorem lead_le (R : Nat) (f : Tb) (n : Nat) : (runR R f n).lead.length ≤ n := by
  rw [run_lead]
  exact Nat.le_trans (List.length_filter_le _ _) (by simp)
/-- Each row is made of the rows in steps. -/
theorem made_row {R n : Nat} {f : Tb} {i k : Nat} (hi : i < R) (hk : k < n) : f i k = sm (runR R f n).lead.length (fun j => f i (ix (runR R f n).lead j) * (runR R f n).f j k) := by
  have h := run_inv R f n
  have h1 := kv_ker h (Nat.le_refl n) hk (fun m h1 h2 => h.low m k h1 h2 hk)
  rw [h.ker] at h1
  have h2 := h1 i hi
  rw [kv_sum h (Nat.le_refl n) hk] at h2
  have h3 : sm (runR R f n).lead.length (fun j => f i (ix (runR R f n).lead j) * (runR R f n).f j k) = sm (runR R f n).lead.length (fun j => (runR R f n).f j k * f i (ix (runR R f n).lead j)) := sm_congr fun j _ => Rat.mul_comm _ _
  rw [h3]; grind
end Go.Proofs.R

/- Determinants, inverses, systems and least squares, from what row reduction keeps. -/
namespace Go.Proofs.R
set_option linter.unusedVariables false
set_option linter.unusedSimpArgs false

/-! The determinant, by the first row. -/
def dt : Nat → Tb → Rat
  | 0, _ => 1
  | n + 1, f => sm (n + 1) (fun k => if k % 2 = 1 then -(f 0 k * dt n (fun i j => f (i + 1) (if j < k then j else j + 1))) else f 0 k * dt n (fun i j => f (i + 1) (if j < k then j else j + 1)))
def rowF (f : Tb) (r : Nat) (y : Rat) (e : Nat → Rat) : Tb := fun i k => if i = r then f r k * y else f i k - e i * (f r k * y)
theorem clear_rowF (f : Tb) (r c : Nat) : clearF f r c = rowF f r (f r c)⁻¹ (fun i => f i c) := rfl
theorem lt4 {P : Nat → Prop} {n : Nat} (h : n < 4) (h0 : P 0) (h1 : P 1) (h2 : P 2) (h3 : P 3) : P n := by
  have : n = 0 ∨ n = 1 ∨ n = 2 ∨ n = 3 := by omega
  rcases this with rfl | rfl | rfl | rfl <;> assumption
theorem dt1 (f : Tb) : dt 1 f = f 0 0 := by simp [dt, sm]; try grind
theorem dt2 (f : Tb) : dt 2 f = f 0 0 * f 1 1 - f 0 1 * f 1 0 := by simp [dt, sm]; try grind
theorem dt3 (f : Tb) : dt 3 f = f 0 0 * (f 1 1 * f 2 2 - f 1 2 * f 2 1) - f 0 1 * (f 1 0 * f 2 2 - f 1 2 * f 2 0) + f 0 2 * (f 1 0 * f 2 1 - f 1 1 * f 2 0) := by
  simp [dt, sm]; try grind
theorem dt4 (f : Tb) : dt 4 f = f 0 0 * (f 1 1 * (f 2 2 * f 3 3 - f 2 3 * f 3 2) - f 1 2 * (f 2 1 * f 3 3 - f 2 3 * f 3 1) + f 1 3 * (f 2 1 * f 3 2 - f 2 2 * f 3 1))
    - f 0 1 * (f 1 0 * (f 2 2 * f 3 3 - f 2 3 * f 3 2) - f 1 2 * (f 2 0 * f 3 3 - f 2 3 * f 3 0) + f 1 3 * (f 2 0 * f 3 2 - f 2 2 * f 3 0))
    + f 0 2 * (f 1 0 * (f 2 1 * f 3 3 - f 2 3 * f 3 1) - f 1 1 * (f 2 0 * f 3 3 - f 2 3 * f 3 0) + f 1 3 * (f 2 0 * f 3 1 - f 2 1 * f 3 0))
    - f 0 3 * (f 1 0 * (f 2 1 * f 3 2 - f 2 2 * f 3 1) - f 1 1 * (f 2 0 * f 3 2 - f 2 2 * f 3 0) + f 1 2 * (f 2 0 * f 3 1 - f 2 1 * f 3 0)) := by
  simp [dt, sm]; try grind
theorem dt_swap {n p r : Nat} (f : Tb) (hn : n ≤ 4) (hp : p < n) (hr : r < n) (h : p ≠ r) : dt n (swapF f p r) = - dt n f := by
  have hn' : n = 0 ∨ n = 1 ∨ n = 2 ∨ n = 3 ∨ n = 4 := by omega
  have hp' : p = 0 ∨ p = 1 ∨ p = 2 ∨ p = 3 := by omega
  have hr' : r = 0 ∨ r = 1 ∨ r = 2 ∨ r = 3 := by omega
  rcases hn' with rfl | rfl | rfl | rfl | rfl
  · omega
  · omega
  · rw [dt2, dt2]; rcases hp' with rfl | rfl | rfl | rfl <;> rcases hr' with rfl | rfl | rfl | rfl <;> first | omega | (simp [swapF]; grind)
  · rw [dt3, dt3]; rcases hp' with rfl | rfl | rfl | rfl <;> rcases hr' with rfl | rfl | rfl | rfl <;> first | omega | (simp [swapF]; grind)
  · rw [dt4, dt4]; rcases hp' with rfl | rfl | rfl | rfl <;> rcases hr' with rfl | rfl | rfl | rfl <;> first | omega | (simp [swapF]; grind)
theorem dt_row {n r : Nat} (f : Tb) (y : Rat) (e : Nat → Rat) (hn : n ≤ 4) (hr : r < n) : dt n (rowF f r y e) = dt n f * y := by
  have hn' : n = 0 ∨ n = 1 ∨ n = 2 ∨ n = 3 ∨ n = 4 := by omega
  have hr' : r = 0 ∨ r = 1 ∨ r = 2 ∨ r = 3 := by omega
  rcases hn' with rfl | rfl | rfl | rfl | rfl
  · omega
  · rw [dt1, dt1]; rcases hr' with rfl | rfl | rfl | rfl <;> first | omega | (simp [rowF]; done) | (simp [rowF]; grind)
  · rw [dt2, dt2]; rcases hr' with rfl | rfl | rfl | rfl <;> first | omega | (simp [rowF]; grind)
  · rw [dt3, dt3]; rcases hr' with rfl | rfl | rfl | rfl <;> first | omega | (simp [rowF]; grind)
  · rw [dt4, dt4]; rcases hr' with rfl | rfl | rfl | rfl <;> first | omega | (simp [rowF]; grind)
theorem dt_zero {n : Nat} (f : Tb) (hn : n ≤ 4) (h0 : 0 < n) (h : ∀ k, k < n → f (n - 1) k = 0) : dt n f = 0 := by
  have hn' : n = 1 ∨ n = 2 ∨ n = 3 ∨ n = 4 := by omega
  rcases hn' with rfl | rfl | rfl | rfl
  · rw [dt1]; exact h 0 (by omega)
  · have h1 := h 0 (by omega); have h2 := h 1 (by omega); simp only [Nat.reduceSub] at h1 h2; rw [dt2, h1, h2]; grind
  · have h1 := h 0 (by omega); have h2 := h 1 (by omega); have h3 := h 2 (by omega); simp only [Nat.reduceSub] at h1 h2 h3; rw [dt3, h1, h2, h3]; grind
  · have h1 := h 0 (by omega); have h2 := h 1 (by omega); have h3 := h 2 (by omega); have h4 := h 3 (by omega); simp only [Nat.reduceSub] at h1 h2 h3 h4; rw [dt4, h1, h2, h3, h4]; grind
theorem dt_unit {n : Nat} (f : Tb) (hn : n ≤ 4) (h : ∀ i k, i < n → k < n → f i k = if i = k then 1 else 0) : dt n f = 1 := by
  have hn' : n = 0 ∨ n = 1 ∨ n = 2 ∨ n = 3 ∨ n = 4 := by omega
  rcases hn' with rfl | rfl | rfl | rfl | rfl
  · rfl
  · rw [dt1, h 0 0 (by omega) (by omega)]; rfl
  · rw [dt2]; simp [h]; try grind
  · rw [dt3]; simp [h]; try grind
  · rw [dt4]; simp [h]; try grind
def sgn (b : Bool) : Rat := if b then -1 else 1
theorem run_det {n : Nat} (f : Tb) (hn : n ≤ 4) (c : Nat) : dt n f = sgn (runR n f c).minus * (runR n f c).det * dt n (runR n f c).f ∧ (runR n f c).det ≠ 0 := by
  induction c with
  | zero => simp only [runR, sgn]; exact ⟨by grind, by decide⟩
  | succ c ih =>
    obtain ⟨ih, ihd⟩ := ih
    have hi := run_inv n f c
    show dt n f = sgn (stepR n (runR n f c) c).minus * (stepR n (runR n f c) c).det * dt n (stepR n (runR n f c) c).f ∧ (stepR n (runR n f c) c).det ≠ 0
    generalize runR n f c = s at *
    unfold stepR
    cases hp : piv n s.f c s.lead.length with
    | none => exact ⟨ih, ihd⟩
    | some p =>
      obtain ⟨hp1, hp2, hp3⟩ := piv_some hp
      simp only
      generalize s.lead.length = r at *
      have hrow : swapF s.f p r r = s.f p := by
        unfold swapF; by_cases e : r = p
        · rw [if_pos e, e]
        · rw [if_neg e, if_pos rfl]
      rw [clear_rowF, dt_row _ _ _ hn (by omega), hrow]
      have hi := Rat.mul_inv_cancel _ hp3
      refine ⟨?_, ?_⟩
      · by_cases e : p = r
        · rw [if_pos e, e, swapF_same, ih]
          rw [e] at hi
          generalize sgn s.minus = a at *
          generalize dt n s.f = d at *
          generalize s.det = z at *
          generalize s.f r c = x at *
          generalize x⁻¹ = y at *
          grind
        · rw [if_neg e, dt_swap _ hn hp2 (by omega) e, ih]
          have es : sgn (!s.minus) = - sgn s.minus := by cases s.minus <;> simp [sgn]
          rw [es]
          generalize sgn s.minus = a at *
          generalize dt n s.f = d at *
          generalize s.det = z at *
          generalize s.f p c = x at *
          generalize x⁻¹ = y at *
          grind
      · intro h0
        rcases Rat.mul_eq_zero.1 h0 with h | h
        · exact ihd h
        · exact hp3 h
/-- A square table whose columns all have leaders is the unit. -/
theorem full_unit {n : Nat} {f : Tb} (h : (runR n f n).lead.length = n) : ∀ i k, i < n → k < n → (runR n f n).f i k = if i = k then 1 else 0 := by
  intro i k hi hk
  have hv := run_inv n f n
  have hl := full_lead h
  have e : ix (runR n f n).lead k = k := by rw [hl]; simp [ix, hk]
  by_cases hik : i = k
  · rw [if_pos hik]; subst hik
    have := hv.one i (by omega)
    rwa [e] at this
  · rw [if_neg hik]
    have := hv.alone k i (by omega) hi hik
    rwa [e] at this
/-- What the program tells is the determinant. -/
theorem det_ok {n : Nat} (f : Tb) (hn : n ≤ 4) : dt n f = if (runR n f n).lead.length < n then 0 else if (runR n f n).minus then -(runR n f n).det else (runR n f n).det := by
  obtain ⟨h1, h2⟩ := run_det f hn n
  have hv := run_inv n f n
  rw [h1]
  by_cases hl : (runR n f n).lead.length < n
  · rw [if_pos hl, dt_zero _ hn (by omega) (fun k hk => hv.low (n - 1) k (by omega) (by omega) hk)]; grind
  · rw [if_neg hl]
    have := lead_le n f n
    rw [dt_unit _ hn (full_unit (by omega))]
    cases (runR n f n).minus <;> simp [sgn] <;> grind
theorem det_zero {n : Nat} (f : Tb) (hn : n ≤ 4) : dt n f = 0 ↔ (runR n f n).lead.length < n := by
  obtain ⟨_, h2⟩ := run_det f hn n
  rw [det_ok f hn]
  by_cases hl : (runR n f n).lead.length < n
  · simp [hl]
  · rw [if_neg hl]
    refine ⟨fun h => ?_, fun h => absurd h hl⟩
    exfalso
    apply h2
    cases hm : (runR n f n).minus
    · simpa [hm] using h
    · simp only [hm, if_true] at h; grind

/-! Beside one another, below one another. -/
/-- A table with another one's columns beside its first so many. -/
def besF (n : Nat) (f g : Tb) : Tb := fun i k => if k < n then f i k else g i (k - n)
theorem bes_lead (R n : Nat) (f g : Tb) : (runR R (besF n f g) n).lead = (runR R f n).lead := by
  apply lead_congr
  intro k hk
  apply FreeC_congr
  intro i j hi hj
  unfold besF; rw [if_pos (by omega)]
theorem bes_sum (n m : Nat) (f g : Tb) (i : Nat) (x : Nat → Rat) : sm (n + m) (fun k => besF n f g i k * x k) = sm n (fun k => f i k * x k) + sm m (fun k => g i k * x (n + k)) := by
  rw [sm_split]
  congr 1
  · apply sm_congr; intro k hk; unfold besF; rw [if_pos hk]
  · apply sm_congr; intro k hk; unfold besF; rw [if_neg (by omega), show n + k - n = k by omega]
def belF (R : Nat) (f g : Tb) : Tb := fun i => if i < R then f i else g (i - R)
/-- The rows in steps below a table's own: of one rank. -/
theorem bel_lead (R n : Nat) (f : Tb) : (runR (R + R) (belF R f (runR R f n).f) n).lead = (runR R f n).lead := by
  apply lead_congr
  intro k hk
  apply FreeC_ker
  intro x
  have hv := (run_inv R f n).ker (k + 1) x
  constructor
  · intro h i hi
    have := h i (by omega)
    unfold belF at this
    rwa [if_pos hi] at this
  · intro h i hi
    unfold belF
    by_cases e : i < R
    · rw [if_pos e]; exact h i e
    · rw [if_neg e]; exact hv.2 h (i - R) (by omega)

/-! Systems. -/
/-- What is told of a system, from the table in steps with the right side beside it. -/
def solX (n : Nat) (s : Rs) : Nat → Rat := fun j => sm s.lead.length (fun i => if j = ix s.lead i then s.f i n else 0)
theorem sol_ok {R n : Nat} {f : Tb} {b : Nat → Rat} (hz : ∀ i, (runR R (besF n f fun i _ => b i) n).lead.length ≤ i → i < R → (runR R (besF n f fun i _ => b i) n).f i n = 0) {i : Nat} (hi : i < R) :
    sm n (fun k => f i k * solX n (runR R (besF n f fun i _ => b i) n) k) = b i := by
  have hv := run_inv R (besF n f fun i _ => b i) n
  generalize runR R (besF n f fun i _ => b i) n = s at *
  have h1 := kv_ker hv (Nat.le_succ n) (Nat.lt_succ_self n) hz
  rw [hv.ker] at h1
  have h2 := h1 i hi
  have e := bes_sum n 1 f (fun i _ => b i) i (kv s.f s.lead n)
  simp only [Nat.add_zero, sm] at e h2
  have ek : kv s.f s.lead n n = 1 := kv_at fun j hj => by have := hv.lt j hj; omega
  have ex : sm n (fun k => f i k * kv s.f s.lead n k) = - sm n (fun k => f i k * solX n s k) := by
    rw [← sm_neg]
    apply sm_congr
    intro k hk
    unfold kv solX
    rw [if_neg (by omega)]; grind
  rw [e, ek, ex] at h2
  grind
/-- One column more: whether it gets a leader. -/
theorem more_none {R n : Nat} {f : Tb} (h : ∀ i, (runR R f n).lead.length ≤ i → i < R → (runR R f n).f i n = 0) : (runR R f (n + 1)).lead = (runR R f n).lead := by
  show (stepR R (runR R f n) n).lead = _
  unfold stepR
  cases hp : piv R (runR R f n).f n (runR R f n).lead.length with
  | none => rfl
  | some p =>
    obtain ⟨h1, h2, h3⟩ := piv_some hp
    exact absurd (h p h1 h2) h3
theorem more_some {R n : Nat} {f : Tb} {i : Nat} (h1 : (runR R f n).lead.length ≤ i) (h2 : i < R) (h3 : (runR R f n).f i n ≠ 0) : (runR R f (n + 1)).lead = (runR R f n).lead ++ [n] := by
  show (stepR R (runR R f n) n).lead = _
  unfold stepR
  cases hp : piv R (runR R f n).f n (runR R f n).lead.length with
  | none => exact absurd (piv_none hp i h1 h2) h3
  | some p => rfl

/-! Inverses. -/
def unitF : Tb := fun i k => if i = k then 1 else 0
theorem inv_full {n : Nat} {A : Tb} : (runR n (besF n A unitF) n).lead.length = n ↔ (runR n A n).lead.length = n := by rw [bes_lead]
theorem inv_right {n : Nat} {A : Tb} (h : (runR n (besF n A unitF) n).lead.length = n) {i j : Nat} (hi : i < n) (hj : j < n) :
    sm n (fun k => A i k * (runR n (besF n A unitF) n).f k (n + j)) = if i = j then 1 else 0 := by
  have hu := full_unit h
  have hv := run_inv n (besF n A unitF) n
  generalize runR n (besF n A unitF) n = s at *
  have hk : Ker n (n + n) s.f (fun k => if k < n then -(s.f k (n + j)) else if k = n + j then 1 else 0) := by
    intro m hm
    rw [sm_split]
    have e1 : sm n (fun k => s.f m k * (if k < n then -(s.f k (n + j)) else if k = n + j then 1 else 0)) = -(s.f m (n + j)) := by
      rw [← sm_one hm (-(s.f m (n + j)))]
      apply sm_congr
      intro k hkn
      rw [if_pos hkn, hu m k hm hkn]
      by_cases e : k = m
      · subst e; rw [if_pos rfl, if_pos rfl]; grind
      · rw [if_neg e, if_neg (fun h => e h.symm)]; grind
    have e2 : sm n (fun k => s.f m (n + k) * (if n + k < n then -(s.f (n + k) (n + j)) else if n + k = n + j then 1 else 0)) = s.f m (n + j) := by
      rw [← sm_pick hj (fun k => s.f m (n + k))]
      apply sm_congr
      intro k hkn
      rw [if_neg (by omega)]
      by_cases e : k = j
      · rw [if_pos e, if_pos (by omega)]
      · rw [if_neg e, if_neg (by omega)]
    rw [e1, e2]; grind
  rw [hv.ker] at hk
  have h2 := hk i hi
  rw [bes_sum] at h2
  have e1 : sm n (fun k => A i k * (if k < n then -(s.f k (n + j)) else if k = n + j then 1 else 0)) = - sm n (fun k => A i k * s.f k (n + j)) := by
    rw [← sm_neg]; apply sm_congr; intro k hkn; rw [if_pos hkn]; grind
  have e2 : sm n (fun k => unitF i k * (if n + k < n then -(s.f (n + k) (n + j)) else if n + k = n + j then 1 else 0)) = if i = j then 1 else 0 := by
    rw [show (if i = j then (1 : Rat) else 0) = unitF i j from rfl, ← sm_pick hj (fun k => unitF i k)]
    apply sm_congr
    intro k hkn
    have hne : ¬ n + k < n := by omega
    have heq : (n + k = n + j) = (k = j) := by rw [eq_iff_iff]; omega
    simp only [hne, if_false, heq]
  rw [e1, e2] at h2
  grind
theorem inv_left {n : Nat} {A : Tb} (h : (runR n (besF n A unitF) n).lead.length = n) {i j : Nat} (hi : i < n) (hj : j < n) :
    sm n (fun k => (runR n (besF n A unitF) n).f i (n + k) * A k j) = if i = j then 1 else 0 := by
  have hu := full_unit h
  have hv := run_inv n (besF n A unitF) n
  generalize runR n (besF n A unitF) n = s at *
  have hk : Ker n (n + n) (besF n A unitF) (fun k => if k < n then (if k = j then 1 else 0) else -(A (k - n) j)) := by
    intro m hm
    rw [bes_sum]
    have e1 : sm n (fun k => A m k * (if k < n then (if k = j then 1 else 0) else -(A (k - n) j))) = A m j := by
      rw [← sm_pick hj (fun k => A m k)]
      apply sm_congr; intro k hkn; rw [if_pos hkn]
    have e2 : sm n (fun k => unitF m k * (if n + k < n then (if n + k = j then 1 else 0) else -(A (n + k - n) j))) = -(A m j) := by
      rw [← sm_one hm (-(A m j))]
      apply sm_congr; intro k hkn
      have hne : ¬ n + k < n := by omega
      simp only [hne, if_false]
      unfold unitF
      rw [show n + k - n = k by omega]
      by_cases e : k = m
      · subst e; rw [if_pos rfl, if_pos rfl]; grind
      · rw [if_neg e, if_neg (fun h => e h.symm)]; grind
    rw [e1, e2]; grind
  rw [← hv.ker] at hk
  have h2 := hk i hi
  rw [sm_split] at h2
  have e1 : sm n (fun k => s.f i k * (if k < n then (if k = j then 1 else 0) else -(A (k - n) j))) = if i = j then 1 else 0 := by
    have := sm_pick hj (fun k => s.f i k)
    rw [hu i j hi hj] at this
    rw [← this]
    apply sm_congr; intro k hkn; rw [if_pos hkn]
  have e2 : sm n (fun k => s.f i (n + k) * (if n + k < n then (if n + k = j then 1 else 0) else -(A (n + k - n) j))) = - sm n (fun k => s.f i (n + k) * A k j) := by
    rw [← sm_neg]; apply sm_congr; intro k hkn
    rw [if_neg (by omega), show n + k - n = k by omega]; grind
  rw [e1, e2] at h2
  grind

/-! Least squares. -/
theorem sq_nn (a : Rat) : 0 ≤ a * a := by
  rcases Rat.le_total (a := 0) (b := a) with h | h
  · exact Rat.mul_nonneg h h
  · have := Rat.mul_nonneg (a := -a) (b := -a) (by grind) (by grind)
    grind
def lossF (R n : Nat) (A : Tb) (b w : Nat → Rat) (x : Nat → Rat) : Rat := sm R (fun i => w i * ((sm n (fun k => A i k * x k) - b i) * (sm n (fun k => A i k * x k) - b i)))
/-- The table of the equations that the least loss solves. -/
def nrmF (R : Nat) (A : Tb) (w : Nat → Rat) : Tb := fun j k => sm R (fun i => A i j * w i * A i k)
theorem nrm_sum (R n : Nat) (A : Tb) (w : Nat → Rat) (x : Nat → Rat) (j : Nat) : sm n (fun k => nrmF R A w j k * x k) = sm R (fun i => A i j * w i * sm n (fun k => A i k * x k)) := by
  have : ∀ k, nrmF R A w j k * x k = sm R (fun i => A i j * w i * A i k * x k) := fun k => by unfold nrmF; rw [sm_mulr]
  rw [sm_congr (fun k _ => this k), sm_comm]
  apply sm_congr; intro i _
  rw [← sm_mul]; apply sm_congr; intro k _; grind
theorem nrm_quad (R n : Nat) (A : Tb) (w : Nat → Rat) (x y : Nat → Rat) : sm n (fun j => y j * sm R (fun i => A i j * w i * x i)) = sm R (fun i => w i * (sm n (fun k => A i k * y k) * x i)) := by
  have : ∀ j, y j * sm R (fun i => A i j * w i * x i) = sm R (fun i => y j * (A i j * w i * x i)) := fun j => (sm_mul _ _ _).symm
  rw [sm_congr (fun j _ => this j), sm_comm]
  apply sm_congr; intro i _
  have e : w i * (sm n (fun k => A i k * y k) * x i) = (w i * x i) * sm n (fun k => A i k * y k) := by grind
  rw [e, ← sm_mul]; apply sm_congr; intro j _; grind
/-- Nothing but 0 is made 0 by the rows that weigh: just if the equations have one answer. -/
theorem nrm_ker {R n : Nat} {A : Tb} {w : Nat → Rat} (hw : ∀ i, i < R → 0 ≤ w i) (x : Nat → Rat) : Ker n n (nrmF R A w) x ↔ ∀ i, i < R → 0 < w i → sm n (fun k => A i k * x k) = 0 := by
  constructor
  · intro h
    have h1 : sm R (fun i => w i * (sm n (fun k => A i k * x k) * sm n (fun k => A i k * x k))) = 0 := by
      rw [← nrm_quad]
      apply sm_zero
      intro j hj
      rw [← nrm_sum, h j hj]; grind
    have h2 := sm_nonneg0 (fun i hi => by
      have := hw i hi
      have hs : 0 ≤ sm n (fun k => A i k * x k) * sm n (fun k => A i k * x k) := sq_nn _
      exact Rat.mul_nonneg this hs) h1
    intro i hi hp
    have h3 := h2 i hi
    rcases Rat.mul_eq_zero.1 h3 with h | h
    · rw [h] at hp; exact absurd hp (by decide)
    · rcases Rat.mul_eq_zero.1 h with h | h <;> exact h
  · intro h j hj
    rw [nrm_sum]
    apply sm_zero
    intro i hi
    have hwi := hw i hi
    by_cases h0 : 0 < w i
    · rw [h i hi h0]; grind
    · have : w i = 0 := by grind
      rw [this]; grind
/-- What solves the equations comes nearest, and nothing else as near. -/
theorem least_strict {R n : Nat} {A : Tb} {b w x y : Nat → Rat} (hw : ∀ i, i < R → 0 ≤ w i) (hx : ∀ j, j < n → sm n (fun k => nrmF R A w j k * x k) = sm R (fun i => A i j * w i * b i))
    (hk : ∀ z : Nat → Rat, (∀ i, i < R → 0 < w i → sm n (fun k => A i k * z k) = 0) → ∀ k, k < n → z k = 0) (hy : ∃ k, k < n ∧ y k ≠ x k) : lossF R n A b w x < lossF R n A b w y := by
  have e : lossF R n A b w y = lossF R n A b w x + sm R (fun i => w i * (sm n (fun k => A i k * (y k - x k)) * sm n (fun k => A i k * (y k - x k)))) + 2 * sm R (fun i => w i * (sm n (fun k => A i k * (y k - x k)) * (sm n (fun k => A i k * x k) - b i))) := by
    unfold lossF
    rw [← sm_mul, ← sm_add, ← sm_add]
    apply sm_congr
    intro i _
    have : sm n (fun k => A i k * (y k - x k)) = sm n (fun k => A i k * y k) - sm n (fun k => A i k * x k) := by
      rw [← sm_sub]; apply sm_congr; intro k _; grind
    rw [this]
    grind
  have h0 : sm R (fun i => w i * (sm n (fun k => A i k * (y k - x k)) * (sm n (fun k => A i k * x k) - b i))) = 0 := by
    rw [← nrm_quad]
    apply sm_zero
    intro j hj
    have : sm R (fun i => A i j * w i * (sm n (fun k => A i k * x k) - b i)) = 0 := by
      have h1 := hx j hj
      rw [nrm_sum] at h1
      rw [show (fun i => A i j * w i * (sm n (fun k => A i k * x k) - b i)) = fun i => A i j * w i * sm n (fun k => A i k * x k) - A i j * w i * b i from funext fun i => by grind, sm_sub, h1]
      grind
    rw [this]; grind
  have hnn : ∀ i, i < R → 0 ≤ w i * (sm n (fun k => A i k * (y k - x k)) * sm n (fun k => A i k * (y k - x k))) := fun i hi => Rat.mul_nonneg (hw i hi) (sq_nn _)
  have h1 := sm_nonneg hnn
  have h2 : sm R (fun i => w i * (sm n (fun k => A i k * (y k - x k)) * sm n (fun k => A i k * (y k - x k)))) ≠ 0 := by
    intro hz
    have h3 := sm_nonneg0 hnn hz
    obtain ⟨k, hkn, hne⟩ := hy
    have := hk (fun k => y k - x k) (fun i hi hp => by
      rcases Rat.mul_eq_zero.1 (h3 i hi) with h | h
      · rw [h] at hp; exact absurd hp (by decide)
      · rcases Rat.mul_eq_zero.1 h with h | h <;> exact h) k hkn
    apply hne
    grind
  rw [e, h0]
  grind
end Go.Proofs.R

/- Tables on the heap: each row a block of its own. -/
namespace Go.Proofs.R
open Go
set_option linter.unusedSimpArgs false
set_option linter.unusedVariables false

/-- A row of so many numbers in their form. -/
def rw' (C : Nat) (g : Nat → Rat) : List RQ := (List.range C).map fun k => can (g k)
@[simp] theorem rw_len (C : Nat) (g : Nat → Rat) : (rw' C g).length = C := by simp [rw']
theorem rw_ix {C k : Nat} (g : Nat → Rat) (h : k < C) : ix (rw' C g) k = can (g k) := by simp [ix, rw', h]
theorem rw_congr {C : Nat} {g g' : Nat → Rat} (h : ∀ k, k < C → g k = g' k) : rw' C g = rw' C g' := by
  unfold rw'; apply List.map_congr_left; intro k hk; rw [h k (List.mem_range.1 hk)]
theorem rw_set {C k : Nat} (g : Nat → Rat) (v : Rat) : (rw' C g).set k (can v) = rw' C (fun j => if j = k then v else g j) := by
  apply List.ext_getElem
  · simp
  · intro i h1 h2
    simp only [rw_len] at h2
    rw [List.getElem_set]
    simp only [rw', List.getElem_map, List.getElem_range]
    by_cases h : k = i
    · subst h; simp
    · rw [if_neg h, if_neg (fun e => h e.symm)]
/-- A table's cells: the numbers of its rows. -/
def refs (ids : Nat → Nat) (R C : Nat) : List D := (List.range R).map fun i => .ref (1099511627776 + ids i) 3 0 C
@[simp] theorem refs_len (ids : Nat → Nat) (R C : Nat) : (refs ids R C).length = R := by simp [refs]
theorem refs_get {ids : Nat → Nat} {R C i : Nat} (h : i < R) : (refs ids R C)[i]? = some (.ref (1099511627776 + ids i) 3 0 C) := by simp [refs, h]
theorem refs_set (ids : Nat → Nat) (R C i a : Nat) : (refs ids R C).set i (.ref (1099511627776 + a) 3 0 C) = refs (fun j => if j = i then a else ids j) R C := by
  apply List.ext_getElem
  · simp
  · intro j h1 h2
    rw [List.getElem_set]
    simp only [refs, List.getElem_map, List.getElem_range]
    by_cases h : i = j
    · subst h; simp
    · rw [if_neg h, if_neg (fun e => h e.symm)]
theorem refs_app (ids : Nat → Nat) (R C a : Nat) (h : ids R = a) : refs ids R C ++ [.ref (1099511627776 + a) 3 0 C] = refs ids (R + 1) C := by
  simp [refs, List.range_succ, h]
/-- The heap holds a table. -/
structure HT (H : Mem) (n T : Nat) (ids : Nat → Nat) (R C : Nat) (f : Tb) : Prop where
  hp : Hp H
  cnt : cntOf H = 1099511627776 + n
  tab : aget H (1099511627776 + T) = some ⟨0, false, refs ids R C⟩
  row : ∀ i, i < R → aget H (1099511627776 + ids i) = some ⟨0, false, el (rw' C (f i))⟩
  inj : ∀ i j, i < R → j < R → ids i = ids j → i = j
  ne : ∀ i, i < R → ids i ≠ T
  lt : ∀ i, i < R → ids i < n
  ltT : T < n
theorem HT.congr {H : Mem} {n T : Nat} {ids : Nat → Nat} {R C : Nat} {f g : Tb} (h : HT H n T ids R C f) (he : ∀ i k, i < R → k < C → f i k = g i k) : HT H n T ids R C g :=
  ⟨h.hp, h.cnt, h.tab, fun i hi => by rw [h.row i hi, rw_congr (fun k hk => he i k hi hk)], h.inj, h.ne, h.lt, h.ltT⟩
theorem aget_hb {H : Mem} {a b : Nat} {B : Blk} : aget (aput (1099511627776 + a) B H) (1099511627776 + b) = if b = a then some B else aget H (1099511627776 + b) := by
  rw [aget_aput]
  by_cases h : b = a
  · rw [if_pos h, if_pos (by omega)]
  · rw [if_neg h, if_neg (by omega)]
theorem HT.setRow {H : Mem} {n T : Nat} {ids : Nat → Nat} {R C : Nat} {f : Tb} (h : HT H n T ids R C f) {i : Nat} (hi : i < R) (g : Nat → Rat) :
    HT (aput (1099511627776 + ids i) ⟨0, false, el (rw' C g)⟩ H) n T ids R C (fun j => if j = i then g else f j) := by
  refine ⟨h.hp.put (by omega) _, by rw [cntOf_low (aget_aput_ne (by omega) _ _), h.cnt], ?_, ?_, h.inj, h.ne, h.lt, h.ltT⟩
  · rw [aget_hb, if_neg (h.ne i hi).symm, h.tab]
  · intro j hj
    rw [aget_hb]
    by_cases e : j = i
    · subst e; rw [if_pos rfl]; simp
    · rw [if_neg (fun e' => e (h.inj j i hj hi e')), h.row j hj, if_neg e]
theorem HT.swap {H : Mem} {n T : Nat} {ids : Nat → Nat} {R C : Nat} {f : Tb} (h : HT H n T ids R C f) {p r : Nat} (hp : p < R) (hr : r < R) (hpr : p ≠ r) :
    HT (aput (1099511627776 + T) ⟨0, false, refs (fun j => if j = r then ids p else if j = p then ids r else ids j) R C⟩ H) n T (fun j => if j = r then ids p else if j = p then ids r else ids j) R C (swapF f p r) := by
  have hids : ∀ j, j < R → ∃ m, m < R ∧ (if j = r then ids p else if j = p then ids r else ids j) = ids m ∧ swapF f p r j = f m ∧ (j = r → m = p) ∧ (j = p → m = r) ∧ (j ≠ r → j ≠ p → m = j) := by
    intro j hj
    by_cases e : j = r
    · subst e
      refine ⟨p, hp, by rw [if_pos rfl], ?_, by simp, by omega, by simp⟩
      unfold swapF; rw [if_neg (fun e => hpr e.symm), if_pos rfl]
    · by_cases e2 : j = p
      · subst e2
        refine ⟨r, hr, by rw [if_neg e, if_pos rfl], ?_, by omega, by simp, by simp⟩
        unfold swapF; rw [if_pos rfl]
      · refine ⟨j, hj, by rw [if_neg e, if_neg e2], ?_, by omega, by omega, by simp⟩
        unfold swapF; rw [if_neg e2, if_neg e]
  refine ⟨h.hp.put (by omega) _, by rw [cntOf_low (aget_aput_ne (by omega) _ _), h.cnt], ?_, ?_, ?_, ?_, ?_, h.ltT⟩
  · rw [aget_hb, if_pos rfl]
  · intro j hj
    obtain ⟨m, hm, e, ef, _⟩ := hids j hj
    simp only [e, ef]
    rw [aget_hb, if_neg (h.ne m hm), h.row m hm]
  · intro i j hi hj he
    obtain ⟨m, hm, e, _, a1, a2, a3⟩ := hids i hi
    obtain ⟨m', hm', e', _, b1, b2, b3⟩ := hids j hj
    simp only [e, e'] at he
    have := h.inj m m' hm hm' he
    subst this
    by_cases c1 : i = r
    · have := a1 c1
      by_cases c2 : j = r
      · omega
      · by_cases c3 : j = p
        · have := b2 c3; omega
        · have := b3 c2 c3; omega
    · by_cases c4 : i = p
      · have := a2 c4
        by_cases c2 : j = r
        · have := b1 c2; omega
        · by_cases c3 : j = p
          · omega
          · have := b3 c2 c3; omega
      · have := a3 c1 c4
        by_cases c2 : j = r
        · have := b1 c2; omega
        · by_cases c3 : j = p
          · have := b2 c3; omega
          · have := b3 c2 c3; omega
  · intro j hj
    obtain ⟨m, hm, e, _⟩ := hids j hj
    simp only [e]; exact h.ne m hm
  · intro j hj
    obtain ⟨m, hm, e, _⟩ := hids j hj
    simp only [e]; exact h.lt m hm
/-- A new block beside the table. -/
theorem HT.new {H : Mem} {n T : Nat} {ids : Nat → Nat} {R C : Nat} {f : Tb} (h : HT H n T ids R C f) (B : Blk) : HT (hput B H) (n + 1) T ids R C f ∧ aget (hput B H) (1099511627776 + n) = some B := by
  have hg : ∀ b, aget (hput B H) (1099511627776 + b) = if b = n then some B else aget H (1099511627776 + b) := fun b => by
    rw [aget_hput (by rw [h.cnt]; omega) B (by omega), h.cnt]
    by_cases e : b = n
    · rw [if_pos e, if_pos (by omega)]
    · rw [if_neg e, if_neg (by omega)]
  have hl := h.ltT
  refine ⟨⟨h.hp.hput (by rw [h.cnt]; omega) B, by rw [cntOf_hput, h.cnt]; omega, ?_, ?_, h.inj, h.ne, fun i hi => by have := h.lt i hi; omega, by omega⟩, by rw [hg, if_pos rfl]⟩
  · rw [hg, if_neg (by omega), h.tab]
  · intro i hi
    have := h.lt i hi
    rw [hg, if_neg (by omega), h.row i hi]
/-- A block that is not the table's goes. -/
theorem HT.del {H : Mem} {n T : Nat} {ids : Nat → Nat} {R C : Nat} {f : Tb} (h : HT H n T ids R C f) {L : Nat} (hT : L ≠ T) (hi : ∀ i, i < R → ids i ≠ L) : HT (adel (1099511627776 + L) H) n T ids R C f := by
  have hg : ∀ b, b ≠ L → aget (adel (1099511627776 + L) H) (1099511627776 + b) = aget H (1099511627776 + b) := fun b hb => by
    rw [aget_adel, if_neg (by omega)]
  exact ⟨h.hp.del, by rw [cntOf_low (aget_adel_ne (by omega) _), h.cnt], by rw [hg _ hT.symm, h.tab], fun i hir => by rw [hg _ (hi i hir), h.row i hir], h.inj, h.ne, h.lt, h.ltT⟩

/-! The equations of memory with a heap behind it. -/
section
variable {H : Mem} {k : Nat}
theorem aput_lit {j : Nat} {v B : Blk} {l : Mem} (hk : k < 1099511627775) : aput (1099511627776 + j) v ((k, B) :: l) = (k, B) :: aput (1099511627776 + j) v l := by
  simp only [aput]; rw [if_neg (by omega), if_neg (by omega)]
theorem adel_lit {j : Nat} {B : Blk} {l : Mem} (hk : k < 1099511627775) : adel (1099511627776 + j) ((k, B) :: l) = (k, B) :: adel (1099511627776 + j) l := by
  simp only [adel]; rw [if_neg (by omega)]
theorem aget_lit {j : Nat} {B : Blk} {l : Mem} (hk : k < 1099511627775) : aget ((k, B) :: l) (1099511627776 + j) = aget l (1099511627776 + j) := by
  simp only [aget]; rw [if_neg (by omega)]
theorem cntOf_lit {B : Blk} {l : Mem} (hk : k < 1099511627775) : cntOf ((k, B) :: l) = cntOf l := by
  unfold cntOf; simp only [aget]; rw [if_neg (by omega)]
theorem hput_lit {v B : Blk} {l : Mem} (hk : k < 1099511627775) (hc : 1099511627776 ≤ cntOf l) : hput v ((k, B) :: l) = (k, B) :: hput v l := by
  unfold hput
  rw [cntOf_lit hk]
  generalize cntOf l = c at *
  simp only [aput]; rw [if_neg (by omega), if_neg (by omega)]
  simp only [aput]; rw [if_neg (by omega), if_neg (by omega)]
end

@[simp] theorem cells_ref (c k o n : Nat) : (D.ref c k o n).cells = [.ref c k o n] := rfl
/-! Data that speaks of no block. -/
@[simp] theorem nrefL_us (l : List Nat) : nrefL (us l) = true := by
  induction l with
  | nil => rfl
  | cons x r ih => simp only [us_cons, nrefL, ih, u, nref, Bool.and_self]
@[simp] theorem nref_c (r : RQ) : nref (.ag r.c) = true := by simp [nref, nrefL, RQ.c]
@[simp] theorem nrefL_c (r : RQ) : nrefL r.c = true := by simp [nref, nrefL, RQ.c]
theorem nrefL_app : ∀ (a b : List D), nrefL (a ++ b) = (nrefL a && nrefL b)
  | [], b => by simp [nrefL]
  | x :: a, b => by simp only [List.cons_append, nrefL, nrefL_app a b, Bool.and_assoc]
theorem nrefL_elg {α : Type} {k : Nat} {agg : Bool} [Enc α k agg] (h : ∀ x : α, nrefL (Enc.d x).cells = true) (l : List α) : nrefL (el l) = true := by
  induction l with
  | nil => rfl
  | cons x r ih => rw [el_cons, nrefL_app, h, ih]; rfl
@[simp] theorem nrefL_rq (l : List RQ) : nrefL (el l) = true := nrefL_elg (fun x => by simp) l
@[simp] theorem nrefL_int (l : List Int) : nrefL (el l) = true := nrefL_elg (fun x => by simp [nrefL, nref]) l
@[simp] theorem nrefL_rows (l : List (List RQ)) : nrefL (el l) = true := nrefL_elg (fun x => by simp [nrefL, nref]) l
@[simp] theorem nref_sl {k : Nat} {l : List D} : nref (.sl k l) = nrefL l := by simp [nref]
@[simp] theorem nref_int {k : IntKind} {n : Int} : nref (.int k n) = true := by simp [nref]
@[simp] theorem nref_bool {b : Bool} : nref (.bool b) = true := by simp [nref]
@[simp] theorem nrefV_nil : nrefV [] = true := rfl
@[simp] theorem nrefV_cons {x : D} {l : List V} : nrefV (.d x :: l) = (nref x && nrefV l) := rfl
section
variable {ν : Mem} {k0 : Nat}
@[simp] theorem asDD_ag {l : List D} : asDD ν k0 (.d (.ag l)) = some (.ag l) := rfl
@[simp] theorem asDD_int {k : IntKind} {n : Int} : asDD ν k0 (.d (.int k n)) = some (.int k n) := rfl
@[simp] theorem asDD_bool {b : Bool} : asDD ν k0 (.d (.bool b)) = some (.bool b) := rfl
@[simp] theorem asDD_sl {k : Nat} {l : List D} : asDD ν k0 (.d (.sl k l)) = some (.sl k l) := rfl
@[simp] theorem asDD_nil : asDD ν k0 (.d (.raw (.slice none 0 0))) = if k0 = 0 then none else some (.sl k0 []) := rfl
def kDc (ν : Mem) (l : List V) : Option D → Option (List V)
  | some d => if nref d = true then (asDDs ν l).map (fun r => .d d :: r) else none
  | none => none
@[simp] theorem kDc_s {l : List V} {d : D} : kDc ν l (some d) = if nref d = true then (asDDs ν l).map (fun r => .d d :: r) else none := rfl
@[simp] theorem asDDs_nil : asDDs ν [] = some [] := rfl
@[simp] theorem asDDs_cons {v : V} {l : List V} : asDDs ν (v :: l) = kDc ν l (asDD ν 1 v) := by
  simp only [asDDs]
  cases asDD ν 1 v with
  | none => rfl
  | some d =>
    simp only [Option.bind_some, kDc]
    split
    · cases asDDs ν l <;> rfl
    · rfl
def kDd : Option D → Option V
  | some d => if nref d = true then some (.d d) else none
  | none => none
@[simp] theorem kDd_s {d : D} : kDd (some d) = if nref d = true then some (.d d) else none := rfl
@[simp] theorem resDD_tp {l : List V} : resDD ν (.tp l) = (asDDs ν l).map .tp := rfl
@[simp] theorem resDD_d {x : D} : resDD ν (.d x) = kDd (asDD ν 1 (.d x)) := by
  simp only [resDD]; cases asDD ν 1 (.d x) <;> rfl
@[simp] theorem resDD_o {b k o n : Nat} : resDD ν (.own b k o n) = kDd (asDD ν 1 (.own b k o n)) := by
  simp only [resDD]; cases asDD ν 1 (.own b k o n) <;> rfl
end
section
variable {e : Env} {μ : Mem}
def kDeep (μ : Mem) (k : Nat) : Option V → Option V
  | some v => (asDD μ k v).map .d
  | none => none
@[simp] theorem resO_deep {np n k : Nat} : resO np e μ (.deep n k) = kDeep μ k (aget e n) := by
  simp only [resO]; cases aget e n <;> rfl
@[simp] theorem kDeep_s {k : Nat} {v : V} : kDeep μ k (some v) = (asDD μ k v).map .d := rfl
end
/-- The rows of a table. -/
def tbl (R C : Nat) (f : Tb) : List (List RQ) := (List.range R).map fun i => rw' C (f i)
@[simp] theorem tbl_len (R C : Nat) (f : Tb) : (tbl R C f).length = R := by simp [tbl]
theorem tbl_ix {R C i : Nat} {f : Tb} (h : i < R) : ix (tbl R C f) i = rw' C (f i) := by simp [ix, tbl, h]
theorem tbl_congr {R C : Nat} {f g : Tb} (h : ∀ i k, i < R → k < C → f i k = g i k) : tbl R C f = tbl R C g := by
  unfold tbl; apply List.map_congr_left; intro i hi; exact rw_congr fun k hk => h i k (List.mem_range.1 hi) hk
theorem tbl_succ (R C : Nat) (f : Tb) : tbl (R + 1) C f = tbl R C f ++ [rw' C (f R)] := by simp [tbl, List.range_succ]
/-- All of a table on the heap, as data. -/
theorem asDD_tab {μ : Mem} {T : Nat} {ids : Nat → Nat} {R C k0 : Nat} {f : Tb} (ht : aget μ (1099511627776 + T) = some ⟨0, false, refs ids R C⟩) (hr : ∀ i, i < R → aget μ (1099511627776 + ids i) = some ⟨0, false, el (rw' C (f i))⟩) :
    asDD μ k0 (.own (1099511627776 + T) 1 0 R) = some (.sl 1 (el (tbl R C f))) := by
  simp only [asDD, ht]
  rw [if_pos (by simp)]
  congr 2
  apply List.ext_getElem
  · simp
  · intro i h1 h2
    have hi : i < R := by simpa using h2
    have e1 : (el (tbl R C f))[i]? = some (.sl 3 (el (rw' C (f i)))) := by
      have := view_el (l := tbl R C f) (i := i) (by simpa using hi)
      rw [view_f, Nat.mul_one, tbl_ix hi] at this
      exact this
    have e2 : (el (tbl R C f))[i] = .sl 3 (el (rw' C (f i))) := by
      rw [List.getElem?_eq_getElem h2] at e1
      exact Option.some.inj e1
    rw [e2]
    simp only [List.getElem_map, List.drop_zero, refs]
    simp only [Nat.mul_one, List.getElem_take, List.getElem_map, List.getElem_range, un, hr i hi]
    rw [if_pos (by simp)]
    rw [List.drop_zero, List.take_of_length_le (by simp)]
theorem HT.deep {H : Mem} {n T : Nat} {ids : Nat → Nat} {R C k0 : Nat} {f : Tb} (h : HT H n T ids R C f) : asDD H k0 (.own (1099511627776 + T) 1 0 R) = some (.sl 1 (el (tbl R C f))) := asDD_tab h.tab h.row
/-- A row of numbers on the heap, as data. -/
theorem asDD_row {μ : Mem} {b k n k0 : Nat} {α : Type} {agg : Bool} [Enc α k agg] {l : List α} (h : aget μ b = some ⟨0, false, el l⟩) (hn : n = l.length) (hu : ∀ d ∈ el l, un μ d = d) : asDD μ k0 (.own b k 0 n) = some (.sl k (el l)) := by
  subst hn
  simp only [asDD, h]
  rw [if_pos (by simp)]
  rw [List.drop_zero, List.take_of_length_le (by simp)]
  congr 2
  rw [List.map_congr_left (g := id) hu, List.map_id]

/-! Reading and writing through a heap that is not looked into. -/
section
variable {H : Mem} {a b k : Nat} {B : Blk}
theorem aget_put_low (hk : k < 1099511627775) : aget (aput (1099511627776 + a) B H) k = aget H k := aget_aput_ne (by omega) _ _
theorem aget_del_low (hk : k < 1099511627775) : aget (adel (1099511627776 + a) H) k = aget H k := aget_adel_ne (by omega) _
theorem aget_put_same : aget (aput (1099511627776 + a) B H) (1099511627776 + a) = some B := aget_aput_same _ _ _
theorem aput_put_same {B' : Blk} : aput (1099511627776 + a) B (aput (1099511627776 + a) B' H) = aput (1099511627776 + a) B H := aput_aput _ _ _ _
end
/-- The cell of a slice that is nil or lies on the heap. -/
def ldD (L : Nat) (l : List Nat) : D := if l = [] then .raw (.slice none 0 0) else .ref (1099511627776 + L) 1 0 l.length
theorem ldD_nil (L : Nat) : ldD L [] = .raw (.slice none 0 0) := rfl
theorem ldD_cons {L : Nat} {l : List Nat} (h : l ≠ []) : ldD L l = .ref (1099511627776 + L) 1 0 l.length := if_neg h
/-- Numbers as ints. -/
def nats (l : List Nat) : List Int := l.map fun (x : Nat) => (x : Int)
@[simp] theorem nats_len (l : List Nat) : (nats l).length = l.length := by simp [nats]
@[simp] theorem nats_nil : nats [] = [] := rfl
theorem nats_app (l : List Nat) (x : Nat) : nats l ++ [(x : Int)] = nats (l ++ [x]) := by simp [nats]
theorem nats_ix {l : List Nat} {i : Nat} (h : i < l.length) : ix (nats l) i = ((ix l i : Nat) : Int) := by simp [ix, nats, h]
/-- The heap holds a row of numbers, beside a table. -/
structure HL (H : Mem) (n T : Nat) (ids : Nat → Nat) (R L : Nat) (l : List Nat) : Prop where
  row : l ≠ [] → aget H (1099511627776 + L) = some ⟨0, false, el (nats l)⟩
  lt : l ≠ [] → L < n
  neT : l ≠ [] → L ≠ T
  ne : l ≠ [] → ∀ i, i < R → ids i ≠ L
theorem HL.nil (H : Mem) (n T : Nat) (ids : Nat → Nat) (R L : Nat) : HL H n T ids R L [] := ⟨by simp, by simp, by simp, by simp⟩
theorem HL.setRow {H : Mem} {n T : Nat} {ids : Nat → Nat} {R L : Nat} {l : List Nat} (h : HL H n T ids R L l) {i : Nat} (hi : i < R) (B : Blk) : HL (aput (1099511627776 + ids i) B H) n T ids R L l :=
  ⟨fun hl => by rw [aget_hb, if_neg (h.ne hl i hi).symm]; exact h.row hl, h.lt, h.neT, h.ne⟩
theorem HL.swap {H : Mem} {n T : Nat} {ids : Nat → Nat} {R L : Nat} {l : List Nat} (h : HL H n T ids R L l) {p r : Nat} (hp : p < R) (hr : r < R) (B : Blk) : HL (aput (1099511627776 + T) B H) n T (fun j => if j = r then ids p else if j = p then ids r else ids j) R L l :=
  ⟨fun hl => by rw [aget_hb, if_neg (h.neT hl)]; exact h.row hl, h.lt, h.neT, fun hl i hi => by
    split
    · exact h.ne hl p hp
    · split
      · exact h.ne hl r hr
      · exact h.ne hl i hi⟩
/-- The leaders' row grows: a new block. -/
theorem HT.grow {H : Mem} {n T : Nat} {ids : Nat → Nat} {R C L : Nat} {f : Tb} {l : List Nat} (h : HT H n T ids R C f) (hl : HL H n T ids R L l) (x : Nat) :
    HT (hput ⟨0, false, el (nats (l ++ [x]))⟩ (if l = [] then H else adel (1099511627776 + L) H)) (n + 1) T ids R C f ∧ HL (hput ⟨0, false, el (nats (l ++ [x]))⟩ (if l = [] then H else adel (1099511627776 + L) H)) (n + 1) T ids R n (l ++ [x]) := by
  have h2 : HT (if l = [] then H else adel (1099511627776 + L) H) n T ids R C f := by
    by_cases e : l = []
    · rw [if_pos e]; exact h
    · rw [if_neg e]; exact h.del (hl.neT e) (hl.ne e)
  obtain ⟨h3, h4⟩ := h2.new ⟨0, false, el (nats (l ++ [x]))⟩
  exact ⟨h3, fun _ => h4, fun _ => Nat.lt_succ_self n, fun _ => by have := h.ltT; omega, fun _ i hi => by have := h.lt i hi; omega⟩
/-- A pivot as a number; -1: none. -/
def pivI : Option Nat → Int
  | some p => (p : Int)
  | none => -1
theorem piv_is {R c r p : Nat} {f : Tb} (h1 : r ≤ p) (h2 : p < R) (h3 : f p c ≠ 0) (h4 : ∀ j, r ≤ j → j < p → f j c = 0) : piv R f c r = some p := by
  unfold piv
  rw [List.find?_range'_eq_some]
  refine ⟨by simpa using h3, by rw [List.mem_range'_1]; omega, fun j hj1 hj2 => by simp [h4 j hj1 hj2]⟩
theorem piv_no {R c r : Nat} {f : Tb} (h : ∀ j, r ≤ j → j < R → f j c = 0) : piv R f c r = none := by
  unfold piv
  rw [List.find?_eq_none]
  intro j hj
  rw [List.mem_range'_1] at hj
  simp [h j hj.1 (by omega)]
theorem sign_zero (q : Rat) : (q.num.sign = 0) = (q = 0) := by
  rw [Int.sign_eq_zero_iff_zero, Rat.num_eq_zero]
/-- A row whose first numbers have been turned. -/
def mx' (k : Nat) (g1 g0 : Nat → Rat) : Nat → Rat := fun j => if j < k then g1 j else g0 j
theorem mx_at (k : Nat) (g1 g0 : Nat → Rat) : mx' k g1 g0 k = g0 k := if_neg (Nat.lt_irrefl k)
theorem mx_zero (g1 g0 : Nat → Rat) : mx' 0 g1 g0 = g0 := rfl
theorem mx_step (k : Nat) (g1 g0 : Nat → Rat) : (fun j => if j = k then g1 k else mx' k g1 g0 j) = mx' (k + 1) g1 g0 := by
  funext j
  unfold mx'
  by_cases h : j = k
  · rw [if_pos h, if_pos (by omega), h]
  · rw [if_neg h]
    by_cases h2 : j < k
    · rw [if_pos h2, if_pos (by omega)]
    · rw [if_neg h2, if_neg (by omega)]
theorem mx_set {C k : Nat} (g1 g0 : Nat → Rat) : (rw' C (mx' k g1 g0)).set k (can (g1 k)) = rw' C (mx' (k + 1) g1 g0) := by rw [rw_set, mx_step]
theorem mx_all {C : Nat} (g1 g0 : Nat → Rat) {j : Nat} (h : j < C) : mx' C g1 g0 j = g1 j := if_pos h
/-- A table of which one row is another one. -/
def rwAt (f : Tb) (r : Nat) (g : Nat → Rat) : Tb := fun j => if j = r then g else f j
theorem rwAt_same (f : Tb) (r : Nat) (g : Nat → Rat) : rwAt f r g r = g := if_pos rfl
theorem rwAt_ne (f : Tb) {r j : Nat} (g : Nat → Rat) (h : j ≠ r) : rwAt f r g j = f j := if_neg h
theorem rwAt_rwAt (f : Tb) (r : Nat) (g g' : Nat → Rat) : rwAt (rwAt f r g) r g' = rwAt f r g' := by
  funext j; unfold rwAt
  by_cases h : j = r
  · rw [if_pos h, if_pos h]
  · rw [if_neg h, if_neg h, if_neg h]
theorem rwAt_id (f : Tb) (r : Nat) : rwAt f r (f r) = f := by
  funext j; unfold rwAt
  by_cases h : j = r
  · rw [if_pos h, h]
  · rw [if_neg h]
theorem HT.put {H : Mem} {n T : Nat} {ids : Nat → Nat} {R C : Nat} {f : Tb} (h : HT H n T ids R C f) {i : Nat} (hi : i < R) (g : Nat → Rat) :
    HT (aput (1099511627776 + ids i) ⟨0, false, el (rw' C g)⟩ H) n T ids R C (rwAt f i g) := h.setRow hi g
theorem Hp.keeps {H : Mem} (h : Hp H) {np : Nat} {v : V} : keeps np v H = H := by
  unfold R.keeps
  rw [List.filter_eq_self]
  intro p hp
  have := h p hp
  simp [this]
section
variable {j k : Nat}
@[simp] theorem eq_hb (h : k < 1099511627776) : (k = 1099511627776 + j) = False := propext ⟨fun h => by omega, False.elim⟩
@[simp] theorem hb_eq (h : k < 1099511627776) : (1099511627776 + j = k) = False := propext ⟨fun h => by omega, False.elim⟩
@[simp] theorem hb_lt (h : k < 1099511627776) : (1099511627776 + j < k) = False := propext ⟨fun h => by omega, False.elim⟩
@[simp] theorem lt_hb (h : k < 1099511627776) : (k < 1099511627776 + j) = True := propext ⟨fun _ => trivial, fun _ => by omega⟩
end
attribute [simp high] cntOf_lit hput_lit aget_put_low aget_del_low aget_put_same aput_put_same

/-! Tables whose rows need not be of one length. -/
instance : Inhabited (List RQ) := ⟨[]⟩
/-- The cells of a table: the numbers of its rows' blocks. -/
def refsG (ids : Nat → Nat) (rows : List (List RQ)) : List D := (List.range rows.length).map fun i => .ref (1099511627776 + ids i) 3 0 (ix rows i).length
@[simp] theorem refsG_len (ids : Nat → Nat) (rows : List (List RQ)) : (refsG ids rows).length = rows.length := by simp [refsG]
theorem refsG_get {ids : Nat → Nat} {rows : List (List RQ)} {i : Nat} (h : i < rows.length) : (refsG ids rows)[i]? = some (.ref (1099511627776 + ids i) 3 0 (ix rows i).length) := by simp [refsG, h]
theorem ix_app {α : Type} [Inhabited α] {l : List α} {x : α} {i : Nat} (h : i < l.length) : ix (l ++ [x]) i = ix l i := by
  simp [ix, List.getElem?_append_left h]
theorem ix_last {α : Type} [Inhabited α] {l : List α} {x : α} : ix (l ++ [x]) l.length = x := by simp [ix]
theorem refsG_app (ids : Nat → Nat) (rows : List (List RQ)) (r : List RQ) : refsG ids (rows ++ [r]) = refsG ids rows ++ [.ref (1099511627776 + ids rows.length) 3 0 r.length] := by
  unfold refsG
  rw [List.length_append, List.length_cons, List.length_nil, List.range_succ, List.map_append, List.map_cons, List.map_nil, ix_last]
  congr 1
  apply List.map_congr_left
  intro i hi
  rw [ix_app (List.mem_range.1 hi)]
theorem ix_set {α : Type} [Inhabited α] {l : List α} {x : α} {i j : Nat} (hj : j < l.length) : ix (l.set i x) j = if j = i then x else ix l j := by
  unfold ix
  simp only [List.getD_eq_getElem?_getD, List.getElem?_set]
  by_cases h : i = j
  · subst h; simp [hj]
  · rw [if_neg h, if_neg (fun e => h e.symm)]
theorem refsG_set {ids : Nat → Nat} {rows : List (List RQ)} {i n : Nat} {r : List RQ} (hi : i < rows.length) : (refsG ids rows).set i (.ref (1099511627776 + n) 3 0 r.length) = refsG (fun j => if j = i then n else ids j) (rows.set i r) := by
  apply List.ext_getElem
  · simp
  · intro j h1 h2
    have hj : j < rows.length := by simpa using h1
    rw [List.getElem_set]
    simp only [refsG, List.getElem_map, List.getElem_range, ix_set hj]
    by_cases h : i = j
    · subst h; simp
    · rw [if_neg h, if_neg (fun e => h e.symm), if_neg (fun e => h e.symm)]
/-- The heap holds a table. -/
structure HG (H : Mem) (n T : Nat) (ids : Nat → Nat) (rows : List (List RQ)) : Prop where
  hp : Hp H
  cnt : cntOf H = 1099511627776 + n
  tab : aget H (1099511627776 + T) = some ⟨0, false, refsG ids rows⟩
  row : ∀ i, i < rows.length → aget H (1099511627776 + ids i) = some ⟨0, false, el (ix rows i)⟩
  inj : ∀ i j, i < rows.length → j < rows.length → ids i = ids j → i = j
  ne : ∀ i, i < rows.length → ids i ≠ T
  lt : ∀ i, i < rows.length → ids i < n
  ltT : T < n
theorem refsG_tbl (ids : Nat → Nat) (R C : Nat) (f : Tb) : refsG ids (tbl R C f) = refs ids R C := by
  unfold refsG refs
  rw [tbl_len]
  apply List.map_congr_left
  intro i hi
  rw [tbl_ix (List.mem_range.1 hi), rw_len]
theorem HG.ht {H : Mem} {n T : Nat} {ids : Nat → Nat} {R C : Nat} {f : Tb} (h : HG H n T ids (tbl R C f)) : HT H n T ids R C f := by
  have hl : (tbl R C f).length = R := tbl_len R C f
  exact ⟨h.hp, h.cnt, by rw [h.tab, refsG_tbl], fun i hi => by rw [h.row i (by omega), tbl_ix hi], fun i j hi hj => h.inj i j (by omega) (by omega), fun i hi => h.ne i (by omega), fun i hi => h.lt i (by omega), h.ltT⟩
theorem asDD_tabG {μ : Mem} {T : Nat} {ids : Nat → Nat} {rows : List (List RQ)} {k0 : Nat} (ht : aget μ (1099511627776 + T) = some ⟨0, false, refsG ids rows⟩) (hr : ∀ i, i < rows.length → aget μ (1099511627776 + ids i) = some ⟨0, false, el (ix rows i)⟩) :
    asDD μ k0 (.own (1099511627776 + T) 1 0 rows.length) = some (.sl 1 (el rows)) := by
  simp only [asDD, ht]
  rw [if_pos (by simp)]
  congr 2
  apply List.ext_getElem
  · simp
  · intro i h1 h2
    have hi : i < rows.length := by simpa using h2
    have e1 : (el rows)[i]? = some (.sl 3 (el (ix rows i))) := by
      have := view_el (l := rows) (i := i) hi
      rw [view_f, Nat.mul_one] at this
      exact this
    have e2 : (el rows)[i] = .sl 3 (el (ix rows i)) := by
      rw [List.getElem?_eq_getElem h2] at e1
      exact Option.some.inj e1
    rw [e2]
    simp only [List.getElem_map, List.drop_zero, refsG]
    simp only [Nat.mul_one, List.getElem_take, List.getElem_map, List.getElem_range, un, hr i hi]
    rw [if_pos (by simp)]
    rw [List.drop_zero, List.take_of_length_le (by simp)]
theorem HG.deep {H : Mem} {n T k0 : Nat} {ids : Nat → Nat} {rows : List (List RQ)} (h : HG H n T ids rows) : asDD H k0 (.own (1099511627776 + T) 1 0 rows.length) = some (.sl 1 (el rows)) := asDD_tabG h.tab h.row
/-- Rows alone: a block each, in their order. -/
structure HP (H : Mem) (rows : List (List RQ)) : Prop where
  hp : Hp H
  cnt : cntOf H = 1099511627776 + rows.length
  row : ∀ i, i < rows.length → aget H (1099511627776 + i) = some ⟨0, false, el (ix rows i)⟩
theorem HP.nil : HP [] [] := ⟨Hp.nil, rfl, fun i hi => by simp at hi⟩
theorem HP.push {H : Mem} {rows : List (List RQ)} (h : HP H rows) (r : List RQ) : HP (hput ⟨0, false, el r⟩ H) (rows ++ [r]) := by
  refine ⟨h.hp.hput (by rw [h.cnt]; omega) _, by rw [cntOf_hput, h.cnt, List.length_append]; rfl, fun i hi => ?_⟩
  rw [aget_hput (by rw [h.cnt]; omega) _ (by omega), h.cnt]
  rw [List.length_append, List.length_cons, List.length_nil] at hi
  by_cases e : i = rows.length
  · rw [if_pos (by omega), e, ix_last]
  · rw [if_neg (by omega), ix_app (by omega), h.row i (by omega)]
theorem HP.tab {H : Mem} {rows : List (List RQ)} (h : HP H rows) : HG (hput ⟨0, false, refsG (fun i => i) rows⟩ H) (rows.length + 1) rows.length (fun i => i) rows := by
  have hg : ∀ b, aget (hput ⟨0, false, refsG (fun i => i) rows⟩ H) (1099511627776 + b) = if b = rows.length then some ⟨0, false, refsG (fun i => i) rows⟩ else aget H (1099511627776 + b) := fun b => by
    rw [aget_hput (by rw [h.cnt]; omega) _ (by omega), h.cnt]
    by_cases e : b = rows.length
    · rw [if_pos e, if_pos (by omega)]
    · rw [if_neg e, if_neg (by omega)]
  exact ⟨h.hp.hput (by rw [h.cnt]; omega) _, by rw [cntOf_hput, h.cnt]; omega, by rw [hg, if_pos rfl], fun i hi => by rw [hg, if_neg (by omega), h.row i hi], fun i j _ _ e => e, fun i hi => by omega, fun i hi => by omega, by omega⟩
/-- A row grows: it moves to a new block. -/
theorem HG.grow {H : Mem} {n T : Nat} {ids : Nat → Nat} {rows : List (List RQ)} (h : HG H n T ids rows) {i : Nat} (hi : i < rows.length) (r : List RQ) :
    HG (aput (1099511627776 + T) ⟨0, false, refsG (fun j => if j = i then n else ids j) (rows.set i r)⟩ (hput ⟨0, false, el r⟩ (adel (1099511627776 + ids i) H))) (n + 1) T (fun j => if j = i then n else ids j) (rows.set i r) := by
  have hlT := h.ltT
  have hc : cntOf (adel (1099511627776 + ids i) H) = 1099511627776 + n := by rw [← h.cnt]; exact cntOf_low (aget_adel_ne (by omega) _)
  have hg : ∀ b, b ≠ T → b ≠ ids i → aget (aput (1099511627776 + T) ⟨0, false, refsG (fun j => if j = i then n else ids j) (rows.set i r)⟩ (hput ⟨0, false, el r⟩ (adel (1099511627776 + ids i) H))) (1099511627776 + b) = if b = n then some ⟨0, false, el r⟩ else aget H (1099511627776 + b) := fun b h1 h2 => by
    rw [aget_hb, if_neg h1, aget_hput (by rw [hc]; omega) _ (by omega), hc]
    by_cases e : b = n
    · rw [if_pos e, if_pos (by omega)]
    · rw [if_neg e, if_neg (by omega), aget_adel_ne (by omega)]
  have hll : (rows.set i r).length = rows.length := by simp
  refine ⟨((h.hp.del).hput (by rw [hc]; omega) _).put (by omega) _, ?_, by rw [aget_hb, if_pos rfl], fun j hj => ?_, fun j k hj hk => ?_, fun j hj => ?_, fun j hj => ?_, by omega⟩
  · rw [cntOf_low (aget_aput_ne (by omega) _ _), cntOf_hput, hc]; omega
  · rw [hll] at hj
    rw [ix_set hj]
    by_cases e : j = i
    · rw [if_pos e, if_pos e, hg n (by omega) (by have := h.lt i hi; omega), if_pos rfl]
    · rw [if_neg e, if_neg e, hg _ (h.ne j hj) (fun e' => e (h.inj j i hj hi e')), if_neg (by have := h.lt j hj; omega), h.row j hj]
  · rw [hll] at hj hk
    have l1 := h.lt j hj
    have l2 := h.lt k hk
    split <;> split <;> intro he
    · omega
    · omega
    · omega
    · exact h.inj j k hj hk he
  · rw [hll] at hj
    split
    · omega
    · exact h.ne j hj
  · rw [hll] at hj
    split
    · omega
    · have := h.lt j hj; omega
attribute [simp] V.ren V.ren1
/-- A table's numbers in their form. -/
def clT (a : List (List RQ)) : List (List RQ) := a.map fun r => r.map fun x => can x.v
@[simp] theorem clT_len (a : List (List RQ)) : (clT a).length = a.length := by simp [clT]
/-- What a table says. -/
def tf (a : List (List RQ)) : Tb := fun i k => (ix (ix a i) k).v
/-- Are the rows of one length? How long is the first? -/
def rectB (a : List (List RQ)) : Bool := a.all fun r => r.length == (ix a 0).length
def colsN (a : List (List RQ)) : Nat := (ix a 0).length
theorem rect_row {a : List (List RQ)} (h : rectB a = true) {i : Nat} (hi : i < a.length) : (ix a i).length = colsN a := by
  unfold rectB at h
  rw [List.all_eq_true] at h
  have : ix a i = a[i] := by simp [ix, hi]
  rw [this]
  simpa [colsN] using h a[i] (List.getElem_mem hi)
theorem clT_ix {a : List (List RQ)} {i : Nat} (hi : i < a.length) : ix (clT a) i = (ix a i).map fun x => can x.v := by simp [ix, clT, hi]
theorem clT_tbl {a : List (List RQ)} (h : rectB a = true) : clT a = tbl a.length (colsN a) (tf a) := by
  apply List.ext_getElem
  · simp
  · intro i h1 h2
    have hi : i < a.length := by simpa using h1
    have hr := rect_row h hi
    have e : ix a i = a[i] := by simp [ix, hi]
    rw [e] at hr
    simp only [clT, tbl, List.getElem_map, List.getElem_range]
    unfold rw'
    apply List.ext_getElem
    · simp [hr]
    · intro k h3 h4
      have hk : k < a[i].length := by simpa using h3
      simp only [List.getElem_map, List.getElem_range, tf, e]
      congr 2
      simp [ix, hk]
@[simp] theorem rows_get {l : List (List RQ)} {i : Nat} (h : i < l.length) : (el l)[i]? = some (.sl 3 (el (ix l i))) := by
  have := view_el (l := l) (i := i) h
  rw [view_f, Nat.mul_one] at this
  exact this
@[simp] theorem rows_ofs {l : List (List RQ)} {i : Nat} (h : i < l.length) : (el l)[ofs 1 i]? = some (.sl 3 (el (ix l i))) := by
  rw [ofs, Nat.mul_one]; exact rows_get h
@[simp] theorem cnt_le_hb (j : Nat) : (1099511627775 ≤ 1099511627776 + j) = True := propext ⟨fun _ => trivial, fun _ => by omega⟩
@[simp] theorem hb_beq {j k : Nat} (h : k < 1099511627776) : (1099511627776 + j == k) = false := by simp; omega
@[simp] theorem beq_hb {j k : Nat} (h : k < 1099511627776) : (k == 1099511627776 + j) = false := by simp; omega
theorem HG.grow_at {H : Mem} {n T : Nat} {ids : Nat → Nat} {rows : List (List RQ)} (h : HG H n T ids rows) {i : Nat} (hi : i < rows.length) (B : Blk) :
    cntOf (adel (1099511627776 + ids i) H) = 1099511627776 + n ∧ aget (hput B (adel (1099511627776 + ids i) H)) (1099511627776 + n) = some B ∧ aget (hput B (adel (1099511627776 + ids i) H)) (1099511627776 + T) = some ⟨0, false, refsG ids rows⟩ := by
  have hlT := h.ltT
  have hc : cntOf (adel (1099511627776 + ids i) H) = 1099511627776 + n := by rw [← h.cnt]; exact cntOf_low (aget_adel_ne (by omega) _)
  refine ⟨hc, ?_, ?_⟩
  · rw [aget_hput (by rw [hc]; omega) _ (by omega), hc, if_pos rfl]
  · rw [aget_hput (by rw [hc]; omega) _ (by omega), hc, if_neg (by omega), aget_adel_ne (by have := h.ne i hi; omega), h.tab]
theorem ix_get {α : Type} [Inhabited α] {l : List α} {i : Nat} (h : i < l.length) : ix l i = l[i] := by
  rw [ix, List.getD_eq_getElem?_getD, List.getElem?_eq_getElem h]; rfl
/-- Two tables' rows, one behind the other. -/
def wideT (a b : List (List RQ)) : List (List RQ) := (List.range a.length).map fun i => ix (clT a) i ++ ix (clT b) i
/-- The same for so many rows. -/
def wideI (a b : List (List RQ)) (i : Nat) : List (List RQ) := (List.range a.length).map fun j => if j < i then ix (clT a) j ++ ix (clT b) j else ix (clT a) j
@[simp] theorem wideI_len (a b : List (List RQ)) (i : Nat) : (wideI a b i).length = a.length := by simp [wideI]
theorem wideI_ix {a b : List (List RQ)} {i : Nat} (h : i < a.length) : ix (wideI a b i) i = ix (clT a) i := by simp [ix, wideI, h]
theorem wideI_zero (a b : List (List RQ)) : wideI a b 0 = clT a := by
  apply List.ext_getElem
  · simp
  · intro j h1 h2
    have hj : j < (clT a).length := h2
    simp only [wideI, List.getElem_map, List.getElem_range, Nat.not_lt_zero, if_false]
    rw [ix_get hj]
theorem wideI_set {a b : List (List RQ)} {i : Nat} (h : i < a.length) : (wideI a b i).set i (ix (clT a) i ++ ix (clT b) i) = wideI a b (i + 1) := by
  apply List.ext_getElem
  · simp
  · intro j h1 h2
    rw [List.getElem_set]
    simp only [wideI, List.getElem_map, List.getElem_range]
    by_cases e : i = j
    · subst e; rw [if_pos rfl, if_pos (by omega)]
    · rw [if_neg e]
      by_cases e2 : j < i
      · rw [if_pos e2, if_pos (by omega)]
      · rw [if_neg e2, if_neg (by omega)]
theorem wideI_all (a b : List (List RQ)) : wideI a b a.length = wideT a b := by
  unfold wideI wideT
  apply List.map_congr_left
  intro j hj
  rw [if_pos (List.mem_range.1 hj)]
/-- A table with another one beside it, as numbers. -/
theorem wideT_tbl {a b : List (List RQ)} (ha : rectB a = true) {m : Nat} (hb : ∀ i, i < a.length → i < b.length ∧ (ix b i).length = m) : wideT a b = tbl a.length (colsN a + m) (besF (colsN a) (tf a) (tf b)) := by
  apply List.ext_getElem
  · simp [wideT]
  · intro i h1 h2
    have hi : i < a.length := by simpa [wideT] using h1
    obtain ⟨hb1, hb2⟩ := hb i hi
    simp only [wideT, tbl, List.getElem_map, List.getElem_range]
    rw [clT_ix hi, clT_ix hb1]
    unfold rw'
    have hr := rect_row ha hi
    apply List.ext_getElem
    · simp [hr, hb2]
    · intro k h3 h4
      rw [List.getElem_append]
      simp only [List.length_map, List.getElem_map, List.getElem_range, besF, hr]
      by_cases hk : k < colsN a
      · rw [dif_pos hk, if_pos hk]
        simp only [tf]
        congr 2
        rw [ix_get (l := ix a i) (by omega)]
      · have hk2 : k - colsN a < (ix b i).length := by
          rw [List.length_append, List.length_map, List.length_map, hr] at h3
          omega
        rw [dif_neg hk, if_neg hk]
        simp only [tf]
        congr 2
        rw [ix_get (l := ix b i) hk2]
@[simp] theorem nrefL_nil : nrefL [] = true := rfl
theorem un_rqs (μ : Mem) (l : List RQ) : ∀ d ∈ el l, un μ d = d := by
  intro d hd
  simp only [el, List.mem_flatMap] at hd
  obtain ⟨x, _, h2⟩ := hd
  rw [d_rq, cells_ag, RQ.c] at h2
  simp only [List.mem_cons, List.mem_nil_iff, or_false, List.not_mem_nil] at h2
  rcases h2 with rfl | rfl | rfl <;> rfl
theorem un_nats (μ : Mem) (l : List Nat) : ∀ d ∈ el (nats l), un μ d = d := by
  intro d hd
  simp only [el, List.mem_flatMap] at hd
  obtain ⟨x, _, h2⟩ := hd
  rw [d_int, cells_int, List.mem_singleton] at h2
  subst h2; rfl
/-- The leaders, as they are told. -/
theorem lead_deep {H : Mem} {n T : Nat} {ids : Nat → Nat} {R L : Nat} {l : List Nat} (h : HL H n T ids R L l) (hl : l ≠ []) (k0 : Nat) : asDD H k0 (.own (1099511627776 + L) 1 0 l.length) = some (.sl 1 (el (nats l))) :=
  asDD_row (h.row hl) (by simp) (un_nats _ _)
/-- Rows of numbers as they are. -/
def rq' (C : Nat) (g : Nat → RQ) : List RQ := (List.range C).map g
@[simp] theorem rq_len (C : Nat) (g : Nat → RQ) : (rq' C g).length = C := by simp [rq']
theorem rq_set {C k : Nat} (g : Nat → RQ) (v : RQ) : (rq' C g).set k v = rq' C (fun j => if j = k then v else g j) := by
  apply List.ext_getElem
  · simp
  · intro i h1 h2
    rw [List.getElem_set]
    simp only [rq', List.getElem_map, List.getElem_range]
    by_cases h : k = i
    · subst h; simp
    · rw [if_neg h, if_neg (fun e => h e.symm)]
theorem rq_congr {C : Nat} {g g' : Nat → RQ} (h : ∀ k, k < C → g k = g' k) : rq' C g = rq' C g' := by
  unfold rq'; apply List.map_congr_left; intro k hk; exact h k (List.mem_range.1 hk)
theorem rep_rq (C : Nat) (z : RQ) : List.replicate C z = rq' C (fun _ => z) := by
  apply List.ext_getElem
  · simp
  · intro i h1 h2; simp [rq']
/-- The first so many numbers are 0. -/
def zr (i : Nat) : Nat → RQ := fun k => if k < i then can 0 else ⟨false, [], []⟩
theorem zr_set {C i : Nat} : (rq' C (zr i)).set i (can 0) = rq' C (zr (i + 1)) := by
  rw [rq_set]
  apply rq_congr
  intro k _
  unfold zr
  by_cases e : k = i
  · rw [if_pos e, if_pos (by omega)]
  · rw [if_neg e]
    by_cases e2 : k < i
    · rw [if_pos e2, if_pos (by omega)]
    · rw [if_neg e2, if_neg (by omega)]
theorem zr_all (C : Nat) : rq' C (zr C) = rw' C (fun _ => 0) := by
  unfold rw'
  apply rq_congr (g := zr C) (g' := fun _ => can 0)
  intro k hk
  exact if_pos hk
end Go.Proofs.R
