/- Linear functions of so many numbers: two are one if they are so at the unit points. -/
import Derived.Test.YtnmbpainnkdonaaGreatDoorGc
set_option linter.unusedSimpArgs false
set_option linter.unusedVariables false
namespace Go.Proofs.YtnmbpainnkdonaaGreatDoor
open Go Go.Proofs.R
/-- A sum of numbers. -/
def sm : Nat → (Nat → Rat) → Rat
  | 0, _ => 0
  | m + 1, f => sm m f + f m
theorem sm_congr {f g : Nat → Rat} : ∀ {m : Nat}, (∀ j, j < m → f j = g j) → sm m f = sm m g
  | 0, _ => rfl
  | m + 1, h => by rw [sm, sm, sm_congr (fun j hj => h j (by omega)), h m (by omega)]
theorem sm_add (f g : Nat → Rat) : ∀ m, sm m (fun j => f j + g j) = sm m f + sm m g
  | 0 => by simp [sm, Rat.add_zero]
  | m + 1 => by rw [sm, sm, sm, sm_add f g m]; grind
theorem sm_mul (a : Rat) (f : Nat → Rat) : ∀ m, sm m (fun j => a * f j) = a * sm m f
  | 0 => by simp [sm]
  | m + 1 => by rw [sm, sm, sm_mul a f m]; grind
theorem sm_zero : ∀ m, sm m (fun _ => 0) = 0
  | 0 => rfl
  | m + 1 => by rw [sm, sm_zero m, Rat.add_zero]
theorem sm_one (c : Nat → Rat) (v : Nat → Rat) (k : Nat) : ∀ m, sm m (fun j => if j = k then v j else 0) = if k < m then v k else 0
  | 0 => by simp [sm]
  | m + 1 => by
    rw [sm, sm_one c v k m]
    by_cases h : m = k
    · subst h; simp [Rat.zero_add]
    · by_cases h2 : k < m
      · rw [if_pos h2, if_neg h, if_pos (by omega)]; grind
      · rw [if_neg h2, if_neg h, if_neg (by omega)]; grind
/-- A unit point. -/
def dl (j : Nat) : Nat → Rat := fun t => if t = j then 1 else 0
/-- A function that is a sum of so many numbers, each so many times. -/
def Lin (m : Nat) (F : (Nat → Rat) → Rat) : Prop := ∃ c : Nat → Rat, ∀ v, F v = sm m fun j => c j * v j
theorem Lin.zero {m : Nat} : Lin m fun _ => 0 := ⟨fun _ => 0, fun v => by
  rw [sm_congr (g := fun _ => 0) (fun j _ => by simp), sm_zero]⟩
theorem Lin.at {m j : Nat} (h : j < m) : Lin m fun v => v j := ⟨fun t => if t = j then 1 else 0, fun v => by
  rw [sm_congr (g := fun t => if t = j then v t else 0) (fun t _ => by by_cases h : t = j <;> simp [h]), sm_one (fun _ => 0) v j m, if_pos h]⟩
theorem Lin.add {m : Nat} {F G : (Nat → Rat) → Rat} (hF : Lin m F) (hG : Lin m G) : Lin m fun v => F v + G v := by
  obtain ⟨c, hc⟩ := hF
  obtain ⟨d, hd⟩ := hG
  refine ⟨fun j => c j + d j, fun v => ?_⟩
  show F v + G v = _
  rw [hc, hd, ← sm_add]
  exact sm_congr fun j _ => by grind
theorem Lin.mul {m : Nat} {F : (Nat → Rat) → Rat} (a : Rat) (hF : Lin m F) : Lin m fun v => a * F v := by
  obtain ⟨c, hc⟩ := hF
  refine ⟨fun j => a * c j, fun v => ?_⟩
  show a * F v = _
  rw [hc, ← sm_mul]
  exact sm_congr fun j _ => by grind
theorem Lin.sub {m : Nat} {F G : (Nat → Rat) → Rat} (hF : Lin m F) (hG : Lin m G) : Lin m fun v => F v - G v := by
  obtain ⟨c, hc⟩ := hF.add (hG.mul (-1))
  exact ⟨c, fun v => by rw [← hc]; grind⟩
theorem Lin.sum {m : Nat} {F : Nat → (Nat → Rat) → Rat} : ∀ k, (∀ i, i < k → Lin m (F i)) → Lin m fun v => sm k fun i => F i v
  | 0, _ => Lin.zero
  | k + 1, h => by
    show Lin m fun v => sm k (fun i => F i v) + F k v
    exact (Lin.sum k fun i hi => h i (by omega)).add (h k (by omega))
theorem Lin.comp {m k : Nat} {H : (Nat → Rat) → Rat} (hH : Lin k H) {G : (Nat → Rat) → Nat → Rat} (hG : ∀ s, s < k → Lin m fun v => G v s) : Lin m fun v => H (G v) := by
  obtain ⟨c, hc⟩ := hH
  have : (fun v => H (G v)) = fun v => sm k fun s => c s * G v s := by funext v; exact hc _
  rw [this]
  exact Lin.sum k fun i hi => (hG i hi).mul (c i)
/-- What is linear looks at no number beyond. -/
theorem Lin.look {m : Nat} {F : (Nat → Rat) → Rat} (hF : Lin m F) {u v : Nat → Rat} (h : ∀ j, j < m → u j = v j) : F u = F v := by
  obtain ⟨c, hc⟩ := hF
  rw [hc, hc]
  exact sm_congr fun j hj => by rw [h j hj]
theorem Lin.unit {m : Nat} {F : (Nat → Rat) → Rat} {c : Nat → Rat} (hc : ∀ v, F v = sm m fun j => c j * v j) {j : Nat} (h : j < m) : F (dl j) = c j := by
  rw [hc, sm_congr (g := fun t => if t = j then c t else 0) (fun t _ => by by_cases h : t = j <;> simp [dl, h]), sm_one (fun _ => 0) c j m, if_pos h]
theorem Lin.ext {m : Nat} {F G : (Nat → Rat) → Rat} (hF : Lin m F) (hG : Lin m G) (h : ∀ j, j < m → F (dl j) = G (dl j)) (v : Nat → Rat) : F v = G v := by
  obtain ⟨c, hc⟩ := hF
  obtain ⟨d, hd⟩ := hG
  rw [hc, hd]
  refine sm_congr fun j hj => ?_
  have := h j hj
  rw [Lin.unit hc hj, Lin.unit hd hj] at this
  rw [this]
end Go.Proofs.YtnmbpainnkdonaaGreatDoor
