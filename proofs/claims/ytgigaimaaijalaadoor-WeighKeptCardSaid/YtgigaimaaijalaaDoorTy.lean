/- From the interpreter's answer to the law's call, when the law leaves blocks on the heap. -/
import Derived.Test.YtgigaimaaijalaaDoorRg
namespace Go.Proofs.R
open Go Go.RowKit
set_option linter.unusedSimpArgs false
section
variable {P : Program} {T : List (Nat × Obj)} {ip : Ip} {nv : Nv}
/-- Arguments that are data, and the result is true. -/
theorem law_calls_b (hp : ProgOK P T ip nv) {w : World} (hT : ∀ p, p ∈ T → w.heap[p.1]? = some p.2) {f : Nat} {ds : List D} {μ : Mem} (h : EX ip nv (.call f (ds.map .d) []) = some (.ret (.d (.bool true)) μ))
    {ys : List Value} (hl : ys.length = ds.length) (hr : ∀ (i : Nat) (d : D), ds[i]? = some d → ∃ y, ys[i]? = some y ∧ rd w OF d y) :
    Calls P f ⟨ys⟩ w fun e w' => (∃ y, e = .returned y ∧ y = .bool true) ∧ Below w.heap.size w w' := by
  let O0 : Outs := ⟨fun _ _ => False, 1099511627776, fun _ => False, Nat.le_refl _⟩
  have hO : ∀ m, Ow O0 m [] = OF := by
    intro m
    unfold Ow OF
    congr 1
    · funext g i
      simp only [eq_iff_iff, iff_false]
      rintro (h | ⟨b, B, s, h, _⟩)
      · exact h
      · cases h
    · funext c
      exact refOf_none rfl c
  have hX : ∀ m g, ¬ XOf m [] g := by rintro m g ⟨b, B, s, h, _⟩; cases h
  have := EX_ok hp h O0 (fun _ => none) ys w (by
      rw [hO]
      refine rvL_of (by simpa using hl) fun i v hv => ?_
      rw [List.getElem?_map] at hv
      cases hd : ds[i]? with
      | none => rw [hd] at hv; cases hv
      | some d =>
        rw [hd] at hv
        cases hv
        exact hr i d hd)
    (fun b B h => by cases h) ⟨(fun b B h => by cases h), (fun b b' B B' g s s' h => by cases h)⟩ (fun g i h => h.elim)
    (fun v hv b hb => by
      obtain ⟨d, _, rfl⟩ := List.mem_map.1 hv
      simp [V.says, V.says1] at hb)
    (fun p hp => ⟨hT p hp, hX _ _⟩) (Heap.empty (by omega) (Nat.le_refl _) rfl)
  refine this.mono ?_
  rintro e w' ⟨y, m', rfl, h1, _, h2, _, h3, _⟩
  exact ⟨⟨y, rfl, h1⟩, h3.os, h3.tape, h3.output, h3.size, fun k hk => h3.block k hk (hX _ k)⟩
end
end Go.Proofs.R
