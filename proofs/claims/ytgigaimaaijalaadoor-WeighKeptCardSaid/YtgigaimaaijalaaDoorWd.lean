/- The table's at, again and first. -/
import Derived.Test.YtgigaimaaijalaaDoorWc
import Derived.Laws.Alloc2
import Derived.Handy
namespace Go.Proofs.YtgigaimaaijalaaDoor
open Go Go.Proofs.R
theorem Old.alloc (w : World) (o : Obj) : Old w (w.alloc o) := by
  intro g hg
  show (w.heap.push o)[g]? = w.heap[g]?
  rw [Array.getElem?_push, if_neg (by omega)]
theorem Old.size {w w' : World} (h : Old w w') : w.heap.size ≤ w'.heap.size := by
  rcases Nat.lt_or_ge w'.heap.size w.heap.size with h1 | h1
  · have := h _ h1
    rw [Array.getElem?_eq_none (Nat.le_refl _), Array.getElem?_eq_getElem h1] at this
    cases this
  · exact h1
/-- The call's two new variables. -/
def two (b off : Nat) (w : World) : World := (w.alloc (.cells #[.pointer (some ⟨b, off, none⟩)] 23)).alloc (.cells #[.bool false, .slice none 0 0] 28)
/-- Nothing of what was there has turned. -/
structure OldW (w w' : World) : Prop where
  os : w'.os = w.os
  tape : w'.tape = w.tape
  output : w'.output = w.output
  old : Old w w'
theorem Old.trans {a b c : World} (h : Old a b) (k : Old b c) : Old a c := fun g hg => (k g (Nat.lt_of_lt_of_le hg h.size)).trans (h g hg)
set_option maxRecDepth 100000 in
set_option maxHeartbeats 1600000 in
theorem at_again (b off : Nat) (d : Int) (hd : ¬ d = 0) (fb fo fl fc : Nat) (n : Nat) (nb : Bool) (sa : Option Addr) (sl sc : Nat) (w : World) (hb : b < w.heap.size) (hfb : fb < w.heap.size)
    (h0 : w.cell? ⟨b, off, none⟩ = some (.int .u32 d)) (h3 : w.cell? ⟨b, off + 3, none⟩ = some (.slice (some ⟨fb, fo, none⟩) fl fc)) (hn : n < fl)
    (hx : w.cell? ⟨fb, fo + n * 2, none⟩ = some (.bool nb)) (hy : w.cell? ⟨fb, fo + n * 2 + 1, none⟩ = some (.slice sa sl sc)) :
    Calls Tryd.prog 23 #[.pointer (some ⟨b, off, none⟩), .int .i64 (n : Int)] w fun e w' => e = .returned (.agg #[.bool nb, .slice sa sl sc]) ∧ OldW w w' := by
  have hmf : ∀ (fn : Fn) (first cap : Array Value) (w : World), (Instr.makeFunc fn first cap).run Tryd.prog w = .ok (.func fn first cap) w := fun _ _ _ _ => rfl
  have hs : (w.alloc (.cells #[.pointer (some ⟨b, off, none⟩)] 23)).heap.size = w.heap.size + 1 := Array.size_push ..
  have past : ∀ (g o : Nat) (v : Value), g < w.heap.size → w.cell? ⟨g, o, none⟩ = some v → ((w.alloc (.cells #[.pointer (some ⟨b, off, none⟩)] 23)).alloc (.cells #[.bool false, .slice none 0 0] 28)).cell? ⟨g, o, none⟩ = some v := by
    intro g o v ha hv
    rw [World.cell?_alloc_past _ _ _ (by rw [hs]; omega), World.cell?_alloc_past _ _ _ ha]; exact hv
  have a0 := past b off _ hb h0
  have a3 := past b (off + 3) _ hb h3
  have ax := past fb (fo + n * 2) _ hfb hx
  have ay := past fb (fo + n * 2 + 1) _ hfb hy
  have ap : ((w.alloc (.cells #[.pointer (some ⟨b, off, none⟩)] 23)).alloc (.cells #[.bool false, .slice none 0 0] 28)).cell? ⟨w.heap.size, 0, none⟩ = some (.pointer (some ⟨b, off, none⟩)) := by
    rw [World.cell?_alloc_past _ _ _ (by rw [hs]; omega)]; simp
  have n0 : (0 : Int) ≤ (n : Int) := by omega
  have n1 : (n : Int) < (fl : Int) := by omega
  have n2 : ((n : Int)).toNat = n := by omega
  go_enter Tryd.func23, Tryd.ntmps23
  go_wp2_with (first | (go_at_call 47; refine (do_done ⟨b, off, none⟩ d hd _ _ a0).mono ?_; rintro e w' ⟨rfl, rfl⟩) | go_in)
  go_returns
  exact ⟨rfl, rfl, rfl, rfl, (Old.alloc w _).trans (Old.alloc _ _)⟩
end Go.Proofs.YtgigaimaaijalaaDoor
