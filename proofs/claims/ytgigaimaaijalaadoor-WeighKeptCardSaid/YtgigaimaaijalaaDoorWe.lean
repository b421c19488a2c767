/- The table's at, the first time. -/
import Derived.Test.YtgigaimaaijalaaDoorWd
namespace Go.Proofs.YtgigaimaaijalaaDoor
open Go Go.Proofs.R
/-- The world behind the slow road. -/
def fin (b off : Nat) (y : Value) (w1 : World) : World := ((w1.setCell ⟨b, off + 3, none⟩ y).drew.setCell ⟨b, off, none⟩ (.int .u32 1)).setCell ⟨b, off + 1, none⟩ (.int .i32 0)
/-- A world is that one. -/
def IsFin (b off : Nat) (y : Value) (w1 w' : World) : Prop := w' = fin b off y w1
/-- The world behind 'at', the first time: that one, and what is told laid in a block of the call's own. -/
def fin2 (b off : Nat) (y : Value) (w1 : World) (k : Nat) (nb : Bool) (z : Value) : World := ((fin b off y w1).setCell ⟨k, 0, none⟩ (.bool nb)).setCell ⟨k, 1, none⟩ z
structure Heap2 (a w' : World) : Prop where
  os : w'.os = a.os
  tape : w'.tape = a.tape
  output : w'.output = a.output
  heap : w'.heap = a.heap
/-- What the products are, at n. -/
def AtN (Q : Value → World → Prop) (b n : Nat) (nb : Bool) (y : Value) (w' : World) : Prop :=
  Q y w' ∧ ∃ fb fo fl fc sa sl sc, y = .slice (some ⟨fb, fo, none⟩) fl fc ∧ n < fl ∧ fb ≠ b ∧ w'.cell? ⟨fb, fo + n * 2, none⟩ = some (.bool nb) ∧ w'.cell? ⟨fb, fo + n * 2 + 1, none⟩ = some (.slice sa sl sc)
theorem fin_cell {b off : Nat} {w1 w' : World} {y : Value} (hw : w' = ((w1.setCell ⟨b, off + 3, none⟩ y).drew.setCell ⟨b, off, none⟩ (.int .u32 1)).setCell ⟨b, off + 1, none⟩ (.int .i32 0)) {g o : Nat} {v : Value} (hg : g ≠ b) (h : w1.cell? ⟨g, o, none⟩ = some v) : w'.cell? ⟨g, o, none⟩ = some v := by
  have ne : ∀ j : Nat, (⟨b, j, none⟩ : Addr) ≠ ⟨g, o, none⟩ := fun j h => hg (congrArg Addr.block h).symm
  rw [hw, World.cell?_setCell_other _ _ _ _ (ne _), World.cell?_setCell_other _ _ _ _ (ne _), World.cell?_drew, World.cell?_setCell_other _ _ _ _ (ne _)]
  exact h
theorem fin_frozen {b off : Nat} {w1 w' : World} {y : Value} (hw : w' = ((w1.setCell ⟨b, off + 3, none⟩ y).drew.setCell ⟨b, off, none⟩ (.int .u32 1)).setCell ⟨b, off + 1, none⟩ (.int .i32 0)) {a : Addr} (h : w1.frozen? a = false) : w'.frozen? a = false := by
  rw [hw]; simp [h]
theorem fin_slot {b off : Nat} {w1 w' : World} {y x3 : Value} (hw : w' = ((w1.setCell ⟨b, off + 3, none⟩ y).drew.setCell ⟨b, off, none⟩ (.int .u32 1)).setCell ⟨b, off + 1, none⟩ (.int .i32 0)) (h : w1.cell? ⟨b, off + 3, none⟩ = some x3) : w'.cell? ⟨b, off + 3, none⟩ = some y := by
  rw [hw, World.cell?_setCell_other _ _ _ _ (by simp), World.cell?_setCell_other _ _ _ _ (by simp), World.cell?_drew]
  exact World.cell?_setCell_same _ _ _ h
set_option maxRecDepth 100000 in
set_option maxHeartbeats 1600000 in
theorem at_first (Q : Value → World → Prop) (b off : Nat) (n : Nat) (nb : Bool) (x3 : Value) (w : World) (hb : b < w.heap.size)
    (h0 : w.cell? ⟨b, off, none⟩ = some (.int .u32 0)) (h1 : w.cell? ⟨b, off + 1, none⟩ = some (.int .i32 0)) (h3 : w.cell? ⟨b, off + 3, none⟩ = some x3)
    (f0 : w.frozen? ⟨b, off, none⟩ = false) (f1 : w.frozen? ⟨b, off + 1, none⟩ = false) (f3 : w.frozen? ⟨b, off + 3, none⟩ = false)
    (hprod : Calls Tryd.prog 49 #[] ((two b off w).setCell ⟨b, off + 1, none⟩ (.int .i32 1)).drew fun e w' => ∃ ya yl yc, e = .returned (.slice ya yl yc) ∧ AtN Q b n nb (.slice ya yl yc) w' ∧ Old ((two b off w).setCell ⟨b, off + 1, none⟩ (.int .i32 1)).drew w') :
    Calls Tryd.prog 23 #[.pointer (some ⟨b, off, none⟩), .int .i64 (n : Int)] w fun e w' => ∃ fb fo fl fc sa sl sc w1, e = .returned (.agg #[.bool nb, .slice sa sl sc]) ∧ Q (.slice (some ⟨fb, fo, none⟩) fl fc) w1 ∧ n < fl ∧ w1.cell? ⟨fb, fo + n * 2, none⟩ = some (.bool nb) ∧ w1.cell? ⟨fb, fo + n * 2 + 1, none⟩ = some (.slice sa sl sc) ∧ Old ((two b off w).setCell ⟨b, off + 1, none⟩ (.int .i32 1)).drew w1 ∧ Heap2 (fin2 b off (.slice (some ⟨fb, fo, none⟩) fl fc) w1 (w.heap.size + 1) nb (.slice sa sl sc)) w' := by
  have hmf : ∀ (fn : Fn) (first cap : Array Value) (w : World), (Instr.makeFunc fn first cap).run Tryd.prog w = .ok (.func fn first cap) w := fun _ _ _ _ => rfl
  have hs : (w.alloc (.cells #[.pointer (some ⟨b, off, none⟩)] 23)).heap.size = w.heap.size + 1 := Array.size_push ..
  have past : ∀ (g o : Nat) (v : Value), g < w.heap.size → w.cell? ⟨g, o, none⟩ = some v → (two b off w).cell? ⟨g, o, none⟩ = some v := by
    intro g o v ha hv
    unfold two
    rw [World.cell?_alloc_past _ _ _ (by rw [hs]; omega), World.cell?_alloc_past _ _ _ ha]; exact hv
  have pastf : ∀ (o : Nat), w.frozen? ⟨b, o, none⟩ = false → (two b off w).frozen? ⟨b, o, none⟩ = false := by
    intro o hv
    have ho : Old w (two b off w) := (Old.alloc w _).trans (Old.alloc _ _)
    rw [ho.frozen (a := ⟨b, o, none⟩) hb]; exact hv
  have a0 := past b off _ hb h0
  have a1 := past b (off + 1) _ hb h1
  have a3 := past b (off + 3) _ hb h3
  have z0 := pastf _ f0
  have z1 := pastf _ f1
  have z3 := pastf _ f3
  have ap : (two b off w).cell? ⟨w.heap.size, 0, none⟩ = some (.pointer (some ⟨b, off, none⟩)) := by
    unfold two
    rw [World.cell?_alloc_past _ _ _ (by rw [hs]; omega)]; simp
  have hb2 : b < (two b off w).heap.size := Nat.lt_of_lt_of_le hb ((Old.alloc w _).trans (Old.alloc _ _)).size
  have n0 : (0 : Int) ≤ (n : Int) := by omega
  have n2 : ((n : Int)).toNat = n := by omega
  have dof := do_first (AtN Q b n nb) b off ⟨w.heap.size, 0, none⟩ (by simp; omega) x3 (two b off w) hb2 ap a0 a1 a3 z0 z1 z3 hprod
  have r0 : (two b off w).cell? ⟨w.heap.size + 1, 0, none⟩ = some (.bool false) := by unfold two; simp
  have r1 : (two b off w).cell? ⟨w.heap.size + 1, 1, none⟩ = some (.slice none 0 0) := by unfold two; simp
  have rz : ∀ i, (two b off w).frozen? ⟨w.heap.size + 1, i, none⟩ = false := by intro i; unfold two; simp
  have hsz : (two b off w).heap.size = w.heap.size + 2 := by unfold two; simp
  have mid : ∀ (g o : Nat) (v : Value), g ≠ b → (two b off w).cell? ⟨g, o, none⟩ = some v → ((two b off w).setCell ⟨b, off + 1, none⟩ (.int .i32 1)).drew.cell? ⟨g, o, none⟩ = some v := by
    intro g o v hg h
    rw [World.cell?_drew, World.cell?_setCell_other _ _ _ _ (fun h => hg (congrArg Addr.block h).symm)]; exact h
  have facts : ∀ (ya : Option Addr) (yl yc : Nat) (w1 w' : World), Old ((two b off w).setCell ⟨b, off + 1, none⟩ (.int .i32 1)).drew w1 → w' = ((w1.setCell ⟨b, off + 3, none⟩ (.slice ya yl yc)).drew.setCell ⟨b, off, none⟩ (.int .u32 1)).setCell ⟨b, off + 1, none⟩ (.int .i32 0) →
      w'.cell? ⟨w.heap.size, 0, none⟩ = some (.pointer (some ⟨b, off, none⟩)) ∧ w'.cell? ⟨b, off + 3, none⟩ = some (.slice ya yl yc) ∧ w'.cell? ⟨w.heap.size + 1, 0, none⟩ = some (.bool false) ∧ w'.cell? ⟨w.heap.size + 1, 1, none⟩ = some (.slice none 0 0) ∧ w'.frozen? ⟨w.heap.size + 1, 0, none⟩ = false ∧ w'.frozen? ⟨w.heap.size + 1, 1, none⟩ = false := by
    intro ya yl yc w1 w' hO hw
    refine ⟨fin_cell hw (by omega) (hO.cell (mid _ _ _ (by omega) ap)), fin_slot hw (x3 := x3) (hO.cell ?_), fin_cell hw (by omega) (hO.cell (mid _ _ _ (by omega) r0)), fin_cell hw (by omega) (hO.cell (mid _ _ _ (by omega) r1)), fin_frozen hw ?_, fin_frozen hw ?_⟩
    · rw [World.cell?_drew, World.cell?_setCell_other _ _ _ _ (by simp)]; exact a3
    · rw [hO.frozen (by simp [hsz])]; simp [rz]
    · rw [hO.frozen (by simp [hsz])]; simp [rz]
  go_enter Tryd.func23, Tryd.ntmps23
  go_wp2_with (first | (go_at_call 47; refine dof.mono ?_; rintro e w' ⟨rfl, ya, yl, yc, w1, ⟨hQ, fb, fo, fl, fc, sa, sl, sc, hy, hnl, hne, hx1, hx2⟩, hO, hw⟩; obtain ⟨rfl, rfl, rfl⟩ := Value.slice.inj hy; obtain ⟨q1, q2, q3, q4, q5, q6⟩ := facts _ _ _ _ _ hO hw; have hx1' := fin_cell hw hne hx1; have hx2' := fin_cell hw hne hx2; have n1 : (n : Int) < (yl : Int) := (by omega); have hfin : IsFin b off (.slice (some ⟨fb, fo, none⟩) yl yc) w1 w' := hw; clear hw; have e1 : ((w'.setCell ⟨w.heap.size + 1, 0, none⟩ (.bool nb)).setCell ⟨w.heap.size + 1, 1, none⟩ (.slice sa sl sc)).cell? ⟨w.heap.size + 1, 0, none⟩ = some (.bool nb) := (World.cell?_setCell_other _ _ _ _ (by simp)).trans (World.cell?_setCell_same _ _ _ q3); have e2 : ((w'.setCell ⟨w.heap.size + 1, 0, none⟩ (.bool nb)).setCell ⟨w.heap.size + 1, 1, none⟩ (.slice sa sl sc)).cell? ⟨w.heap.size + 1, 1, none⟩ = some (.slice sa sl sc) := World.cell?_setCell_same _ _ _ ((World.cell?_setCell_other _ _ _ _ (by simp)).trans q4)) | go_in)
  try simp only [Exit.inBlock, Exit.then]
  refine bodyPost_ret (v := .agg #[.bool nb, .slice sa sl sc]) (by simp [results, Tryd.results23, go_sem, e1, e2]) rfl ?_
  refine ⟨fb, fo, _, _, sa, sl, sc, w1, rfl, hQ, hnl, hx1, hx2, hO, ?_⟩
  unfold IsFin at hfin
  subst hfin
  exact ⟨rfl, rfl, rfl, rfl⟩
end Go.Proofs.YtgigaimaaijalaaDoor
