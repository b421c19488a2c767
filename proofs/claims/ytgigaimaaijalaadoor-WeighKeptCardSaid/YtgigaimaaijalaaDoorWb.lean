/- sync.Once's slow road with the table's own function, after the kit's LazySlow. -/
import Derived.Test.YtgigaimaaijalaaDoorWa
import Derived.Test.YtgigaimaaijalaaDoorKt
import Derived.Laws.NewBlocks
namespace Go.Proofs.YtgigaimaaijalaaDoor
open Go Go.Proofs.R
/-- Blocks that were there are as they were. -/
def Old (w w' : World) : Prop := ∀ g, g < w.heap.size → w'.heap[g]? = w.heap[g]?
theorem Old.cell {w w' : World} (h : Old w w') {a : Addr} {y : Value} (hc : w.cell? a = some y) : w'.cell? a = some y := by
  have hlt : a.block < w.heap.size := by
    rcases Nat.lt_or_ge a.block w.heap.size with h1 | h1
    · exact h1
    · have : w.heap[a.block]? = none := Array.getElem?_eq_none h1
      simp [World.cell?, this] at hc
  simp only [World.cell?] at hc ⊢
  rw [h _ hlt]; exact hc
theorem Old.frozen {w w' : World} (h : Old w w') {a : Addr} (ha : a.block < w.heap.size) : w'.frozen? a = w.frozen? a := by
  simp only [World.frozen?]
  rw [h _ ha]
set_option maxRecDepth 100000 in
set_option maxHeartbeats 1600000 in
theorem slow_any (Q : Value → World → Prop) (b off : Nat) (pl : Addr) (hpb : ¬ b = pl.block) (x3 : Value) (w : World) (hb : b < w.heap.size) (hp : w.cell? pl = some (.pointer (some ⟨b, off, none⟩)))
    (h0 : w.cell? ⟨b, off, none⟩ = some (.int .u32 0)) (h1 : w.cell? ⟨b, off + 1, none⟩ = some (.int .i32 0)) (h3 : w.cell? ⟨b, off + 3, none⟩ = some x3)
    (f0 : w.frozen? ⟨b, off, none⟩ = false) (f1 : w.frozen? ⟨b, off + 1, none⟩ = false) (f3 : w.frozen? ⟨b, off + 3, none⟩ = false)
    (hprod : Calls Tryd.prog 49 #[] (w.setCell ⟨b, off + 1, none⟩ (.int .i32 1)).drew fun e w' => ∃ ya yl yc, e = .returned (.slice ya yl yc) ∧ Q (.slice ya yl yc) w' ∧ Old (w.setCell ⟨b, off + 1, none⟩ (.int .i32 1)).drew w') :
    Calls Tryd.prog 68 #[.pointer (some ⟨b, off, none⟩), .func (.func 48) #[] #[.pointer (some pl)]] w fun e w' => e = .returned (.tuple #[]) ∧
      ∃ ya yl yc w1, Q (.slice ya yl yc) w1 ∧ Old (w.setCell ⟨b, off + 1, none⟩ (.int .i32 1)).drew w1 ∧ w' = ((w1.setCell ⟨b, off + 3, none⟩ (.slice ya yl yc)).drew.setCell ⟨b, off, none⟩ (.int .u32 1)).setCell ⟨b, off + 1, none⟩ (.int .i32 0) := by
  have hl := run_call_load (P := Tryd.prog) Tryd.func80 (by kernel_rfl) (by kernel_rfl) (by kernel_rfl) .u32 (by kernel_rfl) (w := w.setCell ⟨b, off + 1, none⟩ (.int .i32 1)) (a := ⟨b, off, none⟩) (x := 0) ((World.cell?_setCell_other _ ⟨b, off + 1, none⟩ ⟨b, off, none⟩ _ (by simp)).trans h0)
  have hp1 : (w.setCell ⟨b, off + 1, none⟩ (.int .i32 1)).cell? pl = some (.pointer (some ⟨b, off, none⟩)) := (World.cell?_setCell_other _ ⟨b, off + 1, none⟩ pl _ (fun h => hpb (by rw [← h]))).trans hp
  have h31 : (w.setCell ⟨b, off + 1, none⟩ (.int .i32 1)).cell? ⟨b, off + 3, none⟩ = some x3 := (World.cell?_setCell_other _ ⟨b, off + 1, none⟩ ⟨b, off + 3, none⟩ _ (by simp)).trans h3
  have hnot : ∀ (x : Bool) (w : World), (Op.unary .not (.bool x)).run Tryd.prog w = .ok (.bool (!x)) w := fun _ _ => rfl
  go_enter_defers Tryd.func68, Tryd.ntmps68
  go_wp2_with (go_at_call 81; refine (lock_free ⟨b, off + 1, none⟩ _ (by go_simp) (by go_simp)).mono ?_; rintro e w' ⟨rfl, rfl⟩)
  go_wp2_with go_in
  have hbd : b < (w.setCell ⟨b, off + 1, none⟩ (.int .i32 1)).drew.heap.size := by simpa [World.setCell, World.drew] using hb
  have key : ∀ (y : Value) (w1 : World), Old (w.setCell ⟨b, off + 1, none⟩ (.int .i32 1)).drew w1 → w1.cell? pl = some (.pointer (some ⟨b, off, none⟩)) ∧ w1.cell? ⟨b, off + 3, none⟩ = some x3 ∧ w1.frozen? ⟨b, off + 3, none⟩ = false ∧ w1.cell? ⟨b, off, none⟩ = some (.int .u32 0) ∧ w1.cell? ⟨b, off + 1, none⟩ = some (.int .i32 1) ∧ w1.frozen? ⟨b, off, none⟩ = false ∧ w1.frozen? ⟨b, off + 1, none⟩ = false := by
    intro y w1 hO
    refine ⟨hO.cell ?_, hO.cell ?_, ?_, hO.cell ?_, hO.cell ?_, ?_, ?_⟩
    · rw [World.cell?_drew]; exact hp1
    · rw [World.cell?_drew]; exact h31
    · rw [hO.frozen (a := ⟨b, off + 3, none⟩) hbd]; simp [f3]
    · rw [World.cell?_drew]; exact (World.cell?_setCell_other _ ⟨b, off + 1, none⟩ ⟨b, off, none⟩ _ (by simp)).trans h0
    · rw [World.cell?_drew]; exact World.cell?_setCell_same w _ _ h1
    · rw [hO.frozen (a := ⟨b, off, none⟩) hbd]; simp [f0]
    · rw [hO.frozen (a := ⟨b, off + 1, none⟩) hbd]; simp [f1]
  refine wp_region_any (by kernel_rfl) ?_
  try (change wpAny _ _ _ _ _ _ _ (World.drew _))
  refine wpAny_ready (rs := [0, 1]) (by kernel_rfl) (by simp) ?_
  refine AllReady.cons rfl (fun K hK => ?_) (AllReady.cons rfl (fun K hK => ?_) AllReady.nil)
  · go_simp
    refine hK _ _ ?_; clear hK K
    refine wpAny_ready (rs := [1]) (by kernel_rfl) (by simp) ?_
    refine AllReady.cons rfl (fun K hK => ?_) AllReady.nil
    go_simp
    refine hprod.mono ?_
    rintro e w1 ⟨ya, yl, yc, rfl, hQ, hO⟩
    obtain ⟨k1, k2, k3, k4, k5, k6, k7⟩ := key (.slice ya yl yc) w1 hO
    refine hK _ _ ?_; clear hK K
    refine wpAny_ready (rs := [2]) (by kernel_rfl) (by simp) ?_
    refine AllReady.cons rfl (fun K hK => ?_) AllReady.nil
    go_simp
    refine hK _ _ ?_; clear hK K
    refine wpAny_ready (rs := [3]) (by kernel_rfl) (by simp) ?_
    refine AllReady.cons rfl (fun K hK => ?_) AllReady.nil
    go_simp
    refine hK _ _ ?_; clear hK K
    refine wpAny_ready (rs := [4]) (by kernel_rfl) (by simp) ?_
    refine AllReady.cons rfl (fun K hK => ?_) AllReady.nil
    go_simp
    refine hK _ _ ?_; clear hK K
    refine wpAny_done (by kernel_rfl) ?_ _
    go_end0
    go_wp2
    refine leaves_cons (f := 83) (args := #[.pointer (some ⟨b, off, none⟩), .bool true]) (by simp) (by simp [go_sem]) ?_
    refine (store_deferred ⟨b, off, none⟩ (.int .u32 0) .returning _ ?_ (by simp [k6])).mono ?_
    · exact (World.cell?_setCell_other _ ⟨b, off + 3, none⟩ ⟨b, off, none⟩ _ (by simp)).trans k4
    rintro e u' w'' ⟨rfl, rfl, rfl⟩
    refine leaves_cons (f := 82) (args := #[.pointer (some ⟨b, off + 1, none⟩)]) (by simp [settle]) (by simp [go_sem]) ?_
    refine (unlock_deferred ⟨b, off + 1, none⟩ _ _ ?_ (by simp [k7])).mono ?_
    · refine (World.cell?_setCell_other _ ⟨b, off, none⟩ ⟨b, off + 1, none⟩ _ (by simp)).trans ?_
      rw [World.cell?_drew]
      exact (World.cell?_setCell_other _ ⟨b, off + 3, none⟩ ⟨b, off + 1, none⟩ _ (by simp)).trans k5
    rintro e u' w'' ⟨rfl, rfl, rfl⟩
    exact ⟨.tuple #[], by simp [results], rfl, ya, yl, yc, w1, hQ, hO, rfl⟩
  · go_simp
    refine hprod.mono ?_
    rintro e w1 ⟨ya, yl, yc, rfl, hQ, hO⟩
    obtain ⟨k1, k2, k3, k4, k5, k6, k7⟩ := key (.slice ya yl yc) w1 hO
    refine hK _ _ ?_; clear hK K
    refine wpAny_ready (rs := [0]) (by kernel_rfl) (by simp) ?_
    refine AllReady.cons rfl (fun K hK => ?_) AllReady.nil
    go_simp
    refine hK _ _ ?_; clear hK K
    refine wpAny_ready (rs := [2]) (by kernel_rfl) (by simp) ?_
    refine AllReady.cons rfl (fun K hK => ?_) AllReady.nil
    go_simp
    refine hK _ _ ?_; clear hK K
    refine wpAny_ready (rs := [3]) (by kernel_rfl) (by simp) ?_
    refine AllReady.cons rfl (fun K hK => ?_) AllReady.nil
    go_simp
    refine hK _ _ ?_; clear hK K
    refine wpAny_ready (rs := [4]) (by kernel_rfl) (by simp) ?_
    refine AllReady.cons rfl (fun K hK => ?_) AllReady.nil
    go_simp
    refine hK _ _ ?_; clear hK K
    refine wpAny_done (by kernel_rfl) ?_ _
    go_end0
    go_wp2
    refine leaves_cons (f := 83) (args := #[.pointer (some ⟨b, off, none⟩), .bool true]) (by simp) (by simp [go_sem]) ?_
    refine (store_deferred ⟨b, off, none⟩ (.int .u32 0) .returning _ ?_ (by simp [k6])).mono ?_
    · exact (World.cell?_setCell_other _ ⟨b, off + 3, none⟩ ⟨b, off, none⟩ _ (by simp)).trans k4
    rintro e u' w'' ⟨rfl, rfl, rfl⟩
    refine leaves_cons (f := 82) (args := #[.pointer (some ⟨b, off + 1, none⟩)]) (by simp [settle]) (by simp [go_sem]) ?_
    refine (unlock_deferred ⟨b, off + 1, none⟩ _ _ ?_ (by simp [k7])).mono ?_
    · refine (World.cell?_setCell_other _ ⟨b, off, none⟩ ⟨b, off + 1, none⟩ _ (by simp)).trans ?_
      rw [World.cell?_drew]
      exact (World.cell?_setCell_other _ ⟨b, off + 3, none⟩ ⟨b, off + 1, none⟩ _ (by simp)).trans k5
    rintro e u' w'' ⟨rfl, rfl, rfl⟩
    exact ⟨.tuple #[], by simp [results], rfl, ya, yl, yc, w1, hQ, hO, rfl⟩
end Go.Proofs.YtgigaimaaijalaaDoor
