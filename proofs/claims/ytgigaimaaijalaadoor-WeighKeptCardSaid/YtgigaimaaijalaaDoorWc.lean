/- sync.Once.Do, first and again, after the kit's LazyWalks. -/
import Derived.Test.YtgigaimaaijalaaDoorWb
namespace Go.Proofs.YtgigaimaaijalaaDoor
open Go Go.Proofs.R
set_option maxRecDepth 100000 in
set_option maxHeartbeats 1600000 in
theorem do_first (Q : Value → World → Prop) (b off : Nat) (pl : Addr) (hpb : ¬ b = pl.block) (x3 : Value) (w : World) (hb : b < w.heap.size) (hp : w.cell? pl = some (.pointer (some ⟨b, off, none⟩)))
    (h0 : w.cell? ⟨b, off, none⟩ = some (.int .u32 0)) (h1 : w.cell? ⟨b, off + 1, none⟩ = some (.int .i32 0)) (h3 : w.cell? ⟨b, off + 3, none⟩ = some x3)
    (f0 : w.frozen? ⟨b, off, none⟩ = false) (f1 : w.frozen? ⟨b, off + 1, none⟩ = false) (f3 : w.frozen? ⟨b, off + 3, none⟩ = false)
    (hprod : Calls Tryd.prog 49 #[] (w.setCell ⟨b, off + 1, none⟩ (.int .i32 1)).drew fun e w' => ∃ ya yl yc, e = .returned (.slice ya yl yc) ∧ Q (.slice ya yl yc) w' ∧ Old (w.setCell ⟨b, off + 1, none⟩ (.int .i32 1)).drew w') :
    Calls Tryd.prog 47 #[.pointer (some ⟨b, off, none⟩), .func (.func 48) #[] #[.pointer (some pl)]] w fun e w' => e = .returned (.tuple #[]) ∧
      ∃ ya yl yc w1, Q (.slice ya yl yc) w1 ∧ Old (w.setCell ⟨b, off + 1, none⟩ (.int .i32 1)).drew w1 ∧ w' = ((w1.setCell ⟨b, off + 3, none⟩ (.slice ya yl yc)).drew.setCell ⟨b, off, none⟩ (.int .u32 1)).setCell ⟨b, off + 1, none⟩ (.int .i32 0) := by
  have hl := run_call_load (P := Tryd.prog) Tryd.func80 (by kernel_rfl) (by kernel_rfl) (by kernel_rfl) .u32 (by kernel_rfl) h0
  have hnot : ∀ (x : Bool) (w : World), (Op.unary .not (.bool x)).run Tryd.prog w = .ok (.bool (!x)) w := fun _ _ => rfl
  go_enter Tryd.func47, Tryd.ntmps47
  go_wp2_with (first | (go_at_call 68; refine (slow_any Q b off pl hpb x3 _ hb hp h0 h1 h3 f0 f1 f3 hprod).mono ?_; rintro e w' ⟨rfl, ya, yl, yc, w1, hQ, hO, rfl⟩) | go_in)
  go_end0
  exact ⟨rfl, ya, yl, yc, w1, hQ, hO, rfl⟩
set_option maxRecDepth 100000 in
theorem do_done (a : Addr) (d : Int) (hd : ¬ d = 0) (fv : Value) (w : World) (h0 : w.cell? a = some (.int .u32 d)) :
    Calls Tryd.prog 47 #[.pointer (some a), fv] w fun e w' => e = .returned (.tuple #[]) ∧ w' = w := by
  have hl := run_call_load (P := Tryd.prog) Tryd.func80 (by kernel_rfl) (by kernel_rfl) (by kernel_rfl) .u32 (by kernel_rfl) h0
  have hnot : ∀ (x : Bool) (w : World), (Op.unary .not (.bool x)).run Tryd.prog w = .ok (.bool (!x)) w := fun _ _ => rfl
  have hd' : (d != 0) = true := by simp [hd]
  go_enter Tryd.func47, Tryd.ntmps47
  go_wp2
  go_end0
  exact ⟨rfl, rfl⟩
end Go.Proofs.YtgigaimaaijalaaDoor
