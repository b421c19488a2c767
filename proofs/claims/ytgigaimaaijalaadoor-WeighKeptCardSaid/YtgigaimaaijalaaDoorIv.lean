/- The interpreter's text of every function of the seat, and that it is the compiler's. -/
import Derived.Test.YtgigaimaaijalaaDoorIw
import Derived.Test.YtgigaimaaijalaaDoorChecked
set_option linter.unusedVariables false
set_option maxRecDepth 100000
namespace Go.Proofs.YtgigaimaaijalaaDoor
open Go Go.Proofs.R
def Vdendron_weigh_Table_Fact : R.Fn := ⟨2, [(.cell 4 2 true), (.t 5)], (.seq (.reg [] [.a 4 (.new [(.bool false), (.sl 1 [])]), .a 5 (.mv (.c (.int .i64 0)))] [5] [])
  (.seq (.seq (.reg [] [.a 6 (.mv (.t 0)), .a 7 (.pnil false (.t 6))] [6] [])
  (.cond (.t 7) (.seq (.reg [] [.a 8 (.bld [(.bool false), (.raw (.slice none 0 0))] []), .n (.st 2 (.t 4) (.t 8)), .a 5 (.mv (.c (.int .i64 18)))] [0, 1, 7, 8] [])
  .ret) .skip))
  (.seq (.seq (.reg [] [.a 9 (.mv (.t 1)), .a 10 (.bin .lss (.t 9) (.c (.int .i64 0))), .a 11 (.mv (.t 10)), .g 12 11 false (.mv (.t 1)), .g 13 11 false (.bin .gtr (.t 12) (.c (.int .i64 64))), .a 14 (.pick (.t 11) (.c (.bool true)) (.t 13))] [7, 9, 10, 11, 12, 13] [])
  (.cond (.t 14) (.seq (.reg [] [.a 15 (.bld [(.bool false), (.raw (.slice none 0 0))] []), .n (.st 2 (.t 4) (.t 15)), .a 5 (.mv (.c (.int .i64 8)))] [0, 1, 14, 15] [])
  .ret) .skip))
  (.seq (.reg [] [.a 16 (.mv (.t 0)), .a 17 (.mv (.t 1)), .a 18 (.callh F.dendron_weigh_Table_at [(true, (.t 16)), (false, (.t 17))]), .a 19 (.callc F.whole_Clean [(.t 18)]), .n (.st 2 (.t 4) (.t 19)), .a 5 (.mv (.c (.int .i64 0)))] [0, 1, 14, 16, 17, 18, 19] [])
  .ret))))⟩
def Vdendron_weigh_Table_Fact.hint : R.Hint := { kill := [(0, [5], []), (1, [6], []), (2, [0, 1, 7, 8], []), (3, [7, 9, 10, 11, 12, 13], []), (4, [0, 1, 14, 15], []), (5, [0, 1, 14, 16, 17, 18, 19], [])], heap := true, callh := [(18, [true, false])], rawnil := [8, 15] }
theorem Vdendron_weigh_Table_Fact.ok : cFn Tryd.prog Vdendron_weigh_Table_Fact.hint Tryd.f7 = some Vdendron_weigh_Table_Fact := by kernel_rfl
def tab3 : List (Nat × R.Fn) := [(F.dendron_weigh_Table_Fact, Vdendron_weigh_Table_Fact)]
def ip3 : R.Ip := fun f => aget tab3 f
theorem Vdendron_weigh_Table_Fact.ip : ip3 F.dendron_weigh_Table_Fact = some Vdendron_weigh_Table_Fact := rfl
theorem tab3_ok : ∀ p ∈ tab3, ∃ h gf, Tryd.prog.funcs[p.1]? = some gf ∧ cFn Tryd.prog h gf = some p.2 := by
  simp only [tab3, List.forall_mem_cons]
  exact ⟨⟨Vdendron_weigh_Table_Fact.hint, Tryd.f7, Tryd.func7, Vdendron_weigh_Table_Fact.ok⟩, by simp⟩
end Go.Proofs.YtgigaimaaijalaaDoor
