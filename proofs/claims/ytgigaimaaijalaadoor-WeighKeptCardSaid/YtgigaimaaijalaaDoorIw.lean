/- The interpreter's text of every function of the seat, and that it is the compiler's. -/
import Derived.Test.YtgigaimaaijalaaDoorIr
import Derived.Test.YtgigaimaaijalaaDoorChecked
set_option linter.unusedVariables false
set_option maxRecDepth 100000
namespace Go.Proofs.YtgigaimaaijalaaDoor
open Go Go.Proofs.R
def F.dendronlaw14_WeighKept : Nat := 3
def F.dendron_weigh_Table_Fact : Nat := 7
def Wdendronlaw14_WeighKept.b0 : R.C := (.seq (.seq (.reg [] [.a 23 (.mv (.t 6)), .a 24 (.fA 1 (.t 4)), .a 25 (.ldr (.t 24)), .a 26 (.ln (.t 25)), .a 27 (.bin .lss (.t 23) (.t 26))] [23, 24, 25, 26] [])
  (.cond (.t 27) .skip (.exit 0)))
  (.seq (.block 1 (.reg [] [.a 30 (.fA 1 (.t 4)), .a 31 (.ldr (.t 30)), .a 32 (.mv (.t 6)), .a 33 (.iA 1 (.t 31) (.t 32)), .n (.st 1 (.t 33) (.c (.int .u64 7)))] [27, 30, 31, 32, 33] []))
  (.reg [] [.a 28 (.mv (.t 6)), .a 29 (.bin .add (.t 28) (.c (.int .i64 1))), .a 6 (.mv (.t 29))] [28, 29] [])))
def Wdendronlaw14_WeighKept : R.Fn := ⟨1, [(.t 2)], (.seq (.reg [] [.a 2 (.mv (.c (.bool false)))] [2] [])
  (.seq (.seq (.reg [] [.a 9 (.mv (.t 0)), .a 10 (.bin .lss (.t 9) (.c (.int .i64 0))), .a 11 (.mv (.t 10)), .g 12 11 false (.mv (.t 0)), .g 13 11 false (.bin .gtr (.t 12) (.c (.int .i64 64))), .a 14 (.pick (.t 11) (.c (.bool true)) (.t 13))] [9, 10, 11, 12, 13] [])
  (.cond (.t 14) (.seq (.reg [] [.a 15 (.callc F.dendronlaw14_awake []), .a 2 (.mv (.t 15))] [0, 14, 15] [])
  .ret) .skip))
  (.seq (.reg [] [.a 16 (.callk F.weigh_New []), .a 3 (.mv (.t 16))] [14, 16] [])
  (.seq (.reg [] [.a 18 (.mv (.t 3)), .a 19 (.mv (.t 0)), .a 20 (.callh F.dendron_weigh_Table_Fact [(true, (.t 18)), (false, (.t 19))]), .a 17 (.mv (.t 20)), .a 21 (.ext (.t 17) 0), .a 22 (.ext (.t 17) 1), .a 4 (.new [(.bool false), (.sl 1 [])]), .n (.st 2 (.t 4) (.t 21)), .a 5 (.mv (.t 22))] [5, 17, 18, 19, 20, 21, 22] [])
  (.seq (.seq (.reg [] [.a 6 (.mv (.c (.int .i64 0)))] [] [])
  (.block 0 (.loop [] [] Wdendronlaw14_WeighKept.b0)))
  (.seq (.reg [] [.a 35 (.mv (.t 3)), .a 36 (.mv (.t 0)), .a 37 (.callh F.dendron_weigh_Table_Fact [(true, (.t 35)), (false, (.t 36))]), .a 34 (.mv (.t 37)), .a 38 (.ext (.t 34) 0), .a 39 (.ext (.t 34) 1), .a 7 (.new [(.bool false), (.sl 1 [])]), .n (.st 2 (.t 7) (.t 38)), .a 8 (.mv (.t 39))] [3, 4, 6, 27, 34, 35, 36, 37, 38, 39] [4, 16])
  (.seq (.reg [] [.a 40 (.mv (.t 8)), .a 41 (.bin .eql (.t 40) (.c (.int .i64 0))), .a 42 (.mv (.t 41)), .g 43 42 true (.ld 2 true (.t 7)), .g 44 42 true (.callc F.ratio_Int [(.t 43)]), .g 45 42 true (.mv (.t 0)), .g 46 42 true (.callc F.dendronlaw14_fact [(.t 45)]), .g 47 42 true (.callc F.ratio_Same [(.t 44), (.t 46)]), .a 48 (.pick (.t 42) (.t 47) (.c (.bool false))), .a 49 (.mv (.t 48)), .g 50 49 true (.callc F.dendronlaw14_awake []), .a 51 (.pick (.t 49) (.t 50) (.c (.bool false))), .a 2 (.mv (.t 51))] [0, 7, 8, 40, 41, 42, 43, 44, 45, 46, 47, 48, 49, 50, 51] [7])
  .ret)))))))⟩
def Wdendronlaw14_WeighKept.hint : R.Hint := { callk := [(16, [])], kill := [(0, [2], []), (1, [9, 10, 11, 12, 13], []), (2, [0, 14, 15], []), (3, [14, 16], []), (4, [5, 17, 18, 19, 20, 21, 22], []), (6, [23, 24, 25, 26], []), (7, [28, 29], []), (8, [27, 30, 31, 32, 33], []), (9, [3, 4, 6, 27, 34, 35, 36, 37, 38, 39], [4, 16]), (10, [0, 7, 8, 40, 41, 42, 43, 44, 45, 46, 47, 48, 49, 50, 51], [7])], heap := true, callh := [(20, [true, false]), (37, [true, false])] }
theorem Wdendronlaw14_WeighKept.ok : cFn Tryd.prog Wdendronlaw14_WeighKept.hint Tryd.f3 = some Wdendronlaw14_WeighKept := by kernel_rfl
def Wdendron_weigh_Table_Fact : R.Fn := ⟨2, [(.cell 4 2 true), (.t 5)], (.seq (.reg [] [.a 4 (.new [(.bool false), (.sl 1 [])]), .a 5 (.mv (.c (.int .i64 0)))] [5] [])
  (.seq (.seq (.reg [] [.a 6 (.mv (.t 0)), .a 7 (.pnil false (.t 6))] [6] [])
  (.cond (.t 7) (.seq (.reg [] [.a 8 (.bld [(.bool false), (.raw (.slice none 0 0))] []), .n (.st 2 (.t 4) (.t 8)), .a 5 (.mv (.c (.int .i64 18)))] [0, 1, 7, 8] [])
  .ret) .skip))
  (.seq (.seq (.reg [] [.a 9 (.mv (.t 1)), .a 10 (.bin .lss (.t 9) (.c (.int .i64 0))), .a 11 (.mv (.t 10)), .g 12 11 false (.mv (.t 1)), .g 13 11 false (.bin .gtr (.t 12) (.c (.int .i64 64))), .a 14 (.pick (.t 11) (.c (.bool true)) (.t 13))] [7, 9, 10, 11, 12, 13] [])
  (.cond (.t 14) (.seq (.reg [] [.a 15 (.bld [(.bool false), (.raw (.slice none 0 0))] []), .n (.st 2 (.t 4) (.t 15)), .a 5 (.mv (.c (.int .i64 8)))] [0, 1, 14, 15] [])
  .ret) .skip))
  (.seq (.reg [] [.a 16 (.mv (.t 0)), .a 17 (.mv (.t 1)), .a 18 (.callh F.dendron_weigh_Table_at [(true, (.t 16)), (false, (.t 17))]), .a 19 (.callh F.whole_Clean [(false, (.t 18))]), .n (.st 2 (.t 4) (.t 19)), .a 5 (.mv (.c (.int .i64 0)))] [0, 1, 14, 16, 17, 18, 19] [])
  .ret))))⟩
def Wdendron_weigh_Table_Fact.hint : R.Hint := { kill := [(0, [5], []), (1, [6], []), (2, [0, 1, 7, 8], []), (3, [7, 9, 10, 11, 12, 13], []), (4, [0, 1, 14, 15], []), (5, [0, 1, 14, 16, 17, 18, 19], [])], heap := true, callh := [(18, [true, false]), (19, [false])], rawnil := [8, 15] }
theorem Wdendron_weigh_Table_Fact.ok : cFn Tryd.prog Wdendron_weigh_Table_Fact.hint Tryd.f7 = some Wdendron_weigh_Table_Fact := by kernel_rfl
def Wwhole_Clean : R.Fn := ⟨1, [(.cell 2 2 true)], (.seq (.reg [] [.a 1 (.box (.t 0)), .a 2 (.new [(.bool false), (.sl 1 [])])] [0] [])
  (.seq (.reg [4294967297, 4294967299, 4294967301] [.a 3 (.fA 0 (.t 1)), .a 4 (.ld 1 false (.t 3)), .a 5 (.fA 1 (.t 1)), .a 6 (.ldr (.t 5)), .a 7 (.callu F.nat_Clean [(.t 6)]), .a 8 (.callh F.whole_sign [(false, (.t 4)), (false, (.t 7))]), .n (.st 2 (.t 2) (.t 8))] [1, 3, 4, 5, 6, 7, 8] [1])
  .ret))⟩
def Wwhole_Clean.hint : R.Hint := { pub := [(1, [4294967297, 4294967299, 4294967301])], kill := [(0, [0], []), (1, [1, 3, 4, 5, 6, 7, 8], [1])], heap := true, callh := [(8, [false, false])], callu := [7] }
theorem Wwhole_Clean.ok : cFn Tryd.prog Wwhole_Clean.hint Tryd.f22 = some Wwhole_Clean := by kernel_rfl
def Wwhole_sign : R.Fn := ⟨2, [(.cell 4 2 true)], (.seq (.reg [] [.a 4 (.new [(.bool false), (.sl 1 [])])] [] [])
  (.seq (.reg [] [.a 5 (.mv (.t 0)), .a 6 (.mv (.t 5)), .g 7 6 true (.mv (.t 1)), .g 8 6 true (.ln (.t 7)), .g 9 6 true (.bin .gtr (.t 8) (.c (.int .i64 0))), .a 10 (.pick (.t 6) (.t 9) (.c (.bool false))), .a 11 (.mv (.t 1)), .a 12 (.bld [(.bool false), (.raw (.slice none 0 0))] [(0, 1, (.t 10)), (1, 1, (.t 11))]), .n (.st 2 (.t 4) (.t 12))] [0, 1, 5, 6, 7, 8, 9, 10, 11, 12] [])
  .ret))⟩
def Wwhole_sign.hint : R.Hint := { kill := [(1, [0, 1, 5, 6, 7, 8, 9, 10, 11, 12], [])], heap := true, rawnil := [12] }
theorem Wwhole_sign.ok : cFn Tryd.prog Wwhole_sign.hint Tryd.f45 = some Wwhole_sign := by kernel_rfl
def Wnat_Clean.b0 : R.C := (.seq (.reg [] [.a 12 (.bin .lss (.t 11) (.t 10))] [] [])
  (.seq (.cond (.t 12) .skip (.exit 0))
  (.seq (.block 1 (.seq (.reg [] [.a 13 (.mv (.t 11)), .a 14 (.iA 1 (.t 9) (.t 11)), .a 15 (.ld 1 false (.t 14)), .a 4 (.mv (.t 13)), .a 5 (.mv (.t 15))] [12, 13, 14, 15] [])
  (.reg [] [.a 16 (.mv (.t 3)), .a 17 (.mv (.t 4)), .a 18 (.mv (.t 5)), .a 19 (.bin .and (.t 18) (.c (.int .u64 4294967295))), .a 20 (.iA 1 (.t 16) (.t 17)), .n (.st 1 (.t 20) (.t 19))] [4, 5, 16, 17, 18, 19, 20] [])))
  (.reg [] [.a 21 (.bin .add (.t 11) (.c (.int .i64 1))), .a 11 (.mv (.t 21))] [21] []))))
def Wnat_Clean : R.Fn := ⟨1, [(.own 2)], (.seq (.reg [] [.a 2 (.mv (.c (.sl 1 [])))] [2] [])
  (.seq (.reg [] [.a 6 (.mv (.t 0)), .a 7 (.ln (.t 6)), .a 8 (.mk 1 8 [(.int .u64 0)] (.t 7) (.t 7)), .a 3 (.mv (.t 8))] [6, 7, 8] [])
  (.seq (.seq (.reg [] [.a 9 (.mv (.t 0)), .a 10 (.ln (.t 9)), .a 11 (.mv (.c (.int .i64 0)))] [0] [])
  (.block 0 (.loop [] [] Wnat_Clean.b0)))
  (.seq (.reg [] [.a 22 (.mv (.t 3)), .a 23 (.callh F.nat_trim [(true, (.t 22))]), .a 2 (.mv (.t 23))] [3, 9, 10, 11, 12, 22, 23] [])
  .ret))))⟩
def Wnat_Clean.hint : R.Hint := { kill := [(0, [2], []), (1, [6, 7, 8], []), (2, [0], []), (4, [12, 13, 14, 15], []), (5, [4, 5, 16, 17, 18, 19, 20], []), (6, [21], []), (7, [3, 9, 10, 11, 12, 22, 23], [])], own := true, heap := true, callh := [(23, [true])] }
theorem Wnat_Clean.ok : cFn Tryd.prog Wnat_Clean.hint Tryd.f46 = some Wnat_Clean := by kernel_rfl
def Wnat_trim.b0 : R.C := (.seq (.seq (.reg [] [.a 6 (.mv (.t 3)), .a 7 (.bin .gtr (.t 6) (.c (.int .i64 0))), .a 8 (.mv (.t 7)), .g 9 8 true (.mv (.t 0)), .g 10 8 true (.mv (.t 3)), .g 11 8 true (.bin .sub (.t 10) (.c (.int .i64 1))), .g 12 8 true (.iA 1 (.t 9) (.t 11)), .g 13 8 true (.ld 1 false (.t 12)), .g 14 8 true (.bin .eql (.t 13) (.c (.int .u64 0))), .a 15 (.pick (.t 8) (.t 14) (.c (.bool false)))] [6, 7, 8, 9, 10, 11, 12, 13, 14] [])
  (.cond (.t 15) .skip (.exit 0)))
  (.block 1 (.reg [] [.a 16 (.mv (.t 3)), .a 17 (.bin .sub (.t 16) (.c (.int .i64 1))), .a 3 (.mv (.t 17))] [15, 16, 17] [])))
def Wnat_trim : R.Fn := ⟨1, [(.own 2)], (.seq (.reg [] [.a 2 (.mv (.c (.sl 1 [])))] [2] [])
  (.seq (.reg [] [.a 4 (.mv (.t 0)), .a 5 (.ln (.t 4)), .a 3 (.mv (.t 5))] [4, 5] [])
  (.seq (.block 0 (.loop [] [] Wnat_trim.b0))
  (.seq (.seq (.reg [] [.a 18 (.mv (.t 3)), .a 19 (.bin .eql (.t 18) (.c (.int .i64 0)))] [15, 18] [])
  (.cond (.t 19) (.seq (.reg [] [.a 2 (.mv (.c (.sl 1 [])))] [0, 3, 19] [])
  .ret) .skip))
  (.seq (.reg [] [.a 20 (.mv (.t 0)), .a 21 (.mv (.t 3)), .a 22 (.slc 1 (.t 20) none (some (.t 21))), .a 2 (.mv (.t 22))] [0, 3, 19, 20, 21, 22] [])
  .ret)))))⟩
def Wnat_trim.hint : R.Hint := { kill := [(0, [2], []), (1, [4, 5], []), (2, [6, 7, 8, 9, 10, 11, 12, 13, 14], []), (3, [15, 16, 17], []), (4, [15, 18], []), (5, [0, 3, 19], []), (6, [0, 3, 19, 20, 21, 22], [])], own := true }
theorem Wnat_trim.ok : cFn Tryd.prog Wnat_trim.hint Tryd.f50 = some Wnat_trim := by kernel_rfl
def tab2 : List (Nat × R.Fn) := [(F.dendronlaw14_WeighKept, Wdendronlaw14_WeighKept), (F.dendron_weigh_Table_Fact, Wdendron_weigh_Table_Fact), (F.whole_Clean, Wwhole_Clean), (F.whole_sign, Wwhole_sign), (F.nat_Clean, Wnat_Clean), (F.nat_trim, Wnat_trim)]
def ip2 : R.Ip := fun f => aget tab2 f
theorem Wdendronlaw14_WeighKept.ip : ip2 F.dendronlaw14_WeighKept = some Wdendronlaw14_WeighKept := rfl
theorem Wdendron_weigh_Table_Fact.ip : ip2 F.dendron_weigh_Table_Fact = some Wdendron_weigh_Table_Fact := rfl
theorem Wwhole_Clean.ip : ip2 F.whole_Clean = some Wwhole_Clean := rfl
theorem Wwhole_sign.ip : ip2 F.whole_sign = some Wwhole_sign := rfl
theorem Wnat_Clean.ip : ip2 F.nat_Clean = some Wnat_Clean := rfl
theorem Wnat_trim.ip : ip2 F.nat_trim = some Wnat_trim := rfl
theorem tab2_ok : ∀ p ∈ tab2, ∃ h gf, Tryd.prog.funcs[p.1]? = some gf ∧ cFn Tryd.prog h gf = some p.2 := by
  simp only [tab2, List.forall_mem_cons]
  exact ⟨⟨Wdendronlaw14_WeighKept.hint, Tryd.f3, Tryd.func3, Wdendronlaw14_WeighKept.ok⟩, ⟨Wdendron_weigh_Table_Fact.hint, Tryd.f7, Tryd.func7, Wdendron_weigh_Table_Fact.ok⟩, ⟨Wwhole_Clean.hint, Tryd.f22, Tryd.func22, Wwhole_Clean.ok⟩, ⟨Wwhole_sign.hint, Tryd.f45, Tryd.func45, Wwhole_sign.ok⟩, ⟨Wnat_Clean.hint, Tryd.f46, Tryd.func46, Wnat_Clean.ok⟩, ⟨Wnat_trim.hint, Tryd.f50, Tryd.func50, Wnat_trim.ok⟩, by simp⟩
end Go.Proofs.YtgigaimaaijalaaDoor
