/- The interpreter's text of every function of the seat, and that it is the compiler's. -/
import Derived.Test.YtnmbpainnkdonaaGreatDoorIq
set_option linter.unusedVariables false
set_option maxRecDepth 100000
namespace Go.Proofs.YtnmbpainnkdonaaGreatDoor
open Go Go.Proofs.R
def whole_Of : R.Fn := ⟨1, [(.cell 2 2 true)], (.seq (.reg [] [.a 2 (.new [(.bool false), (.sl 1 [])])] [] [])
  (.seq (.seq (.reg [] [.a 3 (.mv (.t 0)), .a 4 (.bin .lss (.t 3) (.c (.int .i64 0)))] [3] [])
  (.cond (.t 4) (.seq (.reg [] [.a 5 (.mv (.t 0)), .a 6 (.conv .u64 (.t 5)), .a 7 (.un .neg (.t 6)), .a 8 (.call F.nat_Of [(.t 7)]), .a 9 (.call F.whole_sign [(.c (.bool true)), (.t 8)]), .n (.st 2 (.t 2) (.t 9))] [0, 4, 5, 6, 7, 8, 9] [])
  .ret) .skip))
  (.seq (.reg [] [.a 10 (.mv (.t 0)), .a 11 (.conv .u64 (.t 10)), .a 12 (.call F.nat_Of [(.t 11)]), .a 13 (.call F.whole_sign [(.c (.bool false)), (.t 12)]), .n (.st 2 (.t 2) (.t 13))] [0, 4, 10, 11, 12, 13] [])
  .ret)))⟩
def whole_Of.hint : R.Hint := { kill := [(1, [3], []), (2, [0, 4, 5, 6, 7, 8, 9], []), (3, [0, 4, 10, 11, 12, 13], [])] }
theorem whole_Of.ok : cFn Tryz.prog whole_Of.hint Tryz.f72 = some whole_Of := by kernel_rfl
def whole_Right : R.Fn := ⟨1, [(.t 2)], (.seq (.reg [] [.a 1 (.box (.t 0)), .a 2 (.mv (.c (.bool false)))] [0, 2] [])
  (.seq (.reg [] [.a 3 (.fA 1 (.t 1)), .a 4 (.ld 1 false (.t 3)), .a 5 (.call F.nat_Right [(.t 4)]), .a 6 (.mv (.t 5)), .g 7 6 true (.fA 1 (.t 1)), .g 8 6 true (.ld 1 false (.t 7)), .g 9 6 true (.ln (.t 8)), .g 10 6 true (.bin .gtr (.t 9) (.c (.int .i64 0))), .g 11 6 true (.mv (.t 10)), .g 12 11 false (.fA 0 (.t 1)), .g 13 11 false (.ld 1 false (.t 12)), .g 14 11 false (.un .not (.t 13)), .g 15 6 true (.pick (.t 11) (.c (.bool true)) (.t 14)), .a 16 (.pick (.t 6) (.t 15) (.c (.bool false))), .a 2 (.mv (.t 16))] [1, 3, 4, 5, 6, 7, 8, 9, 10, 11, 12, 13, 14, 15, 16] [1])
  .ret))⟩
def whole_Right.hint : R.Hint := { kill := [(0, [0, 2], []), (1, [1, 3, 4, 5, 6, 7, 8, 9, 10, 11, 12, 13, 14, 15, 16], [1])] }
theorem whole_Right.ok : cFn Tryz.prog whole_Right.hint Tryz.f73 = some whole_Right := by kernel_rfl
def nat_Right.b0 : R.C := (.seq (.reg [] [.a 8 (.bin .lss (.t 7) (.t 6))] [] [])
  (.seq (.cond (.t 8) .skip (.exit 0))
  (.seq (.block 1 (.seq (.reg [] [.a 9 (.iA 1 (.t 5) (.t 7)), .a 10 (.ld 1 false (.t 9)), .a 4 (.mv (.t 10))] [8, 9, 10] [])
  (.seq (.reg [] [.a 11 (.mv (.t 4)), .a 12 (.bin .gtr (.t 11) (.c (.int .u64 4294967295)))] [4, 11] [])
  (.cond (.t 12) (.seq (.reg [] [.a 2 (.mv (.c (.bool false)))] [0, 5, 6, 7, 12] [])
  .ret) .skip))))
  (.reg [] [.a 13 (.bin .add (.t 7) (.c (.int .i64 1))), .a 7 (.mv (.t 13))] [12, 13] []))))
def nat_Right : R.Fn := ⟨1, [(.t 2)], (.seq (.reg [] [.a 2 (.mv (.c (.bool false)))] [2] [])
  (.seq (.seq (.reg [] [.a 5 (.mv (.t 0)), .a 6 (.ln (.t 5)), .a 7 (.mv (.c (.int .i64 0)))] [] [])
  (.block 0 (.loop [] [] nat_Right.b0)))
  (.seq (.reg [] [.a 14 (.mv (.t 0)), .a 15 (.ln (.t 14)), .a 16 (.bin .eql (.t 15) (.c (.int .i64 0))), .a 17 (.mv (.t 16)), .g 18 17 false (.mv (.t 0)), .g 19 17 false (.mv (.t 0)), .g 20 17 false (.ln (.t 19)), .g 21 17 false (.bin .sub (.t 20) (.c (.int .i64 1))), .g 22 17 false (.iA 1 (.t 18) (.t 21)), .g 23 17 false (.ld 1 false (.t 22)), .g 24 17 false (.bin .neq (.t 23) (.c (.int .u64 0))), .a 25 (.pick (.t 17) (.c (.bool true)) (.t 24)), .a 2 (.mv (.t 25))] [0, 5, 6, 7, 8, 14, 15, 16, 17, 18, 19, 20, 21, 22, 23, 24, 25] [])
  .ret)))⟩
def nat_Right.hint : R.Hint := { kill := [(0, [2], []), (3, [8, 9, 10], []), (4, [4, 11], []), (5, [0, 5, 6, 7, 12], []), (6, [12, 13], []), (7, [0, 5, 6, 7, 8, 14, 15, 16, 17, 18, 19, 20, 21, 22, 23, 24, 25], [])] }
theorem nat_Right.ok : cFn Tryz.prog nat_Right.hint Tryz.f74 = some nat_Right := by kernel_rfl
def nat_Gcd.b1 : R.C := (.block 2 (.seq (.seq (.reg [] [.a 43 (.mv (.t 0)), .a 44 (.mv (.t 1)), .a 45 (.call F.nat_order [(.t 43), (.t 44)]), .a 7 (.mv (.t 45))] [43, 44, 45] [])
  (.block 3 (.seq (.reg [] [.a 47 (.mv (.t 7)), .a 48 (.bin .eql (.t 47) (.c (.int .i64 0))), .a 46 (.mv (.t 48))] [47, 48] [])
  (.cond (.t 46) (.seq (.reg [] [.a 49 (.mv (.t 0)), .a 50 (.mv (.t 5)), .a 51 (.mv (.t 6)), .a 52 (.mn (.t 50) (.t 51)), .a 53 (.call F.nat_shl [(.t 49), (.t 52)]), .a 4 (.mv (.t 53))] [0, 1, 5, 6, 7, 46, 49, 50, 51, 52, 53] [])
  .ret) (.seq (.reg [] [.a 55 (.mv (.t 7)), .a 56 (.bin .lss (.t 55) (.c (.int .i64 0))), .a 54 (.mv (.t 56))] [7, 46, 55, 56] [])
  (.cond (.t 54) (.reg [] [.a 57 (.mv (.t 1)), .a 58 (.mv (.t 0)), .a 0 (.mv (.t 57)), .a 1 (.mv (.t 58))] [54, 57, 58] []) .skip))))))
  (.seq (.seq (.reg [] [.a 59 (.mv (.t 0)), .a 60 (.ln (.t 59)), .a 61 (.mv (.t 1)), .a 62 (.ln (.t 61)), .a 63 (.bin .add (.t 62) (.c (.int .i64 1))), .a 64 (.bin .gtr (.t 60) (.t 63))] [54, 59, 60, 61, 62, 63] [])
  (.cond (.t 64) (.seq (.reg [] [.a 66 (.mv (.t 0)), .a 67 (.mv (.t 1)), .a 68 (.call F.nat_rest [(.t 66), (.t 67)]), .a 65 (.mv (.t 68)), .a 69 (.ext (.t 65) 0), .a 70 (.ext (.t 65) 1), .a 0 (.mv (.t 70))] [64, 65, 66, 67, 68, 69, 70] [])
  (.seq (.reg [] [.a 71 (.mv (.t 0)), .a 72 (.ln (.t 71)), .a 73 (.bin .eql (.t 72) (.c (.int .i64 0)))] [71, 72] [])
  (.cond (.t 73) (.seq (.reg [] [.a 74 (.mv (.t 1)), .a 75 (.mv (.t 5)), .a 76 (.mv (.t 6)), .a 77 (.mn (.t 75) (.t 76)), .a 78 (.call F.nat_shl [(.t 74), (.t 77)]), .a 4 (.mv (.t 78))] [0, 1, 5, 6, 73, 74, 75, 76, 77, 78] [])
  .ret) .skip))) (.reg [] [.a 79 (.mv (.t 0)), .a 80 (.mv (.t 1)), .a 81 (.call F.nat_minus [(.t 79), (.t 80)]), .a 0 (.mv (.t 81))] [64, 79, 80, 81] [])))
  (.reg [] [.a 82 (.mv (.t 0)), .a 83 (.mv (.t 0)), .a 84 (.call F.nat_zeros [(.t 83)]), .a 85 (.call F.nat_shr [(.t 82), (.t 84)]), .a 0 (.mv (.t 85))] [73, 82, 83, 84, 85] []))))
def nat_Gcd : R.Fn := ⟨2, [(.t 4)], (.seq (.reg [] [.a 4 (.mv (.c (.sl 1 [])))] [4] [])
  (.seq (.reg [] [.a 8 (.mv (.t 0)), .a 9 (.call F.nat_Clean [(.t 8)]), .a 10 (.mv (.t 1)), .a 11 (.call F.nat_Clean [(.t 10)]), .a 0 (.mv (.t 9)), .a 1 (.mv (.t 11))] [8, 9, 10, 11] [])
  (.seq (.block 0 (.seq (.reg [] [.a 13 (.mv (.t 0)), .a 14 (.ln (.t 13)), .a 15 (.bin .eql (.t 14) (.c (.int .i64 0))), .a 12 (.mv (.t 15))] [13, 14, 15] [])
  (.cond (.t 12) (.seq (.reg [] [.a 16 (.mv (.t 1)), .a 4 (.mv (.t 16))] [0, 1, 12, 16] [])
  .ret) (.seq (.reg [] [.a 18 (.mv (.t 1)), .a 19 (.ln (.t 18)), .a 20 (.bin .eql (.t 19) (.c (.int .i64 0))), .a 17 (.mv (.t 20))] [12, 18, 19, 20] [])
  (.cond (.t 17) (.seq (.reg [] [.a 21 (.mv (.t 0)), .a 4 (.mv (.t 21))] [0, 1, 17, 21] [])
  .ret) .skip)))))
  (.seq (.seq (.reg [] [.a 22 (.mv (.t 0)), .a 23 (.ln (.t 22)), .a 24 (.bin .leq (.t 23) (.c (.int .i64 2))), .a 25 (.mv (.t 24)), .g 26 25 true (.mv (.t 1)), .g 27 25 true (.ln (.t 26)), .g 28 25 true (.bin .leq (.t 27) (.c (.int .i64 2))), .a 29 (.pick (.t 25) (.t 28) (.c (.bool false)))] [17, 22, 23, 24, 25, 26, 27, 28] [])
  (.cond (.t 29) (.seq (.reg [] [.a 30 (.mv (.t 0)), .a 31 (.mv (.t 1)), .a 32 (.call F.nat_euclid [(.t 30), (.t 31)]), .a 4 (.mv (.t 32))] [0, 1, 29, 30, 31, 32] [])
  .ret) .skip))
  (.seq (.reg [] [.a 33 (.mv (.t 0)), .a 34 (.call F.nat_zeros [(.t 33)]), .a 35 (.mv (.t 1)), .a 36 (.call F.nat_zeros [(.t 35)]), .a 5 (.mv (.t 34)), .a 6 (.mv (.t 36))] [29, 33, 34, 35, 36] [])
  (.seq (.reg [] [.a 37 (.mv (.t 0)), .a 38 (.mv (.t 5)), .a 39 (.call F.nat_shr [(.t 37), (.t 38)]), .a 40 (.mv (.t 1)), .a 41 (.mv (.t 6)), .a 42 (.call F.nat_shr [(.t 40), (.t 41)]), .a 0 (.mv (.t 39)), .a 1 (.mv (.t 42))] [37, 38, 39, 40, 41, 42] [])
  (.block 1 (.loop [] [] nat_Gcd.b1))))))))⟩
def nat_Gcd.hint : R.Hint := { kill := [(0, [4], []), (1, [8, 9, 10, 11], []), (2, [13, 14, 15], []), (3, [0, 1, 12, 16], []), (4, [12, 18, 19, 20], []), (5, [0, 1, 17, 21], []), (6, [17, 22, 23, 24, 25, 26, 27, 28], []), (7, [0, 1, 29, 30, 31, 32], []), (8, [29, 33, 34, 35, 36], []), (9, [37, 38, 39, 40, 41, 42], []), (10, [43, 44, 45], []), (11, [47, 48], []), (12, [0, 1, 5, 6, 7, 46, 49, 50, 51, 52, 53], []), (13, [7, 46, 55, 56], []), (14, [54, 57, 58], []), (15, [54, 59, 60, 61, 62, 63], []), (16, [64, 65, 66, 67, 68, 69, 70], []), (17, [71, 72], []), (18, [0, 1, 5, 6, 73, 74, 75, 76, 77, 78], []), (19, [64, 79, 80, 81], []), (20, [73, 82, 83, 84, 85], [])] }
theorem nat_Gcd.ok : cFn Tryz.prog nat_Gcd.hint Tryz.f75 = some nat_Gcd := by kernel_rfl
def nat_Cmp : R.Fn := ⟨2, [(.t 4)], (.seq (.reg [] [.a 4 (.mv (.c (.int .i64 0)))] [4] [])
  (.seq (.reg [] [.a 5 (.mv (.t 0)), .a 6 (.call F.nat_Clean [(.t 5)]), .a 7 (.mv (.t 1)), .a 8 (.call F.nat_Clean [(.t 7)]), .a 9 (.call F.nat_order [(.t 6), (.t 8)]), .a 4 (.mv (.t 9))] [0, 1, 5, 6, 7, 8, 9] [])
  .ret))⟩
def nat_Cmp.hint : R.Hint := { kill := [(0, [4], []), (1, [0, 1, 5, 6, 7, 8, 9], [])] }
theorem nat_Cmp.ok : cFn Tryz.prog nat_Cmp.hint Tryz.f76 = some nat_Cmp := by kernel_rfl
def game_clean.b0 : R.C := (.seq (.reg [] [.a 12 (.bin .lss (.t 11) (.t 10))] [] [])
  (.seq (.cond (.t 12) .skip (.exit 0))
  (.seq (.block 1 (.seq (.reg [] [.a 13 (.mv (.t 11)), .a 14 (.iA 3 (.t 9) (.t 11)), .a 15 (.ld 3 true (.t 14)), .a 5 (.new [(.bool false), (.sl 1 []), (.sl 1 [])]), .a 4 (.mv (.t 13)), .n (.st 3 (.t 5) (.t 15))] [12, 13, 14, 15] [])
  (.reg [] [.a 16 (.mv (.t 3)), .a 17 (.mv (.t 4)), .a 18 (.ld 3 true (.t 5)), .a 19 (.call F.ratio_Clean [(.t 18)]), .a 20 (.iA 3 (.t 16) (.t 17)), .n (.st 3 (.t 20) (.t 19))] [4, 5, 16, 17, 18, 19, 20] [5])))
  (.reg [] [.a 21 (.bin .add (.t 11) (.c (.int .i64 1))), .a 11 (.mv (.t 21))] [21] []))))
def game_clean : R.Fn := ⟨1, [(.own 2)], (.seq (.reg [] [.a 2 (.mv (.c (.sl 3 [])))] [2] [])
  (.seq (.reg [] [.a 6 (.mv (.t 0)), .a 7 (.ln (.t 6)), .a 8 (.mk 3 56 [(.bool false), (.sl 1 []), (.sl 1 [])] (.t 7) (.t 7)), .a 3 (.mv (.t 8))] [6, 7, 8] [])
  (.seq (.seq (.reg [] [.a 9 (.mv (.t 0)), .a 10 (.ln (.t 9)), .a 11 (.mv (.c (.int .i64 0)))] [0] [])
  (.block 0 (.loop [] [] game_clean.b0)))
  (.seq (.reg [] [.a 22 (.mv (.t 3)), .a 2 (.mv (.t 22))] [3, 9, 10, 11, 12, 22] [])
  .ret))))⟩
def game_clean.hint : R.Hint := { kill := [(0, [2], []), (1, [6, 7, 8], []), (2, [0], []), (4, [12, 13, 14, 15], []), (5, [4, 5, 16, 17, 18, 19, 20], [5]), (6, [21], []), (7, [3, 9, 10, 11, 12, 22], [])], own := true }
theorem game_clean.ok : cFn Tryz.prog game_clean.hint Tryz.f77 = some game_clean := by kernel_rfl
def game_cross : R.Fn := ⟨4, [(.cell 8 3 true)], (.seq (.reg [] [.a 8 (.new [(.bool false), (.sl 1 []), (.sl 1 [])])] [] [])
  (.seq (.reg [] [.a 11 (.mv (.t 2)), .a 12 (.bin .shl (.c (.int .i64 1)) (.t 11)), .a 13 (.mv (.t 3)), .a 14 (.bin .shl (.c (.int .i64 1)) (.t 13)), .a 9 (.mv (.t 12)), .a 10 (.mv (.t 14))] [2, 3, 11, 12, 13, 14] [])
  (.seq (.reg [] [.a 15 (.mv (.t 0)), .a 16 (.mv (.t 1)), .a 17 (.mv (.t 9)), .a 18 (.bin .or (.t 16) (.t 17)), .a 19 (.mv (.t 10)), .a 20 (.bin .or (.t 18) (.t 19)), .a 21 (.iA 3 (.t 15) (.t 20)), .a 22 (.ld 3 true (.t 21)), .a 23 (.mv (.t 0)), .a 24 (.mv (.t 1)), .a 25 (.iA 3 (.t 23) (.t 24)), .a 26 (.ld 3 true (.t 25)), .a 27 (.call F.ratio_Add [(.t 22), (.t 26)]), .a 28 (.mv (.t 0)), .a 29 (.mv (.t 1)), .a 30 (.mv (.t 9)), .a 31 (.bin .or (.t 29) (.t 30)), .a 32 (.iA 3 (.t 28) (.t 31)), .a 33 (.ld 3 true (.t 32)), .a 34 (.mv (.t 0)), .a 35 (.mv (.t 1)), .a 36 (.mv (.t 10)), .a 37 (.bin .or (.t 35) (.t 36)), .a 38 (.iA 3 (.t 34) (.t 37)), .a 39 (.ld 3 true (.t 38)), .a 40 (.call F.ratio_Add [(.t 33), (.t 39)]), .a 41 (.call F.ratio_Sub [(.t 27), (.t 40)]), .n (.st 3 (.t 8) (.t 41))] [0, 1, 9, 10, 15, 16, 17, 18, 19, 20, 21, 22, 23, 24, 25, 26, 27, 28, 29, 30, 31, 32, 33, 34, 35, 36, 37, 38, 39, 40, 41] [])
  .ret)))⟩
def game_cross.hint : R.Hint := { kill := [(1, [2, 3, 11, 12, 13, 14], []), (2, [0, 1, 9, 10, 15, 16, 17, 18, 19, 20, 21, 22, 23, 24, 25, 26, 27, 28, 29, 30, 31, 32, 33, 34, 35, 36, 37, 38, 39, 40, 41], [])] }
theorem game_cross.ok : cFn Tryz.prog game_cross.hint Tryz.f78 = some game_cross := by kernel_rfl
def dendron_weigh_Table_quotient : R.Fn := ⟨4, [(.cell 8 3 true)], (.seq (.reg [] [.a 8 (.new [(.bool false), (.sl 1 []), (.sl 1 [])])] [] [])
  (.seq (.reg [] [.a 12 (.mv (.t 0)), .a 13 (.mv (.t 1)), .a 14 (.callk F.dendron_weigh_Table_at [(true, (.t 12)), (false, (.t 13))]), .a 15 (.mv (.t 0)), .a 16 (.mv (.t 2)), .a 17 (.callk F.dendron_weigh_Table_at [(true, (.t 15)), (false, (.t 16))]), .a 18 (.call F.whole_Mul [(.t 14), (.t 17)]), .a 19 (.mv (.t 0)), .a 20 (.mv (.t 3)), .a 21 (.callk F.dendron_weigh_Table_at [(true, (.t 19)), (false, (.t 20))]), .a 22 (.call F.ratio_Make [(.t 18), (.t 21)]), .a 11 (.mv (.t 22)), .a 23 (.ext (.t 11) 0), .a 24 (.ext (.t 11) 1), .a 9 (.new [(.bool false), (.sl 1 []), (.sl 1 [])]), .n (.st 3 (.t 9) (.t 23)), .a 10 (.mv (.t 24))] [0, 1, 2, 3, 10, 11, 12, 13, 14, 15, 16, 17, 18, 19, 20, 21, 22, 23, 24] [14, 17, 21])
  (.seq (.reg [] [.a 25 (.ld 3 true (.t 9)), .n (.st 3 (.t 8) (.t 25))] [9, 25] [9])
  .ret)))⟩
def dendron_weigh_Table_quotient.hint : R.Hint := { callk := [(14, [true, false]), (17, [true, false]), (21, [true, false])], kill := [(1, [0, 1, 2, 3, 10, 11, 12, 13, 14, 15, 16, 17, 18, 19, 20, 21, 22, 23, 24], [14, 17, 21]), (2, [9, 25], [9])] }
theorem dendron_weigh_Table_quotient.ok : cFn Tryz.prog dendron_weigh_Table_quotient.hint Tryz.f79 = some dendron_weigh_Table_quotient := by kernel_rfl
def owen_Right.b0 : R.C := (.seq (.reg [] [.a 17 (.bin .lss (.t 16) (.t 15))] [] [])
  (.seq (.cond (.t 17) .skip (.exit 0))
  (.seq (.block 1 (.seq (.reg [] [.a 18 (.iA 1 (.t 14) (.t 16)), .a 19 (.ld 1 false (.t 18)), .a 7 (.mv (.t 19))] [17, 18, 19] [])
  (.seq (.seq (.reg [] [.a 20 (.mv (.t 7)), .a 21 (.bin .leq (.t 20) (.c (.int .i64 0))), .a 22 (.mv (.t 21)), .g 23 22 false (.mv (.t 7)), .g 24 22 false (.mv (.t 1)), .g 25 22 false (.bin .shl (.c (.int .i64 1)) (.t 24)), .g 26 22 false (.bin .geq (.t 23) (.t 25)), .a 27 (.pick (.t 22) (.c (.bool true)) (.t 26)), .a 28 (.mv (.t 27)), .g 29 28 false (.mv (.t 5)), .g 30 28 false (.mv (.t 7)), .g 31 28 false (.bin .and (.t 29) (.t 30)), .g 32 28 false (.bin .neq (.t 31) (.c (.int .i64 0))), .a 33 (.pick (.t 28) (.c (.bool true)) (.t 32))] [20, 21, 22, 23, 24, 25, 26, 27, 28, 29, 30, 31, 32] [])
  (.cond (.t 33) (.seq (.reg [] [.a 4 (.mv (.c (.bool false)))] [1, 5, 7, 14, 15, 16, 33] [])
  .ret) .skip))
  (.reg [] [.a 34 (.mv (.t 5)), .a 35 (.mv (.t 7)), .a 36 (.bin .or (.t 34) (.t 35)), .a 5 (.mv (.t 36))] [7, 33, 34, 35, 36] []))))
  (.reg [] [.a 37 (.bin .add (.t 16) (.c (.int .i64 1))), .a 16 (.mv (.t 37))] [37] []))))
def owen_Right : R.Fn := ⟨2, [(.t 4)], (.seq (.reg [] [.a 4 (.mv (.c (.bool false)))] [4] [])
  (.seq (.seq (.reg [] [.a 8 (.mv (.t 1)), .a 9 (.bin .lss (.t 8) (.c (.int .i64 0))), .a 10 (.mv (.t 9)), .g 11 10 false (.mv (.t 1)), .g 12 10 false (.bin .gtr (.t 11) (.c (.int .i64 12))), .a 13 (.pick (.t 10) (.c (.bool true)) (.t 12))] [8, 9, 10, 11, 12] [])
  (.cond (.t 13) (.seq (.reg [] [.a 4 (.mv (.c (.bool false)))] [0, 1, 13] [])
  .ret) .skip))
  (.seq (.reg [] [.a 5 (.mv (.c (.int .i64 0)))] [13] [])
  (.seq (.seq (.reg [] [.a 14 (.mv (.t 0)), .a 15 (.ln (.t 14)), .a 16 (.mv (.c (.int .i64 0)))] [0] [])
  (.block 0 (.loop [] [] owen_Right.b0)))
  (.seq (.reg [] [.a 38 (.mv (.t 5)), .a 39 (.mv (.t 1)), .a 40 (.bin .shl (.c (.int .i64 1)) (.t 39)), .a 41 (.bin .sub (.t 40) (.c (.int .i64 1))), .a 42 (.bin .eql (.t 38) (.t 41)), .a 4 (.mv (.t 42))] [1, 5, 14, 15, 16, 17, 38, 39, 40, 41, 42] [])
  .ret)))))⟩
def owen_Right.hint : R.Hint := { kill := [(0, [4], []), (1, [8, 9, 10, 11, 12], []), (2, [0, 1, 13], []), (3, [13], []), (4, [0], []), (6, [17, 18, 19], []), (7, [20, 21, 22, 23, 24, 25, 26, 27, 28, 29, 30, 31, 32], []), (8, [1, 5, 7, 14, 15, 16, 33], []), (9, [7, 33, 34, 35, 36], []), (10, [37], []), (11, [1, 5, 14, 15, 16, 17, 38, 39, 40, 41, 42], [])] }
theorem owen_Right.ok : cFn Tryz.prog owen_Right.hint Tryz.f80 = some owen_Right := by kernel_rfl
def owen_part.b0 : R.C := (.seq (.block 1 (.seq (.reg [] [.a 31 (.mv (.t 1)), .a 32 (.mv (.t 14)), .a 33 (.conv .u64 (.t 32)), .a 34 (.call F.bits_OnesCount [(.t 33)]), .a 35 (.mv (.t 12)), .a 36 (.callk F.dendron_weigh_Table_Weight [(true, (.t 31)), (false, (.t 34)), (false, (.t 35))]), .a 30 (.mv (.t 36)), .a 37 (.ext (.t 30) 0), .a 38 (.ext (.t 30) 1), .a 15 (.new [(.bool false), (.sl 1 []), (.sl 1 [])]), .n (.st 3 (.t 15) (.t 37)), .a 16 (.mv (.t 38))] [16, 30, 31, 32, 33, 34, 35, 36, 37, 38] [36, 1036, 2036, 3036])
  (.seq (.reg [47244640267, 64424509455] [.a 39 (.ld 3 true (.t 11)), .a 40 (.ld 3 true (.t 15)), .a 41 (.mv (.t 0)), .a 42 (.mv (.t 4)), .a 43 (.mv (.t 14)), .a 44 (.bin .or (.t 42) (.t 43)), .a 45 (.mv (.t 3)), .a 46 (.bin .shl (.c (.int .i64 1)) (.t 45)), .a 47 (.bin .or (.t 44) (.t 46)), .a 48 (.iA 3 (.t 41) (.t 47)), .a 49 (.ld 3 true (.t 48)), .a 50 (.mv (.t 0)), .a 51 (.mv (.t 4)), .a 52 (.mv (.t 14)), .a 53 (.bin .or (.t 51) (.t 52)), .a 54 (.iA 3 (.t 50) (.t 53)), .a 55 (.ld 3 true (.t 54)), .a 56 (.call F.ratio_Sub [(.t 49), (.t 55)]), .a 57 (.call F.ratio_Mul [(.t 40), (.t 56)]), .a 58 (.call F.ratio_Add [(.t 39), (.t 57)]), .n (.st 3 (.t 11) (.t 58))] [15, 39, 40, 41, 42, 43, 44, 45, 46, 47, 48, 49, 50, 51, 52, 53, 54, 55, 56, 57, 58] [15])
  (.seq (.reg [] [.a 59 (.mv (.t 14)), .a 60 (.bin .eql (.t 59) (.c (.int .i64 0)))] [59] [])
  (.cond (.t 60) (.seq (.reg [] [.a 61 (.ld 3 true (.t 11)), .n (.st 3 (.t 10) (.t 61))] [0, 1, 3, 4, 11, 12, 13, 14, 60, 61] [11])
  .ret) .skip)))))
  (.reg [] [.a 26 (.mv (.t 14)), .a 27 (.bin .sub (.t 26) (.c (.int .i64 1))), .a 28 (.mv (.t 13)), .a 29 (.bin .and (.t 27) (.t 28)), .a 14 (.mv (.t 29))] [26, 27, 28, 29, 60] []))
def owen_part : R.Fn := ⟨5, [(.cell 10 3 true)], (.seq (.reg [] [.a 10 (.new [(.bool false), (.sl 1 []), (.sl 1 [])])] [] [])
  (.seq (.reg [] [.a 17 (.call F.ratio_Zero []), .a 11 (.new [(.bool false), (.sl 1 []), (.sl 1 [])]), .n (.st 3 (.t 11) (.t 17))] [17] [])
  (.seq (.reg [] [.a 18 (.mv (.t 2)), .a 19 (.conv .u64 (.t 18)), .a 20 (.call F.bits_OnesCount [(.t 19)]), .a 12 (.mv (.t 20))] [18, 19, 20] [])
  (.seq (.reg [] [.a 21 (.mv (.t 2)), .a 22 (.mv (.t 3)), .a 23 (.bin .shl (.c (.int .i64 1)) (.t 22)), .a 24 (.bin .andNot (.t 21) (.t 23)), .a 13 (.mv (.t 24))] [2, 21, 22, 23, 24] [])
  (.seq (.reg [] [.a 25 (.mv (.t 13)), .a 14 (.mv (.t 25))] [25] [])
  (.block 0 (.loop [] [] owen_part.b0)))))))⟩
def owen_part.hint : R.Hint := { callk := [(36, [true, false, false])], pub := [(7, [47244640267, 64424509455])], kill := [(1, [17], []), (2, [18, 19, 20], []), (3, [2, 21, 22, 23, 24], []), (4, [25], []), (5, [26, 27, 28, 29, 60], []), (6, [16, 30, 31, 32, 33, 34, 35, 36, 37, 38], [36, 1036, 2036, 3036]), (7, [15, 39, 40, 41, 42, 43, 44, 45, 46, 47, 48, 49, 50, 51, 52, 53, 54, 55, 56, 57, 58], [15]), (8, [59], []), (9, [0, 1, 3, 4, 11, 12, 13, 14, 60, 61], [11])] }
theorem owen_part.ok : cFn Tryz.prog owen_part.hint Tryz.f81 = some owen_part := by kernel_rfl
def owen_merged.b0 : R.C := (.seq (.reg [] [.a 11 (.bin .lss (.t 10) (.t 9))] [] [])
  (.seq (.cond (.t 11) .skip (.exit 0))
  (.seq (.block 1 (.seq (.reg [] [.a 12 (.mv (.t 10)), .a 13 (.iA 1 (.t 8) (.t 10)), .a 14 (.ld 1 false (.t 13)), .a 6 (.mv (.t 12)), .a 7 (.mv (.t 14))] [11, 12, 13, 14] [])
  (.seq (.reg [] [.a 15 (.mv (.t 1)), .a 16 (.mv (.t 6)), .a 17 (.bin .shr (.t 15) (.t 16)), .a 18 (.bin .and (.t 17) (.c (.int .i64 1))), .a 19 (.bin .eql (.t 18) (.c (.int .i64 1)))] [6, 15, 16, 17, 18] [])
  (.cond (.t 19) (.reg [] [.a 20 (.mv (.t 5)), .a 21 (.mv (.t 7)), .a 22 (.bin .or (.t 20) (.t 21)), .a 5 (.mv (.t 22))] [7, 19, 20, 21, 22] []) .skip))))
  (.reg [] [.a 23 (.bin .add (.t 10) (.c (.int .i64 1))), .a 10 (.mv (.t 23))] [7, 19, 23] []))))
def owen_merged : R.Fn := ⟨2, [(.t 4)], (.seq (.reg [] [.a 4 (.mv (.c (.int .i64 0)))] [4] [])
  (.seq (.reg [] [.a 5 (.mv (.c (.int .i64 0)))] [] [])
  (.seq (.seq (.reg [] [.a 8 (.mv (.t 0)), .a 9 (.ln (.t 8)), .a 10 (.mv (.c (.int .i64 0)))] [0] [])
  (.block 0 (.loop [] [] owen_merged.b0)))
  (.seq (.reg [] [.a 24 (.mv (.t 5)), .a 4 (.mv (.t 24))] [1, 5, 8, 9, 10, 11, 24] [])
  .ret))))⟩
def owen_merged.hint : R.Hint := { kill := [(0, [4], []), (2, [0], []), (4, [11, 12, 13, 14], []), (5, [6, 15, 16, 17, 18], []), (6, [7, 19, 20, 21, 22], []), (7, [7, 19, 23], []), (8, [1, 5, 8, 9, 10, 11, 24], [])] }
theorem owen_merged.ok : cFn Tryz.prog owen_merged.hint Tryz.f82 = some owen_merged := by kernel_rfl
def orders_First.b0 : R.C := (.seq (.reg [] [.a 7 (.bin .lss (.t 6) (.t 5))] [] [])
  (.seq (.cond (.t 7) .skip (.exit 0))
  (.seq (.block 1 (.seq (.reg [] [.a 8 (.mv (.t 6)), .a 4 (.mv (.t 8))] [7, 8] [])
  (.reg [] [.a 9 (.mv (.t 3)), .a 10 (.mv (.t 4)), .a 11 (.lit 1 1 [(.int .i64 0)] [(0, 1, (.t 10))]), .a 12 (.app 1 8 (.t 9) (.t 11)), .a 3 (.mv (.t 12))] [4, 9, 10, 11, 12] [])))
  (.reg [] [.a 13 (.bin .add (.t 6) (.c (.int .i64 1))), .a 6 (.mv (.t 13))] [13] []))))
def orders_First : R.Fn := ⟨1, [(.t 2)], (.seq (.reg [] [.a 2 (.mv (.c (.sl 1 [])))] [2] [])
  (.seq (.reg [] [.a 3 (.nil 1)] [] [])
  (.seq (.seq (.reg [] [.a 5 (.mv (.t 0)), .a 6 (.mv (.c (.int .i64 0)))] [0] [])
  (.block 0 (.loop [] [] orders_First.b0)))
  (.seq (.reg [] [.a 14 (.mv (.t 3)), .a 2 (.mv (.t 14))] [3, 5, 6, 7, 14] [])
  .ret))))⟩
def orders_First.hint : R.Hint := { nil := [3], kill := [(0, [2], []), (2, [0], []), (4, [7, 8], []), (5, [4, 9, 10, 11, 12], []), (6, [13], []), (7, [3, 5, 6, 7, 14], [])] }
theorem orders_First.ok : cFn Tryz.prog orders_First.hint Tryz.f83 = some orders_First := by kernel_rfl
def orders_Next.b0 : R.C := (.seq (.seq (.reg [] [.a 15 (.mv (.t 5)), .a 16 (.bin .geq (.t 15) (.c (.int .i64 0))), .a 17 (.mv (.t 16)), .g 18 17 true (.mv (.t 4)), .g 19 17 true (.mv (.t 5)), .g 20 17 true (.iA 1 (.t 18) (.t 19)), .g 21 17 true (.ld 1 false (.t 20)), .g 22 17 true (.mv (.t 4)), .g 23 17 true (.mv (.t 5)), .g 24 17 true (.bin .add (.t 23) (.c (.int .i64 1))), .g 25 17 true (.iA 1 (.t 22) (.t 24)), .g 26 17 true (.ld 1 false (.t 25)), .g 27 17 true (.bin .geq (.t 21) (.t 26)), .a 28 (.pick (.t 17) (.t 27) (.c (.bool false)))] [15, 16, 17, 18, 19, 20, 21, 22, 23, 24, 25, 26, 27] [])
  (.cond (.t 28) .skip (.exit 0)))
  (.block 1 (.reg [] [.a 29 (.mv (.t 5)), .a 30 (.bin .sub (.t 29) (.c (.int .i64 1))), .a 5 (.mv (.t 30))] [28, 29, 30] [])))
def orders_Next.b2 : R.C := (.seq (.seq (.reg [] [.a 36 (.mv (.t 4)), .a 37 (.mv (.t 6)), .a 38 (.iA 1 (.t 36) (.t 37)), .a 39 (.ld 1 false (.t 38)), .a 40 (.mv (.t 4)), .a 41 (.mv (.t 5)), .a 42 (.iA 1 (.t 40) (.t 41)), .a 43 (.ld 1 false (.t 42)), .a 44 (.bin .leq (.t 39) (.t 43))] [36, 37, 38, 39, 40, 41, 42, 43] [])
  (.cond (.t 44) .skip (.exit 2)))
  (.block 3 (.reg [] [.a 45 (.mv (.t 6)), .a 46 (.bin .sub (.t 45) (.c (.int .i64 1))), .a 6 (.mv (.t 46))] [44, 45, 46] [])))
def orders_Next.b4 : R.C := (.seq (.seq (.reg [] [.a 66 (.mv (.t 7)), .a 67 (.mv (.t 8)), .a 68 (.bin .lss (.t 66) (.t 67))] [66, 67] [])
  (.cond (.t 68) .skip (.exit 4)))
  (.seq (.block 5 (.reg [] [.a 73 (.mv (.t 4)), .a 74 (.mv (.t 7)), .a 75 (.mv (.t 4)), .a 76 (.mv (.t 8)), .a 77 (.mv (.t 4)), .a 78 (.mv (.t 8)), .a 79 (.iA 1 (.t 77) (.t 78)), .a 80 (.ld 1 false (.t 79)), .a 81 (.mv (.t 4)), .a 82 (.mv (.t 7)), .a 83 (.iA 1 (.t 81) (.t 82)), .a 84 (.ld 1 false (.t 83)), .a 85 (.iA 1 (.t 73) (.t 74)), .n (.st 1 (.t 85) (.t 80)), .a 86 (.iA 1 (.t 75) (.t 76)), .n (.st 1 (.t 86) (.t 84))] [68, 73, 74, 75, 76, 77, 78, 79, 80, 81, 82, 83, 84, 85, 86] []))
  (.reg [] [.a 69 (.mv (.t 7)), .a 70 (.bin .add (.t 69) (.c (.int .i64 1))), .a 71 (.mv (.t 8)), .a 72 (.bin .sub (.t 71) (.c (.int .i64 1))), .a 7 (.mv (.t 70)), .a 8 (.mv (.t 72))] [69, 70, 71, 72] [])))
def orders_Next : R.Fn := ⟨1, [(.t 2), (.t 3)], (.seq (.reg [] [.a 2 (.mv (.c (.sl 1 []))), .a 3 (.mv (.c (.bool false)))] [2, 3] [])
  (.seq (.reg [] [.a 9 (.lito 1 0 [] []), .a 10 (.mv (.t 0)), .a 11 (.app 1 8 (.t 9) (.t 10)), .a 4 (.mv (.t 11))] [0, 9, 10, 11] [])
  (.seq (.reg [] [.a 12 (.mv (.t 4)), .a 13 (.ln (.t 12)), .a 14 (.bin .sub (.t 13) (.c (.int .i64 2))), .a 5 (.mv (.t 14))] [12, 13, 14] [])
  (.seq (.block 0 (.loop [] [] orders_Next.b0))
  (.seq (.seq (.reg [] [.a 31 (.mv (.t 5)), .a 32 (.bin .lss (.t 31) (.c (.int .i64 0)))] [28, 31] [])
  (.cond (.t 32) (.seq (.reg [] [.a 2 (.mv (.c (.sl 1 []))), .a 3 (.mv (.c (.bool false)))] [4, 5, 32] [])
  .ret) .skip))
  (.seq (.reg [] [.a 33 (.mv (.t 4)), .a 34 (.ln (.t 33)), .a 35 (.bin .sub (.t 34) (.c (.int .i64 1))), .a 6 (.mv (.t 35))] [32, 33, 34, 35] [])
  (.seq (.block 2 (.loop [] [] orders_Next.b2))
  (.seq (.reg [] [.a 47 (.mv (.t 4)), .a 48 (.mv (.t 5)), .a 49 (.mv (.t 4)), .a 50 (.mv (.t 6)), .a 51 (.mv (.t 4)), .a 52 (.mv (.t 6)), .a 53 (.iA 1 (.t 51) (.t 52)), .a 54 (.ld 1 false (.t 53)), .a 55 (.mv (.t 4)), .a 56 (.mv (.t 5)), .a 57 (.iA 1 (.t 55) (.t 56)), .a 58 (.ld 1 false (.t 57)), .a 59 (.iA 1 (.t 47) (.t 48)), .n (.st 1 (.t 59) (.t 54)), .a 60 (.iA 1 (.t 49) (.t 50)), .n (.st 1 (.t 60) (.t 58))] [6, 44, 47, 48, 49, 50, 51, 52, 53, 54, 55, 56, 57, 58, 59, 60] [])
  (.seq (.seq (.reg [] [.a 61 (.mv (.t 5)), .a 62 (.bin .add (.t 61) (.c (.int .i64 1))), .a 63 (.mv (.t 4)), .a 64 (.ln (.t 63)), .a 65 (.bin .sub (.t 64) (.c (.int .i64 1))), .a 7 (.mv (.t 62)), .a 8 (.mv (.t 65))] [5, 61, 62, 63, 64, 65] [])
  (.block 4 (.loop [] [] orders_Next.b4)))
  (.seq (.reg [] [.a 87 (.mv (.t 4)), .a 2 (.mv (.t 87)), .a 3 (.mv (.c (.bool true)))] [4, 7, 8, 68, 87] [])
  .ret))))))))))⟩
def orders_Next.hint : R.Hint := { lit := [9], kill := [(0, [2, 3], []), (1, [0, 9, 10, 11], []), (2, [12, 13, 14], []), (3, [15, 16, 17, 18, 19, 20, 21, 22, 23, 24, 25, 26, 27], []), (4, [28, 29, 30], []), (5, [28, 31], []), (6, [4, 5, 32], []), (7, [32, 33, 34, 35], []), (8, [36, 37, 38, 39, 40, 41, 42, 43], []), (9, [44, 45, 46], []), (10, [6, 44, 47, 48, 49, 50, 51, 52, 53, 54, 55, 56, 57, 58, 59, 60], []), (11, [5, 61, 62, 63, 64, 65], []), (12, [66, 67], []), (13, [69, 70, 71, 72], []), (14, [68, 73, 74, 75, 76, 77, 78, 79, 80, 81, 82, 83, 84, 85, 86], []), (15, [4, 7, 8, 68, 87], [])] }
theorem orders_Next.ok : cFn Tryz.prog orders_Next.hint Tryz.f84 = some orders_Next := by kernel_rfl
def orders_Adds.b0 : R.C := (.seq (.reg [] [.a 30 (.bin .lss (.t 29) (.t 28))] [] [])
  (.seq (.cond (.t 30) .skip (.exit 0))
  (.seq (.block 1 (.seq (.reg [] [.a 31 (.iA 1 (.t 27) (.t 29)), .a 32 (.ld 1 false (.t 31)), .a 11 (.mv (.t 32))] [30, 31, 32] [])
  (.seq (.reg [] [.a 33 (.mv (.t 8)), .a 34 (.mv (.t 11)), .a 35 (.mv (.t 0)), .a 36 (.mv (.t 9)), .a 37 (.mv (.t 11)), .a 38 (.bin .shl (.c (.int .i64 1)) (.t 37)), .a 39 (.bin .or (.t 36) (.t 38)), .a 40 (.iA 3 (.t 35) (.t 39)), .a 41 (.ld 3 true (.t 40)), .a 42 (.mv (.t 0)), .a 43 (.mv (.t 9)), .a 44 (.iA 3 (.t 42) (.t 43)), .a 45 (.ld 3 true (.t 44)), .a 46 (.call F.ratio_Sub [(.t 41), (.t 45)]), .a 47 (.iA 3 (.t 33) (.t 34)), .n (.st 3 (.t 47) (.t 46))] [33, 34, 35, 36, 37, 38, 39, 40, 41, 42, 43, 44, 45, 46, 47] [])
  (.reg [] [.a 48 (.mv (.t 9)), .a 49 (.mv (.t 11)), .a 50 (.bin .shl (.c (.int .i64 1)) (.t 49)), .a 51 (.bin .or (.t 48) (.t 50)), .a 9 (.mv (.t 51))] [11, 48, 49, 50, 51] []))))
  (.reg [] [.a 52 (.bin .add (.t 29) (.c (.int .i64 1))), .a 29 (.mv (.t 52))] [52] []))))
def orders_Adds : R.Fn := ⟨2, [(.t 4), (.t 5)], (.seq (.reg [] [.a 4 (.mv (.c (.sl 3 []))), .a 5 (.mv (.c (.int .i64 0)))] [4, 5] [])
  (.seq (.reg [] [.a 13 (.mv (.t 0)), .a 14 (.call F.game_Players [(.t 13)]), .a 12 (.mv (.t 14)), .a 15 (.ext (.t 12) 0), .a 16 (.ext (.t 12) 1), .a 6 (.mv (.t 15)), .a 7 (.mv (.t 16))] [12, 13, 14, 15, 16] [])
  (.seq (.seq (.reg [] [.a 17 (.mv (.t 7)), .a 18 (.un .not (.t 17)), .a 19 (.mv (.t 18)), .g 20 19 false (.mv (.t 1)), .g 21 19 false (.mv (.t 6)), .g 22 19 false (.call F.orders_Right [(.t 20), (.t 21)]), .g 23 19 false (.un .not (.t 22)), .a 24 (.pick (.t 19) (.c (.bool true)) (.t 23))] [7, 17, 18, 19, 20, 21, 22, 23] [])
  (.cond (.t 24) (.seq (.reg [] [.a 4 (.mv (.c (.sl 3 []))), .a 5 (.mv (.c (.int .i64 1)))] [0, 1, 6, 24] [])
  .ret) .skip))
  (.seq (.reg [] [.a 25 (.mv (.t 6)), .a 26 (.mk 3 56 [(.bool false), (.sl 1 []), (.sl 1 [])] (.t 25) (.t 25)), .a 8 (.mv (.t 26))] [6, 24, 25, 26] [])
  (.seq (.reg [] [.a 9 (.mv (.c (.int .i64 0)))] [] [])
  (.seq (.seq (.reg [] [.a 27 (.mv (.t 1)), .a 28 (.ln (.t 27)), .a 29 (.mv (.c (.int .i64 0)))] [1] [])
  (.block 0 (.loop [] [] orders_Adds.b0)))
  (.seq (.reg [] [.a 53 (.mv (.t 8)), .a 4 (.mv (.t 53)), .a 5 (.mv (.c (.int .i64 0)))] [0, 8, 9, 27, 28, 29, 30, 53] [])
  .ret)))))))⟩
def orders_Adds.hint : R.Hint := { kill := [(0, [4, 5], []), (1, [12, 13, 14, 15, 16], []), (2, [7, 17, 18, 19, 20, 21, 22, 23], []), (3, [0, 1, 6, 24], []), (4, [6, 24, 25, 26], []), (6, [1], []), (8, [30, 31, 32], []), (9, [33, 34, 35, 36, 37, 38, 39, 40, 41, 42, 43, 44, 45, 46, 47], []), (10, [11, 48, 49, 50, 51], []), (11, [52], []), (12, [0, 8, 9, 27, 28, 29, 30, 53], [])] }
theorem orders_Adds.ok : cFn Tryz.prog orders_Adds.hint Tryz.f85 = some orders_Adds := by kernel_rfl
def dendronlaw21_same.b0 : R.C := (.seq (.seq (.reg [] [.a 11 (.mv (.t 5)), .a 12 (.mv (.t 0)), .a 13 (.ln (.t 12)), .a 14 (.bin .lss (.t 11) (.t 13))] [11, 12, 13] [])
  (.cond (.t 14) .skip (.exit 0)))
  (.seq (.block 1 (.seq (.reg [] [.a 17 (.mv (.t 0)), .a 18 (.mv (.t 5)), .a 19 (.iA 1 (.t 17) (.t 18)), .a 20 (.ld 1 false (.t 19)), .a 21 (.mv (.t 1)), .a 22 (.mv (.t 5)), .a 23 (.iA 1 (.t 21) (.t 22)), .a 24 (.ld 1 false (.t 23)), .a 25 (.bin .neq (.t 20) (.t 24))] [14, 17, 18, 19, 20, 21, 22, 23, 24] [])
  (.cond (.t 25) (.seq (.reg [] [.a 4 (.mv (.c (.bool false)))] [0, 1, 5, 25] [])
  .ret) .skip)))
  (.reg [] [.a 15 (.mv (.t 5)), .a 16 (.bin .add (.t 15) (.c (.int .i64 1))), .a 5 (.mv (.t 16))] [15, 16, 25] [])))
def dendronlaw21_same : R.Fn := ⟨2, [(.t 4)], (.seq (.reg [] [.a 4 (.mv (.c (.bool false)))] [4] [])
  (.seq (.seq (.reg [] [.a 6 (.mv (.t 0)), .a 7 (.ln (.t 6)), .a 8 (.mv (.t 1)), .a 9 (.ln (.t 8)), .a 10 (.bin .neq (.t 7) (.t 9))] [6, 7, 8, 9] [])
  (.cond (.t 10) (.seq (.reg [] [.a 4 (.mv (.c (.bool false)))] [0, 1, 10] [])
  .ret) .skip))
  (.seq (.seq (.reg [] [.a 5 (.mv (.c (.int .i64 0)))] [10] [])
  (.block 0 (.loop [] [] dendronlaw21_same.b0)))
  (.seq (.reg [] [.a 4 (.mv (.c (.bool true)))] [0, 1, 5, 14] [])
  .ret))))⟩
def dendronlaw21_same.hint : R.Hint := { kill := [(0, [4], []), (1, [6, 7, 8, 9], []), (2, [0, 1, 10], []), (3, [10], []), (4, [11, 12, 13], []), (5, [15, 16, 25], []), (6, [14, 17, 18, 19, 20, 21, 22, 23, 24], []), (7, [0, 1, 5, 25], []), (8, [0, 1, 5, 14], [])] }
theorem dendronlaw21_same.ok : cFn Tryz.prog dendronlaw21_same.hint Tryz.f86 = some dendronlaw21_same := by kernel_rfl
def bits_Len : R.Fn := ⟨1, [(.t 2)], (.seq (.reg [] [.a 2 (.mv (.c (.int .i64 0)))] [2] [])
  (.seq (.cond (.c (.bool false)) (.seq (.reg [] [.a 3 (.mv (.t 0)), .a 4 (.conv .u32 (.t 3)), .a 5 (.call F.bits_Len32 [(.t 4)]), .a 2 (.mv (.t 5))] [0, 3, 4, 5] [])
  .ret) .skip)
  (.seq (.reg [] [.a 6 (.mv (.t 0)), .a 7 (.call F.bits_Len64 [(.t 6)]), .a 2 (.mv (.t 7))] [0, 6, 7] [])
  .ret)))⟩
def bits_Len.hint : R.Hint := { kill := [(0, [2], []), (1, [0, 3, 4, 5], []), (2, [0, 6, 7], [])] }
theorem bits_Len.ok : cFn Tryz.prog bits_Len.hint Tryz.f87 = some bits_Len := by kernel_rfl
def bits_OnesCount32 : R.Fn := ⟨1, [(.t 2)], (.seq (.reg [] [.a 2 (.mv (.c (.int .i64 0)))] [2] [])
  (.seq (.reg [] [.a 3 (.mv (.t 0)), .a 4 (.bin .shr (.t 3) (.c (.int .u64 24))), .a 5 (.sI (.c (.str ⟨#[0, 1, 1, 2, 1, 2, 2, 3, 1, 2, 2, 3, 2, 3, 3, 4, 1, 2, 2, 3, 2, 3, 3, 4, 2, 3, 3, 4, 3, 4, 4, 5, 1, 2, 2, 3, 2, 3, 3, 4, 2, 3, 3, 4, 3, 4, 4, 5, 2, 3, 3, 4, 3, 4, 4, 5, 3, 4, 4, 5, 4, 5, 5, 6, 1, 2, 2, 3, 2, 3, 3, 4, 2, 3, 3, 4, 3, 4, 4, 5, 2, 3, 3, 4, 3, 4, 4, 5, 3, 4, 4, 5, 4, 5, 5, 6, 2, 3, 3, 4, 3, 4, 4, 5, 3, 4, 4, 5, 4, 5, 5, 6, 3, 4, 4, 5, 4, 5, 5, 6, 4, 5, 5, 6, 5, 6, 6, 7, 1, 2, 2, 3, 2, 3, 3, 4, 2, 3, 3, 4, 3, 4, 4, 5, 2, 3, 3, 4, 3, 4, 4, 5, 3, 4, 4, 5, 4, 5, 5, 6, 2, 3, 3, 4, 3, 4, 4, 5, 3, 4, 4, 5, 4, 5, 5, 6, 3, 4, 4, 5, 4, 5, 5, 6, 4, 5, 5, 6, 5, 6, 6, 7, 2, 3, 3, 4, 3, 4, 4, 5, 3, 4, 4, 5, 4, 5, 5, 6, 3, 4, 4, 5, 4, 5, 5, 6, 4, 5, 5, 6, 5, 6, 6, 7, 3, 4, 4, 5, 4, 5, 5, 6, 4, 5, 5, 6, 5, 6, 6, 7, 4, 5, 5, 6, 5, 6, 6, 7, 5, 6, 6, 7, 6, 7, 7, 8]⟩)) (.t 4)), .a 6 (.mv (.t 0)), .a 7 (.bin .shr (.t 6) (.c (.int .u64 16))), .a 8 (.bin .and (.t 7) (.c (.int .u32 255))), .a 9 (.sI (.c (.str ⟨#[0, 1, 1, 2, 1, 2, 2, 3, 1, 2, 2, 3, 2, 3, 3, 4, 1, 2, 2, 3, 2, 3, 3, 4, 2, 3, 3, 4, 3, 4, 4, 5, 1, 2, 2, 3, 2, 3, 3, 4, 2, 3, 3, 4, 3, 4, 4, 5, 2, 3, 3, 4, 3, 4, 4, 5, 3, 4, 4, 5, 4, 5, 5, 6, 1, 2, 2, 3, 2, 3, 3, 4, 2, 3, 3, 4, 3, 4, 4, 5, 2, 3, 3, 4, 3, 4, 4, 5, 3, 4, 4, 5, 4, 5, 5, 6, 2, 3, 3, 4, 3, 4, 4, 5, 3, 4, 4, 5, 4, 5, 5, 6, 3, 4, 4, 5, 4, 5, 5, 6, 4, 5, 5, 6, 5, 6, 6, 7, 1, 2, 2, 3, 2, 3, 3, 4, 2, 3, 3, 4, 3, 4, 4, 5, 2, 3, 3, 4, 3, 4, 4, 5, 3, 4, 4, 5, 4, 5, 5, 6, 2, 3, 3, 4, 3, 4, 4, 5, 3, 4, 4, 5, 4, 5, 5, 6, 3, 4, 4, 5, 4, 5, 5, 6, 4, 5, 5, 6, 5, 6, 6, 7, 2, 3, 3, 4, 3, 4, 4, 5, 3, 4, 4, 5, 4, 5, 5, 6, 3, 4, 4, 5, 4, 5, 5, 6, 4, 5, 5, 6, 5, 6, 6, 7, 3, 4, 4, 5, 4, 5, 5, 6, 4, 5, 5, 6, 5, 6, 6, 7, 4, 5, 5, 6, 5, 6, 6, 7, 5, 6, 6, 7, 6, 7, 7, 8]⟩)) (.t 8)), .a 10 (.bin .add (.t 5) (.t 9)), .a 11 (.mv (.t 0)), .a 12 (.bin .shr (.t 11) (.c (.int .u64 8))), .a 13 (.bin .and (.t 12) (.c (.int .u32 255))), .a 14 (.sI (.c (.str ⟨#[0, 1, 1, 2, 1, 2, 2, 3, 1, 2, 2, 3, 2, 3, 3, 4, 1, 2, 2, 3, 2, 3, 3, 4, 2, 3, 3, 4, 3, 4, 4, 5, 1, 2, 2, 3, 2, 3, 3, 4, 2, 3, 3, 4, 3, 4, 4, 5, 2, 3, 3, 4, 3, 4, 4, 5, 3, 4, 4, 5, 4, 5, 5, 6, 1, 2, 2, 3, 2, 3, 3, 4, 2, 3, 3, 4, 3, 4, 4, 5, 2, 3, 3, 4, 3, 4, 4, 5, 3, 4, 4, 5, 4, 5, 5, 6, 2, 3, 3, 4, 3, 4, 4, 5, 3, 4, 4, 5, 4, 5, 5, 6, 3, 4, 4, 5, 4, 5, 5, 6, 4, 5, 5, 6, 5, 6, 6, 7, 1, 2, 2, 3, 2, 3, 3, 4, 2, 3, 3, 4, 3, 4, 4, 5, 2, 3, 3, 4, 3, 4, 4, 5, 3, 4, 4, 5, 4, 5, 5, 6, 2, 3, 3, 4, 3, 4, 4, 5, 3, 4, 4, 5, 4, 5, 5, 6, 3, 4, 4, 5, 4, 5, 5, 6, 4, 5, 5, 6, 5, 6, 6, 7, 2, 3, 3, 4, 3, 4, 4, 5, 3, 4, 4, 5, 4, 5, 5, 6, 3, 4, 4, 5, 4, 5, 5, 6, 4, 5, 5, 6, 5, 6, 6, 7, 3, 4, 4, 5, 4, 5, 5, 6, 4, 5, 5, 6, 5, 6, 6, 7, 4, 5, 5, 6, 5, 6, 6, 7, 5, 6, 6, 7, 6, 7, 7, 8]⟩)) (.t 13)), .a 15 (.bin .add (.t 10) (.t 14)), .a 16 (.mv (.t 0)), .a 17 (.bin .and (.t 16) (.c (.int .u32 255))), .a 18 (.sI (.c (.str ⟨#[0, 1, 1, 2, 1, 2, 2, 3, 1, 2, 2, 3, 2, 3, 3, 4, 1, 2, 2, 3, 2, 3, 3, 4, 2, 3, 3, 4, 3, 4, 4, 5, 1, 2, 2, 3, 2, 3, 3, 4, 2, 3, 3, 4, 3, 4, 4, 5, 2, 3, 3, 4, 3, 4, 4, 5, 3, 4, 4, 5, 4, 5, 5, 6, 1, 2, 2, 3, 2, 3, 3, 4, 2, 3, 3, 4, 3, 4, 4, 5, 2, 3, 3, 4, 3, 4, 4, 5, 3, 4, 4, 5, 4, 5, 5, 6, 2, 3, 3, 4, 3, 4, 4, 5, 3, 4, 4, 5, 4, 5, 5, 6, 3, 4, 4, 5, 4, 5, 5, 6, 4, 5, 5, 6, 5, 6, 6, 7, 1, 2, 2, 3, 2, 3, 3, 4, 2, 3, 3, 4, 3, 4, 4, 5, 2, 3, 3, 4, 3, 4, 4, 5, 3, 4, 4, 5, 4, 5, 5, 6, 2, 3, 3, 4, 3, 4, 4, 5, 3, 4, 4, 5, 4, 5, 5, 6, 3, 4, 4, 5, 4, 5, 5, 6, 4, 5, 5, 6, 5, 6, 6, 7, 2, 3, 3, 4, 3, 4, 4, 5, 3, 4, 4, 5, 4, 5, 5, 6, 3, 4, 4, 5, 4, 5, 5, 6, 4, 5, 5, 6, 5, 6, 6, 7, 3, 4, 4, 5, 4, 5, 5, 6, 4, 5, 5, 6, 5, 6, 6, 7, 4, 5, 5, 6, 5, 6, 6, 7, 5, 6, 6, 7, 6, 7, 7, 8]⟩)) (.t 17)), .a 19 (.bin .add (.t 15) (.t 18)), .a 20 (.conv .i64 (.t 19)), .a 2 (.mv (.t 20))] [0, 3, 4, 5, 6, 7, 8, 9, 10, 11, 12, 13, 14, 15, 16, 17, 18, 19, 20] [])
  .ret))⟩
def bits_OnesCount32.hint : R.Hint := { kill := [(0, [2], []), (1, [0, 3, 4, 5, 6, 7, 8, 9, 10, 11, 12, 13, 14, 15, 16, 17, 18, 19, 20], [])] }
theorem bits_OnesCount32.ok : cFn Tryz.prog bits_OnesCount32.hint Tryz.f88 = some bits_OnesCount32 := by kernel_rfl
def bits_OnesCount64 : R.Fn := ⟨1, [(.t 2)], (.seq (.reg [] [.a 2 (.mv (.c (.int .i64 0)))] [2] [])
  (.seq (.reg [] [.a 3 (.mv (.t 0)), .a 4 (.bin .shr (.t 3) (.c (.int .u64 1))), .a 5 (.bin .and (.t 4) (.c (.int .u64 6148914691236517205))), .a 6 (.mv (.t 0)), .a 7 (.bin .and (.t 6) (.c (.int .u64 6148914691236517205))), .a 8 (.bin .add (.t 5) (.t 7)), .a 0 (.mv (.t 8))] [3, 4, 5, 6, 7, 8] [])
  (.seq (.reg [] [.a 9 (.mv (.t 0)), .a 10 (.bin .shr (.t 9) (.c (.int .u64 2))), .a 11 (.bin .and (.t 10) (.c (.int .u64 3689348814741910323))), .a 12 (.mv (.t 0)), .a 13 (.bin .and (.t 12) (.c (.int .u64 3689348814741910323))), .a 14 (.bin .add (.t 11) (.t 13)), .a 0 (.mv (.t 14))] [9, 10, 11, 12, 13, 14] [])
  (.seq (.reg [] [.a 15 (.mv (.t 0)), .a 16 (.bin .shr (.t 15) (.c (.int .u64 4))), .a 17 (.mv (.t 0)), .a 18 (.bin .add (.t 16) (.t 17)), .a 19 (.bin .and (.t 18) (.c (.int .u64 1085102592571150095))), .a 0 (.mv (.t 19))] [15, 16, 17, 18, 19] [])
  (.seq (.reg [] [.a 20 (.mv (.t 0)), .a 21 (.mv (.t 0)), .a 22 (.bin .shr (.t 21) (.c (.int .u64 8))), .a 23 (.bin .add (.t 20) (.t 22)), .a 0 (.mv (.t 23))] [20, 21, 22, 23] [])
  (.seq (.reg [] [.a 24 (.mv (.t 0)), .a 25 (.mv (.t 0)), .a 26 (.bin .shr (.t 25) (.c (.int .u64 16))), .a 27 (.bin .add (.t 24) (.t 26)), .a 0 (.mv (.t 27))] [24, 25, 26, 27] [])
  (.seq (.reg [] [.a 28 (.mv (.t 0)), .a 29 (.mv (.t 0)), .a 30 (.bin .shr (.t 29) (.c (.int .u64 32))), .a 31 (.bin .add (.t 28) (.t 30)), .a 0 (.mv (.t 31))] [28, 29, 30, 31] [])
  (.seq (.reg [] [.a 32 (.mv (.t 0)), .a 33 (.conv .i64 (.t 32)), .a 34 (.bin .and (.t 33) (.c (.int .i64 127))), .a 2 (.mv (.t 34))] [0, 32, 33, 34] [])
  .ret))))))))⟩
def bits_OnesCount64.hint : R.Hint := { kill := [(0, [2], []), (1, [3, 4, 5, 6, 7, 8], []), (2, [9, 10, 11, 12, 13, 14], []), (3, [15, 16, 17, 18, 19], []), (4, [20, 21, 22, 23], []), (5, [24, 25, 26, 27], []), (6, [28, 29, 30, 31], []), (7, [0, 32, 33, 34], [])] }
theorem bits_OnesCount64.ok : cFn Tryz.prog bits_OnesCount64.hint Tryz.f89 = some bits_OnesCount64 := by kernel_rfl
def whole_Neg : R.Fn := ⟨1, [(.cell 2 2 true)], (.seq (.reg [] [.a 1 (.box (.t 0)), .a 2 (.new [(.bool false), (.sl 1 [])])] [0] [])
  (.seq (.reg [] [.a 3 (.ld 2 true (.t 1)), .a 4 (.call F.whole_Clean [(.t 3)]), .n (.st 2 (.t 1) (.t 4))] [3, 4] [])
  (.seq (.reg [] [.a 5 (.fA 0 (.t 1)), .a 6 (.ld 1 false (.t 5)), .a 7 (.un .not (.t 6)), .a 8 (.fA 1 (.t 1)), .a 9 (.ld 1 false (.t 8)), .a 10 (.call F.whole_sign [(.t 7), (.t 9)]), .n (.st 2 (.t 2) (.t 10))] [1, 5, 6, 7, 8, 9, 10] [1])
  .ret)))⟩
def whole_Neg.hint : R.Hint := { kill := [(0, [0], []), (1, [3, 4], []), (2, [1, 5, 6, 7, 8, 9, 10], [1])] }
theorem whole_Neg.ok : cFn Tryz.prog whole_Neg.hint Tryz.f90 = some whole_Neg := by kernel_rfl
def dendronref03_Is : R.Fn := ⟨2, [(.t 4)], (.seq (.reg [] [.a 2 (.box (.t 0)), .a 3 (.box (.t 1)), .a 4 (.mv (.c (.bool false)))] [0, 1, 4] [])
  (.seq (.reg [] [.a 5 (.ld 3 true (.t 2)), .a 6 (.call F.dendronref03_Right [(.t 5)]), .a 7 (.mv (.t 6)), .g 8 7 true (.ld 3 true (.t 2)), .g 9 7 true (.call F.dendronref03_From [(.t 8)]), .g 10 7 true (.ld 3 true (.t 3)), .g 11 7 true (.call F.dendronref03_Order [(.t 9), (.t 10)]), .g 12 7 true (.bin .eql (.t 11) (.c (.int .i64 0))), .a 13 (.pick (.t 7) (.t 12) (.c (.bool false))), .a 4 (.mv (.t 13))] [2, 3, 5, 6, 7, 8, 9, 10, 11, 12, 13] [2, 3])
  .ret))⟩
def dendronref03_Is.hint : R.Hint := { kill := [(0, [0, 1, 4], []), (1, [2, 3, 5, 6, 7, 8, 9, 10, 11, 12, 13], [2, 3])] }
theorem dendronref03_Is.ok : cFn Tryz.prog dendronref03_Is.hint Tryz.f91 = some dendronref03_Is := by kernel_rfl
def dendronref03_From : R.Fn := ⟨1, [(.cell 2 3 true)], (.seq (.reg [] [.a 1 (.box (.t 0)), .a 2 (.new [(.bool false), (.sl 1 []), (.sl 1 [])])] [0] [])
  (.seq (.reg [] [.a 4 (.fA 2 (.t 1)), .a 5 (.ld 1 false (.t 4)), .a 6 (.call F.dendronref01_From [(.t 5)]), .a 3 (.mv (.t 6))] [4, 5, 6] [])
  (.seq (.seq (.reg [] [.a 7 (.mv (.t 3)), .a 8 (.ln (.t 7)), .a 9 (.bin .eql (.t 8) (.c (.int .i64 0)))] [7, 8] [])
  (.cond (.t 9) (.seq (.reg [] [.a 10 (.call F.dendronref03_Small [(.c (.int .i64 0)), (.c (.int .i64 1))]), .n (.st 3 (.t 2) (.t 10))] [1, 3, 9, 10] [1])
  .ret) .skip))
  (.seq (.reg [] [.a 11 (.fA 0 (.t 1)), .a 12 (.ld 2 true (.t 11)), .a 13 (.call F.dendronref02_From [(.t 12)]), .a 14 (.mv (.t 3)), .a 15 (.bld [(.bool false), (.sl 1 []), (.sl 1 [])] [(0, 2, (.t 13)), (2, 1, (.t 14))]), .n (.st 3 (.t 2) (.t 15))] [1, 3, 9, 11, 12, 13, 14, 15] [1])
  .ret))))⟩
def dendronref03_From.hint : R.Hint := { kill := [(0, [0], []), (1, [4, 5, 6], []), (2, [7, 8], []), (3, [1, 3, 9, 10], [1]), (4, [1, 3, 9, 11, 12, 13, 14, 15], [1])] }
theorem dendronref03_From.ok : cFn Tryz.prog dendronref03_From.hint Tryz.f92 = some dendronref03_From := by kernel_rfl
def whole_Cmp : R.Fn := ⟨2, [(.t 4)], (.seq (.reg [] [.a 2 (.box (.t 0)), .a 3 (.box (.t 1)), .a 4 (.mv (.c (.int .i64 0)))] [0, 1, 4] [])
  (.seq (.reg [] [.a 5 (.ld 2 true (.t 2)), .a 6 (.call F.whole_Clean [(.t 5)]), .a 7 (.ld 2 true (.t 3)), .a 8 (.call F.whole_Clean [(.t 7)]), .n (.st 2 (.t 2) (.t 6)), .n (.st 2 (.t 3) (.t 8))] [5, 6, 7, 8] [])
  (.seq (.block 0 (.seq (.reg [] [.a 10 (.fA 0 (.t 2)), .a 11 (.ld 1 false (.t 10)), .a 12 (.fA 0 (.t 3)), .a 13 (.ld 1 false (.t 12)), .a 14 (.beq true (.t 11) (.t 13)), .a 15 (.mv (.t 14)), .g 16 15 true (.fA 0 (.t 2)), .g 17 15 true (.ld 1 false (.t 16)), .a 18 (.pick (.t 15) (.t 17) (.c (.bool false))), .a 9 (.mv (.t 18))] [10, 11, 12, 13, 14, 15, 16, 17, 18] [])
  (.cond (.t 9) (.seq (.reg [] [.a 4 (.mv (.c (.int .i64 (-1))))] [2, 3, 9] [2, 3])
  .ret) (.seq (.reg [] [.a 20 (.fA 0 (.t 2)), .a 21 (.ld 1 false (.t 20)), .a 22 (.fA 0 (.t 3)), .a 23 (.ld 1 false (.t 22)), .a 24 (.beq true (.t 21) (.t 23)), .a 19 (.mv (.t 24))] [9, 20, 21, 22, 23, 24] [])
  (.cond (.t 19) (.seq (.reg [] [.a 4 (.mv (.c (.int .i64 1)))] [2, 3, 19] [2, 3])
  .ret) (.seq (.reg [] [.a 26 (.fA 0 (.t 2)), .a 27 (.ld 1 false (.t 26)), .a 25 (.mv (.t 27))] [19, 26, 27] [])
  (.cond (.t 25) (.seq (.reg [] [.a 28 (.fA 1 (.t 3)), .a 29 (.ld 1 false (.t 28)), .a 30 (.fA 1 (.t 2)), .a 31 (.ld 1 false (.t 30)), .a 32 (.call F.nat_Cmp [(.t 29), (.t 31)]), .a 4 (.mv (.t 32))] [2, 3, 25, 28, 29, 30, 31, 32] [2, 3])
  .ret) .skip)))))))
  (.seq (.reg [] [.a 33 (.fA 1 (.t 2)), .a 34 (.ld 1 false (.t 33)), .a 35 (.fA 1 (.t 3)), .a 36 (.ld 1 false (.t 35)), .a 37 (.call F.nat_Cmp [(.t 34), (.t 36)]), .a 4 (.mv (.t 37))] [2, 3, 25, 33, 34, 35, 36, 37] [2, 3])
  .ret))))⟩
def whole_Cmp.hint : R.Hint := { kill := [(0, [0, 1, 4], []), (1, [5, 6, 7, 8], []), (2, [10, 11, 12, 13, 14, 15, 16, 17, 18], []), (3, [2, 3, 9], [2, 3]), (4, [9, 20, 21, 22, 23, 24], []), (5, [2, 3, 19], [2, 3]), (6, [19, 26, 27], []), (7, [2, 3, 25, 28, 29, 30, 31, 32], [2, 3]), (8, [2, 3, 25, 33, 34, 35, 36, 37], [2, 3])] }
theorem whole_Cmp.ok : cFn Tryz.prog whole_Cmp.hint Tryz.f93 = some whole_Cmp := by kernel_rfl
def nat_trim.b0 : R.C := (.seq (.seq (.reg [] [.a 6 (.mv (.t 3)), .a 7 (.bin .gtr (.t 6) (.c (.int .i64 0))), .a 8 (.mv (.t 7)), .g 9 8 true (.mv (.t 0)), .g 10 8 true (.mv (.t 3)), .g 11 8 true (.bin .sub (.t 10) (.c (.int .i64 1))), .g 12 8 true (.iA 1 (.t 9) (.t 11)), .g 13 8 true (.ld 1 false (.t 12)), .g 14 8 true (.bin .eql (.t 13) (.c (.int .u64 0))), .a 15 (.pick (.t 8) (.t 14) (.c (.bool false)))] [6, 7, 8, 9, 10, 11, 12, 13, 14] [])
  (.cond (.t 15) .skip (.exit 0)))
  (.block 1 (.reg [] [.a 16 (.mv (.t 3)), .a 17 (.bin .sub (.t 16) (.c (.int .i64 1))), .a 3 (.mv (.t 17))] [15, 16, 17] [])))
def nat_trim : R.Fn := ⟨1, [(.own 2)], (.seq (.reg [] [.a 2 (.mv (.c (.sl 1 [])))] [2] [])
  (.seq (.reg [] [.a 4 (.mv (.t 0)), .a 5 (.ln (.t 4)), .a 3 (.mv (.t 5))] [4, 5] [])
  (.seq (.block 0 (.loop [] [] nat_trim.b0))
  (.seq (.seq (.reg [] [.a 18 (.mv (.t 3)), .a 19 (.bin .eql (.t 18) (.c (.int .i64 0)))] [15, 18] [])
  (.cond (.t 19) (.seq (.reg [] [.a 2 (.mv (.c (.sl 1 [])))] [0, 3, 19] [])
  .ret) .skip))
  (.seq (.reg [] [.a 20 (.mv (.t 0)), .a 21 (.mv (.t 3)), .a 22 (.slc 1 (.t 20) none (some (.t 21))), .a 2 (.mv (.t 22))] [0, 3, 19, 20, 21, 22] [])
  .ret)))))⟩
def nat_trim.hint : R.Hint := { kill := [(0, [2], []), (1, [4, 5], []), (2, [6, 7, 8, 9, 10, 11, 12, 13, 14], []), (3, [15, 16, 17], []), (4, [15, 18], []), (5, [0, 3, 19], []), (6, [0, 3, 19, 20, 21, 22], [])], own := true }
theorem nat_trim.ok : cFn Tryz.prog nat_trim.hint Tryz.f94 = some nat_trim := by kernel_rfl
def nat_Clean.b0 : R.C := (.seq (.reg [] [.a 12 (.bin .lss (.t 11) (.t 10))] [] [])
  (.seq (.cond (.t 12) .skip (.exit 0))
  (.seq (.block 1 (.seq (.reg [] [.a 13 (.mv (.t 11)), .a 14 (.iA 1 (.t 9) (.t 11)), .a 15 (.ld 1 false (.t 14)), .a 4 (.mv (.t 13)), .a 5 (.mv (.t 15))] [12, 13, 14, 15] [])
  (.reg [] [.a 16 (.mv (.t 3)), .a 17 (.mv (.t 4)), .a 18 (.mv (.t 5)), .a 19 (.bin .and (.t 18) (.c (.int .u64 4294967295))), .a 20 (.iA 1 (.t 16) (.t 17)), .n (.st 1 (.t 20) (.t 19))] [4, 5, 16, 17, 18, 19, 20] [])))
  (.reg [] [.a 21 (.bin .add (.t 11) (.c (.int .i64 1))), .a 11 (.mv (.t 21))] [21] []))))
def nat_Clean : R.Fn := ⟨1, [(.t 2)], (.seq (.reg [] [.a 2 (.mv (.c (.sl 1 [])))] [2] [])
  (.seq (.reg [] [.a 6 (.mv (.t 0)), .a 7 (.ln (.t 6)), .a 8 (.mk 1 8 [(.int .u64 0)] (.t 7) (.t 7)), .a 3 (.mv (.t 8))] [6, 7, 8] [])
  (.seq (.seq (.reg [] [.a 9 (.mv (.t 0)), .a 10 (.ln (.t 9)), .a 11 (.mv (.c (.int .i64 0)))] [0] [])
  (.block 0 (.loop [] [] nat_Clean.b0)))
  (.seq (.reg [3] [.a 22 (.mv (.t 3)), .a 23 (.call F.nat_trim [(.t 22)]), .a 2 (.mv (.t 23))] [3, 9, 10, 11, 12, 22, 23] [8])
  .ret))))⟩
def nat_Clean.hint : R.Hint := { pub := [(7, [3])], kill := [(0, [2], []), (1, [6, 7, 8], []), (2, [0], []), (4, [12, 13, 14, 15], []), (5, [4, 5, 16, 17, 18, 19, 20], []), (6, [21], []), (7, [3, 9, 10, 11, 12, 22, 23], [8])] }
theorem nat_Clean.ok : cFn Tryz.prog nat_Clean.hint Tryz.f95 = some nat_Clean := by kernel_rfl
def whole_Clean : R.Fn := ⟨1, [(.cell 2 2 true)], (.seq (.reg [] [.a 1 (.box (.t 0)), .a 2 (.new [(.bool false), (.sl 1 [])])] [0] [])
  (.seq (.reg [] [.a 3 (.fA 0 (.t 1)), .a 4 (.ld 1 false (.t 3)), .a 5 (.fA 1 (.t 1)), .a 6 (.ld 1 false (.t 5)), .a 7 (.call F.nat_Clean [(.t 6)]), .a 8 (.call F.whole_sign [(.t 4), (.t 7)]), .n (.st 2 (.t 2) (.t 8))] [1, 3, 4, 5, 6, 7, 8] [1])
  .ret))⟩
def whole_Clean.hint : R.Hint := { kill := [(0, [0], []), (1, [1, 3, 4, 5, 6, 7, 8], [1])] }
theorem whole_Clean.ok : cFn Tryz.prog whole_Clean.hint Tryz.f96 = some whole_Clean := by kernel_rfl
def nat_DivMod : R.Fn := ⟨2, [(.t 4), (.t 5), (.t 6)], (.seq (.reg [] [.a 4 (.mv (.c (.sl 1 []))), .a 5 (.mv (.c (.sl 1 []))), .a 6 (.mv (.c (.int .i64 0)))] [4, 5, 6] [])
  (.seq (.reg [] [.a 11 (.mv (.t 0)), .a 12 (.call F.nat_Clean [(.t 11)]), .a 13 (.mv (.t 1)), .a 14 (.call F.nat_Clean [(.t 13)]), .a 0 (.mv (.t 12)), .a 1 (.mv (.t 14))] [11, 12, 13, 14] [])
  (.seq (.block 0 (.seq (.reg [] [.a 16 (.mv (.t 1)), .a 17 (.ln (.t 16)), .a 18 (.bin .eql (.t 17) (.c (.int .i64 0))), .a 15 (.mv (.t 18))] [16, 17, 18] [])
  (.cond (.t 15) (.seq (.reg [] [.a 4 (.mv (.c (.sl 1 []))), .a 5 (.mv (.c (.sl 1 []))), .a 6 (.mv (.c (.int .i64 2)))] [0, 1, 15] [])
  .ret) (.seq (.reg [] [.a 20 (.mv (.t 0)), .a 21 (.mv (.t 1)), .a 22 (.call F.nat_order [(.t 20), (.t 21)]), .a 23 (.bin .lss (.t 22) (.c (.int .i64 0))), .a 19 (.mv (.t 23))] [15, 20, 21, 22, 23] [])
  (.cond (.t 19) (.seq (.reg [] [.a 24 (.mv (.t 0)), .a 4 (.mv (.c (.sl 1 []))), .a 5 (.mv (.t 24)), .a 6 (.mv (.c (.int .i64 0)))] [0, 1, 19, 24] [])
  .ret) (.seq (.reg [] [.a 26 (.mv (.t 1)), .a 27 (.ln (.t 26)), .a 28 (.bin .eql (.t 27) (.c (.int .i64 1))), .a 25 (.mv (.t 28))] [19, 26, 27, 28] [])
  (.cond (.t 25) (.seq (.reg [] [.a 30 (.mv (.t 0)), .a 31 (.mv (.t 1)), .a 32 (.iA 1 (.t 31) (.c (.int .i64 0))), .a 33 (.ld 1 false (.t 32)), .a 34 (.call F.nat_small [(.t 30), (.t 33)]), .a 29 (.mv (.t 34)), .a 35 (.ext (.t 29) 0), .a 36 (.ext (.t 29) 1), .a 7 (.mv (.t 35)), .a 8 (.mv (.t 36))] [0, 1, 25, 29, 30, 31, 32, 33, 34, 35, 36] [])
  (.seq (.reg [] [.a 37 (.mv (.t 7)), .a 38 (.mv (.t 8)), .a 39 (.call F.nat_Of [(.t 38)]), .a 4 (.mv (.t 37)), .a 5 (.mv (.t 39)), .a 6 (.mv (.c (.int .i64 0)))] [7, 8, 37, 38, 39] [])
  .ret)) .skip)))))))
  (.seq (.reg [] [.a 41 (.mv (.t 0)), .a 42 (.mv (.t 1)), .a 43 (.call F.nat_long [(.t 41), (.t 42)]), .a 40 (.mv (.t 43)), .a 44 (.ext (.t 40) 0), .a 45 (.ext (.t 40) 1), .a 9 (.mv (.t 44)), .a 10 (.mv (.t 45))] [0, 1, 25, 40, 41, 42, 43, 44, 45] [])
  (.seq (.reg [] [.a 46 (.mv (.t 9)), .a 47 (.mv (.t 10)), .a 4 (.mv (.t 46)), .a 5 (.mv (.t 47)), .a 6 (.mv (.c (.int .i64 0)))] [9, 10, 46, 47] [])
  .ret)))))⟩
def nat_DivMod.hint : R.Hint := { kill := [(0, [4, 5, 6], []), (1, [11, 12, 13, 14], []), (2, [16, 17, 18], []), (3, [0, 1, 15], []), (4, [15, 20, 21, 22, 23], []), (5, [0, 1, 19, 24], []), (6, [19, 26, 27, 28], []), (7, [0, 1, 25, 29, 30, 31, 32, 33, 34, 35, 36], []), (8, [7, 8, 37, 38, 39], []), (9, [0, 1, 25, 40, 41, 42, 43, 44, 45], []), (10, [9, 10, 46, 47], [])] }
theorem nat_DivMod.ok : cFn Tryz.prog nat_DivMod.hint Tryz.f97 = some nat_DivMod := by kernel_rfl
def whole_sign : R.Fn := ⟨2, [(.cell 4 2 true)], (.seq (.reg [] [.a 4 (.new [(.bool false), (.sl 1 [])])] [] [])
  (.seq (.reg [] [.a 5 (.mv (.t 0)), .a 6 (.mv (.t 5)), .g 7 6 true (.mv (.t 1)), .g 8 6 true (.ln (.t 7)), .g 9 6 true (.bin .gtr (.t 8) (.c (.int .i64 0))), .a 10 (.pick (.t 6) (.t 9) (.c (.bool false))), .a 11 (.mv (.t 1)), .a 12 (.bld [(.bool false), (.sl 1 [])] [(0, 1, (.t 10)), (1, 1, (.t 11))]), .n (.st 2 (.t 4) (.t 12))] [0, 1, 5, 6, 7, 8, 9, 10, 11, 12] [])
  .ret))⟩
def whole_sign.hint : R.Hint := { kill := [(1, [0, 1, 5, 6, 7, 8, 9, 10, 11, 12], [])] }
theorem whole_sign.ok : cFn Tryz.prog whole_sign.hint Tryz.f98 = some whole_sign := by kernel_rfl
def nat_Add.b0 : R.C := (.seq (.reg [] [.a 22 (.bin .lss (.t 21) (.t 20))] [] [])
  (.seq (.cond (.t 22) .skip (.exit 0))
  (.seq (.block 1 (.seq (.reg [] [.a 23 (.mv (.t 21)), .a 7 (.mv (.t 23))] [22, 23] [])
  (.seq (.reg [] [.a 24 (.mv (.t 6)), .a 25 (.mv (.t 0)), .a 26 (.mv (.t 7)), .a 27 (.call F.nat_limb [(.t 25), (.t 26)]), .a 28 (.mv (.t 1)), .a 29 (.mv (.t 7)), .a 30 (.call F.nat_limb [(.t 28), (.t 29)]), .a 31 (.bin .add (.t 27) (.t 30)), .a 32 (.bin .add (.t 24) (.t 31)), .a 6 (.mv (.t 32))] [24, 25, 26, 27, 28, 29, 30, 31, 32] [])
  (.seq (.reg [] [.a 33 (.mv (.t 5)), .a 34 (.mv (.t 7)), .a 35 (.mv (.t 6)), .a 36 (.bin .and (.t 35) (.c (.int .u64 4294967295))), .a 37 (.iA 1 (.t 33) (.t 34)), .n (.st 1 (.t 37) (.t 36))] [7, 33, 34, 35, 36, 37] [])
  (.reg [] [.a 38 (.mv (.t 6)), .a 39 (.bin .shr (.t 38) (.c (.int .u64 32))), .a 6 (.mv (.t 39))] [38, 39] [])))))
  (.reg [] [.a 40 (.bin .add (.t 21) (.c (.int .i64 1))), .a 21 (.mv (.t 40))] [40] []))))
def nat_Add : R.Fn := ⟨2, [(.t 4)], (.seq (.reg [] [.a 4 (.mv (.c (.sl 1 [])))] [4] [])
  (.seq (.reg [] [.a 8 (.mv (.t 0)), .a 9 (.call F.nat_Clean [(.t 8)]), .a 10 (.mv (.t 1)), .a 11 (.call F.nat_Clean [(.t 10)]), .a 0 (.mv (.t 9)), .a 1 (.mv (.t 11))] [8, 9, 10, 11] [])
  (.seq (.reg [] [.a 12 (.mv (.t 0)), .a 13 (.ln (.t 12)), .a 14 (.mv (.t 1)), .a 15 (.ln (.t 14)), .a 16 (.mx (.t 13) (.t 15)), .a 17 (.bin .add (.t 16) (.c (.int .i64 1))), .a 18 (.mk 1 8 [(.int .u64 0)] (.t 17) (.t 17)), .a 5 (.mv (.t 18))] [12, 13, 14, 15, 16, 17, 18] [])
  (.seq (.reg [] [.a 6 (.mv (.c (.int .u64 0)))] [] [])
  (.seq (.seq (.reg [] [.a 19 (.mv (.t 5)), .a 20 (.ln (.t 19)), .a 21 (.mv (.c (.int .i64 0)))] [19] [])
  (.block 0 (.loop [] [] nat_Add.b0)))
  (.seq (.reg [5] [.a 41 (.mv (.t 5)), .a 42 (.call F.nat_trim [(.t 41)]), .a 4 (.mv (.t 42))] [0, 1, 5, 6, 20, 21, 22, 41, 42] [18])
  .ret))))))⟩
def nat_Add.hint : R.Hint := { pub := [(11, [5])], kill := [(0, [4], []), (1, [8, 9, 10, 11], []), (2, [12, 13, 14, 15, 16, 17, 18], []), (4, [19], []), (6, [22, 23], []), (7, [24, 25, 26, 27, 28, 29, 30, 31, 32], []), (8, [7, 33, 34, 35, 36, 37], []), (9, [38, 39], []), (10, [40], []), (11, [0, 1, 5, 6, 20, 21, 22, 41, 42], [18])] }
theorem nat_Add.ok : cFn Tryz.prog nat_Add.hint Tryz.f99 = some nat_Add := by kernel_rfl
def nat_Sub : R.Fn := ⟨2, [(.t 4), (.t 5)], (.seq (.reg [] [.a 4 (.mv (.c (.sl 1 []))), .a 5 (.mv (.c (.int .i64 0)))] [4, 5] [])
  (.seq (.reg [] [.a 6 (.mv (.t 0)), .a 7 (.call F.nat_Clean [(.t 6)]), .a 8 (.mv (.t 1)), .a 9 (.call F.nat_Clean [(.t 8)]), .a 0 (.mv (.t 7)), .a 1 (.mv (.t 9))] [6, 7, 8, 9] [])
  (.seq (.seq (.reg [] [.a 10 (.mv (.t 0)), .a 11 (.mv (.t 1)), .a 12 (.call F.nat_order [(.t 10), (.t 11)]), .a 13 (.bin .lss (.t 12) (.c (.int .i64 0)))] [10, 11, 12] [])
  (.cond (.t 13) (.seq (.reg [] [.a 4 (.mv (.c (.sl 1 []))), .a 5 (.mv (.c (.int .i64 3)))] [0, 1, 13] [])
  .ret) .skip))
  (.seq (.reg [] [.a 14 (.mv (.t 0)), .a 15 (.mv (.t 1)), .a 16 (.call F.nat_minus [(.t 14), (.t 15)]), .a 4 (.mv (.t 16)), .a 5 (.mv (.c (.int .i64 0)))] [0, 1, 13, 14, 15, 16] [])
  .ret))))⟩
def nat_Sub.hint : R.Hint := { kill := [(0, [4, 5], []), (1, [6, 7, 8, 9], []), (2, [10, 11, 12], []), (3, [0, 1, 13], []), (4, [0, 1, 13, 14, 15, 16], [])] }
theorem nat_Sub.ok : cFn Tryz.prog nat_Sub.hint Tryz.f100 = some nat_Sub := by kernel_rfl
def whole_Sign : R.Fn := ⟨1, [(.t 2)], (.seq (.reg [] [.a 1 (.box (.t 0)), .a 2 (.mv (.c (.int .i64 0)))] [0, 2] [])
  (.seq (.reg [] [.a 3 (.ld 2 true (.t 1)), .a 4 (.call F.whole_Clean [(.t 3)]), .n (.st 2 (.t 1) (.t 4))] [3, 4] [])
  (.seq (.block 0 (.seq (.reg [] [.a 6 (.fA 0 (.t 1)), .a 7 (.ld 1 false (.t 6)), .a 5 (.mv (.t 7))] [6, 7] [])
  (.cond (.t 5) (.seq (.reg [] [.a 2 (.mv (.c (.int .i64 (-1))))] [1, 5] [1])
  .ret) (.seq (.reg [] [.a 9 (.fA 1 (.t 1)), .a 10 (.ld 1 false (.t 9)), .a 11 (.ln (.t 10)), .a 12 (.bin .eql (.t 11) (.c (.int .i64 0))), .a 8 (.mv (.t 12))] [1, 5, 9, 10, 11, 12] [1])
  (.cond (.t 8) (.seq (.reg [] [.a 2 (.mv (.c (.int .i64 0)))] [8] [])
  .ret) .skip)))))
  (.seq (.reg [] [.a 2 (.mv (.c (.int .i64 1)))] [8] [])
  .ret))))⟩
def whole_Sign.hint : R.Hint := { kill := [(0, [0, 2], []), (1, [3, 4], []), (2, [6, 7], []), (3, [1, 5], [1]), (4, [1, 5, 9, 10, 11, 12], [1]), (5, [8], []), (6, [8], [])] }
theorem whole_Sign.ok : cFn Tryz.prog whole_Sign.hint Tryz.f101 = some whole_Sign := by kernel_rfl
def nat_euclid.b0 : R.C := (.seq (.seq (.reg [] [.a 19 (.mv (.t 7)), .a 20 (.bin .neq (.t 19) (.c (.int .u64 0)))] [19] [])
  (.cond (.t 20) .skip (.exit 0)))
  (.block 1 (.reg [] [.a 21 (.mv (.t 7)), .a 22 (.mv (.t 5)), .a 23 (.mv (.t 7)), .a 24 (.bin .rem (.t 22) (.t 23)), .a 5 (.mv (.t 21)), .a 7 (.mv (.t 24))] [20, 21, 22, 23, 24] [])))
def nat_euclid : R.Fn := ⟨2, [(.t 4)], (.seq (.reg [] [.a 4 (.mv (.c (.sl 1 [])))] [4] [])
  (.seq (.reg [] [.a 10 (.mv (.t 0)), .a 11 (.call F.nat_To [(.t 10)]), .a 9 (.mv (.t 11)), .a 12 (.ext (.t 9) 0), .a 13 (.ext (.t 9) 1), .a 5 (.mv (.t 12)), .a 6 (.mv (.t 13))] [0, 6, 9, 10, 11, 12, 13] [])
  (.seq (.reg [] [.a 15 (.mv (.t 1)), .a 16 (.call F.nat_To [(.t 15)]), .a 14 (.mv (.t 16)), .a 17 (.ext (.t 14) 0), .a 18 (.ext (.t 14) 1), .a 7 (.mv (.t 17)), .a 8 (.mv (.t 18))] [1, 8, 14, 15, 16, 17, 18] [])
  (.seq (.block 0 (.loop [] [] nat_euclid.b0))
  (.seq (.reg [] [.a 25 (.mv (.t 5)), .a 26 (.call F.nat_Of [(.t 25)]), .a 4 (.mv (.t 26))] [5, 7, 20, 25, 26] [])
  .ret)))))⟩
def nat_euclid.hint : R.Hint := { kill := [(0, [4], []), (1, [0, 6, 9, 10, 11, 12, 13], []), (2, [1, 8, 14, 15, 16, 17, 18], []), (3, [19], []), (4, [20, 21, 22, 23, 24], []), (5, [5, 7, 20, 25, 26], [])] }
theorem nat_euclid.ok : cFn Tryz.prog nat_euclid.hint Tryz.f102 = some nat_euclid := by kernel_rfl
def nat_zeros.b0 : R.C := (.seq (.reg [] [.a 9 (.bin .lss (.t 8) (.t 7))] [] [])
  (.seq (.cond (.t 9) .skip (.exit 0))
  (.seq (.block 1 (.seq (.reg [] [.a 10 (.mv (.t 8)), .a 11 (.iA 1 (.t 6) (.t 8)), .a 12 (.ld 1 false (.t 11)), .a 4 (.mv (.t 10)), .a 5 (.mv (.t 12))] [9, 10, 11, 12] [])
  (.seq (.seq (.reg [] [.a 13 (.mv (.t 5)), .a 14 (.bin .neq (.t 13) (.c (.int .u64 0)))] [13] [])
  (.cond (.t 14) (.seq (.reg [] [.a 15 (.mv (.t 4)), .a 16 (.bin .mul (.c (.int .i64 32)) (.t 15)), .a 17 (.mv (.t 5)), .a 18 (.call F.bits_TrailingZeros64 [(.t 17)]), .a 19 (.bin .add (.t 16) (.t 18)), .a 2 (.mv (.t 19))] [3, 4, 5, 6, 7, 8, 14, 15, 16, 17, 18, 19] [])
  .ret) .skip))
  (.reg [] [.a 20 (.mv (.t 3)), .a 21 (.bin .add (.t 20) (.c (.int .i64 32))), .a 3 (.mv (.t 21))] [4, 5, 14, 20, 21] []))))
  (.reg [] [.a 22 (.bin .add (.t 8) (.c (.int .i64 1))), .a 8 (.mv (.t 22))] [22] []))))
def nat_zeros : R.Fn := ⟨1, [(.t 2)], (.seq (.reg [] [.a 2 (.mv (.c (.int .i64 0)))] [2] [])
  (.seq (.reg [] [.a 3 (.mv (.c (.int .i64 0)))] [] [])
  (.seq (.seq (.reg [] [.a 6 (.mv (.t 0)), .a 7 (.ln (.t 6)), .a 8 (.mv (.c (.int .i64 0)))] [0] [])
  (.block 0 (.loop [] [] nat_zeros.b0)))
  (.seq (.reg [] [.a 23 (.mv (.t 3)), .a 2 (.mv (.t 23))] [3, 6, 7, 8, 9, 23] [])
  .ret))))⟩
def nat_zeros.hint : R.Hint := { kill := [(0, [2], []), (2, [0], []), (4, [9, 10, 11, 12], []), (5, [13], []), (6, [3, 4, 5, 6, 7, 8, 14, 15, 16, 17, 18, 19], []), (7, [4, 5, 14, 20, 21], []), (8, [22], []), (9, [3, 6, 7, 8, 9, 23], [])] }
theorem nat_zeros.ok : cFn Tryz.prog nat_zeros.hint Tryz.f103 = some nat_zeros := by kernel_rfl
def nat_shr.b0 : R.C := (.seq (.reg [] [.a 25 (.bin .lss (.t 24) (.t 23))] [] [])
  (.seq (.cond (.t 25) .skip (.exit 0))
  (.seq (.block 1 (.seq (.reg [] [.a 26 (.mv (.t 24)), .a 8 (.mv (.t 26))] [25, 26] [])
  (.reg [] [.a 27 (.mv (.t 7)), .a 28 (.mv (.t 8)), .a 29 (.mv (.t 0)), .a 30 (.mv (.t 8)), .a 31 (.mv (.t 5)), .a 32 (.bin .add (.t 30) (.t 31)), .a 33 (.bin .add (.t 32) (.c (.int .i64 1))), .a 34 (.call F.nat_limb [(.t 29), (.t 33)]), .a 35 (.bin .shl (.t 34) (.c (.int .u64 32))), .a 36 (.mv (.t 0)), .a 37 (.mv (.t 8)), .a 38 (.mv (.t 5)), .a 39 (.bin .add (.t 37) (.t 38)), .a 40 (.iA 1 (.t 36) (.t 39)), .a 41 (.ld 1 false (.t 40)), .a 42 (.bin .or (.t 35) (.t 41)), .a 43 (.mv (.t 6)), .a 44 (.bin .shr (.t 42) (.t 43)), .a 45 (.bin .and (.t 44) (.c (.int .u64 4294967295))), .a 46 (.iA 1 (.t 27) (.t 28)), .n (.st 1 (.t 46) (.t 45))] [8, 27, 28, 29, 30, 31, 32, 33, 34, 35, 36, 37, 38, 39, 40, 41, 42, 43, 44, 45, 46] [])))
  (.reg [] [.a 47 (.bin .add (.t 24) (.c (.int .i64 1))), .a 24 (.mv (.t 47))] [47] []))))
def nat_shr : R.Fn := ⟨2, [(.t 4)], (.seq (.reg [] [.a 4 (.mv (.c (.sl 1 [])))] [4] [])
  (.seq (.reg [] [.a 9 (.mv (.t 1)), .a 10 (.bin .quo (.t 9) (.c (.int .i64 32))), .a 11 (.mv (.t 1)), .a 12 (.bin .rem (.t 11) (.c (.int .i64 32))), .a 5 (.mv (.t 10)), .a 6 (.mv (.t 12))] [1, 9, 10, 11, 12] [])
  (.seq (.seq (.reg [] [.a 13 (.mv (.t 5)), .a 14 (.mv (.t 0)), .a 15 (.ln (.t 14)), .a 16 (.bin .geq (.t 13) (.t 15))] [13, 14, 15] [])
  (.cond (.t 16) (.seq (.reg [] [.a 4 (.mv (.c (.sl 1 [])))] [0, 5, 6, 16] [])
  .ret) .skip))
  (.seq (.reg [] [.a 17 (.mv (.t 0)), .a 18 (.ln (.t 17)), .a 19 (.mv (.t 5)), .a 20 (.bin .sub (.t 18) (.t 19)), .a 21 (.mk 1 8 [(.int .u64 0)] (.t 20) (.t 20)), .a 7 (.mv (.t 21))] [16, 17, 18, 19, 20, 21] [])
  (.seq (.seq (.reg [] [.a 22 (.mv (.t 7)), .a 23 (.ln (.t 22)), .a 24 (.mv (.c (.int .i64 0)))] [22] [])
  (.block 0 (.loop [] [] nat_shr.b0)))
  (.seq (.reg [7] [.a 48 (.mv (.t 7)), .a 49 (.call F.nat_trim [(.t 48)]), .a 4 (.mv (.t 49))] [0, 5, 6, 7, 23, 24, 25, 48, 49] [21])
  .ret))))))⟩
def nat_shr.hint : R.Hint := { pub := [(10, [7])], kill := [(0, [4], []), (1, [1, 9, 10, 11, 12], []), (2, [13, 14, 15], []), (3, [0, 5, 6, 16], []), (4, [16, 17, 18, 19, 20, 21], []), (5, [22], []), (7, [25, 26], []), (8, [8, 27, 28, 29, 30, 31, 32, 33, 34, 35, 36, 37, 38, 39, 40, 41, 42, 43, 44, 45, 46], []), (9, [47], []), (10, [0, 5, 6, 7, 23, 24, 25, 48, 49], [21])] }
theorem nat_shr.ok : cFn Tryz.prog nat_shr.hint Tryz.f104 = some nat_shr := by kernel_rfl
def nat_order.b1 : R.C := (.seq (.seq (.reg [] [.a 21 (.mv (.t 5)), .a 22 (.bin .geq (.t 21) (.c (.int .i64 0)))] [21] [])
  (.cond (.t 22) .skip (.exit 1)))
  (.seq (.block 2 (.block 3 (.seq (.reg [] [.a 26 (.mv (.t 0)), .a 27 (.mv (.t 5)), .a 28 (.iA 1 (.t 26) (.t 27)), .a 29 (.ld 1 false (.t 28)), .a 30 (.mv (.t 1)), .a 31 (.mv (.t 5)), .a 32 (.iA 1 (.t 30) (.t 31)), .a 33 (.ld 1 false (.t 32)), .a 34 (.bin .lss (.t 29) (.t 33)), .a 25 (.mv (.t 34))] [22, 26, 27, 28, 29, 30, 31, 32, 33, 34] [])
  (.cond (.t 25) (.seq (.reg [] [.a 4 (.mv (.c (.int .i64 (-1))))] [0, 1, 5, 25] [])
  .ret) (.seq (.reg [] [.a 36 (.mv (.t 0)), .a 37 (.mv (.t 5)), .a 38 (.iA 1 (.t 36) (.t 37)), .a 39 (.ld 1 false (.t 38)), .a 40 (.mv (.t 1)), .a 41 (.mv (.t 5)), .a 42 (.iA 1 (.t 40) (.t 41)), .a 43 (.ld 1 false (.t 42)), .a 44 (.bin .gtr (.t 39) (.t 43)), .a 35 (.mv (.t 44))] [25, 36, 37, 38, 39, 40, 41, 42, 43, 44] [])
  (.cond (.t 35) (.seq (.reg [] [.a 4 (.mv (.c (.int .i64 1)))] [0, 1, 5, 35] [])
  .ret) .skip))))))
  (.reg [] [.a 23 (.mv (.t 5)), .a 24 (.bin .sub (.t 23) (.c (.int .i64 1))), .a 5 (.mv (.t 24))] [23, 24, 35] [])))
def nat_order : R.Fn := ⟨2, [(.t 4)], (.seq (.reg [] [.a 4 (.mv (.c (.int .i64 0)))] [4] [])
  (.seq (.block 0 (.seq (.reg [] [.a 7 (.mv (.t 0)), .a 8 (.ln (.t 7)), .a 9 (.mv (.t 1)), .a 10 (.ln (.t 9)), .a 11 (.bin .lss (.t 8) (.t 10)), .a 6 (.mv (.t 11))] [7, 8, 9, 10, 11] [])
  (.cond (.t 6) (.seq (.reg [] [.a 4 (.mv (.c (.int .i64 (-1))))] [0, 1, 6] [])
  .ret) (.seq (.reg [] [.a 13 (.mv (.t 0)), .a 14 (.ln (.t 13)), .a 15 (.mv (.t 1)), .a 16 (.ln (.t 15)), .a 17 (.bin .gtr (.t 14) (.t 16)), .a 12 (.mv (.t 17))] [6, 13, 14, 15, 16, 17] [])
  (.cond (.t 12) (.seq (.reg [] [.a 4 (.mv (.c (.int .i64 1)))] [0, 1, 12] [])
  .ret) .skip)))))
  (.seq (.seq (.reg [] [.a 18 (.mv (.t 0)), .a 19 (.ln (.t 18)), .a 20 (.bin .sub (.t 19) (.c (.int .i64 1))), .a 5 (.mv (.t 20))] [12, 18, 19, 20] [])
  (.block 1 (.loop [] [] nat_order.b1)))
  (.seq (.reg [] [.a 4 (.mv (.c (.int .i64 0)))] [0, 1, 5, 22] [])
  .ret))))⟩
def nat_order.hint : R.Hint := { kill := [(0, [4], []), (1, [7, 8, 9, 10, 11], []), (2, [0, 1, 6], []), (3, [6, 13, 14, 15, 16, 17], []), (4, [0, 1, 12], []), (5, [12, 18, 19, 20], []), (6, [21], []), (7, [23, 24, 35], []), (8, [22, 26, 27, 28, 29, 30, 31, 32, 33, 34], []), (9, [0, 1, 5, 25], []), (10, [25, 36, 37, 38, 39, 40, 41, 42, 43, 44], []), (11, [0, 1, 5, 35], []), (12, [0, 1, 5, 22], [])] }
theorem nat_order.ok : cFn Tryz.prog nat_order.hint Tryz.f105 = some nat_order := by kernel_rfl
def nat_shl.b0 : R.C := (.seq (.reg [] [.a 23 (.bin .lss (.t 22) (.t 21))] [] [])
  (.seq (.cond (.t 23) .skip (.exit 0))
  (.seq (.block 1 (.seq (.reg [] [.a 24 (.mv (.t 22)), .a 25 (.iA 1 (.t 20) (.t 22)), .a 26 (.ld 1 false (.t 25)), .a 8 (.mv (.t 24)), .a 9 (.mv (.t 26))] [23, 24, 25, 26] [])
  (.seq (.reg [] [.a 27 (.mv (.t 9)), .a 28 (.mv (.t 6)), .a 29 (.bin .shl (.t 27) (.t 28)), .a 9 (.mv (.t 29))] [27, 28, 29] [])
  (.seq (.reg [] [.a 30 (.mv (.t 7)), .a 31 (.mv (.t 8)), .a 32 (.mv (.t 5)), .a 33 (.bin .add (.t 31) (.t 32)), .a 34 (.iA 1 (.t 30) (.t 33)), .a 35 (.ld 1 false (.t 34)), .a 36 (.mv (.t 9)), .a 37 (.bin .and (.t 36) (.c (.int .u64 4294967295))), .a 38 (.bin .or (.t 35) (.t 37)), .a 39 (.iA 1 (.t 30) (.t 33)), .n (.st 1 (.t 39) (.t 38))] [30, 31, 32, 33, 34, 35, 36, 37, 38, 39] [])
  (.reg [] [.a 40 (.mv (.t 7)), .a 41 (.mv (.t 8)), .a 42 (.mv (.t 5)), .a 43 (.bin .add (.t 41) (.t 42)), .a 44 (.bin .add (.t 43) (.c (.int .i64 1))), .a 45 (.mv (.t 9)), .a 46 (.bin .shr (.t 45) (.c (.int .u64 32))), .a 47 (.iA 1 (.t 40) (.t 44)), .n (.st 1 (.t 47) (.t 46))] [8, 9, 40, 41, 42, 43, 44, 45, 46, 47] [])))))
  (.reg [] [.a 48 (.bin .add (.t 22) (.c (.int .i64 1))), .a 22 (.mv (.t 48))] [48] []))))
def nat_shl : R.Fn := ⟨2, [(.own 4)], (.seq (.reg [] [.a 4 (.mv (.c (.sl 1 [])))] [4] [])
  (.seq (.reg [] [.a 10 (.mv (.t 1)), .a 11 (.bin .quo (.t 10) (.c (.int .i64 32))), .a 12 (.mv (.t 1)), .a 13 (.bin .rem (.t 12) (.c (.int .i64 32))), .a 5 (.mv (.t 11)), .a 6 (.mv (.t 13))] [1, 10, 11, 12, 13] [])
  (.seq (.reg [] [.a 14 (.mv (.t 0)), .a 15 (.ln (.t 14)), .a 16 (.mv (.t 5)), .a 17 (.bin .add (.t 15) (.t 16)), .a 18 (.bin .add (.t 17) (.c (.int .i64 1))), .a 19 (.mk 1 8 [(.int .u64 0)] (.t 18) (.t 18)), .a 7 (.mv (.t 19))] [14, 15, 16, 17, 18, 19] [])
  (.seq (.seq (.reg [] [.a 20 (.mv (.t 0)), .a 21 (.ln (.t 20)), .a 22 (.mv (.c (.int .i64 0)))] [0] [])
  (.block 0 (.loop [] [] nat_shl.b0)))
  (.seq (.reg [] [.a 49 (.mv (.t 7)), .a 50 (.callk F.nat_trim [(true, (.t 49))]), .a 4 (.mv (.t 50))] [5, 6, 7, 20, 21, 22, 23, 49, 50] [])
  .ret)))))⟩
def nat_shl.hint : R.Hint := { callk := [(50, [true])], kill := [(0, [4], []), (1, [1, 10, 11, 12, 13], []), (2, [14, 15, 16, 17, 18, 19], []), (3, [0], []), (5, [23, 24, 25, 26], []), (6, [27, 28, 29], []), (7, [30, 31, 32, 33, 34, 35, 36, 37, 38, 39], []), (8, [8, 9, 40, 41, 42, 43, 44, 45, 46, 47], []), (9, [48], []), (10, [5, 6, 7, 20, 21, 22, 23, 49, 50], [])], own := true }
theorem nat_shl.ok : cFn Tryz.prog nat_shl.hint Tryz.f106 = some nat_shl := by kernel_rfl
def nat_rest : R.Fn := ⟨2, [(.t 4), (.t 5)], (.seq (.reg [] [.a 4 (.mv (.c (.sl 1 []))), .a 5 (.mv (.c (.sl 1 [])))] [4, 5] [])
  (.seq (.reg [] [.a 10 (.mv (.t 0)), .a 11 (.mv (.t 1)), .a 12 (.call F.nat_DivMod [(.t 10), (.t 11)]), .a 9 (.mv (.t 12)), .a 13 (.ext (.t 9) 0), .a 14 (.ext (.t 9) 1), .a 15 (.ext (.t 9) 2), .a 6 (.mv (.t 13)), .a 7 (.mv (.t 14)), .a 8 (.mv (.t 15))] [0, 1, 8, 9, 10, 11, 12, 13, 14, 15] [])
  (.seq (.reg [] [.a 16 (.mv (.t 6)), .a 17 (.mv (.t 7)), .a 4 (.mv (.t 16)), .a 5 (.mv (.t 17))] [6, 7, 16, 17] [])
  .ret)))⟩
def nat_rest.hint : R.Hint := { kill := [(0, [4, 5], []), (1, [0, 1, 8, 9, 10, 11, 12, 13, 14, 15], []), (2, [6, 7, 16, 17], [])] }
theorem nat_rest.ok : cFn Tryz.prog nat_rest.hint Tryz.f107 = some nat_rest := by kernel_rfl
def nat_minus.b0 : R.C := (.seq (.reg [] [.a 15 (.bin .lss (.t 14) (.t 13))] [] [])
  (.seq (.cond (.t 15) .skip (.exit 0))
  (.seq (.block 1 (.seq (.reg [] [.a 16 (.mv (.t 14)), .a 7 (.mv (.t 16))] [15, 16] [])
  (.seq (.reg [] [.a 17 (.mv (.t 0)), .a 18 (.mv (.t 7)), .a 19 (.iA 1 (.t 17) (.t 18)), .a 20 (.ld 1 false (.t 19)), .a 21 (.bin .add (.c (.int .u64 4294967296)) (.t 20)), .a 22 (.mv (.t 1)), .a 23 (.mv (.t 7)), .a 24 (.call F.nat_limb [(.t 22), (.t 23)]), .a 25 (.bin .sub (.t 21) (.t 24)), .a 26 (.mv (.t 6)), .a 27 (.bin .sub (.t 25) (.t 26)), .a 8 (.mv (.t 27))] [6, 17, 18, 19, 20, 21, 22, 23, 24, 25, 26, 27] [])
  (.seq (.reg [] [.a 28 (.mv (.t 5)), .a 29 (.mv (.t 7)), .a 30 (.mv (.t 8)), .a 31 (.bin .and (.t 30) (.c (.int .u64 4294967295))), .a 32 (.iA 1 (.t 28) (.t 29)), .n (.st 1 (.t 32) (.t 31))] [7, 28, 29, 30, 31, 32] [])
  (.reg [] [.a 33 (.mv (.t 8)), .a 34 (.bin .shr (.t 33) (.c (.int .u64 32))), .a 35 (.bin .sub (.c (.int .u64 1)) (.t 34)), .a 6 (.mv (.t 35))] [8, 33, 34, 35] [])))))
  (.reg [] [.a 36 (.bin .add (.t 14) (.c (.int .i64 1))), .a 14 (.mv (.t 36))] [36] []))))
def nat_minus : R.Fn := ⟨2, [(.t 4)], (.seq (.reg [] [.a 4 (.mv (.c (.sl 1 [])))] [4] [])
  (.seq (.reg [] [.a 9 (.mv (.t 0)), .a 10 (.ln (.t 9)), .a 11 (.mk 1 8 [(.int .u64 0)] (.t 10) (.t 10)), .a 5 (.mv (.t 11))] [9, 10, 11] [])
  (.seq (.reg [] [.a 6 (.mv (.c (.int .u64 0)))] [] [])
  (.seq (.seq (.reg [] [.a 12 (.mv (.t 5)), .a 13 (.ln (.t 12)), .a 14 (.mv (.c (.int .i64 0)))] [12] [])
  (.block 0 (.loop [] [] nat_minus.b0)))
  (.seq (.reg [5] [.a 37 (.mv (.t 5)), .a 38 (.call F.nat_trim [(.t 37)]), .a 4 (.mv (.t 38))] [0, 1, 5, 6, 13, 14, 15, 37, 38] [11])
  .ret)))))⟩
def nat_minus.hint : R.Hint := { pub := [(10, [5])], kill := [(0, [4], []), (1, [9, 10, 11], []), (3, [12], []), (5, [15, 16], []), (6, [6, 17, 18, 19, 20, 21, 22, 23, 24, 25, 26, 27], []), (7, [7, 28, 29, 30, 31, 32], []), (8, [8, 33, 34, 35], []), (9, [36], []), (10, [0, 1, 5, 6, 13, 14, 15, 37, 38], [11])] }
theorem nat_minus.ok : cFn Tryz.prog nat_minus.hint Tryz.f108 = some nat_minus := by kernel_rfl
def bits_Len32 : R.Fn := ⟨1, [(.t 2)], (.seq (.reg [] [.a 2 (.mv (.c (.int .i64 0)))] [] [])
  (.seq (.seq (.reg [] [.a 3 (.mv (.t 0)), .a 4 (.bin .geq (.t 3) (.c (.int .u32 65536)))] [3] [])
  (.cond (.t 4) (.seq (.reg [] [.a 5 (.mv (.t 0)), .a 6 (.bin .shr (.t 5) (.c (.int .u64 16))), .a 0 (.mv (.t 6))] [2, 4, 5, 6] [])
  (.reg [] [.a 2 (.mv (.c (.int .i64 16)))] [] [])) .skip))
  (.seq (.seq (.reg [] [.a 7 (.mv (.t 0)), .a 8 (.bin .geq (.t 7) (.c (.int .u32 256)))] [4, 7] [])
  (.cond (.t 8) (.seq (.reg [] [.a 9 (.mv (.t 0)), .a 10 (.bin .shr (.t 9) (.c (.int .u64 8))), .a 0 (.mv (.t 10))] [8, 9, 10] [])
  (.reg [] [.a 11 (.mv (.t 2)), .a 12 (.bin .add (.t 11) (.c (.int .i64 8))), .a 2 (.mv (.t 12))] [11, 12] [])) .skip))
  (.seq (.reg [] [.a 13 (.mv (.t 2)), .a 14 (.mv (.t 0)), .a 15 (.conv .u8 (.t 14)), .a 16 (.sI (.c (.str ⟨#[0, 1, 2, 2, 3, 3, 3, 3, 4, 4, 4, 4, 4, 4, 4, 4, 5, 5, 5, 5, 5, 5, 5, 5, 5, 5, 5, 5, 5, 5, 5, 5, 6, 6, 6, 6, 6, 6, 6, 6, 6, 6, 6, 6, 6, 6, 6, 6, 6, 6, 6, 6, 6, 6, 6, 6, 6, 6, 6, 6, 6, 6, 6, 6, 7, 7, 7, 7, 7, 7, 7, 7, 7, 7, 7, 7, 7, 7, 7, 7, 7, 7, 7, 7, 7, 7, 7, 7, 7, 7, 7, 7, 7, 7, 7, 7, 7, 7, 7, 7, 7, 7, 7, 7, 7, 7, 7, 7, 7, 7, 7, 7, 7, 7, 7, 7, 7, 7, 7, 7, 7, 7, 7, 7, 7, 7, 7, 7, 8, 8, 8, 8, 8, 8, 8, 8, 8, 8, 8, 8, 8, 8, 8, 8, 8, 8, 8, 8, 8, 8, 8, 8, 8, 8, 8, 8, 8, 8, 8, 8, 8, 8, 8, 8, 8, 8, 8, 8, 8, 8, 8, 8, 8, 8, 8, 8, 8, 8, 8, 8, 8, 8, 8, 8, 8, 8, 8, 8, 8, 8, 8, 8, 8, 8, 8, 8, 8, 8, 8, 8, 8, 8, 8, 8, 8, 8, 8, 8, 8, 8, 8, 8, 8, 8, 8, 8, 8, 8, 8, 8, 8, 8, 8, 8, 8, 8, 8, 8, 8, 8, 8, 8, 8, 8, 8, 8, 8, 8, 8, 8, 8, 8, 8, 8, 8, 8, 8, 8, 8, 8, 8, 8, 8, 8, 8, 8]⟩)) (.t 15)), .a 17 (.conv .i64 (.t 16)), .a 18 (.bin .add (.t 13) (.t 17)), .a 2 (.mv (.t 18))] [0, 8, 13, 14, 15, 16, 17, 18] [])
  .ret))))⟩
def bits_Len32.hint : R.Hint := { kill := [(1, [3], []), (2, [2, 4, 5, 6], []), (4, [4, 7], []), (5, [8, 9, 10], []), (6, [11, 12], []), (7, [0, 8, 13, 14, 15, 16, 17, 18], [])] }
theorem bits_Len32.ok : cFn Tryz.prog bits_Len32.hint Tryz.f111 = some bits_Len32 := by kernel_rfl
def bits_Len64 : R.Fn := ⟨1, [(.t 2)], (.seq (.reg [] [.a 2 (.mv (.c (.int .i64 0)))] [] [])
  (.seq (.seq (.reg [] [.a 3 (.mv (.t 0)), .a 4 (.bin .geq (.t 3) (.c (.int .u64 4294967296)))] [3] [])
  (.cond (.t 4) (.seq (.reg [] [.a 5 (.mv (.t 0)), .a 6 (.bin .shr (.t 5) (.c (.int .u64 32))), .a 0 (.mv (.t 6))] [2, 4, 5, 6] [])
  (.reg [] [.a 2 (.mv (.c (.int .i64 32)))] [] [])) .skip))
  (.seq (.seq (.reg [] [.a 7 (.mv (.t 0)), .a 8 (.bin .geq (.t 7) (.c (.int .u64 65536)))] [4, 7] [])
  (.cond (.t 8) (.seq (.reg [] [.a 9 (.mv (.t 0)), .a 10 (.bin .shr (.t 9) (.c (.int .u64 16))), .a 0 (.mv (.t 10))] [8, 9, 10] [])
  (.reg [] [.a 11 (.mv (.t 2)), .a 12 (.bin .add (.t 11) (.c (.int .i64 16))), .a 2 (.mv (.t 12))] [11, 12] [])) .skip))
  (.seq (.seq (.reg [] [.a 13 (.mv (.t 0)), .a 14 (.bin .geq (.t 13) (.c (.int .u64 256)))] [8, 13] [])
  (.cond (.t 14) (.seq (.reg [] [.a 15 (.mv (.t 0)), .a 16 (.bin .shr (.t 15) (.c (.int .u64 8))), .a 0 (.mv (.t 16))] [14, 15, 16] [])
  (.reg [] [.a 17 (.mv (.t 2)), .a 18 (.bin .add (.t 17) (.c (.int .i64 8))), .a 2 (.mv (.t 18))] [17, 18] [])) .skip))
  (.seq (.reg [] [.a 19 (.mv (.t 2)), .a 20 (.mv (.t 0)), .a 21 (.conv .u8 (.t 20)), .a 22 (.sI (.c (.str ⟨#[0, 1, 2, 2, 3, 3, 3, 3, 4, 4, 4, 4, 4, 4, 4, 4, 5, 5, 5, 5, 5, 5, 5, 5, 5, 5, 5, 5, 5, 5, 5, 5, 6, 6, 6, 6, 6, 6, 6, 6, 6, 6, 6, 6, 6, 6, 6, 6, 6, 6, 6, 6, 6, 6, 6, 6, 6, 6, 6, 6, 6, 6, 6, 6, 7, 7, 7, 7, 7, 7, 7, 7, 7, 7, 7, 7, 7, 7, 7, 7, 7, 7, 7, 7, 7, 7, 7, 7, 7, 7, 7, 7, 7, 7, 7, 7, 7, 7, 7, 7, 7, 7, 7, 7, 7, 7, 7, 7, 7, 7, 7, 7, 7, 7, 7, 7, 7, 7, 7, 7, 7, 7, 7, 7, 7, 7, 7, 7, 8, 8, 8, 8, 8, 8, 8, 8, 8, 8, 8, 8, 8, 8, 8, 8, 8, 8, 8, 8, 8, 8, 8, 8, 8, 8, 8, 8, 8, 8, 8, 8, 8, 8, 8, 8, 8, 8, 8, 8, 8, 8, 8, 8, 8, 8, 8, 8, 8, 8, 8, 8, 8, 8, 8, 8, 8, 8, 8, 8, 8, 8, 8, 8, 8, 8, 8, 8, 8, 8, 8, 8, 8, 8, 8, 8, 8, 8, 8, 8, 8, 8, 8, 8, 8, 8, 8, 8, 8, 8, 8, 8, 8, 8, 8, 8, 8, 8, 8, 8, 8, 8, 8, 8, 8, 8, 8, 8, 8, 8, 8, 8, 8, 8, 8, 8, 8, 8, 8, 8, 8, 8, 8, 8, 8, 8, 8, 8]⟩)) (.t 21)), .a 23 (.conv .i64 (.t 22)), .a 24 (.bin .add (.t 19) (.t 23)), .a 2 (.mv (.t 24))] [0, 14, 19, 20, 21, 22, 23, 24] [])
  .ret)))))⟩
def bits_Len64.hint : R.Hint := { kill := [(1, [3], []), (2, [2, 4, 5, 6], []), (4, [4, 7], []), (5, [8, 9, 10], []), (6, [11, 12], []), (7, [8, 13], []), (8, [14, 15, 16], []), (9, [17, 18], []), (10, [0, 14, 19, 20, 21, 22, 23, 24], [])] }
theorem bits_Len64.ok : cFn Tryz.prog bits_Len64.hint Tryz.f112 = some bits_Len64 := by kernel_rfl
def dendronref03_Right : R.Fn := ⟨1, [(.t 2)], (.seq (.reg [] [.a 1 (.box (.t 0)), .a 2 (.mv (.c (.bool false)))] [0, 2] [])
  (.seq (.seq (.reg [] [.a 4 (.fA 0 (.t 1)), .a 5 (.fA 1 (.t 4)), .a 6 (.ld 1 false (.t 5)), .a 7 (.call F.dendronref01_Right [(.t 6)]), .a 8 (.un .not (.t 7)), .a 9 (.mv (.t 8)), .g 10 9 false (.fA 2 (.t 1)), .g 11 9 false (.ld 1 false (.t 10)), .g 12 9 false (.call F.dendronref01_Right [(.t 11)]), .g 13 9 false (.un .not (.t 12)), .a 14 (.pick (.t 9) (.c (.bool true)) (.t 13)), .a 15 (.mv (.t 14)), .g 16 15 false (.fA 2 (.t 1)), .g 17 15 false (.ld 1 false (.t 16)), .g 18 15 false (.ln (.t 17)), .g 19 15 false (.bin .eql (.t 18) (.c (.int .i64 0))), .a 20 (.pick (.t 15) (.c (.bool true)) (.t 19)), .a 21 (.mv (.t 20)), .g 22 21 false (.fA 0 (.t 1)), .g 23 21 false (.fA 1 (.t 22)), .g 24 21 false (.ld 1 false (.t 23)), .g 25 21 false (.ln (.t 24)), .g 26 21 false (.bin .eql (.t 25) (.c (.int .i64 0))), .g 27 21 false (.mv (.t 26)), .g 28 27 true (.fA 0 (.t 1)), .g 29 27 true (.fA 0 (.t 28)), .g 30 27 true (.ld 1 false (.t 29)), .g 31 21 false (.pick (.t 27) (.t 30) (.c (.bool false))), .a 32 (.pick (.t 21) (.c (.bool true)) (.t 31))] [4, 5, 6, 7, 8, 9, 10, 11, 12, 13, 14, 15, 16, 17, 18, 19, 20, 21, 22, 23, 24, 25, 26, 27, 28, 29, 30, 31] [])
  (.cond (.t 32) (.seq (.reg [] [.a 2 (.mv (.c (.bool false)))] [1, 32] [1])
  .ret) .skip))
  (.seq (.reg [] [.a 33 (.fA 0 (.t 1)), .a 34 (.fA 1 (.t 33)), .a 35 (.ld 1 false (.t 34)), .a 36 (.call F.dendronref01_From [(.t 35)]), .a 37 (.fA 2 (.t 1)), .a 38 (.ld 1 false (.t 37)), .a 39 (.call F.dendronref01_From [(.t 38)]), .a 40 (.call F.dendronref01_Gcd [(.t 36), (.t 39)]), .a 3 (.mv (.t 40))] [1, 32, 33, 34, 35, 36, 37, 38, 39, 40] [1])
  (.seq (.reg [] [.a 41 (.mv (.t 3)), .a 42 (.call F.dendronref01_Small [(.c (.int .i64 1))]), .a 43 (.call F.dendronref01_Order [(.t 41), (.t 42)]), .a 44 (.bin .eql (.t 43) (.c (.int .i64 0))), .a 2 (.mv (.t 44))] [3, 41, 42, 43, 44] [])
  .ret))))⟩
def dendronref03_Right.hint : R.Hint := { kill := [(0, [0, 2], []), (1, [4, 5, 6, 7, 8, 9, 10, 11, 12, 13, 14, 15, 16, 17, 18, 19, 20, 21, 22, 23, 24, 25, 26, 27, 28, 29, 30, 31], []), (2, [1, 32], [1]), (3, [1, 32, 33, 34, 35, 36, 37, 38, 39, 40], [1]), (4, [3, 41, 42, 43, 44], [])] }
theorem dendronref03_Right.ok : cFn Tryz.prog dendronref03_Right.hint Tryz.f113 = some dendronref03_Right := by kernel_rfl
def dendronref03_Order : R.Fn := ⟨2, [(.t 4)], (.seq (.reg [] [.a 2 (.box (.t 0)), .a 3 (.box (.t 1)), .a 4 (.mv (.c (.int .i64 0)))] [0, 1, 4] [])
  (.seq (.reg [] [.a 5 (.fA 0 (.t 2)), .a 6 (.ld 2 true (.t 5)), .a 7 (.ld 3 true (.t 3)), .a 8 (.call F.dendronref03_den [(.t 7)]), .a 9 (.call F.dendronref02_Times [(.t 6), (.t 8)]), .a 10 (.fA 0 (.t 3)), .a 11 (.ld 2 true (.t 10)), .a 12 (.ld 3 true (.t 2)), .a 13 (.call F.dendronref03_den [(.t 12)]), .a 14 (.call F.dendronref02_Times [(.t 11), (.t 13)]), .a 15 (.call F.dendronref02_Order [(.t 9), (.t 14)]), .a 4 (.mv (.t 15))] [2, 3, 5, 6, 7, 8, 9, 10, 11, 12, 13, 14, 15] [2, 3])
  .ret))⟩
def dendronref03_Order.hint : R.Hint := { kill := [(0, [0, 1, 4], []), (1, [2, 3, 5, 6, 7, 8, 9, 10, 11, 12, 13, 14, 15], [2, 3])] }
theorem dendronref03_Order.ok : cFn Tryz.prog dendronref03_Order.hint Tryz.f114 = some dendronref03_Order := by kernel_rfl
def dendronref01_From.b0 : R.C := (.seq (.seq (.reg [] [.a 10 (.mv (.t 5)), .a 11 (.bin .geq (.t 10) (.c (.int .i64 0)))] [10] [])
  (.cond (.t 11) .skip (.exit 0)))
  (.seq (.block 1 (.reg [] [.a 14 (.mv (.t 3)), .a 15 (.mv (.t 4)), .a 16 (.call F.dendronref01_Times [(.t 14), (.t 15)]), .a 17 (.mv (.t 0)), .a 18 (.mv (.t 5)), .a 19 (.iA 1 (.t 17) (.t 18)), .a 20 (.ld 1 false (.t 19)), .a 21 (.bin .and (.t 20) (.c (.int .u64 4294967295))), .a 22 (.conv .i64 (.t 21)), .a 23 (.call F.dendronref01_Small [(.t 22)]), .a 24 (.call F.dendronref01_Plus [(.t 16), (.t 23)]), .a 3 (.mv (.t 24))] [11, 14, 15, 16, 17, 18, 19, 20, 21, 22, 23, 24] []))
  (.reg [] [.a 12 (.mv (.t 5)), .a 13 (.bin .sub (.t 12) (.c (.int .i64 1))), .a 5 (.mv (.t 13))] [12, 13] [])))
def dendronref01_From : R.Fn := ⟨1, [(.t 2)], (.seq (.reg [] [.a 2 (.mv (.c (.sl 1 [])))] [2] [])
  (.seq (.reg [] [.a 3 (.mv (.c (.sl 1 [])))] [] [])
  (.seq (.reg [] [.a 6 (.call F.dendronref01_Small [(.c (.int .i64 4294967296))]), .a 4 (.mv (.t 6))] [6] [])
  (.seq (.seq (.reg [] [.a 7 (.mv (.t 0)), .a 8 (.ln (.t 7)), .a 9 (.bin .sub (.t 8) (.c (.int .i64 1))), .a 5 (.mv (.t 9))] [7, 8, 9] [])
  (.block 0 (.loop [] [] dendronref01_From.b0)))
  (.seq (.reg [] [.a 25 (.mv (.t 3)), .a 2 (.mv (.t 25))] [0, 3, 4, 5, 11, 25] [])
  .ret)))))⟩
def dendronref01_From.hint : R.Hint := { kill := [(0, [2], []), (2, [6], []), (3, [7, 8, 9], []), (4, [10], []), (5, [12, 13], []), (6, [11, 14, 15, 16, 17, 18, 19, 20, 21, 22, 23, 24], []), (7, [0, 3, 4, 5, 11, 25], [])] }
theorem dendronref01_From.ok : cFn Tryz.prog dendronref01_From.hint Tryz.f115 = some dendronref01_From := by kernel_rfl
def dendronref03_Small : R.Fn := ⟨2, [(.cell 4 3 true)], (.seq (.reg [] [.a 4 (.new [(.bool false), (.sl 1 []), (.sl 1 [])])] [] [])
  (.seq (.reg [] [.a 5 (.mv (.t 0)), .a 6 (.call F.dendronref02_Small [(.t 5)]), .a 7 (.mv (.t 1)), .a 8 (.call F.dendronref01_Small [(.t 7)]), .a 9 (.bld [(.bool false), (.sl 1 []), (.sl 1 [])] [(0, 2, (.t 6)), (2, 1, (.t 8))]), .n (.st 3 (.t 4) (.t 9))] [0, 1, 5, 6, 7, 8, 9] [])
  .ret))⟩
def dendronref03_Small.hint : R.Hint := { kill := [(1, [0, 1, 5, 6, 7, 8, 9], [])] }
theorem dendronref03_Small.ok : cFn Tryz.prog dendronref03_Small.hint Tryz.f116 = some dendronref03_Small := by kernel_rfl
def dendronref02_From : R.Fn := ⟨1, [(.cell 2 2 true)], (.seq (.reg [] [.a 1 (.box (.t 0)), .a 2 (.new [(.bool false), (.sl 1 [])])] [0] [])
  (.seq (.reg [] [.a 3 (.fA 0 (.t 1)), .a 4 (.ld 1 false (.t 3)), .a 5 (.fA 1 (.t 1)), .a 6 (.ld 1 false (.t 5)), .a 7 (.call F.dendronref01_From [(.t 6)]), .a 8 (.call F.dendronref02_Make [(.t 4), (.t 7)]), .n (.st 2 (.t 2) (.t 8))] [1, 3, 4, 5, 6, 7, 8] [1])
  .ret))⟩
def dendronref02_From.hint : R.Hint := { kill := [(0, [0], []), (1, [1, 3, 4, 5, 6, 7, 8], [1])] }
theorem dendronref02_From.ok : cFn Tryz.prog dendronref02_From.hint Tryz.f117 = some dendronref02_From := by kernel_rfl
def nat_small.b0 : R.C := (.seq (.seq (.reg [] [.a 15 (.mv (.t 8)), .a 16 (.bin .geq (.t 15) (.c (.int .i64 0)))] [15] [])
  (.cond (.t 16) .skip (.exit 0)))
  (.seq (.block 1 (.seq (.reg [] [.a 19 (.mv (.t 7)), .a 20 (.bin .shl (.t 19) (.c (.int .u64 32))), .a 21 (.mv (.t 0)), .a 22 (.mv (.t 8)), .a 23 (.iA 1 (.t 21) (.t 22)), .a 24 (.ld 1 false (.t 23)), .a 25 (.bin .or (.t 20) (.t 24)), .a 7 (.mv (.t 25))] [16, 19, 20, 21, 22, 23, 24, 25] [])
  (.seq (.reg [] [.a 26 (.mv (.t 6)), .a 27 (.mv (.t 8)), .a 28 (.mv (.t 7)), .a 29 (.mv (.t 1)), .a 30 (.bin .quo (.t 28) (.t 29)), .a 31 (.iA 1 (.t 26) (.t 27)), .n (.st 1 (.t 31) (.t 30))] [26, 27, 28, 29, 30, 31] [])
  (.reg [] [.a 32 (.mv (.t 7)), .a 33 (.mv (.t 1)), .a 34 (.bin .rem (.t 32) (.t 33)), .a 7 (.mv (.t 34))] [32, 33, 34] []))))
  (.reg [] [.a 17 (.mv (.t 8)), .a 18 (.bin .sub (.t 17) (.c (.int .i64 1))), .a 8 (.mv (.t 18))] [17, 18] [])))
def nat_small : R.Fn := ⟨2, [(.t 4), (.t 5)], (.seq (.reg [] [.a 4 (.mv (.c (.sl 1 []))), .a 5 (.mv (.c (.int .u64 0)))] [4, 5] [])
  (.seq (.reg [] [.a 9 (.mv (.t 0)), .a 10 (.ln (.t 9)), .a 11 (.mk 1 8 [(.int .u64 0)] (.t 10) (.t 10)), .a 6 (.mv (.t 11))] [9, 10, 11] [])
  (.seq (.reg [] [.a 7 (.mv (.c (.int .u64 0)))] [] [])
  (.seq (.seq (.reg [] [.a 12 (.mv (.t 0)), .a 13 (.ln (.t 12)), .a 14 (.bin .sub (.t 13) (.c (.int .i64 1))), .a 8 (.mv (.t 14))] [12, 13, 14] [])
  (.block 0 (.loop [] [] nat_small.b0)))
  (.seq (.reg [6] [.a 35 (.mv (.t 6)), .a 36 (.call F.nat_trim [(.t 35)]), .a 37 (.mv (.t 7)), .a 4 (.mv (.t 36)), .a 5 (.mv (.t 37))] [0, 1, 6, 7, 8, 16, 35, 36, 37] [11])
  .ret)))))⟩
def nat_small.hint : R.Hint := { pub := [(9, [6])], kill := [(0, [4, 5], []), (1, [9, 10, 11], []), (3, [12, 13, 14], []), (4, [15], []), (5, [17, 18], []), (6, [16, 19, 20, 21, 22, 23, 24, 25], []), (7, [26, 27, 28, 29, 30, 31], []), (8, [32, 33, 34], []), (9, [0, 1, 6, 7, 8, 16, 35, 36, 37], [11])] }
theorem nat_small.ok : cFn Tryz.prog nat_small.hint Tryz.f118 = some nat_small := by kernel_rfl
def nat_long.b0 : R.C := (.seq (.seq (.reg [] [.a 42 (.mv (.t 11)), .a 43 (.bin .geq (.t 42) (.c (.int .i64 0)))] [42] [])
  (.cond (.t 43) .skip (.exit 0)))
  (.seq (.block 1 (.reg [7] [.a 46 (.mv (.t 10)), .a 47 (.mv (.t 11)), .a 48 (.mv (.t 8)), .a 49 (.mv (.t 11)), .a 50 (.mv (.t 11)), .a 51 (.mv (.t 9)), .a 52 (.bin .add (.t 50) (.t 51)), .a 53 (.bin .add (.t 52) (.c (.int .i64 1))), .a 54 (.slc 1 (.t 48) (some (.t 49)) (some (.t 53))), .a 55 (.mv (.t 7)), .a 56 (.callk F.nat_digit [(true, (.t 54)), (false, (.t 55))]), .a 57 (.iA 1 (.t 46) (.t 47)), .n (.st 1 (.t 57) (.t 56))] [43, 46, 47, 48, 49, 50, 51, 52, 53, 54, 55, 56, 57] [56]))
  (.reg [] [.a 44 (.mv (.t 11)), .a 45 (.bin .sub (.t 44) (.c (.int .i64 1))), .a 11 (.mv (.t 45))] [44, 45] [])))
def nat_long : R.Fn := ⟨2, [(.t 4), (.t 5)], (.seq (.reg [] [.a 4 (.mv (.c (.sl 1 []))), .a 5 (.mv (.c (.sl 1 [])))] [4, 5] [])
  (.seq (.reg [] [.a 12 (.mv (.t 1)), .a 13 (.mv (.t 1)), .a 14 (.ln (.t 13)), .a 15 (.bin .sub (.t 14) (.c (.int .i64 1))), .a 16 (.iA 1 (.t 12) (.t 15)), .a 17 (.ld 1 false (.t 16)), .a 18 (.conv .u32 (.t 17)), .a 19 (.call F.bits_LeadingZeros32 [(.t 18)]), .a 6 (.mv (.t 19))] [12, 13, 14, 15, 16, 17, 18, 19] [])
  (.seq (.reg [] [.a 20 (.mv (.t 1)), .a 21 (.mv (.t 6)), .a 22 (.callk F.nat_shl [(false, (.t 20)), (false, (.t 21))]), .a 7 (.mv (.t 22))] [1, 20, 21, 22] [])
  (.seq (.reg [] [.a 23 (.mv (.t 0)), .a 24 (.mv (.t 6)), .a 25 (.callk F.nat_shl [(false, (.t 23)), (false, (.t 24))]), .a 26 (.lit 1 2 [(.int .u64 0), (.int .u64 0)] [(0, 1, (.c (.int .u64 0))), (1, 1, (.c (.int .u64 0)))]), .a 27 (.app 1 8 (.t 25) (.t 26)), .a 28 (.mv (.t 0)), .a 29 (.ln (.t 28)), .a 30 (.bin .add (.t 29) (.c (.int .i64 1))), .a 31 (.slc 1 (.t 27) none (some (.t 30))), .a 8 (.mv (.t 31))] [0, 23, 24, 25, 26, 27, 28, 29, 30, 31] [])
  (.seq (.reg [] [.a 32 (.mv (.t 7)), .a 33 (.ln (.t 32)), .a 9 (.mv (.t 33))] [32, 33] [])
  (.seq (.reg [] [.a 34 (.mv (.t 8)), .a 35 (.ln (.t 34)), .a 36 (.mv (.t 9)), .a 37 (.bin .sub (.t 35) (.t 36)), .a 38 (.mk 1 8 [(.int .u64 0)] (.t 37) (.t 37)), .a 10 (.mv (.t 38))] [34, 35, 36, 37, 38] [])
  (.seq (.seq (.reg [] [.a 39 (.mv (.t 10)), .a 40 (.ln (.t 39)), .a 41 (.bin .sub (.t 40) (.c (.int .i64 1))), .a 11 (.mv (.t 41))] [39, 40, 41] [])
  (.block 0 (.loop [] [] nat_long.b0)))
  (.seq (.reg [10, 8] [.a 58 (.mv (.t 10)), .a 59 (.call F.nat_trim [(.t 58)]), .a 60 (.mv (.t 8)), .a 61 (.call F.nat_trim [(.t 60)]), .a 62 (.mv (.t 6)), .a 63 (.call F.nat_shr [(.t 61), (.t 62)]), .a 4 (.mv (.t 59)), .a 5 (.mv (.t 63))] [6, 7, 8, 9, 10, 11, 43, 58, 59, 60, 61, 62, 63] [22, 25, 38])
  .ret))))))))⟩
def nat_long.hint : R.Hint := { callk := [(22, [false, false]), (25, [false, false]), (56, [true, false])], pub := [(9, [7]), (10, [10, 8])], kill := [(0, [4, 5], []), (1, [12, 13, 14, 15, 16, 17, 18, 19], []), (2, [1, 20, 21, 22], []), (3, [0, 23, 24, 25, 26, 27, 28, 29, 30, 31], []), (4, [32, 33], []), (5, [34, 35, 36, 37, 38], []), (6, [39, 40, 41], []), (7, [42], []), (8, [44, 45], []), (9, [43, 46, 47, 48, 49, 50, 51, 52, 53, 54, 55, 56, 57], [56]), (10, [6, 7, 8, 9, 10, 11, 43, 58, 59, 60, 61, 62, 63], [22, 25, 38])] }
theorem nat_long.ok : cFn Tryz.prog nat_long.hint Tryz.f119 = some nat_long := by kernel_rfl
def nat_limb : R.Fn := ⟨2, [(.t 4)], (.seq (.reg [] [.a 4 (.mv (.c (.int .u64 0)))] [4] [])
  (.seq (.seq (.reg [] [.a 5 (.mv (.t 1)), .a 6 (.mv (.t 0)), .a 7 (.ln (.t 6)), .a 8 (.bin .lss (.t 5) (.t 7))] [5, 6, 7] [])
  (.cond (.t 8) (.seq (.reg [] [.a 9 (.mv (.t 0)), .a 10 (.mv (.t 1)), .a 11 (.iA 1 (.t 9) (.t 10)), .a 12 (.ld 1 false (.t 11)), .a 4 (.mv (.t 12))] [0, 1, 8, 9, 10, 11, 12] [])
  .ret) .skip))
  (.seq (.reg [] [.a 4 (.mv (.c (.int .u64 0)))] [0, 1, 8] [])
  .ret)))⟩
def nat_limb.hint : R.Hint := { kill := [(0, [4], []), (1, [5, 6, 7], []), (2, [0, 1, 8, 9, 10, 11, 12], []), (3, [0, 1, 8], [])] }
theorem nat_limb.ok : cFn Tryz.prog nat_limb.hint Tryz.f120 = some nat_limb := by kernel_rfl
def nat_To : R.Fn := ⟨1, [(.t 2), (.t 3)], (.seq (.reg [] [.a 2 (.mv (.c (.int .u64 0))), .a 3 (.mv (.c (.bool false)))] [2, 3] [])
  (.seq (.reg [] [.a 4 (.mv (.t 0)), .a 5 (.call F.nat_Clean [(.t 4)]), .a 0 (.mv (.t 5))] [4, 5] [])
  (.seq (.seq (.reg [] [.a 6 (.mv (.t 0)), .a 7 (.ln (.t 6))] [6] [])
  (.block 0 (.seq (.reg [] [.a 9 (.bin .eql (.t 7) (.c (.int .i64 0))), .a 8 (.mv (.t 9))] [9] [])
  (.cond (.t 8) (.seq (.reg [] [.a 2 (.mv (.c (.int .u64 0))), .a 3 (.mv (.c (.bool true)))] [0, 7, 8] [])
  .ret) (.seq (.reg [] [.a 11 (.bin .eql (.t 7) (.c (.int .i64 1))), .a 10 (.mv (.t 11))] [8, 11] [])
  (.cond (.t 10) (.seq (.reg [] [.a 12 (.mv (.t 0)), .a 13 (.iA 1 (.t 12) (.c (.int .i64 0))), .a 14 (.ld 1 false (.t 13)), .a 2 (.mv (.t 14)), .a 3 (.mv (.c (.bool true)))] [0, 7, 10, 12, 13, 14] [])
  .ret) (.seq (.reg [] [.a 16 (.bin .eql (.t 7) (.c (.int .i64 2))), .a 15 (.mv (.t 16))] [7, 10, 16] [])
  (.cond (.t 15) (.seq (.reg [] [.a 17 (.mv (.t 0)), .a 18 (.iA 1 (.t 17) (.c (.int .i64 1))), .a 19 (.ld 1 false (.t 18)), .a 20 (.bin .shl (.t 19) (.c (.int .u64 32))), .a 21 (.mv (.t 0)), .a 22 (.iA 1 (.t 21) (.c (.int .i64 0))), .a 23 (.ld 1 false (.t 22)), .a 24 (.bin .or (.t 20) (.t 23)), .a 2 (.mv (.t 24)), .a 3 (.mv (.c (.bool true)))] [0, 15, 17, 18, 19, 20, 21, 22, 23, 24] [])
  .ret) .skip))))))))
  (.seq (.reg [] [.a 2 (.mv (.c (.int .u64 0))), .a 3 (.mv (.c (.bool false)))] [0, 15] [])
  .ret))))⟩
def nat_To.hint : R.Hint := { kill := [(0, [2, 3], []), (1, [4, 5], []), (2, [6], []), (3, [9], []), (4, [0, 7, 8], []), (5, [8, 11], []), (6, [0, 7, 10, 12, 13, 14], []), (7, [7, 10, 16], []), (8, [0, 15, 17, 18, 19, 20, 21, 22, 23, 24], []), (9, [0, 15], [])] }
theorem nat_To.ok : cFn Tryz.prog nat_To.hint Tryz.f121 = some nat_To := by kernel_rfl
def weigh_products.b0 : R.C := (.seq (.reg [] [.a 8 (.bin .lss (.t 7) (.c (.int .i64 64)))] [] [])
  (.seq (.cond (.t 8) .skip (.exit 0))
  (.seq (.block 1 (.seq (.reg [] [.a 9 (.mv (.t 7)), .a 3 (.mv (.t 9))] [8, 9] [])
  (.seq (.reg [4294967297] [.a 10 (.ld 2 true (.t 1)), .a 11 (.mv (.t 3)), .a 12 (.bin .add (.t 11) (.c (.int .i64 1))), .a 13 (.call F.whole_Of [(.t 12)]), .a 14 (.call F.whole_Mul [(.t 10), (.t 13)]), .n (.st 2 (.t 1) (.t 14))] [3, 10, 11, 12, 13, 14] [])
  (.reg [] [.a 15 (.mv (.t 2)), .a 16 (.ld 2 true (.t 1)), .a 17 (.lit 2 1 [(.bool false), (.sl 1 [])] [(0, 2, (.t 16))]), .a 18 (.app 2 32 (.t 15) (.t 17)), .a 2 (.mv (.t 18))] [15, 16, 17, 18] []))))
  (.reg [] [.a 19 (.bin .add (.t 7) (.c (.int .i64 1))), .a 7 (.mv (.t 19))] [19] []))))
def weigh_products : R.Fn := ⟨0, [(.t 0)], (.seq (.reg [] [.a 0 (.mv (.c (.sl 2 [])))] [0] [])
  (.seq (.reg [] [.a 4 (.call F.whole_Of [(.c (.int .i64 1))]), .a 1 (.new [(.bool false), (.sl 1 [])]), .n (.st 2 (.t 1) (.t 4))] [4] [])
  (.seq (.reg [] [.a 5 (.ld 2 true (.t 1)), .a 6 (.lito 2 1 [(.bool false), (.sl 1 [])] [(0, 2, (.t 5))]), .a 2 (.mv (.t 6))] [5, 6] [])
  (.seq (.seq (.reg [] [.a 7 (.mv (.c (.int .i64 0)))] [] [])
  (.block 0 (.loop [] [] weigh_products.b0)))
  (.seq (.reg [] [.a 20 (.mv (.t 2)), .a 0 (.mv (.t 20))] [1, 2, 7, 8, 20] [1])
  .ret)))))⟩
def weigh_products.hint : R.Hint := { lit := [6], pub := [(6, [4294967297])], kill := [(0, [0], []), (1, [4], []), (2, [5, 6], []), (5, [8, 9], []), (6, [3, 10, 11, 12, 13, 14], []), (7, [15, 16, 17, 18], []), (8, [19], []), (9, [1, 2, 7, 8, 20], [1])] }
theorem weigh_products.ok : cFn Tryz.prog weigh_products.hint Tryz.f125 = some weigh_products := by kernel_rfl
def dendronref01_Right.b0 : R.C := (.seq (.seq (.reg [] [.a 4 (.mv (.t 3)), .a 5 (.mv (.t 0)), .a 6 (.ln (.t 5)), .a 7 (.bin .lss (.t 4) (.t 6))] [4, 5, 6] [])
  (.cond (.t 7) .skip (.exit 0)))
  (.seq (.block 1 (.seq (.reg [] [.a 10 (.mv (.t 0)), .a 11 (.mv (.t 3)), .a 12 (.iA 1 (.t 10) (.t 11)), .a 13 (.ld 1 false (.t 12)), .a 14 (.bin .gtr (.t 13) (.c (.int .u64 4294967295)))] [7, 10, 11, 12, 13] [])
  (.cond (.t 14) (.seq (.reg [] [.a 2 (.mv (.c (.bool false)))] [0, 3, 14] [])
  .ret) .skip)))
  (.reg [] [.a 8 (.mv (.t 3)), .a 9 (.bin .add (.t 8) (.c (.int .i64 1))), .a 3 (.mv (.t 9))] [8, 9, 14] [])))
def dendronref01_Right : R.Fn := ⟨1, [(.t 2)], (.seq (.reg [] [.a 2 (.mv (.c (.bool false)))] [2] [])
  (.seq (.seq (.reg [] [.a 3 (.mv (.c (.int .i64 0)))] [] [])
  (.block 0 (.loop [] [] dendronref01_Right.b0)))
  (.seq (.reg [] [.a 15 (.mv (.t 0)), .a 16 (.ln (.t 15)), .a 17 (.bin .eql (.t 16) (.c (.int .i64 0))), .a 18 (.mv (.t 17)), .g 19 18 false (.mv (.t 0)), .g 20 18 false (.mv (.t 0)), .g 21 18 false (.ln (.t 20)), .g 22 18 false (.bin .sub (.t 21) (.c (.int .i64 1))), .g 23 18 false (.iA 1 (.t 19) (.t 22)), .g 24 18 false (.ld 1 false (.t 23)), .g 25 18 false (.bin .neq (.t 24) (.c (.int .u64 0))), .a 26 (.pick (.t 18) (.c (.bool true)) (.t 25)), .a 2 (.mv (.t 26))] [0, 3, 7, 15, 16, 17, 18, 19, 20, 21, 22, 23, 24, 25, 26] [])
  .ret)))⟩
def dendronref01_Right.hint : R.Hint := { kill := [(0, [2], []), (2, [4, 5, 6], []), (3, [8, 9, 14], []), (4, [7, 10, 11, 12, 13], []), (5, [0, 3, 14], []), (6, [0, 3, 7, 15, 16, 17, 18, 19, 20, 21, 22, 23, 24, 25, 26], [])] }
theorem dendronref01_Right.ok : cFn Tryz.prog dendronref01_Right.hint Tryz.f126 = some dendronref01_Right := by kernel_rfl
def dendronref01_Gcd.b0 : R.C := (.seq (.seq (.reg [] [.a 7 (.mv (.t 1)), .a 8 (.ln (.t 7)), .a 9 (.bin .gtr (.t 8) (.c (.int .i64 0)))] [7, 8] [])
  (.cond (.t 9) .skip (.exit 0)))
  (.block 1 (.seq (.reg [] [.a 11 (.mv (.t 0)), .a 12 (.mv (.t 1)), .a 13 (.call F.dendronref01_Over [(.t 11), (.t 12)]), .a 10 (.mv (.t 13)), .a 14 (.ext (.t 10) 0), .a 15 (.ext (.t 10) 1), .a 5 (.mv (.t 14)), .a 6 (.mv (.t 15))] [0, 5, 9, 10, 11, 12, 13, 14, 15] [])
  (.seq (.reg [] [.a 16 (.mv (.t 1)), .a 0 (.mv (.t 16))] [1, 16] [])
  (.reg [] [.a 17 (.mv (.t 6)), .a 1 (.mv (.t 17))] [6, 17] [])))))
def dendronref01_Gcd : R.Fn := ⟨2, [(.t 4)], (.seq (.reg [] [.a 4 (.mv (.c (.sl 1 [])))] [4] [])
  (.seq (.block 0 (.loop [] [] dendronref01_Gcd.b0))
  (.seq (.reg [] [.a 18 (.mv (.t 0)), .a 4 (.mv (.t 18))] [0, 1, 9, 18] [])
  .ret)))⟩
def dendronref01_Gcd.hint : R.Hint := { kill := [(0, [4], []), (1, [7, 8], []), (2, [0, 5, 9, 10, 11, 12, 13, 14, 15], []), (3, [1, 16], []), (4, [6, 17], []), (5, [0, 1, 9, 18], [])] }
theorem dendronref01_Gcd.ok : cFn Tryz.prog dendronref01_Gcd.hint Tryz.f127 = some dendronref01_Gcd := by kernel_rfl
def dendronref01_Order.b0 : R.C := (.seq (.seq (.reg [] [.a 19 (.mv (.t 5)), .a 20 (.bin .geq (.t 19) (.c (.int .i64 0)))] [19] [])
  (.cond (.t 20) .skip (.exit 0)))
  (.seq (.block 1 (.seq (.seq (.reg [] [.a 23 (.mv (.t 0)), .a 24 (.mv (.t 5)), .a 25 (.iA 1 (.t 23) (.t 24)), .a 26 (.ld 1 false (.t 25)), .a 27 (.mv (.t 1)), .a 28 (.mv (.t 5)), .a 29 (.iA 1 (.t 27) (.t 28)), .a 30 (.ld 1 false (.t 29)), .a 31 (.bin .lss (.t 26) (.t 30))] [20, 23, 24, 25, 26, 27, 28, 29, 30] [])
  (.cond (.t 31) (.seq (.reg [] [.a 4 (.mv (.c (.int .i64 (-1))))] [0, 1, 5, 31] [])
  .ret) .skip))
  (.seq (.reg [] [.a 32 (.mv (.t 0)), .a 33 (.mv (.t 5)), .a 34 (.iA 1 (.t 32) (.t 33)), .a 35 (.ld 1 false (.t 34)), .a 36 (.mv (.t 1)), .a 37 (.mv (.t 5)), .a 38 (.iA 1 (.t 36) (.t 37)), .a 39 (.ld 1 false (.t 38)), .a 40 (.bin .gtr (.t 35) (.t 39))] [31, 32, 33, 34, 35, 36, 37, 38, 39] [])
  (.cond (.t 40) (.seq (.reg [] [.a 4 (.mv (.c (.int .i64 1)))] [0, 1, 5, 40] [])
  .ret) .skip))))
  (.reg [] [.a 21 (.mv (.t 5)), .a 22 (.bin .sub (.t 21) (.c (.int .i64 1))), .a 5 (.mv (.t 22))] [21, 22, 40] [])))
def dendronref01_Order : R.Fn := ⟨2, [(.t 4)], (.seq (.reg [] [.a 4 (.mv (.c (.int .i64 0)))] [4] [])
  (.seq (.seq (.reg [] [.a 6 (.mv (.t 0)), .a 7 (.ln (.t 6)), .a 8 (.mv (.t 1)), .a 9 (.ln (.t 8)), .a 10 (.bin .neq (.t 7) (.t 9))] [6, 7, 8, 9] [])
  (.cond (.t 10) (.seq (.seq (.reg [] [.a 11 (.mv (.t 0)), .a 12 (.ln (.t 11)), .a 13 (.mv (.t 1)), .a 14 (.ln (.t 13)), .a 15 (.bin .lss (.t 12) (.t 14))] [0, 1, 10, 11, 12, 13, 14] [])
  (.cond (.t 15) (.seq (.reg [] [.a 4 (.mv (.c (.int .i64 (-1))))] [15] [])
  .ret) .skip))
  (.seq (.reg [] [.a 4 (.mv (.c (.int .i64 1)))] [15] [])
  .ret)) .skip))
  (.seq (.seq (.reg [] [.a 16 (.mv (.t 0)), .a 17 (.ln (.t 16)), .a 18 (.bin .sub (.t 17) (.c (.int .i64 1))), .a 5 (.mv (.t 18))] [10, 16, 17, 18] [])
  (.block 0 (.loop [] [] dendronref01_Order.b0)))
  (.seq (.reg [] [.a 4 (.mv (.c (.int .i64 0)))] [0, 1, 5, 20] [])
  .ret))))⟩
def dendronref01_Order.hint : R.Hint := { kill := [(0, [4], []), (1, [6, 7, 8, 9], []), (2, [0, 1, 10, 11, 12, 13, 14], []), (3, [15], []), (4, [15], []), (5, [10, 16, 17, 18], []), (6, [19], []), (7, [21, 22, 40], []), (8, [20, 23, 24, 25, 26, 27, 28, 29, 30], []), (9, [0, 1, 5, 31], []), (10, [31, 32, 33, 34, 35, 36, 37, 38, 39], []), (11, [0, 1, 5, 40], []), (12, [0, 1, 5, 20], [])] }
theorem dendronref01_Order.ok : cFn Tryz.prog dendronref01_Order.hint Tryz.f128 = some dendronref01_Order := by kernel_rfl
def dendronref01_Small.b0 : R.C := (.seq (.seq (.reg [] [.a 4 (.mv (.t 0)), .a 5 (.bin .gtr (.t 4) (.c (.int .i64 0)))] [4] [])
  (.cond (.t 5) .skip (.exit 0)))
  (.block 1 (.seq (.reg [] [.a 6 (.mv (.t 3)), .a 7 (.mv (.t 0)), .a 8 (.bin .rem (.t 7) (.c (.int .i64 10000))), .a 9 (.lit 1 1 [(.int .i64 0)] [(0, 1, (.t 8))]), .a 10 (.app 1 8 (.t 6) (.t 9)), .a 3 (.mv (.t 10))] [5, 6, 7, 8, 9, 10] [])
  (.reg [] [.a 11 (.mv (.t 0)), .a 12 (.bin .quo (.t 11) (.c (.int .i64 10000))), .a 0 (.mv (.t 12))] [11, 12] []))))
def dendronref01_Small : R.Fn := ⟨1, [(.t 2)], (.seq (.reg [] [.a 2 (.mv (.c (.sl 1 [])))] [2] [])
  (.seq (.reg [] [.a 3 (.nil 1)] [] [])
  (.seq (.block 0 (.loop [] [] dendronref01_Small.b0))
  (.seq (.reg [] [.a 13 (.mv (.t 3)), .a 2 (.mv (.t 13))] [0, 3, 5, 13] [])
  .ret))))⟩
def dendronref01_Small.hint : R.Hint := { nil := [3], kill := [(0, [2], []), (2, [4], []), (3, [5, 6, 7, 8, 9, 10], []), (4, [11, 12], []), (5, [0, 3, 5, 13], [])] }
theorem dendronref01_Small.ok : cFn Tryz.prog dendronref01_Small.hint Tryz.f129 = some dendronref01_Small := by kernel_rfl
def dendronref02_Order : R.Fn := ⟨2, [(.t 4)], (.seq (.reg [] [.a 2 (.box (.t 0)), .a 3 (.box (.t 1)), .a 4 (.mv (.c (.int .i64 0)))] [0, 1, 4] [])
  (.seq (.seq (.reg [] [.a 5 (.fA 0 (.t 2)), .a 6 (.ld 1 false (.t 5)), .a 7 (.mv (.t 6)), .g 8 7 true (.fA 0 (.t 3)), .g 9 7 true (.ld 1 false (.t 8)), .g 10 7 true (.un .not (.t 9)), .a 11 (.pick (.t 7) (.t 10) (.c (.bool false)))] [5, 6, 7, 8, 9, 10] [])
  (.cond (.t 11) (.seq (.reg [] [.a 4 (.mv (.c (.int .i64 (-1))))] [2, 3, 11] [2, 3])
  .ret) .skip))
  (.seq (.seq (.reg [] [.a 12 (.fA 0 (.t 2)), .a 13 (.ld 1 false (.t 12)), .a 14 (.un .not (.t 13)), .a 15 (.mv (.t 14)), .g 16 15 true (.fA 0 (.t 3)), .g 17 15 true (.ld 1 false (.t 16)), .a 18 (.pick (.t 15) (.t 17) (.c (.bool false)))] [11, 12, 13, 14, 15, 16, 17] [])
  (.cond (.t 18) (.seq (.reg [] [.a 4 (.mv (.c (.int .i64 1)))] [2, 3, 18] [2, 3])
  .ret) .skip))
  (.seq (.seq (.reg [] [.a 19 (.fA 0 (.t 2)), .a 20 (.ld 1 false (.t 19))] [18, 19] [])
  (.cond (.t 20) (.seq (.reg [] [.a 21 (.fA 1 (.t 3)), .a 22 (.ld 1 false (.t 21)), .a 23 (.fA 1 (.t 2)), .a 24 (.ld 1 false (.t 23)), .a 25 (.call F.dendronref01_Order [(.t 22), (.t 24)]), .a 4 (.mv (.t 25))] [2, 3, 20, 21, 22, 23, 24, 25] [2, 3])
  .ret) .skip))
  (.seq (.reg [] [.a 26 (.fA 1 (.t 2)), .a 27 (.ld 1 false (.t 26)), .a 28 (.fA 1 (.t 3)), .a 29 (.ld 1 false (.t 28)), .a 30 (.call F.dendronref01_Order [(.t 27), (.t 29)]), .a 4 (.mv (.t 30))] [2, 3, 20, 26, 27, 28, 29, 30] [2, 3])
  .ret)))))⟩
def dendronref02_Order.hint : R.Hint := { kill := [(0, [0, 1, 4], []), (1, [5, 6, 7, 8, 9, 10], []), (2, [2, 3, 11], [2, 3]), (3, [11, 12, 13, 14, 15, 16, 17], []), (4, [2, 3, 18], [2, 3]), (5, [18, 19], []), (6, [2, 3, 20, 21, 22, 23, 24, 25], [2, 3]), (7, [2, 3, 20, 26, 27, 28, 29, 30], [2, 3])] }
theorem dendronref02_Order.ok : cFn Tryz.prog dendronref02_Order.hint Tryz.f130 = some dendronref02_Order := by kernel_rfl
def dendronref02_Times : R.Fn := ⟨2, [(.cell 4 2 true)], (.seq (.reg [] [.a 2 (.box (.t 0)), .a 3 (.box (.t 1)), .a 4 (.new [(.bool false), (.sl 1 [])])] [0, 1] [])
  (.seq (.reg [] [.a 5 (.fA 0 (.t 2)), .a 6 (.ld 1 false (.t 5)), .a 7 (.fA 0 (.t 3)), .a 8 (.ld 1 false (.t 7)), .a 9 (.beq true (.t 6) (.t 8)), .a 10 (.fA 1 (.t 2)), .a 11 (.ld 1 false (.t 10)), .a 12 (.fA 1 (.t 3)), .a 13 (.ld 1 false (.t 12)), .a 14 (.call F.dendronref01_Times [(.t 11), (.t 13)]), .a 15 (.call F.dendronref02_Make [(.t 9), (.t 14)]), .n (.st 2 (.t 4) (.t 15))] [2, 3, 5, 6, 7, 8, 9, 10, 11, 12, 13, 14, 15] [2, 3])
  .ret))⟩
def dendronref02_Times.hint : R.Hint := { kill := [(0, [0, 1], []), (1, [2, 3, 5, 6, 7, 8, 9, 10, 11, 12, 13, 14, 15], [2, 3])] }
theorem dendronref02_Times.ok : cFn Tryz.prog dendronref02_Times.hint Tryz.f131 = some dendronref02_Times := by kernel_rfl
def dendronref03_den : R.Fn := ⟨1, [(.cell 2 2 true)], (.seq (.reg [] [.a 1 (.box (.t 0)), .a 2 (.new [(.bool false), (.sl 1 [])])] [0] [])
  (.seq (.reg [] [.a 3 (.fA 2 (.t 1)), .a 4 (.ld 1 false (.t 3)), .a 5 (.call F.dendronref02_Make [(.c (.bool false)), (.t 4)]), .n (.st 2 (.t 2) (.t 5))] [1, 3, 4, 5] [1])
  .ret))⟩
def dendronref03_den.hint : R.Hint := { kill := [(0, [0], []), (1, [1, 3, 4, 5], [1])] }
theorem dendronref03_den.ok : cFn Tryz.prog dendronref03_den.hint Tryz.f132 = some dendronref03_den := by kernel_rfl
def dendronref01_Plus.b0 : R.C := (.seq (.seq (.reg [] [.a 8 (.mv (.t 7)), .a 9 (.mv (.t 0)), .a 10 (.ln (.t 9)), .a 11 (.bin .lss (.t 8) (.t 10)), .a 12 (.mv (.t 11)), .g 13 12 false (.mv (.t 7)), .g 14 12 false (.mv (.t 1)), .g 15 12 false (.ln (.t 14)), .g 16 12 false (.bin .lss (.t 13) (.t 15)), .a 17 (.pick (.t 12) (.c (.bool true)) (.t 16)), .a 18 (.mv (.t 17)), .g 19 18 false (.mv (.t 6)), .g 20 18 false (.bin .gtr (.t 19) (.c (.int .i64 0))), .a 21 (.pick (.t 18) (.c (.bool true)) (.t 20))] [8, 9, 10, 11, 12, 13, 14, 15, 16, 17, 18, 19, 20] [])
  (.cond (.t 21) .skip (.exit 0)))
  (.seq (.block 1 (.seq (.reg [] [.a 24 (.mv (.t 6)), .a 25 (.mv (.t 0)), .a 26 (.mv (.t 7)), .a 27 (.call F.dendronref01_digit [(.t 25), (.t 26)]), .a 28 (.bin .add (.t 24) (.t 27)), .a 29 (.mv (.t 1)), .a 30 (.mv (.t 7)), .a 31 (.call F.dendronref01_digit [(.t 29), (.t 30)]), .a 32 (.bin .add (.t 28) (.t 31)), .a 6 (.mv (.t 32))] [21, 24, 25, 26, 27, 28, 29, 30, 31, 32] [])
  (.seq (.reg [] [.a 33 (.mv (.t 5)), .a 34 (.mv (.t 6)), .a 35 (.bin .rem (.t 34) (.c (.int .i64 10000))), .a 36 (.lit 1 1 [(.int .i64 0)] [(0, 1, (.t 35))]), .a 37 (.app 1 8 (.t 33) (.t 36)), .a 5 (.mv (.t 37))] [33, 34, 35, 36, 37] [])
  (.reg [] [.a 38 (.mv (.t 6)), .a 39 (.bin .quo (.t 38) (.c (.int .i64 10000))), .a 6 (.mv (.t 39))] [38, 39] []))))
  (.reg [] [.a 22 (.mv (.t 7)), .a 23 (.bin .add (.t 22) (.c (.int .i64 1))), .a 7 (.mv (.t 23))] [22, 23] [])))
def dendronref01_Plus : R.Fn := ⟨2, [(.t 4)], (.seq (.reg [] [.a 4 (.mv (.c (.sl 1 [])))] [4] [])
  (.seq (.reg [] [.a 5 (.nil 1)] [] [])
  (.seq (.reg [] [.a 6 (.mv (.c (.int .i64 0)))] [] [])
  (.seq (.seq (.reg [] [.a 7 (.mv (.c (.int .i64 0)))] [] [])
  (.block 0 (.loop [] [] dendronref01_Plus.b0)))
  (.seq (.reg [] [.a 40 (.mv (.t 5)), .a 4 (.mv (.t 40))] [0, 1, 5, 6, 7, 21, 40] [])
  .ret)))))⟩
def dendronref01_Plus.hint : R.Hint := { nil := [5], kill := [(0, [4], []), (4, [8, 9, 10, 11, 12, 13, 14, 15, 16, 17, 18, 19, 20], []), (5, [22, 23], []), (6, [21, 24, 25, 26, 27, 28, 29, 30, 31, 32], []), (7, [33, 34, 35, 36, 37], []), (8, [38, 39], []), (9, [0, 1, 5, 6, 7, 21, 40], [])] }
theorem dendronref01_Plus.ok : cFn Tryz.prog dendronref01_Plus.hint Tryz.f133 = some dendronref01_Plus := by kernel_rfl
def dendronref01_Times.b2 : R.C := (.seq (.seq (.reg [] [.a 21 (.mv (.t 8)), .a 22 (.mv (.t 1)), .a 23 (.ln (.t 22)), .a 24 (.bin .lss (.t 21) (.t 23))] [21, 22, 23] [])
  (.cond (.t 24) .skip (.exit 2)))
  (.seq (.block 3 (.seq (.reg [] [.a 27 (.mv (.t 7)), .a 28 (.mv (.t 5)), .a 29 (.mv (.t 6)), .a 30 (.mv (.t 8)), .a 31 (.bin .add (.t 29) (.t 30)), .a 32 (.iA 1 (.t 28) (.t 31)), .a 33 (.ld 1 false (.t 32)), .a 34 (.bin .add (.t 27) (.t 33)), .a 35 (.mv (.t 0)), .a 36 (.mv (.t 6)), .a 37 (.iA 1 (.t 35) (.t 36)), .a 38 (.ld 1 false (.t 37)), .a 39 (.mv (.t 1)), .a 40 (.mv (.t 8)), .a 41 (.iA 1 (.t 39) (.t 40)), .a 42 (.ld 1 false (.t 41)), .a 43 (.bin .mul (.t 38) (.t 42)), .a 44 (.bin .add (.t 34) (.t 43)), .a 7 (.mv (.t 44))] [24, 27, 28, 29, 30, 31, 32, 33, 34, 35, 36, 37, 38, 39, 40, 41, 42, 43, 44] [])
  (.seq (.reg [] [.a 45 (.mv (.t 5)), .a 46 (.mv (.t 6)), .a 47 (.mv (.t 8)), .a 48 (.bin .add (.t 46) (.t 47)), .a 49 (.mv (.t 7)), .a 50 (.bin .rem (.t 49) (.c (.int .i64 10000))), .a 51 (.iA 1 (.t 45) (.t 48)), .n (.st 1 (.t 51) (.t 50))] [45, 46, 47, 48, 49, 50, 51] [])
  (.reg [] [.a 52 (.mv (.t 7)), .a 53 (.bin .quo (.t 52) (.c (.int .i64 10000))), .a 7 (.mv (.t 53))] [52, 53] []))))
  (.reg [] [.a 25 (.mv (.t 8)), .a 26 (.bin .add (.t 25) (.c (.int .i64 1))), .a 8 (.mv (.t 26))] [25, 26] [])))
def dendronref01_Times.b0 : R.C := (.seq (.seq (.reg [] [.a 15 (.mv (.t 6)), .a 16 (.mv (.t 0)), .a 17 (.ln (.t 16)), .a 18 (.bin .lss (.t 15) (.t 17))] [15, 16, 17] [])
  (.cond (.t 18) .skip (.exit 0)))
  (.seq (.block 1 (.seq (.reg [] [.a 7 (.mv (.c (.int .i64 0)))] [18] [])
  (.seq (.seq (.reg [] [.a 8 (.mv (.c (.int .i64 0)))] [] [])
  (.block 2 (.loop [] [] dendronref01_Times.b2)))
  (.reg [] [.a 54 (.mv (.t 5)), .a 55 (.mv (.t 6)), .a 56 (.mv (.t 1)), .a 57 (.ln (.t 56)), .a 58 (.bin .add (.t 55) (.t 57)), .a 59 (.mv (.t 7)), .a 60 (.iA 1 (.t 54) (.t 58)), .n (.st 1 (.t 60) (.t 59))] [7, 8, 24, 54, 55, 56, 57, 58, 59, 60] []))))
  (.reg [] [.a 19 (.mv (.t 6)), .a 20 (.bin .add (.t 19) (.c (.int .i64 1))), .a 6 (.mv (.t 20))] [19, 20] [])))
def dendronref01_Times : R.Fn := ⟨2, [(.t 4)], (.seq (.reg [] [.a 4 (.mv (.c (.sl 1 [])))] [4] [])
  (.seq (.reg [] [.a 9 (.mv (.t 0)), .a 10 (.ln (.t 9)), .a 11 (.mv (.t 1)), .a 12 (.ln (.t 11)), .a 13 (.bin .add (.t 10) (.t 12)), .a 14 (.mk 1 8 [(.int .i64 0)] (.t 13) (.t 13)), .a 5 (.mv (.t 14))] [9, 10, 11, 12, 13, 14] [])
  (.seq (.seq (.reg [] [.a 6 (.mv (.c (.int .i64 0)))] [] [])
  (.block 0 (.loop [] [] dendronref01_Times.b0)))
  (.seq (.reg [5] [.a 61 (.mv (.t 5)), .a 62 (.call F.dendronref01_Trim [(.t 61)]), .a 4 (.mv (.t 62))] [0, 1, 5, 6, 18, 61, 62] [14])
  .ret))))⟩
def dendronref01_Times.hint : R.Hint := { pub := [(13, [5])], kill := [(0, [4], []), (1, [9, 10, 11, 12, 13, 14], []), (3, [15, 16, 17], []), (4, [19, 20], []), (5, [18], []), (7, [21, 22, 23], []), (8, [25, 26], []), (9, [24, 27, 28, 29, 30, 31, 32, 33, 34, 35, 36, 37, 38, 39, 40, 41, 42, 43, 44], []), (10, [45, 46, 47, 48, 49, 50, 51], []), (11, [52, 53], []), (12, [7, 8, 24, 54, 55, 56, 57, 58, 59, 60], []), (13, [0, 1, 5, 6, 18, 61, 62], [14])] }
theorem dendronref01_Times.ok : cFn Tryz.prog dendronref01_Times.hint Tryz.f134 = some dendronref01_Times := by kernel_rfl
def dendronref02_Small : R.Fn := ⟨1, [(.cell 2 2 true)], (.seq (.reg [] [.a 2 (.new [(.bool false), (.sl 1 [])])] [] [])
  (.seq (.seq (.reg [] [.a 3 (.mv (.t 0)), .a 4 (.bin .lss (.t 3) (.c (.int .i64 0)))] [3] [])
  (.cond (.t 4) (.seq (.reg [] [.a 5 (.mv (.t 0)), .a 6 (.bin .add (.t 5) (.c (.int .i64 1))), .a 7 (.bin .sub (.c (.int .i64 0)) (.t 6)), .a 8 (.call F.dendronref01_Small [(.t 7)]), .a 9 (.call F.dendronref01_Small [(.c (.int .i64 1))]), .a 10 (.call F.dendronref01_Plus [(.t 8), (.t 9)]), .a 11 (.call F.dendronref02_Make [(.c (.bool true)), (.t 10)]), .n (.st 2 (.t 2) (.t 11))] [0, 4, 5, 6, 7, 8, 9, 10, 11] [])
  .ret) .skip))
  (.seq (.reg [] [.a 12 (.mv (.t 0)), .a 13 (.call F.dendronref01_Small [(.t 12)]), .a 14 (.call F.dendronref02_Make [(.c (.bool false)), (.t 13)]), .n (.st 2 (.t 2) (.t 14))] [0, 4, 12, 13, 14] [])
  .ret)))⟩
def dendronref02_Small.hint : R.Hint := { kill := [(1, [3], []), (2, [0, 4, 5, 6, 7, 8, 9, 10, 11], []), (3, [0, 4, 12, 13, 14], [])] }
theorem dendronref02_Small.ok : cFn Tryz.prog dendronref02_Small.hint Tryz.f135 = some dendronref02_Small := by kernel_rfl
def dendronref02_Make : R.Fn := ⟨2, [(.cell 4 2 true)], (.seq (.reg [] [.a 4 (.new [(.bool false), (.sl 1 [])])] [] [])
  (.seq (.reg [] [.a 5 (.mv (.t 0)), .a 6 (.mv (.t 5)), .g 7 6 true (.mv (.t 1)), .g 8 6 true (.ln (.t 7)), .g 9 6 true (.bin .gtr (.t 8) (.c (.int .i64 0))), .a 10 (.pick (.t 6) (.t 9) (.c (.bool false))), .a 11 (.mv (.t 1)), .a 12 (.bld [(.bool false), (.sl 1 [])] [(0, 1, (.t 10)), (1, 1, (.t 11))]), .n (.st 2 (.t 4) (.t 12))] [0, 1, 5, 6, 7, 8, 9, 10, 11, 12] [])
  .ret))⟩
def dendronref02_Make.hint : R.Hint := { kill := [(1, [0, 1, 5, 6, 7, 8, 9, 10, 11, 12], [])] }
theorem dendronref02_Make.ok : cFn Tryz.prog dendronref02_Make.hint Tryz.f136 = some dendronref02_Make := by kernel_rfl
def bits_LeadingZeros32 : R.Fn := ⟨1, [(.t 2)], (.seq (.reg [] [.a 2 (.mv (.c (.int .i64 0)))] [2] [])
  (.seq (.reg [] [.a 3 (.mv (.t 0)), .a 4 (.call F.bits_Len32 [(.t 3)]), .a 5 (.bin .sub (.c (.int .i64 32)) (.t 4)), .a 2 (.mv (.t 5))] [0, 3, 4, 5] [])
  .ret))⟩
def bits_LeadingZeros32.hint : R.Hint := { kill := [(0, [2], []), (1, [0, 3, 4, 5], [])] }
theorem bits_LeadingZeros32.ok : cFn Tryz.prog bits_LeadingZeros32.hint Tryz.f137 = some bits_LeadingZeros32 := by kernel_rfl
def nat_digit.b0 : R.C := (.seq (.seq (.reg [] [.a 36 (.mv (.t 7)), .a 37 (.bin .geq (.t 36) (.c (.int .u64 4294967296))), .a 38 (.mv (.t 37)), .g 39 38 false (.mv (.t 7)), .g 40 38 false (.mv (.t 1)), .g 41 38 false (.mv (.t 5)), .g 42 38 false (.bin .sub (.t 41) (.c (.int .i64 2))), .g 43 38 false (.iA 1 (.t 40) (.t 42)), .g 44 38 false (.ld 1 false (.t 43)), .g 45 38 false (.bin .mul (.t 39) (.t 44)), .g 46 38 false (.mv (.t 8)), .g 47 38 false (.bin .shl (.t 46) (.c (.int .u64 32))), .g 48 38 false (.mv (.t 0)), .g 49 38 false (.mv (.t 5)), .g 50 38 false (.bin .sub (.t 49) (.c (.int .i64 2))), .g 51 38 false (.iA 1 (.t 48) (.t 50)), .g 52 38 false (.ld 1 false (.t 51)), .g 53 38 false (.bin .or (.t 47) (.t 52)), .g 54 38 false (.bin .gtr (.t 45) (.t 53)), .a 55 (.pick (.t 38) (.c (.bool true)) (.t 54))] [36, 37, 38, 39, 40, 41, 42, 43, 44, 45, 46, 47, 48, 49, 50, 51, 52, 53, 54] [])
  (.cond (.t 55) .skip (.exit 0)))
  (.block 1 (.seq (.reg [] [.a 56 (.mv (.t 7)), .a 57 (.bin .sub (.t 56) (.c (.int .u64 1))), .a 7 (.mv (.t 57))] [55, 56, 57] [])
  (.seq (.reg [] [.a 58 (.mv (.t 8)), .a 59 (.mv (.t 1)), .a 60 (.mv (.t 5)), .a 61 (.bin .sub (.t 60) (.c (.int .i64 1))), .a 62 (.iA 1 (.t 59) (.t 61)), .a 63 (.ld 1 false (.t 62)), .a 64 (.bin .add (.t 58) (.t 63)), .a 8 (.mv (.t 64))] [58, 59, 60, 61, 62, 63, 64] [])
  (.seq (.reg [] [.a 65 (.mv (.t 8)), .a 66 (.bin .geq (.t 65) (.c (.int .u64 4294967296)))] [65] [])
  (.cond (.t 66) (.exit 0) .skip))))))
def nat_digit : R.Fn := ⟨2, [(.own 4)], (.seq (.reg [] [.a 4 (.mv (.c (.int .u64 0)))] [4] [])
  (.seq (.reg [] [.a 9 (.mv (.t 1)), .a 10 (.ln (.t 9)), .a 5 (.mv (.t 10))] [9, 10] [])
  (.seq (.reg [] [.a 11 (.mv (.t 0)), .a 12 (.mv (.t 5)), .a 13 (.iA 1 (.t 11) (.t 12)), .a 14 (.ld 1 false (.t 13)), .a 15 (.bin .shl (.t 14) (.c (.int .u64 32))), .a 16 (.mv (.t 0)), .a 17 (.mv (.t 5)), .a 18 (.bin .sub (.t 17) (.c (.int .i64 1))), .a 19 (.iA 1 (.t 16) (.t 18)), .a 20 (.ld 1 false (.t 19)), .a 21 (.bin .or (.t 15) (.t 20)), .a 6 (.mv (.t 21))] [11, 12, 13, 14, 15, 16, 17, 18, 19, 20, 21] [])
  (.seq (.reg [] [.a 22 (.mv (.t 6)), .a 23 (.mv (.t 1)), .a 24 (.mv (.t 5)), .a 25 (.bin .sub (.t 24) (.c (.int .i64 1))), .a 26 (.iA 1 (.t 23) (.t 25)), .a 27 (.ld 1 false (.t 26)), .a 28 (.bin .quo (.t 22) (.t 27)), .a 29 (.mv (.t 6)), .a 30 (.mv (.t 1)), .a 31 (.mv (.t 5)), .a 32 (.bin .sub (.t 31) (.c (.int .i64 1))), .a 33 (.iA 1 (.t 30) (.t 32)), .a 34 (.ld 1 false (.t 33)), .a 35 (.bin .rem (.t 29) (.t 34)), .a 7 (.mv (.t 28)), .a 8 (.mv (.t 35))] [6, 22, 23, 24, 25, 26, 27, 28, 29, 30, 31, 32, 33, 34, 35] [])
  (.seq (.block 0 (.loop [66] [] nat_digit.b0))
  (.seq (.seq (.reg [] [.a 67 (.mv (.t 0)), .a 68 (.mv (.t 1)), .a 69 (.mv (.t 7)), .a 70 (.callk F.nat_take [(true, (.t 67)), (false, (.t 68)), (false, (.t 69))])] [5, 8, 55, 66, 67, 68, 69] [])
  (.cond (.t 70) (.seq (.reg [] [.a 71 (.mv (.t 7)), .a 72 (.bin .sub (.t 71) (.c (.int .u64 1))), .a 7 (.mv (.t 72))] [70, 71, 72] [70])
  (.reg [] [.a 73 (.mv (.t 0)), .a 74 (.mv (.t 1)), .a 75 (.callk F.nat_give [(true, (.t 73)), (false, (.t 74))])] [0, 1, 73, 74, 75] [75])) .skip))
  (.seq (.reg [] [.a 76 (.mv (.t 7)), .a 4 (.mv (.t 76))] [0, 1, 7, 70, 76] [70])
  .ret)))))))⟩
def nat_digit.hint : R.Hint := { callk := [(70, [true, false, false]), (75, [true, false])], kill := [(0, [4], []), (1, [9, 10], []), (2, [11, 12, 13, 14, 15, 16, 17, 18, 19, 20, 21], []), (3, [6, 22, 23, 24, 25, 26, 27, 28, 29, 30, 31, 32, 33, 34, 35], []), (4, [36, 37, 38, 39, 40, 41, 42, 43, 44, 45, 46, 47, 48, 49, 50, 51, 52, 53, 54], []), (5, [55, 56, 57], []), (6, [58, 59, 60, 61, 62, 63, 64], []), (7, [65], []), (8, [5, 8, 55, 66, 67, 68, 69], []), (9, [70, 71, 72], [70]), (10, [0, 1, 73, 74, 75], [75]), (11, [0, 1, 7, 70, 76], [70])], loop := [(0, [66], [])], own := true }
theorem nat_digit.ok : cFn Tryz.prog nat_digit.hint Tryz.f138 = some nat_digit := by kernel_rfl
def dendronref01_Over.b2 : R.C := (.seq (.seq (.reg [] [.a 35 (.mv (.t 11)), .a 36 (.mv (.t 10)), .a 37 (.bin .sub (.t 35) (.t 36)), .a 38 (.bin .gtr (.t 37) (.c (.int .i64 1)))] [35, 36, 37] [])
  (.cond (.t 38) .skip (.exit 2)))
  (.block 3 (.seq (.reg [] [.a 39 (.mv (.t 10)), .a 40 (.mv (.t 11)), .a 41 (.bin .add (.t 39) (.t 40)), .a 42 (.bin .quo (.t 41) (.c (.int .i64 2))), .a 12 (.mv (.t 42))] [38, 39, 40, 41, 42] [])
  (.seq (.reg [] [.a 43 (.mv (.t 1)), .a 44 (.mv (.t 12)), .a 45 (.call F.dendronref01_Small [(.t 44)]), .a 46 (.call F.dendronref01_Times [(.t 43), (.t 45)]), .a 47 (.mv (.t 7)), .a 48 (.call F.dendronref01_Order [(.t 46), (.t 47)]), .a 49 (.bin .leq (.t 48) (.c (.int .i64 0)))] [43, 44, 45, 46, 47, 48] [])
  (.cond (.t 49) (.reg [] [.a 50 (.mv (.t 12)), .a 10 (.mv (.t 50))] [12, 49, 50] []) (.reg [] [.a 51 (.mv (.t 12)), .a 11 (.mv (.t 51))] [12, 49, 51] []))))))
def dendronref01_Over.b0 : R.C := (.seq (.seq (.reg [] [.a 19 (.mv (.t 8)), .a 20 (.bin .geq (.t 19) (.c (.int .i64 0)))] [19] [])
  (.cond (.t 20) .skip (.exit 0)))
  (.seq (.block 1 (.seq (.reg [] [.a 9 (.nil 1)] [20] [])
  (.seq (.reg [] [.a 23 (.mv (.t 9)), .a 24 (.mv (.t 0)), .a 25 (.mv (.t 8)), .a 26 (.iA 1 (.t 24) (.t 25)), .a 27 (.ld 1 false (.t 26)), .a 28 (.lit 1 1 [(.int .i64 0)] [(0, 1, (.t 27))]), .a 29 (.app 1 8 (.t 23) (.t 28)), .a 9 (.mv (.t 29))] [23, 24, 25, 26, 27, 28, 29] [])
  (.seq (.reg [] [.a 30 (.mv (.t 9)), .a 31 (.mv (.t 7)), .a 32 (.app 1 8 (.t 30) (.t 31)), .a 9 (.mv (.t 32))] [7, 30, 31, 32] [])
  (.seq (.reg [9] [.a 33 (.mv (.t 9)), .a 34 (.call F.dendronref01_Trim [(.t 33)]), .a 7 (.mv (.t 34))] [9, 33, 34] [9])
  (.seq (.reg [] [.a 10 (.mv (.c (.int .i64 0)))] [] [])
  (.seq (.reg [] [.a 11 (.mv (.c (.int .i64 10000)))] [] [])
  (.seq (.block 2 (.loop [] [] dendronref01_Over.b2))
  (.seq (.reg [] [.a 52 (.mv (.t 6)), .a 53 (.mv (.t 8)), .a 54 (.mv (.t 10)), .a 55 (.iA 1 (.t 52) (.t 53)), .n (.st 1 (.t 55) (.t 54))] [11, 38, 52, 53, 54, 55] [])
  (.reg [] [.a 56 (.mv (.t 7)), .a 57 (.mv (.t 1)), .a 58 (.mv (.t 10)), .a 59 (.call F.dendronref01_Small [(.t 58)]), .a 60 (.call F.dendronref01_Times [(.t 57), (.t 59)]), .a 61 (.call F.dendronref01_Minus [(.t 56), (.t 60)]), .a 7 (.mv (.t 61))] [10, 56, 57, 58, 59, 60, 61] []))))))))))
  (.reg [] [.a 21 (.mv (.t 8)), .a 22 (.bin .sub (.t 21) (.c (.int .i64 1))), .a 8 (.mv (.t 22))] [21, 22] [])))
def dendronref01_Over : R.Fn := ⟨2, [(.t 4), (.t 5)], (.seq (.reg [] [.a 4 (.mv (.c (.sl 1 []))), .a 5 (.mv (.c (.sl 1 [])))] [4, 5] [])
  (.seq (.reg [] [.a 13 (.mv (.t 0)), .a 14 (.ln (.t 13)), .a 15 (.mk 1 8 [(.int .i64 0)] (.t 14) (.t 14)), .a 6 (.mv (.t 15))] [13, 14, 15] [])
  (.seq (.reg [] [.a 7 (.mv (.c (.sl 1 [])))] [] [])
  (.seq (.seq (.reg [] [.a 16 (.mv (.t 0)), .a 17 (.ln (.t 16)), .a 18 (.bin .sub (.t 17) (.c (.int .i64 1))), .a 8 (.mv (.t 18))] [16, 17, 18] [])
  (.block 0 (.loop [] [] dendronref01_Over.b0)))
  (.seq (.reg [6] [.a 62 (.mv (.t 6)), .a 63 (.call F.dendronref01_Trim [(.t 62)]), .a 64 (.mv (.t 7)), .a 4 (.mv (.t 63)), .a 5 (.mv (.t 64))] [0, 1, 6, 7, 8, 20, 62, 63, 64] [15])
  .ret)))))⟩
def dendronref01_Over.hint : R.Hint := { nil := [9], pub := [(9, [9]), (19, [6])], kill := [(0, [4, 5], []), (1, [13, 14, 15], []), (3, [16, 17, 18], []), (4, [19], []), (5, [21, 22], []), (6, [20], []), (7, [23, 24, 25, 26, 27, 28, 29], []), (8, [7, 30, 31, 32], []), (9, [9, 33, 34], [9]), (12, [35, 36, 37], []), (13, [38, 39, 40, 41, 42], []), (14, [43, 44, 45, 46, 47, 48], []), (15, [12, 49, 50], []), (16, [12, 49, 51], []), (17, [11, 38, 52, 53, 54, 55], []), (18, [10, 56, 57, 58, 59, 60, 61], []), (19, [0, 1, 6, 7, 8, 20, 62, 63, 64], [15])] }
theorem dendronref01_Over.ok : cFn Tryz.prog dendronref01_Over.hint Tryz.f141 = some dendronref01_Over := by kernel_rfl
def dendronref01_digit : R.Fn := ⟨2, [(.t 4)], (.seq (.reg [] [.a 4 (.mv (.c (.int .i64 0)))] [4] [])
  (.seq (.seq (.reg [] [.a 5 (.mv (.t 1)), .a 6 (.mv (.t 0)), .a 7 (.ln (.t 6)), .a 8 (.bin .lss (.t 5) (.t 7))] [5, 6, 7] [])
  (.cond (.t 8) (.seq (.reg [] [.a 9 (.mv (.t 0)), .a 10 (.mv (.t 1)), .a 11 (.iA 1 (.t 9) (.t 10)), .a 12 (.ld 1 false (.t 11)), .a 4 (.mv (.t 12))] [0, 1, 8, 9, 10, 11, 12] [])
  .ret) .skip))
  (.seq (.reg [] [.a 4 (.mv (.c (.int .i64 0)))] [0, 1, 8] [])
  .ret)))⟩
def dendronref01_digit.hint : R.Hint := { kill := [(0, [4], []), (1, [5, 6, 7], []), (2, [0, 1, 8, 9, 10, 11, 12], []), (3, [0, 1, 8], [])] }
theorem dendronref01_digit.ok : cFn Tryz.prog dendronref01_digit.hint Tryz.f142 = some dendronref01_digit := by kernel_rfl
def dendronref01_Trim.b0 : R.C := (.seq (.seq (.reg [] [.a 6 (.mv (.t 3)), .a 7 (.bin .gtr (.t 6) (.c (.int .i64 0))), .a 8 (.mv (.t 7)), .g 9 8 true (.mv (.t 0)), .g 10 8 true (.mv (.t 3)), .g 11 8 true (.bin .sub (.t 10) (.c (.int .i64 1))), .g 12 8 true (.iA 1 (.t 9) (.t 11)), .g 13 8 true (.ld 1 false (.t 12)), .g 14 8 true (.bin .eql (.t 13) (.c (.int .i64 0))), .a 15 (.pick (.t 8) (.t 14) (.c (.bool false)))] [6, 7, 8, 9, 10, 11, 12, 13, 14] [])
  (.cond (.t 15) .skip (.exit 0)))
  (.block 1 (.reg [] [.a 16 (.mv (.t 3)), .a 17 (.bin .sub (.t 16) (.c (.int .i64 1))), .a 3 (.mv (.t 17))] [15, 16, 17] [])))
def dendronref01_Trim : R.Fn := ⟨1, [(.t 2)], (.seq (.reg [] [.a 2 (.mv (.c (.sl 1 [])))] [2] [])
  (.seq (.reg [] [.a 4 (.mv (.t 0)), .a 5 (.ln (.t 4)), .a 3 (.mv (.t 5))] [4, 5] [])
  (.seq (.block 0 (.loop [] [] dendronref01_Trim.b0))
  (.seq (.reg [] [.a 18 (.mv (.t 0)), .a 19 (.mv (.t 3)), .a 20 (.slc 1 (.t 18) none (some (.t 19))), .a 2 (.mv (.t 20))] [0, 3, 15, 18, 19, 20] [])
  .ret))))⟩
def dendronref01_Trim.hint : R.Hint := { kill := [(0, [2], []), (1, [4, 5], []), (2, [6, 7, 8, 9, 10, 11, 12, 13, 14], []), (3, [15, 16, 17], []), (4, [0, 3, 15, 18, 19, 20], [])] }
theorem dendronref01_Trim.ok : cFn Tryz.prog dendronref01_Trim.hint Tryz.f143 = some dendronref01_Trim := by kernel_rfl
def nat_take.b0 : R.C := (.seq (.reg [] [.a 14 (.bin .lss (.t 13) (.t 12))] [] [])
  (.seq (.cond (.t 14) .skip (.exit 0))
  (.seq (.block 1 (.seq (.reg [] [.a 15 (.mv (.t 13)), .a 9 (.mv (.t 15))] [14, 15] [])
  (.seq (.reg [] [.a 16 (.mv (.t 7)), .a 17 (.mv (.t 2)), .a 18 (.mv (.t 1)), .a 19 (.mv (.t 9)), .a 20 (.call F.nat_limb [(.t 18), (.t 19)]), .a 21 (.bin .mul (.t 17) (.t 20)), .a 22 (.bin .add (.t 16) (.t 21)), .a 7 (.mv (.t 22))] [16, 17, 18, 19, 20, 21, 22] [])
  (.seq (.reg [] [.a 23 (.mv (.t 0)), .a 24 (.mv (.t 9)), .a 25 (.iA 1 (.t 23) (.t 24)), .a 26 (.ld 1 false (.t 25)), .a 27 (.bin .add (.c (.int .u64 4294967296)) (.t 26)), .a 28 (.mv (.t 7)), .a 29 (.bin .and (.t 28) (.c (.int .u64 4294967295))), .a 30 (.bin .sub (.t 27) (.t 29)), .a 31 (.mv (.t 8)), .a 32 (.bin .sub (.t 30) (.t 31)), .a 10 (.mv (.t 32))] [8, 23, 24, 25, 26, 27, 28, 29, 30, 31, 32] [])
  (.seq (.reg [] [.a 33 (.mv (.t 0)), .a 34 (.mv (.t 9)), .a 35 (.mv (.t 10)), .a 36 (.bin .and (.t 35) (.c (.int .u64 4294967295))), .a 37 (.iA 1 (.t 33) (.t 34)), .n (.st 1 (.t 37) (.t 36))] [9, 33, 34, 35, 36, 37] [])
  (.seq (.reg [] [.a 38 (.mv (.t 10)), .a 39 (.bin .shr (.t 38) (.c (.int .u64 32))), .a 40 (.bin .sub (.c (.int .u64 1)) (.t 39)), .a 8 (.mv (.t 40))] [10, 38, 39, 40] [])
  (.reg [] [.a 41 (.mv (.t 7)), .a 42 (.bin .shr (.t 41) (.c (.int .u64 32))), .a 7 (.mv (.t 42))] [41, 42] [])))))))
  (.reg [] [.a 43 (.bin .add (.t 13) (.c (.int .i64 1))), .a 13 (.mv (.t 43))] [43] []))))
def nat_take : R.Fn := ⟨3, [(.own 6)], (.seq (.reg [] [.a 6 (.mv (.c (.bool false)))] [6] [])
  (.seq (.reg [] [.a 7 (.mv (.c (.int .u64 0))), .a 8 (.mv (.c (.int .u64 0)))] [] [])
  (.seq (.seq (.reg [] [.a 11 (.mv (.t 0)), .a 12 (.ln (.t 11)), .a 13 (.mv (.c (.int .i64 0)))] [11] [])
  (.block 0 (.loop [] [] nat_take.b0)))
  (.seq (.reg [] [.a 44 (.mv (.t 8)), .a 45 (.bin .eql (.t 44) (.c (.int .u64 1))), .a 6 (.mv (.t 45))] [0, 1, 2, 7, 8, 12, 13, 14, 44, 45] [])
  .ret))))⟩
def nat_take.hint : R.Hint := { kill := [(0, [6], []), (2, [11], []), (4, [14, 15], []), (5, [16, 17, 18, 19, 20, 21, 22], []), (6, [8, 23, 24, 25, 26, 27, 28, 29, 30, 31, 32], []), (7, [9, 33, 34, 35, 36, 37], []), (8, [10, 38, 39, 40], []), (9, [41, 42], []), (10, [43], []), (11, [0, 1, 2, 7, 8, 12, 13, 14, 44, 45], [])], own := true }
theorem nat_take.ok : cFn Tryz.prog nat_take.hint Tryz.f144 = some nat_take := by kernel_rfl
def nat_give.b0 : R.C := (.seq (.reg [] [.a 9 (.bin .lss (.t 8) (.t 7))] [] [])
  (.seq (.cond (.t 9) .skip (.exit 0))
  (.seq (.block 1 (.seq (.reg [] [.a 10 (.mv (.t 8)), .a 5 (.mv (.t 10))] [9, 10] [])
  (.seq (.reg [] [.a 11 (.mv (.t 4)), .a 12 (.mv (.t 0)), .a 13 (.mv (.t 5)), .a 14 (.iA 1 (.t 12) (.t 13)), .a 15 (.ld 1 false (.t 14)), .a 16 (.mv (.t 1)), .a 17 (.mv (.t 5)), .a 18 (.call F.nat_limb [(.t 16), (.t 17)]), .a 19 (.bin .add (.t 15) (.t 18)), .a 20 (.bin .add (.t 11) (.t 19)), .a 4 (.mv (.t 20))] [11, 12, 13, 14, 15, 16, 17, 18, 19, 20] [])
  (.seq (.reg [] [.a 21 (.mv (.t 0)), .a 22 (.mv (.t 5)), .a 23 (.mv (.t 4)), .a 24 (.bin .and (.t 23) (.c (.int .u64 4294967295))), .a 25 (.iA 1 (.t 21) (.t 22)), .n (.st 1 (.t 25) (.t 24))] [5, 21, 22, 23, 24, 25] [])
  (.reg [] [.a 26 (.mv (.t 4)), .a 27 (.bin .shr (.t 26) (.c (.int .u64 32))), .a 4 (.mv (.t 27))] [26, 27] [])))))
  (.reg [] [.a 28 (.bin .add (.t 8) (.c (.int .i64 1))), .a 8 (.mv (.t 28))] [28] []))))
def nat_give : R.Fn := ⟨2, [], (.seq (.reg [] [.a 4 (.mv (.c (.int .u64 0)))] [] [])
  (.seq (.reg [] [.a 6 (.mv (.t 0)), .a 7 (.ln (.t 6)), .a 8 (.mv (.c (.int .i64 0)))] [6] [])
  (.block 0 (.loop [] [] nat_give.b0))))⟩
def nat_give.hint : R.Hint := { kill := [(1, [6], []), (3, [9, 10], []), (4, [11, 12, 13, 14, 15, 16, 17, 18, 19, 20], []), (5, [5, 21, 22, 23, 24, 25], []), (6, [26, 27], []), (7, [28], [])], own := true }
theorem nat_give.ok : cFn Tryz.prog nat_give.hint Tryz.f145 = some nat_give := by kernel_rfl
def dendronref01_Minus.b0 : R.C := (.seq (.seq (.reg [] [.a 9 (.mv (.t 7)), .a 10 (.mv (.t 0)), .a 11 (.ln (.t 10)), .a 12 (.bin .lss (.t 9) (.t 11))] [9, 10, 11] [])
  (.cond (.t 12) .skip (.exit 0)))
  (.seq (.block 1 (.seq (.reg [] [.a 15 (.mv (.t 0)), .a 16 (.mv (.t 7)), .a 17 (.iA 1 (.t 15) (.t 16)), .a 18 (.ld 1 false (.t 17)), .a 19 (.mv (.t 1)), .a 20 (.mv (.t 7)), .a 21 (.call F.dendronref01_digit [(.t 19), (.t 20)]), .a 22 (.bin .sub (.t 18) (.t 21)), .a 23 (.mv (.t 6)), .a 24 (.bin .sub (.t 22) (.t 23)), .a 8 (.mv (.t 24))] [6, 12, 15, 16, 17, 18, 19, 20, 21, 22, 23, 24] [])
  (.seq (.reg [] [.a 6 (.mv (.c (.int .i64 0)))] [] [])
  (.seq (.seq (.reg [] [.a 25 (.mv (.t 8)), .a 26 (.bin .lss (.t 25) (.c (.int .i64 0)))] [25] [])
  (.cond (.t 26) (.seq (.reg [] [.a 27 (.mv (.t 8)), .a 28 (.bin .add (.t 27) (.c (.int .i64 10000))), .a 8 (.mv (.t 28))] [6, 26, 27, 28] [])
  (.reg [] [.a 6 (.mv (.c (.int .i64 1)))] [] [])) .skip))
  (.reg [] [.a 29 (.mv (.t 5)), .a 30 (.mv (.t 8)), .a 31 (.lit 1 1 [(.int .i64 0)] [(0, 1, (.t 30))]), .a 32 (.app 1 8 (.t 29) (.t 31)), .a 5 (.mv (.t 32))] [8, 26, 29, 30, 31, 32] [])))))
  (.reg [] [.a 13 (.mv (.t 7)), .a 14 (.bin .add (.t 13) (.c (.int .i64 1))), .a 7 (.mv (.t 14))] [13, 14] [])))
def dendronref01_Minus : R.Fn := ⟨2, [(.t 4)], (.seq (.reg [] [.a 4 (.mv (.c (.sl 1 [])))] [4] [])
  (.seq (.reg [] [.a 5 (.nil 1)] [] [])
  (.seq (.reg [] [.a 6 (.mv (.c (.int .i64 0)))] [] [])
  (.seq (.seq (.reg [] [.a 7 (.mv (.c (.int .i64 0)))] [] [])
  (.block 0 (.loop [] [] dendronref01_Minus.b0)))
  (.seq (.reg [5] [.a 33 (.mv (.t 5)), .a 34 (.call F.dendronref01_Trim [(.t 33)]), .a 4 (.mv (.t 34))] [0, 1, 5, 6, 7, 12, 33, 34] [5])
  .ret)))))⟩
def dendronref01_Minus.hint : R.Hint := { nil := [5], pub := [(12, [5])], kill := [(0, [4], []), (4, [9, 10, 11], []), (5, [13, 14], []), (6, [6, 12, 15, 16, 17, 18, 19, 20, 21, 22, 23, 24], []), (8, [25], []), (9, [6, 26, 27, 28], []), (11, [8, 26, 29, 30, 31, 32], []), (12, [0, 1, 5, 6, 7, 12, 33, 34], [5])] }
theorem dendronref01_Minus.ok : cFn Tryz.prog dendronref01_Minus.hint Tryz.f150 = some dendronref01_Minus := by kernel_rfl
def tab : List (Nat × R.Fn) := [(F.dendronlaw19_GameShapley, dendronlaw19_GameShapley), (F.dendronlaw19_GameBanzhaf, dendronlaw19_GameBanzhaf), (F.dendronlaw19_GameDuals, dendronlaw19_GameDuals), (F.dendronlaw19_GameParts, dendronlaw19_GameParts), (F.dendronlaw19_GameShares, dendronlaw19_GameShares), (F.dendronlaw19_GamePairs, dendronlaw19_GamePairs), (F.dendronlaw22_OwenAlones, dendronlaw22_OwenAlones), (F.dendronlaw22_OwenGroups, dendronlaw22_OwenGroups), (F.dendronlaw22_OwenValues, dendronlaw22_OwenValues), (F.dendronlaw21_OrdersValues, dendronlaw21_OrdersValues), (F.dendronlaw19_Few, dendronlaw19_Few), (F.game_Shapley, game_Shapley), (F.dendronlaw19_Size, dendronlaw19_Size), (F.dendronlaw19_awake, dendronlaw19_awake), (F.ratio_Sub, ratio_Sub), (F.dendronref10_All, dendronref10_All), (F.dendronlaw15_Shapley, dendronlaw15_Shapley), (F.ratio_Same, ratio_Same), (F.ratio_Sum, ratio_Sum), (F.game_Banzhaf, game_Banzhaf), (F.ratio_Zero, ratio_Zero), (F.dendronref19_In, dendronref19_In), (F.ratio_Add, ratio_Add), (F.dendronlaw19_two, dendronlaw19_two), (F.ratio_Mul, ratio_Mul), (F.ratio_Frac, ratio_Frac), (F.game_Dual, game_Dual), (F.ratio_Right, ratio_Right), (F.game_ByShares, game_ByShares), (F.dendronlaw19_Count, dendronlaw19_Count), (F.game_Shares, game_Shares), (F.game_FromShares, game_FromShares), (F.dendronlaw19_within, dendronlaw19_within), (F.game_Pairs, game_Pairs), (F.weigh_New, weigh_New), (F.dendron_weigh_Table_Pair, dendron_weigh_Table_Pair), (F.dendronlaw22_awake, dendronlaw22_awake), (F.owen_Values, owen_Values), (F.owen_Alone, owen_Alone), (F.dendronlaw22_two, dendronlaw22_two), (F.dendronlaw22_few, dendronlaw22_few), (F.owen_Groups, owen_Groups), (F.dendronlaw22_right, dendronlaw22_right), (F.owen_Quotient, owen_Quotient), (F.orders_All, orders_All), (F.dendronlaw22_together, dendronlaw22_together), (F.orders_Mean, orders_Mean), (F.orders_Values, orders_Values), (F.dendronlaw21_awake, dendronlaw21_awake), (F.dendronlaw19_number, dendronlaw19_number), (F.game_Players, game_Players), (F.dendron_weigh_Table_All, dendron_weigh_Table_All), (F.bits_OnesCount, bits_OnesCount), (F.ratio_Of, ratio_Of), (F.ratio_Neg, ratio_Neg), (F.dendronref10_Is, dendronref10_Is), (F.dendronlaw15_two, dendronlaw15_two), (F.dendronlaw15_in, dendronlaw15_in), (F.dendronlaw15_size, dendronlaw15_size), (F.dendron_weigh_Table_Weight, dendron_weigh_Table_Weight), (F.ratio_Cmp, ratio_Cmp), (F.nat_Of, nat_Of), (F.ratio_Clean, ratio_Clean), (F.ratio_form, ratio_form), (F.whole_Add, whole_Add), (F.whole_Mul, whole_Mul), (F.ratio_den, ratio_den), (F.nat_Mul, nat_Mul), (F.ratio_Make, ratio_Make), (F.whole_Of, whole_Of), (F.whole_Right, whole_Right), (F.nat_Right, nat_Right), (F.nat_Gcd, nat_Gcd), (F.nat_Cmp, nat_Cmp), (F.game_clean, game_clean), (F.game_cross, game_cross), (F.dendron_weigh_Table_quotient, dendron_weigh_Table_quotient), (F.owen_Right, owen_Right), (F.owen_part, owen_part), (F.owen_merged, owen_merged), (F.orders_First, orders_First), (F.orders_Next, orders_Next), (F.orders_Adds, orders_Adds), (F.dendronlaw21_same, dendronlaw21_same), (F.bits_Len, bits_Len), (F.bits_OnesCount32, bits_OnesCount32), (F.bits_OnesCount64, bits_OnesCount64), (F.whole_Neg, whole_Neg), (F.dendronref03_Is, dendronref03_Is), (F.dendronref03_From, dendronref03_From), (F.whole_Cmp, whole_Cmp), (F.nat_trim, nat_trim), (F.nat_Clean, nat_Clean), (F.whole_Clean, whole_Clean), (F.nat_DivMod, nat_DivMod), (F.whole_sign, whole_sign), (F.nat_Add, nat_Add), (F.nat_Sub, nat_Sub), (F.whole_Sign, whole_Sign), (F.nat_euclid, nat_euclid), (F.nat_zeros, nat_zeros), (F.nat_shr, nat_shr), (F.nat_order, nat_order), (F.nat_shl, nat_shl), (F.nat_rest, nat_rest), (F.nat_minus, nat_minus), (F.bits_Len32, bits_Len32), (F.bits_Len64, bits_Len64), (F.dendronref03_Right, dendronref03_Right), (F.dendronref03_Order, dendronref03_Order), (F.dendronref01_From, dendronref01_From), (F.dendronref03_Small, dendronref03_Small), (F.dendronref02_From, dendronref02_From), (F.nat_small, nat_small), (F.nat_long, nat_long), (F.nat_limb, nat_limb), (F.nat_To, nat_To), (F.weigh_products, weigh_products), (F.dendronref01_Right, dendronref01_Right), (F.dendronref01_Gcd, dendronref01_Gcd), (F.dendronref01_Order, dendronref01_Order), (F.dendronref01_Small, dendronref01_Small), (F.dendronref02_Order, dendronref02_Order), (F.dendronref02_Times, dendronref02_Times), (F.dendronref03_den, dendronref03_den), (F.dendronref01_Plus, dendronref01_Plus), (F.dendronref01_Times, dendronref01_Times), (F.dendronref02_Small, dendronref02_Small), (F.dendronref02_Make, dendronref02_Make), (F.bits_LeadingZeros32, bits_LeadingZeros32), (F.nat_digit, nat_digit), (F.dendronref01_Over, dendronref01_Over), (F.dendronref01_digit, dendronref01_digit), (F.dendronref01_Trim, dendronref01_Trim), (F.nat_take, nat_take), (F.nat_give, nat_give), (F.dendronref01_Minus, dendronref01_Minus)]
def ip : R.Ip := fun f => aget tab f
theorem dendronlaw19_GameShapley.ip : ip F.dendronlaw19_GameShapley = some dendronlaw19_GameShapley := rfl
theorem dendronlaw19_GameBanzhaf.ip : ip F.dendronlaw19_GameBanzhaf = some dendronlaw19_GameBanzhaf := rfl
theorem dendronlaw19_GameDuals.ip : ip F.dendronlaw19_GameDuals = some dendronlaw19_GameDuals := rfl
theorem dendronlaw19_GameParts.ip : ip F.dendronlaw19_GameParts = some dendronlaw19_GameParts := rfl
theorem dendronlaw19_GameShares.ip : ip F.dendronlaw19_GameShares = some dendronlaw19_GameShares := rfl
theorem dendronlaw19_GamePairs.ip : ip F.dendronlaw19_GamePairs = some dendronlaw19_GamePairs := rfl
theorem dendronlaw22_OwenAlones.ip : ip F.dendronlaw22_OwenAlones = some dendronlaw22_OwenAlones := rfl
theorem dendronlaw22_OwenGroups.ip : ip F.dendronlaw22_OwenGroups = some dendronlaw22_OwenGroups := rfl
theorem dendronlaw22_OwenValues.ip : ip F.dendronlaw22_OwenValues = some dendronlaw22_OwenValues := rfl
theorem dendronlaw21_OrdersValues.ip : ip F.dendronlaw21_OrdersValues = some dendronlaw21_OrdersValues := rfl
theorem dendronlaw19_Few.ip : ip F.dendronlaw19_Few = some dendronlaw19_Few := rfl
theorem game_Shapley.ip : ip F.game_Shapley = some game_Shapley := rfl
theorem dendronlaw19_Size.ip : ip F.dendronlaw19_Size = some dendronlaw19_Size := rfl
theorem dendronlaw19_awake.ip : ip F.dendronlaw19_awake = some dendronlaw19_awake := rfl
theorem ratio_Sub.ip : ip F.ratio_Sub = some ratio_Sub := rfl
theorem dendronref10_All.ip : ip F.dendronref10_All = some dendronref10_All := rfl
theorem dendronlaw15_Shapley.ip : ip F.dendronlaw15_Shapley = some dendronlaw15_Shapley := rfl
theorem ratio_Same.ip : ip F.ratio_Same = some ratio_Same := rfl
theorem ratio_Sum.ip : ip F.ratio_Sum = some ratio_Sum := rfl
theorem game_Banzhaf.ip : ip F.game_Banzhaf = some game_Banzhaf := rfl
theorem ratio_Zero.ip : ip F.ratio_Zero = some ratio_Zero := rfl
theorem dendronref19_In.ip : ip F.dendronref19_In = some dendronref19_In := rfl
theorem ratio_Add.ip : ip F.ratio_Add = some ratio_Add := rfl
theorem dendronlaw19_two.ip : ip F.dendronlaw19_two = some dendronlaw19_two := rfl
theorem ratio_Mul.ip : ip F.ratio_Mul = some ratio_Mul := rfl
theorem ratio_Frac.ip : ip F.ratio_Frac = some ratio_Frac := rfl
theorem game_Dual.ip : ip F.game_Dual = some game_Dual := rfl
theorem ratio_Right.ip : ip F.ratio_Right = some ratio_Right := rfl
theorem game_ByShares.ip : ip F.game_ByShares = some game_ByShares := rfl
theorem dendronlaw19_Count.ip : ip F.dendronlaw19_Count = some dendronlaw19_Count := rfl
theorem game_Shares.ip : ip F.game_Shares = some game_Shares := rfl
theorem game_FromShares.ip : ip F.game_FromShares = some game_FromShares := rfl
theorem dendronlaw19_within.ip : ip F.dendronlaw19_within = some dendronlaw19_within := rfl
theorem game_Pairs.ip : ip F.game_Pairs = some game_Pairs := rfl
theorem weigh_New.ip : ip F.weigh_New = some weigh_New := rfl
theorem dendron_weigh_Table_Pair.ip : ip F.dendron_weigh_Table_Pair = some dendron_weigh_Table_Pair := rfl
theorem dendronlaw22_awake.ip : ip F.dendronlaw22_awake = some dendronlaw22_awake := rfl
theorem owen_Values.ip : ip F.owen_Values = some owen_Values := rfl
theorem owen_Alone.ip : ip F.owen_Alone = some owen_Alone := rfl
theorem dendronlaw22_two.ip : ip F.dendronlaw22_two = some dendronlaw22_two := rfl
theorem dendronlaw22_few.ip : ip F.dendronlaw22_few = some dendronlaw22_few := rfl
theorem owen_Groups.ip : ip F.owen_Groups = some owen_Groups := rfl
theorem dendronlaw22_right.ip : ip F.dendronlaw22_right = some dendronlaw22_right := rfl
theorem owen_Quotient.ip : ip F.owen_Quotient = some owen_Quotient := rfl
theorem orders_All.ip : ip F.orders_All = some orders_All := rfl
theorem dendronlaw22_together.ip : ip F.dendronlaw22_together = some dendronlaw22_together := rfl
theorem orders_Mean.ip : ip F.orders_Mean = some orders_Mean := rfl
theorem orders_Values.ip : ip F.orders_Values = some orders_Values := rfl
theorem dendronlaw21_awake.ip : ip F.dendronlaw21_awake = some dendronlaw21_awake := rfl
theorem dendronlaw19_number.ip : ip F.dendronlaw19_number = some dendronlaw19_number := rfl
theorem game_Players.ip : ip F.game_Players = some game_Players := rfl
theorem dendron_weigh_Table_All.ip : ip F.dendron_weigh_Table_All = some dendron_weigh_Table_All := rfl
theorem bits_OnesCount.ip : ip F.bits_OnesCount = some bits_OnesCount := rfl
theorem ratio_Of.ip : ip F.ratio_Of = some ratio_Of := rfl
theorem ratio_Neg.ip : ip F.ratio_Neg = some ratio_Neg := rfl
theorem dendronref10_Is.ip : ip F.dendronref10_Is = some dendronref10_Is := rfl
theorem dendronlaw15_two.ip : ip F.dendronlaw15_two = some dendronlaw15_two := rfl
theorem dendronlaw15_in.ip : ip F.dendronlaw15_in = some dendronlaw15_in := rfl
theorem dendronlaw15_size.ip : ip F.dendronlaw15_size = some dendronlaw15_size := rfl
theorem dendron_weigh_Table_Weight.ip : ip F.dendron_weigh_Table_Weight = some dendron_weigh_Table_Weight := rfl
theorem ratio_Cmp.ip : ip F.ratio_Cmp = some ratio_Cmp := rfl
theorem nat_Of.ip : ip F.nat_Of = some nat_Of := rfl
theorem ratio_Clean.ip : ip F.ratio_Clean = some ratio_Clean := rfl
theorem ratio_form.ip : ip F.ratio_form = some ratio_form := rfl
theorem whole_Add.ip : ip F.whole_Add = some whole_Add := rfl
theorem whole_Mul.ip : ip F.whole_Mul = some whole_Mul := rfl
theorem ratio_den.ip : ip F.ratio_den = some ratio_den := rfl
theorem nat_Mul.ip : ip F.nat_Mul = some nat_Mul := rfl
theorem ratio_Make.ip : ip F.ratio_Make = some ratio_Make := rfl
theorem whole_Of.ip : ip F.whole_Of = some whole_Of := rfl
theorem whole_Right.ip : ip F.whole_Right = some whole_Right := rfl
theorem nat_Right.ip : ip F.nat_Right = some nat_Right := rfl
theorem nat_Gcd.ip : ip F.nat_Gcd = some nat_Gcd := rfl
theorem nat_Cmp.ip : ip F.nat_Cmp = some nat_Cmp := rfl
theorem game_clean.ip : ip F.game_clean = some game_clean := rfl
theorem game_cross.ip : ip F.game_cross = some game_cross := rfl
theorem dendron_weigh_Table_quotient.ip : ip F.dendron_weigh_Table_quotient = some dendron_weigh_Table_quotient := rfl
theorem owen_Right.ip : ip F.owen_Right = some owen_Right := rfl
theorem owen_part.ip : ip F.owen_part = some owen_part := rfl
theorem owen_merged.ip : ip F.owen_merged = some owen_merged := rfl
theorem orders_First.ip : ip F.orders_First = some orders_First := rfl
theorem orders_Next.ip : ip F.orders_Next = some orders_Next := rfl
theorem orders_Adds.ip : ip F.orders_Adds = some orders_Adds := rfl
theorem dendronlaw21_same.ip : ip F.dendronlaw21_same = some dendronlaw21_same := rfl
theorem bits_Len.ip : ip F.bits_Len = some bits_Len := rfl
theorem bits_OnesCount32.ip : ip F.bits_OnesCount32 = some bits_OnesCount32 := rfl
theorem bits_OnesCount64.ip : ip F.bits_OnesCount64 = some bits_OnesCount64 := rfl
theorem whole_Neg.ip : ip F.whole_Neg = some whole_Neg := rfl
theorem dendronref03_Is.ip : ip F.dendronref03_Is = some dendronref03_Is := rfl
theorem dendronref03_From.ip : ip F.dendronref03_From = some dendronref03_From := rfl
theorem whole_Cmp.ip : ip F.whole_Cmp = some whole_Cmp := rfl
theorem nat_trim.ip : ip F.nat_trim = some nat_trim := rfl
theorem nat_Clean.ip : ip F.nat_Clean = some nat_Clean := rfl
theorem whole_Clean.ip : ip F.whole_Clean = some whole_Clean := rfl
theorem nat_DivMod.ip : ip F.nat_DivMod = some nat_DivMod := rfl
theorem whole_sign.ip : ip F.whole_sign = some whole_sign := rfl
theorem nat_Add.ip : ip F.nat_Add = some nat_Add := rfl
theorem nat_Sub.ip : ip F.nat_Sub = some nat_Sub := rfl
theorem whole_Sign.ip : ip F.whole_Sign = some whole_Sign := rfl
theorem nat_euclid.ip : ip F.nat_euclid = some nat_euclid := rfl
theorem nat_zeros.ip : ip F.nat_zeros = some nat_zeros := rfl
theorem nat_shr.ip : ip F.nat_shr = some nat_shr := rfl
theorem nat_order.ip : ip F.nat_order = some nat_order := rfl
theorem nat_shl.ip : ip F.nat_shl = some nat_shl := rfl
theorem nat_rest.ip : ip F.nat_rest = some nat_rest := rfl
theorem nat_minus.ip : ip F.nat_minus = some nat_minus := rfl
theorem bits_Len32.ip : ip F.bits_Len32 = some bits_Len32 := rfl
theorem bits_Len64.ip : ip F.bits_Len64 = some bits_Len64 := rfl
theorem dendronref03_Right.ip : ip F.dendronref03_Right = some dendronref03_Right := rfl
theorem dendronref03_Order.ip : ip F.dendronref03_Order = some dendronref03_Order := rfl
theorem dendronref01_From.ip : ip F.dendronref01_From = some dendronref01_From := rfl
theorem dendronref03_Small.ip : ip F.dendronref03_Small = some dendronref03_Small := rfl
theorem dendronref02_From.ip : ip F.dendronref02_From = some dendronref02_From := rfl
theorem nat_small.ip : ip F.nat_small = some nat_small := rfl
theorem nat_long.ip : ip F.nat_long = some nat_long := rfl
theorem nat_limb.ip : ip F.nat_limb = some nat_limb := rfl
theorem nat_To.ip : ip F.nat_To = some nat_To := rfl
theorem weigh_products.ip : ip F.weigh_products = some weigh_products := rfl
theorem dendronref01_Right.ip : ip F.dendronref01_Right = some dendronref01_Right := rfl
theorem dendronref01_Gcd.ip : ip F.dendronref01_Gcd = some dendronref01_Gcd := rfl
theorem dendronref01_Order.ip : ip F.dendronref01_Order = some dendronref01_Order := rfl
theorem dendronref01_Small.ip : ip F.dendronref01_Small = some dendronref01_Small := rfl
theorem dendronref02_Order.ip : ip F.dendronref02_Order = some dendronref02_Order := rfl
theorem dendronref02_Times.ip : ip F.dendronref02_Times = some dendronref02_Times := rfl
theorem dendronref03_den.ip : ip F.dendronref03_den = some dendronref03_den := rfl
theorem dendronref01_Plus.ip : ip F.dendronref01_Plus = some dendronref01_Plus := rfl
theorem dendronref01_Times.ip : ip F.dendronref01_Times = some dendronref01_Times := rfl
theorem dendronref02_Small.ip : ip F.dendronref02_Small = some dendronref02_Small := rfl
theorem dendronref02_Make.ip : ip F.dendronref02_Make = some dendronref02_Make := rfl
theorem bits_LeadingZeros32.ip : ip F.bits_LeadingZeros32 = some bits_LeadingZeros32 := rfl
theorem nat_digit.ip : ip F.nat_digit = some nat_digit := rfl
theorem dendronref01_Over.ip : ip F.dendronref01_Over = some dendronref01_Over := rfl
theorem dendronref01_digit.ip : ip F.dendronref01_digit = some dendronref01_digit := rfl
theorem dendronref01_Trim.ip : ip F.dendronref01_Trim = some dendronref01_Trim := rfl
theorem nat_take.ip : ip F.nat_take = some nat_take := rfl
theorem nat_give.ip : ip F.nat_give = some nat_give := rfl
theorem dendronref01_Minus.ip : ip F.dendronref01_Minus = some dendronref01_Minus := rfl
theorem tab_ok : ∀ p ∈ tab, ∃ h gf, Tryz.prog.funcs[p.1]? = some gf ∧ cFn Tryz.prog h gf = some p.2 := by
  simp only [tab, List.forall_mem_cons]
  exact ⟨⟨dendronlaw19_GameShapley.hint, Tryz.f3, Tryz.func3, dendronlaw19_GameShapley.ok⟩, ⟨dendronlaw19_GameBanzhaf.hint, Tryz.f4, Tryz.func4, dendronlaw19_GameBanzhaf.ok⟩, ⟨dendronlaw19_GameDuals.hint, Tryz.f5, Tryz.func5, dendronlaw19_GameDuals.ok⟩, ⟨dendronlaw19_GameParts.hint, Tryz.f6, Tryz.func6, dendronlaw19_GameParts.ok⟩, ⟨dendronlaw19_GameShares.hint, Tryz.f7, Tryz.func7, dendronlaw19_GameShares.ok⟩, ⟨dendronlaw19_GamePairs.hint, Tryz.f8, Tryz.func8, dendronlaw19_GamePairs.ok⟩, ⟨dendronlaw22_OwenAlones.hint, Tryz.f9, Tryz.func9, dendronlaw22_OwenAlones.ok⟩, ⟨dendronlaw22_OwenGroups.hint, Tryz.f10, Tryz.func10, dendronlaw22_OwenGroups.ok⟩, ⟨dendronlaw22_OwenValues.hint, Tryz.f11, Tryz.func11, dendronlaw22_OwenValues.ok⟩, ⟨dendronlaw21_OrdersValues.hint, Tryz.f12, Tryz.func12, dendronlaw21_OrdersValues.ok⟩, ⟨dendronlaw19_Few.hint, Tryz.f13, Tryz.func13, dendronlaw19_Few.ok⟩, ⟨game_Shapley.hint, Tryz.f14, Tryz.func14, game_Shapley.ok⟩, ⟨dendronlaw19_Size.hint, Tryz.f15, Tryz.func15, dendronlaw19_Size.ok⟩, ⟨dendronlaw19_awake.hint, Tryz.f16, Tryz.func16, dendronlaw19_awake.ok⟩, ⟨ratio_Sub.hint, Tryz.f17, Tryz.func17, ratio_Sub.ok⟩, ⟨dendronref10_All.hint, Tryz.f18, Tryz.func18, dendronref10_All.ok⟩, ⟨dendronlaw15_Shapley.hint, Tryz.f19, Tryz.func19, dendronlaw15_Shapley.ok⟩, ⟨ratio_Same.hint, Tryz.f20, Tryz.func20, ratio_Same.ok⟩, ⟨ratio_Sum.hint, Tryz.f21, Tryz.func21, ratio_Sum.ok⟩, ⟨game_Banzhaf.hint, Tryz.f22, Tryz.func22, game_Banzhaf.ok⟩, ⟨ratio_Zero.hint, Tryz.f23, Tryz.func23, ratio_Zero.ok⟩, ⟨dendronref19_In.hint, Tryz.f24, Tryz.func24, dendronref19_In.ok⟩, ⟨ratio_Add.hint, Tryz.f25, Tryz.func25, ratio_Add.ok⟩, ⟨dendronlaw19_two.hint, Tryz.f26, Tryz.func26, dendronlaw19_two.ok⟩, ⟨ratio_Mul.hint, Tryz.f27, Tryz.func27, ratio_Mul.ok⟩, ⟨ratio_Frac.hint, Tryz.f28, Tryz.func28, ratio_Frac.ok⟩, ⟨game_Dual.hint, Tryz.f29, Tryz.func29, game_Dual.ok⟩, ⟨ratio_Right.hint, Tryz.f30, Tryz.func30, ratio_Right.ok⟩, ⟨game_ByShares.hint, Tryz.f31, Tryz.func31, game_ByShares.ok⟩, ⟨dendronlaw19_Count.hint, Tryz.f32, Tryz.func32, dendronlaw19_Count.ok⟩, ⟨game_Shares.hint, Tryz.f33, Tryz.func33, game_Shares.ok⟩, ⟨game_FromShares.hint, Tryz.f34, Tryz.func34, game_FromShares.ok⟩, ⟨dendronlaw19_within.hint, Tryz.f35, Tryz.func35, dendronlaw19_within.ok⟩, ⟨game_Pairs.hint, Tryz.f36, Tryz.func36, game_Pairs.ok⟩, ⟨weigh_New.hint, Tryz.f37, Tryz.func37, weigh_New.ok⟩, ⟨dendron_weigh_Table_Pair.hint, Tryz.f38, Tryz.func38, dendron_weigh_Table_Pair.ok⟩, ⟨dendronlaw22_awake.hint, Tryz.f39, Tryz.func39, dendronlaw22_awake.ok⟩, ⟨owen_Values.hint, Tryz.f40, Tryz.func40, owen_Values.ok⟩, ⟨owen_Alone.hint, Tryz.f41, Tryz.func41, owen_Alone.ok⟩, ⟨dendronlaw22_two.hint, Tryz.f42, Tryz.func42, dendronlaw22_two.ok⟩, ⟨dendronlaw22_few.hint, Tryz.f43, Tryz.func43, dendronlaw22_few.ok⟩, ⟨owen_Groups.hint, Tryz.f44, Tryz.func44, owen_Groups.ok⟩, ⟨dendronlaw22_right.hint, Tryz.f45, Tryz.func45, dendronlaw22_right.ok⟩, ⟨owen_Quotient.hint, Tryz.f46, Tryz.func46, owen_Quotient.ok⟩, ⟨orders_All.hint, Tryz.f47, Tryz.func47, orders_All.ok⟩, ⟨dendronlaw22_together.hint, Tryz.f48, Tryz.func48, dendronlaw22_together.ok⟩, ⟨orders_Mean.hint, Tryz.f49, Tryz.func49, orders_Mean.ok⟩, ⟨orders_Values.hint, Tryz.f50, Tryz.func50, orders_Values.ok⟩, ⟨dendronlaw21_awake.hint, Tryz.f51, Tryz.func51, dendronlaw21_awake.ok⟩, ⟨dendronlaw19_number.hint, Tryz.f52, Tryz.func52, dendronlaw19_number.ok⟩, ⟨game_Players.hint, Tryz.f53, Tryz.func53, game_Players.ok⟩, ⟨dendron_weigh_Table_All.hint, Tryz.f54, Tryz.func54, dendron_weigh_Table_All.ok⟩, ⟨bits_OnesCount.hint, Tryz.f55, Tryz.func55, bits_OnesCount.ok⟩, ⟨ratio_Of.hint, Tryz.f56, Tryz.func56, ratio_Of.ok⟩, ⟨ratio_Neg.hint, Tryz.f57, Tryz.func57, ratio_Neg.ok⟩, ⟨dendronref10_Is.hint, Tryz.f58, Tryz.func58, dendronref10_Is.ok⟩, ⟨dendronlaw15_two.hint, Tryz.f59, Tryz.func59, dendronlaw15_two.ok⟩, ⟨dendronlaw15_in.hint, Tryz.f60, Tryz.func60, dendronlaw15_in.ok⟩, ⟨dendronlaw15_size.hint, Tryz.f61, Tryz.func61, dendronlaw15_size.ok⟩, ⟨dendron_weigh_Table_Weight.hint, Tryz.f62, Tryz.func62, dendron_weigh_Table_Weight.ok⟩, ⟨ratio_Cmp.hint, Tryz.f63, Tryz.func63, ratio_Cmp.ok⟩, ⟨nat_Of.hint, Tryz.f64, Tryz.func64, nat_Of.ok⟩, ⟨ratio_Clean.hint, Tryz.f65, Tryz.func65, ratio_Clean.ok⟩, ⟨ratio_form.hint, Tryz.f66, Tryz.func66, ratio_form.ok⟩, ⟨whole_Add.hint, Tryz.f67, Tryz.func67, whole_Add.ok⟩, ⟨whole_Mul.hint, Tryz.f68, Tryz.func68, whole_Mul.ok⟩, ⟨ratio_den.hint, Tryz.f69, Tryz.func69, ratio_den.ok⟩, ⟨nat_Mul.hint, Tryz.f70, Tryz.func70, nat_Mul.ok⟩, ⟨ratio_Make.hint, Tryz.f71, Tryz.func71, ratio_Make.ok⟩, ⟨whole_Of.hint, Tryz.f72, Tryz.func72, whole_Of.ok⟩, ⟨whole_Right.hint, Tryz.f73, Tryz.func73, whole_Right.ok⟩, ⟨nat_Right.hint, Tryz.f74, Tryz.func74, nat_Right.ok⟩, ⟨nat_Gcd.hint, Tryz.f75, Tryz.func75, nat_Gcd.ok⟩, ⟨nat_Cmp.hint, Tryz.f76, Tryz.func76, nat_Cmp.ok⟩, ⟨game_clean.hint, Tryz.f77, Tryz.func77, game_clean.ok⟩, ⟨game_cross.hint, Tryz.f78, Tryz.func78, game_cross.ok⟩, ⟨dendron_weigh_Table_quotient.hint, Tryz.f79, Tryz.func79, dendron_weigh_Table_quotient.ok⟩, ⟨owen_Right.hint, Tryz.f80, Tryz.func80, owen_Right.ok⟩, ⟨owen_part.hint, Tryz.f81, Tryz.func81, owen_part.ok⟩, ⟨owen_merged.hint, Tryz.f82, Tryz.func82, owen_merged.ok⟩, ⟨orders_First.hint, Tryz.f83, Tryz.func83, orders_First.ok⟩, ⟨orders_Next.hint, Tryz.f84, Tryz.func84, orders_Next.ok⟩, ⟨orders_Adds.hint, Tryz.f85, Tryz.func85, orders_Adds.ok⟩, ⟨dendronlaw21_same.hint, Tryz.f86, Tryz.func86, dendronlaw21_same.ok⟩, ⟨bits_Len.hint, Tryz.f87, Tryz.func87, bits_Len.ok⟩, ⟨bits_OnesCount32.hint, Tryz.f88, Tryz.func88, bits_OnesCount32.ok⟩, ⟨bits_OnesCount64.hint, Tryz.f89, Tryz.func89, bits_OnesCount64.ok⟩, ⟨whole_Neg.hint, Tryz.f90, Tryz.func90, whole_Neg.ok⟩, ⟨dendronref03_Is.hint, Tryz.f91, Tryz.func91, dendronref03_Is.ok⟩, ⟨dendronref03_From.hint, Tryz.f92, Tryz.func92, dendronref03_From.ok⟩, ⟨whole_Cmp.hint, Tryz.f93, Tryz.func93, whole_Cmp.ok⟩, ⟨nat_trim.hint, Tryz.f94, Tryz.func94, nat_trim.ok⟩, ⟨nat_Clean.hint, Tryz.f95, Tryz.func95, nat_Clean.ok⟩, ⟨whole_Clean.hint, Tryz.f96, Tryz.func96, whole_Clean.ok⟩, ⟨nat_DivMod.hint, Tryz.f97, Tryz.func97, nat_DivMod.ok⟩, ⟨whole_sign.hint, Tryz.f98, Tryz.func98, whole_sign.ok⟩, ⟨nat_Add.hint, Tryz.f99, Tryz.func99, nat_Add.ok⟩, ⟨nat_Sub.hint, Tryz.f100, Tryz.func100, nat_Sub.ok⟩, ⟨whole_Sign.hint, Tryz.f101, Tryz.func101, whole_Sign.ok⟩, ⟨nat_euclid.hint, Tryz.f102, Tryz.func102, nat_euclid.ok⟩, ⟨nat_zeros.hint, Tryz.f103, Tryz.func103, nat_zeros.ok⟩, ⟨nat_shr.hint, Tryz.f104, Tryz.func104, nat_shr.ok⟩, ⟨nat_order.hint, Tryz.f105, Tryz.func105, nat_order.ok⟩, ⟨nat_shl.hint, Tryz.f106, Tryz.func106, nat_shl.ok⟩, ⟨nat_rest.hint, Tryz.f107, Tryz.func107, nat_rest.ok⟩, ⟨nat_minus.hint, Tryz.f108, Tryz.func108, nat_minus.ok⟩, ⟨bits_Len32.hint, Tryz.f111, Tryz.func111, bits_Len32.ok⟩, ⟨bits_Len64.hint, Tryz.f112, Tryz.func112, bits_Len64.ok⟩, ⟨dendronref03_Right.hint, Tryz.f113, Tryz.func113, dendronref03_Right.ok⟩, ⟨dendronref03_Order.hint, Tryz.f114, Tryz.func114, dendronref03_Order.ok⟩, ⟨dendronref01_From.hint, Tryz.f115, Tryz.func115, dendronref01_From.ok⟩, ⟨dendronref03_Small.hint, Tryz.f116, Tryz.func116, dendronref03_Small.ok⟩, ⟨dendronref02_From.hint, Tryz.f117, Tryz.func117, dendronref02_From.ok⟩, ⟨nat_small.hint, Tryz.f118, Tryz.func118, nat_small.ok⟩, ⟨nat_long.hint, Tryz.f119, Tryz.func119, nat_long.ok⟩, ⟨nat_limb.hint, Tryz.f120, Tryz.func120, nat_limb.ok⟩, ⟨nat_To.hint, Tryz.f121, Tryz.func121, nat_To.ok⟩, ⟨weigh_products.hint, Tryz.f125, Tryz.func125, weigh_products.ok⟩, ⟨dendronref01_Right.hint, Tryz.f126, Tryz.func126, dendronref01_Right.ok⟩, ⟨dendronref01_Gcd.hint, Tryz.f127, Tryz.func127, dendronref01_Gcd.ok⟩, ⟨dendronref01_Order.hint, Tryz.f128, Tryz.func128, dendronref01_Order.ok⟩, ⟨dendronref01_Small.hint, Tryz.f129, Tryz.func129, dendronref01_Small.ok⟩, ⟨dendronref02_Order.hint, Tryz.f130, Tryz.func130, dendronref02_Order.ok⟩, ⟨dendronref02_Times.hint, Tryz.f131, Tryz.func131, dendronref02_Times.ok⟩, ⟨dendronref03_den.hint, Tryz.f132, Tryz.func132, dendronref03_den.ok⟩, ⟨dendronref01_Plus.hint, Tryz.f133, Tryz.func133, dendronref01_Plus.ok⟩, ⟨dendronref01_Times.hint, Tryz.f134, Tryz.func134, dendronref01_Times.ok⟩, ⟨dendronref02_Small.hint, Tryz.f135, Tryz.func135, dendronref02_Small.ok⟩, ⟨dendronref02_Make.hint, Tryz.f136, Tryz.func136, dendronref02_Make.ok⟩, ⟨bits_LeadingZeros32.hint, Tryz.f137, Tryz.func137, bits_LeadingZeros32.ok⟩, ⟨nat_digit.hint, Tryz.f138, Tryz.func138, nat_digit.ok⟩, ⟨dendronref01_Over.hint, Tryz.f141, Tryz.func141, dendronref01_Over.ok⟩, ⟨dendronref01_digit.hint, Tryz.f142, Tryz.func142, dendronref01_digit.ok⟩, ⟨dendronref01_Trim.hint, Tryz.f143, Tryz.func143, dendronref01_Trim.ok⟩, ⟨nat_take.hint, Tryz.f144, Tryz.func144, nat_take.ok⟩, ⟨nat_give.hint, Tryz.f145, Tryz.func145, nat_give.ok⟩, ⟨dendronref01_Minus.hint, Tryz.f150, Tryz.func150, dendronref01_Minus.ok⟩, by simp⟩
end Go.Proofs.YtnmbpainnkdonaaGreatDoor
