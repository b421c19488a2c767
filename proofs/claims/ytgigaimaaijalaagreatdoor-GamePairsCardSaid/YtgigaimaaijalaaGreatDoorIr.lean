/- The interpreter's text of every function of the seat, and that it is the compiler's. -/
import Derived.Test.YtgigaimaaijalaaGreatDoorRb
import Derived.Test.YtgigaimaaijalaaGreatDoorChecked
set_option linter.unusedVariables false
set_option maxRecDepth 100000
namespace Go.Proofs.YtgigaimaaijalaaGreatDoor
open Go Go.Proofs.R
def F.dendronlaw19_GamePairs : Nat := 3
def F.dendronlaw19_Few : Nat := 6
def F.game_Pairs : Nat := 7
def F.dendronlaw19_Size : Nat := 8
def F.dendronlaw19_awake : Nat := 9
def F.dendronlaw15_Shapley : Nat := 10
def F.weigh_New : Nat := 11
def F.ratio_Zero : Nat := 12
def F.dendronref19_In : Nat := 13
def F.dendron_weigh_Table_Pair : Nat := 14
def F.dendronlaw19_Count : Nat := 15
def F.ratio_Add : Nat := 16
def F.dendronlaw19_two : Nat := 17
def F.ratio_Mul : Nat := 18
def F.ratio_Sub : Nat := 19
def F.ratio_Right : Nat := 20
def F.ratio_Same : Nat := 21
def F.game_Shapley : Nat := 27
def F.dendronlaw19_number : Nat := 30
def F.game_Players : Nat := 31
def F.bits_OnesCount : Nat := 32
def F.game_cross : Nat := 33
def F.ratio_Of : Nat := 34
def F.dendronlaw15_two : Nat := 35
def F.dendronlaw15_in : Nat := 36
def F.dendronlaw15_size : Nat := 37
def F.dendron_weigh_Table_Weight : Nat := 38
def F.nat_Of : Nat := 39
def F.dendron_weigh_Table_quotient : Nat := 40
def F.ratio_Frac : Nat := 41
def F.ratio_Clean : Nat := 42
def F.ratio_form : Nat := 43
def F.whole_Add : Nat := 44
def F.whole_Mul : Nat := 45
def F.ratio_den : Nat := 46
def F.nat_Mul : Nat := 47
def F.ratio_Neg : Nat := 48
def F.whole_Right : Nat := 49
def F.nat_Right : Nat := 50
def F.nat_Gcd : Nat := 51
def F.nat_Cmp : Nat := 52
def F.ratio_Cmp : Nat := 53
def F.ratio_Make : Nat := 55
def F.whole_Of : Nat := 56
def F.dendron_weigh_Table_All : Nat := 63
def F.bits_Len : Nat := 66
def F.bits_OnesCount32 : Nat := 67
def F.bits_OnesCount64 : Nat := 68
def F.nat_trim : Nat := 69
def F.dendron_weigh_Table_at : Nat := 70
def F.nat_Clean : Nat := 71
def F.whole_Clean : Nat := 72
def F.nat_DivMod : Nat := 73
def F.whole_sign : Nat := 74
def F.nat_Add : Nat := 75
def F.nat_Sub : Nat := 76
def F.whole_Neg : Nat := 77
def F.nat_euclid : Nat := 78
def F.nat_zeros : Nat := 79
def F.nat_shr : Nat := 80
def F.nat_order : Nat := 81
def F.nat_shl : Nat := 82
def F.nat_rest : Nat := 83
def F.nat_minus : Nat := 84
def F.whole_Cmp : Nat := 85
def F.whole_Sign : Nat := 86
def F.bits_Len32 : Nat := 93
def F.bits_Len64 : Nat := 94
def F.sync_Once_Do : Nat := 95
def F.weigh_products : Nat := 97
def F.nat_small : Nat := 98
def F.nat_long : Nat := 99
def F.nat_limb : Nat := 100
def F.nat_To : Nat := 101
def F.bits_TrailingZeros64 : Nat := 102
def F.sync_atomic_Bool_Load : Nat := 111
def F.sync_Once_doSlow : Nat := 112
def F.bits_LeadingZeros32 : Nat := 113
def F.nat_digit : Nat := 114
def F.sync_atomic_LoadUint32 : Nat := 127
def F.sync_Mutex_Lock : Nat := 128
def F.sync_Mutex_Unlock : Nat := 129
def F.sync_atomic_Bool_Store : Nat := 130
def F.nat_take : Nat := 131
def F.nat_give : Nat := 132
def F.internal_sync_Mutex_Lock : Nat := 136
def F.internal_sync_Mutex_Unlock : Nat := 137
def F.sync_atomic_StoreUint32 : Nat := 138
def F.sync_atomic_b32 : Nat := 139
def F.internal_race_Disable : Nat := 141
def F.sync_atomic_CompareAndSwapInt32 : Nat := 142
def F.internal_race_Enable : Nat := 143
def F.internal_race_Acquire : Nat := 144
def F.internal_sync_Mutex_lockSlow : Nat := 145
def F.internal_race_ReleaseMerge : Nat := 146
def F.sync_atomic_AddInt32 : Nat := 147
def F.internal_sync_Mutex_unlockSlow : Nat := 148
def F.internal_sync_runtime_canSpin : Nat := 149
def F.internal_sync_runtime_doSpin : Nat := 150
def F.internal_sync_throw : Nat := 151
def F.internal_sync_runtime_nanotime : Nat := 152
def F.internal_sync_runtime_SemacquireMutex : Nat := 153
def F.internal_sync_fatal : Nat := 154
def F.internal_sync_runtime_Semrelease : Nat := 155
def dendronlaw19_GamePairs.b4 : R.C := (.seq (.seq (.reg [] [.a 75 (.mv (.t 12)), .a 76 (.mv (.t 0)), .a 77 (.ln (.t 76)), .a 78 (.bin .lss (.t 75) (.t 77))] [75, 76, 77] [])
  (.cond (.t 78) .skip (.exit 4)))
  (.seq (.block 5 (.seq (.seq (.reg [] [.a 81 (.mv (.t 12)), .a 82 (.mv (.t 8)), .a 83 (.call F.dendronref19_In [(.t 81), (.t 82)]), .a 84 (.mv (.t 83)), .g 85 84 false (.mv (.t 12)), .g 86 84 false (.mv (.t 10)), .g 87 84 false (.call F.dendronref19_In [(.t 85), (.t 86)]), .a 88 (.pick (.t 84) (.c (.bool true)) (.t 87))] [78, 81, 82, 83, 84, 85, 86, 87] [])
  (.cond (.t 88) (.exit 5) .skip))
  (.seq (.reg [] [.a 90 (.mv (.t 7)), .a 91 (.mv (.t 12)), .a 92 (.mv (.t 5)), .a 93 (.call F.dendronlaw19_Count [(.t 91), (.t 92)]), .a 94 (.mv (.t 5)), .a 95 (.callk F.dendron_weigh_Table_Pair [(true, (.t 90)), (false, (.t 93)), (false, (.t 94))]), .a 89 (.mv (.t 95)), .a 96 (.ext (.t 89) 0), .a 97 (.ext (.t 89) 1), .a 13 (.new [(.bool false), (.sl 1 []), (.sl 1 [])]), .n (.st 3 (.t 13) (.t 96)), .a 14 (.mv (.t 97))] [14, 88, 89, 90, 91, 92, 93, 94, 95, 96, 97] [95, 1095, 2095, 3095])
  (.seq (.reg [] [.a 98 (.mv (.t 0)), .a 99 (.mv (.t 12)), .a 100 (.mv (.t 8)), .a 101 (.call F.dendronlaw19_two [(.t 100)]), .a 102 (.bin .add (.t 99) (.t 101)), .a 103 (.mv (.t 10)), .a 104 (.call F.dendronlaw19_two [(.t 103)]), .a 105 (.bin .add (.t 102) (.t 104)), .a 106 (.iA 3 (.t 98) (.t 105)), .a 107 (.ld 3 true (.t 106)), .a 108 (.mv (.t 0)), .a 109 (.mv (.t 12)), .a 110 (.iA 3 (.t 108) (.t 109)), .a 111 (.ld 3 true (.t 110)), .a 112 (.call F.ratio_Add [(.t 107), (.t 111)]), .a 15 (.new [(.bool false), (.sl 1 []), (.sl 1 [])]), .n (.st 3 (.t 15) (.t 112))] [98, 99, 100, 101, 102, 103, 104, 105, 106, 107, 108, 109, 110, 111, 112] [])
  (.seq (.reg [] [.a 113 (.mv (.t 0)), .a 114 (.mv (.t 12)), .a 115 (.mv (.t 8)), .a 116 (.call F.dendronlaw19_two [(.t 115)]), .a 117 (.bin .add (.t 114) (.t 116)), .a 118 (.iA 3 (.t 113) (.t 117)), .a 119 (.ld 3 true (.t 118)), .a 120 (.mv (.t 0)), .a 121 (.mv (.t 12)), .a 122 (.mv (.t 10)), .a 123 (.call F.dendronlaw19_two [(.t 122)]), .a 124 (.bin .add (.t 121) (.t 123)), .a 125 (.iA 3 (.t 120) (.t 124)), .a 126 (.ld 3 true (.t 125)), .a 127 (.call F.ratio_Add [(.t 119), (.t 126)]), .a 16 (.new [(.bool false), (.sl 1 []), (.sl 1 [])]), .n (.st 3 (.t 16) (.t 127))] [113, 114, 115, 116, 117, 118, 119, 120, 121, 122, 123, 124, 125, 126, 127] [])
  (.reg [47244640267, 55834574861, 64424509455, 68719476752] [.a 128 (.ld 3 true (.t 11)), .a 129 (.ld 3 true (.t 13)), .a 130 (.ld 3 true (.t 15)), .a 131 (.ld 3 true (.t 16)), .a 132 (.call F.ratio_Sub [(.t 130), (.t 131)]), .a 133 (.call F.ratio_Mul [(.t 129), (.t 132)]), .a 134 (.call F.ratio_Add [(.t 128), (.t 133)]), .n (.st 3 (.t 11) (.t 134))] [13, 15, 16, 128, 129, 130, 131, 132, 133, 134] [13, 15, 16]))))))
  (.reg [] [.a 79 (.mv (.t 12)), .a 80 (.bin .add (.t 79) (.c (.int .i64 1))), .a 12 (.mv (.t 80))] [79, 80, 88] [])))
def dendronlaw19_GamePairs.b2 : R.C := (.seq (.seq (.reg [] [.a 66 (.mv (.t 10)), .a 67 (.mv (.t 5)), .a 68 (.bin .lss (.t 66) (.t 67))] [66, 67] [])
  (.cond (.t 68) .skip (.exit 2)))
  (.seq (.block 3 (.seq (.seq (.reg [] [.a 71 (.mv (.t 10)), .a 72 (.mv (.t 8)), .a 73 (.bin .eql (.t 71) (.t 72))] [68, 71, 72] [])
  (.cond (.t 73) (.exit 3) .skip))
  (.seq (.reg [] [.a 74 (.call F.ratio_Zero []), .a 11 (.new [(.bool false), (.sl 1 []), (.sl 1 [])]), .n (.st 3 (.t 11) (.t 74))] [73, 74] [])
  (.seq (.seq (.reg [] [.a 12 (.mv (.c (.int .i64 0)))] [] [])
  (.block 4 (.loop [] [] dendronlaw19_GamePairs.b4)))
  (.seq (.reg [] [.a 135 (.ld 3 true (.t 9)), .a 136 (.ld 3 true (.t 11)), .a 137 (.call F.ratio_Sub [(.t 135), (.t 136)]), .n (.st 3 (.t 9) (.t 137))] [12, 78, 135, 136, 137] [])
  (.seq (.reg [] [.a 138 (.mv (.t 3)), .a 139 (.mv (.t 8)), .a 140 (.iA 1 (.t 138) (.t 139)), .a 141 (.ld 1 false (.t 140)), .a 142 (.mv (.t 10)), .a 143 (.iA 3 (.t 141) (.t 142)), .a 144 (.ld 3 true (.t 143)), .a 145 (.call F.ratio_Right [(.t 144)]), .a 146 (.un .not (.t 145)), .a 147 (.mv (.t 146)), .g 148 147 false (.mv (.t 3)), .g 149 147 false (.mv (.t 8)), .g 150 147 false (.iA 1 (.t 148) (.t 149)), .g 151 147 false (.ld 1 false (.t 150)), .g 152 147 false (.mv (.t 10)), .g 153 147 false (.iA 3 (.t 151) (.t 152)), .g 154 147 false (.ld 3 true (.t 153)), .g 155 147 false (.ld 3 true (.t 11)), .g 156 147 false (.call F.ratio_Same [(.t 154), (.t 155)]), .g 157 147 false (.un .not (.t 156)), .a 158 (.pick (.t 147) (.c (.bool true)) (.t 157))] [11, 138, 139, 140, 141, 142, 143, 144, 145, 146, 147, 148, 149, 150, 151, 152, 153, 154, 155, 156, 157] [11])
  (.cond (.t 158) (.seq (.reg [] [.a 2 (.mv (.c (.bool false)))] [0, 3, 5, 6, 7, 8, 9, 10, 158] [9, 49])
  .ret) .skip)))))))
  (.reg [] [.a 69 (.mv (.t 10)), .a 70 (.bin .add (.t 69) (.c (.int .i64 1))), .a 10 (.mv (.t 70))] [69, 70, 73, 158] [])))
def dendronlaw19_GamePairs.b0 : R.C := (.seq (.seq (.reg [] [.a 50 (.mv (.t 8)), .a 51 (.mv (.t 5)), .a 52 (.bin .lss (.t 50) (.t 51))] [50, 51] [])
  (.cond (.t 52) .skip (.exit 0)))
  (.seq (.block 1 (.seq (.seq (.reg [] [.a 55 (.mv (.t 3)), .a 56 (.mv (.t 8)), .a 57 (.iA 1 (.t 55) (.t 56)), .a 58 (.ld 1 false (.t 57)), .a 59 (.ln (.t 58)), .a 60 (.mv (.t 5)), .a 61 (.bin .neq (.t 59) (.t 60))] [52, 55, 56, 57, 58, 59, 60] [])
  (.cond (.t 61) (.seq (.reg [] [.a 2 (.mv (.c (.bool false)))] [0, 3, 5, 6, 7, 8, 61] [49])
  .ret) .skip))
  (.seq (.reg [] [.a 62 (.mv (.t 6)), .a 63 (.mv (.t 8)), .a 64 (.iA 3 (.t 62) (.t 63)), .a 65 (.ld 3 true (.t 64)), .a 9 (.new [(.bool false), (.sl 1 []), (.sl 1 [])]), .n (.st 3 (.t 9) (.t 65))] [61, 62, 63, 64, 65] [])
  (.seq (.seq (.reg [] [.a 10 (.mv (.c (.int .i64 0)))] [] [])
  (.block 2 (.loop [] [] dendronlaw19_GamePairs.b2)))
  (.seq (.reg [] [.a 159 (.mv (.t 3)), .a 160 (.mv (.t 8)), .a 161 (.iA 1 (.t 159) (.t 160)), .a 162 (.ld 1 false (.t 161)), .a 163 (.mv (.t 8)), .a 164 (.iA 3 (.t 162) (.t 163)), .a 165 (.ld 3 true (.t 164)), .a 166 (.call F.ratio_Right [(.t 165)]), .a 167 (.un .not (.t 166)), .a 168 (.mv (.t 167)), .g 169 168 false (.mv (.t 3)), .g 170 168 false (.mv (.t 8)), .g 171 168 false (.iA 1 (.t 169) (.t 170)), .g 172 168 false (.ld 1 false (.t 171)), .g 173 168 false (.mv (.t 8)), .g 174 168 false (.iA 3 (.t 172) (.t 173)), .g 175 168 false (.ld 3 true (.t 174)), .g 176 168 false (.ld 3 true (.t 9)), .g 177 168 false (.call F.ratio_Same [(.t 175), (.t 176)]), .g 178 168 false (.un .not (.t 177)), .a 179 (.pick (.t 168) (.c (.bool true)) (.t 178))] [9, 10, 68, 159, 160, 161, 162, 163, 164, 165, 166, 167, 168, 169, 170, 171, 172, 173, 174, 175, 176, 177, 178] [9])
  (.cond (.t 179) (.seq (.reg [] [.a 2 (.mv (.c (.bool false)))] [0, 3, 5, 6, 7, 8, 179] [49])
  .ret) .skip))))))
  (.reg [] [.a 53 (.mv (.t 8)), .a 54 (.bin .add (.t 53) (.c (.int .i64 1))), .a 8 (.mv (.t 54))] [53, 54, 179] [])))
def dendronlaw19_GamePairs : R.Fn := ⟨1, [(.t 2)], (.seq (.reg [] [.a 2 (.mv (.c (.bool false)))] [2] [])
  (.seq (.reg [] [.a 17 (.mv (.t 0)), .a 18 (.call F.dendronlaw19_Few [(.t 17)]), .a 0 (.mv (.t 18))] [17, 18] [])
  (.seq (.reg [] [.a 20 (.mv (.t 0)), .a 21 (.call F.game_Pairs [(.t 20)]), .a 19 (.mv (.t 21)), .a 22 (.ext (.t 19) 0), .a 23 (.ext (.t 19) 1), .a 3 (.mv (.t 22)), .a 4 (.mv (.t 23))] [19, 20, 21, 22, 23] [])
  (.seq (.reg [] [.a 24 (.mv (.t 0)), .a 25 (.call F.dendronlaw19_Size [(.t 24)]), .a 5 (.mv (.t 25))] [24, 25] [])
  (.seq (.seq (.reg [] [.a 26 (.mv (.t 5)), .a 27 (.bin .lss (.t 26) (.c (.int .i64 0)))] [26] [])
  (.cond (.t 27) (.seq (.reg [] [.a 28 (.mv (.t 3)), .a 29 (.ln (.t 28)), .a 30 (.bin .eql (.t 29) (.c (.int .i64 0))), .a 31 (.mv (.t 30)), .g 32 31 true (.mv (.t 4)), .g 33 31 true (.bin .eql (.t 32) (.c (.int .i64 1))), .a 34 (.pick (.t 31) (.t 33) (.c (.bool false))), .a 35 (.mv (.t 34)), .g 36 35 true (.call F.dendronlaw19_awake []), .a 37 (.pick (.t 35) (.t 36) (.c (.bool false))), .a 2 (.mv (.t 37))] [0, 3, 4, 5, 27, 28, 29, 30, 31, 32, 33, 34, 35, 36, 37] [])
  .ret) .skip))
  (.seq (.seq (.reg [] [.a 38 (.mv (.t 4)), .a 39 (.bin .neq (.t 38) (.c (.int .i64 0))), .a 40 (.mv (.t 39)), .g 41 40 false (.mv (.t 3)), .g 42 40 false (.ln (.t 41)), .g 43 40 false (.mv (.t 5)), .g 44 40 false (.bin .neq (.t 42) (.t 43)), .a 45 (.pick (.t 40) (.c (.bool true)) (.t 44))] [4, 27, 38, 39, 40, 41, 42, 43, 44] [])
  (.cond (.t 45) (.seq (.reg [] [.a 2 (.mv (.c (.bool false)))] [0, 3, 5, 45] [])
  .ret) .skip))
  (.seq (.reg [] [.a 46 (.mv (.t 0)), .a 47 (.mv (.t 5)), .a 48 (.call F.dendronlaw15_Shapley [(.t 46), (.t 47), (.c (.int .i64 (-1))), (.c (.bool false))]), .a 6 (.mv (.t 48))] [45, 46, 47, 48] [])
  (.seq (.reg [] [.a 49 (.callk F.weigh_New []), .a 7 (.mv (.t 49))] [49] [])
  (.seq (.seq (.reg [] [.a 8 (.mv (.c (.int .i64 0)))] [] [])
  (.block 0 (.loop [] [] dendronlaw19_GamePairs.b0)))
  (.seq (.reg [] [.a 180 (.call F.dendronlaw19_awake []), .a 2 (.mv (.t 180))] [0, 3, 5, 6, 7, 8, 52, 180] [49])
  .ret))))))))))⟩
def dendronlaw19_GamePairs.hint : R.Hint := { callk := [(49, []), (95, [true, false, false])], pub := [(28, [47244640267, 55834574861, 64424509455, 68719476752])], kill := [(0, [2], []), (1, [17, 18], []), (2, [19, 20, 21, 22, 23], []), (3, [24, 25], []), (4, [26], []), (5, [0, 3, 4, 5, 27, 28, 29, 30, 31, 32, 33, 34, 35, 36, 37], []), (6, [4, 27, 38, 39, 40, 41, 42, 43, 44], []), (7, [0, 3, 5, 45], []), (8, [45, 46, 47, 48], []), (9, [49], []), (11, [50, 51], []), (12, [53, 54, 179], []), (13, [52, 55, 56, 57, 58, 59, 60], []), (14, [0, 3, 5, 6, 7, 8, 61], [49]), (15, [61, 62, 63, 64, 65], []), (17, [66, 67], []), (18, [69, 70, 73, 158], []), (19, [68, 71, 72], []), (20, [73, 74], []), (22, [75, 76, 77], []), (23, [79, 80, 88], []), (24, [78, 81, 82, 83, 84, 85, 86, 87], []), (25, [14, 88, 89, 90, 91, 92, 93, 94, 95, 96, 97], [95, 1095, 2095, 3095]), (26, [98, 99, 100, 101, 102, 103, 104, 105, 106, 107, 108, 109, 110, 111, 112], []), (27, [113, 114, 115, 116, 117, 118, 119, 120, 121, 122, 123, 124, 125, 126, 127], []), (28, [13, 15, 16, 128, 129, 130, 131, 132, 133, 134], [13, 15, 16]), (29, [12, 78, 135, 136, 137], []), (30, [11, 138, 139, 140, 141, 142, 143, 144, 145, 146, 147, 148, 149, 150, 151, 152, 153, 154, 155, 156, 157], [11]), (31, [0, 3, 5, 6, 7, 8, 9, 10, 158], [9, 49]), (32, [9, 10, 68, 159, 160, 161, 162, 163, 164, 165, 166, 167, 168, 169, 170, 171, 172, 173, 174, 175, 176, 177, 178], [9]), (33, [0, 3, 5, 6, 7, 8, 179], [49]), (34, [0, 3, 5, 6, 7, 8, 52, 180], [49])] }
theorem dendronlaw19_GamePairs.ok : cFn Tryz.prog dendronlaw19_GamePairs.hint Tryz.f3 = some dendronlaw19_GamePairs := by kernel_rfl
def dendronlaw19_Few.b0 : R.C := (.seq (.seq (.reg [] [.a 5 (.mv (.t 4)), .a 6 (.mv (.t 0)), .a 7 (.ln (.t 6)), .a 8 (.bin .lss (.t 5) (.t 7)), .a 9 (.mv (.t 8)), .g 10 9 true (.mv (.t 4)), .g 11 9 true (.bin .lss (.t 10) (.c (.int .i64 33))), .a 12 (.pick (.t 9) (.t 11) (.c (.bool false)))] [5, 6, 7, 8, 9, 10, 11] [])
  (.cond (.t 12) .skip (.exit 0)))
  (.seq (.block 1 (.reg [] [.a 15 (.mv (.t 3)), .a 16 (.mv (.t 0)), .a 17 (.mv (.t 4)), .a 18 (.iA 3 (.t 16) (.t 17)), .a 19 (.ld 3 true (.t 18)), .a 20 (.call F.dendronlaw19_number [(.t 19)]), .a 21 (.lit 3 1 [(.bool false), (.sl 1 []), (.sl 1 [])] [(0, 3, (.t 20))]), .a 22 (.app 3 56 (.t 15) (.t 21)), .a 3 (.mv (.t 22))] [12, 15, 16, 17, 18, 19, 20, 21, 22] []))
  (.reg [] [.a 13 (.mv (.t 4)), .a 14 (.bin .add (.t 13) (.c (.int .i64 1))), .a 4 (.mv (.t 14))] [13, 14] [])))
def dendronlaw19_Few : R.Fn := ⟨1, [(.t 2)], (.seq (.reg [] [.a 2 (.mv (.c (.sl 3 [])))] [2] [])
  (.seq (.reg [] [.a 3 (.nil 3)] [] [])
  (.seq (.seq (.reg [] [.a 4 (.mv (.c (.int .i64 0)))] [] [])
  (.block 0 (.loop [] [] dendronlaw19_Few.b0)))
  (.seq (.reg [] [.a 23 (.mv (.t 3)), .a 2 (.mv (.t 23))] [0, 3, 4, 12, 23] [])
  .ret))))⟩
def dendronlaw19_Few.hint : R.Hint := { nil := [3], kill := [(0, [2], []), (3, [5, 6, 7, 8, 9, 10, 11], []), (4, [13, 14], []), (5, [12, 15, 16, 17, 18, 19, 20, 21, 22], []), (6, [0, 3, 4, 12, 23], [])] }
theorem dendronlaw19_Few.ok : cFn Tryz.prog dendronlaw19_Few.hint Tryz.f6 = some dendronlaw19_Few := by kernel_rfl
def game_Pairs.b4 : R.C := (.seq (.reg [] [.a 61 (.bin .lss (.t 60) (.t 59))] [] [])
  (.seq (.cond (.t 61) .skip (.exit 4))
  (.seq (.block 5 (.seq (.reg [] [.a 62 (.mv (.t 60)), .a 13 (.mv (.t 62))] [61, 62] [])
  (.seq (.reg [] [.a 63 (.mv (.t 13)), .a 64 (.mv (.t 10)), .a 65 (.bin .shr (.t 63) (.t 64)), .a 66 (.bin .and (.t 65) (.c (.int .i64 1))), .a 67 (.bin .eql (.t 66) (.c (.int .i64 0))), .a 68 (.mv (.t 67)), .g 69 68 true (.mv (.t 13)), .g 70 68 true (.mv (.t 11)), .g 71 68 true (.bin .shr (.t 69) (.t 70)), .g 72 68 true (.bin .and (.t 71) (.c (.int .i64 1))), .g 73 68 true (.bin .eql (.t 72) (.c (.int .i64 0))), .a 74 (.pick (.t 68) (.t 73) (.c (.bool false)))] [63, 64, 65, 66, 67, 68, 69, 70, 71, 72, 73] [])
  (.cond (.t 74) (.seq (.reg [] [.a 76 (.mv (.t 8)), .a 77 (.mv (.t 13)), .a 78 (.conv .u64 (.t 77)), .a 79 (.callc F.bits_OnesCount [(.t 78)]), .a 80 (.mv (.t 4)), .a 81 (.callh F.dendron_weigh_Table_Pair [(true, (.t 76)), (false, (.t 79)), (false, (.t 80))]), .a 75 (.mv (.t 81)), .a 82 (.ext (.t 75) 0), .a 83 (.ext (.t 75) 1), .a 14 (.new [(.bool false), (.sl 1 []), (.sl 1 [])]), .n (.st 3 (.t 14) (.t 82)), .a 15 (.mv (.t 83))] [15, 74, 75, 76, 77, 78, 79, 80, 81, 82, 83] [])
  (.reg [51539607564, 60129542158] [.a 84 (.ld 3 true (.t 12)), .a 85 (.ld 3 true (.t 14)), .a 86 (.mv (.t 0)), .a 87 (.mv (.t 13)), .a 88 (.mv (.t 10)), .a 89 (.mv (.t 11)), .a 90 (.callc F.game_cross [(.t 86), (.t 87), (.t 88), (.t 89)]), .a 91 (.callc F.ratio_Mul [(.t 85), (.t 90)]), .a 92 (.callc F.ratio_Add [(.t 84), (.t 91)]), .n (.st 3 (.t 12) (.t 92))] [13, 14, 84, 85, 86, 87, 88, 89, 90, 91, 92] [14])) .skip))))
  (.reg [] [.a 93 (.bin .add (.t 60) (.c (.int .i64 1))), .a 60 (.mv (.t 93))] [13, 74, 93] []))))
def game_Pairs.b2 : R.C := (.seq (.reg [] [.a 52 (.bin .lss (.t 51) (.t 50))] [] [])
  (.seq (.cond (.t 52) .skip (.exit 2))
  (.seq (.block 3 (.seq (.reg [] [.a 53 (.mv (.t 51)), .a 11 (.mv (.t 53))] [52, 53] [])
  (.seq (.seq (.reg [] [.a 54 (.mv (.t 11)), .a 55 (.mv (.t 10)), .a 56 (.bin .eql (.t 54) (.t 55))] [54, 55] [])
  (.cond (.t 56) (.exit 3) .skip))
  (.seq (.reg [] [.a 57 (.callc F.ratio_Zero []), .a 12 (.new [(.bool false), (.sl 1 []), (.sl 1 [])]), .n (.st 3 (.t 12) (.t 57))] [56, 57] [])
  (.seq (.seq (.reg [] [.a 58 (.mv (.t 0)), .a 59 (.ln (.t 58)), .a 60 (.mv (.c (.int .i64 0)))] [58] [])
  (.block 4 (.loop [] [] game_Pairs.b4)))
  (.seq (.reg [] [.a 94 (.mv (.t 9)), .a 95 (.mv (.t 10)), .a 96 (.iA 1 (.t 94) (.t 95)), .a 97 (.ldr (.t 96)), .a 98 (.mv (.t 11)), .a 99 (.ld 3 true (.t 12)), .a 100 (.iA 3 (.t 97) (.t 98)), .n (.st 3 (.t 100) (.t 99))] [11, 59, 60, 61, 94, 95, 96, 97, 98, 99, 100] [])
  (.reg [] [.a 101 (.mv (.t 9)), .a 102 (.mv (.t 10)), .a 103 (.iA 1 (.t 101) (.t 102)), .a 104 (.ldr (.t 103)), .a 105 (.mv (.t 10)), .a 106 (.mv (.t 9)), .a 107 (.mv (.t 10)), .a 108 (.iA 1 (.t 106) (.t 107)), .a 109 (.ldr (.t 108)), .a 110 (.mv (.t 10)), .a 111 (.iA 3 (.t 109) (.t 110)), .a 112 (.ld 3 true (.t 111)), .a 113 (.ld 3 true (.t 12)), .a 114 (.callc F.ratio_Sub [(.t 112), (.t 113)]), .a 115 (.iA 3 (.t 104) (.t 105)), .n (.st 3 (.t 115) (.t 114))] [12, 101, 102, 103, 104, 105, 106, 107, 108, 109, 110, 111, 112, 113, 114, 115] [12])))))))
  (.reg [] [.a 116 (.bin .add (.t 51) (.c (.int .i64 1))), .a 51 (.mv (.t 116))] [11, 56, 116] []))))
def game_Pairs.b0 : R.C := (.seq (.reg [] [.a 33 (.bin .lss (.t 32) (.t 31))] [] [])
  (.seq (.cond (.t 33) .skip (.exit 0))
  (.seq (.block 1 (.seq (.reg [] [.a 34 (.mv (.t 32)), .a 10 (.mv (.t 34))] [33, 34] [])
  (.seq (.reg [] [.a 35 (.mv (.t 9)), .a 36 (.mv (.t 10)), .a 37 (.mv (.t 4)), .a 38 (.mkh 3 56 [(.bool false), (.sl 1 []), (.sl 1 [])] (.t 37) (.t 37)), .a 39 (.iA 1 (.t 35) (.t 36)), .n (.st 1 (.t 39) (.t 38))] [35, 36, 37, 38, 39] [])
  (.seq (.reg [] [.a 40 (.mv (.t 9)), .a 41 (.mv (.t 10)), .a 42 (.iA 1 (.t 40) (.t 41)), .a 43 (.ldr (.t 42)), .a 44 (.mv (.t 10)), .a 45 (.mv (.t 6)), .a 46 (.mv (.t 10)), .a 47 (.iA 3 (.t 45) (.t 46)), .a 48 (.ld 3 true (.t 47)), .a 49 (.iA 3 (.t 43) (.t 44)), .n (.st 3 (.t 49) (.t 48))] [40, 41, 42, 43, 44, 45, 46, 47, 48, 49] [])
  (.seq (.reg [] [.a 50 (.mv (.t 4)), .a 51 (.mv (.c (.int .i64 0)))] [] [])
  (.block 2 (.loop [] [] game_Pairs.b2)))))))
  (.reg [] [.a 117 (.bin .add (.t 32) (.c (.int .i64 1))), .a 32 (.mv (.t 117))] [10, 50, 51, 52, 117] []))))
def game_Pairs : R.Fn := ⟨1, [(.deep 2 1), (.t 3)], (.seq (.reg [] [.a 2 (.mv (.c (.sl 1 []))), .a 3 (.mv (.c (.int .i64 0)))] [2, 3] [])
  (.seq (.reg [] [.a 17 (.mv (.t 0)), .a 18 (.callc F.game_Players [(.t 17)]), .a 16 (.mv (.t 18)), .a 19 (.ext (.t 16) 0), .a 20 (.ext (.t 16) 1), .a 4 (.mv (.t 19)), .a 5 (.mv (.t 20))] [16, 17, 18, 19, 20] [])
  (.seq (.seq (.reg [] [.a 21 (.mv (.t 5)), .a 22 (.un .not (.t 21))] [5, 21] [])
  (.cond (.t 22) (.seq (.reg [] [.a 2 (.mv (.c (.sl 1 []))), .a 3 (.mv (.c (.int .i64 1)))] [0, 4, 22] [])
  .ret) .skip))
  (.seq (.reg [] [.a 24 (.mv (.t 0)), .a 25 (.callc F.game_Shapley [(.t 24)]), .a 23 (.mv (.t 25)), .a 26 (.ext (.t 23) 0), .a 27 (.ext (.t 23) 1), .a 6 (.mv (.t 26)), .a 7 (.mv (.t 27))] [7, 22, 23, 24, 25, 26, 27] [])
  (.seq (.reg [] [.a 28 (.callk F.weigh_New []), .a 8 (.mv (.t 28))] [28] [])
  (.seq (.reg [] [.a 29 (.mv (.t 4)), .a 30 (.mk 1 24 [(.sl 3 [])] (.t 29) (.t 29)), .a 9 (.mv (.t 30))] [29, 30] [])
  (.seq (.seq (.up [9] (.reg [] [.a 31 (.mv (.t 4)), .a 32 (.mv (.c (.int .i64 0)))] [] []))
  (.block 0 (.loop [] [] game_Pairs.b0)))
  (.seq (.reg [] [.a 118 (.mv (.t 9)), .a 2 (.mv (.t 118)), .a 3 (.mv (.c (.int .i64 0)))] [0, 4, 6, 8, 9, 31, 32, 33, 118] [28])
  .ret))))))))⟩
def game_Pairs.hint : R.Hint := { callk := [(28, [])], pub := [(22, [51539607564, 60129542158])], kill := [(0, [2, 3], []), (1, [16, 17, 18, 19, 20], []), (2, [5, 21], []), (3, [0, 4, 22], []), (4, [7, 22, 23, 24, 25, 26, 27], []), (5, [28], []), (6, [29, 30], []), (9, [33, 34], []), (10, [35, 36, 37, 38, 39], []), (11, [40, 41, 42, 43, 44, 45, 46, 47, 48, 49], []), (14, [52, 53], []), (15, [54, 55], []), (16, [56, 57], []), (17, [58], []), (19, [61, 62], []), (20, [63, 64, 65, 66, 67, 68, 69, 70, 71, 72, 73], []), (21, [15, 74, 75, 76, 77, 78, 79, 80, 81, 82, 83], []), (22, [13, 14, 84, 85, 86, 87, 88, 89, 90, 91, 92], [14]), (23, [13, 74, 93], []), (24, [11, 59, 60, 61, 94, 95, 96, 97, 98, 99, 100], []), (25, [12, 101, 102, 103, 104, 105, 106, 107, 108, 109, 110, 111, 112, 113, 114, 115], [12]), (26, [11, 56, 116], []), (27, [10, 50, 51, 52, 117], []), (28, [0, 4, 6, 8, 9, 31, 32, 33, 118], [28])], heap := true, callh := [(81, [true, false, false])], lith := [38], deep := [(2, 1)], up := [(7, [9])] }
theorem game_Pairs.ok : cFn Tryz.prog game_Pairs.hint Tryz.f7 = some game_Pairs := by kernel_rfl
def dendronlaw19_Size.b0 : R.C := (.seq (.seq (.reg [] [.a 4 (.mv (.t 3)), .a 5 (.bin .lss (.t 4) (.c (.int .i64 6)))] [4] [])
  (.cond (.t 5) .skip (.exit 0)))
  (.seq (.block 1 (.seq (.reg [] [.a 8 (.mv (.t 0)), .a 9 (.ln (.t 8)), .a 10 (.mv (.t 3)), .a 11 (.call F.dendronlaw19_two [(.t 10)]), .a 12 (.bin .eql (.t 9) (.t 11))] [5, 8, 9, 10, 11] [])
  (.cond (.t 12) (.seq (.reg [] [.a 13 (.mv (.t 3)), .a 2 (.mv (.t 13))] [0, 3, 12, 13] [])
  .ret) .skip)))
  (.reg [] [.a 6 (.mv (.t 3)), .a 7 (.bin .add (.t 6) (.c (.int .i64 1))), .a 3 (.mv (.t 7))] [6, 7, 12] [])))
def dendronlaw19_Size : R.Fn := ⟨1, [(.t 2)], (.seq (.reg [] [.a 2 (.mv (.c (.int .i64 0)))] [2] [])
  (.seq (.seq (.reg [] [.a 3 (.mv (.c (.int .i64 0)))] [] [])
  (.block 0 (.loop [] [] dendronlaw19_Size.b0)))
  (.seq (.reg [] [.a 2 (.mv (.c (.int .i64 (-1))))] [0, 3, 5] [])
  .ret)))⟩
def dendronlaw19_Size.hint : R.Hint := { kill := [(0, [2], []), (2, [4], []), (3, [6, 7, 12], []), (4, [5, 8, 9, 10, 11], []), (5, [0, 3, 12, 13], []), (6, [0, 3, 5], [])] }
theorem dendronlaw19_Size.ok : cFn Tryz.prog dendronlaw19_Size.hint Tryz.f8 = some dendronlaw19_Size := by kernel_rfl
def dendronlaw19_awake : R.Fn := ⟨0, [(.t 0)], (.seq (.reg [] [.a 0 (.mv (.c (.bool false)))] [0] [])
  (.seq (.reg [] [.a 4 (.call F.ratio_Of [(.c (.int .i64 0))]), .a 5 (.call F.ratio_Of [(.c (.int .i64 1))]), .a 6 (.call F.ratio_Of [(.c (.int .i64 2))]), .a 7 (.call F.ratio_Of [(.c (.int .i64 5))]), .a 8 (.lit 3 4 [(.bool false), (.sl 1 []), (.sl 1 []), (.bool false), (.sl 1 []), (.sl 1 []), (.bool false), (.sl 1 []), (.sl 1 []), (.bool false), (.sl 1 []), (.sl 1 [])] [(0, 3, (.t 4)), (3, 3, (.t 5)), (6, 3, (.t 6)), (9, 3, (.t 7))]), .a 9 (.call F.game_Shapley [(.t 8)]), .a 3 (.mv (.t 9)), .a 10 (.ext (.t 3) 0), .a 11 (.ext (.t 3) 1), .a 1 (.mv (.t 10)), .a 2 (.mv (.t 11))] [3, 4, 5, 6, 7, 8, 9, 10, 11] [])
  (.seq (.reg [] [.a 12 (.mv (.t 2)), .a 13 (.bin .eql (.t 12) (.c (.int .i64 0))), .a 14 (.mv (.t 13)), .g 15 14 true (.mv (.t 1)), .g 16 14 true (.ln (.t 15)), .g 17 14 true (.bin .eql (.t 16) (.c (.int .i64 2))), .a 18 (.pick (.t 14) (.t 17) (.c (.bool false))), .a 19 (.mv (.t 18)), .g 20 19 true (.mv (.t 1)), .g 21 19 true (.iA 3 (.t 20) (.c (.int .i64 0))), .g 22 19 true (.ld 3 true (.t 21)), .g 23 19 true (.call F.ratio_Of [(.c (.int .i64 2))]), .g 24 19 true (.call F.ratio_Same [(.t 22), (.t 23)]), .a 25 (.pick (.t 19) (.t 24) (.c (.bool false))), .a 26 (.mv (.t 25)), .g 27 26 true (.mv (.t 1)), .g 28 26 true (.iA 3 (.t 27) (.c (.int .i64 1))), .g 29 26 true (.ld 3 true (.t 28)), .g 30 26 true (.call F.ratio_Of [(.c (.int .i64 3))]), .g 31 26 true (.call F.ratio_Same [(.t 29), (.t 30)]), .a 32 (.pick (.t 26) (.t 31) (.c (.bool false))), .a 0 (.mv (.t 32))] [1, 2, 12, 13, 14, 15, 16, 17, 18, 19, 20, 21, 22, 23, 24, 25, 26, 27, 28, 29, 30, 31, 32] [])
  .ret)))⟩
def dendronlaw19_awake.hint : R.Hint := { kill := [(0, [0], []), (1, [3, 4, 5, 6, 7, 8, 9, 10, 11], []), (2, [1, 2, 12, 13, 14, 15, 16, 17, 18, 19, 20, 21, 22, 23, 24, 25, 26, 27, 28, 29, 30, 31, 32], [])] }
theorem dendronlaw19_awake.ok : cFn Tryz.prog dendronlaw19_awake.hint Tryz.f9 = some dendronlaw19_awake := by kernel_rfl
def dendronlaw15_Shapley.b2 : R.C := (.seq (.seq (.reg [] [.a 30 (.mv (.t 14)), .a 31 (.mv (.t 1)), .a 32 (.call F.dendronlaw15_two [(.t 31)]), .a 33 (.bin .lss (.t 30) (.t 32)), .a 34 (.mv (.t 33)), .g 35 34 true (.mv (.t 12)), .g 36 34 true (.mv (.t 2)), .g 37 34 true (.bin .neq (.t 35) (.t 36)), .a 38 (.pick (.t 34) (.t 37) (.c (.bool false)))] [30, 31, 32, 33, 34, 35, 36, 37] [])
  (.cond (.t 38) .skip (.exit 2)))
  (.seq (.block 3 (.seq (.seq (.reg [] [.a 41 (.mv (.t 14)), .a 42 (.mv (.t 12)), .a 43 (.call F.dendronlaw15_in [(.t 41), (.t 42)]), .a 44 (.mv (.t 43)), .g 45 44 false (.mv (.t 2)), .g 46 44 false (.bin .geq (.t 45) (.c (.int .i64 0))), .g 47 44 false (.mv (.t 46)), .g 48 47 true (.mv (.t 14)), .g 49 47 true (.mv (.t 2)), .g 50 47 true (.call F.dendronlaw15_in [(.t 48), (.t 49)]), .g 51 47 true (.mv (.t 3)), .g 52 47 true (.beq true (.t 50) (.t 51)), .g 53 44 false (.pick (.t 47) (.t 52) (.c (.bool false))), .a 54 (.pick (.t 44) (.c (.bool true)) (.t 53))] [38, 41, 42, 43, 44, 45, 46, 47, 48, 49, 50, 51, 52, 53] [])
  (.cond (.t 54) (.exit 3) .skip))
  (.seq (.reg [] [.a 55 (.mv (.t 14)), .a 56 (.mv (.t 1)), .a 57 (.call F.dendronlaw15_size [(.t 55), (.t 56)]), .a 15 (.mv (.t 57))] [54, 55, 56, 57] [])
  (.seq (.seq (.reg [] [.a 58 (.mv (.t 2)), .a 59 (.bin .geq (.t 58) (.c (.int .i64 0))), .a 60 (.mv (.t 59)), .g 61 60 true (.mv (.t 3)), .a 62 (.pick (.t 60) (.t 61) (.c (.bool false)))] [58, 59, 60, 61] [])
  (.cond (.t 62) (.reg [] [.a 63 (.mv (.t 15)), .a 64 (.bin .sub (.t 63) (.c (.int .i64 1))), .a 15 (.mv (.t 64))] [62, 63, 64] []) .skip))
  (.seq (.reg [] [.a 66 (.mv (.t 9)), .a 67 (.mv (.t 15)), .a 68 (.mv (.t 10)), .a 69 (.callk F.dendron_weigh_Table_Weight [(true, (.t 66)), (false, (.t 67)), (false, (.t 68))]), .a 65 (.mv (.t 69)), .a 70 (.ext (.t 65) 0), .a 71 (.ext (.t 65) 1), .a 16 (.new [(.bool false), (.sl 1 []), (.sl 1 [])]), .n (.st 3 (.t 16) (.t 70)), .a 17 (.mv (.t 71))] [15, 17, 62, 65, 66, 67, 68, 69, 70, 71] [69, 1069, 2069, 3069])
  (.reg [55834574861, 68719476752] [.a 72 (.ld 3 true (.t 13)), .a 73 (.ld 3 true (.t 16)), .a 74 (.mv (.t 0)), .a 75 (.mv (.t 14)), .a 76 (.mv (.t 12)), .a 77 (.call F.dendronlaw15_two [(.t 76)]), .a 78 (.bin .add (.t 75) (.t 77)), .a 79 (.iA 3 (.t 74) (.t 78)), .a 80 (.ld 3 true (.t 79)), .a 81 (.mv (.t 0)), .a 82 (.mv (.t 14)), .a 83 (.iA 3 (.t 81) (.t 82)), .a 84 (.ld 3 true (.t 83)), .a 85 (.call F.ratio_Sub [(.t 80), (.t 84)]), .a 86 (.call F.ratio_Mul [(.t 73), (.t 85)]), .a 87 (.call F.ratio_Add [(.t 72), (.t 86)]), .n (.st 3 (.t 13) (.t 87))] [16, 72, 73, 74, 75, 76, 77, 78, 79, 80, 81, 82, 83, 84, 85, 86, 87] [16]))))))
  (.reg [] [.a 39 (.mv (.t 14)), .a 40 (.bin .add (.t 39) (.c (.int .i64 1))), .a 14 (.mv (.t 40))] [39, 40, 54] [])))
def dendronlaw15_Shapley.b0 : R.C := (.seq (.seq (.reg [] [.a 24 (.mv (.t 12)), .a 25 (.mv (.t 1)), .a 26 (.bin .lss (.t 24) (.t 25))] [24, 25] [])
  (.cond (.t 26) .skip (.exit 0)))
  (.seq (.block 1 (.seq (.reg [] [.a 29 (.call F.ratio_Zero []), .a 13 (.new [(.bool false), (.sl 1 []), (.sl 1 [])]), .n (.st 3 (.t 13) (.t 29))] [26, 29] [])
  (.seq (.seq (.reg [] [.a 14 (.mv (.c (.int .i64 0)))] [] [])
  (.block 2 (.loop [] [] dendronlaw15_Shapley.b2)))
  (.reg [] [.a 88 (.mv (.t 11)), .a 89 (.ld 3 true (.t 13)), .a 90 (.lit 3 1 [(.bool false), (.sl 1 []), (.sl 1 [])] [(0, 3, (.t 89))]), .a 91 (.app 3 56 (.t 88) (.t 90)), .a 11 (.mv (.t 91))] [13, 14, 38, 88, 89, 90, 91] [13]))))
  (.reg [] [.a 27 (.mv (.t 12)), .a 28 (.bin .add (.t 27) (.c (.int .i64 1))), .a 12 (.mv (.t 28))] [27, 28] [])))
def dendronlaw15_Shapley : R.Fn := ⟨4, [(.t 8)], (.seq (.reg [] [.a 8 (.mv (.c (.sl 3 [])))] [8] [])
  (.seq (.reg [] [.a 18 (.callk F.weigh_New []), .a 9 (.mv (.t 18))] [18] [])
  (.seq (.reg [] [.a 19 (.mv (.t 1)), .a 10 (.mv (.t 19))] [19] [])
  (.seq (.seq (.reg [] [.a 20 (.mv (.t 2)), .a 21 (.bin .geq (.t 20) (.c (.int .i64 0)))] [20] [])
  (.cond (.t 21) (.reg [] [.a 22 (.mv (.t 1)), .a 23 (.bin .sub (.t 22) (.c (.int .i64 1))), .a 10 (.mv (.t 23))] [21, 22, 23] []) .skip))
  (.seq (.reg [] [.a 11 (.nil 3)] [21] [])
  (.seq (.seq (.reg [] [.a 12 (.mv (.c (.int .i64 0)))] [] [])
  (.block 0 (.loop [] [] dendronlaw15_Shapley.b0)))
  (.seq (.reg [] [.a 92 (.mv (.t 11)), .a 8 (.mv (.t 92))] [0, 1, 2, 3, 9, 10, 11, 12, 26, 92] [18])
  .ret)))))))⟩
def dendronlaw15_Shapley.hint : R.Hint := { nil := [11], callk := [(18, []), (69, [true, false, false])], pub := [(18, [55834574861, 68719476752])], kill := [(0, [8], []), (1, [18], []), (2, [19], []), (3, [20], []), (4, [21, 22, 23], []), (5, [21], []), (7, [24, 25], []), (8, [27, 28], []), (9, [26, 29], []), (11, [30, 31, 32, 33, 34, 35, 36, 37], []), (12, [39, 40, 54], []), (13, [38, 41, 42, 43, 44, 45, 46, 47, 48, 49, 50, 51, 52, 53], []), (14, [54, 55, 56, 57], []), (15, [58, 59, 60, 61], []), (16, [62, 63, 64], []), (17, [15, 17, 62, 65, 66, 67, 68, 69, 70, 71], [69, 1069, 2069, 3069]), (18, [16, 72, 73, 74, 75, 76, 77, 78, 79, 80, 81, 82, 83, 84, 85, 86, 87], [16]), (19, [13, 14, 38, 88, 89, 90, 91], [13]), (20, [0, 1, 2, 3, 9, 10, 11, 12, 26, 92], [18])] }
theorem dendronlaw15_Shapley.ok : cFn Tryz.prog dendronlaw15_Shapley.hint Tryz.f10 = some dendronlaw15_Shapley := by kernel_rfl
def weigh_New : R.Fn := ⟨0, [(.own 0)], (.seq (.reg [] [.a 0 (.mv (.c (.raw (.pointer none))))] [0] [])
  (.seq (.reg [] [.a 1 (.bld [(.int .u32 0), (.int .i32 0), (.int .u32 0), (.sl 2 [])] []), .a 2 (.box (.t 1)), .a 0 (.mv (.t 2))] [1, 2] [])
  .ret))⟩
def weigh_New.hint : R.Hint := { kill := [(0, [0], []), (1, [1, 2], [])], own := true }
theorem weigh_New.ok : cFn Tryz.prog weigh_New.hint Tryz.f11 = some weigh_New := by kernel_rfl
def ratio_Zero : R.Fn := ⟨0, [(.cell 0 3 true)], (.seq (.reg [] [.a 0 (.new [(.bool false), (.sl 1 []), (.sl 1 [])])] [] [])
  (.seq (.reg [] [.a 1 (.call F.nat_Of [(.c (.int .u64 1))]), .a 2 (.bld [(.bool false), (.sl 1 []), (.sl 1 [])] [(2, 1, (.t 1))]), .n (.st 3 (.t 0) (.t 2))] [1, 2] [])
  .ret))⟩
def ratio_Zero.hint : R.Hint := { kill := [(1, [1, 2], [])] }
theorem ratio_Zero.ok : cFn Tryz.prog ratio_Zero.hint Tryz.f12 = some ratio_Zero := by kernel_rfl
def dendronref19_In.b0 : R.C := (.seq (.seq (.reg [] [.a 6 (.mv (.t 5)), .a 7 (.mv (.t 1)), .a 8 (.bin .lss (.t 6) (.t 7))] [6, 7] [])
  (.cond (.t 8) .skip (.exit 0)))
  (.seq (.block 1 (.reg [] [.a 11 (.mv (.t 0)), .a 12 (.bin .quo (.t 11) (.c (.int .i64 2))), .a 0 (.mv (.t 12))] [8, 11, 12] []))
  (.reg [] [.a 9 (.mv (.t 5)), .a 10 (.bin .add (.t 9) (.c (.int .i64 1))), .a 5 (.mv (.t 10))] [9, 10] [])))
def dendronref19_In : R.Fn := ⟨2, [(.t 4)], (.seq (.reg [] [.a 4 (.mv (.c (.bool false)))] [4] [])
  (.seq (.seq (.reg [] [.a 5 (.mv (.c (.int .i64 0)))] [] [])
  (.block 0 (.loop [] [] dendronref19_In.b0)))
  (.seq (.reg [] [.a 13 (.mv (.t 0)), .a 14 (.bin .rem (.t 13) (.c (.int .i64 2))), .a 15 (.bin .eql (.t 14) (.c (.int .i64 1))), .a 4 (.mv (.t 15))] [0, 1, 5, 8, 13, 14, 15] [])
  .ret)))⟩
def dendronref19_In.hint : R.Hint := { kill := [(0, [4], []), (2, [6, 7], []), (3, [9, 10], []), (4, [8, 11, 12], []), (5, [0, 1, 5, 8, 13, 14, 15], [])] }
theorem dendronref19_In.ok : cFn Tryz.prog dendronref19_In.hint Tryz.f13 = some dendronref19_In := by kernel_rfl
def dendron_weigh_Table_Pair : R.Fn := ⟨3, [(.cell 6 3 true), (.t 7)], (.seq (.reg [] [.a 6 (.new [(.bool false), (.sl 1 []), (.sl 1 [])]), .a 7 (.mv (.c (.int .i64 0)))] [7] [])
  (.seq (.block 0 (.seq (.reg [] [.a 9 (.mv (.t 0)), .a 10 (.pnil false (.t 9)), .a 8 (.mv (.t 10))] [9, 10] [])
  (.cond (.t 8) (.seq (.reg [] [.a 11 (.bld [(.bool false), (.raw (.slice none 0 0)), (.raw (.slice none 0 0))] []), .n (.st 3 (.t 6) (.t 11)), .a 7 (.mv (.c (.int .i64 18)))] [0, 1, 2, 8, 11] [])
  .ret) (.seq (.reg [] [.a 13 (.mv (.t 2)), .a 14 (.bin .lss (.t 13) (.c (.int .i64 2))), .a 15 (.mv (.t 14)), .g 16 15 false (.mv (.t 2)), .g 17 15 false (.bin .gtr (.t 16) (.c (.int .i64 64))), .a 18 (.pick (.t 15) (.c (.bool true)) (.t 17)), .a 19 (.mv (.t 18)), .g 20 19 false (.mv (.t 1)), .g 21 19 false (.bin .lss (.t 20) (.c (.int .i64 0))), .a 22 (.pick (.t 19) (.c (.bool true)) (.t 21)), .a 23 (.mv (.t 22)), .g 24 23 false (.mv (.t 1)), .g 25 23 false (.mv (.t 2)), .g 26 23 false (.bin .sub (.t 25) (.c (.int .i64 2))), .g 27 23 false (.bin .gtr (.t 24) (.t 26)), .a 28 (.pick (.t 23) (.c (.bool true)) (.t 27)), .a 12 (.mv (.t 28))] [8, 13, 14, 15, 16, 17, 18, 19, 20, 21, 22, 23, 24, 25, 26, 27, 28] [])
  (.cond (.t 12) (.seq (.reg [] [.a 29 (.bld [(.bool false), (.raw (.slice none 0 0)), (.raw (.slice none 0 0))] []), .n (.st 3 (.t 6) (.t 29)), .a 7 (.mv (.c (.int .i64 8)))] [0, 1, 2, 12, 29] [])
  .ret) .skip)))))
  (.seq (.reg [] [.a 30 (.mv (.t 0)), .a 31 (.mv (.t 1)), .a 32 (.mv (.t 2)), .a 33 (.mv (.t 1)), .a 34 (.bin .sub (.t 32) (.t 33)), .a 35 (.bin .sub (.t 34) (.c (.int .i64 2))), .a 36 (.mv (.t 2)), .a 37 (.bin .sub (.t 36) (.c (.int .i64 1))), .a 38 (.callh F.dendron_weigh_Table_quotient [(true, (.t 30)), (false, (.t 31)), (false, (.t 35)), (false, (.t 37))]), .a 39 (.callc F.ratio_Frac [(.c (.int .i64 1)), (.c (.int .i64 2))]), .a 40 (.callc F.ratio_Mul [(.t 38), (.t 39)]), .n (.st 3 (.t 6) (.t 40)), .a 7 (.mv (.c (.int .i64 0)))] [0, 1, 2, 12, 30, 31, 32, 33, 34, 35, 36, 37, 38, 39, 40] [])
  .ret)))⟩
def dendron_weigh_Table_Pair.hint : R.Hint := { kill := [(0, [7], []), (1, [9, 10], []), (2, [0, 1, 2, 8, 11], []), (3, [8, 13, 14, 15, 16, 17, 18, 19, 20, 21, 22, 23, 24, 25, 26, 27, 28], []), (4, [0, 1, 2, 12, 29], []), (5, [0, 1, 2, 12, 30, 31, 32, 33, 34, 35, 36, 37, 38, 39, 40], [])], heap := true, callh := [(38, [true, false, false, false])], rawnil := [11, 29] }
theorem dendron_weigh_Table_Pair.ok : cFn Tryz.prog dendron_weigh_Table_Pair.hint Tryz.f14 = some dendron_weigh_Table_Pair := by kernel_rfl
def dendronlaw19_Count.b0 : R.C := (.seq (.seq (.reg [] [.a 7 (.mv (.t 6)), .a 8 (.mv (.t 1)), .a 9 (.bin .lss (.t 7) (.t 8))] [7, 8] [])
  (.cond (.t 9) .skip (.exit 0)))
  (.seq (.block 1 (.seq (.reg [] [.a 12 (.mv (.t 0)), .a 13 (.mv (.t 6)), .a 14 (.call F.dendronref19_In [(.t 12), (.t 13)])] [9, 12, 13] [])
  (.cond (.t 14) (.reg [] [.a 15 (.mv (.t 5)), .a 16 (.bin .add (.t 15) (.c (.int .i64 1))), .a 5 (.mv (.t 16))] [14, 15, 16] []) .skip)))
  (.reg [] [.a 10 (.mv (.t 6)), .a 11 (.bin .add (.t 10) (.c (.int .i64 1))), .a 6 (.mv (.t 11))] [10, 11, 14] [])))
def dendronlaw19_Count : R.Fn := ⟨2, [(.t 4)], (.seq (.reg [] [.a 4 (.mv (.c (.int .i64 0)))] [4] [])
  (.seq (.reg [] [.a 5 (.mv (.c (.int .i64 0)))] [] [])
  (.seq (.seq (.reg [] [.a 6 (.mv (.c (.int .i64 0)))] [] [])
  (.block 0 (.loop [] [] dendronlaw19_Count.b0)))
  (.seq (.reg [] [.a 17 (.mv (.t 5)), .a 4 (.mv (.t 17))] [0, 1, 5, 6, 9, 17] [])
  .ret))))⟩
def dendronlaw19_Count.hint : R.Hint := { kill := [(0, [4], []), (3, [7, 8], []), (4, [10, 11, 14], []), (5, [9, 12, 13], []), (6, [14, 15, 16], []), (7, [0, 1, 5, 6, 9, 17], [])] }
theorem dendronlaw19_Count.ok : cFn Tryz.prog dendronlaw19_Count.hint Tryz.f15 = some dendronlaw19_Count := by kernel_rfl
def ratio_Add : R.Fn := ⟨2, [(.cell 4 3 true)], (.seq (.reg [] [.a 2 (.box (.t 0)), .a 3 (.box (.t 1)), .a 4 (.new [(.bool false), (.sl 1 []), (.sl 1 [])])] [0, 1] [])
  (.seq (.reg [] [.a 5 (.ld 3 true (.t 2)), .a 6 (.call F.ratio_Clean [(.t 5)]), .a 7 (.ld 3 true (.t 3)), .a 8 (.call F.ratio_Clean [(.t 7)]), .n (.st 3 (.t 2) (.t 6)), .n (.st 3 (.t 3) (.t 8))] [5, 6, 7, 8] [])
  (.seq (.reg [] [.a 9 (.fA 0 (.t 2)), .a 10 (.ld 2 true (.t 9)), .a 11 (.ld 3 true (.t 3)), .a 12 (.call F.ratio_den [(.t 11)]), .a 13 (.call F.whole_Mul [(.t 10), (.t 12)]), .a 14 (.fA 0 (.t 3)), .a 15 (.ld 2 true (.t 14)), .a 16 (.ld 3 true (.t 2)), .a 17 (.call F.ratio_den [(.t 16)]), .a 18 (.call F.whole_Mul [(.t 15), (.t 17)]), .a 19 (.call F.whole_Add [(.t 13), (.t 18)]), .a 20 (.fA 2 (.t 2)), .a 21 (.ld 1 false (.t 20)), .a 22 (.fA 2 (.t 3)), .a 23 (.ld 1 false (.t 22)), .a 24 (.call F.nat_Mul [(.t 21), (.t 23)]), .a 25 (.call F.ratio_form [(.t 19), (.t 24)]), .n (.st 3 (.t 4) (.t 25))] [2, 3, 9, 10, 11, 12, 13, 14, 15, 16, 17, 18, 19, 20, 21, 22, 23, 24, 25] [2, 3])
  .ret)))⟩
def ratio_Add.hint : R.Hint := { kill := [(0, [0, 1], []), (1, [5, 6, 7, 8], []), (2, [2, 3, 9, 10, 11, 12, 13, 14, 15, 16, 17, 18, 19, 20, 21, 22, 23, 24, 25], [2, 3])] }
theorem ratio_Add.ok : cFn Tryz.prog ratio_Add.hint Tryz.f16 = some ratio_Add := by kernel_rfl
def dendronlaw19_two.b0 : R.C := (.seq (.seq (.reg [] [.a 5 (.mv (.t 4)), .a 6 (.mv (.t 0)), .a 7 (.bin .lss (.t 5) (.t 6))] [5, 6] [])
  (.cond (.t 7) .skip (.exit 0)))
  (.seq (.block 1 (.reg [] [.a 10 (.mv (.t 3)), .a 11 (.bin .mul (.c (.int .i64 2)) (.t 10)), .a 3 (.mv (.t 11))] [7, 10, 11] []))
  (.reg [] [.a 8 (.mv (.t 4)), .a 9 (.bin .add (.t 8) (.c (.int .i64 1))), .a 4 (.mv (.t 9))] [8, 9] [])))
def dendronlaw19_two : R.Fn := ⟨1, [(.t 2)], (.seq (.reg [] [.a 2 (.mv (.c (.int .i64 0)))] [2] [])
  (.seq (.reg [] [.a 3 (.mv (.c (.int .i64 1)))] [] [])
  (.seq (.seq (.reg [] [.a 4 (.mv (.c (.int .i64 0)))] [] [])
  (.block 0 (.loop [] [] dendronlaw19_two.b0)))
  (.seq (.reg [] [.a 12 (.mv (.t 3)), .a 2 (.mv (.t 12))] [0, 3, 4, 7, 12] [])
  .ret))))⟩
def dendronlaw19_two.hint : R.Hint := { kill := [(0, [2], []), (3, [5, 6], []), (4, [8, 9], []), (5, [7, 10, 11], []), (6, [0, 3, 4, 7, 12], [])] }
theorem dendronlaw19_two.ok : cFn Tryz.prog dendronlaw19_two.hint Tryz.f17 = some dendronlaw19_two := by kernel_rfl
def ratio_Mul : R.Fn := ⟨2, [(.cell 4 3 true)], (.seq (.reg [] [.a 2 (.box (.t 0)), .a 3 (.box (.t 1)), .a 4 (.new [(.bool false), (.sl 1 []), (.sl 1 [])])] [0, 1] [])
  (.seq (.reg [] [.a 5 (.ld 3 true (.t 2)), .a 6 (.call F.ratio_Clean [(.t 5)]), .a 7 (.ld 3 true (.t 3)), .a 8 (.call F.ratio_Clean [(.t 7)]), .n (.st 3 (.t 2) (.t 6)), .n (.st 3 (.t 3) (.t 8))] [5, 6, 7, 8] [])
  (.seq (.reg [] [.a 9 (.fA 0 (.t 2)), .a 10 (.ld 2 true (.t 9)), .a 11 (.fA 0 (.t 3)), .a 12 (.ld 2 true (.t 11)), .a 13 (.call F.whole_Mul [(.t 10), (.t 12)]), .a 14 (.fA 2 (.t 2)), .a 15 (.ld 1 false (.t 14)), .a 16 (.fA 2 (.t 3)), .a 17 (.ld 1 false (.t 16)), .a 18 (.call F.nat_Mul [(.t 15), (.t 17)]), .a 19 (.call F.ratio_form [(.t 13), (.t 18)]), .n (.st 3 (.t 4) (.t 19))] [2, 3, 9, 10, 11, 12, 13, 14, 15, 16, 17, 18, 19] [2, 3])
  .ret)))⟩
def ratio_Mul.hint : R.Hint := { kill := [(0, [0, 1], []), (1, [5, 6, 7, 8], []), (2, [2, 3, 9, 10, 11, 12, 13, 14, 15, 16, 17, 18, 19], [2, 3])] }
theorem ratio_Mul.ok : cFn Tryz.prog ratio_Mul.hint Tryz.f18 = some ratio_Mul := by kernel_rfl
def ratio_Sub : R.Fn := ⟨2, [(.cell 4 3 true)], (.seq (.reg [] [.a 2 (.box (.t 0)), .a 3 (.box (.t 1)), .a 4 (.new [(.bool false), (.sl 1 []), (.sl 1 [])])] [0, 1] [])
  (.seq (.reg [] [.a 5 (.ld 3 true (.t 2)), .a 6 (.ld 3 true (.t 3)), .a 7 (.call F.ratio_Neg [(.t 6)]), .a 8 (.call F.ratio_Add [(.t 5), (.t 7)]), .n (.st 3 (.t 4) (.t 8))] [2, 3, 5, 6, 7, 8] [2, 3])
  .ret))⟩
def ratio_Sub.hint : R.Hint := { kill := [(0, [0, 1], []), (1, [2, 3, 5, 6, 7, 8], [2, 3])] }
theorem ratio_Sub.ok : cFn Tryz.prog ratio_Sub.hint Tryz.f19 = some ratio_Sub := by kernel_rfl
def ratio_Right : R.Fn := ⟨1, [(.t 2)], (.seq (.reg [] [.a 1 (.box (.t 0)), .a 2 (.mv (.c (.bool false)))] [0, 2] [])
  (.seq (.seq (.reg [] [.a 4 (.fA 0 (.t 1)), .a 5 (.ld 2 true (.t 4)), .a 6 (.call F.whole_Right [(.t 5)]), .a 7 (.un .not (.t 6)), .a 8 (.mv (.t 7)), .g 9 8 false (.fA 2 (.t 1)), .g 10 8 false (.ld 1 false (.t 9)), .g 11 8 false (.call F.nat_Right [(.t 10)]), .g 12 8 false (.un .not (.t 11)), .a 13 (.pick (.t 8) (.c (.bool true)) (.t 12)), .a 14 (.mv (.t 13)), .g 15 14 false (.fA 2 (.t 1)), .g 16 14 false (.ld 1 false (.t 15)), .g 17 14 false (.ln (.t 16)), .g 18 14 false (.bin .eql (.t 17) (.c (.int .i64 0))), .a 19 (.pick (.t 14) (.c (.bool true)) (.t 18))] [4, 5, 6, 7, 8, 9, 10, 11, 12, 13, 14, 15, 16, 17, 18] [])
  (.cond (.t 19) (.seq (.reg [] [.a 2 (.mv (.c (.bool false)))] [1, 19] [1])
  .ret) .skip))
  (.seq (.reg [] [.a 20 (.fA 0 (.t 1)), .a 21 (.fA 1 (.t 20)), .a 22 (.ld 1 false (.t 21)), .a 23 (.fA 2 (.t 1)), .a 24 (.ld 1 false (.t 23)), .a 25 (.call F.nat_Gcd [(.t 22), (.t 24)]), .a 3 (.mv (.t 25))] [1, 19, 20, 21, 22, 23, 24, 25] [1])
  (.seq (.reg [] [.a 26 (.mv (.t 3)), .a 27 (.call F.nat_Of [(.c (.int .u64 1))]), .a 28 (.call F.nat_Cmp [(.t 26), (.t 27)]), .a 29 (.bin .eql (.t 28) (.c (.int .i64 0))), .a 2 (.mv (.t 29))] [3, 26, 27, 28, 29] [])
  .ret))))⟩
def ratio_Right.hint : R.Hint := { kill := [(0, [0, 2], []), (1, [4, 5, 6, 7, 8, 9, 10, 11, 12, 13, 14, 15, 16, 17, 18], []), (2, [1, 19], [1]), (3, [1, 19, 20, 21, 22, 23, 24, 25], [1]), (4, [3, 26, 27, 28, 29], [])] }
theorem ratio_Right.ok : cFn Tryz.prog ratio_Right.hint Tryz.f20 = some ratio_Right := by kernel_rfl
def ratio_Same : R.Fn := ⟨2, [(.t 4)], (.seq (.reg [] [.a 2 (.box (.t 0)), .a 3 (.box (.t 1)), .a 4 (.mv (.c (.bool false)))] [0, 1, 4] [])
  (.seq (.reg [] [.a 5 (.ld 3 true (.t 2)), .a 6 (.ld 3 true (.t 3)), .a 7 (.call F.ratio_Cmp [(.t 5), (.t 6)]), .a 8 (.bin .eql (.t 7) (.c (.int .i64 0))), .a 4 (.mv (.t 8))] [2, 3, 5, 6, 7, 8] [2, 3])
  .ret))⟩
def ratio_Same.hint : R.Hint := { kill := [(0, [0, 1, 4], []), (1, [2, 3, 5, 6, 7, 8], [2, 3])] }
theorem ratio_Same.ok : cFn Tryz.prog ratio_Same.hint Tryz.f21 = some ratio_Same := by kernel_rfl
def game_Shapley.b2 : R.C := (.seq (.reg [] [.a 36 (.bin .lss (.t 35) (.t 34))] [] [])
  (.seq (.cond (.t 36) .skip (.exit 2))
  (.seq (.block 3 (.seq (.reg [] [.a 37 (.mv (.t 35)), .a 11 (.mv (.t 37))] [36, 37] [])
  (.seq (.reg [] [.a 38 (.mv (.t 11)), .a 39 (.mv (.t 9)), .a 40 (.bin .shr (.t 38) (.t 39)), .a 41 (.bin .and (.t 40) (.c (.int .i64 1))), .a 42 (.bin .eql (.t 41) (.c (.int .i64 0)))] [38, 39, 40, 41] [])
  (.cond (.t 42) (.seq (.reg [] [.a 43 (.mv (.t 0)), .a 44 (.mv (.t 11)), .a 45 (.mv (.t 9)), .a 46 (.bin .shl (.c (.int .i64 1)) (.t 45)), .a 47 (.bin .or (.t 44) (.t 46)), .a 48 (.iA 3 (.t 43) (.t 47)), .a 49 (.ld 3 true (.t 48)), .a 50 (.mv (.t 0)), .a 51 (.mv (.t 11)), .a 52 (.iA 3 (.t 50) (.t 51)), .a 53 (.ld 3 true (.t 52)), .a 54 (.call F.ratio_Sub [(.t 49), (.t 53)]), .a 12 (.new [(.bool false), (.sl 1 []), (.sl 1 [])]), .n (.st 3 (.t 12) (.t 54))] [42, 43, 44, 45, 46, 47, 48, 49, 50, 51, 52, 53, 54] [])
  (.reg [42949672970, 51539607564] [.a 55 (.ld 3 true (.t 10)), .a 56 (.mv (.t 6)), .a 57 (.mv (.t 11)), .a 58 (.conv .u64 (.t 57)), .a 59 (.call F.bits_OnesCount [(.t 58)]), .a 60 (.iA 3 (.t 56) (.t 59)), .a 61 (.ld 3 true (.t 60)), .a 62 (.ld 3 true (.t 12)), .a 63 (.call F.ratio_Mul [(.t 61), (.t 62)]), .a 64 (.call F.ratio_Add [(.t 55), (.t 63)]), .n (.st 3 (.t 10) (.t 64))] [11, 12, 55, 56, 57, 58, 59, 60, 61, 62, 63, 64] [12])) .skip))))
  (.reg [] [.a 65 (.bin .add (.t 35) (.c (.int .i64 1))), .a 35 (.mv (.t 65))] [11, 42, 65] []))))
def game_Shapley.b0 : R.C := (.seq (.reg [] [.a 30 (.bin .lss (.t 29) (.t 28))] [] [])
  (.seq (.cond (.t 30) .skip (.exit 0))
  (.seq (.block 1 (.seq (.reg [] [.a 31 (.mv (.t 29)), .a 9 (.mv (.t 31))] [30, 31] [])
  (.seq (.reg [] [.a 32 (.call F.ratio_Zero []), .a 10 (.new [(.bool false), (.sl 1 []), (.sl 1 [])]), .n (.st 3 (.t 10) (.t 32))] [32] [])
  (.seq (.seq (.reg [] [.a 33 (.mv (.t 0)), .a 34 (.ln (.t 33)), .a 35 (.mv (.c (.int .i64 0)))] [33] [])
  (.block 2 (.loop [] [] game_Shapley.b2)))
  (.reg [] [.a 66 (.mv (.t 8)), .a 67 (.ld 3 true (.t 10)), .a 68 (.lit 3 1 [(.bool false), (.sl 1 []), (.sl 1 [])] [(0, 3, (.t 67))]), .a 69 (.app 3 56 (.t 66) (.t 68)), .a 8 (.mv (.t 69))] [9, 10, 34, 35, 36, 66, 67, 68, 69] [10])))))
  (.reg [] [.a 70 (.bin .add (.t 29) (.c (.int .i64 1))), .a 29 (.mv (.t 70))] [70] []))))
def game_Shapley : R.Fn := ⟨1, [(.t 2), (.t 3)], (.seq (.reg [] [.a 2 (.mv (.c (.sl 3 []))), .a 3 (.mv (.c (.int .i64 0)))] [2, 3] [])
  (.seq (.reg [] [.a 14 (.mv (.t 0)), .a 15 (.call F.game_Players [(.t 14)]), .a 13 (.mv (.t 15)), .a 16 (.ext (.t 13) 0), .a 17 (.ext (.t 13) 1), .a 4 (.mv (.t 16)), .a 5 (.mv (.t 17))] [13, 14, 15, 16, 17] [])
  (.seq (.seq (.reg [] [.a 18 (.mv (.t 5)), .a 19 (.un .not (.t 18))] [5, 18] [])
  (.cond (.t 19) (.seq (.reg [] [.a 2 (.mv (.c (.sl 3 []))), .a 3 (.mv (.c (.int .i64 1)))] [0, 4, 19] [])
  .ret) .skip))
  (.seq (.seq (.reg [] [.a 20 (.mv (.t 4)), .a 21 (.bin .eql (.t 20) (.c (.int .i64 0)))] [19, 20] [])
  (.cond (.t 21) (.seq (.reg [] [.a 2 (.mv (.c (.sl 3 []))), .a 3 (.mv (.c (.int .i64 0)))] [0, 4, 21] [])
  .ret) .skip))
  (.seq (.reg [] [.a 23 (.callk F.weigh_New []), .a 24 (.mv (.t 4)), .a 25 (.callk F.dendron_weigh_Table_All [(true, (.t 23)), (false, (.t 24))]), .a 22 (.mv (.t 25)), .a 26 (.ext (.t 22) 0), .a 27 (.ext (.t 22) 1), .a 6 (.mv (.t 26)), .a 7 (.mv (.t 27))] [7, 21, 22, 23, 24, 25, 26, 27] [])
  (.seq (.reg [] [.a 8 (.nil 3)] [] [])
  (.seq (.seq (.reg [] [.a 28 (.mv (.t 4)), .a 29 (.mv (.c (.int .i64 0)))] [4] [])
  (.block 0 (.loop [] [] game_Shapley.b0)))
  (.seq (.reg [] [.a 71 (.mv (.t 8)), .a 2 (.mv (.t 71)), .a 3 (.mv (.c (.int .i64 0)))] [0, 6, 8, 28, 29, 30, 71] [23, 25, 1025, 2025, 3025])
  .ret))))))))⟩
def game_Shapley.hint : R.Hint := { nil := [8], callk := [(23, []), (25, [true, false])], pub := [(17, [42949672970, 51539607564])], kill := [(0, [2, 3], []), (1, [13, 14, 15, 16, 17], []), (2, [5, 18], []), (3, [0, 4, 19], []), (4, [19, 20], []), (5, [0, 4, 21], []), (6, [7, 21, 22, 23, 24, 25, 26, 27], []), (8, [4], []), (10, [30, 31], []), (11, [32], []), (12, [33], []), (14, [36, 37], []), (15, [38, 39, 40, 41], []), (16, [42, 43, 44, 45, 46, 47, 48, 49, 50, 51, 52, 53, 54], []), (17, [11, 12, 55, 56, 57, 58, 59, 60, 61, 62, 63, 64], [12]), (18, [11, 42, 65], []), (19, [9, 10, 34, 35, 36, 66, 67, 68, 69], [10]), (20, [70], []), (21, [0, 6, 8, 28, 29, 30, 71], [23, 25, 1025, 2025, 3025])] }
theorem game_Shapley.ok : cFn Tryz.prog game_Shapley.hint Tryz.f27 = some game_Shapley := by kernel_rfl
def dendronlaw19_number : R.Fn := ⟨1, [(.cell 2 3 true)], (.seq (.reg [] [.a 1 (.box (.t 0)), .a 2 (.new [(.bool false), (.sl 1 []), (.sl 1 [])])] [0] [])
  (.seq (.seq (.reg [] [.a 3 (.fA 0 (.t 1)), .a 4 (.fA 1 (.t 3)), .a 5 (.ld 1 false (.t 4)), .a 6 (.ln (.t 5)), .a 7 (.bin .gtr (.t 6) (.c (.int .i64 2)))] [3, 4, 5, 6] [])
  (.cond (.t 7) (.reg [] [.a 8 (.fA 0 (.t 1)), .a 9 (.fA 1 (.t 8)), .a 10 (.ld 1 false (.t 9)), .a 11 (.slc 1 (.t 10) none (some (.c (.int .i64 2)))), .a 12 (.fA 0 (.t 1)), .a 13 (.fA 1 (.t 12)), .n (.st 1 (.t 13) (.t 11))] [7, 8, 9, 10, 11, 12, 13] []) .skip))
  (.seq (.seq (.reg [] [.a 14 (.fA 2 (.t 1)), .a 15 (.ld 1 false (.t 14)), .a 16 (.ln (.t 15)), .a 17 (.bin .gtr (.t 16) (.c (.int .i64 2)))] [7, 14, 15, 16] [])
  (.cond (.t 17) (.reg [] [.a 18 (.fA 2 (.t 1)), .a 19 (.ld 1 false (.t 18)), .a 20 (.slc 1 (.t 19) none (some (.c (.int .i64 2)))), .a 21 (.fA 2 (.t 1)), .n (.st 1 (.t 21) (.t 20))] [17, 18, 19, 20, 21] []) .skip))
  (.seq (.reg [] [.a 22 (.ld 3 true (.t 1)), .n (.st 3 (.t 2) (.t 22))] [1, 17, 22] [1])
  .ret))))⟩
def dendronlaw19_number.hint : R.Hint := { kill := [(0, [0], []), (1, [3, 4, 5, 6], []), (2, [7, 8, 9, 10, 11, 12, 13], []), (3, [7, 14, 15, 16], []), (4, [17, 18, 19, 20, 21], []), (5, [1, 17, 22], [1])] }
theorem dendronlaw19_number.ok : cFn Tryz.prog dendronlaw19_number.hint Tryz.f30 = some dendronlaw19_number := by kernel_rfl
def game_Players : R.Fn := ⟨1, [(.t 2), (.t 3)], (.seq (.reg [] [.a 2 (.mv (.c (.int .i64 0))), .a 3 (.mv (.c (.bool false)))] [2, 3] [])
  (.seq (.reg [] [.a 5 (.mv (.t 0)), .a 6 (.ln (.t 5)), .a 7 (.conv .u64 (.t 6)), .a 8 (.call F.bits_Len [(.t 7)]), .a 9 (.bin .sub (.t 8) (.c (.int .i64 1))), .a 4 (.mv (.t 9))] [5, 6, 7, 8, 9] [])
  (.seq (.seq (.reg [] [.a 10 (.mv (.t 0)), .a 11 (.ln (.t 10)), .a 12 (.bin .eql (.t 11) (.c (.int .i64 0))), .a 13 (.mv (.t 12)), .g 14 13 false (.mv (.t 0)), .g 15 13 false (.ln (.t 14)), .g 16 13 false (.mv (.t 4)), .g 17 13 false (.bin .shl (.c (.int .i64 1)) (.t 16)), .g 18 13 false (.bin .neq (.t 15) (.t 17)), .a 19 (.pick (.t 13) (.c (.bool true)) (.t 18)), .a 20 (.mv (.t 19)), .g 21 20 false (.mv (.t 4)), .g 22 20 false (.bin .gtr (.t 21) (.c (.int .i64 12))), .a 23 (.pick (.t 20) (.c (.bool true)) (.t 22))] [0, 10, 11, 12, 13, 14, 15, 16, 17, 18, 19, 20, 21, 22] [])
  (.cond (.t 23) (.seq (.reg [] [.a 2 (.mv (.c (.int .i64 0))), .a 3 (.mv (.c (.bool false)))] [4, 23] [])
  .ret) .skip))
  (.seq (.reg [] [.a 24 (.mv (.t 4)), .a 2 (.mv (.t 24)), .a 3 (.mv (.c (.bool true)))] [4, 23, 24] [])
  .ret))))⟩
def game_Players.hint : R.Hint := { kill := [(0, [2, 3], []), (1, [5, 6, 7, 8, 9], []), (2, [0, 10, 11, 12, 13, 14, 15, 16, 17, 18, 19, 20, 21, 22], []), (3, [4, 23], []), (4, [4, 23, 24], [])] }
theorem game_Players.ok : cFn Tryz.prog game_Players.hint Tryz.f31 = some game_Players := by kernel_rfl
def bits_OnesCount : R.Fn := ⟨1, [(.t 2)], (.seq (.reg [] [.a 2 (.mv (.c (.int .i64 0)))] [2] [])
  (.seq (.cond (.c (.bool false)) (.seq (.reg [] [.a 3 (.mv (.t 0)), .a 4 (.conv .u32 (.t 3)), .a 5 (.call F.bits_OnesCount32 [(.t 4)]), .a 2 (.mv (.t 5))] [0, 3, 4, 5] [])
  .ret) .skip)
  (.seq (.reg [] [.a 6 (.mv (.t 0)), .a 7 (.call F.bits_OnesCount64 [(.t 6)]), .a 2 (.mv (.t 7))] [0, 6, 7] [])
  .ret)))⟩
def bits_OnesCount.hint : R.Hint := { kill := [(0, [2], []), (1, [0, 3, 4, 5], []), (2, [0, 6, 7], [])] }
theorem bits_OnesCount.ok : cFn Tryz.prog bits_OnesCount.hint Tryz.f32 = some bits_OnesCount := by kernel_rfl
def game_cross : R.Fn := ⟨4, [(.cell 8 3 true)], (.seq (.reg [] [.a 8 (.new [(.bool false), (.sl 1 []), (.sl 1 [])])] [] [])
  (.seq (.reg [] [.a 11 (.mv (.t 2)), .a 12 (.bin .shl (.c (.int .i64 1)) (.t 11)), .a 13 (.mv (.t 3)), .a 14 (.bin .shl (.c (.int .i64 1)) (.t 13)), .a 9 (.mv (.t 12)), .a 10 (.mv (.t 14))] [2, 3, 11, 12, 13, 14] [])
  (.seq (.reg [] [.a 15 (.mv (.t 0)), .a 16 (.mv (.t 1)), .a 17 (.mv (.t 9)), .a 18 (.bin .or (.t 16) (.t 17)), .a 19 (.mv (.t 10)), .a 20 (.bin .or (.t 18) (.t 19)), .a 21 (.iA 3 (.t 15) (.t 20)), .a 22 (.ld 3 true (.t 21)), .a 23 (.mv (.t 0)), .a 24 (.mv (.t 1)), .a 25 (.iA 3 (.t 23) (.t 24)), .a 26 (.ld 3 true (.t 25)), .a 27 (.call F.ratio_Add [(.t 22), (.t 26)]), .a 28 (.mv (.t 0)), .a 29 (.mv (.t 1)), .a 30 (.mv (.t 9)), .a 31 (.bin .or (.t 29) (.t 30)), .a 32 (.iA 3 (.t 28) (.t 31)), .a 33 (.ld 3 true (.t 32)), .a 34 (.mv (.t 0)), .a 35 (.mv (.t 1)), .a 36 (.mv (.t 10)), .a 37 (.bin .or (.t 35) (.t 36)), .a 38 (.iA 3 (.t 34) (.t 37)), .a 39 (.ld 3 true (.t 38)), .a 40 (.call F.ratio_Add [(.t 33), (.t 39)]), .a 41 (.call F.ratio_Sub [(.t 27), (.t 40)]), .n (.st 3 (.t 8) (.t 41))] [0, 1, 9, 10, 15, 16, 17, 18, 19, 20, 21, 22, 23, 24, 25, 26, 27, 28, 29, 30, 31, 32, 33, 34, 35, 36, 37, 38, 39, 40, 41] [])
  .ret)))⟩
def game_cross.hint : R.Hint := { kill := [(1, [2, 3, 11, 12, 13, 14], []), (2, [0, 1, 9, 10, 15, 16, 17, 18, 19, 20, 21, 22, 23, 24, 25, 26, 27, 28, 29, 30, 31, 32, 33, 34, 35, 36, 37, 38, 39, 40, 41], [])] }
theorem game_cross.ok : cFn Tryz.prog game_cross.hint Tryz.f33 = some game_cross := by kernel_rfl
def ratio_Of : R.Fn := ⟨1, [(.cell 2 3 true)], (.seq (.reg [] [.a 2 (.new [(.bool false), (.sl 1 []), (.sl 1 [])])] [] [])
  (.seq (.reg [] [.a 3 (.mv (.t 0)), .a 4 (.call F.whole_Of [(.t 3)]), .a 5 (.call F.nat_Of [(.c (.int .u64 1))]), .a 6 (.bld [(.bool false), (.sl 1 []), (.sl 1 [])] [(0, 2, (.t 4)), (2, 1, (.t 5))]), .n (.st 3 (.t 2) (.t 6))] [0, 3, 4, 5, 6] [])
  .ret))⟩
def ratio_Of.hint : R.Hint := { kill := [(1, [0, 3, 4, 5, 6], [])] }
theorem ratio_Of.ok : cFn Tryz.prog ratio_Of.hint Tryz.f34 = some ratio_Of := by kernel_rfl
def dendronlaw15_two.b0 : R.C := (.seq (.seq (.reg [] [.a 5 (.mv (.t 4)), .a 6 (.mv (.t 0)), .a 7 (.bin .lss (.t 5) (.t 6))] [5, 6] [])
  (.cond (.t 7) .skip (.exit 0)))
  (.seq (.block 1 (.reg [] [.a 10 (.mv (.t 3)), .a 11 (.bin .mul (.c (.int .i64 2)) (.t 10)), .a 3 (.mv (.t 11))] [7, 10, 11] []))
  (.reg [] [.a 8 (.mv (.t 4)), .a 9 (.bin .add (.t 8) (.c (.int .i64 1))), .a 4 (.mv (.t 9))] [8, 9] [])))
def dendronlaw15_two : R.Fn := ⟨1, [(.t 2)], (.seq (.reg [] [.a 2 (.mv (.c (.int .i64 0)))] [2] [])
  (.seq (.reg [] [.a 3 (.mv (.c (.int .i64 1)))] [] [])
  (.seq (.seq (.reg [] [.a 4 (.mv (.c (.int .i64 0)))] [] [])
  (.block 0 (.loop [] [] dendronlaw15_two.b0)))
  (.seq (.reg [] [.a 12 (.mv (.t 3)), .a 2 (.mv (.t 12))] [0, 3, 4, 7, 12] [])
  .ret))))⟩
def dendronlaw15_two.hint : R.Hint := { kill := [(0, [2], []), (3, [5, 6], []), (4, [8, 9], []), (5, [7, 10, 11], []), (6, [0, 3, 4, 7, 12], [])] }
theorem dendronlaw15_two.ok : cFn Tryz.prog dendronlaw15_two.hint Tryz.f35 = some dendronlaw15_two := by kernel_rfl
def dendronlaw15_in.b0 : R.C := (.seq (.seq (.reg [] [.a 6 (.mv (.t 5)), .a 7 (.mv (.t 1)), .a 8 (.bin .lss (.t 6) (.t 7))] [6, 7] [])
  (.cond (.t 8) .skip (.exit 0)))
  (.seq (.block 1 (.reg [] [.a 11 (.mv (.t 0)), .a 12 (.bin .quo (.t 11) (.c (.int .i64 2))), .a 0 (.mv (.t 12))] [8, 11, 12] []))
  (.reg [] [.a 9 (.mv (.t 5)), .a 10 (.bin .add (.t 9) (.c (.int .i64 1))), .a 5 (.mv (.t 10))] [9, 10] [])))
def dendronlaw15_in : R.Fn := ⟨2, [(.t 4)], (.seq (.reg [] [.a 4 (.mv (.c (.bool false)))] [4] [])
  (.seq (.seq (.reg [] [.a 5 (.mv (.c (.int .i64 0)))] [] [])
  (.block 0 (.loop [] [] dendronlaw15_in.b0)))
  (.seq (.reg [] [.a 13 (.mv (.t 0)), .a 14 (.bin .rem (.t 13) (.c (.int .i64 2))), .a 15 (.bin .eql (.t 14) (.c (.int .i64 1))), .a 4 (.mv (.t 15))] [0, 1, 5, 8, 13, 14, 15] [])
  .ret)))⟩
def dendronlaw15_in.hint : R.Hint := { kill := [(0, [4], []), (2, [6, 7], []), (3, [9, 10], []), (4, [8, 11, 12], []), (5, [0, 1, 5, 8, 13, 14, 15], [])] }
theorem dendronlaw15_in.ok : cFn Tryz.prog dendronlaw15_in.hint Tryz.f36 = some dendronlaw15_in := by kernel_rfl
def dendronlaw15_size.b0 : R.C := (.seq (.seq (.reg [] [.a 7 (.mv (.t 6)), .a 8 (.mv (.t 1)), .a 9 (.bin .lss (.t 7) (.t 8))] [7, 8] [])
  (.cond (.t 9) .skip (.exit 0)))
  (.seq (.block 1 (.seq (.reg [] [.a 12 (.mv (.t 0)), .a 13 (.mv (.t 6)), .a 14 (.call F.dendronlaw15_in [(.t 12), (.t 13)])] [9, 12, 13] [])
  (.cond (.t 14) (.reg [] [.a 15 (.mv (.t 5)), .a 16 (.bin .add (.t 15) (.c (.int .i64 1))), .a 5 (.mv (.t 16))] [14, 15, 16] []) .skip)))
  (.reg [] [.a 10 (.mv (.t 6)), .a 11 (.bin .add (.t 10) (.c (.int .i64 1))), .a 6 (.mv (.t 11))] [10, 11, 14] [])))
def dendronlaw15_size : R.Fn := ⟨2, [(.t 4)], (.seq (.reg [] [.a 4 (.mv (.c (.int .i64 0)))] [4] [])
  (.seq (.reg [] [.a 5 (.mv (.c (.int .i64 0)))] [] [])
  (.seq (.seq (.reg [] [.a 6 (.mv (.c (.int .i64 0)))] [] [])
  (.block 0 (.loop [] [] dendronlaw15_size.b0)))
  (.seq (.reg [] [.a 17 (.mv (.t 5)), .a 4 (.mv (.t 17))] [0, 1, 5, 6, 9, 17] [])
  .ret))))⟩
def dendronlaw15_size.hint : R.Hint := { kill := [(0, [4], []), (3, [7, 8], []), (4, [10, 11, 14], []), (5, [9, 12, 13], []), (6, [14, 15, 16], []), (7, [0, 1, 5, 6, 9, 17], [])] }
theorem dendronlaw15_size.ok : cFn Tryz.prog dendronlaw15_size.hint Tryz.f37 = some dendronlaw15_size := by kernel_rfl
def dendron_weigh_Table_Weight : R.Fn := ⟨3, [(.cell 6 3 true), (.t 7)], (.seq (.reg [] [.a 6 (.new [(.bool false), (.sl 1 []), (.sl 1 [])]), .a 7 (.mv (.c (.int .i64 0)))] [7] [])
  (.seq (.block 0 (.seq (.reg [] [.a 9 (.mv (.t 0)), .a 10 (.pnil false (.t 9)), .a 8 (.mv (.t 10))] [9, 10] [])
  (.cond (.t 8) (.seq (.reg [] [.a 11 (.bld [(.bool false), (.sl 1 []), (.sl 1 [])] []), .n (.st 3 (.t 6) (.t 11)), .a 7 (.mv (.c (.int .i64 18)))] [0, 1, 2, 8, 11] [])
  .ret) (.seq (.reg [] [.a 13 (.mv (.t 2)), .a 14 (.bin .lss (.t 13) (.c (.int .i64 1))), .a 15 (.mv (.t 14)), .g 16 15 false (.mv (.t 2)), .g 17 15 false (.bin .gtr (.t 16) (.c (.int .i64 64))), .a 18 (.pick (.t 15) (.c (.bool true)) (.t 17)), .a 19 (.mv (.t 18)), .g 20 19 false (.mv (.t 1)), .g 21 19 false (.bin .lss (.t 20) (.c (.int .i64 0))), .a 22 (.pick (.t 19) (.c (.bool true)) (.t 21)), .a 23 (.mv (.t 22)), .g 24 23 false (.mv (.t 1)), .g 25 23 false (.mv (.t 2)), .g 26 23 false (.bin .geq (.t 24) (.t 25)), .a 27 (.pick (.t 23) (.c (.bool true)) (.t 26)), .a 12 (.mv (.t 27))] [8, 13, 14, 15, 16, 17, 18, 19, 20, 21, 22, 23, 24, 25, 26, 27] [])
  (.cond (.t 12) (.seq (.reg [] [.a 28 (.bld [(.bool false), (.sl 1 []), (.sl 1 [])] []), .n (.st 3 (.t 6) (.t 28)), .a 7 (.mv (.c (.int .i64 8)))] [0, 1, 2, 12, 28] [])
  .ret) .skip)))))
  (.seq (.reg [] [.a 29 (.mv (.t 0)), .a 30 (.mv (.t 1)), .a 31 (.mv (.t 2)), .a 32 (.mv (.t 1)), .a 33 (.bin .sub (.t 31) (.t 32)), .a 34 (.bin .sub (.t 33) (.c (.int .i64 1))), .a 35 (.mv (.t 2)), .a 36 (.callk F.dendron_weigh_Table_quotient [(true, (.t 29)), (false, (.t 30)), (false, (.t 34)), (false, (.t 35))]), .n (.st 3 (.t 6) (.t 36)), .a 7 (.mv (.c (.int .i64 0)))] [0, 1, 2, 12, 29, 30, 31, 32, 33, 34, 35, 36] [36])
  .ret)))⟩
def dendron_weigh_Table_Weight.hint : R.Hint := { callk := [(36, [true, false, false, false])], kill := [(0, [7], []), (1, [9, 10], []), (2, [0, 1, 2, 8, 11], []), (3, [8, 13, 14, 15, 16, 17, 18, 19, 20, 21, 22, 23, 24, 25, 26, 27], []), (4, [0, 1, 2, 12, 28], []), (5, [0, 1, 2, 12, 29, 30, 31, 32, 33, 34, 35, 36], [36])] }
theorem dendron_weigh_Table_Weight.ok : cFn Tryz.prog dendron_weigh_Table_Weight.hint Tryz.f38 = some dendron_weigh_Table_Weight := by kernel_rfl
def nat_Of : R.Fn := ⟨1, [(.t 2)], (.seq (.reg [] [.a 2 (.mv (.c (.sl 1 [])))] [2] [])
  (.seq (.reg [] [.a 3 (.mv (.t 0)), .a 4 (.bin .and (.t 3) (.c (.int .u64 4294967295))), .a 5 (.mv (.t 0)), .a 6 (.bin .shr (.t 5) (.c (.int .u64 32))), .a 7 (.lit 1 2 [(.int .u64 0), (.int .u64 0)] [(0, 1, (.t 4)), (1, 1, (.t 6))]), .a 8 (.call F.nat_trim [(.t 7)]), .a 2 (.mv (.t 8))] [0, 3, 4, 5, 6, 7, 8] [])
  .ret))⟩
def nat_Of.hint : R.Hint := { kill := [(0, [2], []), (1, [0, 3, 4, 5, 6, 7, 8], [])] }
theorem nat_Of.ok : cFn Tryz.prog nat_Of.hint Tryz.f39 = some nat_Of := by kernel_rfl
def dendron_weigh_Table_quotient : R.Fn := ⟨4, [(.cell 8 3 true)], (.seq (.reg [] [.a 8 (.new [(.bool false), (.sl 1 []), (.sl 1 [])])] [] [])
  (.seq (.reg [] [.a 12 (.mv (.t 0)), .a 13 (.mv (.t 1)), .a 14 (.callh F.dendron_weigh_Table_at [(true, (.t 12)), (false, (.t 13))]), .a 15 (.mv (.t 0)), .a 16 (.mv (.t 2)), .a 17 (.callh F.dendron_weigh_Table_at [(true, (.t 15)), (false, (.t 16))]), .a 18 (.callc F.whole_Mul [(.t 14), (.t 17)]), .a 19 (.mv (.t 0)), .a 20 (.mv (.t 3)), .a 21 (.callh F.dendron_weigh_Table_at [(true, (.t 19)), (false, (.t 20))]), .a 22 (.callc F.ratio_Make [(.t 18), (.t 21)]), .a 11 (.mv (.t 22)), .a 23 (.ext (.t 11) 0), .a 24 (.ext (.t 11) 1), .a 9 (.new [(.bool false), (.sl 1 []), (.sl 1 [])]), .n (.st 3 (.t 9) (.t 23)), .a 10 (.mv (.t 24))] [0, 1, 2, 3, 10, 11, 12, 13, 14, 15, 16, 17, 18, 19, 20, 21, 22, 23, 24] [])
  (.seq (.reg [] [.a 25 (.ld 3 true (.t 9)), .n (.st 3 (.t 8) (.t 25))] [9, 25] [9])
  .ret)))⟩
def dendron_weigh_Table_quotient.hint : R.Hint := { kill := [(1, [0, 1, 2, 3, 10, 11, 12, 13, 14, 15, 16, 17, 18, 19, 20, 21, 22, 23, 24], []), (2, [9, 25], [9])], heap := true, callh := [(14, [true, false]), (17, [true, false]), (21, [true, false])] }
theorem dendron_weigh_Table_quotient.ok : cFn Tryz.prog dendron_weigh_Table_quotient.hint Tryz.f40 = some dendron_weigh_Table_quotient := by kernel_rfl
def ratio_Frac : R.Fn := ⟨2, [(.cell 4 3 true)], (.seq (.reg [] [.a 4 (.new [(.bool false), (.sl 1 []), (.sl 1 [])])] [] [])
  (.seq (.reg [] [.a 8 (.mv (.t 0)), .a 9 (.call F.whole_Of [(.t 8)]), .a 10 (.mv (.t 1)), .a 11 (.call F.whole_Of [(.t 10)]), .a 12 (.call F.ratio_Make [(.t 9), (.t 11)]), .a 7 (.mv (.t 12)), .a 13 (.ext (.t 7) 0), .a 14 (.ext (.t 7) 1), .a 5 (.new [(.bool false), (.sl 1 []), (.sl 1 [])]), .n (.st 3 (.t 5) (.t 13)), .a 6 (.mv (.t 14))] [0, 1, 6, 7, 8, 9, 10, 11, 12, 13, 14] [])
  (.seq (.reg [] [.a 15 (.ld 3 true (.t 5)), .a 16 (.call F.ratio_Clean [(.t 15)]), .n (.st 3 (.t 4) (.t 16))] [5, 15, 16] [5])
  .ret)))⟩
def ratio_Frac.hint : R.Hint := { kill := [(1, [0, 1, 6, 7, 8, 9, 10, 11, 12, 13, 14], []), (2, [5, 15, 16], [5])] }
theorem ratio_Frac.ok : cFn Tryz.prog ratio_Frac.hint Tryz.f41 = some ratio_Frac := by kernel_rfl
def ratio_Clean : R.Fn := ⟨1, [(.cell 2 3 true)], (.seq (.reg [] [.a 1 (.box (.t 0)), .a 2 (.new [(.bool false), (.sl 1 []), (.sl 1 [])])] [0] [])
  (.seq (.reg [] [.a 4 (.fA 2 (.t 1)), .a 5 (.ld 1 false (.t 4)), .a 6 (.call F.nat_Clean [(.t 5)]), .a 3 (.mv (.t 6))] [4, 5, 6] [])
  (.seq (.seq (.reg [] [.a 7 (.mv (.t 3)), .a 8 (.ln (.t 7)), .a 9 (.bin .eql (.t 8) (.c (.int .i64 0)))] [7, 8] [])
  (.cond (.t 9) (.seq (.reg [] [.a 10 (.call F.ratio_Zero []), .n (.st 3 (.t 2) (.t 10))] [1, 3, 9, 10] [1])
  .ret) .skip))
  (.seq (.reg [] [.a 11 (.fA 0 (.t 1)), .a 12 (.ld 2 true (.t 11)), .a 13 (.call F.whole_Clean [(.t 12)]), .a 14 (.mv (.t 3)), .a 15 (.call F.ratio_form [(.t 13), (.t 14)]), .n (.st 3 (.t 2) (.t 15))] [1, 3, 9, 11, 12, 13, 14, 15] [1])
  .ret))))⟩
def ratio_Clean.hint : R.Hint := { kill := [(0, [0], []), (1, [4, 5, 6], []), (2, [7, 8], []), (3, [1, 3, 9, 10], [1]), (4, [1, 3, 9, 11, 12, 13, 14, 15], [1])] }
theorem ratio_Clean.ok : cFn Tryz.prog ratio_Clean.hint Tryz.f42 = some ratio_Clean := by kernel_rfl
def ratio_form : R.Fn := ⟨2, [(.cell 4 3 true)], (.seq (.reg [] [.a 2 (.box (.t 0)), .a 4 (.new [(.bool false), (.sl 1 []), (.sl 1 [])])] [0] [])
  (.seq (.seq (.reg [] [.a 12 (.fA 1 (.t 2)), .a 13 (.ld 1 false (.t 12)), .a 14 (.ln (.t 13)), .a 15 (.bin .eql (.t 14) (.c (.int .i64 0)))] [12, 13, 14] [])
  (.cond (.t 15) (.seq (.reg [] [.a 16 (.call F.nat_Of [(.c (.int .u64 1))]), .a 17 (.bld [(.bool false), (.sl 1 []), (.sl 1 [])] [(2, 1, (.t 16))]), .n (.st 3 (.t 4) (.t 17))] [1, 2, 15, 16, 17] [2])
  .ret) .skip))
  (.seq (.reg [] [.a 18 (.fA 1 (.t 2)), .a 19 (.ld 1 false (.t 18)), .a 20 (.mv (.t 1)), .a 21 (.call F.nat_Gcd [(.t 19), (.t 20)]), .a 5 (.mv (.t 21))] [15, 18, 19, 20, 21] [])
  (.seq (.seq (.reg [] [.a 22 (.mv (.t 5)), .a 23 (.ln (.t 22)), .a 24 (.bin .eql (.t 23) (.c (.int .i64 1))), .a 25 (.mv (.t 24)), .g 26 25 true (.mv (.t 5)), .g 27 25 true (.iA 1 (.t 26) (.c (.int .i64 0))), .g 28 25 true (.ld 1 false (.t 27)), .g 29 25 true (.bin .eql (.t 28) (.c (.int .u64 1))), .a 30 (.pick (.t 25) (.t 29) (.c (.bool false)))] [22, 23, 24, 25, 26, 27, 28, 29] [])
  (.cond (.t 30) (.seq (.reg [] [.a 31 (.ld 2 true (.t 2)), .a 32 (.mv (.t 1)), .a 33 (.bld [(.bool false), (.sl 1 []), (.sl 1 [])] [(0, 2, (.t 31)), (2, 1, (.t 32))]), .n (.st 3 (.t 4) (.t 33))] [1, 2, 5, 30, 31, 32, 33] [2])
  .ret) .skip))
  (.seq (.reg [] [.a 35 (.fA 1 (.t 2)), .a 36 (.ld 1 false (.t 35)), .a 37 (.mv (.t 5)), .a 38 (.call F.nat_DivMod [(.t 36), (.t 37)]), .a 34 (.mv (.t 38)), .a 39 (.ext (.t 34) 0), .a 40 (.ext (.t 34) 1), .a 41 (.ext (.t 34) 2), .a 6 (.mv (.t 39)), .a 7 (.mv (.t 40)), .a 8 (.mv (.t 41))] [7, 8, 30, 34, 35, 36, 37, 38, 39, 40, 41] [])
  (.seq (.reg [] [.a 43 (.mv (.t 1)), .a 44 (.mv (.t 5)), .a 45 (.call F.nat_DivMod [(.t 43), (.t 44)]), .a 42 (.mv (.t 45)), .a 46 (.ext (.t 42) 0), .a 47 (.ext (.t 42) 1), .a 48 (.ext (.t 42) 2), .a 9 (.mv (.t 46)), .a 10 (.mv (.t 47)), .a 11 (.mv (.t 48))] [1, 5, 10, 11, 42, 43, 44, 45, 46, 47, 48] [])
  (.seq (.reg [] [.a 49 (.fA 0 (.t 2)), .a 50 (.ld 1 false (.t 49)), .a 51 (.mv (.t 6)), .a 52 (.bld [(.bool false), (.sl 1 [])] [(0, 1, (.t 50)), (1, 1, (.t 51))]), .a 53 (.mv (.t 9)), .a 54 (.bld [(.bool false), (.sl 1 []), (.sl 1 [])] [(0, 2, (.t 52)), (2, 1, (.t 53))]), .n (.st 3 (.t 4) (.t 54))] [2, 6, 9, 49, 50, 51, 52, 53, 54] [2])
  .ret)))))))⟩
def ratio_form.hint : R.Hint := { kill := [(0, [0], []), (1, [12, 13, 14], []), (2, [1, 2, 15, 16, 17], [2]), (3, [15, 18, 19, 20, 21], []), (4, [22, 23, 24, 25, 26, 27, 28, 29], []), (5, [1, 2, 5, 30, 31, 32, 33], [2]), (6, [7, 8, 30, 34, 35, 36, 37, 38, 39, 40, 41], []), (7, [1, 5, 10, 11, 42, 43, 44, 45, 46, 47, 48], []), (8, [2, 6, 9, 49, 50, 51, 52, 53, 54], [2])] }
theorem ratio_form.ok : cFn Tryz.prog ratio_form.hint Tryz.f43 = some ratio_form := by kernel_rfl
def whole_Add : R.Fn := ⟨2, [(.cell 4 2 true)], (.seq (.reg [] [.a 2 (.box (.t 0)), .a 3 (.box (.t 1)), .a 4 (.new [(.bool false), (.sl 1 [])])] [0, 1] [])
  (.seq (.reg [] [.a 7 (.ld 2 true (.t 2)), .a 8 (.call F.whole_Clean [(.t 7)]), .a 9 (.ld 2 true (.t 3)), .a 10 (.call F.whole_Clean [(.t 9)]), .n (.st 2 (.t 2) (.t 8)), .n (.st 2 (.t 3) (.t 10))] [7, 8, 9, 10] [])
  (.seq (.seq (.reg [] [.a 11 (.fA 0 (.t 2)), .a 12 (.ld 1 false (.t 11)), .a 13 (.fA 0 (.t 3)), .a 14 (.ld 1 false (.t 13)), .a 15 (.beq false (.t 12) (.t 14))] [11, 12, 13, 14] [])
  (.cond (.t 15) (.seq (.reg [] [.a 16 (.fA 0 (.t 2)), .a 17 (.ld 1 false (.t 16)), .a 18 (.fA 1 (.t 2)), .a 19 (.ld 1 false (.t 18)), .a 20 (.fA 1 (.t 3)), .a 21 (.ld 1 false (.t 20)), .a 22 (.call F.nat_Add [(.t 19), (.t 21)]), .a 23 (.call F.whole_sign [(.t 17), (.t 22)]), .n (.st 2 (.t 4) (.t 23))] [2, 3, 15, 16, 17, 18, 19, 20, 21, 22, 23] [2, 3])
  .ret) .skip))
  (.seq (.seq (.reg [] [.a 24 (.fA 1 (.t 2)), .a 25 (.ld 1 false (.t 24)), .a 26 (.fA 1 (.t 3)), .a 27 (.ld 1 false (.t 26)), .a 28 (.call F.nat_Cmp [(.t 25), (.t 27)]), .a 29 (.bin .lss (.t 28) (.c (.int .i64 0)))] [15, 24, 25, 26, 27, 28] [])
  (.cond (.t 29) (.reg [] [.a 30 (.ld 2 true (.t 3)), .a 31 (.ld 2 true (.t 2)), .n (.st 2 (.t 2) (.t 30)), .n (.st 2 (.t 3) (.t 31))] [29, 30, 31] []) .skip))
  (.seq (.reg [] [.a 33 (.fA 1 (.t 2)), .a 34 (.ld 1 false (.t 33)), .a 35 (.fA 1 (.t 3)), .a 36 (.ld 1 false (.t 35)), .a 37 (.call F.nat_Sub [(.t 34), (.t 36)]), .a 32 (.mv (.t 37)), .a 38 (.ext (.t 32) 0), .a 39 (.ext (.t 32) 1), .a 5 (.mv (.t 38)), .a 6 (.mv (.t 39))] [3, 6, 29, 32, 33, 34, 35, 36, 37, 38, 39] [3])
  (.seq (.reg [] [.a 40 (.fA 0 (.t 2)), .a 41 (.ld 1 false (.t 40)), .a 42 (.mv (.t 5)), .a 43 (.call F.whole_sign [(.t 41), (.t 42)]), .n (.st 2 (.t 4) (.t 43))] [2, 5, 40, 41, 42, 43] [2])
  .ret))))))⟩
def whole_Add.hint : R.Hint := { kill := [(0, [0, 1], []), (1, [7, 8, 9, 10], []), (2, [11, 12, 13, 14], []), (3, [2, 3, 15, 16, 17, 18, 19, 20, 21, 22, 23], [2, 3]), (4, [15, 24, 25, 26, 27, 28], []), (5, [29, 30, 31], []), (6, [3, 6, 29, 32, 33, 34, 35, 36, 37, 38, 39], [3]), (7, [2, 5, 40, 41, 42, 43], [2])] }
theorem whole_Add.ok : cFn Tryz.prog whole_Add.hint Tryz.f44 = some whole_Add := by kernel_rfl
def whole_Mul : R.Fn := ⟨2, [(.cell 4 2 true)], (.seq (.reg [] [.a 2 (.box (.t 0)), .a 3 (.box (.t 1)), .a 4 (.new [(.bool false), (.sl 1 [])])] [0, 1] [])
  (.seq (.reg [] [.a 5 (.ld 2 true (.t 2)), .a 6 (.call F.whole_Clean [(.t 5)]), .a 7 (.ld 2 true (.t 3)), .a 8 (.call F.whole_Clean [(.t 7)]), .n (.st 2 (.t 2) (.t 6)), .n (.st 2 (.t 3) (.t 8))] [5, 6, 7, 8] [])
  (.seq (.reg [] [.a 9 (.fA 0 (.t 2)), .a 10 (.ld 1 false (.t 9)), .a 11 (.fA 0 (.t 3)), .a 12 (.ld 1 false (.t 11)), .a 13 (.beq true (.t 10) (.t 12)), .a 14 (.fA 1 (.t 2)), .a 15 (.ld 1 false (.t 14)), .a 16 (.fA 1 (.t 3)), .a 17 (.ld 1 false (.t 16)), .a 18 (.call F.nat_Mul [(.t 15), (.t 17)]), .a 19 (.call F.whole_sign [(.t 13), (.t 18)]), .n (.st 2 (.t 4) (.t 19))] [2, 3, 9, 10, 11, 12, 13, 14, 15, 16, 17, 18, 19] [2, 3])
  .ret)))⟩
def whole_Mul.hint : R.Hint := { kill := [(0, [0, 1], []), (1, [5, 6, 7, 8], []), (2, [2, 3, 9, 10, 11, 12, 13, 14, 15, 16, 17, 18, 19], [2, 3])] }
theorem whole_Mul.ok : cFn Tryz.prog whole_Mul.hint Tryz.f45 = some whole_Mul := by kernel_rfl
def ratio_den : R.Fn := ⟨1, [(.cell 2 2 true)], (.seq (.reg [] [.a 1 (.box (.t 0)), .a 2 (.new [(.bool false), (.sl 1 [])])] [0] [])
  (.seq (.reg [] [.a 3 (.fA 2 (.t 1)), .a 4 (.ld 1 false (.t 3)), .a 5 (.bld [(.bool false), (.sl 1 [])] [(1, 1, (.t 4))]), .n (.st 2 (.t 2) (.t 5))] [1, 3, 4, 5] [1])
  .ret))⟩
def ratio_den.hint : R.Hint := { kill := [(0, [0], []), (1, [1, 3, 4, 5], [1])] }
theorem ratio_den.ok : cFn Tryz.prog ratio_den.hint Tryz.f46 = some ratio_den := by kernel_rfl
def nat_Mul.b2 : R.C := (.seq (.reg [] [.a 31 (.bin .lss (.t 30) (.t 29))] [] [])
  (.seq (.cond (.t 31) .skip (.exit 2))
  (.seq (.block 3 (.seq (.reg [] [.a 32 (.mv (.t 30)), .a 33 (.iA 1 (.t 28) (.t 30)), .a 34 (.ld 1 false (.t 33)), .a 9 (.mv (.t 32)), .a 10 (.mv (.t 34))] [31, 32, 33, 34] [])
  (.seq (.reg [] [.a 35 (.mv (.t 8)), .a 36 (.mv (.t 5)), .a 37 (.mv (.t 6)), .a 38 (.mv (.t 9)), .a 39 (.bin .add (.t 37) (.t 38)), .a 40 (.iA 1 (.t 36) (.t 39)), .a 41 (.ld 1 false (.t 40)), .a 42 (.mv (.t 7)), .a 43 (.mv (.t 10)), .a 44 (.bin .mul (.t 42) (.t 43)), .a 45 (.bin .add (.t 41) (.t 44)), .a 46 (.bin .add (.t 35) (.t 45)), .a 8 (.mv (.t 46))] [10, 35, 36, 37, 38, 39, 40, 41, 42, 43, 44, 45, 46] [])
  (.seq (.reg [] [.a 47 (.mv (.t 5)), .a 48 (.mv (.t 6)), .a 49 (.mv (.t 9)), .a 50 (.bin .add (.t 48) (.t 49)), .a 51 (.mv (.t 8)), .a 52 (.bin .and (.t 51) (.c (.int .u64 4294967295))), .a 53 (.iA 1 (.t 47) (.t 50)), .n (.st 1 (.t 53) (.t 52))] [9, 47, 48, 49, 50, 51, 52, 53] [])
  (.reg [] [.a 54 (.mv (.t 8)), .a 55 (.bin .shr (.t 54) (.c (.int .u64 32))), .a 8 (.mv (.t 55))] [54, 55] [])))))
  (.reg [] [.a 56 (.bin .add (.t 30) (.c (.int .i64 1))), .a 30 (.mv (.t 56))] [56] []))))
def nat_Mul.b0 : R.C := (.seq (.reg [] [.a 24 (.bin .lss (.t 23) (.t 22))] [] [])
  (.seq (.cond (.t 24) .skip (.exit 0))
  (.seq (.block 1 (.seq (.reg [] [.a 25 (.mv (.t 23)), .a 26 (.iA 1 (.t 21) (.t 23)), .a 27 (.ld 1 false (.t 26)), .a 6 (.mv (.t 25)), .a 7 (.mv (.t 27))] [24, 25, 26, 27] [])
  (.seq (.reg [] [.a 8 (.mv (.c (.int .u64 0)))] [] [])
  (.seq (.seq (.reg [] [.a 28 (.mv (.t 1)), .a 29 (.ln (.t 28)), .a 30 (.mv (.c (.int .i64 0)))] [] [])
  (.block 2 (.loop [] [] nat_Mul.b2)))
  (.reg [] [.a 57 (.mv (.t 5)), .a 58 (.mv (.t 6)), .a 59 (.mv (.t 1)), .a 60 (.ln (.t 59)), .a 61 (.bin .add (.t 58) (.t 60)), .a 62 (.mv (.t 8)), .a 63 (.iA 1 (.t 57) (.t 61)), .n (.st 1 (.t 63) (.t 62))] [6, 7, 8, 28, 29, 30, 31, 57, 58, 59, 60, 61, 62, 63] [])))))
  (.reg [] [.a 64 (.bin .add (.t 23) (.c (.int .i64 1))), .a 23 (.mv (.t 64))] [64] []))))
def nat_Mul : R.Fn := ⟨2, [(.t 4)], (.seq (.reg [] [.a 4 (.mv (.c (.sl 1 [])))] [4] [])
  (.seq (.reg [] [.a 11 (.mv (.t 0)), .a 12 (.call F.nat_Clean [(.t 11)]), .a 13 (.mv (.t 1)), .a 14 (.call F.nat_Clean [(.t 13)]), .a 0 (.mv (.t 12)), .a 1 (.mv (.t 14))] [11, 12, 13, 14] [])
  (.seq (.reg [] [.a 15 (.mv (.t 0)), .a 16 (.ln (.t 15)), .a 17 (.mv (.t 1)), .a 18 (.ln (.t 17)), .a 19 (.bin .add (.t 16) (.t 18)), .a 20 (.mk 1 8 [(.int .u64 0)] (.t 19) (.t 19)), .a 5 (.mv (.t 20))] [15, 16, 17, 18, 19, 20] [])
  (.seq (.seq (.reg [] [.a 21 (.mv (.t 0)), .a 22 (.ln (.t 21)), .a 23 (.mv (.c (.int .i64 0)))] [0] [])
  (.block 0 (.loop [] [] nat_Mul.b0)))
  (.seq (.reg [5] [.a 65 (.mv (.t 5)), .a 66 (.call F.nat_trim [(.t 65)]), .a 4 (.mv (.t 66))] [1, 5, 21, 22, 23, 24, 65, 66] [20])
  .ret)))))⟩
def nat_Mul.hint : R.Hint := { pub := [(16, [5])], kill := [(0, [4], []), (1, [11, 12, 13, 14], []), (2, [15, 16, 17, 18, 19, 20], []), (3, [0], []), (5, [24, 25, 26, 27], []), (9, [31, 32, 33, 34], []), (10, [10, 35, 36, 37, 38, 39, 40, 41, 42, 43, 44, 45, 46], []), (11, [9, 47, 48, 49, 50, 51, 52, 53], []), (12, [54, 55], []), (13, [56], []), (14, [6, 7, 8, 28, 29, 30, 31, 57, 58, 59, 60, 61, 62, 63], []), (15, [64], []), (16, [1, 5, 21, 22, 23, 24, 65, 66], [20])] }
theorem nat_Mul.ok : cFn Tryz.prog nat_Mul.hint Tryz.f47 = some nat_Mul := by kernel_rfl
def ratio_Neg : R.Fn := ⟨1, [(.cell 2 3 true)], (.seq (.reg [] [.a 1 (.box (.t 0)), .a 2 (.new [(.bool false), (.sl 1 []), (.sl 1 [])])] [0] [])
  (.seq (.reg [] [.a 3 (.ld 3 true (.t 1)), .a 4 (.call F.ratio_Clean [(.t 3)]), .n (.st 3 (.t 1) (.t 4))] [3, 4] [])
  (.seq (.reg [] [.a 5 (.fA 0 (.t 1)), .a 6 (.ld 2 true (.t 5)), .a 7 (.call F.whole_Neg [(.t 6)]), .a 8 (.fA 0 (.t 1)), .n (.st 2 (.t 8) (.t 7))] [5, 6, 7, 8] [])
  (.seq (.reg [] [.a 9 (.ld 3 true (.t 1)), .n (.st 3 (.t 2) (.t 9))] [1, 9] [1])
  .ret))))⟩
def ratio_Neg.hint : R.Hint := { kill := [(0, [0], []), (1, [3, 4], []), (2, [5, 6, 7, 8], []), (3, [1, 9], [1])] }
theorem ratio_Neg.ok : cFn Tryz.prog ratio_Neg.hint Tryz.f48 = some ratio_Neg := by kernel_rfl
def whole_Right : R.Fn := ⟨1, [(.t 2)], (.seq (.reg [] [.a 1 (.box (.t 0)), .a 2 (.mv (.c (.bool false)))] [0, 2] [])
  (.seq (.reg [] [.a 3 (.fA 1 (.t 1)), .a 4 (.ld 1 false (.t 3)), .a 5 (.call F.nat_Right [(.t 4)]), .a 6 (.mv (.t 5)), .g 7 6 true (.fA 1 (.t 1)), .g 8 6 true (.ld 1 false (.t 7)), .g 9 6 true (.ln (.t 8)), .g 10 6 true (.bin .gtr (.t 9) (.c (.int .i64 0))), .g 11 6 true (.mv (.t 10)), .g 12 11 false (.fA 0 (.t 1)), .g 13 11 false (.ld 1 false (.t 12)), .g 14 11 false (.un .not (.t 13)), .g 15 6 true (.pick (.t 11) (.c (.bool true)) (.t 14)), .a 16 (.pick (.t 6) (.t 15) (.c (.bool false))), .a 2 (.mv (.t 16))] [1, 3, 4, 5, 6, 7, 8, 9, 10, 11, 12, 13, 14, 15, 16] [1])
  .ret))⟩
def whole_Right.hint : R.Hint := { kill := [(0, [0, 2], []), (1, [1, 3, 4, 5, 6, 7, 8, 9, 10, 11, 12, 13, 14, 15, 16], [1])] }
theorem whole_Right.ok : cFn Tryz.prog whole_Right.hint Tryz.f49 = some whole_Right := by kernel_rfl
def nat_Right.b0 : R.C := (.seq (.reg [] [.a 8 (.bin .lss (.t 7) (.t 6))] [] [])
  (.seq (.cond (.t 8) .skip (.exit 0))
  (.seq (.block 1 (.seq (.reg [] [.a 9 (.iA 1 (.t 5) (.t 7)), .a 10 (.ld 1 false (.t 9)), .a 4 (.mv (.t 10))] [8, 9, 10] [])
  (.seq (.reg [] [.a 11 (.mv (.t 4)), .a 12 (.bin .gtr (.t 11) (.c (.int .u64 4294967295)))] [4, 11] [])
  (.cond (.t 12) (.seq (.reg [] [.a 2 (.mv (.c (.bool false)))] [0, 5, 6, 7, 12] [])
  .ret) .skip))))
  (.reg [] [.a 13 (.bin .add (.t 7) (.c (.int .i64 1))), .a 7 (.mv (.t 13))] [12, 13] []))))
def nat_Right : R.Fn := ⟨1, [(.t 2)], (.seq (.reg [] [.a 2 (.mv (.c (.bool false)))] [2] [])
  (.seq (.seq (.reg [] [.a 5 (.mv (.t 0)), .a 6 (.ln (.t 5)), .a 7 (.mv (.c (.int .i64 0)))] [] [])
  (.block 0 (.loop [] [] nat_Right.b0)))
  (.seq (.reg [] [.a 14 (.mv (.t 0)), .a 15 (.ln (.t 14)), .a 16 (.bin .eql (.t 15) (.c (.int .i64 0))), .a 17 (.mv (.t 16)), .g 18 17 false (.mv (.t 0)), .g 19 17 false (.mv (.t 0)), .g 20 17 false (.ln (.t 19)), .g 21 17 false (.bin .sub (.t 20) (.c (.int .i64 1))), .g 22 17 false (.iA 1 (.t 18) (.t 21)), .g 23 17 false (.ld 1 false (.t 22)), .g 24 17 false (.bin .neq (.t 23) (.c (.int .u64 0))), .a 25 (.pick (.t 17) (.c (.bool true)) (.t 24)), .a 2 (.mv (.t 25))] [0, 5, 6, 7, 8, 14, 15, 16, 17, 18, 19, 20, 21, 22, 23, 24, 25] [])
  .ret)))⟩
def nat_Right.hint : R.Hint := { kill := [(0, [2], []), (3, [8, 9, 10], []), (4, [4, 11], []), (5, [0, 5, 6, 7, 12], []), (6, [12, 13], []), (7, [0, 5, 6, 7, 8, 14, 15, 16, 17, 18, 19, 20, 21, 22, 23, 24, 25], [])] }
theorem nat_Right.ok : cFn Tryz.prog nat_Right.hint Tryz.f50 = some nat_Right := by kernel_rfl
def nat_Gcd.b1 : R.C := (.block 2 (.seq (.seq (.reg [] [.a 43 (.mv (.t 0)), .a 44 (.mv (.t 1)), .a 45 (.call F.nat_order [(.t 43), (.t 44)]), .a 7 (.mv (.t 45))] [43, 44, 45] [])
  (.block 3 (.seq (.reg [] [.a 47 (.mv (.t 7)), .a 48 (.bin .eql (.t 47) (.c (.int .i64 0))), .a 46 (.mv (.t 48))] [47, 48] [])
  (.cond (.t 46) (.seq (.reg [] [.a 49 (.mv (.t 0)), .a 50 (.mv (.t 5)), .a 51 (.mv (.t 6)), .a 52 (.mn (.t 50) (.t 51)), .a 53 (.call F.nat_shl [(.t 49), (.t 52)]), .a 4 (.mv (.t 53))] [0, 1, 5, 6, 7, 46, 49, 50, 51, 52, 53] [])
  .ret) (.seq (.reg [] [.a 55 (.mv (.t 7)), .a 56 (.bin .lss (.t 55) (.c (.int .i64 0))), .a 54 (.mv (.t 56))] [7, 46, 55, 56] [])
  (.cond (.t 54) (.reg [] [.a 57 (.mv (.t 1)), .a 58 (.mv (.t 0)), .a 0 (.mv (.t 57)), .a 1 (.mv (.t 58))] [54, 57, 58] []) .skip))))))
  (.seq (.seq (.reg [] [.a 59 (.mv (.t 0)), .a 60 (.ln (.t 59)), .a 61 (.mv (.t 1)), .a 62 (.ln (.t 61)), .a 63 (.bin .add (.t 62) (.c (.int .i64 1))), .a 64 (.bin .gtr (.t 60) (.t 63))] [54, 59, 60, 61, 62, 63] [])
  (.cond (.t 64) (.seq (.reg [] [.a 66 (.mv (.t 0)), .a 67 (.mv (.t 1)), .a 68 (.call F.nat_rest [(.t 66), (.t 67)]), .a 65 (.mv (.t 68)), .a 69 (.ext (.t 65) 0), .a 70 (.ext (.t 65) 1), .a 0 (.mv (.t 70))] [64, 65, 66, 67, 68, 69, 70] [])
  (.seq (.reg [] [.a 71 (.mv (.t 0)), .a 72 (.ln (.t 71)), .a 73 (.bin .eql (.t 72) (.c (.int .i64 0)))] [71, 72] [])
  (.cond (.t 73) (.seq (.reg [] [.a 74 (.mv (.t 1)), .a 75 (.mv (.t 5)), .a 76 (.mv (.t 6)), .a 77 (.mn (.t 75) (.t 76)), .a 78 (.call F.nat_shl [(.t 74), (.t 77)]), .a 4 (.mv (.t 78))] [0, 1, 5, 6, 73, 74, 75, 76, 77, 78] [])
  .ret) .skip))) (.reg [] [.a 79 (.mv (.t 0)), .a 80 (.mv (.t 1)), .a 81 (.call F.nat_minus [(.t 79), (.t 80)]), .a 0 (.mv (.t 81))] [64, 79, 80, 81] [])))
  (.reg [] [.a 82 (.mv (.t 0)), .a 83 (.mv (.t 0)), .a 84 (.call F.nat_zeros [(.t 83)]), .a 85 (.call F.nat_shr [(.t 82), (.t 84)]), .a 0 (.mv (.t 85))] [73, 82, 83, 84, 85] []))))
def nat_Gcd : R.Fn := ⟨2, [(.t 4)], (.seq (.reg [] [.a 4 (.mv (.c (.sl 1 [])))] [4] [])
  (.seq (.reg [] [.a 8 (.mv (.t 0)), .a 9 (.call F.nat_Clean [(.t 8)]), .a 10 (.mv (.t 1)), .a 11 (.call F.nat_Clean [(.t 10)]), .a 0 (.mv (.t 9)), .a 1 (.mv (.t 11))] [8, 9, 10, 11] [])
  (.seq (.block 0 (.seq (.reg [] [.a 13 (.mv (.t 0)), .a 14 (.ln (.t 13)), .a 15 (.bin .eql (.t 14) (.c (.int .i64 0))), .a 12 (.mv (.t 15))] [13, 14, 15] [])
  (.cond (.t 12) (.seq (.reg [] [.a 16 (.mv (.t 1)), .a 4 (.mv (.t 16))] [0, 1, 12, 16] [])
  .ret) (.seq (.reg [] [.a 18 (.mv (.t 1)), .a 19 (.ln (.t 18)), .a 20 (.bin .eql (.t 19) (.c (.int .i64 0))), .a 17 (.mv (.t 20))] [12, 18, 19, 20] [])
  (.cond (.t 17) (.seq (.reg [] [.a 21 (.mv (.t 0)), .a 4 (.mv (.t 21))] [0, 1, 17, 21] [])
  .ret) .skip)))))
  (.seq (.seq (.reg [] [.a 22 (.mv (.t 0)), .a 23 (.ln (.t 22)), .a 24 (.bin .leq (.t 23) (.c (.int .i64 2))), .a 25 (.mv (.t 24)), .g 26 25 true (.mv (.t 1)), .g 27 25 true (.ln (.t 26)), .g 28 25 true (.bin .leq (.t 27) (.c (.int .i64 2))), .a 29 (.pick (.t 25) (.t 28) (.c (.bool false)))] [17, 22, 23, 24, 25, 26, 27, 28] [])
  (.cond (.t 29) (.seq (.reg [] [.a 30 (.mv (.t 0)), .a 31 (.mv (.t 1)), .a 32 (.call F.nat_euclid [(.t 30), (.t 31)]), .a 4 (.mv (.t 32))] [0, 1, 29, 30, 31, 32] [])
  .ret) .skip))
  (.seq (.reg [] [.a 33 (.mv (.t 0)), .a 34 (.call F.nat_zeros [(.t 33)]), .a 35 (.mv (.t 1)), .a 36 (.call F.nat_zeros [(.t 35)]), .a 5 (.mv (.t 34)), .a 6 (.mv (.t 36))] [29, 33, 34, 35, 36] [])
  (.seq (.reg [] [.a 37 (.mv (.t 0)), .a 38 (.mv (.t 5)), .a 39 (.call F.nat_shr [(.t 37), (.t 38)]), .a 40 (.mv (.t 1)), .a 41 (.mv (.t 6)), .a 42 (.call F.nat_shr [(.t 40), (.t 41)]), .a 0 (.mv (.t 39)), .a 1 (.mv (.t 42))] [37, 38, 39, 40, 41, 42] [])
  (.block 1 (.loop [] [] nat_Gcd.b1))))))))⟩
def nat_Gcd.hint : R.Hint := { kill := [(0, [4], []), (1, [8, 9, 10, 11], []), (2, [13, 14, 15], []), (3, [0, 1, 12, 16], []), (4, [12, 18, 19, 20], []), (5, [0, 1, 17, 21], []), (6, [17, 22, 23, 24, 25, 26, 27, 28], []), (7, [0, 1, 29, 30, 31, 32], []), (8, [29, 33, 34, 35, 36], []), (9, [37, 38, 39, 40, 41, 42], []), (10, [43, 44, 45], []), (11, [47, 48], []), (12, [0, 1, 5, 6, 7, 46, 49, 50, 51, 52, 53], []), (13, [7, 46, 55, 56], []), (14, [54, 57, 58], []), (15, [54, 59, 60, 61, 62, 63], []), (16, [64, 65, 66, 67, 68, 69, 70], []), (17, [71, 72], []), (18, [0, 1, 5, 6, 73, 74, 75, 76, 77, 78], []), (19, [64, 79, 80, 81], []), (20, [73, 82, 83, 84, 85], [])] }
theorem nat_Gcd.ok : cFn Tryz.prog nat_Gcd.hint Tryz.f51 = some nat_Gcd := by kernel_rfl
def nat_Cmp : R.Fn := ⟨2, [(.t 4)], (.seq (.reg [] [.a 4 (.mv (.c (.int .i64 0)))] [4] [])
  (.seq (.reg [] [.a 5 (.mv (.t 0)), .a 6 (.call F.nat_Clean [(.t 5)]), .a 7 (.mv (.t 1)), .a 8 (.call F.nat_Clean [(.t 7)]), .a 9 (.call F.nat_order [(.t 6), (.t 8)]), .a 4 (.mv (.t 9))] [0, 1, 5, 6, 7, 8, 9] [])
  .ret))⟩
def nat_Cmp.hint : R.Hint := { kill := [(0, [4], []), (1, [0, 1, 5, 6, 7, 8, 9], [])] }
theorem nat_Cmp.ok : cFn Tryz.prog nat_Cmp.hint Tryz.f52 = some nat_Cmp := by kernel_rfl
def ratio_Cmp : R.Fn := ⟨2, [(.t 4)], (.seq (.reg [] [.a 2 (.box (.t 0)), .a 3 (.box (.t 1)), .a 4 (.mv (.c (.int .i64 0)))] [0, 1, 4] [])
  (.seq (.reg [] [.a 5 (.ld 3 true (.t 2)), .a 6 (.call F.ratio_Clean [(.t 5)]), .a 7 (.ld 3 true (.t 3)), .a 8 (.call F.ratio_Clean [(.t 7)]), .n (.st 3 (.t 2) (.t 6)), .n (.st 3 (.t 3) (.t 8))] [5, 6, 7, 8] [])
  (.seq (.reg [] [.a 9 (.fA 0 (.t 2)), .a 10 (.ld 2 true (.t 9)), .a 11 (.ld 3 true (.t 3)), .a 12 (.call F.ratio_den [(.t 11)]), .a 13 (.call F.whole_Mul [(.t 10), (.t 12)]), .a 14 (.fA 0 (.t 3)), .a 15 (.ld 2 true (.t 14)), .a 16 (.ld 3 true (.t 2)), .a 17 (.call F.ratio_den [(.t 16)]), .a 18 (.call F.whole_Mul [(.t 15), (.t 17)]), .a 19 (.call F.whole_Cmp [(.t 13), (.t 18)]), .a 4 (.mv (.t 19))] [2, 3, 9, 10, 11, 12, 13, 14, 15, 16, 17, 18, 19] [2, 3])
  .ret)))⟩
def ratio_Cmp.hint : R.Hint := { kill := [(0, [0, 1, 4], []), (1, [5, 6, 7, 8], []), (2, [2, 3, 9, 10, 11, 12, 13, 14, 15, 16, 17, 18, 19], [2, 3])] }
theorem ratio_Cmp.ok : cFn Tryz.prog ratio_Cmp.hint Tryz.f53 = some ratio_Cmp := by kernel_rfl
def ratio_Make : R.Fn := ⟨2, [(.cell 4 3 true), (.t 5)], (.seq (.reg [] [.a 2 (.box (.t 0)), .a 3 (.box (.t 1)), .a 4 (.new [(.bool false), (.sl 1 []), (.sl 1 [])]), .a 5 (.mv (.c (.int .i64 0)))] [0, 1, 5] [])
  (.seq (.reg [] [.a 6 (.ld 2 true (.t 2)), .a 7 (.call F.whole_Clean [(.t 6)]), .a 8 (.ld 2 true (.t 3)), .a 9 (.call F.whole_Clean [(.t 8)]), .n (.st 2 (.t 2) (.t 7)), .n (.st 2 (.t 3) (.t 9))] [6, 7, 8, 9] [])
  (.seq (.seq (.reg [] [.a 10 (.ld 2 true (.t 3)), .a 11 (.call F.whole_Sign [(.t 10)]), .a 12 (.bin .eql (.t 11) (.c (.int .i64 0)))] [10, 11] [])
  (.cond (.t 12) (.seq (.reg [] [.a 13 (.bld [(.bool false), (.sl 1 []), (.sl 1 [])] []), .n (.st 3 (.t 4) (.t 13)), .a 5 (.mv (.c (.int .i64 2)))] [2, 3, 12, 13] [2, 3])
  .ret) .skip))
  (.seq (.seq (.reg [] [.a 14 (.fA 0 (.t 3)), .a 15 (.ld 1 false (.t 14))] [12, 14] [])
  (.cond (.t 15) (.reg [] [.a 16 (.ld 2 true (.t 2)), .a 17 (.call F.whole_Neg [(.t 16)]), .n (.st 2 (.t 2) (.t 17))] [15, 16, 17] []) .skip))
  (.seq (.reg [] [.a 18 (.ld 2 true (.t 2)), .a 19 (.fA 1 (.t 3)), .a 20 (.ld 1 false (.t 19)), .a 21 (.call F.ratio_form [(.t 18), (.t 20)]), .n (.st 3 (.t 4) (.t 21)), .a 5 (.mv (.c (.int .i64 0)))] [2, 3, 15, 18, 19, 20, 21] [2, 3])
  .ret)))))⟩
def ratio_Make.hint : R.Hint := { kill := [(0, [0, 1, 5], []), (1, [6, 7, 8, 9], []), (2, [10, 11], []), (3, [2, 3, 12, 13], [2, 3]), (4, [12, 14], []), (5, [15, 16, 17], []), (6, [2, 3, 15, 18, 19, 20, 21], [2, 3])] }
theorem ratio_Make.ok : cFn Tryz.prog ratio_Make.hint Tryz.f55 = some ratio_Make := by kernel_rfl
def whole_Of : R.Fn := ⟨1, [(.cell 2 2 true)], (.seq (.reg [] [.a 2 (.new [(.bool false), (.sl 1 [])])] [] [])
  (.seq (.seq (.reg [] [.a 3 (.mv (.t 0)), .a 4 (.bin .lss (.t 3) (.c (.int .i64 0)))] [3] [])
  (.cond (.t 4) (.seq (.reg [] [.a 5 (.mv (.t 0)), .a 6 (.conv .u64 (.t 5)), .a 7 (.un .neg (.t 6)), .a 8 (.call F.nat_Of [(.t 7)]), .a 9 (.call F.whole_sign [(.c (.bool true)), (.t 8)]), .n (.st 2 (.t 2) (.t 9))] [0, 4, 5, 6, 7, 8, 9] [])
  .ret) .skip))
  (.seq (.reg [] [.a 10 (.mv (.t 0)), .a 11 (.conv .u64 (.t 10)), .a 12 (.call F.nat_Of [(.t 11)]), .a 13 (.call F.whole_sign [(.c (.bool false)), (.t 12)]), .n (.st 2 (.t 2) (.t 13))] [0, 4, 10, 11, 12, 13] [])
  .ret)))⟩
def whole_Of.hint : R.Hint := { kill := [(1, [3], []), (2, [0, 4, 5, 6, 7, 8, 9], []), (3, [0, 4, 10, 11, 12, 13], [])] }
theorem whole_Of.ok : cFn Tryz.prog whole_Of.hint Tryz.f56 = some whole_Of := by kernel_rfl
def dendron_weigh_Table_All.b0 : R.C := (.seq (.reg [] [.a 20 (.bin .lss (.t 19) (.t 18))] [] [])
  (.seq (.cond (.t 20) .skip (.exit 0))
  (.seq (.block 1 (.seq (.reg [] [.a 21 (.mv (.t 19)), .a 7 (.mv (.t 21))] [20, 21] [])
  (.seq (.reg [] [.a 23 (.mv (.t 0)), .a 24 (.mv (.t 7)), .a 25 (.mv (.t 1)), .a 26 (.callk F.dendron_weigh_Table_Weight [(true, (.t 23)), (false, (.t 24)), (false, (.t 25))]), .a 22 (.mv (.t 26)), .a 27 (.ext (.t 22) 0), .a 28 (.ext (.t 22) 1), .a 8 (.new [(.bool false), (.sl 1 []), (.sl 1 [])]), .n (.st 3 (.t 8) (.t 27)), .a 9 (.mv (.t 28))] [7, 9, 22, 23, 24, 25, 26, 27, 28] [26, 1026, 2026, 3026])
  (.reg [] [.a 29 (.mv (.t 6)), .a 30 (.ld 3 true (.t 8)), .a 31 (.lit 3 1 [(.bool false), (.sl 1 []), (.sl 1 [])] [(0, 3, (.t 30))]), .a 32 (.app 3 56 (.t 29) (.t 31)), .a 6 (.mv (.t 32))] [8, 29, 30, 31, 32] [8]))))
  (.reg [] [.a 33 (.bin .add (.t 19) (.c (.int .i64 1))), .a 19 (.mv (.t 33))] [33] []))))
def dendron_weigh_Table_All : R.Fn := ⟨2, [(.t 4), (.t 5)], (.seq (.reg [] [.a 4 (.mv (.c (.sl 3 []))), .a 5 (.mv (.c (.int .i64 0)))] [4, 5] [])
  (.seq (.seq (.reg [] [.a 10 (.mv (.t 0)), .a 11 (.pnil false (.t 10))] [10] [])
  (.cond (.t 11) (.seq (.reg [] [.a 4 (.mv (.c (.sl 3 []))), .a 5 (.mv (.c (.int .i64 18)))] [0, 1, 11] [])
  .ret) .skip))
  (.seq (.seq (.reg [] [.a 12 (.mv (.t 1)), .a 13 (.bin .lss (.t 12) (.c (.int .i64 1))), .a 14 (.mv (.t 13)), .g 15 14 false (.mv (.t 1)), .g 16 14 false (.bin .gtr (.t 15) (.c (.int .i64 64))), .a 17 (.pick (.t 14) (.c (.bool true)) (.t 16))] [11, 12, 13, 14, 15, 16] [])
  (.cond (.t 17) (.seq (.reg [] [.a 4 (.mv (.c (.sl 3 []))), .a 5 (.mv (.c (.int .i64 8)))] [0, 1, 17] [])
  .ret) .skip))
  (.seq (.reg [] [.a 6 (.nil 3)] [17] [])
  (.seq (.seq (.reg [] [.a 18 (.mv (.t 1)), .a 19 (.mv (.c (.int .i64 0)))] [] [])
  (.block 0 (.loop [] [] dendron_weigh_Table_All.b0)))
  (.seq (.reg [] [.a 34 (.mv (.t 6)), .a 4 (.mv (.t 34)), .a 5 (.mv (.c (.int .i64 0)))] [0, 1, 6, 18, 19, 20, 34] [])
  .ret))))))⟩
def dendron_weigh_Table_All.hint : R.Hint := { nil := [6], callk := [(26, [true, false, false])], kill := [(0, [4, 5], []), (1, [10], []), (2, [0, 1, 11], []), (3, [11, 12, 13, 14, 15, 16], []), (4, [0, 1, 17], []), (5, [17], []), (8, [20, 21], []), (9, [7, 9, 22, 23, 24, 25, 26, 27, 28], [26, 1026, 2026, 3026]), (10, [8, 29, 30, 31, 32], [8]), (11, [33], []), (12, [0, 1, 6, 18, 19, 20, 34], [])] }
theorem dendron_weigh_Table_All.ok : cFn Tryz.prog dendron_weigh_Table_All.hint Tryz.f63 = some dendron_weigh_Table_All := by kernel_rfl
def bits_Len : R.Fn := ⟨1, [(.t 2)], (.seq (.reg [] [.a 2 (.mv (.c (.int .i64 0)))] [2] [])
  (.seq (.cond (.c (.bool false)) (.seq (.reg [] [.a 3 (.mv (.t 0)), .a 4 (.conv .u32 (.t 3)), .a 5 (.call F.bits_Len32 [(.t 4)]), .a 2 (.mv (.t 5))] [0, 3, 4, 5] [])
  .ret) .skip)
  (.seq (.reg [] [.a 6 (.mv (.t 0)), .a 7 (.call F.bits_Len64 [(.t 6)]), .a 2 (.mv (.t 7))] [0, 6, 7] [])
  .ret)))⟩
def bits_Len.hint : R.Hint := { kill := [(0, [2], []), (1, [0, 3, 4, 5], []), (2, [0, 6, 7], [])] }
theorem bits_Len.ok : cFn Tryz.prog bits_Len.hint Tryz.f66 = some bits_Len := by kernel_rfl
def bits_OnesCount32 : R.Fn := ⟨1, [(.t 2)], (.seq (.reg [] [.a 2 (.mv (.c (.int .i64 0)))] [2] [])
  (.seq (.reg [] [.a 3 (.mv (.t 0)), .a 4 (.bin .shr (.t 3) (.c (.int .u64 24))), .a 5 (.sI (.c (.str ⟨#[0, 1, 1, 2, 1, 2, 2, 3, 1, 2, 2, 3, 2, 3, 3, 4, 1, 2, 2, 3, 2, 3, 3, 4, 2, 3, 3, 4, 3, 4, 4, 5, 1, 2, 2, 3, 2, 3, 3, 4, 2, 3, 3, 4, 3, 4, 4, 5, 2, 3, 3, 4, 3, 4, 4, 5, 3, 4, 4, 5, 4, 5, 5, 6, 1, 2, 2, 3, 2, 3, 3, 4, 2, 3, 3, 4, 3, 4, 4, 5, 2, 3, 3, 4, 3, 4, 4, 5, 3, 4, 4, 5, 4, 5, 5, 6, 2, 3, 3, 4, 3, 4, 4, 5, 3, 4, 4, 5, 4, 5, 5, 6, 3, 4, 4, 5, 4, 5, 5, 6, 4, 5, 5, 6, 5, 6, 6, 7, 1, 2, 2, 3, 2, 3, 3, 4, 2, 3, 3, 4, 3, 4, 4, 5, 2, 3, 3, 4, 3, 4, 4, 5, 3, 4, 4, 5, 4, 5, 5, 6, 2, 3, 3, 4, 3, 4, 4, 5, 3, 4, 4, 5, 4, 5, 5, 6, 3, 4, 4, 5, 4, 5, 5, 6, 4, 5, 5, 6, 5, 6, 6, 7, 2, 3, 3, 4, 3, 4, 4, 5, 3, 4, 4, 5, 4, 5, 5, 6, 3, 4, 4, 5, 4, 5, 5, 6, 4, 5, 5, 6, 5, 6, 6, 7, 3, 4, 4, 5, 4, 5, 5, 6, 4, 5, 5, 6, 5, 6, 6, 7, 4, 5, 5, 6, 5, 6, 6, 7, 5, 6, 6, 7, 6, 7, 7, 8]⟩)) (.t 4)), .a 6 (.mv (.t 0)), .a 7 (.bin .shr (.t 6) (.c (.int .u64 16))), .a 8 (.bin .and (.t 7) (.c (.int .u32 255))), .a 9 (.sI (.c (.str ⟨#[0, 1, 1, 2, 1, 2, 2, 3, 1, 2, 2, 3, 2, 3, 3, 4, 1, 2, 2, 3, 2, 3, 3, 4, 2, 3, 3, 4, 3, 4, 4, 5, 1, 2, 2, 3, 2, 3, 3, 4, 2, 3, 3, 4, 3, 4, 4, 5, 2, 3, 3, 4, 3, 4, 4, 5, 3, 4, 4, 5, 4, 5, 5, 6, 1, 2, 2, 3, 2, 3, 3, 4, 2, 3, 3, 4, 3, 4, 4, 5, 2, 3, 3, 4, 3, 4, 4, 5, 3, 4, 4, 5, 4, 5, 5, 6, 2, 3, 3, 4, 3, 4, 4, 5, 3, 4, 4, 5, 4, 5, 5, 6, 3, 4, 4, 5, 4, 5, 5, 6, 4, 5, 5, 6, 5, 6, 6, 7, 1, 2, 2, 3, 2, 3, 3, 4, 2, 3, 3, 4, 3, 4, 4, 5, 2, 3, 3, 4, 3, 4, 4, 5, 3, 4, 4, 5, 4, 5, 5, 6, 2, 3, 3, 4, 3, 4, 4, 5, 3, 4, 4, 5, 4, 5, 5, 6, 3, 4, 4, 5, 4, 5, 5, 6, 4, 5, 5, 6, 5, 6, 6, 7, 2, 3, 3, 4, 3, 4, 4, 5, 3, 4, 4, 5, 4, 5, 5, 6, 3, 4, 4, 5, 4, 5, 5, 6, 4, 5, 5, 6, 5, 6, 6, 7, 3, 4, 4, 5, 4, 5, 5, 6, 4, 5, 5, 6, 5, 6, 6, 7, 4, 5, 5, 6, 5, 6, 6, 7, 5, 6, 6, 7, 6, 7, 7, 8]⟩)) (.t 8)), .a 10 (.bin .add (.t 5) (.t 9)), .a 11 (.mv (.t 0)), .a 12 (.bin .shr (.t 11) (.c (.int .u64 8))), .a 13 (.bin .and (.t 12) (.c (.int .u32 255))), .a 14 (.sI (.c (.str ⟨#[0, 1, 1, 2, 1, 2, 2, 3, 1, 2, 2, 3, 2, 3, 3, 4, 1, 2, 2, 3, 2, 3, 3, 4, 2, 3, 3, 4, 3, 4, 4, 5, 1, 2, 2, 3, 2, 3, 3, 4, 2, 3, 3, 4, 3, 4, 4, 5, 2, 3, 3, 4, 3, 4, 4, 5, 3, 4, 4, 5, 4, 5, 5, 6, 1, 2, 2, 3, 2, 3, 3, 4, 2, 3, 3, 4, 3, 4, 4, 5, 2, 3, 3, 4, 3, 4, 4, 5, 3, 4, 4, 5, 4, 5, 5, 6, 2, 3, 3, 4, 3, 4, 4, 5, 3, 4, 4, 5, 4, 5, 5, 6, 3, 4, 4, 5, 4, 5, 5, 6, 4, 5, 5, 6, 5, 6, 6, 7, 1, 2, 2, 3, 2, 3, 3, 4, 2, 3, 3, 4, 3, 4, 4, 5, 2, 3, 3, 4, 3, 4, 4, 5, 3, 4, 4, 5, 4, 5, 5, 6, 2, 3, 3, 4, 3, 4, 4, 5, 3, 4, 4, 5, 4, 5, 5, 6, 3, 4, 4, 5, 4, 5, 5, 6, 4, 5, 5, 6, 5, 6, 6, 7, 2, 3, 3, 4, 3, 4, 4, 5, 3, 4, 4, 5, 4, 5, 5, 6, 3, 4, 4, 5, 4, 5, 5, 6, 4, 5, 5, 6, 5, 6, 6, 7, 3, 4, 4, 5, 4, 5, 5, 6, 4, 5, 5, 6, 5, 6, 6, 7, 4, 5, 5, 6, 5, 6, 6, 7, 5, 6, 6, 7, 6, 7, 7, 8]⟩)) (.t 13)), .a 15 (.bin .add (.t 10) (.t 14)), .a 16 (.mv (.t 0)), .a 17 (.bin .and (.t 16) (.c (.int .u32 255))), .a 18 (.sI (.c (.str ⟨#[0, 1, 1, 2, 1, 2, 2, 3, 1, 2, 2, 3, 2, 3, 3, 4, 1, 2, 2, 3, 2, 3, 3, 4, 2, 3, 3, 4, 3, 4, 4, 5, 1, 2, 2, 3, 2, 3, 3, 4, 2, 3, 3, 4, 3, 4, 4, 5, 2, 3, 3, 4, 3, 4, 4, 5, 3, 4, 4, 5, 4, 5, 5, 6, 1, 2, 2, 3, 2, 3, 3, 4, 2, 3, 3, 4, 3, 4, 4, 5, 2, 3, 3, 4, 3, 4, 4, 5, 3, 4, 4, 5, 4, 5, 5, 6, 2, 3, 3, 4, 3, 4, 4, 5, 3, 4, 4, 5, 4, 5, 5, 6, 3, 4, 4, 5, 4, 5, 5, 6, 4, 5, 5, 6, 5, 6, 6, 7, 1, 2, 2, 3, 2, 3, 3, 4, 2, 3, 3, 4, 3, 4, 4, 5, 2, 3, 3, 4, 3, 4, 4, 5, 3, 4, 4, 5, 4, 5, 5, 6, 2, 3, 3, 4, 3, 4, 4, 5, 3, 4, 4, 5, 4, 5, 5, 6, 3, 4, 4, 5, 4, 5, 5, 6, 4, 5, 5, 6, 5, 6, 6, 7, 2, 3, 3, 4, 3, 4, 4, 5, 3, 4, 4, 5, 4, 5, 5, 6, 3, 4, 4, 5, 4, 5, 5, 6, 4, 5, 5, 6, 5, 6, 6, 7, 3, 4, 4, 5, 4, 5, 5, 6, 4, 5, 5, 6, 5, 6, 6, 7, 4, 5, 5, 6, 5, 6, 6, 7, 5, 6, 6, 7, 6, 7, 7, 8]⟩)) (.t 17)), .a 19 (.bin .add (.t 15) (.t 18)), .a 20 (.conv .i64 (.t 19)), .a 2 (.mv (.t 20))] [0, 3, 4, 5, 6, 7, 8, 9, 10, 11, 12, 13, 14, 15, 16, 17, 18, 19, 20] [])
  .ret))⟩
def bits_OnesCount32.hint : R.Hint := { kill := [(0, [2], []), (1, [0, 3, 4, 5, 6, 7, 8, 9, 10, 11, 12, 13, 14, 15, 16, 17, 18, 19, 20], [])] }
theorem bits_OnesCount32.ok : cFn Tryz.prog bits_OnesCount32.hint Tryz.f67 = some bits_OnesCount32 := by kernel_rfl
def bits_OnesCount64 : R.Fn := ⟨1, [(.t 2)], (.seq (.reg [] [.a 2 (.mv (.c (.int .i64 0)))] [2] [])
  (.seq (.reg [] [.a 3 (.mv (.t 0)), .a 4 (.bin .shr (.t 3) (.c (.int .u64 1))), .a 5 (.bin .and (.t 4) (.c (.int .u64 6148914691236517205))), .a 6 (.mv (.t 0)), .a 7 (.bin .and (.t 6) (.c (.int .u64 6148914691236517205))), .a 8 (.bin .add (.t 5) (.t 7)), .a 0 (.mv (.t 8))] [3, 4, 5, 6, 7, 8] [])
  (.seq (.reg [] [.a 9 (.mv (.t 0)), .a 10 (.bin .shr (.t 9) (.c (.int .u64 2))), .a 11 (.bin .and (.t 10) (.c (.int .u64 3689348814741910323))), .a 12 (.mv (.t 0)), .a 13 (.bin .and (.t 12) (.c (.int .u64 3689348814741910323))), .a 14 (.bin .add (.t 11) (.t 13)), .a 0 (.mv (.t 14))] [9, 10, 11, 12, 13, 14] [])
  (.seq (.reg [] [.a 15 (.mv (.t 0)), .a 16 (.bin .shr (.t 15) (.c (.int .u64 4))), .a 17 (.mv (.t 0)), .a 18 (.bin .add (.t 16) (.t 17)), .a 19 (.bin .and (.t 18) (.c (.int .u64 1085102592571150095))), .a 0 (.mv (.t 19))] [15, 16, 17, 18, 19] [])
  (.seq (.reg [] [.a 20 (.mv (.t 0)), .a 21 (.mv (.t 0)), .a 22 (.bin .shr (.t 21) (.c (.int .u64 8))), .a 23 (.bin .add (.t 20) (.t 22)), .a 0 (.mv (.t 23))] [20, 21, 22, 23] [])
  (.seq (.reg [] [.a 24 (.mv (.t 0)), .a 25 (.mv (.t 0)), .a 26 (.bin .shr (.t 25) (.c (.int .u64 16))), .a 27 (.bin .add (.t 24) (.t 26)), .a 0 (.mv (.t 27))] [24, 25, 26, 27] [])
  (.seq (.reg [] [.a 28 (.mv (.t 0)), .a 29 (.mv (.t 0)), .a 30 (.bin .shr (.t 29) (.c (.int .u64 32))), .a 31 (.bin .add (.t 28) (.t 30)), .a 0 (.mv (.t 31))] [28, 29, 30, 31] [])
  (.seq (.reg [] [.a 32 (.mv (.t 0)), .a 33 (.conv .i64 (.t 32)), .a 34 (.bin .and (.t 33) (.c (.int .i64 127))), .a 2 (.mv (.t 34))] [0, 32, 33, 34] [])
  .ret))))))))⟩
def bits_OnesCount64.hint : R.Hint := { kill := [(0, [2], []), (1, [3, 4, 5, 6, 7, 8], []), (2, [9, 10, 11, 12, 13, 14], []), (3, [15, 16, 17, 18, 19], []), (4, [20, 21, 22, 23], []), (5, [24, 25, 26, 27], []), (6, [28, 29, 30, 31], []), (7, [0, 32, 33, 34], [])] }
theorem bits_OnesCount64.ok : cFn Tryz.prog bits_OnesCount64.hint Tryz.f68 = some bits_OnesCount64 := by kernel_rfl
def nat_trim.b0 : R.C := (.seq (.seq (.reg [] [.a 6 (.mv (.t 3)), .a 7 (.bin .gtr (.t 6) (.c (.int .i64 0))), .a 8 (.mv (.t 7)), .g 9 8 true (.mv (.t 0)), .g 10 8 true (.mv (.t 3)), .g 11 8 true (.bin .sub (.t 10) (.c (.int .i64 1))), .g 12 8 true (.iA 1 (.t 9) (.t 11)), .g 13 8 true (.ld 1 false (.t 12)), .g 14 8 true (.bin .eql (.t 13) (.c (.int .u64 0))), .a 15 (.pick (.t 8) (.t 14) (.c (.bool false)))] [6, 7, 8, 9, 10, 11, 12, 13, 14] [])
  (.cond (.t 15) .skip (.exit 0)))
  (.block 1 (.reg [] [.a 16 (.mv (.t 3)), .a 17 (.bin .sub (.t 16) (.c (.int .i64 1))), .a 3 (.mv (.t 17))] [15, 16, 17] [])))
def nat_trim : R.Fn := ⟨1, [(.own 2)], (.seq (.reg [] [.a 2 (.mv (.c (.sl 1 [])))] [2] [])
  (.seq (.reg [] [.a 4 (.mv (.t 0)), .a 5 (.ln (.t 4)), .a 3 (.mv (.t 5))] [4, 5] [])
  (.seq (.block 0 (.loop [] [] nat_trim.b0))
  (.seq (.seq (.reg [] [.a 18 (.mv (.t 3)), .a 19 (.bin .eql (.t 18) (.c (.int .i64 0)))] [15, 18] [])
  (.cond (.t 19) (.seq (.reg [] [.a 2 (.mv (.c (.sl 1 [])))] [0, 3, 19] [])
  .ret) .skip))
  (.seq (.reg [] [.a 20 (.mv (.t 0)), .a 21 (.mv (.t 3)), .a 22 (.slc 1 (.t 20) none (some (.t 21))), .a 2 (.mv (.t 22))] [0, 3, 19, 20, 21, 22] [])
  .ret)))))⟩
def nat_trim.hint : R.Hint := { kill := [(0, [2], []), (1, [4, 5], []), (2, [6, 7, 8, 9, 10, 11, 12, 13, 14], []), (3, [15, 16, 17], []), (4, [15, 18], []), (5, [0, 3, 19], []), (6, [0, 3, 19, 20, 21, 22], [])], own := true }
theorem nat_trim.ok : cFn Tryz.prog nat_trim.hint Tryz.f69 = some nat_trim := by kernel_rfl
def nat_Clean.b0 : R.C := (.seq (.reg [] [.a 12 (.bin .lss (.t 11) (.t 10))] [] [])
  (.seq (.cond (.t 12) .skip (.exit 0))
  (.seq (.block 1 (.seq (.reg [] [.a 13 (.mv (.t 11)), .a 14 (.iA 1 (.t 9) (.t 11)), .a 15 (.ld 1 false (.t 14)), .a 4 (.mv (.t 13)), .a 5 (.mv (.t 15))] [12, 13, 14, 15] [])
  (.reg [] [.a 16 (.mv (.t 3)), .a 17 (.mv (.t 4)), .a 18 (.mv (.t 5)), .a 19 (.bin .and (.t 18) (.c (.int .u64 4294967295))), .a 20 (.iA 1 (.t 16) (.t 17)), .n (.st 1 (.t 20) (.t 19))] [4, 5, 16, 17, 18, 19, 20] [])))
  (.reg [] [.a 21 (.bin .add (.t 11) (.c (.int .i64 1))), .a 11 (.mv (.t 21))] [21] []))))
def nat_Clean : R.Fn := ⟨1, [(.t 2)], (.seq (.reg [] [.a 2 (.mv (.c (.sl 1 [])))] [2] [])
  (.seq (.reg [] [.a 6 (.mv (.t 0)), .a 7 (.ln (.t 6)), .a 8 (.mk 1 8 [(.int .u64 0)] (.t 7) (.t 7)), .a 3 (.mv (.t 8))] [6, 7, 8] [])
  (.seq (.seq (.reg [] [.a 9 (.mv (.t 0)), .a 10 (.ln (.t 9)), .a 11 (.mv (.c (.int .i64 0)))] [0] [])
  (.block 0 (.loop [] [] nat_Clean.b0)))
  (.seq (.reg [3] [.a 22 (.mv (.t 3)), .a 23 (.call F.nat_trim [(.t 22)]), .a 2 (.mv (.t 23))] [3, 9, 10, 11, 12, 22, 23] [8])
  .ret))))⟩
def nat_Clean.hint : R.Hint := { pub := [(7, [3])], kill := [(0, [2], []), (1, [6, 7, 8], []), (2, [0], []), (4, [12, 13, 14, 15], []), (5, [4, 5, 16, 17, 18, 19, 20], []), (6, [21], []), (7, [3, 9, 10, 11, 12, 22, 23], [8])] }
theorem nat_Clean.ok : cFn Tryz.prog nat_Clean.hint Tryz.f71 = some nat_Clean := by kernel_rfl
def whole_Clean : R.Fn := ⟨1, [(.cell 2 2 true)], (.seq (.reg [] [.a 1 (.box (.t 0)), .a 2 (.new [(.bool false), (.sl 1 [])])] [0] [])
  (.seq (.reg [] [.a 3 (.fA 0 (.t 1)), .a 4 (.ld 1 false (.t 3)), .a 5 (.fA 1 (.t 1)), .a 6 (.ld 1 false (.t 5)), .a 7 (.call F.nat_Clean [(.t 6)]), .a 8 (.call F.whole_sign [(.t 4), (.t 7)]), .n (.st 2 (.t 2) (.t 8))] [1, 3, 4, 5, 6, 7, 8] [1])
  .ret))⟩
def whole_Clean.hint : R.Hint := { kill := [(0, [0], []), (1, [1, 3, 4, 5, 6, 7, 8], [1])] }
theorem whole_Clean.ok : cFn Tryz.prog whole_Clean.hint Tryz.f72 = some whole_Clean := by kernel_rfl
def nat_DivMod : R.Fn := ⟨2, [(.t 4), (.t 5), (.t 6)], (.seq (.reg [] [.a 4 (.mv (.c (.sl 1 []))), .a 5 (.mv (.c (.sl 1 []))), .a 6 (.mv (.c (.int .i64 0)))] [4, 5, 6] [])
  (.seq (.reg [] [.a 11 (.mv (.t 0)), .a 12 (.call F.nat_Clean [(.t 11)]), .a 13 (.mv (.t 1)), .a 14 (.call F.nat_Clean [(.t 13)]), .a 0 (.mv (.t 12)), .a 1 (.mv (.t 14))] [11, 12, 13, 14] [])
  (.seq (.block 0 (.seq (.reg [] [.a 16 (.mv (.t 1)), .a 17 (.ln (.t 16)), .a 18 (.bin .eql (.t 17) (.c (.int .i64 0))), .a 15 (.mv (.t 18))] [16, 17, 18] [])
  (.cond (.t 15) (.seq (.reg [] [.a 4 (.mv (.c (.sl 1 []))), .a 5 (.mv (.c (.sl 1 []))), .a 6 (.mv (.c (.int .i64 2)))] [0, 1, 15] [])
  .ret) (.seq (.reg [] [.a 20 (.mv (.t 0)), .a 21 (.mv (.t 1)), .a 22 (.call F.nat_order [(.t 20), (.t 21)]), .a 23 (.bin .lss (.t 22) (.c (.int .i64 0))), .a 19 (.mv (.t 23))] [15, 20, 21, 22, 23] [])
  (.cond (.t 19) (.seq (.reg [] [.a 24 (.mv (.t 0)), .a 4 (.mv (.c (.sl 1 []))), .a 5 (.mv (.t 24)), .a 6 (.mv (.c (.int .i64 0)))] [0, 1, 19, 24] [])
  .ret) (.seq (.reg [] [.a 26 (.mv (.t 1)), .a 27 (.ln (.t 26)), .a 28 (.bin .eql (.t 27) (.c (.int .i64 1))), .a 25 (.mv (.t 28))] [19, 26, 27, 28] [])
  (.cond (.t 25) (.seq (.reg [] [.a 30 (.mv (.t 0)), .a 31 (.mv (.t 1)), .a 32 (.iA 1 (.t 31) (.c (.int .i64 0))), .a 33 (.ld 1 false (.t 32)), .a 34 (.call F.nat_small [(.t 30), (.t 33)]), .a 29 (.mv (.t 34)), .a 35 (.ext (.t 29) 0), .a 36 (.ext (.t 29) 1), .a 7 (.mv (.t 35)), .a 8 (.mv (.t 36))] [0, 1, 25, 29, 30, 31, 32, 33, 34, 35, 36] [])
  (.seq (.reg [] [.a 37 (.mv (.t 7)), .a 38 (.mv (.t 8)), .a 39 (.call F.nat_Of [(.t 38)]), .a 4 (.mv (.t 37)), .a 5 (.mv (.t 39)), .a 6 (.mv (.c (.int .i64 0)))] [7, 8, 37, 38, 39] [])
  .ret)) .skip)))))))
  (.seq (.reg [] [.a 41 (.mv (.t 0)), .a 42 (.mv (.t 1)), .a 43 (.call F.nat_long [(.t 41), (.t 42)]), .a 40 (.mv (.t 43)), .a 44 (.ext (.t 40) 0), .a 45 (.ext (.t 40) 1), .a 9 (.mv (.t 44)), .a 10 (.mv (.t 45))] [0, 1, 25, 40, 41, 42, 43, 44, 45] [])
  (.seq (.reg [] [.a 46 (.mv (.t 9)), .a 47 (.mv (.t 10)), .a 4 (.mv (.t 46)), .a 5 (.mv (.t 47)), .a 6 (.mv (.c (.int .i64 0)))] [9, 10, 46, 47] [])
  .ret)))))⟩
def nat_DivMod.hint : R.Hint := { kill := [(0, [4, 5, 6], []), (1, [11, 12, 13, 14], []), (2, [16, 17, 18], []), (3, [0, 1, 15], []), (4, [15, 20, 21, 22, 23], []), (5, [0, 1, 19, 24], []), (6, [19, 26, 27, 28], []), (7, [0, 1, 25, 29, 30, 31, 32, 33, 34, 35, 36], []), (8, [7, 8, 37, 38, 39], []), (9, [0, 1, 25, 40, 41, 42, 43, 44, 45], []), (10, [9, 10, 46, 47], [])] }
theorem nat_DivMod.ok : cFn Tryz.prog nat_DivMod.hint Tryz.f73 = some nat_DivMod := by kernel_rfl
def whole_sign : R.Fn := ⟨2, [(.cell 4 2 true)], (.seq (.reg [] [.a 4 (.new [(.bool false), (.sl 1 [])])] [] [])
  (.seq (.reg [] [.a 5 (.mv (.t 0)), .a 6 (.mv (.t 5)), .g 7 6 true (.mv (.t 1)), .g 8 6 true (.ln (.t 7)), .g 9 6 true (.bin .gtr (.t 8) (.c (.int .i64 0))), .a 10 (.pick (.t 6) (.t 9) (.c (.bool false))), .a 11 (.mv (.t 1)), .a 12 (.bld [(.bool false), (.sl 1 [])] [(0, 1, (.t 10)), (1, 1, (.t 11))]), .n (.st 2 (.t 4) (.t 12))] [0, 1, 5, 6, 7, 8, 9, 10, 11, 12] [])
  .ret))⟩
def whole_sign.hint : R.Hint := { kill := [(1, [0, 1, 5, 6, 7, 8, 9, 10, 11, 12], [])] }
theorem whole_sign.ok : cFn Tryz.prog whole_sign.hint Tryz.f74 = some whole_sign := by kernel_rfl
def nat_Add.b0 : R.C := (.seq (.reg [] [.a 22 (.bin .lss (.t 21) (.t 20))] [] [])
  (.seq (.cond (.t 22) .skip (.exit 0))
  (.seq (.block 1 (.seq (.reg [] [.a 23 (.mv (.t 21)), .a 7 (.mv (.t 23))] [22, 23] [])
  (.seq (.reg [] [.a 24 (.mv (.t 6)), .a 25 (.mv (.t 0)), .a 26 (.mv (.t 7)), .a 27 (.call F.nat_limb [(.t 25), (.t 26)]), .a 28 (.mv (.t 1)), .a 29 (.mv (.t 7)), .a 30 (.call F.nat_limb [(.t 28), (.t 29)]), .a 31 (.bin .add (.t 27) (.t 30)), .a 32 (.bin .add (.t 24) (.t 31)), .a 6 (.mv (.t 32))] [24, 25, 26, 27, 28, 29, 30, 31, 32] [])
  (.seq (.reg [] [.a 33 (.mv (.t 5)), .a 34 (.mv (.t 7)), .a 35 (.mv (.t 6)), .a 36 (.bin .and (.t 35) (.c (.int .u64 4294967295))), .a 37 (.iA 1 (.t 33) (.t 34)), .n (.st 1 (.t 37) (.t 36))] [7, 33, 34, 35, 36, 37] [])
  (.reg [] [.a 38 (.mv (.t 6)), .a 39 (.bin .shr (.t 38) (.c (.int .u64 32))), .a 6 (.mv (.t 39))] [38, 39] [])))))
  (.reg [] [.a 40 (.bin .add (.t 21) (.c (.int .i64 1))), .a 21 (.mv (.t 40))] [40] []))))
def nat_Add : R.Fn := ⟨2, [(.t 4)], (.seq (.reg [] [.a 4 (.mv (.c (.sl 1 [])))] [4] [])
  (.seq (.reg [] [.a 8 (.mv (.t 0)), .a 9 (.call F.nat_Clean [(.t 8)]), .a 10 (.mv (.t 1)), .a 11 (.call F.nat_Clean [(.t 10)]), .a 0 (.mv (.t 9)), .a 1 (.mv (.t 11))] [8, 9, 10, 11] [])
  (.seq (.reg [] [.a 12 (.mv (.t 0)), .a 13 (.ln (.t 12)), .a 14 (.mv (.t 1)), .a 15 (.ln (.t 14)), .a 16 (.mx (.t 13) (.t 15)), .a 17 (.bin .add (.t 16) (.c (.int .i64 1))), .a 18 (.mk 1 8 [(.int .u64 0)] (.t 17) (.t 17)), .a 5 (.mv (.t 18))] [12, 13, 14, 15, 16, 17, 18] [])
  (.seq (.reg [] [.a 6 (.mv (.c (.int .u64 0)))] [] [])
  (.seq (.seq (.reg [] [.a 19 (.mv (.t 5)), .a 20 (.ln (.t 19)), .a 21 (.mv (.c (.int .i64 0)))] [19] [])
  (.block 0 (.loop [] [] nat_Add.b0)))
  (.seq (.reg [5] [.a 41 (.mv (.t 5)), .a 42 (.call F.nat_trim [(.t 41)]), .a 4 (.mv (.t 42))] [0, 1, 5, 6, 20, 21, 22, 41, 42] [18])
  .ret))))))⟩
def nat_Add.hint : R.Hint := { pub := [(11, [5])], kill := [(0, [4], []), (1, [8, 9, 10, 11], []), (2, [12, 13, 14, 15, 16, 17, 18], []), (4, [19], []), (6, [22, 23], []), (7, [24, 25, 26, 27, 28, 29, 30, 31, 32], []), (8, [7, 33, 34, 35, 36, 37], []), (9, [38, 39], []), (10, [40], []), (11, [0, 1, 5, 6, 20, 21, 22, 41, 42], [18])] }
theorem nat_Add.ok : cFn Tryz.prog nat_Add.hint Tryz.f75 = some nat_Add := by kernel_rfl
def nat_Sub : R.Fn := ⟨2, [(.t 4), (.t 5)], (.seq (.reg [] [.a 4 (.mv (.c (.sl 1 []))), .a 5 (.mv (.c (.int .i64 0)))] [4, 5] [])
  (.seq (.reg [] [.a 6 (.mv (.t 0)), .a 7 (.call F.nat_Clean [(.t 6)]), .a 8 (.mv (.t 1)), .a 9 (.call F.nat_Clean [(.t 8)]), .a 0 (.mv (.t 7)), .a 1 (.mv (.t 9))] [6, 7, 8, 9] [])
  (.seq (.seq (.reg [] [.a 10 (.mv (.t 0)), .a 11 (.mv (.t 1)), .a 12 (.call F.nat_order [(.t 10), (.t 11)]), .a 13 (.bin .lss (.t 12) (.c (.int .i64 0)))] [10, 11, 12] [])
  (.cond (.t 13) (.seq (.reg [] [.a 4 (.mv (.c (.sl 1 []))), .a 5 (.mv (.c (.int .i64 3)))] [0, 1, 13] [])
  .ret) .skip))
  (.seq (.reg [] [.a 14 (.mv (.t 0)), .a 15 (.mv (.t 1)), .a 16 (.call F.nat_minus [(.t 14), (.t 15)]), .a 4 (.mv (.t 16)), .a 5 (.mv (.c (.int .i64 0)))] [0, 1, 13, 14, 15, 16] [])
  .ret))))⟩
def nat_Sub.hint : R.Hint := { kill := [(0, [4, 5], []), (1, [6, 7, 8, 9], []), (2, [10, 11, 12], []), (3, [0, 1, 13], []), (4, [0, 1, 13, 14, 15, 16], [])] }
theorem nat_Sub.ok : cFn Tryz.prog nat_Sub.hint Tryz.f76 = some nat_Sub := by kernel_rfl
def whole_Neg : R.Fn := ⟨1, [(.cell 2 2 true)], (.seq (.reg [] [.a 1 (.box (.t 0)), .a 2 (.new [(.bool false), (.sl 1 [])])] [0] [])
  (.seq (.reg [] [.a 3 (.ld 2 true (.t 1)), .a 4 (.call F.whole_Clean [(.t 3)]), .n (.st 2 (.t 1) (.t 4))] [3, 4] [])
  (.seq (.reg [] [.a 5 (.fA 0 (.t 1)), .a 6 (.ld 1 false (.t 5)), .a 7 (.un .not (.t 6)), .a 8 (.fA 1 (.t 1)), .a 9 (.ld 1 false (.t 8)), .a 10 (.call F.whole_sign [(.t 7), (.t 9)]), .n (.st 2 (.t 2) (.t 10))] [1, 5, 6, 7, 8, 9, 10] [1])
  .ret)))⟩
def whole_Neg.hint : R.Hint := { kill := [(0, [0], []), (1, [3, 4], []), (2, [1, 5, 6, 7, 8, 9, 10], [1])] }
theorem whole_Neg.ok : cFn Tryz.prog whole_Neg.hint Tryz.f77 = some whole_Neg := by kernel_rfl
def nat_euclid.b0 : R.C := (.seq (.seq (.reg [] [.a 19 (.mv (.t 7)), .a 20 (.bin .neq (.t 19) (.c (.int .u64 0)))] [19] [])
  (.cond (.t 20) .skip (.exit 0)))
  (.block 1 (.reg [] [.a 21 (.mv (.t 7)), .a 22 (.mv (.t 5)), .a 23 (.mv (.t 7)), .a 24 (.bin .rem (.t 22) (.t 23)), .a 5 (.mv (.t 21)), .a 7 (.mv (.t 24))] [20, 21, 22, 23, 24] [])))
def nat_euclid : R.Fn := ⟨2, [(.t 4)], (.seq (.reg [] [.a 4 (.mv (.c (.sl 1 [])))] [4] [])
  (.seq (.reg [] [.a 10 (.mv (.t 0)), .a 11 (.call F.nat_To [(.t 10)]), .a 9 (.mv (.t 11)), .a 12 (.ext (.t 9) 0), .a 13 (.ext (.t 9) 1), .a 5 (.mv (.t 12)), .a 6 (.mv (.t 13))] [0, 6, 9, 10, 11, 12, 13] [])
  (.seq (.reg [] [.a 15 (.mv (.t 1)), .a 16 (.call F.nat_To [(.t 15)]), .a 14 (.mv (.t 16)), .a 17 (.ext (.t 14) 0), .a 18 (.ext (.t 14) 1), .a 7 (.mv (.t 17)), .a 8 (.mv (.t 18))] [1, 8, 14, 15, 16, 17, 18] [])
  (.seq (.block 0 (.loop [] [] nat_euclid.b0))
  (.seq (.reg [] [.a 25 (.mv (.t 5)), .a 26 (.call F.nat_Of [(.t 25)]), .a 4 (.mv (.t 26))] [5, 7, 20, 25, 26] [])
  .ret)))))⟩
def nat_euclid.hint : R.Hint := { kill := [(0, [4], []), (1, [0, 6, 9, 10, 11, 12, 13], []), (2, [1, 8, 14, 15, 16, 17, 18], []), (3, [19], []), (4, [20, 21, 22, 23, 24], []), (5, [5, 7, 20, 25, 26], [])] }
theorem nat_euclid.ok : cFn Tryz.prog nat_euclid.hint Tryz.f78 = some nat_euclid := by kernel_rfl
def nat_zeros.b0 : R.C := (.seq (.reg [] [.a 9 (.bin .lss (.t 8) (.t 7))] [] [])
  (.seq (.cond (.t 9) .skip (.exit 0))
  (.seq (.block 1 (.seq (.reg [] [.a 10 (.mv (.t 8)), .a 11 (.iA 1 (.t 6) (.t 8)), .a 12 (.ld 1 false (.t 11)), .a 4 (.mv (.t 10)), .a 5 (.mv (.t 12))] [9, 10, 11, 12] [])
  (.seq (.seq (.reg [] [.a 13 (.mv (.t 5)), .a 14 (.bin .neq (.t 13) (.c (.int .u64 0)))] [13] [])
  (.cond (.t 14) (.seq (.reg [] [.a 15 (.mv (.t 4)), .a 16 (.bin .mul (.c (.int .i64 32)) (.t 15)), .a 17 (.mv (.t 5)), .a 18 (.call F.bits_TrailingZeros64 [(.t 17)]), .a 19 (.bin .add (.t 16) (.t 18)), .a 2 (.mv (.t 19))] [3, 4, 5, 6, 7, 8, 14, 15, 16, 17, 18, 19] [])
  .ret) .skip))
  (.reg [] [.a 20 (.mv (.t 3)), .a 21 (.bin .add (.t 20) (.c (.int .i64 32))), .a 3 (.mv (.t 21))] [4, 5, 14, 20, 21] []))))
  (.reg [] [.a 22 (.bin .add (.t 8) (.c (.int .i64 1))), .a 8 (.mv (.t 22))] [22] []))))
def nat_zeros : R.Fn := ⟨1, [(.t 2)], (.seq (.reg [] [.a 2 (.mv (.c (.int .i64 0)))] [2] [])
  (.seq (.reg [] [.a 3 (.mv (.c (.int .i64 0)))] [] [])
  (.seq (.seq (.reg [] [.a 6 (.mv (.t 0)), .a 7 (.ln (.t 6)), .a 8 (.mv (.c (.int .i64 0)))] [0] [])
  (.block 0 (.loop [] [] nat_zeros.b0)))
  (.seq (.reg [] [.a 23 (.mv (.t 3)), .a 2 (.mv (.t 23))] [3, 6, 7, 8, 9, 23] [])
  .ret))))⟩
def nat_zeros.hint : R.Hint := { kill := [(0, [2], []), (2, [0], []), (4, [9, 10, 11, 12], []), (5, [13], []), (6, [3, 4, 5, 6, 7, 8, 14, 15, 16, 17, 18, 19], []), (7, [4, 5, 14, 20, 21], []), (8, [22], []), (9, [3, 6, 7, 8, 9, 23], [])] }
theorem nat_zeros.ok : cFn Tryz.prog nat_zeros.hint Tryz.f79 = some nat_zeros := by kernel_rfl
def nat_shr.b0 : R.C := (.seq (.reg [] [.a 25 (.bin .lss (.t 24) (.t 23))] [] [])
  (.seq (.cond (.t 25) .skip (.exit 0))
  (.seq (.block 1 (.seq (.reg [] [.a 26 (.mv (.t 24)), .a 8 (.mv (.t 26))] [25, 26] [])
  (.reg [] [.a 27 (.mv (.t 7)), .a 28 (.mv (.t 8)), .a 29 (.mv (.t 0)), .a 30 (.mv (.t 8)), .a 31 (.mv (.t 5)), .a 32 (.bin .add (.t 30) (.t 31)), .a 33 (.bin .add (.t 32) (.c (.int .i64 1))), .a 34 (.call F.nat_limb [(.t 29), (.t 33)]), .a 35 (.bin .shl (.t 34) (.c (.int .u64 32))), .a 36 (.mv (.t 0)), .a 37 (.mv (.t 8)), .a 38 (.mv (.t 5)), .a 39 (.bin .add (.t 37) (.t 38)), .a 40 (.iA 1 (.t 36) (.t 39)), .a 41 (.ld 1 false (.t 40)), .a 42 (.bin .or (.t 35) (.t 41)), .a 43 (.mv (.t 6)), .a 44 (.bin .shr (.t 42) (.t 43)), .a 45 (.bin .and (.t 44) (.c (.int .u64 4294967295))), .a 46 (.iA 1 (.t 27) (.t 28)), .n (.st 1 (.t 46) (.t 45))] [8, 27, 28, 29, 30, 31, 32, 33, 34, 35, 36, 37, 38, 39, 40, 41, 42, 43, 44, 45, 46] [])))
  (.reg [] [.a 47 (.bin .add (.t 24) (.c (.int .i64 1))), .a 24 (.mv (.t 47))] [47] []))))
def nat_shr : R.Fn := ⟨2, [(.t 4)], (.seq (.reg [] [.a 4 (.mv (.c (.sl 1 [])))] [4] [])
  (.seq (.reg [] [.a 9 (.mv (.t 1)), .a 10 (.bin .quo (.t 9) (.c (.int .i64 32))), .a 11 (.mv (.t 1)), .a 12 (.bin .rem (.t 11) (.c (.int .i64 32))), .a 5 (.mv (.t 10)), .a 6 (.mv (.t 12))] [1, 9, 10, 11, 12] [])
  (.seq (.seq (.reg [] [.a 13 (.mv (.t 5)), .a 14 (.mv (.t 0)), .a 15 (.ln (.t 14)), .a 16 (.bin .geq (.t 13) (.t 15))] [13, 14, 15] [])
  (.cond (.t 16) (.seq (.reg [] [.a 4 (.mv (.c (.sl 1 [])))] [0, 5, 6, 16] [])
  .ret) .skip))
  (.seq (.reg [] [.a 17 (.mv (.t 0)), .a 18 (.ln (.t 17)), .a 19 (.mv (.t 5)), .a 20 (.bin .sub (.t 18) (.t 19)), .a 21 (.mk 1 8 [(.int .u64 0)] (.t 20) (.t 20)), .a 7 (.mv (.t 21))] [16, 17, 18, 19, 20, 21] [])
  (.seq (.seq (.reg [] [.a 22 (.mv (.t 7)), .a 23 (.ln (.t 22)), .a 24 (.mv (.c (.int .i64 0)))] [22] [])
  (.block 0 (.loop [] [] nat_shr.b0)))
  (.seq (.reg [7] [.a 48 (.mv (.t 7)), .a 49 (.call F.nat_trim [(.t 48)]), .a 4 (.mv (.t 49))] [0, 5, 6, 7, 23, 24, 25, 48, 49] [21])
  .ret))))))⟩
def nat_shr.hint : R.Hint := { pub := [(10, [7])], kill := [(0, [4], []), (1, [1, 9, 10, 11, 12], []), (2, [13, 14, 15], []), (3, [0, 5, 6, 16], []), (4, [16, 17, 18, 19, 20, 21], []), (5, [22], []), (7, [25, 26], []), (8, [8, 27, 28, 29, 30, 31, 32, 33, 34, 35, 36, 37, 38, 39, 40, 41, 42, 43, 44, 45, 46], []), (9, [47], []), (10, [0, 5, 6, 7, 23, 24, 25, 48, 49], [21])] }
theorem nat_shr.ok : cFn Tryz.prog nat_shr.hint Tryz.f80 = some nat_shr := by kernel_rfl
def nat_order.b1 : R.C := (.seq (.seq (.reg [] [.a 21 (.mv (.t 5)), .a 22 (.bin .geq (.t 21) (.c (.int .i64 0)))] [21] [])
  (.cond (.t 22) .skip (.exit 1)))
  (.seq (.block 2 (.block 3 (.seq (.reg [] [.a 26 (.mv (.t 0)), .a 27 (.mv (.t 5)), .a 28 (.iA 1 (.t 26) (.t 27)), .a 29 (.ld 1 false (.t 28)), .a 30 (.mv (.t 1)), .a 31 (.mv (.t 5)), .a 32 (.iA 1 (.t 30) (.t 31)), .a 33 (.ld 1 false (.t 32)), .a 34 (.bin .lss (.t 29) (.t 33)), .a 25 (.mv (.t 34))] [22, 26, 27, 28, 29, 30, 31, 32, 33, 34] [])
  (.cond (.t 25) (.seq (.reg [] [.a 4 (.mv (.c (.int .i64 (-1))))] [0, 1, 5, 25] [])
  .ret) (.seq (.reg [] [.a 36 (.mv (.t 0)), .a 37 (.mv (.t 5)), .a 38 (.iA 1 (.t 36) (.t 37)), .a 39 (.ld 1 false (.t 38)), .a 40 (.mv (.t 1)), .a 41 (.mv (.t 5)), .a 42 (.iA 1 (.t 40) (.t 41)), .a 43 (.ld 1 false (.t 42)), .a 44 (.bin .gtr (.t 39) (.t 43)), .a 35 (.mv (.t 44))] [25, 36, 37, 38, 39, 40, 41, 42, 43, 44] [])
  (.cond (.t 35) (.seq (.reg [] [.a 4 (.mv (.c (.int .i64 1)))] [0, 1, 5, 35] [])
  .ret) .skip))))))
  (.reg [] [.a 23 (.mv (.t 5)), .a 24 (.bin .sub (.t 23) (.c (.int .i64 1))), .a 5 (.mv (.t 24))] [23, 24, 35] [])))
def nat_order : R.Fn := ⟨2, [(.t 4)], (.seq (.reg [] [.a 4 (.mv (.c (.int .i64 0)))] [4] [])
  (.seq (.block 0 (.seq (.reg [] [.a 7 (.mv (.t 0)), .a 8 (.ln (.t 7)), .a 9 (.mv (.t 1)), .a 10 (.ln (.t 9)), .a 11 (.bin .lss (.t 8) (.t 10)), .a 6 (.mv (.t 11))] [7, 8, 9, 10, 11] [])
  (.cond (.t 6) (.seq (.reg [] [.a 4 (.mv (.c (.int .i64 (-1))))] [0, 1, 6] [])
  .ret) (.seq (.reg [] [.a 13 (.mv (.t 0)), .a 14 (.ln (.t 13)), .a 15 (.mv (.t 1)), .a 16 (.ln (.t 15)), .a 17 (.bin .gtr (.t 14) (.t 16)), .a 12 (.mv (.t 17))] [6, 13, 14, 15, 16, 17] [])
  (.cond (.t 12) (.seq (.reg [] [.a 4 (.mv (.c (.int .i64 1)))] [0, 1, 12] [])
  .ret) .skip)))))
  (.seq (.seq (.reg [] [.a 18 (.mv (.t 0)), .a 19 (.ln (.t 18)), .a 20 (.bin .sub (.t 19) (.c (.int .i64 1))), .a 5 (.mv (.t 20))] [12, 18, 19, 20] [])
  (.block 1 (.loop [] [] nat_order.b1)))
  (.seq (.reg [] [.a 4 (.mv (.c (.int .i64 0)))] [0, 1, 5, 22] [])
  .ret))))⟩
def nat_order.hint : R.Hint := { kill := [(0, [4], []), (1, [7, 8, 9, 10, 11], []), (2, [0, 1, 6], []), (3, [6, 13, 14, 15, 16, 17], []), (4, [0, 1, 12], []), (5, [12, 18, 19, 20], []), (6, [21], []), (7, [23, 24, 35], []), (8, [22, 26, 27, 28, 29, 30, 31, 32, 33, 34], []), (9, [0, 1, 5, 25], []), (10, [25, 36, 37, 38, 39, 40, 41, 42, 43, 44], []), (11, [0, 1, 5, 35], []), (12, [0, 1, 5, 22], [])] }
theorem nat_order.ok : cFn Tryz.prog nat_order.hint Tryz.f81 = some nat_order := by kernel_rfl
def nat_shl.b0 : R.C := (.seq (.reg [] [.a 23 (.bin .lss (.t 22) (.t 21))] [] [])
  (.seq (.cond (.t 23) .skip (.exit 0))
  (.seq (.block 1 (.seq (.reg [] [.a 24 (.mv (.t 22)), .a 25 (.iA 1 (.t 20) (.t 22)), .a 26 (.ld 1 false (.t 25)), .a 8 (.mv (.t 24)), .a 9 (.mv (.t 26))] [23, 24, 25, 26] [])
  (.seq (.reg [] [.a 27 (.mv (.t 9)), .a 28 (.mv (.t 6)), .a 29 (.bin .shl (.t 27) (.t 28)), .a 9 (.mv (.t 29))] [27, 28, 29] [])
  (.seq (.reg [] [.a 30 (.mv (.t 7)), .a 31 (.mv (.t 8)), .a 32 (.mv (.t 5)), .a 33 (.bin .add (.t 31) (.t 32)), .a 34 (.iA 1 (.t 30) (.t 33)), .a 35 (.ld 1 false (.t 34)), .a 36 (.mv (.t 9)), .a 37 (.bin .and (.t 36) (.c (.int .u64 4294967295))), .a 38 (.bin .or (.t 35) (.t 37)), .a 39 (.iA 1 (.t 30) (.t 33)), .n (.st 1 (.t 39) (.t 38))] [30, 31, 32, 33, 34, 35, 36, 37, 38, 39] [])
  (.reg [] [.a 40 (.mv (.t 7)), .a 41 (.mv (.t 8)), .a 42 (.mv (.t 5)), .a 43 (.bin .add (.t 41) (.t 42)), .a 44 (.bin .add (.t 43) (.c (.int .i64 1))), .a 45 (.mv (.t 9)), .a 46 (.bin .shr (.t 45) (.c (.int .u64 32))), .a 47 (.iA 1 (.t 40) (.t 44)), .n (.st 1 (.t 47) (.t 46))] [8, 9, 40, 41, 42, 43, 44, 45, 46, 47] [])))))
  (.reg [] [.a 48 (.bin .add (.t 22) (.c (.int .i64 1))), .a 22 (.mv (.t 48))] [48] []))))
def nat_shl : R.Fn := ⟨2, [(.own 4)], (.seq (.reg [] [.a 4 (.mv (.c (.sl 1 [])))] [4] [])
  (.seq (.reg [] [.a 10 (.mv (.t 1)), .a 11 (.bin .quo (.t 10) (.c (.int .i64 32))), .a 12 (.mv (.t 1)), .a 13 (.bin .rem (.t 12) (.c (.int .i64 32))), .a 5 (.mv (.t 11)), .a 6 (.mv (.t 13))] [1, 10, 11, 12, 13] [])
  (.seq (.reg [] [.a 14 (.mv (.t 0)), .a 15 (.ln (.t 14)), .a 16 (.mv (.t 5)), .a 17 (.bin .add (.t 15) (.t 16)), .a 18 (.bin .add (.t 17) (.c (.int .i64 1))), .a 19 (.mk 1 8 [(.int .u64 0)] (.t 18) (.t 18)), .a 7 (.mv (.t 19))] [14, 15, 16, 17, 18, 19] [])
  (.seq (.seq (.reg [] [.a 20 (.mv (.t 0)), .a 21 (.ln (.t 20)), .a 22 (.mv (.c (.int .i64 0)))] [0] [])
  (.block 0 (.loop [] [] nat_shl.b0)))
  (.seq (.reg [] [.a 49 (.mv (.t 7)), .a 50 (.callk F.nat_trim [(true, (.t 49))]), .a 4 (.mv (.t 50))] [5, 6, 7, 20, 21, 22, 23, 49, 50] [])
  .ret)))))⟩
def nat_shl.hint : R.Hint := { callk := [(50, [true])], kill := [(0, [4], []), (1, [1, 10, 11, 12, 13], []), (2, [14, 15, 16, 17, 18, 19], []), (3, [0], []), (5, [23, 24, 25, 26], []), (6, [27, 28, 29], []), (7, [30, 31, 32, 33, 34, 35, 36, 37, 38, 39], []), (8, [8, 9, 40, 41, 42, 43, 44, 45, 46, 47], []), (9, [48], []), (10, [5, 6, 7, 20, 21, 22, 23, 49, 50], [])], own := true }
theorem nat_shl.ok : cFn Tryz.prog nat_shl.hint Tryz.f82 = some nat_shl := by kernel_rfl
def nat_rest : R.Fn := ⟨2, [(.t 4), (.t 5)], (.seq (.reg [] [.a 4 (.mv (.c (.sl 1 []))), .a 5 (.mv (.c (.sl 1 [])))] [4, 5] [])
  (.seq (.reg [] [.a 10 (.mv (.t 0)), .a 11 (.mv (.t 1)), .a 12 (.call F.nat_DivMod [(.t 10), (.t 11)]), .a 9 (.mv (.t 12)), .a 13 (.ext (.t 9) 0), .a 14 (.ext (.t 9) 1), .a 15 (.ext (.t 9) 2), .a 6 (.mv (.t 13)), .a 7 (.mv (.t 14)), .a 8 (.mv (.t 15))] [0, 1, 8, 9, 10, 11, 12, 13, 14, 15] [])
  (.seq (.reg [] [.a 16 (.mv (.t 6)), .a 17 (.mv (.t 7)), .a 4 (.mv (.t 16)), .a 5 (.mv (.t 17))] [6, 7, 16, 17] [])
  .ret)))⟩
def nat_rest.hint : R.Hint := { kill := [(0, [4, 5], []), (1, [0, 1, 8, 9, 10, 11, 12, 13, 14, 15], []), (2, [6, 7, 16, 17], [])] }
theorem nat_rest.ok : cFn Tryz.prog nat_rest.hint Tryz.f83 = some nat_rest := by kernel_rfl
def nat_minus.b0 : R.C := (.seq (.reg [] [.a 15 (.bin .lss (.t 14) (.t 13))] [] [])
  (.seq (.cond (.t 15) .skip (.exit 0))
  (.seq (.block 1 (.seq (.reg [] [.a 16 (.mv (.t 14)), .a 7 (.mv (.t 16))] [15, 16] [])
  (.seq (.reg [] [.a 17 (.mv (.t 0)), .a 18 (.mv (.t 7)), .a 19 (.iA 1 (.t 17) (.t 18)), .a 20 (.ld 1 false (.t 19)), .a 21 (.bin .add (.c (.int .u64 4294967296)) (.t 20)), .a 22 (.mv (.t 1)), .a 23 (.mv (.t 7)), .a 24 (.call F.nat_limb [(.t 22), (.t 23)]), .a 25 (.bin .sub (.t 21) (.t 24)), .a 26 (.mv (.t 6)), .a 27 (.bin .sub (.t 25) (.t 26)), .a 8 (.mv (.t 27))] [6, 17, 18, 19, 20, 21, 22, 23, 24, 25, 26, 27] [])
  (.seq (.reg [] [.a 28 (.mv (.t 5)), .a 29 (.mv (.t 7)), .a 30 (.mv (.t 8)), .a 31 (.bin .and (.t 30) (.c (.int .u64 4294967295))), .a 32 (.iA 1 (.t 28) (.t 29)), .n (.st 1 (.t 32) (.t 31))] [7, 28, 29, 30, 31, 32] [])
  (.reg [] [.a 33 (.mv (.t 8)), .a 34 (.bin .shr (.t 33) (.c (.int .u64 32))), .a 35 (.bin .sub (.c (.int .u64 1)) (.t 34)), .a 6 (.mv (.t 35))] [8, 33, 34, 35] [])))))
  (.reg [] [.a 36 (.bin .add (.t 14) (.c (.int .i64 1))), .a 14 (.mv (.t 36))] [36] []))))
def nat_minus : R.Fn := ⟨2, [(.t 4)], (.seq (.reg [] [.a 4 (.mv (.c (.sl 1 [])))] [4] [])
  (.seq (.reg [] [.a 9 (.mv (.t 0)), .a 10 (.ln (.t 9)), .a 11 (.mk 1 8 [(.int .u64 0)] (.t 10) (.t 10)), .a 5 (.mv (.t 11))] [9, 10, 11] [])
  (.seq (.reg [] [.a 6 (.mv (.c (.int .u64 0)))] [] [])
  (.seq (.seq (.reg [] [.a 12 (.mv (.t 5)), .a 13 (.ln (.t 12)), .a 14 (.mv (.c (.int .i64 0)))] [12] [])
  (.block 0 (.loop [] [] nat_minus.b0)))
  (.seq (.reg [5] [.a 37 (.mv (.t 5)), .a 38 (.call F.nat_trim [(.t 37)]), .a 4 (.mv (.t 38))] [0, 1, 5, 6, 13, 14, 15, 37, 38] [11])
  .ret)))))⟩
def nat_minus.hint : R.Hint := { pub := [(10, [5])], kill := [(0, [4], []), (1, [9, 10, 11], []), (3, [12], []), (5, [15, 16], []), (6, [6, 17, 18, 19, 20, 21, 22, 23, 24, 25, 26, 27], []), (7, [7, 28, 29, 30, 31, 32], []), (8, [8, 33, 34, 35], []), (9, [36], []), (10, [0, 1, 5, 6, 13, 14, 15, 37, 38], [11])] }
theorem nat_minus.ok : cFn Tryz.prog nat_minus.hint Tryz.f84 = some nat_minus := by kernel_rfl
def whole_Cmp : R.Fn := ⟨2, [(.t 4)], (.seq (.reg [] [.a 2 (.box (.t 0)), .a 3 (.box (.t 1)), .a 4 (.mv (.c (.int .i64 0)))] [0, 1, 4] [])
  (.seq (.reg [] [.a 5 (.ld 2 true (.t 2)), .a 6 (.call F.whole_Clean [(.t 5)]), .a 7 (.ld 2 true (.t 3)), .a 8 (.call F.whole_Clean [(.t 7)]), .n (.st 2 (.t 2) (.t 6)), .n (.st 2 (.t 3) (.t 8))] [5, 6, 7, 8] [])
  (.seq (.block 0 (.seq (.reg [] [.a 10 (.fA 0 (.t 2)), .a 11 (.ld 1 false (.t 10)), .a 12 (.fA 0 (.t 3)), .a 13 (.ld 1 false (.t 12)), .a 14 (.beq true (.t 11) (.t 13)), .a 15 (.mv (.t 14)), .g 16 15 true (.fA 0 (.t 2)), .g 17 15 true (.ld 1 false (.t 16)), .a 18 (.pick (.t 15) (.t 17) (.c (.bool false))), .a 9 (.mv (.t 18))] [10, 11, 12, 13, 14, 15, 16, 17, 18] [])
  (.cond (.t 9) (.seq (.reg [] [.a 4 (.mv (.c (.int .i64 (-1))))] [2, 3, 9] [2, 3])
  .ret) (.seq (.reg [] [.a 20 (.fA 0 (.t 2)), .a 21 (.ld 1 false (.t 20)), .a 22 (.fA 0 (.t 3)), .a 23 (.ld 1 false (.t 22)), .a 24 (.beq true (.t 21) (.t 23)), .a 19 (.mv (.t 24))] [9, 20, 21, 22, 23, 24] [])
  (.cond (.t 19) (.seq (.reg [] [.a 4 (.mv (.c (.int .i64 1)))] [2, 3, 19] [2, 3])
  .ret) (.seq (.reg [] [.a 26 (.fA 0 (.t 2)), .a 27 (.ld 1 false (.t 26)), .a 25 (.mv (.t 27))] [19, 26, 27] [])
  (.cond (.t 25) (.seq (.reg [] [.a 28 (.fA 1 (.t 3)), .a 29 (.ld 1 false (.t 28)), .a 30 (.fA 1 (.t 2)), .a 31 (.ld 1 false (.t 30)), .a 32 (.call F.nat_Cmp [(.t 29), (.t 31)]), .a 4 (.mv (.t 32))] [2, 3, 25, 28, 29, 30, 31, 32] [2, 3])
  .ret) .skip)))))))
  (.seq (.reg [] [.a 33 (.fA 1 (.t 2)), .a 34 (.ld 1 false (.t 33)), .a 35 (.fA 1 (.t 3)), .a 36 (.ld 1 false (.t 35)), .a 37 (.call F.nat_Cmp [(.t 34), (.t 36)]), .a 4 (.mv (.t 37))] [2, 3, 25, 33, 34, 35, 36, 37] [2, 3])
  .ret))))⟩
def whole_Cmp.hint : R.Hint := { kill := [(0, [0, 1, 4], []), (1, [5, 6, 7, 8], []), (2, [10, 11, 12, 13, 14, 15, 16, 17, 18], []), (3, [2, 3, 9], [2, 3]), (4, [9, 20, 21, 22, 23, 24], []), (5, [2, 3, 19], [2, 3]), (6, [19, 26, 27], []), (7, [2, 3, 25, 28, 29, 30, 31, 32], [2, 3]), (8, [2, 3, 25, 33, 34, 35, 36, 37], [2, 3])] }
theorem whole_Cmp.ok : cFn Tryz.prog whole_Cmp.hint Tryz.f85 = some whole_Cmp := by kernel_rfl
def whole_Sign : R.Fn := ⟨1, [(.t 2)], (.seq (.reg [] [.a 1 (.box (.t 0)), .a 2 (.mv (.c (.int .i64 0)))] [0, 2] [])
  (.seq (.reg [] [.a 3 (.ld 2 true (.t 1)), .a 4 (.call F.whole_Clean [(.t 3)]), .n (.st 2 (.t 1) (.t 4))] [3, 4] [])
  (.seq (.block 0 (.seq (.reg [] [.a 6 (.fA 0 (.t 1)), .a 7 (.ld 1 false (.t 6)), .a 5 (.mv (.t 7))] [6, 7] [])
  (.cond (.t 5) (.seq (.reg [] [.a 2 (.mv (.c (.int .i64 (-1))))] [1, 5] [1])
  .ret) (.seq (.reg [] [.a 9 (.fA 1 (.t 1)), .a 10 (.ld 1 false (.t 9)), .a 11 (.ln (.t 10)), .a 12 (.bin .eql (.t 11) (.c (.int .i64 0))), .a 8 (.mv (.t 12))] [1, 5, 9, 10, 11, 12] [1])
  (.cond (.t 8) (.seq (.reg [] [.a 2 (.mv (.c (.int .i64 0)))] [8] [])
  .ret) .skip)))))
  (.seq (.reg [] [.a 2 (.mv (.c (.int .i64 1)))] [8] [])
  .ret))))⟩
def whole_Sign.hint : R.Hint := { kill := [(0, [0, 2], []), (1, [3, 4], []), (2, [6, 7], []), (3, [1, 5], [1]), (4, [1, 5, 9, 10, 11, 12], [1]), (5, [8], []), (6, [8], [])] }
theorem whole_Sign.ok : cFn Tryz.prog whole_Sign.hint Tryz.f86 = some whole_Sign := by kernel_rfl
def bits_Len32 : R.Fn := ⟨1, [(.t 2)], (.seq (.reg [] [.a 2 (.mv (.c (.int .i64 0)))] [] [])
  (.seq (.seq (.reg [] [.a 3 (.mv (.t 0)), .a 4 (.bin .geq (.t 3) (.c (.int .u32 65536)))] [3] [])
  (.cond (.t 4) (.seq (.reg [] [.a 5 (.mv (.t 0)), .a 6 (.bin .shr (.t 5) (.c (.int .u64 16))), .a 0 (.mv (.t 6))] [2, 4, 5, 6] [])
  (.reg [] [.a 2 (.mv (.c (.int .i64 16)))] [] [])) .skip))
  (.seq (.seq (.reg [] [.a 7 (.mv (.t 0)), .a 8 (.bin .geq (.t 7) (.c (.int .u32 256)))] [4, 7] [])
  (.cond (.t 8) (.seq (.reg [] [.a 9 (.mv (.t 0)), .a 10 (.bin .shr (.t 9) (.c (.int .u64 8))), .a 0 (.mv (.t 10))] [8, 9, 10] [])
  (.reg [] [.a 11 (.mv (.t 2)), .a 12 (.bin .add (.t 11) (.c (.int .i64 8))), .a 2 (.mv (.t 12))] [11, 12] [])) .skip))
  (.seq (.reg [] [.a 13 (.mv (.t 2)), .a 14 (.mv (.t 0)), .a 15 (.conv .u8 (.t 14)), .a 16 (.sI (.c (.str ⟨#[0, 1, 2, 2, 3, 3, 3, 3, 4, 4, 4, 4, 4, 4, 4, 4, 5, 5, 5, 5, 5, 5, 5, 5, 5, 5, 5, 5, 5, 5, 5, 5, 6, 6, 6, 6, 6, 6, 6, 6, 6, 6, 6, 6, 6, 6, 6, 6, 6, 6, 6, 6, 6, 6, 6, 6, 6, 6, 6, 6, 6, 6, 6, 6, 7, 7, 7, 7, 7, 7, 7, 7, 7, 7, 7, 7, 7, 7, 7, 7, 7, 7, 7, 7, 7, 7, 7, 7, 7, 7, 7, 7, 7, 7, 7, 7, 7, 7, 7, 7, 7, 7, 7, 7, 7, 7, 7, 7, 7, 7, 7, 7, 7, 7, 7, 7, 7, 7, 7, 7, 7, 7, 7, 7, 7, 7, 7, 7, 8, 8, 8, 8, 8, 8, 8, 8, 8, 8, 8, 8, 8, 8, 8, 8, 8, 8, 8, 8, 8, 8, 8, 8, 8, 8, 8, 8, 8, 8, 8, 8, 8, 8, 8, 8, 8, 8, 8, 8, 8, 8, 8, 8, 8, 8, 8, 8, 8, 8, 8, 8, 8, 8, 8, 8, 8, 8, 8, 8, 8, 8, 8, 8, 8, 8, 8, 8, 8, 8, 8, 8, 8, 8, 8, 8, 8, 8, 8, 8, 8, 8, 8, 8, 8, 8, 8, 8, 8, 8, 8, 8, 8, 8, 8, 8, 8, 8, 8, 8, 8, 8, 8, 8, 8, 8, 8, 8, 8, 8, 8, 8, 8, 8, 8, 8, 8, 8, 8, 8, 8, 8, 8, 8, 8, 8, 8, 8]⟩)) (.t 15)), .a 17 (.conv .i64 (.t 16)), .a 18 (.bin .add (.t 13) (.t 17)), .a 2 (.mv (.t 18))] [0, 8, 13, 14, 15, 16, 17, 18] [])
  .ret))))⟩
def bits_Len32.hint : R.Hint := { kill := [(1, [3], []), (2, [2, 4, 5, 6], []), (4, [4, 7], []), (5, [8, 9, 10], []), (6, [11, 12], []), (7, [0, 8, 13, 14, 15, 16, 17, 18], [])] }
theorem bits_Len32.ok : cFn Tryz.prog bits_Len32.hint Tryz.f93 = some bits_Len32 := by kernel_rfl
def bits_Len64 : R.Fn := ⟨1, [(.t 2)], (.seq (.reg [] [.a 2 (.mv (.c (.int .i64 0)))] [] [])
  (.seq (.seq (.reg [] [.a 3 (.mv (.t 0)), .a 4 (.bin .geq (.t 3) (.c (.int .u64 4294967296)))] [3] [])
  (.cond (.t 4) (.seq (.reg [] [.a 5 (.mv (.t 0)), .a 6 (.bin .shr (.t 5) (.c (.int .u64 32))), .a 0 (.mv (.t 6))] [2, 4, 5, 6] [])
  (.reg [] [.a 2 (.mv (.c (.int .i64 32)))] [] [])) .skip))
  (.seq (.seq (.reg [] [.a 7 (.mv (.t 0)), .a 8 (.bin .geq (.t 7) (.c (.int .u64 65536)))] [4, 7] [])
  (.cond (.t 8) (.seq (.reg [] [.a 9 (.mv (.t 0)), .a 10 (.bin .shr (.t 9) (.c (.int .u64 16))), .a 0 (.mv (.t 10))] [8, 9, 10] [])
  (.reg [] [.a 11 (.mv (.t 2)), .a 12 (.bin .add (.t 11) (.c (.int .i64 16))), .a 2 (.mv (.t 12))] [11, 12] [])) .skip))
  (.seq (.seq (.reg [] [.a 13 (.mv (.t 0)), .a 14 (.bin .geq (.t 13) (.c (.int .u64 256)))] [8, 13] [])
  (.cond (.t 14) (.seq (.reg [] [.a 15 (.mv (.t 0)), .a 16 (.bin .shr (.t 15) (.c (.int .u64 8))), .a 0 (.mv (.t 16))] [14, 15, 16] [])
  (.reg [] [.a 17 (.mv (.t 2)), .a 18 (.bin .add (.t 17) (.c (.int .i64 8))), .a 2 (.mv (.t 18))] [17, 18] [])) .skip))
  (.seq (.reg [] [.a 19 (.mv (.t 2)), .a 20 (.mv (.t 0)), .a 21 (.conv .u8 (.t 20)), .a 22 (.sI (.c (.str ⟨#[0, 1, 2, 2, 3, 3, 3, 3, 4, 4, 4, 4, 4, 4, 4, 4, 5, 5, 5, 5, 5, 5, 5, 5, 5, 5, 5, 5, 5, 5, 5, 5, 6, 6, 6, 6, 6, 6, 6, 6, 6, 6, 6, 6, 6, 6, 6, 6, 6, 6, 6, 6, 6, 6, 6, 6, 6, 6, 6, 6, 6, 6, 6, 6, 7, 7, 7, 7, 7, 7, 7, 7, 7, 7, 7, 7, 7, 7, 7, 7, 7, 7, 7, 7, 7, 7, 7, 7, 7, 7, 7, 7, 7, 7, 7, 7, 7, 7, 7, 7, 7, 7, 7, 7, 7, 7, 7, 7, 7, 7, 7, 7, 7, 7, 7, 7, 7, 7, 7, 7, 7, 7, 7, 7, 7, 7, 7, 7, 8, 8, 8, 8, 8, 8, 8, 8, 8, 8, 8, 8, 8, 8, 8, 8, 8, 8, 8, 8, 8, 8, 8, 8, 8, 8, 8, 8, 8, 8, 8, 8, 8, 8, 8, 8, 8, 8, 8, 8, 8, 8, 8, 8, 8, 8, 8, 8, 8, 8, 8, 8, 8, 8, 8, 8, 8, 8, 8, 8, 8, 8, 8, 8, 8, 8, 8, 8, 8, 8, 8, 8, 8, 8, 8, 8, 8, 8, 8, 8, 8, 8, 8, 8, 8, 8, 8, 8, 8, 8, 8, 8, 8, 8, 8, 8, 8, 8, 8, 8, 8, 8, 8, 8, 8, 8, 8, 8, 8, 8, 8, 8, 8, 8, 8, 8, 8, 8, 8, 8, 8, 8, 8, 8, 8, 8, 8, 8]⟩)) (.t 21)), .a 23 (.conv .i64 (.t 22)), .a 24 (.bin .add (.t 19) (.t 23)), .a 2 (.mv (.t 24))] [0, 14, 19, 20, 21, 22, 23, 24] [])
  .ret)))))⟩
def bits_Len64.hint : R.Hint := { kill := [(1, [3], []), (2, [2, 4, 5, 6], []), (4, [4, 7], []), (5, [8, 9, 10], []), (6, [11, 12], []), (7, [8, 13], []), (8, [14, 15, 16], []), (9, [17, 18], []), (10, [0, 14, 19, 20, 21, 22, 23, 24], [])] }
theorem bits_Len64.ok : cFn Tryz.prog bits_Len64.hint Tryz.f94 = some bits_Len64 := by kernel_rfl
def sync_Once_Do : R.Fn := ⟨2, [], (.seq (.reg [] [.a 4 (.mv (.t 0)), .a 5 (.nck (.t 4)), .a 6 (.fA 0 (.t 5)), .a 7 (.call F.sync_atomic_Bool_Load [(.t 6)]), .a 8 (.un .not (.t 7))] [4, 5, 6, 7] [])
  (.cond (.t 8) (.reg [] [.a 9 (.mv (.t 0)), .a 10 (.mv (.t 1)), .a 11 (.call F.sync_Once_doSlow [(.t 9), (.t 10)])] [0, 1, 8, 9, 10, 11] []) .skip))⟩
def sync_Once_Do.hint : R.Hint := { kill := [(0, [4, 5, 6, 7], []), (1, [0, 1, 8, 9, 10, 11], [])] }
theorem sync_Once_Do.ok : cFn Tryz.prog sync_Once_Do.hint Tryz.f95 = some sync_Once_Do := by kernel_rfl
def weigh_products.b0 : R.C := (.seq (.reg [] [.a 8 (.bin .lss (.t 7) (.c (.int .i64 64)))] [] [])
  (.seq (.cond (.t 8) .skip (.exit 0))
  (.seq (.block 1 (.seq (.reg [] [.a 9 (.mv (.t 7)), .a 3 (.mv (.t 9))] [8, 9] [])
  (.seq (.reg [4294967297] [.a 10 (.ld 2 true (.t 1)), .a 11 (.mv (.t 3)), .a 12 (.bin .add (.t 11) (.c (.int .i64 1))), .a 13 (.call F.whole_Of [(.t 12)]), .a 14 (.call F.whole_Mul [(.t 10), (.t 13)]), .n (.st 2 (.t 1) (.t 14))] [3, 10, 11, 12, 13, 14] [])
  (.reg [] [.a 15 (.mv (.t 2)), .a 16 (.ld 2 true (.t 1)), .a 17 (.lit 2 1 [(.bool false), (.sl 1 [])] [(0, 2, (.t 16))]), .a 18 (.app 2 32 (.t 15) (.t 17)), .a 2 (.mv (.t 18))] [15, 16, 17, 18] []))))
  (.reg [] [.a 19 (.bin .add (.t 7) (.c (.int .i64 1))), .a 7 (.mv (.t 19))] [19] []))))
def weigh_products : R.Fn := ⟨0, [(.t 0)], (.seq (.reg [] [.a 0 (.mv (.c (.sl 2 [])))] [0] [])
  (.seq (.reg [] [.a 4 (.call F.whole_Of [(.c (.int .i64 1))]), .a 1 (.new [(.bool false), (.sl 1 [])]), .n (.st 2 (.t 1) (.t 4))] [4] [])
  (.seq (.reg [] [.a 5 (.ld 2 true (.t 1)), .a 6 (.lito 2 1 [(.bool false), (.sl 1 [])] [(0, 2, (.t 5))]), .a 2 (.mv (.t 6))] [5, 6] [])
  (.seq (.seq (.reg [] [.a 7 (.mv (.c (.int .i64 0)))] [] [])
  (.block 0 (.loop [] [] weigh_products.b0)))
  (.seq (.reg [] [.a 20 (.mv (.t 2)), .a 0 (.mv (.t 20))] [1, 2, 7, 8, 20] [1])
  .ret)))))⟩
def weigh_products.hint : R.Hint := { lit := [6], pub := [(6, [4294967297])], kill := [(0, [0], []), (1, [4], []), (2, [5, 6], []), (5, [8, 9], []), (6, [3, 10, 11, 12, 13, 14], []), (7, [15, 16, 17, 18], []), (8, [19], []), (9, [1, 2, 7, 8, 20], [1])] }
theorem weigh_products.ok : cFn Tryz.prog weigh_products.hint Tryz.f97 = some weigh_products := by kernel_rfl
def nat_small.b0 : R.C := (.seq (.seq (.reg [] [.a 15 (.mv (.t 8)), .a 16 (.bin .geq (.t 15) (.c (.int .i64 0)))] [15] [])
  (.cond (.t 16) .skip (.exit 0)))
  (.seq (.block 1 (.seq (.reg [] [.a 19 (.mv (.t 7)), .a 20 (.bin .shl (.t 19) (.c (.int .u64 32))), .a 21 (.mv (.t 0)), .a 22 (.mv (.t 8)), .a 23 (.iA 1 (.t 21) (.t 22)), .a 24 (.ld 1 false (.t 23)), .a 25 (.bin .or (.t 20) (.t 24)), .a 7 (.mv (.t 25))] [16, 19, 20, 21, 22, 23, 24, 25] [])
  (.seq (.reg [] [.a 26 (.mv (.t 6)), .a 27 (.mv (.t 8)), .a 28 (.mv (.t 7)), .a 29 (.mv (.t 1)), .a 30 (.bin .quo (.t 28) (.t 29)), .a 31 (.iA 1 (.t 26) (.t 27)), .n (.st 1 (.t 31) (.t 30))] [26, 27, 28, 29, 30, 31] [])
  (.reg [] [.a 32 (.mv (.t 7)), .a 33 (.mv (.t 1)), .a 34 (.bin .rem (.t 32) (.t 33)), .a 7 (.mv (.t 34))] [32, 33, 34] []))))
  (.reg [] [.a 17 (.mv (.t 8)), .a 18 (.bin .sub (.t 17) (.c (.int .i64 1))), .a 8 (.mv (.t 18))] [17, 18] [])))
def nat_small : R.Fn := ⟨2, [(.t 4), (.t 5)], (.seq (.reg [] [.a 4 (.mv (.c (.sl 1 []))), .a 5 (.mv (.c (.int .u64 0)))] [4, 5] [])
  (.seq (.reg [] [.a 9 (.mv (.t 0)), .a 10 (.ln (.t 9)), .a 11 (.mk 1 8 [(.int .u64 0)] (.t 10) (.t 10)), .a 6 (.mv (.t 11))] [9, 10, 11] [])
  (.seq (.reg [] [.a 7 (.mv (.c (.int .u64 0)))] [] [])
  (.seq (.seq (.reg [] [.a 12 (.mv (.t 0)), .a 13 (.ln (.t 12)), .a 14 (.bin .sub (.t 13) (.c (.int .i64 1))), .a 8 (.mv (.t 14))] [12, 13, 14] [])
  (.block 0 (.loop [] [] nat_small.b0)))
  (.seq (.reg [6] [.a 35 (.mv (.t 6)), .a 36 (.call F.nat_trim [(.t 35)]), .a 37 (.mv (.t 7)), .a 4 (.mv (.t 36)), .a 5 (.mv (.t 37))] [0, 1, 6, 7, 8, 16, 35, 36, 37] [11])
  .ret)))))⟩
def nat_small.hint : R.Hint := { pub := [(9, [6])], kill := [(0, [4, 5], []), (1, [9, 10, 11], []), (3, [12, 13, 14], []), (4, [15], []), (5, [17, 18], []), (6, [16, 19, 20, 21, 22, 23, 24, 25], []), (7, [26, 27, 28, 29, 30, 31], []), (8, [32, 33, 34], []), (9, [0, 1, 6, 7, 8, 16, 35, 36, 37], [11])] }
theorem nat_small.ok : cFn Tryz.prog nat_small.hint Tryz.f98 = some nat_small := by kernel_rfl
def nat_long.b0 : R.C := (.seq (.seq (.reg [] [.a 42 (.mv (.t 11)), .a 43 (.bin .geq (.t 42) (.c (.int .i64 0)))] [42] [])
  (.cond (.t 43) .skip (.exit 0)))
  (.seq (.block 1 (.reg [7] [.a 46 (.mv (.t 10)), .a 47 (.mv (.t 11)), .a 48 (.mv (.t 8)), .a 49 (.mv (.t 11)), .a 50 (.mv (.t 11)), .a 51 (.mv (.t 9)), .a 52 (.bin .add (.t 50) (.t 51)), .a 53 (.bin .add (.t 52) (.c (.int .i64 1))), .a 54 (.slc 1 (.t 48) (some (.t 49)) (some (.t 53))), .a 55 (.mv (.t 7)), .a 56 (.callk F.nat_digit [(true, (.t 54)), (false, (.t 55))]), .a 57 (.iA 1 (.t 46) (.t 47)), .n (.st 1 (.t 57) (.t 56))] [43, 46, 47, 48, 49, 50, 51, 52, 53, 54, 55, 56, 57] [56]))
  (.reg [] [.a 44 (.mv (.t 11)), .a 45 (.bin .sub (.t 44) (.c (.int .i64 1))), .a 11 (.mv (.t 45))] [44, 45] [])))
def nat_long : R.Fn := ⟨2, [(.t 4), (.t 5)], (.seq (.reg [] [.a 4 (.mv (.c (.sl 1 []))), .a 5 (.mv (.c (.sl 1 [])))] [4, 5] [])
  (.seq (.reg [] [.a 12 (.mv (.t 1)), .a 13 (.mv (.t 1)), .a 14 (.ln (.t 13)), .a 15 (.bin .sub (.t 14) (.c (.int .i64 1))), .a 16 (.iA 1 (.t 12) (.t 15)), .a 17 (.ld 1 false (.t 16)), .a 18 (.conv .u32 (.t 17)), .a 19 (.call F.bits_LeadingZeros32 [(.t 18)]), .a 6 (.mv (.t 19))] [12, 13, 14, 15, 16, 17, 18, 19] [])
  (.seq (.reg [] [.a 20 (.mv (.t 1)), .a 21 (.mv (.t 6)), .a 22 (.callk F.nat_shl [(false, (.t 20)), (false, (.t 21))]), .a 7 (.mv (.t 22))] [1, 20, 21, 22] [])
  (.seq (.reg [] [.a 23 (.mv (.t 0)), .a 24 (.mv (.t 6)), .a 25 (.callk F.nat_shl [(false, (.t 23)), (false, (.t 24))]), .a 26 (.lit 1 2 [(.int .u64 0), (.int .u64 0)] [(0, 1, (.c (.int .u64 0))), (1, 1, (.c (.int .u64 0)))]), .a 27 (.app 1 8 (.t 25) (.t 26)), .a 28 (.mv (.t 0)), .a 29 (.ln (.t 28)), .a 30 (.bin .add (.t 29) (.c (.int .i64 1))), .a 31 (.slc 1 (.t 27) none (some (.t 30))), .a 8 (.mv (.t 31))] [0, 23, 24, 25, 26, 27, 28, 29, 30, 31] [])
  (.seq (.reg [] [.a 32 (.mv (.t 7)), .a 33 (.ln (.t 32)), .a 9 (.mv (.t 33))] [32, 33] [])
  (.seq (.reg [] [.a 34 (.mv (.t 8)), .a 35 (.ln (.t 34)), .a 36 (.mv (.t 9)), .a 37 (.bin .sub (.t 35) (.t 36)), .a 38 (.mk 1 8 [(.int .u64 0)] (.t 37) (.t 37)), .a 10 (.mv (.t 38))] [34, 35, 36, 37, 38] [])
  (.seq (.seq (.reg [] [.a 39 (.mv (.t 10)), .a 40 (.ln (.t 39)), .a 41 (.bin .sub (.t 40) (.c (.int .i64 1))), .a 11 (.mv (.t 41))] [39, 40, 41] [])
  (.block 0 (.loop [] [] nat_long.b0)))
  (.seq (.reg [10, 8] [.a 58 (.mv (.t 10)), .a 59 (.call F.nat_trim [(.t 58)]), .a 60 (.mv (.t 8)), .a 61 (.call F.nat_trim [(.t 60)]), .a 62 (.mv (.t 6)), .a 63 (.call F.nat_shr [(.t 61), (.t 62)]), .a 4 (.mv (.t 59)), .a 5 (.mv (.t 63))] [6, 7, 8, 9, 10, 11, 43, 58, 59, 60, 61, 62, 63] [22, 25, 38])
  .ret))))))))⟩
def nat_long.hint : R.Hint := { callk := [(22, [false, false]), (25, [false, false]), (56, [true, false])], pub := [(9, [7]), (10, [10, 8])], kill := [(0, [4, 5], []), (1, [12, 13, 14, 15, 16, 17, 18, 19], []), (2, [1, 20, 21, 22], []), (3, [0, 23, 24, 25, 26, 27, 28, 29, 30, 31], []), (4, [32, 33], []), (5, [34, 35, 36, 37, 38], []), (6, [39, 40, 41], []), (7, [42], []), (8, [44, 45], []), (9, [43, 46, 47, 48, 49, 50, 51, 52, 53, 54, 55, 56, 57], [56]), (10, [6, 7, 8, 9, 10, 11, 43, 58, 59, 60, 61, 62, 63], [22, 25, 38])] }
theorem nat_long.ok : cFn Tryz.prog nat_long.hint Tryz.f99 = some nat_long := by kernel_rfl
def nat_limb : R.Fn := ⟨2, [(.t 4)], (.seq (.reg [] [.a 4 (.mv (.c (.int .u64 0)))] [4] [])
  (.seq (.seq (.reg [] [.a 5 (.mv (.t 1)), .a 6 (.mv (.t 0)), .a 7 (.ln (.t 6)), .a 8 (.bin .lss (.t 5) (.t 7))] [5, 6, 7] [])
  (.cond (.t 8) (.seq (.reg [] [.a 9 (.mv (.t 0)), .a 10 (.mv (.t 1)), .a 11 (.iA 1 (.t 9) (.t 10)), .a 12 (.ld 1 false (.t 11)), .a 4 (.mv (.t 12))] [0, 1, 8, 9, 10, 11, 12] [])
  .ret) .skip))
  (.seq (.reg [] [.a 4 (.mv (.c (.int .u64 0)))] [0, 1, 8] [])
  .ret)))⟩
def nat_limb.hint : R.Hint := { kill := [(0, [4], []), (1, [5, 6, 7], []), (2, [0, 1, 8, 9, 10, 11, 12], []), (3, [0, 1, 8], [])] }
theorem nat_limb.ok : cFn Tryz.prog nat_limb.hint Tryz.f100 = some nat_limb := by kernel_rfl
def nat_To : R.Fn := ⟨1, [(.t 2), (.t 3)], (.seq (.reg [] [.a 2 (.mv (.c (.int .u64 0))), .a 3 (.mv (.c (.bool false)))] [2, 3] [])
  (.seq (.reg [] [.a 4 (.mv (.t 0)), .a 5 (.call F.nat_Clean [(.t 4)]), .a 0 (.mv (.t 5))] [4, 5] [])
  (.seq (.seq (.reg [] [.a 6 (.mv (.t 0)), .a 7 (.ln (.t 6))] [6] [])
  (.block 0 (.seq (.reg [] [.a 9 (.bin .eql (.t 7) (.c (.int .i64 0))), .a 8 (.mv (.t 9))] [9] [])
  (.cond (.t 8) (.seq (.reg [] [.a 2 (.mv (.c (.int .u64 0))), .a 3 (.mv (.c (.bool true)))] [0, 7, 8] [])
  .ret) (.seq (.reg [] [.a 11 (.bin .eql (.t 7) (.c (.int .i64 1))), .a 10 (.mv (.t 11))] [8, 11] [])
  (.cond (.t 10) (.seq (.reg [] [.a 12 (.mv (.t 0)), .a 13 (.iA 1 (.t 12) (.c (.int .i64 0))), .a 14 (.ld 1 false (.t 13)), .a 2 (.mv (.t 14)), .a 3 (.mv (.c (.bool true)))] [0, 7, 10, 12, 13, 14] [])
  .ret) (.seq (.reg [] [.a 16 (.bin .eql (.t 7) (.c (.int .i64 2))), .a 15 (.mv (.t 16))] [7, 10, 16] [])
  (.cond (.t 15) (.seq (.reg [] [.a 17 (.mv (.t 0)), .a 18 (.iA 1 (.t 17) (.c (.int .i64 1))), .a 19 (.ld 1 false (.t 18)), .a 20 (.bin .shl (.t 19) (.c (.int .u64 32))), .a 21 (.mv (.t 0)), .a 22 (.iA 1 (.t 21) (.c (.int .i64 0))), .a 23 (.ld 1 false (.t 22)), .a 24 (.bin .or (.t 20) (.t 23)), .a 2 (.mv (.t 24)), .a 3 (.mv (.c (.bool true)))] [0, 15, 17, 18, 19, 20, 21, 22, 23, 24] [])
  .ret) .skip))))))))
  (.seq (.reg [] [.a 2 (.mv (.c (.int .u64 0))), .a 3 (.mv (.c (.bool false)))] [0, 15] [])
  .ret))))⟩
def nat_To.hint : R.Hint := { kill := [(0, [2, 3], []), (1, [4, 5], []), (2, [6], []), (3, [9], []), (4, [0, 7, 8], []), (5, [8, 11], []), (6, [0, 7, 10, 12, 13, 14], []), (7, [7, 10, 16], []), (8, [0, 15, 17, 18, 19, 20, 21, 22, 23, 24], []), (9, [0, 15], [])] }
theorem nat_To.ok : cFn Tryz.prog nat_To.hint Tryz.f101 = some nat_To := by kernel_rfl
def bits_LeadingZeros32 : R.Fn := ⟨1, [(.t 2)], (.seq (.reg [] [.a 2 (.mv (.c (.int .i64 0)))] [2] [])
  (.seq (.reg [] [.a 3 (.mv (.t 0)), .a 4 (.call F.bits_Len32 [(.t 3)]), .a 5 (.bin .sub (.c (.int .i64 32)) (.t 4)), .a 2 (.mv (.t 5))] [0, 3, 4, 5] [])
  .ret))⟩
def bits_LeadingZeros32.hint : R.Hint := { kill := [(0, [2], []), (1, [0, 3, 4, 5], [])] }
theorem bits_LeadingZeros32.ok : cFn Tryz.prog bits_LeadingZeros32.hint Tryz.f113 = some bits_LeadingZeros32 := by kernel_rfl
def nat_digit.b0 : R.C := (.seq (.seq (.reg [] [.a 36 (.mv (.t 7)), .a 37 (.bin .geq (.t 36) (.c (.int .u64 4294967296))), .a 38 (.mv (.t 37)), .g 39 38 false (.mv (.t 7)), .g 40 38 false (.mv (.t 1)), .g 41 38 false (.mv (.t 5)), .g 42 38 false (.bin .sub (.t 41) (.c (.int .i64 2))), .g 43 38 false (.iA 1 (.t 40) (.t 42)), .g 44 38 false (.ld 1 false (.t 43)), .g 45 38 false (.bin .mul (.t 39) (.t 44)), .g 46 38 false (.mv (.t 8)), .g 47 38 false (.bin .shl (.t 46) (.c (.int .u64 32))), .g 48 38 false (.mv (.t 0)), .g 49 38 false (.mv (.t 5)), .g 50 38 false (.bin .sub (.t 49) (.c (.int .i64 2))), .g 51 38 false (.iA 1 (.t 48) (.t 50)), .g 52 38 false (.ld 1 false (.t 51)), .g 53 38 false (.bin .or (.t 47) (.t 52)), .g 54 38 false (.bin .gtr (.t 45) (.t 53)), .a 55 (.pick (.t 38) (.c (.bool true)) (.t 54))] [36, 37, 38, 39, 40, 41, 42, 43, 44, 45, 46, 47, 48, 49, 50, 51, 52, 53, 54] [])
  (.cond (.t 55) .skip (.exit 0)))
  (.block 1 (.seq (.reg [] [.a 56 (.mv (.t 7)), .a 57 (.bin .sub (.t 56) (.c (.int .u64 1))), .a 7 (.mv (.t 57))] [55, 56, 57] [])
  (.seq (.reg [] [.a 58 (.mv (.t 8)), .a 59 (.mv (.t 1)), .a 60 (.mv (.t 5)), .a 61 (.bin .sub (.t 60) (.c (.int .i64 1))), .a 62 (.iA 1 (.t 59) (.t 61)), .a 63 (.ld 1 false (.t 62)), .a 64 (.bin .add (.t 58) (.t 63)), .a 8 (.mv (.t 64))] [58, 59, 60, 61, 62, 63, 64] [])
  (.seq (.reg [] [.a 65 (.mv (.t 8)), .a 66 (.bin .geq (.t 65) (.c (.int .u64 4294967296)))] [65] [])
  (.cond (.t 66) (.exit 0) .skip))))))
def nat_digit : R.Fn := ⟨2, [(.own 4)], (.seq (.reg [] [.a 4 (.mv (.c (.int .u64 0)))] [4] [])
  (.seq (.reg [] [.a 9 (.mv (.t 1)), .a 10 (.ln (.t 9)), .a 5 (.mv (.t 10))] [9, 10] [])
  (.seq (.reg [] [.a 11 (.mv (.t 0)), .a 12 (.mv (.t 5)), .a 13 (.iA 1 (.t 11) (.t 12)), .a 14 (.ld 1 false (.t 13)), .a 15 (.bin .shl (.t 14) (.c (.int .u64 32))), .a 16 (.mv (.t 0)), .a 17 (.mv (.t 5)), .a 18 (.bin .sub (.t 17) (.c (.int .i64 1))), .a 19 (.iA 1 (.t 16) (.t 18)), .a 20 (.ld 1 false (.t 19)), .a 21 (.bin .or (.t 15) (.t 20)), .a 6 (.mv (.t 21))] [11, 12, 13, 14, 15, 16, 17, 18, 19, 20, 21] [])
  (.seq (.reg [] [.a 22 (.mv (.t 6)), .a 23 (.mv (.t 1)), .a 24 (.mv (.t 5)), .a 25 (.bin .sub (.t 24) (.c (.int .i64 1))), .a 26 (.iA 1 (.t 23) (.t 25)), .a 27 (.ld 1 false (.t 26)), .a 28 (.bin .quo (.t 22) (.t 27)), .a 29 (.mv (.t 6)), .a 30 (.mv (.t 1)), .a 31 (.mv (.t 5)), .a 32 (.bin .sub (.t 31) (.c (.int .i64 1))), .a 33 (.iA 1 (.t 30) (.t 32)), .a 34 (.ld 1 false (.t 33)), .a 35 (.bin .rem (.t 29) (.t 34)), .a 7 (.mv (.t 28)), .a 8 (.mv (.t 35))] [6, 22, 23, 24, 25, 26, 27, 28, 29, 30, 31, 32, 33, 34, 35] [])
  (.seq (.block 0 (.loop [66] [] nat_digit.b0))
  (.seq (.seq (.reg [] [.a 67 (.mv (.t 0)), .a 68 (.mv (.t 1)), .a 69 (.mv (.t 7)), .a 70 (.callk F.nat_take [(true, (.t 67)), (false, (.t 68)), (false, (.t 69))])] [5, 8, 55, 66, 67, 68, 69] [])
  (.cond (.t 70) (.seq (.reg [] [.a 71 (.mv (.t 7)), .a 72 (.bin .sub (.t 71) (.c (.int .u64 1))), .a 7 (.mv (.t 72))] [70, 71, 72] [70])
  (.reg [] [.a 73 (.mv (.t 0)), .a 74 (.mv (.t 1)), .a 75 (.callk F.nat_give [(true, (.t 73)), (false, (.t 74))])] [0, 1, 73, 74, 75] [75])) .skip))
  (.seq (.reg [] [.a 76 (.mv (.t 7)), .a 4 (.mv (.t 76))] [0, 1, 7, 70, 76] [70])
  .ret)))))))⟩
def nat_digit.hint : R.Hint := { callk := [(70, [true, false, false]), (75, [true, false])], kill := [(0, [4], []), (1, [9, 10], []), (2, [11, 12, 13, 14, 15, 16, 17, 18, 19, 20, 21], []), (3, [6, 22, 23, 24, 25, 26, 27, 28, 29, 30, 31, 32, 33, 34, 35], []), (4, [36, 37, 38, 39, 40, 41, 42, 43, 44, 45, 46, 47, 48, 49, 50, 51, 52, 53, 54], []), (5, [55, 56, 57], []), (6, [58, 59, 60, 61, 62, 63, 64], []), (7, [65], []), (8, [5, 8, 55, 66, 67, 68, 69], []), (9, [70, 71, 72], [70]), (10, [0, 1, 73, 74, 75], [75]), (11, [0, 1, 7, 70, 76], [70])], loop := [(0, [66], [])], own := true }
theorem nat_digit.ok : cFn Tryz.prog nat_digit.hint Tryz.f114 = some nat_digit := by kernel_rfl
def sync_Mutex_Lock : R.Fn := ⟨1, [], (.reg [] [.a 2 (.mv (.t 0)), .a 3 (.nck (.t 2)), .a 4 (.fA 0 (.t 3)), .a 5 (.call F.internal_sync_Mutex_Lock [(.t 4)])] [0, 2, 3, 4, 5] [])⟩
def sync_Mutex_Lock.hint : R.Hint := { kill := [(0, [0, 2, 3, 4, 5], [])] }
theorem sync_Mutex_Lock.ok : cFn Tryz.prog sync_Mutex_Lock.hint Tryz.f128 = some sync_Mutex_Lock := by kernel_rfl
def sync_Mutex_Unlock : R.Fn := ⟨1, [], (.reg [] [.a 2 (.mv (.t 0)), .a 3 (.nck (.t 2)), .a 4 (.fA 0 (.t 3)), .a 5 (.call F.internal_sync_Mutex_Unlock [(.t 4)])] [0, 2, 3, 4, 5] [])⟩
def sync_Mutex_Unlock.hint : R.Hint := { kill := [(0, [0, 2, 3, 4, 5], [])] }
theorem sync_Mutex_Unlock.ok : cFn Tryz.prog sync_Mutex_Unlock.hint Tryz.f129 = some sync_Mutex_Unlock := by kernel_rfl
def nat_take.b0 : R.C := (.seq (.reg [] [.a 14 (.bin .lss (.t 13) (.t 12))] [] [])
  (.seq (.cond (.t 14) .skip (.exit 0))
  (.seq (.block 1 (.seq (.reg [] [.a 15 (.mv (.t 13)), .a 9 (.mv (.t 15))] [14, 15] [])
  (.seq (.reg [] [.a 16 (.mv (.t 7)), .a 17 (.mv (.t 2)), .a 18 (.mv (.t 1)), .a 19 (.mv (.t 9)), .a 20 (.call F.nat_limb [(.t 18), (.t 19)]), .a 21 (.bin .mul (.t 17) (.t 20)), .a 22 (.bin .add (.t 16) (.t 21)), .a 7 (.mv (.t 22))] [16, 17, 18, 19, 20, 21, 22] [])
  (.seq (.reg [] [.a 23 (.mv (.t 0)), .a 24 (.mv (.t 9)), .a 25 (.iA 1 (.t 23) (.t 24)), .a 26 (.ld 1 false (.t 25)), .a 27 (.bin .add (.c (.int .u64 4294967296)) (.t 26)), .a 28 (.mv (.t 7)), .a 29 (.bin .and (.t 28) (.c (.int .u64 4294967295))), .a 30 (.bin .sub (.t 27) (.t 29)), .a 31 (.mv (.t 8)), .a 32 (.bin .sub (.t 30) (.t 31)), .a 10 (.mv (.t 32))] [8, 23, 24, 25, 26, 27, 28, 29, 30, 31, 32] [])
  (.seq (.reg [] [.a 33 (.mv (.t 0)), .a 34 (.mv (.t 9)), .a 35 (.mv (.t 10)), .a 36 (.bin .and (.t 35) (.c (.int .u64 4294967295))), .a 37 (.iA 1 (.t 33) (.t 34)), .n (.st 1 (.t 37) (.t 36))] [9, 33, 34, 35, 36, 37] [])
  (.seq (.reg [] [.a 38 (.mv (.t 10)), .a 39 (.bin .shr (.t 38) (.c (.int .u64 32))), .a 40 (.bin .sub (.c (.int .u64 1)) (.t 39)), .a 8 (.mv (.t 40))] [10, 38, 39, 40] [])
  (.reg [] [.a 41 (.mv (.t 7)), .a 42 (.bin .shr (.t 41) (.c (.int .u64 32))), .a 7 (.mv (.t 42))] [41, 42] [])))))))
  (.reg [] [.a 43 (.bin .add (.t 13) (.c (.int .i64 1))), .a 13 (.mv (.t 43))] [43] []))))
def nat_take : R.Fn := ⟨3, [(.own 6)], (.seq (.reg [] [.a 6 (.mv (.c (.bool false)))] [6] [])
  (.seq (.reg [] [.a 7 (.mv (.c (.int .u64 0))), .a 8 (.mv (.c (.int .u64 0)))] [] [])
  (.seq (.seq (.reg [] [.a 11 (.mv (.t 0)), .a 12 (.ln (.t 11)), .a 13 (.mv (.c (.int .i64 0)))] [11] [])
  (.block 0 (.loop [] [] nat_take.b0)))
  (.seq (.reg [] [.a 44 (.mv (.t 8)), .a 45 (.bin .eql (.t 44) (.c (.int .u64 1))), .a 6 (.mv (.t 45))] [0, 1, 2, 7, 8, 12, 13, 14, 44, 45] [])
  .ret))))⟩
def nat_take.hint : R.Hint := { kill := [(0, [6], []), (2, [11], []), (4, [14, 15], []), (5, [16, 17, 18, 19, 20, 21, 22], []), (6, [8, 23, 24, 25, 26, 27, 28, 29, 30, 31, 32], []), (7, [9, 33, 34, 35, 36, 37], []), (8, [10, 38, 39, 40], []), (9, [41, 42], []), (10, [43], []), (11, [0, 1, 2, 7, 8, 12, 13, 14, 44, 45], [])], own := true }
theorem nat_take.ok : cFn Tryz.prog nat_take.hint Tryz.f131 = some nat_take := by kernel_rfl
def nat_give.b0 : R.C := (.seq (.reg [] [.a 9 (.bin .lss (.t 8) (.t 7))] [] [])
  (.seq (.cond (.t 9) .skip (.exit 0))
  (.seq (.block 1 (.seq (.reg [] [.a 10 (.mv (.t 8)), .a 5 (.mv (.t 10))] [9, 10] [])
  (.seq (.reg [] [.a 11 (.mv (.t 4)), .a 12 (.mv (.t 0)), .a 13 (.mv (.t 5)), .a 14 (.iA 1 (.t 12) (.t 13)), .a 15 (.ld 1 false (.t 14)), .a 16 (.mv (.t 1)), .a 17 (.mv (.t 5)), .a 18 (.call F.nat_limb [(.t 16), (.t 17)]), .a 19 (.bin .add (.t 15) (.t 18)), .a 20 (.bin .add (.t 11) (.t 19)), .a 4 (.mv (.t 20))] [11, 12, 13, 14, 15, 16, 17, 18, 19, 20] [])
  (.seq (.reg [] [.a 21 (.mv (.t 0)), .a 22 (.mv (.t 5)), .a 23 (.mv (.t 4)), .a 24 (.bin .and (.t 23) (.c (.int .u64 4294967295))), .a 25 (.iA 1 (.t 21) (.t 22)), .n (.st 1 (.t 25) (.t 24))] [5, 21, 22, 23, 24, 25] [])
  (.reg [] [.a 26 (.mv (.t 4)), .a 27 (.bin .shr (.t 26) (.c (.int .u64 32))), .a 4 (.mv (.t 27))] [26, 27] [])))))
  (.reg [] [.a 28 (.bin .add (.t 8) (.c (.int .i64 1))), .a 8 (.mv (.t 28))] [28] []))))
def nat_give : R.Fn := ⟨2, [], (.seq (.reg [] [.a 4 (.mv (.c (.int .u64 0)))] [] [])
  (.seq (.reg [] [.a 6 (.mv (.t 0)), .a 7 (.ln (.t 6)), .a 8 (.mv (.c (.int .i64 0)))] [6] [])
  (.block 0 (.loop [] [] nat_give.b0))))⟩
def nat_give.hint : R.Hint := { kill := [(1, [6], []), (3, [9, 10], []), (4, [11, 12, 13, 14, 15, 16, 17, 18, 19, 20], []), (5, [5, 21, 22, 23, 24, 25], []), (6, [26, 27], []), (7, [28], [])], own := true }
theorem nat_give.ok : cFn Tryz.prog nat_give.hint Tryz.f132 = some nat_give := by kernel_rfl
def tab : List (Nat × R.Fn) := [(F.dendronlaw19_GamePairs, dendronlaw19_GamePairs), (F.dendronlaw19_Few, dendronlaw19_Few), (F.game_Pairs, game_Pairs), (F.dendronlaw19_Size, dendronlaw19_Size), (F.dendronlaw19_awake, dendronlaw19_awake), (F.dendronlaw15_Shapley, dendronlaw15_Shapley), (F.weigh_New, weigh_New), (F.ratio_Zero, ratio_Zero), (F.dendronref19_In, dendronref19_In), (F.dendron_weigh_Table_Pair, dendron_weigh_Table_Pair), (F.dendronlaw19_Count, dendronlaw19_Count), (F.ratio_Add, ratio_Add), (F.dendronlaw19_two, dendronlaw19_two), (F.ratio_Mul, ratio_Mul), (F.ratio_Sub, ratio_Sub), (F.ratio_Right, ratio_Right), (F.ratio_Same, ratio_Same), (F.game_Shapley, game_Shapley), (F.dendronlaw19_number, dendronlaw19_number), (F.game_Players, game_Players), (F.bits_OnesCount, bits_OnesCount), (F.game_cross, game_cross), (F.ratio_Of, ratio_Of), (F.dendronlaw15_two, dendronlaw15_two), (F.dendronlaw15_in, dendronlaw15_in), (F.dendronlaw15_size, dendronlaw15_size), (F.dendron_weigh_Table_Weight, dendron_weigh_Table_Weight), (F.nat_Of, nat_Of), (F.dendron_weigh_Table_quotient, dendron_weigh_Table_quotient), (F.ratio_Frac, ratio_Frac), (F.ratio_Clean, ratio_Clean), (F.ratio_form, ratio_form), (F.whole_Add, whole_Add), (F.whole_Mul, whole_Mul), (F.ratio_den, ratio_den), (F.nat_Mul, nat_Mul), (F.ratio_Neg, ratio_Neg), (F.whole_Right, whole_Right), (F.nat_Right, nat_Right), (F.nat_Gcd, nat_Gcd), (F.nat_Cmp, nat_Cmp), (F.ratio_Cmp, ratio_Cmp), (F.ratio_Make, ratio_Make), (F.whole_Of, whole_Of), (F.dendron_weigh_Table_All, dendron_weigh_Table_All), (F.bits_Len, bits_Len), (F.bits_OnesCount32, bits_OnesCount32), (F.bits_OnesCount64, bits_OnesCount64), (F.nat_trim, nat_trim), (F.nat_Clean, nat_Clean), (F.whole_Clean, whole_Clean), (F.nat_DivMod, nat_DivMod), (F.whole_sign, whole_sign), (F.nat_Add, nat_Add), (F.nat_Sub, nat_Sub), (F.whole_Neg, whole_Neg), (F.nat_euclid, nat_euclid), (F.nat_zeros, nat_zeros), (F.nat_shr, nat_shr), (F.nat_order, nat_order), (F.nat_shl, nat_shl), (F.nat_rest, nat_rest), (F.nat_minus, nat_minus), (F.whole_Cmp, whole_Cmp), (F.whole_Sign, whole_Sign), (F.bits_Len32, bits_Len32), (F.bits_Len64, bits_Len64), (F.sync_Once_Do, sync_Once_Do), (F.weigh_products, weigh_products), (F.nat_small, nat_small), (F.nat_long, nat_long), (F.nat_limb, nat_limb), (F.nat_To, nat_To), (F.bits_LeadingZeros32, bits_LeadingZeros32), (F.nat_digit, nat_digit), (F.sync_Mutex_Lock, sync_Mutex_Lock), (F.sync_Mutex_Unlock, sync_Mutex_Unlock), (F.nat_take, nat_take), (F.nat_give, nat_give)]
def ip : R.Ip := fun f => aget tab f
theorem dendronlaw19_GamePairs.ip : ip F.dendronlaw19_GamePairs = some dendronlaw19_GamePairs := rfl
theorem dendronlaw19_Few.ip : ip F.dendronlaw19_Few = some dendronlaw19_Few := rfl
theorem game_Pairs.ip : ip F.game_Pairs = some game_Pairs := rfl
theorem dendronlaw19_Size.ip : ip F.dendronlaw19_Size = some dendronlaw19_Size := rfl
theorem dendronlaw19_awake.ip : ip F.dendronlaw19_awake = some dendronlaw19_awake := rfl
theorem dendronlaw15_Shapley.ip : ip F.dendronlaw15_Shapley = some dendronlaw15_Shapley := rfl
theorem weigh_New.ip : ip F.weigh_New = some weigh_New := rfl
theorem ratio_Zero.ip : ip F.ratio_Zero = some ratio_Zero := rfl
theorem dendronref19_In.ip : ip F.dendronref19_In = some dendronref19_In := rfl
theorem dendron_weigh_Table_Pair.ip : ip F.dendron_weigh_Table_Pair = some dendron_weigh_Table_Pair := rfl
theorem dendronlaw19_Count.ip : ip F.dendronlaw19_Count = some dendronlaw19_Count := rfl
theorem ratio_Add.ip : ip F.ratio_Add = some ratio_Add := rfl
theorem dendronlaw19_two.ip : ip F.dendronlaw19_two = some dendronlaw19_two := rfl
theorem ratio_Mul.ip : ip F.ratio_Mul = some ratio_Mul := rfl
theorem ratio_Sub.ip : ip F.ratio_Sub = some ratio_Sub := rfl
theorem ratio_Right.ip : ip F.ratio_Right = some ratio_Right := rfl
theorem ratio_Same.ip : ip F.ratio_Same = some ratio_Same := rfl
theorem game_Shapley.ip : ip F.game_Shapley = some game_Shapley := rfl
theorem dendronlaw19_number.ip : ip F.dendronlaw19_number = some dendronlaw19_number := rfl
theorem game_Players.ip : ip F.game_Players = some game_Players := rfl
theorem bits_OnesCount.ip : ip F.bits_OnesCount = some bits_OnesCount := rfl
theorem game_cross.ip : ip F.game_cross = some game_cross := rfl
theorem ratio_Of.ip : ip F.ratio_Of = some ratio_Of := rfl
theorem dendronlaw15_two.ip : ip F.dendronlaw15_two = some dendronlaw15_two := rfl
theorem dendronlaw15_in.ip : ip F.dendronlaw15_in = some dendronlaw15_in := rfl
theorem dendronlaw15_size.ip : ip F.dendronlaw15_size = some dendronlaw15_size := rfl
theorem dendron_weigh_Table_Weight.ip : ip F.dendron_weigh_Table_Weight = some dendron_weigh_Table_Weight := rfl
theorem nat_Of.ip : ip F.nat_Of = some nat_Of := rfl
theorem dendron_weigh_Table_quotient.ip : ip F.dendron_weigh_Table_quotient = some dendron_weigh_Table_quotient := rfl
theorem ratio_Frac.ip : ip F.ratio_Frac = some ratio_Frac := rfl
theorem ratio_Clean.ip : ip F.ratio_Clean = some ratio_Clean := rfl
theorem ratio_form.ip : ip F.ratio_form = some ratio_form := rfl
theorem whole_Add.ip : ip F.whole_Add = some whole_Add := rfl
theorem whole_Mul.ip : ip F.whole_Mul = some whole_Mul := rfl
theorem ratio_den.ip : ip F.ratio_den = some ratio_den := rfl
theorem nat_Mul.ip : ip F.nat_Mul = some nat_Mul := rfl
theorem ratio_Neg.ip : ip F.ratio_Neg = some ratio_Neg := rfl
theorem whole_Right.ip : ip F.whole_Right = some whole_Right := rfl
theorem nat_Right.ip : ip F.nat_Right = some nat_Right := rfl
theorem nat_Gcd.ip : ip F.nat_Gcd = some nat_Gcd := rfl
theorem nat_Cmp.ip : ip F.nat_Cmp = some nat_Cmp := rfl
theorem ratio_Cmp.ip : ip F.ratio_Cmp = some ratio_Cmp := rfl
theorem ratio_Make.ip : ip F.ratio_Make = some ratio_Make := rfl
theorem whole_Of.ip : ip F.whole_Of = some whole_Of := rfl
theorem dendron_weigh_Table_All.ip : ip F.dendron_weigh_Table_All = some dendron_weigh_Table_All := rfl
theorem bits_Len.ip : ip F.bits_Len = some bits_Len := rfl
theorem bits_OnesCount32.ip : ip F.bits_OnesCount32 = some bits_OnesCount32 := rfl
theorem bits_OnesCount64.ip : ip F.bits_OnesCount64 = some bits_OnesCount64 := rfl
theorem nat_trim.ip : ip F.nat_trim = some nat_trim := rfl
theorem nat_Clean.ip : ip F.nat_Clean = some nat_Clean := rfl
theorem whole_Clean.ip : ip F.whole_Clean = some whole_Clean := rfl
theorem nat_DivMod.ip : ip F.nat_DivMod = some nat_DivMod := rfl
theorem whole_sign.ip : ip F.whole_sign = some whole_sign := rfl
theorem nat_Add.ip : ip F.nat_Add = some nat_Add := rfl
theorem nat_Sub.ip : ip F.nat_Sub = some nat_Sub := rfl
theorem whole_Neg.ip : ip F.whole_Neg = some whole_Neg := rfl
theorem nat_euclid.ip : ip F.nat_euclid = some nat_euclid := rfl
theorem nat_zeros.ip : ip F.nat_zeros = some nat_zeros := rfl
theorem nat_shr.ip : ip F.nat_shr = some nat_shr := rfl
theorem nat_order.ip : ip F.nat_order = some nat_order := rfl
theorem nat_shl.ip : ip F.nat_shl = some nat_shl := rfl
theorem nat_rest.ip : ip F.nat_rest = some nat_rest := rfl
theorem nat_minus.ip : ip F.nat_minus = some nat_minus := rfl
theorem whole_Cmp.ip : ip F.whole_Cmp = some whole_Cmp := rfl
theorem whole_Sign.ip : ip F.whole_Sign = some whole_Sign := rfl
theorem bits_Len32.ip : ip F.bits_Len32 = some bits_Len32 := rfl
theorem bits_Len64.ip : ip F.bits_Len64 = some bits_Len64 := rfl
theorem sync_Once_Do.ip : ip F.sync_Once_Do = some sync_Once_Do := rfl
theorem weigh_products.ip : ip F.weigh_products = some weigh_products := rfl
theorem nat_small.ip : ip F.nat_small = some nat_small := rfl
theorem nat_long.ip : ip F.nat_long = some nat_long := rfl
theorem nat_limb.ip : ip F.nat_limb = some nat_limb := rfl
theorem nat_To.ip : ip F.nat_To = some nat_To := rfl
theorem bits_LeadingZeros32.ip : ip F.bits_LeadingZeros32 = some bits_LeadingZeros32 := rfl
theorem nat_digit.ip : ip F.nat_digit = some nat_digit := rfl
theorem sync_Mutex_Lock.ip : ip F.sync_Mutex_Lock = some sync_Mutex_Lock := rfl
theorem sync_Mutex_Unlock.ip : ip F.sync_Mutex_Unlock = some sync_Mutex_Unlock := rfl
theorem nat_take.ip : ip F.nat_take = some nat_take := rfl
theorem nat_give.ip : ip F.nat_give = some nat_give := rfl
theorem tab_ok : ∀ p ∈ tab, ∃ h gf, Tryz.prog.funcs[p.1]? = some gf ∧ cFn Tryz.prog h gf = some p.2 := by
  simp only [tab, List.forall_mem_cons]
  exact ⟨⟨dendronlaw19_GamePairs.hint, Tryz.f3, Tryz.func3, dendronlaw19_GamePairs.ok⟩, ⟨dendronlaw19_Few.hint, Tryz.f6, Tryz.func6, dendronlaw19_Few.ok⟩, ⟨game_Pairs.hint, Tryz.f7, Tryz.func7, game_Pairs.ok⟩, ⟨dendronlaw19_Size.hint, Tryz.f8, Tryz.func8, dendronlaw19_Size.ok⟩, ⟨dendronlaw19_awake.hint, Tryz.f9, Tryz.func9, dendronlaw19_awake.ok⟩, ⟨dendronlaw15_Shapley.hint, Tryz.f10, Tryz.func10, dendronlaw15_Shapley.ok⟩, ⟨weigh_New.hint, Tryz.f11, Tryz.func11, weigh_New.ok⟩, ⟨ratio_Zero.hint, Tryz.f12, Tryz.func12, ratio_Zero.ok⟩, ⟨dendronref19_In.hint, Tryz.f13, Tryz.func13, dendronref19_In.ok⟩, ⟨dendron_weigh_Table_Pair.hint, Tryz.f14, Tryz.func14, dendron_weigh_Table_Pair.ok⟩, ⟨dendronlaw19_Count.hint, Tryz.f15, Tryz.func15, dendronlaw19_Count.ok⟩, ⟨ratio_Add.hint, Tryz.f16, Tryz.func16, ratio_Add.ok⟩, ⟨dendronlaw19_two.hint, Tryz.f17, Tryz.func17, dendronlaw19_two.ok⟩, ⟨ratio_Mul.hint, Tryz.f18, Tryz.func18, ratio_Mul.ok⟩, ⟨ratio_Sub.hint, Tryz.f19, Tryz.func19, ratio_Sub.ok⟩, ⟨ratio_Right.hint, Tryz.f20, Tryz.func20, ratio_Right.ok⟩, ⟨ratio_Same.hint, Tryz.f21, Tryz.func21, ratio_Same.ok⟩, ⟨game_Shapley.hint, Tryz.f27, Tryz.func27, game_Shapley.ok⟩, ⟨dendronlaw19_number.hint, Tryz.f30, Tryz.func30, dendronlaw19_number.ok⟩, ⟨game_Players.hint, Tryz.f31, Tryz.func31, game_Players.ok⟩, ⟨bits_OnesCount.hint, Tryz.f32, Tryz.func32, bits_OnesCount.ok⟩, ⟨game_cross.hint, Tryz.f33, Tryz.func33, game_cross.ok⟩, ⟨ratio_Of.hint, Tryz.f34, Tryz.func34, ratio_Of.ok⟩, ⟨dendronlaw15_two.hint, Tryz.f35, Tryz.func35, dendronlaw15_two.ok⟩, ⟨dendronlaw15_in.hint, Tryz.f36, Tryz.func36, dendronlaw15_in.ok⟩, ⟨dendronlaw15_size.hint, Tryz.f37, Tryz.func37, dendronlaw15_size.ok⟩, ⟨dendron_weigh_Table_Weight.hint, Tryz.f38, Tryz.func38, dendron_weigh_Table_Weight.ok⟩, ⟨nat_Of.hint, Tryz.f39, Tryz.func39, nat_Of.ok⟩, ⟨dendron_weigh_Table_quotient.hint, Tryz.f40, Tryz.func40, dendron_weigh_Table_quotient.ok⟩, ⟨ratio_Frac.hint, Tryz.f41, Tryz.func41, ratio_Frac.ok⟩, ⟨ratio_Clean.hint, Tryz.f42, Tryz.func42, ratio_Clean.ok⟩, ⟨ratio_form.hint, Tryz.f43, Tryz.func43, ratio_form.ok⟩, ⟨whole_Add.hint, Tryz.f44, Tryz.func44, whole_Add.ok⟩, ⟨whole_Mul.hint, Tryz.f45, Tryz.func45, whole_Mul.ok⟩, ⟨ratio_den.hint, Tryz.f46, Tryz.func46, ratio_den.ok⟩, ⟨nat_Mul.hint, Tryz.f47, Tryz.func47, nat_Mul.ok⟩, ⟨ratio_Neg.hint, Tryz.f48, Tryz.func48, ratio_Neg.ok⟩, ⟨whole_Right.hint, Tryz.f49, Tryz.func49, whole_Right.ok⟩, ⟨nat_Right.hint, Tryz.f50, Tryz.func50, nat_Right.ok⟩, ⟨nat_Gcd.hint, Tryz.f51, Tryz.func51, nat_Gcd.ok⟩, ⟨nat_Cmp.hint, Tryz.f52, Tryz.func52, nat_Cmp.ok⟩, ⟨ratio_Cmp.hint, Tryz.f53, Tryz.func53, ratio_Cmp.ok⟩, ⟨ratio_Make.hint, Tryz.f55, Tryz.func55, ratio_Make.ok⟩, ⟨whole_Of.hint, Tryz.f56, Tryz.func56, whole_Of.ok⟩, ⟨dendron_weigh_Table_All.hint, Tryz.f63, Tryz.func63, dendron_weigh_Table_All.ok⟩, ⟨bits_Len.hint, Tryz.f66, Tryz.func66, bits_Len.ok⟩, ⟨bits_OnesCount32.hint, Tryz.f67, Tryz.func67, bits_OnesCount32.ok⟩, ⟨bits_OnesCount64.hint, Tryz.f68, Tryz.func68, bits_OnesCount64.ok⟩, ⟨nat_trim.hint, Tryz.f69, Tryz.func69, nat_trim.ok⟩, ⟨nat_Clean.hint, Tryz.f71, Tryz.func71, nat_Clean.ok⟩, ⟨whole_Clean.hint, Tryz.f72, Tryz.func72, whole_Clean.ok⟩, ⟨nat_DivMod.hint, Tryz.f73, Tryz.func73, nat_DivMod.ok⟩, ⟨whole_sign.hint, Tryz.f74, Tryz.func74, whole_sign.ok⟩, ⟨nat_Add.hint, Tryz.f75, Tryz.func75, nat_Add.ok⟩, ⟨nat_Sub.hint, Tryz.f76, Tryz.func76, nat_Sub.ok⟩, ⟨whole_Neg.hint, Tryz.f77, Tryz.func77, whole_Neg.ok⟩, ⟨nat_euclid.hint, Tryz.f78, Tryz.func78, nat_euclid.ok⟩, ⟨nat_zeros.hint, Tryz.f79, Tryz.func79, nat_zeros.ok⟩, ⟨nat_shr.hint, Tryz.f80, Tryz.func80, nat_shr.ok⟩, ⟨nat_order.hint, Tryz.f81, Tryz.func81, nat_order.ok⟩, ⟨nat_shl.hint, Tryz.f82, Tryz.func82, nat_shl.ok⟩, ⟨nat_rest.hint, Tryz.f83, Tryz.func83, nat_rest.ok⟩, ⟨nat_minus.hint, Tryz.f84, Tryz.func84, nat_minus.ok⟩, ⟨whole_Cmp.hint, Tryz.f85, Tryz.func85, whole_Cmp.ok⟩, ⟨whole_Sign.hint, Tryz.f86, Tryz.func86, whole_Sign.ok⟩, ⟨bits_Len32.hint, Tryz.f93, Tryz.func93, bits_Len32.ok⟩, ⟨bits_Len64.hint, Tryz.f94, Tryz.func94, bits_Len64.ok⟩, ⟨sync_Once_Do.hint, Tryz.f95, Tryz.func95, sync_Once_Do.ok⟩, ⟨weigh_products.hint, Tryz.f97, Tryz.func97, weigh_products.ok⟩, ⟨nat_small.hint, Tryz.f98, Tryz.func98, nat_small.ok⟩, ⟨nat_long.hint, Tryz.f99, Tryz.func99, nat_long.ok⟩, ⟨nat_limb.hint, Tryz.f100, Tryz.func100, nat_limb.ok⟩, ⟨nat_To.hint, Tryz.f101, Tryz.func101, nat_To.ok⟩, ⟨bits_LeadingZeros32.hint, Tryz.f113, Tryz.func113, bits_LeadingZeros32.ok⟩, ⟨nat_digit.hint, Tryz.f114, Tryz.func114, nat_digit.ok⟩, ⟨sync_Mutex_Lock.hint, Tryz.f128, Tryz.func128, sync_Mutex_Lock.ok⟩, ⟨sync_Mutex_Unlock.hint, Tryz.f129, Tryz.func129, sync_Mutex_Unlock.ok⟩, ⟨nat_take.hint, Tryz.f131, Tryz.func131, nat_take.ok⟩, ⟨nat_give.hint, Tryz.f132, Tryz.func132, nat_give.ok⟩, by simp⟩
end Go.Proofs.YtgigaimaaijalaaGreatDoor
