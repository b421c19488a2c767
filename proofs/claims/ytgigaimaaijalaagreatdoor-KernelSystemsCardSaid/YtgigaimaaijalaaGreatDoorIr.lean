/- The interpreter's text of every function of the seat, and that it is the compiler's. -/
import Derived.Test.YtgigaimaaijalaaGreatDoorRb
import Derived.Test.YtgigaimaaijalaaGreatDoorChecked
set_option linter.unusedVariables false
set_option maxRecDepth 100000
namespace Go.Proofs.YtgigaimaaijalaaGreatDoor
open Go Go.Proofs.R
def F.dendronlaw20_KernelSystems : Nat := 4
def F.dendronlaw19_Few : Nat := 6
def F.dendronlaw19_Size : Nat := 8
def F.weigh_New : Nat := 11
def F.ratio_Zero : Nat := 12
def F.dendronref19_In : Nat := 13
def F.dendronlaw19_Count : Nat := 15
def F.ratio_Add : Nat := 16
def F.dendronlaw19_two : Nat := 17
def F.ratio_Mul : Nat := 18
def F.ratio_Sub : Nat := 19
def F.ratio_Same : Nat := 21
def F.kernel_System : Nat := 22
def F.dendronlaw20_awake : Nat := 23
def F.ratio_One : Nat := 24
def F.kernel_Weight : Nat := 25
def F.solve_Least : Nat := 26
def F.game_Shapley : Nat := 27
def F.dendronref10_All : Nat := 28
def F.dendronlaw19_number : Nat := 30
def F.game_Players : Nat := 31
def F.bits_OnesCount : Nat := 32
def F.ratio_Of : Nat := 34
def F.dendron_weigh_Table_Weight : Nat := 38
def F.nat_Of : Nat := 39
def F.dendron_weigh_Table_quotient : Nat := 40
def F.ratio_Frac : Nat := 41
def F.ratio_Clean : Nat := 42
def F.ratio_form : Nat := 43
def F.whole_Add : Nat := 44
def F.whole_Mul : Nat := 45
def F.ratio_den : Nat := 46
def F.nat_Mul : Nat := 47
def F.ratio_Neg : Nat := 48
def F.nat_Gcd : Nat := 51
def F.nat_Cmp : Nat := 52
def F.ratio_Cmp : Nat := 53
def F.whole_Choose : Nat := 54
def F.ratio_Make : Nat := 55
def F.whole_Of : Nat := 56
def F.solve_Size : Nat := 57
def F.ratio_Sign : Nat := 58
def F.solve_Flip : Nat := 59
def F.solve_Mul : Nat := 60
def F.solve_Apply : Nat := 61
def F.solve_Inverse : Nat := 62
def F.dendron_weigh_Table_All : Nat := 63
def F.dendronref10_Is : Nat := 64
def F.bits_Len : Nat := 66
def F.bits_OnesCount32 : Nat := 67
def F.bits_OnesCount64 : Nat := 68
def F.nat_trim : Nat := 69
def F.dendron_weigh_Table_at : Nat := 70
def F.nat_Clean : Nat := 71
def F.whole_Clean : Nat := 72
def F.nat_DivMod : Nat := 73
def F.whole_sign : Nat := 74
def F.nat_Add : Nat := 75
def F.nat_Sub : Nat := 76
def F.whole_Neg : Nat := 77
def F.nat_euclid : Nat := 78
def F.nat_zeros : Nat := 79
def F.nat_shr : Nat := 80
def F.nat_order : Nat := 81
def F.nat_shl : Nat := 82
def F.nat_rest : Nat := 83
def F.nat_minus : Nat := 84
def F.whole_Cmp : Nat := 85
def F.whole_Sign : Nat := 86
def F.solve_Dot : Nat := 87
def F.solve_wide : Nat := 88
def F.solve_Unit : Nat := 89
def F.dendron_solve_reducer_run : Nat := 90
def F.dendronref03_Is : Nat := 91
def F.dendronref03_From : Nat := 92
def F.bits_Len32 : Nat := 93
def F.bits_Len64 : Nat := 94
def F.sync_Once_Do : Nat := 95
def F.weigh_products : Nat := 97
def F.nat_small : Nat := 98
def F.nat_long : Nat := 99
def F.nat_limb : Nat := 100
def F.nat_To : Nat := 101
def F.bits_TrailingZeros64 : Nat := 102
def F.solve_Copy : Nat := 103
def F.dendron_solve_reducer_pivot : Nat := 104
def F.dendron_solve_reducer_clear : Nat := 105
def F.dendronref03_Right : Nat := 106
def F.dendronref03_Order : Nat := 107
def F.dendronref01_From : Nat := 108
def F.dendronref03_Small : Nat := 109
def F.dendronref02_From : Nat := 110
def F.sync_atomic_Bool_Load : Nat := 111
def F.sync_Once_doSlow : Nat := 112
def F.bits_LeadingZeros32 : Nat := 113
def F.nat_digit : Nat := 114
def F.ratio_Inv : Nat := 115
def F.dendronref01_Right : Nat := 116
def F.dendronref01_Gcd : Nat := 117
def F.dendronref01_Order : Nat := 118
def F.dendronref01_Small : Nat := 119
def F.dendronref02_Order : Nat := 120
def F.dendronref02_Times : Nat := 121
def F.dendronref03_den : Nat := 122
def F.dendronref01_Plus : Nat := 123
def F.dendronref01_Times : Nat := 124
def F.dendronref02_Small : Nat := 125
def F.dendronref02_Make : Nat := 126
def F.sync_atomic_LoadUint32 : Nat := 127
def F.sync_Mutex_Lock : Nat := 128
def F.sync_Mutex_Unlock : Nat := 129
def F.sync_atomic_Bool_Store : Nat := 130
def F.nat_take : Nat := 131
def F.nat_give : Nat := 132
def F.dendronref01_Over : Nat := 133
def F.dendronref01_digit : Nat := 134
def F.dendronref01_Trim : Nat := 135
def F.internal_sync_Mutex_Lock : Nat := 136
def F.internal_sync_Mutex_Unlock : Nat := 137
def F.sync_atomic_StoreUint32 : Nat := 138
def F.sync_atomic_b32 : Nat := 139
def F.dendronref01_Minus : Nat := 140
def F.internal_race_Disable : Nat := 141
def F.sync_atomic_CompareAndSwapInt32 : Nat := 142
def F.internal_race_Enable : Nat := 143
def F.internal_race_Acquire : Nat := 144
def F.internal_sync_Mutex_lockSlow : Nat := 145
def F.internal_race_ReleaseMerge : Nat := 146
def F.sync_atomic_AddInt32 : Nat := 147
def F.internal_sync_Mutex_unlockSlow : Nat := 148
def F.internal_sync_runtime_canSpin : Nat := 149
def F.internal_sync_runtime_doSpin : Nat := 150
def F.internal_sync_throw : Nat := 151
def F.internal_sync_runtime_nanotime : Nat := 152
def F.internal_sync_runtime_SemacquireMutex : Nat := 153
def F.internal_sync_fatal : Nat := 154
def F.internal_sync_runtime_Semrelease : Nat := 155
def dendronlaw20_KernelSystems.b2 : R.C := (.seq (.seq (.reg [] [.a 104 (.mv (.t 11)), .a 105 (.mv (.t 7)), .a 106 (.bin .sub (.t 105) (.c (.int .i64 1))), .a 107 (.bin .lss (.t 104) (.t 106))] [104, 105, 106] [])
  (.cond (.t 107) .skip (.exit 2)))
  (.seq (.block 3 (.seq (.reg [] [.a 110 (.call F.ratio_Zero []), .a 12 (.new [(.bool false), (.sl 1 []), (.sl 1 [])]), .n (.st 3 (.t 12) (.t 110))] [107, 110] [])
  (.seq (.seq (.reg [] [.a 111 (.mv (.t 9)), .a 112 (.mv (.t 11)), .a 113 (.call F.dendronref19_In [(.t 111), (.t 112)])] [111, 112] [])
  (.cond (.t 113) (.reg [] [.a 114 (.call F.ratio_One []), .n (.st 3 (.t 12) (.t 114))] [113, 114] []) .skip))
  (.seq (.reg [] [.a 115 (.mv (.t 3)), .a 116 (.mv (.t 9)), .a 117 (.bin .sub (.t 116) (.c (.int .i64 1))), .a 118 (.iA 1 (.t 115) (.t 117)), .a 119 (.ld 1 false (.t 118)), .a 120 (.mv (.t 11)), .a 121 (.iA 3 (.t 119) (.t 120)), .a 122 (.ld 3 true (.t 121)), .a 123 (.ld 3 true (.t 12)), .a 124 (.ld 3 true (.t 10)), .a 125 (.call F.ratio_Sub [(.t 123), (.t 124)]), .a 126 (.call F.ratio_Same [(.t 122), (.t 125)]), .a 127 (.un .not (.t 126))] [12, 113, 115, 116, 117, 118, 119, 120, 121, 122, 123, 124, 125, 126] [12])
  (.cond (.t 127) (.seq (.reg [] [.a 2 (.mv (.c (.bool false)))] [0, 3, 4, 5, 7, 8, 9, 10, 11, 127] [8, 10])
  .ret) .skip)))))
  (.reg [] [.a 108 (.mv (.t 11)), .a 109 (.bin .add (.t 108) (.c (.int .i64 1))), .a 11 (.mv (.t 109))] [108, 109, 127] [])))
def dendronlaw20_KernelSystems.b0 : R.C := (.seq (.seq (.reg [] [.a 82 (.mv (.t 9)), .a 83 (.mv (.t 0)), .a 84 (.ln (.t 83)), .a 85 (.bin .sub (.t 84) (.c (.int .i64 1))), .a 86 (.bin .lss (.t 82) (.t 85))] [82, 83, 84, 85] [])
  (.cond (.t 86) .skip (.exit 0)))
  (.seq (.block 1 (.seq (.reg [] [.a 89 (.call F.ratio_Zero []), .a 10 (.new [(.bool false), (.sl 1 []), (.sl 1 [])]), .n (.st 3 (.t 10) (.t 89))] [86, 89] [])
  (.seq (.seq (.reg [] [.a 90 (.mv (.t 9)), .a 91 (.mv (.t 7)), .a 92 (.bin .sub (.t 91) (.c (.int .i64 1))), .a 93 (.call F.dendronref19_In [(.t 90), (.t 92)])] [90, 91, 92] [])
  (.cond (.t 93) (.reg [] [.a 94 (.call F.ratio_One []), .n (.st 3 (.t 10) (.t 94))] [93, 94] []) .skip))
  (.seq (.seq (.reg [] [.a 95 (.mv (.t 3)), .a 96 (.mv (.t 9)), .a 97 (.bin .sub (.t 96) (.c (.int .i64 1))), .a 98 (.iA 1 (.t 95) (.t 97)), .a 99 (.ld 1 false (.t 98)), .a 100 (.ln (.t 99)), .a 101 (.mv (.t 7)), .a 102 (.bin .sub (.t 101) (.c (.int .i64 1))), .a 103 (.bin .neq (.t 100) (.t 102))] [93, 95, 96, 97, 98, 99, 100, 101, 102] [])
  (.cond (.t 103) (.seq (.reg [] [.a 2 (.mv (.c (.bool false)))] [0, 3, 4, 5, 7, 8, 9, 10, 103] [8, 10])
  .ret) .skip))
  (.seq (.seq (.reg [] [.a 11 (.mv (.c (.int .i64 0)))] [103] [])
  (.block 2 (.loop [] [] dendronlaw20_KernelSystems.b2)))
  (.seq (.reg [] [.a 129 (.mv (.t 9)), .a 130 (.mv (.t 7)), .a 131 (.call F.dendronlaw19_Count [(.t 129), (.t 130)]), .a 132 (.mv (.t 7)), .a 133 (.call F.kernel_Weight [(.t 131), (.t 132)]), .a 128 (.mv (.t 133)), .a 134 (.ext (.t 128) 0), .a 135 (.ext (.t 128) 1), .a 13 (.new [(.bool false), (.sl 1 []), (.sl 1 [])]), .n (.st 3 (.t 13) (.t 134)), .a 14 (.mv (.t 135))] [11, 107, 128, 129, 130, 131, 132, 133, 134, 135] [])
  (.seq (.reg [] [.a 136 (.mv (.t 14)), .a 137 (.bin .neq (.t 136) (.c (.int .i64 0))), .a 138 (.mv (.t 137)), .g 139 138 false (.mv (.t 5)), .g 140 138 false (.mv (.t 9)), .g 141 138 false (.bin .sub (.t 140) (.c (.int .i64 1))), .g 142 138 false (.iA 3 (.t 139) (.t 141)), .g 143 138 false (.ld 3 true (.t 142)), .g 144 138 false (.ld 3 true (.t 13)), .g 145 138 false (.call F.ratio_Same [(.t 143), (.t 144)]), .g 146 138 false (.un .not (.t 145)), .a 147 (.pick (.t 138) (.c (.bool true)) (.t 146)), .a 148 (.mv (.t 147)), .g 149 148 false (.mv (.t 4)), .g 150 148 false (.mv (.t 9)), .g 151 148 false (.bin .sub (.t 150) (.c (.int .i64 1))), .g 152 148 false (.iA 3 (.t 149) (.t 151)), .g 153 148 false (.ld 3 true (.t 152)), .g 154 148 false (.mv (.t 0)), .g 155 148 false (.mv (.t 9)), .g 156 148 false (.iA 3 (.t 154) (.t 155)), .g 157 148 false (.ld 3 true (.t 156)), .g 158 148 false (.mv (.t 0)), .g 159 148 false (.iA 3 (.t 158) (.c (.int .i64 0))), .g 160 148 false (.ld 3 true (.t 159)), .g 161 148 false (.call F.ratio_Sub [(.t 157), (.t 160)]), .g 162 148 false (.ld 3 true (.t 8)), .g 163 148 false (.ld 3 true (.t 10)), .g 164 148 false (.call F.ratio_Mul [(.t 162), (.t 163)]), .g 165 148 false (.call F.ratio_Sub [(.t 161), (.t 164)]), .g 166 148 false (.call F.ratio_Same [(.t 153), (.t 165)]), .g 167 148 false (.un .not (.t 166)), .a 168 (.pick (.t 148) (.c (.bool true)) (.t 167))] [10, 13, 14, 136, 137, 138, 139, 140, 141, 142, 143, 144, 145, 146, 147, 148, 149, 150, 151, 152, 153, 154, 155, 156, 157, 158, 159, 160, 161, 162, 163, 164, 165, 166, 167] [10, 13])
  (.cond (.t 168) (.seq (.reg [] [.a 2 (.mv (.c (.bool false)))] [0, 3, 4, 5, 7, 8, 9, 168] [8])
  .ret) .skip))))))))
  (.reg [] [.a 87 (.mv (.t 9)), .a 88 (.bin .add (.t 87) (.c (.int .i64 1))), .a 9 (.mv (.t 88))] [87, 88, 168] [])))
def dendronlaw20_KernelSystems : R.Fn := ⟨1, [(.t 2)], (.seq (.reg [] [.a 2 (.mv (.c (.bool false)))] [2] [])
  (.seq (.reg [] [.a 19 (.mv (.t 0)), .a 20 (.call F.dendronlaw19_Few [(.t 19)]), .a 0 (.mv (.t 20))] [19, 20] [])
  (.seq (.reg [] [.a 22 (.mv (.t 0)), .a 23 (.call F.kernel_System [(.t 22)]), .a 21 (.mv (.t 23)), .a 24 (.ext (.t 21) 0), .a 25 (.ext (.t 21) 1), .a 26 (.ext (.t 21) 2), .a 27 (.ext (.t 21) 3), .a 3 (.mv (.t 24)), .a 4 (.mv (.t 25)), .a 5 (.mv (.t 26)), .a 6 (.mv (.t 27))] [21, 22, 23, 24, 25, 26, 27] [])
  (.seq (.reg [] [.a 28 (.mv (.t 0)), .a 29 (.call F.dendronlaw19_Size [(.t 28)]), .a 7 (.mv (.t 29))] [28, 29] [])
  (.seq (.seq (.reg [] [.a 30 (.mv (.t 7)), .a 31 (.bin .lss (.t 30) (.c (.int .i64 2)))] [30] [])
  (.cond (.t 31) (.seq (.reg [] [.a 32 (.mv (.t 3)), .a 33 (.ln (.t 32)), .a 34 (.mv (.t 4)), .a 35 (.ln (.t 34)), .a 36 (.bin .add (.t 33) (.t 35)), .a 37 (.mv (.t 5)), .a 38 (.ln (.t 37)), .a 39 (.bin .add (.t 36) (.t 38)), .a 40 (.bin .eql (.t 39) (.c (.int .i64 0))), .a 41 (.mv (.t 40)), .g 42 41 true (.mv (.t 6)), .g 43 41 true (.bin .eql (.t 42) (.c (.int .i64 1))), .a 44 (.pick (.t 41) (.t 43) (.c (.bool false))), .a 45 (.mv (.t 44)), .g 46 45 true (.call F.dendronlaw20_awake []), .a 47 (.pick (.t 45) (.t 46) (.c (.bool false))), .a 2 (.mv (.t 47))] [0, 3, 4, 5, 6, 7, 31, 32, 33, 34, 35, 36, 37, 38, 39, 40, 41, 42, 43, 44, 45, 46, 47] [])
  .ret) .skip))
  (.seq (.seq (.reg [] [.a 48 (.mv (.t 6)), .a 49 (.bin .neq (.t 48) (.c (.int .i64 0))), .a 50 (.mv (.t 49)), .g 51 50 false (.mv (.t 3)), .g 52 50 false (.ln (.t 51)), .g 53 50 false (.mv (.t 0)), .g 54 50 false (.ln (.t 53)), .g 55 50 false (.bin .sub (.t 54) (.c (.int .i64 2))), .g 56 50 false (.bin .neq (.t 52) (.t 55)), .a 57 (.pick (.t 50) (.c (.bool true)) (.t 56)), .a 58 (.mv (.t 57)), .g 59 58 false (.mv (.t 4)), .g 60 58 false (.ln (.t 59)), .g 61 58 false (.mv (.t 3)), .g 62 58 false (.ln (.t 61)), .g 63 58 false (.bin .neq (.t 60) (.t 62)), .a 64 (.pick (.t 58) (.c (.bool true)) (.t 63)), .a 65 (.mv (.t 64)), .g 66 65 false (.mv (.t 5)), .g 67 65 false (.ln (.t 66)), .g 68 65 false (.mv (.t 3)), .g 69 65 false (.ln (.t 68)), .g 70 65 false (.bin .neq (.t 67) (.t 69)), .a 71 (.pick (.t 65) (.c (.bool true)) (.t 70))] [6, 31, 48, 49, 50, 51, 52, 53, 54, 55, 56, 57, 58, 59, 60, 61, 62, 63, 64, 65, 66, 67, 68, 69, 70] [])
  (.cond (.t 71) (.seq (.reg [] [.a 2 (.mv (.c (.bool false)))] [0, 3, 4, 5, 7, 71] [])
  .ret) .skip))
  (.seq (.reg [] [.a 72 (.mv (.t 0)), .a 73 (.mv (.t 0)), .a 74 (.ln (.t 73)), .a 75 (.bin .sub (.t 74) (.c (.int .i64 1))), .a 76 (.iA 3 (.t 72) (.t 75)), .a 77 (.ld 3 true (.t 76)), .a 78 (.mv (.t 0)), .a 79 (.iA 3 (.t 78) (.c (.int .i64 0))), .a 80 (.ld 3 true (.t 79)), .a 81 (.call F.ratio_Sub [(.t 77), (.t 80)]), .a 8 (.new [(.bool false), (.sl 1 []), (.sl 1 [])]), .n (.st 3 (.t 8) (.t 81))] [71, 72, 73, 74, 75, 76, 77, 78, 79, 80, 81] [])
  (.seq (.seq (.reg [] [.a 9 (.mv (.c (.int .i64 1)))] [] [])
  (.block 0 (.loop [] [] dendronlaw20_KernelSystems.b0)))
  (.seq (.reg [] [.a 170 (.mv (.t 3)), .a 171 (.mv (.t 4)), .a 172 (.mv (.t 5)), .a 173 (.callc F.solve_Least [(.t 170), (.t 171), (.t 172)]), .a 169 (.mv (.t 173)), .a 174 (.ext (.t 169) 0), .a 175 (.ext (.t 169) 1), .a 15 (.mv (.t 174)), .a 16 (.mv (.t 175))] [3, 4, 5, 8, 9, 86, 169, 170, 171, 172, 173, 174, 175] [8])
  (.seq (.reg [] [.a 177 (.mv (.t 0)), .a 178 (.call F.game_Shapley [(.t 177)]), .a 176 (.mv (.t 178)), .a 179 (.ext (.t 176) 0), .a 180 (.ext (.t 176) 1), .a 17 (.mv (.t 179)), .a 18 (.mv (.t 180))] [0, 176, 177, 178, 179, 180] [])
  (.seq (.reg [] [.a 181 (.mv (.t 16)), .a 182 (.bin .eql (.t 181) (.c (.int .i64 0))), .a 183 (.mv (.t 182)), .g 184 183 true (.mv (.t 18)), .g 185 183 true (.bin .eql (.t 184) (.c (.int .i64 0))), .a 186 (.pick (.t 183) (.t 185) (.c (.bool false))), .a 187 (.mv (.t 186)), .g 188 187 true (.mv (.t 17)), .g 189 187 true (.ln (.t 188)), .g 190 187 true (.mv (.t 7)), .g 191 187 true (.bin .eql (.t 189) (.t 190)), .a 192 (.pick (.t 187) (.t 191) (.c (.bool false))), .a 193 (.mv (.t 192)), .g 194 193 true (.mv (.t 15)), .g 195 193 true (.mv (.t 17)), .g 196 193 true (.mv (.t 7)), .g 197 193 true (.bin .sub (.t 196) (.c (.int .i64 1))), .g 198 193 true (.slc 3 (.t 195) none (some (.t 197))), .g 199 193 true (.call F.dendronref10_All [(.t 194), (.t 198)]), .a 200 (.pick (.t 193) (.t 199) (.c (.bool false))), .a 201 (.mv (.t 200)), .g 202 201 true (.call F.dendronlaw20_awake []), .a 203 (.pick (.t 201) (.t 202) (.c (.bool false))), .a 2 (.mv (.t 203))] [7, 15, 16, 17, 18, 181, 182, 183, 184, 185, 186, 187, 188, 189, 190, 191, 192, 193, 194, 195, 196, 197, 198, 199, 200, 201, 202, 203] [])
  .ret)))))))))))⟩
def dendronlaw20_KernelSystems.hint : R.Hint := { kill := [(0, [2], []), (1, [19, 20], []), (2, [21, 22, 23, 24, 25, 26, 27], []), (3, [28, 29], []), (4, [30], []), (5, [0, 3, 4, 5, 6, 7, 31, 32, 33, 34, 35, 36, 37, 38, 39, 40, 41, 42, 43, 44, 45, 46, 47], []), (6, [6, 31, 48, 49, 50, 51, 52, 53, 54, 55, 56, 57, 58, 59, 60, 61, 62, 63, 64, 65, 66, 67, 68, 69, 70], []), (7, [0, 3, 4, 5, 7, 71], []), (8, [71, 72, 73, 74, 75, 76, 77, 78, 79, 80, 81], []), (10, [82, 83, 84, 85], []), (11, [87, 88, 168], []), (12, [86, 89], []), (13, [90, 91, 92], []), (14, [93, 94], []), (15, [93, 95, 96, 97, 98, 99, 100, 101, 102], []), (16, [0, 3, 4, 5, 7, 8, 9, 10, 103], [8, 10]), (17, [103], []), (18, [104, 105, 106], []), (19, [108, 109, 127], []), (20, [107, 110], []), (21, [111, 112], []), (22, [113, 114], []), (23, [12, 113, 115, 116, 117, 118, 119, 120, 121, 122, 123, 124, 125, 126], [12]), (24, [0, 3, 4, 5, 7, 8, 9, 10, 11, 127], [8, 10]), (25, [11, 107, 128, 129, 130, 131, 132, 133, 134, 135], []), (26, [10, 13, 14, 136, 137, 138, 139, 140, 141, 142, 143, 144, 145, 146, 147, 148, 149, 150, 151, 152, 153, 154, 155, 156, 157, 158, 159, 160, 161, 162, 163, 164, 165, 166, 167], [10, 13]), (27, [0, 3, 4, 5, 7, 8, 9, 168], [8]), (28, [3, 4, 5, 8, 9, 86, 169, 170, 171, 172, 173, 174, 175], [8]), (29, [0, 176, 177, 178, 179, 180], []), (30, [7, 15, 16, 17, 18, 181, 182, 183, 184, 185, 186, 187, 188, 189, 190, 191, 192, 193, 194, 195, 196, 197, 198, 199, 200, 201, 202, 203], [])], callc := [173] }
theorem dendronlaw20_KernelSystems.ok : cFn Tryz.prog dendronlaw20_KernelSystems.hint Tryz.f4 = some dendronlaw20_KernelSystems := by kernel_rfl
def dendronlaw19_Few.b0 : R.C := (.seq (.seq (.reg [] [.a 5 (.mv (.t 4)), .a 6 (.mv (.t 0)), .a 7 (.ln (.t 6)), .a 8 (.bin .lss (.t 5) (.t 7)), .a 9 (.mv (.t 8)), .g 10 9 true (.mv (.t 4)), .g 11 9 true (.bin .lss (.t 10) (.c (.int .i64 33))), .a 12 (.pick (.t 9) (.t 11) (.c (.bool false)))] [5, 6, 7, 8, 9, 10, 11] [])
  (.cond (.t 12) .skip (.exit 0)))
  (.seq (.block 1 (.reg [] [.a 15 (.mv (.t 3)), .a 16 (.mv (.t 0)), .a 17 (.mv (.t 4)), .a 18 (.iA 3 (.t 16) (.t 17)), .a 19 (.ld 3 true (.t 18)), .a 20 (.call F.dendronlaw19_number [(.t 19)]), .a 21 (.lit 3 1 [(.bool false), (.sl 1 []), (.sl 1 [])] [(0, 3, (.t 20))]), .a 22 (.app 3 56 (.t 15) (.t 21)), .a 3 (.mv (.t 22))] [12, 15, 16, 17, 18, 19, 20, 21, 22] []))
  (.reg [] [.a 13 (.mv (.t 4)), .a 14 (.bin .add (.t 13) (.c (.int .i64 1))), .a 4 (.mv (.t 14))] [13, 14] [])))
def dendronlaw19_Few : R.Fn := ⟨1, [(.t 2)], (.seq (.reg [] [.a 2 (.mv (.c (.sl 3 [])))] [2] [])
  (.seq (.reg [] [.a 3 (.nil 3)] [] [])
  (.seq (.seq (.reg [] [.a 4 (.mv (.c (.int .i64 0)))] [] [])
  (.block 0 (.loop [] [] dendronlaw19_Few.b0)))
  (.seq (.reg [] [.a 23 (.mv (.t 3)), .a 2 (.mv (.t 23))] [0, 3, 4, 12, 23] [])
  .ret))))⟩
def dendronlaw19_Few.hint : R.Hint := { nil := [3], kill := [(0, [2], []), (3, [5, 6, 7, 8, 9, 10, 11], []), (4, [13, 14], []), (5, [12, 15, 16, 17, 18, 19, 20, 21, 22], []), (6, [0, 3, 4, 12, 23], [])] }
theorem dendronlaw19_Few.ok : cFn Tryz.prog dendronlaw19_Few.hint Tryz.f6 = some dendronlaw19_Few := by kernel_rfl
def dendronlaw19_Size.b0 : R.C := (.seq (.seq (.reg [] [.a 4 (.mv (.t 3)), .a 5 (.bin .lss (.t 4) (.c (.int .i64 6)))] [4] [])
  (.cond (.t 5) .skip (.exit 0)))
  (.seq (.block 1 (.seq (.reg [] [.a 8 (.mv (.t 0)), .a 9 (.ln (.t 8)), .a 10 (.mv (.t 3)), .a 11 (.call F.dendronlaw19_two [(.t 10)]), .a 12 (.bin .eql (.t 9) (.t 11))] [5, 8, 9, 10, 11] [])
  (.cond (.t 12) (.seq (.reg [] [.a 13 (.mv (.t 3)), .a 2 (.mv (.t 13))] [0, 3, 12, 13] [])
  .ret) .skip)))
  (.reg [] [.a 6 (.mv (.t 3)), .a 7 (.bin .add (.t 6) (.c (.int .i64 1))), .a 3 (.mv (.t 7))] [6, 7, 12] [])))
def dendronlaw19_Size : R.Fn := ⟨1, [(.t 2)], (.seq (.reg [] [.a 2 (.mv (.c (.int .i64 0)))] [2] [])
  (.seq (.seq (.reg [] [.a 3 (.mv (.c (.int .i64 0)))] [] [])
  (.block 0 (.loop [] [] dendronlaw19_Size.b0)))
  (.seq (.reg [] [.a 2 (.mv (.c (.int .i64 (-1))))] [0, 3, 5] [])
  .ret)))⟩
def dendronlaw19_Size.hint : R.Hint := { kill := [(0, [2], []), (2, [4], []), (3, [6, 7, 12], []), (4, [5, 8, 9, 10, 11], []), (5, [0, 3, 12, 13], []), (6, [0, 3, 5], [])] }
theorem dendronlaw19_Size.ok : cFn Tryz.prog dendronlaw19_Size.hint Tryz.f8 = some dendronlaw19_Size := by kernel_rfl
def weigh_New : R.Fn := ⟨0, [(.own 0)], (.seq (.reg [] [.a 0 (.mv (.c (.raw (.pointer none))))] [0] [])
  (.seq (.reg [] [.a 1 (.bld [(.int .u32 0), (.int .i32 0), (.int .u32 0), (.sl 2 [])] []), .a 2 (.box (.t 1)), .a 0 (.mv (.t 2))] [1, 2] [])
  .ret))⟩
def weigh_New.hint : R.Hint := { kill := [(0, [0], []), (1, [1, 2], [])], own := true }
theorem weigh_New.ok : cFn Tryz.prog weigh_New.hint Tryz.f11 = some weigh_New := by kernel_rfl
def ratio_Zero : R.Fn := ⟨0, [(.cell 0 3 true)], (.seq (.reg [] [.a 0 (.new [(.bool false), (.sl 1 []), (.sl 1 [])])] [] [])
  (.seq (.reg [] [.a 1 (.call F.nat_Of [(.c (.int .u64 1))]), .a 2 (.bld [(.bool false), (.sl 1 []), (.sl 1 [])] [(2, 1, (.t 1))]), .n (.st 3 (.t 0) (.t 2))] [1, 2] [])
  .ret))⟩
def ratio_Zero.hint : R.Hint := { kill := [(1, [1, 2], [])] }
theorem ratio_Zero.ok : cFn Tryz.prog ratio_Zero.hint Tryz.f12 = some ratio_Zero := by kernel_rfl
def dendronref19_In.b0 : R.C := (.seq (.seq (.reg [] [.a 6 (.mv (.t 5)), .a 7 (.mv (.t 1)), .a 8 (.bin .lss (.t 6) (.t 7))] [6, 7] [])
  (.cond (.t 8) .skip (.exit 0)))
  (.seq (.block 1 (.reg [] [.a 11 (.mv (.t 0)), .a 12 (.bin .quo (.t 11) (.c (.int .i64 2))), .a 0 (.mv (.t 12))] [8, 11, 12] []))
  (.reg [] [.a 9 (.mv (.t 5)), .a 10 (.bin .add (.t 9) (.c (.int .i64 1))), .a 5 (.mv (.t 10))] [9, 10] [])))
def dendronref19_In : R.Fn := ⟨2, [(.t 4)], (.seq (.reg [] [.a 4 (.mv (.c (.bool false)))] [4] [])
  (.seq (.seq (.reg [] [.a 5 (.mv (.c (.int .i64 0)))] [] [])
  (.block 0 (.loop [] [] dendronref19_In.b0)))
  (.seq (.reg [] [.a 13 (.mv (.t 0)), .a 14 (.bin .rem (.t 13) (.c (.int .i64 2))), .a 15 (.bin .eql (.t 14) (.c (.int .i64 1))), .a 4 (.mv (.t 15))] [0, 1, 5, 8, 13, 14, 15] [])
  .ret)))⟩
def dendronref19_In.hint : R.Hint := { kill := [(0, [4], []), (2, [6, 7], []), (3, [9, 10], []), (4, [8, 11, 12], []), (5, [0, 1, 5, 8, 13, 14, 15], [])] }
theorem dendronref19_In.ok : cFn Tryz.prog dendronref19_In.hint Tryz.f13 = some dendronref19_In := by kernel_rfl
def dendronlaw19_Count.b0 : R.C := (.seq (.seq (.reg [] [.a 7 (.mv (.t 6)), .a 8 (.mv (.t 1)), .a 9 (.bin .lss (.t 7) (.t 8))] [7, 8] [])
  (.cond (.t 9) .skip (.exit 0)))
  (.seq (.block 1 (.seq (.reg [] [.a 12 (.mv (.t 0)), .a 13 (.mv (.t 6)), .a 14 (.call F.dendronref19_In [(.t 12), (.t 13)])] [9, 12, 13] [])
  (.cond (.t 14) (.reg [] [.a 15 (.mv (.t 5)), .a 16 (.bin .add (.t 15) (.c (.int .i64 1))), .a 5 (.mv (.t 16))] [14, 15, 16] []) .skip)))
  (.reg [] [.a 10 (.mv (.t 6)), .a 11 (.bin .add (.t 10) (.c (.int .i64 1))), .a 6 (.mv (.t 11))] [10, 11, 14] [])))
def dendronlaw19_Count : R.Fn := ⟨2, [(.t 4)], (.seq (.reg [] [.a 4 (.mv (.c (.int .i64 0)))] [4] [])
  (.seq (.reg [] [.a 5 (.mv (.c (.int .i64 0)))] [] [])
  (.seq (.seq (.reg [] [.a 6 (.mv (.c (.int .i64 0)))] [] [])
  (.block 0 (.loop [] [] dendronlaw19_Count.b0)))
  (.seq (.reg [] [.a 17 (.mv (.t 5)), .a 4 (.mv (.t 17))] [0, 1, 5, 6, 9, 17] [])
  .ret))))⟩
def dendronlaw19_Count.hint : R.Hint := { kill := [(0, [4], []), (3, [7, 8], []), (4, [10, 11, 14], []), (5, [9, 12, 13], []), (6, [14, 15, 16], []), (7, [0, 1, 5, 6, 9, 17], [])] }
theorem dendronlaw19_Count.ok : cFn Tryz.prog dendronlaw19_Count.hint Tryz.f15 = some dendronlaw19_Count := by kernel_rfl
def ratio_Add : R.Fn := ⟨2, [(.cell 4 3 true)], (.seq (.reg [] [.a 2 (.box (.t 0)), .a 3 (.box (.t 1)), .a 4 (.new [(.bool false), (.sl 1 []), (.sl 1 [])])] [0, 1] [])
  (.seq (.reg [] [.a 5 (.ld 3 true (.t 2)), .a 6 (.call F.ratio_Clean [(.t 5)]), .a 7 (.ld 3 true (.t 3)), .a 8 (.call F.ratio_Clean [(.t 7)]), .n (.st 3 (.t 2) (.t 6)), .n (.st 3 (.t 3) (.t 8))] [5, 6, 7, 8] [])
  (.seq (.reg [] [.a 9 (.fA 0 (.t 2)), .a 10 (.ld 2 true (.t 9)), .a 11 (.ld 3 true (.t 3)), .a 12 (.call F.ratio_den [(.t 11)]), .a 13 (.call F.whole_Mul [(.t 10), (.t 12)]), .a 14 (.fA 0 (.t 3)), .a 15 (.ld 2 true (.t 14)), .a 16 (.ld 3 true (.t 2)), .a 17 (.call F.ratio_den [(.t 16)]), .a 18 (.call F.whole_Mul [(.t 15), (.t 17)]), .a 19 (.call F.whole_Add [(.t 13), (.t 18)]), .a 20 (.fA 2 (.t 2)), .a 21 (.ld 1 false (.t 20)), .a 22 (.fA 2 (.t 3)), .a 23 (.ld 1 false (.t 22)), .a 24 (.call F.nat_Mul [(.t 21), (.t 23)]), .a 25 (.call F.ratio_form [(.t 19), (.t 24)]), .n (.st 3 (.t 4) (.t 25))] [2, 3, 9, 10, 11, 12, 13, 14, 15, 16, 17, 18, 19, 20, 21, 22, 23, 24, 25] [2, 3])
  .ret)))⟩
def ratio_Add.hint : R.Hint := { kill := [(0, [0, 1], []), (1, [5, 6, 7, 8], []), (2, [2, 3, 9, 10, 11, 12, 13, 14, 15, 16, 17, 18, 19, 20, 21, 22, 23, 24, 25], [2, 3])] }
theorem ratio_Add.ok : cFn Tryz.prog ratio_Add.hint Tryz.f16 = some ratio_Add := by kernel_rfl
def dendronlaw19_two.b0 : R.C := (.seq (.seq (.reg [] [.a 5 (.mv (.t 4)), .a 6 (.mv (.t 0)), .a 7 (.bin .lss (.t 5) (.t 6))] [5, 6] [])
  (.cond (.t 7) .skip (.exit 0)))
  (.seq (.block 1 (.reg [] [.a 10 (.mv (.t 3)), .a 11 (.bin .mul (.c (.int .i64 2)) (.t 10)), .a 3 (.mv (.t 11))] [7, 10, 11] []))
  (.reg [] [.a 8 (.mv (.t 4)), .a 9 (.bin .add (.t 8) (.c (.int .i64 1))), .a 4 (.mv (.t 9))] [8, 9] [])))
def dendronlaw19_two : R.Fn := ⟨1, [(.t 2)], (.seq (.reg [] [.a 2 (.mv (.c (.int .i64 0)))] [2] [])
  (.seq (.reg [] [.a 3 (.mv (.c (.int .i64 1)))] [] [])
  (.seq (.seq (.reg [] [.a 4 (.mv (.c (.int .i64 0)))] [] [])
  (.block 0 (.loop [] [] dendronlaw19_two.b0)))
  (.seq (.reg [] [.a 12 (.mv (.t 3)), .a 2 (.mv (.t 12))] [0, 3, 4, 7, 12] [])
  .ret))))⟩
def dendronlaw19_two.hint : R.Hint := { kill := [(0, [2], []), (3, [5, 6], []), (4, [8, 9], []), (5, [7, 10, 11], []), (6, [0, 3, 4, 7, 12], [])] }
theorem dendronlaw19_two.ok : cFn Tryz.prog dendronlaw19_two.hint Tryz.f17 = some dendronlaw19_two := by kernel_rfl
def ratio_Mul : R.Fn := ⟨2, [(.cell 4 3 true)], (.seq (.reg [] [.a 2 (.box (.t 0)), .a 3 (.box (.t 1)), .a 4 (.new [(.bool false), (.sl 1 []), (.sl 1 [])])] [0, 1] [])
  (.seq (.reg [] [.a 5 (.ld 3 true (.t 2)), .a 6 (.call F.ratio_Clean [(.t 5)]), .a 7 (.ld 3 true (.t 3)), .a 8 (.call F.ratio_Clean [(.t 7)]), .n (.st 3 (.t 2) (.t 6)), .n (.st 3 (.t 3) (.t 8))] [5, 6, 7, 8] [])
  (.seq (.reg [] [.a 9 (.fA 0 (.t 2)), .a 10 (.ld 2 true (.t 9)), .a 11 (.fA 0 (.t 3)), .a 12 (.ld 2 true (.t 11)), .a 13 (.call F.whole_Mul [(.t 10), (.t 12)]), .a 14 (.fA 2 (.t 2)), .a 15 (.ld 1 false (.t 14)), .a 16 (.fA 2 (.t 3)), .a 17 (.ld 1 false (.t 16)), .a 18 (.call F.nat_Mul [(.t 15), (.t 17)]), .a 19 (.call F.ratio_form [(.t 13), (.t 18)]), .n (.st 3 (.t 4) (.t 19))] [2, 3, 9, 10, 11, 12, 13, 14, 15, 16, 17, 18, 19] [2, 3])
  .ret)))⟩
def ratio_Mul.hint : R.Hint := { kill := [(0, [0, 1], []), (1, [5, 6, 7, 8], []), (2, [2, 3, 9, 10, 11, 12, 13, 14, 15, 16, 17, 18, 19], [2, 3])] }
theorem ratio_Mul.ok : cFn Tryz.prog ratio_Mul.hint Tryz.f18 = some ratio_Mul := by kernel_rfl
def ratio_Sub : R.Fn := ⟨2, [(.cell 4 3 true)], (.seq (.reg [] [.a 2 (.box (.t 0)), .a 3 (.box (.t 1)), .a 4 (.new [(.bool false), (.sl 1 []), (.sl 1 [])])] [0, 1] [])
  (.seq (.reg [] [.a 5 (.ld 3 true (.t 2)), .a 6 (.ld 3 true (.t 3)), .a 7 (.call F.ratio_Neg [(.t 6)]), .a 8 (.call F.ratio_Add [(.t 5), (.t 7)]), .n (.st 3 (.t 4) (.t 8))] [2, 3, 5, 6, 7, 8] [2, 3])
  .ret))⟩
def ratio_Sub.hint : R.Hint := { kill := [(0, [0, 1], []), (1, [2, 3, 5, 6, 7, 8], [2, 3])] }
theorem ratio_Sub.ok : cFn Tryz.prog ratio_Sub.hint Tryz.f19 = some ratio_Sub := by kernel_rfl
def ratio_Same : R.Fn := ⟨2, [(.t 4)], (.seq (.reg [] [.a 2 (.box (.t 0)), .a 3 (.box (.t 1)), .a 4 (.mv (.c (.bool false)))] [0, 1, 4] [])
  (.seq (.reg [] [.a 5 (.ld 3 true (.t 2)), .a 6 (.ld 3 true (.t 3)), .a 7 (.call F.ratio_Cmp [(.t 5), (.t 6)]), .a 8 (.bin .eql (.t 7) (.c (.int .i64 0))), .a 4 (.mv (.t 8))] [2, 3, 5, 6, 7, 8] [2, 3])
  .ret))⟩
def ratio_Same.hint : R.Hint := { kill := [(0, [0, 1, 4], []), (1, [2, 3, 5, 6, 7, 8], [2, 3])] }
theorem ratio_Same.ok : cFn Tryz.prog ratio_Same.hint Tryz.f21 = some ratio_Same := by kernel_rfl
def kernel_System.b2 : R.C := (.seq (.reg [] [.a 55 (.bin .lss (.t 54) (.t 53))] [] [])
  (.seq (.cond (.t 55) .skip (.exit 2))
  (.seq (.block 3 (.seq (.reg [] [.a 56 (.mv (.t 54)), .a 15 (.mv (.t 56))] [55, 56] [])
  (.reg [] [.a 57 (.mv (.t 14)), .a 58 (.mv (.t 12)), .a 59 (.mv (.t 15)), .a 60 (.bin .shr (.t 58) (.t 59)), .a 61 (.bin .and (.t 60) (.c (.int .i64 1))), .a 62 (.call F.ratio_Of [(.t 61)]), .a 63 (.ld 3 true (.t 13)), .a 64 (.call F.ratio_Sub [(.t 62), (.t 63)]), .a 65 (.lit 3 1 [(.bool false), (.sl 1 []), (.sl 1 [])] [(0, 3, (.t 64))]), .a 66 (.app 3 56 (.t 57) (.t 65)), .a 14 (.mv (.t 66))] [15, 57, 58, 59, 60, 61, 62, 63, 64, 65, 66] [])))
  (.reg [] [.a 67 (.bin .add (.t 54) (.c (.int .i64 1))), .a 54 (.mv (.t 67))] [67] []))))
def kernel_System.b0 : R.C := (.seq (.seq (.reg [] [.a 39 (.mv (.t 12)), .a 40 (.mv (.t 0)), .a 41 (.ln (.t 40)), .a 42 (.bin .sub (.t 41) (.c (.int .i64 1))), .a 43 (.bin .lss (.t 39) (.t 42))] [39, 40, 41, 42] [])
  (.cond (.t 43) .skip (.exit 0)))
  (.seq (.block 1 (.seq (.reg [] [.a 46 (.mv (.t 12)), .a 47 (.mv (.t 6)), .a 48 (.bin .sub (.t 47) (.c (.int .i64 1))), .a 49 (.bin .shr (.t 46) (.t 48)), .a 50 (.bin .and (.t 49) (.c (.int .i64 1))), .a 51 (.call F.ratio_Of [(.t 50)]), .a 13 (.new [(.bool false), (.sl 1 []), (.sl 1 [])]), .n (.st 3 (.t 13) (.t 51))] [43, 46, 47, 48, 49, 50, 51] [])
  (.seq (.reg [] [.a 14 (.nil 3)] [] [])
  (.seq (.seq (.reg [] [.a 52 (.mv (.t 6)), .a 53 (.bin .sub (.t 52) (.c (.int .i64 1))), .a 54 (.mv (.c (.int .i64 0)))] [52] [])
  (.block 2 (.loop [] [] kernel_System.b2)))
  (.seq (.reg [] [.a 69 (.mv (.t 12)), .a 70 (.conv .u64 (.t 69)), .a 71 (.call F.bits_OnesCount [(.t 70)]), .a 72 (.mv (.t 6)), .a 73 (.call F.kernel_Weight [(.t 71), (.t 72)]), .a 68 (.mv (.t 73)), .a 74 (.ext (.t 68) 0), .a 75 (.ext (.t 68) 1), .a 16 (.new [(.bool false), (.sl 1 []), (.sl 1 [])]), .n (.st 3 (.t 16) (.t 74)), .a 17 (.mv (.t 75))] [17, 53, 54, 55, 68, 69, 70, 71, 72, 73, 74, 75] [])
  (.seq (.reg [14] [.a 76 (.mv (.t 9)), .a 77 (.mv (.t 14)), .a 78 (.lit 1 1 [(.sl 3 [])] [(0, 1, (.t 77))]), .a 79 (.app 1 24 (.t 76) (.t 78)), .a 9 (.mv (.t 79))] [14, 76, 77, 78, 79] [14])
  (.seq (.reg [] [.a 80 (.mv (.t 10)), .a 81 (.mv (.t 0)), .a 82 (.mv (.t 12)), .a 83 (.iA 3 (.t 81) (.t 82)), .a 84 (.ld 3 true (.t 83)), .a 85 (.mv (.t 0)), .a 86 (.iA 3 (.t 85) (.c (.int .i64 0))), .a 87 (.ld 3 true (.t 86)), .a 88 (.call F.ratio_Sub [(.t 84), (.t 87)]), .a 89 (.ld 3 true (.t 8)), .a 90 (.ld 3 true (.t 13)), .a 91 (.call F.ratio_Mul [(.t 89), (.t 90)]), .a 92 (.call F.ratio_Sub [(.t 88), (.t 91)]), .a 93 (.lit 3 1 [(.bool false), (.sl 1 []), (.sl 1 [])] [(0, 3, (.t 92))]), .a 94 (.app 3 56 (.t 80) (.t 93)), .a 10 (.mv (.t 94))] [13, 80, 81, 82, 83, 84, 85, 86, 87, 88, 89, 90, 91, 92, 93, 94] [13])
  (.reg [] [.a 95 (.mv (.t 11)), .a 96 (.ld 3 true (.t 16)), .a 97 (.lit 3 1 [(.bool false), (.sl 1 []), (.sl 1 [])] [(0, 3, (.t 96))]), .a 98 (.app 3 56 (.t 95) (.t 97)), .a 11 (.mv (.t 98))] [16, 95, 96, 97, 98] [16]))))))))
  (.reg [] [.a 44 (.mv (.t 12)), .a 45 (.bin .add (.t 44) (.c (.int .i64 1))), .a 12 (.mv (.t 45))] [44, 45] [])))
def kernel_System : R.Fn := ⟨1, [(.t 2), (.t 3), (.t 4), (.t 5)], (.seq (.reg [] [.a 2 (.mv (.c (.sl 1 []))), .a 3 (.mv (.c (.sl 3 []))), .a 4 (.mv (.c (.sl 3 []))), .a 5 (.mv (.c (.int .i64 0)))] [2, 3, 4, 5] [])
  (.seq (.reg [] [.a 19 (.mv (.t 0)), .a 20 (.call F.game_Players [(.t 19)]), .a 18 (.mv (.t 20)), .a 21 (.ext (.t 18) 0), .a 22 (.ext (.t 18) 1), .a 6 (.mv (.t 21)), .a 7 (.mv (.t 22))] [18, 19, 20, 21, 22] [])
  (.seq (.seq (.reg [] [.a 23 (.mv (.t 7)), .a 24 (.un .not (.t 23)), .a 25 (.mv (.t 24)), .g 26 25 false (.mv (.t 6)), .g 27 25 false (.bin .lss (.t 26) (.c (.int .i64 2))), .a 28 (.pick (.t 25) (.c (.bool true)) (.t 27))] [7, 23, 24, 25, 26, 27] [])
  (.cond (.t 28) (.seq (.reg [] [.a 2 (.mv (.c (.sl 1 []))), .a 3 (.mv (.c (.sl 3 []))), .a 4 (.mv (.c (.sl 3 []))), .a 5 (.mv (.c (.int .i64 1)))] [0, 6, 28] [])
  .ret) .skip))
  (.seq (.reg [] [.a 29 (.mv (.t 0)), .a 30 (.mv (.t 0)), .a 31 (.ln (.t 30)), .a 32 (.bin .sub (.t 31) (.c (.int .i64 1))), .a 33 (.iA 3 (.t 29) (.t 32)), .a 34 (.ld 3 true (.t 33)), .a 35 (.mv (.t 0)), .a 36 (.iA 3 (.t 35) (.c (.int .i64 0))), .a 37 (.ld 3 true (.t 36)), .a 38 (.call F.ratio_Sub [(.t 34), (.t 37)]), .a 8 (.new [(.bool false), (.sl 1 []), (.sl 1 [])]), .n (.st 3 (.t 8) (.t 38))] [28, 29, 30, 31, 32, 33, 34, 35, 36, 37, 38] [])
  (.seq (.reg [] [.a 9 (.nil 1)] [] [])
  (.seq (.reg [] [.a 10 (.nil 3), .a 11 (.nil 3)] [] [])
  (.seq (.seq (.reg [] [.a 12 (.mv (.c (.int .i64 1)))] [] [])
  (.block 0 (.loop [] [] kernel_System.b0)))
  (.seq (.reg [] [.a 99 (.mv (.t 9)), .a 100 (.mv (.t 10)), .a 101 (.mv (.t 11)), .a 2 (.mv (.t 99)), .a 3 (.mv (.t 100)), .a 4 (.mv (.t 101)), .a 5 (.mv (.c (.int .i64 0)))] [0, 6, 8, 9, 10, 11, 12, 43, 99, 100, 101] [8])
  .ret))))))))⟩
def kernel_System.hint : R.Hint := { nil := [9, 10, 11, 14], pub := [(18, [14])], kill := [(0, [2, 3, 4, 5], []), (1, [18, 19, 20, 21, 22], []), (2, [7, 23, 24, 25, 26, 27], []), (3, [0, 6, 28], []), (4, [28, 29, 30, 31, 32, 33, 34, 35, 36, 37, 38], []), (8, [39, 40, 41, 42], []), (9, [44, 45], []), (10, [43, 46, 47, 48, 49, 50, 51], []), (12, [52], []), (14, [55, 56], []), (15, [15, 57, 58, 59, 60, 61, 62, 63, 64, 65, 66], []), (16, [67], []), (17, [17, 53, 54, 55, 68, 69, 70, 71, 72, 73, 74, 75], []), (18, [14, 76, 77, 78, 79], [14]), (19, [13, 80, 81, 82, 83, 84, 85, 86, 87, 88, 89, 90, 91, 92, 93, 94], [13]), (20, [16, 95, 96, 97, 98], [16]), (21, [0, 6, 8, 9, 10, 11, 12, 43, 99, 100, 101], [8])] }
theorem kernel_System.ok : cFn Tryz.prog kernel_System.hint Tryz.f22 = some kernel_System := by kernel_rfl
def dendronlaw20_awake : R.Fn := ⟨0, [(.t 0)], (.seq (.reg [] [.a 0 (.mv (.c (.bool false)))] [0] [])
  (.seq (.reg [] [.a 4 (.call F.kernel_Weight [(.c (.int .i64 1)), (.c (.int .i64 3))]), .a 3 (.mv (.t 4)), .a 5 (.ext (.t 3) 0), .a 6 (.ext (.t 3) 1), .a 1 (.new [(.bool false), (.sl 1 []), (.sl 1 [])]), .n (.st 3 (.t 1) (.t 5)), .a 2 (.mv (.t 6))] [3, 4, 5, 6] [])
  (.seq (.reg [] [.a 7 (.mv (.t 2)), .a 8 (.bin .eql (.t 7) (.c (.int .i64 0))), .a 9 (.mv (.t 8)), .g 10 9 true (.ld 3 true (.t 1)), .g 11 9 true (.call F.ratio_Frac [(.c (.int .i64 1)), (.c (.int .i64 3))]), .g 12 9 true (.call F.ratio_Same [(.t 10), (.t 11)]), .a 13 (.pick (.t 9) (.t 12) (.c (.bool false))), .a 0 (.mv (.t 13))] [1, 2, 7, 8, 9, 10, 11, 12, 13] [1])
  .ret)))⟩
def dendronlaw20_awake.hint : R.Hint := { kill := [(0, [0], []), (1, [3, 4, 5, 6], []), (2, [1, 2, 7, 8, 9, 10, 11, 12, 13], [1])] }
theorem dendronlaw20_awake.ok : cFn Tryz.prog dendronlaw20_awake.hint Tryz.f23 = some dendronlaw20_awake := by kernel_rfl
def ratio_One : R.Fn := ⟨0, [(.cell 0 3 true)], (.seq (.reg [] [.a 0 (.new [(.bool false), (.sl 1 []), (.sl 1 [])])] [] [])
  (.seq (.reg [] [.a 1 (.call F.ratio_Of [(.c (.int .i64 1))]), .n (.st 3 (.t 0) (.t 1))] [1] [])
  .ret))⟩
def ratio_One.hint : R.Hint := { kill := [(1, [1], [])] }
theorem ratio_One.ok : cFn Tryz.prog ratio_One.hint Tryz.f24 = some ratio_One := by kernel_rfl
def kernel_Weight : R.Fn := ⟨2, [(.cell 4 3 true), (.t 5)], (.seq (.reg [] [.a 4 (.new [(.bool false), (.sl 1 []), (.sl 1 [])]), .a 5 (.mv (.c (.int .i64 0)))] [5] [])
  (.seq (.seq (.reg [] [.a 8 (.mv (.t 1)), .a 9 (.bin .lss (.t 8) (.c (.int .i64 2))), .a 10 (.mv (.t 9)), .g 11 10 false (.mv (.t 1)), .g 12 10 false (.bin .gtr (.t 11) (.c (.int .i64 64))), .a 13 (.pick (.t 10) (.c (.bool true)) (.t 12)), .a 14 (.mv (.t 13)), .g 15 14 false (.mv (.t 0)), .g 16 14 false (.bin .lss (.t 15) (.c (.int .i64 1))), .a 17 (.pick (.t 14) (.c (.bool true)) (.t 16)), .a 18 (.mv (.t 17)), .g 19 18 false (.mv (.t 0)), .g 20 18 false (.mv (.t 1)), .g 21 18 false (.bin .geq (.t 19) (.t 20)), .a 22 (.pick (.t 18) (.c (.bool true)) (.t 21))] [8, 9, 10, 11, 12, 13, 14, 15, 16, 17, 18, 19, 20, 21] [])
  (.cond (.t 22) (.seq (.reg [] [.a 23 (.bld [(.bool false), (.sl 1 []), (.sl 1 [])] []), .n (.st 3 (.t 4) (.t 23)), .a 5 (.mv (.c (.int .i64 8)))] [0, 1, 22, 23] [])
  .ret) .skip))
  (.seq (.reg [] [.a 25 (.mv (.t 1)), .a 26 (.mv (.t 0)), .a 27 (.call F.whole_Choose [(.t 25), (.t 26)]), .a 24 (.mv (.t 27)), .a 28 (.ext (.t 24) 0), .a 29 (.ext (.t 24) 1), .a 6 (.new [(.bool false), (.sl 1 [])]), .n (.st 2 (.t 6) (.t 28)), .a 7 (.mv (.t 29))] [7, 22, 24, 25, 26, 27, 28, 29] [])
  (.seq (.reg [17179869188, 25769803782] [.a 30 (.mv (.t 1)), .a 31 (.bin .sub (.t 30) (.c (.int .i64 1))), .a 32 (.call F.whole_Of [(.t 31)]), .a 33 (.ld 2 true (.t 6)), .a 34 (.mv (.t 0)), .a 35 (.mv (.t 1)), .a 36 (.mv (.t 0)), .a 37 (.bin .sub (.t 35) (.t 36)), .a 38 (.bin .mul (.t 34) (.t 37)), .a 39 (.call F.whole_Of [(.t 38)]), .a 40 (.call F.whole_Mul [(.t 33), (.t 39)]), .a 41 (.call F.ratio_Make [(.t 32), (.t 40)]), .a 42 (.ext (.t 41) 0), .a 43 (.ext (.t 41) 1), .n (.st 3 (.t 4) (.t 42)), .a 5 (.mv (.t 43))] [0, 1, 6, 30, 31, 32, 33, 34, 35, 36, 37, 38, 39, 40, 41, 42, 43] [6])
  .ret))))⟩
def kernel_Weight.hint : R.Hint := { pub := [(4, [17179869188, 25769803782])], kill := [(0, [5], []), (1, [8, 9, 10, 11, 12, 13, 14, 15, 16, 17, 18, 19, 20, 21], []), (2, [0, 1, 22, 23], []), (3, [7, 22, 24, 25, 26, 27, 28, 29], []), (4, [0, 1, 6, 30, 31, 32, 33, 34, 35, 36, 37, 38, 39, 40, 41, 42, 43], [6])] }
theorem kernel_Weight.ok : cFn Tryz.prog kernel_Weight.hint Tryz.f25 = some kernel_Weight := by kernel_rfl
def solve_Least.b0 : R.C := (.seq (.reg [] [.a 45 (.bin .lss (.t 44) (.t 43))] [] [])
  (.seq (.cond (.t 45) .skip (.exit 0))
  (.seq (.block 1 (.seq (.reg [] [.a 46 (.iA 3 (.t 42) (.t 44)), .a 47 (.ld 3 true (.t 46)), .a 12 (.new [(.bool false), (.sl 1 []), (.sl 1 [])]), .n (.st 3 (.t 12) (.t 47))] [45, 46, 47] [])
  (.seq (.reg [] [.a 48 (.ld 3 true (.t 12)), .a 49 (.callc F.ratio_Sign [(.t 48)]), .a 50 (.bin .lss (.t 49) (.c (.int .i64 0)))] [12, 48, 49] [12])
  (.cond (.t 50) (.seq (.reg [] [.a 6 (.mv (.c (.sl 3 []))), .a 7 (.mv (.c (.int .i64 8)))] [0, 1, 2, 9, 42, 43, 44, 50] [])
  .ret) .skip))))
  (.reg [] [.a 51 (.bin .add (.t 44) (.c (.int .i64 1))), .a 44 (.mv (.t 51))] [50, 51] []))))
def solve_Least.b4 : R.C := (.seq (.reg [] [.a 70 (.bin .lss (.t 69) (.t 68))] [] [])
  (.seq (.cond (.t 70) .skip (.exit 4))
  (.seq (.block 5 (.seq (.reg [] [.a 71 (.mv (.t 69)), .a 16 (.mv (.t 71))] [70, 71] [])
  (.reg [] [.a 72 (.mv (.t 13)), .a 73 (.mv (.t 15)), .a 74 (.iA 1 (.t 72) (.t 73)), .a 75 (.ldr (.t 74)), .a 76 (.mv (.t 16)), .a 77 (.mv (.t 13)), .a 78 (.mv (.t 15)), .a 79 (.iA 1 (.t 77) (.t 78)), .a 80 (.ldr (.t 79)), .a 81 (.mv (.t 16)), .a 82 (.iA 3 (.t 80) (.t 81)), .a 83 (.ld 3 true (.t 82)), .a 84 (.mv (.t 2)), .a 85 (.mv (.t 16)), .a 86 (.iA 3 (.t 84) (.t 85)), .a 87 (.ld 3 true (.t 86)), .a 88 (.callc F.ratio_Mul [(.t 83), (.t 87)]), .a 89 (.iA 3 (.t 75) (.t 76)), .n (.st 3 (.t 89) (.t 88))] [16, 72, 73, 74, 75, 76, 77, 78, 79, 80, 81, 82, 83, 84, 85, 86, 87, 88, 89] [])))
  (.reg [] [.a 90 (.bin .add (.t 69) (.c (.int .i64 1))), .a 69 (.mv (.t 90))] [90] []))))
def solve_Least.b2 : R.C := (.seq (.reg [] [.a 62 (.bin .lss (.t 61) (.t 60))] [] [])
  (.seq (.cond (.t 62) .skip (.exit 2))
  (.seq (.block 3 (.seq (.reg [] [.a 63 (.mv (.t 61)), .a 15 (.mv (.t 63))] [62, 63] [])
  (.seq (.reg [] [.a 64 (.mv (.t 13)), .a 65 (.mv (.t 15)), .a 66 (.iA 1 (.t 64) (.t 65)), .a 67 (.ldr (.t 66)), .a 68 (.ln (.t 67)), .a 69 (.mv (.c (.int .i64 0)))] [64, 65, 66, 67] [])
  (.block 4 (.loop [] [] solve_Least.b4)))))
  (.reg [] [.a 91 (.bin .add (.t 61) (.c (.int .i64 1))), .a 61 (.mv (.t 91))] [15, 68, 69, 70, 91] []))))
def solve_Least : R.Fn := ⟨3, [(.own 6), (.own 7)], (.seq (.reg [] [.a 6 (.mv (.c (.sl 3 []))), .a 7 (.mv (.c (.int .i64 0)))] [6, 7] [])
  (.seq (.reg [] [.a 23 (.mv (.t 0)), .a 24 (.callc F.solve_Size [(.t 23)]), .a 22 (.mv (.t 24)), .a 25 (.ext (.t 22) 0), .a 26 (.ext (.t 22) 1), .a 27 (.ext (.t 22) 2), .a 8 (.mv (.t 25)), .a 9 (.mv (.t 26)), .a 10 (.mv (.t 27))] [22, 23, 24, 25, 26, 27] [])
  (.seq (.seq (.reg [] [.a 28 (.mv (.t 10)), .a 29 (.un .not (.t 28)), .a 30 (.mv (.t 29)), .g 31 30 false (.mv (.t 8)), .g 32 30 false (.mv (.t 1)), .g 33 30 false (.ln (.t 32)), .g 34 30 false (.bin .neq (.t 31) (.t 33)), .a 35 (.pick (.t 30) (.c (.bool true)) (.t 34)), .a 36 (.mv (.t 35)), .g 37 36 false (.mv (.t 8)), .g 38 36 false (.mv (.t 2)), .g 39 36 false (.ln (.t 38)), .g 40 36 false (.bin .neq (.t 37) (.t 39)), .a 41 (.pick (.t 36) (.c (.bool true)) (.t 40))] [8, 10, 28, 29, 30, 31, 32, 33, 34, 35, 36, 37, 38, 39, 40] [])
  (.cond (.t 41) (.seq (.reg [] [.a 6 (.mv (.c (.sl 3 []))), .a 7 (.mv (.c (.int .i64 14)))] [0, 1, 2, 9, 41] [])
  .ret) .skip))
  (.seq (.seq (.reg [] [.a 42 (.mv (.t 2)), .a 43 (.ln (.t 42)), .a 44 (.mv (.c (.int .i64 0)))] [41] [])
  (.block 0 (.loop [] [] solve_Least.b0)))
  (.seq (.seq (.reg [] [.a 52 (.mv (.t 9)), .a 53 (.bin .eql (.t 52) (.c (.int .i64 0)))] [9, 42, 43, 44, 45, 52] [])
  (.cond (.t 53) (.seq (.reg [] [.a 6 (.mv (.c (.sl 3 []))), .a 7 (.mv (.c (.int .i64 0)))] [0, 1, 2, 53] [])
  .ret) .skip))
  (.seq (.reg [] [.a 55 (.mv (.t 0)), .a 56 (.callh F.solve_Flip [(false, (.t 55))]), .a 54 (.mv (.t 56)), .a 57 (.ext (.t 54) 0), .a 58 (.ext (.t 54) 1), .a 13 (.mv (.t 57)), .a 14 (.mv (.t 58))] [14, 53, 54, 55, 56, 57, 58] [])
  (.seq (.seq (.reg [] [.a 59 (.mv (.t 13)), .a 60 (.ln (.t 59)), .a 61 (.mv (.c (.int .i64 0)))] [59] [])
  (.block 2 (.loop [] [] solve_Least.b2)))
  (.seq (.up [4294967309] (.reg [] [.a 93 (.mv (.t 13)), .a 94 (.mv (.t 0)), .a 95 (.callc F.solve_Mul [(.t 93), (.t 94)]), .a 92 (.mv (.t 95)), .a 96 (.ext (.t 92) 0), .a 97 (.ext (.t 92) 1), .a 17 (.mv (.t 96)), .a 18 (.mv (.t 97))] [0, 2, 60, 61, 62, 92, 93, 94, 95, 96, 97] []))
  (.seq (.seq (.reg [] [.a 98 (.mv (.t 18)), .a 99 (.bin .neq (.t 98) (.c (.int .i64 0)))] [98] [])
  (.cond (.t 99) (.seq (.reg [] [.a 100 (.mv (.t 18)), .a 6 (.mv (.c (.sl 3 []))), .a 7 (.mv (.t 100))] [1, 13, 17, 18, 99, 100] [])
  .ret) .skip))
  (.seq (.reg [] [.a 102 (.mv (.t 13)), .a 103 (.mv (.t 1)), .a 104 (.callh F.solve_Apply [(false, (.t 102)), (false, (.t 103))]), .a 101 (.mv (.t 104)), .a 105 (.ext (.t 101) 0), .a 106 (.ext (.t 101) 1), .a 19 (.mv (.t 105)), .a 20 (.mv (.t 106))] [1, 13, 18, 20, 99, 101, 102, 103, 104, 105, 106] [])
  (.seq (.reg [] [.a 108 (.mv (.t 17)), .a 109 (.callc F.solve_Inverse [(.t 108)]), .a 107 (.mv (.t 109)), .a 110 (.ext (.t 107) 0), .a 111 (.ext (.t 107) 1), .a 21 (.mv (.t 110)), .a 18 (.mv (.t 111))] [17, 107, 108, 109, 110, 111] [])
  (.seq (.seq (.reg [] [.a 112 (.mv (.t 18)), .a 113 (.bin .neq (.t 112) (.c (.int .i64 0)))] [112] [])
  (.cond (.t 113) (.seq (.reg [] [.a 114 (.mv (.t 18)), .a 6 (.mv (.c (.sl 3 []))), .a 7 (.mv (.t 114))] [18, 19, 21, 113, 114] [104, 1104, 2104, 3104])
  .ret) .skip))
  (.seq (.reg [19] [.a 115 (.mv (.t 21)), .a 116 (.mv (.t 19)), .a 117 (.callh F.solve_Apply [(false, (.t 115)), (false, (.t 116))]), .a 118 (.ext (.t 117) 0), .a 119 (.ext (.t 117) 1), .a 6 (.mv (.t 118)), .a 7 (.mv (.t 119))] [18, 19, 21, 113, 115, 116, 117, 118, 119] [104, 1104, 2104, 3104])
  .ret)))))))))))))⟩
def solve_Least.hint : R.Hint := { pub := [(29, [19])], kill := [(0, [6, 7], []), (1, [22, 23, 24, 25, 26, 27], []), (2, [8, 10, 28, 29, 30, 31, 32, 33, 34, 35, 36, 37, 38, 39, 40], []), (3, [0, 1, 2, 9, 41], []), (4, [41], []), (6, [45, 46, 47], []), (7, [12, 48, 49], [12]), (8, [0, 1, 2, 9, 42, 43, 44, 50], []), (9, [50, 51], []), (10, [9, 42, 43, 44, 45, 52], []), (11, [0, 1, 2, 53], []), (12, [14, 53, 54, 55, 56, 57, 58], []), (13, [59], []), (15, [62, 63], []), (16, [64, 65, 66, 67], []), (18, [70, 71], []), (19, [16, 72, 73, 74, 75, 76, 77, 78, 79, 80, 81, 82, 83, 84, 85, 86, 87, 88, 89], []), (20, [90], []), (21, [15, 68, 69, 70, 91], []), (22, [0, 2, 60, 61, 62, 92, 93, 94, 95, 96, 97], []), (23, [98], []), (24, [1, 13, 17, 18, 99, 100], []), (25, [1, 13, 18, 20, 99, 101, 102, 103, 104, 105, 106], []), (26, [17, 107, 108, 109, 110, 111], []), (27, [112], []), (28, [18, 19, 21, 113, 114], [104, 1104, 2104, 3104]), (29, [18, 19, 21, 113, 115, 116, 117, 118, 119], [104, 1104, 2104, 3104])], own := true, heap := true, callh := [(56, [false]), (104, [false, false]), (117, [false, false])], up := [(22, [4294967309])] }
theorem solve_Least.ok : cFn Tryz.prog solve_Least.hint Tryz.f26 = some solve_Least := by kernel_rfl
def game_Shapley.b2 : R.C := (.seq (.reg [] [.a 36 (.bin .lss (.t 35) (.t 34))] [] [])
  (.seq (.cond (.t 36) .skip (.exit 2))
  (.seq (.block 3 (.seq (.reg [] [.a 37 (.mv (.t 35)), .a 11 (.mv (.t 37))] [36, 37] [])
  (.seq (.reg [] [.a 38 (.mv (.t 11)), .a 39 (.mv (.t 9)), .a 40 (.bin .shr (.t 38) (.t 39)), .a 41 (.bin .and (.t 40) (.c (.int .i64 1))), .a 42 (.bin .eql (.t 41) (.c (.int .i64 0)))] [38, 39, 40, 41] [])
  (.cond (.t 42) (.seq (.reg [] [.a 43 (.mv (.t 0)), .a 44 (.mv (.t 11)), .a 45 (.mv (.t 9)), .a 46 (.bin .shl (.c (.int .i64 1)) (.t 45)), .a 47 (.bin .or (.t 44) (.t 46)), .a 48 (.iA 3 (.t 43) (.t 47)), .a 49 (.ld 3 true (.t 48)), .a 50 (.mv (.t 0)), .a 51 (.mv (.t 11)), .a 52 (.iA 3 (.t 50) (.t 51)), .a 53 (.ld 3 true (.t 52)), .a 54 (.call F.ratio_Sub [(.t 49), (.t 53)]), .a 12 (.new [(.bool false), (.sl 1 []), (.sl 1 [])]), .n (.st 3 (.t 12) (.t 54))] [42, 43, 44, 45, 46, 47, 48, 49, 50, 51, 52, 53, 54] [])
  (.reg [42949672970, 51539607564] [.a 55 (.ld 3 true (.t 10)), .a 56 (.mv (.t 6)), .a 57 (.mv (.t 11)), .a 58 (.conv .u64 (.t 57)), .a 59 (.call F.bits_OnesCount [(.t 58)]), .a 60 (.iA 3 (.t 56) (.t 59)), .a 61 (.ld 3 true (.t 60)), .a 62 (.ld 3 true (.t 12)), .a 63 (.call F.ratio_Mul [(.t 61), (.t 62)]), .a 64 (.call F.ratio_Add [(.t 55), (.t 63)]), .n (.st 3 (.t 10) (.t 64))] [11, 12, 55, 56, 57, 58, 59, 60, 61, 62, 63, 64] [12])) .skip))))
  (.reg [] [.a 65 (.bin .add (.t 35) (.c (.int .i64 1))), .a 35 (.mv (.t 65))] [11, 42, 65] []))))
def game_Shapley.b0 : R.C := (.seq (.reg [] [.a 30 (.bin .lss (.t 29) (.t 28))] [] [])
  (.seq (.cond (.t 30) .skip (.exit 0))
  (.seq (.block 1 (.seq (.reg [] [.a 31 (.mv (.t 29)), .a 9 (.mv (.t 31))] [30, 31] [])
  (.seq (.reg [] [.a 32 (.call F.ratio_Zero []), .a 10 (.new [(.bool false), (.sl 1 []), (.sl 1 [])]), .n (.st 3 (.t 10) (.t 32))] [32] [])
  (.seq (.seq (.reg [] [.a 33 (.mv (.t 0)), .a 34 (.ln (.t 33)), .a 35 (.mv (.c (.int .i64 0)))] [33] [])
  (.block 2 (.loop [] [] game_Shapley.b2)))
  (.reg [] [.a 66 (.mv (.t 8)), .a 67 (.ld 3 true (.t 10)), .a 68 (.lit 3 1 [(.bool false), (.sl 1 []), (.sl 1 [])] [(0, 3, (.t 67))]), .a 69 (.app 3 56 (.t 66) (.t 68)), .a 8 (.mv (.t 69))] [9, 10, 34, 35, 36, 66, 67, 68, 69] [10])))))
  (.reg [] [.a 70 (.bin .add (.t 29) (.c (.int .i64 1))), .a 29 (.mv (.t 70))] [70] []))))
def game_Shapley : R.Fn := ⟨1, [(.t 2), (.t 3)], (.seq (.reg [] [.a 2 (.mv (.c (.sl 3 []))), .a 3 (.mv (.c (.int .i64 0)))] [2, 3] [])
  (.seq (.reg [] [.a 14 (.mv (.t 0)), .a 15 (.call F.game_Players [(.t 14)]), .a 13 (.mv (.t 15)), .a 16 (.ext (.t 13) 0), .a 17 (.ext (.t 13) 1), .a 4 (.mv (.t 16)), .a 5 (.mv (.t 17))] [13, 14, 15, 16, 17] [])
  (.seq (.seq (.reg [] [.a 18 (.mv (.t 5)), .a 19 (.un .not (.t 18))] [5, 18] [])
  (.cond (.t 19) (.seq (.reg [] [.a 2 (.mv (.c (.sl 3 []))), .a 3 (.mv (.c (.int .i64 1)))] [0, 4, 19] [])
  .ret) .skip))
  (.seq (.seq (.reg [] [.a 20 (.mv (.t 4)), .a 21 (.bin .eql (.t 20) (.c (.int .i64 0)))] [19, 20] [])
  (.cond (.t 21) (.seq (.reg [] [.a 2 (.mv (.c (.sl 3 []))), .a 3 (.mv (.c (.int .i64 0)))] [0, 4, 21] [])
  .ret) .skip))
  (.seq (.reg [] [.a 23 (.callk F.weigh_New []), .a 24 (.mv (.t 4)), .a 25 (.callk F.dendron_weigh_Table_All [(true, (.t 23)), (false, (.t 24))]), .a 22 (.mv (.t 25)), .a 26 (.ext (.t 22) 0), .a 27 (.ext (.t 22) 1), .a 6 (.mv (.t 26)), .a 7 (.mv (.t 27))] [7, 21, 22, 23, 24, 25, 26, 27] [])
  (.seq (.reg [] [.a 8 (.nil 3)] [] [])
  (.seq (.seq (.reg [] [.a 28 (.mv (.t 4)), .a 29 (.mv (.c (.int .i64 0)))] [4] [])
  (.block 0 (.loop [] [] game_Shapley.b0)))
  (.seq (.reg [] [.a 71 (.mv (.t 8)), .a 2 (.mv (.t 71)), .a 3 (.mv (.c (.int .i64 0)))] [0, 6, 8, 28, 29, 30, 71] [23, 25, 1025, 2025, 3025])
  .ret))))))))⟩
def game_Shapley.hint : R.Hint := { nil := [8], callk := [(23, []), (25, [true, false])], pub := [(17, [42949672970, 51539607564])], kill := [(0, [2, 3], []), (1, [13, 14, 15, 16, 17], []), (2, [5, 18], []), (3, [0, 4, 19], []), (4, [19, 20], []), (5, [0, 4, 21], []), (6, [7, 21, 22, 23, 24, 25, 26, 27], []), (8, [4], []), (10, [30, 31], []), (11, [32], []), (12, [33], []), (14, [36, 37], []), (15, [38, 39, 40, 41], []), (16, [42, 43, 44, 45, 46, 47, 48, 49, 50, 51, 52, 53, 54], []), (17, [11, 12, 55, 56, 57, 58, 59, 60, 61, 62, 63, 64], [12]), (18, [11, 42, 65], []), (19, [9, 10, 34, 35, 36, 66, 67, 68, 69], [10]), (20, [70], []), (21, [0, 6, 8, 28, 29, 30, 71], [23, 25, 1025, 2025, 3025])] }
theorem game_Shapley.ok : cFn Tryz.prog game_Shapley.hint Tryz.f27 = some game_Shapley := by kernel_rfl
def dendronref10_All.b0 : R.C := (.seq (.seq (.reg [] [.a 11 (.mv (.t 5)), .a 12 (.mv (.t 0)), .a 13 (.ln (.t 12)), .a 14 (.bin .lss (.t 11) (.t 13))] [11, 12, 13] [])
  (.cond (.t 14) .skip (.exit 0)))
  (.seq (.block 1 (.seq (.reg [] [.a 17 (.mv (.t 0)), .a 18 (.mv (.t 5)), .a 19 (.iA 3 (.t 17) (.t 18)), .a 20 (.ld 3 true (.t 19)), .a 21 (.mv (.t 1)), .a 22 (.mv (.t 5)), .a 23 (.iA 3 (.t 21) (.t 22)), .a 24 (.ld 3 true (.t 23)), .a 25 (.call F.dendronref10_Is [(.t 20), (.t 24)]), .a 26 (.un .not (.t 25))] [14, 17, 18, 19, 20, 21, 22, 23, 24, 25] [])
  (.cond (.t 26) (.seq (.reg [] [.a 4 (.mv (.c (.bool false)))] [0, 1, 5, 26] [])
  .ret) .skip)))
  (.reg [] [.a 15 (.mv (.t 5)), .a 16 (.bin .add (.t 15) (.c (.int .i64 1))), .a 5 (.mv (.t 16))] [15, 16, 26] [])))
def dendronref10_All : R.Fn := ⟨2, [(.t 4)], (.seq (.reg [] [.a 4 (.mv (.c (.bool false)))] [4] [])
  (.seq (.seq (.reg [] [.a 6 (.mv (.t 0)), .a 7 (.ln (.t 6)), .a 8 (.mv (.t 1)), .a 9 (.ln (.t 8)), .a 10 (.bin .neq (.t 7) (.t 9))] [6, 7, 8, 9] [])
  (.cond (.t 10) (.seq (.reg [] [.a 4 (.mv (.c (.bool false)))] [0, 1, 10] [])
  .ret) .skip))
  (.seq (.seq (.reg [] [.a 5 (.mv (.c (.int .i64 0)))] [10] [])
  (.block 0 (.loop [] [] dendronref10_All.b0)))
  (.seq (.reg [] [.a 4 (.mv (.c (.bool true)))] [0, 1, 5, 14] [])
  .ret))))⟩
def dendronref10_All.hint : R.Hint := { kill := [(0, [4], []), (1, [6, 7, 8, 9], []), (2, [0, 1, 10], []), (3, [10], []), (4, [11, 12, 13], []), (5, [15, 16, 26], []), (6, [14, 17, 18, 19, 20, 21, 22, 23, 24, 25], []), (7, [0, 1, 5, 26], []), (8, [0, 1, 5, 14], [])] }
theorem dendronref10_All.ok : cFn Tryz.prog dendronref10_All.hint Tryz.f28 = some dendronref10_All := by kernel_rfl
def dendronlaw19_number : R.Fn := ⟨1, [(.cell 2 3 true)], (.seq (.reg [] [.a 1 (.box (.t 0)), .a 2 (.new [(.bool false), (.sl 1 []), (.sl 1 [])])] [0] [])
  (.seq (.seq (.reg [] [.a 3 (.fA 0 (.t 1)), .a 4 (.fA 1 (.t 3)), .a 5 (.ld 1 false (.t 4)), .a 6 (.ln (.t 5)), .a 7 (.bin .gtr (.t 6) (.c (.int .i64 2)))] [3, 4, 5, 6] [])
  (.cond (.t 7) (.reg [] [.a 8 (.fA 0 (.t 1)), .a 9 (.fA 1 (.t 8)), .a 10 (.ld 1 false (.t 9)), .a 11 (.slc 1 (.t 10) none (some (.c (.int .i64 2)))), .a 12 (.fA 0 (.t 1)), .a 13 (.fA 1 (.t 12)), .n (.st 1 (.t 13) (.t 11))] [7, 8, 9, 10, 11, 12, 13] []) .skip))
  (.seq (.seq (.reg [] [.a 14 (.fA 2 (.t 1)), .a 15 (.ld 1 false (.t 14)), .a 16 (.ln (.t 15)), .a 17 (.bin .gtr (.t 16) (.c (.int .i64 2)))] [7, 14, 15, 16] [])
  (.cond (.t 17) (.reg [] [.a 18 (.fA 2 (.t 1)), .a 19 (.ld 1 false (.t 18)), .a 20 (.slc 1 (.t 19) none (some (.c (.int .i64 2)))), .a 21 (.fA 2 (.t 1)), .n (.st 1 (.t 21) (.t 20))] [17, 18, 19, 20, 21] []) .skip))
  (.seq (.reg [] [.a 22 (.ld 3 true (.t 1)), .n (.st 3 (.t 2) (.t 22))] [1, 17, 22] [1])
  .ret))))⟩
def dendronlaw19_number.hint : R.Hint := { kill := [(0, [0], []), (1, [3, 4, 5, 6], []), (2, [7, 8, 9, 10, 11, 12, 13], []), (3, [7, 14, 15, 16], []), (4, [17, 18, 19, 20, 21], []), (5, [1, 17, 22], [1])] }
theorem dendronlaw19_number.ok : cFn Tryz.prog dendronlaw19_number.hint Tryz.f30 = some dendronlaw19_number := by kernel_rfl
def game_Players : R.Fn := ⟨1, [(.t 2), (.t 3)], (.seq (.reg [] [.a 2 (.mv (.c (.int .i64 0))), .a 3 (.mv (.c (.bool false)))] [2, 3] [])
  (.seq (.reg [] [.a 5 (.mv (.t 0)), .a 6 (.ln (.t 5)), .a 7 (.conv .u64 (.t 6)), .a 8 (.call F.bits_Len [(.t 7)]), .a 9 (.bin .sub (.t 8) (.c (.int .i64 1))), .a 4 (.mv (.t 9))] [5, 6, 7, 8, 9] [])
  (.seq (.seq (.reg [] [.a 10 (.mv (.t 0)), .a 11 (.ln (.t 10)), .a 12 (.bin .eql (.t 11) (.c (.int .i64 0))), .a 13 (.mv (.t 12)), .g 14 13 false (.mv (.t 0)), .g 15 13 false (.ln (.t 14)), .g 16 13 false (.mv (.t 4)), .g 17 13 false (.bin .shl (.c (.int .i64 1)) (.t 16)), .g 18 13 false (.bin .neq (.t 15) (.t 17)), .a 19 (.pick (.t 13) (.c (.bool true)) (.t 18)), .a 20 (.mv (.t 19)), .g 21 20 false (.mv (.t 4)), .g 22 20 false (.bin .gtr (.t 21) (.c (.int .i64 12))), .a 23 (.pick (.t 20) (.c (.bool true)) (.t 22))] [0, 10, 11, 12, 13, 14, 15, 16, 17, 18, 19, 20, 21, 22] [])
  (.cond (.t 23) (.seq (.reg [] [.a 2 (.mv (.c (.int .i64 0))), .a 3 (.mv (.c (.bool false)))] [4, 23] [])
  .ret) .skip))
  (.seq (.reg [] [.a 24 (.mv (.t 4)), .a 2 (.mv (.t 24)), .a 3 (.mv (.c (.bool true)))] [4, 23, 24] [])
  .ret))))⟩
def game_Players.hint : R.Hint := { kill := [(0, [2, 3], []), (1, [5, 6, 7, 8, 9], []), (2, [0, 10, 11, 12, 13, 14, 15, 16, 17, 18, 19, 20, 21, 22], []), (3, [4, 23], []), (4, [4, 23, 24], [])] }
theorem game_Players.ok : cFn Tryz.prog game_Players.hint Tryz.f31 = some game_Players := by kernel_rfl
def bits_OnesCount : R.Fn := ⟨1, [(.t 2)], (.seq (.reg [] [.a 2 (.mv (.c (.int .i64 0)))] [2] [])
  (.seq (.cond (.c (.bool false)) (.seq (.reg [] [.a 3 (.mv (.t 0)), .a 4 (.conv .u32 (.t 3)), .a 5 (.call F.bits_OnesCount32 [(.t 4)]), .a 2 (.mv (.t 5))] [0, 3, 4, 5] [])
  .ret) .skip)
  (.seq (.reg [] [.a 6 (.mv (.t 0)), .a 7 (.call F.bits_OnesCount64 [(.t 6)]), .a 2 (.mv (.t 7))] [0, 6, 7] [])
  .ret)))⟩
def bits_OnesCount.hint : R.Hint := { kill := [(0, [2], []), (1, [0, 3, 4, 5], []), (2, [0, 6, 7], [])] }
theorem bits_OnesCount.ok : cFn Tryz.prog bits_OnesCount.hint Tryz.f32 = some bits_OnesCount := by kernel_rfl
def ratio_Of : R.Fn := ⟨1, [(.cell 2 3 true)], (.seq (.reg [] [.a 2 (.new [(.bool false), (.sl 1 []), (.sl 1 [])])] [] [])
  (.seq (.reg [] [.a 3 (.mv (.t 0)), .a 4 (.call F.whole_Of [(.t 3)]), .a 5 (.call F.nat_Of [(.c (.int .u64 1))]), .a 6 (.bld [(.bool false), (.sl 1 []), (.sl 1 [])] [(0, 2, (.t 4)), (2, 1, (.t 5))]), .n (.st 3 (.t 2) (.t 6))] [0, 3, 4, 5, 6] [])
  .ret))⟩
def ratio_Of.hint : R.Hint := { kill := [(1, [0, 3, 4, 5, 6], [])] }
theorem ratio_Of.ok : cFn Tryz.prog ratio_Of.hint Tryz.f34 = some ratio_Of := by kernel_rfl
def dendron_weigh_Table_Weight : R.Fn := ⟨3, [(.cell 6 3 true), (.t 7)], (.seq (.reg [] [.a 6 (.new [(.bool false), (.sl 1 []), (.sl 1 [])]), .a 7 (.mv (.c (.int .i64 0)))] [7] [])
  (.seq (.block 0 (.seq (.reg [] [.a 9 (.mv (.t 0)), .a 10 (.pnil false (.t 9)), .a 8 (.mv (.t 10))] [9, 10] [])
  (.cond (.t 8) (.seq (.reg [] [.a 11 (.bld [(.bool false), (.sl 1 []), (.sl 1 [])] []), .n (.st 3 (.t 6) (.t 11)), .a 7 (.mv (.c (.int .i64 18)))] [0, 1, 2, 8, 11] [])
  .ret) (.seq (.reg [] [.a 13 (.mv (.t 2)), .a 14 (.bin .lss (.t 13) (.c (.int .i64 1))), .a 15 (.mv (.t 14)), .g 16 15 false (.mv (.t 2)), .g 17 15 false (.bin .gtr (.t 16) (.c (.int .i64 64))), .a 18 (.pick (.t 15) (.c (.bool true)) (.t 17)), .a 19 (.mv (.t 18)), .g 20 19 false (.mv (.t 1)), .g 21 19 false (.bin .lss (.t 20) (.c (.int .i64 0))), .a 22 (.pick (.t 19) (.c (.bool true)) (.t 21)), .a 23 (.mv (.t 22)), .g 24 23 false (.mv (.t 1)), .g 25 23 false (.mv (.t 2)), .g 26 23 false (.bin .geq (.t 24) (.t 25)), .a 27 (.pick (.t 23) (.c (.bool true)) (.t 26)), .a 12 (.mv (.t 27))] [8, 13, 14, 15, 16, 17, 18, 19, 20, 21, 22, 23, 24, 25, 26, 27] [])
  (.cond (.t 12) (.seq (.reg [] [.a 28 (.bld [(.bool false), (.sl 1 []), (.sl 1 [])] []), .n (.st 3 (.t 6) (.t 28)), .a 7 (.mv (.c (.int .i64 8)))] [0, 1, 2, 12, 28] [])
  .ret) .skip)))))
  (.seq (.reg [] [.a 29 (.mv (.t 0)), .a 30 (.mv (.t 1)), .a 31 (.mv (.t 2)), .a 32 (.mv (.t 1)), .a 33 (.bin .sub (.t 31) (.t 32)), .a 34 (.bin .sub (.t 33) (.c (.int .i64 1))), .a 35 (.mv (.t 2)), .a 36 (.callk F.dendron_weigh_Table_quotient [(true, (.t 29)), (false, (.t 30)), (false, (.t 34)), (false, (.t 35))]), .n (.st 3 (.t 6) (.t 36)), .a 7 (.mv (.c (.int .i64 0)))] [0, 1, 2, 12, 29, 30, 31, 32, 33, 34, 35, 36] [36])
  .ret)))⟩
def dendron_weigh_Table_Weight.hint : R.Hint := { callk := [(36, [true, false, false, false])], kill := [(0, [7], []), (1, [9, 10], []), (2, [0, 1, 2, 8, 11], []), (3, [8, 13, 14, 15, 16, 17, 18, 19, 20, 21, 22, 23, 24, 25, 26, 27], []), (4, [0, 1, 2, 12, 28], []), (5, [0, 1, 2, 12, 29, 30, 31, 32, 33, 34, 35, 36], [36])] }
theorem dendron_weigh_Table_Weight.ok : cFn Tryz.prog dendron_weigh_Table_Weight.hint Tryz.f38 = some dendron_weigh_Table_Weight := by kernel_rfl
def nat_Of : R.Fn := ⟨1, [(.t 2)], (.seq (.reg [] [.a 2 (.mv (.c (.sl 1 [])))] [2] [])
  (.seq (.reg [] [.a 3 (.mv (.t 0)), .a 4 (.bin .and (.t 3) (.c (.int .u64 4294967295))), .a 5 (.mv (.t 0)), .a 6 (.bin .shr (.t 5) (.c (.int .u64 32))), .a 7 (.lit 1 2 [(.int .u64 0), (.int .u64 0)] [(0, 1, (.t 4)), (1, 1, (.t 6))]), .a 8 (.call F.nat_trim [(.t 7)]), .a 2 (.mv (.t 8))] [0, 3, 4, 5, 6, 7, 8] [])
  .ret))⟩
def nat_Of.hint : R.Hint := { kill := [(0, [2], []), (1, [0, 3, 4, 5, 6, 7, 8], [])] }
theorem nat_Of.ok : cFn Tryz.prog nat_Of.hint Tryz.f39 = some nat_Of := by kernel_rfl
def dendron_weigh_Table_quotient : R.Fn := ⟨4, [(.cell 8 3 true)], (.seq (.reg [] [.a 8 (.new [(.bool false), (.sl 1 []), (.sl 1 [])])] [] [])
  (.seq (.reg [] [.a 12 (.mv (.t 0)), .a 13 (.mv (.t 1)), .a 14 (.callk F.dendron_weigh_Table_at [(true, (.t 12)), (false, (.t 13))]), .a 15 (.mv (.t 0)), .a 16 (.mv (.t 2)), .a 17 (.callk F.dendron_weigh_Table_at [(true, (.t 15)), (false, (.t 16))]), .a 18 (.call F.whole_Mul [(.t 14), (.t 17)]), .a 19 (.mv (.t 0)), .a 20 (.mv (.t 3)), .a 21 (.callk F.dendron_weigh_Table_at [(true, (.t 19)), (false, (.t 20))]), .a 22 (.call F.ratio_Make [(.t 18), (.t 21)]), .a 11 (.mv (.t 22)), .a 23 (.ext (.t 11) 0), .a 24 (.ext (.t 11) 1), .a 9 (.new [(.bool false), (.sl 1 []), (.sl 1 [])]), .n (.st 3 (.t 9) (.t 23)), .a 10 (.mv (.t 24))] [0, 1, 2, 3, 10, 11, 12, 13, 14, 15, 16, 17, 18, 19, 20, 21, 22, 23, 24] [14, 17, 21])
  (.seq (.reg [] [.a 25 (.ld 3 true (.t 9)), .n (.st 3 (.t 8) (.t 25))] [9, 25] [9])
  .ret)))⟩
def dendron_weigh_Table_quotient.hint : R.Hint := { callk := [(14, [true, false]), (17, [true, false]), (21, [true, false])], kill := [(1, [0, 1, 2, 3, 10, 11, 12, 13, 14, 15, 16, 17, 18, 19, 20, 21, 22, 23, 24], [14, 17, 21]), (2, [9, 25], [9])] }
theorem dendron_weigh_Table_quotient.ok : cFn Tryz.prog dendron_weigh_Table_quotient.hint Tryz.f40 = some dendron_weigh_Table_quotient := by kernel_rfl
def ratio_Frac : R.Fn := ⟨2, [(.cell 4 3 true)], (.seq (.reg [] [.a 4 (.new [(.bool false), (.sl 1 []), (.sl 1 [])])] [] [])
  (.seq (.reg [] [.a 8 (.mv (.t 0)), .a 9 (.call F.whole_Of [(.t 8)]), .a 10 (.mv (.t 1)), .a 11 (.call F.whole_Of [(.t 10)]), .a 12 (.call F.ratio_Make [(.t 9), (.t 11)]), .a 7 (.mv (.t 12)), .a 13 (.ext (.t 7) 0), .a 14 (.ext (.t 7) 1), .a 5 (.new [(.bool false), (.sl 1 []), (.sl 1 [])]), .n (.st 3 (.t 5) (.t 13)), .a 6 (.mv (.t 14))] [0, 1, 6, 7, 8, 9, 10, 11, 12, 13, 14] [])
  (.seq (.reg [] [.a 15 (.ld 3 true (.t 5)), .a 16 (.call F.ratio_Clean [(.t 15)]), .n (.st 3 (.t 4) (.t 16))] [5, 15, 16] [5])
  .ret)))⟩
def ratio_Frac.hint : R.Hint := { kill := [(1, [0, 1, 6, 7, 8, 9, 10, 11, 12, 13, 14], []), (2, [5, 15, 16], [5])] }
theorem ratio_Frac.ok : cFn Tryz.prog ratio_Frac.hint Tryz.f41 = some ratio_Frac := by kernel_rfl
def ratio_Clean : R.Fn := ⟨1, [(.cell 2 3 true)], (.seq (.reg [] [.a 1 (.box (.t 0)), .a 2 (.new [(.bool false), (.sl 1 []), (.sl 1 [])])] [0] [])
  (.seq (.reg [] [.a 4 (.fA 2 (.t 1)), .a 5 (.ld 1 false (.t 4)), .a 6 (.call F.nat_Clean [(.t 5)]), .a 3 (.mv (.t 6))] [4, 5, 6] [])
  (.seq (.seq (.reg [] [.a 7 (.mv (.t 3)), .a 8 (.ln (.t 7)), .a 9 (.bin .eql (.t 8) (.c (.int .i64 0)))] [7, 8] [])
  (.cond (.t 9) (.seq (.reg [] [.a 10 (.call F.ratio_Zero []), .n (.st 3 (.t 2) (.t 10))] [1, 3, 9, 10] [1])
  .ret) .skip))
  (.seq (.reg [] [.a 11 (.fA 0 (.t 1)), .a 12 (.ld 2 true (.t 11)), .a 13 (.call F.whole_Clean [(.t 12)]), .a 14 (.mv (.t 3)), .a 15 (.call F.ratio_form [(.t 13), (.t 14)]), .n (.st 3 (.t 2) (.t 15))] [1, 3, 9, 11, 12, 13, 14, 15] [1])
  .ret))))⟩
def ratio_Clean.hint : R.Hint := { kill := [(0, [0], []), (1, [4, 5, 6], []), (2, [7, 8], []), (3, [1, 3, 9, 10], [1]), (4, [1, 3, 9, 11, 12, 13, 14, 15], [1])] }
theorem ratio_Clean.ok : cFn Tryz.prog ratio_Clean.hint Tryz.f42 = some ratio_Clean := by kernel_rfl
def ratio_form : R.Fn := ⟨2, [(.cell 4 3 true)], (.seq (.reg [] [.a 2 (.box (.t 0)), .a 4 (.new [(.bool false), (.sl 1 []), (.sl 1 [])])] [0] [])
  (.seq (.seq (.reg [] [.a 12 (.fA 1 (.t 2)), .a 13 (.ld 1 false (.t 12)), .a 14 (.ln (.t 13)), .a 15 (.bin .eql (.t 14) (.c (.int .i64 0)))] [12, 13, 14] [])
  (.cond (.t 15) (.seq (.reg [] [.a 16 (.call F.nat_Of [(.c (.int .u64 1))]), .a 17 (.bld [(.bool false), (.sl 1 []), (.sl 1 [])] [(2, 1, (.t 16))]), .n (.st 3 (.t 4) (.t 17))] [1, 2, 15, 16, 17] [2])
  .ret) .skip))
  (.seq (.reg [] [.a 18 (.fA 1 (.t 2)), .a 19 (.ld 1 false (.t 18)), .a 20 (.mv (.t 1)), .a 21 (.call F.nat_Gcd [(.t 19), (.t 20)]), .a 5 (.mv (.t 21))] [15, 18, 19, 20, 21] [])
  (.seq (.seq (.reg [] [.a 22 (.mv (.t 5)), .a 23 (.ln (.t 22)), .a 24 (.bin .eql (.t 23) (.c (.int .i64 1))), .a 25 (.mv (.t 24)), .g 26 25 true (.mv (.t 5)), .g 27 25 true (.iA 1 (.t 26) (.c (.int .i64 0))), .g 28 25 true (.ld 1 false (.t 27)), .g 29 25 true (.bin .eql (.t 28) (.c (.int .u64 1))), .a 30 (.pick (.t 25) (.t 29) (.c (.bool false)))] [22, 23, 24, 25, 26, 27, 28, 29] [])
  (.cond (.t 30) (.seq (.reg [] [.a 31 (.ld 2 true (.t 2)), .a 32 (.mv (.t 1)), .a 33 (.bld [(.bool false), (.sl 1 []), (.sl 1 [])] [(0, 2, (.t 31)), (2, 1, (.t 32))]), .n (.st 3 (.t 4) (.t 33))] [1, 2, 5, 30, 31, 32, 33] [2])
  .ret) .skip))
  (.seq (.reg [] [.a 35 (.fA 1 (.t 2)), .a 36 (.ld 1 false (.t 35)), .a 37 (.mv (.t 5)), .a 38 (.call F.nat_DivMod [(.t 36), (.t 37)]), .a 34 (.mv (.t 38)), .a 39 (.ext (.t 34) 0), .a 40 (.ext (.t 34) 1), .a 41 (.ext (.t 34) 2), .a 6 (.mv (.t 39)), .a 7 (.mv (.t 40)), .a 8 (.mv (.t 41))] [7, 8, 30, 34, 35, 36, 37, 38, 39, 40, 41] [])
  (.seq (.reg [] [.a 43 (.mv (.t 1)), .a 44 (.mv (.t 5)), .a 45 (.call F.nat_DivMod [(.t 43), (.t 44)]), .a 42 (.mv (.t 45)), .a 46 (.ext (.t 42) 0), .a 47 (.ext (.t 42) 1), .a 48 (.ext (.t 42) 2), .a 9 (.mv (.t 46)), .a 10 (.mv (.t 47)), .a 11 (.mv (.t 48))] [1, 5, 10, 11, 42, 43, 44, 45, 46, 47, 48] [])
  (.seq (.reg [] [.a 49 (.fA 0 (.t 2)), .a 50 (.ld 1 false (.t 49)), .a 51 (.mv (.t 6)), .a 52 (.bld [(.bool false), (.sl 1 [])] [(0, 1, (.t 50)), (1, 1, (.t 51))]), .a 53 (.mv (.t 9)), .a 54 (.bld [(.bool false), (.sl 1 []), (.sl 1 [])] [(0, 2, (.t 52)), (2, 1, (.t 53))]), .n (.st 3 (.t 4) (.t 54))] [2, 6, 9, 49, 50, 51, 52, 53, 54] [2])
  .ret)))))))⟩
def ratio_form.hint : R.Hint := { kill := [(0, [0], []), (1, [12, 13, 14], []), (2, [1, 2, 15, 16, 17], [2]), (3, [15, 18, 19, 20, 21], []), (4, [22, 23, 24, 25, 26, 27, 28, 29], []), (5, [1, 2, 5, 30, 31, 32, 33], [2]), (6, [7, 8, 30, 34, 35, 36, 37, 38, 39, 40, 41], []), (7, [1, 5, 10, 11, 42, 43, 44, 45, 46, 47, 48], []), (8, [2, 6, 9, 49, 50, 51, 52, 53, 54], [2])] }
theorem ratio_form.ok : cFn Tryz.prog ratio_form.hint Tryz.f43 = some ratio_form := by kernel_rfl
def whole_Add : R.Fn := ⟨2, [(.cell 4 2 true)], (.seq (.reg [] [.a 2 (.box (.t 0)), .a 3 (.box (.t 1)), .a 4 (.new [(.bool false), (.sl 1 [])])] [0, 1] [])
  (.seq (.reg [] [.a 7 (.ld 2 true (.t 2)), .a 8 (.call F.whole_Clean [(.t 7)]), .a 9 (.ld 2 true (.t 3)), .a 10 (.call F.whole_Clean [(.t 9)]), .n (.st 2 (.t 2) (.t 8)), .n (.st 2 (.t 3) (.t 10))] [7, 8, 9, 10] [])
  (.seq (.seq (.reg [] [.a 11 (.fA 0 (.t 2)), .a 12 (.ld 1 false (.t 11)), .a 13 (.fA 0 (.t 3)), .a 14 (.ld 1 false (.t 13)), .a 15 (.beq false (.t 12) (.t 14))] [11, 12, 13, 14] [])
  (.cond (.t 15) (.seq (.reg [] [.a 16 (.fA 0 (.t 2)), .a 17 (.ld 1 false (.t 16)), .a 18 (.fA 1 (.t 2)), .a 19 (.ld 1 false (.t 18)), .a 20 (.fA 1 (.t 3)), .a 21 (.ld 1 false (.t 20)), .a 22 (.call F.nat_Add [(.t 19), (.t 21)]), .a 23 (.call F.whole_sign [(.t 17), (.t 22)]), .n (.st 2 (.t 4) (.t 23))] [2, 3, 15, 16, 17, 18, 19, 20, 21, 22, 23] [2, 3])
  .ret) .skip))
  (.seq (.seq (.reg [] [.a 24 (.fA 1 (.t 2)), .a 25 (.ld 1 false (.t 24)), .a 26 (.fA 1 (.t 3)), .a 27 (.ld 1 false (.t 26)), .a 28 (.call F.nat_Cmp [(.t 25), (.t 27)]), .a 29 (.bin .lss (.t 28) (.c (.int .i64 0)))] [15, 24, 25, 26, 27, 28] [])
  (.cond (.t 29) (.reg [] [.a 30 (.ld 2 true (.t 3)), .a 31 (.ld 2 true (.t 2)), .n (.st 2 (.t 2) (.t 30)), .n (.st 2 (.t 3) (.t 31))] [29, 30, 31] []) .skip))
  (.seq (.reg [] [.a 33 (.fA 1 (.t 2)), .a 34 (.ld 1 false (.t 33)), .a 35 (.fA 1 (.t 3)), .a 36 (.ld 1 false (.t 35)), .a 37 (.call F.nat_Sub [(.t 34), (.t 36)]), .a 32 (.mv (.t 37)), .a 38 (.ext (.t 32) 0), .a 39 (.ext (.t 32) 1), .a 5 (.mv (.t 38)), .a 6 (.mv (.t 39))] [3, 6, 29, 32, 33, 34, 35, 36, 37, 38, 39] [3])
  (.seq (.reg [] [.a 40 (.fA 0 (.t 2)), .a 41 (.ld 1 false (.t 40)), .a 42 (.mv (.t 5)), .a 43 (.call F.whole_sign [(.t 41), (.t 42)]), .n (.st 2 (.t 4) (.t 43))] [2, 5, 40, 41, 42, 43] [2])
  .ret))))))⟩
def whole_Add.hint : R.Hint := { kill := [(0, [0, 1], []), (1, [7, 8, 9, 10], []), (2, [11, 12, 13, 14], []), (3, [2, 3, 15, 16, 17, 18, 19, 20, 21, 22, 23], [2, 3]), (4, [15, 24, 25, 26, 27, 28], []), (5, [29, 30, 31], []), (6, [3, 6, 29, 32, 33, 34, 35, 36, 37, 38, 39], [3]), (7, [2, 5, 40, 41, 42, 43], [2])] }
theorem whole_Add.ok : cFn Tryz.prog whole_Add.hint Tryz.f44 = some whole_Add := by kernel_rfl
def whole_Mul : R.Fn := ⟨2, [(.cell 4 2 true)], (.seq (.reg [] [.a 2 (.box (.t 0)), .a 3 (.box (.t 1)), .a 4 (.new [(.bool false), (.sl 1 [])])] [0, 1] [])
  (.seq (.reg [] [.a 5 (.ld 2 true (.t 2)), .a 6 (.call F.whole_Clean [(.t 5)]), .a 7 (.ld 2 true (.t 3)), .a 8 (.call F.whole_Clean [(.t 7)]), .n (.st 2 (.t 2) (.t 6)), .n (.st 2 (.t 3) (.t 8))] [5, 6, 7, 8] [])
  (.seq (.reg [] [.a 9 (.fA 0 (.t 2)), .a 10 (.ld 1 false (.t 9)), .a 11 (.fA 0 (.t 3)), .a 12 (.ld 1 false (.t 11)), .a 13 (.beq true (.t 10) (.t 12)), .a 14 (.fA 1 (.t 2)), .a 15 (.ld 1 false (.t 14)), .a 16 (.fA 1 (.t 3)), .a 17 (.ld 1 false (.t 16)), .a 18 (.call F.nat_Mul [(.t 15), (.t 17)]), .a 19 (.call F.whole_sign [(.t 13), (.t 18)]), .n (.st 2 (.t 4) (.t 19))] [2, 3, 9, 10, 11, 12, 13, 14, 15, 16, 17, 18, 19] [2, 3])
  .ret)))⟩
def whole_Mul.hint : R.Hint := { kill := [(0, [0, 1], []), (1, [5, 6, 7, 8], []), (2, [2, 3, 9, 10, 11, 12, 13, 14, 15, 16, 17, 18, 19], [2, 3])] }
theorem whole_Mul.ok : cFn Tryz.prog whole_Mul.hint Tryz.f45 = some whole_Mul := by kernel_rfl
def ratio_den : R.Fn := ⟨1, [(.cell 2 2 true)], (.seq (.reg [] [.a 1 (.box (.t 0)), .a 2 (.new [(.bool false), (.sl 1 [])])] [0] [])
  (.seq (.reg [] [.a 3 (.fA 2 (.t 1)), .a 4 (.ld 1 false (.t 3)), .a 5 (.bld [(.bool false), (.sl 1 [])] [(1, 1, (.t 4))]), .n (.st 2 (.t 2) (.t 5))] [1, 3, 4, 5] [1])
  .ret))⟩
def ratio_den.hint : R.Hint := { kill := [(0, [0], []), (1, [1, 3, 4, 5], [1])] }
theorem ratio_den.ok : cFn Tryz.prog ratio_den.hint Tryz.f46 = some ratio_den := by kernel_rfl
def nat_Mul.b2 : R.C := (.seq (.reg [] [.a 31 (.bin .lss (.t 30) (.t 29))] [] [])
  (.seq (.cond (.t 31) .skip (.exit 2))
  (.seq (.block 3 (.seq (.reg [] [.a 32 (.mv (.t 30)), .a 33 (.iA 1 (.t 28) (.t 30)), .a 34 (.ld 1 false (.t 33)), .a 9 (.mv (.t 32)), .a 10 (.mv (.t 34))] [31, 32, 33, 34] [])
  (.seq (.reg [] [.a 35 (.mv (.t 8)), .a 36 (.mv (.t 5)), .a 37 (.mv (.t 6)), .a 38 (.mv (.t 9)), .a 39 (.bin .add (.t 37) (.t 38)), .a 40 (.iA 1 (.t 36) (.t 39)), .a 41 (.ld 1 false (.t 40)), .a 42 (.mv (.t 7)), .a 43 (.mv (.t 10)), .a 44 (.bin .mul (.t 42) (.t 43)), .a 45 (.bin .add (.t 41) (.t 44)), .a 46 (.bin .add (.t 35) (.t 45)), .a 8 (.mv (.t 46))] [10, 35, 36, 37, 38, 39, 40, 41, 42, 43, 44, 45, 46] [])
  (.seq (.reg [] [.a 47 (.mv (.t 5)), .a 48 (.mv (.t 6)), .a 49 (.mv (.t 9)), .a 50 (.bin .add (.t 48) (.t 49)), .a 51 (.mv (.t 8)), .a 52 (.bin .and (.t 51) (.c (.int .u64 4294967295))), .a 53 (.iA 1 (.t 47) (.t 50)), .n (.st 1 (.t 53) (.t 52))] [9, 47, 48, 49, 50, 51, 52, 53] [])
  (.reg [] [.a 54 (.mv (.t 8)), .a 55 (.bin .shr (.t 54) (.c (.int .u64 32))), .a 8 (.mv (.t 55))] [54, 55] [])))))
  (.reg [] [.a 56 (.bin .add (.t 30) (.c (.int .i64 1))), .a 30 (.mv (.t 56))] [56] []))))
def nat_Mul.b0 : R.C := (.seq (.reg [] [.a 24 (.bin .lss (.t 23) (.t 22))] [] [])
  (.seq (.cond (.t 24) .skip (.exit 0))
  (.seq (.block 1 (.seq (.reg [] [.a 25 (.mv (.t 23)), .a 26 (.iA 1 (.t 21) (.t 23)), .a 27 (.ld 1 false (.t 26)), .a 6 (.mv (.t 25)), .a 7 (.mv (.t 27))] [24, 25, 26, 27] [])
  (.seq (.reg [] [.a 8 (.mv (.c (.int .u64 0)))] [] [])
  (.seq (.seq (.reg [] [.a 28 (.mv (.t 1)), .a 29 (.ln (.t 28)), .a 30 (.mv (.c (.int .i64 0)))] [] [])
  (.block 2 (.loop [] [] nat_Mul.b2)))
  (.reg [] [.a 57 (.mv (.t 5)), .a 58 (.mv (.t 6)), .a 59 (.mv (.t 1)), .a 60 (.ln (.t 59)), .a 61 (.bin .add (.t 58) (.t 60)), .a 62 (.mv (.t 8)), .a 63 (.iA 1 (.t 57) (.t 61)), .n (.st 1 (.t 63) (.t 62))] [6, 7, 8, 28, 29, 30, 31, 57, 58, 59, 60, 61, 62, 63] [])))))
  (.reg [] [.a 64 (.bin .add (.t 23) (.c (.int .i64 1))), .a 23 (.mv (.t 64))] [64] []))))
def nat_Mul : R.Fn := ⟨2, [(.t 4)], (.seq (.reg [] [.a 4 (.mv (.c (.sl 1 [])))] [4] [])
  (.seq (.reg [] [.a 11 (.mv (.t 0)), .a 12 (.call F.nat_Clean [(.t 11)]), .a 13 (.mv (.t 1)), .a 14 (.call F.nat_Clean [(.t 13)]), .a 0 (.mv (.t 12)), .a 1 (.mv (.t 14))] [11, 12, 13, 14] [])
  (.seq (.reg [] [.a 15 (.mv (.t 0)), .a 16 (.ln (.t 15)), .a 17 (.mv (.t 1)), .a 18 (.ln (.t 17)), .a 19 (.bin .add (.t 16) (.t 18)), .a 20 (.mk 1 8 [(.int .u64 0)] (.t 19) (.t 19)), .a 5 (.mv (.t 20))] [15, 16, 17, 18, 19, 20] [])
  (.seq (.seq (.reg [] [.a 21 (.mv (.t 0)), .a 22 (.ln (.t 21)), .a 23 (.mv (.c (.int .i64 0)))] [0] [])
  (.block 0 (.loop [] [] nat_Mul.b0)))
  (.seq (.reg [5] [.a 65 (.mv (.t 5)), .a 66 (.call F.nat_trim [(.t 65)]), .a 4 (.mv (.t 66))] [1, 5, 21, 22, 23, 24, 65, 66] [20])
  .ret)))))⟩
def nat_Mul.hint : R.Hint := { pub := [(16, [5])], kill := [(0, [4], []), (1, [11, 12, 13, 14], []), (2, [15, 16, 17, 18, 19, 20], []), (3, [0], []), (5, [24, 25, 26, 27], []), (9, [31, 32, 33, 34], []), (10, [10, 35, 36, 37, 38, 39, 40, 41, 42, 43, 44, 45, 46], []), (11, [9, 47, 48, 49, 50, 51, 52, 53], []), (12, [54, 55], []), (13, [56], []), (14, [6, 7, 8, 28, 29, 30, 31, 57, 58, 59, 60, 61, 62, 63], []), (15, [64], []), (16, [1, 5, 21, 22, 23, 24, 65, 66], [20])] }
theorem nat_Mul.ok : cFn Tryz.prog nat_Mul.hint Tryz.f47 = some nat_Mul := by kernel_rfl
def ratio_Neg : R.Fn := ⟨1, [(.cell 2 3 true)], (.seq (.reg [] [.a 1 (.box (.t 0)), .a 2 (.new [(.bool false), (.sl 1 []), (.sl 1 [])])] [0] [])
  (.seq (.reg [] [.a 3 (.ld 3 true (.t 1)), .a 4 (.call F.ratio_Clean [(.t 3)]), .n (.st 3 (.t 1) (.t 4))] [3, 4] [])
  (.seq (.reg [] [.a 5 (.fA 0 (.t 1)), .a 6 (.ld 2 true (.t 5)), .a 7 (.call F.whole_Neg [(.t 6)]), .a 8 (.fA 0 (.t 1)), .n (.st 2 (.t 8) (.t 7))] [5, 6, 7, 8] [])
  (.seq (.reg [] [.a 9 (.ld 3 true (.t 1)), .n (.st 3 (.t 2) (.t 9))] [1, 9] [1])
  .ret))))⟩
def ratio_Neg.hint : R.Hint := { kill := [(0, [0], []), (1, [3, 4], []), (2, [5, 6, 7, 8], []), (3, [1, 9], [1])] }
theorem ratio_Neg.ok : cFn Tryz.prog ratio_Neg.hint Tryz.f48 = some ratio_Neg := by kernel_rfl
def nat_Gcd.b1 : R.C := (.block 2 (.seq (.seq (.reg [] [.a 43 (.mv (.t 0)), .a 44 (.mv (.t 1)), .a 45 (.call F.nat_order [(.t 43), (.t 44)]), .a 7 (.mv (.t 45))] [43, 44, 45] [])
  (.block 3 (.seq (.reg [] [.a 47 (.mv (.t 7)), .a 48 (.bin .eql (.t 47) (.c (.int .i64 0))), .a 46 (.mv (.t 48))] [47, 48] [])
  (.cond (.t 46) (.seq (.reg [] [.a 49 (.mv (.t 0)), .a 50 (.mv (.t 5)), .a 51 (.mv (.t 6)), .a 52 (.mn (.t 50) (.t 51)), .a 53 (.call F.nat_shl [(.t 49), (.t 52)]), .a 4 (.mv (.t 53))] [0, 1, 5, 6, 7, 46, 49, 50, 51, 52, 53] [])
  .ret) (.seq (.reg [] [.a 55 (.mv (.t 7)), .a 56 (.bin .lss (.t 55) (.c (.int .i64 0))), .a 54 (.mv (.t 56))] [7, 46, 55, 56] [])
  (.cond (.t 54) (.reg [] [.a 57 (.mv (.t 1)), .a 58 (.mv (.t 0)), .a 0 (.mv (.t 57)), .a 1 (.mv (.t 58))] [54, 57, 58] []) .skip))))))
  (.seq (.seq (.reg [] [.a 59 (.mv (.t 0)), .a 60 (.ln (.t 59)), .a 61 (.mv (.t 1)), .a 62 (.ln (.t 61)), .a 63 (.bin .add (.t 62) (.c (.int .i64 1))), .a 64 (.bin .gtr (.t 60) (.t 63))] [54, 59, 60, 61, 62, 63] [])
  (.cond (.t 64) (.seq (.reg [] [.a 66 (.mv (.t 0)), .a 67 (.mv (.t 1)), .a 68 (.call F.nat_rest [(.t 66), (.t 67)]), .a 65 (.mv (.t 68)), .a 69 (.ext (.t 65) 0), .a 70 (.ext (.t 65) 1), .a 0 (.mv (.t 70))] [64, 65, 66, 67, 68, 69, 70] [])
  (.seq (.reg [] [.a 71 (.mv (.t 0)), .a 72 (.ln (.t 71)), .a 73 (.bin .eql (.t 72) (.c (.int .i64 0)))] [71, 72] [])
  (.cond (.t 73) (.seq (.reg [] [.a 74 (.mv (.t 1)), .a 75 (.mv (.t 5)), .a 76 (.mv (.t 6)), .a 77 (.mn (.t 75) (.t 76)), .a 78 (.call F.nat_shl [(.t 74), (.t 77)]), .a 4 (.mv (.t 78))] [0, 1, 5, 6, 73, 74, 75, 76, 77, 78] [])
  .ret) .skip))) (.reg [] [.a 79 (.mv (.t 0)), .a 80 (.mv (.t 1)), .a 81 (.call F.nat_minus [(.t 79), (.t 80)]), .a 0 (.mv (.t 81))] [64, 79, 80, 81] [])))
  (.reg [] [.a 82 (.mv (.t 0)), .a 83 (.mv (.t 0)), .a 84 (.call F.nat_zeros [(.t 83)]), .a 85 (.call F.nat_shr [(.t 82), (.t 84)]), .a 0 (.mv (.t 85))] [73, 82, 83, 84, 85] []))))
def nat_Gcd : R.Fn := ⟨2, [(.t 4)], (.seq (.reg [] [.a 4 (.mv (.c (.sl 1 [])))] [4] [])
  (.seq (.reg [] [.a 8 (.mv (.t 0)), .a 9 (.call F.nat_Clean [(.t 8)]), .a 10 (.mv (.t 1)), .a 11 (.call F.nat_Clean [(.t 10)]), .a 0 (.mv (.t 9)), .a 1 (.mv (.t 11))] [8, 9, 10, 11] [])
  (.seq (.block 0 (.seq (.reg [] [.a 13 (.mv (.t 0)), .a 14 (.ln (.t 13)), .a 15 (.bin .eql (.t 14) (.c (.int .i64 0))), .a 12 (.mv (.t 15))] [13, 14, 15] [])
  (.cond (.t 12) (.seq (.reg [] [.a 16 (.mv (.t 1)), .a 4 (.mv (.t 16))] [0, 1, 12, 16] [])
  .ret) (.seq (.reg [] [.a 18 (.mv (.t 1)), .a 19 (.ln (.t 18)), .a 20 (.bin .eql (.t 19) (.c (.int .i64 0))), .a 17 (.mv (.t 20))] [12, 18, 19, 20] [])
  (.cond (.t 17) (.seq (.reg [] [.a 21 (.mv (.t 0)), .a 4 (.mv (.t 21))] [0, 1, 17, 21] [])
  .ret) .skip)))))
  (.seq (.seq (.reg [] [.a 22 (.mv (.t 0)), .a 23 (.ln (.t 22)), .a 24 (.bin .leq (.t 23) (.c (.int .i64 2))), .a 25 (.mv (.t 24)), .g 26 25 true (.mv (.t 1)), .g 27 25 true (.ln (.t 26)), .g 28 25 true (.bin .leq (.t 27) (.c (.int .i64 2))), .a 29 (.pick (.t 25) (.t 28) (.c (.bool false)))] [17, 22, 23, 24, 25, 26, 27, 28] [])
  (.cond (.t 29) (.seq (.reg [] [.a 30 (.mv (.t 0)), .a 31 (.mv (.t 1)), .a 32 (.call F.nat_euclid [(.t 30), (.t 31)]), .a 4 (.mv (.t 32))] [0, 1, 29, 30, 31, 32] [])
  .ret) .skip))
  (.seq (.reg [] [.a 33 (.mv (.t 0)), .a 34 (.call F.nat_zeros [(.t 33)]), .a 35 (.mv (.t 1)), .a 36 (.call F.nat_zeros [(.t 35)]), .a 5 (.mv (.t 34)), .a 6 (.mv (.t 36))] [29, 33, 34, 35, 36] [])
  (.seq (.reg [] [.a 37 (.mv (.t 0)), .a 38 (.mv (.t 5)), .a 39 (.call F.nat_shr [(.t 37), (.t 38)]), .a 40 (.mv (.t 1)), .a 41 (.mv (.t 6)), .a 42 (.call F.nat_shr [(.t 40), (.t 41)]), .a 0 (.mv (.t 39)), .a 1 (.mv (.t 42))] [37, 38, 39, 40, 41, 42] [])
  (.block 1 (.loop [] [] nat_Gcd.b1))))))))⟩
def nat_Gcd.hint : R.Hint := { kill := [(0, [4], []), (1, [8, 9, 10, 11], []), (2, [13, 14, 15], []), (3, [0, 1, 12, 16], []), (4, [12, 18, 19, 20], []), (5, [0, 1, 17, 21], []), (6, [17, 22, 23, 24, 25, 26, 27, 28], []), (7, [0, 1, 29, 30, 31, 32], []), (8, [29, 33, 34, 35, 36], []), (9, [37, 38, 39, 40, 41, 42], []), (10, [43, 44, 45], []), (11, [47, 48], []), (12, [0, 1, 5, 6, 7, 46, 49, 50, 51, 52, 53], []), (13, [7, 46, 55, 56], []), (14, [54, 57, 58], []), (15, [54, 59, 60, 61, 62, 63], []), (16, [64, 65, 66, 67, 68, 69, 70], []), (17, [71, 72], []), (18, [0, 1, 5, 6, 73, 74, 75, 76, 77, 78], []), (19, [64, 79, 80, 81], []), (20, [73, 82, 83, 84, 85], [])] }
theorem nat_Gcd.ok : cFn Tryz.prog nat_Gcd.hint Tryz.f51 = some nat_Gcd := by kernel_rfl
def nat_Cmp : R.Fn := ⟨2, [(.t 4)], (.seq (.reg [] [.a 4 (.mv (.c (.int .i64 0)))] [4] [])
  (.seq (.reg [] [.a 5 (.mv (.t 0)), .a 6 (.call F.nat_Clean [(.t 5)]), .a 7 (.mv (.t 1)), .a 8 (.call F.nat_Clean [(.t 7)]), .a 9 (.call F.nat_order [(.t 6), (.t 8)]), .a 4 (.mv (.t 9))] [0, 1, 5, 6, 7, 8, 9] [])
  .ret))⟩
def nat_Cmp.hint : R.Hint := { kill := [(0, [4], []), (1, [0, 1, 5, 6, 7, 8, 9], [])] }
theorem nat_Cmp.ok : cFn Tryz.prog nat_Cmp.hint Tryz.f52 = some nat_Cmp := by kernel_rfl
def ratio_Cmp : R.Fn := ⟨2, [(.t 4)], (.seq (.reg [] [.a 2 (.box (.t 0)), .a 3 (.box (.t 1)), .a 4 (.mv (.c (.int .i64 0)))] [0, 1, 4] [])
  (.seq (.reg [] [.a 5 (.ld 3 true (.t 2)), .a 6 (.call F.ratio_Clean [(.t 5)]), .a 7 (.ld 3 true (.t 3)), .a 8 (.call F.ratio_Clean [(.t 7)]), .n (.st 3 (.t 2) (.t 6)), .n (.st 3 (.t 3) (.t 8))] [5, 6, 7, 8] [])
  (.seq (.reg [] [.a 9 (.fA 0 (.t 2)), .a 10 (.ld 2 true (.t 9)), .a 11 (.ld 3 true (.t 3)), .a 12 (.call F.ratio_den [(.t 11)]), .a 13 (.call F.whole_Mul [(.t 10), (.t 12)]), .a 14 (.fA 0 (.t 3)), .a 15 (.ld 2 true (.t 14)), .a 16 (.ld 3 true (.t 2)), .a 17 (.call F.ratio_den [(.t 16)]), .a 18 (.call F.whole_Mul [(.t 15), (.t 17)]), .a 19 (.call F.whole_Cmp [(.t 13), (.t 18)]), .a 4 (.mv (.t 19))] [2, 3, 9, 10, 11, 12, 13, 14, 15, 16, 17, 18, 19] [2, 3])
  .ret)))⟩
def ratio_Cmp.hint : R.Hint := { kill := [(0, [0, 1, 4], []), (1, [5, 6, 7, 8], []), (2, [2, 3, 9, 10, 11, 12, 13, 14, 15, 16, 17, 18, 19], [2, 3])] }
theorem ratio_Cmp.ok : cFn Tryz.prog ratio_Cmp.hint Tryz.f53 = some ratio_Cmp := by kernel_rfl
def whole_Choose.b0 : R.C := (.seq (.reg [] [.a 30 (.bin .lss (.t 29) (.t 28))] [] [])
  (.seq (.cond (.t 30) .skip (.exit 0))
  (.seq (.block 1 (.seq (.reg [] [.a 31 (.mv (.t 29)), .a 7 (.mv (.t 31))] [30, 31] [])
  (.reg [] [.a 33 (.mv (.t 6)), .a 34 (.mv (.t 0)), .a 35 (.mv (.t 7)), .a 36 (.bin .sub (.t 34) (.t 35)), .a 37 (.conv .u64 (.t 36)), .a 38 (.call F.nat_Of [(.t 37)]), .a 39 (.call F.nat_Mul [(.t 33), (.t 38)]), .a 40 (.mv (.t 7)), .a 41 (.bin .add (.t 40) (.c (.int .i64 1))), .a 42 (.conv .u64 (.t 41)), .a 43 (.call F.nat_Of [(.t 42)]), .a 44 (.call F.nat_DivMod [(.t 39), (.t 43)]), .a 32 (.mv (.t 44)), .a 45 (.ext (.t 32) 0), .a 46 (.ext (.t 32) 1), .a 47 (.ext (.t 32) 2), .a 6 (.mv (.t 45))] [7, 32, 33, 34, 35, 36, 37, 38, 39, 40, 41, 42, 43, 44, 45, 46, 47] [])))
  (.reg [] [.a 48 (.bin .add (.t 29) (.c (.int .i64 1))), .a 29 (.mv (.t 48))] [48] []))))
def whole_Choose : R.Fn := ⟨2, [(.cell 4 2 true), (.t 5)], (.seq (.reg [] [.a 4 (.new [(.bool false), (.sl 1 [])]), .a 5 (.mv (.c (.int .i64 0)))] [5] [])
  (.seq (.seq (.reg [] [.a 8 (.mv (.t 0)), .a 9 (.bin .lss (.t 8) (.c (.int .i64 0))), .a 10 (.mv (.t 9)), .g 11 10 false (.mv (.t 0)), .g 12 10 false (.bin .gtr (.t 11) (.c (.int .i64 4096))), .a 13 (.pick (.t 10) (.c (.bool true)) (.t 12))] [8, 9, 10, 11, 12] [])
  (.cond (.t 13) (.seq (.reg [] [.a 14 (.bld [(.bool false), (.sl 1 [])] []), .n (.st 2 (.t 4) (.t 14)), .a 5 (.mv (.c (.int .i64 8)))] [0, 1, 13, 14] [])
  .ret) .skip))
  (.seq (.seq (.reg [] [.a 15 (.mv (.t 1)), .a 16 (.bin .lss (.t 15) (.c (.int .i64 0))), .a 17 (.mv (.t 16)), .g 18 17 false (.mv (.t 1)), .g 19 17 false (.mv (.t 0)), .g 20 17 false (.bin .gtr (.t 18) (.t 19)), .a 21 (.pick (.t 17) (.c (.bool true)) (.t 20))] [13, 15, 16, 17, 18, 19, 20] [])
  (.cond (.t 21) (.seq (.reg [] [.a 22 (.bld [(.bool false), (.sl 1 [])] []), .n (.st 2 (.t 4) (.t 22)), .a 5 (.mv (.c (.int .i64 0)))] [0, 1, 21, 22] [])
  .ret) .skip))
  (.seq (.reg [] [.a 23 (.call F.nat_Of [(.c (.int .u64 1))]), .a 6 (.mv (.t 23))] [21, 23] [])
  (.seq (.seq (.reg [] [.a 24 (.mv (.t 1)), .a 25 (.mv (.t 0)), .a 26 (.mv (.t 1)), .a 27 (.bin .sub (.t 25) (.t 26)), .a 28 (.mn (.t 24) (.t 27)), .a 29 (.mv (.c (.int .i64 0)))] [1, 24, 25, 26, 27] [])
  (.block 0 (.loop [] [] whole_Choose.b0)))
  (.seq (.reg [] [.a 49 (.mv (.t 6)), .a 50 (.call F.whole_sign [(.c (.bool false)), (.t 49)]), .n (.st 2 (.t 4) (.t 50)), .a 5 (.mv (.c (.int .i64 0)))] [0, 6, 28, 29, 30, 49, 50] [])
  .ret))))))⟩
def whole_Choose.hint : R.Hint := { kill := [(0, [5], []), (1, [8, 9, 10, 11, 12], []), (2, [0, 1, 13, 14], []), (3, [13, 15, 16, 17, 18, 19, 20], []), (4, [0, 1, 21, 22], []), (5, [21, 23], []), (6, [1, 24, 25, 26, 27], []), (8, [30, 31], []), (9, [7, 32, 33, 34, 35, 36, 37, 38, 39, 40, 41, 42, 43, 44, 45, 46, 47], []), (10, [48], []), (11, [0, 6, 28, 29, 30, 49, 50], [])] }
theorem whole_Choose.ok : cFn Tryz.prog whole_Choose.hint Tryz.f54 = some whole_Choose := by kernel_rfl
def ratio_Make : R.Fn := ⟨2, [(.cell 4 3 true), (.t 5)], (.seq (.reg [] [.a 2 (.box (.t 0)), .a 3 (.box (.t 1)), .a 4 (.new [(.bool false), (.sl 1 []), (.sl 1 [])]), .a 5 (.mv (.c (.int .i64 0)))] [0, 1, 5] [])
  (.seq (.reg [] [.a 6 (.ld 2 true (.t 2)), .a 7 (.call F.whole_Clean [(.t 6)]), .a 8 (.ld 2 true (.t 3)), .a 9 (.call F.whole_Clean [(.t 8)]), .n (.st 2 (.t 2) (.t 7)), .n (.st 2 (.t 3) (.t 9))] [6, 7, 8, 9] [])
  (.seq (.seq (.reg [] [.a 10 (.ld 2 true (.t 3)), .a 11 (.call F.whole_Sign [(.t 10)]), .a 12 (.bin .eql (.t 11) (.c (.int .i64 0)))] [10, 11] [])
  (.cond (.t 12) (.seq (.reg [] [.a 13 (.bld [(.bool false), (.sl 1 []), (.sl 1 [])] []), .n (.st 3 (.t 4) (.t 13)), .a 5 (.mv (.c (.int .i64 2)))] [2, 3, 12, 13] [2, 3])
  .ret) .skip))
  (.seq (.seq (.reg [] [.a 14 (.fA 0 (.t 3)), .a 15 (.ld 1 false (.t 14))] [12, 14] [])
  (.cond (.t 15) (.reg [] [.a 16 (.ld 2 true (.t 2)), .a 17 (.call F.whole_Neg [(.t 16)]), .n (.st 2 (.t 2) (.t 17))] [15, 16, 17] []) .skip))
  (.seq (.reg [] [.a 18 (.ld 2 true (.t 2)), .a 19 (.fA 1 (.t 3)), .a 20 (.ld 1 false (.t 19)), .a 21 (.call F.ratio_form [(.t 18), (.t 20)]), .n (.st 3 (.t 4) (.t 21)), .a 5 (.mv (.c (.int .i64 0)))] [2, 3, 15, 18, 19, 20, 21] [2, 3])
  .ret)))))⟩
def ratio_Make.hint : R.Hint := { kill := [(0, [0, 1, 5], []), (1, [6, 7, 8, 9], []), (2, [10, 11], []), (3, [2, 3, 12, 13], [2, 3]), (4, [12, 14], []), (5, [15, 16, 17], []), (6, [2, 3, 15, 18, 19, 20, 21], [2, 3])] }
theorem ratio_Make.ok : cFn Tryz.prog ratio_Make.hint Tryz.f55 = some ratio_Make := by kernel_rfl
def whole_Of : R.Fn := ⟨1, [(.cell 2 2 true)], (.seq (.reg [] [.a 2 (.new [(.bool false), (.sl 1 [])])] [] [])
  (.seq (.seq (.reg [] [.a 3 (.mv (.t 0)), .a 4 (.bin .lss (.t 3) (.c (.int .i64 0)))] [3] [])
  (.cond (.t 4) (.seq (.reg [] [.a 5 (.mv (.t 0)), .a 6 (.conv .u64 (.t 5)), .a 7 (.un .neg (.t 6)), .a 8 (.call F.nat_Of [(.t 7)]), .a 9 (.call F.whole_sign [(.c (.bool true)), (.t 8)]), .n (.st 2 (.t 2) (.t 9))] [0, 4, 5, 6, 7, 8, 9] [])
  .ret) .skip))
  (.seq (.reg [] [.a 10 (.mv (.t 0)), .a 11 (.conv .u64 (.t 10)), .a 12 (.call F.nat_Of [(.t 11)]), .a 13 (.call F.whole_sign [(.c (.bool false)), (.t 12)]), .n (.st 2 (.t 2) (.t 13))] [0, 4, 10, 11, 12, 13] [])
  .ret)))⟩
def whole_Of.hint : R.Hint := { kill := [(1, [3], []), (2, [0, 4, 5, 6, 7, 8, 9], []), (3, [0, 4, 10, 11, 12, 13], [])] }
theorem whole_Of.ok : cFn Tryz.prog whole_Of.hint Tryz.f56 = some whole_Of := by kernel_rfl
def solve_Size.b0 : R.C := (.seq (.reg [] [.a 13 (.bin .lss (.t 12) (.t 11))] [] [])
  (.seq (.cond (.t 13) .skip (.exit 0))
  (.seq (.block 1 (.seq (.reg [] [.a 14 (.iA 1 (.t 10) (.t 12)), .a 15 (.ld 1 false (.t 14)), .a 6 (.mv (.t 15))] [13, 14, 15] [])
  (.seq (.reg [] [.a 16 (.mv (.t 6)), .a 17 (.ln (.t 16)), .a 18 (.mv (.t 0)), .a 19 (.iA 1 (.t 18) (.c (.int .i64 0))), .a 20 (.ld 1 false (.t 19)), .a 21 (.ln (.t 20)), .a 22 (.bin .neq (.t 17) (.t 21))] [6, 16, 17, 18, 19, 20, 21] [])
  (.cond (.t 22) (.seq (.reg [] [.a 2 (.mv (.c (.int .i64 0))), .a 3 (.mv (.c (.int .i64 0))), .a 4 (.mv (.c (.bool false)))] [0, 10, 11, 12, 22] [])
  .ret) .skip))))
  (.reg [] [.a 23 (.bin .add (.t 12) (.c (.int .i64 1))), .a 12 (.mv (.t 23))] [22, 23] []))))
def solve_Size : R.Fn := ⟨1, [(.t 2), (.t 3), (.t 4)], (.seq (.reg [] [.a 2 (.mv (.c (.int .i64 0))), .a 3 (.mv (.c (.int .i64 0))), .a 4 (.mv (.c (.bool false)))] [2, 3, 4] [])
  (.seq (.seq (.reg [] [.a 7 (.mv (.t 0)), .a 8 (.ln (.t 7)), .a 9 (.bin .eql (.t 8) (.c (.int .i64 0)))] [7, 8] [])
  (.cond (.t 9) (.seq (.reg [] [.a 2 (.mv (.c (.int .i64 0))), .a 3 (.mv (.c (.int .i64 0))), .a 4 (.mv (.c (.bool true)))] [0, 9] [])
  .ret) .skip))
  (.seq (.seq (.reg [] [.a 10 (.mv (.t 0)), .a 11 (.ln (.t 10)), .a 12 (.mv (.c (.int .i64 0)))] [9] [])
  (.block 0 (.loop [] [] solve_Size.b0)))
  (.seq (.reg [] [.a 24 (.mv (.t 0)), .a 25 (.ln (.t 24)), .a 26 (.mv (.t 0)), .a 27 (.iA 1 (.t 26) (.c (.int .i64 0))), .a 28 (.ld 1 false (.t 27)), .a 29 (.ln (.t 28)), .a 2 (.mv (.t 25)), .a 3 (.mv (.t 29)), .a 4 (.mv (.c (.bool true)))] [0, 10, 11, 12, 13, 24, 25, 26, 27, 28, 29] [])
  .ret))))⟩
def solve_Size.hint : R.Hint := { kill := [(0, [2, 3, 4], []), (1, [7, 8], []), (2, [0, 9], []), (3, [9], []), (5, [13, 14, 15], []), (6, [6, 16, 17, 18, 19, 20, 21], []), (7, [0, 10, 11, 12, 22], []), (8, [22, 23], []), (9, [0, 10, 11, 12, 13, 24, 25, 26, 27, 28, 29], [])] }
theorem solve_Size.ok : cFn Tryz.prog solve_Size.hint Tryz.f57 = some solve_Size := by kernel_rfl
def ratio_Sign : R.Fn := ⟨1, [(.t 2)], (.seq (.reg [] [.a 1 (.box (.t 0)), .a 2 (.mv (.c (.int .i64 0)))] [0, 2] [])
  (.seq (.reg [] [.a 3 (.ld 3 true (.t 1)), .a 4 (.call F.ratio_Clean [(.t 3)]), .a 5 (.fV 0 2 true (.t 4)), .a 6 (.call F.whole_Sign [(.t 5)]), .a 2 (.mv (.t 6))] [1, 3, 4, 5, 6] [1])
  .ret))⟩
def ratio_Sign.hint : R.Hint := { kill := [(0, [0, 2], []), (1, [1, 3, 4, 5, 6], [1])] }
theorem ratio_Sign.ok : cFn Tryz.prog ratio_Sign.hint Tryz.f58 = some ratio_Sign := by kernel_rfl
def solve_Flip.b2 : R.C := (.seq (.reg [] [.a 26 (.bin .lss (.t 25) (.t 24))] [] [])
  (.seq (.cond (.t 26) .skip (.exit 2))
  (.seq (.block 3 (.seq (.reg [] [.a 27 (.mv (.t 25)), .a 10 (.mv (.t 27))] [26, 27] [])
  (.reg [] [.a 28 (.mv (.t 9)), .a 29 (.mv (.t 0)), .a 30 (.mv (.t 10)), .a 31 (.iA 1 (.t 29) (.t 30)), .a 32 (.ldr (.t 31)), .a 33 (.mv (.t 8)), .a 34 (.iA 3 (.t 32) (.t 33)), .a 35 (.ld 3 true (.t 34)), .a 36 (.callc F.ratio_Clean [(.t 35)]), .a 37 (.lit 3 1 [(.bool false), (.sl 1 []), (.sl 1 [])] [(0, 3, (.t 36))]), .a 38 (.app 3 56 (.t 28) (.t 37)), .a 9 (.mv (.t 38))] [10, 28, 29, 30, 31, 32, 33, 34, 35, 36, 37, 38] [])))
  (.reg [] [.a 39 (.bin .add (.t 25) (.c (.int .i64 1))), .a 25 (.mv (.t 39))] [39] []))))
def solve_Flip.b0 : R.C := (.seq (.reg [] [.a 21 (.bin .lss (.t 20) (.t 19))] [] [])
  (.seq (.cond (.t 21) .skip (.exit 0))
  (.seq (.block 1 (.seq (.reg [] [.a 22 (.mv (.t 20)), .a 8 (.mv (.t 22))] [21, 22] [])
  (.seq (.reg [] [.a 9 (.nil 3)] [] [])
  (.seq (.seq (.reg [] [.a 23 (.mv (.t 0)), .a 24 (.ln (.t 23)), .a 25 (.mv (.c (.int .i64 0)))] [23] [])
  (.block 2 (.loop [] [] solve_Flip.b2)))
  (.up [9] (.reg [9] [.a 40 (.mv (.t 7)), .a 41 (.mv (.t 9)), .a 42 (.lit 1 1 [(.sl 3 [])] [(0, 1, (.t 41))]), .a 43 (.app 1 24 (.t 40) (.t 42)), .a 7 (.mv (.t 43))] [8, 9, 24, 25, 26, 40, 41, 42, 43] [9]))))))
  (.reg [] [.a 44 (.bin .add (.t 20) (.c (.int .i64 1))), .a 20 (.mv (.t 44))] [44] []))))
def solve_Flip : R.Fn := ⟨1, [(.own 2), (.own 3)], (.seq (.reg [] [.a 2 (.mv (.c (.sl 1 []))), .a 3 (.mv (.c (.int .i64 0)))] [2, 3] [])
  (.seq (.reg [] [.a 12 (.mv (.t 0)), .a 13 (.callc F.solve_Size [(.t 12)]), .a 11 (.mv (.t 13)), .a 14 (.ext (.t 11) 0), .a 15 (.ext (.t 11) 1), .a 16 (.ext (.t 11) 2), .a 4 (.mv (.t 14)), .a 5 (.mv (.t 15)), .a 6 (.mv (.t 16))] [4, 11, 12, 13, 14, 15, 16] [])
  (.seq (.seq (.reg [] [.a 17 (.mv (.t 6)), .a 18 (.un .not (.t 17))] [6, 17] [])
  (.cond (.t 18) (.seq (.reg [] [.a 2 (.mv (.c (.sl 1 []))), .a 3 (.mv (.c (.int .i64 14)))] [0, 5, 18] [])
  .ret) .skip))
  (.seq (.reg [] [.a 7 (.nil 1)] [18] [])
  (.seq (.seq (.reg [] [.a 19 (.mv (.t 5)), .a 20 (.mv (.c (.int .i64 0)))] [5] [])
  (.block 0 (.loop [] [] solve_Flip.b0)))
  (.seq (.up [7] (.reg [] [.a 45 (.mv (.t 7)), .a 2 (.mv (.t 45)), .a 3 (.mv (.c (.int .i64 0)))] [0, 7, 19, 20, 21, 45] []))
  .ret))))))⟩
def solve_Flip.hint : R.Hint := { nil := [7, 9], pub := [(14, [9])], kill := [(0, [2, 3], []), (1, [4, 11, 12, 13, 14, 15, 16], []), (2, [6, 17], []), (3, [0, 5, 18], []), (4, [18], []), (5, [5], []), (7, [21, 22], []), (9, [23], []), (11, [26, 27], []), (12, [10, 28, 29, 30, 31, 32, 33, 34, 35, 36, 37, 38], []), (13, [39], []), (14, [8, 9, 24, 25, 26, 40, 41, 42, 43], [9]), (15, [44], []), (16, [0, 7, 19, 20, 21, 45], [])], own := true, heap := true, up := [(14, [9]), (16, [7])] }
theorem solve_Flip.ok : cFn Tryz.prog solve_Flip.hint Tryz.f59 = some solve_Flip := by kernel_rfl
def solve_Mul.b0 : R.C := (.seq (.reg [] [.a 50 (.bin .lss (.t 49) (.t 48))] [] [])
  (.seq (.cond (.t 50) .skip (.exit 0))
  (.seq (.block 1 (.seq (.reg [] [.a 51 (.iA 1 (.t 47) (.t 49)), .a 52 (.ld 1 false (.t 51)), .a 16 (.mv (.t 52))] [50, 51, 52] [])
  (.seq (.reg [] [.a 54 (.mv (.t 12)), .a 55 (.mv (.t 16)), .a 56 (.callc F.solve_Apply [(.t 54), (.t 55)]), .a 53 (.mv (.t 56)), .a 57 (.ext (.t 53) 0), .a 58 (.ext (.t 53) 1), .a 17 (.mv (.t 57)), .a 18 (.mv (.t 58))] [16, 18, 53, 54, 55, 56, 57, 58] [])
  (.reg [] [.a 59 (.mv (.t 14)), .a 60 (.mv (.t 17)), .a 61 (.lit 1 1 [(.sl 3 [])] [(0, 1, (.t 60))]), .a 62 (.app 1 24 (.t 59) (.t 61)), .a 14 (.mv (.t 62))] [17, 59, 60, 61, 62] []))))
  (.reg [] [.a 63 (.bin .add (.t 49) (.c (.int .i64 1))), .a 49 (.mv (.t 63))] [63] []))))
def solve_Mul : R.Fn := ⟨2, [(.t 4), (.t 5)], (.seq (.reg [] [.a 4 (.mv (.c (.sl 1 []))), .a 5 (.mv (.c (.int .i64 0)))] [4, 5] [])
  (.seq (.reg [] [.a 20 (.mv (.t 0)), .a 21 (.call F.solve_Size [(.t 20)]), .a 19 (.mv (.t 21)), .a 22 (.ext (.t 19) 0), .a 23 (.ext (.t 19) 1), .a 24 (.ext (.t 19) 2), .a 6 (.mv (.t 22)), .a 7 (.mv (.t 23)), .a 8 (.mv (.t 24))] [6, 19, 20, 21, 22, 23, 24] [])
  (.seq (.reg [] [.a 26 (.mv (.t 1)), .a 27 (.call F.solve_Size [(.t 26)]), .a 25 (.mv (.t 27)), .a 28 (.ext (.t 25) 0), .a 29 (.ext (.t 25) 1), .a 30 (.ext (.t 25) 2), .a 9 (.mv (.t 28)), .a 10 (.mv (.t 29)), .a 11 (.mv (.t 30))] [10, 25, 26, 27, 28, 29, 30] [])
  (.seq (.seq (.reg [] [.a 31 (.mv (.t 8)), .a 32 (.un .not (.t 31)), .a 33 (.mv (.t 32)), .g 34 33 false (.mv (.t 11)), .g 35 33 false (.un .not (.t 34)), .a 36 (.pick (.t 33) (.c (.bool true)) (.t 35)), .a 37 (.mv (.t 36)), .g 38 37 false (.mv (.t 7)), .g 39 37 false (.mv (.t 9)), .g 40 37 false (.bin .neq (.t 38) (.t 39)), .a 41 (.pick (.t 37) (.c (.bool true)) (.t 40))] [7, 8, 9, 11, 31, 32, 33, 34, 35, 36, 37, 38, 39, 40] [])
  (.cond (.t 41) (.seq (.reg [] [.a 4 (.mv (.c (.sl 1 []))), .a 5 (.mv (.c (.int .i64 14)))] [0, 1, 41] [])
  .ret) .skip))
  (.seq (.reg [] [.a 43 (.mv (.t 1)), .a 44 (.callc F.solve_Flip [(.t 43)]), .a 42 (.mv (.t 44)), .a 45 (.ext (.t 42) 0), .a 46 (.ext (.t 42) 1), .a 12 (.mv (.t 45)), .a 13 (.mv (.t 46))] [1, 13, 41, 42, 43, 44, 45, 46] [])
  (.seq (.reg [] [.a 14 (.nil 1)] [] [])
  (.seq (.seq (.reg [] [.a 47 (.mv (.t 0)), .a 48 (.ln (.t 47)), .a 49 (.mv (.c (.int .i64 0)))] [0] [])
  (.block 0 (.loop [] [] solve_Mul.b0)))
  (.seq (.reg [] [.a 64 (.mv (.t 14)), .a 4 (.mv (.t 64)), .a 5 (.mv (.c (.int .i64 0)))] [12, 14, 47, 48, 49, 50, 64] [])
  .ret))))))))⟩
def solve_Mul.hint : R.Hint := { nil := [14], kill := [(0, [4, 5], []), (1, [6, 19, 20, 21, 22, 23, 24], []), (2, [10, 25, 26, 27, 28, 29, 30], []), (3, [7, 8, 9, 11, 31, 32, 33, 34, 35, 36, 37, 38, 39, 40], []), (4, [0, 1, 41], []), (5, [1, 13, 41, 42, 43, 44, 45, 46], []), (7, [0], []), (9, [50, 51, 52], []), (10, [16, 18, 53, 54, 55, 56, 57, 58], []), (11, [17, 59, 60, 61, 62], []), (12, [63], []), (13, [12, 14, 47, 48, 49, 50, 64], [])], callc := [44, 56] }
theorem solve_Mul.ok : cFn Tryz.prog solve_Mul.hint Tryz.f60 = some solve_Mul := by kernel_rfl
def solve_Apply.b0 : R.C := (.seq (.reg [] [.a 14 (.bin .lss (.t 13) (.t 12))] [] [])
  (.seq (.cond (.t 14) .skip (.exit 0))
  (.seq (.block 1 (.seq (.reg [] [.a 15 (.iA 1 (.t 11) (.t 13)), .a 16 (.ldr (.t 15)), .a 8 (.mv (.t 16))] [14, 15, 16] [])
  (.seq (.reg [] [.a 18 (.mv (.t 8)), .a 19 (.mv (.t 1)), .a 20 (.callc F.solve_Dot [(.t 18), (.t 19)]), .a 17 (.mv (.t 20)), .a 21 (.ext (.t 17) 0), .a 22 (.ext (.t 17) 1), .a 9 (.new [(.bool false), (.sl 1 []), (.sl 1 [])]), .n (.st 3 (.t 9) (.t 21)), .a 10 (.mv (.t 22))] [8, 17, 18, 19, 20, 21, 22] [])
  (.seq (.seq (.reg [] [.a 23 (.mv (.t 10)), .a 24 (.bin .neq (.t 23) (.c (.int .i64 0)))] [23] [])
  (.cond (.t 24) (.seq (.reg [] [.a 25 (.mv (.t 10)), .a 4 (.mv (.c (.sl 3 []))), .a 5 (.mv (.t 25))] [1, 6, 9, 10, 11, 12, 13, 24, 25] [9])
  .ret) .skip))
  (.reg [] [.a 26 (.mv (.t 6)), .a 27 (.ld 3 true (.t 9)), .a 28 (.lit 3 1 [(.bool false), (.sl 1 []), (.sl 1 [])] [(0, 3, (.t 27))]), .a 29 (.app 3 56 (.t 26) (.t 28)), .a 6 (.mv (.t 29))] [9, 10, 24, 26, 27, 28, 29] [9])))))
  (.reg [] [.a 30 (.bin .add (.t 13) (.c (.int .i64 1))), .a 13 (.mv (.t 30))] [30] []))))
def solve_Apply : R.Fn := ⟨2, [(.own 4), (.own 5)], (.seq (.reg [] [.a 4 (.mv (.c (.sl 3 []))), .a 5 (.mv (.c (.int .i64 0)))] [4, 5] [])
  (.seq (.reg [] [.a 6 (.nil 3)] [] [])
  (.seq (.seq (.reg [] [.a 11 (.mv (.t 0)), .a 12 (.ln (.t 11)), .a 13 (.mv (.c (.int .i64 0)))] [0] [])
  (.block 0 (.loop [] [] solve_Apply.b0)))
  (.seq (.reg [] [.a 31 (.mv (.t 6)), .a 4 (.mv (.t 31)), .a 5 (.mv (.c (.int .i64 0)))] [1, 6, 11, 12, 13, 14, 31] [])
  .ret))))⟩
def solve_Apply.hint : R.Hint := { nil := [6], kill := [(0, [4, 5], []), (2, [0], []), (4, [14, 15, 16], []), (5, [8, 17, 18, 19, 20, 21, 22], []), (6, [23], []), (7, [1, 6, 9, 10, 11, 12, 13, 24, 25], [9]), (8, [9, 10, 24, 26, 27, 28, 29], [9]), (9, [30], []), (10, [1, 6, 11, 12, 13, 14, 31], [])], own := true, heap := true }
theorem solve_Apply.ok : cFn Tryz.prog solve_Apply.hint Tryz.f61 = some solve_Apply := by kernel_rfl
def solve_Inverse.b0 : R.C := (.seq (.reg [] [.a 46 (.bin .lss (.t 45) (.t 44))] [] [])
  (.seq (.cond (.t 46) .skip (.exit 0))
  (.seq (.block 1 (.seq (.reg [] [.a 47 (.iA 1 (.t 43) (.t 45)), .a 48 (.ldr (.t 47)), .a 10 (.mv (.t 48))] [46, 47, 48] [])
  (.reg [] [.a 49 (.mv (.t 8)), .a 50 (.mv (.t 10)), .a 51 (.mv (.t 5)), .a 52 (.slc 3 (.t 50) (some (.t 51)) none), .a 53 (.lit 1 1 [(.sl 3 [])] [(0, 1, (.t 52))]), .a 54 (.app 1 24 (.t 49) (.t 53)), .a 8 (.mv (.t 54))] [10, 49, 50, 51, 52, 53, 54] [])))
  (.reg [] [.a 55 (.bin .add (.t 45) (.c (.int .i64 1))), .a 45 (.mv (.t 55))] [55] []))))
def solve_Inverse : R.Fn := ⟨1, [(.deep 2 1), (.t 3)], (.seq (.reg [] [.a 2 (.mv (.c (.sl 1 []))), .a 3 (.mv (.c (.int .i64 0)))] [2, 3] [])
  (.seq (.reg [] [.a 12 (.mv (.t 0)), .a 13 (.callc F.solve_Size [(.t 12)]), .a 11 (.mv (.t 13)), .a 14 (.ext (.t 11) 0), .a 15 (.ext (.t 11) 1), .a 16 (.ext (.t 11) 2), .a 4 (.mv (.t 14)), .a 5 (.mv (.t 15)), .a 6 (.mv (.t 16))] [11, 12, 13, 14, 15, 16] [])
  (.seq (.seq (.reg [] [.a 17 (.mv (.t 6)), .a 18 (.un .not (.t 17)), .a 19 (.mv (.t 18)), .g 20 19 false (.mv (.t 4)), .g 21 19 false (.mv (.t 5)), .g 22 19 false (.bin .neq (.t 20) (.t 21)), .a 23 (.pick (.t 19) (.c (.bool true)) (.t 22))] [6, 17, 18, 19, 20, 21, 22] [])
  (.cond (.t 23) (.seq (.reg [] [.a 2 (.mv (.c (.sl 1 []))), .a 3 (.mv (.c (.int .i64 14)))] [0, 4, 5, 23] [])
  .ret) .skip))
  (.seq (.reg [] [.a 24 (.mv (.t 0)), .a 25 (.mv (.t 4)), .a 26 (.callc F.solve_Unit [(.t 25)]), .a 27 (.callh F.solve_wide [(false, (.t 24)), (false, (.t 26))]), .a 28 (.mv (.t 5)), .a 29 (.bld [(.raw (.slice none 0 0)), (.int .i64 0), (.raw (.slice none 0 0)), (.bool false), (.bool false), (.raw (.slice none 0 0)), (.raw (.slice none 0 0))] [(0, 1, (.t 27)), (1, 1, (.t 28))]), .a 30 (.box (.t 29)), .a 7 (.mv (.t 30))] [0, 23, 24, 25, 26, 27, 28, 29, 30] [])
  (.seq (.reg [] [.a 31 (.mv (.t 7)), .a 32 (.callh F.dendron_solve_reducer_run [(true, (.t 31))])] [31, 32] [])
  (.seq (.seq (.reg [] [.a 33 (.mv (.t 7)), .a 34 (.nck (.t 33)), .a 35 (.fA 2 (.t 34)), .a 36 (.ldr (.t 35)), .a 37 (.ln (.t 36)), .a 38 (.mv (.t 4)), .a 39 (.bin .lss (.t 37) (.t 38))] [4, 33, 34, 35, 36, 37, 38] [])
  (.cond (.t 39) (.seq (.reg [] [.a 2 (.mv (.c (.sl 1 []))), .a 3 (.mv (.c (.int .i64 2)))] [5, 7, 39] [30])
  .ret) .skip))
  (.seq (.reg [] [.a 8 (.nil 1)] [39] [])
  (.seq (.seq (.reg [] [.a 40 (.mv (.t 7)), .a 41 (.nck (.t 40)), .a 42 (.fA 0 (.t 41)), .a 43 (.ldr (.t 42)), .a 44 (.ln (.t 43)), .a 45 (.mv (.c (.int .i64 0)))] [7, 40, 41, 42] [30])
  (.block 0 (.loop [] [] solve_Inverse.b0)))
  (.seq (.reg [] [.a 56 (.mv (.t 8)), .a 2 (.mv (.t 56)), .a 3 (.mv (.c (.int .i64 0)))] [5, 8, 43, 44, 45, 46, 56] [])
  .ret)))))))))⟩
def solve_Inverse.hint : R.Hint := { nil := [8], kill := [(0, [2, 3], []), (1, [11, 12, 13, 14, 15, 16], []), (2, [6, 17, 18, 19, 20, 21, 22], []), (3, [0, 4, 5, 23], []), (4, [0, 23, 24, 25, 26, 27, 28, 29, 30], []), (5, [31, 32], []), (6, [4, 33, 34, 35, 36, 37, 38], []), (7, [5, 7, 39], [30]), (8, [39], []), (9, [7, 40, 41, 42], [30]), (11, [46, 47, 48], []), (12, [10, 49, 50, 51, 52, 53, 54], []), (13, [55], []), (14, [5, 8, 43, 44, 45, 46, 56], [])], heap := true, callh := [(27, [false, false]), (32, [true])], rawnil := [29], deep := [(2, 1)] }
theorem solve_Inverse.ok : cFn Tryz.prog solve_Inverse.hint Tryz.f62 = some solve_Inverse := by kernel_rfl
def dendron_weigh_Table_All.b0 : R.C := (.seq (.reg [] [.a 20 (.bin .lss (.t 19) (.t 18))] [] [])
  (.seq (.cond (.t 20) .skip (.exit 0))
  (.seq (.block 1 (.seq (.reg [] [.a 21 (.mv (.t 19)), .a 7 (.mv (.t 21))] [20, 21] [])
  (.seq (.reg [] [.a 23 (.mv (.t 0)), .a 24 (.mv (.t 7)), .a 25 (.mv (.t 1)), .a 26 (.callk F.dendron_weigh_Table_Weight [(true, (.t 23)), (false, (.t 24)), (false, (.t 25))]), .a 22 (.mv (.t 26)), .a 27 (.ext (.t 22) 0), .a 28 (.ext (.t 22) 1), .a 8 (.new [(.bool false), (.sl 1 []), (.sl 1 [])]), .n (.st 3 (.t 8) (.t 27)), .a 9 (.mv (.t 28))] [7, 9, 22, 23, 24, 25, 26, 27, 28] [26, 1026, 2026, 3026])
  (.reg [] [.a 29 (.mv (.t 6)), .a 30 (.ld 3 true (.t 8)), .a 31 (.lit 3 1 [(.bool false), (.sl 1 []), (.sl 1 [])] [(0, 3, (.t 30))]), .a 32 (.app 3 56 (.t 29) (.t 31)), .a 6 (.mv (.t 32))] [8, 29, 30, 31, 32] [8]))))
  (.reg [] [.a 33 (.bin .add (.t 19) (.c (.int .i64 1))), .a 19 (.mv (.t 33))] [33] []))))
def dendron_weigh_Table_All : R.Fn := ⟨2, [(.t 4), (.t 5)], (.seq (.reg [] [.a 4 (.mv (.c (.sl 3 []))), .a 5 (.mv (.c (.int .i64 0)))] [4, 5] [])
  (.seq (.seq (.reg [] [.a 10 (.mv (.t 0)), .a 11 (.pnil false (.t 10))] [10] [])
  (.cond (.t 11) (.seq (.reg [] [.a 4 (.mv (.c (.sl 3 []))), .a 5 (.mv (.c (.int .i64 18)))] [0, 1, 11] [])
  .ret) .skip))
  (.seq (.seq (.reg [] [.a 12 (.mv (.t 1)), .a 13 (.bin .lss (.t 12) (.c (.int .i64 1))), .a 14 (.mv (.t 13)), .g 15 14 false (.mv (.t 1)), .g 16 14 false (.bin .gtr (.t 15) (.c (.int .i64 64))), .a 17 (.pick (.t 14) (.c (.bool true)) (.t 16))] [11, 12, 13, 14, 15, 16] [])
  (.cond (.t 17) (.seq (.reg [] [.a 4 (.mv (.c (.sl 3 []))), .a 5 (.mv (.c (.int .i64 8)))] [0, 1, 17] [])
  .ret) .skip))
  (.seq (.reg [] [.a 6 (.nil 3)] [17] [])
  (.seq (.seq (.reg [] [.a 18 (.mv (.t 1)), .a 19 (.mv (.c (.int .i64 0)))] [] [])
  (.block 0 (.loop [] [] dendron_weigh_Table_All.b0)))
  (.seq (.reg [] [.a 34 (.mv (.t 6)), .a 4 (.mv (.t 34)), .a 5 (.mv (.c (.int .i64 0)))] [0, 1, 6, 18, 19, 20, 34] [])
  .ret))))))⟩
def dendron_weigh_Table_All.hint : R.Hint := { nil := [6], callk := [(26, [true, false, false])], kill := [(0, [4, 5], []), (1, [10], []), (2, [0, 1, 11], []), (3, [11, 12, 13, 14, 15, 16], []), (4, [0, 1, 17], []), (5, [17], []), (8, [20, 21], []), (9, [7, 9, 22, 23, 24, 25, 26, 27, 28], [26, 1026, 2026, 3026]), (10, [8, 29, 30, 31, 32], [8]), (11, [33], []), (12, [0, 1, 6, 18, 19, 20, 34], [])] }
theorem dendron_weigh_Table_All.ok : cFn Tryz.prog dendron_weigh_Table_All.hint Tryz.f63 = some dendron_weigh_Table_All := by kernel_rfl
def dendronref10_Is : R.Fn := ⟨2, [(.t 4)], (.seq (.reg [] [.a 2 (.box (.t 0)), .a 3 (.box (.t 1)), .a 4 (.mv (.c (.bool false)))] [0, 1, 4] [])
  (.seq (.reg [] [.a 5 (.ld 3 true (.t 2)), .a 6 (.ld 3 true (.t 3)), .a 7 (.call F.dendronref03_From [(.t 6)]), .a 8 (.call F.dendronref03_Is [(.t 5), (.t 7)]), .a 4 (.mv (.t 8))] [2, 3, 5, 6, 7, 8] [2, 3])
  .ret))⟩
def dendronref10_Is.hint : R.Hint := { kill := [(0, [0, 1, 4], []), (1, [2, 3, 5, 6, 7, 8], [2, 3])] }
theorem dendronref10_Is.ok : cFn Tryz.prog dendronref10_Is.hint Tryz.f64 = some dendronref10_Is := by kernel_rfl
def bits_Len : R.Fn := ⟨1, [(.t 2)], (.seq (.reg [] [.a 2 (.mv (.c (.int .i64 0)))] [2] [])
  (.seq (.cond (.c (.bool false)) (.seq (.reg [] [.a 3 (.mv (.t 0)), .a 4 (.conv .u32 (.t 3)), .a 5 (.call F.bits_Len32 [(.t 4)]), .a 2 (.mv (.t 5))] [0, 3, 4, 5] [])
  .ret) .skip)
  (.seq (.reg [] [.a 6 (.mv (.t 0)), .a 7 (.call F.bits_Len64 [(.t 6)]), .a 2 (.mv (.t 7))] [0, 6, 7] [])
  .ret)))⟩
def bits_Len.hint : R.Hint := { kill := [(0, [2], []), (1, [0, 3, 4, 5], []), (2, [0, 6, 7], [])] }
theorem bits_Len.ok : cFn Tryz.prog bits_Len.hint Tryz.f66 = some bits_Len := by kernel_rfl
def bits_OnesCount32 : R.Fn := ⟨1, [(.t 2)], (.seq (.reg [] [.a 2 (.mv (.c (.int .i64 0)))] [2] [])
  (.seq (.reg [] [.a 3 (.mv (.t 0)), .a 4 (.bin .shr (.t 3) (.c (.int .u64 24))), .a 5 (.sI (.c (.str ⟨#[0, 1, 1, 2, 1, 2, 2, 3, 1, 2, 2, 3, 2, 3, 3, 4, 1, 2, 2, 3, 2, 3, 3, 4, 2, 3, 3, 4, 3, 4, 4, 5, 1, 2, 2, 3, 2, 3, 3, 4, 2, 3, 3, 4, 3, 4, 4, 5, 2, 3, 3, 4, 3, 4, 4, 5, 3, 4, 4, 5, 4, 5, 5, 6, 1, 2, 2, 3, 2, 3, 3, 4, 2, 3, 3, 4, 3, 4, 4, 5, 2, 3, 3, 4, 3, 4, 4, 5, 3, 4, 4, 5, 4, 5, 5, 6, 2, 3, 3, 4, 3, 4, 4, 5, 3, 4, 4, 5, 4, 5, 5, 6, 3, 4, 4, 5, 4, 5, 5, 6, 4, 5, 5, 6, 5, 6, 6, 7, 1, 2, 2, 3, 2, 3, 3, 4, 2, 3, 3, 4, 3, 4, 4, 5, 2, 3, 3, 4, 3, 4, 4, 5, 3, 4, 4, 5, 4, 5, 5, 6, 2, 3, 3, 4, 3, 4, 4, 5, 3, 4, 4, 5, 4, 5, 5, 6, 3, 4, 4, 5, 4, 5, 5, 6, 4, 5, 5, 6, 5, 6, 6, 7, 2, 3, 3, 4, 3, 4, 4, 5, 3, 4, 4, 5, 4, 5, 5, 6, 3, 4, 4, 5, 4, 5, 5, 6, 4, 5, 5, 6, 5, 6, 6, 7, 3, 4, 4, 5, 4, 5, 5, 6, 4, 5, 5, 6, 5, 6, 6, 7, 4, 5, 5, 6, 5, 6, 6, 7, 5, 6, 6, 7, 6, 7, 7, 8]⟩)) (.t 4)), .a 6 (.mv (.t 0)), .a 7 (.bin .shr (.t 6) (.c (.int .u64 16))), .a 8 (.bin .and (.t 7) (.c (.int .u32 255))), .a 9 (.sI (.c (.str ⟨#[0, 1, 1, 2, 1, 2, 2, 3, 1, 2, 2, 3, 2, 3, 3, 4, 1, 2, 2, 3, 2, 3, 3, 4, 2, 3, 3, 4, 3, 4, 4, 5, 1, 2, 2, 3, 2, 3, 3, 4, 2, 3, 3, 4, 3, 4, 4, 5, 2, 3, 3, 4, 3, 4, 4, 5, 3, 4, 4, 5, 4, 5, 5, 6, 1, 2, 2, 3, 2, 3, 3, 4, 2, 3, 3, 4, 3, 4, 4, 5, 2, 3, 3, 4, 3, 4, 4, 5, 3, 4, 4, 5, 4, 5, 5, 6, 2, 3, 3, 4, 3, 4, 4, 5, 3, 4, 4, 5, 4, 5, 5, 6, 3, 4, 4, 5, 4, 5, 5, 6, 4, 5, 5, 6, 5, 6, 6, 7, 1, 2, 2, 3, 2, 3, 3, 4, 2, 3, 3, 4, 3, 4, 4, 5, 2, 3, 3, 4, 3, 4, 4, 5, 3, 4, 4, 5, 4, 5, 5, 6, 2, 3, 3, 4, 3, 4, 4, 5, 3, 4, 4, 5, 4, 5, 5, 6, 3, 4, 4, 5, 4, 5, 5, 6, 4, 5, 5, 6, 5, 6, 6, 7, 2, 3, 3, 4, 3, 4, 4, 5, 3, 4, 4, 5, 4, 5, 5, 6, 3, 4, 4, 5, 4, 5, 5, 6, 4, 5, 5, 6, 5, 6, 6, 7, 3, 4, 4, 5, 4, 5, 5, 6, 4, 5, 5, 6, 5, 6, 6, 7, 4, 5, 5, 6, 5, 6, 6, 7, 5, 6, 6, 7, 6, 7, 7, 8]⟩)) (.t 8)), .a 10 (.bin .add (.t 5) (.t 9)), .a 11 (.mv (.t 0)), .a 12 (.bin .shr (.t 11) (.c (.int .u64 8))), .a 13 (.bin .and (.t 12) (.c (.int .u32 255))), .a 14 (.sI (.c (.str ⟨#[0, 1, 1, 2, 1, 2, 2, 3, 1, 2, 2, 3, 2, 3, 3, 4, 1, 2, 2, 3, 2, 3, 3, 4, 2, 3, 3, 4, 3, 4, 4, 5, 1, 2, 2, 3, 2, 3, 3, 4, 2, 3, 3, 4, 3, 4, 4, 5, 2, 3, 3, 4, 3, 4, 4, 5, 3, 4, 4, 5, 4, 5, 5, 6, 1, 2, 2, 3, 2, 3, 3, 4, 2, 3, 3, 4, 3, 4, 4, 5, 2, 3, 3, 4, 3, 4, 4, 5, 3, 4, 4, 5, 4, 5, 5, 6, 2, 3, 3, 4, 3, 4, 4, 5, 3, 4, 4, 5, 4, 5, 5, 6, 3, 4, 4, 5, 4, 5, 5, 6, 4, 5, 5, 6, 5, 6, 6, 7, 1, 2, 2, 3, 2, 3, 3, 4, 2, 3, 3, 4, 3, 4, 4, 5, 2, 3, 3, 4, 3, 4, 4, 5, 3, 4, 4, 5, 4, 5, 5, 6, 2, 3, 3, 4, 3, 4, 4, 5, 3, 4, 4, 5, 4, 5, 5, 6, 3, 4, 4, 5, 4, 5, 5, 6, 4, 5, 5, 6, 5, 6, 6, 7, 2, 3, 3, 4, 3, 4, 4, 5, 3, 4, 4, 5, 4, 5, 5, 6, 3, 4, 4, 5, 4, 5, 5, 6, 4, 5, 5, 6, 5, 6, 6, 7, 3, 4, 4, 5, 4, 5, 5, 6, 4, 5, 5, 6, 5, 6, 6, 7, 4, 5, 5, 6, 5, 6, 6, 7, 5, 6, 6, 7, 6, 7, 7, 8]⟩)) (.t 13)), .a 15 (.bin .add (.t 10) (.t 14)), .a 16 (.mv (.t 0)), .a 17 (.bin .and (.t 16) (.c (.int .u32 255))), .a 18 (.sI (.c (.str ⟨#[0, 1, 1, 2, 1, 2, 2, 3, 1, 2, 2, 3, 2, 3, 3, 4, 1, 2, 2, 3, 2, 3, 3, 4, 2, 3, 3, 4, 3, 4, 4, 5, 1, 2, 2, 3, 2, 3, 3, 4, 2, 3, 3, 4, 3, 4, 4, 5, 2, 3, 3, 4, 3, 4, 4, 5, 3, 4, 4, 5, 4, 5, 5, 6, 1, 2, 2, 3, 2, 3, 3, 4, 2, 3, 3, 4, 3, 4, 4, 5, 2, 3, 3, 4, 3, 4, 4, 5, 3, 4, 4, 5, 4, 5, 5, 6, 2, 3, 3, 4, 3, 4, 4, 5, 3, 4, 4, 5, 4, 5, 5, 6, 3, 4, 4, 5, 4, 5, 5, 6, 4, 5, 5, 6, 5, 6, 6, 7, 1, 2, 2, 3, 2, 3, 3, 4, 2, 3, 3, 4, 3, 4, 4, 5, 2, 3, 3, 4, 3, 4, 4, 5, 3, 4, 4, 5, 4, 5, 5, 6, 2, 3, 3, 4, 3, 4, 4, 5, 3, 4, 4, 5, 4, 5, 5, 6, 3, 4, 4, 5, 4, 5, 5, 6, 4, 5, 5, 6, 5, 6, 6, 7, 2, 3, 3, 4, 3, 4, 4, 5, 3, 4, 4, 5, 4, 5, 5, 6, 3, 4, 4, 5, 4, 5, 5, 6, 4, 5, 5, 6, 5, 6, 6, 7, 3, 4, 4, 5, 4, 5, 5, 6, 4, 5, 5, 6, 5, 6, 6, 7, 4, 5, 5, 6, 5, 6, 6, 7, 5, 6, 6, 7, 6, 7, 7, 8]⟩)) (.t 17)), .a 19 (.bin .add (.t 15) (.t 18)), .a 20 (.conv .i64 (.t 19)), .a 2 (.mv (.t 20))] [0, 3, 4, 5, 6, 7, 8, 9, 10, 11, 12, 13, 14, 15, 16, 17, 18, 19, 20] [])
  .ret))⟩
def bits_OnesCount32.hint : R.Hint := { kill := [(0, [2], []), (1, [0, 3, 4, 5, 6, 7, 8, 9, 10, 11, 12, 13, 14, 15, 16, 17, 18, 19, 20], [])] }
theorem bits_OnesCount32.ok : cFn Tryz.prog bits_OnesCount32.hint Tryz.f67 = some bits_OnesCount32 := by kernel_rfl
def bits_OnesCount64 : R.Fn := ⟨1, [(.t 2)], (.seq (.reg [] [.a 2 (.mv (.c (.int .i64 0)))] [2] [])
  (.seq (.reg [] [.a 3 (.mv (.t 0)), .a 4 (.bin .shr (.t 3) (.c (.int .u64 1))), .a 5 (.bin .and (.t 4) (.c (.int .u64 6148914691236517205))), .a 6 (.mv (.t 0)), .a 7 (.bin .and (.t 6) (.c (.int .u64 6148914691236517205))), .a 8 (.bin .add (.t 5) (.t 7)), .a 0 (.mv (.t 8))] [3, 4, 5, 6, 7, 8] [])
  (.seq (.reg [] [.a 9 (.mv (.t 0)), .a 10 (.bin .shr (.t 9) (.c (.int .u64 2))), .a 11 (.bin .and (.t 10) (.c (.int .u64 3689348814741910323))), .a 12 (.mv (.t 0)), .a 13 (.bin .and (.t 12) (.c (.int .u64 3689348814741910323))), .a 14 (.bin .add (.t 11) (.t 13)), .a 0 (.mv (.t 14))] [9, 10, 11, 12, 13, 14] [])
  (.seq (.reg [] [.a 15 (.mv (.t 0)), .a 16 (.bin .shr (.t 15) (.c (.int .u64 4))), .a 17 (.mv (.t 0)), .a 18 (.bin .add (.t 16) (.t 17)), .a 19 (.bin .and (.t 18) (.c (.int .u64 1085102592571150095))), .a 0 (.mv (.t 19))] [15, 16, 17, 18, 19] [])
  (.seq (.reg [] [.a 20 (.mv (.t 0)), .a 21 (.mv (.t 0)), .a 22 (.bin .shr (.t 21) (.c (.int .u64 8))), .a 23 (.bin .add (.t 20) (.t 22)), .a 0 (.mv (.t 23))] [20, 21, 22, 23] [])
  (.seq (.reg [] [.a 24 (.mv (.t 0)), .a 25 (.mv (.t 0)), .a 26 (.bin .shr (.t 25) (.c (.int .u64 16))), .a 27 (.bin .add (.t 24) (.t 26)), .a 0 (.mv (.t 27))] [24, 25, 26, 27] [])
  (.seq (.reg [] [.a 28 (.mv (.t 0)), .a 29 (.mv (.t 0)), .a 30 (.bin .shr (.t 29) (.c (.int .u64 32))), .a 31 (.bin .add (.t 28) (.t 30)), .a 0 (.mv (.t 31))] [28, 29, 30, 31] [])
  (.seq (.reg [] [.a 32 (.mv (.t 0)), .a 33 (.conv .i64 (.t 32)), .a 34 (.bin .and (.t 33) (.c (.int .i64 127))), .a 2 (.mv (.t 34))] [0, 32, 33, 34] [])
  .ret))))))))⟩
def bits_OnesCount64.hint : R.Hint := { kill := [(0, [2], []), (1, [3, 4, 5, 6, 7, 8], []), (2, [9, 10, 11, 12, 13, 14], []), (3, [15, 16, 17, 18, 19], []), (4, [20, 21, 22, 23], []), (5, [24, 25, 26, 27], []), (6, [28, 29, 30, 31], []), (7, [0, 32, 33, 34], [])] }
theorem bits_OnesCount64.ok : cFn Tryz.prog bits_OnesCount64.hint Tryz.f68 = some bits_OnesCount64 := by kernel_rfl
def nat_trim.b0 : R.C := (.seq (.seq (.reg [] [.a 6 (.mv (.t 3)), .a 7 (.bin .gtr (.t 6) (.c (.int .i64 0))), .a 8 (.mv (.t 7)), .g 9 8 true (.mv (.t 0)), .g 10 8 true (.mv (.t 3)), .g 11 8 true (.bin .sub (.t 10) (.c (.int .i64 1))), .g 12 8 true (.iA 1 (.t 9) (.t 11)), .g 13 8 true (.ld 1 false (.t 12)), .g 14 8 true (.bin .eql (.t 13) (.c (.int .u64 0))), .a 15 (.pick (.t 8) (.t 14) (.c (.bool false)))] [6, 7, 8, 9, 10, 11, 12, 13, 14] [])
  (.cond (.t 15) .skip (.exit 0)))
  (.block 1 (.reg [] [.a 16 (.mv (.t 3)), .a 17 (.bin .sub (.t 16) (.c (.int .i64 1))), .a 3 (.mv (.t 17))] [15, 16, 17] [])))
def nat_trim : R.Fn := ⟨1, [(.own 2)], (.seq (.reg [] [.a 2 (.mv (.c (.sl 1 [])))] [2] [])
  (.seq (.reg [] [.a 4 (.mv (.t 0)), .a 5 (.ln (.t 4)), .a 3 (.mv (.t 5))] [4, 5] [])
  (.seq (.block 0 (.loop [] [] nat_trim.b0))
  (.seq (.seq (.reg [] [.a 18 (.mv (.t 3)), .a 19 (.bin .eql (.t 18) (.c (.int .i64 0)))] [15, 18] [])
  (.cond (.t 19) (.seq (.reg [] [.a 2 (.mv (.c (.sl 1 [])))] [0, 3, 19] [])
  .ret) .skip))
  (.seq (.reg [] [.a 20 (.mv (.t 0)), .a 21 (.mv (.t 3)), .a 22 (.slc 1 (.t 20) none (some (.t 21))), .a 2 (.mv (.t 22))] [0, 3, 19, 20, 21, 22] [])
  .ret)))))⟩
def nat_trim.hint : R.Hint := { kill := [(0, [2], []), (1, [4, 5], []), (2, [6, 7, 8, 9, 10, 11, 12, 13, 14], []), (3, [15, 16, 17], []), (4, [15, 18], []), (5, [0, 3, 19], []), (6, [0, 3, 19, 20, 21, 22], [])], own := true }
theorem nat_trim.ok : cFn Tryz.prog nat_trim.hint Tryz.f69 = some nat_trim := by kernel_rfl
def nat_Clean.b0 : R.C := (.seq (.reg [] [.a 12 (.bin .lss (.t 11) (.t 10))] [] [])
  (.seq (.cond (.t 12) .skip (.exit 0))
  (.seq (.block 1 (.seq (.reg [] [.a 13 (.mv (.t 11)), .a 14 (.iA 1 (.t 9) (.t 11)), .a 15 (.ld 1 false (.t 14)), .a 4 (.mv (.t 13)), .a 5 (.mv (.t 15))] [12, 13, 14, 15] [])
  (.reg [] [.a 16 (.mv (.t 3)), .a 17 (.mv (.t 4)), .a 18 (.mv (.t 5)), .a 19 (.bin .and (.t 18) (.c (.int .u64 4294967295))), .a 20 (.iA 1 (.t 16) (.t 17)), .n (.st 1 (.t 20) (.t 19))] [4, 5, 16, 17, 18, 19, 20] [])))
  (.reg [] [.a 21 (.bin .add (.t 11) (.c (.int .i64 1))), .a 11 (.mv (.t 21))] [21] []))))
def nat_Clean : R.Fn := ⟨1, [(.t 2)], (.seq (.reg [] [.a 2 (.mv (.c (.sl 1 [])))] [2] [])
  (.seq (.reg [] [.a 6 (.mv (.t 0)), .a 7 (.ln (.t 6)), .a 8 (.mk 1 8 [(.int .u64 0)] (.t 7) (.t 7)), .a 3 (.mv (.t 8))] [6, 7, 8] [])
  (.seq (.seq (.reg [] [.a 9 (.mv (.t 0)), .a 10 (.ln (.t 9)), .a 11 (.mv (.c (.int .i64 0)))] [0] [])
  (.block 0 (.loop [] [] nat_Clean.b0)))
  (.seq (.reg [3] [.a 22 (.mv (.t 3)), .a 23 (.call F.nat_trim [(.t 22)]), .a 2 (.mv (.t 23))] [3, 9, 10, 11, 12, 22, 23] [8])
  .ret))))⟩
def nat_Clean.hint : R.Hint := { pub := [(7, [3])], kill := [(0, [2], []), (1, [6, 7, 8], []), (2, [0], []), (4, [12, 13, 14, 15], []), (5, [4, 5, 16, 17, 18, 19, 20], []), (6, [21], []), (7, [3, 9, 10, 11, 12, 22, 23], [8])] }
theorem nat_Clean.ok : cFn Tryz.prog nat_Clean.hint Tryz.f71 = some nat_Clean := by kernel_rfl
def whole_Clean : R.Fn := ⟨1, [(.cell 2 2 true)], (.seq (.reg [] [.a 1 (.box (.t 0)), .a 2 (.new [(.bool false), (.sl 1 [])])] [0] [])
  (.seq (.reg [] [.a 3 (.fA 0 (.t 1)), .a 4 (.ld 1 false (.t 3)), .a 5 (.fA 1 (.t 1)), .a 6 (.ld 1 false (.t 5)), .a 7 (.call F.nat_Clean [(.t 6)]), .a 8 (.call F.whole_sign [(.t 4), (.t 7)]), .n (.st 2 (.t 2) (.t 8))] [1, 3, 4, 5, 6, 7, 8] [1])
  .ret))⟩
def whole_Clean.hint : R.Hint := { kill := [(0, [0], []), (1, [1, 3, 4, 5, 6, 7, 8], [1])] }
theorem whole_Clean.ok : cFn Tryz.prog whole_Clean.hint Tryz.f72 = some whole_Clean := by kernel_rfl
def nat_DivMod : R.Fn := ⟨2, [(.t 4), (.t 5), (.t 6)], (.seq (.reg [] [.a 4 (.mv (.c (.sl 1 []))), .a 5 (.mv (.c (.sl 1 []))), .a 6 (.mv (.c (.int .i64 0)))] [4, 5, 6] [])
  (.seq (.reg [] [.a 11 (.mv (.t 0)), .a 12 (.call F.nat_Clean [(.t 11)]), .a 13 (.mv (.t 1)), .a 14 (.call F.nat_Clean [(.t 13)]), .a 0 (.mv (.t 12)), .a 1 (.mv (.t 14))] [11, 12, 13, 14] [])
  (.seq (.block 0 (.seq (.reg [] [.a 16 (.mv (.t 1)), .a 17 (.ln (.t 16)), .a 18 (.bin .eql (.t 17) (.c (.int .i64 0))), .a 15 (.mv (.t 18))] [16, 17, 18] [])
  (.cond (.t 15) (.seq (.reg [] [.a 4 (.mv (.c (.sl 1 []))), .a 5 (.mv (.c (.sl 1 []))), .a 6 (.mv (.c (.int .i64 2)))] [0, 1, 15] [])
  .ret) (.seq (.reg [] [.a 20 (.mv (.t 0)), .a 21 (.mv (.t 1)), .a 22 (.call F.nat_order [(.t 20), (.t 21)]), .a 23 (.bin .lss (.t 22) (.c (.int .i64 0))), .a 19 (.mv (.t 23))] [15, 20, 21, 22, 23] [])
  (.cond (.t 19) (.seq (.reg [] [.a 24 (.mv (.t 0)), .a 4 (.mv (.c (.sl 1 []))), .a 5 (.mv (.t 24)), .a 6 (.mv (.c (.int .i64 0)))] [0, 1, 19, 24] [])
  .ret) (.seq (.reg [] [.a 26 (.mv (.t 1)), .a 27 (.ln (.t 26)), .a 28 (.bin .eql (.t 27) (.c (.int .i64 1))), .a 25 (.mv (.t 28))] [19, 26, 27, 28] [])
  (.cond (.t 25) (.seq (.reg [] [.a 30 (.mv (.t 0)), .a 31 (.mv (.t 1)), .a 32 (.iA 1 (.t 31) (.c (.int .i64 0))), .a 33 (.ld 1 false (.t 32)), .a 34 (.call F.nat_small [(.t 30), (.t 33)]), .a 29 (.mv (.t 34)), .a 35 (.ext (.t 29) 0), .a 36 (.ext (.t 29) 1), .a 7 (.mv (.t 35)), .a 8 (.mv (.t 36))] [0, 1, 25, 29, 30, 31, 32, 33, 34, 35, 36] [])
  (.seq (.reg [] [.a 37 (.mv (.t 7)), .a 38 (.mv (.t 8)), .a 39 (.call F.nat_Of [(.t 38)]), .a 4 (.mv (.t 37)), .a 5 (.mv (.t 39)), .a 6 (.mv (.c (.int .i64 0)))] [7, 8, 37, 38, 39] [])
  .ret)) .skip)))))))
  (.seq (.reg [] [.a 41 (.mv (.t 0)), .a 42 (.mv (.t 1)), .a 43 (.call F.nat_long [(.t 41), (.t 42)]), .a 40 (.mv (.t 43)), .a 44 (.ext (.t 40) 0), .a 45 (.ext (.t 40) 1), .a 9 (.mv (.t 44)), .a 10 (.mv (.t 45))] [0, 1, 25, 40, 41, 42, 43, 44, 45] [])
  (.seq (.reg [] [.a 46 (.mv (.t 9)), .a 47 (.mv (.t 10)), .a 4 (.mv (.t 46)), .a 5 (.mv (.t 47)), .a 6 (.mv (.c (.int .i64 0)))] [9, 10, 46, 47] [])
  .ret)))))⟩
def nat_DivMod.hint : R.Hint := { kill := [(0, [4, 5, 6], []), (1, [11, 12, 13, 14], []), (2, [16, 17, 18], []), (3, [0, 1, 15], []), (4, [15, 20, 21, 22, 23], []), (5, [0, 1, 19, 24], []), (6, [19, 26, 27, 28], []), (7, [0, 1, 25, 29, 30, 31, 32, 33, 34, 35, 36], []), (8, [7, 8, 37, 38, 39], []), (9, [0, 1, 25, 40, 41, 42, 43, 44, 45], []), (10, [9, 10, 46, 47], [])] }
theorem nat_DivMod.ok : cFn Tryz.prog nat_DivMod.hint Tryz.f73 = some nat_DivMod := by kernel_rfl
def whole_sign : R.Fn := ⟨2, [(.cell 4 2 true)], (.seq (.reg [] [.a 4 (.new [(.bool false), (.sl 1 [])])] [] [])
  (.seq (.reg [] [.a 5 (.mv (.t 0)), .a 6 (.mv (.t 5)), .g 7 6 true (.mv (.t 1)), .g 8 6 true (.ln (.t 7)), .g 9 6 true (.bin .gtr (.t 8) (.c (.int .i64 0))), .a 10 (.pick (.t 6) (.t 9) (.c (.bool false))), .a 11 (.mv (.t 1)), .a 12 (.bld [(.bool false), (.sl 1 [])] [(0, 1, (.t 10)), (1, 1, (.t 11))]), .n (.st 2 (.t 4) (.t 12))] [0, 1, 5, 6, 7, 8, 9, 10, 11, 12] [])
  .ret))⟩
def whole_sign.hint : R.Hint := { kill := [(1, [0, 1, 5, 6, 7, 8, 9, 10, 11, 12], [])] }
theorem whole_sign.ok : cFn Tryz.prog whole_sign.hint Tryz.f74 = some whole_sign := by kernel_rfl
def nat_Add.b0 : R.C := (.seq (.reg [] [.a 22 (.bin .lss (.t 21) (.t 20))] [] [])
  (.seq (.cond (.t 22) .skip (.exit 0))
  (.seq (.block 1 (.seq (.reg [] [.a 23 (.mv (.t 21)), .a 7 (.mv (.t 23))] [22, 23] [])
  (.seq (.reg [] [.a 24 (.mv (.t 6)), .a 25 (.mv (.t 0)), .a 26 (.mv (.t 7)), .a 27 (.call F.nat_limb [(.t 25), (.t 26)]), .a 28 (.mv (.t 1)), .a 29 (.mv (.t 7)), .a 30 (.call F.nat_limb [(.t 28), (.t 29)]), .a 31 (.bin .add (.t 27) (.t 30)), .a 32 (.bin .add (.t 24) (.t 31)), .a 6 (.mv (.t 32))] [24, 25, 26, 27, 28, 29, 30, 31, 32] [])
  (.seq (.reg [] [.a 33 (.mv (.t 5)), .a 34 (.mv (.t 7)), .a 35 (.mv (.t 6)), .a 36 (.bin .and (.t 35) (.c (.int .u64 4294967295))), .a 37 (.iA 1 (.t 33) (.t 34)), .n (.st 1 (.t 37) (.t 36))] [7, 33, 34, 35, 36, 37] [])
  (.reg [] [.a 38 (.mv (.t 6)), .a 39 (.bin .shr (.t 38) (.c (.int .u64 32))), .a 6 (.mv (.t 39))] [38, 39] [])))))
  (.reg [] [.a 40 (.bin .add (.t 21) (.c (.int .i64 1))), .a 21 (.mv (.t 40))] [40] []))))
def nat_Add : R.Fn := ⟨2, [(.t 4)], (.seq (.reg [] [.a 4 (.mv (.c (.sl 1 [])))] [4] [])
  (.seq (.reg [] [.a 8 (.mv (.t 0)), .a 9 (.call F.nat_Clean [(.t 8)]), .a 10 (.mv (.t 1)), .a 11 (.call F.nat_Clean [(.t 10)]), .a 0 (.mv (.t 9)), .a 1 (.mv (.t 11))] [8, 9, 10, 11] [])
  (.seq (.reg [] [.a 12 (.mv (.t 0)), .a 13 (.ln (.t 12)), .a 14 (.mv (.t 1)), .a 15 (.ln (.t 14)), .a 16 (.mx (.t 13) (.t 15)), .a 17 (.bin .add (.t 16) (.c (.int .i64 1))), .a 18 (.mk 1 8 [(.int .u64 0)] (.t 17) (.t 17)), .a 5 (.mv (.t 18))] [12, 13, 14, 15, 16, 17, 18] [])
  (.seq (.reg [] [.a 6 (.mv (.c (.int .u64 0)))] [] [])
  (.seq (.seq (.reg [] [.a 19 (.mv (.t 5)), .a 20 (.ln (.t 19)), .a 21 (.mv (.c (.int .i64 0)))] [19] [])
  (.block 0 (.loop [] [] nat_Add.b0)))
  (.seq (.reg [5] [.a 41 (.mv (.t 5)), .a 42 (.call F.nat_trim [(.t 41)]), .a 4 (.mv (.t 42))] [0, 1, 5, 6, 20, 21, 22, 41, 42] [18])
  .ret))))))⟩
def nat_Add.hint : R.Hint := { pub := [(11, [5])], kill := [(0, [4], []), (1, [8, 9, 10, 11], []), (2, [12, 13, 14, 15, 16, 17, 18], []), (4, [19], []), (6, [22, 23], []), (7, [24, 25, 26, 27, 28, 29, 30, 31, 32], []), (8, [7, 33, 34, 35, 36, 37], []), (9, [38, 39], []), (10, [40], []), (11, [0, 1, 5, 6, 20, 21, 22, 41, 42], [18])] }
theorem nat_Add.ok : cFn Tryz.prog nat_Add.hint Tryz.f75 = some nat_Add := by kernel_rfl
def nat_Sub : R.Fn := ⟨2, [(.t 4), (.t 5)], (.seq (.reg [] [.a 4 (.mv (.c (.sl 1 []))), .a 5 (.mv (.c (.int .i64 0)))] [4, 5] [])
  (.seq (.reg [] [.a 6 (.mv (.t 0)), .a 7 (.call F.nat_Clean [(.t 6)]), .a 8 (.mv (.t 1)), .a 9 (.call F.nat_Clean [(.t 8)]), .a 0 (.mv (.t 7)), .a 1 (.mv (.t 9))] [6, 7, 8, 9] [])
  (.seq (.seq (.reg [] [.a 10 (.mv (.t 0)), .a 11 (.mv (.t 1)), .a 12 (.call F.nat_order [(.t 10), (.t 11)]), .a 13 (.bin .lss (.t 12) (.c (.int .i64 0)))] [10, 11, 12] [])
  (.cond (.t 13) (.seq (.reg [] [.a 4 (.mv (.c (.sl 1 []))), .a 5 (.mv (.c (.int .i64 3)))] [0, 1, 13] [])
  .ret) .skip))
  (.seq (.reg [] [.a 14 (.mv (.t 0)), .a 15 (.mv (.t 1)), .a 16 (.call F.nat_minus [(.t 14), (.t 15)]), .a 4 (.mv (.t 16)), .a 5 (.mv (.c (.int .i64 0)))] [0, 1, 13, 14, 15, 16] [])
  .ret))))⟩
def nat_Sub.hint : R.Hint := { kill := [(0, [4, 5], []), (1, [6, 7, 8, 9], []), (2, [10, 11, 12], []), (3, [0, 1, 13], []), (4, [0, 1, 13, 14, 15, 16], [])] }
theorem nat_Sub.ok : cFn Tryz.prog nat_Sub.hint Tryz.f76 = some nat_Sub := by kernel_rfl
def whole_Neg : R.Fn := ⟨1, [(.cell 2 2 true)], (.seq (.reg [] [.a 1 (.box (.t 0)), .a 2 (.new [(.bool false), (.sl 1 [])])] [0] [])
  (.seq (.reg [] [.a 3 (.ld 2 true (.t 1)), .a 4 (.call F.whole_Clean [(.t 3)]), .n (.st 2 (.t 1) (.t 4))] [3, 4] [])
  (.seq (.reg [] [.a 5 (.fA 0 (.t 1)), .a 6 (.ld 1 false (.t 5)), .a 7 (.un .not (.t 6)), .a 8 (.fA 1 (.t 1)), .a 9 (.ld 1 false (.t 8)), .a 10 (.call F.whole_sign [(.t 7), (.t 9)]), .n (.st 2 (.t 2) (.t 10))] [1, 5, 6, 7, 8, 9, 10] [1])
  .ret)))⟩
def whole_Neg.hint : R.Hint := { kill := [(0, [0], []), (1, [3, 4], []), (2, [1, 5, 6, 7, 8, 9, 10], [1])] }
theorem whole_Neg.ok : cFn Tryz.prog whole_Neg.hint Tryz.f77 = some whole_Neg := by kernel_rfl
def nat_euclid.b0 : R.C := (.seq (.seq (.reg [] [.a 19 (.mv (.t 7)), .a 20 (.bin .neq (.t 19) (.c (.int .u64 0)))] [19] [])
  (.cond (.t 20) .skip (.exit 0)))
  (.block 1 (.reg [] [.a 21 (.mv (.t 7)), .a 22 (.mv (.t 5)), .a 23 (.mv (.t 7)), .a 24 (.bin .rem (.t 22) (.t 23)), .a 5 (.mv (.t 21)), .a 7 (.mv (.t 24))] [20, 21, 22, 23, 24] [])))
def nat_euclid : R.Fn := ⟨2, [(.t 4)], (.seq (.reg [] [.a 4 (.mv (.c (.sl 1 [])))] [4] [])
  (.seq (.reg [] [.a 10 (.mv (.t 0)), .a 11 (.call F.nat_To [(.t 10)]), .a 9 (.mv (.t 11)), .a 12 (.ext (.t 9) 0), .a 13 (.ext (.t 9) 1), .a 5 (.mv (.t 12)), .a 6 (.mv (.t 13))] [0, 6, 9, 10, 11, 12, 13] [])
  (.seq (.reg [] [.a 15 (.mv (.t 1)), .a 16 (.call F.nat_To [(.t 15)]), .a 14 (.mv (.t 16)), .a 17 (.ext (.t 14) 0), .a 18 (.ext (.t 14) 1), .a 7 (.mv (.t 17)), .a 8 (.mv (.t 18))] [1, 8, 14, 15, 16, 17, 18] [])
  (.seq (.block 0 (.loop [] [] nat_euclid.b0))
  (.seq (.reg [] [.a 25 (.mv (.t 5)), .a 26 (.call F.nat_Of [(.t 25)]), .a 4 (.mv (.t 26))] [5, 7, 20, 25, 26] [])
  .ret)))))⟩
def nat_euclid.hint : R.Hint := { kill := [(0, [4], []), (1, [0, 6, 9, 10, 11, 12, 13], []), (2, [1, 8, 14, 15, 16, 17, 18], []), (3, [19], []), (4, [20, 21, 22, 23, 24], []), (5, [5, 7, 20, 25, 26], [])] }
theorem nat_euclid.ok : cFn Tryz.prog nat_euclid.hint Tryz.f78 = some nat_euclid := by kernel_rfl
def nat_zeros.b0 : R.C := (.seq (.reg [] [.a 9 (.bin .lss (.t 8) (.t 7))] [] [])
  (.seq (.cond (.t 9) .skip (.exit 0))
  (.seq (.block 1 (.seq (.reg [] [.a 10 (.mv (.t 8)), .a 11 (.iA 1 (.t 6) (.t 8)), .a 12 (.ld 1 false (.t 11)), .a 4 (.mv (.t 10)), .a 5 (.mv (.t 12))] [9, 10, 11, 12] [])
  (.seq (.seq (.reg [] [.a 13 (.mv (.t 5)), .a 14 (.bin .neq (.t 13) (.c (.int .u64 0)))] [13] [])
  (.cond (.t 14) (.seq (.reg [] [.a 15 (.mv (.t 4)), .a 16 (.bin .mul (.c (.int .i64 32)) (.t 15)), .a 17 (.mv (.t 5)), .a 18 (.call F.bits_TrailingZeros64 [(.t 17)]), .a 19 (.bin .add (.t 16) (.t 18)), .a 2 (.mv (.t 19))] [3, 4, 5, 6, 7, 8, 14, 15, 16, 17, 18, 19] [])
  .ret) .skip))
  (.reg [] [.a 20 (.mv (.t 3)), .a 21 (.bin .add (.t 20) (.c (.int .i64 32))), .a 3 (.mv (.t 21))] [4, 5, 14, 20, 21] []))))
  (.reg [] [.a 22 (.bin .add (.t 8) (.c (.int .i64 1))), .a 8 (.mv (.t 22))] [22] []))))
def nat_zeros : R.Fn := ⟨1, [(.t 2)], (.seq (.reg [] [.a 2 (.mv (.c (.int .i64 0)))] [2] [])
  (.seq (.reg [] [.a 3 (.mv (.c (.int .i64 0)))] [] [])
  (.seq (.seq (.reg [] [.a 6 (.mv (.t 0)), .a 7 (.ln (.t 6)), .a 8 (.mv (.c (.int .i64 0)))] [0] [])
  (.block 0 (.loop [] [] nat_zeros.b0)))
  (.seq (.reg [] [.a 23 (.mv (.t 3)), .a 2 (.mv (.t 23))] [3, 6, 7, 8, 9, 23] [])
  .ret))))⟩
def nat_zeros.hint : R.Hint := { kill := [(0, [2], []), (2, [0], []), (4, [9, 10, 11, 12], []), (5, [13], []), (6, [3, 4, 5, 6, 7, 8, 14, 15, 16, 17, 18, 19], []), (7, [4, 5, 14, 20, 21], []), (8, [22], []), (9, [3, 6, 7, 8, 9, 23], [])] }
theorem nat_zeros.ok : cFn Tryz.prog nat_zeros.hint Tryz.f79 = some nat_zeros := by kernel_rfl
def nat_shr.b0 : R.C := (.seq (.reg [] [.a 25 (.bin .lss (.t 24) (.t 23))] [] [])
  (.seq (.cond (.t 25) .skip (.exit 0))
  (.seq (.block 1 (.seq (.reg [] [.a 26 (.mv (.t 24)), .a 8 (.mv (.t 26))] [25, 26] [])
  (.reg [] [.a 27 (.mv (.t 7)), .a 28 (.mv (.t 8)), .a 29 (.mv (.t 0)), .a 30 (.mv (.t 8)), .a 31 (.mv (.t 5)), .a 32 (.bin .add (.t 30) (.t 31)), .a 33 (.bin .add (.t 32) (.c (.int .i64 1))), .a 34 (.call F.nat_limb [(.t 29), (.t 33)]), .a 35 (.bin .shl (.t 34) (.c (.int .u64 32))), .a 36 (.mv (.t 0)), .a 37 (.mv (.t 8)), .a 38 (.mv (.t 5)), .a 39 (.bin .add (.t 37) (.t 38)), .a 40 (.iA 1 (.t 36) (.t 39)), .a 41 (.ld 1 false (.t 40)), .a 42 (.bin .or (.t 35) (.t 41)), .a 43 (.mv (.t 6)), .a 44 (.bin .shr (.t 42) (.t 43)), .a 45 (.bin .and (.t 44) (.c (.int .u64 4294967295))), .a 46 (.iA 1 (.t 27) (.t 28)), .n (.st 1 (.t 46) (.t 45))] [8, 27, 28, 29, 30, 31, 32, 33, 34, 35, 36, 37, 38, 39, 40, 41, 42, 43, 44, 45, 46] [])))
  (.reg [] [.a 47 (.bin .add (.t 24) (.c (.int .i64 1))), .a 24 (.mv (.t 47))] [47] []))))
def nat_shr : R.Fn := ⟨2, [(.t 4)], (.seq (.reg [] [.a 4 (.mv (.c (.sl 1 [])))] [4] [])
  (.seq (.reg [] [.a 9 (.mv (.t 1)), .a 10 (.bin .quo (.t 9) (.c (.int .i64 32))), .a 11 (.mv (.t 1)), .a 12 (.bin .rem (.t 11) (.c (.int .i64 32))), .a 5 (.mv (.t 10)), .a 6 (.mv (.t 12))] [1, 9, 10, 11, 12] [])
  (.seq (.seq (.reg [] [.a 13 (.mv (.t 5)), .a 14 (.mv (.t 0)), .a 15 (.ln (.t 14)), .a 16 (.bin .geq (.t 13) (.t 15))] [13, 14, 15] [])
  (.cond (.t 16) (.seq (.reg [] [.a 4 (.mv (.c (.sl 1 [])))] [0, 5, 6, 16] [])
  .ret) .skip))
  (.seq (.reg [] [.a 17 (.mv (.t 0)), .a 18 (.ln (.t 17)), .a 19 (.mv (.t 5)), .a 20 (.bin .sub (.t 18) (.t 19)), .a 21 (.mk 1 8 [(.int .u64 0)] (.t 20) (.t 20)), .a 7 (.mv (.t 21))] [16, 17, 18, 19, 20, 21] [])
  (.seq (.seq (.reg [] [.a 22 (.mv (.t 7)), .a 23 (.ln (.t 22)), .a 24 (.mv (.c (.int .i64 0)))] [22] [])
  (.block 0 (.loop [] [] nat_shr.b0)))
  (.seq (.reg [7] [.a 48 (.mv (.t 7)), .a 49 (.call F.nat_trim [(.t 48)]), .a 4 (.mv (.t 49))] [0, 5, 6, 7, 23, 24, 25, 48, 49] [21])
  .ret))))))⟩
def nat_shr.hint : R.Hint := { pub := [(10, [7])], kill := [(0, [4], []), (1, [1, 9, 10, 11, 12], []), (2, [13, 14, 15], []), (3, [0, 5, 6, 16], []), (4, [16, 17, 18, 19, 20, 21], []), (5, [22], []), (7, [25, 26], []), (8, [8, 27, 28, 29, 30, 31, 32, 33, 34, 35, 36, 37, 38, 39, 40, 41, 42, 43, 44, 45, 46], []), (9, [47], []), (10, [0, 5, 6, 7, 23, 24, 25, 48, 49], [21])] }
theorem nat_shr.ok : cFn Tryz.prog nat_shr.hint Tryz.f80 = some nat_shr := by kernel_rfl
def nat_order.b1 : R.C := (.seq (.seq (.reg [] [.a 21 (.mv (.t 5)), .a 22 (.bin .geq (.t 21) (.c (.int .i64 0)))] [21] [])
  (.cond (.t 22) .skip (.exit 1)))
  (.seq (.block 2 (.block 3 (.seq (.reg [] [.a 26 (.mv (.t 0)), .a 27 (.mv (.t 5)), .a 28 (.iA 1 (.t 26) (.t 27)), .a 29 (.ld 1 false (.t 28)), .a 30 (.mv (.t 1)), .a 31 (.mv (.t 5)), .a 32 (.iA 1 (.t 30) (.t 31)), .a 33 (.ld 1 false (.t 32)), .a 34 (.bin .lss (.t 29) (.t 33)), .a 25 (.mv (.t 34))] [22, 26, 27, 28, 29, 30, 31, 32, 33, 34] [])
  (.cond (.t 25) (.seq (.reg [] [.a 4 (.mv (.c (.int .i64 (-1))))] [0, 1, 5, 25] [])
  .ret) (.seq (.reg [] [.a 36 (.mv (.t 0)), .a 37 (.mv (.t 5)), .a 38 (.iA 1 (.t 36) (.t 37)), .a 39 (.ld 1 false (.t 38)), .a 40 (.mv (.t 1)), .a 41 (.mv (.t 5)), .a 42 (.iA 1 (.t 40) (.t 41)), .a 43 (.ld 1 false (.t 42)), .a 44 (.bin .gtr (.t 39) (.t 43)), .a 35 (.mv (.t 44))] [25, 36, 37, 38, 39, 40, 41, 42, 43, 44] [])
  (.cond (.t 35) (.seq (.reg [] [.a 4 (.mv (.c (.int .i64 1)))] [0, 1, 5, 35] [])
  .ret) .skip))))))
  (.reg [] [.a 23 (.mv (.t 5)), .a 24 (.bin .sub (.t 23) (.c (.int .i64 1))), .a 5 (.mv (.t 24))] [23, 24, 35] [])))
def nat_order : R.Fn := ⟨2, [(.t 4)], (.seq (.reg [] [.a 4 (.mv (.c (.int .i64 0)))] [4] [])
  (.seq (.block 0 (.seq (.reg [] [.a 7 (.mv (.t 0)), .a 8 (.ln (.t 7)), .a 9 (.mv (.t 1)), .a 10 (.ln (.t 9)), .a 11 (.bin .lss (.t 8) (.t 10)), .a 6 (.mv (.t 11))] [7, 8, 9, 10, 11] [])
  (.cond (.t 6) (.seq (.reg [] [.a 4 (.mv (.c (.int .i64 (-1))))] [0, 1, 6] [])
  .ret) (.seq (.reg [] [.a 13 (.mv (.t 0)), .a 14 (.ln (.t 13)), .a 15 (.mv (.t 1)), .a 16 (.ln (.t 15)), .a 17 (.bin .gtr (.t 14) (.t 16)), .a 12 (.mv (.t 17))] [6, 13, 14, 15, 16, 17] [])
  (.cond (.t 12) (.seq (.reg [] [.a 4 (.mv (.c (.int .i64 1)))] [0, 1, 12] [])
  .ret) .skip)))))
  (.seq (.seq (.reg [] [.a 18 (.mv (.t 0)), .a 19 (.ln (.t 18)), .a 20 (.bin .sub (.t 19) (.c (.int .i64 1))), .a 5 (.mv (.t 20))] [12, 18, 19, 20] [])
  (.block 1 (.loop [] [] nat_order.b1)))
  (.seq (.reg [] [.a 4 (.mv (.c (.int .i64 0)))] [0, 1, 5, 22] [])
  .ret))))⟩
def nat_order.hint : R.Hint := { kill := [(0, [4], []), (1, [7, 8, 9, 10, 11], []), (2, [0, 1, 6], []), (3, [6, 13, 14, 15, 16, 17], []), (4, [0, 1, 12], []), (5, [12, 18, 19, 20], []), (6, [21], []), (7, [23, 24, 35], []), (8, [22, 26, 27, 28, 29, 30, 31, 32, 33, 34], []), (9, [0, 1, 5, 25], []), (10, [25, 36, 37, 38, 39, 40, 41, 42, 43, 44], []), (11, [0, 1, 5, 35], []), (12, [0, 1, 5, 22], [])] }
theorem nat_order.ok : cFn Tryz.prog nat_order.hint Tryz.f81 = some nat_order := by kernel_rfl
def nat_shl.b0 : R.C := (.seq (.reg [] [.a 23 (.bin .lss (.t 22) (.t 21))] [] [])
  (.seq (.cond (.t 23) .skip (.exit 0))
  (.seq (.block 1 (.seq (.reg [] [.a 24 (.mv (.t 22)), .a 25 (.iA 1 (.t 20) (.t 22)), .a 26 (.ld 1 false (.t 25)), .a 8 (.mv (.t 24)), .a 9 (.mv (.t 26))] [23, 24, 25, 26] [])
  (.seq (.reg [] [.a 27 (.mv (.t 9)), .a 28 (.mv (.t 6)), .a 29 (.bin .shl (.t 27) (.t 28)), .a 9 (.mv (.t 29))] [27, 28, 29] [])
  (.seq (.reg [] [.a 30 (.mv (.t 7)), .a 31 (.mv (.t 8)), .a 32 (.mv (.t 5)), .a 33 (.bin .add (.t 31) (.t 32)), .a 34 (.iA 1 (.t 30) (.t 33)), .a 35 (.ld 1 false (.t 34)), .a 36 (.mv (.t 9)), .a 37 (.bin .and (.t 36) (.c (.int .u64 4294967295))), .a 38 (.bin .or (.t 35) (.t 37)), .a 39 (.iA 1 (.t 30) (.t 33)), .n (.st 1 (.t 39) (.t 38))] [30, 31, 32, 33, 34, 35, 36, 37, 38, 39] [])
  (.reg [] [.a 40 (.mv (.t 7)), .a 41 (.mv (.t 8)), .a 42 (.mv (.t 5)), .a 43 (.bin .add (.t 41) (.t 42)), .a 44 (.bin .add (.t 43) (.c (.int .i64 1))), .a 45 (.mv (.t 9)), .a 46 (.bin .shr (.t 45) (.c (.int .u64 32))), .a 47 (.iA 1 (.t 40) (.t 44)), .n (.st 1 (.t 47) (.t 46))] [8, 9, 40, 41, 42, 43, 44, 45, 46, 47] [])))))
  (.reg [] [.a 48 (.bin .add (.t 22) (.c (.int .i64 1))), .a 22 (.mv (.t 48))] [48] []))))
def nat_shl : R.Fn := ⟨2, [(.own 4)], (.seq (.reg [] [.a 4 (.mv (.c (.sl 1 [])))] [4] [])
  (.seq (.reg [] [.a 10 (.mv (.t 1)), .a 11 (.bin .quo (.t 10) (.c (.int .i64 32))), .a 12 (.mv (.t 1)), .a 13 (.bin .rem (.t 12) (.c (.int .i64 32))), .a 5 (.mv (.t 11)), .a 6 (.mv (.t 13))] [1, 10, 11, 12, 13] [])
  (.seq (.reg [] [.a 14 (.mv (.t 0)), .a 15 (.ln (.t 14)), .a 16 (.mv (.t 5)), .a 17 (.bin .add (.t 15) (.t 16)), .a 18 (.bin .add (.t 17) (.c (.int .i64 1))), .a 19 (.mk 1 8 [(.int .u64 0)] (.t 18) (.t 18)), .a 7 (.mv (.t 19))] [14, 15, 16, 17, 18, 19] [])
  (.seq (.seq (.reg [] [.a 20 (.mv (.t 0)), .a 21 (.ln (.t 20)), .a 22 (.mv (.c (.int .i64 0)))] [0] [])
  (.block 0 (.loop [] [] nat_shl.b0)))
  (.seq (.reg [] [.a 49 (.mv (.t 7)), .a 50 (.callk F.nat_trim [(true, (.t 49))]), .a 4 (.mv (.t 50))] [5, 6, 7, 20, 21, 22, 23, 49, 50] [])
  .ret)))))⟩
def nat_shl.hint : R.Hint := { callk := [(50, [true])], kill := [(0, [4], []), (1, [1, 10, 11, 12, 13], []), (2, [14, 15, 16, 17, 18, 19], []), (3, [0], []), (5, [23, 24, 25, 26], []), (6, [27, 28, 29], []), (7, [30, 31, 32, 33, 34, 35, 36, 37, 38, 39], []), (8, [8, 9, 40, 41, 42, 43, 44, 45, 46, 47], []), (9, [48], []), (10, [5, 6, 7, 20, 21, 22, 23, 49, 50], [])], own := true }
theorem nat_shl.ok : cFn Tryz.prog nat_shl.hint Tryz.f82 = some nat_shl := by kernel_rfl
def nat_rest : R.Fn := ⟨2, [(.t 4), (.t 5)], (.seq (.reg [] [.a 4 (.mv (.c (.sl 1 []))), .a 5 (.mv (.c (.sl 1 [])))] [4, 5] [])
  (.seq (.reg [] [.a 10 (.mv (.t 0)), .a 11 (.mv (.t 1)), .a 12 (.call F.nat_DivMod [(.t 10), (.t 11)]), .a 9 (.mv (.t 12)), .a 13 (.ext (.t 9) 0), .a 14 (.ext (.t 9) 1), .a 15 (.ext (.t 9) 2), .a 6 (.mv (.t 13)), .a 7 (.mv (.t 14)), .a 8 (.mv (.t 15))] [0, 1, 8, 9, 10, 11, 12, 13, 14, 15] [])
  (.seq (.reg [] [.a 16 (.mv (.t 6)), .a 17 (.mv (.t 7)), .a 4 (.mv (.t 16)), .a 5 (.mv (.t 17))] [6, 7, 16, 17] [])
  .ret)))⟩
def nat_rest.hint : R.Hint := { kill := [(0, [4, 5], []), (1, [0, 1, 8, 9, 10, 11, 12, 13, 14, 15], []), (2, [6, 7, 16, 17], [])] }
theorem nat_rest.ok : cFn Tryz.prog nat_rest.hint Tryz.f83 = some nat_rest := by kernel_rfl
def nat_minus.b0 : R.C := (.seq (.reg [] [.a 15 (.bin .lss (.t 14) (.t 13))] [] [])
  (.seq (.cond (.t 15) .skip (.exit 0))
  (.seq (.block 1 (.seq (.reg [] [.a 16 (.mv (.t 14)), .a 7 (.mv (.t 16))] [15, 16] [])
  (.seq (.reg [] [.a 17 (.mv (.t 0)), .a 18 (.mv (.t 7)), .a 19 (.iA 1 (.t 17) (.t 18)), .a 20 (.ld 1 false (.t 19)), .a 21 (.bin .add (.c (.int .u64 4294967296)) (.t 20)), .a 22 (.mv (.t 1)), .a 23 (.mv (.t 7)), .a 24 (.call F.nat_limb [(.t 22), (.t 23)]), .a 25 (.bin .sub (.t 21) (.t 24)), .a 26 (.mv (.t 6)), .a 27 (.bin .sub (.t 25) (.t 26)), .a 8 (.mv (.t 27))] [6, 17, 18, 19, 20, 21, 22, 23, 24, 25, 26, 27] [])
  (.seq (.reg [] [.a 28 (.mv (.t 5)), .a 29 (.mv (.t 7)), .a 30 (.mv (.t 8)), .a 31 (.bin .and (.t 30) (.c (.int .u64 4294967295))), .a 32 (.iA 1 (.t 28) (.t 29)), .n (.st 1 (.t 32) (.t 31))] [7, 28, 29, 30, 31, 32] [])
  (.reg [] [.a 33 (.mv (.t 8)), .a 34 (.bin .shr (.t 33) (.c (.int .u64 32))), .a 35 (.bin .sub (.c (.int .u64 1)) (.t 34)), .a 6 (.mv (.t 35))] [8, 33, 34, 35] [])))))
  (.reg [] [.a 36 (.bin .add (.t 14) (.c (.int .i64 1))), .a 14 (.mv (.t 36))] [36] []))))
def nat_minus : R.Fn := ⟨2, [(.t 4)], (.seq (.reg [] [.a 4 (.mv (.c (.sl 1 [])))] [4] [])
  (.seq (.reg [] [.a 9 (.mv (.t 0)), .a 10 (.ln (.t 9)), .a 11 (.mk 1 8 [(.int .u64 0)] (.t 10) (.t 10)), .a 5 (.mv (.t 11))] [9, 10, 11] [])
  (.seq (.reg [] [.a 6 (.mv (.c (.int .u64 0)))] [] [])
  (.seq (.seq (.reg [] [.a 12 (.mv (.t 5)), .a 13 (.ln (.t 12)), .a 14 (.mv (.c (.int .i64 0)))] [12] [])
  (.block 0 (.loop [] [] nat_minus.b0)))
  (.seq (.reg [5] [.a 37 (.mv (.t 5)), .a 38 (.call F.nat_trim [(.t 37)]), .a 4 (.mv (.t 38))] [0, 1, 5, 6, 13, 14, 15, 37, 38] [11])
  .ret)))))⟩
def nat_minus.hint : R.Hint := { pub := [(10, [5])], kill := [(0, [4], []), (1, [9, 10, 11], []), (3, [12], []), (5, [15, 16], []), (6, [6, 17, 18, 19, 20, 21, 22, 23, 24, 25, 26, 27], []), (7, [7, 28, 29, 30, 31, 32], []), (8, [8, 33, 34, 35], []), (9, [36], []), (10, [0, 1, 5, 6, 13, 14, 15, 37, 38], [11])] }
theorem nat_minus.ok : cFn Tryz.prog nat_minus.hint Tryz.f84 = some nat_minus := by kernel_rfl
def whole_Cmp : R.Fn := ⟨2, [(.t 4)], (.seq (.reg [] [.a 2 (.box (.t 0)), .a 3 (.box (.t 1)), .a 4 (.mv (.c (.int .i64 0)))] [0, 1, 4] [])
  (.seq (.reg [] [.a 5 (.ld 2 true (.t 2)), .a 6 (.call F.whole_Clean [(.t 5)]), .a 7 (.ld 2 true (.t 3)), .a 8 (.call F.whole_Clean [(.t 7)]), .n (.st 2 (.t 2) (.t 6)), .n (.st 2 (.t 3) (.t 8))] [5, 6, 7, 8] [])
  (.seq (.block 0 (.seq (.reg [] [.a 10 (.fA 0 (.t 2)), .a 11 (.ld 1 false (.t 10)), .a 12 (.fA 0 (.t 3)), .a 13 (.ld 1 false (.t 12)), .a 14 (.beq true (.t 11) (.t 13)), .a 15 (.mv (.t 14)), .g 16 15 true (.fA 0 (.t 2)), .g 17 15 true (.ld 1 false (.t 16)), .a 18 (.pick (.t 15) (.t 17) (.c (.bool false))), .a 9 (.mv (.t 18))] [10, 11, 12, 13, 14, 15, 16, 17, 18] [])
  (.cond (.t 9) (.seq (.reg [] [.a 4 (.mv (.c (.int .i64 (-1))))] [2, 3, 9] [2, 3])
  .ret) (.seq (.reg [] [.a 20 (.fA 0 (.t 2)), .a 21 (.ld 1 false (.t 20)), .a 22 (.fA 0 (.t 3)), .a 23 (.ld 1 false (.t 22)), .a 24 (.beq true (.t 21) (.t 23)), .a 19 (.mv (.t 24))] [9, 20, 21, 22, 23, 24] [])
  (.cond (.t 19) (.seq (.reg [] [.a 4 (.mv (.c (.int .i64 1)))] [2, 3, 19] [2, 3])
  .ret) (.seq (.reg [] [.a 26 (.fA 0 (.t 2)), .a 27 (.ld 1 false (.t 26)), .a 25 (.mv (.t 27))] [19, 26, 27] [])
  (.cond (.t 25) (.seq (.reg [] [.a 28 (.fA 1 (.t 3)), .a 29 (.ld 1 false (.t 28)), .a 30 (.fA 1 (.t 2)), .a 31 (.ld 1 false (.t 30)), .a 32 (.call F.nat_Cmp [(.t 29), (.t 31)]), .a 4 (.mv (.t 32))] [2, 3, 25, 28, 29, 30, 31, 32] [2, 3])
  .ret) .skip)))))))
  (.seq (.reg [] [.a 33 (.fA 1 (.t 2)), .a 34 (.ld 1 false (.t 33)), .a 35 (.fA 1 (.t 3)), .a 36 (.ld 1 false (.t 35)), .a 37 (.call F.nat_Cmp [(.t 34), (.t 36)]), .a 4 (.mv (.t 37))] [2, 3, 25, 33, 34, 35, 36, 37] [2, 3])
  .ret))))⟩
def whole_Cmp.hint : R.Hint := { kill := [(0, [0, 1, 4], []), (1, [5, 6, 7, 8], []), (2, [10, 11, 12, 13, 14, 15, 16, 17, 18], []), (3, [2, 3, 9], [2, 3]), (4, [9, 20, 21, 22, 23, 24], []), (5, [2, 3, 19], [2, 3]), (6, [19, 26, 27], []), (7, [2, 3, 25, 28, 29, 30, 31, 32], [2, 3]), (8, [2, 3, 25, 33, 34, 35, 36, 37], [2, 3])] }
theorem whole_Cmp.ok : cFn Tryz.prog whole_Cmp.hint Tryz.f85 = some whole_Cmp := by kernel_rfl
def whole_Sign : R.Fn := ⟨1, [(.t 2)], (.seq (.reg [] [.a 1 (.box (.t 0)), .a 2 (.mv (.c (.int .i64 0)))] [0, 2] [])
  (.seq (.reg [] [.a 3 (.ld 2 true (.t 1)), .a 4 (.call F.whole_Clean [(.t 3)]), .n (.st 2 (.t 1) (.t 4))] [3, 4] [])
  (.seq (.block 0 (.seq (.reg [] [.a 6 (.fA 0 (.t 1)), .a 7 (.ld 1 false (.t 6)), .a 5 (.mv (.t 7))] [6, 7] [])
  (.cond (.t 5) (.seq (.reg [] [.a 2 (.mv (.c (.int .i64 (-1))))] [1, 5] [1])
  .ret) (.seq (.reg [] [.a 9 (.fA 1 (.t 1)), .a 10 (.ld 1 false (.t 9)), .a 11 (.ln (.t 10)), .a 12 (.bin .eql (.t 11) (.c (.int .i64 0))), .a 8 (.mv (.t 12))] [1, 5, 9, 10, 11, 12] [1])
  (.cond (.t 8) (.seq (.reg [] [.a 2 (.mv (.c (.int .i64 0)))] [8] [])
  .ret) .skip)))))
  (.seq (.reg [] [.a 2 (.mv (.c (.int .i64 1)))] [8] [])
  .ret))))⟩
def whole_Sign.hint : R.Hint := { kill := [(0, [0, 2], []), (1, [3, 4], []), (2, [6, 7], []), (3, [1, 5], [1]), (4, [1, 5, 9, 10, 11, 12], [1]), (5, [8], []), (6, [8], [])] }
theorem whole_Sign.ok : cFn Tryz.prog whole_Sign.hint Tryz.f86 = some whole_Sign := by kernel_rfl
def solve_Dot.b0 : R.C := (.seq (.reg [] [.a 18 (.bin .lss (.t 17) (.t 16))] [] [])
  (.seq (.cond (.t 18) .skip (.exit 0))
  (.seq (.block 1 (.seq (.reg [] [.a 19 (.mv (.t 17)), .a 7 (.mv (.t 19))] [18, 19] [])
  (.reg [25769803782] [.a 20 (.ld 3 true (.t 6)), .a 21 (.mv (.t 0)), .a 22 (.mv (.t 7)), .a 23 (.iA 3 (.t 21) (.t 22)), .a 24 (.ld 3 true (.t 23)), .a 25 (.mv (.t 1)), .a 26 (.mv (.t 7)), .a 27 (.iA 3 (.t 25) (.t 26)), .a 28 (.ld 3 true (.t 27)), .a 29 (.call F.ratio_Mul [(.t 24), (.t 28)]), .a 30 (.call F.ratio_Add [(.t 20), (.t 29)]), .n (.st 3 (.t 6) (.t 30))] [7, 20, 21, 22, 23, 24, 25, 26, 27, 28, 29, 30] [])))
  (.reg [] [.a 31 (.bin .add (.t 17) (.c (.int .i64 1))), .a 17 (.mv (.t 31))] [31] []))))
def solve_Dot : R.Fn := ⟨2, [(.cell 4 3 true), (.t 5)], (.seq (.reg [] [.a 4 (.new [(.bool false), (.sl 1 []), (.sl 1 [])]), .a 5 (.mv (.c (.int .i64 0)))] [5] [])
  (.seq (.seq (.reg [] [.a 8 (.mv (.t 0)), .a 9 (.ln (.t 8)), .a 10 (.mv (.t 1)), .a 11 (.ln (.t 10)), .a 12 (.bin .neq (.t 9) (.t 11))] [8, 9, 10, 11] [])
  (.cond (.t 12) (.seq (.reg [] [.a 13 (.bld [(.bool false), (.sl 1 []), (.sl 1 [])] []), .n (.st 3 (.t 4) (.t 13)), .a 5 (.mv (.c (.int .i64 14)))] [0, 1, 12, 13] [])
  .ret) .skip))
  (.seq (.reg [] [.a 14 (.call F.ratio_Zero []), .a 6 (.new [(.bool false), (.sl 1 []), (.sl 1 [])]), .n (.st 3 (.t 6) (.t 14))] [12, 14] [])
  (.seq (.seq (.reg [] [.a 15 (.mv (.t 0)), .a 16 (.ln (.t 15)), .a 17 (.mv (.c (.int .i64 0)))] [15] [])
  (.block 0 (.loop [] [] solve_Dot.b0)))
  (.seq (.reg [] [.a 32 (.ld 3 true (.t 6)), .n (.st 3 (.t 4) (.t 32)), .a 5 (.mv (.c (.int .i64 0)))] [0, 1, 6, 16, 17, 18, 32] [6])
  .ret)))))⟩
def solve_Dot.hint : R.Hint := { pub := [(7, [25769803782])], kill := [(0, [5], []), (1, [8, 9, 10, 11], []), (2, [0, 1, 12, 13], []), (3, [12, 14], []), (4, [15], []), (6, [18, 19], []), (7, [7, 20, 21, 22, 23, 24, 25, 26, 27, 28, 29, 30], []), (8, [31], []), (9, [0, 1, 6, 16, 17, 18, 32], [6])] }
theorem solve_Dot.ok : cFn Tryz.prog solve_Dot.hint Tryz.f87 = some solve_Dot := by kernel_rfl
def solve_wide.b0 : R.C := (.seq (.reg [] [.a 12 (.bin .lss (.t 11) (.t 10))] [] [])
  (.seq (.cond (.t 12) .skip (.exit 0))
  (.seq (.block 1 (.seq (.reg [] [.a 13 (.mv (.t 11)), .a 6 (.mv (.t 13))] [12, 13] [])
  (.reg [] [.a 14 (.mv (.t 5)), .a 15 (.mv (.t 6)), .a 16 (.mv (.t 5)), .a 17 (.mv (.t 6)), .a 18 (.iA 1 (.t 16) (.t 17)), .a 19 (.ldr (.t 18)), .a 20 (.mv (.t 1)), .a 21 (.mv (.t 6)), .a 22 (.mv (.t 6)), .a 23 (.bin .add (.t 22) (.c (.int .i64 1))), .a 24 (.slc 1 (.t 20) (some (.t 21)) (some (.t 23))), .a 25 (.callc F.solve_Copy [(.t 24)]), .a 26 (.iA 1 (.t 25) (.c (.int .i64 0))), .a 27 (.ldr (.t 26)), .a 28 (.apph 3 56 (.t 19) (.t 27)), .a 29 (.iA 1 (.t 14) (.t 15)), .n (.st 1 (.t 29) (.t 28))] [6, 14, 15, 16, 17, 18, 19, 20, 21, 22, 23, 24, 25, 26, 27, 28, 29] [])))
  (.reg [] [.a 30 (.bin .add (.t 11) (.c (.int .i64 1))), .a 11 (.mv (.t 30))] [30] []))))
def solve_wide : R.Fn := ⟨2, [(.own 4)], (.seq (.reg [] [.a 4 (.mv (.c (.sl 1 [])))] [4] [])
  (.seq (.reg [] [.a 7 (.mv (.t 0)), .a 8 (.callh F.solve_Copy [(false, (.t 7))]), .a 5 (.mv (.t 8))] [0, 7, 8] [])
  (.seq (.seq (.reg [] [.a 9 (.mv (.t 5)), .a 10 (.ln (.t 9)), .a 11 (.mv (.c (.int .i64 0)))] [9] [])
  (.block 0 (.loop [] [] solve_wide.b0)))
  (.seq (.reg [] [.a 31 (.mv (.t 5)), .a 4 (.mv (.t 31))] [1, 5, 10, 11, 12, 31] [])
  .ret))))⟩
def solve_wide.hint : R.Hint := { kill := [(0, [4], []), (1, [0, 7, 8], []), (2, [9], []), (4, [12, 13], []), (5, [6, 14, 15, 16, 17, 18, 19, 20, 21, 22, 23, 24, 25, 26, 27, 28, 29], []), (6, [30], []), (7, [1, 5, 10, 11, 12, 31], [])], own := true, heap := true, callh := [(8, [false])], apph := [28] }
theorem solve_wide.ok : cFn Tryz.prog solve_wide.hint Tryz.f88 = some solve_wide := by kernel_rfl
def solve_Unit.b2 : R.C := (.seq (.reg [] [.a 13 (.bin .lss (.t 12) (.t 11))] [] [])
  (.seq (.cond (.t 13) .skip (.exit 2))
  (.seq (.block 3 (.seq (.reg [] [.a 14 (.mv (.t 12)), .a 6 (.mv (.t 14))] [13, 14] [])
  (.seq (.reg [] [.a 15 (.mv (.t 4)), .a 16 (.mv (.t 6)), .a 17 (.bin .eql (.t 15) (.t 16))] [6, 15, 16] [])
  (.cond (.t 17) (.reg [] [.a 18 (.mv (.t 5)), .a 19 (.call F.ratio_One []), .a 20 (.lit 3 1 [(.bool false), (.sl 1 []), (.sl 1 [])] [(0, 3, (.t 19))]), .a 21 (.app 3 56 (.t 18) (.t 20)), .a 5 (.mv (.t 21))] [17, 18, 19, 20, 21] []) (.reg [] [.a 22 (.mv (.t 5)), .a 23 (.call F.ratio_Zero []), .a 24 (.lit 3 1 [(.bool false), (.sl 1 []), (.sl 1 [])] [(0, 3, (.t 23))]), .a 25 (.app 3 56 (.t 22) (.t 24)), .a 5 (.mv (.t 25))] [17, 22, 23, 24, 25] [])))))
  (.reg [] [.a 26 (.bin .add (.t 12) (.c (.int .i64 1))), .a 12 (.mv (.t 26))] [26] []))))
def solve_Unit.b0 : R.C := (.seq (.reg [] [.a 9 (.bin .lss (.t 8) (.t 7))] [] [])
  (.seq (.cond (.t 9) .skip (.exit 0))
  (.seq (.block 1 (.seq (.reg [] [.a 10 (.mv (.t 8)), .a 4 (.mv (.t 10))] [9, 10] [])
  (.seq (.reg [] [.a 5 (.nil 3)] [] [])
  (.seq (.seq (.reg [] [.a 11 (.mv (.t 0)), .a 12 (.mv (.c (.int .i64 0)))] [] [])
  (.block 2 (.loop [] [] solve_Unit.b2)))
  (.reg [5] [.a 27 (.mv (.t 3)), .a 28 (.mv (.t 5)), .a 29 (.lit 1 1 [(.sl 3 [])] [(0, 1, (.t 28))]), .a 30 (.app 1 24 (.t 27) (.t 29)), .a 3 (.mv (.t 30))] [4, 5, 11, 12, 13, 27, 28, 29, 30] [5])))))
  (.reg [] [.a 31 (.bin .add (.t 8) (.c (.int .i64 1))), .a 8 (.mv (.t 31))] [31] []))))
def solve_Unit : R.Fn := ⟨1, [(.t 2)], (.seq (.reg [] [.a 2 (.mv (.c (.sl 1 [])))] [2] [])
  (.seq (.reg [] [.a 3 (.nil 1)] [] [])
  (.seq (.seq (.reg [] [.a 7 (.mv (.t 0)), .a 8 (.mv (.c (.int .i64 0)))] [] [])
  (.block 0 (.loop [] [] solve_Unit.b0)))
  (.seq (.reg [] [.a 32 (.mv (.t 3)), .a 2 (.mv (.t 32))] [0, 3, 7, 8, 9, 32] [])
  .ret))))⟩
def solve_Unit.hint : R.Hint := { nil := [3, 5], pub := [(13, [5])], kill := [(0, [2], []), (4, [9, 10], []), (8, [13, 14], []), (9, [6, 15, 16], []), (10, [17, 18, 19, 20, 21], []), (11, [17, 22, 23, 24, 25], []), (12, [26], []), (13, [4, 5, 11, 12, 13, 27, 28, 29, 30], [5]), (14, [31], []), (15, [0, 3, 7, 8, 9, 32], [])] }
theorem solve_Unit.ok : cFn Tryz.prog solve_Unit.hint Tryz.f89 = some solve_Unit := by kernel_rfl
def dendron_solve_reducer_run.b0 : R.C := (.seq (.reg [] [.a 14 (.bin .lss (.t 13) (.t 12))] [] [])
  (.seq (.cond (.t 14) .skip (.exit 0))
  (.seq (.block 1 (.seq (.reg [] [.a 15 (.mv (.t 13)), .a 2 (.mv (.t 15))] [14, 15] [])
  (.seq (.reg [] [.a 16 (.mv (.t 0)), .a 17 (.nck (.t 16)), .a 18 (.fA 2 (.t 17)), .a 19 (.ldr (.t 18)), .a 20 (.ln (.t 19)), .a 3 (.mv (.t 20))] [16, 17, 18, 19, 20] [])
  (.seq (.reg [] [.a 21 (.mv (.t 0)), .a 22 (.mv (.t 3)), .a 23 (.mv (.t 2)), .a 24 (.callh F.dendron_solve_reducer_pivot [(true, (.t 21)), (false, (.t 22)), (false, (.t 23))]), .a 4 (.mv (.t 24))] [21, 22, 23, 24] [])
  (.seq (.seq (.reg [] [.a 25 (.mv (.t 4)), .a 26 (.bin .lss (.t 25) (.c (.int .i64 0)))] [25] [])
  (.cond (.t 26) (.exit 1) .skip))
  (.seq (.seq (.reg [] [.a 27 (.mv (.t 4)), .a 28 (.mv (.t 3)), .a 29 (.bin .neq (.t 27) (.t 28))] [26, 27, 28] [])
  (.cond (.t 29) (.seq (.reg [] [.a 30 (.mv (.t 0)), .a 31 (.nck (.t 30)), .a 32 (.fA 0 (.t 31)), .a 33 (.ldr (.t 32)), .a 34 (.mv (.t 4)), .a 35 (.mv (.t 0)), .a 36 (.nck (.t 35)), .a 37 (.fA 0 (.t 36)), .a 38 (.ldr (.t 37)), .a 39 (.mv (.t 3)), .a 40 (.mv (.t 0)), .a 41 (.nck (.t 40)), .a 42 (.fA 0 (.t 41)), .a 43 (.ldr (.t 42)), .a 44 (.mv (.t 3)), .a 45 (.iA 1 (.t 43) (.t 44)), .a 46 (.ldr (.t 45)), .a 47 (.mv (.t 0)), .a 48 (.nck (.t 47)), .a 49 (.fA 0 (.t 48)), .a 50 (.ldr (.t 49)), .a 51 (.mv (.t 4)), .a 52 (.iA 1 (.t 50) (.t 51)), .a 53 (.ldr (.t 52)), .a 54 (.iA 1 (.t 33) (.t 34)), .n (.st 1 (.t 54) (.t 46)), .a 55 (.iA 1 (.t 38) (.t 39)), .n (.st 1 (.t 55) (.t 53))] [4, 29, 30, 31, 32, 33, 34, 35, 36, 37, 38, 39, 40, 41, 42, 43, 44, 45, 46, 47, 48, 49, 50, 51, 52, 53, 54, 55] [])
  (.reg [] [.a 56 (.mv (.t 0)), .a 57 (.mv (.t 0)), .a 58 (.nck (.t 57)), .a 59 (.fA 3 (.t 58)), .a 60 (.ld 1 false (.t 59)), .a 61 (.un .not (.t 60)), .a 62 (.nck (.t 56)), .a 63 (.fA 3 (.t 62)), .n (.st 1 (.t 63) (.t 61))] [56, 57, 58, 59, 60, 61, 62, 63] [])) .skip))
  (.seq (.reg [] [.a 64 (.mv (.t 0)), .a 65 (.mv (.t 3)), .a 66 (.mv (.t 2)), .a 67 (.callh F.dendron_solve_reducer_clear [(true, (.t 64)), (false, (.t 65)), (false, (.t 66))])] [3, 4, 29, 64, 65, 66, 67] [])
  (.reg [] [.a 68 (.mv (.t 0)), .a 69 (.mv (.t 0)), .a 70 (.nck (.t 69)), .a 71 (.fA 2 (.t 70)), .a 72 (.ldr (.t 71)), .a 73 (.mv (.t 2)), .a 74 (.lit 1 1 [(.int .i64 0)] [(0, 1, (.t 73))]), .a 75 (.apph 1 8 (.t 72) (.t 74)), .a 76 (.nck (.t 68)), .a 77 (.fA 2 (.t 76)), .n (.st 1 (.t 77) (.t 75))] [2, 68, 69, 70, 71, 72, 73, 74, 75, 76, 77] []))))))))
  (.reg [] [.a 78 (.bin .add (.t 13) (.c (.int .i64 1))), .a 13 (.mv (.t 78))] [2, 3, 4, 26, 78] []))))
def dendron_solve_reducer_run : R.Fn := ⟨1, [], (.seq (.reg [] [.a 5 (.mv (.t 0)), .a 6 (.callc F.ratio_One []), .a 7 (.nck (.t 5)), .a 8 (.fA 4 (.t 7)), .n (.st 3 (.t 8) (.t 6))] [5, 6, 7, 8] [])
  (.seq (.reg [] [.a 9 (.mv (.t 0)), .a 10 (.nck (.t 9)), .a 11 (.fA 1 (.t 10)), .a 12 (.ld 1 false (.t 11)), .a 13 (.mv (.c (.int .i64 0)))] [9, 10, 11] [])
  (.block 0 (.loop [] [] dendron_solve_reducer_run.b0))))⟩
def dendron_solve_reducer_run.hint : R.Hint := { kill := [(0, [5, 6, 7, 8], []), (1, [9, 10, 11], []), (3, [14, 15], []), (4, [16, 17, 18, 19, 20], []), (5, [21, 22, 23, 24], []), (6, [25], []), (7, [26, 27, 28], []), (8, [4, 29, 30, 31, 32, 33, 34, 35, 36, 37, 38, 39, 40, 41, 42, 43, 44, 45, 46, 47, 48, 49, 50, 51, 52, 53, 54, 55], []), (9, [56, 57, 58, 59, 60, 61, 62, 63], []), (10, [3, 4, 29, 64, 65, 66, 67], []), (11, [2, 68, 69, 70, 71, 72, 73, 74, 75, 76, 77], []), (12, [2, 3, 4, 26, 78], [])], heap := true, callh := [(24, [true, false, false]), (67, [true, false, false])], apph := [75] }
theorem dendron_solve_reducer_run.ok : cFn Tryz.prog dendron_solve_reducer_run.hint Tryz.f90 = some dendron_solve_reducer_run := by kernel_rfl
def dendronref03_Is : R.Fn := ⟨2, [(.t 4)], (.seq (.reg [] [.a 2 (.box (.t 0)), .a 3 (.box (.t 1)), .a 4 (.mv (.c (.bool false)))] [0, 1, 4] [])
  (.seq (.reg [] [.a 5 (.ld 3 true (.t 2)), .a 6 (.call F.dendronref03_Right [(.t 5)]), .a 7 (.mv (.t 6)), .g 8 7 true (.ld 3 true (.t 2)), .g 9 7 true (.call F.dendronref03_From [(.t 8)]), .g 10 7 true (.ld 3 true (.t 3)), .g 11 7 true (.call F.dendronref03_Order [(.t 9), (.t 10)]), .g 12 7 true (.bin .eql (.t 11) (.c (.int .i64 0))), .a 13 (.pick (.t 7) (.t 12) (.c (.bool false))), .a 4 (.mv (.t 13))] [2, 3, 5, 6, 7, 8, 9, 10, 11, 12, 13] [2, 3])
  .ret))⟩
def dendronref03_Is.hint : R.Hint := { kill := [(0, [0, 1, 4], []), (1, [2, 3, 5, 6, 7, 8, 9, 10, 11, 12, 13], [2, 3])] }
theorem dendronref03_Is.ok : cFn Tryz.prog dendronref03_Is.hint Tryz.f91 = some dendronref03_Is := by kernel_rfl
def dendronref03_From : R.Fn := ⟨1, [(.cell 2 3 true)], (.seq (.reg [] [.a 1 (.box (.t 0)), .a 2 (.new [(.bool false), (.sl 1 []), (.sl 1 [])])] [0] [])
  (.seq (.reg [] [.a 4 (.fA 2 (.t 1)), .a 5 (.ld 1 false (.t 4)), .a 6 (.call F.dendronref01_From [(.t 5)]), .a 3 (.mv (.t 6))] [4, 5, 6] [])
  (.seq (.seq (.reg [] [.a 7 (.mv (.t 3)), .a 8 (.ln (.t 7)), .a 9 (.bin .eql (.t 8) (.c (.int .i64 0)))] [7, 8] [])
  (.cond (.t 9) (.seq (.reg [] [.a 10 (.call F.dendronref03_Small [(.c (.int .i64 0)), (.c (.int .i64 1))]), .n (.st 3 (.t 2) (.t 10))] [1, 3, 9, 10] [1])
  .ret) .skip))
  (.seq (.reg [] [.a 11 (.fA 0 (.t 1)), .a 12 (.ld 2 true (.t 11)), .a 13 (.call F.dendronref02_From [(.t 12)]), .a 14 (.mv (.t 3)), .a 15 (.bld [(.bool false), (.sl 1 []), (.sl 1 [])] [(0, 2, (.t 13)), (2, 1, (.t 14))]), .n (.st 3 (.t 2) (.t 15))] [1, 3, 9, 11, 12, 13, 14, 15] [1])
  .ret))))⟩
def dendronref03_From.hint : R.Hint := { kill := [(0, [0], []), (1, [4, 5, 6], []), (2, [7, 8], []), (3, [1, 3, 9, 10], [1]), (4, [1, 3, 9, 11, 12, 13, 14, 15], [1])] }
theorem dendronref03_From.ok : cFn Tryz.prog dendronref03_From.hint Tryz.f92 = some dendronref03_From := by kernel_rfl
def bits_Len32 : R.Fn := ⟨1, [(.t 2)], (.seq (.reg [] [.a 2 (.mv (.c (.int .i64 0)))] [] [])
  (.seq (.seq (.reg [] [.a 3 (.mv (.t 0)), .a 4 (.bin .geq (.t 3) (.c (.int .u32 65536)))] [3] [])
  (.cond (.t 4) (.seq (.reg [] [.a 5 (.mv (.t 0)), .a 6 (.bin .shr (.t 5) (.c (.int .u64 16))), .a 0 (.mv (.t 6))] [2, 4, 5, 6] [])
  (.reg [] [.a 2 (.mv (.c (.int .i64 16)))] [] [])) .skip))
  (.seq (.seq (.reg [] [.a 7 (.mv (.t 0)), .a 8 (.bin .geq (.t 7) (.c (.int .u32 256)))] [4, 7] [])
  (.cond (.t 8) (.seq (.reg [] [.a 9 (.mv (.t 0)), .a 10 (.bin .shr (.t 9) (.c (.int .u64 8))), .a 0 (.mv (.t 10))] [8, 9, 10] [])
  (.reg [] [.a 11 (.mv (.t 2)), .a 12 (.bin .add (.t 11) (.c (.int .i64 8))), .a 2 (.mv (.t 12))] [11, 12] [])) .skip))
  (.seq (.reg [] [.a 13 (.mv (.t 2)), .a 14 (.mv (.t 0)), .a 15 (.conv .u8 (.t 14)), .a 16 (.sI (.c (.str ⟨#[0, 1, 2, 2, 3, 3, 3, 3, 4, 4, 4, 4, 4, 4, 4, 4, 5, 5, 5, 5, 5, 5, 5, 5, 5, 5, 5, 5, 5, 5, 5, 5, 6, 6, 6, 6, 6, 6, 6, 6, 6, 6, 6, 6, 6, 6, 6, 6, 6, 6, 6, 6, 6, 6, 6, 6, 6, 6, 6, 6, 6, 6, 6, 6, 7, 7, 7, 7, 7, 7, 7, 7, 7, 7, 7, 7, 7, 7, 7, 7, 7, 7, 7, 7, 7, 7, 7, 7, 7, 7, 7, 7, 7, 7, 7, 7, 7, 7, 7, 7, 7, 7, 7, 7, 7, 7, 7, 7, 7, 7, 7, 7, 7, 7, 7, 7, 7, 7, 7, 7, 7, 7, 7, 7, 7, 7, 7, 7, 8, 8, 8, 8, 8, 8, 8, 8, 8, 8, 8, 8, 8, 8, 8, 8, 8, 8, 8, 8, 8, 8, 8, 8, 8, 8, 8, 8, 8, 8, 8, 8, 8, 8, 8, 8, 8, 8, 8, 8, 8, 8, 8, 8, 8, 8, 8, 8, 8, 8, 8, 8, 8, 8, 8, 8, 8, 8, 8, 8, 8, 8, 8, 8, 8, 8, 8, 8, 8, 8, 8, 8, 8, 8, 8, 8, 8, 8, 8, 8, 8, 8, 8, 8, 8, 8, 8, 8, 8, 8, 8, 8, 8, 8, 8, 8, 8, 8, 8, 8, 8, 8, 8, 8, 8, 8, 8, 8, 8, 8, 8, 8, 8, 8, 8, 8, 8, 8, 8, 8, 8, 8, 8, 8, 8, 8, 8, 8]⟩)) (.t 15)), .a 17 (.conv .i64 (.t 16)), .a 18 (.bin .add (.t 13) (.t 17)), .a 2 (.mv (.t 18))] [0, 8, 13, 14, 15, 16, 17, 18] [])
  .ret))))⟩
def bits_Len32.hint : R.Hint := { kill := [(1, [3], []), (2, [2, 4, 5, 6], []), (4, [4, 7], []), (5, [8, 9, 10], []), (6, [11, 12], []), (7, [0, 8, 13, 14, 15, 16, 17, 18], [])] }
theorem bits_Len32.ok : cFn Tryz.prog bits_Len32.hint Tryz.f93 = some bits_Len32 := by kernel_rfl
def bits_Len64 : R.Fn := ⟨1, [(.t 2)], (.seq (.reg [] [.a 2 (.mv (.c (.int .i64 0)))] [] [])
  (.seq (.seq (.reg [] [.a 3 (.mv (.t 0)), .a 4 (.bin .geq (.t 3) (.c (.int .u64 4294967296)))] [3] [])
  (.cond (.t 4) (.seq (.reg [] [.a 5 (.mv (.t 0)), .a 6 (.bin .shr (.t 5) (.c (.int .u64 32))), .a 0 (.mv (.t 6))] [2, 4, 5, 6] [])
  (.reg [] [.a 2 (.mv (.c (.int .i64 32)))] [] [])) .skip))
  (.seq (.seq (.reg [] [.a 7 (.mv (.t 0)), .a 8 (.bin .geq (.t 7) (.c (.int .u64 65536)))] [4, 7] [])
  (.cond (.t 8) (.seq (.reg [] [.a 9 (.mv (.t 0)), .a 10 (.bin .shr (.t 9) (.c (.int .u64 16))), .a 0 (.mv (.t 10))] [8, 9, 10] [])
  (.reg [] [.a 11 (.mv (.t 2)), .a 12 (.bin .add (.t 11) (.c (.int .i64 16))), .a 2 (.mv (.t 12))] [11, 12] [])) .skip))
  (.seq (.seq (.reg [] [.a 13 (.mv (.t 0)), .a 14 (.bin .geq (.t 13) (.c (.int .u64 256)))] [8, 13] [])
  (.cond (.t 14) (.seq (.reg [] [.a 15 (.mv (.t 0)), .a 16 (.bin .shr (.t 15) (.c (.int .u64 8))), .a 0 (.mv (.t 16))] [14, 15, 16] [])
  (.reg [] [.a 17 (.mv (.t 2)), .a 18 (.bin .add (.t 17) (.c (.int .i64 8))), .a 2 (.mv (.t 18))] [17, 18] [])) .skip))
  (.seq (.reg [] [.a 19 (.mv (.t 2)), .a 20 (.mv (.t 0)), .a 21 (.conv .u8 (.t 20)), .a 22 (.sI (.c (.str ⟨#[0, 1, 2, 2, 3, 3, 3, 3, 4, 4, 4, 4, 4, 4, 4, 4, 5, 5, 5, 5, 5, 5, 5, 5, 5, 5, 5, 5, 5, 5, 5, 5, 6, 6, 6, 6, 6, 6, 6, 6, 6, 6, 6, 6, 6, 6, 6, 6, 6, 6, 6, 6, 6, 6, 6, 6, 6, 6, 6, 6, 6, 6, 6, 6, 7, 7, 7, 7, 7, 7, 7, 7, 7, 7, 7, 7, 7, 7, 7, 7, 7, 7, 7, 7, 7, 7, 7, 7, 7, 7, 7, 7, 7, 7, 7, 7, 7, 7, 7, 7, 7, 7, 7, 7, 7, 7, 7, 7, 7, 7, 7, 7, 7, 7, 7, 7, 7, 7, 7, 7, 7, 7, 7, 7, 7, 7, 7, 7, 8, 8, 8, 8, 8, 8, 8, 8, 8, 8, 8, 8, 8, 8, 8, 8, 8, 8, 8, 8, 8, 8, 8, 8, 8, 8, 8, 8, 8, 8, 8, 8, 8, 8, 8, 8, 8, 8, 8, 8, 8, 8, 8, 8, 8, 8, 8, 8, 8, 8, 8, 8, 8, 8, 8, 8, 8, 8, 8, 8, 8, 8, 8, 8, 8, 8, 8, 8, 8, 8, 8, 8, 8, 8, 8, 8, 8, 8, 8, 8, 8, 8, 8, 8, 8, 8, 8, 8, 8, 8, 8, 8, 8, 8, 8, 8, 8, 8, 8, 8, 8, 8, 8, 8, 8, 8, 8, 8, 8, 8, 8, 8, 8, 8, 8, 8, 8, 8, 8, 8, 8, 8, 8, 8, 8, 8, 8, 8]⟩)) (.t 21)), .a 23 (.conv .i64 (.t 22)), .a 24 (.bin .add (.t 19) (.t 23)), .a 2 (.mv (.t 24))] [0, 14, 19, 20, 21, 22, 23, 24] [])
  .ret)))))⟩
def bits_Len64.hint : R.Hint := { kill := [(1, [3], []), (2, [2, 4, 5, 6], []), (4, [4, 7], []), (5, [8, 9, 10], []), (6, [11, 12], []), (7, [8, 13], []), (8, [14, 15, 16], []), (9, [17, 18], []), (10, [0, 14, 19, 20, 21, 22, 23, 24], [])] }
theorem bits_Len64.ok : cFn Tryz.prog bits_Len64.hint Tryz.f94 = some bits_Len64 := by kernel_rfl
def sync_Once_Do : R.Fn := ⟨2, [], (.seq (.reg [] [.a 4 (.mv (.t 0)), .a 5 (.nck (.t 4)), .a 6 (.fA 0 (.t 5)), .a 7 (.call F.sync_atomic_Bool_Load [(.t 6)]), .a 8 (.un .not (.t 7))] [4, 5, 6, 7] [])
  (.cond (.t 8) (.reg [] [.a 9 (.mv (.t 0)), .a 10 (.mv (.t 1)), .a 11 (.call F.sync_Once_doSlow [(.t 9), (.t 10)])] [0, 1, 8, 9, 10, 11] []) .skip))⟩
def sync_Once_Do.hint : R.Hint := { kill := [(0, [4, 5, 6, 7], []), (1, [0, 1, 8, 9, 10, 11], [])] }
theorem sync_Once_Do.ok : cFn Tryz.prog sync_Once_Do.hint Tryz.f95 = some sync_Once_Do := by kernel_rfl
def weigh_products.b0 : R.C := (.seq (.reg [] [.a 8 (.bin .lss (.t 7) (.c (.int .i64 64)))] [] [])
  (.seq (.cond (.t 8) .skip (.exit 0))
  (.seq (.block 1 (.seq (.reg [] [.a 9 (.mv (.t 7)), .a 3 (.mv (.t 9))] [8, 9] [])
  (.seq (.reg [4294967297] [.a 10 (.ld 2 true (.t 1)), .a 11 (.mv (.t 3)), .a 12 (.bin .add (.t 11) (.c (.int .i64 1))), .a 13 (.call F.whole_Of [(.t 12)]), .a 14 (.call F.whole_Mul [(.t 10), (.t 13)]), .n (.st 2 (.t 1) (.t 14))] [3, 10, 11, 12, 13, 14] [])
  (.reg [] [.a 15 (.mv (.t 2)), .a 16 (.ld 2 true (.t 1)), .a 17 (.lit 2 1 [(.bool false), (.sl 1 [])] [(0, 2, (.t 16))]), .a 18 (.app 2 32 (.t 15) (.t 17)), .a 2 (.mv (.t 18))] [15, 16, 17, 18] []))))
  (.reg [] [.a 19 (.bin .add (.t 7) (.c (.int .i64 1))), .a 7 (.mv (.t 19))] [19] []))))
def weigh_products : R.Fn := ⟨0, [(.t 0)], (.seq (.reg [] [.a 0 (.mv (.c (.sl 2 [])))] [0] [])
  (.seq (.reg [] [.a 4 (.call F.whole_Of [(.c (.int .i64 1))]), .a 1 (.new [(.bool false), (.sl 1 [])]), .n (.st 2 (.t 1) (.t 4))] [4] [])
  (.seq (.reg [] [.a 5 (.ld 2 true (.t 1)), .a 6 (.lito 2 1 [(.bool false), (.sl 1 [])] [(0, 2, (.t 5))]), .a 2 (.mv (.t 6))] [5, 6] [])
  (.seq (.seq (.reg [] [.a 7 (.mv (.c (.int .i64 0)))] [] [])
  (.block 0 (.loop [] [] weigh_products.b0)))
  (.seq (.reg [] [.a 20 (.mv (.t 2)), .a 0 (.mv (.t 20))] [1, 2, 7, 8, 20] [1])
  .ret)))))⟩
def weigh_products.hint : R.Hint := { lit := [6], pub := [(6, [4294967297])], kill := [(0, [0], []), (1, [4], []), (2, [5, 6], []), (5, [8, 9], []), (6, [3, 10, 11, 12, 13, 14], []), (7, [15, 16, 17, 18], []), (8, [19], []), (9, [1, 2, 7, 8, 20], [1])] }
theorem weigh_products.ok : cFn Tryz.prog weigh_products.hint Tryz.f97 = some weigh_products := by kernel_rfl
def nat_small.b0 : R.C := (.seq (.seq (.reg [] [.a 15 (.mv (.t 8)), .a 16 (.bin .geq (.t 15) (.c (.int .i64 0)))] [15] [])
  (.cond (.t 16) .skip (.exit 0)))
  (.seq (.block 1 (.seq (.reg [] [.a 19 (.mv (.t 7)), .a 20 (.bin .shl (.t 19) (.c (.int .u64 32))), .a 21 (.mv (.t 0)), .a 22 (.mv (.t 8)), .a 23 (.iA 1 (.t 21) (.t 22)), .a 24 (.ld 1 false (.t 23)), .a 25 (.bin .or (.t 20) (.t 24)), .a 7 (.mv (.t 25))] [16, 19, 20, 21, 22, 23, 24, 25] [])
  (.seq (.reg [] [.a 26 (.mv (.t 6)), .a 27 (.mv (.t 8)), .a 28 (.mv (.t 7)), .a 29 (.mv (.t 1)), .a 30 (.bin .quo (.t 28) (.t 29)), .a 31 (.iA 1 (.t 26) (.t 27)), .n (.st 1 (.t 31) (.t 30))] [26, 27, 28, 29, 30, 31] [])
  (.reg [] [.a 32 (.mv (.t 7)), .a 33 (.mv (.t 1)), .a 34 (.bin .rem (.t 32) (.t 33)), .a 7 (.mv (.t 34))] [32, 33, 34] []))))
  (.reg [] [.a 17 (.mv (.t 8)), .a 18 (.bin .sub (.t 17) (.c (.int .i64 1))), .a 8 (.mv (.t 18))] [17, 18] [])))
def nat_small : R.Fn := ⟨2, [(.t 4), (.t 5)], (.seq (.reg [] [.a 4 (.mv (.c (.sl 1 []))), .a 5 (.mv (.c (.int .u64 0)))] [4, 5] [])
  (.seq (.reg [] [.a 9 (.mv (.t 0)), .a 10 (.ln (.t 9)), .a 11 (.mk 1 8 [(.int .u64 0)] (.t 10) (.t 10)), .a 6 (.mv (.t 11))] [9, 10, 11] [])
  (.seq (.reg [] [.a 7 (.mv (.c (.int .u64 0)))] [] [])
  (.seq (.seq (.reg [] [.a 12 (.mv (.t 0)), .a 13 (.ln (.t 12)), .a 14 (.bin .sub (.t 13) (.c (.int .i64 1))), .a 8 (.mv (.t 14))] [12, 13, 14] [])
  (.block 0 (.loop [] [] nat_small.b0)))
  (.seq (.reg [6] [.a 35 (.mv (.t 6)), .a 36 (.call F.nat_trim [(.t 35)]), .a 37 (.mv (.t 7)), .a 4 (.mv (.t 36)), .a 5 (.mv (.t 37))] [0, 1, 6, 7, 8, 16, 35, 36, 37] [11])
  .ret)))))⟩
def nat_small.hint : R.Hint := { pub := [(9, [6])], kill := [(0, [4, 5], []), (1, [9, 10, 11], []), (3, [12, 13, 14], []), (4, [15], []), (5, [17, 18], []), (6, [16, 19, 20, 21, 22, 23, 24, 25], []), (7, [26, 27, 28, 29, 30, 31], []), (8, [32, 33, 34], []), (9, [0, 1, 6, 7, 8, 16, 35, 36, 37], [11])] }
theorem nat_small.ok : cFn Tryz.prog nat_small.hint Tryz.f98 = some nat_small := by kernel_rfl
def nat_long.b0 : R.C := (.seq (.seq (.reg [] [.a 42 (.mv (.t 11)), .a 43 (.bin .geq (.t 42) (.c (.int .i64 0)))] [42] [])
  (.cond (.t 43) .skip (.exit 0)))
  (.seq (.block 1 (.reg [7] [.a 46 (.mv (.t 10)), .a 47 (.mv (.t 11)), .a 48 (.mv (.t 8)), .a 49 (.mv (.t 11)), .a 50 (.mv (.t 11)), .a 51 (.mv (.t 9)), .a 52 (.bin .add (.t 50) (.t 51)), .a 53 (.bin .add (.t 52) (.c (.int .i64 1))), .a 54 (.slc 1 (.t 48) (some (.t 49)) (some (.t 53))), .a 55 (.mv (.t 7)), .a 56 (.callk F.nat_digit [(true, (.t 54)), (false, (.t 55))]), .a 57 (.iA 1 (.t 46) (.t 47)), .n (.st 1 (.t 57) (.t 56))] [43, 46, 47, 48, 49, 50, 51, 52, 53, 54, 55, 56, 57] [56]))
  (.reg [] [.a 44 (.mv (.t 11)), .a 45 (.bin .sub (.t 44) (.c (.int .i64 1))), .a 11 (.mv (.t 45))] [44, 45] [])))
def nat_long : R.Fn := ⟨2, [(.t 4), (.t 5)], (.seq (.reg [] [.a 4 (.mv (.c (.sl 1 []))), .a 5 (.mv (.c (.sl 1 [])))] [4, 5] [])
  (.seq (.reg [] [.a 12 (.mv (.t 1)), .a 13 (.mv (.t 1)), .a 14 (.ln (.t 13)), .a 15 (.bin .sub (.t 14) (.c (.int .i64 1))), .a 16 (.iA 1 (.t 12) (.t 15)), .a 17 (.ld 1 false (.t 16)), .a 18 (.conv .u32 (.t 17)), .a 19 (.call F.bits_LeadingZeros32 [(.t 18)]), .a 6 (.mv (.t 19))] [12, 13, 14, 15, 16, 17, 18, 19] [])
  (.seq (.reg [] [.a 20 (.mv (.t 1)), .a 21 (.mv (.t 6)), .a 22 (.callk F.nat_shl [(false, (.t 20)), (false, (.t 21))]), .a 7 (.mv (.t 22))] [1, 20, 21, 22] [])
  (.seq (.reg [] [.a 23 (.mv (.t 0)), .a 24 (.mv (.t 6)), .a 25 (.callk F.nat_shl [(false, (.t 23)), (false, (.t 24))]), .a 26 (.lit 1 2 [(.int .u64 0), (.int .u64 0)] [(0, 1, (.c (.int .u64 0))), (1, 1, (.c (.int .u64 0)))]), .a 27 (.app 1 8 (.t 25) (.t 26)), .a 28 (.mv (.t 0)), .a 29 (.ln (.t 28)), .a 30 (.bin .add (.t 29) (.c (.int .i64 1))), .a 31 (.slc 1 (.t 27) none (some (.t 30))), .a 8 (.mv (.t 31))] [0, 23, 24, 25, 26, 27, 28, 29, 30, 31] [])
  (.seq (.reg [] [.a 32 (.mv (.t 7)), .a 33 (.ln (.t 32)), .a 9 (.mv (.t 33))] [32, 33] [])
  (.seq (.reg [] [.a 34 (.mv (.t 8)), .a 35 (.ln (.t 34)), .a 36 (.mv (.t 9)), .a 37 (.bin .sub (.t 35) (.t 36)), .a 38 (.mk 1 8 [(.int .u64 0)] (.t 37) (.t 37)), .a 10 (.mv (.t 38))] [34, 35, 36, 37, 38] [])
  (.seq (.seq (.reg [] [.a 39 (.mv (.t 10)), .a 40 (.ln (.t 39)), .a 41 (.bin .sub (.t 40) (.c (.int .i64 1))), .a 11 (.mv (.t 41))] [39, 40, 41] [])
  (.block 0 (.loop [] [] nat_long.b0)))
  (.seq (.reg [10, 8] [.a 58 (.mv (.t 10)), .a 59 (.call F.nat_trim [(.t 58)]), .a 60 (.mv (.t 8)), .a 61 (.call F.nat_trim [(.t 60)]), .a 62 (.mv (.t 6)), .a 63 (.call F.nat_shr [(.t 61), (.t 62)]), .a 4 (.mv (.t 59)), .a 5 (.mv (.t 63))] [6, 7, 8, 9, 10, 11, 43, 58, 59, 60, 61, 62, 63] [22, 25, 38])
  .ret))))))))⟩
def nat_long.hint : R.Hint := { callk := [(22, [false, false]), (25, [false, false]), (56, [true, false])], pub := [(9, [7]), (10, [10, 8])], kill := [(0, [4, 5], []), (1, [12, 13, 14, 15, 16, 17, 18, 19], []), (2, [1, 20, 21, 22], []), (3, [0, 23, 24, 25, 26, 27, 28, 29, 30, 31], []), (4, [32, 33], []), (5, [34, 35, 36, 37, 38], []), (6, [39, 40, 41], []), (7, [42], []), (8, [44, 45], []), (9, [43, 46, 47, 48, 49, 50, 51, 52, 53, 54, 55, 56, 57], [56]), (10, [6, 7, 8, 9, 10, 11, 43, 58, 59, 60, 61, 62, 63], [22, 25, 38])] }
theorem nat_long.ok : cFn Tryz.prog nat_long.hint Tryz.f99 = some nat_long := by kernel_rfl
def nat_limb : R.Fn := ⟨2, [(.t 4)], (.seq (.reg [] [.a 4 (.mv (.c (.int .u64 0)))] [4] [])
  (.seq (.seq (.reg [] [.a 5 (.mv (.t 1)), .a 6 (.mv (.t 0)), .a 7 (.ln (.t 6)), .a 8 (.bin .lss (.t 5) (.t 7))] [5, 6, 7] [])
  (.cond (.t 8) (.seq (.reg [] [.a 9 (.mv (.t 0)), .a 10 (.mv (.t 1)), .a 11 (.iA 1 (.t 9) (.t 10)), .a 12 (.ld 1 false (.t 11)), .a 4 (.mv (.t 12))] [0, 1, 8, 9, 10, 11, 12] [])
  .ret) .skip))
  (.seq (.reg [] [.a 4 (.mv (.c (.int .u64 0)))] [0, 1, 8] [])
  .ret)))⟩
def nat_limb.hint : R.Hint := { kill := [(0, [4], []), (1, [5, 6, 7], []), (2, [0, 1, 8, 9, 10, 11, 12], []), (3, [0, 1, 8], [])] }
theorem nat_limb.ok : cFn Tryz.prog nat_limb.hint Tryz.f100 = some nat_limb := by kernel_rfl
def nat_To : R.Fn := ⟨1, [(.t 2), (.t 3)], (.seq (.reg [] [.a 2 (.mv (.c (.int .u64 0))), .a 3 (.mv (.c (.bool false)))] [2, 3] [])
  (.seq (.reg [] [.a 4 (.mv (.t 0)), .a 5 (.call F.nat_Clean [(.t 4)]), .a 0 (.mv (.t 5))] [4, 5] [])
  (.seq (.seq (.reg [] [.a 6 (.mv (.t 0)), .a 7 (.ln (.t 6))] [6] [])
  (.block 0 (.seq (.reg [] [.a 9 (.bin .eql (.t 7) (.c (.int .i64 0))), .a 8 (.mv (.t 9))] [9] [])
  (.cond (.t 8) (.seq (.reg [] [.a 2 (.mv (.c (.int .u64 0))), .a 3 (.mv (.c (.bool true)))] [0, 7, 8] [])
  .ret) (.seq (.reg [] [.a 11 (.bin .eql (.t 7) (.c (.int .i64 1))), .a 10 (.mv (.t 11))] [8, 11] [])
  (.cond (.t 10) (.seq (.reg [] [.a 12 (.mv (.t 0)), .a 13 (.iA 1 (.t 12) (.c (.int .i64 0))), .a 14 (.ld 1 false (.t 13)), .a 2 (.mv (.t 14)), .a 3 (.mv (.c (.bool true)))] [0, 7, 10, 12, 13, 14] [])
  .ret) (.seq (.reg [] [.a 16 (.bin .eql (.t 7) (.c (.int .i64 2))), .a 15 (.mv (.t 16))] [7, 10, 16] [])
  (.cond (.t 15) (.seq (.reg [] [.a 17 (.mv (.t 0)), .a 18 (.iA 1 (.t 17) (.c (.int .i64 1))), .a 19 (.ld 1 false (.t 18)), .a 20 (.bin .shl (.t 19) (.c (.int .u64 32))), .a 21 (.mv (.t 0)), .a 22 (.iA 1 (.t 21) (.c (.int .i64 0))), .a 23 (.ld 1 false (.t 22)), .a 24 (.bin .or (.t 20) (.t 23)), .a 2 (.mv (.t 24)), .a 3 (.mv (.c (.bool true)))] [0, 15, 17, 18, 19, 20, 21, 22, 23, 24] [])
  .ret) .skip))))))))
  (.seq (.reg [] [.a 2 (.mv (.c (.int .u64 0))), .a 3 (.mv (.c (.bool false)))] [0, 15] [])
  .ret))))⟩
def nat_To.hint : R.Hint := { kill := [(0, [2, 3], []), (1, [4, 5], []), (2, [6], []), (3, [9], []), (4, [0, 7, 8], []), (5, [8, 11], []), (6, [0, 7, 10, 12, 13, 14], []), (7, [7, 10, 16], []), (8, [0, 15, 17, 18, 19, 20, 21, 22, 23, 24], []), (9, [0, 15], [])] }
theorem nat_To.ok : cFn Tryz.prog nat_To.hint Tryz.f101 = some nat_To := by kernel_rfl
def solve_Copy.b2 : R.C := (.seq (.reg [] [.a 18 (.bin .lss (.t 17) (.t 16))] [] [])
  (.seq (.cond (.t 18) .skip (.exit 2))
  (.seq (.block 3 (.seq (.reg [] [.a 19 (.iA 3 (.t 15) (.t 17)), .a 20 (.ld 3 true (.t 19)), .a 8 (.new [(.bool false), (.sl 1 []), (.sl 1 [])]), .n (.st 3 (.t 8) (.t 20))] [18, 19, 20] [])
  (.reg [] [.a 21 (.mv (.t 6)), .a 22 (.ld 3 true (.t 8)), .a 23 (.callc F.ratio_Clean [(.t 22)]), .a 24 (.lit 3 1 [(.bool false), (.sl 1 []), (.sl 1 [])] [(0, 3, (.t 23))]), .a 25 (.app 3 56 (.t 21) (.t 24)), .a 6 (.mv (.t 25))] [8, 21, 22, 23, 24, 25] [8])))
  (.reg [] [.a 26 (.bin .add (.t 17) (.c (.int .i64 1))), .a 17 (.mv (.t 26))] [26] []))))
def solve_Copy.b0 : R.C := (.seq (.reg [] [.a 12 (.bin .lss (.t 11) (.t 10))] [] [])
  (.seq (.cond (.t 12) .skip (.exit 0))
  (.seq (.block 1 (.seq (.reg [] [.a 13 (.iA 1 (.t 9) (.t 11)), .a 14 (.ldr (.t 13)), .a 5 (.mv (.t 14))] [12, 13, 14] [])
  (.seq (.reg [] [.a 6 (.nil 3)] [] [])
  (.seq (.seq (.reg [] [.a 15 (.mv (.t 5)), .a 16 (.ln (.t 15)), .a 17 (.mv (.c (.int .i64 0)))] [5] [])
  (.block 2 (.loop [] [] solve_Copy.b2)))
  (.up [6] (.reg [6] [.a 27 (.mv (.t 3)), .a 28 (.mv (.t 6)), .a 29 (.lit 1 1 [(.sl 3 [])] [(0, 1, (.t 28))]), .a 30 (.app 1 24 (.t 27) (.t 29)), .a 3 (.mv (.t 30))] [6, 15, 16, 17, 18, 27, 28, 29, 30] [6]))))))
  (.reg [] [.a 31 (.bin .add (.t 11) (.c (.int .i64 1))), .a 11 (.mv (.t 31))] [31] []))))
def solve_Copy : R.Fn := ⟨1, [(.own 2)], (.seq (.reg [] [.a 2 (.mv (.c (.sl 1 [])))] [2] [])
  (.seq (.reg [] [.a 3 (.nil 1)] [] [])
  (.seq (.seq (.reg [] [.a 9 (.mv (.t 0)), .a 10 (.ln (.t 9)), .a 11 (.mv (.c (.int .i64 0)))] [0] [])
  (.block 0 (.loop [] [] solve_Copy.b0)))
  (.seq (.up [3] (.reg [] [.a 32 (.mv (.t 3)), .a 2 (.mv (.t 32))] [3, 9, 10, 11, 12, 32] []))
  .ret))))⟩
def solve_Copy.hint : R.Hint := { nil := [3, 6], pub := [(11, [6])], kill := [(0, [2], []), (2, [0], []), (4, [12, 13, 14], []), (6, [5], []), (8, [18, 19, 20], []), (9, [8, 21, 22, 23, 24, 25], [8]), (10, [26], []), (11, [6, 15, 16, 17, 18, 27, 28, 29, 30], [6]), (12, [31], []), (13, [3, 9, 10, 11, 12, 32], [])], own := true, heap := true, up := [(11, [6]), (13, [3])] }
theorem solve_Copy.ok : cFn Tryz.prog solve_Copy.hint Tryz.f103 = some solve_Copy := by kernel_rfl
def dendron_solve_reducer_pivot.b0 : R.C := (.seq (.seq (.reg [] [.a 9 (.mv (.t 7)), .a 10 (.mv (.t 0)), .a 11 (.nck (.t 10)), .a 12 (.fA 0 (.t 11)), .a 13 (.ldr (.t 12)), .a 14 (.ln (.t 13)), .a 15 (.bin .lss (.t 9) (.t 14))] [9, 10, 11, 12, 13, 14] [])
  (.cond (.t 15) .skip (.exit 0)))
  (.seq (.block 1 (.seq (.reg [] [.a 18 (.mv (.t 0)), .a 19 (.nck (.t 18)), .a 20 (.fA 0 (.t 19)), .a 21 (.ldr (.t 20)), .a 22 (.mv (.t 7)), .a 23 (.iA 1 (.t 21) (.t 22)), .a 24 (.ldr (.t 23)), .a 25 (.mv (.t 2)), .a 26 (.iA 3 (.t 24) (.t 25)), .a 27 (.ld 3 true (.t 26)), .a 28 (.callc F.ratio_Sign [(.t 27)]), .a 29 (.bin .neq (.t 28) (.c (.int .i64 0)))] [15, 18, 19, 20, 21, 22, 23, 24, 25, 26, 27, 28] [])
  (.cond (.t 29) (.seq (.reg [] [.a 30 (.mv (.t 7)), .a 6 (.mv (.t 30))] [0, 2, 7, 29, 30] [])
  .ret) .skip)))
  (.reg [] [.a 16 (.mv (.t 7)), .a 17 (.bin .add (.t 16) (.c (.int .i64 1))), .a 7 (.mv (.t 17))] [16, 17, 29] [])))
def dendron_solve_reducer_pivot : R.Fn := ⟨3, [(.t 6)], (.seq (.reg [] [.a 6 (.mv (.c (.int .i64 0)))] [6] [])
  (.seq (.seq (.reg [] [.a 8 (.mv (.t 1)), .a 7 (.mv (.t 8))] [1, 8] [])
  (.block 0 (.loop [] [] dendron_solve_reducer_pivot.b0)))
  (.seq (.reg [] [.a 6 (.mv (.c (.int .i64 (-1))))] [0, 2, 7, 15] [])
  .ret)))⟩
def dendron_solve_reducer_pivot.hint : R.Hint := { kill := [(0, [6], []), (1, [1, 8], []), (2, [9, 10, 11, 12, 13, 14], []), (3, [16, 17, 29], []), (4, [15, 18, 19, 20, 21, 22, 23, 24, 25, 26, 27, 28], []), (5, [0, 2, 7, 29, 30], []), (6, [0, 2, 7, 15], [])], heap := true }
theorem dendron_solve_reducer_pivot.ok : cFn Tryz.prog dendron_solve_reducer_pivot.hint Tryz.f104 = some dendron_solve_reducer_pivot := by kernel_rfl
def dendron_solve_reducer_clear.b0 : R.C := (.seq (.reg [] [.a 53 (.bin .lss (.t 52) (.t 51))] [] [])
  (.seq (.cond (.t 53) .skip (.exit 0))
  (.seq (.block 1 (.seq (.reg [] [.a 54 (.mv (.t 52)), .a 8 (.mv (.t 54))] [53, 54] [])
  (.reg [] [.a 55 (.mv (.t 0)), .a 56 (.nck (.t 55)), .a 57 (.fA 0 (.t 56)), .a 58 (.ldr (.t 57)), .a 59 (.mv (.t 1)), .a 60 (.iA 1 (.t 58) (.t 59)), .a 61 (.ldr (.t 60)), .a 62 (.mv (.t 8)), .a 63 (.mv (.t 0)), .a 64 (.nck (.t 63)), .a 65 (.fA 0 (.t 64)), .a 66 (.ldr (.t 65)), .a 67 (.mv (.t 1)), .a 68 (.iA 1 (.t 66) (.t 67)), .a 69 (.ldr (.t 68)), .a 70 (.mv (.t 8)), .a 71 (.iA 3 (.t 69) (.t 70)), .a 72 (.ld 3 true (.t 71)), .a 73 (.ld 3 true (.t 6)), .a 74 (.callc F.ratio_Mul [(.t 72), (.t 73)]), .a 75 (.iA 3 (.t 61) (.t 62)), .n (.st 3 (.t 75) (.t 74))] [8, 55, 56, 57, 58, 59, 60, 61, 62, 63, 64, 65, 66, 67, 68, 69, 70, 71, 72, 73, 74, 75] [])))
  (.reg [] [.a 76 (.bin .add (.t 52) (.c (.int .i64 1))), .a 52 (.mv (.t 76))] [76] []))))
def dendron_solve_reducer_clear.b4 : R.C := (.seq (.reg [] [.a 121 (.bin .lss (.t 120) (.t 119))] [] [])
  (.seq (.cond (.t 121) .skip (.exit 4))
  (.seq (.block 5 (.seq (.reg [] [.a 122 (.mv (.t 120)), .a 11 (.mv (.t 122))] [121, 122] [])
  (.reg [] [.a 123 (.mv (.t 0)), .a 124 (.nck (.t 123)), .a 125 (.fA 0 (.t 124)), .a 126 (.ldr (.t 125)), .a 127 (.mv (.t 9)), .a 128 (.iA 1 (.t 126) (.t 127)), .a 129 (.ldr (.t 128)), .a 130 (.mv (.t 11)), .a 131 (.mv (.t 0)), .a 132 (.nck (.t 131)), .a 133 (.fA 0 (.t 132)), .a 134 (.ldr (.t 133)), .a 135 (.mv (.t 9)), .a 136 (.iA 1 (.t 134) (.t 135)), .a 137 (.ldr (.t 136)), .a 138 (.mv (.t 11)), .a 139 (.iA 3 (.t 137) (.t 138)), .a 140 (.ld 3 true (.t 139)), .a 141 (.ld 3 true (.t 10)), .a 142 (.mv (.t 0)), .a 143 (.nck (.t 142)), .a 144 (.fA 0 (.t 143)), .a 145 (.ldr (.t 144)), .a 146 (.mv (.t 1)), .a 147 (.iA 1 (.t 145) (.t 146)), .a 148 (.ldr (.t 147)), .a 149 (.mv (.t 11)), .a 150 (.iA 3 (.t 148) (.t 149)), .a 151 (.ld 3 true (.t 150)), .a 152 (.callc F.ratio_Mul [(.t 141), (.t 151)]), .a 153 (.callc F.ratio_Sub [(.t 140), (.t 152)]), .a 154 (.iA 3 (.t 129) (.t 130)), .n (.st 3 (.t 154) (.t 153))] [11, 123, 124, 125, 126, 127, 128, 129, 130, 131, 132, 133, 134, 135, 136, 137, 138, 139, 140, 141, 142, 143, 144, 145, 146, 147, 148, 149, 150, 151, 152, 153, 154] [])))
  (.reg [] [.a 155 (.bin .add (.t 120) (.c (.int .i64 1))), .a 120 (.mv (.t 155))] [155] []))))
def dendron_solve_reducer_clear.b2 : R.C := (.seq (.reg [] [.a 83 (.bin .lss (.t 82) (.t 81))] [] [])
  (.seq (.cond (.t 83) .skip (.exit 2))
  (.seq (.block 3 (.seq (.reg [] [.a 84 (.mv (.t 82)), .a 9 (.mv (.t 84))] [83, 84] [])
  (.seq (.seq (.reg [] [.a 85 (.mv (.t 9)), .a 86 (.mv (.t 1)), .a 87 (.bin .eql (.t 85) (.t 86)), .a 88 (.mv (.t 87)), .g 89 88 false (.mv (.t 0)), .g 90 88 false (.nck (.t 89)), .g 91 88 false (.fA 0 (.t 90)), .g 92 88 false (.ldr (.t 91)), .g 93 88 false (.mv (.t 9)), .g 94 88 false (.iA 1 (.t 92) (.t 93)), .g 95 88 false (.ldr (.t 94)), .g 96 88 false (.mv (.t 2)), .g 97 88 false (.iA 3 (.t 95) (.t 96)), .g 98 88 false (.ld 3 true (.t 97)), .g 99 88 false (.callc F.ratio_Sign [(.t 98)]), .g 100 88 false (.bin .eql (.t 99) (.c (.int .i64 0))), .a 101 (.pick (.t 88) (.c (.bool true)) (.t 100))] [85, 86, 87, 88, 89, 90, 91, 92, 93, 94, 95, 96, 97, 98, 99, 100] [])
  (.cond (.t 101) (.exit 3) .skip))
  (.seq (.reg [] [.a 102 (.mv (.t 0)), .a 103 (.nck (.t 102)), .a 104 (.fA 0 (.t 103)), .a 105 (.ldr (.t 104)), .a 106 (.mv (.t 9)), .a 107 (.iA 1 (.t 105) (.t 106)), .a 108 (.ldr (.t 107)), .a 109 (.mv (.t 2)), .a 110 (.iA 3 (.t 108) (.t 109)), .a 111 (.ld 3 true (.t 110)), .a 10 (.new [(.bool false), (.sl 1 []), (.sl 1 [])]), .n (.st 3 (.t 10) (.t 111))] [101, 102, 103, 104, 105, 106, 107, 108, 109, 110, 111] [])
  (.seq (.reg [] [.a 112 (.mv (.t 0)), .a 113 (.nck (.t 112)), .a 114 (.fA 0 (.t 113)), .a 115 (.ldr (.t 114)), .a 116 (.mv (.t 9)), .a 117 (.iA 1 (.t 115) (.t 116)), .a 118 (.ldr (.t 117)), .a 119 (.ln (.t 118)), .a 120 (.mv (.c (.int .i64 0)))] [112, 113, 114, 115, 116, 117, 118] [])
  (.block 4 (.loop [] [] dendron_solve_reducer_clear.b4)))))))
  (.reg [] [.a 156 (.bin .add (.t 82) (.c (.int .i64 1))), .a 82 (.mv (.t 156))] [9, 10, 101, 119, 120, 121, 156] [10]))))
def dendron_solve_reducer_clear : R.Fn := ⟨3, [], (.seq (.reg [] [.a 13 (.mv (.t 0)), .a 14 (.nck (.t 13)), .a 15 (.fA 0 (.t 14)), .a 16 (.ldr (.t 15)), .a 17 (.mv (.t 1)), .a 18 (.iA 1 (.t 16) (.t 17)), .a 19 (.ldr (.t 18)), .a 20 (.mv (.t 2)), .a 21 (.iA 3 (.t 19) (.t 20)), .a 22 (.ld 3 true (.t 21)), .a 23 (.callc F.ratio_Inv [(.t 22)]), .a 12 (.mv (.t 23)), .a 24 (.ext (.t 12) 0), .a 25 (.ext (.t 12) 1), .a 6 (.new [(.bool false), (.sl 1 []), (.sl 1 [])]), .n (.st 3 (.t 6) (.t 24)), .a 7 (.mv (.t 25))] [7, 12, 13, 14, 15, 16, 17, 18, 19, 20, 21, 22, 23, 24, 25] [])
  (.seq (.reg [] [.a 26 (.mv (.t 0)), .a 27 (.mv (.t 0)), .a 28 (.nck (.t 27)), .a 29 (.fA 4 (.t 28)), .a 30 (.ld 3 true (.t 29)), .a 31 (.mv (.t 0)), .a 32 (.nck (.t 31)), .a 33 (.fA 0 (.t 32)), .a 34 (.ldr (.t 33)), .a 35 (.mv (.t 1)), .a 36 (.iA 1 (.t 34) (.t 35)), .a 37 (.ldr (.t 36)), .a 38 (.mv (.t 2)), .a 39 (.iA 3 (.t 37) (.t 38)), .a 40 (.ld 3 true (.t 39)), .a 41 (.callc F.ratio_Mul [(.t 30), (.t 40)]), .a 42 (.nck (.t 26)), .a 43 (.fA 4 (.t 42)), .n (.st 3 (.t 43) (.t 41))] [26, 27, 28, 29, 30, 31, 32, 33, 34, 35, 36, 37, 38, 39, 40, 41, 42, 43] [])
  (.seq (.seq (.reg [] [.a 44 (.mv (.t 0)), .a 45 (.nck (.t 44)), .a 46 (.fA 0 (.t 45)), .a 47 (.ldr (.t 46)), .a 48 (.mv (.t 1)), .a 49 (.iA 1 (.t 47) (.t 48)), .a 50 (.ldr (.t 49)), .a 51 (.ln (.t 50)), .a 52 (.mv (.c (.int .i64 0)))] [44, 45, 46, 47, 48, 49, 50] [])
  (.block 0 (.loop [] [] dendron_solve_reducer_clear.b0)))
  (.seq (.reg [] [.a 77 (.mv (.t 0)), .a 78 (.nck (.t 77)), .a 79 (.fA 0 (.t 78)), .a 80 (.ldr (.t 79)), .a 81 (.ln (.t 80)), .a 82 (.mv (.c (.int .i64 0)))] [6, 51, 52, 53, 77, 78, 79, 80] [6])
  (.block 2 (.loop [] [] dendron_solve_reducer_clear.b2))))))⟩
def dendron_solve_reducer_clear.hint : R.Hint := { kill := [(0, [7, 12, 13, 14, 15, 16, 17, 18, 19, 20, 21, 22, 23, 24, 25], []), (1, [26, 27, 28, 29, 30, 31, 32, 33, 34, 35, 36, 37, 38, 39, 40, 41, 42, 43], []), (2, [44, 45, 46, 47, 48, 49, 50], []), (4, [53, 54], []), (5, [8, 55, 56, 57, 58, 59, 60, 61, 62, 63, 64, 65, 66, 67, 68, 69, 70, 71, 72, 73, 74, 75], []), (6, [76], []), (7, [6, 51, 52, 53, 77, 78, 79, 80], [6]), (9, [83, 84], []), (10, [85, 86, 87, 88, 89, 90, 91, 92, 93, 94, 95, 96, 97, 98, 99, 100], []), (11, [101, 102, 103, 104, 105, 106, 107, 108, 109, 110, 111], []), (12, [112, 113, 114, 115, 116, 117, 118], []), (14, [121, 122], []), (15, [11, 123, 124, 125, 126, 127, 128, 129, 130, 131, 132, 133, 134, 135, 136, 137, 138, 139, 140, 141, 142, 143, 144, 145, 146, 147, 148, 149, 150, 151, 152, 153, 154], []), (16, [155], []), (17, [9, 10, 101, 119, 120, 121, 156], [10])], heap := true }
theorem dendron_solve_reducer_clear.ok : cFn Tryz.prog dendron_solve_reducer_clear.hint Tryz.f105 = some dendron_solve_reducer_clear := by kernel_rfl
def dendronref03_Right : R.Fn := ⟨1, [(.t 2)], (.seq (.reg [] [.a 1 (.box (.t 0)), .a 2 (.mv (.c (.bool false)))] [0, 2] [])
  (.seq (.seq (.reg [] [.a 4 (.fA 0 (.t 1)), .a 5 (.fA 1 (.t 4)), .a 6 (.ld 1 false (.t 5)), .a 7 (.call F.dendronref01_Right [(.t 6)]), .a 8 (.un .not (.t 7)), .a 9 (.mv (.t 8)), .g 10 9 false (.fA 2 (.t 1)), .g 11 9 false (.ld 1 false (.t 10)), .g 12 9 false (.call F.dendronref01_Right [(.t 11)]), .g 13 9 false (.un .not (.t 12)), .a 14 (.pick (.t 9) (.c (.bool true)) (.t 13)), .a 15 (.mv (.t 14)), .g 16 15 false (.fA 2 (.t 1)), .g 17 15 false (.ld 1 false (.t 16)), .g 18 15 false (.ln (.t 17)), .g 19 15 false (.bin .eql (.t 18) (.c (.int .i64 0))), .a 20 (.pick (.t 15) (.c (.bool true)) (.t 19)), .a 21 (.mv (.t 20)), .g 22 21 false (.fA 0 (.t 1)), .g 23 21 false (.fA 1 (.t 22)), .g 24 21 false (.ld 1 false (.t 23)), .g 25 21 false (.ln (.t 24)), .g 26 21 false (.bin .eql (.t 25) (.c (.int .i64 0))), .g 27 21 false (.mv (.t 26)), .g 28 27 true (.fA 0 (.t 1)), .g 29 27 true (.fA 0 (.t 28)), .g 30 27 true (.ld 1 false (.t 29)), .g 31 21 false (.pick (.t 27) (.t 30) (.c (.bool false))), .a 32 (.pick (.t 21) (.c (.bool true)) (.t 31))] [4, 5, 6, 7, 8, 9, 10, 11, 12, 13, 14, 15, 16, 17, 18, 19, 20, 21, 22, 23, 24, 25, 26, 27, 28, 29, 30, 31] [])
  (.cond (.t 32) (.seq (.reg [] [.a 2 (.mv (.c (.bool false)))] [1, 32] [1])
  .ret) .skip))
  (.seq (.reg [] [.a 33 (.fA 0 (.t 1)), .a 34 (.fA 1 (.t 33)), .a 35 (.ld 1 false (.t 34)), .a 36 (.call F.dendronref01_From [(.t 35)]), .a 37 (.fA 2 (.t 1)), .a 38 (.ld 1 false (.t 37)), .a 39 (.call F.dendronref01_From [(.t 38)]), .a 40 (.call F.dendronref01_Gcd [(.t 36), (.t 39)]), .a 3 (.mv (.t 40))] [1, 32, 33, 34, 35, 36, 37, 38, 39, 40] [1])
  (.seq (.reg [] [.a 41 (.mv (.t 3)), .a 42 (.call F.dendronref01_Small [(.c (.int .i64 1))]), .a 43 (.call F.dendronref01_Order [(.t 41), (.t 42)]), .a 44 (.bin .eql (.t 43) (.c (.int .i64 0))), .a 2 (.mv (.t 44))] [3, 41, 42, 43, 44] [])
  .ret))))⟩
def dendronref03_Right.hint : R.Hint := { kill := [(0, [0, 2], []), (1, [4, 5, 6, 7, 8, 9, 10, 11, 12, 13, 14, 15, 16, 17, 18, 19, 20, 21, 22, 23, 24, 25, 26, 27, 28, 29, 30, 31], []), (2, [1, 32], [1]), (3, [1, 32, 33, 34, 35, 36, 37, 38, 39, 40], [1]), (4, [3, 41, 42, 43, 44], [])] }
theorem dendronref03_Right.ok : cFn Tryz.prog dendronref03_Right.hint Tryz.f106 = some dendronref03_Right := by kernel_rfl
def dendronref03_Order : R.Fn := ⟨2, [(.t 4)], (.seq (.reg [] [.a 2 (.box (.t 0)), .a 3 (.box (.t 1)), .a 4 (.mv (.c (.int .i64 0)))] [0, 1, 4] [])
  (.seq (.reg [] [.a 5 (.fA 0 (.t 2)), .a 6 (.ld 2 true (.t 5)), .a 7 (.ld 3 true (.t 3)), .a 8 (.call F.dendronref03_den [(.t 7)]), .a 9 (.call F.dendronref02_Times [(.t 6), (.t 8)]), .a 10 (.fA 0 (.t 3)), .a 11 (.ld 2 true (.t 10)), .a 12 (.ld 3 true (.t 2)), .a 13 (.call F.dendronref03_den [(.t 12)]), .a 14 (.call F.dendronref02_Times [(.t 11), (.t 13)]), .a 15 (.call F.dendronref02_Order [(.t 9), (.t 14)]), .a 4 (.mv (.t 15))] [2, 3, 5, 6, 7, 8, 9, 10, 11, 12, 13, 14, 15] [2, 3])
  .ret))⟩
def dendronref03_Order.hint : R.Hint := { kill := [(0, [0, 1, 4], []), (1, [2, 3, 5, 6, 7, 8, 9, 10, 11, 12, 13, 14, 15], [2, 3])] }
theorem dendronref03_Order.ok : cFn Tryz.prog dendronref03_Order.hint Tryz.f107 = some dendronref03_Order := by kernel_rfl
def dendronref01_From.b0 : R.C := (.seq (.seq (.reg [] [.a 10 (.mv (.t 5)), .a 11 (.bin .geq (.t 10) (.c (.int .i64 0)))] [10] [])
  (.cond (.t 11) .skip (.exit 0)))
  (.seq (.block 1 (.reg [] [.a 14 (.mv (.t 3)), .a 15 (.mv (.t 4)), .a 16 (.call F.dendronref01_Times [(.t 14), (.t 15)]), .a 17 (.mv (.t 0)), .a 18 (.mv (.t 5)), .a 19 (.iA 1 (.t 17) (.t 18)), .a 20 (.ld 1 false (.t 19)), .a 21 (.bin .and (.t 20) (.c (.int .u64 4294967295))), .a 22 (.conv .i64 (.t 21)), .a 23 (.call F.dendronref01_Small [(.t 22)]), .a 24 (.call F.dendronref01_Plus [(.t 16), (.t 23)]), .a 3 (.mv (.t 24))] [11, 14, 15, 16, 17, 18, 19, 20, 21, 22, 23, 24] []))
  (.reg [] [.a 12 (.mv (.t 5)), .a 13 (.bin .sub (.t 12) (.c (.int .i64 1))), .a 5 (.mv (.t 13))] [12, 13] [])))
def dendronref01_From : R.Fn := ⟨1, [(.t 2)], (.seq (.reg [] [.a 2 (.mv (.c (.sl 1 [])))] [2] [])
  (.seq (.reg [] [.a 3 (.mv (.c (.sl 1 [])))] [] [])
  (.seq (.reg [] [.a 6 (.call F.dendronref01_Small [(.c (.int .i64 4294967296))]), .a 4 (.mv (.t 6))] [6] [])
  (.seq (.seq (.reg [] [.a 7 (.mv (.t 0)), .a 8 (.ln (.t 7)), .a 9 (.bin .sub (.t 8) (.c (.int .i64 1))), .a 5 (.mv (.t 9))] [7, 8, 9] [])
  (.block 0 (.loop [] [] dendronref01_From.b0)))
  (.seq (.reg [] [.a 25 (.mv (.t 3)), .a 2 (.mv (.t 25))] [0, 3, 4, 5, 11, 25] [])
  .ret)))))⟩
def dendronref01_From.hint : R.Hint := { kill := [(0, [2], []), (2, [6], []), (3, [7, 8, 9], []), (4, [10], []), (5, [12, 13], []), (6, [11, 14, 15, 16, 17, 18, 19, 20, 21, 22, 23, 24], []), (7, [0, 3, 4, 5, 11, 25], [])] }
theorem dendronref01_From.ok : cFn Tryz.prog dendronref01_From.hint Tryz.f108 = some dendronref01_From := by kernel_rfl
def dendronref03_Small : R.Fn := ⟨2, [(.cell 4 3 true)], (.seq (.reg [] [.a 4 (.new [(.bool false), (.sl 1 []), (.sl 1 [])])] [] [])
  (.seq (.reg [] [.a 5 (.mv (.t 0)), .a 6 (.call F.dendronref02_Small [(.t 5)]), .a 7 (.mv (.t 1)), .a 8 (.call F.dendronref01_Small [(.t 7)]), .a 9 (.bld [(.bool false), (.sl 1 []), (.sl 1 [])] [(0, 2, (.t 6)), (2, 1, (.t 8))]), .n (.st 3 (.t 4) (.t 9))] [0, 1, 5, 6, 7, 8, 9] [])
  .ret))⟩
def dendronref03_Small.hint : R.Hint := { kill := [(1, [0, 1, 5, 6, 7, 8, 9], [])] }
theorem dendronref03_Small.ok : cFn Tryz.prog dendronref03_Small.hint Tryz.f109 = some dendronref03_Small := by kernel_rfl
def dendronref02_From : R.Fn := ⟨1, [(.cell 2 2 true)], (.seq (.reg [] [.a 1 (.box (.t 0)), .a 2 (.new [(.bool false), (.sl 1 [])])] [0] [])
  (.seq (.reg [] [.a 3 (.fA 0 (.t 1)), .a 4 (.ld 1 false (.t 3)), .a 5 (.fA 1 (.t 1)), .a 6 (.ld 1 false (.t 5)), .a 7 (.call F.dendronref01_From [(.t 6)]), .a 8 (.call F.dendronref02_Make [(.t 4), (.t 7)]), .n (.st 2 (.t 2) (.t 8))] [1, 3, 4, 5, 6, 7, 8] [1])
  .ret))⟩
def dendronref02_From.hint : R.Hint := { kill := [(0, [0], []), (1, [1, 3, 4, 5, 6, 7, 8], [1])] }
theorem dendronref02_From.ok : cFn Tryz.prog dendronref02_From.hint Tryz.f110 = some dendronref02_From := by kernel_rfl
def bits_LeadingZeros32 : R.Fn := ⟨1, [(.t 2)], (.seq (.reg [] [.a 2 (.mv (.c (.int .i64 0)))] [2] [])
  (.seq (.reg [] [.a 3 (.mv (.t 0)), .a 4 (.call F.bits_Len32 [(.t 3)]), .a 5 (.bin .sub (.c (.int .i64 32)) (.t 4)), .a 2 (.mv (.t 5))] [0, 3, 4, 5] [])
  .ret))⟩
def bits_LeadingZeros32.hint : R.Hint := { kill := [(0, [2], []), (1, [0, 3, 4, 5], [])] }
theorem bits_LeadingZeros32.ok : cFn Tryz.prog bits_LeadingZeros32.hint Tryz.f113 = some bits_LeadingZeros32 := by kernel_rfl
def nat_digit.b0 : R.C := (.seq (.seq (.reg [] [.a 36 (.mv (.t 7)), .a 37 (.bin .geq (.t 36) (.c (.int .u64 4294967296))), .a 38 (.mv (.t 37)), .g 39 38 false (.mv (.t 7)), .g 40 38 false (.mv (.t 1)), .g 41 38 false (.mv (.t 5)), .g 42 38 false (.bin .sub (.t 41) (.c (.int .i64 2))), .g 43 38 false (.iA 1 (.t 40) (.t 42)), .g 44 38 false (.ld 1 false (.t 43)), .g 45 38 false (.bin .mul (.t 39) (.t 44)), .g 46 38 false (.mv (.t 8)), .g 47 38 false (.bin .shl (.t 46) (.c (.int .u64 32))), .g 48 38 false (.mv (.t 0)), .g 49 38 false (.mv (.t 5)), .g 50 38 false (.bin .sub (.t 49) (.c (.int .i64 2))), .g 51 38 false (.iA 1 (.t 48) (.t 50)), .g 52 38 false (.ld 1 false (.t 51)), .g 53 38 false (.bin .or (.t 47) (.t 52)), .g 54 38 false (.bin .gtr (.t 45) (.t 53)), .a 55 (.pick (.t 38) (.c (.bool true)) (.t 54))] [36, 37, 38, 39, 40, 41, 42, 43, 44, 45, 46, 47, 48, 49, 50, 51, 52, 53, 54] [])
  (.cond (.t 55) .skip (.exit 0)))
  (.block 1 (.seq (.reg [] [.a 56 (.mv (.t 7)), .a 57 (.bin .sub (.t 56) (.c (.int .u64 1))), .a 7 (.mv (.t 57))] [55, 56, 57] [])
  (.seq (.reg [] [.a 58 (.mv (.t 8)), .a 59 (.mv (.t 1)), .a 60 (.mv (.t 5)), .a 61 (.bin .sub (.t 60) (.c (.int .i64 1))), .a 62 (.iA 1 (.t 59) (.t 61)), .a 63 (.ld 1 false (.t 62)), .a 64 (.bin .add (.t 58) (.t 63)), .a 8 (.mv (.t 64))] [58, 59, 60, 61, 62, 63, 64] [])
  (.seq (.reg [] [.a 65 (.mv (.t 8)), .a 66 (.bin .geq (.t 65) (.c (.int .u64 4294967296)))] [65] [])
  (.cond (.t 66) (.exit 0) .skip))))))
def nat_digit : R.Fn := ⟨2, [(.own 4)], (.seq (.reg [] [.a 4 (.mv (.c (.int .u64 0)))] [4] [])
  (.seq (.reg [] [.a 9 (.mv (.t 1)), .a 10 (.ln (.t 9)), .a 5 (.mv (.t 10))] [9, 10] [])
  (.seq (.reg [] [.a 11 (.mv (.t 0)), .a 12 (.mv (.t 5)), .a 13 (.iA 1 (.t 11) (.t 12)), .a 14 (.ld 1 false (.t 13)), .a 15 (.bin .shl (.t 14) (.c (.int .u64 32))), .a 16 (.mv (.t 0)), .a 17 (.mv (.t 5)), .a 18 (.bin .sub (.t 17) (.c (.int .i64 1))), .a 19 (.iA 1 (.t 16) (.t 18)), .a 20 (.ld 1 false (.t 19)), .a 21 (.bin .or (.t 15) (.t 20)), .a 6 (.mv (.t 21))] [11, 12, 13, 14, 15, 16, 17, 18, 19, 20, 21] [])
  (.seq (.reg [] [.a 22 (.mv (.t 6)), .a 23 (.mv (.t 1)), .a 24 (.mv (.t 5)), .a 25 (.bin .sub (.t 24) (.c (.int .i64 1))), .a 26 (.iA 1 (.t 23) (.t 25)), .a 27 (.ld 1 false (.t 26)), .a 28 (.bin .quo (.t 22) (.t 27)), .a 29 (.mv (.t 6)), .a 30 (.mv (.t 1)), .a 31 (.mv (.t 5)), .a 32 (.bin .sub (.t 31) (.c (.int .i64 1))), .a 33 (.iA 1 (.t 30) (.t 32)), .a 34 (.ld 1 false (.t 33)), .a 35 (.bin .rem (.t 29) (.t 34)), .a 7 (.mv (.t 28)), .a 8 (.mv (.t 35))] [6, 22, 23, 24, 25, 26, 27, 28, 29, 30, 31, 32, 33, 34, 35] [])
  (.seq (.block 0 (.loop [66] [] nat_digit.b0))
  (.seq (.seq (.reg [] [.a 67 (.mv (.t 0)), .a 68 (.mv (.t 1)), .a 69 (.mv (.t 7)), .a 70 (.callk F.nat_take [(true, (.t 67)), (false, (.t 68)), (false, (.t 69))])] [5, 8, 55, 66, 67, 68, 69] [])
  (.cond (.t 70) (.seq (.reg [] [.a 71 (.mv (.t 7)), .a 72 (.bin .sub (.t 71) (.c (.int .u64 1))), .a 7 (.mv (.t 72))] [70, 71, 72] [70])
  (.reg [] [.a 73 (.mv (.t 0)), .a 74 (.mv (.t 1)), .a 75 (.callk F.nat_give [(true, (.t 73)), (false, (.t 74))])] [0, 1, 73, 74, 75] [75])) .skip))
  (.seq (.reg [] [.a 76 (.mv (.t 7)), .a 4 (.mv (.t 76))] [0, 1, 7, 70, 76] [70])
  .ret)))))))⟩
def nat_digit.hint : R.Hint := { callk := [(70, [true, false, false]), (75, [true, false])], kill := [(0, [4], []), (1, [9, 10], []), (2, [11, 12, 13, 14, 15, 16, 17, 18, 19, 20, 21], []), (3, [6, 22, 23, 24, 25, 26, 27, 28, 29, 30, 31, 32, 33, 34, 35], []), (4, [36, 37, 38, 39, 40, 41, 42, 43, 44, 45, 46, 47, 48, 49, 50, 51, 52, 53, 54], []), (5, [55, 56, 57], []), (6, [58, 59, 60, 61, 62, 63, 64], []), (7, [65], []), (8, [5, 8, 55, 66, 67, 68, 69], []), (9, [70, 71, 72], [70]), (10, [0, 1, 73, 74, 75], [75]), (11, [0, 1, 7, 70, 76], [70])], loop := [(0, [66], [])], own := true }
theorem nat_digit.ok : cFn Tryz.prog nat_digit.hint Tryz.f114 = some nat_digit := by kernel_rfl
def ratio_Inv : R.Fn := ⟨1, [(.cell 2 3 true), (.t 3)], (.seq (.reg [] [.a 1 (.box (.t 0)), .a 2 (.new [(.bool false), (.sl 1 []), (.sl 1 [])]), .a 3 (.mv (.c (.int .i64 0)))] [0, 3] [])
  (.seq (.reg [] [.a 4 (.ld 3 true (.t 1)), .a 5 (.call F.ratio_Clean [(.t 4)]), .n (.st 3 (.t 1) (.t 5))] [4, 5] [])
  (.seq (.reg [] [.a 6 (.ld 3 true (.t 1)), .a 7 (.call F.ratio_den [(.t 6)]), .a 8 (.fA 0 (.t 1)), .a 9 (.ld 2 true (.t 8)), .a 10 (.call F.ratio_Make [(.t 7), (.t 9)]), .a 11 (.ext (.t 10) 0), .a 12 (.ext (.t 10) 1), .n (.st 3 (.t 2) (.t 11)), .a 3 (.mv (.t 12))] [1, 6, 7, 8, 9, 10, 11, 12] [1])
  .ret)))⟩
def ratio_Inv.hint : R.Hint := { kill := [(0, [0, 3], []), (1, [4, 5], []), (2, [1, 6, 7, 8, 9, 10, 11, 12], [1])] }
theorem ratio_Inv.ok : cFn Tryz.prog ratio_Inv.hint Tryz.f115 = some ratio_Inv := by kernel_rfl
def dendronref01_Right.b0 : R.C := (.seq (.seq (.reg [] [.a 4 (.mv (.t 3)), .a 5 (.mv (.t 0)), .a 6 (.ln (.t 5)), .a 7 (.bin .lss (.t 4) (.t 6))] [4, 5, 6] [])
  (.cond (.t 7) .skip (.exit 0)))
  (.seq (.block 1 (.seq (.reg [] [.a 10 (.mv (.t 0)), .a 11 (.mv (.t 3)), .a 12 (.iA 1 (.t 10) (.t 11)), .a 13 (.ld 1 false (.t 12)), .a 14 (.bin .gtr (.t 13) (.c (.int .u64 4294967295)))] [7, 10, 11, 12, 13] [])
  (.cond (.t 14) (.seq (.reg [] [.a 2 (.mv (.c (.bool false)))] [0, 3, 14] [])
  .ret) .skip)))
  (.reg [] [.a 8 (.mv (.t 3)), .a 9 (.bin .add (.t 8) (.c (.int .i64 1))), .a 3 (.mv (.t 9))] [8, 9, 14] [])))
def dendronref01_Right : R.Fn := ⟨1, [(.t 2)], (.seq (.reg [] [.a 2 (.mv (.c (.bool false)))] [2] [])
  (.seq (.seq (.reg [] [.a 3 (.mv (.c (.int .i64 0)))] [] [])
  (.block 0 (.loop [] [] dendronref01_Right.b0)))
  (.seq (.reg [] [.a 15 (.mv (.t 0)), .a 16 (.ln (.t 15)), .a 17 (.bin .eql (.t 16) (.c (.int .i64 0))), .a 18 (.mv (.t 17)), .g 19 18 false (.mv (.t 0)), .g 20 18 false (.mv (.t 0)), .g 21 18 false (.ln (.t 20)), .g 22 18 false (.bin .sub (.t 21) (.c (.int .i64 1))), .g 23 18 false (.iA 1 (.t 19) (.t 22)), .g 24 18 false (.ld 1 false (.t 23)), .g 25 18 false (.bin .neq (.t 24) (.c (.int .u64 0))), .a 26 (.pick (.t 18) (.c (.bool true)) (.t 25)), .a 2 (.mv (.t 26))] [0, 3, 7, 15, 16, 17, 18, 19, 20, 21, 22, 23, 24, 25, 26] [])
  .ret)))⟩
def dendronref01_Right.hint : R.Hint := { kill := [(0, [2], []), (2, [4, 5, 6], []), (3, [8, 9, 14], []), (4, [7, 10, 11, 12, 13], []), (5, [0, 3, 14], []), (6, [0, 3, 7, 15, 16, 17, 18, 19, 20, 21, 22, 23, 24, 25, 26], [])] }
theorem dendronref01_Right.ok : cFn Tryz.prog dendronref01_Right.hint Tryz.f116 = some dendronref01_Right := by kernel_rfl
def dendronref01_Gcd.b0 : R.C := (.seq (.seq (.reg [] [.a 7 (.mv (.t 1)), .a 8 (.ln (.t 7)), .a 9 (.bin .gtr (.t 8) (.c (.int .i64 0)))] [7, 8] [])
  (.cond (.t 9) .skip (.exit 0)))
  (.block 1 (.seq (.reg [] [.a 11 (.mv (.t 0)), .a 12 (.mv (.t 1)), .a 13 (.call F.dendronref01_Over [(.t 11), (.t 12)]), .a 10 (.mv (.t 13)), .a 14 (.ext (.t 10) 0), .a 15 (.ext (.t 10) 1), .a 5 (.mv (.t 14)), .a 6 (.mv (.t 15))] [0, 5, 9, 10, 11, 12, 13, 14, 15] [])
  (.seq (.reg [] [.a 16 (.mv (.t 1)), .a 0 (.mv (.t 16))] [1, 16] [])
  (.reg [] [.a 17 (.mv (.t 6)), .a 1 (.mv (.t 17))] [6, 17] [])))))
def dendronref01_Gcd : R.Fn := ⟨2, [(.t 4)], (.seq (.reg [] [.a 4 (.mv (.c (.sl 1 [])))] [4] [])
  (.seq (.block 0 (.loop [] [] dendronref01_Gcd.b0))
  (.seq (.reg [] [.a 18 (.mv (.t 0)), .a 4 (.mv (.t 18))] [0, 1, 9, 18] [])
  .ret)))⟩
def dendronref01_Gcd.hint : R.Hint := { kill := [(0, [4], []), (1, [7, 8], []), (2, [0, 5, 9, 10, 11, 12, 13, 14, 15], []), (3, [1, 16], []), (4, [6, 17], []), (5, [0, 1, 9, 18], [])] }
theorem dendronref01_Gcd.ok : cFn Tryz.prog dendronref01_Gcd.hint Tryz.f117 = some dendronref01_Gcd := by kernel_rfl
def dendronref01_Order.b0 : R.C := (.seq (.seq (.reg [] [.a 19 (.mv (.t 5)), .a 20 (.bin .geq (.t 19) (.c (.int .i64 0)))] [19] [])
  (.cond (.t 20) .skip (.exit 0)))
  (.seq (.block 1 (.seq (.seq (.reg [] [.a 23 (.mv (.t 0)), .a 24 (.mv (.t 5)), .a 25 (.iA 1 (.t 23) (.t 24)), .a 26 (.ld 1 false (.t 25)), .a 27 (.mv (.t 1)), .a 28 (.mv (.t 5)), .a 29 (.iA 1 (.t 27) (.t 28)), .a 30 (.ld 1 false (.t 29)), .a 31 (.bin .lss (.t 26) (.t 30))] [20, 23, 24, 25, 26, 27, 28, 29, 30] [])
  (.cond (.t 31) (.seq (.reg [] [.a 4 (.mv (.c (.int .i64 (-1))))] [0, 1, 5, 31] [])
  .ret) .skip))
  (.seq (.reg [] [.a 32 (.mv (.t 0)), .a 33 (.mv (.t 5)), .a 34 (.iA 1 (.t 32) (.t 33)), .a 35 (.ld 1 false (.t 34)), .a 36 (.mv (.t 1)), .a 37 (.mv (.t 5)), .a 38 (.iA 1 (.t 36) (.t 37)), .a 39 (.ld 1 false (.t 38)), .a 40 (.bin .gtr (.t 35) (.t 39))] [31, 32, 33, 34, 35, 36, 37, 38, 39] [])
  (.cond (.t 40) (.seq (.reg [] [.a 4 (.mv (.c (.int .i64 1)))] [0, 1, 5, 40] [])
  .ret) .skip))))
  (.reg [] [.a 21 (.mv (.t 5)), .a 22 (.bin .sub (.t 21) (.c (.int .i64 1))), .a 5 (.mv (.t 22))] [21, 22, 40] [])))
def dendronref01_Order : R.Fn := ⟨2, [(.t 4)], (.seq (.reg [] [.a 4 (.mv (.c (.int .i64 0)))] [4] [])
  (.seq (.seq (.reg [] [.a 6 (.mv (.t 0)), .a 7 (.ln (.t 6)), .a 8 (.mv (.t 1)), .a 9 (.ln (.t 8)), .a 10 (.bin .neq (.t 7) (.t 9))] [6, 7, 8, 9] [])
  (.cond (.t 10) (.seq (.seq (.reg [] [.a 11 (.mv (.t 0)), .a 12 (.ln (.t 11)), .a 13 (.mv (.t 1)), .a 14 (.ln (.t 13)), .a 15 (.bin .lss (.t 12) (.t 14))] [0, 1, 10, 11, 12, 13, 14] [])
  (.cond (.t 15) (.seq (.reg [] [.a 4 (.mv (.c (.int .i64 (-1))))] [15] [])
  .ret) .skip))
  (.seq (.reg [] [.a 4 (.mv (.c (.int .i64 1)))] [15] [])
  .ret)) .skip))
  (.seq (.seq (.reg [] [.a 16 (.mv (.t 0)), .a 17 (.ln (.t 16)), .a 18 (.bin .sub (.t 17) (.c (.int .i64 1))), .a 5 (.mv (.t 18))] [10, 16, 17, 18] [])
  (.block 0 (.loop [] [] dendronref01_Order.b0)))
  (.seq (.reg [] [.a 4 (.mv (.c (.int .i64 0)))] [0, 1, 5, 20] [])
  .ret))))⟩
def dendronref01_Order.hint : R.Hint := { kill := [(0, [4], []), (1, [6, 7, 8, 9], []), (2, [0, 1, 10, 11, 12, 13, 14], []), (3, [15], []), (4, [15], []), (5, [10, 16, 17, 18], []), (6, [19], []), (7, [21, 22, 40], []), (8, [20, 23, 24, 25, 26, 27, 28, 29, 30], []), (9, [0, 1, 5, 31], []), (10, [31, 32, 33, 34, 35, 36, 37, 38, 39], []), (11, [0, 1, 5, 40], []), (12, [0, 1, 5, 20], [])] }
theorem dendronref01_Order.ok : cFn Tryz.prog dendronref01_Order.hint Tryz.f118 = some dendronref01_Order := by kernel_rfl
def dendronref01_Small.b0 : R.C := (.seq (.seq (.reg [] [.a 4 (.mv (.t 0)), .a 5 (.bin .gtr (.t 4) (.c (.int .i64 0)))] [4] [])
  (.cond (.t 5) .skip (.exit 0)))
  (.block 1 (.seq (.reg [] [.a 6 (.mv (.t 3)), .a 7 (.mv (.t 0)), .a 8 (.bin .rem (.t 7) (.c (.int .i64 10000))), .a 9 (.lit 1 1 [(.int .i64 0)] [(0, 1, (.t 8))]), .a 10 (.app 1 8 (.t 6) (.t 9)), .a 3 (.mv (.t 10))] [5, 6, 7, 8, 9, 10] [])
  (.reg [] [.a 11 (.mv (.t 0)), .a 12 (.bin .quo (.t 11) (.c (.int .i64 10000))), .a 0 (.mv (.t 12))] [11, 12] []))))
def dendronref01_Small : R.Fn := ⟨1, [(.t 2)], (.seq (.reg [] [.a 2 (.mv (.c (.sl 1 [])))] [2] [])
  (.seq (.reg [] [.a 3 (.nil 1)] [] [])
  (.seq (.block 0 (.loop [] [] dendronref01_Small.b0))
  (.seq (.reg [] [.a 13 (.mv (.t 3)), .a 2 (.mv (.t 13))] [0, 3, 5, 13] [])
  .ret))))⟩
def dendronref01_Small.hint : R.Hint := { nil := [3], kill := [(0, [2], []), (2, [4], []), (3, [5, 6, 7, 8, 9, 10], []), (4, [11, 12], []), (5, [0, 3, 5, 13], [])] }
theorem dendronref01_Small.ok : cFn Tryz.prog dendronref01_Small.hint Tryz.f119 = some dendronref01_Small := by kernel_rfl
def dendronref02_Order : R.Fn := ⟨2, [(.t 4)], (.seq (.reg [] [.a 2 (.box (.t 0)), .a 3 (.box (.t 1)), .a 4 (.mv (.c (.int .i64 0)))] [0, 1, 4] [])
  (.seq (.seq (.reg [] [.a 5 (.fA 0 (.t 2)), .a 6 (.ld 1 false (.t 5)), .a 7 (.mv (.t 6)), .g 8 7 true (.fA 0 (.t 3)), .g 9 7 true (.ld 1 false (.t 8)), .g 10 7 true (.un .not (.t 9)), .a 11 (.pick (.t 7) (.t 10) (.c (.bool false)))] [5, 6, 7, 8, 9, 10] [])
  (.cond (.t 11) (.seq (.reg [] [.a 4 (.mv (.c (.int .i64 (-1))))] [2, 3, 11] [2, 3])
  .ret) .skip))
  (.seq (.seq (.reg [] [.a 12 (.fA 0 (.t 2)), .a 13 (.ld 1 false (.t 12)), .a 14 (.un .not (.t 13)), .a 15 (.mv (.t 14)), .g 16 15 true (.fA 0 (.t 3)), .g 17 15 true (.ld 1 false (.t 16)), .a 18 (.pick (.t 15) (.t 17) (.c (.bool false)))] [11, 12, 13, 14, 15, 16, 17] [])
  (.cond (.t 18) (.seq (.reg [] [.a 4 (.mv (.c (.int .i64 1)))] [2, 3, 18] [2, 3])
  .ret) .skip))
  (.seq (.seq (.reg [] [.a 19 (.fA 0 (.t 2)), .a 20 (.ld 1 false (.t 19))] [18, 19] [])
  (.cond (.t 20) (.seq (.reg [] [.a 21 (.fA 1 (.t 3)), .a 22 (.ld 1 false (.t 21)), .a 23 (.fA 1 (.t 2)), .a 24 (.ld 1 false (.t 23)), .a 25 (.call F.dendronref01_Order [(.t 22), (.t 24)]), .a 4 (.mv (.t 25))] [2, 3, 20, 21, 22, 23, 24, 25] [2, 3])
  .ret) .skip))
  (.seq (.reg [] [.a 26 (.fA 1 (.t 2)), .a 27 (.ld 1 false (.t 26)), .a 28 (.fA 1 (.t 3)), .a 29 (.ld 1 false (.t 28)), .a 30 (.call F.dendronref01_Order [(.t 27), (.t 29)]), .a 4 (.mv (.t 30))] [2, 3, 20, 26, 27, 28, 29, 30] [2, 3])
  .ret)))))⟩
def dendronref02_Order.hint : R.Hint := { kill := [(0, [0, 1, 4], []), (1, [5, 6, 7, 8, 9, 10], []), (2, [2, 3, 11], [2, 3]), (3, [11, 12, 13, 14, 15, 16, 17], []), (4, [2, 3, 18], [2, 3]), (5, [18, 19], []), (6, [2, 3, 20, 21, 22, 23, 24, 25], [2, 3]), (7, [2, 3, 20, 26, 27, 28, 29, 30], [2, 3])] }
theorem dendronref02_Order.ok : cFn Tryz.prog dendronref02_Order.hint Tryz.f120 = some dendronref02_Order := by kernel_rfl
def dendronref02_Times : R.Fn := ⟨2, [(.cell 4 2 true)], (.seq (.reg [] [.a 2 (.box (.t 0)), .a 3 (.box (.t 1)), .a 4 (.new [(.bool false), (.sl 1 [])])] [0, 1] [])
  (.seq (.reg [] [.a 5 (.fA 0 (.t 2)), .a 6 (.ld 1 false (.t 5)), .a 7 (.fA 0 (.t 3)), .a 8 (.ld 1 false (.t 7)), .a 9 (.beq true (.t 6) (.t 8)), .a 10 (.fA 1 (.t 2)), .a 11 (.ld 1 false (.t 10)), .a 12 (.fA 1 (.t 3)), .a 13 (.ld 1 false (.t 12)), .a 14 (.call F.dendronref01_Times [(.t 11), (.t 13)]), .a 15 (.call F.dendronref02_Make [(.t 9), (.t 14)]), .n (.st 2 (.t 4) (.t 15))] [2, 3, 5, 6, 7, 8, 9, 10, 11, 12, 13, 14, 15] [2, 3])
  .ret))⟩
def dendronref02_Times.hint : R.Hint := { kill := [(0, [0, 1], []), (1, [2, 3, 5, 6, 7, 8, 9, 10, 11, 12, 13, 14, 15], [2, 3])] }
theorem dendronref02_Times.ok : cFn Tryz.prog dendronref02_Times.hint Tryz.f121 = some dendronref02_Times := by kernel_rfl
def dendronref03_den : R.Fn := ⟨1, [(.cell 2 2 true)], (.seq (.reg [] [.a 1 (.box (.t 0)), .a 2 (.new [(.bool false), (.sl 1 [])])] [0] [])
  (.seq (.reg [] [.a 3 (.fA 2 (.t 1)), .a 4 (.ld 1 false (.t 3)), .a 5 (.call F.dendronref02_Make [(.c (.bool false)), (.t 4)]), .n (.st 2 (.t 2) (.t 5))] [1, 3, 4, 5] [1])
  .ret))⟩
def dendronref03_den.hint : R.Hint := { kill := [(0, [0], []), (1, [1, 3, 4, 5], [1])] }
theorem dendronref03_den.ok : cFn Tryz.prog dendronref03_den.hint Tryz.f122 = some dendronref03_den := by kernel_rfl
def dendronref01_Plus.b0 : R.C := (.seq (.seq (.reg [] [.a 8 (.mv (.t 7)), .a 9 (.mv (.t 0)), .a 10 (.ln (.t 9)), .a 11 (.bin .lss (.t 8) (.t 10)), .a 12 (.mv (.t 11)), .g 13 12 false (.mv (.t 7)), .g 14 12 false (.mv (.t 1)), .g 15 12 false (.ln (.t 14)), .g 16 12 false (.bin .lss (.t 13) (.t 15)), .a 17 (.pick (.t 12) (.c (.bool true)) (.t 16)), .a 18 (.mv (.t 17)), .g 19 18 false (.mv (.t 6)), .g 20 18 false (.bin .gtr (.t 19) (.c (.int .i64 0))), .a 21 (.pick (.t 18) (.c (.bool true)) (.t 20))] [8, 9, 10, 11, 12, 13, 14, 15, 16, 17, 18, 19, 20] [])
  (.cond (.t 21) .skip (.exit 0)))
  (.seq (.block 1 (.seq (.reg [] [.a 24 (.mv (.t 6)), .a 25 (.mv (.t 0)), .a 26 (.mv (.t 7)), .a 27 (.call F.dendronref01_digit [(.t 25), (.t 26)]), .a 28 (.bin .add (.t 24) (.t 27)), .a 29 (.mv (.t 1)), .a 30 (.mv (.t 7)), .a 31 (.call F.dendronref01_digit [(.t 29), (.t 30)]), .a 32 (.bin .add (.t 28) (.t 31)), .a 6 (.mv (.t 32))] [21, 24, 25, 26, 27, 28, 29, 30, 31, 32] [])
  (.seq (.reg [] [.a 33 (.mv (.t 5)), .a 34 (.mv (.t 6)), .a 35 (.bin .rem (.t 34) (.c (.int .i64 10000))), .a 36 (.lit 1 1 [(.int .i64 0)] [(0, 1, (.t 35))]), .a 37 (.app 1 8 (.t 33) (.t 36)), .a 5 (.mv (.t 37))] [33, 34, 35, 36, 37] [])
  (.reg [] [.a 38 (.mv (.t 6)), .a 39 (.bin .quo (.t 38) (.c (.int .i64 10000))), .a 6 (.mv (.t 39))] [38, 39] []))))
  (.reg [] [.a 22 (.mv (.t 7)), .a 23 (.bin .add (.t 22) (.c (.int .i64 1))), .a 7 (.mv (.t 23))] [22, 23] [])))
def dendronref01_Plus : R.Fn := ⟨2, [(.t 4)], (.seq (.reg [] [.a 4 (.mv (.c (.sl 1 [])))] [4] [])
  (.seq (.reg [] [.a 5 (.nil 1)] [] [])
  (.seq (.reg [] [.a 6 (.mv (.c (.int .i64 0)))] [] [])
  (.seq (.seq (.reg [] [.a 7 (.mv (.c (.int .i64 0)))] [] [])
  (.block 0 (.loop [] [] dendronref01_Plus.b0)))
  (.seq (.reg [] [.a 40 (.mv (.t 5)), .a 4 (.mv (.t 40))] [0, 1, 5, 6, 7, 21, 40] [])
  .ret)))))⟩
def dendronref01_Plus.hint : R.Hint := { nil := [5], kill := [(0, [4], []), (4, [8, 9, 10, 11, 12, 13, 14, 15, 16, 17, 18, 19, 20], []), (5, [22, 23], []), (6, [21, 24, 25, 26, 27, 28, 29, 30, 31, 32], []), (7, [33, 34, 35, 36, 37], []), (8, [38, 39], []), (9, [0, 1, 5, 6, 7, 21, 40], [])] }
theorem dendronref01_Plus.ok : cFn Tryz.prog dendronref01_Plus.hint Tryz.f123 = some dendronref01_Plus := by kernel_rfl
def dendronref01_Times.b2 : R.C := (.seq (.seq (.reg [] [.a 21 (.mv (.t 8)), .a 22 (.mv (.t 1)), .a 23 (.ln (.t 22)), .a 24 (.bin .lss (.t 21) (.t 23))] [21, 22, 23] [])
  (.cond (.t 24) .skip (.exit 2)))
  (.seq (.block 3 (.seq (.reg [] [.a 27 (.mv (.t 7)), .a 28 (.mv (.t 5)), .a 29 (.mv (.t 6)), .a 30 (.mv (.t 8)), .a 31 (.bin .add (.t 29) (.t 30)), .a 32 (.iA 1 (.t 28) (.t 31)), .a 33 (.ld 1 false (.t 32)), .a 34 (.bin .add (.t 27) (.t 33)), .a 35 (.mv (.t 0)), .a 36 (.mv (.t 6)), .a 37 (.iA 1 (.t 35) (.t 36)), .a 38 (.ld 1 false (.t 37)), .a 39 (.mv (.t 1)), .a 40 (.mv (.t 8)), .a 41 (.iA 1 (.t 39) (.t 40)), .a 42 (.ld 1 false (.t 41)), .a 43 (.bin .mul (.t 38) (.t 42)), .a 44 (.bin .add (.t 34) (.t 43)), .a 7 (.mv (.t 44))] [24, 27, 28, 29, 30, 31, 32, 33, 34, 35, 36, 37, 38, 39, 40, 41, 42, 43, 44] [])
  (.seq (.reg [] [.a 45 (.mv (.t 5)), .a 46 (.mv (.t 6)), .a 47 (.mv (.t 8)), .a 48 (.bin .add (.t 46) (.t 47)), .a 49 (.mv (.t 7)), .a 50 (.bin .rem (.t 49) (.c (.int .i64 10000))), .a 51 (.iA 1 (.t 45) (.t 48)), .n (.st 1 (.t 51) (.t 50))] [45, 46, 47, 48, 49, 50, 51] [])
  (.reg [] [.a 52 (.mv (.t 7)), .a 53 (.bin .quo (.t 52) (.c (.int .i64 10000))), .a 7 (.mv (.t 53))] [52, 53] []))))
  (.reg [] [.a 25 (.mv (.t 8)), .a 26 (.bin .add (.t 25) (.c (.int .i64 1))), .a 8 (.mv (.t 26))] [25, 26] [])))
def dendronref01_Times.b0 : R.C := (.seq (.seq (.reg [] [.a 15 (.mv (.t 6)), .a 16 (.mv (.t 0)), .a 17 (.ln (.t 16)), .a 18 (.bin .lss (.t 15) (.t 17))] [15, 16, 17] [])
  (.cond (.t 18) .skip (.exit 0)))
  (.seq (.block 1 (.seq (.reg [] [.a 7 (.mv (.c (.int .i64 0)))] [18] [])
  (.seq (.seq (.reg [] [.a 8 (.mv (.c (.int .i64 0)))] [] [])
  (.block 2 (.loop [] [] dendronref01_Times.b2)))
  (.reg [] [.a 54 (.mv (.t 5)), .a 55 (.mv (.t 6)), .a 56 (.mv (.t 1)), .a 57 (.ln (.t 56)), .a 58 (.bin .add (.t 55) (.t 57)), .a 59 (.mv (.t 7)), .a 60 (.iA 1 (.t 54) (.t 58)), .n (.st 1 (.t 60) (.t 59))] [7, 8, 24, 54, 55, 56, 57, 58, 59, 60] []))))
  (.reg [] [.a 19 (.mv (.t 6)), .a 20 (.bin .add (.t 19) (.c (.int .i64 1))), .a 6 (.mv (.t 20))] [19, 20] [])))
def dendronref01_Times : R.Fn := ⟨2, [(.t 4)], (.seq (.reg [] [.a 4 (.mv (.c (.sl 1 [])))] [4] [])
  (.seq (.reg [] [.a 9 (.mv (.t 0)), .a 10 (.ln (.t 9)), .a 11 (.mv (.t 1)), .a 12 (.ln (.t 11)), .a 13 (.bin .add (.t 10) (.t 12)), .a 14 (.mk 1 8 [(.int .i64 0)] (.t 13) (.t 13)), .a 5 (.mv (.t 14))] [9, 10, 11, 12, 13, 14] [])
  (.seq (.seq (.reg [] [.a 6 (.mv (.c (.int .i64 0)))] [] [])
  (.block 0 (.loop [] [] dendronref01_Times.b0)))
  (.seq (.reg [5] [.a 61 (.mv (.t 5)), .a 62 (.call F.dendronref01_Trim [(.t 61)]), .a 4 (.mv (.t 62))] [0, 1, 5, 6, 18, 61, 62] [14])
  .ret))))⟩
def dendronref01_Times.hint : R.Hint := { pub := [(13, [5])], kill := [(0, [4], []), (1, [9, 10, 11, 12, 13, 14], []), (3, [15, 16, 17], []), (4, [19, 20], []), (5, [18], []), (7, [21, 22, 23], []), (8, [25, 26], []), (9, [24, 27, 28, 29, 30, 31, 32, 33, 34, 35, 36, 37, 38, 39, 40, 41, 42, 43, 44], []), (10, [45, 46, 47, 48, 49, 50, 51], []), (11, [52, 53], []), (12, [7, 8, 24, 54, 55, 56, 57, 58, 59, 60], []), (13, [0, 1, 5, 6, 18, 61, 62], [14])] }
theorem dendronref01_Times.ok : cFn Tryz.prog dendronref01_Times.hint Tryz.f124 = some dendronref01_Times := by kernel_rfl
def dendronref02_Small : R.Fn := ⟨1, [(.cell 2 2 true)], (.seq (.reg [] [.a 2 (.new [(.bool false), (.sl 1 [])])] [] [])
  (.seq (.seq (.reg [] [.a 3 (.mv (.t 0)), .a 4 (.bin .lss (.t 3) (.c (.int .i64 0)))] [3] [])
  (.cond (.t 4) (.seq (.reg [] [.a 5 (.mv (.t 0)), .a 6 (.bin .add (.t 5) (.c (.int .i64 1))), .a 7 (.bin .sub (.c (.int .i64 0)) (.t 6)), .a 8 (.call F.dendronref01_Small [(.t 7)]), .a 9 (.call F.dendronref01_Small [(.c (.int .i64 1))]), .a 10 (.call F.dendronref01_Plus [(.t 8), (.t 9)]), .a 11 (.call F.dendronref02_Make [(.c (.bool true)), (.t 10)]), .n (.st 2 (.t 2) (.t 11))] [0, 4, 5, 6, 7, 8, 9, 10, 11] [])
  .ret) .skip))
  (.seq (.reg [] [.a 12 (.mv (.t 0)), .a 13 (.call F.dendronref01_Small [(.t 12)]), .a 14 (.call F.dendronref02_Make [(.c (.bool false)), (.t 13)]), .n (.st 2 (.t 2) (.t 14))] [0, 4, 12, 13, 14] [])
  .ret)))⟩
def dendronref02_Small.hint : R.Hint := { kill := [(1, [3], []), (2, [0, 4, 5, 6, 7, 8, 9, 10, 11], []), (3, [0, 4, 12, 13, 14], [])] }
theorem dendronref02_Small.ok : cFn Tryz.prog dendronref02_Small.hint Tryz.f125 = some dendronref02_Small := by kernel_rfl
def dendronref02_Make : R.Fn := ⟨2, [(.cell 4 2 true)], (.seq (.reg [] [.a 4 (.new [(.bool false), (.sl 1 [])])] [] [])
  (.seq (.reg [] [.a 5 (.mv (.t 0)), .a 6 (.mv (.t 5)), .g 7 6 true (.mv (.t 1)), .g 8 6 true (.ln (.t 7)), .g 9 6 true (.bin .gtr (.t 8) (.c (.int .i64 0))), .a 10 (.pick (.t 6) (.t 9) (.c (.bool false))), .a 11 (.mv (.t 1)), .a 12 (.bld [(.bool false), (.sl 1 [])] [(0, 1, (.t 10)), (1, 1, (.t 11))]), .n (.st 2 (.t 4) (.t 12))] [0, 1, 5, 6, 7, 8, 9, 10, 11, 12] [])
  .ret))⟩
def dendronref02_Make.hint : R.Hint := { kill := [(1, [0, 1, 5, 6, 7, 8, 9, 10, 11, 12], [])] }
theorem dendronref02_Make.ok : cFn Tryz.prog dendronref02_Make.hint Tryz.f126 = some dendronref02_Make := by kernel_rfl
def sync_Mutex_Lock : R.Fn := ⟨1, [], (.reg [] [.a 2 (.mv (.t 0)), .a 3 (.nck (.t 2)), .a 4 (.fA 0 (.t 3)), .a 5 (.call F.internal_sync_Mutex_Lock [(.t 4)])] [0, 2, 3, 4, 5] [])⟩
def sync_Mutex_Lock.hint : R.Hint := { kill := [(0, [0, 2, 3, 4, 5], [])] }
theorem sync_Mutex_Lock.ok : cFn Tryz.prog sync_Mutex_Lock.hint Tryz.f128 = some sync_Mutex_Lock := by kernel_rfl
def sync_Mutex_Unlock : R.Fn := ⟨1, [], (.reg [] [.a 2 (.mv (.t 0)), .a 3 (.nck (.t 2)), .a 4 (.fA 0 (.t 3)), .a 5 (.call F.internal_sync_Mutex_Unlock [(.t 4)])] [0, 2, 3, 4, 5] [])⟩
def sync_Mutex_Unlock.hint : R.Hint := { kill := [(0, [0, 2, 3, 4, 5], [])] }
theorem sync_Mutex_Unlock.ok : cFn Tryz.prog sync_Mutex_Unlock.hint Tryz.f129 = some sync_Mutex_Unlock := by kernel_rfl
def nat_take.b0 : R.C := (.seq (.reg [] [.a 14 (.bin .lss (.t 13) (.t 12))] [] [])
  (.seq (.cond (.t 14) .skip (.exit 0))
  (.seq (.block 1 (.seq (.reg [] [.a 15 (.mv (.t 13)), .a 9 (.mv (.t 15))] [14, 15] [])
  (.seq (.reg [] [.a 16 (.mv (.t 7)), .a 17 (.mv (.t 2)), .a 18 (.mv (.t 1)), .a 19 (.mv (.t 9)), .a 20 (.call F.nat_limb [(.t 18), (.t 19)]), .a 21 (.bin .mul (.t 17) (.t 20)), .a 22 (.bin .add (.t 16) (.t 21)), .a 7 (.mv (.t 22))] [16, 17, 18, 19, 20, 21, 22] [])
  (.seq (.reg [] [.a 23 (.mv (.t 0)), .a 24 (.mv (.t 9)), .a 25 (.iA 1 (.t 23) (.t 24)), .a 26 (.ld 1 false (.t 25)), .a 27 (.bin .add (.c (.int .u64 4294967296)) (.t 26)), .a 28 (.mv (.t 7)), .a 29 (.bin .and (.t 28) (.c (.int .u64 4294967295))), .a 30 (.bin .sub (.t 27) (.t 29)), .a 31 (.mv (.t 8)), .a 32 (.bin .sub (.t 30) (.t 31)), .a 10 (.mv (.t 32))] [8, 23, 24, 25, 26, 27, 28, 29, 30, 31, 32] [])
  (.seq (.reg [] [.a 33 (.mv (.t 0)), .a 34 (.mv (.t 9)), .a 35 (.mv (.t 10)), .a 36 (.bin .and (.t 35) (.c (.int .u64 4294967295))), .a 37 (.iA 1 (.t 33) (.t 34)), .n (.st 1 (.t 37) (.t 36))] [9, 33, 34, 35, 36, 37] [])
  (.seq (.reg [] [.a 38 (.mv (.t 10)), .a 39 (.bin .shr (.t 38) (.c (.int .u64 32))), .a 40 (.bin .sub (.c (.int .u64 1)) (.t 39)), .a 8 (.mv (.t 40))] [10, 38, 39, 40] [])
  (.reg [] [.a 41 (.mv (.t 7)), .a 42 (.bin .shr (.t 41) (.c (.int .u64 32))), .a 7 (.mv (.t 42))] [41, 42] [])))))))
  (.reg [] [.a 43 (.bin .add (.t 13) (.c (.int .i64 1))), .a 13 (.mv (.t 43))] [43] []))))
def nat_take : R.Fn := ⟨3, [(.own 6)], (.seq (.reg [] [.a 6 (.mv (.c (.bool false)))] [6] [])
  (.seq (.reg [] [.a 7 (.mv (.c (.int .u64 0))), .a 8 (.mv (.c (.int .u64 0)))] [] [])
  (.seq (.seq (.reg [] [.a 11 (.mv (.t 0)), .a 12 (.ln (.t 11)), .a 13 (.mv (.c (.int .i64 0)))] [11] [])
  (.block 0 (.loop [] [] nat_take.b0)))
  (.seq (.reg [] [.a 44 (.mv (.t 8)), .a 45 (.bin .eql (.t 44) (.c (.int .u64 1))), .a 6 (.mv (.t 45))] [0, 1, 2, 7, 8, 12, 13, 14, 44, 45] [])
  .ret))))⟩
def nat_take.hint : R.Hint := { kill := [(0, [6], []), (2, [11], []), (4, [14, 15], []), (5, [16, 17, 18, 19, 20, 21, 22], []), (6, [8, 23, 24, 25, 26, 27, 28, 29, 30, 31, 32], []), (7, [9, 33, 34, 35, 36, 37], []), (8, [10, 38, 39, 40], []), (9, [41, 42], []), (10, [43], []), (11, [0, 1, 2, 7, 8, 12, 13, 14, 44, 45], [])], own := true }
theorem nat_take.ok : cFn Tryz.prog nat_take.hint Tryz.f131 = some nat_take := by kernel_rfl
def nat_give.b0 : R.C := (.seq (.reg [] [.a 9 (.bin .lss (.t 8) (.t 7))] [] [])
  (.seq (.cond (.t 9) .skip (.exit 0))
  (.seq (.block 1 (.seq (.reg [] [.a 10 (.mv (.t 8)), .a 5 (.mv (.t 10))] [9, 10] [])
  (.seq (.reg [] [.a 11 (.mv (.t 4)), .a 12 (.mv (.t 0)), .a 13 (.mv (.t 5)), .a 14 (.iA 1 (.t 12) (.t 13)), .a 15 (.ld 1 false (.t 14)), .a 16 (.mv (.t 1)), .a 17 (.mv (.t 5)), .a 18 (.call F.nat_limb [(.t 16), (.t 17)]), .a 19 (.bin .add (.t 15) (.t 18)), .a 20 (.bin .add (.t 11) (.t 19)), .a 4 (.mv (.t 20))] [11, 12, 13, 14, 15, 16, 17, 18, 19, 20] [])
  (.seq (.reg [] [.a 21 (.mv (.t 0)), .a 22 (.mv (.t 5)), .a 23 (.mv (.t 4)), .a 24 (.bin .and (.t 23) (.c (.int .u64 4294967295))), .a 25 (.iA 1 (.t 21) (.t 22)), .n (.st 1 (.t 25) (.t 24))] [5, 21, 22, 23, 24, 25] [])
  (.reg [] [.a 26 (.mv (.t 4)), .a 27 (.bin .shr (.t 26) (.c (.int .u64 32))), .a 4 (.mv (.t 27))] [26, 27] [])))))
  (.reg [] [.a 28 (.bin .add (.t 8) (.c (.int .i64 1))), .a 8 (.mv (.t 28))] [28] []))))
def nat_give : R.Fn := ⟨2, [], (.seq (.reg [] [.a 4 (.mv (.c (.int .u64 0)))] [] [])
  (.seq (.reg [] [.a 6 (.mv (.t 0)), .a 7 (.ln (.t 6)), .a 8 (.mv (.c (.int .i64 0)))] [6] [])
  (.block 0 (.loop [] [] nat_give.b0))))⟩
def nat_give.hint : R.Hint := { kill := [(1, [6], []), (3, [9, 10], []), (4, [11, 12, 13, 14, 15, 16, 17, 18, 19, 20], []), (5, [5, 21, 22, 23, 24, 25], []), (6, [26, 27], []), (7, [28], [])], own := true }
theorem nat_give.ok : cFn Tryz.prog nat_give.hint Tryz.f132 = some nat_give := by kernel_rfl
def dendronref01_Over.b2 : R.C := (.seq (.seq (.reg [] [.a 35 (.mv (.t 11)), .a 36 (.mv (.t 10)), .a 37 (.bin .sub (.t 35) (.t 36)), .a 38 (.bin .gtr (.t 37) (.c (.int .i64 1)))] [35, 36, 37] [])
  (.cond (.t 38) .skip (.exit 2)))
  (.block 3 (.seq (.reg [] [.a 39 (.mv (.t 10)), .a 40 (.mv (.t 11)), .a 41 (.bin .add (.t 39) (.t 40)), .a 42 (.bin .quo (.t 41) (.c (.int .i64 2))), .a 12 (.mv (.t 42))] [38, 39, 40, 41, 42] [])
  (.seq (.reg [] [.a 43 (.mv (.t 1)), .a 44 (.mv (.t 12)), .a 45 (.call F.dendronref01_Small [(.t 44)]), .a 46 (.call F.dendronref01_Times [(.t 43), (.t 45)]), .a 47 (.mv (.t 7)), .a 48 (.call F.dendronref01_Order [(.t 46), (.t 47)]), .a 49 (.bin .leq (.t 48) (.c (.int .i64 0)))] [43, 44, 45, 46, 47, 48] [])
  (.cond (.t 49) (.reg [] [.a 50 (.mv (.t 12)), .a 10 (.mv (.t 50))] [12, 49, 50] []) (.reg [] [.a 51 (.mv (.t 12)), .a 11 (.mv (.t 51))] [12, 49, 51] []))))))
def dendronref01_Over.b0 : R.C := (.seq (.seq (.reg [] [.a 19 (.mv (.t 8)), .a 20 (.bin .geq (.t 19) (.c (.int .i64 0)))] [19] [])
  (.cond (.t 20) .skip (.exit 0)))
  (.seq (.block 1 (.seq (.reg [] [.a 9 (.nil 1)] [20] [])
  (.seq (.reg [] [.a 23 (.mv (.t 9)), .a 24 (.mv (.t 0)), .a 25 (.mv (.t 8)), .a 26 (.iA 1 (.t 24) (.t 25)), .a 27 (.ld 1 false (.t 26)), .a 28 (.lit 1 1 [(.int .i64 0)] [(0, 1, (.t 27))]), .a 29 (.app 1 8 (.t 23) (.t 28)), .a 9 (.mv (.t 29))] [23, 24, 25, 26, 27, 28, 29] [])
  (.seq (.reg [] [.a 30 (.mv (.t 9)), .a 31 (.mv (.t 7)), .a 32 (.app 1 8 (.t 30) (.t 31)), .a 9 (.mv (.t 32))] [7, 30, 31, 32] [])
  (.seq (.reg [9] [.a 33 (.mv (.t 9)), .a 34 (.call F.dendronref01_Trim [(.t 33)]), .a 7 (.mv (.t 34))] [9, 33, 34] [9])
  (.seq (.reg [] [.a 10 (.mv (.c (.int .i64 0)))] [] [])
  (.seq (.reg [] [.a 11 (.mv (.c (.int .i64 10000)))] [] [])
  (.seq (.block 2 (.loop [] [] dendronref01_Over.b2))
  (.seq (.reg [] [.a 52 (.mv (.t 6)), .a 53 (.mv (.t 8)), .a 54 (.mv (.t 10)), .a 55 (.iA 1 (.t 52) (.t 53)), .n (.st 1 (.t 55) (.t 54))] [11, 38, 52, 53, 54, 55] [])
  (.reg [] [.a 56 (.mv (.t 7)), .a 57 (.mv (.t 1)), .a 58 (.mv (.t 10)), .a 59 (.call F.dendronref01_Small [(.t 58)]), .a 60 (.call F.dendronref01_Times [(.t 57), (.t 59)]), .a 61 (.call F.dendronref01_Minus [(.t 56), (.t 60)]), .a 7 (.mv (.t 61))] [10, 56, 57, 58, 59, 60, 61] []))))))))))
  (.reg [] [.a 21 (.mv (.t 8)), .a 22 (.bin .sub (.t 21) (.c (.int .i64 1))), .a 8 (.mv (.t 22))] [21, 22] [])))
def dendronref01_Over : R.Fn := ⟨2, [(.t 4), (.t 5)], (.seq (.reg [] [.a 4 (.mv (.c (.sl 1 []))), .a 5 (.mv (.c (.sl 1 [])))] [4, 5] [])
  (.seq (.reg [] [.a 13 (.mv (.t 0)), .a 14 (.ln (.t 13)), .a 15 (.mk 1 8 [(.int .i64 0)] (.t 14) (.t 14)), .a 6 (.mv (.t 15))] [13, 14, 15] [])
  (.seq (.reg [] [.a 7 (.mv (.c (.sl 1 [])))] [] [])
  (.seq (.seq (.reg [] [.a 16 (.mv (.t 0)), .a 17 (.ln (.t 16)), .a 18 (.bin .sub (.t 17) (.c (.int .i64 1))), .a 8 (.mv (.t 18))] [16, 17, 18] [])
  (.block 0 (.loop [] [] dendronref01_Over.b0)))
  (.seq (.reg [6] [.a 62 (.mv (.t 6)), .a 63 (.call F.dendronref01_Trim [(.t 62)]), .a 64 (.mv (.t 7)), .a 4 (.mv (.t 63)), .a 5 (.mv (.t 64))] [0, 1, 6, 7, 8, 20, 62, 63, 64] [15])
  .ret)))))⟩
def dendronref01_Over.hint : R.Hint := { nil := [9], pub := [(9, [9]), (19, [6])], kill := [(0, [4, 5], []), (1, [13, 14, 15], []), (3, [16, 17, 18], []), (4, [19], []), (5, [21, 22], []), (6, [20], []), (7, [23, 24, 25, 26, 27, 28, 29], []), (8, [7, 30, 31, 32], []), (9, [9, 33, 34], [9]), (12, [35, 36, 37], []), (13, [38, 39, 40, 41, 42], []), (14, [43, 44, 45, 46, 47, 48], []), (15, [12, 49, 50], []), (16, [12, 49, 51], []), (17, [11, 38, 52, 53, 54, 55], []), (18, [10, 56, 57, 58, 59, 60, 61], []), (19, [0, 1, 6, 7, 8, 20, 62, 63, 64], [15])] }
theorem dendronref01_Over.ok : cFn Tryz.prog dendronref01_Over.hint Tryz.f133 = some dendronref01_Over := by kernel_rfl
def dendronref01_digit : R.Fn := ⟨2, [(.t 4)], (.seq (.reg [] [.a 4 (.mv (.c (.int .i64 0)))] [4] [])
  (.seq (.seq (.reg [] [.a 5 (.mv (.t 1)), .a 6 (.mv (.t 0)), .a 7 (.ln (.t 6)), .a 8 (.bin .lss (.t 5) (.t 7))] [5, 6, 7] [])
  (.cond (.t 8) (.seq (.reg [] [.a 9 (.mv (.t 0)), .a 10 (.mv (.t 1)), .a 11 (.iA 1 (.t 9) (.t 10)), .a 12 (.ld 1 false (.t 11)), .a 4 (.mv (.t 12))] [0, 1, 8, 9, 10, 11, 12] [])
  .ret) .skip))
  (.seq (.reg [] [.a 4 (.mv (.c (.int .i64 0)))] [0, 1, 8] [])
  .ret)))⟩
def dendronref01_digit.hint : R.Hint := { kill := [(0, [4], []), (1, [5, 6, 7], []), (2, [0, 1, 8, 9, 10, 11, 12], []), (3, [0, 1, 8], [])] }
theorem dendronref01_digit.ok : cFn Tryz.prog dendronref01_digit.hint Tryz.f134 = some dendronref01_digit := by kernel_rfl
def dendronref01_Trim.b0 : R.C := (.seq (.seq (.reg [] [.a 6 (.mv (.t 3)), .a 7 (.bin .gtr (.t 6) (.c (.int .i64 0))), .a 8 (.mv (.t 7)), .g 9 8 true (.mv (.t 0)), .g 10 8 true (.mv (.t 3)), .g 11 8 true (.bin .sub (.t 10) (.c (.int .i64 1))), .g 12 8 true (.iA 1 (.t 9) (.t 11)), .g 13 8 true (.ld 1 false (.t 12)), .g 14 8 true (.bin .eql (.t 13) (.c (.int .i64 0))), .a 15 (.pick (.t 8) (.t 14) (.c (.bool false)))] [6, 7, 8, 9, 10, 11, 12, 13, 14] [])
  (.cond (.t 15) .skip (.exit 0)))
  (.block 1 (.reg [] [.a 16 (.mv (.t 3)), .a 17 (.bin .sub (.t 16) (.c (.int .i64 1))), .a 3 (.mv (.t 17))] [15, 16, 17] [])))
def dendronref01_Trim : R.Fn := ⟨1, [(.t 2)], (.seq (.reg [] [.a 2 (.mv (.c (.sl 1 [])))] [2] [])
  (.seq (.reg [] [.a 4 (.mv (.t 0)), .a 5 (.ln (.t 4)), .a 3 (.mv (.t 5))] [4, 5] [])
  (.seq (.block 0 (.loop [] [] dendronref01_Trim.b0))
  (.seq (.reg [] [.a 18 (.mv (.t 0)), .a 19 (.mv (.t 3)), .a 20 (.slc 1 (.t 18) none (some (.t 19))), .a 2 (.mv (.t 20))] [0, 3, 15, 18, 19, 20] [])
  .ret))))⟩
def dendronref01_Trim.hint : R.Hint := { kill := [(0, [2], []), (1, [4, 5], []), (2, [6, 7, 8, 9, 10, 11, 12, 13, 14], []), (3, [15, 16, 17], []), (4, [0, 3, 15, 18, 19, 20], [])] }
theorem dendronref01_Trim.ok : cFn Tryz.prog dendronref01_Trim.hint Tryz.f135 = some dendronref01_Trim := by kernel_rfl
def dendronref01_Minus.b0 : R.C := (.seq (.seq (.reg [] [.a 9 (.mv (.t 7)), .a 10 (.mv (.t 0)), .a 11 (.ln (.t 10)), .a 12 (.bin .lss (.t 9) (.t 11))] [9, 10, 11] [])
  (.cond (.t 12) .skip (.exit 0)))
  (.seq (.block 1 (.seq (.reg [] [.a 15 (.mv (.t 0)), .a 16 (.mv (.t 7)), .a 17 (.iA 1 (.t 15) (.t 16)), .a 18 (.ld 1 false (.t 17)), .a 19 (.mv (.t 1)), .a 20 (.mv (.t 7)), .a 21 (.call F.dendronref01_digit [(.t 19), (.t 20)]), .a 22 (.bin .sub (.t 18) (.t 21)), .a 23 (.mv (.t 6)), .a 24 (.bin .sub (.t 22) (.t 23)), .a 8 (.mv (.t 24))] [6, 12, 15, 16, 17, 18, 19, 20, 21, 22, 23, 24] [])
  (.seq (.reg [] [.a 6 (.mv (.c (.int .i64 0)))] [] [])
  (.seq (.seq (.reg [] [.a 25 (.mv (.t 8)), .a 26 (.bin .lss (.t 25) (.c (.int .i64 0)))] [25] [])
  (.cond (.t 26) (.seq (.reg [] [.a 27 (.mv (.t 8)), .a 28 (.bin .add (.t 27) (.c (.int .i64 10000))), .a 8 (.mv (.t 28))] [6, 26, 27, 28] [])
  (.reg [] [.a 6 (.mv (.c (.int .i64 1)))] [] [])) .skip))
  (.reg [] [.a 29 (.mv (.t 5)), .a 30 (.mv (.t 8)), .a 31 (.lit 1 1 [(.int .i64 0)] [(0, 1, (.t 30))]), .a 32 (.app 1 8 (.t 29) (.t 31)), .a 5 (.mv (.t 32))] [8, 26, 29, 30, 31, 32] [])))))
  (.reg [] [.a 13 (.mv (.t 7)), .a 14 (.bin .add (.t 13) (.c (.int .i64 1))), .a 7 (.mv (.t 14))] [13, 14] [])))
def dendronref01_Minus : R.Fn := ⟨2, [(.t 4)], (.seq (.reg [] [.a 4 (.mv (.c (.sl 1 [])))] [4] [])
  (.seq (.reg [] [.a 5 (.nil 1)] [] [])
  (.seq (.reg [] [.a 6 (.mv (.c (.int .i64 0)))] [] [])
  (.seq (.seq (.reg [] [.a 7 (.mv (.c (.int .i64 0)))] [] [])
  (.block 0 (.loop [] [] dendronref01_Minus.b0)))
  (.seq (.reg [5] [.a 33 (.mv (.t 5)), .a 34 (.call F.dendronref01_Trim [(.t 33)]), .a 4 (.mv (.t 34))] [0, 1, 5, 6, 7, 12, 33, 34] [5])
  .ret)))))⟩
def dendronref01_Minus.hint : R.Hint := { nil := [5], pub := [(12, [5])], kill := [(0, [4], []), (4, [9, 10, 11], []), (5, [13, 14], []), (6, [6, 12, 15, 16, 17, 18, 19, 20, 21, 22, 23, 24], []), (8, [25], []), (9, [6, 26, 27, 28], []), (11, [8, 26, 29, 30, 31, 32], []), (12, [0, 1, 5, 6, 7, 12, 33, 34], [5])] }
theorem dendronref01_Minus.ok : cFn Tryz.prog dendronref01_Minus.hint Tryz.f140 = some dendronref01_Minus := by kernel_rfl
def tab : List (Nat × R.Fn) := [(F.dendronlaw20_KernelSystems, dendronlaw20_KernelSystems), (F.dendronlaw19_Few, dendronlaw19_Few), (F.dendronlaw19_Size, dendronlaw19_Size), (F.weigh_New, weigh_New), (F.ratio_Zero, ratio_Zero), (F.dendronref19_In, dendronref19_In), (F.dendronlaw19_Count, dendronlaw19_Count), (F.ratio_Add, ratio_Add), (F.dendronlaw19_two, dendronlaw19_two), (F.ratio_Mul, ratio_Mul), (F.ratio_Sub, ratio_Sub), (F.ratio_Same, ratio_Same), (F.kernel_System, kernel_System), (F.dendronlaw20_awake, dendronlaw20_awake), (F.ratio_One, ratio_One), (F.kernel_Weight, kernel_Weight), (F.solve_Least, solve_Least), (F.game_Shapley, game_Shapley), (F.dendronref10_All, dendronref10_All), (F.dendronlaw19_number, dendronlaw19_number), (F.game_Players, game_Players), (F.bits_OnesCount, bits_OnesCount), (F.ratio_Of, ratio_Of), (F.dendron_weigh_Table_Weight, dendron_weigh_Table_Weight), (F.nat_Of, nat_Of), (F.dendron_weigh_Table_quotient, dendron_weigh_Table_quotient), (F.ratio_Frac, ratio_Frac), (F.ratio_Clean, ratio_Clean), (F.ratio_form, ratio_form), (F.whole_Add, whole_Add), (F.whole_Mul, whole_Mul), (F.ratio_den, ratio_den), (F.nat_Mul, nat_Mul), (F.ratio_Neg, ratio_Neg), (F.nat_Gcd, nat_Gcd), (F.nat_Cmp, nat_Cmp), (F.ratio_Cmp, ratio_Cmp), (F.whole_Choose, whole_Choose), (F.ratio_Make, ratio_Make), (F.whole_Of, whole_Of), (F.solve_Size, solve_Size), (F.ratio_Sign, ratio_Sign), (F.solve_Flip, solve_Flip), (F.solve_Mul, solve_Mul), (F.solve_Apply, solve_Apply), (F.solve_Inverse, solve_Inverse), (F.dendron_weigh_Table_All, dendron_weigh_Table_All), (F.dendronref10_Is, dendronref10_Is), (F.bits_Len, bits_Len), (F.bits_OnesCount32, bits_OnesCount32), (F.bits_OnesCount64, bits_OnesCount64), (F.nat_trim, nat_trim), (F.nat_Clean, nat_Clean), (F.whole_Clean, whole_Clean), (F.nat_DivMod, nat_DivMod), (F.whole_sign, whole_sign), (F.nat_Add, nat_Add), (F.nat_Sub, nat_Sub), (F.whole_Neg, whole_Neg), (F.nat_euclid, nat_euclid), (F.nat_zeros, nat_zeros), (F.nat_shr, nat_shr), (F.nat_order, nat_order), (F.nat_shl, nat_shl), (F.nat_rest, nat_rest), (F.nat_minus, nat_minus), (F.whole_Cmp, whole_Cmp), (F.whole_Sign, whole_Sign), (F.solve_Dot, solve_Dot), (F.solve_wide, solve_wide), (F.solve_Unit, solve_Unit), (F.dendron_solve_reducer_run, dendron_solve_reducer_run), (F.dendronref03_Is, dendronref03_Is), (F.dendronref03_From, dendronref03_From), (F.bits_Len32, bits_Len32), (F.bits_Len64, bits_Len64), (F.sync_Once_Do, sync_Once_Do), (F.weigh_products, weigh_products), (F.nat_small, nat_small), (F.nat_long, nat_long), (F.nat_limb, nat_limb), (F.nat_To, nat_To), (F.solve_Copy, solve_Copy), (F.dendron_solve_reducer_pivot, dendron_solve_reducer_pivot), (F.dendron_solve_reducer_clear, dendron_solve_reducer_clear), (F.dendronref03_Right, dendronref03_Right), (F.dendronref03_Order, dendronref03_Order), (F.dendronref01_From, dendronref01_From), (F.dendronref03_Small, dendronref03_Small), (F.dendronref02_From, dendronref02_From), (F.bits_LeadingZeros32, bits_LeadingZeros32), (F.nat_digit, nat_digit), (F.ratio_Inv, ratio_Inv), (F.dendronref01_Right, dendronref01_Right), (F.dendronref01_Gcd, dendronref01_Gcd), (F.dendronref01_Order, dendronref01_Order), (F.dendronref01_Small, dendronref01_Small), (F.dendronref02_Order, dendronref02_Order), (F.dendronref02_Times, dendronref02_Times), (F.dendronref03_den, dendronref03_den), (F.dendronref01_Plus, dendronref01_Plus), (F.dendronref01_Times, dendronref01_Times), (F.dendronref02_Small, dendronref02_Small), (F.dendronref02_Make, dendronref02_Make), (F.sync_Mutex_Lock, sync_Mutex_Lock), (F.sync_Mutex_Unlock, sync_Mutex_Unlock), (F.nat_take, nat_take), (F.nat_give, nat_give), (F.dendronref01_Over, dendronref01_Over), (F.dendronref01_digit, dendronref01_digit), (F.dendronref01_Trim, dendronref01_Trim), (F.dendronref01_Minus, dendronref01_Minus)]
def ip : R.Ip := fun f => aget tab f
theorem dendronlaw20_KernelSystems.ip : ip F.dendronlaw20_KernelSystems = some dendronlaw20_KernelSystems := rfl
theorem dendronlaw19_Few.ip : ip F.dendronlaw19_Few = some dendronlaw19_Few := rfl
theorem dendronlaw19_Size.ip : ip F.dendronlaw19_Size = some dendronlaw19_Size := rfl
theorem weigh_New.ip : ip F.weigh_New = some weigh_New := rfl
theorem ratio_Zero.ip : ip F.ratio_Zero = some ratio_Zero := rfl
theorem dendronref19_In.ip : ip F.dendronref19_In = some dendronref19_In := rfl
theorem dendronlaw19_Count.ip : ip F.dendronlaw19_Count = some dendronlaw19_Count := rfl
theorem ratio_Add.ip : ip F.ratio_Add = some ratio_Add := rfl
theorem dendronlaw19_two.ip : ip F.dendronlaw19_two = some dendronlaw19_two := rfl
theorem ratio_Mul.ip : ip F.ratio_Mul = some ratio_Mul := rfl
theorem ratio_Sub.ip : ip F.ratio_Sub = some ratio_Sub := rfl
theorem ratio_Same.ip : ip F.ratio_Same = some ratio_Same := rfl
theorem kernel_System.ip : ip F.kernel_System = some kernel_System := rfl
theorem dendronlaw20_awake.ip : ip F.dendronlaw20_awake = some dendronlaw20_awake := rfl
theorem ratio_One.ip : ip F.ratio_One = some ratio_One := rfl
theorem kernel_Weight.ip : ip F.kernel_Weight = some kernel_Weight := rfl
theorem solve_Least.ip : ip F.solve_Least = some solve_Least := rfl
theorem game_Shapley.ip : ip F.game_Shapley = some game_Shapley := rfl
theorem dendronref10_All.ip : ip F.dendronref10_All = some dendronref10_All := rfl
theorem dendronlaw19_number.ip : ip F.dendronlaw19_number = some dendronlaw19_number := rfl
theorem game_Players.ip : ip F.game_Players = some game_Players := rfl
theorem bits_OnesCount.ip : ip F.bits_OnesCount = some bits_OnesCount := rfl
theorem ratio_Of.ip : ip F.ratio_Of = some ratio_Of := rfl
theorem dendron_weigh_Table_Weight.ip : ip F.dendron_weigh_Table_Weight = some dendron_weigh_Table_Weight := rfl
theorem nat_Of.ip : ip F.nat_Of = some nat_Of := rfl
theorem dendron_weigh_Table_quotient.ip : ip F.dendron_weigh_Table_quotient = some dendron_weigh_Table_quotient := rfl
theorem ratio_Frac.ip : ip F.ratio_Frac = some ratio_Frac := rfl
theorem ratio_Clean.ip : ip F.ratio_Clean = some ratio_Clean := rfl
theorem ratio_form.ip : ip F.ratio_form = some ratio_form := rfl
theorem whole_Add.ip : ip F.whole_Add = some whole_Add := rfl
theorem whole_Mul.ip : ip F.whole_Mul = some whole_Mul := rfl
theorem ratio_den.ip : ip F.ratio_den = some ratio_den := rfl
theorem nat_Mul.ip : ip F.nat_Mul = some nat_Mul := rfl
theorem ratio_Neg.ip : ip F.ratio_Neg = some ratio_Neg := rfl
theorem nat_Gcd.ip : ip F.nat_Gcd = some nat_Gcd := rfl
theorem nat_Cmp.ip : ip F.nat_Cmp = some nat_Cmp := rfl
theorem ratio_Cmp.ip : ip F.ratio_Cmp = some ratio_Cmp := rfl
theorem whole_Choose.ip : ip F.whole_Choose = some whole_Choose := rfl
theorem ratio_Make.ip : ip F.ratio_Make = some ratio_Make := rfl
theorem whole_Of.ip : ip F.whole_Of = some whole_Of := rfl
theorem solve_Size.ip : ip F.solve_Size = some solve_Size := rfl
theorem ratio_Sign.ip : ip F.ratio_Sign = some ratio_Sign := rfl
theorem solve_Flip.ip : ip F.solve_Flip = some solve_Flip := rfl
theorem solve_Mul.ip : ip F.solve_Mul = some solve_Mul := rfl
theorem solve_Apply.ip : ip F.solve_Apply = some solve_Apply := rfl
theorem solve_Inverse.ip : ip F.solve_Inverse = some solve_Inverse := rfl
theorem dendron_weigh_Table_All.ip : ip F.dendron_weigh_Table_All = some dendron_weigh_Table_All := rfl
theorem dendronref10_Is.ip : ip F.dendronref10_Is = some dendronref10_Is := rfl
theorem bits_Len.ip : ip F.bits_Len = some bits_Len := rfl
theorem bits_OnesCount32.ip : ip F.bits_OnesCount32 = some bits_OnesCount32 := rfl
theorem bits_OnesCount64.ip : ip F.bits_OnesCount64 = some bits_OnesCount64 := rfl
theorem nat_trim.ip : ip F.nat_trim = some nat_trim := rfl
theorem nat_Clean.ip : ip F.nat_Clean = some nat_Clean := rfl
theorem whole_Clean.ip : ip F.whole_Clean = some whole_Clean := rfl
theorem nat_DivMod.ip : ip F.nat_DivMod = some nat_DivMod := rfl
theorem whole_sign.ip : ip F.whole_sign = some whole_sign := rfl
theorem nat_Add.ip : ip F.nat_Add = some nat_Add := rfl
theorem nat_Sub.ip : ip F.nat_Sub = some nat_Sub := rfl
theorem whole_Neg.ip : ip F.whole_Neg = some whole_Neg := rfl
theorem nat_euclid.ip : ip F.nat_euclid = some nat_euclid := rfl
theorem nat_zeros.ip : ip F.nat_zeros = some nat_zeros := rfl
theorem nat_shr.ip : ip F.nat_shr = some nat_shr := rfl
theorem nat_order.ip : ip F.nat_order = some nat_order := rfl
theorem nat_shl.ip : ip F.nat_shl = some nat_shl := rfl
theorem nat_rest.ip : ip F.nat_rest = some nat_rest := rfl
theorem nat_minus.ip : ip F.nat_minus = some nat_minus := rfl
theorem whole_Cmp.ip : ip F.whole_Cmp = some whole_Cmp := rfl
theorem whole_Sign.ip : ip F.whole_Sign = some whole_Sign := rfl
theorem solve_Dot.ip : ip F.solve_Dot = some solve_Dot := rfl
theorem solve_wide.ip : ip F.solve_wide = some solve_wide := rfl
theorem solve_Unit.ip : ip F.solve_Unit = some solve_Unit := rfl
theorem dendron_solve_reducer_run.ip : ip F.dendron_solve_reducer_run = some dendron_solve_reducer_run := rfl
theorem dendronref03_Is.ip : ip F.dendronref03_Is = some dendronref03_Is := rfl
theorem dendronref03_From.ip : ip F.dendronref03_From = some dendronref03_From := rfl
theorem bits_Len32.ip : ip F.bits_Len32 = some bits_Len32 := rfl
theorem bits_Len64.ip : ip F.bits_Len64 = some bits_Len64 := rfl
theorem sync_Once_Do.ip : ip F.sync_Once_Do = some sync_Once_Do := rfl
theorem weigh_products.ip : ip F.weigh_products = some weigh_products := rfl
theorem nat_small.ip : ip F.nat_small = some nat_small := rfl
theorem nat_long.ip : ip F.nat_long = some nat_long := rfl
theorem nat_limb.ip : ip F.nat_limb = some nat_limb := rfl
theorem nat_To.ip : ip F.nat_To = some nat_To := rfl
theorem solve_Copy.ip : ip F.solve_Copy = some solve_Copy := rfl
theorem dendron_solve_reducer_pivot.ip : ip F.dendron_solve_reducer_pivot = some dendron_solve_reducer_pivot := rfl
theorem dendron_solve_reducer_clear.ip : ip F.dendron_solve_reducer_clear = some dendron_solve_reducer_clear := rfl
theorem dendronref03_Right.ip : ip F.dendronref03_Right = some dendronref03_Right := rfl
theorem dendronref03_Order.ip : ip F.dendronref03_Order = some dendronref03_Order := rfl
theorem dendronref01_From.ip : ip F.dendronref01_From = some dendronref01_From := rfl
theorem dendronref03_Small.ip : ip F.dendronref03_Small = some dendronref03_Small := rfl
theorem dendronref02_From.ip : ip F.dendronref02_From = some dendronref02_From := rfl
theorem bits_LeadingZeros32.ip : ip F.bits_LeadingZeros32 = some bits_LeadingZeros32 := rfl
theorem nat_digit.ip : ip F.nat_digit = some nat_digit := rfl
theorem ratio_Inv.ip : ip F.ratio_Inv = some ratio_Inv := rfl
theorem dendronref01_Right.ip : ip F.dendronref01_Right = some dendronref01_Right := rfl
theorem dendronref01_Gcd.ip : ip F.dendronref01_Gcd = some dendronref01_Gcd := rfl
theorem dendronref01_Order.ip : ip F.dendronref01_Order = some dendronref01_Order := rfl
theorem dendronref01_Small.ip : ip F.dendronref01_Small = some dendronref01_Small := rfl
theorem dendronref02_Order.ip : ip F.dendronref02_Order = some dendronref02_Order := rfl
theorem dendronref02_Times.ip : ip F.dendronref02_Times = some dendronref02_Times := rfl
theorem dendronref03_den.ip : ip F.dendronref03_den = some dendronref03_den := rfl
theorem dendronref01_Plus.ip : ip F.dendronref01_Plus = some dendronref01_Plus := rfl
theorem dendronref01_Times.ip : ip F.dendronref01_Times = some dendronref01_Times := rfl
theorem dendronref02_Small.ip : ip F.dendronref02_Small = some dendronref02_Small := rfl
theorem dendronref02_Make.ip : ip F.dendronref02_Make = some dendronref02_Make := rfl
theorem sync_Mutex_Lock.ip : ip F.sync_Mutex_Lock = some sync_Mutex_Lock := rfl
theorem sync_Mutex_Unlock.ip : ip F.sync_Mutex_Unlock = some sync_Mutex_Unlock := rfl
theorem nat_take.ip : ip F.nat_take = some nat_take := rfl
theorem nat_give.ip : ip F.nat_give = some nat_give := rfl
theorem dendronref01_Over.ip : ip F.dendronref01_Over = some dendronref01_Over := rfl
theorem dendronref01_digit.ip : ip F.dendronref01_digit = some dendronref01_digit := rfl
theorem dendronref01_Trim.ip : ip F.dendronref01_Trim = some dendronref01_Trim := rfl
theorem dendronref01_Minus.ip : ip F.dendronref01_Minus = some dendronref01_Minus := rfl
theorem tab_ok : ∀ p ∈ tab, ∃ h gf, Tryz.prog.funcs[p.1]? = some gf ∧ cFn Tryz.prog h gf = some p.2 := by
  simp only [tab, List.forall_mem_cons]
  exact ⟨⟨dendronlaw20_KernelSystems.hint, Tryz.f4, Tryz.func4, dendronlaw20_KernelSystems.ok⟩, ⟨dendronlaw19_Few.hint, Tryz.f6, Tryz.func6, dendronlaw19_Few.ok⟩, ⟨dendronlaw19_Size.hint, Tryz.f8, Tryz.func8, dendronlaw19_Size.ok⟩, ⟨weigh_New.hint, Tryz.f11, Tryz.func11, weigh_New.ok⟩, ⟨ratio_Zero.hint, Tryz.f12, Tryz.func12, ratio_Zero.ok⟩, ⟨dendronref19_In.hint, Tryz.f13, Tryz.func13, dendronref19_In.ok⟩, ⟨dendronlaw19_Count.hint, Tryz.f15, Tryz.func15, dendronlaw19_Count.ok⟩, ⟨ratio_Add.hint, Tryz.f16, Tryz.func16, ratio_Add.ok⟩, ⟨dendronlaw19_two.hint, Tryz.f17, Tryz.func17, dendronlaw19_two.ok⟩, ⟨ratio_Mul.hint, Tryz.f18, Tryz.func18, ratio_Mul.ok⟩, ⟨ratio_Sub.hint, Tryz.f19, Tryz.func19, ratio_Sub.ok⟩, ⟨ratio_Same.hint, Tryz.f21, Tryz.func21, ratio_Same.ok⟩, ⟨kernel_System.hint, Tryz.f22, Tryz.func22, kernel_System.ok⟩, ⟨dendronlaw20_awake.hint, Tryz.f23, Tryz.func23, dendronlaw20_awake.ok⟩, ⟨ratio_One.hint, Tryz.f24, Tryz.func24, ratio_One.ok⟩, ⟨kernel_Weight.hint, Tryz.f25, Tryz.func25, kernel_Weight.ok⟩, ⟨solve_Least.hint, Tryz.f26, Tryz.func26, solve_Least.ok⟩, ⟨game_Shapley.hint, Tryz.f27, Tryz.func27, game_Shapley.ok⟩, ⟨dendronref10_All.hint, Tryz.f28, Tryz.func28, dendronref10_All.ok⟩, ⟨dendronlaw19_number.hint, Tryz.f30, Tryz.func30, dendronlaw19_number.ok⟩, ⟨game_Players.hint, Tryz.f31, Tryz.func31, game_Players.ok⟩, ⟨bits_OnesCount.hint, Tryz.f32, Tryz.func32, bits_OnesCount.ok⟩, ⟨ratio_Of.hint, Tryz.f34, Tryz.func34, ratio_Of.ok⟩, ⟨dendron_weigh_Table_Weight.hint, Tryz.f38, Tryz.func38, dendron_weigh_Table_Weight.ok⟩, ⟨nat_Of.hint, Tryz.f39, Tryz.func39, nat_Of.ok⟩, ⟨dendron_weigh_Table_quotient.hint, Tryz.f40, Tryz.func40, dendron_weigh_Table_quotient.ok⟩, ⟨ratio_Frac.hint, Tryz.f41, Tryz.func41, ratio_Frac.ok⟩, ⟨ratio_Clean.hint, Tryz.f42, Tryz.func42, ratio_Clean.ok⟩, ⟨ratio_form.hint, Tryz.f43, Tryz.func43, ratio_form.ok⟩, ⟨whole_Add.hint, Tryz.f44, Tryz.func44, whole_Add.ok⟩, ⟨whole_Mul.hint, Tryz.f45, Tryz.func45, whole_Mul.ok⟩, ⟨ratio_den.hint, Tryz.f46, Tryz.func46, ratio_den.ok⟩, ⟨nat_Mul.hint, Tryz.f47, Tryz.func47, nat_Mul.ok⟩, ⟨ratio_Neg.hint, Tryz.f48, Tryz.func48, ratio_Neg.ok⟩, ⟨nat_Gcd.hint, Tryz.f51, Tryz.func51, nat_Gcd.ok⟩, ⟨nat_Cmp.hint, Tryz.f52, Tryz.func52, nat_Cmp.ok⟩, ⟨ratio_Cmp.hint, Tryz.f53, Tryz.func53, ratio_Cmp.ok⟩, ⟨whole_Choose.hint, Tryz.f54, Tryz.func54, whole_Choose.ok⟩, ⟨ratio_Make.hint, Tryz.f55, Tryz.func55, ratio_Make.ok⟩, ⟨whole_Of.hint, Tryz.f56, Tryz.func56, whole_Of.ok⟩, ⟨solve_Size.hint, Tryz.f57, Tryz.func57, solve_Size.ok⟩, ⟨ratio_Sign.hint, Tryz.f58, Tryz.func58, ratio_Sign.ok⟩, ⟨solve_Flip.hint, Tryz.f59, Tryz.func59, solve_Flip.ok⟩, ⟨solve_Mul.hint, Tryz.f60, Tryz.func60, solve_Mul.ok⟩, ⟨solve_Apply.hint, Tryz.f61, Tryz.func61, solve_Apply.ok⟩, ⟨solve_Inverse.hint, Tryz.f62, Tryz.func62, solve_Inverse.ok⟩, ⟨dendron_weigh_Table_All.hint, Tryz.f63, Tryz.func63, dendron_weigh_Table_All.ok⟩, ⟨dendronref10_Is.hint, Tryz.f64, Tryz.func64, dendronref10_Is.ok⟩, ⟨bits_Len.hint, Tryz.f66, Tryz.func66, bits_Len.ok⟩, ⟨bits_OnesCount32.hint, Tryz.f67, Tryz.func67, bits_OnesCount32.ok⟩, ⟨bits_OnesCount64.hint, Tryz.f68, Tryz.func68, bits_OnesCount64.ok⟩, ⟨nat_trim.hint, Tryz.f69, Tryz.func69, nat_trim.ok⟩, ⟨nat_Clean.hint, Tryz.f71, Tryz.func71, nat_Clean.ok⟩, ⟨whole_Clean.hint, Tryz.f72, Tryz.func72, whole_Clean.ok⟩, ⟨nat_DivMod.hint, Tryz.f73, Tryz.func73, nat_DivMod.ok⟩, ⟨whole_sign.hint, Tryz.f74, Tryz.func74, whole_sign.ok⟩, ⟨nat_Add.hint, Tryz.f75, Tryz.func75, nat_Add.ok⟩, ⟨nat_Sub.hint, Tryz.f76, Tryz.func76, nat_Sub.ok⟩, ⟨whole_Neg.hint, Tryz.f77, Tryz.func77, whole_Neg.ok⟩, ⟨nat_euclid.hint, Tryz.f78, Tryz.func78, nat_euclid.ok⟩, ⟨nat_zeros.hint, Tryz.f79, Tryz.func79, nat_zeros.ok⟩, ⟨nat_shr.hint, Tryz.f80, Tryz.func80, nat_shr.ok⟩, ⟨nat_order.hint, Tryz.f81, Tryz.func81, nat_order.ok⟩, ⟨nat_shl.hint, Tryz.f82, Tryz.func82, nat_shl.ok⟩, ⟨nat_rest.hint, Tryz.f83, Tryz.func83, nat_rest.ok⟩, ⟨nat_minus.hint, Tryz.f84, Tryz.func84, nat_minus.ok⟩, ⟨whole_Cmp.hint, Tryz.f85, Tryz.func85, whole_Cmp.ok⟩, ⟨whole_Sign.hint, Tryz.f86, Tryz.func86, whole_Sign.ok⟩, ⟨solve_Dot.hint, Tryz.f87, Tryz.func87, solve_Dot.ok⟩, ⟨solve_wide.hint, Tryz.f88, Tryz.func88, solve_wide.ok⟩, ⟨solve_Unit.hint, Tryz.f89, Tryz.func89, solve_Unit.ok⟩, ⟨dendron_solve_reducer_run.hint, Tryz.f90, Tryz.func90, dendron_solve_reducer_run.ok⟩, ⟨dendronref03_Is.hint, Tryz.f91, Tryz.func91, dendronref03_Is.ok⟩, ⟨dendronref03_From.hint, Tryz.f92, Tryz.func92, dendronref03_From.ok⟩, ⟨bits_Len32.hint, Tryz.f93, Tryz.func93, bits_Len32.ok⟩, ⟨bits_Len64.hint, Tryz.f94, Tryz.func94, bits_Len64.ok⟩, ⟨sync_Once_Do.hint, Tryz.f95, Tryz.func95, sync_Once_Do.ok⟩, ⟨weigh_products.hint, Tryz.f97, Tryz.func97, weigh_products.ok⟩, ⟨nat_small.hint, Tryz.f98, Tryz.func98, nat_small.ok⟩, ⟨nat_long.hint, Tryz.f99, Tryz.func99, nat_long.ok⟩, ⟨nat_limb.hint, Tryz.f100, Tryz.func100, nat_limb.ok⟩, ⟨nat_To.hint, Tryz.f101, Tryz.func101, nat_To.ok⟩, ⟨solve_Copy.hint, Tryz.f103, Tryz.func103, solve_Copy.ok⟩, ⟨dendron_solve_reducer_pivot.hint, Tryz.f104, Tryz.func104, dendron_solve_reducer_pivot.ok⟩, ⟨dendron_solve_reducer_clear.hint, Tryz.f105, Tryz.func105, dendron_solve_reducer_clear.ok⟩, ⟨dendronref03_Right.hint, Tryz.f106, Tryz.func106, dendronref03_Right.ok⟩, ⟨dendronref03_Order.hint, Tryz.f107, Tryz.func107, dendronref03_Order.ok⟩, ⟨dendronref01_From.hint, Tryz.f108, Tryz.func108, dendronref01_From.ok⟩, ⟨dendronref03_Small.hint, Tryz.f109, Tryz.func109, dendronref03_Small.ok⟩, ⟨dendronref02_From.hint, Tryz.f110, Tryz.func110, dendronref02_From.ok⟩, ⟨bits_LeadingZeros32.hint, Tryz.f113, Tryz.func113, bits_LeadingZeros32.ok⟩, ⟨nat_digit.hint, Tryz.f114, Tryz.func114, nat_digit.ok⟩, ⟨ratio_Inv.hint, Tryz.f115, Tryz.func115, ratio_Inv.ok⟩, ⟨dendronref01_Right.hint, Tryz.f116, Tryz.func116, dendronref01_Right.ok⟩, ⟨dendronref01_Gcd.hint, Tryz.f117, Tryz.func117, dendronref01_Gcd.ok⟩, ⟨dendronref01_Order.hint, Tryz.f118, Tryz.func118, dendronref01_Order.ok⟩, ⟨dendronref01_Small.hint, Tryz.f119, Tryz.func119, dendronref01_Small.ok⟩, ⟨dendronref02_Order.hint, Tryz.f120, Tryz.func120, dendronref02_Order.ok⟩, ⟨dendronref02_Times.hint, Tryz.f121, Tryz.func121, dendronref02_Times.ok⟩, ⟨dendronref03_den.hint, Tryz.f122, Tryz.func122, dendronref03_den.ok⟩, ⟨dendronref01_Plus.hint, Tryz.f123, Tryz.func123, dendronref01_Plus.ok⟩, ⟨dendronref01_Times.hint, Tryz.f124, Tryz.func124, dendronref01_Times.ok⟩, ⟨dendronref02_Small.hint, Tryz.f125, Tryz.func125, dendronref02_Small.ok⟩, ⟨dendronref02_Make.hint, Tryz.f126, Tryz.func126, dendronref02_Make.ok⟩, ⟨sync_Mutex_Lock.hint, Tryz.f128, Tryz.func128, sync_Mutex_Lock.ok⟩, ⟨sync_Mutex_Unlock.hint, Tryz.f129, Tryz.func129, sync_Mutex_Unlock.ok⟩, ⟨nat_take.hint, Tryz.f131, Tryz.func131, nat_take.ok⟩, ⟨nat_give.hint, Tryz.f132, Tryz.func132, nat_give.ok⟩, ⟨dendronref01_Over.hint, Tryz.f133, Tryz.func133, dendronref01_Over.ok⟩, ⟨dendronref01_digit.hint, Tryz.f134, Tryz.func134, dendronref01_digit.ok⟩, ⟨dendronref01_Trim.hint, Tryz.f135, Tryz.func135, dendronref01_Trim.ok⟩, ⟨dendronref01_Minus.hint, Tryz.f140, Tryz.func140, dendronref01_Minus.ok⟩, by simp⟩
end Go.Proofs.YtgigaimaaijalaaGreatDoor
