/- The interpreter's text of the seat's functions, the first half. -/
import Derived.Test.YtnmbpainnkdonaaGreatDoorRb
import Derived.Test.YtnmbpainnkdonaaGreatDoorChecked
set_option linter.unusedVariables false
set_option maxRecDepth 100000
namespace Go.Proofs.YtnmbpainnkdonaaGreatDoor
open Go Go.Proofs.R
def F.dendronlaw19_GameShapley : Nat := 3
def F.dendronlaw19_GameBanzhaf : Nat := 4
def F.dendronlaw19_GameDuals : Nat := 5
def F.dendronlaw19_GameParts : Nat := 6
def F.dendronlaw19_GameShares : Nat := 7
def F.dendronlaw19_GamePairs : Nat := 8
def F.dendronlaw22_OwenAlones : Nat := 9
def F.dendronlaw22_OwenGroups : Nat := 10
def F.dendronlaw22_OwenValues : Nat := 11
def F.dendronlaw21_OrdersValues : Nat := 12
def F.dendronlaw19_Few : Nat := 13
def F.game_Shapley : Nat := 14
def F.dendronlaw19_Size : Nat := 15
def F.dendronlaw19_awake : Nat := 16
def F.ratio_Sub : Nat := 17
def F.dendronref10_All : Nat := 18
def F.dendronlaw15_Shapley : Nat := 19
def F.ratio_Same : Nat := 20
def F.ratio_Sum : Nat := 21
def F.game_Banzhaf : Nat := 22
def F.ratio_Zero : Nat := 23
def F.dendronref19_In : Nat := 24
def F.ratio_Add : Nat := 25
def F.dendronlaw19_two : Nat := 26
def F.ratio_Mul : Nat := 27
def F.ratio_Frac : Nat := 28
def F.game_Dual : Nat := 29
def F.ratio_Right : Nat := 30
def F.game_ByShares : Nat := 31
def F.dendronlaw19_Count : Nat := 32
def F.game_Shares : Nat := 33
def F.game_FromShares : Nat := 34
def F.dendronlaw19_within : Nat := 35
def F.game_Pairs : Nat := 36
def F.weigh_New : Nat := 37
def F.dendron_weigh_Table_Pair : Nat := 38
def F.dendronlaw22_awake : Nat := 39
def F.owen_Values : Nat := 40
def F.owen_Alone : Nat := 41
def F.dendronlaw22_two : Nat := 42
def F.dendronlaw22_few : Nat := 43
def F.owen_Groups : Nat := 44
def F.dendronlaw22_right : Nat := 45
def F.owen_Quotient : Nat := 46
def F.orders_All : Nat := 47
def F.dendronlaw22_together : Nat := 48
def F.orders_Mean : Nat := 49
def F.orders_Values : Nat := 50
def F.dendronlaw21_awake : Nat := 51
def F.dendronlaw19_number : Nat := 52
def F.game_Players : Nat := 53
def F.dendron_weigh_Table_All : Nat := 54
def F.bits_OnesCount : Nat := 55
def F.ratio_Of : Nat := 56
def F.ratio_Neg : Nat := 57
def F.dendronref10_Is : Nat := 58
def F.dendronlaw15_two : Nat := 59
def F.dendronlaw15_in : Nat := 60
def F.dendronlaw15_size : Nat := 61
def F.dendron_weigh_Table_Weight : Nat := 62
def F.ratio_Cmp : Nat := 63
def F.nat_Of : Nat := 64
def F.ratio_Clean : Nat := 65
def F.ratio_form : Nat := 66
def F.whole_Add : Nat := 67
def F.whole_Mul : Nat := 68
def F.ratio_den : Nat := 69
def F.nat_Mul : Nat := 70
def F.ratio_Make : Nat := 71
def F.whole_Of : Nat := 72
def F.whole_Right : Nat := 73
def F.nat_Right : Nat := 74
def F.nat_Gcd : Nat := 75
def F.nat_Cmp : Nat := 76
def F.game_clean : Nat := 77
def F.game_cross : Nat := 78
def F.dendron_weigh_Table_quotient : Nat := 79
def F.owen_Right : Nat := 80
def F.owen_part : Nat := 81
def F.owen_merged : Nat := 82
def F.orders_First : Nat := 83
def F.orders_Next : Nat := 84
def F.orders_Adds : Nat := 85
def F.dendronlaw21_same : Nat := 86
def F.bits_Len : Nat := 87
def F.bits_OnesCount32 : Nat := 88
def F.bits_OnesCount64 : Nat := 89
def F.whole_Neg : Nat := 90
def F.dendronref03_Is : Nat := 91
def F.dendronref03_From : Nat := 92
def F.whole_Cmp : Nat := 93
def F.nat_trim : Nat := 94
def F.nat_Clean : Nat := 95
def F.whole_Clean : Nat := 96
def F.nat_DivMod : Nat := 97
def F.whole_sign : Nat := 98
def F.nat_Add : Nat := 99
def F.nat_Sub : Nat := 100
def F.whole_Sign : Nat := 101
def F.nat_euclid : Nat := 102
def F.nat_zeros : Nat := 103
def F.nat_shr : Nat := 104
def F.nat_order : Nat := 105
def F.nat_shl : Nat := 106
def F.nat_rest : Nat := 107
def F.nat_minus : Nat := 108
def F.dendron_weigh_Table_at : Nat := 109
def F.orders_Right : Nat := 110
def F.bits_Len32 : Nat := 111
def F.bits_Len64 : Nat := 112
def F.dendronref03_Right : Nat := 113
def F.dendronref03_Order : Nat := 114
def F.dendronref01_From : Nat := 115
def F.dendronref03_Small : Nat := 116
def F.dendronref02_From : Nat := 117
def F.nat_small : Nat := 118
def F.nat_long : Nat := 119
def F.nat_limb : Nat := 120
def F.nat_To : Nat := 121
def F.bits_TrailingZeros64 : Nat := 122
def F.sync_Once_Do : Nat := 123
def F.dendron_weigh_Table_at_1 : Nat := 124
def F.weigh_products : Nat := 125
def F.dendronref01_Right : Nat := 126
def F.dendronref01_Gcd : Nat := 127
def F.dendronref01_Order : Nat := 128
def F.dendronref01_Small : Nat := 129
def F.dendronref02_Order : Nat := 130
def F.dendronref02_Times : Nat := 131
def F.dendronref03_den : Nat := 132
def F.dendronref01_Plus : Nat := 133
def F.dendronref01_Times : Nat := 134
def F.dendronref02_Small : Nat := 135
def F.dendronref02_Make : Nat := 136
def F.bits_LeadingZeros32 : Nat := 137
def F.nat_digit : Nat := 138
def F.sync_atomic_Bool_Load : Nat := 139
def F.sync_Once_doSlow : Nat := 140
def F.dendronref01_Over : Nat := 141
def F.dendronref01_digit : Nat := 142
def F.dendronref01_Trim : Nat := 143
def F.nat_take : Nat := 144
def F.nat_give : Nat := 145
def F.sync_atomic_LoadUint32 : Nat := 146
def F.sync_Mutex_Lock : Nat := 147
def F.sync_Mutex_Unlock : Nat := 148
def F.sync_atomic_Bool_Store : Nat := 149
def F.dendronref01_Minus : Nat := 150
def F.internal_sync_Mutex_Lock : Nat := 151
def F.internal_sync_Mutex_Unlock : Nat := 152
def F.sync_atomic_StoreUint32 : Nat := 153
def F.sync_atomic_b32 : Nat := 154
def F.internal_race_Disable : Nat := 155
def F.sync_atomic_CompareAndSwapInt32 : Nat := 156
def F.internal_race_Enable : Nat := 157
def F.internal_race_Acquire : Nat := 158
def F.internal_sync_Mutex_lockSlow : Nat := 159
def F.internal_race_ReleaseMerge : Nat := 160
def F.sync_atomic_AddInt32 : Nat := 161
def F.internal_sync_Mutex_unlockSlow : Nat := 162
def F.internal_sync_runtime_canSpin : Nat := 163
def F.internal_sync_runtime_doSpin : Nat := 164
def F.internal_sync_throw : Nat := 165
def F.internal_sync_runtime_nanotime : Nat := 166
def F.internal_sync_runtime_SemacquireMutex : Nat := 167
def F.internal_sync_fatal : Nat := 168
def F.internal_sync_runtime_Semrelease : Nat := 169
def F.runtime_boundsError_Error : Nat := 170
def F.runtime_boundsError_RuntimeError : Nat := 171
def F.runtime_errorString_Error : Nat := 172
def F.runtime_errorString_RuntimeError : Nat := 173
def F.runtime_plainError_Error : Nat := 174
def F.runtime_plainError_RuntimeError : Nat := 175
def F.runtime_errorAddressString_Error : Nat := 176
def F.runtime_errorAddressString_RuntimeError : Nat := 177
def F.runtime_TypeAssertionError_Error : Nat := 178
def F.runtime_TypeAssertionError_RuntimeError : Nat := 179
def F.runtime_PanicNilError_Error : Nat := 180
def F.runtime_PanicNilError_RuntimeError : Nat := 181
def F.internal_abi_Type_Align : Nat := 182
def F.internal_runtime_maps_unhashableTypeError_Error : Nat := 183
def F.internal_runtime_maps_unhashableTypeError_RuntimeError : Nat := 184
def F.dendron_api_Errno_Error : Nat := 185
def F.internal_abi_Kind_String : Nat := 186
def F.var_s_door__gosem_cut_vars_holds_initialisers_alone__see_the_manifest_s_row_cutvarsword__look_11__test_files_too_ : Nat := 187
def F.var_s_door__bits_deBruijn64tab_is_laid_by_its_own_initialiser__plain_data__look_11_ : Nat := 188
def F.var_s_door__the_look_of_gosem_cut_vars_went_over_the_folder_that_the_caller_named_as_the_repository_s_root__look_11_ : Nat := 189
def dendronlaw19_GameShapley : R.Fn := ⟨1, [(.t 2)], (.seq (.reg [] [.a 2 (.mv (.c (.bool false)))] [2] [])
  (.seq (.reg [] [.a 7 (.mv (.t 0)), .a 8 (.call F.dendronlaw19_Few [(.t 7)]), .a 0 (.mv (.t 8))] [7, 8] [])
  (.seq (.reg [] [.a 10 (.mv (.t 0)), .a 11 (.call F.game_Shapley [(.t 10)]), .a 9 (.mv (.t 11)), .a 12 (.ext (.t 9) 0), .a 13 (.ext (.t 9) 1), .a 3 (.mv (.t 12)), .a 4 (.mv (.t 13))] [9, 10, 11, 12, 13] [])
  (.seq (.reg [] [.a 14 (.mv (.t 0)), .a 15 (.call F.dendronlaw19_Size [(.t 14)]), .a 5 (.mv (.t 15))] [14, 15] [])
  (.seq (.seq (.reg [] [.a 16 (.mv (.t 5)), .a 17 (.bin .lss (.t 16) (.c (.int .i64 0)))] [16] [])
  (.cond (.t 17) (.seq (.reg [] [.a 18 (.mv (.t 3)), .a 19 (.ln (.t 18)), .a 20 (.bin .eql (.t 19) (.c (.int .i64 0))), .a 21 (.mv (.t 20)), .g 22 21 true (.mv (.t 4)), .g 23 21 true (.bin .eql (.t 22) (.c (.int .i64 1))), .a 24 (.pick (.t 21) (.t 23) (.c (.bool false))), .a 25 (.mv (.t 24)), .g 26 25 true (.call F.dendronlaw19_awake []), .a 27 (.pick (.t 25) (.t 26) (.c (.bool false))), .a 2 (.mv (.t 27))] [0, 3, 4, 5, 17, 18, 19, 20, 21, 22, 23, 24, 25, 26, 27] [])
  .ret) .skip))
  (.seq (.reg [] [.a 28 (.mv (.t 0)), .a 29 (.mv (.t 0)), .a 30 (.ln (.t 29)), .a 31 (.bin .sub (.t 30) (.c (.int .i64 1))), .a 32 (.iA 3 (.t 28) (.t 31)), .a 33 (.ld 3 true (.t 32)), .a 34 (.mv (.t 0)), .a 35 (.iA 3 (.t 34) (.c (.int .i64 0))), .a 36 (.ld 3 true (.t 35)), .a 37 (.call F.ratio_Sub [(.t 33), (.t 36)]), .a 6 (.new [(.bool false), (.sl 1 []), (.sl 1 [])]), .n (.st 3 (.t 6) (.t 37))] [17, 28, 29, 30, 31, 32, 33, 34, 35, 36, 37] [])
  (.seq (.reg [] [.a 38 (.mv (.t 4)), .a 39 (.bin .eql (.t 38) (.c (.int .i64 0))), .a 40 (.mv (.t 39)), .g 41 40 true (.mv (.t 3)), .g 42 40 true (.mv (.t 0)), .g 43 40 true (.mv (.t 5)), .g 44 40 true (.call F.dendronlaw15_Shapley [(.t 42), (.t 43), (.c (.int .i64 (-1))), (.c (.bool false))]), .g 45 40 true (.call F.dendronref10_All [(.t 41), (.t 44)]), .a 46 (.pick (.t 40) (.t 45) (.c (.bool false))), .a 47 (.mv (.t 46)), .g 48 47 true (.mv (.t 3)), .g 49 47 true (.call F.ratio_Sum [(.t 48)]), .g 50 47 true (.ld 3 true (.t 6)), .g 51 47 true (.call F.ratio_Same [(.t 49), (.t 50)]), .a 52 (.pick (.t 47) (.t 51) (.c (.bool false))), .a 53 (.mv (.t 52)), .g 54 53 true (.call F.dendronlaw19_awake []), .a 55 (.pick (.t 53) (.t 54) (.c (.bool false))), .a 2 (.mv (.t 55))] [0, 3, 4, 5, 6, 38, 39, 40, 41, 42, 43, 44, 45, 46, 47, 48, 49, 50, 51, 52, 53, 54, 55] [6])
  .ret)))))))⟩
def dendronlaw19_GameShapley.hint : R.Hint := { kill := [(0, [2], []), (1, [7, 8], []), (2, [9, 10, 11, 12, 13], []), (3, [14, 15], []), (4, [16], []), (5, [0, 3, 4, 5, 17, 18, 19, 20, 21, 22, 23, 24, 25, 26, 27], []), (6, [17, 28, 29, 30, 31, 32, 33, 34, 35, 36, 37], []), (7, [0, 3, 4, 5, 6, 38, 39, 40, 41, 42, 43, 44, 45, 46, 47, 48, 49, 50, 51, 52, 53, 54, 55], [6])] }
theorem dendronlaw19_GameShapley.ok : cFn Tryz.prog dendronlaw19_GameShapley.hint Tryz.f3 = some dendronlaw19_GameShapley := by kernel_rfl
def dendronlaw19_GameBanzhaf.b2 : R.C := (.seq (.seq (.reg [] [.a 37 (.mv (.t 9)), .a 38 (.mv (.t 0)), .a 39 (.ln (.t 38)), .a 40 (.bin .lss (.t 37) (.t 39))] [37, 38, 39] [])
  (.cond (.t 40) .skip (.exit 2)))
  (.seq (.block 3 (.seq (.reg [] [.a 43 (.mv (.t 9)), .a 44 (.mv (.t 7)), .a 45 (.call F.dendronref19_In [(.t 43), (.t 44)]), .a 46 (.un .not (.t 45))] [40, 43, 44, 45] [])
  (.cond (.t 46) (.reg [34359738376] [.a 47 (.ld 3 true (.t 8)), .a 48 (.mv (.t 0)), .a 49 (.mv (.t 9)), .a 50 (.mv (.t 7)), .a 51 (.call F.dendronlaw19_two [(.t 50)]), .a 52 (.bin .add (.t 49) (.t 51)), .a 53 (.iA 3 (.t 48) (.t 52)), .a 54 (.ld 3 true (.t 53)), .a 55 (.mv (.t 0)), .a 56 (.mv (.t 9)), .a 57 (.iA 3 (.t 55) (.t 56)), .a 58 (.ld 3 true (.t 57)), .a 59 (.call F.ratio_Sub [(.t 54), (.t 58)]), .a 60 (.call F.ratio_Add [(.t 47), (.t 59)]), .n (.st 3 (.t 8) (.t 60))] [46, 47, 48, 49, 50, 51, 52, 53, 54, 55, 56, 57, 58, 59, 60] []) .skip)))
  (.reg [] [.a 41 (.mv (.t 9)), .a 42 (.bin .add (.t 41) (.c (.int .i64 1))), .a 9 (.mv (.t 42))] [41, 42, 46] [])))
def dendronlaw19_GameBanzhaf.b0 : R.C := (.seq (.seq (.reg [] [.a 31 (.mv (.t 7)), .a 32 (.mv (.t 5)), .a 33 (.bin .lss (.t 31) (.t 32))] [31, 32] [])
  (.cond (.t 33) .skip (.exit 0)))
  (.seq (.block 1 (.seq (.reg [] [.a 36 (.call F.ratio_Zero []), .a 8 (.new [(.bool false), (.sl 1 []), (.sl 1 [])]), .n (.st 3 (.t 8) (.t 36))] [33, 36] [])
  (.seq (.seq (.reg [] [.a 9 (.mv (.c (.int .i64 0)))] [] [])
  (.block 2 (.loop [] [] dendronlaw19_GameBanzhaf.b2)))
  (.reg [] [.a 61 (.mv (.t 6)), .a 62 (.ld 3 true (.t 8)), .a 63 (.mv (.t 5)), .a 64 (.bin .sub (.t 63) (.c (.int .i64 1))), .a 65 (.call F.dendronlaw19_two [(.t 64)]), .a 66 (.call F.ratio_Frac [(.c (.int .i64 1)), (.t 65)]), .a 67 (.call F.ratio_Mul [(.t 62), (.t 66)]), .a 68 (.lit 3 1 [(.bool false), (.sl 1 []), (.sl 1 [])] [(0, 3, (.t 67))]), .a 69 (.app 3 56 (.t 61) (.t 68)), .a 6 (.mv (.t 69))] [8, 9, 40, 61, 62, 63, 64, 65, 66, 67, 68, 69] [8]))))
  (.reg [] [.a 34 (.mv (.t 7)), .a 35 (.bin .add (.t 34) (.c (.int .i64 1))), .a 7 (.mv (.t 35))] [34, 35] [])))
def dendronlaw19_GameBanzhaf : R.Fn := ⟨1, [(.t 2)], (.seq (.reg [] [.a 2 (.mv (.c (.bool false)))] [2] [])
  (.seq (.reg [] [.a 10 (.mv (.t 0)), .a 11 (.call F.dendronlaw19_Few [(.t 10)]), .a 0 (.mv (.t 11))] [10, 11] [])
  (.seq (.reg [] [.a 13 (.mv (.t 0)), .a 14 (.call F.game_Banzhaf [(.t 13)]), .a 12 (.mv (.t 14)), .a 15 (.ext (.t 12) 0), .a 16 (.ext (.t 12) 1), .a 3 (.mv (.t 15)), .a 4 (.mv (.t 16))] [12, 13, 14, 15, 16] [])
  (.seq (.reg [] [.a 17 (.mv (.t 0)), .a 18 (.call F.dendronlaw19_Size [(.t 17)]), .a 5 (.mv (.t 18))] [17, 18] [])
  (.seq (.seq (.reg [] [.a 19 (.mv (.t 5)), .a 20 (.bin .lss (.t 19) (.c (.int .i64 0)))] [19] [])
  (.cond (.t 20) (.seq (.reg [] [.a 21 (.mv (.t 3)), .a 22 (.ln (.t 21)), .a 23 (.bin .eql (.t 22) (.c (.int .i64 0))), .a 24 (.mv (.t 23)), .g 25 24 true (.mv (.t 4)), .g 26 24 true (.bin .eql (.t 25) (.c (.int .i64 1))), .a 27 (.pick (.t 24) (.t 26) (.c (.bool false))), .a 28 (.mv (.t 27)), .g 29 28 true (.call F.dendronlaw19_awake []), .a 30 (.pick (.t 28) (.t 29) (.c (.bool false))), .a 2 (.mv (.t 30))] [0, 3, 4, 5, 20, 21, 22, 23, 24, 25, 26, 27, 28, 29, 30] [])
  .ret) .skip))
  (.seq (.reg [] [.a 6 (.nil 3)] [20] [])
  (.seq (.seq (.reg [] [.a 7 (.mv (.c (.int .i64 0)))] [] [])
  (.block 0 (.loop [] [] dendronlaw19_GameBanzhaf.b0)))
  (.seq (.reg [6] [.a 70 (.mv (.t 4)), .a 71 (.bin .eql (.t 70) (.c (.int .i64 0))), .a 72 (.mv (.t 71)), .g 73 72 true (.mv (.t 3)), .g 74 72 true (.mv (.t 6)), .g 75 72 true (.call F.dendronref10_All [(.t 73), (.t 74)]), .a 76 (.pick (.t 72) (.t 75) (.c (.bool false))), .a 77 (.mv (.t 76)), .g 78 77 true (.call F.dendronlaw19_awake []), .a 79 (.pick (.t 77) (.t 78) (.c (.bool false))), .a 2 (.mv (.t 79))] [0, 3, 4, 5, 6, 7, 33, 70, 71, 72, 73, 74, 75, 76, 77, 78, 79] [6])
  .ret))))))))⟩
def dendronlaw19_GameBanzhaf.hint : R.Hint := { nil := [6], pub := [(15, [34359738376]), (17, [6])], kill := [(0, [2], []), (1, [10, 11], []), (2, [12, 13, 14, 15, 16], []), (3, [17, 18], []), (4, [19], []), (5, [0, 3, 4, 5, 20, 21, 22, 23, 24, 25, 26, 27, 28, 29, 30], []), (6, [20], []), (8, [31, 32], []), (9, [34, 35], []), (10, [33, 36], []), (12, [37, 38, 39], []), (13, [41, 42, 46], []), (14, [40, 43, 44, 45], []), (15, [46, 47, 48, 49, 50, 51, 52, 53, 54, 55, 56, 57, 58, 59, 60], []), (16, [8, 9, 40, 61, 62, 63, 64, 65, 66, 67, 68, 69], [8]), (17, [0, 3, 4, 5, 6, 7, 33, 70, 71, 72, 73, 74, 75, 76, 77, 78, 79], [6])] }
theorem dendronlaw19_GameBanzhaf.ok : cFn Tryz.prog dendronlaw19_GameBanzhaf.hint Tryz.f4 = some dendronlaw19_GameBanzhaf := by kernel_rfl
def dendronlaw19_GameDuals.b0 : R.C := (.seq (.seq (.reg [] [.a 39 (.mv (.t 5)), .a 40 (.mv (.t 0)), .a 41 (.ln (.t 40)), .a 42 (.bin .lss (.t 39) (.t 41))] [39, 40, 41] [])
  (.cond (.t 42) .skip (.exit 0)))
  (.seq (.block 1 (.seq (.reg [] [.a 45 (.mv (.t 3)), .a 46 (.mv (.t 5)), .a 47 (.iA 3 (.t 45) (.t 46)), .a 48 (.ld 3 true (.t 47)), .a 49 (.call F.ratio_Right [(.t 48)]), .a 50 (.un .not (.t 49)), .a 51 (.mv (.t 50)), .g 52 51 false (.mv (.t 3)), .g 53 51 false (.mv (.t 5)), .g 54 51 false (.iA 3 (.t 52) (.t 53)), .g 55 51 false (.ld 3 true (.t 54)), .g 56 51 false (.mv (.t 0)), .g 57 51 false (.mv (.t 0)), .g 58 51 false (.ln (.t 57)), .g 59 51 false (.bin .sub (.t 58) (.c (.int .i64 1))), .g 60 51 false (.iA 3 (.t 56) (.t 59)), .g 61 51 false (.ld 3 true (.t 60)), .g 62 51 false (.mv (.t 0)), .g 63 51 false (.mv (.t 0)), .g 64 51 false (.ln (.t 63)), .g 65 51 false (.bin .sub (.t 64) (.c (.int .i64 1))), .g 66 51 false (.mv (.t 5)), .g 67 51 false (.bin .sub (.t 65) (.t 66)), .g 68 51 false (.iA 3 (.t 62) (.t 67)), .g 69 51 false (.ld 3 true (.t 68)), .g 70 51 false (.call F.ratio_Sub [(.t 61), (.t 69)]), .g 71 51 false (.call F.ratio_Same [(.t 55), (.t 70)]), .g 72 51 false (.un .not (.t 71)), .a 73 (.pick (.t 51) (.c (.bool true)) (.t 72))] [42, 45, 46, 47, 48, 49, 50, 51, 52, 53, 54, 55, 56, 57, 58, 59, 60, 61, 62, 63, 64, 65, 66, 67, 68, 69, 70, 71, 72] [])
  (.cond (.t 73) (.seq (.reg [] [.a 2 (.mv (.c (.bool false)))] [0, 3, 5, 73] [])
  .ret) .skip)))
  (.reg [] [.a 43 (.mv (.t 5)), .a 44 (.bin .add (.t 43) (.c (.int .i64 1))), .a 5 (.mv (.t 44))] [43, 44, 73] [])))
def dendronlaw19_GameDuals : R.Fn := ⟨1, [(.t 2)], (.seq (.reg [] [.a 2 (.mv (.c (.bool false)))] [2] [])
  (.seq (.reg [] [.a 10 (.mv (.t 0)), .a 11 (.call F.dendronlaw19_Few [(.t 10)]), .a 0 (.mv (.t 11))] [10, 11] [])
  (.seq (.reg [] [.a 13 (.mv (.t 0)), .a 14 (.call F.game_Dual [(.t 13)]), .a 12 (.mv (.t 14)), .a 15 (.ext (.t 12) 0), .a 16 (.ext (.t 12) 1), .a 3 (.mv (.t 15)), .a 4 (.mv (.t 16))] [12, 13, 14, 15, 16] [])
  (.seq (.seq (.reg [] [.a 17 (.mv (.t 0)), .a 18 (.call F.dendronlaw19_Size [(.t 17)]), .a 19 (.bin .lss (.t 18) (.c (.int .i64 0)))] [17, 18] [])
  (.cond (.t 19) (.seq (.reg [] [.a 20 (.mv (.t 3)), .a 21 (.ln (.t 20)), .a 22 (.bin .eql (.t 21) (.c (.int .i64 0))), .a 23 (.mv (.t 22)), .g 24 23 true (.mv (.t 4)), .g 25 23 true (.bin .eql (.t 24) (.c (.int .i64 1))), .a 26 (.pick (.t 23) (.t 25) (.c (.bool false))), .a 27 (.mv (.t 26)), .g 28 27 true (.call F.dendronlaw19_awake []), .a 29 (.pick (.t 27) (.t 28) (.c (.bool false))), .a 2 (.mv (.t 29))] [0, 3, 4, 19, 20, 21, 22, 23, 24, 25, 26, 27, 28, 29] [])
  .ret) .skip))
  (.seq (.seq (.reg [] [.a 30 (.mv (.t 4)), .a 31 (.bin .neq (.t 30) (.c (.int .i64 0))), .a 32 (.mv (.t 31)), .g 33 32 false (.mv (.t 3)), .g 34 32 false (.ln (.t 33)), .g 35 32 false (.mv (.t 0)), .g 36 32 false (.ln (.t 35)), .g 37 32 false (.bin .neq (.t 34) (.t 36)), .a 38 (.pick (.t 32) (.c (.bool true)) (.t 37))] [4, 19, 30, 31, 32, 33, 34, 35, 36, 37] [])
  (.cond (.t 38) (.seq (.reg [] [.a 2 (.mv (.c (.bool false)))] [0, 3, 38] [])
  .ret) .skip))
  (.seq (.seq (.reg [] [.a 5 (.mv (.c (.int .i64 0)))] [38] [])
  (.block 0 (.loop [] [] dendronlaw19_GameDuals.b0)))
  (.seq (.reg [] [.a 75 (.mv (.t 0)), .a 76 (.call F.game_Shapley [(.t 75)]), .a 74 (.mv (.t 76)), .a 77 (.ext (.t 74) 0), .a 78 (.ext (.t 74) 1), .a 6 (.mv (.t 77)), .a 7 (.mv (.t 78))] [0, 5, 42, 74, 75, 76, 77, 78] [])
  (.seq (.reg [] [.a 80 (.mv (.t 3)), .a 81 (.call F.game_Shapley [(.t 80)]), .a 79 (.mv (.t 81)), .a 82 (.ext (.t 79) 0), .a 83 (.ext (.t 79) 1), .a 8 (.mv (.t 82)), .a 9 (.mv (.t 83))] [3, 79, 80, 81, 82, 83] [])
  (.seq (.reg [] [.a 84 (.mv (.t 7)), .a 85 (.bin .eql (.t 84) (.c (.int .i64 0))), .a 86 (.mv (.t 85)), .g 87 86 true (.mv (.t 9)), .g 88 86 true (.bin .eql (.t 87) (.c (.int .i64 0))), .a 89 (.pick (.t 86) (.t 88) (.c (.bool false))), .a 90 (.mv (.t 89)), .g 91 90 true (.mv (.t 8)), .g 92 90 true (.mv (.t 6)), .g 93 90 true (.call F.dendronref10_All [(.t 91), (.t 92)]), .a 94 (.pick (.t 90) (.t 93) (.c (.bool false))), .a 95 (.mv (.t 94)), .g 96 95 true (.call F.dendronlaw19_awake []), .a 97 (.pick (.t 95) (.t 96) (.c (.bool false))), .a 2 (.mv (.t 97))] [6, 7, 8, 9, 84, 85, 86, 87, 88, 89, 90, 91, 92, 93, 94, 95, 96, 97] [])
  .ret)))))))))⟩
def dendronlaw19_GameDuals.hint : R.Hint := { kill := [(0, [2], []), (1, [10, 11], []), (2, [12, 13, 14, 15, 16], []), (3, [17, 18], []), (4, [0, 3, 4, 19, 20, 21, 22, 23, 24, 25, 26, 27, 28, 29], []), (5, [4, 19, 30, 31, 32, 33, 34, 35, 36, 37], []), (6, [0, 3, 38], []), (7, [38], []), (8, [39, 40, 41], []), (9, [43, 44, 73], []), (10, [42, 45, 46, 47, 48, 49, 50, 51, 52, 53, 54, 55, 56, 57, 58, 59, 60, 61, 62, 63, 64, 65, 66, 67, 68, 69, 70, 71, 72], []), (11, [0, 3, 5, 73], []), (12, [0, 5, 42, 74, 75, 76, 77, 78], []), (13, [3, 79, 80, 81, 82, 83], []), (14, [6, 7, 8, 9, 84, 85, 86, 87, 88, 89, 90, 91, 92, 93, 94, 95, 96, 97], [])] }
theorem dendronlaw19_GameDuals.ok : cFn Tryz.prog dendronlaw19_GameDuals.hint Tryz.f5 = some dendronlaw19_GameDuals := by kernel_rfl
def dendronlaw19_GameParts.b2 : R.C := (.seq (.seq (.reg [] [.a 43 (.mv (.t 9)), .a 44 (.mv (.t 0)), .a 45 (.ln (.t 44)), .a 46 (.bin .lss (.t 43) (.t 45))] [43, 44, 45] [])
  (.cond (.t 46) .skip (.exit 2)))
  (.seq (.block 3 (.seq (.reg [] [.a 49 (.mv (.t 9)), .a 50 (.mv (.t 7)), .a 51 (.call F.dendronref19_In [(.t 49), (.t 50)])] [46, 49, 50] [])
  (.cond (.t 51) (.reg [34359738376] [.a 52 (.ld 3 true (.t 8)), .a 53 (.mv (.t 0)), .a 54 (.mv (.t 9)), .a 55 (.iA 3 (.t 53) (.t 54)), .a 56 (.ld 3 true (.t 55)), .a 57 (.mv (.t 9)), .a 58 (.mv (.t 5)), .a 59 (.call F.dendronlaw19_Count [(.t 57), (.t 58)]), .a 60 (.call F.ratio_Frac [(.c (.int .i64 1)), (.t 59)]), .a 61 (.call F.ratio_Mul [(.t 56), (.t 60)]), .a 62 (.call F.ratio_Add [(.t 52), (.t 61)]), .n (.st 3 (.t 8) (.t 62))] [51, 52, 53, 54, 55, 56, 57, 58, 59, 60, 61, 62] []) .skip)))
  (.reg [] [.a 47 (.mv (.t 9)), .a 48 (.bin .add (.t 47) (.c (.int .i64 1))), .a 9 (.mv (.t 48))] [47, 48, 51] [])))
def dendronlaw19_GameParts.b0 : R.C := (.seq (.seq (.reg [] [.a 37 (.mv (.t 7)), .a 38 (.mv (.t 5)), .a 39 (.bin .lss (.t 37) (.t 38))] [37, 38] [])
  (.cond (.t 39) .skip (.exit 0)))
  (.seq (.block 1 (.seq (.reg [] [.a 42 (.call F.ratio_Zero []), .a 8 (.new [(.bool false), (.sl 1 []), (.sl 1 [])]), .n (.st 3 (.t 8) (.t 42))] [39, 42] [])
  (.seq (.seq (.reg [] [.a 9 (.mv (.c (.int .i64 0)))] [] [])
  (.block 2 (.loop [] [] dendronlaw19_GameParts.b2)))
  (.reg [] [.a 63 (.mv (.t 6)), .a 64 (.ld 3 true (.t 8)), .a 65 (.lit 3 1 [(.bool false), (.sl 1 []), (.sl 1 [])] [(0, 3, (.t 64))]), .a 66 (.app 3 56 (.t 63) (.t 65)), .a 6 (.mv (.t 66))] [8, 9, 46, 63, 64, 65, 66] [8]))))
  (.reg [] [.a 40 (.mv (.t 7)), .a 41 (.bin .add (.t 40) (.c (.int .i64 1))), .a 7 (.mv (.t 41))] [40, 41] [])))
def dendronlaw19_GameParts : R.Fn := ⟨1, [(.t 2)], (.seq (.reg [] [.a 2 (.mv (.c (.bool false)))] [2] [])
  (.seq (.reg [] [.a 16 (.mv (.t 0)), .a 17 (.call F.dendronlaw19_Few [(.t 16)]), .a 0 (.mv (.t 17))] [16, 17] [])
  (.seq (.reg [] [.a 19 (.mv (.t 0)), .a 20 (.call F.game_ByShares [(.t 19)]), .a 18 (.mv (.t 20)), .a 21 (.ext (.t 18) 0), .a 22 (.ext (.t 18) 1), .a 3 (.mv (.t 21)), .a 4 (.mv (.t 22))] [18, 19, 20, 21, 22] [])
  (.seq (.reg [] [.a 23 (.mv (.t 0)), .a 24 (.call F.dendronlaw19_Size [(.t 23)]), .a 5 (.mv (.t 24))] [23, 24] [])
  (.seq (.seq (.reg [] [.a 25 (.mv (.t 5)), .a 26 (.bin .lss (.t 25) (.c (.int .i64 0)))] [25] [])
  (.cond (.t 26) (.seq (.reg [] [.a 27 (.mv (.t 3)), .a 28 (.ln (.t 27)), .a 29 (.bin .eql (.t 28) (.c (.int .i64 0))), .a 30 (.mv (.t 29)), .g 31 30 true (.mv (.t 4)), .g 32 30 true (.bin .eql (.t 31) (.c (.int .i64 1))), .a 33 (.pick (.t 30) (.t 32) (.c (.bool false))), .a 34 (.mv (.t 33)), .g 35 34 true (.call F.dendronlaw19_awake []), .a 36 (.pick (.t 34) (.t 35) (.c (.bool false))), .a 2 (.mv (.t 36))] [0, 3, 4, 5, 26, 27, 28, 29, 30, 31, 32, 33, 34, 35, 36] [])
  .ret) .skip))
  (.seq (.reg [] [.a 6 (.nil 3)] [26] [])
  (.seq (.seq (.reg [] [.a 7 (.mv (.c (.int .i64 0)))] [] [])
  (.block 0 (.loop [] [] dendronlaw19_GameParts.b0)))
  (.seq (.reg [] [.a 68 (.mv (.t 0)), .a 69 (.call F.game_Shares [(.t 68)]), .a 67 (.mv (.t 69)), .a 70 (.ext (.t 67) 0), .a 71 (.ext (.t 67) 1), .a 10 (.mv (.t 70)), .a 11 (.mv (.t 71))] [5, 7, 39, 67, 68, 69, 70, 71] [])
  (.seq (.reg [] [.a 73 (.mv (.t 10)), .a 74 (.call F.game_ByShares [(.t 73)]), .a 72 (.mv (.t 74)), .a 75 (.ext (.t 72) 0), .a 76 (.ext (.t 72) 1), .a 12 (.mv (.t 75)), .a 13 (.mv (.t 76))] [10, 72, 73, 74, 75, 76] [])
  (.seq (.reg [] [.a 78 (.mv (.t 0)), .a 79 (.call F.game_Shapley [(.t 78)]), .a 77 (.mv (.t 79)), .a 80 (.ext (.t 77) 0), .a 81 (.ext (.t 77) 1), .a 14 (.mv (.t 80)), .a 15 (.mv (.t 81))] [0, 77, 78, 79, 80, 81] [])
  (.seq (.reg [6] [.a 82 (.mv (.t 4)), .a 83 (.bin .eql (.t 82) (.c (.int .i64 0))), .a 84 (.mv (.t 83)), .g 85 84 true (.mv (.t 11)), .g 86 84 true (.bin .eql (.t 85) (.c (.int .i64 0))), .a 87 (.pick (.t 84) (.t 86) (.c (.bool false))), .a 88 (.mv (.t 87)), .g 89 88 true (.mv (.t 13)), .g 90 88 true (.bin .eql (.t 89) (.c (.int .i64 0))), .a 91 (.pick (.t 88) (.t 90) (.c (.bool false))), .a 92 (.mv (.t 91)), .g 93 92 true (.mv (.t 15)), .g 94 92 true (.bin .eql (.t 93) (.c (.int .i64 0))), .a 95 (.pick (.t 92) (.t 94) (.c (.bool false))), .a 96 (.mv (.t 95)), .g 97 96 true (.mv (.t 3)), .g 98 96 true (.mv (.t 6)), .g 99 96 true (.call F.dendronref10_All [(.t 97), (.t 98)]), .a 100 (.pick (.t 96) (.t 99) (.c (.bool false))), .a 101 (.mv (.t 100)), .g 102 101 true (.mv (.t 12)), .g 103 101 true (.mv (.t 14)), .g 104 101 true (.call F.dendronref10_All [(.t 102), (.t 103)]), .a 105 (.pick (.t 101) (.t 104) (.c (.bool false))), .a 106 (.mv (.t 105)), .g 107 106 true (.call F.dendronlaw19_awake []), .a 108 (.pick (.t 106) (.t 107) (.c (.bool false))), .a 2 (.mv (.t 108))] [3, 4, 6, 11, 12, 13, 14, 15, 82, 83, 84, 85, 86, 87, 88, 89, 90, 91, 92, 93, 94, 95, 96, 97, 98, 99, 100, 101, 102, 103, 104, 105, 106, 107, 108] [6])
  .ret)))))))))))⟩
def dendronlaw19_GameParts.hint : R.Hint := { nil := [6], pub := [(15, [34359738376]), (20, [6])], kill := [(0, [2], []), (1, [16, 17], []), (2, [18, 19, 20, 21, 22], []), (3, [23, 24], []), (4, [25], []), (5, [0, 3, 4, 5, 26, 27, 28, 29, 30, 31, 32, 33, 34, 35, 36], []), (6, [26], []), (8, [37, 38], []), (9, [40, 41], []), (10, [39, 42], []), (12, [43, 44, 45], []), (13, [47, 48, 51], []), (14, [46, 49, 50], []), (15, [51, 52, 53, 54, 55, 56, 57, 58, 59, 60, 61, 62], []), (16, [8, 9, 46, 63, 64, 65, 66], [8]), (17, [5, 7, 39, 67, 68, 69, 70, 71], []), (18, [10, 72, 73, 74, 75, 76], []), (19, [0, 77, 78, 79, 80, 81], []), (20, [3, 4, 6, 11, 12, 13, 14, 15, 82, 83, 84, 85, 86, 87, 88, 89, 90, 91, 92, 93, 94, 95, 96, 97, 98, 99, 100, 101, 102, 103, 104, 105, 106, 107, 108], [6])] }
theorem dendronlaw19_GameParts.ok : cFn Tryz.prog dendronlaw19_GameParts.hint Tryz.f6 = some dendronlaw19_GameParts := by kernel_rfl
def dendronlaw19_GameShares.b2 : R.C := (.seq (.seq (.reg [] [.a 73 (.mv (.t 11)), .a 74 (.mv (.t 0)), .a 75 (.ln (.t 74)), .a 76 (.bin .lss (.t 73) (.t 75))] [73, 74, 75] [])
  (.cond (.t 76) .skip (.exit 2)))
  (.seq (.block 3 (.seq (.reg [] [.a 79 (.mv (.t 11)), .a 80 (.mv (.t 8)), .a 81 (.mv (.t 7)), .a 82 (.call F.dendronlaw19_within [(.t 79), (.t 80), (.t 81)])] [76, 79, 80, 81] [])
  (.cond (.t 82) (.seq (.reg [38654705673] [.a 83 (.ld 3 true (.t 9)), .a 84 (.mv (.t 3)), .a 85 (.mv (.t 11)), .a 86 (.iA 3 (.t 84) (.t 85)), .a 87 (.ld 3 true (.t 86)), .a 88 (.call F.ratio_Add [(.t 83), (.t 87)]), .n (.st 3 (.t 9) (.t 88))] [82, 83, 84, 85, 86, 87, 88] [])
  (.reg [42949672970] [.a 89 (.ld 3 true (.t 10)), .a 90 (.mv (.t 0)), .a 91 (.mv (.t 11)), .a 92 (.iA 3 (.t 90) (.t 91)), .a 93 (.ld 3 true (.t 92)), .a 94 (.call F.ratio_Add [(.t 89), (.t 93)]), .n (.st 3 (.t 10) (.t 94))] [89, 90, 91, 92, 93, 94] [])) .skip)))
  (.reg [] [.a 77 (.mv (.t 11)), .a 78 (.bin .add (.t 77) (.c (.int .i64 1))), .a 11 (.mv (.t 78))] [77, 78, 82] [])))
def dendronlaw19_GameShares.b0 : R.C := (.seq (.seq (.reg [] [.a 65 (.mv (.t 8)), .a 66 (.mv (.t 0)), .a 67 (.ln (.t 66)), .a 68 (.bin .lss (.t 65) (.t 67))] [65, 66, 67] [])
  (.cond (.t 68) .skip (.exit 0)))
  (.seq (.block 1 (.seq (.reg [] [.a 71 (.call F.ratio_Zero []), .a 72 (.call F.ratio_Zero []), .a 9 (.new [(.bool false), (.sl 1 []), (.sl 1 [])]), .a 10 (.new [(.bool false), (.sl 1 []), (.sl 1 [])]), .n (.st 3 (.t 9) (.t 71)), .n (.st 3 (.t 10) (.t 72))] [68, 71, 72] [])
  (.seq (.seq (.reg [] [.a 11 (.mv (.c (.int .i64 0)))] [] [])
  (.block 2 (.loop [] [] dendronlaw19_GameShares.b2)))
  (.seq (.reg [] [.a 95 (.ld 3 true (.t 9)), .a 96 (.mv (.t 0)), .a 97 (.mv (.t 8)), .a 98 (.iA 3 (.t 96) (.t 97)), .a 99 (.ld 3 true (.t 98)), .a 100 (.call F.ratio_Same [(.t 95), (.t 99)]), .a 101 (.un .not (.t 100)), .a 102 (.mv (.t 101)), .g 103 102 false (.ld 3 true (.t 10)), .g 104 102 false (.mv (.t 5)), .g 105 102 false (.mv (.t 8)), .g 106 102 false (.iA 3 (.t 104) (.t 105)), .g 107 102 false (.ld 3 true (.t 106)), .g 108 102 false (.call F.ratio_Same [(.t 103), (.t 107)]), .g 109 102 false (.un .not (.t 108)), .a 110 (.pick (.t 102) (.c (.bool true)) (.t 109)), .a 111 (.mv (.t 110)), .g 112 111 false (.mv (.t 3)), .g 113 111 false (.mv (.t 8)), .g 114 111 false (.iA 3 (.t 112) (.t 113)), .g 115 111 false (.ld 3 true (.t 114)), .g 116 111 false (.call F.ratio_Right [(.t 115)]), .g 117 111 false (.un .not (.t 116)), .a 118 (.pick (.t 111) (.c (.bool true)) (.t 117)), .a 119 (.mv (.t 118)), .g 120 119 false (.mv (.t 5)), .g 121 119 false (.mv (.t 8)), .g 122 119 false (.iA 3 (.t 120) (.t 121)), .g 123 119 false (.ld 3 true (.t 122)), .g 124 119 false (.call F.ratio_Right [(.t 123)]), .g 125 119 false (.un .not (.t 124)), .a 126 (.pick (.t 119) (.c (.bool true)) (.t 125))] [9, 10, 11, 76, 95, 96, 97, 98, 99, 100, 101, 102, 103, 104, 105, 106, 107, 108, 109, 110, 111, 112, 113, 114, 115, 116, 117, 118, 119, 120, 121, 122, 123, 124, 125] [9, 10])
  (.cond (.t 126) (.seq (.reg [] [.a 2 (.mv (.c (.bool false)))] [0, 3, 5, 7, 8, 126] [])
  .ret) .skip)))))
  (.reg [] [.a 69 (.mv (.t 8)), .a 70 (.bin .add (.t 69) (.c (.int .i64 1))), .a 8 (.mv (.t 70))] [69, 70, 126] [])))
def dendronlaw19_GameShares : R.Fn := ⟨1, [(.t 2)], (.seq (.reg [] [.a 2 (.mv (.c (.bool false)))] [2] [])
  (.seq (.reg [] [.a 12 (.mv (.t 0)), .a 13 (.call F.dendronlaw19_Few [(.t 12)]), .a 0 (.mv (.t 13))] [12, 13] [])
  (.seq (.reg [] [.a 15 (.mv (.t 0)), .a 16 (.call F.game_Shares [(.t 15)]), .a 14 (.mv (.t 16)), .a 17 (.ext (.t 14) 0), .a 18 (.ext (.t 14) 1), .a 3 (.mv (.t 17)), .a 4 (.mv (.t 18))] [14, 15, 16, 17, 18] [])
  (.seq (.reg [] [.a 20 (.mv (.t 0)), .a 21 (.call F.game_FromShares [(.t 20)]), .a 19 (.mv (.t 21)), .a 22 (.ext (.t 19) 0), .a 23 (.ext (.t 19) 1), .a 5 (.mv (.t 22)), .a 6 (.mv (.t 23))] [19, 20, 21, 22, 23] [])
  (.seq (.reg [] [.a 24 (.mv (.t 0)), .a 25 (.call F.dendronlaw19_Size [(.t 24)]), .a 7 (.mv (.t 25))] [24, 25] [])
  (.seq (.seq (.reg [] [.a 26 (.mv (.t 7)), .a 27 (.bin .lss (.t 26) (.c (.int .i64 0)))] [26] [])
  (.cond (.t 27) (.seq (.reg [] [.a 28 (.mv (.t 3)), .a 29 (.ln (.t 28)), .a 30 (.mv (.t 5)), .a 31 (.ln (.t 30)), .a 32 (.bin .add (.t 29) (.t 31)), .a 33 (.bin .eql (.t 32) (.c (.int .i64 0))), .a 34 (.mv (.t 33)), .g 35 34 true (.mv (.t 4)), .g 36 34 true (.bin .eql (.t 35) (.c (.int .i64 1))), .a 37 (.pick (.t 34) (.t 36) (.c (.bool false))), .a 38 (.mv (.t 37)), .g 39 38 true (.mv (.t 6)), .g 40 38 true (.bin .eql (.t 39) (.c (.int .i64 1))), .a 41 (.pick (.t 38) (.t 40) (.c (.bool false))), .a 42 (.mv (.t 41)), .g 43 42 true (.call F.dendronlaw19_awake []), .a 44 (.pick (.t 42) (.t 43) (.c (.bool false))), .a 2 (.mv (.t 44))] [0, 3, 4, 5, 6, 7, 27, 28, 29, 30, 31, 32, 33, 34, 35, 36, 37, 38, 39, 40, 41, 42, 43, 44] [])
  .ret) .skip))
  (.seq (.seq (.reg [] [.a 45 (.mv (.t 4)), .a 46 (.bin .neq (.t 45) (.c (.int .i64 0))), .a 47 (.mv (.t 46)), .g 48 47 false (.mv (.t 6)), .g 49 47 false (.bin .neq (.t 48) (.c (.int .i64 0))), .a 50 (.pick (.t 47) (.c (.bool true)) (.t 49)), .a 51 (.mv (.t 50)), .g 52 51 false (.mv (.t 3)), .g 53 51 false (.ln (.t 52)), .g 54 51 false (.mv (.t 0)), .g 55 51 false (.ln (.t 54)), .g 56 51 false (.bin .neq (.t 53) (.t 55)), .a 57 (.pick (.t 51) (.c (.bool true)) (.t 56)), .a 58 (.mv (.t 57)), .g 59 58 false (.mv (.t 5)), .g 60 58 false (.ln (.t 59)), .g 61 58 false (.mv (.t 0)), .g 62 58 false (.ln (.t 61)), .g 63 58 false (.bin .neq (.t 60) (.t 62)), .a 64 (.pick (.t 58) (.c (.bool true)) (.t 63))] [4, 6, 27, 45, 46, 47, 48, 49, 50, 51, 52, 53, 54, 55, 56, 57, 58, 59, 60, 61, 62, 63] [])
  (.cond (.t 64) (.seq (.reg [] [.a 2 (.mv (.c (.bool false)))] [0, 3, 5, 7, 64] [])
  .ret) .skip))
  (.seq (.seq (.reg [] [.a 8 (.mv (.c (.int .i64 0)))] [64] [])
  (.block 0 (.loop [] [] dendronlaw19_GameShares.b0)))
  (.seq (.reg [] [.a 127 (.call F.dendronlaw19_awake []), .a 2 (.mv (.t 127))] [0, 3, 5, 7, 8, 68, 127] [])
  .ret)))))))))⟩
def dendronlaw19_GameShares.hint : R.Hint := { pub := [(17, [38654705673]), (18, [42949672970])], kill := [(0, [2], []), (1, [12, 13], []), (2, [14, 15, 16, 17, 18], []), (3, [19, 20, 21, 22, 23], []), (4, [24, 25], []), (5, [26], []), (6, [0, 3, 4, 5, 6, 7, 27, 28, 29, 30, 31, 32, 33, 34, 35, 36, 37, 38, 39, 40, 41, 42, 43, 44], []), (7, [4, 6, 27, 45, 46, 47, 48, 49, 50, 51, 52, 53, 54, 55, 56, 57, 58, 59, 60, 61, 62, 63], []), (8, [0, 3, 5, 7, 64], []), (9, [64], []), (10, [65, 66, 67], []), (11, [69, 70, 126], []), (12, [68, 71, 72], []), (14, [73, 74, 75], []), (15, [77, 78, 82], []), (16, [76, 79, 80, 81], []), (17, [82, 83, 84, 85, 86, 87, 88], []), (18, [89, 90, 91, 92, 93, 94], []), (19, [9, 10, 11, 76, 95, 96, 97, 98, 99, 100, 101, 102, 103, 104, 105, 106, 107, 108, 109, 110, 111, 112, 113, 114, 115, 116, 117, 118, 119, 120, 121, 122, 123, 124, 125], [9, 10]), (20, [0, 3, 5, 7, 8, 126], []), (21, [0, 3, 5, 7, 8, 68, 127], [])] }
theorem dendronlaw19_GameShares.ok : cFn Tryz.prog dendronlaw19_GameShares.hint Tryz.f7 = some dendronlaw19_GameShares := by kernel_rfl
def dendronlaw19_GamePairs.b4 : R.C := (.seq (.seq (.reg [] [.a 75 (.mv (.t 12)), .a 76 (.mv (.t 0)), .a 77 (.ln (.t 76)), .a 78 (.bin .lss (.t 75) (.t 77))] [75, 76, 77] [])
  (.cond (.t 78) .skip (.exit 4)))
  (.seq (.block 5 (.seq (.seq (.reg [] [.a 81 (.mv (.t 12)), .a 82 (.mv (.t 8)), .a 83 (.call F.dendronref19_In [(.t 81), (.t 82)]), .a 84 (.mv (.t 83)), .g 85 84 false (.mv (.t 12)), .g 86 84 false (.mv (.t 10)), .g 87 84 false (.call F.dendronref19_In [(.t 85), (.t 86)]), .a 88 (.pick (.t 84) (.c (.bool true)) (.t 87))] [78, 81, 82, 83, 84, 85, 86, 87] [])
  (.cond (.t 88) (.exit 5) .skip))
  (.seq (.reg [] [.a 90 (.mv (.t 7)), .a 91 (.mv (.t 12)), .a 92 (.mv (.t 5)), .a 93 (.call F.dendronlaw19_Count [(.t 91), (.t 92)]), .a 94 (.mv (.t 5)), .a 95 (.callk F.dendron_weigh_Table_Pair [(true, (.t 90)), (false, (.t 93)), (false, (.t 94))]), .a 89 (.mv (.t 95)), .a 96 (.ext (.t 89) 0), .a 97 (.ext (.t 89) 1), .a 13 (.new [(.bool false), (.sl 1 []), (.sl 1 [])]), .n (.st 3 (.t 13) (.t 96)), .a 14 (.mv (.t 97))] [14, 88, 89, 90, 91, 92, 93, 94, 95, 96, 97] [95, 1095, 2095, 3095])
  (.seq (.reg [] [.a 98 (.mv (.t 0)), .a 99 (.mv (.t 12)), .a 100 (.mv (.t 8)), .a 101 (.call F.dendronlaw19_two [(.t 100)]), .a 102 (.bin .add (.t 99) (.t 101)), .a 103 (.mv (.t 10)), .a 104 (.call F.dendronlaw19_two [(.t 103)]), .a 105 (.bin .add (.t 102) (.t 104)), .a 106 (.iA 3 (.t 98) (.t 105)), .a 107 (.ld 3 true (.t 106)), .a 108 (.mv (.t 0)), .a 109 (.mv (.t 12)), .a 110 (.iA 3 (.t 108) (.t 109)), .a 111 (.ld 3 true (.t 110)), .a 112 (.call F.ratio_Add [(.t 107), (.t 111)]), .a 15 (.new [(.bool false), (.sl 1 []), (.sl 1 [])]), .n (.st 3 (.t 15) (.t 112))] [98, 99, 100, 101, 102, 103, 104, 105, 106, 107, 108, 109, 110, 111, 112] [])
  (.seq (.reg [] [.a 113 (.mv (.t 0)), .a 114 (.mv (.t 12)), .a 115 (.mv (.t 8)), .a 116 (.call F.dendronlaw19_two [(.t 115)]), .a 117 (.bin .add (.t 114) (.t 116)), .a 118 (.iA 3 (.t 113) (.t 117)), .a 119 (.ld 3 true (.t 118)), .a 120 (.mv (.t 0)), .a 121 (.mv (.t 12)), .a 122 (.mv (.t 10)), .a 123 (.call F.dendronlaw19_two [(.t 122)]), .a 124 (.bin .add (.t 121) (.t 123)), .a 125 (.iA 3 (.t 120) (.t 124)), .a 126 (.ld 3 true (.t 125)), .a 127 (.call F.ratio_Add [(.t 119), (.t 126)]), .a 16 (.new [(.bool false), (.sl 1 []), (.sl 1 [])]), .n (.st 3 (.t 16) (.t 127))] [113, 114, 115, 116, 117, 118, 119, 120, 121, 122, 123, 124, 125, 126, 127] [])
  (.reg [47244640267, 55834574861, 64424509455, 68719476752] [.a 128 (.ld 3 true (.t 11)), .a 129 (.ld 3 true (.t 13)), .a 130 (.ld 3 true (.t 15)), .a 131 (.ld 3 true (.t 16)), .a 132 (.call F.ratio_Sub [(.t 130), (.t 131)]), .a 133 (.call F.ratio_Mul [(.t 129), (.t 132)]), .a 134 (.call F.ratio_Add [(.t 128), (.t 133)]), .n (.st 3 (.t 11) (.t 134))] [13, 15, 16, 128, 129, 130, 131, 132, 133, 134] [13, 15, 16]))))))
  (.reg [] [.a 79 (.mv (.t 12)), .a 80 (.bin .add (.t 79) (.c (.int .i64 1))), .a 12 (.mv (.t 80))] [79, 80, 88] [])))
def dendronlaw19_GamePairs.b2 : R.C := (.seq (.seq (.reg [] [.a 66 (.mv (.t 10)), .a 67 (.mv (.t 5)), .a 68 (.bin .lss (.t 66) (.t 67))] [66, 67] [])
  (.cond (.t 68) .skip (.exit 2)))
  (.seq (.block 3 (.seq (.seq (.reg [] [.a 71 (.mv (.t 10)), .a 72 (.mv (.t 8)), .a 73 (.bin .eql (.t 71) (.t 72))] [68, 71, 72] [])
  (.cond (.t 73) (.exit 3) .skip))
  (.seq (.reg [] [.a 74 (.call F.ratio_Zero []), .a 11 (.new [(.bool false), (.sl 1 []), (.sl 1 [])]), .n (.st 3 (.t 11) (.t 74))] [73, 74] [])
  (.seq (.seq (.reg [] [.a 12 (.mv (.c (.int .i64 0)))] [] [])
  (.block 4 (.loop [] [] dendronlaw19_GamePairs.b4)))
  (.seq (.reg [] [.a 135 (.ld 3 true (.t 9)), .a 136 (.ld 3 true (.t 11)), .a 137 (.call F.ratio_Sub [(.t 135), (.t 136)]), .n (.st 3 (.t 9) (.t 137))] [12, 78, 135, 136, 137] [])
  (.seq (.reg [] [.a 138 (.mv (.t 3)), .a 139 (.mv (.t 8)), .a 140 (.iA 1 (.t 138) (.t 139)), .a 141 (.ld 1 false (.t 140)), .a 142 (.mv (.t 10)), .a 143 (.iA 3 (.t 141) (.t 142)), .a 144 (.ld 3 true (.t 143)), .a 145 (.call F.ratio_Right [(.t 144)]), .a 146 (.un .not (.t 145)), .a 147 (.mv (.t 146)), .g 148 147 false (.mv (.t 3)), .g 149 147 false (.mv (.t 8)), .g 150 147 false (.iA 1 (.t 148) (.t 149)), .g 151 147 false (.ld 1 false (.t 150)), .g 152 147 false (.mv (.t 10)), .g 153 147 false (.iA 3 (.t 151) (.t 152)), .g 154 147 false (.ld 3 true (.t 153)), .g 155 147 false (.ld 3 true (.t 11)), .g 156 147 false (.call F.ratio_Same [(.t 154), (.t 155)]), .g 157 147 false (.un .not (.t 156)), .a 158 (.pick (.t 147) (.c (.bool true)) (.t 157))] [11, 138, 139, 140, 141, 142, 143, 144, 145, 146, 147, 148, 149, 150, 151, 152, 153, 154, 155, 156, 157] [11])
  (.cond (.t 158) (.seq (.reg [] [.a 2 (.mv (.c (.bool false)))] [0, 3, 5, 6, 7, 8, 9, 10, 158] [9, 49])
  .ret) .skip)))))))
  (.reg [] [.a 69 (.mv (.t 10)), .a 70 (.bin .add (.t 69) (.c (.int .i64 1))), .a 10 (.mv (.t 70))] [69, 70, 73, 158] [])))
def dendronlaw19_GamePairs.b0 : R.C := (.seq (.seq (.reg [] [.a 50 (.mv (.t 8)), .a 51 (.mv (.t 5)), .a 52 (.bin .lss (.t 50) (.t 51))] [50, 51] [])
  (.cond (.t 52) .skip (.exit 0)))
  (.seq (.block 1 (.seq (.seq (.reg [] [.a 55 (.mv (.t 3)), .a 56 (.mv (.t 8)), .a 57 (.iA 1 (.t 55) (.t 56)), .a 58 (.ld 1 false (.t 57)), .a 59 (.ln (.t 58)), .a 60 (.mv (.t 5)), .a 61 (.bin .neq (.t 59) (.t 60))] [52, 55, 56, 57, 58, 59, 60] [])
  (.cond (.t 61) (.seq (.reg [] [.a 2 (.mv (.c (.bool false)))] [0, 3, 5, 6, 7, 8, 61] [49])
  .ret) .skip))
  (.seq (.reg [] [.a 62 (.mv (.t 6)), .a 63 (.mv (.t 8)), .a 64 (.iA 3 (.t 62) (.t 63)), .a 65 (.ld 3 true (.t 64)), .a 9 (.new [(.bool false), (.sl 1 []), (.sl 1 [])]), .n (.st 3 (.t 9) (.t 65))] [61, 62, 63, 64, 65] [])
  (.seq (.seq (.reg [] [.a 10 (.mv (.c (.int .i64 0)))] [] [])
  (.block 2 (.loop [] [] dendronlaw19_GamePairs.b2)))
  (.seq (.reg [] [.a 159 (.mv (.t 3)), .a 160 (.mv (.t 8)), .a 161 (.iA 1 (.t 159) (.t 160)), .a 162 (.ld 1 false (.t 161)), .a 163 (.mv (.t 8)), .a 164 (.iA 3 (.t 162) (.t 163)), .a 165 (.ld 3 true (.t 164)), .a 166 (.call F.ratio_Right [(.t 165)]), .a 167 (.un .not (.t 166)), .a 168 (.mv (.t 167)), .g 169 168 false (.mv (.t 3)), .g 170 168 false (.mv (.t 8)), .g 171 168 false (.iA 1 (.t 169) (.t 170)), .g 172 168 false (.ld 1 false (.t 171)), .g 173 168 false (.mv (.t 8)), .g 174 168 false (.iA 3 (.t 172) (.t 173)), .g 175 168 false (.ld 3 true (.t 174)), .g 176 168 false (.ld 3 true (.t 9)), .g 177 168 false (.call F.ratio_Same [(.t 175), (.t 176)]), .g 178 168 false (.un .not (.t 177)), .a 179 (.pick (.t 168) (.c (.bool true)) (.t 178))] [9, 10, 68, 159, 160, 161, 162, 163, 164, 165, 166, 167, 168, 169, 170, 171, 172, 173, 174, 175, 176, 177, 178] [9])
  (.cond (.t 179) (.seq (.reg [] [.a 2 (.mv (.c (.bool false)))] [0, 3, 5, 6, 7, 8, 179] [49])
  .ret) .skip))))))
  (.reg [] [.a 53 (.mv (.t 8)), .a 54 (.bin .add (.t 53) (.c (.int .i64 1))), .a 8 (.mv (.t 54))] [53, 54, 179] [])))
def dendronlaw19_GamePairs : R.Fn := ⟨1, [(.t 2)], (.seq (.reg [] [.a 2 (.mv (.c (.bool false)))] [2] [])
  (.seq (.reg [] [.a 17 (.mv (.t 0)), .a 18 (.call F.dendronlaw19_Few [(.t 17)]), .a 0 (.mv (.t 18))] [17, 18] [])
  (.seq (.reg [] [.a 20 (.mv (.t 0)), .a 21 (.call F.game_Pairs [(.t 20)]), .a 19 (.mv (.t 21)), .a 22 (.ext (.t 19) 0), .a 23 (.ext (.t 19) 1), .a 3 (.mv (.t 22)), .a 4 (.mv (.t 23))] [19, 20, 21, 22, 23] [])
  (.seq (.reg [] [.a 24 (.mv (.t 0)), .a 25 (.call F.dendronlaw19_Size [(.t 24)]), .a 5 (.mv (.t 25))] [24, 25] [])
  (.seq (.seq (.reg [] [.a 26 (.mv (.t 5)), .a 27 (.bin .lss (.t 26) (.c (.int .i64 0)))] [26] [])
  (.cond (.t 27) (.seq (.reg [] [.a 28 (.mv (.t 3)), .a 29 (.ln (.t 28)), .a 30 (.bin .eql (.t 29) (.c (.int .i64 0))), .a 31 (.mv (.t 30)), .g 32 31 true (.mv (.t 4)), .g 33 31 true (.bin .eql (.t 32) (.c (.int .i64 1))), .a 34 (.pick (.t 31) (.t 33) (.c (.bool false))), .a 35 (.mv (.t 34)), .g 36 35 true (.call F.dendronlaw19_awake []), .a 37 (.pick (.t 35) (.t 36) (.c (.bool false))), .a 2 (.mv (.t 37))] [0, 3, 4, 5, 27, 28, 29, 30, 31, 32, 33, 34, 35, 36, 37] [])
  .ret) .skip))
  (.seq (.seq (.reg [] [.a 38 (.mv (.t 4)), .a 39 (.bin .neq (.t 38) (.c (.int .i64 0))), .a 40 (.mv (.t 39)), .g 41 40 false (.mv (.t 3)), .g 42 40 false (.ln (.t 41)), .g 43 40 false (.mv (.t 5)), .g 44 40 false (.bin .neq (.t 42) (.t 43)), .a 45 (.pick (.t 40) (.c (.bool true)) (.t 44))] [4, 27, 38, 39, 40, 41, 42, 43, 44] [])
  (.cond (.t 45) (.seq (.reg [] [.a 2 (.mv (.c (.bool false)))] [0, 3, 5, 45] [])
  .ret) .skip))
  (.seq (.reg [] [.a 46 (.mv (.t 0)), .a 47 (.mv (.t 5)), .a 48 (.call F.dendronlaw15_Shapley [(.t 46), (.t 47), (.c (.int .i64 (-1))), (.c (.bool false))]), .a 6 (.mv (.t 48))] [45, 46, 47, 48] [])
  (.seq (.reg [] [.a 49 (.callk F.weigh_New []), .a 7 (.mv (.t 49))] [49] [])
  (.seq (.seq (.reg [] [.a 8 (.mv (.c (.int .i64 0)))] [] [])
  (.block 0 (.loop [] [] dendronlaw19_GamePairs.b0)))
  (.seq (.reg [] [.a 180 (.call F.dendronlaw19_awake []), .a 2 (.mv (.t 180))] [0, 3, 5, 6, 7, 8, 52, 180] [49])
  .ret))))))))))⟩
def dendronlaw19_GamePairs.hint : R.Hint := { callk := [(49, []), (95, [true, false, false])], pub := [(28, [47244640267, 55834574861, 64424509455, 68719476752])], kill := [(0, [2], []), (1, [17, 18], []), (2, [19, 20, 21, 22, 23], []), (3, [24, 25], []), (4, [26], []), (5, [0, 3, 4, 5, 27, 28, 29, 30, 31, 32, 33, 34, 35, 36, 37], []), (6, [4, 27, 38, 39, 40, 41, 42, 43, 44], []), (7, [0, 3, 5, 45], []), (8, [45, 46, 47, 48], []), (9, [49], []), (11, [50, 51], []), (12, [53, 54, 179], []), (13, [52, 55, 56, 57, 58, 59, 60], []), (14, [0, 3, 5, 6, 7, 8, 61], [49]), (15, [61, 62, 63, 64, 65], []), (17, [66, 67], []), (18, [69, 70, 73, 158], []), (19, [68, 71, 72], []), (20, [73, 74], []), (22, [75, 76, 77], []), (23, [79, 80, 88], []), (24, [78, 81, 82, 83, 84, 85, 86, 87], []), (25, [14, 88, 89, 90, 91, 92, 93, 94, 95, 96, 97], [95, 1095, 2095, 3095]), (26, [98, 99, 100, 101, 102, 103, 104, 105, 106, 107, 108, 109, 110, 111, 112], []), (27, [113, 114, 115, 116, 117, 118, 119, 120, 121, 122, 123, 124, 125, 126, 127], []), (28, [13, 15, 16, 128, 129, 130, 131, 132, 133, 134], [13, 15, 16]), (29, [12, 78, 135, 136, 137], []), (30, [11, 138, 139, 140, 141, 142, 143, 144, 145, 146, 147, 148, 149, 150, 151, 152, 153, 154, 155, 156, 157], [11]), (31, [0, 3, 5, 6, 7, 8, 9, 10, 158], [9, 49]), (32, [9, 10, 68, 159, 160, 161, 162, 163, 164, 165, 166, 167, 168, 169, 170, 171, 172, 173, 174, 175, 176, 177, 178], [9]), (33, [0, 3, 5, 6, 7, 8, 179], [49]), (34, [0, 3, 5, 6, 7, 8, 52, 180], [49])] }
theorem dendronlaw19_GamePairs.ok : cFn Tryz.prog dendronlaw19_GamePairs.hint Tryz.f8 = some dendronlaw19_GamePairs := by kernel_rfl
def dendronlaw22_OwenAlones : R.Fn := ⟨1, [(.t 2)], (.seq (.reg [] [.a 2 (.mv (.c (.bool false)))] [2] [])
  (.seq (.reg [] [.a 10 (.mv (.t 0)), .a 11 (.call F.dendronlaw19_Few [(.t 10)]), .a 0 (.mv (.t 11))] [10, 11] [])
  (.seq (.reg [] [.a 12 (.mv (.t 0)), .a 13 (.call F.dendronlaw19_Size [(.t 12)]), .a 3 (.mv (.t 13))] [12, 13] [])
  (.seq (.seq (.reg [] [.a 14 (.mv (.t 3)), .a 15 (.bin .lss (.t 14) (.c (.int .i64 1)))] [14] [])
  (.cond (.t 15) (.seq (.reg [] [.a 16 (.call F.dendronlaw22_awake []), .a 2 (.mv (.t 16))] [0, 3, 15, 16] [])
  .ret) .skip))
  (.seq (.reg [] [.a 18 (.mv (.t 0)), .a 19 (.mv (.t 3)), .a 20 (.call F.owen_Alone [(.t 19)]), .a 21 (.call F.owen_Values [(.t 18), (.t 20)]), .a 17 (.mv (.t 21)), .a 22 (.ext (.t 17) 0), .a 23 (.ext (.t 17) 1), .a 4 (.mv (.t 22)), .a 5 (.mv (.t 23))] [15, 17, 18, 19, 20, 21, 22, 23] [])
  (.seq (.reg [] [.a 25 (.mv (.t 0)), .a 26 (.mv (.t 3)), .a 27 (.call F.dendronlaw22_two [(.t 26)]), .a 28 (.bin .sub (.t 27) (.c (.int .i64 1))), .a 29 (.lit 1 1 [(.int .i64 0)] [(0, 1, (.t 28))]), .a 30 (.call F.owen_Values [(.t 25), (.t 29)]), .a 24 (.mv (.t 30)), .a 31 (.ext (.t 24) 0), .a 32 (.ext (.t 24) 1), .a 6 (.mv (.t 31)), .a 7 (.mv (.t 32))] [3, 24, 25, 26, 27, 28, 29, 30, 31, 32] [])
  (.seq (.reg [] [.a 34 (.mv (.t 0)), .a 35 (.call F.game_Shapley [(.t 34)]), .a 33 (.mv (.t 35)), .a 36 (.ext (.t 33) 0), .a 37 (.ext (.t 33) 1), .a 8 (.mv (.t 36)), .a 9 (.mv (.t 37))] [0, 33, 34, 35, 36, 37] [])
  (.seq (.reg [] [.a 38 (.mv (.t 5)), .a 39 (.bin .eql (.t 38) (.c (.int .i64 0))), .a 40 (.mv (.t 39)), .g 41 40 true (.mv (.t 7)), .g 42 40 true (.bin .eql (.t 41) (.c (.int .i64 0))), .a 43 (.pick (.t 40) (.t 42) (.c (.bool false))), .a 44 (.mv (.t 43)), .g 45 44 true (.mv (.t 9)), .g 46 44 true (.bin .eql (.t 45) (.c (.int .i64 0))), .a 47 (.pick (.t 44) (.t 46) (.c (.bool false))), .a 48 (.mv (.t 47)), .g 49 48 true (.mv (.t 4)), .g 50 48 true (.mv (.t 8)), .g 51 48 true (.call F.dendronref10_All [(.t 49), (.t 50)]), .a 52 (.pick (.t 48) (.t 51) (.c (.bool false))), .a 53 (.mv (.t 52)), .g 54 53 true (.mv (.t 6)), .g 55 53 true (.mv (.t 8)), .g 56 53 true (.call F.dendronref10_All [(.t 54), (.t 55)]), .a 57 (.pick (.t 53) (.t 56) (.c (.bool false))), .a 58 (.mv (.t 57)), .g 59 58 true (.call F.dendronlaw22_awake []), .a 60 (.pick (.t 58) (.t 59) (.c (.bool false))), .a 2 (.mv (.t 60))] [4, 5, 6, 7, 8, 9, 38, 39, 40, 41, 42, 43, 44, 45, 46, 47, 48, 49, 50, 51, 52, 53, 54, 55, 56, 57, 58, 59, 60] [])
  .ret))))))))⟩
def dendronlaw22_OwenAlones.hint : R.Hint := { kill := [(0, [2], []), (1, [10, 11], []), (2, [12, 13], []), (3, [14], []), (4, [0, 3, 15, 16], []), (5, [15, 17, 18, 19, 20, 21, 22, 23], []), (6, [3, 24, 25, 26, 27, 28, 29, 30, 31, 32], []), (7, [0, 33, 34, 35, 36, 37], []), (8, [4, 5, 6, 7, 8, 9, 38, 39, 40, 41, 42, 43, 44, 45, 46, 47, 48, 49, 50, 51, 52, 53, 54, 55, 56, 57, 58, 59, 60], [])] }
theorem dendronlaw22_OwenAlones.ok : cFn Tryz.prog dendronlaw22_OwenAlones.hint Tryz.f9 = some dendronlaw22_OwenAlones := by kernel_rfl
def dendronlaw22_OwenGroups.b2 : R.C := (.seq (.seq (.reg [] [.a 66 (.mv (.t 11)), .a 67 (.mv (.t 2)), .a 68 (.ln (.t 67)), .a 69 (.bin .lss (.t 66) (.t 68))] [66, 67, 68] [])
  (.cond (.t 69) .skip (.exit 2)))
  (.seq (.block 3 (.seq (.reg [] [.a 72 (.mv (.t 1)), .a 73 (.mv (.t 9)), .a 74 (.iA 1 (.t 72) (.t 73)), .a 75 (.ld 1 false (.t 74)), .a 76 (.mv (.t 11)), .a 77 (.call F.dendronref19_In [(.t 75), (.t 76)])] [69, 72, 73, 74, 75, 76] [])
  (.cond (.t 77) (.reg [42949672970] [.a 78 (.ld 3 true (.t 10)), .a 79 (.mv (.t 2)), .a 80 (.mv (.t 11)), .a 81 (.iA 3 (.t 79) (.t 80)), .a 82 (.ld 3 true (.t 81)), .a 83 (.call F.ratio_Add [(.t 78), (.t 82)]), .n (.st 3 (.t 10) (.t 83))] [77, 78, 79, 80, 81, 82, 83] []) .skip)))
  (.reg [] [.a 70 (.mv (.t 11)), .a 71 (.bin .add (.t 70) (.c (.int .i64 1))), .a 11 (.mv (.t 71))] [70, 71, 77] [])))
def dendronlaw22_OwenGroups.b0 : R.C := (.seq (.seq (.reg [] [.a 59 (.mv (.t 9)), .a 60 (.mv (.t 1)), .a 61 (.ln (.t 60)), .a 62 (.bin .lss (.t 59) (.t 61))] [59, 60, 61] [])
  (.cond (.t 62) .skip (.exit 0)))
  (.seq (.block 1 (.seq (.reg [] [.a 65 (.call F.ratio_Zero []), .a 10 (.new [(.bool false), (.sl 1 []), (.sl 1 [])]), .n (.st 3 (.t 10) (.t 65))] [62, 65] [])
  (.seq (.seq (.reg [] [.a 11 (.mv (.c (.int .i64 0)))] [] [])
  (.block 2 (.loop [] [] dendronlaw22_OwenGroups.b2)))
  (.seq (.reg [] [.a 84 (.mv (.t 7)), .a 85 (.mv (.t 9)), .a 86 (.iA 3 (.t 84) (.t 85)), .a 87 (.ld 3 true (.t 86)), .a 88 (.call F.ratio_Right [(.t 87)]), .a 89 (.un .not (.t 88)), .a 90 (.mv (.t 89)), .g 91 90 false (.mv (.t 7)), .g 92 90 false (.mv (.t 9)), .g 93 90 false (.iA 3 (.t 91) (.t 92)), .g 94 90 false (.ld 3 true (.t 93)), .g 95 90 false (.ld 3 true (.t 10)), .g 96 90 false (.call F.ratio_Same [(.t 94), (.t 95)]), .g 97 90 false (.un .not (.t 96)), .a 98 (.pick (.t 90) (.c (.bool true)) (.t 97))] [10, 11, 69, 84, 85, 86, 87, 88, 89, 90, 91, 92, 93, 94, 95, 96, 97] [10])
  (.cond (.t 98) (.seq (.reg [] [.a 6 (.mv (.c (.bool false)))] [0, 1, 2, 7, 9, 98] [])
  .ret) .skip)))))
  (.reg [] [.a 63 (.mv (.t 9)), .a 64 (.bin .add (.t 63) (.c (.int .i64 1))), .a 9 (.mv (.t 64))] [63, 64, 98] [])))
def dendronlaw22_OwenGroups : R.Fn := ⟨3, [(.t 6)], (.seq (.reg [] [.a 6 (.mv (.c (.bool false)))] [6] [])
  (.seq (.reg [] [.a 21 (.mv (.t 0)), .a 22 (.call F.dendronlaw19_Few [(.t 21)]), .a 0 (.mv (.t 22))] [21, 22] [])
  (.seq (.reg [] [.a 23 (.mv (.t 1)), .a 24 (.call F.dendronlaw22_few [(.t 23)]), .a 1 (.mv (.t 24))] [23, 24] [])
  (.seq (.reg [] [.a 25 (.mv (.t 2)), .a 26 (.call F.dendronlaw19_Few [(.t 25)]), .a 2 (.mv (.t 26))] [25, 26] [])
  (.seq (.seq (.reg [] [.a 27 (.mv (.t 2)), .a 28 (.ln (.t 27)), .a 29 (.bin .gtr (.t 28) (.c (.int .i64 12)))] [27, 28] [])
  (.cond (.t 29) (.reg [] [.a 30 (.mv (.t 2)), .a 31 (.slc 3 (.t 30) none (some (.c (.int .i64 12)))), .a 2 (.mv (.t 31))] [29, 30, 31] []) .skip))
  (.seq (.reg [] [.a 33 (.mv (.t 2)), .a 34 (.mv (.t 1)), .a 35 (.call F.owen_Groups [(.t 33), (.t 34)]), .a 32 (.mv (.t 35)), .a 36 (.ext (.t 32) 0), .a 37 (.ext (.t 32) 1), .a 7 (.mv (.t 36)), .a 8 (.mv (.t 37))] [29, 32, 33, 34, 35, 36, 37] [])
  (.seq (.seq (.reg [] [.a 38 (.mv (.t 1)), .a 39 (.mv (.t 2)), .a 40 (.ln (.t 39)), .a 41 (.call F.dendronlaw22_right [(.t 38), (.t 40)]), .a 42 (.un .not (.t 41))] [38, 39, 40, 41] [])
  (.cond (.t 42) (.seq (.reg [] [.a 43 (.mv (.t 7)), .a 44 (.ln (.t 43)), .a 45 (.bin .neq (.t 44) (.c (.int .i64 0))), .a 46 (.mv (.t 45)), .g 47 46 false (.mv (.t 8)), .g 48 46 false (.bin .neq (.t 47) (.c (.int .i64 1))), .a 49 (.pick (.t 46) (.c (.bool true)) (.t 48))] [2, 7, 8, 42, 43, 44, 45, 46, 47, 48] [])
  (.cond (.t 49) (.seq (.reg [] [.a 6 (.mv (.c (.bool false)))] [0, 1, 49] [])
  .ret) .skip)) (.seq (.seq (.reg [] [.a 50 (.mv (.t 8)), .a 51 (.bin .neq (.t 50) (.c (.int .i64 0))), .a 52 (.mv (.t 51)), .g 53 52 false (.mv (.t 7)), .g 54 52 false (.ln (.t 53)), .g 55 52 false (.mv (.t 1)), .g 56 52 false (.ln (.t 55)), .g 57 52 false (.bin .neq (.t 54) (.t 56)), .a 58 (.pick (.t 52) (.c (.bool true)) (.t 57))] [8, 42, 50, 51, 52, 53, 54, 55, 56, 57] [])
  (.cond (.t 58) (.seq (.reg [] [.a 6 (.mv (.c (.bool false)))] [0, 1, 2, 7, 58] [])
  .ret) .skip))
  (.seq (.reg [] [.a 9 (.mv (.c (.int .i64 0)))] [58] [])
  (.block 0 (.loop [] [] dendronlaw22_OwenGroups.b0))))))
  (.seq (.reg [] [.a 99 (.mv (.t 0)), .a 100 (.call F.dendronlaw19_Size [(.t 99)]), .a 12 (.mv (.t 100))] [2, 7, 9, 49, 62, 99, 100] [])
  (.seq (.seq (.reg [] [.a 101 (.mv (.t 12)), .a 102 (.bin .lss (.t 101) (.c (.int .i64 0))), .a 103 (.mv (.t 102)), .g 104 103 false (.mv (.t 1)), .g 105 103 false (.mv (.t 12)), .g 106 103 false (.call F.dendronlaw22_right [(.t 104), (.t 105)]), .g 107 103 false (.un .not (.t 106)), .a 108 (.pick (.t 103) (.c (.bool true)) (.t 107))] [12, 101, 102, 103, 104, 105, 106, 107] [])
  (.cond (.t 108) (.seq (.reg [] [.a 109 (.call F.dendronlaw22_awake []), .a 6 (.mv (.t 109))] [0, 1, 108, 109] [])
  .ret) .skip))
  (.seq (.reg [] [.a 111 (.mv (.t 0)), .a 112 (.mv (.t 1)), .a 113 (.call F.owen_Values [(.t 111), (.t 112)]), .a 110 (.mv (.t 113)), .a 114 (.ext (.t 110) 0), .a 115 (.ext (.t 110) 1), .a 13 (.mv (.t 114)), .a 14 (.mv (.t 115))] [108, 110, 111, 112, 113, 114, 115] [])
  (.seq (.reg [] [.a 117 (.mv (.t 13)), .a 118 (.mv (.t 1)), .a 119 (.call F.owen_Groups [(.t 117), (.t 118)]), .a 116 (.mv (.t 119)), .a 120 (.ext (.t 116) 0), .a 121 (.ext (.t 116) 1), .a 15 (.mv (.t 120)), .a 16 (.mv (.t 121))] [13, 116, 117, 118, 119, 120, 121] [])
  (.seq (.reg [] [.a 123 (.mv (.t 0)), .a 124 (.mv (.t 1)), .a 125 (.call F.owen_Quotient [(.t 123), (.t 124)]), .a 122 (.mv (.t 125)), .a 126 (.ext (.t 122) 0), .a 127 (.ext (.t 122) 1), .a 17 (.mv (.t 126)), .a 18 (.mv (.t 127))] [0, 1, 122, 123, 124, 125, 126, 127] [])
  (.seq (.reg [] [.a 129 (.mv (.t 17)), .a 130 (.call F.game_Shapley [(.t 129)]), .a 128 (.mv (.t 130)), .a 131 (.ext (.t 128) 0), .a 132 (.ext (.t 128) 1), .a 19 (.mv (.t 131)), .a 20 (.mv (.t 132))] [17, 128, 129, 130, 131, 132] [])
  (.seq (.reg [] [.a 133 (.mv (.t 14)), .a 134 (.bin .eql (.t 133) (.c (.int .i64 0))), .a 135 (.mv (.t 134)), .g 136 135 true (.mv (.t 16)), .g 137 135 true (.bin .eql (.t 136) (.c (.int .i64 0))), .a 138 (.pick (.t 135) (.t 137) (.c (.bool false))), .a 139 (.mv (.t 138)), .g 140 139 true (.mv (.t 18)), .g 141 139 true (.bin .eql (.t 140) (.c (.int .i64 0))), .a 142 (.pick (.t 139) (.t 141) (.c (.bool false))), .a 143 (.mv (.t 142)), .g 144 143 true (.mv (.t 20)), .g 145 143 true (.bin .eql (.t 144) (.c (.int .i64 0))), .a 146 (.pick (.t 143) (.t 145) (.c (.bool false))), .a 147 (.mv (.t 146)), .g 148 147 true (.mv (.t 15)), .g 149 147 true (.mv (.t 19)), .g 150 147 true (.call F.dendronref10_All [(.t 148), (.t 149)]), .a 151 (.pick (.t 147) (.t 150) (.c (.bool false))), .a 152 (.mv (.t 151)), .g 153 152 true (.call F.dendronlaw22_awake []), .a 154 (.pick (.t 152) (.t 153) (.c (.bool false))), .a 6 (.mv (.t 154))] [14, 15, 16, 18, 19, 20, 133, 134, 135, 136, 137, 138, 139, 140, 141, 142, 143, 144, 145, 146, 147, 148, 149, 150, 151, 152, 153, 154] [])
  .ret))))))))))))))⟩
def dendronlaw22_OwenGroups.hint : R.Hint := { pub := [(20, [42949672970])], kill := [(0, [6], []), (1, [21, 22], []), (2, [23, 24], []), (3, [25, 26], []), (4, [27, 28], []), (5, [29, 30, 31], []), (6, [29, 32, 33, 34, 35, 36, 37], []), (7, [38, 39, 40, 41], []), (8, [2, 7, 8, 42, 43, 44, 45, 46, 47, 48], []), (9, [0, 1, 49], []), (10, [8, 42, 50, 51, 52, 53, 54, 55, 56, 57], []), (11, [0, 1, 2, 7, 58], []), (12, [58], []), (13, [59, 60, 61], []), (14, [63, 64, 98], []), (15, [62, 65], []), (17, [66, 67, 68], []), (18, [70, 71, 77], []), (19, [69, 72, 73, 74, 75, 76], []), (20, [77, 78, 79, 80, 81, 82, 83], []), (21, [10, 11, 69, 84, 85, 86, 87, 88, 89, 90, 91, 92, 93, 94, 95, 96, 97], [10]), (22, [0, 1, 2, 7, 9, 98], []), (23, [2, 7, 9, 49, 62, 99, 100], []), (24, [12, 101, 102, 103, 104, 105, 106, 107], []), (25, [0, 1, 108, 109], []), (26, [108, 110, 111, 112, 113, 114, 115], []), (27, [13, 116, 117, 118, 119, 120, 121], []), (28, [0, 1, 122, 123, 124, 125, 126, 127], []), (29, [17, 128, 129, 130, 131, 132], []), (30, [14, 15, 16, 18, 19, 20, 133, 134, 135, 136, 137, 138, 139, 140, 141, 142, 143, 144, 145, 146, 147, 148, 149, 150, 151, 152, 153, 154], [])] }
theorem dendronlaw22_OwenGroups.ok : cFn Tryz.prog dendronlaw22_OwenGroups.hint Tryz.f10 = some dendronlaw22_OwenGroups := by kernel_rfl
def dendronlaw22_OwenValues.b0 : R.C := (.seq (.seq (.reg [] [.a 49 (.mv (.t 11)), .a 50 (.mv (.t 8)), .a 51 (.ln (.t 50)), .a 52 (.bin .lss (.t 49) (.t 51))] [49, 50, 51] [])
  (.cond (.t 52) .skip (.exit 0)))
  (.seq (.block 1 (.seq (.reg [] [.a 55 (.mv (.t 8)), .a 56 (.mv (.t 11)), .a 57 (.iA 1 (.t 55) (.t 56)), .a 58 (.ld 1 false (.t 57)), .a 59 (.mv (.t 1)), .a 60 (.call F.dendronlaw22_together [(.t 58), (.t 59)])] [52, 55, 56, 57, 58, 59] [])
  (.cond (.t 60) (.reg [] [.a 61 (.mv (.t 10)), .a 62 (.mv (.t 8)), .a 63 (.mv (.t 11)), .a 64 (.iA 1 (.t 62) (.t 63)), .a 65 (.ld 1 false (.t 64)), .a 66 (.lit 1 1 [(.sl 1 [])] [(0, 1, (.t 65))]), .a 67 (.app 1 24 (.t 61) (.t 66)), .a 10 (.mv (.t 67))] [60, 61, 62, 63, 64, 65, 66, 67] []) .skip)))
  (.reg [] [.a 53 (.mv (.t 11)), .a 54 (.bin .add (.t 53) (.c (.int .i64 1))), .a 11 (.mv (.t 54))] [53, 54, 60] [])))
def dendronlaw22_OwenValues : R.Fn := ⟨2, [(.t 4)], (.seq (.reg [] [.a 4 (.mv (.c (.bool false)))] [4] [])
  (.seq (.reg [] [.a 14 (.mv (.t 0)), .a 15 (.call F.dendronlaw19_Few [(.t 14)]), .a 0 (.mv (.t 15))] [14, 15] [])
  (.seq (.reg [] [.a 16 (.mv (.t 1)), .a 17 (.call F.dendronlaw22_few [(.t 16)]), .a 1 (.mv (.t 17))] [16, 17] [])
  (.seq (.reg [] [.a 19 (.mv (.t 0)), .a 20 (.mv (.t 1)), .a 21 (.call F.owen_Values [(.t 19), (.t 20)]), .a 18 (.mv (.t 21)), .a 22 (.ext (.t 18) 0), .a 23 (.ext (.t 18) 1), .a 5 (.mv (.t 22)), .a 6 (.mv (.t 23))] [18, 19, 20, 21, 22, 23] [])
  (.seq (.reg [] [.a 24 (.mv (.t 0)), .a 25 (.call F.dendronlaw19_Size [(.t 24)]), .a 7 (.mv (.t 25))] [24, 25] [])
  (.seq (.seq (.reg [] [.a 26 (.mv (.t 7)), .a 27 (.bin .lss (.t 26) (.c (.int .i64 0))), .a 28 (.mv (.t 27)), .g 29 28 false (.mv (.t 1)), .g 30 28 false (.mv (.t 7)), .g 31 28 false (.call F.dendronlaw22_right [(.t 29), (.t 30)]), .g 32 28 false (.un .not (.t 31)), .a 33 (.pick (.t 28) (.c (.bool true)) (.t 32))] [26, 27, 28, 29, 30, 31, 32] [])
  (.cond (.t 33) (.seq (.reg [] [.a 34 (.mv (.t 5)), .a 35 (.ln (.t 34)), .a 36 (.bin .eql (.t 35) (.c (.int .i64 0))), .a 37 (.mv (.t 36)), .g 38 37 true (.mv (.t 6)), .g 39 37 true (.bin .eql (.t 38) (.c (.int .i64 1))), .a 40 (.pick (.t 37) (.t 39) (.c (.bool false))), .a 41 (.mv (.t 40)), .g 42 41 true (.call F.dendronlaw22_awake []), .a 43 (.pick (.t 41) (.t 42) (.c (.bool false))), .a 4 (.mv (.t 43))] [0, 1, 5, 6, 7, 33, 34, 35, 36, 37, 38, 39, 40, 41, 42, 43] [])
  .ret) .skip))
  (.seq (.reg [] [.a 45 (.mv (.t 7)), .a 46 (.call F.orders_All [(.t 45)]), .a 44 (.mv (.t 46)), .a 47 (.ext (.t 44) 0), .a 48 (.ext (.t 44) 1), .a 8 (.mv (.t 47)), .a 9 (.mv (.t 48))] [7, 33, 44, 45, 46, 47, 48] [])
  (.seq (.reg [] [.a 10 (.nil 1)] [] [])
  (.seq (.seq (.reg [] [.a 11 (.mv (.c (.int .i64 0)))] [] [])
  (.block 0 (.loop [] [] dendronlaw22_OwenValues.b0)))
  (.seq (.reg [10] [.a 69 (.mv (.t 0)), .a 70 (.mv (.t 10)), .a 71 (.call F.orders_Mean [(.t 69), (.t 70)]), .a 68 (.mv (.t 71)), .a 72 (.ext (.t 68) 0), .a 73 (.ext (.t 68) 1), .a 12 (.mv (.t 72)), .a 13 (.mv (.t 73))] [0, 1, 8, 10, 11, 52, 68, 69, 70, 71, 72, 73] [10])
  (.seq (.reg [] [.a 74 (.mv (.t 6)), .a 75 (.bin .eql (.t 74) (.c (.int .i64 0))), .a 76 (.mv (.t 75)), .g 77 76 true (.mv (.t 9)), .g 78 76 true (.bin .eql (.t 77) (.c (.int .i64 0))), .a 79 (.pick (.t 76) (.t 78) (.c (.bool false))), .a 80 (.mv (.t 79)), .g 81 80 true (.mv (.t 13)), .g 82 80 true (.bin .eql (.t 81) (.c (.int .i64 0))), .a 83 (.pick (.t 80) (.t 82) (.c (.bool false))), .a 84 (.mv (.t 83)), .g 85 84 true (.mv (.t 5)), .g 86 84 true (.mv (.t 12)), .g 87 84 true (.call F.dendronref10_All [(.t 85), (.t 86)]), .a 88 (.pick (.t 84) (.t 87) (.c (.bool false))), .a 89 (.mv (.t 88)), .g 90 89 true (.call F.dendronlaw22_awake []), .a 91 (.pick (.t 89) (.t 90) (.c (.bool false))), .a 4 (.mv (.t 91))] [5, 6, 9, 12, 13, 74, 75, 76, 77, 78, 79, 80, 81, 82, 83, 84, 85, 86, 87, 88, 89, 90, 91] [])
  .ret)))))))))))⟩
def dendronlaw22_OwenValues.hint : R.Hint := { nil := [10], pub := [(14, [10])], kill := [(0, [4], []), (1, [14, 15], []), (2, [16, 17], []), (3, [18, 19, 20, 21, 22, 23], []), (4, [24, 25], []), (5, [26, 27, 28, 29, 30, 31, 32], []), (6, [0, 1, 5, 6, 7, 33, 34, 35, 36, 37, 38, 39, 40, 41, 42, 43], []), (7, [7, 33, 44, 45, 46, 47, 48], []), (10, [49, 50, 51], []), (11, [53, 54, 60], []), (12, [52, 55, 56, 57, 58, 59], []), (13, [60, 61, 62, 63, 64, 65, 66, 67], []), (14, [0, 1, 8, 10, 11, 52, 68, 69, 70, 71, 72, 73], [10]), (15, [5, 6, 9, 12, 13, 74, 75, 76, 77, 78, 79, 80, 81, 82, 83, 84, 85, 86, 87, 88, 89, 90, 91], [])] }
theorem dendronlaw22_OwenValues.ok : cFn Tryz.prog dendronlaw22_OwenValues.hint Tryz.f11 = some dendronlaw22_OwenValues := by kernel_rfl
def dendronlaw21_OrdersValues : R.Fn := ⟨1, [(.t 2)], (.seq (.reg [] [.a 2 (.mv (.c (.bool false)))] [2] [])
  (.seq (.reg [] [.a 7 (.mv (.t 0)), .a 8 (.call F.dendronlaw19_Few [(.t 7)]), .a 0 (.mv (.t 8))] [7, 8] [])
  (.seq (.reg [] [.a 10 (.mv (.t 0)), .a 11 (.call F.orders_Values [(.t 10)]), .a 9 (.mv (.t 11)), .a 12 (.ext (.t 9) 0), .a 13 (.ext (.t 9) 1), .a 3 (.mv (.t 12)), .a 4 (.mv (.t 13))] [9, 10, 11, 12, 13] [])
  (.seq (.seq (.reg [] [.a 14 (.mv (.t 0)), .a 15 (.call F.dendronlaw19_Size [(.t 14)]), .a 16 (.bin .lss (.t 15) (.c (.int .i64 0)))] [14, 15] [])
  (.cond (.t 16) (.seq (.reg [] [.a 17 (.mv (.t 3)), .a 18 (.ln (.t 17)), .a 19 (.bin .eql (.t 18) (.c (.int .i64 0))), .a 20 (.mv (.t 19)), .g 21 20 true (.mv (.t 4)), .g 22 20 true (.bin .eql (.t 21) (.c (.int .i64 1))), .a 23 (.pick (.t 20) (.t 22) (.c (.bool false))), .a 24 (.mv (.t 23)), .g 25 24 true (.call F.dendronlaw21_awake []), .a 26 (.pick (.t 24) (.t 25) (.c (.bool false))), .a 2 (.mv (.t 26))] [0, 3, 4, 16, 17, 18, 19, 20, 21, 22, 23, 24, 25, 26] [])
  .ret) .skip))
  (.seq (.reg [] [.a 28 (.mv (.t 0)), .a 29 (.call F.game_Shapley [(.t 28)]), .a 27 (.mv (.t 29)), .a 30 (.ext (.t 27) 0), .a 31 (.ext (.t 27) 1), .a 5 (.mv (.t 30)), .a 6 (.mv (.t 31))] [0, 16, 27, 28, 29, 30, 31] [])
  (.seq (.reg [] [.a 32 (.mv (.t 4)), .a 33 (.bin .eql (.t 32) (.c (.int .i64 0))), .a 34 (.mv (.t 33)), .g 35 34 true (.mv (.t 6)), .g 36 34 true (.bin .eql (.t 35) (.c (.int .i64 0))), .a 37 (.pick (.t 34) (.t 36) (.c (.bool false))), .a 38 (.mv (.t 37)), .g 39 38 true (.mv (.t 3)), .g 40 38 true (.mv (.t 5)), .g 41 38 true (.call F.dendronref10_All [(.t 39), (.t 40)]), .a 42 (.pick (.t 38) (.t 41) (.c (.bool false))), .a 43 (.mv (.t 42)), .g 44 43 true (.call F.dendronlaw21_awake []), .a 45 (.pick (.t 43) (.t 44) (.c (.bool false))), .a 2 (.mv (.t 45))] [3, 4, 5, 6, 32, 33, 34, 35, 36, 37, 38, 39, 40, 41, 42, 43, 44, 45] [])
  .ret))))))⟩
def dendronlaw21_OrdersValues.hint : R.Hint := { kill := [(0, [2], []), (1, [7, 8], []), (2, [9, 10, 11, 12, 13], []), (3, [14, 15], []), (4, [0, 3, 4, 16, 17, 18, 19, 20, 21, 22, 23, 24, 25, 26], []), (5, [0, 16, 27, 28, 29, 30, 31], []), (6, [3, 4, 5, 6, 32, 33, 34, 35, 36, 37, 38, 39, 40, 41, 42, 43, 44, 45], [])] }
theorem dendronlaw21_OrdersValues.ok : cFn Tryz.prog dendronlaw21_OrdersValues.hint Tryz.f12 = some dendronlaw21_OrdersValues := by kernel_rfl
def dendronlaw19_Few.b0 : R.C := (.seq (.seq (.reg [] [.a 5 (.mv (.t 4)), .a 6 (.mv (.t 0)), .a 7 (.ln (.t 6)), .a 8 (.bin .lss (.t 5) (.t 7)), .a 9 (.mv (.t 8)), .g 10 9 true (.mv (.t 4)), .g 11 9 true (.bin .lss (.t 10) (.c (.int .i64 33))), .a 12 (.pick (.t 9) (.t 11) (.c (.bool false)))] [5, 6, 7, 8, 9, 10, 11] [])
  (.cond (.t 12) .skip (.exit 0)))
  (.seq (.block 1 (.reg [] [.a 15 (.mv (.t 3)), .a 16 (.mv (.t 0)), .a 17 (.mv (.t 4)), .a 18 (.iA 3 (.t 16) (.t 17)), .a 19 (.ld 3 true (.t 18)), .a 20 (.call F.dendronlaw19_number [(.t 19)]), .a 21 (.lit 3 1 [(.bool false), (.sl 1 []), (.sl 1 [])] [(0, 3, (.t 20))]), .a 22 (.app 3 56 (.t 15) (.t 21)), .a 3 (.mv (.t 22))] [12, 15, 16, 17, 18, 19, 20, 21, 22] []))
  (.reg [] [.a 13 (.mv (.t 4)), .a 14 (.bin .add (.t 13) (.c (.int .i64 1))), .a 4 (.mv (.t 14))] [13, 14] [])))
def dendronlaw19_Few : R.Fn := ⟨1, [(.t 2)], (.seq (.reg [] [.a 2 (.mv (.c (.sl 3 [])))] [2] [])
  (.seq (.reg [] [.a 3 (.nil 3)] [] [])
  (.seq (.seq (.reg [] [.a 4 (.mv (.c (.int .i64 0)))] [] [])
  (.block 0 (.loop [] [] dendronlaw19_Few.b0)))
  (.seq (.reg [] [.a 23 (.mv (.t 3)), .a 2 (.mv (.t 23))] [0, 3, 4, 12, 23] [])
  .ret))))⟩
def dendronlaw19_Few.hint : R.Hint := { nil := [3], kill := [(0, [2], []), (3, [5, 6, 7, 8, 9, 10, 11], []), (4, [13, 14], []), (5, [12, 15, 16, 17, 18, 19, 20, 21, 22], []), (6, [0, 3, 4, 12, 23], [])] }
theorem dendronlaw19_Few.ok : cFn Tryz.prog dendronlaw19_Few.hint Tryz.f13 = some dendronlaw19_Few := by kernel_rfl
def game_Shapley.b2 : R.C := (.seq (.reg [] [.a 36 (.bin .lss (.t 35) (.t 34))] [] [])
  (.seq (.cond (.t 36) .skip (.exit 2))
  (.seq (.block 3 (.seq (.reg [] [.a 37 (.mv (.t 35)), .a 11 (.mv (.t 37))] [36, 37] [])
  (.seq (.reg [] [.a 38 (.mv (.t 11)), .a 39 (.mv (.t 9)), .a 40 (.bin .shr (.t 38) (.t 39)), .a 41 (.bin .and (.t 40) (.c (.int .i64 1))), .a 42 (.bin .eql (.t 41) (.c (.int .i64 0)))] [38, 39, 40, 41] [])
  (.cond (.t 42) (.seq (.reg [] [.a 43 (.mv (.t 0)), .a 44 (.mv (.t 11)), .a 45 (.mv (.t 9)), .a 46 (.bin .shl (.c (.int .i64 1)) (.t 45)), .a 47 (.bin .or (.t 44) (.t 46)), .a 48 (.iA 3 (.t 43) (.t 47)), .a 49 (.ld 3 true (.t 48)), .a 50 (.mv (.t 0)), .a 51 (.mv (.t 11)), .a 52 (.iA 3 (.t 50) (.t 51)), .a 53 (.ld 3 true (.t 52)), .a 54 (.call F.ratio_Sub [(.t 49), (.t 53)]), .a 12 (.new [(.bool false), (.sl 1 []), (.sl 1 [])]), .n (.st 3 (.t 12) (.t 54))] [42, 43, 44, 45, 46, 47, 48, 49, 50, 51, 52, 53, 54] [])
  (.reg [42949672970, 51539607564] [.a 55 (.ld 3 true (.t 10)), .a 56 (.mv (.t 6)), .a 57 (.mv (.t 11)), .a 58 (.conv .u64 (.t 57)), .a 59 (.call F.bits_OnesCount [(.t 58)]), .a 60 (.iA 3 (.t 56) (.t 59)), .a 61 (.ld 3 true (.t 60)), .a 62 (.ld 3 true (.t 12)), .a 63 (.call F.ratio_Mul [(.t 61), (.t 62)]), .a 64 (.call F.ratio_Add [(.t 55), (.t 63)]), .n (.st 3 (.t 10) (.t 64))] [11, 12, 55, 56, 57, 58, 59, 60, 61, 62, 63, 64] [12])) .skip))))
  (.reg [] [.a 65 (.bin .add (.t 35) (.c (.int .i64 1))), .a 35 (.mv (.t 65))] [11, 42, 65] []))))
def game_Shapley.b0 : R.C := (.seq (.reg [] [.a 30 (.bin .lss (.t 29) (.t 28))] [] [])
  (.seq (.cond (.t 30) .skip (.exit 0))
  (.seq (.block 1 (.seq (.reg [] [.a 31 (.mv (.t 29)), .a 9 (.mv (.t 31))] [30, 31] [])
  (.seq (.reg [] [.a 32 (.call F.ratio_Zero []), .a 10 (.new [(.bool false), (.sl 1 []), (.sl 1 [])]), .n (.st 3 (.t 10) (.t 32))] [32] [])
  (.seq (.seq (.reg [] [.a 33 (.mv (.t 0)), .a 34 (.ln (.t 33)), .a 35 (.mv (.c (.int .i64 0)))] [33] [])
  (.block 2 (.loop [] [] game_Shapley.b2)))
  (.reg [] [.a 66 (.mv (.t 8)), .a 67 (.ld 3 true (.t 10)), .a 68 (.lit 3 1 [(.bool false), (.sl 1 []), (.sl 1 [])] [(0, 3, (.t 67))]), .a 69 (.app 3 56 (.t 66) (.t 68)), .a 8 (.mv (.t 69))] [9, 10, 34, 35, 36, 66, 67, 68, 69] [10])))))
  (.reg [] [.a 70 (.bin .add (.t 29) (.c (.int .i64 1))), .a 29 (.mv (.t 70))] [70] []))))
def game_Shapley : R.Fn := ⟨1, [(.t 2), (.t 3)], (.seq (.reg [] [.a 2 (.mv (.c (.sl 3 []))), .a 3 (.mv (.c (.int .i64 0)))] [2, 3] [])
  (.seq (.reg [] [.a 14 (.mv (.t 0)), .a 15 (.call F.game_Players [(.t 14)]), .a 13 (.mv (.t 15)), .a 16 (.ext (.t 13) 0), .a 17 (.ext (.t 13) 1), .a 4 (.mv (.t 16)), .a 5 (.mv (.t 17))] [13, 14, 15, 16, 17] [])
  (.seq (.seq (.reg [] [.a 18 (.mv (.t 5)), .a 19 (.un .not (.t 18))] [5, 18] [])
  (.cond (.t 19) (.seq (.reg [] [.a 2 (.mv (.c (.sl 3 []))), .a 3 (.mv (.c (.int .i64 1)))] [0, 4, 19] [])
  .ret) .skip))
  (.seq (.seq (.reg [] [.a 20 (.mv (.t 4)), .a 21 (.bin .eql (.t 20) (.c (.int .i64 0)))] [19, 20] [])
  (.cond (.t 21) (.seq (.reg [] [.a 2 (.mv (.c (.sl 3 []))), .a 3 (.mv (.c (.int .i64 0)))] [0, 4, 21] [])
  .ret) .skip))
  (.seq (.reg [] [.a 23 (.callk F.weigh_New []), .a 24 (.mv (.t 4)), .a 25 (.callk F.dendron_weigh_Table_All [(true, (.t 23)), (false, (.t 24))]), .a 22 (.mv (.t 25)), .a 26 (.ext (.t 22) 0), .a 27 (.ext (.t 22) 1), .a 6 (.mv (.t 26)), .a 7 (.mv (.t 27))] [7, 21, 22, 23, 24, 25, 26, 27] [])
  (.seq (.reg [] [.a 8 (.nil 3)] [] [])
  (.seq (.seq (.reg [] [.a 28 (.mv (.t 4)), .a 29 (.mv (.c (.int .i64 0)))] [4] [])
  (.block 0 (.loop [] [] game_Shapley.b0)))
  (.seq (.reg [] [.a 71 (.mv (.t 8)), .a 2 (.mv (.t 71)), .a 3 (.mv (.c (.int .i64 0)))] [0, 6, 8, 28, 29, 30, 71] [23, 25, 1025, 2025, 3025])
  .ret))))))))⟩
def game_Shapley.hint : R.Hint := { nil := [8], callk := [(23, []), (25, [true, false])], pub := [(17, [42949672970, 51539607564])], kill := [(0, [2, 3], []), (1, [13, 14, 15, 16, 17], []), (2, [5, 18], []), (3, [0, 4, 19], []), (4, [19, 20], []), (5, [0, 4, 21], []), (6, [7, 21, 22, 23, 24, 25, 26, 27], []), (8, [4], []), (10, [30, 31], []), (11, [32], []), (12, [33], []), (14, [36, 37], []), (15, [38, 39, 40, 41], []), (16, [42, 43, 44, 45, 46, 47, 48, 49, 50, 51, 52, 53, 54], []), (17, [11, 12, 55, 56, 57, 58, 59, 60, 61, 62, 63, 64], [12]), (18, [11, 42, 65], []), (19, [9, 10, 34, 35, 36, 66, 67, 68, 69], [10]), (20, [70], []), (21, [0, 6, 8, 28, 29, 30, 71], [23, 25, 1025, 2025, 3025])] }
theorem game_Shapley.ok : cFn Tryz.prog game_Shapley.hint Tryz.f14 = some game_Shapley := by kernel_rfl
def dendronlaw19_Size.b0 : R.C := (.seq (.seq (.reg [] [.a 4 (.mv (.t 3)), .a 5 (.bin .lss (.t 4) (.c (.int .i64 6)))] [4] [])
  (.cond (.t 5) .skip (.exit 0)))
  (.seq (.block 1 (.seq (.reg [] [.a 8 (.mv (.t 0)), .a 9 (.ln (.t 8)), .a 10 (.mv (.t 3)), .a 11 (.call F.dendronlaw19_two [(.t 10)]), .a 12 (.bin .eql (.t 9) (.t 11))] [5, 8, 9, 10, 11] [])
  (.cond (.t 12) (.seq (.reg [] [.a 13 (.mv (.t 3)), .a 2 (.mv (.t 13))] [0, 3, 12, 13] [])
  .ret) .skip)))
  (.reg [] [.a 6 (.mv (.t 3)), .a 7 (.bin .add (.t 6) (.c (.int .i64 1))), .a 3 (.mv (.t 7))] [6, 7, 12] [])))
def dendronlaw19_Size : R.Fn := ⟨1, [(.t 2)], (.seq (.reg [] [.a 2 (.mv (.c (.int .i64 0)))] [2] [])
  (.seq (.seq (.reg [] [.a 3 (.mv (.c (.int .i64 0)))] [] [])
  (.block 0 (.loop [] [] dendronlaw19_Size.b0)))
  (.seq (.reg [] [.a 2 (.mv (.c (.int .i64 (-1))))] [0, 3, 5] [])
  .ret)))⟩
def dendronlaw19_Size.hint : R.Hint := { kill := [(0, [2], []), (2, [4], []), (3, [6, 7, 12], []), (4, [5, 8, 9, 10, 11], []), (5, [0, 3, 12, 13], []), (6, [0, 3, 5], [])] }
theorem dendronlaw19_Size.ok : cFn Tryz.prog dendronlaw19_Size.hint Tryz.f15 = some dendronlaw19_Size := by kernel_rfl
def dendronlaw19_awake : R.Fn := ⟨0, [(.t 0)], (.seq (.reg [] [.a 0 (.mv (.c (.bool false)))] [0] [])
  (.seq (.reg [] [.a 4 (.call F.ratio_Of [(.c (.int .i64 0))]), .a 5 (.call F.ratio_Of [(.c (.int .i64 1))]), .a 6 (.call F.ratio_Of [(.c (.int .i64 2))]), .a 7 (.call F.ratio_Of [(.c (.int .i64 5))]), .a 8 (.lit 3 4 [(.bool false), (.sl 1 []), (.sl 1 []), (.bool false), (.sl 1 []), (.sl 1 []), (.bool false), (.sl 1 []), (.sl 1 []), (.bool false), (.sl 1 []), (.sl 1 [])] [(0, 3, (.t 4)), (3, 3, (.t 5)), (6, 3, (.t 6)), (9, 3, (.t 7))]), .a 9 (.call F.game_Shapley [(.t 8)]), .a 3 (.mv (.t 9)), .a 10 (.ext (.t 3) 0), .a 11 (.ext (.t 3) 1), .a 1 (.mv (.t 10)), .a 2 (.mv (.t 11))] [3, 4, 5, 6, 7, 8, 9, 10, 11] [])
  (.seq (.reg [] [.a 12 (.mv (.t 2)), .a 13 (.bin .eql (.t 12) (.c (.int .i64 0))), .a 14 (.mv (.t 13)), .g 15 14 true (.mv (.t 1)), .g 16 14 true (.ln (.t 15)), .g 17 14 true (.bin .eql (.t 16) (.c (.int .i64 2))), .a 18 (.pick (.t 14) (.t 17) (.c (.bool false))), .a 19 (.mv (.t 18)), .g 20 19 true (.mv (.t 1)), .g 21 19 true (.iA 3 (.t 20) (.c (.int .i64 0))), .g 22 19 true (.ld 3 true (.t 21)), .g 23 19 true (.call F.ratio_Of [(.c (.int .i64 2))]), .g 24 19 true (.call F.ratio_Same [(.t 22), (.t 23)]), .a 25 (.pick (.t 19) (.t 24) (.c (.bool false))), .a 26 (.mv (.t 25)), .g 27 26 true (.mv (.t 1)), .g 28 26 true (.iA 3 (.t 27) (.c (.int .i64 1))), .g 29 26 true (.ld 3 true (.t 28)), .g 30 26 true (.call F.ratio_Of [(.c (.int .i64 3))]), .g 31 26 true (.call F.ratio_Same [(.t 29), (.t 30)]), .a 32 (.pick (.t 26) (.t 31) (.c (.bool false))), .a 0 (.mv (.t 32))] [1, 2, 12, 13, 14, 15, 16, 17, 18, 19, 20, 21, 22, 23, 24, 25, 26, 27, 28, 29, 30, 31, 32] [])
  .ret)))⟩
def dendronlaw19_awake.hint : R.Hint := { kill := [(0, [0], []), (1, [3, 4, 5, 6, 7, 8, 9, 10, 11], []), (2, [1, 2, 12, 13, 14, 15, 16, 17, 18, 19, 20, 21, 22, 23, 24, 25, 26, 27, 28, 29, 30, 31, 32], [])] }
theorem dendronlaw19_awake.ok : cFn Tryz.prog dendronlaw19_awake.hint Tryz.f16 = some dendronlaw19_awake := by kernel_rfl
def ratio_Sub : R.Fn := ⟨2, [(.cell 4 3 true)], (.seq (.reg [] [.a 2 (.box (.t 0)), .a 3 (.box (.t 1)), .a 4 (.new [(.bool false), (.sl 1 []), (.sl 1 [])])] [0, 1] [])
  (.seq (.reg [] [.a 5 (.ld 3 true (.t 2)), .a 6 (.ld 3 true (.t 3)), .a 7 (.call F.ratio_Neg [(.t 6)]), .a 8 (.call F.ratio_Add [(.t 5), (.t 7)]), .n (.st 3 (.t 4) (.t 8))] [2, 3, 5, 6, 7, 8] [2, 3])
  .ret))⟩
def ratio_Sub.hint : R.Hint := { kill := [(0, [0, 1], []), (1, [2, 3, 5, 6, 7, 8], [2, 3])] }
theorem ratio_Sub.ok : cFn Tryz.prog ratio_Sub.hint Tryz.f17 = some ratio_Sub := by kernel_rfl
def dendronref10_All.b0 : R.C := (.seq (.seq (.reg [] [.a 11 (.mv (.t 5)), .a 12 (.mv (.t 0)), .a 13 (.ln (.t 12)), .a 14 (.bin .lss (.t 11) (.t 13))] [11, 12, 13] [])
  (.cond (.t 14) .skip (.exit 0)))
  (.seq (.block 1 (.seq (.reg [] [.a 17 (.mv (.t 0)), .a 18 (.mv (.t 5)), .a 19 (.iA 3 (.t 17) (.t 18)), .a 20 (.ld 3 true (.t 19)), .a 21 (.mv (.t 1)), .a 22 (.mv (.t 5)), .a 23 (.iA 3 (.t 21) (.t 22)), .a 24 (.ld 3 true (.t 23)), .a 25 (.call F.dendronref10_Is [(.t 20), (.t 24)]), .a 26 (.un .not (.t 25))] [14, 17, 18, 19, 20, 21, 22, 23, 24, 25] [])
  (.cond (.t 26) (.seq (.reg [] [.a 4 (.mv (.c (.bool false)))] [0, 1, 5, 26] [])
  .ret) .skip)))
  (.reg [] [.a 15 (.mv (.t 5)), .a 16 (.bin .add (.t 15) (.c (.int .i64 1))), .a 5 (.mv (.t 16))] [15, 16, 26] [])))
def dendronref10_All : R.Fn := ⟨2, [(.t 4)], (.seq (.reg [] [.a 4 (.mv (.c (.bool false)))] [4] [])
  (.seq (.seq (.reg [] [.a 6 (.mv (.t 0)), .a 7 (.ln (.t 6)), .a 8 (.mv (.t 1)), .a 9 (.ln (.t 8)), .a 10 (.bin .neq (.t 7) (.t 9))] [6, 7, 8, 9] [])
  (.cond (.t 10) (.seq (.reg [] [.a 4 (.mv (.c (.bool false)))] [0, 1, 10] [])
  .ret) .skip))
  (.seq (.seq (.reg [] [.a 5 (.mv (.c (.int .i64 0)))] [10] [])
  (.block 0 (.loop [] [] dendronref10_All.b0)))
  (.seq (.reg [] [.a 4 (.mv (.c (.bool true)))] [0, 1, 5, 14] [])
  .ret))))⟩
def dendronref10_All.hint : R.Hint := { kill := [(0, [4], []), (1, [6, 7, 8, 9], []), (2, [0, 1, 10], []), (3, [10], []), (4, [11, 12, 13], []), (5, [15, 16, 26], []), (6, [14, 17, 18, 19, 20, 21, 22, 23, 24, 25], []), (7, [0, 1, 5, 26], []), (8, [0, 1, 5, 14], [])] }
theorem dendronref10_All.ok : cFn Tryz.prog dendronref10_All.hint Tryz.f18 = some dendronref10_All := by kernel_rfl
def dendronlaw15_Shapley.b2 : R.C := (.seq (.seq (.reg [] [.a 30 (.mv (.t 14)), .a 31 (.mv (.t 1)), .a 32 (.call F.dendronlaw15_two [(.t 31)]), .a 33 (.bin .lss (.t 30) (.t 32)), .a 34 (.mv (.t 33)), .g 35 34 true (.mv (.t 12)), .g 36 34 true (.mv (.t 2)), .g 37 34 true (.bin .neq (.t 35) (.t 36)), .a 38 (.pick (.t 34) (.t 37) (.c (.bool false)))] [30, 31, 32, 33, 34, 35, 36, 37] [])
  (.cond (.t 38) .skip (.exit 2)))
  (.seq (.block 3 (.seq (.seq (.reg [] [.a 41 (.mv (.t 14)), .a 42 (.mv (.t 12)), .a 43 (.call F.dendronlaw15_in [(.t 41), (.t 42)]), .a 44 (.mv (.t 43)), .g 45 44 false (.mv (.t 2)), .g 46 44 false (.bin .geq (.t 45) (.c (.int .i64 0))), .g 47 44 false (.mv (.t 46)), .g 48 47 true (.mv (.t 14)), .g 49 47 true (.mv (.t 2)), .g 50 47 true (.call F.dendronlaw15_in [(.t 48), (.t 49)]), .g 51 47 true (.mv (.t 3)), .g 52 47 true (.beq true (.t 50) (.t 51)), .g 53 44 false (.pick (.t 47) (.t 52) (.c (.bool false))), .a 54 (.pick (.t 44) (.c (.bool true)) (.t 53))] [38, 41, 42, 43, 44, 45, 46, 47, 48, 49, 50, 51, 52, 53] [])
  (.cond (.t 54) (.exit 3) .skip))
  (.seq (.reg [] [.a 55 (.mv (.t 14)), .a 56 (.mv (.t 1)), .a 57 (.call F.dendronlaw15_size [(.t 55), (.t 56)]), .a 15 (.mv (.t 57))] [54, 55, 56, 57] [])
  (.seq (.seq (.reg [] [.a 58 (.mv (.t 2)), .a 59 (.bin .geq (.t 58) (.c (.int .i64 0))), .a 60 (.mv (.t 59)), .g 61 60 true (.mv (.t 3)), .a 62 (.pick (.t 60) (.t 61) (.c (.bool false)))] [58, 59, 60, 61] [])
  (.cond (.t 62) (.reg [] [.a 63 (.mv (.t 15)), .a 64 (.bin .sub (.t 63) (.c (.int .i64 1))), .a 15 (.mv (.t 64))] [62, 63, 64] []) .skip))
  (.seq (.reg [] [.a 66 (.mv (.t 9)), .a 67 (.mv (.t 15)), .a 68 (.mv (.t 10)), .a 69 (.callk F.dendron_weigh_Table_Weight [(true, (.t 66)), (false, (.t 67)), (false, (.t 68))]), .a 65 (.mv (.t 69)), .a 70 (.ext (.t 65) 0), .a 71 (.ext (.t 65) 1), .a 16 (.new [(.bool false), (.sl 1 []), (.sl 1 [])]), .n (.st 3 (.t 16) (.t 70)), .a 17 (.mv (.t 71))] [15, 17, 62, 65, 66, 67, 68, 69, 70, 71] [69, 1069, 2069, 3069])
  (.reg [55834574861, 68719476752] [.a 72 (.ld 3 true (.t 13)), .a 73 (.ld 3 true (.t 16)), .a 74 (.mv (.t 0)), .a 75 (.mv (.t 14)), .a 76 (.mv (.t 12)), .a 77 (.call F.dendronlaw15_two [(.t 76)]), .a 78 (.bin .add (.t 75) (.t 77)), .a 79 (.iA 3 (.t 74) (.t 78)), .a 80 (.ld 3 true (.t 79)), .a 81 (.mv (.t 0)), .a 82 (.mv (.t 14)), .a 83 (.iA 3 (.t 81) (.t 82)), .a 84 (.ld 3 true (.t 83)), .a 85 (.call F.ratio_Sub [(.t 80), (.t 84)]), .a 86 (.call F.ratio_Mul [(.t 73), (.t 85)]), .a 87 (.call F.ratio_Add [(.t 72), (.t 86)]), .n (.st 3 (.t 13) (.t 87))] [16, 72, 73, 74, 75, 76, 77, 78, 79, 80, 81, 82, 83, 84, 85, 86, 87] [16]))))))
  (.reg [] [.a 39 (.mv (.t 14)), .a 40 (.bin .add (.t 39) (.c (.int .i64 1))), .a 14 (.mv (.t 40))] [39, 40, 54] [])))
def dendronlaw15_Shapley.b0 : R.C := (.seq (.seq (.reg [] [.a 24 (.mv (.t 12)), .a 25 (.mv (.t 1)), .a 26 (.bin .lss (.t 24) (.t 25))] [24, 25] [])
  (.cond (.t 26) .skip (.exit 0)))
  (.seq (.block 1 (.seq (.reg [] [.a 29 (.call F.ratio_Zero []), .a 13 (.new [(.bool false), (.sl 1 []), (.sl 1 [])]), .n (.st 3 (.t 13) (.t 29))] [26, 29] [])
  (.seq (.seq (.reg [] [.a 14 (.mv (.c (.int .i64 0)))] [] [])
  (.block 2 (.loop [] [] dendronlaw15_Shapley.b2)))
  (.reg [] [.a 88 (.mv (.t 11)), .a 89 (.ld 3 true (.t 13)), .a 90 (.lit 3 1 [(.bool false), (.sl 1 []), (.sl 1 [])] [(0, 3, (.t 89))]), .a 91 (.app 3 56 (.t 88) (.t 90)), .a 11 (.mv (.t 91))] [13, 14, 38, 88, 89, 90, 91] [13]))))
  (.reg [] [.a 27 (.mv (.t 12)), .a 28 (.bin .add (.t 27) (.c (.int .i64 1))), .a 12 (.mv (.t 28))] [27, 28] [])))
def dendronlaw15_Shapley : R.Fn := ⟨4, [(.t 8)], (.seq (.reg [] [.a 8 (.mv (.c (.sl 3 [])))] [8] [])
  (.seq (.reg [] [.a 18 (.callk F.weigh_New []), .a 9 (.mv (.t 18))] [18] [])
  (.seq (.reg [] [.a 19 (.mv (.t 1)), .a 10 (.mv (.t 19))] [19] [])
  (.seq (.seq (.reg [] [.a 20 (.mv (.t 2)), .a 21 (.bin .geq (.t 20) (.c (.int .i64 0)))] [20] [])
  (.cond (.t 21) (.reg [] [.a 22 (.mv (.t 1)), .a 23 (.bin .sub (.t 22) (.c (.int .i64 1))), .a 10 (.mv (.t 23))] [21, 22, 23] []) .skip))
  (.seq (.reg [] [.a 11 (.nil 3)] [21] [])
  (.seq (.seq (.reg [] [.a 12 (.mv (.c (.int .i64 0)))] [] [])
  (.block 0 (.loop [] [] dendronlaw15_Shapley.b0)))
  (.seq (.reg [] [.a 92 (.mv (.t 11)), .a 8 (.mv (.t 92))] [0, 1, 2, 3, 9, 10, 11, 12, 26, 92] [18])
  .ret)))))))⟩
def dendronlaw15_Shapley.hint : R.Hint := { nil := [11], callk := [(18, []), (69, [true, false, false])], pub := [(18, [55834574861, 68719476752])], kill := [(0, [8], []), (1, [18], []), (2, [19], []), (3, [20], []), (4, [21, 22, 23], []), (5, [21], []), (7, [24, 25], []), (8, [27, 28], []), (9, [26, 29], []), (11, [30, 31, 32, 33, 34, 35, 36, 37], []), (12, [39, 40, 54], []), (13, [38, 41, 42, 43, 44, 45, 46, 47, 48, 49, 50, 51, 52, 53], []), (14, [54, 55, 56, 57], []), (15, [58, 59, 60, 61], []), (16, [62, 63, 64], []), (17, [15, 17, 62, 65, 66, 67, 68, 69, 70, 71], [69, 1069, 2069, 3069]), (18, [16, 72, 73, 74, 75, 76, 77, 78, 79, 80, 81, 82, 83, 84, 85, 86, 87], [16]), (19, [13, 14, 38, 88, 89, 90, 91], [13]), (20, [0, 1, 2, 3, 9, 10, 11, 12, 26, 92], [18])] }
theorem dendronlaw15_Shapley.ok : cFn Tryz.prog dendronlaw15_Shapley.hint Tryz.f19 = some dendronlaw15_Shapley := by kernel_rfl
def ratio_Same : R.Fn := ⟨2, [(.t 4)], (.seq (.reg [] [.a 2 (.box (.t 0)), .a 3 (.box (.t 1)), .a 4 (.mv (.c (.bool false)))] [0, 1, 4] [])
  (.seq (.reg [] [.a 5 (.ld 3 true (.t 2)), .a 6 (.ld 3 true (.t 3)), .a 7 (.call F.ratio_Cmp [(.t 5), (.t 6)]), .a 8 (.bin .eql (.t 7) (.c (.int .i64 0))), .a 4 (.mv (.t 8))] [2, 3, 5, 6, 7, 8] [2, 3])
  .ret))⟩
def ratio_Same.hint : R.Hint := { kill := [(0, [0, 1, 4], []), (1, [2, 3, 5, 6, 7, 8], [2, 3])] }
theorem ratio_Same.ok : cFn Tryz.prog ratio_Same.hint Tryz.f20 = some ratio_Same := by kernel_rfl
def ratio_Sum.b0 : R.C := (.seq (.reg [] [.a 10 (.bin .lss (.t 9) (.t 8))] [] [])
  (.seq (.cond (.t 10) .skip (.exit 0))
  (.seq (.block 1 (.seq (.reg [] [.a 11 (.iA 3 (.t 7) (.t 9)), .a 12 (.ld 3 true (.t 11)), .a 5 (.new [(.bool false), (.sl 1 []), (.sl 1 [])]), .n (.st 3 (.t 5) (.t 12))] [10, 11, 12] [])
  (.reg [] [.a 13 (.ld 3 true (.t 3)), .a 14 (.ld 3 true (.t 5)), .a 15 (.call F.ratio_Add [(.t 13), (.t 14)]), .n (.st 3 (.t 3) (.t 15))] [5, 13, 14, 15] [5])))
  (.reg [] [.a 16 (.bin .add (.t 9) (.c (.int .i64 1))), .a 9 (.mv (.t 16))] [16] []))))
def ratio_Sum : R.Fn := ⟨1, [(.cell 2 3 true)], (.seq (.reg [] [.a 2 (.new [(.bool false), (.sl 1 []), (.sl 1 [])])] [] [])
  (.seq (.reg [] [.a 6 (.call F.ratio_Zero []), .a 3 (.new [(.bool false), (.sl 1 []), (.sl 1 [])]), .n (.st 3 (.t 3) (.t 6))] [6] [])
  (.seq (.seq (.reg [] [.a 7 (.mv (.t 0)), .a 8 (.ln (.t 7)), .a 9 (.mv (.c (.int .i64 0)))] [0] [])
  (.block 0 (.loop [] [] ratio_Sum.b0)))
  (.seq (.reg [] [.a 17 (.ld 3 true (.t 3)), .n (.st 3 (.t 2) (.t 17))] [3, 7, 8, 9, 10, 17] [3])
  .ret))))⟩
def ratio_Sum.hint : R.Hint := { kill := [(1, [6], []), (2, [0], []), (4, [10, 11, 12], []), (5, [5, 13, 14, 15], [5]), (6, [16], []), (7, [3, 7, 8, 9, 10, 17], [3])] }
theorem ratio_Sum.ok : cFn Tryz.prog ratio_Sum.hint Tryz.f21 = some ratio_Sum := by kernel_rfl
def game_Banzhaf.b2 : R.C := (.seq (.reg [] [.a 25 (.bin .lss (.t 24) (.t 23))] [] [])
  (.seq (.cond (.t 25) .skip (.exit 2))
  (.seq (.block 3 (.seq (.reg [] [.a 26 (.mv (.t 24)), .a 9 (.mv (.t 26))] [25, 26] [])
  (.seq (.reg [] [.a 27 (.mv (.t 9)), .a 28 (.mv (.t 7)), .a 29 (.bin .shr (.t 27) (.t 28)), .a 30 (.bin .and (.t 29) (.c (.int .i64 1))), .a 31 (.bin .eql (.t 30) (.c (.int .i64 0)))] [27, 28, 29, 30] [])
  (.cond (.t 31) (.reg [34359738376] [.a 32 (.ld 3 true (.t 8)), .a 33 (.mv (.t 0)), .a 34 (.mv (.t 9)), .a 35 (.mv (.t 7)), .a 36 (.bin .shl (.c (.int .i64 1)) (.t 35)), .a 37 (.bin .or (.t 34) (.t 36)), .a 38 (.iA 3 (.t 33) (.t 37)), .a 39 (.ld 3 true (.t 38)), .a 40 (.mv (.t 0)), .a 41 (.mv (.t 9)), .a 42 (.iA 3 (.t 40) (.t 41)), .a 43 (.ld 3 true (.t 42)), .a 44 (.call F.ratio_Sub [(.t 39), (.t 43)]), .a 45 (.call F.ratio_Add [(.t 32), (.t 44)]), .n (.st 3 (.t 8) (.t 45))] [9, 31, 32, 33, 34, 35, 36, 37, 38, 39, 40, 41, 42, 43, 44, 45] []) .skip))))
  (.reg [] [.a 46 (.bin .add (.t 24) (.c (.int .i64 1))), .a 24 (.mv (.t 46))] [9, 31, 46] []))))
def game_Banzhaf.b0 : R.C := (.seq (.reg [] [.a 19 (.bin .lss (.t 18) (.t 17))] [] [])
  (.seq (.cond (.t 19) .skip (.exit 0))
  (.seq (.block 1 (.seq (.reg [] [.a 20 (.mv (.t 18)), .a 7 (.mv (.t 20))] [19, 20] [])
  (.seq (.reg [] [.a 21 (.call F.ratio_Zero []), .a 8 (.new [(.bool false), (.sl 1 []), (.sl 1 [])]), .n (.st 3 (.t 8) (.t 21))] [21] [])
  (.seq (.seq (.reg [] [.a 22 (.mv (.t 0)), .a 23 (.ln (.t 22)), .a 24 (.mv (.c (.int .i64 0)))] [22] [])
  (.block 2 (.loop [] [] game_Banzhaf.b2)))
  (.reg [] [.a 47 (.mv (.t 6)), .a 48 (.ld 3 true (.t 8)), .a 49 (.mv (.t 4)), .a 50 (.bin .sub (.t 49) (.c (.int .i64 1))), .a 51 (.bin .shl (.c (.int .i64 1)) (.t 50)), .a 52 (.call F.ratio_Frac [(.c (.int .i64 1)), (.t 51)]), .a 53 (.call F.ratio_Mul [(.t 48), (.t 52)]), .a 54 (.lit 3 1 [(.bool false), (.sl 1 []), (.sl 1 [])] [(0, 3, (.t 53))]), .a 55 (.app 3 56 (.t 47) (.t 54)), .a 6 (.mv (.t 55))] [7, 8, 23, 24, 25, 47, 48, 49, 50, 51, 52, 53, 54, 55] [8])))))
  (.reg [] [.a 56 (.bin .add (.t 18) (.c (.int .i64 1))), .a 18 (.mv (.t 56))] [56] []))))
def game_Banzhaf : R.Fn := ⟨1, [(.t 2), (.t 3)], (.seq (.reg [] [.a 2 (.mv (.c (.sl 3 []))), .a 3 (.mv (.c (.int .i64 0)))] [2, 3] [])
  (.seq (.reg [] [.a 11 (.mv (.t 0)), .a 12 (.call F.game_Players [(.t 11)]), .a 10 (.mv (.t 12)), .a 13 (.ext (.t 10) 0), .a 14 (.ext (.t 10) 1), .a 4 (.mv (.t 13)), .a 5 (.mv (.t 14))] [10, 11, 12, 13, 14] [])
  (.seq (.seq (.reg [] [.a 15 (.mv (.t 5)), .a 16 (.un .not (.t 15))] [5, 15] [])
  (.cond (.t 16) (.seq (.reg [] [.a 2 (.mv (.c (.sl 3 []))), .a 3 (.mv (.c (.int .i64 1)))] [0, 4, 16] [])
  .ret) .skip))
  (.seq (.reg [] [.a 6 (.nil 3)] [16] [])
  (.seq (.seq (.reg [] [.a 17 (.mv (.t 4)), .a 18 (.mv (.c (.int .i64 0)))] [] [])
  (.block 0 (.loop [] [] game_Banzhaf.b0)))
  (.seq (.reg [] [.a 57 (.mv (.t 6)), .a 2 (.mv (.t 57)), .a 3 (.mv (.c (.int .i64 0)))] [0, 4, 6, 17, 18, 19, 57] [])
  .ret))))))⟩
def game_Banzhaf.hint : R.Hint := { nil := [6], pub := [(13, [34359738376])], kill := [(0, [2, 3], []), (1, [10, 11, 12, 13, 14], []), (2, [5, 15], []), (3, [0, 4, 16], []), (4, [16], []), (7, [19, 20], []), (8, [21], []), (9, [22], []), (11, [25, 26], []), (12, [27, 28, 29, 30], []), (13, [9, 31, 32, 33, 34, 35, 36, 37, 38, 39, 40, 41, 42, 43, 44, 45], []), (14, [9, 31, 46], []), (15, [7, 8, 23, 24, 25, 47, 48, 49, 50, 51, 52, 53, 54, 55], [8]), (16, [56], []), (17, [0, 4, 6, 17, 18, 19, 57], [])] }
theorem game_Banzhaf.ok : cFn Tryz.prog game_Banzhaf.hint Tryz.f22 = some game_Banzhaf := by kernel_rfl
def ratio_Zero : R.Fn := ⟨0, [(.cell 0 3 true)], (.seq (.reg [] [.a 0 (.new [(.bool false), (.sl 1 []), (.sl 1 [])])] [] [])
  (.seq (.reg [] [.a 1 (.call F.nat_Of [(.c (.int .u64 1))]), .a 2 (.bld [(.bool false), (.sl 1 []), (.sl 1 [])] [(2, 1, (.t 1))]), .n (.st 3 (.t 0) (.t 2))] [1, 2] [])
  .ret))⟩
def ratio_Zero.hint : R.Hint := { kill := [(1, [1, 2], [])] }
theorem ratio_Zero.ok : cFn Tryz.prog ratio_Zero.hint Tryz.f23 = some ratio_Zero := by kernel_rfl
def dendronref19_In.b0 : R.C := (.seq (.seq (.reg [] [.a 6 (.mv (.t 5)), .a 7 (.mv (.t 1)), .a 8 (.bin .lss (.t 6) (.t 7))] [6, 7] [])
  (.cond (.t 8) .skip (.exit 0)))
  (.seq (.block 1 (.reg [] [.a 11 (.mv (.t 0)), .a 12 (.bin .quo (.t 11) (.c (.int .i64 2))), .a 0 (.mv (.t 12))] [8, 11, 12] []))
  (.reg [] [.a 9 (.mv (.t 5)), .a 10 (.bin .add (.t 9) (.c (.int .i64 1))), .a 5 (.mv (.t 10))] [9, 10] [])))
def dendronref19_In : R.Fn := ⟨2, [(.t 4)], (.seq (.reg [] [.a 4 (.mv (.c (.bool false)))] [4] [])
  (.seq (.seq (.reg [] [.a 5 (.mv (.c (.int .i64 0)))] [] [])
  (.block 0 (.loop [] [] dendronref19_In.b0)))
  (.seq (.reg [] [.a 13 (.mv (.t 0)), .a 14 (.bin .rem (.t 13) (.c (.int .i64 2))), .a 15 (.bin .eql (.t 14) (.c (.int .i64 1))), .a 4 (.mv (.t 15))] [0, 1, 5, 8, 13, 14, 15] [])
  .ret)))⟩
def dendronref19_In.hint : R.Hint := { kill := [(0, [4], []), (2, [6, 7], []), (3, [9, 10], []), (4, [8, 11, 12], []), (5, [0, 1, 5, 8, 13, 14, 15], [])] }
theorem dendronref19_In.ok : cFn Tryz.prog dendronref19_In.hint Tryz.f24 = some dendronref19_In := by kernel_rfl
def ratio_Add : R.Fn := ⟨2, [(.cell 4 3 true)], (.seq (.reg [] [.a 2 (.box (.t 0)), .a 3 (.box (.t 1)), .a 4 (.new [(.bool false), (.sl 1 []), (.sl 1 [])])] [0, 1] [])
  (.seq (.reg [] [.a 5 (.ld 3 true (.t 2)), .a 6 (.call F.ratio_Clean [(.t 5)]), .a 7 (.ld 3 true (.t 3)), .a 8 (.call F.ratio_Clean [(.t 7)]), .n (.st 3 (.t 2) (.t 6)), .n (.st 3 (.t 3) (.t 8))] [5, 6, 7, 8] [])
  (.seq (.reg [] [.a 9 (.fA 0 (.t 2)), .a 10 (.ld 2 true (.t 9)), .a 11 (.ld 3 true (.t 3)), .a 12 (.call F.ratio_den [(.t 11)]), .a 13 (.call F.whole_Mul [(.t 10), (.t 12)]), .a 14 (.fA 0 (.t 3)), .a 15 (.ld 2 true (.t 14)), .a 16 (.ld 3 true (.t 2)), .a 17 (.call F.ratio_den [(.t 16)]), .a 18 (.call F.whole_Mul [(.t 15), (.t 17)]), .a 19 (.call F.whole_Add [(.t 13), (.t 18)]), .a 20 (.fA 2 (.t 2)), .a 21 (.ld 1 false (.t 20)), .a 22 (.fA 2 (.t 3)), .a 23 (.ld 1 false (.t 22)), .a 24 (.call F.nat_Mul [(.t 21), (.t 23)]), .a 25 (.call F.ratio_form [(.t 19), (.t 24)]), .n (.st 3 (.t 4) (.t 25))] [2, 3, 9, 10, 11, 12, 13, 14, 15, 16, 17, 18, 19, 20, 21, 22, 23, 24, 25] [2, 3])
  .ret)))⟩
def ratio_Add.hint : R.Hint := { kill := [(0, [0, 1], []), (1, [5, 6, 7, 8], []), (2, [2, 3, 9, 10, 11, 12, 13, 14, 15, 16, 17, 18, 19, 20, 21, 22, 23, 24, 25], [2, 3])] }
theorem ratio_Add.ok : cFn Tryz.prog ratio_Add.hint Tryz.f25 = some ratio_Add := by kernel_rfl
def dendronlaw19_two.b0 : R.C := (.seq (.seq (.reg [] [.a 5 (.mv (.t 4)), .a 6 (.mv (.t 0)), .a 7 (.bin .lss (.t 5) (.t 6))] [5, 6] [])
  (.cond (.t 7) .skip (.exit 0)))
  (.seq (.block 1 (.reg [] [.a 10 (.mv (.t 3)), .a 11 (.bin .mul (.c (.int .i64 2)) (.t 10)), .a 3 (.mv (.t 11))] [7, 10, 11] []))
  (.reg [] [.a 8 (.mv (.t 4)), .a 9 (.bin .add (.t 8) (.c (.int .i64 1))), .a 4 (.mv (.t 9))] [8, 9] [])))
def dendronlaw19_two : R.Fn := ⟨1, [(.t 2)], (.seq (.reg [] [.a 2 (.mv (.c (.int .i64 0)))] [2] [])
  (.seq (.reg [] [.a 3 (.mv (.c (.int .i64 1)))] [] [])
  (.seq (.seq (.reg [] [.a 4 (.mv (.c (.int .i64 0)))] [] [])
  (.block 0 (.loop [] [] dendronlaw19_two.b0)))
  (.seq (.reg [] [.a 12 (.mv (.t 3)), .a 2 (.mv (.t 12))] [0, 3, 4, 7, 12] [])
  .ret))))⟩
def dendronlaw19_two.hint : R.Hint := { kill := [(0, [2], []), (3, [5, 6], []), (4, [8, 9], []), (5, [7, 10, 11], []), (6, [0, 3, 4, 7, 12], [])] }
theorem dendronlaw19_two.ok : cFn Tryz.prog dendronlaw19_two.hint Tryz.f26 = some dendronlaw19_two := by kernel_rfl
def ratio_Mul : R.Fn := ⟨2, [(.cell 4 3 true)], (.seq (.reg [] [.a 2 (.box (.t 0)), .a 3 (.box (.t 1)), .a 4 (.new [(.bool false), (.sl 1 []), (.sl 1 [])])] [0, 1] [])
  (.seq (.reg [] [.a 5 (.ld 3 true (.t 2)), .a 6 (.call F.ratio_Clean [(.t 5)]), .a 7 (.ld 3 true (.t 3)), .a 8 (.call F.ratio_Clean [(.t 7)]), .n (.st 3 (.t 2) (.t 6)), .n (.st 3 (.t 3) (.t 8))] [5, 6, 7, 8] [])
  (.seq (.reg [] [.a 9 (.fA 0 (.t 2)), .a 10 (.ld 2 true (.t 9)), .a 11 (.fA 0 (.t 3)), .a 12 (.ld 2 true (.t 11)), .a 13 (.call F.whole_Mul [(.t 10), (.t 12)]), .a 14 (.fA 2 (.t 2)), .a 15 (.ld 1 false (.t 14)), .a 16 (.fA 2 (.t 3)), .a 17 (.ld 1 false (.t 16)), .a 18 (.call F.nat_Mul [(.t 15), (.t 17)]), .a 19 (.call F.ratio_form [(.t 13), (.t 18)]), .n (.st 3 (.t 4) (.t 19))] [2, 3, 9, 10, 11, 12, 13, 14, 15, 16, 17, 18, 19] [2, 3])
  .ret)))⟩
def ratio_Mul.hint : R.Hint := { kill := [(0, [0, 1], []), (1, [5, 6, 7, 8], []), (2, [2, 3, 9, 10, 11, 12, 13, 14, 15, 16, 17, 18, 19], [2, 3])] }
theorem ratio_Mul.ok : cFn Tryz.prog ratio_Mul.hint Tryz.f27 = some ratio_Mul := by kernel_rfl
def ratio_Frac : R.Fn := ⟨2, [(.cell 4 3 true)], (.seq (.reg [] [.a 4 (.new [(.bool false), (.sl 1 []), (.sl 1 [])])] [] [])
  (.seq (.reg [] [.a 8 (.mv (.t 0)), .a 9 (.call F.whole_Of [(.t 8)]), .a 10 (.mv (.t 1)), .a 11 (.call F.whole_Of [(.t 10)]), .a 12 (.call F.ratio_Make [(.t 9), (.t 11)]), .a 7 (.mv (.t 12)), .a 13 (.ext (.t 7) 0), .a 14 (.ext (.t 7) 1), .a 5 (.new [(.bool false), (.sl 1 []), (.sl 1 [])]), .n (.st 3 (.t 5) (.t 13)), .a 6 (.mv (.t 14))] [0, 1, 6, 7, 8, 9, 10, 11, 12, 13, 14] [])
  (.seq (.reg [] [.a 15 (.ld 3 true (.t 5)), .a 16 (.call F.ratio_Clean [(.t 15)]), .n (.st 3 (.t 4) (.t 16))] [5, 15, 16] [5])
  .ret)))⟩
def ratio_Frac.hint : R.Hint := { kill := [(1, [0, 1, 6, 7, 8, 9, 10, 11, 12, 13, 14], []), (2, [5, 15, 16], [5])] }
theorem ratio_Frac.ok : cFn Tryz.prog ratio_Frac.hint Tryz.f28 = some ratio_Frac := by kernel_rfl
def game_Dual.b0 : R.C := (.seq (.reg [] [.a 22 (.bin .lss (.t 21) (.t 20))] [] [])
  (.seq (.cond (.t 22) .skip (.exit 0))
  (.seq (.block 1 (.seq (.reg [] [.a 23 (.mv (.t 21)), .a 8 (.mv (.t 23))] [22, 23] [])
  (.reg [] [.a 24 (.mv (.t 7)), .a 25 (.mv (.t 0)), .a 26 (.mv (.t 6)), .a 27 (.iA 3 (.t 25) (.t 26)), .a 28 (.ld 3 true (.t 27)), .a 29 (.mv (.t 0)), .a 30 (.mv (.t 6)), .a 31 (.mv (.t 8)), .a 32 (.bin .xor (.t 30) (.t 31)), .a 33 (.iA 3 (.t 29) (.t 32)), .a 34 (.ld 3 true (.t 33)), .a 35 (.call F.ratio_Sub [(.t 28), (.t 34)]), .a 36 (.lit 3 1 [(.bool false), (.sl 1 []), (.sl 1 [])] [(0, 3, (.t 35))]), .a 37 (.app 3 56 (.t 24) (.t 36)), .a 7 (.mv (.t 37))] [8, 24, 25, 26, 27, 28, 29, 30, 31, 32, 33, 34, 35, 36, 37] [])))
  (.reg [] [.a 38 (.bin .add (.t 21) (.c (.int .i64 1))), .a 21 (.mv (.t 38))] [38] []))))
def game_Dual : R.Fn := ⟨1, [(.t 2), (.t 3)], (.seq (.reg [] [.a 2 (.mv (.c (.sl 3 []))), .a 3 (.mv (.c (.int .i64 0)))] [2, 3] [])
  (.seq (.seq (.reg [] [.a 10 (.mv (.t 0)), .a 11 (.call F.game_Players [(.t 10)]), .a 9 (.mv (.t 11)), .a 12 (.ext (.t 9) 0), .a 13 (.ext (.t 9) 1), .a 4 (.mv (.t 12)), .a 5 (.mv (.t 13))] [4, 9, 10, 11, 12, 13] [])
  (.seq (.reg [] [.a 14 (.mv (.t 5)), .a 15 (.un .not (.t 14))] [5, 14] [])
  (.cond (.t 15) (.seq (.reg [] [.a 2 (.mv (.c (.sl 3 []))), .a 3 (.mv (.c (.int .i64 1)))] [0, 15] [])
  .ret) .skip)))
  (.seq (.reg [] [.a 16 (.mv (.t 0)), .a 17 (.ln (.t 16)), .a 18 (.bin .sub (.t 17) (.c (.int .i64 1))), .a 6 (.mv (.t 18))] [15, 16, 17, 18] [])
  (.seq (.reg [] [.a 7 (.nil 3)] [] [])
  (.seq (.seq (.reg [] [.a 19 (.mv (.t 0)), .a 20 (.ln (.t 19)), .a 21 (.mv (.c (.int .i64 0)))] [19] [])
  (.block 0 (.loop [] [] game_Dual.b0)))
  (.seq (.reg [] [.a 39 (.mv (.t 7)), .a 2 (.mv (.t 39)), .a 3 (.mv (.c (.int .i64 0)))] [0, 6, 7, 20, 21, 22, 39] [])
  .ret))))))⟩
def game_Dual.hint : R.Hint := { nil := [7], kill := [(0, [2, 3], []), (1, [4, 9, 10, 11, 12, 13], []), (2, [5, 14], []), (3, [0, 15], []), (4, [15, 16, 17, 18], []), (6, [19], []), (8, [22, 23], []), (9, [8, 24, 25, 26, 27, 28, 29, 30, 31, 32, 33, 34, 35, 36, 37], []), (10, [38], []), (11, [0, 6, 7, 20, 21, 22, 39], [])] }
theorem game_Dual.ok : cFn Tryz.prog game_Dual.hint Tryz.f29 = some game_Dual := by kernel_rfl
def ratio_Right : R.Fn := ⟨1, [(.t 2)], (.seq (.reg [] [.a 1 (.box (.t 0)), .a 2 (.mv (.c (.bool false)))] [0, 2] [])
  (.seq (.seq (.reg [] [.a 4 (.fA 0 (.t 1)), .a 5 (.ld 2 true (.t 4)), .a 6 (.call F.whole_Right [(.t 5)]), .a 7 (.un .not (.t 6)), .a 8 (.mv (.t 7)), .g 9 8 false (.fA 2 (.t 1)), .g 10 8 false (.ld 1 false (.t 9)), .g 11 8 false (.call F.nat_Right [(.t 10)]), .g 12 8 false (.un .not (.t 11)), .a 13 (.pick (.t 8) (.c (.bool true)) (.t 12)), .a 14 (.mv (.t 13)), .g 15 14 false (.fA 2 (.t 1)), .g 16 14 false (.ld 1 false (.t 15)), .g 17 14 false (.ln (.t 16)), .g 18 14 false (.bin .eql (.t 17) (.c (.int .i64 0))), .a 19 (.pick (.t 14) (.c (.bool true)) (.t 18))] [4, 5, 6, 7, 8, 9, 10, 11, 12, 13, 14, 15, 16, 17, 18] [])
  (.cond (.t 19) (.seq (.reg [] [.a 2 (.mv (.c (.bool false)))] [1, 19] [1])
  .ret) .skip))
  (.seq (.reg [] [.a 20 (.fA 0 (.t 1)), .a 21 (.fA 1 (.t 20)), .a 22 (.ld 1 false (.t 21)), .a 23 (.fA 2 (.t 1)), .a 24 (.ld 1 false (.t 23)), .a 25 (.call F.nat_Gcd [(.t 22), (.t 24)]), .a 3 (.mv (.t 25))] [1, 19, 20, 21, 22, 23, 24, 25] [1])
  (.seq (.reg [] [.a 26 (.mv (.t 3)), .a 27 (.call F.nat_Of [(.c (.int .u64 1))]), .a 28 (.call F.nat_Cmp [(.t 26), (.t 27)]), .a 29 (.bin .eql (.t 28) (.c (.int .i64 0))), .a 2 (.mv (.t 29))] [3, 26, 27, 28, 29] [])
  .ret))))⟩
def ratio_Right.hint : R.Hint := { kill := [(0, [0, 2], []), (1, [4, 5, 6, 7, 8, 9, 10, 11, 12, 13, 14, 15, 16, 17, 18], []), (2, [1, 19], [1]), (3, [1, 19, 20, 21, 22, 23, 24, 25], [1]), (4, [3, 26, 27, 28, 29], [])] }
theorem ratio_Right.ok : cFn Tryz.prog ratio_Right.hint Tryz.f30 = some ratio_Right := by kernel_rfl
def game_ByShares.b2 : R.C := (.seq (.reg [] [.a 30 (.bin .lss (.t 29) (.t 28))] [] [])
  (.seq (.cond (.t 30) .skip (.exit 2))
  (.seq (.block 3 (.seq (.reg [] [.a 31 (.mv (.t 29)), .a 32 (.iA 3 (.t 27) (.t 29)), .a 33 (.ld 3 true (.t 32)), .a 9 (.new [(.bool false), (.sl 1 []), (.sl 1 [])]), .a 8 (.mv (.t 31)), .n (.st 3 (.t 9) (.t 33))] [30, 31, 32, 33] [])
  (.seq (.reg [] [.a 34 (.mv (.t 8)), .a 35 (.mv (.t 7)), .a 36 (.bin .shr (.t 34) (.t 35)), .a 37 (.bin .and (.t 36) (.c (.int .i64 1))), .a 38 (.bin .eql (.t 37) (.c (.int .i64 1)))] [34, 35, 36, 37] [])
  (.cond (.t 38) (.reg [] [.a 39 (.mv (.t 6)), .a 40 (.mv (.t 7)), .a 41 (.mv (.t 6)), .a 42 (.mv (.t 7)), .a 43 (.iA 3 (.t 41) (.t 42)), .a 44 (.ld 3 true (.t 43)), .a 45 (.ld 3 true (.t 9)), .a 46 (.mv (.t 8)), .a 47 (.conv .u64 (.t 46)), .a 48 (.call F.bits_OnesCount [(.t 47)]), .a 49 (.call F.ratio_Frac [(.c (.int .i64 1)), (.t 48)]), .a 50 (.call F.ratio_Mul [(.t 45), (.t 49)]), .a 51 (.call F.ratio_Add [(.t 44), (.t 50)]), .a 52 (.iA 3 (.t 39) (.t 40)), .n (.st 3 (.t 52) (.t 51))] [8, 9, 38, 39, 40, 41, 42, 43, 44, 45, 46, 47, 48, 49, 50, 51, 52] [9]) .skip))))
  (.reg [] [.a 53 (.bin .add (.t 29) (.c (.int .i64 1))), .a 29 (.mv (.t 53))] [8, 9, 38, 53] [9]))))
def game_ByShares.b0 : R.C := (.seq (.reg [] [.a 21 (.bin .lss (.t 20) (.t 19))] [] [])
  (.seq (.cond (.t 21) .skip (.exit 0))
  (.seq (.block 1 (.seq (.reg [] [.a 22 (.mv (.t 20)), .a 7 (.mv (.t 22))] [21, 22] [])
  (.seq (.reg [] [.a 23 (.mv (.t 6)), .a 24 (.mv (.t 7)), .a 25 (.call F.ratio_Zero []), .a 26 (.iA 3 (.t 23) (.t 24)), .n (.st 3 (.t 26) (.t 25))] [23, 24, 25, 26] [])
  (.seq (.reg [] [.a 27 (.mv (.t 0)), .a 28 (.ln (.t 27)), .a 29 (.mv (.c (.int .i64 0)))] [] [])
  (.block 2 (.loop [] [] game_ByShares.b2))))))
  (.reg [] [.a 54 (.bin .add (.t 20) (.c (.int .i64 1))), .a 20 (.mv (.t 54))] [7, 27, 28, 29, 30, 54] []))))
def game_ByShares : R.Fn := ⟨1, [(.t 2), (.t 3)], (.seq (.reg [] [.a 2 (.mv (.c (.sl 3 []))), .a 3 (.mv (.c (.int .i64 0)))] [2, 3] [])
  (.seq (.reg [] [.a 11 (.mv (.t 0)), .a 12 (.call F.game_Players [(.t 11)]), .a 10 (.mv (.t 12)), .a 13 (.ext (.t 10) 0), .a 14 (.ext (.t 10) 1), .a 4 (.mv (.t 13)), .a 5 (.mv (.t 14))] [10, 11, 12, 13, 14] [])
  (.seq (.seq (.reg [] [.a 15 (.mv (.t 5)), .a 16 (.un .not (.t 15))] [5, 15] [])
  (.cond (.t 16) (.seq (.reg [] [.a 2 (.mv (.c (.sl 3 []))), .a 3 (.mv (.c (.int .i64 1)))] [0, 4, 16] [])
  .ret) .skip))
  (.seq (.reg [] [.a 17 (.mv (.t 4)), .a 18 (.mk 3 56 [(.bool false), (.sl 1 []), (.sl 1 [])] (.t 17) (.t 17)), .a 6 (.mv (.t 18))] [16, 17, 18] [])
  (.seq (.seq (.reg [] [.a 19 (.mv (.t 4)), .a 20 (.mv (.c (.int .i64 0)))] [4] [])
  (.block 0 (.loop [] [] game_ByShares.b0)))
  (.seq (.reg [] [.a 55 (.mv (.t 6)), .a 2 (.mv (.t 55)), .a 3 (.mv (.c (.int .i64 0)))] [0, 6, 19, 20, 21, 55] [])
  .ret))))))⟩
def game_ByShares.hint : R.Hint := { kill := [(0, [2, 3], []), (1, [10, 11, 12, 13, 14], []), (2, [5, 15], []), (3, [0, 4, 16], []), (4, [16, 17, 18], []), (5, [4], []), (7, [21, 22], []), (8, [23, 24, 25, 26], []), (11, [30, 31, 32, 33], []), (12, [34, 35, 36, 37], []), (13, [8, 9, 38, 39, 40, 41, 42, 43, 44, 45, 46, 47, 48, 49, 50, 51, 52], [9]), (14, [8, 9, 38, 53], [9]), (15, [7, 27, 28, 29, 30, 54], []), (16, [0, 6, 19, 20, 21, 55], [])] }
theorem game_ByShares.ok : cFn Tryz.prog game_ByShares.hint Tryz.f31 = some game_ByShares := by kernel_rfl
def dendronlaw19_Count.b0 : R.C := (.seq (.seq (.reg [] [.a 7 (.mv (.t 6)), .a 8 (.mv (.t 1)), .a 9 (.bin .lss (.t 7) (.t 8))] [7, 8] [])
  (.cond (.t 9) .skip (.exit 0)))
  (.seq (.block 1 (.seq (.reg [] [.a 12 (.mv (.t 0)), .a 13 (.mv (.t 6)), .a 14 (.call F.dendronref19_In [(.t 12), (.t 13)])] [9, 12, 13] [])
  (.cond (.t 14) (.reg [] [.a 15 (.mv (.t 5)), .a 16 (.bin .add (.t 15) (.c (.int .i64 1))), .a 5 (.mv (.t 16))] [14, 15, 16] []) .skip)))
  (.reg [] [.a 10 (.mv (.t 6)), .a 11 (.bin .add (.t 10) (.c (.int .i64 1))), .a 6 (.mv (.t 11))] [10, 11, 14] [])))
def dendronlaw19_Count : R.Fn := ⟨2, [(.t 4)], (.seq (.reg [] [.a 4 (.mv (.c (.int .i64 0)))] [4] [])
  (.seq (.reg [] [.a 5 (.mv (.c (.int .i64 0)))] [] [])
  (.seq (.seq (.reg [] [.a 6 (.mv (.c (.int .i64 0)))] [] [])
  (.block 0 (.loop [] [] dendronlaw19_Count.b0)))
  (.seq (.reg [] [.a 17 (.mv (.t 5)), .a 4 (.mv (.t 17))] [0, 1, 5, 6, 9, 17] [])
  .ret))))⟩
def dendronlaw19_Count.hint : R.Hint := { kill := [(0, [4], []), (3, [7, 8], []), (4, [10, 11, 14], []), (5, [9, 12, 13], []), (6, [14, 15, 16], []), (7, [0, 1, 5, 6, 9, 17], [])] }
theorem dendronlaw19_Count.ok : cFn Tryz.prog dendronlaw19_Count.hint Tryz.f32 = some dendronlaw19_Count := by kernel_rfl
def game_Shares.b2 : R.C := (.seq (.reg [] [.a 25 (.bin .lss (.t 24) (.t 23))] [] [])
  (.seq (.cond (.t 25) .skip (.exit 2))
  (.seq (.block 3 (.seq (.reg [] [.a 26 (.mv (.t 24)), .a 8 (.mv (.t 26))] [25, 26] [])
  (.seq (.reg [] [.a 27 (.mv (.t 8)), .a 28 (.mv (.t 7)), .a 29 (.bin .shr (.t 27) (.t 28)), .a 30 (.bin .and (.t 29) (.c (.int .i64 1))), .a 31 (.bin .eql (.t 30) (.c (.int .i64 1)))] [27, 28, 29, 30] [])
  (.cond (.t 31) (.reg [] [.a 32 (.mv (.t 6)), .a 33 (.mv (.t 8)), .a 34 (.mv (.t 6)), .a 35 (.mv (.t 8)), .a 36 (.iA 3 (.t 34) (.t 35)), .a 37 (.ld 3 true (.t 36)), .a 38 (.mv (.t 6)), .a 39 (.mv (.t 8)), .a 40 (.mv (.t 7)), .a 41 (.bin .shl (.c (.int .i64 1)) (.t 40)), .a 42 (.bin .xor (.t 39) (.t 41)), .a 43 (.iA 3 (.t 38) (.t 42)), .a 44 (.ld 3 true (.t 43)), .a 45 (.call F.ratio_Sub [(.t 37), (.t 44)]), .a 46 (.iA 3 (.t 32) (.t 33)), .n (.st 3 (.t 46) (.t 45))] [8, 31, 32, 33, 34, 35, 36, 37, 38, 39, 40, 41, 42, 43, 44, 45, 46] []) .skip))))
  (.reg [] [.a 47 (.bin .add (.t 24) (.c (.int .i64 1))), .a 24 (.mv (.t 47))] [8, 31, 47] []))))
def game_Shares.b0 : R.C := (.seq (.reg [] [.a 20 (.bin .lss (.t 19) (.t 18))] [] [])
  (.seq (.cond (.t 20) .skip (.exit 0))
  (.seq (.block 1 (.seq (.reg [] [.a 21 (.mv (.t 19)), .a 7 (.mv (.t 21))] [20, 21] [])
  (.seq (.reg [] [.a 22 (.mv (.t 6)), .a 23 (.ln (.t 22)), .a 24 (.mv (.c (.int .i64 0)))] [22] [])
  (.block 2 (.loop [] [] game_Shares.b2)))))
  (.reg [] [.a 48 (.bin .add (.t 19) (.c (.int .i64 1))), .a 19 (.mv (.t 48))] [7, 23, 24, 25, 48] []))))
def game_Shares : R.Fn := ⟨1, [(.t 2), (.t 3)], (.seq (.reg [] [.a 2 (.mv (.c (.sl 3 []))), .a 3 (.mv (.c (.int .i64 0)))] [2, 3] [])
  (.seq (.reg [] [.a 10 (.mv (.t 0)), .a 11 (.call F.game_Players [(.t 10)]), .a 9 (.mv (.t 11)), .a 12 (.ext (.t 9) 0), .a 13 (.ext (.t 9) 1), .a 4 (.mv (.t 12)), .a 5 (.mv (.t 13))] [9, 10, 11, 12, 13] [])
  (.seq (.seq (.reg [] [.a 14 (.mv (.t 5)), .a 15 (.un .not (.t 14))] [5, 14] [])
  (.cond (.t 15) (.seq (.reg [] [.a 2 (.mv (.c (.sl 3 []))), .a 3 (.mv (.c (.int .i64 1)))] [0, 4, 15] [])
  .ret) .skip))
  (.seq (.reg [] [.a 16 (.mv (.t 0)), .a 17 (.callk F.game_clean [(false, (.t 16))]), .a 6 (.mv (.t 17))] [0, 15, 16, 17] [])
  (.seq (.seq (.reg [] [.a 18 (.mv (.t 4)), .a 19 (.mv (.c (.int .i64 0)))] [4] [])
  (.block 0 (.loop [] [] game_Shares.b0)))
  (.seq (.reg [] [.a 49 (.mv (.t 6)), .a 2 (.mv (.t 49)), .a 3 (.mv (.c (.int .i64 0)))] [6, 18, 19, 20, 49] [])
  .ret))))))⟩
def game_Shares.hint : R.Hint := { callk := [(17, [false])], kill := [(0, [2, 3], []), (1, [9, 10, 11, 12, 13], []), (2, [5, 14], []), (3, [0, 4, 15], []), (4, [0, 15, 16, 17], []), (5, [4], []), (7, [20, 21], []), (8, [22], []), (10, [25, 26], []), (11, [27, 28, 29, 30], []), (12, [8, 31, 32, 33, 34, 35, 36, 37, 38, 39, 40, 41, 42, 43, 44, 45, 46], []), (13, [8, 31, 47], []), (14, [7, 23, 24, 25, 48], []), (15, [6, 18, 19, 20, 49], [])] }
theorem game_Shares.ok : cFn Tryz.prog game_Shares.hint Tryz.f33 = some game_Shares := by kernel_rfl
def game_FromShares.b2 : R.C := (.seq (.reg [] [.a 25 (.bin .lss (.t 24) (.t 23))] [] [])
  (.seq (.cond (.t 25) .skip (.exit 2))
  (.seq (.block 3 (.seq (.reg [] [.a 26 (.mv (.t 24)), .a 8 (.mv (.t 26))] [25, 26] [])
  (.seq (.reg [] [.a 27 (.mv (.t 8)), .a 28 (.mv (.t 7)), .a 29 (.bin .shr (.t 27) (.t 28)), .a 30 (.bin .and (.t 29) (.c (.int .i64 1))), .a 31 (.bin .eql (.t 30) (.c (.int .i64 1)))] [27, 28, 29, 30] [])
  (.cond (.t 31) (.reg [] [.a 32 (.mv (.t 6)), .a 33 (.mv (.t 8)), .a 34 (.mv (.t 6)), .a 35 (.mv (.t 8)), .a 36 (.iA 3 (.t 34) (.t 35)), .a 37 (.ld 3 true (.t 36)), .a 38 (.mv (.t 6)), .a 39 (.mv (.t 8)), .a 40 (.mv (.t 7)), .a 41 (.bin .shl (.c (.int .i64 1)) (.t 40)), .a 42 (.bin .xor (.t 39) (.t 41)), .a 43 (.iA 3 (.t 38) (.t 42)), .a 44 (.ld 3 true (.t 43)), .a 45 (.call F.ratio_Add [(.t 37), (.t 44)]), .a 46 (.iA 3 (.t 32) (.t 33)), .n (.st 3 (.t 46) (.t 45))] [8, 31, 32, 33, 34, 35, 36, 37, 38, 39, 40, 41, 42, 43, 44, 45, 46] []) .skip))))
  (.reg [] [.a 47 (.bin .add (.t 24) (.c (.int .i64 1))), .a 24 (.mv (.t 47))] [8, 31, 47] []))))
def game_FromShares.b0 : R.C := (.seq (.reg [] [.a 20 (.bin .lss (.t 19) (.t 18))] [] [])
  (.seq (.cond (.t 20) .skip (.exit 0))
  (.seq (.block 1 (.seq (.reg [] [.a 21 (.mv (.t 19)), .a 7 (.mv (.t 21))] [20, 21] [])
  (.seq (.reg [] [.a 22 (.mv (.t 6)), .a 23 (.ln (.t 22)), .a 24 (.mv (.c (.int .i64 0)))] [22] [])
  (.block 2 (.loop [] [] game_FromShares.b2)))))
  (.reg [] [.a 48 (.bin .add (.t 19) (.c (.int .i64 1))), .a 19 (.mv (.t 48))] [7, 23, 24, 25, 48] []))))
def game_FromShares : R.Fn := ⟨1, [(.t 2), (.t 3)], (.seq (.reg [] [.a 2 (.mv (.c (.sl 3 []))), .a 3 (.mv (.c (.int .i64 0)))] [2, 3] [])
  (.seq (.reg [] [.a 10 (.mv (.t 0)), .a 11 (.call F.game_Players [(.t 10)]), .a 9 (.mv (.t 11)), .a 12 (.ext (.t 9) 0), .a 13 (.ext (.t 9) 1), .a 4 (.mv (.t 12)), .a 5 (.mv (.t 13))] [9, 10, 11, 12, 13] [])
  (.seq (.seq (.reg [] [.a 14 (.mv (.t 5)), .a 15 (.un .not (.t 14))] [5, 14] [])
  (.cond (.t 15) (.seq (.reg [] [.a 2 (.mv (.c (.sl 3 []))), .a 3 (.mv (.c (.int .i64 1)))] [0, 4, 15] [])
  .ret) .skip))
  (.seq (.reg [] [.a 16 (.mv (.t 0)), .a 17 (.callk F.game_clean [(false, (.t 16))]), .a 6 (.mv (.t 17))] [0, 15, 16, 17] [])
  (.seq (.seq (.reg [] [.a 18 (.mv (.t 4)), .a 19 (.mv (.c (.int .i64 0)))] [4] [])
  (.block 0 (.loop [] [] game_FromShares.b0)))
  (.seq (.reg [] [.a 49 (.mv (.t 6)), .a 2 (.mv (.t 49)), .a 3 (.mv (.c (.int .i64 0)))] [6, 18, 19, 20, 49] [])
  .ret))))))⟩
def game_FromShares.hint : R.Hint := { callk := [(17, [false])], kill := [(0, [2, 3], []), (1, [9, 10, 11, 12, 13], []), (2, [5, 14], []), (3, [0, 4, 15], []), (4, [0, 15, 16, 17], []), (5, [4], []), (7, [20, 21], []), (8, [22], []), (10, [25, 26], []), (11, [27, 28, 29, 30], []), (12, [8, 31, 32, 33, 34, 35, 36, 37, 38, 39, 40, 41, 42, 43, 44, 45, 46], []), (13, [8, 31, 47], []), (14, [7, 23, 24, 25, 48], []), (15, [6, 18, 19, 20, 49], [])] }
theorem game_FromShares.ok : cFn Tryz.prog game_FromShares.hint Tryz.f34 = some game_FromShares := by kernel_rfl
def dendronlaw19_within.b0 : R.C := (.seq (.seq (.reg [] [.a 8 (.mv (.t 7)), .a 9 (.mv (.t 2)), .a 10 (.bin .lss (.t 8) (.t 9))] [8, 9] [])
  (.cond (.t 10) .skip (.exit 0)))
  (.seq (.block 1 (.seq (.reg [] [.a 13 (.mv (.t 0)), .a 14 (.mv (.t 7)), .a 15 (.call F.dendronref19_In [(.t 13), (.t 14)]), .a 16 (.mv (.t 15)), .g 17 16 true (.mv (.t 1)), .g 18 16 true (.mv (.t 7)), .g 19 16 true (.call F.dendronref19_In [(.t 17), (.t 18)]), .g 20 16 true (.un .not (.t 19)), .a 21 (.pick (.t 16) (.t 20) (.c (.bool false)))] [10, 13, 14, 15, 16, 17, 18, 19, 20] [])
  (.cond (.t 21) (.seq (.reg [] [.a 6 (.mv (.c (.bool false)))] [0, 1, 2, 7, 21] [])
  .ret) .skip)))
  (.reg [] [.a 11 (.mv (.t 7)), .a 12 (.bin .add (.t 11) (.c (.int .i64 1))), .a 7 (.mv (.t 12))] [11, 12, 21] [])))
def dendronlaw19_within : R.Fn := ⟨3, [(.t 6)], (.seq (.reg [] [.a 6 (.mv (.c (.bool false)))] [6] [])
  (.seq (.seq (.reg [] [.a 7 (.mv (.c (.int .i64 0)))] [] [])
  (.block 0 (.loop [] [] dendronlaw19_within.b0)))
  (.seq (.reg [] [.a 6 (.mv (.c (.bool true)))] [0, 1, 2, 7, 10] [])
  .ret)))⟩
def dendronlaw19_within.hint : R.Hint := { kill := [(0, [6], []), (2, [8, 9], []), (3, [11, 12, 21], []), (4, [10, 13, 14, 15, 16, 17, 18, 19, 20], []), (5, [0, 1, 2, 7, 21], []), (6, [0, 1, 2, 7, 10], [])] }
theorem dendronlaw19_within.ok : cFn Tryz.prog dendronlaw19_within.hint Tryz.f35 = some dendronlaw19_within := by kernel_rfl
def game_Pairs.b4 : R.C := (.seq (.reg [] [.a 61 (.bin .lss (.t 60) (.t 59))] [] [])
  (.seq (.cond (.t 61) .skip (.exit 4))
  (.seq (.block 5 (.seq (.reg [] [.a 62 (.mv (.t 60)), .a 13 (.mv (.t 62))] [61, 62] [])
  (.seq (.reg [] [.a 63 (.mv (.t 13)), .a 64 (.mv (.t 10)), .a 65 (.bin .shr (.t 63) (.t 64)), .a 66 (.bin .and (.t 65) (.c (.int .i64 1))), .a 67 (.bin .eql (.t 66) (.c (.int .i64 0))), .a 68 (.mv (.t 67)), .g 69 68 true (.mv (.t 13)), .g 70 68 true (.mv (.t 11)), .g 71 68 true (.bin .shr (.t 69) (.t 70)), .g 72 68 true (.bin .and (.t 71) (.c (.int .i64 1))), .g 73 68 true (.bin .eql (.t 72) (.c (.int .i64 0))), .a 74 (.pick (.t 68) (.t 73) (.c (.bool false)))] [63, 64, 65, 66, 67, 68, 69, 70, 71, 72, 73] [])
  (.cond (.t 74) (.seq (.reg [] [.a 76 (.mv (.t 8)), .a 77 (.mv (.t 13)), .a 78 (.conv .u64 (.t 77)), .a 79 (.call F.bits_OnesCount [(.t 78)]), .a 80 (.mv (.t 4)), .a 81 (.callk F.dendron_weigh_Table_Pair [(true, (.t 76)), (false, (.t 79)), (false, (.t 80))]), .a 75 (.mv (.t 81)), .a 82 (.ext (.t 75) 0), .a 83 (.ext (.t 75) 1), .a 14 (.new [(.bool false), (.sl 1 []), (.sl 1 [])]), .n (.st 3 (.t 14) (.t 82)), .a 15 (.mv (.t 83))] [15, 74, 75, 76, 77, 78, 79, 80, 81, 82, 83] [81, 1081, 2081, 3081])
  (.reg [51539607564, 60129542158] [.a 84 (.ld 3 true (.t 12)), .a 85 (.ld 3 true (.t 14)), .a 86 (.mv (.t 0)), .a 87 (.mv (.t 13)), .a 88 (.mv (.t 10)), .a 89 (.mv (.t 11)), .a 90 (.call F.game_cross [(.t 86), (.t 87), (.t 88), (.t 89)]), .a 91 (.call F.ratio_Mul [(.t 85), (.t 90)]), .a 92 (.call F.ratio_Add [(.t 84), (.t 91)]), .n (.st 3 (.t 12) (.t 92))] [13, 14, 84, 85, 86, 87, 88, 89, 90, 91, 92] [14])) .skip))))
  (.reg [] [.a 93 (.bin .add (.t 60) (.c (.int .i64 1))), .a 60 (.mv (.t 93))] [13, 74, 93] []))))
def game_Pairs.b2 : R.C := (.seq (.reg [] [.a 52 (.bin .lss (.t 51) (.t 50))] [] [])
  (.seq (.cond (.t 52) .skip (.exit 2))
  (.seq (.block 3 (.seq (.reg [] [.a 53 (.mv (.t 51)), .a 11 (.mv (.t 53))] [52, 53] [])
  (.seq (.seq (.reg [] [.a 54 (.mv (.t 11)), .a 55 (.mv (.t 10)), .a 56 (.bin .eql (.t 54) (.t 55))] [54, 55] [])
  (.cond (.t 56) (.exit 3) .skip))
  (.seq (.reg [] [.a 57 (.call F.ratio_Zero []), .a 12 (.new [(.bool false), (.sl 1 []), (.sl 1 [])]), .n (.st 3 (.t 12) (.t 57))] [56, 57] [])
  (.seq (.seq (.reg [] [.a 58 (.mv (.t 0)), .a 59 (.ln (.t 58)), .a 60 (.mv (.c (.int .i64 0)))] [58] [])
  (.block 4 (.loop [] [] game_Pairs.b4)))
  (.seq (.reg [] [.a 94 (.mv (.t 9)), .a 95 (.mv (.t 10)), .a 96 (.iA 1 (.t 94) (.t 95)), .a 97 (.ld 1 false (.t 96)), .a 98 (.mv (.t 11)), .a 99 (.ld 3 true (.t 12)), .a 100 (.iA 3 (.t 97) (.t 98)), .n (.st 3 (.t 100) (.t 99))] [11, 59, 60, 61, 94, 95, 96, 97, 98, 99, 100] [])
  (.reg [] [.a 101 (.mv (.t 9)), .a 102 (.mv (.t 10)), .a 103 (.iA 1 (.t 101) (.t 102)), .a 104 (.ld 1 false (.t 103)), .a 105 (.mv (.t 10)), .a 106 (.mv (.t 9)), .a 107 (.mv (.t 10)), .a 108 (.iA 1 (.t 106) (.t 107)), .a 109 (.ld 1 false (.t 108)), .a 110 (.mv (.t 10)), .a 111 (.iA 3 (.t 109) (.t 110)), .a 112 (.ld 3 true (.t 111)), .a 113 (.ld 3 true (.t 12)), .a 114 (.call F.ratio_Sub [(.t 112), (.t 113)]), .a 115 (.iA 3 (.t 104) (.t 105)), .n (.st 3 (.t 115) (.t 114))] [12, 101, 102, 103, 104, 105, 106, 107, 108, 109, 110, 111, 112, 113, 114, 115] [12])))))))
  (.reg [] [.a 116 (.bin .add (.t 51) (.c (.int .i64 1))), .a 51 (.mv (.t 116))] [11, 56, 116] []))))
def game_Pairs.b0 : R.C := (.seq (.reg [] [.a 33 (.bin .lss (.t 32) (.t 31))] [] [])
  (.seq (.cond (.t 33) .skip (.exit 0))
  (.seq (.block 1 (.seq (.reg [] [.a 34 (.mv (.t 32)), .a 10 (.mv (.t 34))] [33, 34] [])
  (.seq (.reg [] [.a 35 (.mv (.t 9)), .a 36 (.mv (.t 10)), .a 37 (.mv (.t 4)), .a 38 (.mk 3 56 [(.bool false), (.sl 1 []), (.sl 1 [])] (.t 37) (.t 37)), .a 39 (.iA 1 (.t 35) (.t 36)), .n (.st 1 (.t 39) (.t 38))] [35, 36, 37, 38, 39] [38])
  (.seq (.reg [] [.a 40 (.mv (.t 9)), .a 41 (.mv (.t 10)), .a 42 (.iA 1 (.t 40) (.t 41)), .a 43 (.ld 1 false (.t 42)), .a 44 (.mv (.t 10)), .a 45 (.mv (.t 6)), .a 46 (.mv (.t 10)), .a 47 (.iA 3 (.t 45) (.t 46)), .a 48 (.ld 3 true (.t 47)), .a 49 (.iA 3 (.t 43) (.t 44)), .n (.st 3 (.t 49) (.t 48))] [40, 41, 42, 43, 44, 45, 46, 47, 48, 49] [])
  (.seq (.reg [] [.a 50 (.mv (.t 4)), .a 51 (.mv (.c (.int .i64 0)))] [] [])
  (.block 2 (.loop [] [] game_Pairs.b2)))))))
  (.reg [] [.a 117 (.bin .add (.t 32) (.c (.int .i64 1))), .a 32 (.mv (.t 117))] [10, 50, 51, 52, 117] []))))
def game_Pairs : R.Fn := ⟨1, [(.t 2), (.t 3)], (.seq (.reg [] [.a 2 (.mv (.c (.sl 1 []))), .a 3 (.mv (.c (.int .i64 0)))] [2, 3] [])
  (.seq (.reg [] [.a 17 (.mv (.t 0)), .a 18 (.call F.game_Players [(.t 17)]), .a 16 (.mv (.t 18)), .a 19 (.ext (.t 16) 0), .a 20 (.ext (.t 16) 1), .a 4 (.mv (.t 19)), .a 5 (.mv (.t 20))] [16, 17, 18, 19, 20] [])
  (.seq (.seq (.reg [] [.a 21 (.mv (.t 5)), .a 22 (.un .not (.t 21))] [5, 21] [])
  (.cond (.t 22) (.seq (.reg [] [.a 2 (.mv (.c (.sl 1 []))), .a 3 (.mv (.c (.int .i64 1)))] [0, 4, 22] [])
  .ret) .skip))
  (.seq (.reg [] [.a 24 (.mv (.t 0)), .a 25 (.call F.game_Shapley [(.t 24)]), .a 23 (.mv (.t 25)), .a 26 (.ext (.t 23) 0), .a 27 (.ext (.t 23) 1), .a 6 (.mv (.t 26)), .a 7 (.mv (.t 27))] [7, 22, 23, 24, 25, 26, 27] [])
  (.seq (.reg [] [.a 28 (.callk F.weigh_New []), .a 8 (.mv (.t 28))] [28] [])
  (.seq (.reg [] [.a 29 (.mv (.t 4)), .a 30 (.mk 1 24 [(.sl 3 [])] (.t 29) (.t 29)), .a 9 (.mv (.t 30))] [29, 30] [])
  (.seq (.seq (.reg [] [.a 31 (.mv (.t 4)), .a 32 (.mv (.c (.int .i64 0)))] [] [])
  (.block 0 (.loop [] [] game_Pairs.b0)))
  (.seq (.reg [] [.a 118 (.mv (.t 9)), .a 2 (.mv (.t 118)), .a 3 (.mv (.c (.int .i64 0)))] [0, 4, 6, 8, 9, 31, 32, 33, 118] [28])
  .ret))))))))⟩
def game_Pairs.hint : R.Hint := { callk := [(28, []), (81, [true, false, false])], pub := [(22, [51539607564, 60129542158])], kill := [(0, [2, 3], []), (1, [16, 17, 18, 19, 20], []), (2, [5, 21], []), (3, [0, 4, 22], []), (4, [7, 22, 23, 24, 25, 26, 27], []), (5, [28], []), (6, [29, 30], []), (9, [33, 34], []), (10, [35, 36, 37, 38, 39], [38]), (11, [40, 41, 42, 43, 44, 45, 46, 47, 48, 49], []), (14, [52, 53], []), (15, [54, 55], []), (16, [56, 57], []), (17, [58], []), (19, [61, 62], []), (20, [63, 64, 65, 66, 67, 68, 69, 70, 71, 72, 73], []), (21, [15, 74, 75, 76, 77, 78, 79, 80, 81, 82, 83], [81, 1081, 2081, 3081]), (22, [13, 14, 84, 85, 86, 87, 88, 89, 90, 91, 92], [14]), (23, [13, 74, 93], []), (24, [11, 59, 60, 61, 94, 95, 96, 97, 98, 99, 100], []), (25, [12, 101, 102, 103, 104, 105, 106, 107, 108, 109, 110, 111, 112, 113, 114, 115], [12]), (26, [11, 56, 116], []), (27, [10, 50, 51, 52, 117], []), (28, [0, 4, 6, 8, 9, 31, 32, 33, 118], [28])] }
theorem game_Pairs.ok : cFn Tryz.prog game_Pairs.hint Tryz.f36 = some game_Pairs := by kernel_rfl
def weigh_New : R.Fn := ⟨0, [(.own 0)], (.seq (.reg [] [.a 0 (.mv (.c (.raw (.pointer none))))] [0] [])
  (.seq (.reg [] [.a 1 (.bld [(.int .u32 0), (.int .i32 0), (.int .u32 0), (.sl 2 [])] []), .a 2 (.box (.t 1)), .a 0 (.mv (.t 2))] [1, 2] [])
  .ret))⟩
def weigh_New.hint : R.Hint := { kill := [(0, [0], []), (1, [1, 2], [])], own := true }
theorem weigh_New.ok : cFn Tryz.prog weigh_New.hint Tryz.f37 = some weigh_New := by kernel_rfl
def dendron_weigh_Table_Pair : R.Fn := ⟨3, [(.cell 6 3 true), (.t 7)], (.seq (.reg [] [.a 6 (.new [(.bool false), (.sl 1 []), (.sl 1 [])]), .a 7 (.mv (.c (.int .i64 0)))] [7] [])
  (.seq (.block 0 (.seq (.reg [] [.a 9 (.mv (.t 0)), .a 10 (.pnil false (.t 9)), .a 8 (.mv (.t 10))] [9, 10] [])
  (.cond (.t 8) (.seq (.reg [] [.a 11 (.bld [(.bool false), (.sl 1 []), (.sl 1 [])] []), .n (.st 3 (.t 6) (.t 11)), .a 7 (.mv (.c (.int .i64 18)))] [0, 1, 2, 8, 11] [])
  .ret) (.seq (.reg [] [.a 13 (.mv (.t 2)), .a 14 (.bin .lss (.t 13) (.c (.int .i64 2))), .a 15 (.mv (.t 14)), .g 16 15 false (.mv (.t 2)), .g 17 15 false (.bin .gtr (.t 16) (.c (.int .i64 64))), .a 18 (.pick (.t 15) (.c (.bool true)) (.t 17)), .a 19 (.mv (.t 18)), .g 20 19 false (.mv (.t 1)), .g 21 19 false (.bin .lss (.t 20) (.c (.int .i64 0))), .a 22 (.pick (.t 19) (.c (.bool true)) (.t 21)), .a 23 (.mv (.t 22)), .g 24 23 false (.mv (.t 1)), .g 25 23 false (.mv (.t 2)), .g 26 23 false (.bin .sub (.t 25) (.c (.int .i64 2))), .g 27 23 false (.bin .gtr (.t 24) (.t 26)), .a 28 (.pick (.t 23) (.c (.bool true)) (.t 27)), .a 12 (.mv (.t 28))] [8, 13, 14, 15, 16, 17, 18, 19, 20, 21, 22, 23, 24, 25, 26, 27, 28] [])
  (.cond (.t 12) (.seq (.reg [] [.a 29 (.bld [(.bool false), (.sl 1 []), (.sl 1 [])] []), .n (.st 3 (.t 6) (.t 29)), .a 7 (.mv (.c (.int .i64 8)))] [0, 1, 2, 12, 29] [])
  .ret) .skip)))))
  (.seq (.reg [] [.a 30 (.mv (.t 0)), .a 31 (.mv (.t 1)), .a 32 (.mv (.t 2)), .a 33 (.mv (.t 1)), .a 34 (.bin .sub (.t 32) (.t 33)), .a 35 (.bin .sub (.t 34) (.c (.int .i64 2))), .a 36 (.mv (.t 2)), .a 37 (.bin .sub (.t 36) (.c (.int .i64 1))), .a 38 (.callk F.dendron_weigh_Table_quotient [(true, (.t 30)), (false, (.t 31)), (false, (.t 35)), (false, (.t 37))]), .a 39 (.call F.ratio_Frac [(.c (.int .i64 1)), (.c (.int .i64 2))]), .a 40 (.call F.ratio_Mul [(.t 38), (.t 39)]), .n (.st 3 (.t 6) (.t 40)), .a 7 (.mv (.c (.int .i64 0)))] [0, 1, 2, 12, 30, 31, 32, 33, 34, 35, 36, 37, 38, 39, 40] [38])
  .ret)))⟩
def dendron_weigh_Table_Pair.hint : R.Hint := { callk := [(38, [true, false, false, false])], kill := [(0, [7], []), (1, [9, 10], []), (2, [0, 1, 2, 8, 11], []), (3, [8, 13, 14, 15, 16, 17, 18, 19, 20, 21, 22, 23, 24, 25, 26, 27, 28], []), (4, [0, 1, 2, 12, 29], []), (5, [0, 1, 2, 12, 30, 31, 32, 33, 34, 35, 36, 37, 38, 39, 40], [38])] }
theorem dendron_weigh_Table_Pair.ok : cFn Tryz.prog dendron_weigh_Table_Pair.hint Tryz.f38 = some dendron_weigh_Table_Pair := by kernel_rfl
def dendronlaw22_awake : R.Fn := ⟨0, [(.t 0)], (.seq (.reg [] [.a 0 (.mv (.c (.bool false)))] [0] [])
  (.seq (.reg [] [.a 2 (.call F.owen_Alone [(.c (.int .i64 3))]), .a 1 (.mv (.t 2))] [2] [])
  (.seq (.reg [] [.a 3 (.mv (.t 1)), .a 4 (.ln (.t 3)), .a 5 (.bin .eql (.t 4) (.c (.int .i64 3))), .a 6 (.mv (.t 5)), .g 7 6 true (.mv (.t 1)), .g 8 6 true (.iA 1 (.t 7) (.c (.int .i64 0))), .g 9 6 true (.ld 1 false (.t 8)), .g 10 6 true (.bin .eql (.t 9) (.c (.int .i64 1))), .a 11 (.pick (.t 6) (.t 10) (.c (.bool false))), .a 12 (.mv (.t 11)), .g 13 12 true (.mv (.t 1)), .g 14 12 true (.iA 1 (.t 13) (.c (.int .i64 1))), .g 15 12 true (.ld 1 false (.t 14)), .g 16 12 true (.bin .eql (.t 15) (.c (.int .i64 2))), .a 17 (.pick (.t 12) (.t 16) (.c (.bool false))), .a 18 (.mv (.t 17)), .g 19 18 true (.mv (.t 1)), .g 20 18 true (.iA 1 (.t 19) (.c (.int .i64 2))), .g 21 18 true (.ld 1 false (.t 20)), .g 22 18 true (.bin .eql (.t 21) (.c (.int .i64 4))), .a 23 (.pick (.t 18) (.t 22) (.c (.bool false))), .a 24 (.mv (.t 23)), .g 25 24 true (.mv (.t 1)), .g 26 24 true (.call F.owen_Right [(.t 25), (.c (.int .i64 3))]), .a 27 (.pick (.t 24) (.t 26) (.c (.bool false))), .a 0 (.mv (.t 27))] [1, 3, 4, 5, 6, 7, 8, 9, 10, 11, 12, 13, 14, 15, 16, 17, 18, 19, 20, 21, 22, 23, 24, 25, 26, 27] [])
  .ret)))⟩
def dendronlaw22_awake.hint : R.Hint := { kill := [(0, [0], []), (1, [2], []), (2, [1, 3, 4, 5, 6, 7, 8, 9, 10, 11, 12, 13, 14, 15, 16, 17, 18, 19, 20, 21, 22, 23, 24, 25, 26, 27], [])] }
theorem dendronlaw22_awake.ok : cFn Tryz.prog dendronlaw22_awake.hint Tryz.f39 = some dendronlaw22_awake := by kernel_rfl
def owen_Values.b0 : R.C := (.seq (.reg [] [.a 36 (.bin .lss (.t 35) (.t 34))] [] [])
  (.seq (.cond (.t 36) .skip (.exit 0))
  (.seq (.block 1 (.seq (.reg [] [.a 37 (.mv (.t 35)), .a 10 (.mv (.t 37))] [36, 37] [])
  (.reg [] [.a 38 (.mv (.t 9)), .a 39 (.mv (.t 10)), .a 40 (.call F.ratio_Zero []), .a 41 (.iA 3 (.t 38) (.t 39)), .n (.st 3 (.t 41) (.t 40))] [10, 38, 39, 40, 41] [])))
  (.reg [] [.a 42 (.bin .add (.t 35) (.c (.int .i64 1))), .a 35 (.mv (.t 42))] [42] []))))
def owen_Values.b6 : R.C := (.seq (.reg [] [.a 73 (.bin .lss (.t 72) (.t 71))] [] [])
  (.seq (.cond (.t 73) .skip (.exit 6))
  (.seq (.block 7 (.seq (.reg [] [.a 74 (.mv (.t 72)), .a 16 (.mv (.t 74))] [73, 74] [])
  (.seq (.reg [] [.a 75 (.mv (.t 12)), .a 76 (.mv (.t 16)), .a 77 (.bin .shr (.t 75) (.t 76)), .a 78 (.bin .and (.t 77) (.c (.int .i64 1))), .a 79 (.bin .eql (.t 78) (.c (.int .i64 1)))] [75, 76, 77, 78] [])
  (.cond (.t 79) (.reg [128849018888, 137438953481, 60129542158, 137438953554, 137438953556, 128849018968] [.a 80 (.mv (.t 9)), .a 81 (.mv (.t 16)), .a 82 (.mv (.t 9)), .a 83 (.mv (.t 16)), .a 84 (.iA 3 (.t 82) (.t 83)), .a 85 (.ld 3 true (.t 84)), .a 86 (.ld 3 true (.t 14)), .a 87 (.mv (.t 0)), .a 88 (.mv (.t 8)), .a 89 (.mv (.t 12)), .a 90 (.mv (.t 16)), .a 91 (.mv (.t 1)), .a 92 (.mv (.t 13)), .a 93 (.call F.owen_merged [(.t 91), (.t 92)]), .a 94 (.callk F.owen_part [(false, (.t 87)), (true, (.t 88)), (false, (.t 89)), (false, (.t 90)), (false, (.t 93))]), .a 95 (.call F.ratio_Mul [(.t 86), (.t 94)]), .a 96 (.call F.ratio_Add [(.t 85), (.t 95)]), .a 97 (.iA 3 (.t 80) (.t 81)), .n (.st 3 (.t 97) (.t 96))] [16, 79, 80, 81, 82, 83, 84, 85, 86, 87, 88, 89, 90, 91, 92, 93, 94, 95, 96, 97] [94]) .skip))))
  (.reg [] [.a 98 (.bin .add (.t 72) (.c (.int .i64 1))), .a 72 (.mv (.t 98))] [16, 79, 98] []))))
def owen_Values.b4 : R.C := (.seq (.reg [] [.a 54 (.bin .lss (.t 53) (.t 52))] [] [])
  (.seq (.cond (.t 54) .skip (.exit 4))
  (.seq (.block 5 (.seq (.reg [] [.a 55 (.mv (.t 53)), .a 13 (.mv (.t 55))] [54, 55] [])
  (.seq (.seq (.reg [] [.a 56 (.mv (.t 13)), .a 57 (.mv (.t 11)), .a 58 (.bin .shr (.t 56) (.t 57)), .a 59 (.bin .and (.t 58) (.c (.int .i64 1))), .a 60 (.bin .eql (.t 59) (.c (.int .i64 1)))] [56, 57, 58, 59] [])
  (.cond (.t 60) (.exit 5) .skip))
  (.seq (.reg [] [.a 62 (.mv (.t 8)), .a 63 (.mv (.t 13)), .a 64 (.conv .u64 (.t 63)), .a 65 (.call F.bits_OnesCount [(.t 64)]), .a 66 (.mv (.t 1)), .a 67 (.ln (.t 66)), .a 68 (.callk F.dendron_weigh_Table_Weight [(true, (.t 62)), (false, (.t 65)), (false, (.t 67))]), .a 61 (.mv (.t 68)), .a 69 (.ext (.t 61) 0), .a 70 (.ext (.t 61) 1), .a 14 (.new [(.bool false), (.sl 1 []), (.sl 1 [])]), .n (.st 3 (.t 14) (.t 69)), .a 15 (.mv (.t 70))] [15, 60, 61, 62, 63, 64, 65, 66, 67, 68, 69, 70] [68, 1068, 2068, 3068])
  (.seq (.reg [] [.a 71 (.mv (.t 6)), .a 72 (.mv (.c (.int .i64 0)))] [] [])
  (.block 6 (.loop [] [] owen_Values.b6)))))))
  (.reg [] [.a 99 (.bin .add (.t 53) (.c (.int .i64 1))), .a 53 (.mv (.t 99))] [13, 14, 60, 71, 72, 73, 99] [14]))))
def owen_Values.b2 : R.C := (.seq (.reg [] [.a 46 (.bin .lss (.t 45) (.t 44))] [] [])
  (.seq (.cond (.t 46) .skip (.exit 2))
  (.seq (.block 3 (.seq (.reg [] [.a 47 (.mv (.t 45)), .a 48 (.iA 1 (.t 43) (.t 45)), .a 49 (.ld 1 false (.t 48)), .a 11 (.mv (.t 47)), .a 12 (.mv (.t 49))] [46, 47, 48, 49] [])
  (.seq (.reg [] [.a 50 (.mv (.t 1)), .a 51 (.ln (.t 50)), .a 52 (.bin .shl (.c (.int .i64 1)) (.t 51)), .a 53 (.mv (.c (.int .i64 0)))] [50, 51] [])
  (.block 4 (.loop [] [] owen_Values.b4)))))
  (.reg [] [.a 100 (.bin .add (.t 45) (.c (.int .i64 1))), .a 45 (.mv (.t 100))] [11, 12, 52, 53, 54, 100] []))))
def owen_Values : R.Fn := ⟨2, [(.t 4), (.t 5)], (.seq (.reg [] [.a 4 (.mv (.c (.sl 3 []))), .a 5 (.mv (.c (.int .i64 0)))] [4, 5] [])
  (.seq (.reg [] [.a 18 (.mv (.t 0)), .a 19 (.call F.game_Players [(.t 18)]), .a 17 (.mv (.t 19)), .a 20 (.ext (.t 17) 0), .a 21 (.ext (.t 17) 1), .a 6 (.mv (.t 20)), .a 7 (.mv (.t 21))] [17, 18, 19, 20, 21] [])
  (.seq (.seq (.reg [] [.a 22 (.mv (.t 7)), .a 23 (.un .not (.t 22)), .a 24 (.mv (.t 23)), .g 25 24 false (.mv (.t 1)), .g 26 24 false (.mv (.t 6)), .g 27 24 false (.call F.owen_Right [(.t 25), (.t 26)]), .g 28 24 false (.un .not (.t 27)), .a 29 (.pick (.t 24) (.c (.bool true)) (.t 28))] [7, 22, 23, 24, 25, 26, 27, 28] [])
  (.cond (.t 29) (.seq (.reg [] [.a 4 (.mv (.c (.sl 3 []))), .a 5 (.mv (.c (.int .i64 1)))] [0, 1, 6, 29] [])
  .ret) .skip))
  (.seq (.reg [] [.a 30 (.callk F.weigh_New []), .a 8 (.mv (.t 30))] [29, 30] [])
  (.seq (.reg [] [.a 31 (.mv (.t 6)), .a 32 (.mk 3 56 [(.bool false), (.sl 1 []), (.sl 1 [])] (.t 31) (.t 31)), .a 9 (.mv (.t 32))] [31, 32] [])
  (.seq (.seq (.reg [] [.a 33 (.mv (.t 9)), .a 34 (.ln (.t 33)), .a 35 (.mv (.c (.int .i64 0)))] [33] [])
  (.block 0 (.loop [] [] owen_Values.b0)))
  (.seq (.seq (.reg [] [.a 43 (.mv (.t 1)), .a 44 (.ln (.t 43)), .a 45 (.mv (.c (.int .i64 0)))] [34, 35, 36] [])
  (.block 2 (.loop [] [] owen_Values.b2)))
  (.seq (.reg [] [.a 101 (.mv (.t 9)), .a 4 (.mv (.t 101)), .a 5 (.mv (.c (.int .i64 0)))] [0, 1, 6, 8, 9, 43, 44, 45, 46, 101] [30])
  .ret))))))))⟩
def owen_Values.hint : R.Hint := { callk := [(30, []), (68, [true, false, false]), (94, [false, true, false, false, false])], pub := [(23, [128849018888, 137438953481, 60129542158, 137438953554, 137438953556, 128849018968])], kill := [(0, [4, 5], []), (1, [17, 18, 19, 20, 21], []), (2, [7, 22, 23, 24, 25, 26, 27, 28], []), (3, [0, 1, 6, 29], []), (4, [29, 30], []), (5, [31, 32], []), (6, [33], []), (8, [36, 37], []), (9, [10, 38, 39, 40, 41], []), (10, [42], []), (11, [34, 35, 36], []), (13, [46, 47, 48, 49], []), (14, [50, 51], []), (16, [54, 55], []), (17, [56, 57, 58, 59], []), (18, [15, 60, 61, 62, 63, 64, 65, 66, 67, 68, 69, 70], [68, 1068, 2068, 3068]), (21, [73, 74], []), (22, [75, 76, 77, 78], []), (23, [16, 79, 80, 81, 82, 83, 84, 85, 86, 87, 88, 89, 90, 91, 92, 93, 94, 95, 96, 97], [94]), (24, [16, 79, 98], []), (25, [13, 14, 60, 71, 72, 73, 99], [14]), (26, [11, 12, 52, 53, 54, 100], []), (27, [0, 1, 6, 8, 9, 43, 44, 45, 46, 101], [30])] }
theorem owen_Values.ok : cFn Tryz.prog owen_Values.hint Tryz.f40 = some owen_Values := by kernel_rfl
def owen_Alone.b0 : R.C := (.seq (.reg [] [.a 7 (.bin .lss (.t 6) (.t 5))] [] [])
  (.seq (.cond (.t 7) .skip (.exit 0))
  (.seq (.block 1 (.seq (.reg [] [.a 8 (.mv (.t 6)), .a 4 (.mv (.t 8))] [7, 8] [])
  (.reg [] [.a 9 (.mv (.t 3)), .a 10 (.mv (.t 4)), .a 11 (.bin .shl (.c (.int .i64 1)) (.t 10)), .a 12 (.lit 1 1 [(.int .i64 0)] [(0, 1, (.t 11))]), .a 13 (.app 1 8 (.t 9) (.t 12)), .a 3 (.mv (.t 13))] [4, 9, 10, 11, 12, 13] [])))
  (.reg [] [.a 14 (.bin .add (.t 6) (.c (.int .i64 1))), .a 6 (.mv (.t 14))] [14] []))))
def owen_Alone : R.Fn := ⟨1, [(.t 2)], (.seq (.reg [] [.a 2 (.mv (.c (.sl 1 [])))] [2] [])
  (.seq (.reg [] [.a 3 (.nil 1)] [] [])
  (.seq (.seq (.reg [] [.a 5 (.mv (.t 0)), .a 6 (.mv (.c (.int .i64 0)))] [0] [])
  (.block 0 (.loop [] [] owen_Alone.b0)))
  (.seq (.reg [] [.a 15 (.mv (.t 3)), .a 2 (.mv (.t 15))] [3, 5, 6, 7, 15] [])
  .ret))))⟩
def owen_Alone.hint : R.Hint := { nil := [3], kill := [(0, [2], []), (2, [0], []), (4, [7, 8], []), (5, [4, 9, 10, 11, 12, 13], []), (6, [14], []), (7, [3, 5, 6, 7, 15], [])] }
theorem owen_Alone.ok : cFn Tryz.prog owen_Alone.hint Tryz.f41 = some owen_Alone := by kernel_rfl
def dendronlaw22_two.b0 : R.C := (.seq (.seq (.reg [] [.a 5 (.mv (.t 4)), .a 6 (.mv (.t 0)), .a 7 (.bin .lss (.t 5) (.t 6))] [5, 6] [])
  (.cond (.t 7) .skip (.exit 0)))
  (.seq (.block 1 (.reg [] [.a 10 (.mv (.t 3)), .a 11 (.bin .mul (.c (.int .i64 2)) (.t 10)), .a 3 (.mv (.t 11))] [7, 10, 11] []))
  (.reg [] [.a 8 (.mv (.t 4)), .a 9 (.bin .add (.t 8) (.c (.int .i64 1))), .a 4 (.mv (.t 9))] [8, 9] [])))
def dendronlaw22_two : R.Fn := ⟨1, [(.t 2)], (.seq (.reg [] [.a 2 (.mv (.c (.int .i64 0)))] [2] [])
  (.seq (.reg [] [.a 3 (.mv (.c (.int .i64 1)))] [] [])
  (.seq (.seq (.reg [] [.a 4 (.mv (.c (.int .i64 0)))] [] [])
  (.block 0 (.loop [] [] dendronlaw22_two.b0)))
  (.seq (.reg [] [.a 12 (.mv (.t 3)), .a 2 (.mv (.t 12))] [0, 3, 4, 7, 12] [])
  .ret))))⟩
def dendronlaw22_two.hint : R.Hint := { kill := [(0, [2], []), (3, [5, 6], []), (4, [8, 9], []), (5, [7, 10, 11], []), (6, [0, 3, 4, 7, 12], [])] }
theorem dendronlaw22_two.ok : cFn Tryz.prog dendronlaw22_two.hint Tryz.f42 = some dendronlaw22_two := by kernel_rfl
def dendronlaw22_few : R.Fn := ⟨1, [(.t 2)], (.seq (.reg [] [.a 2 (.mv (.c (.sl 1 [])))] [2] [])
  (.seq (.seq (.reg [] [.a 3 (.mv (.t 0)), .a 4 (.ln (.t 3)), .a 5 (.bin .gtr (.t 4) (.c (.int .i64 12)))] [3, 4] [])
  (.cond (.t 5) (.seq (.reg [] [.a 6 (.mv (.t 0)), .a 7 (.slc 1 (.t 6) none (some (.c (.int .i64 12)))), .a 2 (.mv (.t 7))] [0, 5, 6, 7] [])
  .ret) .skip))
  (.seq (.reg [] [.a 8 (.mv (.t 0)), .a 2 (.mv (.t 8))] [0, 5, 8] [])
  .ret)))⟩
def dendronlaw22_few.hint : R.Hint := { kill := [(0, [2], []), (1, [3, 4], []), (2, [0, 5, 6, 7], []), (3, [0, 5, 8], [])] }
theorem dendronlaw22_few.ok : cFn Tryz.prog dendronlaw22_few.hint Tryz.f43 = some dendronlaw22_few := by kernel_rfl
def owen_Groups.b2 : R.C := (.seq (.reg [] [.a 27 (.bin .lss (.t 26) (.t 25))] [] [])
  (.seq (.cond (.t 27) .skip (.exit 2))
  (.seq (.block 3 (.seq (.reg [] [.a 28 (.mv (.t 26)), .a 29 (.iA 3 (.t 24) (.t 26)), .a 30 (.ld 3 true (.t 29)), .a 11 (.new [(.bool false), (.sl 1 []), (.sl 1 [])]), .a 10 (.mv (.t 28)), .n (.st 3 (.t 11) (.t 30))] [27, 28, 29, 30] [])
  (.seq (.reg [] [.a 31 (.mv (.t 8)), .a 32 (.mv (.t 10)), .a 33 (.bin .shr (.t 31) (.t 32)), .a 34 (.bin .and (.t 33) (.c (.int .i64 1))), .a 35 (.bin .eql (.t 34) (.c (.int .i64 1)))] [10, 31, 32, 33, 34] [])
  (.cond (.t 35) (.reg [] [.a 36 (.ld 3 true (.t 9)), .a 37 (.ld 3 true (.t 11)), .a 38 (.call F.ratio_Add [(.t 36), (.t 37)]), .n (.st 3 (.t 9) (.t 38))] [11, 35, 36, 37, 38] [11]) .skip))))
  (.reg [] [.a 39 (.bin .add (.t 26) (.c (.int .i64 1))), .a 26 (.mv (.t 39))] [11, 35, 39] [11]))))
def owen_Groups.b0 : R.C := (.seq (.reg [] [.a 20 (.bin .lss (.t 19) (.t 18))] [] [])
  (.seq (.cond (.t 20) .skip (.exit 0))
  (.seq (.block 1 (.seq (.reg [] [.a 21 (.iA 1 (.t 17) (.t 19)), .a 22 (.ld 1 false (.t 21)), .a 8 (.mv (.t 22))] [20, 21, 22] [])
  (.seq (.reg [] [.a 23 (.call F.ratio_Zero []), .a 9 (.new [(.bool false), (.sl 1 []), (.sl 1 [])]), .n (.st 3 (.t 9) (.t 23))] [23] [])
  (.seq (.seq (.reg [] [.a 24 (.mv (.t 0)), .a 25 (.ln (.t 24)), .a 26 (.mv (.c (.int .i64 0)))] [] [])
  (.block 2 (.loop [] [] owen_Groups.b2)))
  (.reg [] [.a 40 (.mv (.t 6)), .a 41 (.ld 3 true (.t 9)), .a 42 (.lit 3 1 [(.bool false), (.sl 1 []), (.sl 1 [])] [(0, 3, (.t 41))]), .a 43 (.app 3 56 (.t 40) (.t 42)), .a 6 (.mv (.t 43))] [8, 9, 24, 25, 26, 27, 40, 41, 42, 43] [9])))))
  (.reg [] [.a 44 (.bin .add (.t 19) (.c (.int .i64 1))), .a 19 (.mv (.t 44))] [44] []))))
def owen_Groups : R.Fn := ⟨2, [(.t 4), (.t 5)], (.seq (.reg [] [.a 4 (.mv (.c (.sl 3 []))), .a 5 (.mv (.c (.int .i64 0)))] [4, 5] [])
  (.seq (.seq (.reg [] [.a 12 (.mv (.t 1)), .a 13 (.mv (.t 0)), .a 14 (.ln (.t 13)), .a 15 (.call F.owen_Right [(.t 12), (.t 14)]), .a 16 (.un .not (.t 15))] [12, 13, 14, 15] [])
  (.cond (.t 16) (.seq (.reg [] [.a 4 (.mv (.c (.sl 3 []))), .a 5 (.mv (.c (.int .i64 1)))] [0, 1, 16] [])
  .ret) .skip))
  (.seq (.reg [] [.a 6 (.nil 3)] [16] [])
  (.seq (.seq (.reg [] [.a 17 (.mv (.t 1)), .a 18 (.ln (.t 17)), .a 19 (.mv (.c (.int .i64 0)))] [1] [])
  (.block 0 (.loop [] [] owen_Groups.b0)))
  (.seq (.reg [] [.a 45 (.mv (.t 6)), .a 4 (.mv (.t 45)), .a 5 (.mv (.c (.int .i64 0)))] [0, 6, 17, 18, 19, 20, 45] [])
  .ret)))))⟩
def owen_Groups.hint : R.Hint := { nil := [6], kill := [(0, [4, 5], []), (1, [12, 13, 14, 15], []), (2, [0, 1, 16], []), (3, [16], []), (4, [1], []), (6, [20, 21, 22], []), (7, [23], []), (10, [27, 28, 29, 30], []), (11, [10, 31, 32, 33, 34], []), (12, [11, 35, 36, 37, 38], [11]), (13, [11, 35, 39], [11]), (14, [8, 9, 24, 25, 26, 27, 40, 41, 42, 43], [9]), (15, [44], []), (16, [0, 6, 17, 18, 19, 20, 45], [])] }
theorem owen_Groups.ok : cFn Tryz.prog owen_Groups.hint Tryz.f44 = some owen_Groups := by kernel_rfl
def dendronlaw22_right.b0 : R.C := (.seq (.seq (.reg [] [.a 9 (.mv (.t 5)), .a 10 (.mv (.t 0)), .a 11 (.ln (.t 10)), .a 12 (.bin .lss (.t 9) (.t 11))] [9, 10, 11] [])
  (.cond (.t 12) .skip (.exit 0)))
  (.seq (.block 1 (.seq (.reg [] [.a 15 (.mv (.t 0)), .a 16 (.mv (.t 5)), .a 17 (.iA 1 (.t 15) (.t 16)), .a 18 (.ld 1 false (.t 17)), .a 19 (.bin .lss (.t 18) (.c (.int .i64 1))), .a 20 (.mv (.t 19)), .g 21 20 false (.mv (.t 0)), .g 22 20 false (.mv (.t 5)), .g 23 20 false (.iA 1 (.t 21) (.t 22)), .g 24 20 false (.ld 1 false (.t 23)), .g 25 20 false (.mv (.t 1)), .g 26 20 false (.call F.dendronlaw22_two [(.t 25)]), .g 27 20 false (.bin .geq (.t 24) (.t 26)), .a 28 (.pick (.t 20) (.c (.bool true)) (.t 27))] [12, 15, 16, 17, 18, 19, 20, 21, 22, 23, 24, 25, 26, 27] [])
  (.cond (.t 28) (.seq (.reg [] [.a 4 (.mv (.c (.bool false)))] [0, 1, 5, 28] [])
  .ret) .skip)))
  (.reg [] [.a 13 (.mv (.t 5)), .a 14 (.bin .add (.t 13) (.c (.int .i64 1))), .a 5 (.mv (.t 14))] [13, 14, 28] [])))
def dendronlaw22_right.b4 : R.C := (.seq (.seq (.reg [] [.a 34 (.mv (.t 8)), .a 35 (.mv (.t 0)), .a 36 (.ln (.t 35)), .a 37 (.bin .lss (.t 34) (.t 36))] [34, 35, 36] [])
  (.cond (.t 37) .skip (.exit 4)))
  (.seq (.block 5 (.seq (.reg [] [.a 40 (.mv (.t 0)), .a 41 (.mv (.t 8)), .a 42 (.iA 1 (.t 40) (.t 41)), .a 43 (.ld 1 false (.t 42)), .a 44 (.mv (.t 6)), .a 45 (.call F.dendronref19_In [(.t 43), (.t 44)])] [37, 40, 41, 42, 43, 44] [])
  (.cond (.t 45) (.reg [] [.a 46 (.mv (.t 7)), .a 47 (.bin .add (.t 46) (.c (.int .i64 1))), .a 7 (.mv (.t 47))] [45, 46, 47] []) .skip)))
  (.reg [] [.a 38 (.mv (.t 8)), .a 39 (.bin .add (.t 38) (.c (.int .i64 1))), .a 8 (.mv (.t 39))] [38, 39, 45] [])))
def dendronlaw22_right.b2 : R.C := (.seq (.seq (.reg [] [.a 29 (.mv (.t 6)), .a 30 (.mv (.t 1)), .a 31 (.bin .lss (.t 29) (.t 30))] [29, 30] [])
  (.cond (.t 31) .skip (.exit 2)))
  (.seq (.block 3 (.seq (.reg [] [.a 7 (.mv (.c (.int .i64 0)))] [31] [])
  (.seq (.seq (.reg [] [.a 8 (.mv (.c (.int .i64 0)))] [] [])
  (.block 4 (.loop [] [] dendronlaw22_right.b4)))
  (.seq (.reg [] [.a 48 (.mv (.t 7)), .a 49 (.bin .neq (.t 48) (.c (.int .i64 1)))] [7, 8, 37, 48] [])
  (.cond (.t 49) (.seq (.reg [] [.a 4 (.mv (.c (.bool false)))] [0, 1, 6, 49] [])
  .ret) .skip)))))
  (.reg [] [.a 32 (.mv (.t 6)), .a 33 (.bin .add (.t 32) (.c (.int .i64 1))), .a 6 (.mv (.t 33))] [32, 33, 49] [])))
def dendronlaw22_right : R.Fn := ⟨2, [(.t 4)], (.seq (.reg [] [.a 4 (.mv (.c (.bool false)))] [4] [])
  (.seq (.seq (.reg [] [.a 5 (.mv (.c (.int .i64 0)))] [] [])
  (.block 0 (.loop [] [] dendronlaw22_right.b0)))
  (.seq (.seq (.reg [] [.a 6 (.mv (.c (.int .i64 0)))] [5, 12] [])
  (.block 2 (.loop [] [] dendronlaw22_right.b2)))
  (.seq (.reg [] [.a 4 (.mv (.c (.bool true)))] [0, 1, 6, 31] [])
  .ret))))⟩
def dendronlaw22_right.hint : R.Hint := { kill := [(0, [4], []), (2, [9, 10, 11], []), (3, [13, 14, 28], []), (4, [12, 15, 16, 17, 18, 19, 20, 21, 22, 23, 24, 25, 26, 27], []), (5, [0, 1, 5, 28], []), (6, [5, 12], []), (7, [29, 30], []), (8, [32, 33, 49], []), (9, [31], []), (11, [34, 35, 36], []), (12, [38, 39, 45], []), (13, [37, 40, 41, 42, 43, 44], []), (14, [45, 46, 47], []), (15, [7, 8, 37, 48], []), (16, [0, 1, 6, 49], []), (17, [0, 1, 6, 31], [])] }
theorem dendronlaw22_right.ok : cFn Tryz.prog dendronlaw22_right.hint Tryz.f45 = some dendronlaw22_right := by kernel_rfl
def owen_Quotient.b0 : R.C := (.seq (.reg [] [.a 27 (.bin .lss (.t 26) (.t 25))] [] [])
  (.seq (.cond (.t 27) .skip (.exit 0))
  (.seq (.block 1 (.seq (.reg [] [.a 28 (.mv (.t 26)), .a 9 (.mv (.t 28))] [27, 28] [])
  (.reg [] [.a 29 (.mv (.t 8)), .a 30 (.mv (.t 0)), .a 31 (.mv (.t 1)), .a 32 (.mv (.t 9)), .a 33 (.call F.owen_merged [(.t 31), (.t 32)]), .a 34 (.iA 3 (.t 30) (.t 33)), .a 35 (.ld 3 true (.t 34)), .a 36 (.call F.ratio_Clean [(.t 35)]), .a 37 (.lit 3 1 [(.bool false), (.sl 1 []), (.sl 1 [])] [(0, 3, (.t 36))]), .a 38 (.app 3 56 (.t 29) (.t 37)), .a 8 (.mv (.t 38))] [9, 29, 30, 31, 32, 33, 34, 35, 36, 37, 38] [])))
  (.reg [] [.a 39 (.bin .add (.t 26) (.c (.int .i64 1))), .a 26 (.mv (.t 39))] [39] []))))
def owen_Quotient : R.Fn := ⟨2, [(.t 4), (.t 5)], (.seq (.reg [] [.a 4 (.mv (.c (.sl 3 []))), .a 5 (.mv (.c (.int .i64 0)))] [4, 5] [])
  (.seq (.reg [] [.a 11 (.mv (.t 0)), .a 12 (.call F.game_Players [(.t 11)]), .a 10 (.mv (.t 12)), .a 13 (.ext (.t 10) 0), .a 14 (.ext (.t 10) 1), .a 6 (.mv (.t 13)), .a 7 (.mv (.t 14))] [10, 11, 12, 13, 14] [])
  (.seq (.seq (.reg [] [.a 15 (.mv (.t 7)), .a 16 (.un .not (.t 15)), .a 17 (.mv (.t 16)), .g 18 17 false (.mv (.t 1)), .g 19 17 false (.mv (.t 6)), .g 20 17 false (.call F.owen_Right [(.t 18), (.t 19)]), .g 21 17 false (.un .not (.t 20)), .a 22 (.pick (.t 17) (.c (.bool true)) (.t 21))] [6, 7, 15, 16, 17, 18, 19, 20, 21] [])
  (.cond (.t 22) (.seq (.reg [] [.a 4 (.mv (.c (.sl 3 []))), .a 5 (.mv (.c (.int .i64 1)))] [0, 1, 22] [])
  .ret) .skip))
  (.seq (.reg [] [.a 8 (.nil 3)] [22] [])
  (.seq (.seq (.reg [] [.a 23 (.mv (.t 1)), .a 24 (.ln (.t 23)), .a 25 (.bin .shl (.c (.int .i64 1)) (.t 24)), .a 26 (.mv (.c (.int .i64 0)))] [23, 24] [])
  (.block 0 (.loop [] [] owen_Quotient.b0)))
  (.seq (.reg [] [.a 40 (.mv (.t 8)), .a 4 (.mv (.t 40)), .a 5 (.mv (.c (.int .i64 0)))] [0, 1, 8, 25, 26, 27, 40] [])
  .ret))))))⟩
def owen_Quotient.hint : R.Hint := { nil := [8], kill := [(0, [4, 5], []), (1, [10, 11, 12, 13, 14], []), (2, [6, 7, 15, 16, 17, 18, 19, 20, 21], []), (3, [0, 1, 22], []), (4, [22], []), (5, [23, 24], []), (7, [27, 28], []), (8, [9, 29, 30, 31, 32, 33, 34, 35, 36, 37, 38], []), (9, [39], []), (10, [0, 1, 8, 25, 26, 27, 40], [])] }
theorem owen_Quotient.ok : cFn Tryz.prog owen_Quotient.hint Tryz.f46 = some owen_Quotient := by kernel_rfl
def orders_All.b0 : R.C := (.seq (.seq (.reg [] [.a 15 (.mv (.t 6))] [6] [])
  (.cond (.t 15) .skip (.exit 0)))
  (.block 1 (.seq (.reg [] [.a 16 (.mv (.t 4)), .a 17 (.mv (.t 5)), .a 18 (.lit 1 1 [(.sl 1 [])] [(0, 1, (.t 17))]), .a 19 (.app 1 24 (.t 16) (.t 18)), .a 4 (.mv (.t 19))] [15, 16, 17, 18, 19] [])
  (.reg [] [.a 21 (.mv (.t 5)), .a 22 (.call F.orders_Next [(.t 21)]), .a 20 (.mv (.t 22)), .a 23 (.ext (.t 20) 0), .a 24 (.ext (.t 20) 1), .a 5 (.mv (.t 23)), .a 6 (.mv (.t 24))] [20, 21, 22, 23, 24] []))))
def orders_All : R.Fn := ⟨1, [(.t 2), (.t 3)], (.seq (.reg [] [.a 2 (.mv (.c (.sl 1 []))), .a 3 (.mv (.c (.int .i64 0)))] [2, 3] [])
  (.seq (.seq (.reg [] [.a 7 (.mv (.t 0)), .a 8 (.bin .lss (.t 7) (.c (.int .i64 0))), .a 9 (.mv (.t 8)), .g 10 9 false (.mv (.t 0)), .g 11 9 false (.bin .gtr (.t 10) (.c (.int .i64 7))), .a 12 (.pick (.t 9) (.c (.bool true)) (.t 11))] [7, 8, 9, 10, 11] [])
  (.cond (.t 12) (.seq (.reg [] [.a 2 (.mv (.c (.sl 1 []))), .a 3 (.mv (.c (.int .i64 16)))] [0, 12] [])
  .ret) .skip))
  (.seq (.reg [] [.a 4 (.nil 1)] [12] [])
  (.seq (.reg [] [.a 13 (.mv (.t 0)), .a 14 (.call F.orders_First [(.t 13)]), .a 5 (.mv (.t 14)), .a 6 (.mv (.c (.bool true)))] [0, 13, 14] [])
  (.seq (.block 0 (.loop [] [] orders_All.b0))
  (.seq (.reg [] [.a 25 (.mv (.t 4)), .a 2 (.mv (.t 25)), .a 3 (.mv (.c (.int .i64 0)))] [4, 5, 15, 25] [])
  .ret))))))⟩
def orders_All.hint : R.Hint := { nil := [4], kill := [(0, [2, 3], []), (1, [7, 8, 9, 10, 11], []), (2, [0, 12], []), (3, [12], []), (4, [0, 13, 14], []), (5, [6], []), (6, [15, 16, 17, 18, 19], []), (7, [20, 21, 22, 23, 24], []), (8, [4, 5, 15, 25], [])] }
theorem orders_All.ok : cFn Tryz.prog orders_All.hint Tryz.f47 = some orders_All := by kernel_rfl
def dendronlaw22_together.b2 : R.C := (.seq (.seq (.reg [] [.a 16 (.mv (.t 9)), .a 17 (.mv (.t 0)), .a 18 (.ln (.t 17)), .a 19 (.bin .lss (.t 16) (.t 18))] [16, 17, 18] [])
  (.cond (.t 19) .skip (.exit 2)))
  (.seq (.block 3 (.seq (.reg [] [.a 22 (.mv (.t 1)), .a 23 (.mv (.t 5)), .a 24 (.iA 1 (.t 22) (.t 23)), .a 25 (.ld 1 false (.t 24)), .a 26 (.mv (.t 0)), .a 27 (.mv (.t 9)), .a 28 (.iA 1 (.t 26) (.t 27)), .a 29 (.ld 1 false (.t 28)), .a 30 (.call F.dendronref19_In [(.t 25), (.t 29)])] [19, 22, 23, 24, 25, 26, 27, 28, 29] [])
  (.cond (.t 30) (.seq (.seq (.reg [] [.a 31 (.mv (.t 6)), .a 32 (.bin .lss (.t 31) (.c (.int .i64 0)))] [7, 30, 31] [])
  (.cond (.t 32) (.reg [] [.a 33 (.mv (.t 9)), .a 6 (.mv (.t 33))] [32, 33] []) .skip))
  (.seq (.reg [] [.a 34 (.mv (.t 9)), .a 7 (.mv (.t 34))] [32, 34] [])
  (.reg [] [.a 35 (.mv (.t 8)), .a 36 (.bin .add (.t 35) (.c (.int .i64 1))), .a 8 (.mv (.t 36))] [35, 36] []))) .skip)))
  (.reg [] [.a 20 (.mv (.t 9)), .a 21 (.bin .add (.t 20) (.c (.int .i64 1))), .a 9 (.mv (.t 21))] [20, 21, 30] [])))
def dendronlaw22_together.b0 : R.C := (.seq (.seq (.reg [] [.a 10 (.mv (.t 5)), .a 11 (.mv (.t 1)), .a 12 (.ln (.t 11)), .a 13 (.bin .lss (.t 10) (.t 12))] [10, 11, 12] [])
  (.cond (.t 13) .skip (.exit 0)))
  (.seq (.block 1 (.seq (.reg [] [.a 6 (.mv (.c (.int .i64 (-1)))), .a 7 (.mv (.c (.int .i64 (-1)))), .a 8 (.mv (.c (.int .i64 0)))] [13] [])
  (.seq (.seq (.reg [] [.a 9 (.mv (.c (.int .i64 0)))] [] [])
  (.block 2 (.loop [] [] dendronlaw22_together.b2)))
  (.seq (.reg [] [.a 37 (.mv (.t 7)), .a 38 (.mv (.t 6)), .a 39 (.bin .sub (.t 37) (.t 38)), .a 40 (.bin .add (.t 39) (.c (.int .i64 1))), .a 41 (.mv (.t 8)), .a 42 (.bin .neq (.t 40) (.t 41))] [6, 7, 8, 9, 19, 37, 38, 39, 40, 41] [])
  (.cond (.t 42) (.seq (.reg [] [.a 4 (.mv (.c (.bool false)))] [0, 1, 5, 42] [])
  .ret) .skip)))))
  (.reg [] [.a 14 (.mv (.t 5)), .a 15 (.bin .add (.t 14) (.c (.int .i64 1))), .a 5 (.mv (.t 15))] [14, 15, 42] [])))
def dendronlaw22_together : R.Fn := ⟨2, [(.t 4)], (.seq (.reg [] [.a 4 (.mv (.c (.bool false)))] [4] [])
  (.seq (.seq (.reg [] [.a 5 (.mv (.c (.int .i64 0)))] [] [])
  (.block 0 (.loop [] [] dendronlaw22_together.b0)))
  (.seq (.reg [] [.a 4 (.mv (.c (.bool true)))] [0, 1, 5, 13] [])
  .ret)))⟩
def dendronlaw22_together.hint : R.Hint := { kill := [(0, [4], []), (2, [10, 11, 12], []), (3, [14, 15, 42], []), (4, [13], []), (6, [16, 17, 18], []), (7, [20, 21, 30], []), (8, [19, 22, 23, 24, 25, 26, 27, 28, 29], []), (9, [7, 30, 31], []), (10, [32, 33], []), (11, [32, 34], []), (12, [35, 36], []), (13, [6, 7, 8, 9, 19, 37, 38, 39, 40, 41], []), (14, [0, 1, 5, 42], []), (15, [0, 1, 5, 13], [])] }
theorem dendronlaw22_together.ok : cFn Tryz.prog dendronlaw22_together.hint Tryz.f48 = some dendronlaw22_together := by kernel_rfl
def orders_Mean.b0 : R.C := (.seq (.reg [] [.a 29 (.bin .lss (.t 28) (.t 27))] [] [])
  (.seq (.cond (.t 29) .skip (.exit 0))
  (.seq (.block 1 (.seq (.reg [] [.a 30 (.mv (.t 28)), .a 9 (.mv (.t 30))] [29, 30] [])
  (.reg [] [.a 31 (.mv (.t 8)), .a 32 (.mv (.t 9)), .a 33 (.call F.ratio_Zero []), .a 34 (.iA 3 (.t 31) (.t 32)), .n (.st 3 (.t 34) (.t 33))] [9, 31, 32, 33, 34] [])))
  (.reg [] [.a 35 (.bin .add (.t 28) (.c (.int .i64 1))), .a 28 (.mv (.t 35))] [35] []))))
def orders_Mean.b4 : R.C := (.seq (.reg [] [.a 54 (.bin .lss (.t 53) (.t 52))] [] [])
  (.seq (.cond (.t 54) .skip (.exit 4))
  (.seq (.block 5 (.seq (.reg [] [.a 55 (.mv (.t 53)), .a 56 (.iA 3 (.t 51) (.t 53)), .a 57 (.ld 3 true (.t 56)), .a 15 (.new [(.bool false), (.sl 1 []), (.sl 1 [])]), .a 14 (.mv (.t 55)), .n (.st 3 (.t 15) (.t 57))] [54, 55, 56, 57] [])
  (.reg [] [.a 58 (.mv (.t 8)), .a 59 (.mv (.t 14)), .a 60 (.mv (.t 8)), .a 61 (.mv (.t 14)), .a 62 (.iA 3 (.t 60) (.t 61)), .a 63 (.ld 3 true (.t 62)), .a 64 (.ld 3 true (.t 15)), .a 65 (.call F.ratio_Add [(.t 63), (.t 64)]), .a 66 (.iA 3 (.t 58) (.t 59)), .n (.st 3 (.t 66) (.t 65))] [14, 15, 58, 59, 60, 61, 62, 63, 64, 65, 66] [15])))
  (.reg [] [.a 67 (.bin .add (.t 53) (.c (.int .i64 1))), .a 53 (.mv (.t 67))] [67] []))))
def orders_Mean.b2 : R.C := (.seq (.reg [] [.a 39 (.bin .lss (.t 38) (.t 37))] [] [])
  (.seq (.cond (.t 39) .skip (.exit 2))
  (.seq (.block 3 (.seq (.reg [] [.a 40 (.iA 1 (.t 36) (.t 38)), .a 41 (.ld 1 false (.t 40)), .a 11 (.mv (.t 41))] [39, 40, 41] [])
  (.seq (.reg [] [.a 43 (.mv (.t 0)), .a 44 (.mv (.t 11)), .a 45 (.call F.orders_Adds [(.t 43), (.t 44)]), .a 42 (.mv (.t 45)), .a 46 (.ext (.t 42) 0), .a 47 (.ext (.t 42) 1), .a 12 (.mv (.t 46)), .a 13 (.mv (.t 47))] [11, 42, 43, 44, 45, 46, 47] [])
  (.seq (.seq (.reg [] [.a 48 (.mv (.t 13)), .a 49 (.bin .neq (.t 48) (.c (.int .i64 0)))] [48] [])
  (.cond (.t 49) (.seq (.reg [] [.a 50 (.mv (.t 13)), .a 4 (.mv (.c (.sl 3 []))), .a 5 (.mv (.t 50))] [0, 1, 8, 12, 13, 36, 37, 38, 49, 50] [])
  .ret) .skip))
  (.seq (.reg [] [.a 51 (.mv (.t 12)), .a 52 (.ln (.t 51)), .a 53 (.mv (.c (.int .i64 0)))] [12, 13, 49] [])
  (.block 4 (.loop [] [] orders_Mean.b4)))))))
  (.reg [] [.a 68 (.bin .add (.t 38) (.c (.int .i64 1))), .a 38 (.mv (.t 68))] [51, 52, 53, 54, 68] []))))
def orders_Mean.b6 : R.C := (.seq (.reg [] [.a 75 (.bin .lss (.t 74) (.t 73))] [] [])
  (.seq (.cond (.t 75) .skip (.exit 6))
  (.seq (.block 7 (.seq (.reg [] [.a 76 (.mv (.t 74)), .a 16 (.mv (.t 76))] [75, 76] [])
  (.reg [] [.a 77 (.mv (.t 8)), .a 78 (.mv (.t 16)), .a 79 (.mv (.t 8)), .a 80 (.mv (.t 16)), .a 81 (.iA 3 (.t 79) (.t 80)), .a 82 (.ld 3 true (.t 81)), .a 83 (.mv (.t 1)), .a 84 (.ln (.t 83)), .a 85 (.call F.ratio_Frac [(.c (.int .i64 1)), (.t 84)]), .a 86 (.call F.ratio_Mul [(.t 82), (.t 85)]), .a 87 (.iA 3 (.t 77) (.t 78)), .n (.st 3 (.t 87) (.t 86))] [16, 77, 78, 79, 80, 81, 82, 83, 84, 85, 86, 87] [])))
  (.reg [] [.a 88 (.bin .add (.t 74) (.c (.int .i64 1))), .a 74 (.mv (.t 88))] [88] []))))
def orders_Mean : R.Fn := ⟨2, [(.t 4), (.t 5)], (.seq (.reg [] [.a 4 (.mv (.c (.sl 3 []))), .a 5 (.mv (.c (.int .i64 0)))] [4, 5] [])
  (.seq (.reg [] [.a 18 (.mv (.t 0)), .a 19 (.call F.game_Players [(.t 18)]), .a 17 (.mv (.t 19)), .a 20 (.ext (.t 17) 0), .a 21 (.ext (.t 17) 1), .a 6 (.mv (.t 20)), .a 7 (.mv (.t 21))] [17, 18, 19, 20, 21] [])
  (.seq (.seq (.reg [] [.a 22 (.mv (.t 7)), .a 23 (.un .not (.t 22))] [7, 22] [])
  (.cond (.t 23) (.seq (.reg [] [.a 4 (.mv (.c (.sl 3 []))), .a 5 (.mv (.c (.int .i64 1)))] [0, 1, 6, 23] [])
  .ret) .skip))
  (.seq (.reg [] [.a 24 (.mv (.t 6)), .a 25 (.mk 3 56 [(.bool false), (.sl 1 []), (.sl 1 [])] (.t 24) (.t 24)), .a 8 (.mv (.t 25))] [6, 23, 24, 25] [])
  (.seq (.seq (.reg [] [.a 26 (.mv (.t 8)), .a 27 (.ln (.t 26)), .a 28 (.mv (.c (.int .i64 0)))] [26] [])
  (.block 0 (.loop [] [] orders_Mean.b0)))
  (.seq (.seq (.reg [] [.a 36 (.mv (.t 1)), .a 37 (.ln (.t 36)), .a 38 (.mv (.c (.int .i64 0)))] [27, 28, 29] [])
  (.block 2 (.loop [] [] orders_Mean.b2)))
  (.seq (.seq (.reg [] [.a 69 (.mv (.t 1)), .a 70 (.ln (.t 69)), .a 71 (.bin .eql (.t 70) (.c (.int .i64 0)))] [0, 36, 37, 38, 39, 69, 70] [])
  (.cond (.t 71) (.seq (.reg [] [.a 4 (.mv (.c (.sl 3 []))), .a 5 (.mv (.c (.int .i64 15)))] [1, 8, 71] [])
  .ret) .skip))
  (.seq (.seq (.reg [] [.a 72 (.mv (.t 8)), .a 73 (.ln (.t 72)), .a 74 (.mv (.c (.int .i64 0)))] [71, 72] [])
  (.block 6 (.loop [] [] orders_Mean.b6)))
  (.seq (.reg [] [.a 89 (.mv (.t 8)), .a 4 (.mv (.t 89)), .a 5 (.mv (.c (.int .i64 0)))] [1, 8, 73, 74, 75, 89] [])
  .ret)))))))))⟩
def orders_Mean.hint : R.Hint := { kill := [(0, [4, 5], []), (1, [17, 18, 19, 20, 21], []), (2, [7, 22], []), (3, [0, 1, 6, 23], []), (4, [6, 23, 24, 25], []), (5, [26], []), (7, [29, 30], []), (8, [9, 31, 32, 33, 34], []), (9, [35], []), (10, [27, 28, 29], []), (12, [39, 40, 41], []), (13, [11, 42, 43, 44, 45, 46, 47], []), (14, [48], []), (15, [0, 1, 8, 12, 13, 36, 37, 38, 49, 50], []), (16, [12, 13, 49], []), (18, [54, 55, 56, 57], []), (19, [14, 15, 58, 59, 60, 61, 62, 63, 64, 65, 66], [15]), (20, [67], []), (21, [51, 52, 53, 54, 68], []), (22, [0, 36, 37, 38, 39, 69, 70], []), (23, [1, 8, 71], []), (24, [71, 72], []), (26, [75, 76], []), (27, [16, 77, 78, 79, 80, 81, 82, 83, 84, 85, 86, 87], []), (28, [88], []), (29, [1, 8, 73, 74, 75, 89], [])] }
theorem orders_Mean.ok : cFn Tryz.prog orders_Mean.hint Tryz.f49 = some orders_Mean := by kernel_rfl
def orders_Values : R.Fn := ⟨1, [(.t 2), (.t 3)], (.seq (.reg [] [.a 2 (.mv (.c (.sl 3 []))), .a 3 (.mv (.c (.int .i64 0)))] [2, 3] [])
  (.seq (.reg [] [.a 9 (.mv (.t 0)), .a 10 (.call F.game_Players [(.t 9)]), .a 8 (.mv (.t 10)), .a 11 (.ext (.t 8) 0), .a 12 (.ext (.t 8) 1), .a 4 (.mv (.t 11)), .a 5 (.mv (.t 12))] [8, 9, 10, 11, 12] [])
  (.seq (.seq (.reg [] [.a 13 (.mv (.t 5)), .a 14 (.un .not (.t 13))] [5, 13] [])
  (.cond (.t 14) (.seq (.reg [] [.a 2 (.mv (.c (.sl 3 []))), .a 3 (.mv (.c (.int .i64 1)))] [0, 4, 14] [])
  .ret) .skip))
  (.seq (.reg [] [.a 16 (.mv (.t 4)), .a 17 (.call F.orders_All [(.t 16)]), .a 15 (.mv (.t 17)), .a 18 (.ext (.t 15) 0), .a 19 (.ext (.t 15) 1), .a 6 (.mv (.t 18)), .a 7 (.mv (.t 19))] [4, 14, 15, 16, 17, 18, 19] [])
  (.seq (.seq (.reg [] [.a 20 (.mv (.t 7)), .a 21 (.bin .neq (.t 20) (.c (.int .i64 0)))] [20] [])
  (.cond (.t 21) (.seq (.reg [] [.a 22 (.mv (.t 7)), .a 2 (.mv (.c (.sl 3 []))), .a 3 (.mv (.t 22))] [0, 6, 7, 21, 22] [])
  .ret) .skip))
  (.seq (.reg [] [.a 23 (.mv (.t 0)), .a 24 (.mv (.t 6)), .a 25 (.call F.orders_Mean [(.t 23), (.t 24)]), .a 26 (.ext (.t 25) 0), .a 27 (.ext (.t 25) 1), .a 2 (.mv (.t 26)), .a 3 (.mv (.t 27))] [0, 6, 7, 21, 23, 24, 25, 26, 27] [])
  .ret))))))⟩
def orders_Values.hint : R.Hint := { kill := [(0, [2, 3], []), (1, [8, 9, 10, 11, 12], []), (2, [5, 13], []), (3, [0, 4, 14], []), (4, [4, 14, 15, 16, 17, 18, 19], []), (5, [20], []), (6, [0, 6, 7, 21, 22], []), (7, [0, 6, 7, 21, 23, 24, 25, 26, 27], [])] }
theorem orders_Values.ok : cFn Tryz.prog orders_Values.hint Tryz.f50 = some orders_Values := by kernel_rfl
def dendronlaw21_awake : R.Fn := ⟨0, [(.t 0)], (.seq (.reg [] [.a 0 (.mv (.c (.bool false)))] [0] [])
  (.seq (.reg [] [.a 4 (.lit 1 3 [(.int .i64 0), (.int .i64 0), (.int .i64 0)] [(0, 1, (.c (.int .i64 0))), (1, 1, (.c (.int .i64 2))), (2, 1, (.c (.int .i64 1)))]), .a 5 (.call F.orders_Next [(.t 4)]), .a 3 (.mv (.t 5)), .a 6 (.ext (.t 3) 0), .a 7 (.ext (.t 3) 1), .a 1 (.mv (.t 6)), .a 2 (.mv (.t 7))] [3, 4, 5, 6, 7] [])
  (.seq (.reg [] [.a 8 (.mv (.t 2)), .a 9 (.mv (.t 8)), .g 10 9 true (.mv (.t 1)), .g 11 9 true (.lit 1 3 [(.int .i64 0), (.int .i64 0), (.int .i64 0)] [(0, 1, (.c (.int .i64 1))), (1, 1, (.c (.int .i64 0))), (2, 1, (.c (.int .i64 2)))]), .g 12 9 true (.call F.dendronlaw21_same [(.t 10), (.t 11)]), .a 13 (.pick (.t 9) (.t 12) (.c (.bool false))), .a 14 (.mv (.t 13)), .a 15 (.pick (.t 14) (.c (.bool true)) (.c (.bool false))), .a 0 (.mv (.t 15))] [1, 2, 8, 9, 10, 11, 12, 13, 14, 15] [])
  .ret)))⟩
def dendronlaw21_awake.hint : R.Hint := { kill := [(0, [0], []), (1, [3, 4, 5, 6, 7], []), (2, [1, 2, 8, 9, 10, 11, 12, 13, 14, 15], [])] }
theorem dendronlaw21_awake.ok : cFn Tryz.prog dendronlaw21_awake.hint Tryz.f51 = some dendronlaw21_awake := by kernel_rfl
def dendronlaw19_number : R.Fn := ⟨1, [(.cell 2 3 true)], (.seq (.reg [] [.a 1 (.box (.t 0)), .a 2 (.new [(.bool false), (.sl 1 []), (.sl 1 [])])] [0] [])
  (.seq (.seq (.reg [] [.a 3 (.fA 0 (.t 1)), .a 4 (.fA 1 (.t 3)), .a 5 (.ld 1 false (.t 4)), .a 6 (.ln (.t 5)), .a 7 (.bin .gtr (.t 6) (.c (.int .i64 2)))] [3, 4, 5, 6] [])
  (.cond (.t 7) (.reg [] [.a 8 (.fA 0 (.t 1)), .a 9 (.fA 1 (.t 8)), .a 10 (.ld 1 false (.t 9)), .a 11 (.slc 1 (.t 10) none (some (.c (.int .i64 2)))), .a 12 (.fA 0 (.t 1)), .a 13 (.fA 1 (.t 12)), .n (.st 1 (.t 13) (.t 11))] [7, 8, 9, 10, 11, 12, 13] []) .skip))
  (.seq (.seq (.reg [] [.a 14 (.fA 2 (.t 1)), .a 15 (.ld 1 false (.t 14)), .a 16 (.ln (.t 15)), .a 17 (.bin .gtr (.t 16) (.c (.int .i64 2)))] [7, 14, 15, 16] [])
  (.cond (.t 17) (.reg [] [.a 18 (.fA 2 (.t 1)), .a 19 (.ld 1 false (.t 18)), .a 20 (.slc 1 (.t 19) none (some (.c (.int .i64 2)))), .a 21 (.fA 2 (.t 1)), .n (.st 1 (.t 21) (.t 20))] [17, 18, 19, 20, 21] []) .skip))
  (.seq (.reg [] [.a 22 (.ld 3 true (.t 1)), .n (.st 3 (.t 2) (.t 22))] [1, 17, 22] [1])
  .ret))))⟩
def dendronlaw19_number.hint : R.Hint := { kill := [(0, [0], []), (1, [3, 4, 5, 6], []), (2, [7, 8, 9, 10, 11, 12, 13], []), (3, [7, 14, 15, 16], []), (4, [17, 18, 19, 20, 21], []), (5, [1, 17, 22], [1])] }
theorem dendronlaw19_number.ok : cFn Tryz.prog dendronlaw19_number.hint Tryz.f52 = some dendronlaw19_number := by kernel_rfl
def game_Players : R.Fn := ⟨1, [(.t 2), (.t 3)], (.seq (.reg [] [.a 2 (.mv (.c (.int .i64 0))), .a 3 (.mv (.c (.bool false)))] [2, 3] [])
  (.seq (.reg [] [.a 5 (.mv (.t 0)), .a 6 (.ln (.t 5)), .a 7 (.conv .u64 (.t 6)), .a 8 (.call F.bits_Len [(.t 7)]), .a 9 (.bin .sub (.t 8) (.c (.int .i64 1))), .a 4 (.mv (.t 9))] [5, 6, 7, 8, 9] [])
  (.seq (.seq (.reg [] [.a 10 (.mv (.t 0)), .a 11 (.ln (.t 10)), .a 12 (.bin .eql (.t 11) (.c (.int .i64 0))), .a 13 (.mv (.t 12)), .g 14 13 false (.mv (.t 0)), .g 15 13 false (.ln (.t 14)), .g 16 13 false (.mv (.t 4)), .g 17 13 false (.bin .shl (.c (.int .i64 1)) (.t 16)), .g 18 13 false (.bin .neq (.t 15) (.t 17)), .a 19 (.pick (.t 13) (.c (.bool true)) (.t 18)), .a 20 (.mv (.t 19)), .g 21 20 false (.mv (.t 4)), .g 22 20 false (.bin .gtr (.t 21) (.c (.int .i64 12))), .a 23 (.pick (.t 20) (.c (.bool true)) (.t 22))] [0, 10, 11, 12, 13, 14, 15, 16, 17, 18, 19, 20, 21, 22] [])
  (.cond (.t 23) (.seq (.reg [] [.a 2 (.mv (.c (.int .i64 0))), .a 3 (.mv (.c (.bool false)))] [4, 23] [])
  .ret) .skip))
  (.seq (.reg [] [.a 24 (.mv (.t 4)), .a 2 (.mv (.t 24)), .a 3 (.mv (.c (.bool true)))] [4, 23, 24] [])
  .ret))))⟩
def game_Players.hint : R.Hint := { kill := [(0, [2, 3], []), (1, [5, 6, 7, 8, 9], []), (2, [0, 10, 11, 12, 13, 14, 15, 16, 17, 18, 19, 20, 21, 22], []), (3, [4, 23], []), (4, [4, 23, 24], [])] }
theorem game_Players.ok : cFn Tryz.prog game_Players.hint Tryz.f53 = some game_Players := by kernel_rfl
def dendron_weigh_Table_All.b0 : R.C := (.seq (.reg [] [.a 20 (.bin .lss (.t 19) (.t 18))] [] [])
  (.seq (.cond (.t 20) .skip (.exit 0))
  (.seq (.block 1 (.seq (.reg [] [.a 21 (.mv (.t 19)), .a 7 (.mv (.t 21))] [20, 21] [])
  (.seq (.reg [] [.a 23 (.mv (.t 0)), .a 24 (.mv (.t 7)), .a 25 (.mv (.t 1)), .a 26 (.callk F.dendron_weigh_Table_Weight [(true, (.t 23)), (false, (.t 24)), (false, (.t 25))]), .a 22 (.mv (.t 26)), .a 27 (.ext (.t 22) 0), .a 28 (.ext (.t 22) 1), .a 8 (.new [(.bool false), (.sl 1 []), (.sl 1 [])]), .n (.st 3 (.t 8) (.t 27)), .a 9 (.mv (.t 28))] [7, 9, 22, 23, 24, 25, 26, 27, 28] [26, 1026, 2026, 3026])
  (.reg [] [.a 29 (.mv (.t 6)), .a 30 (.ld 3 true (.t 8)), .a 31 (.lit 3 1 [(.bool false), (.sl 1 []), (.sl 1 [])] [(0, 3, (.t 30))]), .a 32 (.app 3 56 (.t 29) (.t 31)), .a 6 (.mv (.t 32))] [8, 29, 30, 31, 32] [8]))))
  (.reg [] [.a 33 (.bin .add (.t 19) (.c (.int .i64 1))), .a 19 (.mv (.t 33))] [33] []))))
def dendron_weigh_Table_All : R.Fn := ⟨2, [(.t 4), (.t 5)], (.seq (.reg [] [.a 4 (.mv (.c (.sl 3 []))), .a 5 (.mv (.c (.int .i64 0)))] [4, 5] [])
  (.seq (.seq (.reg [] [.a 10 (.mv (.t 0)), .a 11 (.pnil false (.t 10))] [10] [])
  (.cond (.t 11) (.seq (.reg [] [.a 4 (.mv (.c (.sl 3 []))), .a 5 (.mv (.c (.int .i64 18)))] [0, 1, 11] [])
  .ret) .skip))
  (.seq (.seq (.reg [] [.a 12 (.mv (.t 1)), .a 13 (.bin .lss (.t 12) (.c (.int .i64 1))), .a 14 (.mv (.t 13)), .g 15 14 false (.mv (.t 1)), .g 16 14 false (.bin .gtr (.t 15) (.c (.int .i64 64))), .a 17 (.pick (.t 14) (.c (.bool true)) (.t 16))] [11, 12, 13, 14, 15, 16] [])
  (.cond (.t 17) (.seq (.reg [] [.a 4 (.mv (.c (.sl 3 []))), .a 5 (.mv (.c (.int .i64 8)))] [0, 1, 17] [])
  .ret) .skip))
  (.seq (.reg [] [.a 6 (.nil 3)] [17] [])
  (.seq (.seq (.reg [] [.a 18 (.mv (.t 1)), .a 19 (.mv (.c (.int .i64 0)))] [] [])
  (.block 0 (.loop [] [] dendron_weigh_Table_All.b0)))
  (.seq (.reg [] [.a 34 (.mv (.t 6)), .a 4 (.mv (.t 34)), .a 5 (.mv (.c (.int .i64 0)))] [0, 1, 6, 18, 19, 20, 34] [])
  .ret))))))⟩
def dendron_weigh_Table_All.hint : R.Hint := { nil := [6], callk := [(26, [true, false, false])], kill := [(0, [4, 5], []), (1, [10], []), (2, [0, 1, 11], []), (3, [11, 12, 13, 14, 15, 16], []), (4, [0, 1, 17], []), (5, [17], []), (8, [20, 21], []), (9, [7, 9, 22, 23, 24, 25, 26, 27, 28], [26, 1026, 2026, 3026]), (10, [8, 29, 30, 31, 32], [8]), (11, [33], []), (12, [0, 1, 6, 18, 19, 20, 34], [])] }
theorem dendron_weigh_Table_All.ok : cFn Tryz.prog dendron_weigh_Table_All.hint Tryz.f54 = some dendron_weigh_Table_All := by kernel_rfl
def bits_OnesCount : R.Fn := ⟨1, [(.t 2)], (.seq (.reg [] [.a 2 (.mv (.c (.int .i64 0)))] [2] [])
  (.seq (.cond (.c (.bool false)) (.seq (.reg [] [.a 3 (.mv (.t 0)), .a 4 (.conv .u32 (.t 3)), .a 5 (.call F.bits_OnesCount32 [(.t 4)]), .a 2 (.mv (.t 5))] [0, 3, 4, 5] [])
  .ret) .skip)
  (.seq (.reg [] [.a 6 (.mv (.t 0)), .a 7 (.call F.bits_OnesCount64 [(.t 6)]), .a 2 (.mv (.t 7))] [0, 6, 7] [])
  .ret)))⟩
def bits_OnesCount.hint : R.Hint := { kill := [(0, [2], []), (1, [0, 3, 4, 5], []), (2, [0, 6, 7], [])] }
theorem bits_OnesCount.ok : cFn Tryz.prog bits_OnesCount.hint Tryz.f55 = some bits_OnesCount := by kernel_rfl
def ratio_Of : R.Fn := ⟨1, [(.cell 2 3 true)], (.seq (.reg [] [.a 2 (.new [(.bool false), (.sl 1 []), (.sl 1 [])])] [] [])
  (.seq (.reg [] [.a 3 (.mv (.t 0)), .a 4 (.call F.whole_Of [(.t 3)]), .a 5 (.call F.nat_Of [(.c (.int .u64 1))]), .a 6 (.bld [(.bool false), (.sl 1 []), (.sl 1 [])] [(0, 2, (.t 4)), (2, 1, (.t 5))]), .n (.st 3 (.t 2) (.t 6))] [0, 3, 4, 5, 6] [])
  .ret))⟩
def ratio_Of.hint : R.Hint := { kill := [(1, [0, 3, 4, 5, 6], [])] }
theorem ratio_Of.ok : cFn Tryz.prog ratio_Of.hint Tryz.f56 = some ratio_Of := by kernel_rfl
def ratio_Neg : R.Fn := ⟨1, [(.cell 2 3 true)], (.seq (.reg [] [.a 1 (.box (.t 0)), .a 2 (.new [(.bool false), (.sl 1 []), (.sl 1 [])])] [0] [])
  (.seq (.reg [] [.a 3 (.ld 3 true (.t 1)), .a 4 (.call F.ratio_Clean [(.t 3)]), .n (.st 3 (.t 1) (.t 4))] [3, 4] [])
  (.seq (.reg [] [.a 5 (.fA 0 (.t 1)), .a 6 (.ld 2 true (.t 5)), .a 7 (.call F.whole_Neg [(.t 6)]), .a 8 (.fA 0 (.t 1)), .n (.st 2 (.t 8) (.t 7))] [5, 6, 7, 8] [])
  (.seq (.reg [] [.a 9 (.ld 3 true (.t 1)), .n (.st 3 (.t 2) (.t 9))] [1, 9] [1])
  .ret))))⟩
def ratio_Neg.hint : R.Hint := { kill := [(0, [0], []), (1, [3, 4], []), (2, [5, 6, 7, 8], []), (3, [1, 9], [1])] }
theorem ratio_Neg.ok : cFn Tryz.prog ratio_Neg.hint Tryz.f57 = some ratio_Neg := by kernel_rfl
def dendronref10_Is : R.Fn := ⟨2, [(.t 4)], (.seq (.reg [] [.a 2 (.box (.t 0)), .a 3 (.box (.t 1)), .a 4 (.mv (.c (.bool false)))] [0, 1, 4] [])
  (.seq (.reg [] [.a 5 (.ld 3 true (.t 2)), .a 6 (.ld 3 true (.t 3)), .a 7 (.call F.dendronref03_From [(.t 6)]), .a 8 (.call F.dendronref03_Is [(.t 5), (.t 7)]), .a 4 (.mv (.t 8))] [2, 3, 5, 6, 7, 8] [2, 3])
  .ret))⟩
def dendronref10_Is.hint : R.Hint := { kill := [(0, [0, 1, 4], []), (1, [2, 3, 5, 6, 7, 8], [2, 3])] }
theorem dendronref10_Is.ok : cFn Tryz.prog dendronref10_Is.hint Tryz.f58 = some dendronref10_Is := by kernel_rfl
def dendronlaw15_two.b0 : R.C := (.seq (.seq (.reg [] [.a 5 (.mv (.t 4)), .a 6 (.mv (.t 0)), .a 7 (.bin .lss (.t 5) (.t 6))] [5, 6] [])
  (.cond (.t 7) .skip (.exit 0)))
  (.seq (.block 1 (.reg [] [.a 10 (.mv (.t 3)), .a 11 (.bin .mul (.c (.int .i64 2)) (.t 10)), .a 3 (.mv (.t 11))] [7, 10, 11] []))
  (.reg [] [.a 8 (.mv (.t 4)), .a 9 (.bin .add (.t 8) (.c (.int .i64 1))), .a 4 (.mv (.t 9))] [8, 9] [])))
def dendronlaw15_two : R.Fn := ⟨1, [(.t 2)], (.seq (.reg [] [.a 2 (.mv (.c (.int .i64 0)))] [2] [])
  (.seq (.reg [] [.a 3 (.mv (.c (.int .i64 1)))] [] [])
  (.seq (.seq (.reg [] [.a 4 (.mv (.c (.int .i64 0)))] [] [])
  (.block 0 (.loop [] [] dendronlaw15_two.b0)))
  (.seq (.reg [] [.a 12 (.mv (.t 3)), .a 2 (.mv (.t 12))] [0, 3, 4, 7, 12] [])
  .ret))))⟩
def dendronlaw15_two.hint : R.Hint := { kill := [(0, [2], []), (3, [5, 6], []), (4, [8, 9], []), (5, [7, 10, 11], []), (6, [0, 3, 4, 7, 12], [])] }
theorem dendronlaw15_two.ok : cFn Tryz.prog dendronlaw15_two.hint Tryz.f59 = some dendronlaw15_two := by kernel_rfl
def dendronlaw15_in.b0 : R.C := (.seq (.seq (.reg [] [.a 6 (.mv (.t 5)), .a 7 (.mv (.t 1)), .a 8 (.bin .lss (.t 6) (.t 7))] [6, 7] [])
  (.cond (.t 8) .skip (.exit 0)))
  (.seq (.block 1 (.reg [] [.a 11 (.mv (.t 0)), .a 12 (.bin .quo (.t 11) (.c (.int .i64 2))), .a 0 (.mv (.t 12))] [8, 11, 12] []))
  (.reg [] [.a 9 (.mv (.t 5)), .a 10 (.bin .add (.t 9) (.c (.int .i64 1))), .a 5 (.mv (.t 10))] [9, 10] [])))
def dendronlaw15_in : R.Fn := ⟨2, [(.t 4)], (.seq (.reg [] [.a 4 (.mv (.c (.bool false)))] [4] [])
  (.seq (.seq (.reg [] [.a 5 (.mv (.c (.int .i64 0)))] [] [])
  (.block 0 (.loop [] [] dendronlaw15_in.b0)))
  (.seq (.reg [] [.a 13 (.mv (.t 0)), .a 14 (.bin .rem (.t 13) (.c (.int .i64 2))), .a 15 (.bin .eql (.t 14) (.c (.int .i64 1))), .a 4 (.mv (.t 15))] [0, 1, 5, 8, 13, 14, 15] [])
  .ret)))⟩
def dendronlaw15_in.hint : R.Hint := { kill := [(0, [4], []), (2, [6, 7], []), (3, [9, 10], []), (4, [8, 11, 12], []), (5, [0, 1, 5, 8, 13, 14, 15], [])] }
theorem dendronlaw15_in.ok : cFn Tryz.prog dendronlaw15_in.hint Tryz.f60 = some dendronlaw15_in := by kernel_rfl
def dendronlaw15_size.b0 : R.C := (.seq (.seq (.reg [] [.a 7 (.mv (.t 6)), .a 8 (.mv (.t 1)), .a 9 (.bin .lss (.t 7) (.t 8))] [7, 8] [])
  (.cond (.t 9) .skip (.exit 0)))
  (.seq (.block 1 (.seq (.reg [] [.a 12 (.mv (.t 0)), .a 13 (.mv (.t 6)), .a 14 (.call F.dendronlaw15_in [(.t 12), (.t 13)])] [9, 12, 13] [])
  (.cond (.t 14) (.reg [] [.a 15 (.mv (.t 5)), .a 16 (.bin .add (.t 15) (.c (.int .i64 1))), .a 5 (.mv (.t 16))] [14, 15, 16] []) .skip)))
  (.reg [] [.a 10 (.mv (.t 6)), .a 11 (.bin .add (.t 10) (.c (.int .i64 1))), .a 6 (.mv (.t 11))] [10, 11, 14] [])))
def dendronlaw15_size : R.Fn := ⟨2, [(.t 4)], (.seq (.reg [] [.a 4 (.mv (.c (.int .i64 0)))] [4] [])
  (.seq (.reg [] [.a 5 (.mv (.c (.int .i64 0)))] [] [])
  (.seq (.seq (.reg [] [.a 6 (.mv (.c (.int .i64 0)))] [] [])
  (.block 0 (.loop [] [] dendronlaw15_size.b0)))
  (.seq (.reg [] [.a 17 (.mv (.t 5)), .a 4 (.mv (.t 17))] [0, 1, 5, 6, 9, 17] [])
  .ret))))⟩
def dendronlaw15_size.hint : R.Hint := { kill := [(0, [4], []), (3, [7, 8], []), (4, [10, 11, 14], []), (5, [9, 12, 13], []), (6, [14, 15, 16], []), (7, [0, 1, 5, 6, 9, 17], [])] }
theorem dendronlaw15_size.ok : cFn Tryz.prog dendronlaw15_size.hint Tryz.f61 = some dendronlaw15_size := by kernel_rfl
def dendron_weigh_Table_Weight : R.Fn := ⟨3, [(.cell 6 3 true), (.t 7)], (.seq (.reg [] [.a 6 (.new [(.bool false), (.sl 1 []), (.sl 1 [])]), .a 7 (.mv (.c (.int .i64 0)))] [7] [])
  (.seq (.block 0 (.seq (.reg [] [.a 9 (.mv (.t 0)), .a 10 (.pnil false (.t 9)), .a 8 (.mv (.t 10))] [9, 10] [])
  (.cond (.t 8) (.seq (.reg [] [.a 11 (.bld [(.bool false), (.sl 1 []), (.sl 1 [])] []), .n (.st 3 (.t 6) (.t 11)), .a 7 (.mv (.c (.int .i64 18)))] [0, 1, 2, 8, 11] [])
  .ret) (.seq (.reg [] [.a 13 (.mv (.t 2)), .a 14 (.bin .lss (.t 13) (.c (.int .i64 1))), .a 15 (.mv (.t 14)), .g 16 15 false (.mv (.t 2)), .g 17 15 false (.bin .gtr (.t 16) (.c (.int .i64 64))), .a 18 (.pick (.t 15) (.c (.bool true)) (.t 17)), .a 19 (.mv (.t 18)), .g 20 19 false (.mv (.t 1)), .g 21 19 false (.bin .lss (.t 20) (.c (.int .i64 0))), .a 22 (.pick (.t 19) (.c (.bool true)) (.t 21)), .a 23 (.mv (.t 22)), .g 24 23 false (.mv (.t 1)), .g 25 23 false (.mv (.t 2)), .g 26 23 false (.bin .geq (.t 24) (.t 25)), .a 27 (.pick (.t 23) (.c (.bool true)) (.t 26)), .a 12 (.mv (.t 27))] [8, 13, 14, 15, 16, 17, 18, 19, 20, 21, 22, 23, 24, 25, 26, 27] [])
  (.cond (.t 12) (.seq (.reg [] [.a 28 (.bld [(.bool false), (.sl 1 []), (.sl 1 [])] []), .n (.st 3 (.t 6) (.t 28)), .a 7 (.mv (.c (.int .i64 8)))] [0, 1, 2, 12, 28] [])
  .ret) .skip)))))
  (.seq (.reg [] [.a 29 (.mv (.t 0)), .a 30 (.mv (.t 1)), .a 31 (.mv (.t 2)), .a 32 (.mv (.t 1)), .a 33 (.bin .sub (.t 31) (.t 32)), .a 34 (.bin .sub (.t 33) (.c (.int .i64 1))), .a 35 (.mv (.t 2)), .a 36 (.callk F.dendron_weigh_Table_quotient [(true, (.t 29)), (false, (.t 30)), (false, (.t 34)), (false, (.t 35))]), .n (.st 3 (.t 6) (.t 36)), .a 7 (.mv (.c (.int .i64 0)))] [0, 1, 2, 12, 29, 30, 31, 32, 33, 34, 35, 36] [36])
  .ret)))⟩
def dendron_weigh_Table_Weight.hint : R.Hint := { callk := [(36, [true, false, false, false])], kill := [(0, [7], []), (1, [9, 10], []), (2, [0, 1, 2, 8, 11], []), (3, [8, 13, 14, 15, 16, 17, 18, 19, 20, 21, 22, 23, 24, 25, 26, 27], []), (4, [0, 1, 2, 12, 28], []), (5, [0, 1, 2, 12, 29, 30, 31, 32, 33, 34, 35, 36], [36])] }
theorem dendron_weigh_Table_Weight.ok : cFn Tryz.prog dendron_weigh_Table_Weight.hint Tryz.f62 = some dendron_weigh_Table_Weight := by kernel_rfl
def ratio_Cmp : R.Fn := ⟨2, [(.t 4)], (.seq (.reg [] [.a 2 (.box (.t 0)), .a 3 (.box (.t 1)), .a 4 (.mv (.c (.int .i64 0)))] [0, 1, 4] [])
  (.seq (.reg [] [.a 5 (.ld 3 true (.t 2)), .a 6 (.call F.ratio_Clean [(.t 5)]), .a 7 (.ld 3 true (.t 3)), .a 8 (.call F.ratio_Clean [(.t 7)]), .n (.st 3 (.t 2) (.t 6)), .n (.st 3 (.t 3) (.t 8))] [5, 6, 7, 8] [])
  (.seq (.reg [] [.a 9 (.fA 0 (.t 2)), .a 10 (.ld 2 true (.t 9)), .a 11 (.ld 3 true (.t 3)), .a 12 (.call F.ratio_den [(.t 11)]), .a 13 (.call F.whole_Mul [(.t 10), (.t 12)]), .a 14 (.fA 0 (.t 3)), .a 15 (.ld 2 true (.t 14)), .a 16 (.ld 3 true (.t 2)), .a 17 (.call F.ratio_den [(.t 16)]), .a 18 (.call F.whole_Mul [(.t 15), (.t 17)]), .a 19 (.call F.whole_Cmp [(.t 13), (.t 18)]), .a 4 (.mv (.t 19))] [2, 3, 9, 10, 11, 12, 13, 14, 15, 16, 17, 18, 19] [2, 3])
  .ret)))⟩
def ratio_Cmp.hint : R.Hint := { kill := [(0, [0, 1, 4], []), (1, [5, 6, 7, 8], []), (2, [2, 3, 9, 10, 11, 12, 13, 14, 15, 16, 17, 18, 19], [2, 3])] }
theorem ratio_Cmp.ok : cFn Tryz.prog ratio_Cmp.hint Tryz.f63 = some ratio_Cmp := by kernel_rfl
def nat_Of : R.Fn := ⟨1, [(.t 2)], (.seq (.reg [] [.a 2 (.mv (.c (.sl 1 [])))] [2] [])
  (.seq (.reg [] [.a 3 (.mv (.t 0)), .a 4 (.bin .and (.t 3) (.c (.int .u64 4294967295))), .a 5 (.mv (.t 0)), .a 6 (.bin .shr (.t 5) (.c (.int .u64 32))), .a 7 (.lit 1 2 [(.int .u64 0), (.int .u64 0)] [(0, 1, (.t 4)), (1, 1, (.t 6))]), .a 8 (.call F.nat_trim [(.t 7)]), .a 2 (.mv (.t 8))] [0, 3, 4, 5, 6, 7, 8] [])
  .ret))⟩
def nat_Of.hint : R.Hint := { kill := [(0, [2], []), (1, [0, 3, 4, 5, 6, 7, 8], [])] }
theorem nat_Of.ok : cFn Tryz.prog nat_Of.hint Tryz.f64 = some nat_Of := by kernel_rfl
def ratio_Clean : R.Fn := ⟨1, [(.cell 2 3 true)], (.seq (.reg [] [.a 1 (.box (.t 0)), .a 2 (.new [(.bool false), (.sl 1 []), (.sl 1 [])])] [0] [])
  (.seq (.reg [] [.a 4 (.fA 2 (.t 1)), .a 5 (.ld 1 false (.t 4)), .a 6 (.call F.nat_Clean [(.t 5)]), .a 3 (.mv (.t 6))] [4, 5, 6] [])
  (.seq (.seq (.reg [] [.a 7 (.mv (.t 3)), .a 8 (.ln (.t 7)), .a 9 (.bin .eql (.t 8) (.c (.int .i64 0)))] [7, 8] [])
  (.cond (.t 9) (.seq (.reg [] [.a 10 (.call F.ratio_Zero []), .n (.st 3 (.t 2) (.t 10))] [1, 3, 9, 10] [1])
  .ret) .skip))
  (.seq (.reg [] [.a 11 (.fA 0 (.t 1)), .a 12 (.ld 2 true (.t 11)), .a 13 (.call F.whole_Clean [(.t 12)]), .a 14 (.mv (.t 3)), .a 15 (.call F.ratio_form [(.t 13), (.t 14)]), .n (.st 3 (.t 2) (.t 15))] [1, 3, 9, 11, 12, 13, 14, 15] [1])
  .ret))))⟩
def ratio_Clean.hint : R.Hint := { kill := [(0, [0], []), (1, [4, 5, 6], []), (2, [7, 8], []), (3, [1, 3, 9, 10], [1]), (4, [1, 3, 9, 11, 12, 13, 14, 15], [1])] }
theorem ratio_Clean.ok : cFn Tryz.prog ratio_Clean.hint Tryz.f65 = some ratio_Clean := by kernel_rfl
def ratio_form : R.Fn := ⟨2, [(.cell 4 3 true)], (.seq (.reg [] [.a 2 (.box (.t 0)), .a 4 (.new [(.bool false), (.sl 1 []), (.sl 1 [])])] [0] [])
  (.seq (.seq (.reg [] [.a 12 (.fA 1 (.t 2)), .a 13 (.ld 1 false (.t 12)), .a 14 (.ln (.t 13)), .a 15 (.bin .eql (.t 14) (.c (.int .i64 0)))] [12, 13, 14] [])
  (.cond (.t 15) (.seq (.reg [] [.a 16 (.call F.nat_Of [(.c (.int .u64 1))]), .a 17 (.bld [(.bool false), (.sl 1 []), (.sl 1 [])] [(2, 1, (.t 16))]), .n (.st 3 (.t 4) (.t 17))] [1, 2, 15, 16, 17] [2])
  .ret) .skip))
  (.seq (.reg [] [.a 18 (.fA 1 (.t 2)), .a 19 (.ld 1 false (.t 18)), .a 20 (.mv (.t 1)), .a 21 (.call F.nat_Gcd [(.t 19), (.t 20)]), .a 5 (.mv (.t 21))] [15, 18, 19, 20, 21] [])
  (.seq (.seq (.reg [] [.a 22 (.mv (.t 5)), .a 23 (.ln (.t 22)), .a 24 (.bin .eql (.t 23) (.c (.int .i64 1))), .a 25 (.mv (.t 24)), .g 26 25 true (.mv (.t 5)), .g 27 25 true (.iA 1 (.t 26) (.c (.int .i64 0))), .g 28 25 true (.ld 1 false (.t 27)), .g 29 25 true (.bin .eql (.t 28) (.c (.int .u64 1))), .a 30 (.pick (.t 25) (.t 29) (.c (.bool false)))] [22, 23, 24, 25, 26, 27, 28, 29] [])
  (.cond (.t 30) (.seq (.reg [] [.a 31 (.ld 2 true (.t 2)), .a 32 (.mv (.t 1)), .a 33 (.bld [(.bool false), (.sl 1 []), (.sl 1 [])] [(0, 2, (.t 31)), (2, 1, (.t 32))]), .n (.st 3 (.t 4) (.t 33))] [1, 2, 5, 30, 31, 32, 33] [2])
  .ret) .skip))
  (.seq (.reg [] [.a 35 (.fA 1 (.t 2)), .a 36 (.ld 1 false (.t 35)), .a 37 (.mv (.t 5)), .a 38 (.call F.nat_DivMod [(.t 36), (.t 37)]), .a 34 (.mv (.t 38)), .a 39 (.ext (.t 34) 0), .a 40 (.ext (.t 34) 1), .a 41 (.ext (.t 34) 2), .a 6 (.mv (.t 39)), .a 7 (.mv (.t 40)), .a 8 (.mv (.t 41))] [7, 8, 30, 34, 35, 36, 37, 38, 39, 40, 41] [])
  (.seq (.reg [] [.a 43 (.mv (.t 1)), .a 44 (.mv (.t 5)), .a 45 (.call F.nat_DivMod [(.t 43), (.t 44)]), .a 42 (.mv (.t 45)), .a 46 (.ext (.t 42) 0), .a 47 (.ext (.t 42) 1), .a 48 (.ext (.t 42) 2), .a 9 (.mv (.t 46)), .a 10 (.mv (.t 47)), .a 11 (.mv (.t 48))] [1, 5, 10, 11, 42, 43, 44, 45, 46, 47, 48] [])
  (.seq (.reg [] [.a 49 (.fA 0 (.t 2)), .a 50 (.ld 1 false (.t 49)), .a 51 (.mv (.t 6)), .a 52 (.bld [(.bool false), (.sl 1 [])] [(0, 1, (.t 50)), (1, 1, (.t 51))]), .a 53 (.mv (.t 9)), .a 54 (.bld [(.bool false), (.sl 1 []), (.sl 1 [])] [(0, 2, (.t 52)), (2, 1, (.t 53))]), .n (.st 3 (.t 4) (.t 54))] [2, 6, 9, 49, 50, 51, 52, 53, 54] [2])
  .ret)))))))⟩
def ratio_form.hint : R.Hint := { kill := [(0, [0], []), (1, [12, 13, 14], []), (2, [1, 2, 15, 16, 17], [2]), (3, [15, 18, 19, 20, 21], []), (4, [22, 23, 24, 25, 26, 27, 28, 29], []), (5, [1, 2, 5, 30, 31, 32, 33], [2]), (6, [7, 8, 30, 34, 35, 36, 37, 38, 39, 40, 41], []), (7, [1, 5, 10, 11, 42, 43, 44, 45, 46, 47, 48], []), (8, [2, 6, 9, 49, 50, 51, 52, 53, 54], [2])] }
theorem ratio_form.ok : cFn Tryz.prog ratio_form.hint Tryz.f66 = some ratio_form := by kernel_rfl
def whole_Add : R.Fn := ⟨2, [(.cell 4 2 true)], (.seq (.reg [] [.a 2 (.box (.t 0)), .a 3 (.box (.t 1)), .a 4 (.new [(.bool false), (.sl 1 [])])] [0, 1] [])
  (.seq (.reg [] [.a 7 (.ld 2 true (.t 2)), .a 8 (.call F.whole_Clean [(.t 7)]), .a 9 (.ld 2 true (.t 3)), .a 10 (.call F.whole_Clean [(.t 9)]), .n (.st 2 (.t 2) (.t 8)), .n (.st 2 (.t 3) (.t 10))] [7, 8, 9, 10] [])
  (.seq (.seq (.reg [] [.a 11 (.fA 0 (.t 2)), .a 12 (.ld 1 false (.t 11)), .a 13 (.fA 0 (.t 3)), .a 14 (.ld 1 false (.t 13)), .a 15 (.beq false (.t 12) (.t 14))] [11, 12, 13, 14] [])
  (.cond (.t 15) (.seq (.reg [] [.a 16 (.fA 0 (.t 2)), .a 17 (.ld 1 false (.t 16)), .a 18 (.fA 1 (.t 2)), .a 19 (.ld 1 false (.t 18)), .a 20 (.fA 1 (.t 3)), .a 21 (.ld 1 false (.t 20)), .a 22 (.call F.nat_Add [(.t 19), (.t 21)]), .a 23 (.call F.whole_sign [(.t 17), (.t 22)]), .n (.st 2 (.t 4) (.t 23))] [2, 3, 15, 16, 17, 18, 19, 20, 21, 22, 23] [2, 3])
  .ret) .skip))
  (.seq (.seq (.reg [] [.a 24 (.fA 1 (.t 2)), .a 25 (.ld 1 false (.t 24)), .a 26 (.fA 1 (.t 3)), .a 27 (.ld 1 false (.t 26)), .a 28 (.call F.nat_Cmp [(.t 25), (.t 27)]), .a 29 (.bin .lss (.t 28) (.c (.int .i64 0)))] [15, 24, 25, 26, 27, 28] [])
  (.cond (.t 29) (.reg [] [.a 30 (.ld 2 true (.t 3)), .a 31 (.ld 2 true (.t 2)), .n (.st 2 (.t 2) (.t 30)), .n (.st 2 (.t 3) (.t 31))] [29, 30, 31] []) .skip))
  (.seq (.reg [] [.a 33 (.fA 1 (.t 2)), .a 34 (.ld 1 false (.t 33)), .a 35 (.fA 1 (.t 3)), .a 36 (.ld 1 false (.t 35)), .a 37 (.call F.nat_Sub [(.t 34), (.t 36)]), .a 32 (.mv (.t 37)), .a 38 (.ext (.t 32) 0), .a 39 (.ext (.t 32) 1), .a 5 (.mv (.t 38)), .a 6 (.mv (.t 39))] [3, 6, 29, 32, 33, 34, 35, 36, 37, 38, 39] [3])
  (.seq (.reg [] [.a 40 (.fA 0 (.t 2)), .a 41 (.ld 1 false (.t 40)), .a 42 (.mv (.t 5)), .a 43 (.call F.whole_sign [(.t 41), (.t 42)]), .n (.st 2 (.t 4) (.t 43))] [2, 5, 40, 41, 42, 43] [2])
  .ret))))))⟩
def whole_Add.hint : R.Hint := { kill := [(0, [0, 1], []), (1, [7, 8, 9, 10], []), (2, [11, 12, 13, 14], []), (3, [2, 3, 15, 16, 17, 18, 19, 20, 21, 22, 23], [2, 3]), (4, [15, 24, 25, 26, 27, 28], []), (5, [29, 30, 31], []), (6, [3, 6, 29, 32, 33, 34, 35, 36, 37, 38, 39], [3]), (7, [2, 5, 40, 41, 42, 43], [2])] }
theorem whole_Add.ok : cFn Tryz.prog whole_Add.hint Tryz.f67 = some whole_Add := by kernel_rfl
def whole_Mul : R.Fn := ⟨2, [(.cell 4 2 true)], (.seq (.reg [] [.a 2 (.box (.t 0)), .a 3 (.box (.t 1)), .a 4 (.new [(.bool false), (.sl 1 [])])] [0, 1] [])
  (.seq (.reg [] [.a 5 (.ld 2 true (.t 2)), .a 6 (.call F.whole_Clean [(.t 5)]), .a 7 (.ld 2 true (.t 3)), .a 8 (.call F.whole_Clean [(.t 7)]), .n (.st 2 (.t 2) (.t 6)), .n (.st 2 (.t 3) (.t 8))] [5, 6, 7, 8] [])
  (.seq (.reg [] [.a 9 (.fA 0 (.t 2)), .a 10 (.ld 1 false (.t 9)), .a 11 (.fA 0 (.t 3)), .a 12 (.ld 1 false (.t 11)), .a 13 (.beq true (.t 10) (.t 12)), .a 14 (.fA 1 (.t 2)), .a 15 (.ld 1 false (.t 14)), .a 16 (.fA 1 (.t 3)), .a 17 (.ld 1 false (.t 16)), .a 18 (.call F.nat_Mul [(.t 15), (.t 17)]), .a 19 (.call F.whole_sign [(.t 13), (.t 18)]), .n (.st 2 (.t 4) (.t 19))] [2, 3, 9, 10, 11, 12, 13, 14, 15, 16, 17, 18, 19] [2, 3])
  .ret)))⟩
def whole_Mul.hint : R.Hint := { kill := [(0, [0, 1], []), (1, [5, 6, 7, 8], []), (2, [2, 3, 9, 10, 11, 12, 13, 14, 15, 16, 17, 18, 19], [2, 3])] }
theorem whole_Mul.ok : cFn Tryz.prog whole_Mul.hint Tryz.f68 = some whole_Mul := by kernel_rfl
def ratio_den : R.Fn := ⟨1, [(.cell 2 2 true)], (.seq (.reg [] [.a 1 (.box (.t 0)), .a 2 (.new [(.bool false), (.sl 1 [])])] [0] [])
  (.seq (.reg [] [.a 3 (.fA 2 (.t 1)), .a 4 (.ld 1 false (.t 3)), .a 5 (.bld [(.bool false), (.sl 1 [])] [(1, 1, (.t 4))]), .n (.st 2 (.t 2) (.t 5))] [1, 3, 4, 5] [1])
  .ret))⟩
def ratio_den.hint : R.Hint := { kill := [(0, [0], []), (1, [1, 3, 4, 5], [1])] }
theorem ratio_den.ok : cFn Tryz.prog ratio_den.hint Tryz.f69 = some ratio_den := by kernel_rfl
def nat_Mul.b2 : R.C := (.seq (.reg [] [.a 31 (.bin .lss (.t 30) (.t 29))] [] [])
  (.seq (.cond (.t 31) .skip (.exit 2))
  (.seq (.block 3 (.seq (.reg [] [.a 32 (.mv (.t 30)), .a 33 (.iA 1 (.t 28) (.t 30)), .a 34 (.ld 1 false (.t 33)), .a 9 (.mv (.t 32)), .a 10 (.mv (.t 34))] [31, 32, 33, 34] [])
  (.seq (.reg [] [.a 35 (.mv (.t 8)), .a 36 (.mv (.t 5)), .a 37 (.mv (.t 6)), .a 38 (.mv (.t 9)), .a 39 (.bin .add (.t 37) (.t 38)), .a 40 (.iA 1 (.t 36) (.t 39)), .a 41 (.ld 1 false (.t 40)), .a 42 (.mv (.t 7)), .a 43 (.mv (.t 10)), .a 44 (.bin .mul (.t 42) (.t 43)), .a 45 (.bin .add (.t 41) (.t 44)), .a 46 (.bin .add (.t 35) (.t 45)), .a 8 (.mv (.t 46))] [10, 35, 36, 37, 38, 39, 40, 41, 42, 43, 44, 45, 46] [])
  (.seq (.reg [] [.a 47 (.mv (.t 5)), .a 48 (.mv (.t 6)), .a 49 (.mv (.t 9)), .a 50 (.bin .add (.t 48) (.t 49)), .a 51 (.mv (.t 8)), .a 52 (.bin .and (.t 51) (.c (.int .u64 4294967295))), .a 53 (.iA 1 (.t 47) (.t 50)), .n (.st 1 (.t 53) (.t 52))] [9, 47, 48, 49, 50, 51, 52, 53] [])
  (.reg [] [.a 54 (.mv (.t 8)), .a 55 (.bin .shr (.t 54) (.c (.int .u64 32))), .a 8 (.mv (.t 55))] [54, 55] [])))))
  (.reg [] [.a 56 (.bin .add (.t 30) (.c (.int .i64 1))), .a 30 (.mv (.t 56))] [56] []))))
def nat_Mul.b0 : R.C := (.seq (.reg [] [.a 24 (.bin .lss (.t 23) (.t 22))] [] [])
  (.seq (.cond (.t 24) .skip (.exit 0))
  (.seq (.block 1 (.seq (.reg [] [.a 25 (.mv (.t 23)), .a 26 (.iA 1 (.t 21) (.t 23)), .a 27 (.ld 1 false (.t 26)), .a 6 (.mv (.t 25)), .a 7 (.mv (.t 27))] [24, 25, 26, 27] [])
  (.seq (.reg [] [.a 8 (.mv (.c (.int .u64 0)))] [] [])
  (.seq (.seq (.reg [] [.a 28 (.mv (.t 1)), .a 29 (.ln (.t 28)), .a 30 (.mv (.c (.int .i64 0)))] [] [])
  (.block 2 (.loop [] [] nat_Mul.b2)))
  (.reg [] [.a 57 (.mv (.t 5)), .a 58 (.mv (.t 6)), .a 59 (.mv (.t 1)), .a 60 (.ln (.t 59)), .a 61 (.bin .add (.t 58) (.t 60)), .a 62 (.mv (.t 8)), .a 63 (.iA 1 (.t 57) (.t 61)), .n (.st 1 (.t 63) (.t 62))] [6, 7, 8, 28, 29, 30, 31, 57, 58, 59, 60, 61, 62, 63] [])))))
  (.reg [] [.a 64 (.bin .add (.t 23) (.c (.int .i64 1))), .a 23 (.mv (.t 64))] [64] []))))
def nat_Mul : R.Fn := ⟨2, [(.t 4)], (.seq (.reg [] [.a 4 (.mv (.c (.sl 1 [])))] [4] [])
  (.seq (.reg [] [.a 11 (.mv (.t 0)), .a 12 (.call F.nat_Clean [(.t 11)]), .a 13 (.mv (.t 1)), .a 14 (.call F.nat_Clean [(.t 13)]), .a 0 (.mv (.t 12)), .a 1 (.mv (.t 14))] [11, 12, 13, 14] [])
  (.seq (.reg [] [.a 15 (.mv (.t 0)), .a 16 (.ln (.t 15)), .a 17 (.mv (.t 1)), .a 18 (.ln (.t 17)), .a 19 (.bin .add (.t 16) (.t 18)), .a 20 (.mk 1 8 [(.int .u64 0)] (.t 19) (.t 19)), .a 5 (.mv (.t 20))] [15, 16, 17, 18, 19, 20] [])
  (.seq (.seq (.reg [] [.a 21 (.mv (.t 0)), .a 22 (.ln (.t 21)), .a 23 (.mv (.c (.int .i64 0)))] [0] [])
  (.block 0 (.loop [] [] nat_Mul.b0)))
  (.seq (.reg [5] [.a 65 (.mv (.t 5)), .a 66 (.call F.nat_trim [(.t 65)]), .a 4 (.mv (.t 66))] [1, 5, 21, 22, 23, 24, 65, 66] [20])
  .ret)))))⟩
def nat_Mul.hint : R.Hint := { pub := [(16, [5])], kill := [(0, [4], []), (1, [11, 12, 13, 14], []), (2, [15, 16, 17, 18, 19, 20], []), (3, [0], []), (5, [24, 25, 26, 27], []), (9, [31, 32, 33, 34], []), (10, [10, 35, 36, 37, 38, 39, 40, 41, 42, 43, 44, 45, 46], []), (11, [9, 47, 48, 49, 50, 51, 52, 53], []), (12, [54, 55], []), (13, [56], []), (14, [6, 7, 8, 28, 29, 30, 31, 57, 58, 59, 60, 61, 62, 63], []), (15, [64], []), (16, [1, 5, 21, 22, 23, 24, 65, 66], [20])] }
theorem nat_Mul.ok : cFn Tryz.prog nat_Mul.hint Tryz.f70 = some nat_Mul := by kernel_rfl
def ratio_Make : R.Fn := ⟨2, [(.cell 4 3 true), (.t 5)], (.seq (.reg [] [.a 2 (.box (.t 0)), .a 3 (.box (.t 1)), .a 4 (.new [(.bool false), (.sl 1 []), (.sl 1 [])]), .a 5 (.mv (.c (.int .i64 0)))] [0, 1, 5] [])
  (.seq (.reg [] [.a 6 (.ld 2 true (.t 2)), .a 7 (.call F.whole_Clean [(.t 6)]), .a 8 (.ld 2 true (.t 3)), .a 9 (.call F.whole_Clean [(.t 8)]), .n (.st 2 (.t 2) (.t 7)), .n (.st 2 (.t 3) (.t 9))] [6, 7, 8, 9] [])
  (.seq (.seq (.reg [] [.a 10 (.ld 2 true (.t 3)), .a 11 (.call F.whole_Sign [(.t 10)]), .a 12 (.bin .eql (.t 11) (.c (.int .i64 0)))] [10, 11] [])
  (.cond (.t 12) (.seq (.reg [] [.a 13 (.bld [(.bool false), (.sl 1 []), (.sl 1 [])] []), .n (.st 3 (.t 4) (.t 13)), .a 5 (.mv (.c (.int .i64 2)))] [2, 3, 12, 13] [2, 3])
  .ret) .skip))
  (.seq (.seq (.reg [] [.a 14 (.fA 0 (.t 3)), .a 15 (.ld 1 false (.t 14))] [12, 14] [])
  (.cond (.t 15) (.reg [] [.a 16 (.ld 2 true (.t 2)), .a 17 (.call F.whole_Neg [(.t 16)]), .n (.st 2 (.t 2) (.t 17))] [15, 16, 17] []) .skip))
  (.seq (.reg [] [.a 18 (.ld 2 true (.t 2)), .a 19 (.fA 1 (.t 3)), .a 20 (.ld 1 false (.t 19)), .a 21 (.call F.ratio_form [(.t 18), (.t 20)]), .n (.st 3 (.t 4) (.t 21)), .a 5 (.mv (.c (.int .i64 0)))] [2, 3, 15, 18, 19, 20, 21] [2, 3])
  .ret)))))⟩
def ratio_Make.hint : R.Hint := { kill := [(0, [0, 1, 5], []), (1, [6, 7, 8, 9], []), (2, [10, 11], []), (3, [2, 3, 12, 13], [2, 3]), (4, [12, 14], []), (5, [15, 16, 17], []), (6, [2, 3, 15, 18, 19, 20, 21], [2, 3])] }
theorem ratio_Make.ok : cFn Tryz.prog ratio_Make.hint Tryz.f71 = some ratio_Make := by kernel_rfl
end Go.Proofs.YtnmbpainnkdonaaGreatDoor
