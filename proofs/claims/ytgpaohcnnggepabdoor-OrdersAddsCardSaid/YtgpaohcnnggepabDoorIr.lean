/- The interpreter's text of every function of the seat, and that it is the compiler's. -/
import Derived.Test.YtgpaohcnnggepabDoorRb
import Derived.Test.YtgpaohcnnggepabDoorChecked
set_option linter.unusedVariables false
set_option maxRecDepth 100000
namespace Go.Proofs.YtgpaohcnnggepabDoor
open Go Go.Proofs.R
def F.dendronlaw14_WeighKept : Nat := 3
def F.dendronlaw14_WeighFacts : Nat := 4
def F.dendronlaw14_WeighWeights : Nat := 5
def F.dendronlaw14_WeighNobody : Nat := 6
def F.dendronlaw14_WeighPairs : Nat := 7
def F.dendronlaw14_WeighNeeds : Nat := 8
def F.dendronlaw14_WeighAll : Nat := 9
def F.dendronlaw19_GameAlikes : Nat := 10
def F.dendronlaw19_GameNulls : Nat := 11
def F.dendronlaw19_GameSums : Nat := 12
def F.dendronlaw22_OwenQuotients : Nat := 13
def F.dendronlaw21_OrdersAdds : Nat := 14
def F.dendronlaw14_awake : Nat := 15
def F.weigh_New : Nat := 16
def F.dendron_weigh_Table_Fact : Nat := 17
def F.ratio_Same : Nat := 18
def F.ratio_Int : Nat := 19
def F.dendronlaw14_fact : Nat := 20
def F.whole_Right : Nat := 21
def F.dendron_weigh_Table_Weight : Nat := 22
def F.dendronlaw14_is : Nat := 23
def F.dendronlaw14_quotient : Nat := 24
def F.dendron_weigh_Table_Pair : Nat := 25
def F.dendron_weigh_Table_Need : Nat := 26
def F.dendron_weigh_Table_All : Nat := 27
def F.ratio_Mul : Nat := 28
def F.ratio_Of : Nat := 29
def F.ratio_Zero : Nat := 30
def F.ratio_Neg : Nat := 31
def F.ratio_Add : Nat := 32
def F.ratio_One : Nat := 33
def F.dendronlaw19_Few : Nat := 34
def F.game_Alike : Nat := 35
def F.dendronlaw19_Size : Nat := 36
def F.dendronlaw19_awake : Nat := 37
def F.game_Shapley : Nat := 38
def F.dendronlaw19_alike : Nat := 39
def F.game_Null : Nat := 40
def F.dendronlaw19_null : Nat := 41
def F.ratio_Sign : Nat := 42
def F.game_Sum : Nat := 43
def F.ratio_Right : Nat := 44
def F.dendronlaw22_few : Nat := 45
def F.owen_Quotient : Nat := 46
def F.dendronlaw22_right : Nat := 47
def F.dendronlaw22_awake : Nat := 48
def F.dendronlaw22_two : Nat := 49
def F.dendronref19_In : Nat := 50
def F.dendronlaw21_few : Nat := 51
def F.orders_Adds : Nat := 52
def F.dendronlaw21_right : Nat := 53
def F.dendronlaw21_awake : Nat := 54
def F.dendronref10_All : Nat := 55
def F.dendronlaw21_adds : Nat := 56
def F.ratio_Sum : Nat := 57
def F.ratio_Sub : Nat := 58
def F.ratio_Frac : Nat := 59
def F.whole_Clean : Nat := 60
def F.dendron_weigh_Table_at : Nat := 61
def F.ratio_Cmp : Nat := 62
def F.nat_Of : Nat := 63
def F.nat_Right : Nat := 64
def F.dendron_weigh_Table_quotient : Nat := 65
def F.ratio_Div : Nat := 66
def F.ratio_Clean : Nat := 67
def F.ratio_form : Nat := 68
def F.whole_Mul : Nat := 69
def F.nat_Mul : Nat := 70
def F.whole_Of : Nat := 71
def F.whole_Neg : Nat := 72
def F.whole_Add : Nat := 73
def F.ratio_den : Nat := 74
def F.dendronlaw19_number : Nat := 75
def F.game_Players : Nat := 76
def F.dendronlaw19_two : Nat := 77
def F.bits_OnesCount : Nat := 78
def F.whole_Sign : Nat := 79
def F.nat_Gcd : Nat := 80
def F.nat_Cmp : Nat := 81
def F.owen_Right : Nat := 82
def F.owen_merged : Nat := 83
def F.owen_Alone : Nat := 84
def F.orders_Right : Nat := 85
def F.orders_Next : Nat := 86
def F.dendronlaw21_same : Nat := 87
def F.dendronref10_Is : Nat := 88
def F.dendronlaw21_two : Nat := 89
def F.ratio_Make : Nat := 90
def F.whole_sign : Nat := 91
def F.nat_Clean : Nat := 92
def F.sync_Once_Do : Nat := 93
def F.dendron_weigh_Table_at_1 : Nat := 94
def F.weigh_products : Nat := 95
def F.whole_Cmp : Nat := 96
def F.nat_trim : Nat := 97
def F.ratio_Inv : Nat := 98
def F.nat_DivMod : Nat := 99
def F.nat_Add : Nat := 100
def F.nat_Sub : Nat := 101
def F.bits_Len : Nat := 102
def F.bits_OnesCount32 : Nat := 103
def F.bits_OnesCount64 : Nat := 104
def F.nat_euclid : Nat := 105
def F.nat_zeros : Nat := 106
def F.nat_shr : Nat := 107
def F.nat_order : Nat := 108
def F.nat_shl : Nat := 109
def F.nat_rest : Nat := 110
def F.nat_minus : Nat := 111
def F.dendronref03_Is : Nat := 112
def F.dendronref03_From : Nat := 113
def F.sync_atomic_Bool_Load : Nat := 114
def F.sync_Once_doSlow : Nat := 115
def F.nat_small : Nat := 116
def F.nat_long : Nat := 117
def F.nat_limb : Nat := 118
def F.bits_Len32 : Nat := 119
def F.bits_Len64 : Nat := 120
def F.nat_To : Nat := 121
def F.bits_TrailingZeros64 : Nat := 122
def F.dendronref03_Right : Nat := 123
def F.dendronref03_Order : Nat := 124
def F.dendronref01_From : Nat := 125
def F.dendronref03_Small : Nat := 126
def F.dendronref02_From : Nat := 127
def F.sync_atomic_LoadUint32 : Nat := 128
def F.sync_Mutex_Lock : Nat := 129
def F.sync_Mutex_Unlock : Nat := 130
def F.sync_atomic_Bool_Store : Nat := 131
def F.bits_LeadingZeros32 : Nat := 132
def F.nat_digit : Nat := 133
def F.dendronref01_Right : Nat := 134
def F.dendronref01_Gcd : Nat := 135
def F.dendronref01_Order : Nat := 136
def F.dendronref01_Small : Nat := 137
def F.dendronref02_Order : Nat := 138
def F.dendronref02_Times : Nat := 139
def F.dendronref03_den : Nat := 140
def F.dendronref01_Plus : Nat := 141
def F.dendronref01_Times : Nat := 142
def F.dendronref02_Small : Nat := 143
def F.dendronref02_Make : Nat := 144
def F.internal_sync_Mutex_Lock : Nat := 145
def F.internal_sync_Mutex_Unlock : Nat := 146
def F.sync_atomic_StoreUint32 : Nat := 147
def F.sync_atomic_b32 : Nat := 148
def F.nat_take : Nat := 149
def F.nat_give : Nat := 150
def F.dendronref01_Over : Nat := 151
def F.dendronref01_digit : Nat := 152
def F.dendronref01_Trim : Nat := 153
def F.internal_race_Disable : Nat := 154
def F.sync_atomic_CompareAndSwapInt32 : Nat := 155
def F.internal_race_Enable : Nat := 156
def F.internal_race_Acquire : Nat := 157
def F.internal_sync_Mutex_lockSlow : Nat := 158
def F.internal_race_ReleaseMerge : Nat := 159
def F.sync_atomic_AddInt32 : Nat := 160
def F.internal_sync_Mutex_unlockSlow : Nat := 161
def F.dendronref01_Minus : Nat := 162
def F.internal_sync_runtime_canSpin : Nat := 163
def F.internal_sync_runtime_doSpin : Nat := 164
def F.internal_sync_throw : Nat := 165
def F.internal_sync_runtime_nanotime : Nat := 166
def F.internal_sync_runtime_SemacquireMutex : Nat := 167
def F.internal_sync_fatal : Nat := 168
def F.internal_sync_runtime_Semrelease : Nat := 169
def F.runtime_boundsError_Error : Nat := 170
def F.runtime_boundsError_RuntimeError : Nat := 171
def F.runtime_errorString_Error : Nat := 172
def F.runtime_errorString_RuntimeError : Nat := 173
def F.runtime_plainError_Error : Nat := 174
def F.runtime_plainError_RuntimeError : Nat := 175
def F.runtime_errorAddressString_Error : Nat := 176
def F.runtime_errorAddressString_RuntimeError : Nat := 177
def F.runtime_TypeAssertionError_Error : Nat := 178
def F.runtime_TypeAssertionError_RuntimeError : Nat := 179
def F.runtime_PanicNilError_Error : Nat := 180
def F.runtime_PanicNilError_RuntimeError : Nat := 181
def F.internal_abi_Type_Align : Nat := 182
def F.internal_runtime_maps_unhashableTypeError_Error : Nat := 183
def F.internal_runtime_maps_unhashableTypeError_RuntimeError : Nat := 184
def F.dendron_api_Errno_Error : Nat := 185
def F.internal_abi_Kind_String : Nat := 186
def F.var_s_door__gosem_cut_vars_holds_initialisers_alone__see_the_manifest_s_row_cutvarsword__look_11__test_files_too_ : Nat := 187
def F.var_s_door__bits_deBruijn64tab_is_laid_by_its_own_initialiser__plain_data__look_11_ : Nat := 188
def F.var_s_door__the_look_of_gosem_cut_vars_went_over_the_folder_that_the_caller_named_as_the_repository_s_root__look_11_ : Nat := 189
def dendronlaw14_WeighKept.b0 : R.C := (.seq (.seq (.reg [] [.a 23 (.mv (.t 6)), .a 24 (.fA 1 (.t 4)), .a 25 (.ld 1 false (.t 24)), .a 26 (.ln (.t 25)), .a 27 (.bin .lss (.t 23) (.t 26))] [23, 24, 25, 26] [])
  (.cond (.t 27) .skip (.exit 0)))
  (.seq (.block 1 (.reg [] [.a 30 (.fA 1 (.t 4)), .a 31 (.ld 1 false (.t 30)), .a 32 (.mv (.t 6)), .a 33 (.iA 1 (.t 31) (.t 32)), .n (.st 1 (.t 33) (.c (.int .u64 7)))] [27, 30, 31, 32, 33] []))
  (.reg [] [.a 28 (.mv (.t 6)), .a 29 (.bin .add (.t 28) (.c (.int .i64 1))), .a 6 (.mv (.t 29))] [28, 29] [])))
def dendronlaw14_WeighKept : R.Fn := ⟨1, [(.t 2)], (.seq (.reg [] [.a 2 (.mv (.c (.bool false)))] [2] [])
  (.seq (.seq (.reg [] [.a 9 (.mv (.t 0)), .a 10 (.bin .lss (.t 9) (.c (.int .i64 0))), .a 11 (.mv (.t 10)), .g 12 11 false (.mv (.t 0)), .g 13 11 false (.bin .gtr (.t 12) (.c (.int .i64 64))), .a 14 (.pick (.t 11) (.c (.bool true)) (.t 13))] [9, 10, 11, 12, 13] [])
  (.cond (.t 14) (.seq (.reg [] [.a 15 (.call F.dendronlaw14_awake []), .a 2 (.mv (.t 15))] [0, 14, 15] [])
  .ret) .skip))
  (.seq (.reg [] [.a 16 (.callk F.weigh_New []), .a 3 (.mv (.t 16))] [14, 16] [])
  (.seq (.reg [] [.a 18 (.mv (.t 3)), .a 19 (.mv (.t 0)), .a 20 (.callk F.dendron_weigh_Table_Fact [(true, (.t 18)), (false, (.t 19))]), .a 17 (.mv (.t 20)), .a 21 (.ext (.t 17) 0), .a 22 (.ext (.t 17) 1), .a 4 (.new [(.bool false), (.sl 1 [])]), .n (.st 2 (.t 4) (.t 21)), .a 5 (.mv (.t 22))] [5, 17, 18, 19, 20, 21, 22] [20, 1020, 2020, 3020])
  (.seq (.seq (.reg [] [.a 6 (.mv (.c (.int .i64 0)))] [] [])
  (.block 0 (.loop [] [] dendronlaw14_WeighKept.b0)))
  (.seq (.reg [] [.a 35 (.mv (.t 3)), .a 36 (.mv (.t 0)), .a 37 (.callk F.dendron_weigh_Table_Fact [(true, (.t 35)), (false, (.t 36))]), .a 34 (.mv (.t 37)), .a 38 (.ext (.t 34) 0), .a 39 (.ext (.t 34) 1), .a 7 (.new [(.bool false), (.sl 1 [])]), .n (.st 2 (.t 7) (.t 38)), .a 8 (.mv (.t 39))] [3, 4, 6, 27, 34, 35, 36, 37, 38, 39] [4])
  (.seq (.reg [] [.a 40 (.mv (.t 8)), .a 41 (.bin .eql (.t 40) (.c (.int .i64 0))), .a 42 (.mv (.t 41)), .g 43 42 true (.ld 2 true (.t 7)), .g 44 42 true (.call F.ratio_Int [(.t 43)]), .g 45 42 true (.mv (.t 0)), .g 46 42 true (.call F.dendronlaw14_fact [(.t 45)]), .g 47 42 true (.call F.ratio_Same [(.t 44), (.t 46)]), .a 48 (.pick (.t 42) (.t 47) (.c (.bool false))), .a 49 (.mv (.t 48)), .g 50 49 true (.call F.dendronlaw14_awake []), .a 51 (.pick (.t 49) (.t 50) (.c (.bool false))), .a 2 (.mv (.t 51))] [0, 7, 8, 40, 41, 42, 43, 44, 45, 46, 47, 48, 49, 50, 51] [7, 16, 37, 1016, 1037, 2016, 2037, 3016, 3037])
  .ret)))))))⟩
def dendronlaw14_WeighKept.hint : R.Hint := { callk := [(16, []), (20, [true, false]), (37, [true, false])], kill := [(0, [2], []), (1, [9, 10, 11, 12, 13], []), (2, [0, 14, 15], []), (3, [14, 16], []), (4, [5, 17, 18, 19, 20, 21, 22], [20, 1020, 2020, 3020]), (6, [23, 24, 25, 26], []), (7, [28, 29], []), (8, [27, 30, 31, 32, 33], []), (9, [3, 4, 6, 27, 34, 35, 36, 37, 38, 39], [4]), (10, [0, 7, 8, 40, 41, 42, 43, 44, 45, 46, 47, 48, 49, 50, 51], [7, 16, 37, 1016, 1037, 2016, 2037, 3016, 3037])] }
theorem dendronlaw14_WeighKept.ok : cFn Tryd.prog dendronlaw14_WeighKept.hint Tryd.f3 = some dendronlaw14_WeighKept := by kernel_rfl
def dendronlaw14_WeighFacts : R.Fn := ⟨2, [(.t 4)], (.seq (.reg [] [.a 4 (.mv (.c (.bool false)))] [4] [])
  (.seq (.reg [] [.a 8 (.callk F.weigh_New []), .a 5 (.mv (.t 8))] [8] [])
  (.seq (.reg [] [.a 9 (.mv (.t 5)), .a 10 (.mv (.t 1)), .a 11 (.callk F.dendron_weigh_Table_Fact [(true, (.t 9)), (false, (.t 10))])] [1, 9, 10, 11] [11, 1011, 2011, 3011])
  (.seq (.reg [] [.a 13 (.mv (.t 5)), .a 14 (.mv (.t 0)), .a 15 (.callk F.dendron_weigh_Table_Fact [(true, (.t 13)), (false, (.t 14))]), .a 12 (.mv (.t 15)), .a 16 (.ext (.t 12) 0), .a 17 (.ext (.t 12) 1), .a 6 (.new [(.bool false), (.sl 1 [])]), .n (.st 2 (.t 6) (.t 16)), .a 7 (.mv (.t 17))] [5, 12, 13, 14, 15, 16, 17] [])
  (.seq (.seq (.reg [] [.a 18 (.mv (.t 0)), .a 19 (.bin .lss (.t 18) (.c (.int .i64 0))), .a 20 (.mv (.t 19)), .g 21 20 false (.mv (.t 0)), .g 22 20 false (.bin .gtr (.t 21) (.c (.int .i64 64))), .a 23 (.pick (.t 20) (.c (.bool true)) (.t 22))] [18, 19, 20, 21, 22] [])
  (.cond (.t 23) (.seq (.reg [] [.a 24 (.fA 1 (.t 6)), .a 25 (.ld 1 false (.t 24)), .a 26 (.ln (.t 25)), .a 27 (.bin .eql (.t 26) (.c (.int .i64 0))), .a 28 (.mv (.t 27)), .g 29 28 true (.fA 0 (.t 6)), .g 30 28 true (.ld 1 false (.t 29)), .g 31 28 true (.un .not (.t 30)), .a 32 (.pick (.t 28) (.t 31) (.c (.bool false))), .a 33 (.mv (.t 32)), .g 34 33 true (.mv (.t 7)), .g 35 33 true (.bin .eql (.t 34) (.c (.int .i64 8))), .a 36 (.pick (.t 33) (.t 35) (.c (.bool false))), .a 37 (.mv (.t 36)), .g 38 37 true (.call F.dendronlaw14_awake []), .a 39 (.pick (.t 37) (.t 38) (.c (.bool false))), .a 4 (.mv (.t 39))] [0, 6, 7, 23, 24, 25, 26, 27, 28, 29, 30, 31, 32, 33, 34, 35, 36, 37, 38, 39] [6, 8, 15, 1008, 1015, 2008, 2015, 3008, 3015])
  .ret) .skip))
  (.seq (.reg [] [.a 40 (.mv (.t 7)), .a 41 (.bin .eql (.t 40) (.c (.int .i64 0))), .a 42 (.mv (.t 41)), .g 43 42 true (.ld 2 true (.t 6)), .g 44 42 true (.call F.whole_Right [(.t 43)]), .a 45 (.pick (.t 42) (.t 44) (.c (.bool false))), .a 46 (.mv (.t 45)), .g 47 46 true (.ld 2 true (.t 6)), .g 48 46 true (.call F.ratio_Int [(.t 47)]), .g 49 46 true (.mv (.t 0)), .g 50 46 true (.call F.dendronlaw14_fact [(.t 49)]), .g 51 46 true (.call F.ratio_Same [(.t 48), (.t 50)]), .a 52 (.pick (.t 46) (.t 51) (.c (.bool false))), .a 53 (.mv (.t 52)), .g 54 53 true (.call F.dendronlaw14_awake []), .a 55 (.pick (.t 53) (.t 54) (.c (.bool false))), .a 4 (.mv (.t 55))] [0, 6, 7, 23, 40, 41, 42, 43, 44, 45, 46, 47, 48, 49, 50, 51, 52, 53, 54, 55] [6, 8, 15, 1008, 1015, 2008, 2015, 3008, 3015])
  .ret))))))⟩
def dendronlaw14_WeighFacts.hint : R.Hint := { callk := [(8, []), (11, [true, false]), (15, [true, false])], kill := [(0, [4], []), (1, [8], []), (2, [1, 9, 10, 11], [11, 1011, 2011, 3011]), (3, [5, 12, 13, 14, 15, 16, 17], []), (4, [18, 19, 20, 21, 22], []), (5, [0, 6, 7, 23, 24, 25, 26, 27, 28, 29, 30, 31, 32, 33, 34, 35, 36, 37, 38, 39], [6, 8, 15, 1008, 1015, 2008, 2015, 3008, 3015]), (6, [0, 6, 7, 23, 40, 41, 42, 43, 44, 45, 46, 47, 48, 49, 50, 51, 52, 53, 54, 55], [6, 8, 15, 1008, 1015, 2008, 2015, 3008, 3015])] }
theorem dendronlaw14_WeighFacts.ok : cFn Tryd.prog dendronlaw14_WeighFacts.hint Tryd.f4 = some dendronlaw14_WeighFacts := by kernel_rfl
def dendronlaw14_WeighWeights : R.Fn := ⟨2, [(.t 4)], (.seq (.reg [] [.a 4 (.mv (.c (.bool false)))] [4] [])
  (.seq (.reg [] [.a 8 (.callk F.weigh_New []), .a 9 (.mv (.t 0)), .a 10 (.mv (.t 1)), .a 11 (.callk F.dendron_weigh_Table_Weight [(true, (.t 8)), (false, (.t 9)), (false, (.t 10))]), .a 7 (.mv (.t 11)), .a 12 (.ext (.t 7) 0), .a 13 (.ext (.t 7) 1), .a 5 (.new [(.bool false), (.sl 1 []), (.sl 1 [])]), .n (.st 3 (.t 5) (.t 12)), .a 6 (.mv (.t 13))] [7, 8, 9, 10, 11, 12, 13] [])
  (.seq (.seq (.reg [] [.a 14 (.mv (.t 1)), .a 15 (.bin .lss (.t 14) (.c (.int .i64 1))), .a 16 (.mv (.t 15)), .g 17 16 false (.mv (.t 1)), .g 18 16 false (.bin .gtr (.t 17) (.c (.int .i64 64))), .a 19 (.pick (.t 16) (.c (.bool true)) (.t 18)), .a 20 (.mv (.t 19)), .g 21 20 false (.mv (.t 0)), .g 22 20 false (.bin .lss (.t 21) (.c (.int .i64 0))), .a 23 (.pick (.t 20) (.c (.bool true)) (.t 22)), .a 24 (.mv (.t 23)), .g 25 24 false (.mv (.t 0)), .g 26 24 false (.mv (.t 1)), .g 27 24 false (.bin .geq (.t 25) (.t 26)), .a 28 (.pick (.t 24) (.c (.bool true)) (.t 27))] [14, 15, 16, 17, 18, 19, 20, 21, 22, 23, 24, 25, 26, 27] [])
  (.cond (.t 28) (.seq (.reg [] [.a 29 (.fA 2 (.t 5)), .a 30 (.ld 1 false (.t 29)), .a 31 (.ln (.t 30)), .a 32 (.bin .eql (.t 31) (.c (.int .i64 0))), .a 33 (.mv (.t 32)), .g 34 33 true (.mv (.t 6)), .g 35 33 true (.bin .eql (.t 34) (.c (.int .i64 8))), .a 36 (.pick (.t 33) (.t 35) (.c (.bool false))), .a 37 (.mv (.t 36)), .g 38 37 true (.call F.dendronlaw14_awake []), .a 39 (.pick (.t 37) (.t 38) (.c (.bool false))), .a 4 (.mv (.t 39))] [0, 1, 5, 6, 28, 29, 30, 31, 32, 33, 34, 35, 36, 37, 38, 39] [5, 8, 11, 1008, 1011, 2008, 2011, 3008, 3011])
  .ret) .skip))
  (.seq (.reg [] [.a 40 (.mv (.t 6)), .a 41 (.bin .eql (.t 40) (.c (.int .i64 0))), .a 42 (.mv (.t 41)), .g 43 42 true (.ld 3 true (.t 5)), .g 44 42 true (.mv (.t 0)), .g 45 42 true (.call F.dendronlaw14_fact [(.t 44)]), .g 46 42 true (.mv (.t 1)), .g 47 42 true (.mv (.t 0)), .g 48 42 true (.bin .sub (.t 46) (.t 47)), .g 49 42 true (.bin .sub (.t 48) (.c (.int .i64 1))), .g 50 42 true (.call F.dendronlaw14_fact [(.t 49)]), .g 51 42 true (.mv (.t 1)), .g 52 42 true (.call F.dendronlaw14_fact [(.t 51)]), .g 53 42 true (.call F.dendronlaw14_quotient [(.t 45), (.t 50), (.t 52)]), .g 54 42 true (.call F.dendronlaw14_is [(.t 43), (.t 53)]), .a 55 (.pick (.t 42) (.t 54) (.c (.bool false))), .a 56 (.mv (.t 55)), .g 57 56 true (.call F.dendronlaw14_awake []), .a 58 (.pick (.t 56) (.t 57) (.c (.bool false))), .a 4 (.mv (.t 58))] [0, 1, 5, 6, 28, 40, 41, 42, 43, 44, 45, 46, 47, 48, 49, 50, 51, 52, 53, 54, 55, 56, 57, 58] [5, 8, 11, 1008, 1011, 2008, 2011, 3008, 3011])
  .ret))))⟩
def dendronlaw14_WeighWeights.hint : R.Hint := { callk := [(8, []), (11, [true, false, false])], kill := [(0, [4], []), (1, [7, 8, 9, 10, 11, 12, 13], []), (2, [14, 15, 16, 17, 18, 19, 20, 21, 22, 23, 24, 25, 26, 27], []), (3, [0, 1, 5, 6, 28, 29, 30, 31, 32, 33, 34, 35, 36, 37, 38, 39], [5, 8, 11, 1008, 1011, 2008, 2011, 3008, 3011]), (4, [0, 1, 5, 6, 28, 40, 41, 42, 43, 44, 45, 46, 47, 48, 49, 50, 51, 52, 53, 54, 55, 56, 57, 58], [5, 8, 11, 1008, 1011, 2008, 2011, 3008, 3011])] }
theorem dendronlaw14_WeighWeights.ok : cFn Tryd.prog dendronlaw14_WeighWeights.hint Tryd.f5 = some dendronlaw14_WeighWeights := by kernel_rfl
def dendronlaw14_WeighNobody : R.Fn := ⟨2, [(.t 4)], (.seq (.reg [] [.a 4 (.mv (.c (.bool false)))] [4] [])
  (.seq (.reg [] [.a 5 (.mv (.c (.raw (.pointer none))))] [] [])
  (.seq (.reg [] [.a 18 (.mv (.t 5)), .a 19 (.mv (.t 1)), .a 20 (.call F.dendron_weigh_Table_Fact [(.t 18), (.t 19)]), .a 17 (.mv (.t 20)), .a 21 (.ext (.t 17) 0), .a 22 (.ext (.t 17) 1), .a 6 (.new [(.bool false), (.sl 1 [])]), .n (.st 2 (.t 6) (.t 21)), .a 7 (.mv (.t 22))] [6, 17, 18, 19, 20, 21, 22] [6])
  (.seq (.reg [] [.a 24 (.mv (.t 5)), .a 25 (.mv (.t 0)), .a 26 (.mv (.t 1)), .a 27 (.call F.dendron_weigh_Table_Weight [(.t 24), (.t 25), (.t 26)]), .a 23 (.mv (.t 27)), .a 28 (.ext (.t 23) 0), .a 29 (.ext (.t 23) 1), .a 8 (.new [(.bool false), (.sl 1 []), (.sl 1 [])]), .n (.st 3 (.t 8) (.t 28)), .a 9 (.mv (.t 29))] [8, 23, 24, 25, 26, 27, 28, 29] [8])
  (.seq (.reg [] [.a 31 (.mv (.t 5)), .a 32 (.mv (.t 0)), .a 33 (.mv (.t 1)), .a 34 (.call F.dendron_weigh_Table_Pair [(.t 31), (.t 32), (.t 33)]), .a 30 (.mv (.t 34)), .a 35 (.ext (.t 30) 0), .a 36 (.ext (.t 30) 1), .a 10 (.new [(.bool false), (.sl 1 []), (.sl 1 [])]), .n (.st 3 (.t 10) (.t 35)), .a 11 (.mv (.t 36))] [10, 30, 31, 32, 33, 34, 35, 36] [10])
  (.seq (.reg [] [.a 38 (.mv (.t 5)), .a 39 (.mv (.t 0)), .a 40 (.mv (.t 1)), .a 41 (.call F.dendron_weigh_Table_Need [(.t 38), (.t 39), (.t 40)]), .a 37 (.mv (.t 41)), .a 42 (.ext (.t 37) 0), .a 43 (.ext (.t 37) 1), .a 44 (.ext (.t 37) 2), .a 12 (.new [(.bool false), (.sl 1 []), (.sl 1 [])]), .a 13 (.new [(.bool false), (.sl 1 []), (.sl 1 [])]), .n (.st 3 (.t 12) (.t 42)), .n (.st 3 (.t 13) (.t 43)), .a 14 (.mv (.t 44))] [0, 12, 13, 37, 38, 39, 40, 41, 42, 43, 44] [12, 13])
  (.seq (.reg [] [.a 46 (.mv (.t 5)), .a 47 (.mv (.t 1)), .a 48 (.call F.dendron_weigh_Table_All [(.t 46), (.t 47)]), .a 45 (.mv (.t 48)), .a 49 (.ext (.t 45) 0), .a 50 (.ext (.t 45) 1), .a 15 (.mv (.t 49)), .a 16 (.mv (.t 50))] [1, 5, 45, 46, 47, 48, 49, 50] [])
  (.seq (.reg [] [.a 51 (.mv (.t 7)), .a 52 (.bin .eql (.t 51) (.c (.int .i64 18))), .a 53 (.mv (.t 52)), .g 54 53 true (.mv (.t 9)), .g 55 53 true (.bin .eql (.t 54) (.c (.int .i64 18))), .a 56 (.pick (.t 53) (.t 55) (.c (.bool false))), .a 57 (.mv (.t 56)), .g 58 57 true (.mv (.t 11)), .g 59 57 true (.bin .eql (.t 58) (.c (.int .i64 18))), .a 60 (.pick (.t 57) (.t 59) (.c (.bool false))), .a 61 (.mv (.t 60)), .g 62 61 true (.mv (.t 14)), .g 63 61 true (.bin .eql (.t 62) (.c (.int .i64 18))), .a 64 (.pick (.t 61) (.t 63) (.c (.bool false))), .a 65 (.mv (.t 64)), .g 66 65 true (.mv (.t 16)), .g 67 65 true (.bin .eql (.t 66) (.c (.int .i64 18))), .a 68 (.pick (.t 65) (.t 67) (.c (.bool false))), .a 69 (.mv (.t 68)), .g 70 69 true (.mv (.t 15)), .g 71 69 true (.ln (.t 70)), .g 72 69 true (.bin .eql (.t 71) (.c (.int .i64 0))), .a 73 (.pick (.t 69) (.t 72) (.c (.bool false))), .a 74 (.mv (.t 73)), .g 75 74 true (.call F.dendronlaw14_awake []), .a 76 (.pick (.t 74) (.t 75) (.c (.bool false))), .a 4 (.mv (.t 76))] [7, 9, 11, 14, 15, 16, 51, 52, 53, 54, 55, 56, 57, 58, 59, 60, 61, 62, 63, 64, 65, 66, 67, 68, 69, 70, 71, 72, 73, 74, 75, 76] [])
  .ret))))))))⟩
def dendronlaw14_WeighNobody.hint : R.Hint := { kill := [(0, [4], []), (2, [6, 17, 18, 19, 20, 21, 22], [6]), (3, [8, 23, 24, 25, 26, 27, 28, 29], [8]), (4, [10, 30, 31, 32, 33, 34, 35, 36], [10]), (5, [0, 12, 13, 37, 38, 39, 40, 41, 42, 43, 44], [12, 13]), (6, [1, 5, 45, 46, 47, 48, 49, 50], []), (7, [7, 9, 11, 14, 15, 16, 51, 52, 53, 54, 55, 56, 57, 58, 59, 60, 61, 62, 63, 64, 65, 66, 67, 68, 69, 70, 71, 72, 73, 74, 75, 76], [])] }
theorem dendronlaw14_WeighNobody.ok : cFn Tryd.prog dendronlaw14_WeighNobody.hint Tryd.f6 = some dendronlaw14_WeighNobody := by kernel_rfl
def dendronlaw14_WeighPairs : R.Fn := ⟨2, [(.t 4)], (.seq (.reg [] [.a 4 (.mv (.c (.bool false)))] [4] [])
  (.seq (.reg [] [.a 8 (.callk F.weigh_New []), .a 9 (.mv (.t 0)), .a 10 (.mv (.t 1)), .a 11 (.callk F.dendron_weigh_Table_Pair [(true, (.t 8)), (false, (.t 9)), (false, (.t 10))]), .a 7 (.mv (.t 11)), .a 12 (.ext (.t 7) 0), .a 13 (.ext (.t 7) 1), .a 5 (.new [(.bool false), (.sl 1 []), (.sl 1 [])]), .n (.st 3 (.t 5) (.t 12)), .a 6 (.mv (.t 13))] [7, 8, 9, 10, 11, 12, 13] [])
  (.seq (.seq (.reg [] [.a 14 (.mv (.t 1)), .a 15 (.bin .lss (.t 14) (.c (.int .i64 2))), .a 16 (.mv (.t 15)), .g 17 16 false (.mv (.t 1)), .g 18 16 false (.bin .gtr (.t 17) (.c (.int .i64 64))), .a 19 (.pick (.t 16) (.c (.bool true)) (.t 18)), .a 20 (.mv (.t 19)), .g 21 20 false (.mv (.t 0)), .g 22 20 false (.bin .lss (.t 21) (.c (.int .i64 0))), .a 23 (.pick (.t 20) (.c (.bool true)) (.t 22)), .a 24 (.mv (.t 23)), .g 25 24 false (.mv (.t 0)), .g 26 24 false (.mv (.t 1)), .g 27 24 false (.bin .sub (.t 26) (.c (.int .i64 1))), .g 28 24 false (.bin .geq (.t 25) (.t 27)), .a 29 (.pick (.t 24) (.c (.bool true)) (.t 28))] [14, 15, 16, 17, 18, 19, 20, 21, 22, 23, 24, 25, 26, 27, 28] [])
  (.cond (.t 29) (.seq (.reg [] [.a 30 (.fA 2 (.t 5)), .a 31 (.ld 1 false (.t 30)), .a 32 (.ln (.t 31)), .a 33 (.bin .eql (.t 32) (.c (.int .i64 0))), .a 34 (.mv (.t 33)), .g 35 34 true (.mv (.t 6)), .g 36 34 true (.bin .eql (.t 35) (.c (.int .i64 8))), .a 37 (.pick (.t 34) (.t 36) (.c (.bool false))), .a 38 (.mv (.t 37)), .g 39 38 true (.call F.dendronlaw14_awake []), .a 40 (.pick (.t 38) (.t 39) (.c (.bool false))), .a 4 (.mv (.t 40))] [0, 1, 5, 6, 29, 30, 31, 32, 33, 34, 35, 36, 37, 38, 39, 40] [5, 8, 11, 1008, 1011, 2008, 2011, 3008, 3011])
  .ret) .skip))
  (.seq (.reg [] [.a 41 (.mv (.t 6)), .a 42 (.bin .eql (.t 41) (.c (.int .i64 0))), .a 43 (.mv (.t 42)), .g 44 43 true (.ld 3 true (.t 5)), .g 45 43 true (.mv (.t 0)), .g 46 43 true (.call F.dendronlaw14_fact [(.t 45)]), .g 47 43 true (.mv (.t 1)), .g 48 43 true (.mv (.t 0)), .g 49 43 true (.bin .sub (.t 47) (.t 48)), .g 50 43 true (.bin .sub (.t 49) (.c (.int .i64 2))), .g 51 43 true (.call F.dendronlaw14_fact [(.t 50)]), .g 52 43 true (.call F.ratio_Of [(.c (.int .i64 2))]), .g 53 43 true (.mv (.t 1)), .g 54 43 true (.bin .sub (.t 53) (.c (.int .i64 1))), .g 55 43 true (.call F.dendronlaw14_fact [(.t 54)]), .g 56 43 true (.call F.ratio_Mul [(.t 52), (.t 55)]), .g 57 43 true (.call F.dendronlaw14_quotient [(.t 46), (.t 51), (.t 56)]), .g 58 43 true (.call F.dendronlaw14_is [(.t 44), (.t 57)]), .a 59 (.pick (.t 43) (.t 58) (.c (.bool false))), .a 60 (.mv (.t 59)), .g 61 60 true (.call F.dendronlaw14_awake []), .a 62 (.pick (.t 60) (.t 61) (.c (.bool false))), .a 4 (.mv (.t 62))] [0, 1, 5, 6, 29, 41, 42, 43, 44, 45, 46, 47, 48, 49, 50, 51, 52, 53, 54, 55, 56, 57, 58, 59, 60, 61, 62] [5, 8, 11, 1008, 1011, 2008, 2011, 3008, 3011])
  .ret))))⟩
def dendronlaw14_WeighPairs.hint : R.Hint := { callk := [(8, []), (11, [true, false, false])], kill := [(0, [4], []), (1, [7, 8, 9, 10, 11, 12, 13], []), (2, [14, 15, 16, 17, 18, 19, 20, 21, 22, 23, 24, 25, 26, 27, 28], []), (3, [0, 1, 5, 6, 29, 30, 31, 32, 33, 34, 35, 36, 37, 38, 39, 40], [5, 8, 11, 1008, 1011, 2008, 2011, 3008, 3011]), (4, [0, 1, 5, 6, 29, 41, 42, 43, 44, 45, 46, 47, 48, 49, 50, 51, 52, 53, 54, 55, 56, 57, 58, 59, 60, 61, 62], [5, 8, 11, 1008, 1011, 2008, 2011, 3008, 3011])] }
theorem dendronlaw14_WeighPairs.ok : cFn Tryd.prog dendronlaw14_WeighPairs.hint Tryd.f7 = some dendronlaw14_WeighPairs := by kernel_rfl
def dendronlaw14_WeighNeeds : R.Fn := ⟨2, [(.t 4)], (.seq (.reg [] [.a 4 (.mv (.c (.bool false)))] [4] [])
  (.seq (.reg [] [.a 13 (.callk F.weigh_New []), .a 14 (.mv (.t 0)), .a 15 (.mv (.t 1)), .a 16 (.callk F.dendron_weigh_Table_Need [(true, (.t 13)), (false, (.t 14)), (false, (.t 15))]), .a 12 (.mv (.t 16)), .a 17 (.ext (.t 12) 0), .a 18 (.ext (.t 12) 1), .a 19 (.ext (.t 12) 2), .a 5 (.new [(.bool false), (.sl 1 []), (.sl 1 [])]), .a 6 (.new [(.bool false), (.sl 1 []), (.sl 1 [])]), .n (.st 3 (.t 5) (.t 17)), .n (.st 3 (.t 6) (.t 18)), .a 7 (.mv (.t 19))] [12, 13, 14, 15, 16, 17, 18, 19] [])
  (.seq (.seq (.reg [] [.a 20 (.mv (.t 0)), .a 21 (.bin .lss (.t 20) (.c (.int .i64 0))), .a 22 (.mv (.t 21)), .g 23 22 false (.mv (.t 1)), .g 24 22 false (.bin .lss (.t 23) (.c (.int .i64 0))), .a 25 (.pick (.t 22) (.c (.bool true)) (.t 24)), .a 26 (.mv (.t 25)), .g 27 26 false (.mv (.t 0)), .g 28 26 false (.bin .gtr (.t 27) (.c (.int .i64 64))), .a 29 (.pick (.t 26) (.c (.bool true)) (.t 28)), .a 30 (.mv (.t 29)), .g 31 30 false (.mv (.t 1)), .g 32 30 false (.mv (.t 0)), .g 33 30 false (.bin .sub (.c (.int .i64 64)) (.t 32)), .g 34 30 false (.bin .gtr (.t 31) (.t 33)), .a 35 (.pick (.t 30) (.c (.bool true)) (.t 34))] [20, 21, 22, 23, 24, 25, 26, 27, 28, 29, 30, 31, 32, 33, 34] [])
  (.cond (.t 35) (.seq (.reg [] [.a 36 (.fA 2 (.t 5)), .a 37 (.ld 1 false (.t 36)), .a 38 (.ln (.t 37)), .a 39 (.fA 2 (.t 6)), .a 40 (.ld 1 false (.t 39)), .a 41 (.ln (.t 40)), .a 42 (.bin .add (.t 38) (.t 41)), .a 43 (.bin .eql (.t 42) (.c (.int .i64 0))), .a 44 (.mv (.t 43)), .g 45 44 true (.mv (.t 7)), .g 46 44 true (.bin .eql (.t 45) (.c (.int .i64 8))), .a 47 (.pick (.t 44) (.t 46) (.c (.bool false))), .a 48 (.mv (.t 47)), .g 49 48 true (.call F.dendronlaw14_awake []), .a 50 (.pick (.t 48) (.t 49) (.c (.bool false))), .a 4 (.mv (.t 50))] [0, 1, 5, 6, 7, 35, 36, 37, 38, 39, 40, 41, 42, 43, 44, 45, 46, 47, 48, 49, 50] [5, 6, 13, 16, 1013, 1016, 2013, 2016, 3013, 3016])
  .ret) .skip))
  (.seq (.reg [] [.a 51 (.call F.ratio_Zero []), .a 8 (.new [(.bool false), (.sl 1 []), (.sl 1 [])]), .n (.st 3 (.t 8) (.t 51))] [35, 51] [])
  (.seq (.reg [] [.a 52 (.call F.ratio_Zero []), .a 9 (.new [(.bool false), (.sl 1 []), (.sl 1 [])]), .n (.st 3 (.t 9) (.t 52))] [52] [])
  (.seq (.seq (.reg [] [.a 53 (.mv (.t 0)), .a 54 (.bin .gtr (.t 53) (.c (.int .i64 0)))] [53] [])
  (.cond (.t 54) (.reg [] [.a 55 (.mv (.t 0)), .a 56 (.bin .sub (.t 55) (.c (.int .i64 1))), .a 57 (.call F.dendronlaw14_fact [(.t 56)]), .a 58 (.mv (.t 1)), .a 59 (.call F.dendronlaw14_fact [(.t 58)]), .a 60 (.mv (.t 0)), .a 61 (.mv (.t 1)), .a 62 (.bin .add (.t 60) (.t 61)), .a 63 (.call F.dendronlaw14_fact [(.t 62)]), .a 64 (.call F.dendronlaw14_quotient [(.t 57), (.t 59), (.t 63)]), .n (.st 3 (.t 8) (.t 64))] [54, 55, 56, 57, 58, 59, 60, 61, 62, 63, 64] []) .skip))
  (.seq (.seq (.reg [] [.a 65 (.mv (.t 1)), .a 66 (.bin .gtr (.t 65) (.c (.int .i64 0)))] [54, 65] [])
  (.cond (.t 66) (.reg [] [.a 67 (.mv (.t 0)), .a 68 (.call F.dendronlaw14_fact [(.t 67)]), .a 69 (.mv (.t 1)), .a 70 (.bin .sub (.t 69) (.c (.int .i64 1))), .a 71 (.call F.dendronlaw14_fact [(.t 70)]), .a 72 (.mv (.t 0)), .a 73 (.mv (.t 1)), .a 74 (.bin .add (.t 72) (.t 73)), .a 75 (.call F.dendronlaw14_fact [(.t 74)]), .a 76 (.call F.dendronlaw14_quotient [(.t 68), (.t 71), (.t 75)]), .a 77 (.call F.ratio_Neg [(.t 76)]), .n (.st 3 (.t 9) (.t 77))] [66, 67, 68, 69, 70, 71, 72, 73, 74, 75, 76, 77] []) .skip))
  (.seq (.reg [] [.a 78 (.mv (.t 0)), .a 79 (.call F.ratio_Of [(.t 78)]), .a 80 (.ld 3 true (.t 5)), .a 81 (.call F.ratio_Mul [(.t 79), (.t 80)]), .a 82 (.mv (.t 1)), .a 83 (.call F.ratio_Of [(.t 82)]), .a 84 (.ld 3 true (.t 6)), .a 85 (.call F.ratio_Mul [(.t 83), (.t 84)]), .a 86 (.call F.ratio_Add [(.t 81), (.t 85)]), .a 10 (.new [(.bool false), (.sl 1 []), (.sl 1 [])]), .n (.st 3 (.t 10) (.t 86))] [66, 78, 79, 80, 81, 82, 83, 84, 85, 86] [])
  (.seq (.reg [] [.a 11 (.mv (.c (.int .i64 0)))] [] [])
  (.seq (.seq (.reg [] [.a 87 (.mv (.t 0)), .a 88 (.bin .gtr (.t 87) (.c (.int .i64 0))), .a 89 (.mv (.t 88)), .g 90 89 true (.mv (.t 1)), .g 91 89 true (.bin .eql (.t 90) (.c (.int .i64 0))), .a 92 (.pick (.t 89) (.t 91) (.c (.bool false)))] [87, 88, 89, 90, 91] [])
  (.cond (.t 92) (.reg [] [.a 11 (.mv (.c (.int .i64 1)))] [92] []) .skip))
  (.seq (.seq (.reg [] [.a 93 (.mv (.t 1)), .a 94 (.bin .gtr (.t 93) (.c (.int .i64 0))), .a 95 (.mv (.t 94)), .g 96 95 true (.mv (.t 0)), .g 97 95 true (.bin .eql (.t 96) (.c (.int .i64 0))), .a 98 (.pick (.t 95) (.t 97) (.c (.bool false)))] [0, 1, 92, 93, 94, 95, 96, 97] [])
  (.cond (.t 98) (.reg [] [.a 11 (.mv (.c (.int .i64 (-1))))] [98] []) .skip))
  (.seq (.reg [] [.a 99 (.mv (.t 7)), .a 100 (.bin .eql (.t 99) (.c (.int .i64 0))), .a 101 (.mv (.t 100)), .g 102 101 true (.ld 3 true (.t 5)), .g 103 101 true (.ld 3 true (.t 8)), .g 104 101 true (.call F.dendronlaw14_is [(.t 102), (.t 103)]), .a 105 (.pick (.t 101) (.t 104) (.c (.bool false))), .a 106 (.mv (.t 105)), .g 107 106 true (.ld 3 true (.t 6)), .g 108 106 true (.ld 3 true (.t 9)), .g 109 106 true (.call F.dendronlaw14_is [(.t 107), (.t 108)]), .a 110 (.pick (.t 106) (.t 109) (.c (.bool false))), .a 111 (.mv (.t 110)), .g 112 111 true (.ld 3 true (.t 10)), .g 113 111 true (.mv (.t 11)), .g 114 111 true (.call F.ratio_Of [(.t 113)]), .g 115 111 true (.call F.ratio_Same [(.t 112), (.t 114)]), .a 116 (.pick (.t 111) (.t 115) (.c (.bool false))), .a 117 (.mv (.t 116)), .g 118 117 true (.call F.dendronlaw14_awake []), .a 119 (.pick (.t 117) (.t 118) (.c (.bool false))), .a 4 (.mv (.t 119))] [5, 6, 7, 8, 9, 10, 11, 98, 99, 100, 101, 102, 103, 104, 105, 106, 107, 108, 109, 110, 111, 112, 113, 114, 115, 116, 117, 118, 119] [5, 6, 8, 9, 10, 13, 16, 1013, 1016, 2013, 2016, 3013, 3016])
  .ret))))))))))))⟩
def dendronlaw14_WeighNeeds.hint : R.Hint := { callk := [(13, []), (16, [true, false, false])], kill := [(0, [4], []), (1, [12, 13, 14, 15, 16, 17, 18, 19], []), (2, [20, 21, 22, 23, 24, 25, 26, 27, 28, 29, 30, 31, 32, 33, 34], []), (3, [0, 1, 5, 6, 7, 35, 36, 37, 38, 39, 40, 41, 42, 43, 44, 45, 46, 47, 48, 49, 50], [5, 6, 13, 16, 1013, 1016, 2013, 2016, 3013, 3016]), (4, [35, 51], []), (5, [52], []), (6, [53], []), (7, [54, 55, 56, 57, 58, 59, 60, 61, 62, 63, 64], []), (8, [54, 65], []), (9, [66, 67, 68, 69, 70, 71, 72, 73, 74, 75, 76, 77], []), (10, [66, 78, 79, 80, 81, 82, 83, 84, 85, 86], []), (12, [87, 88, 89, 90, 91], []), (13, [92], []), (14, [0, 1, 92, 93, 94, 95, 96, 97], []), (15, [98], []), (16, [5, 6, 7, 8, 9, 10, 11, 98, 99, 100, 101, 102, 103, 104, 105, 106, 107, 108, 109, 110, 111, 112, 113, 114, 115, 116, 117, 118, 119], [5, 6, 8, 9, 10, 13, 16, 1013, 1016, 2013, 2016, 3013, 3016])] }
theorem dendronlaw14_WeighNeeds.ok : cFn Tryd.prog dendronlaw14_WeighNeeds.hint Tryd.f8 = some dendronlaw14_WeighNeeds := by kernel_rfl
def dendronlaw14_WeighAll.b0 : R.C := (.seq (.seq (.reg [] [.a 40 (.mv (.t 6)), .a 41 (.mv (.t 0)), .a 42 (.bin .lss (.t 40) (.t 41))] [40, 41] [])
  (.cond (.t 42) .skip (.exit 0)))
  (.seq (.block 1 (.seq (.reg [] [.a 45 (.mv (.t 6)), .a 46 (.call F.dendronlaw14_fact [(.t 45)]), .a 47 (.mv (.t 0)), .a 48 (.mv (.t 6)), .a 49 (.bin .sub (.t 47) (.t 48)), .a 50 (.bin .sub (.t 49) (.c (.int .i64 1))), .a 51 (.call F.dendronlaw14_fact [(.t 50)]), .a 52 (.mv (.t 0)), .a 53 (.call F.dendronlaw14_fact [(.t 52)]), .a 54 (.call F.dendronlaw14_quotient [(.t 46), (.t 51), (.t 53)]), .a 7 (.new [(.bool false), (.sl 1 []), (.sl 1 [])]), .n (.st 3 (.t 7) (.t 54))] [42, 45, 46, 47, 48, 49, 50, 51, 52, 53, 54] [])
  (.seq (.seq (.reg [] [.a 55 (.mv (.t 3)), .a 56 (.mv (.t 6)), .a 57 (.iA 3 (.t 55) (.t 56)), .a 58 (.ld 3 true (.t 57)), .a 59 (.ld 3 true (.t 7)), .a 60 (.call F.dendronlaw14_is [(.t 58), (.t 59)]), .a 61 (.un .not (.t 60))] [7, 55, 56, 57, 58, 59, 60] [7])
  (.cond (.t 61) (.seq (.reg [] [.a 2 (.mv (.c (.bool false)))] [0, 3, 5, 6, 61] [5, 10, 12, 1010, 1012, 2010, 2012, 3010, 3012])
  .ret) .skip))
  (.seq (.reg [] [.a 62 (.mv (.t 0)), .a 63 (.bin .sub (.t 62) (.c (.int .i64 1))), .a 64 (.call F.dendronlaw14_fact [(.t 63)]), .a 65 (.call F.ratio_One []), .a 66 (.mv (.t 6)), .a 67 (.call F.dendronlaw14_fact [(.t 66)]), .a 68 (.mv (.t 0)), .a 69 (.bin .sub (.t 68) (.c (.int .i64 1))), .a 70 (.mv (.t 6)), .a 71 (.bin .sub (.t 69) (.t 70)), .a 72 (.call F.dendronlaw14_fact [(.t 71)]), .a 73 (.call F.ratio_Mul [(.t 67), (.t 72)]), .a 74 (.call F.dendronlaw14_quotient [(.t 64), (.t 65), (.t 73)]), .a 8 (.new [(.bool false), (.sl 1 []), (.sl 1 [])]), .n (.st 3 (.t 8) (.t 74))] [61, 62, 63, 64, 65, 66, 67, 68, 69, 70, 71, 72, 73, 74] [])
  (.reg [21474836485, 34359738376] [.a 75 (.ld 3 true (.t 5)), .a 76 (.ld 3 true (.t 8)), .a 77 (.mv (.t 3)), .a 78 (.mv (.t 6)), .a 79 (.iA 3 (.t 77) (.t 78)), .a 80 (.ld 3 true (.t 79)), .a 81 (.call F.ratio_Mul [(.t 76), (.t 80)]), .a 82 (.call F.ratio_Add [(.t 75), (.t 81)]), .n (.st 3 (.t 5) (.t 82))] [8, 75, 76, 77, 78, 79, 80, 81, 82] [8])))))
  (.reg [] [.a 43 (.mv (.t 6)), .a 44 (.bin .add (.t 43) (.c (.int .i64 1))), .a 6 (.mv (.t 44))] [43, 44] [])))
def dendronlaw14_WeighAll : R.Fn := ⟨1, [(.t 2)], (.seq (.reg [] [.a 2 (.mv (.c (.bool false)))] [2] [])
  (.seq (.reg [] [.a 10 (.callk F.weigh_New []), .a 11 (.mv (.t 0)), .a 12 (.callk F.dendron_weigh_Table_All [(true, (.t 10)), (false, (.t 11))]), .a 9 (.mv (.t 12)), .a 13 (.ext (.t 9) 0), .a 14 (.ext (.t 9) 1), .a 3 (.mv (.t 13)), .a 4 (.mv (.t 14))] [9, 10, 11, 12, 13, 14] [])
  (.seq (.seq (.reg [] [.a 15 (.mv (.t 0)), .a 16 (.bin .lss (.t 15) (.c (.int .i64 1))), .a 17 (.mv (.t 16)), .g 18 17 false (.mv (.t 0)), .g 19 17 false (.bin .gtr (.t 18) (.c (.int .i64 64))), .a 20 (.pick (.t 17) (.c (.bool true)) (.t 19))] [15, 16, 17, 18, 19] [])
  (.cond (.t 20) (.seq (.reg [] [.a 21 (.mv (.t 3)), .a 22 (.ln (.t 21)), .a 23 (.bin .eql (.t 22) (.c (.int .i64 0))), .a 24 (.mv (.t 23)), .g 25 24 true (.mv (.t 4)), .g 26 24 true (.bin .eql (.t 25) (.c (.int .i64 8))), .a 27 (.pick (.t 24) (.t 26) (.c (.bool false))), .a 28 (.mv (.t 27)), .g 29 28 true (.call F.dendronlaw14_awake []), .a 30 (.pick (.t 28) (.t 29) (.c (.bool false))), .a 2 (.mv (.t 30))] [0, 3, 4, 20, 21, 22, 23, 24, 25, 26, 27, 28, 29, 30] [10, 12, 1010, 1012, 2010, 2012, 3010, 3012])
  .ret) .skip))
  (.seq (.reg [] [.a 31 (.call F.ratio_Zero []), .a 5 (.new [(.bool false), (.sl 1 []), (.sl 1 [])]), .n (.st 3 (.t 5) (.t 31))] [20, 31] [])
  (.seq (.seq (.reg [] [.a 32 (.mv (.t 4)), .a 33 (.bin .neq (.t 32) (.c (.int .i64 0))), .a 34 (.mv (.t 33)), .g 35 34 false (.mv (.t 3)), .g 36 34 false (.ln (.t 35)), .g 37 34 false (.mv (.t 0)), .g 38 34 false (.bin .neq (.t 36) (.t 37)), .a 39 (.pick (.t 34) (.c (.bool true)) (.t 38))] [4, 32, 33, 34, 35, 36, 37, 38] [])
  (.cond (.t 39) (.seq (.reg [] [.a 2 (.mv (.c (.bool false)))] [0, 3, 5, 39] [5, 10, 12, 1010, 1012, 2010, 2012, 3010, 3012])
  .ret) .skip))
  (.seq (.seq (.reg [] [.a 6 (.mv (.c (.int .i64 0)))] [39] [])
  (.block 0 (.loop [] [] dendronlaw14_WeighAll.b0)))
  (.seq (.reg [] [.a 83 (.ld 3 true (.t 5)), .a 84 (.call F.ratio_One []), .a 85 (.call F.ratio_Same [(.t 83), (.t 84)]), .a 86 (.mv (.t 85)), .g 87 86 true (.call F.dendronlaw14_awake []), .a 88 (.pick (.t 86) (.t 87) (.c (.bool false))), .a 2 (.mv (.t 88))] [0, 3, 5, 6, 42, 83, 84, 85, 86, 87, 88] [5, 10, 12, 1010, 1012, 2010, 2012, 3010, 3012])
  .ret)))))))⟩
def dendronlaw14_WeighAll.hint : R.Hint := { callk := [(10, []), (12, [true, false])], pub := [(14, [21474836485, 34359738376])], kill := [(0, [2], []), (1, [9, 10, 11, 12, 13, 14], []), (2, [15, 16, 17, 18, 19], []), (3, [0, 3, 4, 20, 21, 22, 23, 24, 25, 26, 27, 28, 29, 30], [10, 12, 1010, 1012, 2010, 2012, 3010, 3012]), (4, [20, 31], []), (5, [4, 32, 33, 34, 35, 36, 37, 38], []), (6, [0, 3, 5, 39], [5, 10, 12, 1010, 1012, 2010, 2012, 3010, 3012]), (7, [39], []), (8, [40, 41], []), (9, [43, 44], []), (10, [42, 45, 46, 47, 48, 49, 50, 51, 52, 53, 54], []), (11, [7, 55, 56, 57, 58, 59, 60], [7]), (12, [0, 3, 5, 6, 61], [5, 10, 12, 1010, 1012, 2010, 2012, 3010, 3012]), (13, [61, 62, 63, 64, 65, 66, 67, 68, 69, 70, 71, 72, 73, 74], []), (14, [8, 75, 76, 77, 78, 79, 80, 81, 82], [8]), (15, [0, 3, 5, 6, 42, 83, 84, 85, 86, 87, 88], [5, 10, 12, 1010, 1012, 2010, 2012, 3010, 3012])] }
theorem dendronlaw14_WeighAll.ok : cFn Tryd.prog dendronlaw14_WeighAll.hint Tryd.f9 = some dendronlaw14_WeighAll := by kernel_rfl
def dendronlaw19_GameAlikes : R.Fn := ⟨3, [(.t 6)], (.seq (.reg [] [.a 6 (.mv (.c (.bool false)))] [6] [])
  (.seq (.reg [] [.a 11 (.mv (.t 0)), .a 12 (.call F.dendronlaw19_Few [(.t 11)]), .a 0 (.mv (.t 12))] [11, 12] [])
  (.seq (.reg [] [.a 13 (.mv (.t 0)), .a 14 (.mv (.t 1)), .a 15 (.mv (.t 2)), .a 16 (.call F.game_Alike [(.t 13), (.t 14), (.t 15)]), .a 7 (.mv (.t 16))] [13, 14, 15, 16] [])
  (.seq (.reg [] [.a 17 (.mv (.t 0)), .a 18 (.call F.dendronlaw19_Size [(.t 17)]), .a 8 (.mv (.t 18))] [17, 18] [])
  (.seq (.seq (.reg [] [.a 19 (.mv (.t 8)), .a 20 (.bin .lss (.t 19) (.c (.int .i64 0))), .a 21 (.mv (.t 20)), .g 22 21 false (.mv (.t 1)), .g 23 21 false (.bin .lss (.t 22) (.c (.int .i64 0))), .a 24 (.pick (.t 21) (.c (.bool true)) (.t 23)), .a 25 (.mv (.t 24)), .g 26 25 false (.mv (.t 1)), .g 27 25 false (.mv (.t 8)), .g 28 25 false (.bin .geq (.t 26) (.t 27)), .a 29 (.pick (.t 25) (.c (.bool true)) (.t 28)), .a 30 (.mv (.t 29)), .g 31 30 false (.mv (.t 2)), .g 32 30 false (.bin .lss (.t 31) (.c (.int .i64 0))), .a 33 (.pick (.t 30) (.c (.bool true)) (.t 32)), .a 34 (.mv (.t 33)), .g 35 34 false (.mv (.t 2)), .g 36 34 false (.mv (.t 8)), .g 37 34 false (.bin .geq (.t 35) (.t 36)), .a 38 (.pick (.t 34) (.c (.bool true)) (.t 37))] [19, 20, 21, 22, 23, 24, 25, 26, 27, 28, 29, 30, 31, 32, 33, 34, 35, 36, 37] [])
  (.cond (.t 38) (.seq (.reg [] [.a 39 (.mv (.t 7)), .a 40 (.un .not (.t 39)), .a 41 (.mv (.t 40)), .g 42 41 true (.call F.dendronlaw19_awake []), .a 43 (.pick (.t 41) (.t 42) (.c (.bool false))), .a 6 (.mv (.t 43))] [0, 1, 2, 7, 8, 38, 39, 40, 41, 42, 43] [])
  .ret) .skip))
  (.seq (.reg [] [.a 45 (.mv (.t 0)), .a 46 (.call F.game_Shapley [(.t 45)]), .a 44 (.mv (.t 46)), .a 47 (.ext (.t 44) 0), .a 48 (.ext (.t 44) 1), .a 9 (.mv (.t 47)), .a 10 (.mv (.t 48))] [38, 44, 45, 46, 47, 48] [])
  (.seq (.reg [] [.a 49 (.mv (.t 7)), .a 50 (.mv (.t 0)), .a 51 (.mv (.t 1)), .a 52 (.mv (.t 2)), .a 53 (.call F.dendronlaw19_alike [(.t 50), (.t 51), (.t 52)]), .a 54 (.beq false (.t 49) (.t 53)), .a 55 (.mv (.t 54)), .g 56 55 true (.mv (.t 10)), .g 57 55 true (.bin .eql (.t 56) (.c (.int .i64 0))), .a 58 (.pick (.t 55) (.t 57) (.c (.bool false))), .a 59 (.mv (.t 58)), .g 60 59 true (.mv (.t 9)), .g 61 59 true (.ln (.t 60)), .g 62 59 true (.mv (.t 8)), .g 63 59 true (.bin .eql (.t 61) (.t 62)), .a 64 (.pick (.t 59) (.t 63) (.c (.bool false))), .a 65 (.mv (.t 64)), .g 66 65 true (.mv (.t 7)), .g 67 65 true (.un .not (.t 66)), .g 68 65 true (.mv (.t 67)), .g 69 68 false (.mv (.t 9)), .g 70 68 false (.mv (.t 1)), .g 71 68 false (.iA 3 (.t 69) (.t 70)), .g 72 68 false (.ld 3 true (.t 71)), .g 73 68 false (.mv (.t 9)), .g 74 68 false (.mv (.t 2)), .g 75 68 false (.iA 3 (.t 73) (.t 74)), .g 76 68 false (.ld 3 true (.t 75)), .g 77 68 false (.call F.ratio_Same [(.t 72), (.t 76)]), .g 78 65 true (.pick (.t 68) (.c (.bool true)) (.t 77)), .a 79 (.pick (.t 65) (.t 78) (.c (.bool false))), .a 80 (.mv (.t 79)), .g 81 80 true (.call F.dendronlaw19_awake []), .a 82 (.pick (.t 80) (.t 81) (.c (.bool false))), .a 6 (.mv (.t 82))] [0, 1, 2, 7, 8, 9, 10, 49, 50, 51, 52, 53, 54, 55, 56, 57, 58, 59, 60, 61, 62, 63, 64, 65, 66, 67, 68, 69, 70, 71, 72, 73, 74, 75, 76, 77, 78, 79, 80, 81, 82] [])
  .ret)))))))⟩
def dendronlaw19_GameAlikes.hint : R.Hint := { kill := [(0, [6], []), (1, [11, 12], []), (2, [13, 14, 15, 16], []), (3, [17, 18], []), (4, [19, 20, 21, 22, 23, 24, 25, 26, 27, 28, 29, 30, 31, 32, 33, 34, 35, 36, 37], []), (5, [0, 1, 2, 7, 8, 38, 39, 40, 41, 42, 43], []), (6, [38, 44, 45, 46, 47, 48], []), (7, [0, 1, 2, 7, 8, 9, 10, 49, 50, 51, 52, 53, 54, 55, 56, 57, 58, 59, 60, 61, 62, 63, 64, 65, 66, 67, 68, 69, 70, 71, 72, 73, 74, 75, 76, 77, 78, 79, 80, 81, 82], [])] }
theorem dendronlaw19_GameAlikes.ok : cFn Tryd.prog dendronlaw19_GameAlikes.hint Tryd.f10 = some dendronlaw19_GameAlikes := by kernel_rfl
def dendronlaw19_GameNulls : R.Fn := ⟨2, [(.t 4)], (.seq (.reg [] [.a 4 (.mv (.c (.bool false)))] [4] [])
  (.seq (.reg [] [.a 9 (.mv (.t 0)), .a 10 (.call F.dendronlaw19_Few [(.t 9)]), .a 0 (.mv (.t 10))] [9, 10] [])
  (.seq (.reg [] [.a 11 (.mv (.t 0)), .a 12 (.mv (.t 1)), .a 13 (.call F.game_Null [(.t 11), (.t 12)]), .a 5 (.mv (.t 13))] [11, 12, 13] [])
  (.seq (.reg [] [.a 14 (.mv (.t 0)), .a 15 (.call F.dendronlaw19_Size [(.t 14)]), .a 6 (.mv (.t 15))] [14, 15] [])
  (.seq (.seq (.reg [] [.a 16 (.mv (.t 6)), .a 17 (.bin .lss (.t 16) (.c (.int .i64 0))), .a 18 (.mv (.t 17)), .g 19 18 false (.mv (.t 1)), .g 20 18 false (.bin .lss (.t 19) (.c (.int .i64 0))), .a 21 (.pick (.t 18) (.c (.bool true)) (.t 20)), .a 22 (.mv (.t 21)), .g 23 22 false (.mv (.t 1)), .g 24 22 false (.mv (.t 6)), .g 25 22 false (.bin .geq (.t 23) (.t 24)), .a 26 (.pick (.t 22) (.c (.bool true)) (.t 25))] [16, 17, 18, 19, 20, 21, 22, 23, 24, 25] [])
  (.cond (.t 26) (.seq (.reg [] [.a 27 (.mv (.t 5)), .a 28 (.un .not (.t 27)), .a 29 (.mv (.t 28)), .g 30 29 true (.call F.dendronlaw19_awake []), .a 31 (.pick (.t 29) (.t 30) (.c (.bool false))), .a 4 (.mv (.t 31))] [0, 1, 5, 6, 26, 27, 28, 29, 30, 31] [])
  .ret) .skip))
  (.seq (.reg [] [.a 33 (.mv (.t 0)), .a 34 (.call F.game_Shapley [(.t 33)]), .a 32 (.mv (.t 34)), .a 35 (.ext (.t 32) 0), .a 36 (.ext (.t 32) 1), .a 7 (.mv (.t 35)), .a 8 (.mv (.t 36))] [26, 32, 33, 34, 35, 36] [])
  (.seq (.reg [] [.a 37 (.mv (.t 5)), .a 38 (.mv (.t 0)), .a 39 (.mv (.t 1)), .a 40 (.call F.dendronlaw19_null [(.t 38), (.t 39)]), .a 41 (.beq false (.t 37) (.t 40)), .a 42 (.mv (.t 41)), .g 43 42 true (.mv (.t 8)), .g 44 42 true (.bin .eql (.t 43) (.c (.int .i64 0))), .a 45 (.pick (.t 42) (.t 44) (.c (.bool false))), .a 46 (.mv (.t 45)), .g 47 46 true (.mv (.t 7)), .g 48 46 true (.ln (.t 47)), .g 49 46 true (.mv (.t 6)), .g 50 46 true (.bin .eql (.t 48) (.t 49)), .a 51 (.pick (.t 46) (.t 50) (.c (.bool false))), .a 52 (.mv (.t 51)), .g 53 52 true (.mv (.t 5)), .g 54 52 true (.un .not (.t 53)), .g 55 52 true (.mv (.t 54)), .g 56 55 false (.mv (.t 7)), .g 57 55 false (.mv (.t 1)), .g 58 55 false (.iA 3 (.t 56) (.t 57)), .g 59 55 false (.ld 3 true (.t 58)), .g 60 55 false (.call F.ratio_Sign [(.t 59)]), .g 61 55 false (.bin .eql (.t 60) (.c (.int .i64 0))), .g 62 52 true (.pick (.t 55) (.c (.bool true)) (.t 61)), .a 63 (.pick (.t 52) (.t 62) (.c (.bool false))), .a 64 (.mv (.t 63)), .g 65 64 true (.call F.dendronlaw19_awake []), .a 66 (.pick (.t 64) (.t 65) (.c (.bool false))), .a 4 (.mv (.t 66))] [0, 1, 5, 6, 7, 8, 37, 38, 39, 40, 41, 42, 43, 44, 45, 46, 47, 48, 49, 50, 51, 52, 53, 54, 55, 56, 57, 58, 59, 60, 61, 62, 63, 64, 65, 66] [])
  .ret)))))))⟩
def dendronlaw19_GameNulls.hint : R.Hint := { kill := [(0, [4], []), (1, [9, 10], []), (2, [11, 12, 13], []), (3, [14, 15], []), (4, [16, 17, 18, 19, 20, 21, 22, 23, 24, 25], []), (5, [0, 1, 5, 6, 26, 27, 28, 29, 30, 31], []), (6, [26, 32, 33, 34, 35, 36], []), (7, [0, 1, 5, 6, 7, 8, 37, 38, 39, 40, 41, 42, 43, 44, 45, 46, 47, 48, 49, 50, 51, 52, 53, 54, 55, 56, 57, 58, 59, 60, 61, 62, 63, 64, 65, 66], [])] }
theorem dendronlaw19_GameNulls.ok : cFn Tryd.prog dendronlaw19_GameNulls.hint Tryd.f11 = some dendronlaw19_GameNulls := by kernel_rfl
def dendronlaw19_GameSums.b0 : R.C := (.seq (.seq (.reg [] [.a 54 (.mv (.t 7)), .a 55 (.mv (.t 5)), .a 56 (.ln (.t 55)), .a 57 (.bin .lss (.t 54) (.t 56))] [54, 55, 56] [])
  (.cond (.t 57) .skip (.exit 0)))
  (.seq (.block 1 (.seq (.reg [] [.a 60 (.mv (.t 5)), .a 61 (.mv (.t 7)), .a 62 (.iA 3 (.t 60) (.t 61)), .a 63 (.ld 3 true (.t 62)), .a 64 (.call F.ratio_Right [(.t 63)]), .a 65 (.un .not (.t 64)), .a 66 (.mv (.t 65)), .g 67 66 false (.mv (.t 5)), .g 68 66 false (.mv (.t 7)), .g 69 66 false (.iA 3 (.t 67) (.t 68)), .g 70 66 false (.ld 3 true (.t 69)), .g 71 66 false (.mv (.t 0)), .g 72 66 false (.mv (.t 7)), .g 73 66 false (.iA 3 (.t 71) (.t 72)), .g 74 66 false (.ld 3 true (.t 73)), .g 75 66 false (.mv (.t 1)), .g 76 66 false (.mv (.t 7)), .g 77 66 false (.iA 3 (.t 75) (.t 76)), .g 78 66 false (.ld 3 true (.t 77)), .g 79 66 false (.call F.ratio_Add [(.t 74), (.t 78)]), .g 80 66 false (.call F.ratio_Same [(.t 70), (.t 79)]), .g 81 66 false (.un .not (.t 80)), .a 82 (.pick (.t 66) (.c (.bool true)) (.t 81))] [57, 60, 61, 62, 63, 64, 65, 66, 67, 68, 69, 70, 71, 72, 73, 74, 75, 76, 77, 78, 79, 80, 81] [])
  (.cond (.t 82) (.seq (.reg [] [.a 4 (.mv (.c (.bool false)))] [0, 1, 5, 7, 82] [])
  .ret) .skip)))
  (.reg [] [.a 58 (.mv (.t 7)), .a 59 (.bin .add (.t 58) (.c (.int .i64 1))), .a 7 (.mv (.t 59))] [58, 59, 82] [])))
def dendronlaw19_GameSums.b2 : R.C := (.seq (.seq (.reg [] [.a 122 (.mv (.t 14)), .a 123 (.mv (.t 12)), .a 124 (.ln (.t 123)), .a 125 (.bin .lss (.t 122) (.t 124))] [122, 123, 124] [])
  (.cond (.t 125) .skip (.exit 2)))
  (.seq (.block 3 (.seq (.reg [] [.a 128 (.mv (.t 12)), .a 129 (.mv (.t 14)), .a 130 (.iA 3 (.t 128) (.t 129)), .a 131 (.ld 3 true (.t 130)), .a 132 (.mv (.t 8)), .a 133 (.mv (.t 14)), .a 134 (.iA 3 (.t 132) (.t 133)), .a 135 (.ld 3 true (.t 134)), .a 136 (.mv (.t 10)), .a 137 (.mv (.t 14)), .a 138 (.iA 3 (.t 136) (.t 137)), .a 139 (.ld 3 true (.t 138)), .a 140 (.call F.ratio_Add [(.t 135), (.t 139)]), .a 141 (.call F.ratio_Same [(.t 131), (.t 140)]), .a 142 (.un .not (.t 141))] [125, 128, 129, 130, 131, 132, 133, 134, 135, 136, 137, 138, 139, 140, 141] [])
  (.cond (.t 142) (.seq (.reg [] [.a 4 (.mv (.c (.bool false)))] [8, 10, 12, 14, 142] [])
  .ret) .skip)))
  (.reg [] [.a 126 (.mv (.t 14)), .a 127 (.bin .add (.t 126) (.c (.int .i64 1))), .a 14 (.mv (.t 127))] [126, 127, 142] [])))
def dendronlaw19_GameSums : R.Fn := ⟨2, [(.t 4)], (.seq (.reg [] [.a 4 (.mv (.c (.bool false)))] [4] [])
  (.seq (.reg [] [.a 15 (.mv (.t 0)), .a 16 (.call F.dendronlaw19_Few [(.t 15)]), .a 0 (.mv (.t 16))] [15, 16] [])
  (.seq (.reg [] [.a 17 (.mv (.t 1)), .a 18 (.call F.dendronlaw19_Few [(.t 17)]), .a 1 (.mv (.t 18))] [17, 18] [])
  (.seq (.reg [] [.a 20 (.mv (.t 0)), .a 21 (.mv (.t 1)), .a 22 (.call F.game_Sum [(.t 20), (.t 21)]), .a 19 (.mv (.t 22)), .a 23 (.ext (.t 19) 0), .a 24 (.ext (.t 19) 1), .a 5 (.mv (.t 23)), .a 6 (.mv (.t 24))] [19, 20, 21, 22, 23, 24] [])
  (.seq (.seq (.reg [] [.a 25 (.mv (.t 0)), .a 26 (.call F.dendronlaw19_Size [(.t 25)]), .a 27 (.bin .lss (.t 26) (.c (.int .i64 0))), .a 28 (.mv (.t 27)), .g 29 28 false (.mv (.t 0)), .g 30 28 false (.ln (.t 29)), .g 31 28 false (.mv (.t 1)), .g 32 28 false (.ln (.t 31)), .g 33 28 false (.bin .neq (.t 30) (.t 32)), .a 34 (.pick (.t 28) (.c (.bool true)) (.t 33))] [25, 26, 27, 28, 29, 30, 31, 32, 33] [])
  (.cond (.t 34) (.seq (.reg [] [.a 35 (.mv (.t 5)), .a 36 (.ln (.t 35)), .a 37 (.bin .eql (.t 36) (.c (.int .i64 0))), .a 38 (.mv (.t 37)), .g 39 38 true (.mv (.t 6)), .g 40 38 true (.bin .eql (.t 39) (.c (.int .i64 1))), .a 41 (.pick (.t 38) (.t 40) (.c (.bool false))), .a 42 (.mv (.t 41)), .g 43 42 true (.call F.dendronlaw19_awake []), .a 44 (.pick (.t 42) (.t 43) (.c (.bool false))), .a 4 (.mv (.t 44))] [0, 1, 5, 6, 34, 35, 36, 37, 38, 39, 40, 41, 42, 43, 44] [])
  .ret) .skip))
  (.seq (.seq (.reg [] [.a 45 (.mv (.t 6)), .a 46 (.bin .neq (.t 45) (.c (.int .i64 0))), .a 47 (.mv (.t 46)), .g 48 47 false (.mv (.t 5)), .g 49 47 false (.ln (.t 48)), .g 50 47 false (.mv (.t 0)), .g 51 47 false (.ln (.t 50)), .g 52 47 false (.bin .neq (.t 49) (.t 51)), .a 53 (.pick (.t 47) (.c (.bool true)) (.t 52))] [6, 34, 45, 46, 47, 48, 49, 50, 51, 52] [])
  (.cond (.t 53) (.seq (.reg [] [.a 4 (.mv (.c (.bool false)))] [0, 1, 5, 53] [])
  .ret) .skip))
  (.seq (.seq (.reg [] [.a 7 (.mv (.c (.int .i64 0)))] [53] [])
  (.block 0 (.loop [] [] dendronlaw19_GameSums.b0)))
  (.seq (.reg [] [.a 84 (.mv (.t 0)), .a 85 (.call F.game_Shapley [(.t 84)]), .a 83 (.mv (.t 85)), .a 86 (.ext (.t 83) 0), .a 87 (.ext (.t 83) 1), .a 8 (.mv (.t 86)), .a 9 (.mv (.t 87))] [0, 7, 57, 83, 84, 85, 86, 87] [])
  (.seq (.reg [] [.a 89 (.mv (.t 1)), .a 90 (.call F.game_Shapley [(.t 89)]), .a 88 (.mv (.t 90)), .a 91 (.ext (.t 88) 0), .a 92 (.ext (.t 88) 1), .a 10 (.mv (.t 91)), .a 11 (.mv (.t 92))] [1, 88, 89, 90, 91, 92] [])
  (.seq (.reg [] [.a 94 (.mv (.t 5)), .a 95 (.call F.game_Shapley [(.t 94)]), .a 93 (.mv (.t 95)), .a 96 (.ext (.t 93) 0), .a 97 (.ext (.t 93) 1), .a 12 (.mv (.t 96)), .a 13 (.mv (.t 97))] [5, 93, 94, 95, 96, 97] [])
  (.seq (.seq (.reg [] [.a 98 (.mv (.t 9)), .a 99 (.bin .neq (.t 98) (.c (.int .i64 0))), .a 100 (.mv (.t 99)), .g 101 100 false (.mv (.t 11)), .g 102 100 false (.bin .neq (.t 101) (.c (.int .i64 0))), .a 103 (.pick (.t 100) (.c (.bool true)) (.t 102)), .a 104 (.mv (.t 103)), .g 105 104 false (.mv (.t 13)), .g 106 104 false (.bin .neq (.t 105) (.c (.int .i64 0))), .a 107 (.pick (.t 104) (.c (.bool true)) (.t 106)), .a 108 (.mv (.t 107)), .g 109 108 false (.mv (.t 8)), .g 110 108 false (.ln (.t 109)), .g 111 108 false (.mv (.t 12)), .g 112 108 false (.ln (.t 111)), .g 113 108 false (.bin .neq (.t 110) (.t 112)), .a 114 (.pick (.t 108) (.c (.bool true)) (.t 113)), .a 115 (.mv (.t 114)), .g 116 115 false (.mv (.t 10)), .g 117 115 false (.ln (.t 116)), .g 118 115 false (.mv (.t 12)), .g 119 115 false (.ln (.t 118)), .g 120 115 false (.bin .neq (.t 117) (.t 119)), .a 121 (.pick (.t 115) (.c (.bool true)) (.t 120))] [9, 11, 13, 98, 99, 100, 101, 102, 103, 104, 105, 106, 107, 108, 109, 110, 111, 112, 113, 114, 115, 116, 117, 118, 119, 120] [])
  (.cond (.t 121) (.seq (.reg [] [.a 4 (.mv (.c (.bool false)))] [8, 10, 12, 121] [])
  .ret) .skip))
  (.seq (.seq (.reg [] [.a 14 (.mv (.c (.int .i64 0)))] [121] [])
  (.block 2 (.loop [] [] dendronlaw19_GameSums.b2)))
  (.seq (.reg [] [.a 143 (.call F.dendronlaw19_awake []), .a 4 (.mv (.t 143))] [8, 10, 12, 14, 125, 143] [])
  .ret)))))))))))))⟩
def dendronlaw19_GameSums.hint : R.Hint := { kill := [(0, [4], []), (1, [15, 16], []), (2, [17, 18], []), (3, [19, 20, 21, 22, 23, 24], []), (4, [25, 26, 27, 28, 29, 30, 31, 32, 33], []), (5, [0, 1, 5, 6, 34, 35, 36, 37, 38, 39, 40, 41, 42, 43, 44], []), (6, [6, 34, 45, 46, 47, 48, 49, 50, 51, 52], []), (7, [0, 1, 5, 53], []), (8, [53], []), (9, [54, 55, 56], []), (10, [58, 59, 82], []), (11, [57, 60, 61, 62, 63, 64, 65, 66, 67, 68, 69, 70, 71, 72, 73, 74, 75, 76, 77, 78, 79, 80, 81], []), (12, [0, 1, 5, 7, 82], []), (13, [0, 7, 57, 83, 84, 85, 86, 87], []), (14, [1, 88, 89, 90, 91, 92], []), (15, [5, 93, 94, 95, 96, 97], []), (16, [9, 11, 13, 98, 99, 100, 101, 102, 103, 104, 105, 106, 107, 108, 109, 110, 111, 112, 113, 114, 115, 116, 117, 118, 119, 120], []), (17, [8, 10, 12, 121], []), (18, [121], []), (19, [122, 123, 124], []), (20, [126, 127, 142], []), (21, [125, 128, 129, 130, 131, 132, 133, 134, 135, 136, 137, 138, 139, 140, 141], []), (22, [8, 10, 12, 14, 142], []), (23, [8, 10, 12, 14, 125, 143], [])] }
theorem dendronlaw19_GameSums.ok : cFn Tryd.prog dendronlaw19_GameSums.hint Tryd.f12 = some dendronlaw19_GameSums := by kernel_rfl
def dendronlaw22_OwenQuotients.b2 : R.C := (.seq (.seq (.reg [] [.a 57 (.mv (.t 10)), .a 58 (.mv (.t 1)), .a 59 (.ln (.t 58)), .a 60 (.bin .lss (.t 57) (.t 59))] [57, 58, 59] [])
  (.cond (.t 60) .skip (.exit 2)))
  (.seq (.block 3 (.seq (.reg [] [.a 63 (.mv (.t 8)), .a 64 (.mv (.t 10)), .a 65 (.call F.dendronref19_In [(.t 63), (.t 64)])] [60, 63, 64] [])
  (.cond (.t 65) (.reg [] [.a 66 (.mv (.t 9)), .a 67 (.mv (.t 1)), .a 68 (.mv (.t 10)), .a 69 (.iA 1 (.t 67) (.t 68)), .a 70 (.ld 1 false (.t 69)), .a 71 (.bin .add (.t 66) (.t 70)), .a 9 (.mv (.t 71))] [65, 66, 67, 68, 69, 70, 71] []) .skip)))
  (.reg [] [.a 61 (.mv (.t 10)), .a 62 (.bin .add (.t 61) (.c (.int .i64 1))), .a 10 (.mv (.t 62))] [61, 62, 65] [])))
def dendronlaw22_OwenQuotients.b0 : R.C := (.seq (.seq (.reg [] [.a 51 (.mv (.t 8)), .a 52 (.mv (.t 5)), .a 53 (.ln (.t 52)), .a 54 (.bin .lss (.t 51) (.t 53))] [51, 52, 53] [])
  (.cond (.t 54) .skip (.exit 0)))
  (.seq (.block 1 (.seq (.reg [] [.a 9 (.mv (.c (.int .i64 0)))] [54] [])
  (.seq (.seq (.reg [] [.a 10 (.mv (.c (.int .i64 0)))] [] [])
  (.block 2 (.loop [] [] dendronlaw22_OwenQuotients.b2)))
  (.seq (.reg [] [.a 72 (.mv (.t 5)), .a 73 (.mv (.t 8)), .a 74 (.iA 3 (.t 72) (.t 73)), .a 75 (.ld 3 true (.t 74)), .a 76 (.call F.ratio_Right [(.t 75)]), .a 77 (.un .not (.t 76)), .a 78 (.mv (.t 77)), .g 79 78 false (.mv (.t 5)), .g 80 78 false (.mv (.t 8)), .g 81 78 false (.iA 3 (.t 79) (.t 80)), .g 82 78 false (.ld 3 true (.t 81)), .g 83 78 false (.mv (.t 0)), .g 84 78 false (.mv (.t 9)), .g 85 78 false (.iA 3 (.t 83) (.t 84)), .g 86 78 false (.ld 3 true (.t 85)), .g 87 78 false (.call F.ratio_Same [(.t 82), (.t 86)]), .g 88 78 false (.un .not (.t 87)), .a 89 (.pick (.t 78) (.c (.bool true)) (.t 88))] [9, 10, 60, 72, 73, 74, 75, 76, 77, 78, 79, 80, 81, 82, 83, 84, 85, 86, 87, 88] [])
  (.cond (.t 89) (.seq (.reg [] [.a 4 (.mv (.c (.bool false)))] [0, 1, 5, 8, 89] [])
  .ret) .skip)))))
  (.reg [] [.a 55 (.mv (.t 8)), .a 56 (.bin .add (.t 55) (.c (.int .i64 1))), .a 8 (.mv (.t 56))] [55, 56, 89] [])))
def dendronlaw22_OwenQuotients : R.Fn := ⟨2, [(.t 4)], (.seq (.reg [] [.a 4 (.mv (.c (.bool false)))] [4] [])
  (.seq (.reg [] [.a 11 (.mv (.t 0)), .a 12 (.call F.dendronlaw19_Few [(.t 11)]), .a 0 (.mv (.t 12))] [11, 12] [])
  (.seq (.reg [] [.a 13 (.mv (.t 1)), .a 14 (.call F.dendronlaw22_few [(.t 13)]), .a 1 (.mv (.t 14))] [13, 14] [])
  (.seq (.reg [] [.a 16 (.mv (.t 0)), .a 17 (.mv (.t 1)), .a 18 (.call F.owen_Quotient [(.t 16), (.t 17)]), .a 15 (.mv (.t 18)), .a 19 (.ext (.t 15) 0), .a 20 (.ext (.t 15) 1), .a 5 (.mv (.t 19)), .a 6 (.mv (.t 20))] [15, 16, 17, 18, 19, 20] [])
  (.seq (.reg [] [.a 21 (.mv (.t 0)), .a 22 (.call F.dendronlaw19_Size [(.t 21)]), .a 7 (.mv (.t 22))] [21, 22] [])
  (.seq (.seq (.reg [] [.a 23 (.mv (.t 7)), .a 24 (.bin .lss (.t 23) (.c (.int .i64 0))), .a 25 (.mv (.t 24)), .g 26 25 false (.mv (.t 1)), .g 27 25 false (.mv (.t 7)), .g 28 25 false (.call F.dendronlaw22_right [(.t 26), (.t 27)]), .g 29 25 false (.un .not (.t 28)), .a 30 (.pick (.t 25) (.c (.bool true)) (.t 29))] [7, 23, 24, 25, 26, 27, 28, 29] [])
  (.cond (.t 30) (.seq (.reg [] [.a 31 (.mv (.t 5)), .a 32 (.ln (.t 31)), .a 33 (.bin .eql (.t 32) (.c (.int .i64 0))), .a 34 (.mv (.t 33)), .g 35 34 true (.mv (.t 6)), .g 36 34 true (.bin .eql (.t 35) (.c (.int .i64 1))), .a 37 (.pick (.t 34) (.t 36) (.c (.bool false))), .a 38 (.mv (.t 37)), .g 39 38 true (.call F.dendronlaw22_awake []), .a 40 (.pick (.t 38) (.t 39) (.c (.bool false))), .a 4 (.mv (.t 40))] [0, 1, 5, 6, 30, 31, 32, 33, 34, 35, 36, 37, 38, 39, 40] [])
  .ret) .skip))
  (.seq (.seq (.reg [] [.a 41 (.mv (.t 6)), .a 42 (.bin .neq (.t 41) (.c (.int .i64 0))), .a 43 (.mv (.t 42)), .g 44 43 false (.mv (.t 5)), .g 45 43 false (.ln (.t 44)), .g 46 43 false (.mv (.t 1)), .g 47 43 false (.ln (.t 46)), .g 48 43 false (.call F.dendronlaw22_two [(.t 47)]), .g 49 43 false (.bin .neq (.t 45) (.t 48)), .a 50 (.pick (.t 43) (.c (.bool true)) (.t 49))] [6, 30, 41, 42, 43, 44, 45, 46, 47, 48, 49] [])
  (.cond (.t 50) (.seq (.reg [] [.a 4 (.mv (.c (.bool false)))] [0, 1, 5, 50] [])
  .ret) .skip))
  (.seq (.seq (.reg [] [.a 8 (.mv (.c (.int .i64 0)))] [50] [])
  (.block 0 (.loop [] [] dendronlaw22_OwenQuotients.b0)))
  (.seq (.reg [] [.a 90 (.call F.dendronlaw22_awake []), .a 4 (.mv (.t 90))] [0, 1, 5, 8, 54, 90] [])
  .ret)))))))))⟩
def dendronlaw22_OwenQuotients.hint : R.Hint := { kill := [(0, [4], []), (1, [11, 12], []), (2, [13, 14], []), (3, [15, 16, 17, 18, 19, 20], []), (4, [21, 22], []), (5, [7, 23, 24, 25, 26, 27, 28, 29], []), (6, [0, 1, 5, 6, 30, 31, 32, 33, 34, 35, 36, 37, 38, 39, 40], []), (7, [6, 30, 41, 42, 43, 44, 45, 46, 47, 48, 49], []), (8, [0, 1, 5, 50], []), (9, [50], []), (10, [51, 52, 53], []), (11, [55, 56, 89], []), (12, [54], []), (14, [57, 58, 59], []), (15, [61, 62, 65], []), (16, [60, 63, 64], []), (17, [65, 66, 67, 68, 69, 70, 71], []), (18, [9, 10, 60, 72, 73, 74, 75, 76, 77, 78, 79, 80, 81, 82, 83, 84, 85, 86, 87, 88], []), (19, [0, 1, 5, 8, 89], []), (20, [0, 1, 5, 8, 54, 90], [])] }
theorem dendronlaw22_OwenQuotients.ok : cFn Tryd.prog dendronlaw22_OwenQuotients.hint Tryd.f13 = some dendronlaw22_OwenQuotients := by kernel_rfl
def dendronlaw21_OrdersAdds : R.Fn := ⟨2, [(.t 4)], (.seq (.reg [] [.a 4 (.mv (.c (.bool false)))] [4] [])
  (.seq (.reg [] [.a 8 (.mv (.t 0)), .a 9 (.call F.dendronlaw19_Few [(.t 8)]), .a 0 (.mv (.t 9))] [8, 9] [])
  (.seq (.reg [] [.a 10 (.mv (.t 1)), .a 11 (.call F.dendronlaw21_few [(.t 10)]), .a 1 (.mv (.t 11))] [10, 11] [])
  (.seq (.reg [] [.a 13 (.mv (.t 0)), .a 14 (.mv (.t 1)), .a 15 (.call F.orders_Adds [(.t 13), (.t 14)]), .a 12 (.mv (.t 15)), .a 16 (.ext (.t 12) 0), .a 17 (.ext (.t 12) 1), .a 5 (.mv (.t 16)), .a 6 (.mv (.t 17))] [12, 13, 14, 15, 16, 17] [])
  (.seq (.reg [] [.a 18 (.mv (.t 0)), .a 19 (.call F.dendronlaw19_Size [(.t 18)]), .a 7 (.mv (.t 19))] [18, 19] [])
  (.seq (.seq (.reg [] [.a 20 (.mv (.t 7)), .a 21 (.bin .lss (.t 20) (.c (.int .i64 0))), .a 22 (.mv (.t 21)), .g 23 22 false (.mv (.t 1)), .g 24 22 false (.mv (.t 7)), .g 25 22 false (.call F.dendronlaw21_right [(.t 23), (.t 24)]), .g 26 22 false (.un .not (.t 25)), .a 27 (.pick (.t 22) (.c (.bool true)) (.t 26))] [7, 20, 21, 22, 23, 24, 25, 26] [])
  (.cond (.t 27) (.seq (.reg [] [.a 28 (.mv (.t 5)), .a 29 (.ln (.t 28)), .a 30 (.bin .eql (.t 29) (.c (.int .i64 0))), .a 31 (.mv (.t 30)), .g 32 31 true (.mv (.t 6)), .g 33 31 true (.bin .eql (.t 32) (.c (.int .i64 1))), .a 34 (.pick (.t 31) (.t 33) (.c (.bool false))), .a 35 (.mv (.t 34)), .g 36 35 true (.call F.dendronlaw21_awake []), .a 37 (.pick (.t 35) (.t 36) (.c (.bool false))), .a 4 (.mv (.t 37))] [0, 1, 5, 6, 27, 28, 29, 30, 31, 32, 33, 34, 35, 36, 37] [])
  .ret) .skip))
  (.seq (.reg [] [.a 38 (.mv (.t 6)), .a 39 (.bin .eql (.t 38) (.c (.int .i64 0))), .a 40 (.mv (.t 39)), .g 41 40 true (.mv (.t 5)), .g 42 40 true (.mv (.t 0)), .g 43 40 true (.mv (.t 1)), .g 44 40 true (.call F.dendronlaw21_adds [(.t 42), (.t 43)]), .g 45 40 true (.call F.dendronref10_All [(.t 41), (.t 44)]), .a 46 (.pick (.t 40) (.t 45) (.c (.bool false))), .a 47 (.mv (.t 46)), .g 48 47 true (.mv (.t 5)), .g 49 47 true (.call F.ratio_Sum [(.t 48)]), .g 50 47 true (.mv (.t 0)), .g 51 47 true (.mv (.t 0)), .g 52 47 true (.ln (.t 51)), .g 53 47 true (.bin .sub (.t 52) (.c (.int .i64 1))), .g 54 47 true (.iA 3 (.t 50) (.t 53)), .g 55 47 true (.ld 3 true (.t 54)), .g 56 47 true (.mv (.t 0)), .g 57 47 true (.iA 3 (.t 56) (.c (.int .i64 0))), .g 58 47 true (.ld 3 true (.t 57)), .g 59 47 true (.call F.ratio_Sub [(.t 55), (.t 58)]), .g 60 47 true (.call F.ratio_Same [(.t 49), (.t 59)]), .a 61 (.pick (.t 47) (.t 60) (.c (.bool false))), .a 62 (.mv (.t 61)), .g 63 62 true (.call F.dendronlaw21_awake []), .a 64 (.pick (.t 62) (.t 63) (.c (.bool false))), .a 4 (.mv (.t 64))] [0, 1, 5, 6, 27, 38, 39, 40, 41, 42, 43, 44, 45, 46, 47, 48, 49, 50, 51, 52, 53, 54, 55, 56, 57, 58, 59, 60, 61, 62, 63, 64] [])
  .ret)))))))⟩
def dendronlaw21_OrdersAdds.hint : R.Hint := { kill := [(0, [4], []), (1, [8, 9], []), (2, [10, 11], []), (3, [12, 13, 14, 15, 16, 17], []), (4, [18, 19], []), (5, [7, 20, 21, 22, 23, 24, 25, 26], []), (6, [0, 1, 5, 6, 27, 28, 29, 30, 31, 32, 33, 34, 35, 36, 37], []), (7, [0, 1, 5, 6, 27, 38, 39, 40, 41, 42, 43, 44, 45, 46, 47, 48, 49, 50, 51, 52, 53, 54, 55, 56, 57, 58, 59, 60, 61, 62, 63, 64], [])] }
theorem dendronlaw21_OrdersAdds.ok : cFn Tryd.prog dendronlaw21_OrdersAdds.hint Tryd.f14 = some dendronlaw21_OrdersAdds := by kernel_rfl
def dendronlaw14_awake : R.Fn := ⟨0, [(.t 0)], (.seq (.reg [] [.a 0 (.mv (.c (.bool false)))] [0] [])
  (.seq (.reg [] [.a 7 (.callk F.weigh_New []), .a 1 (.mv (.t 7))] [7] [])
  (.seq (.reg [] [.a 9 (.mv (.t 1)), .a 10 (.callk F.dendron_weigh_Table_Weight [(true, (.t 9)), (false, (.c (.int .i64 1))), (false, (.c (.int .i64 3)))]), .a 8 (.mv (.t 10)), .a 11 (.ext (.t 8) 0), .a 12 (.ext (.t 8) 1), .a 2 (.new [(.bool false), (.sl 1 []), (.sl 1 [])]), .n (.st 3 (.t 2) (.t 11)), .a 3 (.mv (.t 12))] [8, 9, 10, 11, 12] [])
  (.seq (.reg [] [.a 14 (.mv (.t 1)), .a 15 (.callk F.dendron_weigh_Table_Need [(true, (.t 14)), (false, (.c (.int .i64 1))), (false, (.c (.int .i64 1)))]), .a 13 (.mv (.t 15)), .a 16 (.ext (.t 13) 0), .a 17 (.ext (.t 13) 1), .a 18 (.ext (.t 13) 2), .a 4 (.new [(.bool false), (.sl 1 []), (.sl 1 [])]), .a 5 (.new [(.bool false), (.sl 1 []), (.sl 1 [])]), .n (.st 3 (.t 4) (.t 16)), .n (.st 3 (.t 5) (.t 17)), .a 6 (.mv (.t 18))] [1, 13, 14, 15, 16, 17, 18] [])
  (.seq (.reg [] [.a 19 (.mv (.t 3)), .a 20 (.bin .eql (.t 19) (.c (.int .i64 0))), .a 21 (.mv (.t 20)), .g 22 21 true (.mv (.t 6)), .g 23 21 true (.bin .eql (.t 22) (.c (.int .i64 0))), .a 24 (.pick (.t 21) (.t 23) (.c (.bool false))), .a 25 (.mv (.t 24)), .g 26 25 true (.ld 3 true (.t 2)), .g 27 25 true (.call F.ratio_Frac [(.c (.int .i64 1)), (.c (.int .i64 6))]), .g 28 25 true (.call F.ratio_Same [(.t 26), (.t 27)]), .a 29 (.pick (.t 25) (.t 28) (.c (.bool false))), .a 30 (.mv (.t 29)), .g 31 30 true (.ld 3 true (.t 4)), .g 32 30 true (.call F.ratio_Frac [(.c (.int .i64 1)), (.c (.int .i64 2))]), .g 33 30 true (.call F.ratio_Same [(.t 31), (.t 32)]), .a 34 (.pick (.t 30) (.t 33) (.c (.bool false))), .a 35 (.mv (.t 34)), .g 36 35 true (.ld 3 true (.t 5)), .g 37 35 true (.call F.ratio_Frac [(.c (.int .i64 (-1))), (.c (.int .i64 2))]), .g 38 35 true (.call F.ratio_Same [(.t 36), (.t 37)]), .a 39 (.pick (.t 35) (.t 38) (.c (.bool false))), .a 0 (.mv (.t 39))] [2, 3, 4, 5, 6, 19, 20, 21, 22, 23, 24, 25, 26, 27, 28, 29, 30, 31, 32, 33, 34, 35, 36, 37, 38, 39] [2, 4, 5, 7, 10, 15, 1007, 1010, 1015, 2007, 2010, 2015, 3007, 3010, 3015])
  .ret)))))⟩
def dendronlaw14_awake.hint : R.Hint := { callk := [(7, []), (10, [true, false, false]), (15, [true, false, false])], kill := [(0, [0], []), (1, [7], []), (2, [8, 9, 10, 11, 12], []), (3, [1, 13, 14, 15, 16, 17, 18], []), (4, [2, 3, 4, 5, 6, 19, 20, 21, 22, 23, 24, 25, 26, 27, 28, 29, 30, 31, 32, 33, 34, 35, 36, 37, 38, 39], [2, 4, 5, 7, 10, 15, 1007, 1010, 1015, 2007, 2010, 2015, 3007, 3010, 3015])] }
theorem dendronlaw14_awake.ok : cFn Tryd.prog dendronlaw14_awake.hint Tryd.f15 = some dendronlaw14_awake := by kernel_rfl
def weigh_New : R.Fn := ⟨0, [(.own 0)], (.seq (.reg [] [.a 0 (.mv (.c (.raw (.pointer none))))] [0] [])
  (.seq (.reg [] [.a 1 (.bld [(.int .u32 0), (.int .i32 0), (.int .u32 0), (.sl 2 [])] []), .a 2 (.box (.t 1)), .a 0 (.mv (.t 2))] [1, 2] [])
  .ret))⟩
def weigh_New.hint : R.Hint := { kill := [(0, [0], []), (1, [1, 2], [])], own := true }
theorem weigh_New.ok : cFn Tryd.prog weigh_New.hint Tryd.f16 = some weigh_New := by kernel_rfl
def dendron_weigh_Table_Fact : R.Fn := ⟨2, [(.cell 4 2 true), (.t 5)], (.seq (.reg [] [.a 4 (.new [(.bool false), (.sl 1 [])]), .a 5 (.mv (.c (.int .i64 0)))] [5] [])
  (.seq (.seq (.reg [] [.a 6 (.mv (.t 0)), .a 7 (.pnil false (.t 6))] [6] [])
  (.cond (.t 7) (.seq (.reg [] [.a 8 (.bld [(.bool false), (.sl 1 [])] []), .n (.st 2 (.t 4) (.t 8)), .a 5 (.mv (.c (.int .i64 18)))] [0, 1, 7, 8] [])
  .ret) .skip))
  (.seq (.seq (.reg [] [.a 9 (.mv (.t 1)), .a 10 (.bin .lss (.t 9) (.c (.int .i64 0))), .a 11 (.mv (.t 10)), .g 12 11 false (.mv (.t 1)), .g 13 11 false (.bin .gtr (.t 12) (.c (.int .i64 64))), .a 14 (.pick (.t 11) (.c (.bool true)) (.t 13))] [7, 9, 10, 11, 12, 13] [])
  (.cond (.t 14) (.seq (.reg [] [.a 15 (.bld [(.bool false), (.sl 1 [])] []), .n (.st 2 (.t 4) (.t 15)), .a 5 (.mv (.c (.int .i64 8)))] [0, 1, 14, 15] [])
  .ret) .skip))
  (.seq (.reg [] [.a 16 (.mv (.t 0)), .a 17 (.mv (.t 1)), .a 18 (.callk F.dendron_weigh_Table_at [(true, (.t 16)), (false, (.t 17))]), .a 19 (.call F.whole_Clean [(.t 18)]), .n (.st 2 (.t 4) (.t 19)), .a 5 (.mv (.c (.int .i64 0)))] [0, 1, 14, 16, 17, 18, 19] [18, 1018, 2018, 3018])
  .ret))))⟩
def dendron_weigh_Table_Fact.hint : R.Hint := { callk := [(18, [true, false])], kill := [(0, [5], []), (1, [6], []), (2, [0, 1, 7, 8], []), (3, [7, 9, 10, 11, 12, 13], []), (4, [0, 1, 14, 15], []), (5, [0, 1, 14, 16, 17, 18, 19], [18, 1018, 2018, 3018])] }
theorem dendron_weigh_Table_Fact.ok : cFn Tryd.prog dendron_weigh_Table_Fact.hint Tryd.f17 = some dendron_weigh_Table_Fact := by kernel_rfl
def ratio_Same : R.Fn := ⟨2, [(.t 4)], (.seq (.reg [] [.a 2 (.box (.t 0)), .a 3 (.box (.t 1)), .a 4 (.mv (.c (.bool false)))] [0, 1, 4] [])
  (.seq (.reg [] [.a 5 (.ld 3 true (.t 2)), .a 6 (.ld 3 true (.t 3)), .a 7 (.call F.ratio_Cmp [(.t 5), (.t 6)]), .a 8 (.bin .eql (.t 7) (.c (.int .i64 0))), .a 4 (.mv (.t 8))] [2, 3, 5, 6, 7, 8] [2, 3])
  .ret))⟩
def ratio_Same.hint : R.Hint := { kill := [(0, [0, 1, 4], []), (1, [2, 3, 5, 6, 7, 8], [2, 3])] }
theorem ratio_Same.ok : cFn Tryd.prog ratio_Same.hint Tryd.f18 = some ratio_Same := by kernel_rfl
def ratio_Int : R.Fn := ⟨1, [(.cell 2 3 true)], (.seq (.reg [] [.a 1 (.box (.t 0)), .a 2 (.new [(.bool false), (.sl 1 []), (.sl 1 [])])] [0] [])
  (.seq (.reg [] [.a 3 (.ld 2 true (.t 1)), .a 4 (.call F.whole_Clean [(.t 3)]), .a 5 (.call F.nat_Of [(.c (.int .u64 1))]), .a 6 (.bld [(.bool false), (.sl 1 []), (.sl 1 [])] [(0, 2, (.t 4)), (2, 1, (.t 5))]), .n (.st 3 (.t 2) (.t 6))] [1, 3, 4, 5, 6] [1])
  .ret))⟩
def ratio_Int.hint : R.Hint := { kill := [(0, [0], []), (1, [1, 3, 4, 5, 6], [1])] }
theorem ratio_Int.ok : cFn Tryd.prog ratio_Int.hint Tryd.f19 = some ratio_Int := by kernel_rfl
def dendronlaw14_fact.b0 : R.C := (.seq (.seq (.reg [] [.a 6 (.mv (.t 4)), .a 7 (.mv (.t 0)), .a 8 (.bin .leq (.t 6) (.t 7))] [6, 7] [])
  (.cond (.t 8) .skip (.exit 0)))
  (.seq (.block 1 (.reg [12884901891] [.a 11 (.ld 3 true (.t 3)), .a 12 (.mv (.t 4)), .a 13 (.call F.ratio_Of [(.t 12)]), .a 14 (.call F.ratio_Mul [(.t 11), (.t 13)]), .n (.st 3 (.t 3) (.t 14))] [8, 11, 12, 13, 14] []))
  (.reg [] [.a 9 (.mv (.t 4)), .a 10 (.bin .add (.t 9) (.c (.int .i64 1))), .a 4 (.mv (.t 10))] [9, 10] [])))
def dendronlaw14_fact : R.Fn := ⟨1, [(.cell 2 3 true)], (.seq (.reg [] [.a 2 (.new [(.bool false), (.sl 1 []), (.sl 1 [])])] [] [])
  (.seq (.reg [] [.a 5 (.call F.ratio_One []), .a 3 (.new [(.bool false), (.sl 1 []), (.sl 1 [])]), .n (.st 3 (.t 3) (.t 5))] [5] [])
  (.seq (.seq (.reg [] [.a 4 (.mv (.c (.int .i64 1)))] [] [])
  (.block 0 (.loop [] [] dendronlaw14_fact.b0)))
  (.seq (.reg [] [.a 15 (.ld 3 true (.t 3)), .n (.st 3 (.t 2) (.t 15))] [0, 3, 4, 8, 15] [3])
  .ret))))⟩
def dendronlaw14_fact.hint : R.Hint := { pub := [(5, [12884901891])], kill := [(1, [5], []), (3, [6, 7], []), (4, [9, 10], []), (5, [8, 11, 12, 13, 14], []), (6, [0, 3, 4, 8, 15], [3])] }
theorem dendronlaw14_fact.ok : cFn Tryd.prog dendronlaw14_fact.hint Tryd.f20 = some dendronlaw14_fact := by kernel_rfl
def whole_Right : R.Fn := ⟨1, [(.t 2)], (.seq (.reg [] [.a 1 (.box (.t 0)), .a 2 (.mv (.c (.bool false)))] [0, 2] [])
  (.seq (.reg [] [.a 3 (.fA 1 (.t 1)), .a 4 (.ld 1 false (.t 3)), .a 5 (.call F.nat_Right [(.t 4)]), .a 6 (.mv (.t 5)), .g 7 6 true (.fA 1 (.t 1)), .g 8 6 true (.ld 1 false (.t 7)), .g 9 6 true (.ln (.t 8)), .g 10 6 true (.bin .gtr (.t 9) (.c (.int .i64 0))), .g 11 6 true (.mv (.t 10)), .g 12 11 false (.fA 0 (.t 1)), .g 13 11 false (.ld 1 false (.t 12)), .g 14 11 false (.un .not (.t 13)), .g 15 6 true (.pick (.t 11) (.c (.bool true)) (.t 14)), .a 16 (.pick (.t 6) (.t 15) (.c (.bool false))), .a 2 (.mv (.t 16))] [1, 3, 4, 5, 6, 7, 8, 9, 10, 11, 12, 13, 14, 15, 16] [1])
  .ret))⟩
def whole_Right.hint : R.Hint := { kill := [(0, [0, 2], []), (1, [1, 3, 4, 5, 6, 7, 8, 9, 10, 11, 12, 13, 14, 15, 16], [1])] }
theorem whole_Right.ok : cFn Tryd.prog whole_Right.hint Tryd.f21 = some whole_Right := by kernel_rfl
def dendron_weigh_Table_Weight : R.Fn := ⟨3, [(.cell 6 3 true), (.t 7)], (.seq (.reg [] [.a 6 (.new [(.bool false), (.sl 1 []), (.sl 1 [])]), .a 7 (.mv (.c (.int .i64 0)))] [7] [])
  (.seq (.block 0 (.seq (.reg [] [.a 9 (.mv (.t 0)), .a 10 (.pnil false (.t 9)), .a 8 (.mv (.t 10))] [9, 10] [])
  (.cond (.t 8) (.seq (.reg [] [.a 11 (.bld [(.bool false), (.sl 1 []), (.sl 1 [])] []), .n (.st 3 (.t 6) (.t 11)), .a 7 (.mv (.c (.int .i64 18)))] [0, 1, 2, 8, 11] [])
  .ret) (.seq (.reg [] [.a 13 (.mv (.t 2)), .a 14 (.bin .lss (.t 13) (.c (.int .i64 1))), .a 15 (.mv (.t 14)), .g 16 15 false (.mv (.t 2)), .g 17 15 false (.bin .gtr (.t 16) (.c (.int .i64 64))), .a 18 (.pick (.t 15) (.c (.bool true)) (.t 17)), .a 19 (.mv (.t 18)), .g 20 19 false (.mv (.t 1)), .g 21 19 false (.bin .lss (.t 20) (.c (.int .i64 0))), .a 22 (.pick (.t 19) (.c (.bool true)) (.t 21)), .a 23 (.mv (.t 22)), .g 24 23 false (.mv (.t 1)), .g 25 23 false (.mv (.t 2)), .g 26 23 false (.bin .geq (.t 24) (.t 25)), .a 27 (.pick (.t 23) (.c (.bool true)) (.t 26)), .a 12 (.mv (.t 27))] [8, 13, 14, 15, 16, 17, 18, 19, 20, 21, 22, 23, 24, 25, 26, 27] [])
  (.cond (.t 12) (.seq (.reg [] [.a 28 (.bld [(.bool false), (.sl 1 []), (.sl 1 [])] []), .n (.st 3 (.t 6) (.t 28)), .a 7 (.mv (.c (.int .i64 8)))] [0, 1, 2, 12, 28] [])
  .ret) .skip)))))
  (.seq (.reg [] [.a 29 (.mv (.t 0)), .a 30 (.mv (.t 1)), .a 31 (.mv (.t 2)), .a 32 (.mv (.t 1)), .a 33 (.bin .sub (.t 31) (.t 32)), .a 34 (.bin .sub (.t 33) (.c (.int .i64 1))), .a 35 (.mv (.t 2)), .a 36 (.callk F.dendron_weigh_Table_quotient [(true, (.t 29)), (false, (.t 30)), (false, (.t 34)), (false, (.t 35))]), .n (.st 3 (.t 6) (.t 36)), .a 7 (.mv (.c (.int .i64 0)))] [0, 1, 2, 12, 29, 30, 31, 32, 33, 34, 35, 36] [36, 1036, 2036, 3036])
  .ret)))⟩
def dendron_weigh_Table_Weight.hint : R.Hint := { callk := [(36, [true, false, false, false])], kill := [(0, [7], []), (1, [9, 10], []), (2, [0, 1, 2, 8, 11], []), (3, [8, 13, 14, 15, 16, 17, 18, 19, 20, 21, 22, 23, 24, 25, 26, 27], []), (4, [0, 1, 2, 12, 28], []), (5, [0, 1, 2, 12, 29, 30, 31, 32, 33, 34, 35, 36], [36, 1036, 2036, 3036])] }
theorem dendron_weigh_Table_Weight.ok : cFn Tryd.prog dendron_weigh_Table_Weight.hint Tryd.f22 = some dendron_weigh_Table_Weight := by kernel_rfl
def dendronlaw14_is : R.Fn := ⟨2, [(.t 4)], (.seq (.reg [] [.a 2 (.box (.t 0)), .a 3 (.box (.t 1)), .a 4 (.mv (.c (.bool false)))] [0, 1, 4] [])
  (.seq (.reg [] [.a 5 (.ld 3 true (.t 2)), .a 6 (.call F.ratio_Right [(.t 5)]), .a 7 (.mv (.t 6)), .g 8 7 true (.ld 3 true (.t 2)), .g 9 7 true (.ld 3 true (.t 3)), .g 10 7 true (.call F.ratio_Same [(.t 8), (.t 9)]), .a 11 (.pick (.t 7) (.t 10) (.c (.bool false))), .a 4 (.mv (.t 11))] [2, 3, 5, 6, 7, 8, 9, 10, 11] [2, 3])
  .ret))⟩
def dendronlaw14_is.hint : R.Hint := { kill := [(0, [0, 1, 4], []), (1, [2, 3, 5, 6, 7, 8, 9, 10, 11], [2, 3])] }
theorem dendronlaw14_is.ok : cFn Tryd.prog dendronlaw14_is.hint Tryd.f23 = some dendronlaw14_is := by kernel_rfl
def dendronlaw14_quotient : R.Fn := ⟨3, [(.cell 6 3 true)], (.seq (.reg [] [.a 3 (.box (.t 0)), .a 4 (.box (.t 1)), .a 5 (.box (.t 2)), .a 6 (.new [(.bool false), (.sl 1 []), (.sl 1 [])])] [0, 1, 2] [])
  (.seq (.reg [] [.a 10 (.ld 3 true (.t 3)), .a 11 (.ld 3 true (.t 4)), .a 12 (.call F.ratio_Mul [(.t 10), (.t 11)]), .a 13 (.ld 3 true (.t 5)), .a 14 (.call F.ratio_Div [(.t 12), (.t 13)]), .a 9 (.mv (.t 14)), .a 15 (.ext (.t 9) 0), .a 16 (.ext (.t 9) 1), .a 7 (.new [(.bool false), (.sl 1 []), (.sl 1 [])]), .n (.st 3 (.t 7) (.t 15)), .a 8 (.mv (.t 16))] [3, 4, 5, 8, 9, 10, 11, 12, 13, 14, 15, 16] [3, 4, 5])
  (.seq (.reg [] [.a 17 (.ld 3 true (.t 7)), .n (.st 3 (.t 6) (.t 17))] [7, 17] [7])
  .ret)))⟩
def dendronlaw14_quotient.hint : R.Hint := { kill := [(0, [0, 1, 2], []), (1, [3, 4, 5, 8, 9, 10, 11, 12, 13, 14, 15, 16], [3, 4, 5]), (2, [7, 17], [7])] }
theorem dendronlaw14_quotient.ok : cFn Tryd.prog dendronlaw14_quotient.hint Tryd.f24 = some dendronlaw14_quotient := by kernel_rfl
def dendron_weigh_Table_Pair : R.Fn := ⟨3, [(.cell 6 3 true), (.t 7)], (.seq (.reg [] [.a 6 (.new [(.bool false), (.sl 1 []), (.sl 1 [])]), .a 7 (.mv (.c (.int .i64 0)))] [7] [])
  (.seq (.block 0 (.seq (.reg [] [.a 9 (.mv (.t 0)), .a 10 (.pnil false (.t 9)), .a 8 (.mv (.t 10))] [9, 10] [])
  (.cond (.t 8) (.seq (.reg [] [.a 11 (.bld [(.bool false), (.sl 1 []), (.sl 1 [])] []), .n (.st 3 (.t 6) (.t 11)), .a 7 (.mv (.c (.int .i64 18)))] [0, 1, 2, 8, 11] [])
  .ret) (.seq (.reg [] [.a 13 (.mv (.t 2)), .a 14 (.bin .lss (.t 13) (.c (.int .i64 2))), .a 15 (.mv (.t 14)), .g 16 15 false (.mv (.t 2)), .g 17 15 false (.bin .gtr (.t 16) (.c (.int .i64 64))), .a 18 (.pick (.t 15) (.c (.bool true)) (.t 17)), .a 19 (.mv (.t 18)), .g 20 19 false (.mv (.t 1)), .g 21 19 false (.bin .lss (.t 20) (.c (.int .i64 0))), .a 22 (.pick (.t 19) (.c (.bool true)) (.t 21)), .a 23 (.mv (.t 22)), .g 24 23 false (.mv (.t 1)), .g 25 23 false (.mv (.t 2)), .g 26 23 false (.bin .sub (.t 25) (.c (.int .i64 2))), .g 27 23 false (.bin .gtr (.t 24) (.t 26)), .a 28 (.pick (.t 23) (.c (.bool true)) (.t 27)), .a 12 (.mv (.t 28))] [8, 13, 14, 15, 16, 17, 18, 19, 20, 21, 22, 23, 24, 25, 26, 27, 28] [])
  (.cond (.t 12) (.seq (.reg [] [.a 29 (.bld [(.bool false), (.sl 1 []), (.sl 1 [])] []), .n (.st 3 (.t 6) (.t 29)), .a 7 (.mv (.c (.int .i64 8)))] [0, 1, 2, 12, 29] [])
  .ret) .skip)))))
  (.seq (.reg [] [.a 30 (.mv (.t 0)), .a 31 (.mv (.t 1)), .a 32 (.mv (.t 2)), .a 33 (.mv (.t 1)), .a 34 (.bin .sub (.t 32) (.t 33)), .a 35 (.bin .sub (.t 34) (.c (.int .i64 2))), .a 36 (.mv (.t 2)), .a 37 (.bin .sub (.t 36) (.c (.int .i64 1))), .a 38 (.callk F.dendron_weigh_Table_quotient [(true, (.t 30)), (false, (.t 31)), (false, (.t 35)), (false, (.t 37))]), .a 39 (.call F.ratio_Frac [(.c (.int .i64 1)), (.c (.int .i64 2))]), .a 40 (.call F.ratio_Mul [(.t 38), (.t 39)]), .n (.st 3 (.t 6) (.t 40)), .a 7 (.mv (.c (.int .i64 0)))] [0, 1, 2, 12, 30, 31, 32, 33, 34, 35, 36, 37, 38, 39, 40] [38, 1038, 2038, 3038])
  .ret)))⟩
def dendron_weigh_Table_Pair.hint : R.Hint := { callk := [(38, [true, false, false, false])], kill := [(0, [7], []), (1, [9, 10], []), (2, [0, 1, 2, 8, 11], []), (3, [8, 13, 14, 15, 16, 17, 18, 19, 20, 21, 22, 23, 24, 25, 26, 27, 28], []), (4, [0, 1, 2, 12, 29], []), (5, [0, 1, 2, 12, 30, 31, 32, 33, 34, 35, 36, 37, 38, 39, 40], [38, 1038, 2038, 3038])] }
theorem dendron_weigh_Table_Pair.ok : cFn Tryd.prog dendron_weigh_Table_Pair.hint Tryd.f25 = some dendron_weigh_Table_Pair := by kernel_rfl
def dendron_weigh_Table_Need : R.Fn := ⟨3, [(.cell 6 3 true), (.cell 7 3 true), (.t 8)], (.seq (.reg [] [.a 6 (.new [(.bool false), (.sl 1 []), (.sl 1 [])]), .a 7 (.new [(.bool false), (.sl 1 []), (.sl 1 [])]), .a 8 (.mv (.c (.int .i64 0)))] [8] [])
  (.seq (.block 0 (.seq (.reg [] [.a 12 (.mv (.t 0)), .a 13 (.pnil false (.t 12)), .a 11 (.mv (.t 13))] [12, 13] [])
  (.cond (.t 11) (.seq (.reg [] [.a 14 (.bld [(.bool false), (.sl 1 []), (.sl 1 [])] []), .a 15 (.bld [(.bool false), (.sl 1 []), (.sl 1 [])] []), .n (.st 3 (.t 6) (.t 14)), .n (.st 3 (.t 7) (.t 15)), .a 8 (.mv (.c (.int .i64 18)))] [0, 1, 2, 11, 14, 15] [])
  .ret) (.seq (.reg [] [.a 17 (.mv (.t 1)), .a 18 (.bin .lss (.t 17) (.c (.int .i64 0))), .a 19 (.mv (.t 18)), .g 20 19 false (.mv (.t 2)), .g 21 19 false (.bin .lss (.t 20) (.c (.int .i64 0))), .a 22 (.pick (.t 19) (.c (.bool true)) (.t 21)), .a 23 (.mv (.t 22)), .g 24 23 false (.mv (.t 1)), .g 25 23 false (.bin .gtr (.t 24) (.c (.int .i64 64))), .a 26 (.pick (.t 23) (.c (.bool true)) (.t 25)), .a 27 (.mv (.t 26)), .g 28 27 false (.mv (.t 2)), .g 29 27 false (.mv (.t 1)), .g 30 27 false (.bin .sub (.c (.int .i64 64)) (.t 29)), .g 31 27 false (.bin .gtr (.t 28) (.t 30)), .a 32 (.pick (.t 27) (.c (.bool true)) (.t 31)), .a 16 (.mv (.t 32))] [11, 17, 18, 19, 20, 21, 22, 23, 24, 25, 26, 27, 28, 29, 30, 31, 32] [])
  (.cond (.t 16) (.seq (.reg [] [.a 33 (.bld [(.bool false), (.sl 1 []), (.sl 1 [])] []), .a 34 (.bld [(.bool false), (.sl 1 []), (.sl 1 [])] []), .n (.st 3 (.t 6) (.t 33)), .n (.st 3 (.t 7) (.t 34)), .a 8 (.mv (.c (.int .i64 8)))] [0, 1, 2, 16, 33, 34] [])
  .ret) .skip)))))
  (.seq (.reg [] [.a 35 (.call F.ratio_Zero []), .a 36 (.call F.ratio_Zero []), .a 9 (.new [(.bool false), (.sl 1 []), (.sl 1 [])]), .a 10 (.new [(.bool false), (.sl 1 []), (.sl 1 [])]), .n (.st 3 (.t 9) (.t 35)), .n (.st 3 (.t 10) (.t 36))] [16, 35, 36] [])
  (.seq (.seq (.reg [] [.a 37 (.mv (.t 1)), .a 38 (.bin .gtr (.t 37) (.c (.int .i64 0)))] [37] [])
  (.cond (.t 38) (.reg [] [.a 39 (.mv (.t 0)), .a 40 (.mv (.t 1)), .a 41 (.bin .sub (.t 40) (.c (.int .i64 1))), .a 42 (.mv (.t 2)), .a 43 (.mv (.t 1)), .a 44 (.mv (.t 2)), .a 45 (.bin .add (.t 43) (.t 44)), .a 46 (.callk F.dendron_weigh_Table_quotient [(true, (.t 39)), (false, (.t 41)), (false, (.t 42)), (false, (.t 45))]), .n (.st 3 (.t 9) (.t 46))] [38, 39, 40, 41, 42, 43, 44, 45, 46] [46, 1046, 2046, 3046]) .skip))
  (.seq (.seq (.reg [] [.a 47 (.mv (.t 2)), .a 48 (.bin .gtr (.t 47) (.c (.int .i64 0)))] [38, 47] [])
  (.cond (.t 48) (.reg [] [.a 49 (.mv (.t 0)), .a 50 (.mv (.t 1)), .a 51 (.mv (.t 2)), .a 52 (.bin .sub (.t 51) (.c (.int .i64 1))), .a 53 (.mv (.t 1)), .a 54 (.mv (.t 2)), .a 55 (.bin .add (.t 53) (.t 54)), .a 56 (.callk F.dendron_weigh_Table_quotient [(true, (.t 49)), (false, (.t 50)), (false, (.t 52)), (false, (.t 55))]), .a 57 (.call F.ratio_Neg [(.t 56)]), .n (.st 3 (.t 10) (.t 57))] [0, 1, 2, 48, 49, 50, 51, 52, 53, 54, 55, 56, 57] [56, 1056, 2056, 3056]) .skip))
  (.seq (.reg [25769803782, 30064771079, 38654705673, 42949672970] [.a 58 (.ld 3 true (.t 9)), .a 59 (.ld 3 true (.t 10)), .n (.st 3 (.t 6) (.t 58)), .n (.st 3 (.t 7) (.t 59)), .a 8 (.mv (.c (.int .i64 0)))] [0, 1, 2, 9, 10, 48, 58, 59] [9, 10])
  .ret))))))⟩
def dendron_weigh_Table_Need.hint : R.Hint := { callk := [(46, [true, false, false, false]), (56, [true, false, false, false])], pub := [(10, [25769803782, 30064771079, 38654705673, 42949672970])], kill := [(0, [8], []), (1, [12, 13], []), (2, [0, 1, 2, 11, 14, 15], []), (3, [11, 17, 18, 19, 20, 21, 22, 23, 24, 25, 26, 27, 28, 29, 30, 31, 32], []), (4, [0, 1, 2, 16, 33, 34], []), (5, [16, 35, 36], []), (6, [37], []), (7, [38, 39, 40, 41, 42, 43, 44, 45, 46], [46, 1046, 2046, 3046]), (8, [38, 47], []), (9, [0, 1, 2, 48, 49, 50, 51, 52, 53, 54, 55, 56, 57], [56, 1056, 2056, 3056]), (10, [0, 1, 2, 9, 10, 48, 58, 59], [9, 10])] }
theorem dendron_weigh_Table_Need.ok : cFn Tryd.prog dendron_weigh_Table_Need.hint Tryd.f26 = some dendron_weigh_Table_Need := by kernel_rfl
def dendron_weigh_Table_All.b0 : R.C := (.seq (.reg [] [.a 20 (.bin .lss (.t 19) (.t 18))] [] [])
  (.seq (.cond (.t 20) .skip (.exit 0))
  (.seq (.block 1 (.seq (.reg [] [.a 21 (.mv (.t 19)), .a 7 (.mv (.t 21))] [20, 21] [])
  (.seq (.reg [] [.a 23 (.mv (.t 0)), .a 24 (.mv (.t 7)), .a 25 (.mv (.t 1)), .a 26 (.callk F.dendron_weigh_Table_Weight [(true, (.t 23)), (false, (.t 24)), (false, (.t 25))]), .a 22 (.mv (.t 26)), .a 27 (.ext (.t 22) 0), .a 28 (.ext (.t 22) 1), .a 8 (.new [(.bool false), (.sl 1 []), (.sl 1 [])]), .n (.st 3 (.t 8) (.t 27)), .a 9 (.mv (.t 28))] [7, 9, 22, 23, 24, 25, 26, 27, 28] [26, 1026, 2026, 3026])
  (.reg [] [.a 29 (.mv (.t 6)), .a 30 (.ld 3 true (.t 8)), .a 31 (.lit 3 1 [(.bool false), (.sl 1 []), (.sl 1 [])] [(0, 3, (.t 30))]), .a 32 (.app 3 56 (.t 29) (.t 31)), .a 6 (.mv (.t 32))] [8, 29, 30, 31, 32] [8]))))
  (.reg [] [.a 33 (.bin .add (.t 19) (.c (.int .i64 1))), .a 19 (.mv (.t 33))] [33] []))))
def dendron_weigh_Table_All : R.Fn := ⟨2, [(.t 4), (.t 5)], (.seq (.reg [] [.a 4 (.mv (.c (.sl 3 []))), .a 5 (.mv (.c (.int .i64 0)))] [4, 5] [])
  (.seq (.seq (.reg [] [.a 10 (.mv (.t 0)), .a 11 (.pnil false (.t 10))] [10] [])
  (.cond (.t 11) (.seq (.reg [] [.a 4 (.mv (.c (.sl 3 []))), .a 5 (.mv (.c (.int .i64 18)))] [0, 1, 11] [])
  .ret) .skip))
  (.seq (.seq (.reg [] [.a 12 (.mv (.t 1)), .a 13 (.bin .lss (.t 12) (.c (.int .i64 1))), .a 14 (.mv (.t 13)), .g 15 14 false (.mv (.t 1)), .g 16 14 false (.bin .gtr (.t 15) (.c (.int .i64 64))), .a 17 (.pick (.t 14) (.c (.bool true)) (.t 16))] [11, 12, 13, 14, 15, 16] [])
  (.cond (.t 17) (.seq (.reg [] [.a 4 (.mv (.c (.sl 3 []))), .a 5 (.mv (.c (.int .i64 8)))] [0, 1, 17] [])
  .ret) .skip))
  (.seq (.reg [] [.a 6 (.nil 3)] [17] [])
  (.seq (.seq (.reg [] [.a 18 (.mv (.t 1)), .a 19 (.mv (.c (.int .i64 0)))] [] [])
  (.block 0 (.loop [] [] dendron_weigh_Table_All.b0)))
  (.seq (.reg [] [.a 34 (.mv (.t 6)), .a 4 (.mv (.t 34)), .a 5 (.mv (.c (.int .i64 0)))] [0, 1, 6, 18, 19, 20, 34] [])
  .ret))))))⟩
def dendron_weigh_Table_All.hint : R.Hint := { nil := [6], callk := [(26, [true, false, false])], kill := [(0, [4, 5], []), (1, [10], []), (2, [0, 1, 11], []), (3, [11, 12, 13, 14, 15, 16], []), (4, [0, 1, 17], []), (5, [17], []), (8, [20, 21], []), (9, [7, 9, 22, 23, 24, 25, 26, 27, 28], [26, 1026, 2026, 3026]), (10, [8, 29, 30, 31, 32], [8]), (11, [33], []), (12, [0, 1, 6, 18, 19, 20, 34], [])] }
theorem dendron_weigh_Table_All.ok : cFn Tryd.prog dendron_weigh_Table_All.hint Tryd.f27 = some dendron_weigh_Table_All := by kernel_rfl
def ratio_Mul : R.Fn := ⟨2, [(.cell 4 3 true)], (.seq (.reg [] [.a 2 (.box (.t 0)), .a 3 (.box (.t 1)), .a 4 (.new [(.bool false), (.sl 1 []), (.sl 1 [])])] [0, 1] [])
  (.seq (.reg [] [.a 5 (.ld 3 true (.t 2)), .a 6 (.call F.ratio_Clean [(.t 5)]), .a 7 (.ld 3 true (.t 3)), .a 8 (.call F.ratio_Clean [(.t 7)]), .n (.st 3 (.t 2) (.t 6)), .n (.st 3 (.t 3) (.t 8))] [5, 6, 7, 8] [])
  (.seq (.reg [] [.a 9 (.fA 0 (.t 2)), .a 10 (.ld 2 true (.t 9)), .a 11 (.fA 0 (.t 3)), .a 12 (.ld 2 true (.t 11)), .a 13 (.call F.whole_Mul [(.t 10), (.t 12)]), .a 14 (.fA 2 (.t 2)), .a 15 (.ld 1 false (.t 14)), .a 16 (.fA 2 (.t 3)), .a 17 (.ld 1 false (.t 16)), .a 18 (.call F.nat_Mul [(.t 15), (.t 17)]), .a 19 (.call F.ratio_form [(.t 13), (.t 18)]), .n (.st 3 (.t 4) (.t 19))] [2, 3, 9, 10, 11, 12, 13, 14, 15, 16, 17, 18, 19] [2, 3])
  .ret)))⟩
def ratio_Mul.hint : R.Hint := { kill := [(0, [0, 1], []), (1, [5, 6, 7, 8], []), (2, [2, 3, 9, 10, 11, 12, 13, 14, 15, 16, 17, 18, 19], [2, 3])] }
theorem ratio_Mul.ok : cFn Tryd.prog ratio_Mul.hint Tryd.f28 = some ratio_Mul := by kernel_rfl
def ratio_Of : R.Fn := ⟨1, [(.cell 2 3 true)], (.seq (.reg [] [.a 2 (.new [(.bool false), (.sl 1 []), (.sl 1 [])])] [] [])
  (.seq (.reg [] [.a 3 (.mv (.t 0)), .a 4 (.call F.whole_Of [(.t 3)]), .a 5 (.call F.nat_Of [(.c (.int .u64 1))]), .a 6 (.bld [(.bool false), (.sl 1 []), (.sl 1 [])] [(0, 2, (.t 4)), (2, 1, (.t 5))]), .n (.st 3 (.t 2) (.t 6))] [0, 3, 4, 5, 6] [])
  .ret))⟩
def ratio_Of.hint : R.Hint := { kill := [(1, [0, 3, 4, 5, 6], [])] }
theorem ratio_Of.ok : cFn Tryd.prog ratio_Of.hint Tryd.f29 = some ratio_Of := by kernel_rfl
def ratio_Zero : R.Fn := ⟨0, [(.cell 0 3 true)], (.seq (.reg [] [.a 0 (.new [(.bool false), (.sl 1 []), (.sl 1 [])])] [] [])
  (.seq (.reg [] [.a 1 (.call F.nat_Of [(.c (.int .u64 1))]), .a 2 (.bld [(.bool false), (.sl 1 []), (.sl 1 [])] [(2, 1, (.t 1))]), .n (.st 3 (.t 0) (.t 2))] [1, 2] [])
  .ret))⟩
def ratio_Zero.hint : R.Hint := { kill := [(1, [1, 2], [])] }
theorem ratio_Zero.ok : cFn Tryd.prog ratio_Zero.hint Tryd.f30 = some ratio_Zero := by kernel_rfl
def ratio_Neg : R.Fn := ⟨1, [(.cell 2 3 true)], (.seq (.reg [] [.a 1 (.box (.t 0)), .a 2 (.new [(.bool false), (.sl 1 []), (.sl 1 [])])] [0] [])
  (.seq (.reg [] [.a 3 (.ld 3 true (.t 1)), .a 4 (.call F.ratio_Clean [(.t 3)]), .n (.st 3 (.t 1) (.t 4))] [3, 4] [])
  (.seq (.reg [] [.a 5 (.fA 0 (.t 1)), .a 6 (.ld 2 true (.t 5)), .a 7 (.call F.whole_Neg [(.t 6)]), .a 8 (.fA 0 (.t 1)), .n (.st 2 (.t 8) (.t 7))] [5, 6, 7, 8] [])
  (.seq (.reg [] [.a 9 (.ld 3 true (.t 1)), .n (.st 3 (.t 2) (.t 9))] [1, 9] [1])
  .ret))))⟩
def ratio_Neg.hint : R.Hint := { kill := [(0, [0], []), (1, [3, 4], []), (2, [5, 6, 7, 8], []), (3, [1, 9], [1])] }
theorem ratio_Neg.ok : cFn Tryd.prog ratio_Neg.hint Tryd.f31 = some ratio_Neg := by kernel_rfl
def ratio_Add : R.Fn := ⟨2, [(.cell 4 3 true)], (.seq (.reg [] [.a 2 (.box (.t 0)), .a 3 (.box (.t 1)), .a 4 (.new [(.bool false), (.sl 1 []), (.sl 1 [])])] [0, 1] [])
  (.seq (.reg [] [.a 5 (.ld 3 true (.t 2)), .a 6 (.call F.ratio_Clean [(.t 5)]), .a 7 (.ld 3 true (.t 3)), .a 8 (.call F.ratio_Clean [(.t 7)]), .n (.st 3 (.t 2) (.t 6)), .n (.st 3 (.t 3) (.t 8))] [5, 6, 7, 8] [])
  (.seq (.reg [] [.a 9 (.fA 0 (.t 2)), .a 10 (.ld 2 true (.t 9)), .a 11 (.ld 3 true (.t 3)), .a 12 (.call F.ratio_den [(.t 11)]), .a 13 (.call F.whole_Mul [(.t 10), (.t 12)]), .a 14 (.fA 0 (.t 3)), .a 15 (.ld 2 true (.t 14)), .a 16 (.ld 3 true (.t 2)), .a 17 (.call F.ratio_den [(.t 16)]), .a 18 (.call F.whole_Mul [(.t 15), (.t 17)]), .a 19 (.call F.whole_Add [(.t 13), (.t 18)]), .a 20 (.fA 2 (.t 2)), .a 21 (.ld 1 false (.t 20)), .a 22 (.fA 2 (.t 3)), .a 23 (.ld 1 false (.t 22)), .a 24 (.call F.nat_Mul [(.t 21), (.t 23)]), .a 25 (.call F.ratio_form [(.t 19), (.t 24)]), .n (.st 3 (.t 4) (.t 25))] [2, 3, 9, 10, 11, 12, 13, 14, 15, 16, 17, 18, 19, 20, 21, 22, 23, 24, 25] [2, 3])
  .ret)))⟩
def ratio_Add.hint : R.Hint := { kill := [(0, [0, 1], []), (1, [5, 6, 7, 8], []), (2, [2, 3, 9, 10, 11, 12, 13, 14, 15, 16, 17, 18, 19, 20, 21, 22, 23, 24, 25], [2, 3])] }
theorem ratio_Add.ok : cFn Tryd.prog ratio_Add.hint Tryd.f32 = some ratio_Add := by kernel_rfl
def ratio_One : R.Fn := ⟨0, [(.cell 0 3 true)], (.seq (.reg [] [.a 0 (.new [(.bool false), (.sl 1 []), (.sl 1 [])])] [] [])
  (.seq (.reg [] [.a 1 (.call F.ratio_Of [(.c (.int .i64 1))]), .n (.st 3 (.t 0) (.t 1))] [1] [])
  .ret))⟩
def ratio_One.hint : R.Hint := { kill := [(1, [1], [])] }
theorem ratio_One.ok : cFn Tryd.prog ratio_One.hint Tryd.f33 = some ratio_One := by kernel_rfl
def dendronlaw19_Few.b0 : R.C := (.seq (.seq (.reg [] [.a 5 (.mv (.t 4)), .a 6 (.mv (.t 0)), .a 7 (.ln (.t 6)), .a 8 (.bin .lss (.t 5) (.t 7)), .a 9 (.mv (.t 8)), .g 10 9 true (.mv (.t 4)), .g 11 9 true (.bin .lss (.t 10) (.c (.int .i64 33))), .a 12 (.pick (.t 9) (.t 11) (.c (.bool false)))] [5, 6, 7, 8, 9, 10, 11] [])
  (.cond (.t 12) .skip (.exit 0)))
  (.seq (.block 1 (.reg [] [.a 15 (.mv (.t 3)), .a 16 (.mv (.t 0)), .a 17 (.mv (.t 4)), .a 18 (.iA 3 (.t 16) (.t 17)), .a 19 (.ld 3 true (.t 18)), .a 20 (.call F.dendronlaw19_number [(.t 19)]), .a 21 (.lit 3 1 [(.bool false), (.sl 1 []), (.sl 1 [])] [(0, 3, (.t 20))]), .a 22 (.app 3 56 (.t 15) (.t 21)), .a 3 (.mv (.t 22))] [12, 15, 16, 17, 18, 19, 20, 21, 22] []))
  (.reg [] [.a 13 (.mv (.t 4)), .a 14 (.bin .add (.t 13) (.c (.int .i64 1))), .a 4 (.mv (.t 14))] [13, 14] [])))
def dendronlaw19_Few : R.Fn := ⟨1, [(.t 2)], (.seq (.reg [] [.a 2 (.mv (.c (.sl 3 [])))] [2] [])
  (.seq (.reg [] [.a 3 (.nil 3)] [] [])
  (.seq (.seq (.reg [] [.a 4 (.mv (.c (.int .i64 0)))] [] [])
  (.block 0 (.loop [] [] dendronlaw19_Few.b0)))
  (.seq (.reg [] [.a 23 (.mv (.t 3)), .a 2 (.mv (.t 23))] [0, 3, 4, 12, 23] [])
  .ret))))⟩
def dendronlaw19_Few.hint : R.Hint := { nil := [3], kill := [(0, [2], []), (3, [5, 6, 7, 8, 9, 10, 11], []), (4, [13, 14], []), (5, [12, 15, 16, 17, 18, 19, 20, 21, 22], []), (6, [0, 3, 4, 12, 23], [])] }
theorem dendronlaw19_Few.ok : cFn Tryd.prog dendronlaw19_Few.hint Tryd.f34 = some dendronlaw19_Few := by kernel_rfl
def game_Alike.b0 : R.C := (.seq (.reg [] [.a 38 (.bin .lss (.t 37) (.t 36))] [] [])
  (.seq (.cond (.t 38) .skip (.exit 0))
  (.seq (.block 1 (.seq (.reg [] [.a 39 (.mv (.t 37)), .a 9 (.mv (.t 39))] [38, 39] [])
  (.seq (.reg [] [.a 40 (.mv (.t 9)), .a 41 (.mv (.t 1)), .a 42 (.bin .shr (.t 40) (.t 41)), .a 43 (.bin .and (.t 42) (.c (.int .i64 1))), .a 44 (.bin .eql (.t 43) (.c (.int .i64 0))), .a 45 (.mv (.t 44)), .g 46 45 true (.mv (.t 9)), .g 47 45 true (.mv (.t 2)), .g 48 45 true (.bin .shr (.t 46) (.t 47)), .g 49 45 true (.bin .and (.t 48) (.c (.int .i64 1))), .g 50 45 true (.bin .eql (.t 49) (.c (.int .i64 0))), .a 51 (.pick (.t 45) (.t 50) (.c (.bool false))), .a 52 (.mv (.t 51)), .g 53 52 true (.mv (.t 0)), .g 54 52 true (.mv (.t 9)), .g 55 52 true (.mv (.t 1)), .g 56 52 true (.bin .shl (.c (.int .i64 1)) (.t 55)), .g 57 52 true (.bin .or (.t 54) (.t 56)), .g 58 52 true (.iA 3 (.t 53) (.t 57)), .g 59 52 true (.ld 3 true (.t 58)), .g 60 52 true (.mv (.t 0)), .g 61 52 true (.mv (.t 9)), .g 62 52 true (.mv (.t 2)), .g 63 52 true (.bin .shl (.c (.int .i64 1)) (.t 62)), .g 64 52 true (.bin .or (.t 61) (.t 63)), .g 65 52 true (.iA 3 (.t 60) (.t 64)), .g 66 52 true (.ld 3 true (.t 65)), .g 67 52 true (.call F.ratio_Same [(.t 59), (.t 66)]), .g 68 52 true (.un .not (.t 67)), .a 69 (.pick (.t 52) (.t 68) (.c (.bool false)))] [9, 40, 41, 42, 43, 44, 45, 46, 47, 48, 49, 50, 51, 52, 53, 54, 55, 56, 57, 58, 59, 60, 61, 62, 63, 64, 65, 66, 67, 68] [])
  (.cond (.t 69) (.seq (.reg [] [.a 6 (.mv (.c (.bool false)))] [0, 1, 2, 36, 37, 69] [])
  .ret) .skip))))
  (.reg [] [.a 70 (.bin .add (.t 37) (.c (.int .i64 1))), .a 37 (.mv (.t 70))] [69, 70] []))))
def game_Alike : R.Fn := ⟨3, [(.t 6)], (.seq (.reg [] [.a 6 (.mv (.c (.bool false)))] [6] [])
  (.seq (.reg [] [.a 11 (.mv (.t 0)), .a 12 (.call F.game_Players [(.t 11)]), .a 10 (.mv (.t 12)), .a 13 (.ext (.t 10) 0), .a 14 (.ext (.t 10) 1), .a 7 (.mv (.t 13)), .a 8 (.mv (.t 14))] [10, 11, 12, 13, 14] [])
  (.seq (.seq (.reg [] [.a 15 (.mv (.t 8)), .a 16 (.un .not (.t 15)), .a 17 (.mv (.t 16)), .g 18 17 false (.mv (.t 1)), .g 19 17 false (.bin .lss (.t 18) (.c (.int .i64 0))), .a 20 (.pick (.t 17) (.c (.bool true)) (.t 19)), .a 21 (.mv (.t 20)), .g 22 21 false (.mv (.t 1)), .g 23 21 false (.mv (.t 7)), .g 24 21 false (.bin .geq (.t 22) (.t 23)), .a 25 (.pick (.t 21) (.c (.bool true)) (.t 24)), .a 26 (.mv (.t 25)), .g 27 26 false (.mv (.t 2)), .g 28 26 false (.bin .lss (.t 27) (.c (.int .i64 0))), .a 29 (.pick (.t 26) (.c (.bool true)) (.t 28)), .a 30 (.mv (.t 29)), .g 31 30 false (.mv (.t 2)), .g 32 30 false (.mv (.t 7)), .g 33 30 false (.bin .geq (.t 31) (.t 32)), .a 34 (.pick (.t 30) (.c (.bool true)) (.t 33))] [7, 8, 15, 16, 17, 18, 19, 20, 21, 22, 23, 24, 25, 26, 27, 28, 29, 30, 31, 32, 33] [])
  (.cond (.t 34) (.seq (.reg [] [.a 6 (.mv (.c (.bool false)))] [0, 1, 2, 34] [])
  .ret) .skip))
  (.seq (.seq (.reg [] [.a 35 (.mv (.t 0)), .a 36 (.ln (.t 35)), .a 37 (.mv (.c (.int .i64 0)))] [34, 35] [])
  (.block 0 (.loop [] [] game_Alike.b0)))
  (.seq (.reg [] [.a 6 (.mv (.c (.bool true)))] [0, 1, 2, 36, 37, 38] [])
  .ret)))))⟩
def game_Alike.hint : R.Hint := { kill := [(0, [6], []), (1, [10, 11, 12, 13, 14], []), (2, [7, 8, 15, 16, 17, 18, 19, 20, 21, 22, 23, 24, 25, 26, 27, 28, 29, 30, 31, 32, 33], []), (3, [0, 1, 2, 34], []), (4, [34, 35], []), (6, [38, 39], []), (7, [9, 40, 41, 42, 43, 44, 45, 46, 47, 48, 49, 50, 51, 52, 53, 54, 55, 56, 57, 58, 59, 60, 61, 62, 63, 64, 65, 66, 67, 68], []), (8, [0, 1, 2, 36, 37, 69], []), (9, [69, 70], []), (10, [0, 1, 2, 36, 37, 38], [])] }
theorem game_Alike.ok : cFn Tryd.prog game_Alike.hint Tryd.f35 = some game_Alike := by kernel_rfl
def dendronlaw19_Size.b0 : R.C := (.seq (.seq (.reg [] [.a 4 (.mv (.t 3)), .a 5 (.bin .lss (.t 4) (.c (.int .i64 6)))] [4] [])
  (.cond (.t 5) .skip (.exit 0)))
  (.seq (.block 1 (.seq (.reg [] [.a 8 (.mv (.t 0)), .a 9 (.ln (.t 8)), .a 10 (.mv (.t 3)), .a 11 (.call F.dendronlaw19_two [(.t 10)]), .a 12 (.bin .eql (.t 9) (.t 11))] [5, 8, 9, 10, 11] [])
  (.cond (.t 12) (.seq (.reg [] [.a 13 (.mv (.t 3)), .a 2 (.mv (.t 13))] [0, 3, 12, 13] [])
  .ret) .skip)))
  (.reg [] [.a 6 (.mv (.t 3)), .a 7 (.bin .add (.t 6) (.c (.int .i64 1))), .a 3 (.mv (.t 7))] [6, 7, 12] [])))
def dendronlaw19_Size : R.Fn := ⟨1, [(.t 2)], (.seq (.reg [] [.a 2 (.mv (.c (.int .i64 0)))] [2] [])
  (.seq (.seq (.reg [] [.a 3 (.mv (.c (.int .i64 0)))] [] [])
  (.block 0 (.loop [] [] dendronlaw19_Size.b0)))
  (.seq (.reg [] [.a 2 (.mv (.c (.int .i64 (-1))))] [0, 3, 5] [])
  .ret)))⟩
def dendronlaw19_Size.hint : R.Hint := { kill := [(0, [2], []), (2, [4], []), (3, [6, 7, 12], []), (4, [5, 8, 9, 10, 11], []), (5, [0, 3, 12, 13], []), (6, [0, 3, 5], [])] }
theorem dendronlaw19_Size.ok : cFn Tryd.prog dendronlaw19_Size.hint Tryd.f36 = some dendronlaw19_Size := by kernel_rfl
def dendronlaw19_awake : R.Fn := ⟨0, [(.t 0)], (.seq (.reg [] [.a 0 (.mv (.c (.bool false)))] [0] [])
  (.seq (.reg [] [.a 4 (.call F.ratio_Of [(.c (.int .i64 0))]), .a 5 (.call F.ratio_Of [(.c (.int .i64 1))]), .a 6 (.call F.ratio_Of [(.c (.int .i64 2))]), .a 7 (.call F.ratio_Of [(.c (.int .i64 5))]), .a 8 (.lit 3 4 [(.bool false), (.sl 1 []), (.sl 1 []), (.bool false), (.sl 1 []), (.sl 1 []), (.bool false), (.sl 1 []), (.sl 1 []), (.bool false), (.sl 1 []), (.sl 1 [])] [(0, 3, (.t 4)), (3, 3, (.t 5)), (6, 3, (.t 6)), (9, 3, (.t 7))]), .a 9 (.call F.game_Shapley [(.t 8)]), .a 3 (.mv (.t 9)), .a 10 (.ext (.t 3) 0), .a 11 (.ext (.t 3) 1), .a 1 (.mv (.t 10)), .a 2 (.mv (.t 11))] [3, 4, 5, 6, 7, 8, 9, 10, 11] [])
  (.seq (.reg [] [.a 12 (.mv (.t 2)), .a 13 (.bin .eql (.t 12) (.c (.int .i64 0))), .a 14 (.mv (.t 13)), .g 15 14 true (.mv (.t 1)), .g 16 14 true (.ln (.t 15)), .g 17 14 true (.bin .eql (.t 16) (.c (.int .i64 2))), .a 18 (.pick (.t 14) (.t 17) (.c (.bool false))), .a 19 (.mv (.t 18)), .g 20 19 true (.mv (.t 1)), .g 21 19 true (.iA 3 (.t 20) (.c (.int .i64 0))), .g 22 19 true (.ld 3 true (.t 21)), .g 23 19 true (.call F.ratio_Of [(.c (.int .i64 2))]), .g 24 19 true (.call F.ratio_Same [(.t 22), (.t 23)]), .a 25 (.pick (.t 19) (.t 24) (.c (.bool false))), .a 26 (.mv (.t 25)), .g 27 26 true (.mv (.t 1)), .g 28 26 true (.iA 3 (.t 27) (.c (.int .i64 1))), .g 29 26 true (.ld 3 true (.t 28)), .g 30 26 true (.call F.ratio_Of [(.c (.int .i64 3))]), .g 31 26 true (.call F.ratio_Same [(.t 29), (.t 30)]), .a 32 (.pick (.t 26) (.t 31) (.c (.bool false))), .a 0 (.mv (.t 32))] [1, 2, 12, 13, 14, 15, 16, 17, 18, 19, 20, 21, 22, 23, 24, 25, 26, 27, 28, 29, 30, 31, 32] [])
  .ret)))⟩
def dendronlaw19_awake.hint : R.Hint := { kill := [(0, [0], []), (1, [3, 4, 5, 6, 7, 8, 9, 10, 11], []), (2, [1, 2, 12, 13, 14, 15, 16, 17, 18, 19, 20, 21, 22, 23, 24, 25, 26, 27, 28, 29, 30, 31, 32], [])] }
theorem dendronlaw19_awake.ok : cFn Tryd.prog dendronlaw19_awake.hint Tryd.f37 = some dendronlaw19_awake := by kernel_rfl
def game_Shapley.b2 : R.C := (.seq (.reg [] [.a 36 (.bin .lss (.t 35) (.t 34))] [] [])
  (.seq (.cond (.t 36) .skip (.exit 2))
  (.seq (.block 3 (.seq (.reg [] [.a 37 (.mv (.t 35)), .a 11 (.mv (.t 37))] [36, 37] [])
  (.seq (.reg [] [.a 38 (.mv (.t 11)), .a 39 (.mv (.t 9)), .a 40 (.bin .shr (.t 38) (.t 39)), .a 41 (.bin .and (.t 40) (.c (.int .i64 1))), .a 42 (.bin .eql (.t 41) (.c (.int .i64 0)))] [38, 39, 40, 41] [])
  (.cond (.t 42) (.seq (.reg [] [.a 43 (.mv (.t 0)), .a 44 (.mv (.t 11)), .a 45 (.mv (.t 9)), .a 46 (.bin .shl (.c (.int .i64 1)) (.t 45)), .a 47 (.bin .or (.t 44) (.t 46)), .a 48 (.iA 3 (.t 43) (.t 47)), .a 49 (.ld 3 true (.t 48)), .a 50 (.mv (.t 0)), .a 51 (.mv (.t 11)), .a 52 (.iA 3 (.t 50) (.t 51)), .a 53 (.ld 3 true (.t 52)), .a 54 (.call F.ratio_Sub [(.t 49), (.t 53)]), .a 12 (.new [(.bool false), (.sl 1 []), (.sl 1 [])]), .n (.st 3 (.t 12) (.t 54))] [42, 43, 44, 45, 46, 47, 48, 49, 50, 51, 52, 53, 54] [])
  (.reg [42949672970, 51539607564] [.a 55 (.ld 3 true (.t 10)), .a 56 (.mv (.t 6)), .a 57 (.mv (.t 11)), .a 58 (.conv .u64 (.t 57)), .a 59 (.call F.bits_OnesCount [(.t 58)]), .a 60 (.iA 3 (.t 56) (.t 59)), .a 61 (.ld 3 true (.t 60)), .a 62 (.ld 3 true (.t 12)), .a 63 (.call F.ratio_Mul [(.t 61), (.t 62)]), .a 64 (.call F.ratio_Add [(.t 55), (.t 63)]), .n (.st 3 (.t 10) (.t 64))] [11, 12, 55, 56, 57, 58, 59, 60, 61, 62, 63, 64] [12])) .skip))))
  (.reg [] [.a 65 (.bin .add (.t 35) (.c (.int .i64 1))), .a 35 (.mv (.t 65))] [11, 42, 65] []))))
def game_Shapley.b0 : R.C := (.seq (.reg [] [.a 30 (.bin .lss (.t 29) (.t 28))] [] [])
  (.seq (.cond (.t 30) .skip (.exit 0))
  (.seq (.block 1 (.seq (.reg [] [.a 31 (.mv (.t 29)), .a 9 (.mv (.t 31))] [30, 31] [])
  (.seq (.reg [] [.a 32 (.call F.ratio_Zero []), .a 10 (.new [(.bool false), (.sl 1 []), (.sl 1 [])]), .n (.st 3 (.t 10) (.t 32))] [32] [])
  (.seq (.seq (.reg [] [.a 33 (.mv (.t 0)), .a 34 (.ln (.t 33)), .a 35 (.mv (.c (.int .i64 0)))] [33] [])
  (.block 2 (.loop [] [] game_Shapley.b2)))
  (.reg [] [.a 66 (.mv (.t 8)), .a 67 (.ld 3 true (.t 10)), .a 68 (.lit 3 1 [(.bool false), (.sl 1 []), (.sl 1 [])] [(0, 3, (.t 67))]), .a 69 (.app 3 56 (.t 66) (.t 68)), .a 8 (.mv (.t 69))] [9, 10, 34, 35, 36, 66, 67, 68, 69] [10])))))
  (.reg [] [.a 70 (.bin .add (.t 29) (.c (.int .i64 1))), .a 29 (.mv (.t 70))] [70] []))))
def game_Shapley : R.Fn := ⟨1, [(.t 2), (.t 3)], (.seq (.reg [] [.a 2 (.mv (.c (.sl 3 []))), .a 3 (.mv (.c (.int .i64 0)))] [2, 3] [])
  (.seq (.reg [] [.a 14 (.mv (.t 0)), .a 15 (.call F.game_Players [(.t 14)]), .a 13 (.mv (.t 15)), .a 16 (.ext (.t 13) 0), .a 17 (.ext (.t 13) 1), .a 4 (.mv (.t 16)), .a 5 (.mv (.t 17))] [13, 14, 15, 16, 17] [])
  (.seq (.seq (.reg [] [.a 18 (.mv (.t 5)), .a 19 (.un .not (.t 18))] [5, 18] [])
  (.cond (.t 19) (.seq (.reg [] [.a 2 (.mv (.c (.sl 3 []))), .a 3 (.mv (.c (.int .i64 1)))] [0, 4, 19] [])
  .ret) .skip))
  (.seq (.seq (.reg [] [.a 20 (.mv (.t 4)), .a 21 (.bin .eql (.t 20) (.c (.int .i64 0)))] [19, 20] [])
  (.cond (.t 21) (.seq (.reg [] [.a 2 (.mv (.c (.sl 3 []))), .a 3 (.mv (.c (.int .i64 0)))] [0, 4, 21] [])
  .ret) .skip))
  (.seq (.reg [] [.a 23 (.callk F.weigh_New []), .a 24 (.mv (.t 4)), .a 25 (.callk F.dendron_weigh_Table_All [(true, (.t 23)), (false, (.t 24))]), .a 22 (.mv (.t 25)), .a 26 (.ext (.t 22) 0), .a 27 (.ext (.t 22) 1), .a 6 (.mv (.t 26)), .a 7 (.mv (.t 27))] [7, 21, 22, 23, 24, 25, 26, 27] [])
  (.seq (.reg [] [.a 8 (.nil 3)] [] [])
  (.seq (.seq (.reg [] [.a 28 (.mv (.t 4)), .a 29 (.mv (.c (.int .i64 0)))] [4] [])
  (.block 0 (.loop [] [] game_Shapley.b0)))
  (.seq (.reg [] [.a 71 (.mv (.t 8)), .a 2 (.mv (.t 71)), .a 3 (.mv (.c (.int .i64 0)))] [0, 6, 8, 28, 29, 30, 71] [23, 25, 1023, 1025, 2023, 2025, 3023, 3025])
  .ret))))))))⟩
def game_Shapley.hint : R.Hint := { nil := [8], callk := [(23, []), (25, [true, false])], pub := [(17, [42949672970, 51539607564])], kill := [(0, [2, 3], []), (1, [13, 14, 15, 16, 17], []), (2, [5, 18], []), (3, [0, 4, 19], []), (4, [19, 20], []), (5, [0, 4, 21], []), (6, [7, 21, 22, 23, 24, 25, 26, 27], []), (8, [4], []), (10, [30, 31], []), (11, [32], []), (12, [33], []), (14, [36, 37], []), (15, [38, 39, 40, 41], []), (16, [42, 43, 44, 45, 46, 47, 48, 49, 50, 51, 52, 53, 54], []), (17, [11, 12, 55, 56, 57, 58, 59, 60, 61, 62, 63, 64], [12]), (18, [11, 42, 65], []), (19, [9, 10, 34, 35, 36, 66, 67, 68, 69], [10]), (20, [70], []), (21, [0, 6, 8, 28, 29, 30, 71], [23, 25, 1023, 1025, 2023, 2025, 3023, 3025])] }
theorem game_Shapley.ok : cFn Tryd.prog game_Shapley.hint Tryd.f38 = some game_Shapley := by kernel_rfl
def dendronlaw19_alike.b0 : R.C := (.seq (.seq (.reg [] [.a 8 (.mv (.t 7)), .a 9 (.mv (.t 0)), .a 10 (.ln (.t 9)), .a 11 (.bin .lss (.t 8) (.t 10))] [8, 9, 10] [])
  (.cond (.t 11) .skip (.exit 0)))
  (.seq (.block 1 (.seq (.reg [] [.a 14 (.mv (.t 7)), .a 15 (.mv (.t 1)), .a 16 (.call F.dendronref19_In [(.t 14), (.t 15)]), .a 17 (.un .not (.t 16)), .a 18 (.mv (.t 17)), .g 19 18 true (.mv (.t 7)), .g 20 18 true (.mv (.t 2)), .g 21 18 true (.call F.dendronref19_In [(.t 19), (.t 20)]), .g 22 18 true (.un .not (.t 21)), .a 23 (.pick (.t 18) (.t 22) (.c (.bool false))), .a 24 (.mv (.t 23)), .g 25 24 true (.mv (.t 0)), .g 26 24 true (.mv (.t 7)), .g 27 24 true (.mv (.t 1)), .g 28 24 true (.call F.dendronlaw19_two [(.t 27)]), .g 29 24 true (.bin .add (.t 26) (.t 28)), .g 30 24 true (.iA 3 (.t 25) (.t 29)), .g 31 24 true (.ld 3 true (.t 30)), .g 32 24 true (.mv (.t 0)), .g 33 24 true (.mv (.t 7)), .g 34 24 true (.mv (.t 2)), .g 35 24 true (.call F.dendronlaw19_two [(.t 34)]), .g 36 24 true (.bin .add (.t 33) (.t 35)), .g 37 24 true (.iA 3 (.t 32) (.t 36)), .g 38 24 true (.ld 3 true (.t 37)), .g 39 24 true (.call F.ratio_Same [(.t 31), (.t 38)]), .g 40 24 true (.un .not (.t 39)), .a 41 (.pick (.t 24) (.t 40) (.c (.bool false)))] [11, 14, 15, 16, 17, 18, 19, 20, 21, 22, 23, 24, 25, 26, 27, 28, 29, 30, 31, 32, 33, 34, 35, 36, 37, 38, 39, 40] [])
  (.cond (.t 41) (.seq (.reg [] [.a 6 (.mv (.c (.bool false)))] [0, 1, 2, 7, 41] [])
  .ret) .skip)))
  (.reg [] [.a 12 (.mv (.t 7)), .a 13 (.bin .add (.t 12) (.c (.int .i64 1))), .a 7 (.mv (.t 13))] [12, 13, 41] [])))
def dendronlaw19_alike : R.Fn := ⟨3, [(.t 6)], (.seq (.reg [] [.a 6 (.mv (.c (.bool false)))] [6] [])
  (.seq (.seq (.reg [] [.a 7 (.mv (.c (.int .i64 0)))] [] [])
  (.block 0 (.loop [] [] dendronlaw19_alike.b0)))
  (.seq (.reg [] [.a 6 (.mv (.c (.bool true)))] [0, 1, 2, 7, 11] [])
  .ret)))⟩
def dendronlaw19_alike.hint : R.Hint := { kill := [(0, [6], []), (2, [8, 9, 10], []), (3, [12, 13, 41], []), (4, [11, 14, 15, 16, 17, 18, 19, 20, 21, 22, 23, 24, 25, 26, 27, 28, 29, 30, 31, 32, 33, 34, 35, 36, 37, 38, 39, 40], []), (5, [0, 1, 2, 7, 41], []), (6, [0, 1, 2, 7, 11], [])] }
theorem dendronlaw19_alike.ok : cFn Tryd.prog dendronlaw19_alike.hint Tryd.f39 = some dendronlaw19_alike := by kernel_rfl
def game_Null.b0 : R.C := (.seq (.reg [] [.a 27 (.bin .lss (.t 26) (.t 25))] [] [])
  (.seq (.cond (.t 27) .skip (.exit 0))
  (.seq (.block 1 (.seq (.reg [] [.a 28 (.mv (.t 26)), .a 7 (.mv (.t 28))] [27, 28] [])
  (.seq (.reg [] [.a 29 (.mv (.t 7)), .a 30 (.mv (.t 1)), .a 31 (.bin .shr (.t 29) (.t 30)), .a 32 (.bin .and (.t 31) (.c (.int .i64 1))), .a 33 (.bin .eql (.t 32) (.c (.int .i64 0))), .a 34 (.mv (.t 33)), .g 35 34 true (.mv (.t 0)), .g 36 34 true (.mv (.t 7)), .g 37 34 true (.mv (.t 1)), .g 38 34 true (.bin .shl (.c (.int .i64 1)) (.t 37)), .g 39 34 true (.bin .or (.t 36) (.t 38)), .g 40 34 true (.iA 3 (.t 35) (.t 39)), .g 41 34 true (.ld 3 true (.t 40)), .g 42 34 true (.mv (.t 0)), .g 43 34 true (.mv (.t 7)), .g 44 34 true (.iA 3 (.t 42) (.t 43)), .g 45 34 true (.ld 3 true (.t 44)), .g 46 34 true (.call F.ratio_Same [(.t 41), (.t 45)]), .g 47 34 true (.un .not (.t 46)), .a 48 (.pick (.t 34) (.t 47) (.c (.bool false)))] [7, 29, 30, 31, 32, 33, 34, 35, 36, 37, 38, 39, 40, 41, 42, 43, 44, 45, 46, 47] [])
  (.cond (.t 48) (.seq (.reg [] [.a 4 (.mv (.c (.bool false)))] [0, 1, 25, 26, 48] [])
  .ret) .skip))))
  (.reg [] [.a 49 (.bin .add (.t 26) (.c (.int .i64 1))), .a 26 (.mv (.t 49))] [48, 49] []))))
def game_Null : R.Fn := ⟨2, [(.t 4)], (.seq (.reg [] [.a 4 (.mv (.c (.bool false)))] [4] [])
  (.seq (.reg [] [.a 9 (.mv (.t 0)), .a 10 (.call F.game_Players [(.t 9)]), .a 8 (.mv (.t 10)), .a 11 (.ext (.t 8) 0), .a 12 (.ext (.t 8) 1), .a 5 (.mv (.t 11)), .a 6 (.mv (.t 12))] [8, 9, 10, 11, 12] [])
  (.seq (.seq (.reg [] [.a 13 (.mv (.t 6)), .a 14 (.un .not (.t 13)), .a 15 (.mv (.t 14)), .g 16 15 false (.mv (.t 1)), .g 17 15 false (.bin .lss (.t 16) (.c (.int .i64 0))), .a 18 (.pick (.t 15) (.c (.bool true)) (.t 17)), .a 19 (.mv (.t 18)), .g 20 19 false (.mv (.t 1)), .g 21 19 false (.mv (.t 5)), .g 22 19 false (.bin .geq (.t 20) (.t 21)), .a 23 (.pick (.t 19) (.c (.bool true)) (.t 22))] [5, 6, 13, 14, 15, 16, 17, 18, 19, 20, 21, 22] [])
  (.cond (.t 23) (.seq (.reg [] [.a 4 (.mv (.c (.bool false)))] [0, 1, 23] [])
  .ret) .skip))
  (.seq (.seq (.reg [] [.a 24 (.mv (.t 0)), .a 25 (.ln (.t 24)), .a 26 (.mv (.c (.int .i64 0)))] [23, 24] [])
  (.block 0 (.loop [] [] game_Null.b0)))
  (.seq (.reg [] [.a 4 (.mv (.c (.bool true)))] [0, 1, 25, 26, 27] [])
  .ret)))))⟩
def game_Null.hint : R.Hint := { kill := [(0, [4], []), (1, [8, 9, 10, 11, 12], []), (2, [5, 6, 13, 14, 15, 16, 17, 18, 19, 20, 21, 22], []), (3, [0, 1, 23], []), (4, [23, 24], []), (6, [27, 28], []), (7, [7, 29, 30, 31, 32, 33, 34, 35, 36, 37, 38, 39, 40, 41, 42, 43, 44, 45, 46, 47], []), (8, [0, 1, 25, 26, 48], []), (9, [48, 49], []), (10, [0, 1, 25, 26, 27], [])] }
theorem game_Null.ok : cFn Tryd.prog game_Null.hint Tryd.f40 = some game_Null := by kernel_rfl
def dendronlaw19_null.b0 : R.C := (.seq (.seq (.reg [] [.a 6 (.mv (.t 5)), .a 7 (.mv (.t 0)), .a 8 (.ln (.t 7)), .a 9 (.bin .lss (.t 6) (.t 8))] [6, 7, 8] [])
  (.cond (.t 9) .skip (.exit 0)))
  (.seq (.block 1 (.seq (.reg [] [.a 12 (.mv (.t 5)), .a 13 (.mv (.t 1)), .a 14 (.call F.dendronref19_In [(.t 12), (.t 13)]), .a 15 (.un .not (.t 14)), .a 16 (.mv (.t 15)), .g 17 16 true (.mv (.t 0)), .g 18 16 true (.mv (.t 5)), .g 19 16 true (.mv (.t 1)), .g 20 16 true (.call F.dendronlaw19_two [(.t 19)]), .g 21 16 true (.bin .add (.t 18) (.t 20)), .g 22 16 true (.iA 3 (.t 17) (.t 21)), .g 23 16 true (.ld 3 true (.t 22)), .g 24 16 true (.mv (.t 0)), .g 25 16 true (.mv (.t 5)), .g 26 16 true (.iA 3 (.t 24) (.t 25)), .g 27 16 true (.ld 3 true (.t 26)), .g 28 16 true (.call F.ratio_Same [(.t 23), (.t 27)]), .g 29 16 true (.un .not (.t 28)), .a 30 (.pick (.t 16) (.t 29) (.c (.bool false)))] [9, 12, 13, 14, 15, 16, 17, 18, 19, 20, 21, 22, 23, 24, 25, 26, 27, 28, 29] [])
  (.cond (.t 30) (.seq (.reg [] [.a 4 (.mv (.c (.bool false)))] [0, 1, 5, 30] [])
  .ret) .skip)))
  (.reg [] [.a 10 (.mv (.t 5)), .a 11 (.bin .add (.t 10) (.c (.int .i64 1))), .a 5 (.mv (.t 11))] [10, 11, 30] [])))
def dendronlaw19_null : R.Fn := ⟨2, [(.t 4)], (.seq (.reg [] [.a 4 (.mv (.c (.bool false)))] [4] [])
  (.seq (.seq (.reg [] [.a 5 (.mv (.c (.int .i64 0)))] [] [])
  (.block 0 (.loop [] [] dendronlaw19_null.b0)))
  (.seq (.reg [] [.a 4 (.mv (.c (.bool true)))] [0, 1, 5, 9] [])
  .ret)))⟩
def dendronlaw19_null.hint : R.Hint := { kill := [(0, [4], []), (2, [6, 7, 8], []), (3, [10, 11, 30], []), (4, [9, 12, 13, 14, 15, 16, 17, 18, 19, 20, 21, 22, 23, 24, 25, 26, 27, 28, 29], []), (5, [0, 1, 5, 30], []), (6, [0, 1, 5, 9], [])] }
theorem dendronlaw19_null.ok : cFn Tryd.prog dendronlaw19_null.hint Tryd.f41 = some dendronlaw19_null := by kernel_rfl
def ratio_Sign : R.Fn := ⟨1, [(.t 2)], (.seq (.reg [] [.a 1 (.box (.t 0)), .a 2 (.mv (.c (.int .i64 0)))] [0, 2] [])
  (.seq (.reg [] [.a 3 (.ld 3 true (.t 1)), .a 4 (.call F.ratio_Clean [(.t 3)]), .a 5 (.fV 0 2 true (.t 4)), .a 6 (.call F.whole_Sign [(.t 5)]), .a 2 (.mv (.t 6))] [1, 3, 4, 5, 6] [1])
  .ret))⟩
def ratio_Sign.hint : R.Hint := { kill := [(0, [0, 2], []), (1, [1, 3, 4, 5, 6], [1])] }
theorem ratio_Sign.ok : cFn Tryd.prog ratio_Sign.hint Tryd.f42 = some ratio_Sign := by kernel_rfl
def game_Sum.b0 : R.C := (.seq (.reg [] [.a 27 (.bin .lss (.t 26) (.t 25))] [] [])
  (.seq (.cond (.t 27) .skip (.exit 0))
  (.seq (.block 1 (.seq (.reg [] [.a 28 (.mv (.t 26)), .a 9 (.mv (.t 28))] [27, 28] [])
  (.reg [] [.a 29 (.mv (.t 8)), .a 30 (.mv (.t 0)), .a 31 (.mv (.t 9)), .a 32 (.iA 3 (.t 30) (.t 31)), .a 33 (.ld 3 true (.t 32)), .a 34 (.mv (.t 1)), .a 35 (.mv (.t 9)), .a 36 (.iA 3 (.t 34) (.t 35)), .a 37 (.ld 3 true (.t 36)), .a 38 (.call F.ratio_Add [(.t 33), (.t 37)]), .a 39 (.lit 3 1 [(.bool false), (.sl 1 []), (.sl 1 [])] [(0, 3, (.t 38))]), .a 40 (.app 3 56 (.t 29) (.t 39)), .a 8 (.mv (.t 40))] [9, 29, 30, 31, 32, 33, 34, 35, 36, 37, 38, 39, 40] [])))
  (.reg [] [.a 41 (.bin .add (.t 26) (.c (.int .i64 1))), .a 26 (.mv (.t 41))] [41] []))))
def game_Sum : R.Fn := ⟨2, [(.t 4), (.t 5)], (.seq (.reg [] [.a 4 (.mv (.c (.sl 3 []))), .a 5 (.mv (.c (.int .i64 0)))] [4, 5] [])
  (.seq (.reg [] [.a 11 (.mv (.t 0)), .a 12 (.call F.game_Players [(.t 11)]), .a 10 (.mv (.t 12)), .a 13 (.ext (.t 10) 0), .a 14 (.ext (.t 10) 1), .a 6 (.mv (.t 13)), .a 7 (.mv (.t 14))] [6, 10, 11, 12, 13, 14] [])
  (.seq (.seq (.reg [] [.a 15 (.mv (.t 7)), .a 16 (.un .not (.t 15)), .a 17 (.mv (.t 16)), .g 18 17 false (.mv (.t 0)), .g 19 17 false (.ln (.t 18)), .g 20 17 false (.mv (.t 1)), .g 21 17 false (.ln (.t 20)), .g 22 17 false (.bin .neq (.t 19) (.t 21)), .a 23 (.pick (.t 17) (.c (.bool true)) (.t 22))] [7, 15, 16, 17, 18, 19, 20, 21, 22] [])
  (.cond (.t 23) (.seq (.reg [] [.a 4 (.mv (.c (.sl 3 []))), .a 5 (.mv (.c (.int .i64 1)))] [0, 1, 23] [])
  .ret) .skip))
  (.seq (.reg [] [.a 8 (.nil 3)] [23] [])
  (.seq (.seq (.reg [] [.a 24 (.mv (.t 0)), .a 25 (.ln (.t 24)), .a 26 (.mv (.c (.int .i64 0)))] [24] [])
  (.block 0 (.loop [] [] game_Sum.b0)))
  (.seq (.reg [] [.a 42 (.mv (.t 8)), .a 4 (.mv (.t 42)), .a 5 (.mv (.c (.int .i64 0)))] [0, 1, 8, 25, 26, 27, 42] [])
  .ret))))))⟩
def game_Sum.hint : R.Hint := { nil := [8], kill := [(0, [4, 5], []), (1, [6, 10, 11, 12, 13, 14], []), (2, [7, 15, 16, 17, 18, 19, 20, 21, 22], []), (3, [0, 1, 23], []), (4, [23], []), (5, [24], []), (7, [27, 28], []), (8, [9, 29, 30, 31, 32, 33, 34, 35, 36, 37, 38, 39, 40], []), (9, [41], []), (10, [0, 1, 8, 25, 26, 27, 42], [])] }
theorem game_Sum.ok : cFn Tryd.prog game_Sum.hint Tryd.f43 = some game_Sum := by kernel_rfl
def ratio_Right : R.Fn := ⟨1, [(.t 2)], (.seq (.reg [] [.a 1 (.box (.t 0)), .a 2 (.mv (.c (.bool false)))] [0, 2] [])
  (.seq (.seq (.reg [] [.a 4 (.fA 0 (.t 1)), .a 5 (.ld 2 true (.t 4)), .a 6 (.call F.whole_Right [(.t 5)]), .a 7 (.un .not (.t 6)), .a 8 (.mv (.t 7)), .g 9 8 false (.fA 2 (.t 1)), .g 10 8 false (.ld 1 false (.t 9)), .g 11 8 false (.call F.nat_Right [(.t 10)]), .g 12 8 false (.un .not (.t 11)), .a 13 (.pick (.t 8) (.c (.bool true)) (.t 12)), .a 14 (.mv (.t 13)), .g 15 14 false (.fA 2 (.t 1)), .g 16 14 false (.ld 1 false (.t 15)), .g 17 14 false (.ln (.t 16)), .g 18 14 false (.bin .eql (.t 17) (.c (.int .i64 0))), .a 19 (.pick (.t 14) (.c (.bool true)) (.t 18))] [4, 5, 6, 7, 8, 9, 10, 11, 12, 13, 14, 15, 16, 17, 18] [])
  (.cond (.t 19) (.seq (.reg [] [.a 2 (.mv (.c (.bool false)))] [1, 19] [1])
  .ret) .skip))
  (.seq (.reg [] [.a 20 (.fA 0 (.t 1)), .a 21 (.fA 1 (.t 20)), .a 22 (.ld 1 false (.t 21)), .a 23 (.fA 2 (.t 1)), .a 24 (.ld 1 false (.t 23)), .a 25 (.call F.nat_Gcd [(.t 22), (.t 24)]), .a 3 (.mv (.t 25))] [1, 19, 20, 21, 22, 23, 24, 25] [1])
  (.seq (.reg [] [.a 26 (.mv (.t 3)), .a 27 (.call F.nat_Of [(.c (.int .u64 1))]), .a 28 (.call F.nat_Cmp [(.t 26), (.t 27)]), .a 29 (.bin .eql (.t 28) (.c (.int .i64 0))), .a 2 (.mv (.t 29))] [3, 26, 27, 28, 29] [])
  .ret))))⟩
def ratio_Right.hint : R.Hint := { kill := [(0, [0, 2], []), (1, [4, 5, 6, 7, 8, 9, 10, 11, 12, 13, 14, 15, 16, 17, 18], []), (2, [1, 19], [1]), (3, [1, 19, 20, 21, 22, 23, 24, 25], [1]), (4, [3, 26, 27, 28, 29], [])] }
theorem ratio_Right.ok : cFn Tryd.prog ratio_Right.hint Tryd.f44 = some ratio_Right := by kernel_rfl
def dendronlaw22_few : R.Fn := ⟨1, [(.t 2)], (.seq (.reg [] [.a 2 (.mv (.c (.sl 1 [])))] [2] [])
  (.seq (.seq (.reg [] [.a 3 (.mv (.t 0)), .a 4 (.ln (.t 3)), .a 5 (.bin .gtr (.t 4) (.c (.int .i64 12)))] [3, 4] [])
  (.cond (.t 5) (.seq (.reg [] [.a 6 (.mv (.t 0)), .a 7 (.slc 1 (.t 6) none (some (.c (.int .i64 12)))), .a 2 (.mv (.t 7))] [0, 5, 6, 7] [])
  .ret) .skip))
  (.seq (.reg [] [.a 8 (.mv (.t 0)), .a 2 (.mv (.t 8))] [0, 5, 8] [])
  .ret)))⟩
def dendronlaw22_few.hint : R.Hint := { kill := [(0, [2], []), (1, [3, 4], []), (2, [0, 5, 6, 7], []), (3, [0, 5, 8], [])] }
theorem dendronlaw22_few.ok : cFn Tryd.prog dendronlaw22_few.hint Tryd.f45 = some dendronlaw22_few := by kernel_rfl
def owen_Quotient.b0 : R.C := (.seq (.reg [] [.a 27 (.bin .lss (.t 26) (.t 25))] [] [])
  (.seq (.cond (.t 27) .skip (.exit 0))
  (.seq (.block 1 (.seq (.reg [] [.a 28 (.mv (.t 26)), .a 9 (.mv (.t 28))] [27, 28] [])
  (.reg [] [.a 29 (.mv (.t 8)), .a 30 (.mv (.t 0)), .a 31 (.mv (.t 1)), .a 32 (.mv (.t 9)), .a 33 (.call F.owen_merged [(.t 31), (.t 32)]), .a 34 (.iA 3 (.t 30) (.t 33)), .a 35 (.ld 3 true (.t 34)), .a 36 (.call F.ratio_Clean [(.t 35)]), .a 37 (.lit 3 1 [(.bool false), (.sl 1 []), (.sl 1 [])] [(0, 3, (.t 36))]), .a 38 (.app 3 56 (.t 29) (.t 37)), .a 8 (.mv (.t 38))] [9, 29, 30, 31, 32, 33, 34, 35, 36, 37, 38] [])))
  (.reg [] [.a 39 (.bin .add (.t 26) (.c (.int .i64 1))), .a 26 (.mv (.t 39))] [39] []))))
def owen_Quotient : R.Fn := ⟨2, [(.t 4), (.t 5)], (.seq (.reg [] [.a 4 (.mv (.c (.sl 3 []))), .a 5 (.mv (.c (.int .i64 0)))] [4, 5] [])
  (.seq (.reg [] [.a 11 (.mv (.t 0)), .a 12 (.call F.game_Players [(.t 11)]), .a 10 (.mv (.t 12)), .a 13 (.ext (.t 10) 0), .a 14 (.ext (.t 10) 1), .a 6 (.mv (.t 13)), .a 7 (.mv (.t 14))] [10, 11, 12, 13, 14] [])
  (.seq (.seq (.reg [] [.a 15 (.mv (.t 7)), .a 16 (.un .not (.t 15)), .a 17 (.mv (.t 16)), .g 18 17 false (.mv (.t 1)), .g 19 17 false (.mv (.t 6)), .g 20 17 false (.call F.owen_Right [(.t 18), (.t 19)]), .g 21 17 false (.un .not (.t 20)), .a 22 (.pick (.t 17) (.c (.bool true)) (.t 21))] [6, 7, 15, 16, 17, 18, 19, 20, 21] [])
  (.cond (.t 22) (.seq (.reg [] [.a 4 (.mv (.c (.sl 3 []))), .a 5 (.mv (.c (.int .i64 1)))] [0, 1, 22] [])
  .ret) .skip))
  (.seq (.reg [] [.a 8 (.nil 3)] [22] [])
  (.seq (.seq (.reg [] [.a 23 (.mv (.t 1)), .a 24 (.ln (.t 23)), .a 25 (.bin .shl (.c (.int .i64 1)) (.t 24)), .a 26 (.mv (.c (.int .i64 0)))] [23, 24] [])
  (.block 0 (.loop [] [] owen_Quotient.b0)))
  (.seq (.reg [] [.a 40 (.mv (.t 8)), .a 4 (.mv (.t 40)), .a 5 (.mv (.c (.int .i64 0)))] [0, 1, 8, 25, 26, 27, 40] [])
  .ret))))))⟩
def owen_Quotient.hint : R.Hint := { nil := [8], kill := [(0, [4, 5], []), (1, [10, 11, 12, 13, 14], []), (2, [6, 7, 15, 16, 17, 18, 19, 20, 21], []), (3, [0, 1, 22], []), (4, [22], []), (5, [23, 24], []), (7, [27, 28], []), (8, [9, 29, 30, 31, 32, 33, 34, 35, 36, 37, 38], []), (9, [39], []), (10, [0, 1, 8, 25, 26, 27, 40], [])] }
theorem owen_Quotient.ok : cFn Tryd.prog owen_Quotient.hint Tryd.f46 = some owen_Quotient := by kernel_rfl
def dendronlaw22_right.b0 : R.C := (.seq (.seq (.reg [] [.a 9 (.mv (.t 5)), .a 10 (.mv (.t 0)), .a 11 (.ln (.t 10)), .a 12 (.bin .lss (.t 9) (.t 11))] [9, 10, 11] [])
  (.cond (.t 12) .skip (.exit 0)))
  (.seq (.block 1 (.seq (.reg [] [.a 15 (.mv (.t 0)), .a 16 (.mv (.t 5)), .a 17 (.iA 1 (.t 15) (.t 16)), .a 18 (.ld 1 false (.t 17)), .a 19 (.bin .lss (.t 18) (.c (.int .i64 1))), .a 20 (.mv (.t 19)), .g 21 20 false (.mv (.t 0)), .g 22 20 false (.mv (.t 5)), .g 23 20 false (.iA 1 (.t 21) (.t 22)), .g 24 20 false (.ld 1 false (.t 23)), .g 25 20 false (.mv (.t 1)), .g 26 20 false (.call F.dendronlaw22_two [(.t 25)]), .g 27 20 false (.bin .geq (.t 24) (.t 26)), .a 28 (.pick (.t 20) (.c (.bool true)) (.t 27))] [12, 15, 16, 17, 18, 19, 20, 21, 22, 23, 24, 25, 26, 27] [])
  (.cond (.t 28) (.seq (.reg [] [.a 4 (.mv (.c (.bool false)))] [0, 1, 5, 28] [])
  .ret) .skip)))
  (.reg [] [.a 13 (.mv (.t 5)), .a 14 (.bin .add (.t 13) (.c (.int .i64 1))), .a 5 (.mv (.t 14))] [13, 14, 28] [])))
def dendronlaw22_right.b4 : R.C := (.seq (.seq (.reg [] [.a 34 (.mv (.t 8)), .a 35 (.mv (.t 0)), .a 36 (.ln (.t 35)), .a 37 (.bin .lss (.t 34) (.t 36))] [34, 35, 36] [])
  (.cond (.t 37) .skip (.exit 4)))
  (.seq (.block 5 (.seq (.reg [] [.a 40 (.mv (.t 0)), .a 41 (.mv (.t 8)), .a 42 (.iA 1 (.t 40) (.t 41)), .a 43 (.ld 1 false (.t 42)), .a 44 (.mv (.t 6)), .a 45 (.call F.dendronref19_In [(.t 43), (.t 44)])] [37, 40, 41, 42, 43, 44] [])
  (.cond (.t 45) (.reg [] [.a 46 (.mv (.t 7)), .a 47 (.bin .add (.t 46) (.c (.int .i64 1))), .a 7 (.mv (.t 47))] [45, 46, 47] []) .skip)))
  (.reg [] [.a 38 (.mv (.t 8)), .a 39 (.bin .add (.t 38) (.c (.int .i64 1))), .a 8 (.mv (.t 39))] [38, 39, 45] [])))
def dendronlaw22_right.b2 : R.C := (.seq (.seq (.reg [] [.a 29 (.mv (.t 6)), .a 30 (.mv (.t 1)), .a 31 (.bin .lss (.t 29) (.t 30))] [29, 30] [])
  (.cond (.t 31) .skip (.exit 2)))
  (.seq (.block 3 (.seq (.reg [] [.a 7 (.mv (.c (.int .i64 0)))] [31] [])
  (.seq (.seq (.reg [] [.a 8 (.mv (.c (.int .i64 0)))] [] [])
  (.block 4 (.loop [] [] dendronlaw22_right.b4)))
  (.seq (.reg [] [.a 48 (.mv (.t 7)), .a 49 (.bin .neq (.t 48) (.c (.int .i64 1)))] [7, 8, 37, 48] [])
  (.cond (.t 49) (.seq (.reg [] [.a 4 (.mv (.c (.bool false)))] [0, 1, 6, 49] [])
  .ret) .skip)))))
  (.reg [] [.a 32 (.mv (.t 6)), .a 33 (.bin .add (.t 32) (.c (.int .i64 1))), .a 6 (.mv (.t 33))] [32, 33, 49] [])))
def dendronlaw22_right : R.Fn := ⟨2, [(.t 4)], (.seq (.reg [] [.a 4 (.mv (.c (.bool false)))] [4] [])
  (.seq (.seq (.reg [] [.a 5 (.mv (.c (.int .i64 0)))] [] [])
  (.block 0 (.loop [] [] dendronlaw22_right.b0)))
  (.seq (.seq (.reg [] [.a 6 (.mv (.c (.int .i64 0)))] [5, 12] [])
  (.block 2 (.loop [] [] dendronlaw22_right.b2)))
  (.seq (.reg [] [.a 4 (.mv (.c (.bool true)))] [0, 1, 6, 31] [])
  .ret))))⟩
def dendronlaw22_right.hint : R.Hint := { kill := [(0, [4], []), (2, [9, 10, 11], []), (3, [13, 14, 28], []), (4, [12, 15, 16, 17, 18, 19, 20, 21, 22, 23, 24, 25, 26, 27], []), (5, [0, 1, 5, 28], []), (6, [5, 12], []), (7, [29, 30], []), (8, [32, 33, 49], []), (9, [31], []), (11, [34, 35, 36], []), (12, [38, 39, 45], []), (13, [37, 40, 41, 42, 43, 44], []), (14, [45, 46, 47], []), (15, [7, 8, 37, 48], []), (16, [0, 1, 6, 49], []), (17, [0, 1, 6, 31], [])] }
theorem dendronlaw22_right.ok : cFn Tryd.prog dendronlaw22_right.hint Tryd.f47 = some dendronlaw22_right := by kernel_rfl
def dendronlaw22_awake : R.Fn := ⟨0, [(.t 0)], (.seq (.reg [] [.a 0 (.mv (.c (.bool false)))] [0] [])
  (.seq (.reg [] [.a 2 (.call F.owen_Alone [(.c (.int .i64 3))]), .a 1 (.mv (.t 2))] [2] [])
  (.seq (.reg [] [.a 3 (.mv (.t 1)), .a 4 (.ln (.t 3)), .a 5 (.bin .eql (.t 4) (.c (.int .i64 3))), .a 6 (.mv (.t 5)), .g 7 6 true (.mv (.t 1)), .g 8 6 true (.iA 1 (.t 7) (.c (.int .i64 0))), .g 9 6 true (.ld 1 false (.t 8)), .g 10 6 true (.bin .eql (.t 9) (.c (.int .i64 1))), .a 11 (.pick (.t 6) (.t 10) (.c (.bool false))), .a 12 (.mv (.t 11)), .g 13 12 true (.mv (.t 1)), .g 14 12 true (.iA 1 (.t 13) (.c (.int .i64 1))), .g 15 12 true (.ld 1 false (.t 14)), .g 16 12 true (.bin .eql (.t 15) (.c (.int .i64 2))), .a 17 (.pick (.t 12) (.t 16) (.c (.bool false))), .a 18 (.mv (.t 17)), .g 19 18 true (.mv (.t 1)), .g 20 18 true (.iA 1 (.t 19) (.c (.int .i64 2))), .g 21 18 true (.ld 1 false (.t 20)), .g 22 18 true (.bin .eql (.t 21) (.c (.int .i64 4))), .a 23 (.pick (.t 18) (.t 22) (.c (.bool false))), .a 24 (.mv (.t 23)), .g 25 24 true (.mv (.t 1)), .g 26 24 true (.call F.owen_Right [(.t 25), (.c (.int .i64 3))]), .a 27 (.pick (.t 24) (.t 26) (.c (.bool false))), .a 0 (.mv (.t 27))] [1, 3, 4, 5, 6, 7, 8, 9, 10, 11, 12, 13, 14, 15, 16, 17, 18, 19, 20, 21, 22, 23, 24, 25, 26, 27] [])
  .ret)))⟩
def dendronlaw22_awake.hint : R.Hint := { kill := [(0, [0], []), (1, [2], []), (2, [1, 3, 4, 5, 6, 7, 8, 9, 10, 11, 12, 13, 14, 15, 16, 17, 18, 19, 20, 21, 22, 23, 24, 25, 26, 27], [])] }
theorem dendronlaw22_awake.ok : cFn Tryd.prog dendronlaw22_awake.hint Tryd.f48 = some dendronlaw22_awake := by kernel_rfl
def dendronlaw22_two.b0 : R.C := (.seq (.seq (.reg [] [.a 5 (.mv (.t 4)), .a 6 (.mv (.t 0)), .a 7 (.bin .lss (.t 5) (.t 6))] [5, 6] [])
  (.cond (.t 7) .skip (.exit 0)))
  (.seq (.block 1 (.reg [] [.a 10 (.mv (.t 3)), .a 11 (.bin .mul (.c (.int .i64 2)) (.t 10)), .a 3 (.mv (.t 11))] [7, 10, 11] []))
  (.reg [] [.a 8 (.mv (.t 4)), .a 9 (.bin .add (.t 8) (.c (.int .i64 1))), .a 4 (.mv (.t 9))] [8, 9] [])))
def dendronlaw22_two : R.Fn := ⟨1, [(.t 2)], (.seq (.reg [] [.a 2 (.mv (.c (.int .i64 0)))] [2] [])
  (.seq (.reg [] [.a 3 (.mv (.c (.int .i64 1)))] [] [])
  (.seq (.seq (.reg [] [.a 4 (.mv (.c (.int .i64 0)))] [] [])
  (.block 0 (.loop [] [] dendronlaw22_two.b0)))
  (.seq (.reg [] [.a 12 (.mv (.t 3)), .a 2 (.mv (.t 12))] [0, 3, 4, 7, 12] [])
  .ret))))⟩
def dendronlaw22_two.hint : R.Hint := { kill := [(0, [2], []), (3, [5, 6], []), (4, [8, 9], []), (5, [7, 10, 11], []), (6, [0, 3, 4, 7, 12], [])] }
theorem dendronlaw22_two.ok : cFn Tryd.prog dendronlaw22_two.hint Tryd.f49 = some dendronlaw22_two := by kernel_rfl
def dendronref19_In.b0 : R.C := (.seq (.seq (.reg [] [.a 6 (.mv (.t 5)), .a 7 (.mv (.t 1)), .a 8 (.bin .lss (.t 6) (.t 7))] [6, 7] [])
  (.cond (.t 8) .skip (.exit 0)))
  (.seq (.block 1 (.reg [] [.a 11 (.mv (.t 0)), .a 12 (.bin .quo (.t 11) (.c (.int .i64 2))), .a 0 (.mv (.t 12))] [8, 11, 12] []))
  (.reg [] [.a 9 (.mv (.t 5)), .a 10 (.bin .add (.t 9) (.c (.int .i64 1))), .a 5 (.mv (.t 10))] [9, 10] [])))
def dendronref19_In : R.Fn := ⟨2, [(.t 4)], (.seq (.reg [] [.a 4 (.mv (.c (.bool false)))] [4] [])
  (.seq (.seq (.reg [] [.a 5 (.mv (.c (.int .i64 0)))] [] [])
  (.block 0 (.loop [] [] dendronref19_In.b0)))
  (.seq (.reg [] [.a 13 (.mv (.t 0)), .a 14 (.bin .rem (.t 13) (.c (.int .i64 2))), .a 15 (.bin .eql (.t 14) (.c (.int .i64 1))), .a 4 (.mv (.t 15))] [0, 1, 5, 8, 13, 14, 15] [])
  .ret)))⟩
def dendronref19_In.hint : R.Hint := { kill := [(0, [4], []), (2, [6, 7], []), (3, [9, 10], []), (4, [8, 11, 12], []), (5, [0, 1, 5, 8, 13, 14, 15], [])] }
theorem dendronref19_In.ok : cFn Tryd.prog dendronref19_In.hint Tryd.f50 = some dendronref19_In := by kernel_rfl
def dendronlaw21_few : R.Fn := ⟨1, [(.t 2)], (.seq (.reg [] [.a 2 (.mv (.c (.sl 1 [])))] [2] [])
  (.seq (.seq (.reg [] [.a 3 (.mv (.t 0)), .a 4 (.ln (.t 3)), .a 5 (.bin .gtr (.t 4) (.c (.int .i64 12)))] [3, 4] [])
  (.cond (.t 5) (.seq (.reg [] [.a 6 (.mv (.t 0)), .a 7 (.slc 1 (.t 6) none (some (.c (.int .i64 12)))), .a 2 (.mv (.t 7))] [0, 5, 6, 7] [])
  .ret) .skip))
  (.seq (.reg [] [.a 8 (.mv (.t 0)), .a 2 (.mv (.t 8))] [0, 5, 8] [])
  .ret)))⟩
def dendronlaw21_few.hint : R.Hint := { kill := [(0, [2], []), (1, [3, 4], []), (2, [0, 5, 6, 7], []), (3, [0, 5, 8], [])] }
theorem dendronlaw21_few.ok : cFn Tryd.prog dendronlaw21_few.hint Tryd.f51 = some dendronlaw21_few := by kernel_rfl
def orders_Adds.b0 : R.C := (.seq (.reg [] [.a 30 (.bin .lss (.t 29) (.t 28))] [] [])
  (.seq (.cond (.t 30) .skip (.exit 0))
  (.seq (.block 1 (.seq (.reg [] [.a 31 (.iA 1 (.t 27) (.t 29)), .a 32 (.ld 1 false (.t 31)), .a 11 (.mv (.t 32))] [30, 31, 32] [])
  (.seq (.reg [] [.a 33 (.mv (.t 8)), .a 34 (.mv (.t 11)), .a 35 (.mv (.t 0)), .a 36 (.mv (.t 9)), .a 37 (.mv (.t 11)), .a 38 (.bin .shl (.c (.int .i64 1)) (.t 37)), .a 39 (.bin .or (.t 36) (.t 38)), .a 40 (.iA 3 (.t 35) (.t 39)), .a 41 (.ld 3 true (.t 40)), .a 42 (.mv (.t 0)), .a 43 (.mv (.t 9)), .a 44 (.iA 3 (.t 42) (.t 43)), .a 45 (.ld 3 true (.t 44)), .a 46 (.call F.ratio_Sub [(.t 41), (.t 45)]), .a 47 (.iA 3 (.t 33) (.t 34)), .n (.st 3 (.t 47) (.t 46))] [33, 34, 35, 36, 37, 38, 39, 40, 41, 42, 43, 44, 45, 46, 47] [])
  (.reg [] [.a 48 (.mv (.t 9)), .a 49 (.mv (.t 11)), .a 50 (.bin .shl (.c (.int .i64 1)) (.t 49)), .a 51 (.bin .or (.t 48) (.t 50)), .a 9 (.mv (.t 51))] [11, 48, 49, 50, 51] []))))
  (.reg [] [.a 52 (.bin .add (.t 29) (.c (.int .i64 1))), .a 29 (.mv (.t 52))] [52] []))))
def orders_Adds : R.Fn := ⟨2, [(.t 4), (.t 5)], (.seq (.reg [] [.a 4 (.mv (.c (.sl 3 []))), .a 5 (.mv (.c (.int .i64 0)))] [4, 5] [])
  (.seq (.reg [] [.a 13 (.mv (.t 0)), .a 14 (.call F.game_Players [(.t 13)]), .a 12 (.mv (.t 14)), .a 15 (.ext (.t 12) 0), .a 16 (.ext (.t 12) 1), .a 6 (.mv (.t 15)), .a 7 (.mv (.t 16))] [12, 13, 14, 15, 16] [])
  (.seq (.seq (.reg [] [.a 17 (.mv (.t 7)), .a 18 (.un .not (.t 17)), .a 19 (.mv (.t 18)), .g 20 19 false (.mv (.t 1)), .g 21 19 false (.mv (.t 6)), .g 22 19 false (.call F.orders_Right [(.t 20), (.t 21)]), .g 23 19 false (.un .not (.t 22)), .a 24 (.pick (.t 19) (.c (.bool true)) (.t 23))] [7, 17, 18, 19, 20, 21, 22, 23] [])
  (.cond (.t 24) (.seq (.reg [] [.a 4 (.mv (.c (.sl 3 []))), .a 5 (.mv (.c (.int .i64 1)))] [0, 1, 6, 24] [])
  .ret) .skip))
  (.seq (.reg [] [.a 25 (.mv (.t 6)), .a 26 (.mk 3 56 [(.bool false), (.sl 1 []), (.sl 1 [])] (.t 25) (.t 25)), .a 8 (.mv (.t 26))] [6, 24, 25, 26] [])
  (.seq (.reg [] [.a 9 (.mv (.c (.int .i64 0)))] [] [])
  (.seq (.seq (.reg [] [.a 27 (.mv (.t 1)), .a 28 (.ln (.t 27)), .a 29 (.mv (.c (.int .i64 0)))] [1] [])
  (.block 0 (.loop [] [] orders_Adds.b0)))
  (.seq (.reg [] [.a 53 (.mv (.t 8)), .a 4 (.mv (.t 53)), .a 5 (.mv (.c (.int .i64 0)))] [0, 8, 9, 27, 28, 29, 30, 53] [])
  .ret)))))))⟩
def orders_Adds.hint : R.Hint := { kill := [(0, [4, 5], []), (1, [12, 13, 14, 15, 16], []), (2, [7, 17, 18, 19, 20, 21, 22, 23], []), (3, [0, 1, 6, 24], []), (4, [6, 24, 25, 26], []), (6, [1], []), (8, [30, 31, 32], []), (9, [33, 34, 35, 36, 37, 38, 39, 40, 41, 42, 43, 44, 45, 46, 47], []), (10, [11, 48, 49, 50, 51], []), (11, [52], []), (12, [0, 8, 9, 27, 28, 29, 30, 53], [])] }
theorem orders_Adds.ok : cFn Tryd.prog orders_Adds.hint Tryd.f52 = some orders_Adds := by kernel_rfl
def dendronlaw21_right.b2 : R.C := (.seq (.seq (.reg [] [.a 17 (.mv (.t 7)), .a 18 (.mv (.t 0)), .a 19 (.ln (.t 18)), .a 20 (.bin .lss (.t 17) (.t 19))] [17, 18, 19] [])
  (.cond (.t 20) .skip (.exit 2)))
  (.seq (.block 3 (.seq (.reg [] [.a 23 (.mv (.t 0)), .a 24 (.mv (.t 7)), .a 25 (.iA 1 (.t 23) (.t 24)), .a 26 (.ld 1 false (.t 25)), .a 27 (.mv (.t 5)), .a 28 (.bin .eql (.t 26) (.t 27))] [20, 23, 24, 25, 26, 27] [])
  (.cond (.t 28) (.reg [] [.a 29 (.mv (.t 6)), .a 30 (.bin .add (.t 29) (.c (.int .i64 1))), .a 6 (.mv (.t 30))] [28, 29, 30] []) .skip)))
  (.reg [] [.a 21 (.mv (.t 7)), .a 22 (.bin .add (.t 21) (.c (.int .i64 1))), .a 7 (.mv (.t 22))] [21, 22, 28] [])))
def dendronlaw21_right.b0 : R.C := (.seq (.seq (.reg [] [.a 12 (.mv (.t 5)), .a 13 (.mv (.t 1)), .a 14 (.bin .lss (.t 12) (.t 13))] [12, 13] [])
  (.cond (.t 14) .skip (.exit 0)))
  (.seq (.block 1 (.seq (.reg [] [.a 6 (.mv (.c (.int .i64 0)))] [14] [])
  (.seq (.seq (.reg [] [.a 7 (.mv (.c (.int .i64 0)))] [] [])
  (.block 2 (.loop [] [] dendronlaw21_right.b2)))
  (.seq (.reg [] [.a 31 (.mv (.t 6)), .a 32 (.bin .neq (.t 31) (.c (.int .i64 1)))] [6, 7, 20, 31] [])
  (.cond (.t 32) (.seq (.reg [] [.a 4 (.mv (.c (.bool false)))] [0, 1, 5, 32] [])
  .ret) .skip)))))
  (.reg [] [.a 15 (.mv (.t 5)), .a 16 (.bin .add (.t 15) (.c (.int .i64 1))), .a 5 (.mv (.t 16))] [15, 16, 32] [])))
def dendronlaw21_right : R.Fn := ⟨2, [(.t 4)], (.seq (.reg [] [.a 4 (.mv (.c (.bool false)))] [4] [])
  (.seq (.seq (.reg [] [.a 8 (.mv (.t 0)), .a 9 (.ln (.t 8)), .a 10 (.mv (.t 1)), .a 11 (.bin .neq (.t 9) (.t 10))] [8, 9, 10] [])
  (.cond (.t 11) (.seq (.reg [] [.a 4 (.mv (.c (.bool false)))] [0, 1, 11] [])
  .ret) .skip))
  (.seq (.seq (.reg [] [.a 5 (.mv (.c (.int .i64 0)))] [11] [])
  (.block 0 (.loop [] [] dendronlaw21_right.b0)))
  (.seq (.reg [] [.a 4 (.mv (.c (.bool true)))] [0, 1, 5, 14] [])
  .ret))))⟩
def dendronlaw21_right.hint : R.Hint := { kill := [(0, [4], []), (1, [8, 9, 10], []), (2, [0, 1, 11], []), (3, [11], []), (4, [12, 13], []), (5, [15, 16, 32], []), (6, [14], []), (8, [17, 18, 19], []), (9, [21, 22, 28], []), (10, [20, 23, 24, 25, 26, 27], []), (11, [28, 29, 30], []), (12, [6, 7, 20, 31], []), (13, [0, 1, 5, 32], []), (14, [0, 1, 5, 14], [])] }
theorem dendronlaw21_right.ok : cFn Tryd.prog dendronlaw21_right.hint Tryd.f53 = some dendronlaw21_right := by kernel_rfl
def dendronlaw21_awake : R.Fn := ⟨0, [(.t 0)], (.seq (.reg [] [.a 0 (.mv (.c (.bool false)))] [0] [])
  (.seq (.reg [] [.a 4 (.lit 1 3 [(.int .i64 0), (.int .i64 0), (.int .i64 0)] [(0, 1, (.c (.int .i64 0))), (1, 1, (.c (.int .i64 2))), (2, 1, (.c (.int .i64 1)))]), .a 5 (.call F.orders_Next [(.t 4)]), .a 3 (.mv (.t 5)), .a 6 (.ext (.t 3) 0), .a 7 (.ext (.t 3) 1), .a 1 (.mv (.t 6)), .a 2 (.mv (.t 7))] [3, 4, 5, 6, 7] [])
  (.seq (.reg [] [.a 8 (.mv (.t 2)), .a 9 (.mv (.t 8)), .g 10 9 true (.mv (.t 1)), .g 11 9 true (.lit 1 3 [(.int .i64 0), (.int .i64 0), (.int .i64 0)] [(0, 1, (.c (.int .i64 1))), (1, 1, (.c (.int .i64 0))), (2, 1, (.c (.int .i64 2)))]), .g 12 9 true (.call F.dendronlaw21_same [(.t 10), (.t 11)]), .a 13 (.pick (.t 9) (.t 12) (.c (.bool false))), .a 14 (.mv (.t 13)), .a 15 (.pick (.t 14) (.c (.bool true)) (.c (.bool false))), .a 0 (.mv (.t 15))] [1, 2, 8, 9, 10, 11, 12, 13, 14, 15] [])
  .ret)))⟩
def dendronlaw21_awake.hint : R.Hint := { kill := [(0, [0], []), (1, [3, 4, 5, 6, 7], []), (2, [1, 2, 8, 9, 10, 11, 12, 13, 14, 15], [])] }
theorem dendronlaw21_awake.ok : cFn Tryd.prog dendronlaw21_awake.hint Tryd.f54 = some dendronlaw21_awake := by kernel_rfl
def dendronref10_All.b0 : R.C := (.seq (.seq (.reg [] [.a 11 (.mv (.t 5)), .a 12 (.mv (.t 0)), .a 13 (.ln (.t 12)), .a 14 (.bin .lss (.t 11) (.t 13))] [11, 12, 13] [])
  (.cond (.t 14) .skip (.exit 0)))
  (.seq (.block 1 (.seq (.reg [] [.a 17 (.mv (.t 0)), .a 18 (.mv (.t 5)), .a 19 (.iA 3 (.t 17) (.t 18)), .a 20 (.ld 3 true (.t 19)), .a 21 (.mv (.t 1)), .a 22 (.mv (.t 5)), .a 23 (.iA 3 (.t 21) (.t 22)), .a 24 (.ld 3 true (.t 23)), .a 25 (.call F.dendronref10_Is [(.t 20), (.t 24)]), .a 26 (.un .not (.t 25))] [14, 17, 18, 19, 20, 21, 22, 23, 24, 25] [])
  (.cond (.t 26) (.seq (.reg [] [.a 4 (.mv (.c (.bool false)))] [0, 1, 5, 26] [])
  .ret) .skip)))
  (.reg [] [.a 15 (.mv (.t 5)), .a 16 (.bin .add (.t 15) (.c (.int .i64 1))), .a 5 (.mv (.t 16))] [15, 16, 26] [])))
def dendronref10_All : R.Fn := ⟨2, [(.t 4)], (.seq (.reg [] [.a 4 (.mv (.c (.bool false)))] [4] [])
  (.seq (.seq (.reg [] [.a 6 (.mv (.t 0)), .a 7 (.ln (.t 6)), .a 8 (.mv (.t 1)), .a 9 (.ln (.t 8)), .a 10 (.bin .neq (.t 7) (.t 9))] [6, 7, 8, 9] [])
  (.cond (.t 10) (.seq (.reg [] [.a 4 (.mv (.c (.bool false)))] [0, 1, 10] [])
  .ret) .skip))
  (.seq (.seq (.reg [] [.a 5 (.mv (.c (.int .i64 0)))] [10] [])
  (.block 0 (.loop [] [] dendronref10_All.b0)))
  (.seq (.reg [] [.a 4 (.mv (.c (.bool true)))] [0, 1, 5, 14] [])
  .ret))))⟩
def dendronref10_All.hint : R.Hint := { kill := [(0, [4], []), (1, [6, 7, 8, 9], []), (2, [0, 1, 10], []), (3, [10], []), (4, [11, 12, 13], []), (5, [15, 16, 26], []), (6, [14, 17, 18, 19, 20, 21, 22, 23, 24, 25], []), (7, [0, 1, 5, 26], []), (8, [0, 1, 5, 14], [])] }
theorem dendronref10_All.ok : cFn Tryd.prog dendronref10_All.hint Tryd.f55 = some dendronref10_All := by kernel_rfl
def dendronlaw21_adds.b0 : R.C := (.seq (.seq (.reg [] [.a 12 (.mv (.t 7)), .a 13 (.mv (.t 1)), .a 14 (.ln (.t 13)), .a 15 (.bin .lss (.t 12) (.t 14))] [12, 13, 14] [])
  (.cond (.t 15) .skip (.exit 0)))
  (.seq (.block 1 (.seq (.reg [] [.a 18 (.mv (.t 6)), .a 19 (.mv (.t 1)), .a 20 (.mv (.t 7)), .a 21 (.iA 1 (.t 19) (.t 20)), .a 22 (.ld 1 false (.t 21)), .a 23 (.call F.dendronlaw21_two [(.t 22)]), .a 24 (.bin .add (.t 18) (.t 23)), .a 8 (.mv (.t 24))] [15, 18, 19, 20, 21, 22, 23, 24] [])
  (.seq (.reg [] [.a 25 (.mv (.t 5)), .a 26 (.mv (.t 1)), .a 27 (.mv (.t 7)), .a 28 (.iA 1 (.t 26) (.t 27)), .a 29 (.ld 1 false (.t 28)), .a 30 (.mv (.t 0)), .a 31 (.mv (.t 8)), .a 32 (.iA 3 (.t 30) (.t 31)), .a 33 (.ld 3 true (.t 32)), .a 34 (.mv (.t 0)), .a 35 (.mv (.t 6)), .a 36 (.iA 3 (.t 34) (.t 35)), .a 37 (.ld 3 true (.t 36)), .a 38 (.call F.ratio_Sub [(.t 33), (.t 37)]), .a 39 (.iA 3 (.t 25) (.t 29)), .n (.st 3 (.t 39) (.t 38))] [6, 25, 26, 27, 28, 29, 30, 31, 32, 33, 34, 35, 36, 37, 38, 39] [])
  (.reg [] [.a 40 (.mv (.t 8)), .a 6 (.mv (.t 40))] [8, 40] []))))
  (.reg [] [.a 16 (.mv (.t 7)), .a 17 (.bin .add (.t 16) (.c (.int .i64 1))), .a 7 (.mv (.t 17))] [16, 17] [])))
def dendronlaw21_adds : R.Fn := ⟨2, [(.t 4)], (.seq (.reg [] [.a 4 (.mv (.c (.sl 3 [])))] [4] [])
  (.seq (.reg [] [.a 9 (.mv (.t 1)), .a 10 (.ln (.t 9)), .a 11 (.mk 3 56 [(.bool false), (.sl 1 []), (.sl 1 [])] (.t 10) (.t 10)), .a 5 (.mv (.t 11))] [9, 10, 11] [])
  (.seq (.reg [] [.a 6 (.mv (.c (.int .i64 0)))] [] [])
  (.seq (.seq (.reg [] [.a 7 (.mv (.c (.int .i64 0)))] [] [])
  (.block 0 (.loop [] [] dendronlaw21_adds.b0)))
  (.seq (.reg [] [.a 41 (.mv (.t 5)), .a 4 (.mv (.t 41))] [0, 1, 5, 6, 7, 15, 41] [])
  .ret)))))⟩
def dendronlaw21_adds.hint : R.Hint := { kill := [(0, [4], []), (1, [9, 10, 11], []), (4, [12, 13, 14], []), (5, [16, 17], []), (6, [15, 18, 19, 20, 21, 22, 23, 24], []), (7, [6, 25, 26, 27, 28, 29, 30, 31, 32, 33, 34, 35, 36, 37, 38, 39], []), (8, [8, 40], []), (9, [0, 1, 5, 6, 7, 15, 41], [])] }
theorem dendronlaw21_adds.ok : cFn Tryd.prog dendronlaw21_adds.hint Tryd.f56 = some dendronlaw21_adds := by kernel_rfl
def ratio_Sum.b0 : R.C := (.seq (.reg [] [.a 10 (.bin .lss (.t 9) (.t 8))] [] [])
  (.seq (.cond (.t 10) .skip (.exit 0))
  (.seq (.block 1 (.seq (.reg [] [.a 11 (.iA 3 (.t 7) (.t 9)), .a 12 (.ld 3 true (.t 11)), .a 5 (.new [(.bool false), (.sl 1 []), (.sl 1 [])]), .n (.st 3 (.t 5) (.t 12))] [10, 11, 12] [])
  (.reg [] [.a 13 (.ld 3 true (.t 3)), .a 14 (.ld 3 true (.t 5)), .a 15 (.call F.ratio_Add [(.t 13), (.t 14)]), .n (.st 3 (.t 3) (.t 15))] [5, 13, 14, 15] [5])))
  (.reg [] [.a 16 (.bin .add (.t 9) (.c (.int .i64 1))), .a 9 (.mv (.t 16))] [16] []))))
def ratio_Sum : R.Fn := ⟨1, [(.cell 2 3 true)], (.seq (.reg [] [.a 2 (.new [(.bool false), (.sl 1 []), (.sl 1 [])])] [] [])
  (.seq (.reg [] [.a 6 (.call F.ratio_Zero []), .a 3 (.new [(.bool false), (.sl 1 []), (.sl 1 [])]), .n (.st 3 (.t 3) (.t 6))] [6] [])
  (.seq (.seq (.reg [] [.a 7 (.mv (.t 0)), .a 8 (.ln (.t 7)), .a 9 (.mv (.c (.int .i64 0)))] [0] [])
  (.block 0 (.loop [] [] ratio_Sum.b0)))
  (.seq (.reg [] [.a 17 (.ld 3 true (.t 3)), .n (.st 3 (.t 2) (.t 17))] [3, 7, 8, 9, 10, 17] [3])
  .ret))))⟩
def ratio_Sum.hint : R.Hint := { kill := [(1, [6], []), (2, [0], []), (4, [10, 11, 12], []), (5, [5, 13, 14, 15], [5]), (6, [16], []), (7, [3, 7, 8, 9, 10, 17], [3])] }
theorem ratio_Sum.ok : cFn Tryd.prog ratio_Sum.hint Tryd.f57 = some ratio_Sum := by kernel_rfl
def ratio_Sub : R.Fn := ⟨2, [(.cell 4 3 true)], (.seq (.reg [] [.a 2 (.box (.t 0)), .a 3 (.box (.t 1)), .a 4 (.new [(.bool false), (.sl 1 []), (.sl 1 [])])] [0, 1] [])
  (.seq (.reg [] [.a 5 (.ld 3 true (.t 2)), .a 6 (.ld 3 true (.t 3)), .a 7 (.call F.ratio_Neg [(.t 6)]), .a 8 (.call F.ratio_Add [(.t 5), (.t 7)]), .n (.st 3 (.t 4) (.t 8))] [2, 3, 5, 6, 7, 8] [2, 3])
  .ret))⟩
def ratio_Sub.hint : R.Hint := { kill := [(0, [0, 1], []), (1, [2, 3, 5, 6, 7, 8], [2, 3])] }
theorem ratio_Sub.ok : cFn Tryd.prog ratio_Sub.hint Tryd.f58 = some ratio_Sub := by kernel_rfl
def ratio_Frac : R.Fn := ⟨2, [(.cell 4 3 true)], (.seq (.reg [] [.a 4 (.new [(.bool false), (.sl 1 []), (.sl 1 [])])] [] [])
  (.seq (.reg [] [.a 8 (.mv (.t 0)), .a 9 (.call F.whole_Of [(.t 8)]), .a 10 (.mv (.t 1)), .a 11 (.call F.whole_Of [(.t 10)]), .a 12 (.call F.ratio_Make [(.t 9), (.t 11)]), .a 7 (.mv (.t 12)), .a 13 (.ext (.t 7) 0), .a 14 (.ext (.t 7) 1), .a 5 (.new [(.bool false), (.sl 1 []), (.sl 1 [])]), .n (.st 3 (.t 5) (.t 13)), .a 6 (.mv (.t 14))] [0, 1, 6, 7, 8, 9, 10, 11, 12, 13, 14] [])
  (.seq (.reg [] [.a 15 (.ld 3 true (.t 5)), .a 16 (.call F.ratio_Clean [(.t 15)]), .n (.st 3 (.t 4) (.t 16))] [5, 15, 16] [5])
  .ret)))⟩
def ratio_Frac.hint : R.Hint := { kill := [(1, [0, 1, 6, 7, 8, 9, 10, 11, 12, 13, 14], []), (2, [5, 15, 16], [5])] }
theorem ratio_Frac.ok : cFn Tryd.prog ratio_Frac.hint Tryd.f59 = some ratio_Frac := by kernel_rfl
def whole_Clean : R.Fn := ⟨1, [(.cell 2 2 true)], (.seq (.reg [] [.a 1 (.box (.t 0)), .a 2 (.new [(.bool false), (.sl 1 [])])] [0] [])
  (.seq (.reg [] [.a 3 (.fA 0 (.t 1)), .a 4 (.ld 1 false (.t 3)), .a 5 (.fA 1 (.t 1)), .a 6 (.ld 1 false (.t 5)), .a 7 (.call F.nat_Clean [(.t 6)]), .a 8 (.call F.whole_sign [(.t 4), (.t 7)]), .n (.st 2 (.t 2) (.t 8))] [1, 3, 4, 5, 6, 7, 8] [1])
  .ret))⟩
def whole_Clean.hint : R.Hint := { kill := [(0, [0], []), (1, [1, 3, 4, 5, 6, 7, 8], [1])] }
theorem whole_Clean.ok : cFn Tryd.prog whole_Clean.hint Tryd.f60 = some whole_Clean := by kernel_rfl
def ratio_Cmp : R.Fn := ⟨2, [(.t 4)], (.seq (.reg [] [.a 2 (.box (.t 0)), .a 3 (.box (.t 1)), .a 4 (.mv (.c (.int .i64 0)))] [0, 1, 4] [])
  (.seq (.reg [] [.a 5 (.ld 3 true (.t 2)), .a 6 (.call F.ratio_Clean [(.t 5)]), .a 7 (.ld 3 true (.t 3)), .a 8 (.call F.ratio_Clean [(.t 7)]), .n (.st 3 (.t 2) (.t 6)), .n (.st 3 (.t 3) (.t 8))] [5, 6, 7, 8] [])
  (.seq (.reg [] [.a 9 (.fA 0 (.t 2)), .a 10 (.ld 2 true (.t 9)), .a 11 (.ld 3 true (.t 3)), .a 12 (.call F.ratio_den [(.t 11)]), .a 13 (.call F.whole_Mul [(.t 10), (.t 12)]), .a 14 (.fA 0 (.t 3)), .a 15 (.ld 2 true (.t 14)), .a 16 (.ld 3 true (.t 2)), .a 17 (.call F.ratio_den [(.t 16)]), .a 18 (.call F.whole_Mul [(.t 15), (.t 17)]), .a 19 (.call F.whole_Cmp [(.t 13), (.t 18)]), .a 4 (.mv (.t 19))] [2, 3, 9, 10, 11, 12, 13, 14, 15, 16, 17, 18, 19] [2, 3])
  .ret)))⟩
def ratio_Cmp.hint : R.Hint := { kill := [(0, [0, 1, 4], []), (1, [5, 6, 7, 8], []), (2, [2, 3, 9, 10, 11, 12, 13, 14, 15, 16, 17, 18, 19], [2, 3])] }
theorem ratio_Cmp.ok : cFn Tryd.prog ratio_Cmp.hint Tryd.f62 = some ratio_Cmp := by kernel_rfl
def nat_Of : R.Fn := ⟨1, [(.t 2)], (.seq (.reg [] [.a 2 (.mv (.c (.sl 1 [])))] [2] [])
  (.seq (.reg [] [.a 3 (.mv (.t 0)), .a 4 (.bin .and (.t 3) (.c (.int .u64 4294967295))), .a 5 (.mv (.t 0)), .a 6 (.bin .shr (.t 5) (.c (.int .u64 32))), .a 7 (.lit 1 2 [(.int .u64 0), (.int .u64 0)] [(0, 1, (.t 4)), (1, 1, (.t 6))]), .a 8 (.call F.nat_trim [(.t 7)]), .a 2 (.mv (.t 8))] [0, 3, 4, 5, 6, 7, 8] [])
  .ret))⟩
def nat_Of.hint : R.Hint := { kill := [(0, [2], []), (1, [0, 3, 4, 5, 6, 7, 8], [])] }
theorem nat_Of.ok : cFn Tryd.prog nat_Of.hint Tryd.f63 = some nat_Of := by kernel_rfl
def nat_Right.b0 : R.C := (.seq (.reg [] [.a 8 (.bin .lss (.t 7) (.t 6))] [] [])
  (.seq (.cond (.t 8) .skip (.exit 0))
  (.seq (.block 1 (.seq (.reg [] [.a 9 (.iA 1 (.t 5) (.t 7)), .a 10 (.ld 1 false (.t 9)), .a 4 (.mv (.t 10))] [8, 9, 10] [])
  (.seq (.reg [] [.a 11 (.mv (.t 4)), .a 12 (.bin .gtr (.t 11) (.c (.int .u64 4294967295)))] [4, 11] [])
  (.cond (.t 12) (.seq (.reg [] [.a 2 (.mv (.c (.bool false)))] [0, 5, 6, 7, 12] [])
  .ret) .skip))))
  (.reg [] [.a 13 (.bin .add (.t 7) (.c (.int .i64 1))), .a 7 (.mv (.t 13))] [12, 13] []))))
def nat_Right : R.Fn := ⟨1, [(.t 2)], (.seq (.reg [] [.a 2 (.mv (.c (.bool false)))] [2] [])
  (.seq (.seq (.reg [] [.a 5 (.mv (.t 0)), .a 6 (.ln (.t 5)), .a 7 (.mv (.c (.int .i64 0)))] [] [])
  (.block 0 (.loop [] [] nat_Right.b0)))
  (.seq (.reg [] [.a 14 (.mv (.t 0)), .a 15 (.ln (.t 14)), .a 16 (.bin .eql (.t 15) (.c (.int .i64 0))), .a 17 (.mv (.t 16)), .g 18 17 false (.mv (.t 0)), .g 19 17 false (.mv (.t 0)), .g 20 17 false (.ln (.t 19)), .g 21 17 false (.bin .sub (.t 20) (.c (.int .i64 1))), .g 22 17 false (.iA 1 (.t 18) (.t 21)), .g 23 17 false (.ld 1 false (.t 22)), .g 24 17 false (.bin .neq (.t 23) (.c (.int .u64 0))), .a 25 (.pick (.t 17) (.c (.bool true)) (.t 24)), .a 2 (.mv (.t 25))] [0, 5, 6, 7, 8, 14, 15, 16, 17, 18, 19, 20, 21, 22, 23, 24, 25] [])
  .ret)))⟩
def nat_Right.hint : R.Hint := { kill := [(0, [2], []), (3, [8, 9, 10], []), (4, [4, 11], []), (5, [0, 5, 6, 7, 12], []), (6, [12, 13], []), (7, [0, 5, 6, 7, 8, 14, 15, 16, 17, 18, 19, 20, 21, 22, 23, 24, 25], [])] }
theorem nat_Right.ok : cFn Tryd.prog nat_Right.hint Tryd.f64 = some nat_Right := by kernel_rfl
def dendron_weigh_Table_quotient : R.Fn := ⟨4, [(.cell 8 3 true)], (.seq (.reg [] [.a 8 (.new [(.bool false), (.sl 1 []), (.sl 1 [])])] [] [])
  (.seq (.reg [] [.a 12 (.mv (.t 0)), .a 13 (.mv (.t 1)), .a 14 (.callk F.dendron_weigh_Table_at [(true, (.t 12)), (false, (.t 13))]), .a 15 (.mv (.t 0)), .a 16 (.mv (.t 2)), .a 17 (.callk F.dendron_weigh_Table_at [(true, (.t 15)), (false, (.t 16))]), .a 18 (.call F.whole_Mul [(.t 14), (.t 17)]), .a 19 (.mv (.t 0)), .a 20 (.mv (.t 3)), .a 21 (.callk F.dendron_weigh_Table_at [(true, (.t 19)), (false, (.t 20))]), .a 22 (.call F.ratio_Make [(.t 18), (.t 21)]), .a 11 (.mv (.t 22)), .a 23 (.ext (.t 11) 0), .a 24 (.ext (.t 11) 1), .a 9 (.new [(.bool false), (.sl 1 []), (.sl 1 [])]), .n (.st 3 (.t 9) (.t 23)), .a 10 (.mv (.t 24))] [0, 1, 2, 3, 10, 11, 12, 13, 14, 15, 16, 17, 18, 19, 20, 21, 22, 23, 24] [14, 17, 21, 1014, 1017, 1021, 2014, 2017, 2021, 3014, 3017, 3021])
  (.seq (.reg [] [.a 25 (.ld 3 true (.t 9)), .n (.st 3 (.t 8) (.t 25))] [9, 25] [9])
  .ret)))⟩
def dendron_weigh_Table_quotient.hint : R.Hint := { callk := [(14, [true, false]), (17, [true, false]), (21, [true, false])], kill := [(1, [0, 1, 2, 3, 10, 11, 12, 13, 14, 15, 16, 17, 18, 19, 20, 21, 22, 23, 24], [14, 17, 21, 1014, 1017, 1021, 2014, 2017, 2021, 3014, 3017, 3021]), (2, [9, 25], [9])] }
theorem dendron_weigh_Table_quotient.ok : cFn Tryd.prog dendron_weigh_Table_quotient.hint Tryd.f65 = some dendron_weigh_Table_quotient := by kernel_rfl
def ratio_Div : R.Fn := ⟨2, [(.cell 4 3 true), (.t 5)], (.seq (.reg [] [.a 2 (.box (.t 0)), .a 3 (.box (.t 1)), .a 4 (.new [(.bool false), (.sl 1 []), (.sl 1 [])]), .a 5 (.mv (.c (.int .i64 0)))] [0, 1, 5] [])
  (.seq (.reg [] [.a 9 (.ld 3 true (.t 3)), .a 10 (.call F.ratio_Inv [(.t 9)]), .a 8 (.mv (.t 10)), .a 11 (.ext (.t 8) 0), .a 12 (.ext (.t 8) 1), .a 6 (.new [(.bool false), (.sl 1 []), (.sl 1 [])]), .n (.st 3 (.t 6) (.t 11)), .a 7 (.mv (.t 12))] [3, 8, 9, 10, 11, 12] [3])
  (.seq (.seq (.reg [] [.a 13 (.mv (.t 7)), .a 14 (.bin .neq (.t 13) (.c (.int .i64 0)))] [13] [])
  (.cond (.t 14) (.seq (.reg [] [.a 15 (.bld [(.bool false), (.sl 1 []), (.sl 1 [])] []), .a 16 (.mv (.t 7)), .n (.st 3 (.t 4) (.t 15)), .a 5 (.mv (.t 16))] [2, 6, 7, 14, 15, 16] [2, 6])
  .ret) .skip))
  (.seq (.reg [] [.a 17 (.ld 3 true (.t 2)), .a 18 (.ld 3 true (.t 6)), .a 19 (.call F.ratio_Mul [(.t 17), (.t 18)]), .n (.st 3 (.t 4) (.t 19)), .a 5 (.mv (.c (.int .i64 0)))] [2, 6, 7, 14, 17, 18, 19] [2, 6])
  .ret))))⟩
def ratio_Div.hint : R.Hint := { kill := [(0, [0, 1, 5], []), (1, [3, 8, 9, 10, 11, 12], [3]), (2, [13], []), (3, [2, 6, 7, 14, 15, 16], [2, 6]), (4, [2, 6, 7, 14, 17, 18, 19], [2, 6])] }
theorem ratio_Div.ok : cFn Tryd.prog ratio_Div.hint Tryd.f66 = some ratio_Div := by kernel_rfl
def ratio_Clean : R.Fn := ⟨1, [(.cell 2 3 true)], (.seq (.reg [] [.a 1 (.box (.t 0)), .a 2 (.new [(.bool false), (.sl 1 []), (.sl 1 [])])] [0] [])
  (.seq (.reg [] [.a 4 (.fA 2 (.t 1)), .a 5 (.ld 1 false (.t 4)), .a 6 (.call F.nat_Clean [(.t 5)]), .a 3 (.mv (.t 6))] [4, 5, 6] [])
  (.seq (.seq (.reg [] [.a 7 (.mv (.t 3)), .a 8 (.ln (.t 7)), .a 9 (.bin .eql (.t 8) (.c (.int .i64 0)))] [7, 8] [])
  (.cond (.t 9) (.seq (.reg [] [.a 10 (.call F.ratio_Zero []), .n (.st 3 (.t 2) (.t 10))] [1, 3, 9, 10] [1])
  .ret) .skip))
  (.seq (.reg [] [.a 11 (.fA 0 (.t 1)), .a 12 (.ld 2 true (.t 11)), .a 13 (.call F.whole_Clean [(.t 12)]), .a 14 (.mv (.t 3)), .a 15 (.call F.ratio_form [(.t 13), (.t 14)]), .n (.st 3 (.t 2) (.t 15))] [1, 3, 9, 11, 12, 13, 14, 15] [1])
  .ret))))⟩
def ratio_Clean.hint : R.Hint := { kill := [(0, [0], []), (1, [4, 5, 6], []), (2, [7, 8], []), (3, [1, 3, 9, 10], [1]), (4, [1, 3, 9, 11, 12, 13, 14, 15], [1])] }
theorem ratio_Clean.ok : cFn Tryd.prog ratio_Clean.hint Tryd.f67 = some ratio_Clean := by kernel_rfl
def ratio_form : R.Fn := ⟨2, [(.cell 4 3 true)], (.seq (.reg [] [.a 2 (.box (.t 0)), .a 4 (.new [(.bool false), (.sl 1 []), (.sl 1 [])])] [0] [])
  (.seq (.seq (.reg [] [.a 12 (.fA 1 (.t 2)), .a 13 (.ld 1 false (.t 12)), .a 14 (.ln (.t 13)), .a 15 (.bin .eql (.t 14) (.c (.int .i64 0)))] [12, 13, 14] [])
  (.cond (.t 15) (.seq (.reg [] [.a 16 (.call F.nat_Of [(.c (.int .u64 1))]), .a 17 (.bld [(.bool false), (.sl 1 []), (.sl 1 [])] [(2, 1, (.t 16))]), .n (.st 3 (.t 4) (.t 17))] [1, 2, 15, 16, 17] [2])
  .ret) .skip))
  (.seq (.reg [] [.a 18 (.fA 1 (.t 2)), .a 19 (.ld 1 false (.t 18)), .a 20 (.mv (.t 1)), .a 21 (.call F.nat_Gcd [(.t 19), (.t 20)]), .a 5 (.mv (.t 21))] [15, 18, 19, 20, 21] [])
  (.seq (.seq (.reg [] [.a 22 (.mv (.t 5)), .a 23 (.ln (.t 22)), .a 24 (.bin .eql (.t 23) (.c (.int .i64 1))), .a 25 (.mv (.t 24)), .g 26 25 true (.mv (.t 5)), .g 27 25 true (.iA 1 (.t 26) (.c (.int .i64 0))), .g 28 25 true (.ld 1 false (.t 27)), .g 29 25 true (.bin .eql (.t 28) (.c (.int .u64 1))), .a 30 (.pick (.t 25) (.t 29) (.c (.bool false)))] [22, 23, 24, 25, 26, 27, 28, 29] [])
  (.cond (.t 30) (.seq (.reg [] [.a 31 (.ld 2 true (.t 2)), .a 32 (.mv (.t 1)), .a 33 (.bld [(.bool false), (.sl 1 []), (.sl 1 [])] [(0, 2, (.t 31)), (2, 1, (.t 32))]), .n (.st 3 (.t 4) (.t 33))] [1, 2, 5, 30, 31, 32, 33] [2])
  .ret) .skip))
  (.seq (.reg [] [.a 35 (.fA 1 (.t 2)), .a 36 (.ld 1 false (.t 35)), .a 37 (.mv (.t 5)), .a 38 (.call F.nat_DivMod [(.t 36), (.t 37)]), .a 34 (.mv (.t 38)), .a 39 (.ext (.t 34) 0), .a 40 (.ext (.t 34) 1), .a 41 (.ext (.t 34) 2), .a 6 (.mv (.t 39)), .a 7 (.mv (.t 40)), .a 8 (.mv (.t 41))] [7, 8, 30, 34, 35, 36, 37, 38, 39, 40, 41] [])
  (.seq (.reg [] [.a 43 (.mv (.t 1)), .a 44 (.mv (.t 5)), .a 45 (.call F.nat_DivMod [(.t 43), (.t 44)]), .a 42 (.mv (.t 45)), .a 46 (.ext (.t 42) 0), .a 47 (.ext (.t 42) 1), .a 48 (.ext (.t 42) 2), .a 9 (.mv (.t 46)), .a 10 (.mv (.t 47)), .a 11 (.mv (.t 48))] [1, 5, 10, 11, 42, 43, 44, 45, 46, 47, 48] [])
  (.seq (.reg [] [.a 49 (.fA 0 (.t 2)), .a 50 (.ld 1 false (.t 49)), .a 51 (.mv (.t 6)), .a 52 (.bld [(.bool false), (.sl 1 [])] [(0, 1, (.t 50)), (1, 1, (.t 51))]), .a 53 (.mv (.t 9)), .a 54 (.bld [(.bool false), (.sl 1 []), (.sl 1 [])] [(0, 2, (.t 52)), (2, 1, (.t 53))]), .n (.st 3 (.t 4) (.t 54))] [2, 6, 9, 49, 50, 51, 52, 53, 54] [2])
  .ret)))))))⟩
def ratio_form.hint : R.Hint := { kill := [(0, [0], []), (1, [12, 13, 14], []), (2, [1, 2, 15, 16, 17], [2]), (3, [15, 18, 19, 20, 21], []), (4, [22, 23, 24, 25, 26, 27, 28, 29], []), (5, [1, 2, 5, 30, 31, 32, 33], [2]), (6, [7, 8, 30, 34, 35, 36, 37, 38, 39, 40, 41], []), (7, [1, 5, 10, 11, 42, 43, 44, 45, 46, 47, 48], []), (8, [2, 6, 9, 49, 50, 51, 52, 53, 54], [2])] }
theorem ratio_form.ok : cFn Tryd.prog ratio_form.hint Tryd.f68 = some ratio_form := by kernel_rfl
def whole_Mul : R.Fn := ⟨2, [(.cell 4 2 true)], (.seq (.reg [] [.a 2 (.box (.t 0)), .a 3 (.box (.t 1)), .a 4 (.new [(.bool false), (.sl 1 [])])] [0, 1] [])
  (.seq (.reg [] [.a 5 (.ld 2 true (.t 2)), .a 6 (.call F.whole_Clean [(.t 5)]), .a 7 (.ld 2 true (.t 3)), .a 8 (.call F.whole_Clean [(.t 7)]), .n (.st 2 (.t 2) (.t 6)), .n (.st 2 (.t 3) (.t 8))] [5, 6, 7, 8] [])
  (.seq (.reg [] [.a 9 (.fA 0 (.t 2)), .a 10 (.ld 1 false (.t 9)), .a 11 (.fA 0 (.t 3)), .a 12 (.ld 1 false (.t 11)), .a 13 (.beq true (.t 10) (.t 12)), .a 14 (.fA 1 (.t 2)), .a 15 (.ld 1 false (.t 14)), .a 16 (.fA 1 (.t 3)), .a 17 (.ld 1 false (.t 16)), .a 18 (.call F.nat_Mul [(.t 15), (.t 17)]), .a 19 (.call F.whole_sign [(.t 13), (.t 18)]), .n (.st 2 (.t 4) (.t 19))] [2, 3, 9, 10, 11, 12, 13, 14, 15, 16, 17, 18, 19] [2, 3])
  .ret)))⟩
def whole_Mul.hint : R.Hint := { kill := [(0, [0, 1], []), (1, [5, 6, 7, 8], []), (2, [2, 3, 9, 10, 11, 12, 13, 14, 15, 16, 17, 18, 19], [2, 3])] }
theorem whole_Mul.ok : cFn Tryd.prog whole_Mul.hint Tryd.f69 = some whole_Mul := by kernel_rfl
def nat_Mul.b2 : R.C := (.seq (.reg [] [.a 31 (.bin .lss (.t 30) (.t 29))] [] [])
  (.seq (.cond (.t 31) .skip (.exit 2))
  (.seq (.block 3 (.seq (.reg [] [.a 32 (.mv (.t 30)), .a 33 (.iA 1 (.t 28) (.t 30)), .a 34 (.ld 1 false (.t 33)), .a 9 (.mv (.t 32)), .a 10 (.mv (.t 34))] [31, 32, 33, 34] [])
  (.seq (.reg [] [.a 35 (.mv (.t 8)), .a 36 (.mv (.t 5)), .a 37 (.mv (.t 6)), .a 38 (.mv (.t 9)), .a 39 (.bin .add (.t 37) (.t 38)), .a 40 (.iA 1 (.t 36) (.t 39)), .a 41 (.ld 1 false (.t 40)), .a 42 (.mv (.t 7)), .a 43 (.mv (.t 10)), .a 44 (.bin .mul (.t 42) (.t 43)), .a 45 (.bin .add (.t 41) (.t 44)), .a 46 (.bin .add (.t 35) (.t 45)), .a 8 (.mv (.t 46))] [10, 35, 36, 37, 38, 39, 40, 41, 42, 43, 44, 45, 46] [])
  (.seq (.reg [] [.a 47 (.mv (.t 5)), .a 48 (.mv (.t 6)), .a 49 (.mv (.t 9)), .a 50 (.bin .add (.t 48) (.t 49)), .a 51 (.mv (.t 8)), .a 52 (.bin .and (.t 51) (.c (.int .u64 4294967295))), .a 53 (.iA 1 (.t 47) (.t 50)), .n (.st 1 (.t 53) (.t 52))] [9, 47, 48, 49, 50, 51, 52, 53] [])
  (.reg [] [.a 54 (.mv (.t 8)), .a 55 (.bin .shr (.t 54) (.c (.int .u64 32))), .a 8 (.mv (.t 55))] [54, 55] [])))))
  (.reg [] [.a 56 (.bin .add (.t 30) (.c (.int .i64 1))), .a 30 (.mv (.t 56))] [56] []))))
def nat_Mul.b0 : R.C := (.seq (.reg [] [.a 24 (.bin .lss (.t 23) (.t 22))] [] [])
  (.seq (.cond (.t 24) .skip (.exit 0))
  (.seq (.block 1 (.seq (.reg [] [.a 25 (.mv (.t 23)), .a 26 (.iA 1 (.t 21) (.t 23)), .a 27 (.ld 1 false (.t 26)), .a 6 (.mv (.t 25)), .a 7 (.mv (.t 27))] [24, 25, 26, 27] [])
  (.seq (.reg [] [.a 8 (.mv (.c (.int .u64 0)))] [] [])
  (.seq (.seq (.reg [] [.a 28 (.mv (.t 1)), .a 29 (.ln (.t 28)), .a 30 (.mv (.c (.int .i64 0)))] [] [])
  (.block 2 (.loop [] [] nat_Mul.b2)))
  (.reg [] [.a 57 (.mv (.t 5)), .a 58 (.mv (.t 6)), .a 59 (.mv (.t 1)), .a 60 (.ln (.t 59)), .a 61 (.bin .add (.t 58) (.t 60)), .a 62 (.mv (.t 8)), .a 63 (.iA 1 (.t 57) (.t 61)), .n (.st 1 (.t 63) (.t 62))] [6, 7, 8, 28, 29, 30, 31, 57, 58, 59, 60, 61, 62, 63] [])))))
  (.reg [] [.a 64 (.bin .add (.t 23) (.c (.int .i64 1))), .a 23 (.mv (.t 64))] [64] []))))
def nat_Mul : R.Fn := ⟨2, [(.t 4)], (.seq (.reg [] [.a 4 (.mv (.c (.sl 1 [])))] [4] [])
  (.seq (.reg [] [.a 11 (.mv (.t 0)), .a 12 (.call F.nat_Clean [(.t 11)]), .a 13 (.mv (.t 1)), .a 14 (.call F.nat_Clean [(.t 13)]), .a 0 (.mv (.t 12)), .a 1 (.mv (.t 14))] [11, 12, 13, 14] [])
  (.seq (.reg [] [.a 15 (.mv (.t 0)), .a 16 (.ln (.t 15)), .a 17 (.mv (.t 1)), .a 18 (.ln (.t 17)), .a 19 (.bin .add (.t 16) (.t 18)), .a 20 (.mk 1 8 [(.int .u64 0)] (.t 19) (.t 19)), .a 5 (.mv (.t 20))] [15, 16, 17, 18, 19, 20] [])
  (.seq (.seq (.reg [] [.a 21 (.mv (.t 0)), .a 22 (.ln (.t 21)), .a 23 (.mv (.c (.int .i64 0)))] [0] [])
  (.block 0 (.loop [] [] nat_Mul.b0)))
  (.seq (.reg [5] [.a 65 (.mv (.t 5)), .a 66 (.call F.nat_trim [(.t 65)]), .a 4 (.mv (.t 66))] [1, 5, 21, 22, 23, 24, 65, 66] [20])
  .ret)))))⟩
def nat_Mul.hint : R.Hint := { pub := [(16, [5])], kill := [(0, [4], []), (1, [11, 12, 13, 14], []), (2, [15, 16, 17, 18, 19, 20], []), (3, [0], []), (5, [24, 25, 26, 27], []), (9, [31, 32, 33, 34], []), (10, [10, 35, 36, 37, 38, 39, 40, 41, 42, 43, 44, 45, 46], []), (11, [9, 47, 48, 49, 50, 51, 52, 53], []), (12, [54, 55], []), (13, [56], []), (14, [6, 7, 8, 28, 29, 30, 31, 57, 58, 59, 60, 61, 62, 63], []), (15, [64], []), (16, [1, 5, 21, 22, 23, 24, 65, 66], [20])] }
theorem nat_Mul.ok : cFn Tryd.prog nat_Mul.hint Tryd.f70 = some nat_Mul := by kernel_rfl
def whole_Of : R.Fn := ⟨1, [(.cell 2 2 true)], (.seq (.reg [] [.a 2 (.new [(.bool false), (.sl 1 [])])] [] [])
  (.seq (.seq (.reg [] [.a 3 (.mv (.t 0)), .a 4 (.bin .lss (.t 3) (.c (.int .i64 0)))] [3] [])
  (.cond (.t 4) (.seq (.reg [] [.a 5 (.mv (.t 0)), .a 6 (.conv .u64 (.t 5)), .a 7 (.un .neg (.t 6)), .a 8 (.call F.nat_Of [(.t 7)]), .a 9 (.call F.whole_sign [(.c (.bool true)), (.t 8)]), .n (.st 2 (.t 2) (.t 9))] [0, 4, 5, 6, 7, 8, 9] [])
  .ret) .skip))
  (.seq (.reg [] [.a 10 (.mv (.t 0)), .a 11 (.conv .u64 (.t 10)), .a 12 (.call F.nat_Of [(.t 11)]), .a 13 (.call F.whole_sign [(.c (.bool false)), (.t 12)]), .n (.st 2 (.t 2) (.t 13))] [0, 4, 10, 11, 12, 13] [])
  .ret)))⟩
def whole_Of.hint : R.Hint := { kill := [(1, [3], []), (2, [0, 4, 5, 6, 7, 8, 9], []), (3, [0, 4, 10, 11, 12, 13], [])] }
theorem whole_Of.ok : cFn Tryd.prog whole_Of.hint Tryd.f71 = some whole_Of := by kernel_rfl
def whole_Neg : R.Fn := ⟨1, [(.cell 2 2 true)], (.seq (.reg [] [.a 1 (.box (.t 0)), .a 2 (.new [(.bool false), (.sl 1 [])])] [0] [])
  (.seq (.reg [] [.a 3 (.ld 2 true (.t 1)), .a 4 (.call F.whole_Clean [(.t 3)]), .n (.st 2 (.t 1) (.t 4))] [3, 4] [])
  (.seq (.reg [] [.a 5 (.fA 0 (.t 1)), .a 6 (.ld 1 false (.t 5)), .a 7 (.un .not (.t 6)), .a 8 (.fA 1 (.t 1)), .a 9 (.ld 1 false (.t 8)), .a 10 (.call F.whole_sign [(.t 7), (.t 9)]), .n (.st 2 (.t 2) (.t 10))] [1, 5, 6, 7, 8, 9, 10] [1])
  .ret)))⟩
def whole_Neg.hint : R.Hint := { kill := [(0, [0], []), (1, [3, 4], []), (2, [1, 5, 6, 7, 8, 9, 10], [1])] }
theorem whole_Neg.ok : cFn Tryd.prog whole_Neg.hint Tryd.f72 = some whole_Neg := by kernel_rfl
def whole_Add : R.Fn := ⟨2, [(.cell 4 2 true)], (.seq (.reg [] [.a 2 (.box (.t 0)), .a 3 (.box (.t 1)), .a 4 (.new [(.bool false), (.sl 1 [])])] [0, 1] [])
  (.seq (.reg [] [.a 7 (.ld 2 true (.t 2)), .a 8 (.call F.whole_Clean [(.t 7)]), .a 9 (.ld 2 true (.t 3)), .a 10 (.call F.whole_Clean [(.t 9)]), .n (.st 2 (.t 2) (.t 8)), .n (.st 2 (.t 3) (.t 10))] [7, 8, 9, 10] [])
  (.seq (.seq (.reg [] [.a 11 (.fA 0 (.t 2)), .a 12 (.ld 1 false (.t 11)), .a 13 (.fA 0 (.t 3)), .a 14 (.ld 1 false (.t 13)), .a 15 (.beq false (.t 12) (.t 14))] [11, 12, 13, 14] [])
  (.cond (.t 15) (.seq (.reg [] [.a 16 (.fA 0 (.t 2)), .a 17 (.ld 1 false (.t 16)), .a 18 (.fA 1 (.t 2)), .a 19 (.ld 1 false (.t 18)), .a 20 (.fA 1 (.t 3)), .a 21 (.ld 1 false (.t 20)), .a 22 (.call F.nat_Add [(.t 19), (.t 21)]), .a 23 (.call F.whole_sign [(.t 17), (.t 22)]), .n (.st 2 (.t 4) (.t 23))] [2, 3, 15, 16, 17, 18, 19, 20, 21, 22, 23] [2, 3])
  .ret) .skip))
  (.seq (.seq (.reg [] [.a 24 (.fA 1 (.t 2)), .a 25 (.ld 1 false (.t 24)), .a 26 (.fA 1 (.t 3)), .a 27 (.ld 1 false (.t 26)), .a 28 (.call F.nat_Cmp [(.t 25), (.t 27)]), .a 29 (.bin .lss (.t 28) (.c (.int .i64 0)))] [15, 24, 25, 26, 27, 28] [])
  (.cond (.t 29) (.reg [] [.a 30 (.ld 2 true (.t 3)), .a 31 (.ld 2 true (.t 2)), .n (.st 2 (.t 2) (.t 30)), .n (.st 2 (.t 3) (.t 31))] [29, 30, 31] []) .skip))
  (.seq (.reg [] [.a 33 (.fA 1 (.t 2)), .a 34 (.ld 1 false (.t 33)), .a 35 (.fA 1 (.t 3)), .a 36 (.ld 1 false (.t 35)), .a 37 (.call F.nat_Sub [(.t 34), (.t 36)]), .a 32 (.mv (.t 37)), .a 38 (.ext (.t 32) 0), .a 39 (.ext (.t 32) 1), .a 5 (.mv (.t 38)), .a 6 (.mv (.t 39))] [3, 6, 29, 32, 33, 34, 35, 36, 37, 38, 39] [3])
  (.seq (.reg [] [.a 40 (.fA 0 (.t 2)), .a 41 (.ld 1 false (.t 40)), .a 42 (.mv (.t 5)), .a 43 (.call F.whole_sign [(.t 41), (.t 42)]), .n (.st 2 (.t 4) (.t 43))] [2, 5, 40, 41, 42, 43] [2])
  .ret))))))⟩
def whole_Add.hint : R.Hint := { kill := [(0, [0, 1], []), (1, [7, 8, 9, 10], []), (2, [11, 12, 13, 14], []), (3, [2, 3, 15, 16, 17, 18, 19, 20, 21, 22, 23], [2, 3]), (4, [15, 24, 25, 26, 27, 28], []), (5, [29, 30, 31], []), (6, [3, 6, 29, 32, 33, 34, 35, 36, 37, 38, 39], [3]), (7, [2, 5, 40, 41, 42, 43], [2])] }
theorem whole_Add.ok : cFn Tryd.prog whole_Add.hint Tryd.f73 = some whole_Add := by kernel_rfl
def ratio_den : R.Fn := ⟨1, [(.cell 2 2 true)], (.seq (.reg [] [.a 1 (.box (.t 0)), .a 2 (.new [(.bool false), (.sl 1 [])])] [0] [])
  (.seq (.reg [] [.a 3 (.fA 2 (.t 1)), .a 4 (.ld 1 false (.t 3)), .a 5 (.bld [(.bool false), (.sl 1 [])] [(1, 1, (.t 4))]), .n (.st 2 (.t 2) (.t 5))] [1, 3, 4, 5] [1])
  .ret))⟩
def ratio_den.hint : R.Hint := { kill := [(0, [0], []), (1, [1, 3, 4, 5], [1])] }
theorem ratio_den.ok : cFn Tryd.prog ratio_den.hint Tryd.f74 = some ratio_den := by kernel_rfl
def dendronlaw19_number : R.Fn := ⟨1, [(.cell 2 3 true)], (.seq (.reg [] [.a 1 (.box (.t 0)), .a 2 (.new [(.bool false), (.sl 1 []), (.sl 1 [])])] [0] [])
  (.seq (.seq (.reg [] [.a 3 (.fA 0 (.t 1)), .a 4 (.fA 1 (.t 3)), .a 5 (.ld 1 false (.t 4)), .a 6 (.ln (.t 5)), .a 7 (.bin .gtr (.t 6) (.c (.int .i64 2)))] [3, 4, 5, 6] [])
  (.cond (.t 7) (.reg [] [.a 8 (.fA 0 (.t 1)), .a 9 (.fA 1 (.t 8)), .a 10 (.ld 1 false (.t 9)), .a 11 (.slc 1 (.t 10) none (some (.c (.int .i64 2)))), .a 12 (.fA 0 (.t 1)), .a 13 (.fA 1 (.t 12)), .n (.st 1 (.t 13) (.t 11))] [7, 8, 9, 10, 11, 12, 13] []) .skip))
  (.seq (.seq (.reg [] [.a 14 (.fA 2 (.t 1)), .a 15 (.ld 1 false (.t 14)), .a 16 (.ln (.t 15)), .a 17 (.bin .gtr (.t 16) (.c (.int .i64 2)))] [7, 14, 15, 16] [])
  (.cond (.t 17) (.reg [] [.a 18 (.fA 2 (.t 1)), .a 19 (.ld 1 false (.t 18)), .a 20 (.slc 1 (.t 19) none (some (.c (.int .i64 2)))), .a 21 (.fA 2 (.t 1)), .n (.st 1 (.t 21) (.t 20))] [17, 18, 19, 20, 21] []) .skip))
  (.seq (.reg [] [.a 22 (.ld 3 true (.t 1)), .n (.st 3 (.t 2) (.t 22))] [1, 17, 22] [1])
  .ret))))⟩
def dendronlaw19_number.hint : R.Hint := { kill := [(0, [0], []), (1, [3, 4, 5, 6], []), (2, [7, 8, 9, 10, 11, 12, 13], []), (3, [7, 14, 15, 16], []), (4, [17, 18, 19, 20, 21], []), (5, [1, 17, 22], [1])] }
theorem dendronlaw19_number.ok : cFn Tryd.prog dendronlaw19_number.hint Tryd.f75 = some dendronlaw19_number := by kernel_rfl
def game_Players : R.Fn := ⟨1, [(.t 2), (.t 3)], (.seq (.reg [] [.a 2 (.mv (.c (.int .i64 0))), .a 3 (.mv (.c (.bool false)))] [2, 3] [])
  (.seq (.reg [] [.a 5 (.mv (.t 0)), .a 6 (.ln (.t 5)), .a 7 (.conv .u64 (.t 6)), .a 8 (.call F.bits_Len [(.t 7)]), .a 9 (.bin .sub (.t 8) (.c (.int .i64 1))), .a 4 (.mv (.t 9))] [5, 6, 7, 8, 9] [])
  (.seq (.seq (.reg [] [.a 10 (.mv (.t 0)), .a 11 (.ln (.t 10)), .a 12 (.bin .eql (.t 11) (.c (.int .i64 0))), .a 13 (.mv (.t 12)), .g 14 13 false (.mv (.t 0)), .g 15 13 false (.ln (.t 14)), .g 16 13 false (.mv (.t 4)), .g 17 13 false (.bin .shl (.c (.int .i64 1)) (.t 16)), .g 18 13 false (.bin .neq (.t 15) (.t 17)), .a 19 (.pick (.t 13) (.c (.bool true)) (.t 18)), .a 20 (.mv (.t 19)), .g 21 20 false (.mv (.t 4)), .g 22 20 false (.bin .gtr (.t 21) (.c (.int .i64 12))), .a 23 (.pick (.t 20) (.c (.bool true)) (.t 22))] [0, 10, 11, 12, 13, 14, 15, 16, 17, 18, 19, 20, 21, 22] [])
  (.cond (.t 23) (.seq (.reg [] [.a 2 (.mv (.c (.int .i64 0))), .a 3 (.mv (.c (.bool false)))] [4, 23] [])
  .ret) .skip))
  (.seq (.reg [] [.a 24 (.mv (.t 4)), .a 2 (.mv (.t 24)), .a 3 (.mv (.c (.bool true)))] [4, 23, 24] [])
  .ret))))⟩
def game_Players.hint : R.Hint := { kill := [(0, [2, 3], []), (1, [5, 6, 7, 8, 9], []), (2, [0, 10, 11, 12, 13, 14, 15, 16, 17, 18, 19, 20, 21, 22], []), (3, [4, 23], []), (4, [4, 23, 24], [])] }
theorem game_Players.ok : cFn Tryd.prog game_Players.hint Tryd.f76 = some game_Players := by kernel_rfl
def dendronlaw19_two.b0 : R.C := (.seq (.seq (.reg [] [.a 5 (.mv (.t 4)), .a 6 (.mv (.t 0)), .a 7 (.bin .lss (.t 5) (.t 6))] [5, 6] [])
  (.cond (.t 7) .skip (.exit 0)))
  (.seq (.block 1 (.reg [] [.a 10 (.mv (.t 3)), .a 11 (.bin .mul (.c (.int .i64 2)) (.t 10)), .a 3 (.mv (.t 11))] [7, 10, 11] []))
  (.reg [] [.a 8 (.mv (.t 4)), .a 9 (.bin .add (.t 8) (.c (.int .i64 1))), .a 4 (.mv (.t 9))] [8, 9] [])))
def dendronlaw19_two : R.Fn := ⟨1, [(.t 2)], (.seq (.reg [] [.a 2 (.mv (.c (.int .i64 0)))] [2] [])
  (.seq (.reg [] [.a 3 (.mv (.c (.int .i64 1)))] [] [])
  (.seq (.seq (.reg [] [.a 4 (.mv (.c (.int .i64 0)))] [] [])
  (.block 0 (.loop [] [] dendronlaw19_two.b0)))
  (.seq (.reg [] [.a 12 (.mv (.t 3)), .a 2 (.mv (.t 12))] [0, 3, 4, 7, 12] [])
  .ret))))⟩
def dendronlaw19_two.hint : R.Hint := { kill := [(0, [2], []), (3, [5, 6], []), (4, [8, 9], []), (5, [7, 10, 11], []), (6, [0, 3, 4, 7, 12], [])] }
theorem dendronlaw19_two.ok : cFn Tryd.prog dendronlaw19_two.hint Tryd.f77 = some dendronlaw19_two := by kernel_rfl
def bits_OnesCount : R.Fn := ⟨1, [(.t 2)], (.seq (.reg [] [.a 2 (.mv (.c (.int .i64 0)))] [2] [])
  (.seq (.cond (.c (.bool false)) (.seq (.reg [] [.a 3 (.mv (.t 0)), .a 4 (.conv .u32 (.t 3)), .a 5 (.call F.bits_OnesCount32 [(.t 4)]), .a 2 (.mv (.t 5))] [0, 3, 4, 5] [])
  .ret) .skip)
  (.seq (.reg [] [.a 6 (.mv (.t 0)), .a 7 (.call F.bits_OnesCount64 [(.t 6)]), .a 2 (.mv (.t 7))] [0, 6, 7] [])
  .ret)))⟩
def bits_OnesCount.hint : R.Hint := { kill := [(0, [2], []), (1, [0, 3, 4, 5], []), (2, [0, 6, 7], [])] }
theorem bits_OnesCount.ok : cFn Tryd.prog bits_OnesCount.hint Tryd.f78 = some bits_OnesCount := by kernel_rfl
def whole_Sign : R.Fn := ⟨1, [(.t 2)], (.seq (.reg [] [.a 1 (.box (.t 0)), .a 2 (.mv (.c (.int .i64 0)))] [0, 2] [])
  (.seq (.reg [] [.a 3 (.ld 2 true (.t 1)), .a 4 (.call F.whole_Clean [(.t 3)]), .n (.st 2 (.t 1) (.t 4))] [3, 4] [])
  (.seq (.block 0 (.seq (.reg [] [.a 6 (.fA 0 (.t 1)), .a 7 (.ld 1 false (.t 6)), .a 5 (.mv (.t 7))] [6, 7] [])
  (.cond (.t 5) (.seq (.reg [] [.a 2 (.mv (.c (.int .i64 (-1))))] [1, 5] [1])
  .ret) (.seq (.reg [] [.a 9 (.fA 1 (.t 1)), .a 10 (.ld 1 false (.t 9)), .a 11 (.ln (.t 10)), .a 12 (.bin .eql (.t 11) (.c (.int .i64 0))), .a 8 (.mv (.t 12))] [1, 5, 9, 10, 11, 12] [1])
  (.cond (.t 8) (.seq (.reg [] [.a 2 (.mv (.c (.int .i64 0)))] [8] [])
  .ret) .skip)))))
  (.seq (.reg [] [.a 2 (.mv (.c (.int .i64 1)))] [8] [])
  .ret))))⟩
def whole_Sign.hint : R.Hint := { kill := [(0, [0, 2], []), (1, [3, 4], []), (2, [6, 7], []), (3, [1, 5], [1]), (4, [1, 5, 9, 10, 11, 12], [1]), (5, [8], []), (6, [8], [])] }
theorem whole_Sign.ok : cFn Tryd.prog whole_Sign.hint Tryd.f79 = some whole_Sign := by kernel_rfl
def nat_Gcd.b1 : R.C := (.block 2 (.seq (.seq (.reg [] [.a 43 (.mv (.t 0)), .a 44 (.mv (.t 1)), .a 45 (.call F.nat_order [(.t 43), (.t 44)]), .a 7 (.mv (.t 45))] [43, 44, 45] [])
  (.block 3 (.seq (.reg [] [.a 47 (.mv (.t 7)), .a 48 (.bin .eql (.t 47) (.c (.int .i64 0))), .a 46 (.mv (.t 48))] [47, 48] [])
  (.cond (.t 46) (.seq (.reg [] [.a 49 (.mv (.t 0)), .a 50 (.mv (.t 5)), .a 51 (.mv (.t 6)), .a 52 (.mn (.t 50) (.t 51)), .a 53 (.call F.nat_shl [(.t 49), (.t 52)]), .a 4 (.mv (.t 53))] [0, 1, 5, 6, 7, 46, 49, 50, 51, 52, 53] [])
  .ret) (.seq (.reg [] [.a 55 (.mv (.t 7)), .a 56 (.bin .lss (.t 55) (.c (.int .i64 0))), .a 54 (.mv (.t 56))] [7, 46, 55, 56] [])
  (.cond (.t 54) (.reg [] [.a 57 (.mv (.t 1)), .a 58 (.mv (.t 0)), .a 0 (.mv (.t 57)), .a 1 (.mv (.t 58))] [54, 57, 58] []) .skip))))))
  (.seq (.seq (.reg [] [.a 59 (.mv (.t 0)), .a 60 (.ln (.t 59)), .a 61 (.mv (.t 1)), .a 62 (.ln (.t 61)), .a 63 (.bin .add (.t 62) (.c (.int .i64 1))), .a 64 (.bin .gtr (.t 60) (.t 63))] [54, 59, 60, 61, 62, 63] [])
  (.cond (.t 64) (.seq (.reg [] [.a 66 (.mv (.t 0)), .a 67 (.mv (.t 1)), .a 68 (.call F.nat_rest [(.t 66), (.t 67)]), .a 65 (.mv (.t 68)), .a 69 (.ext (.t 65) 0), .a 70 (.ext (.t 65) 1), .a 0 (.mv (.t 70))] [64, 65, 66, 67, 68, 69, 70] [])
  (.seq (.reg [] [.a 71 (.mv (.t 0)), .a 72 (.ln (.t 71)), .a 73 (.bin .eql (.t 72) (.c (.int .i64 0)))] [71, 72] [])
  (.cond (.t 73) (.seq (.reg [] [.a 74 (.mv (.t 1)), .a 75 (.mv (.t 5)), .a 76 (.mv (.t 6)), .a 77 (.mn (.t 75) (.t 76)), .a 78 (.call F.nat_shl [(.t 74), (.t 77)]), .a 4 (.mv (.t 78))] [0, 1, 5, 6, 73, 74, 75, 76, 77, 78] [])
  .ret) .skip))) (.reg [] [.a 79 (.mv (.t 0)), .a 80 (.mv (.t 1)), .a 81 (.call F.nat_minus [(.t 79), (.t 80)]), .a 0 (.mv (.t 81))] [64, 79, 80, 81] [])))
  (.reg [] [.a 82 (.mv (.t 0)), .a 83 (.mv (.t 0)), .a 84 (.call F.nat_zeros [(.t 83)]), .a 85 (.call F.nat_shr [(.t 82), (.t 84)]), .a 0 (.mv (.t 85))] [73, 82, 83, 84, 85] []))))
def nat_Gcd : R.Fn := ⟨2, [(.t 4)], (.seq (.reg [] [.a 4 (.mv (.c (.sl 1 [])))] [4] [])
  (.seq (.reg [] [.a 8 (.mv (.t 0)), .a 9 (.call F.nat_Clean [(.t 8)]), .a 10 (.mv (.t 1)), .a 11 (.call F.nat_Clean [(.t 10)]), .a 0 (.mv (.t 9)), .a 1 (.mv (.t 11))] [8, 9, 10, 11] [])
  (.seq (.block 0 (.seq (.reg [] [.a 13 (.mv (.t 0)), .a 14 (.ln (.t 13)), .a 15 (.bin .eql (.t 14) (.c (.int .i64 0))), .a 12 (.mv (.t 15))] [13, 14, 15] [])
  (.cond (.t 12) (.seq (.reg [] [.a 16 (.mv (.t 1)), .a 4 (.mv (.t 16))] [0, 1, 12, 16] [])
  .ret) (.seq (.reg [] [.a 18 (.mv (.t 1)), .a 19 (.ln (.t 18)), .a 20 (.bin .eql (.t 19) (.c (.int .i64 0))), .a 17 (.mv (.t 20))] [12, 18, 19, 20] [])
  (.cond (.t 17) (.seq (.reg [] [.a 21 (.mv (.t 0)), .a 4 (.mv (.t 21))] [0, 1, 17, 21] [])
  .ret) .skip)))))
  (.seq (.seq (.reg [] [.a 22 (.mv (.t 0)), .a 23 (.ln (.t 22)), .a 24 (.bin .leq (.t 23) (.c (.int .i64 2))), .a 25 (.mv (.t 24)), .g 26 25 true (.mv (.t 1)), .g 27 25 true (.ln (.t 26)), .g 28 25 true (.bin .leq (.t 27) (.c (.int .i64 2))), .a 29 (.pick (.t 25) (.t 28) (.c (.bool false)))] [17, 22, 23, 24, 25, 26, 27, 28] [])
  (.cond (.t 29) (.seq (.reg [] [.a 30 (.mv (.t 0)), .a 31 (.mv (.t 1)), .a 32 (.call F.nat_euclid [(.t 30), (.t 31)]), .a 4 (.mv (.t 32))] [0, 1, 29, 30, 31, 32] [])
  .ret) .skip))
  (.seq (.reg [] [.a 33 (.mv (.t 0)), .a 34 (.call F.nat_zeros [(.t 33)]), .a 35 (.mv (.t 1)), .a 36 (.call F.nat_zeros [(.t 35)]), .a 5 (.mv (.t 34)), .a 6 (.mv (.t 36))] [29, 33, 34, 35, 36] [])
  (.seq (.reg [] [.a 37 (.mv (.t 0)), .a 38 (.mv (.t 5)), .a 39 (.call F.nat_shr [(.t 37), (.t 38)]), .a 40 (.mv (.t 1)), .a 41 (.mv (.t 6)), .a 42 (.call F.nat_shr [(.t 40), (.t 41)]), .a 0 (.mv (.t 39)), .a 1 (.mv (.t 42))] [37, 38, 39, 40, 41, 42] [])
  (.block 1 (.loop [] [] nat_Gcd.b1))))))))⟩
def nat_Gcd.hint : R.Hint := { kill := [(0, [4], []), (1, [8, 9, 10, 11], []), (2, [13, 14, 15], []), (3, [0, 1, 12, 16], []), (4, [12, 18, 19, 20], []), (5, [0, 1, 17, 21], []), (6, [17, 22, 23, 24, 25, 26, 27, 28], []), (7, [0, 1, 29, 30, 31, 32], []), (8, [29, 33, 34, 35, 36], []), (9, [37, 38, 39, 40, 41, 42], []), (10, [43, 44, 45], []), (11, [47, 48], []), (12, [0, 1, 5, 6, 7, 46, 49, 50, 51, 52, 53], []), (13, [7, 46, 55, 56], []), (14, [54, 57, 58], []), (15, [54, 59, 60, 61, 62, 63], []), (16, [64, 65, 66, 67, 68, 69, 70], []), (17, [71, 72], []), (18, [0, 1, 5, 6, 73, 74, 75, 76, 77, 78], []), (19, [64, 79, 80, 81], []), (20, [73, 82, 83, 84, 85], [])] }
theorem nat_Gcd.ok : cFn Tryd.prog nat_Gcd.hint Tryd.f80 = some nat_Gcd := by kernel_rfl
def nat_Cmp : R.Fn := ⟨2, [(.t 4)], (.seq (.reg [] [.a 4 (.mv (.c (.int .i64 0)))] [4] [])
  (.seq (.reg [] [.a 5 (.mv (.t 0)), .a 6 (.call F.nat_Clean [(.t 5)]), .a 7 (.mv (.t 1)), .a 8 (.call F.nat_Clean [(.t 7)]), .a 9 (.call F.nat_order [(.t 6), (.t 8)]), .a 4 (.mv (.t 9))] [0, 1, 5, 6, 7, 8, 9] [])
  .ret))⟩
def nat_Cmp.hint : R.Hint := { kill := [(0, [4], []), (1, [0, 1, 5, 6, 7, 8, 9], [])] }
theorem nat_Cmp.ok : cFn Tryd.prog nat_Cmp.hint Tryd.f81 = some nat_Cmp := by kernel_rfl
def owen_Right.b0 : R.C := (.seq (.reg [] [.a 17 (.bin .lss (.t 16) (.t 15))] [] [])
  (.seq (.cond (.t 17) .skip (.exit 0))
  (.seq (.block 1 (.seq (.reg [] [.a 18 (.iA 1 (.t 14) (.t 16)), .a 19 (.ld 1 false (.t 18)), .a 7 (.mv (.t 19))] [17, 18, 19] [])
  (.seq (.seq (.reg [] [.a 20 (.mv (.t 7)), .a 21 (.bin .leq (.t 20) (.c (.int .i64 0))), .a 22 (.mv (.t 21)), .g 23 22 false (.mv (.t 7)), .g 24 22 false (.mv (.t 1)), .g 25 22 false (.bin .shl (.c (.int .i64 1)) (.t 24)), .g 26 22 false (.bin .geq (.t 23) (.t 25)), .a 27 (.pick (.t 22) (.c (.bool true)) (.t 26)), .a 28 (.mv (.t 27)), .g 29 28 false (.mv (.t 5)), .g 30 28 false (.mv (.t 7)), .g 31 28 false (.bin .and (.t 29) (.t 30)), .g 32 28 false (.bin .neq (.t 31) (.c (.int .i64 0))), .a 33 (.pick (.t 28) (.c (.bool true)) (.t 32))] [20, 21, 22, 23, 24, 25, 26, 27, 28, 29, 30, 31, 32] [])
  (.cond (.t 33) (.seq (.reg [] [.a 4 (.mv (.c (.bool false)))] [1, 5, 7, 14, 15, 16, 33] [])
  .ret) .skip))
  (.reg [] [.a 34 (.mv (.t 5)), .a 35 (.mv (.t 7)), .a 36 (.bin .or (.t 34) (.t 35)), .a 5 (.mv (.t 36))] [7, 33, 34, 35, 36] []))))
  (.reg [] [.a 37 (.bin .add (.t 16) (.c (.int .i64 1))), .a 16 (.mv (.t 37))] [37] []))))
def owen_Right : R.Fn := ⟨2, [(.t 4)], (.seq (.reg [] [.a 4 (.mv (.c (.bool false)))] [4] [])
  (.seq (.seq (.reg [] [.a 8 (.mv (.t 1)), .a 9 (.bin .lss (.t 8) (.c (.int .i64 0))), .a 10 (.mv (.t 9)), .g 11 10 false (.mv (.t 1)), .g 12 10 false (.bin .gtr (.t 11) (.c (.int .i64 12))), .a 13 (.pick (.t 10) (.c (.bool true)) (.t 12))] [8, 9, 10, 11, 12] [])
  (.cond (.t 13) (.seq (.reg [] [.a 4 (.mv (.c (.bool false)))] [0, 1, 13] [])
  .ret) .skip))
  (.seq (.reg [] [.a 5 (.mv (.c (.int .i64 0)))] [13] [])
  (.seq (.seq (.reg [] [.a 14 (.mv (.t 0)), .a 15 (.ln (.t 14)), .a 16 (.mv (.c (.int .i64 0)))] [0] [])
  (.block 0 (.loop [] [] owen_Right.b0)))
  (.seq (.reg [] [.a 38 (.mv (.t 5)), .a 39 (.mv (.t 1)), .a 40 (.bin .shl (.c (.int .i64 1)) (.t 39)), .a 41 (.bin .sub (.t 40) (.c (.int .i64 1))), .a 42 (.bin .eql (.t 38) (.t 41)), .a 4 (.mv (.t 42))] [1, 5, 14, 15, 16, 17, 38, 39, 40, 41, 42] [])
  .ret)))))⟩
def owen_Right.hint : R.Hint := { kill := [(0, [4], []), (1, [8, 9, 10, 11, 12], []), (2, [0, 1, 13], []), (3, [13], []), (4, [0], []), (6, [17, 18, 19], []), (7, [20, 21, 22, 23, 24, 25, 26, 27, 28, 29, 30, 31, 32], []), (8, [1, 5, 7, 14, 15, 16, 33], []), (9, [7, 33, 34, 35, 36], []), (10, [37], []), (11, [1, 5, 14, 15, 16, 17, 38, 39, 40, 41, 42], [])] }
theorem owen_Right.ok : cFn Tryd.prog owen_Right.hint Tryd.f82 = some owen_Right := by kernel_rfl
def owen_merged.b0 : R.C := (.seq (.reg [] [.a 11 (.bin .lss (.t 10) (.t 9))] [] [])
  (.seq (.cond (.t 11) .skip (.exit 0))
  (.seq (.block 1 (.seq (.reg [] [.a 12 (.mv (.t 10)), .a 13 (.iA 1 (.t 8) (.t 10)), .a 14 (.ld 1 false (.t 13)), .a 6 (.mv (.t 12)), .a 7 (.mv (.t 14))] [11, 12, 13, 14] [])
  (.seq (.reg [] [.a 15 (.mv (.t 1)), .a 16 (.mv (.t 6)), .a 17 (.bin .shr (.t 15) (.t 16)), .a 18 (.bin .and (.t 17) (.c (.int .i64 1))), .a 19 (.bin .eql (.t 18) (.c (.int .i64 1)))] [6, 15, 16, 17, 18] [])
  (.cond (.t 19) (.reg [] [.a 20 (.mv (.t 5)), .a 21 (.mv (.t 7)), .a 22 (.bin .or (.t 20) (.t 21)), .a 5 (.mv (.t 22))] [7, 19, 20, 21, 22] []) .skip))))
  (.reg [] [.a 23 (.bin .add (.t 10) (.c (.int .i64 1))), .a 10 (.mv (.t 23))] [7, 19, 23] []))))
def owen_merged : R.Fn := ⟨2, [(.t 4)], (.seq (.reg [] [.a 4 (.mv (.c (.int .i64 0)))] [4] [])
  (.seq (.reg [] [.a 5 (.mv (.c (.int .i64 0)))] [] [])
  (.seq (.seq (.reg [] [.a 8 (.mv (.t 0)), .a 9 (.ln (.t 8)), .a 10 (.mv (.c (.int .i64 0)))] [0] [])
  (.block 0 (.loop [] [] owen_merged.b0)))
  (.seq (.reg [] [.a 24 (.mv (.t 5)), .a 4 (.mv (.t 24))] [1, 5, 8, 9, 10, 11, 24] [])
  .ret))))⟩
def owen_merged.hint : R.Hint := { kill := [(0, [4], []), (2, [0], []), (4, [11, 12, 13, 14], []), (5, [6, 15, 16, 17, 18], []), (6, [7, 19, 20, 21, 22], []), (7, [7, 19, 23], []), (8, [1, 5, 8, 9, 10, 11, 24], [])] }
theorem owen_merged.ok : cFn Tryd.prog owen_merged.hint Tryd.f83 = some owen_merged := by kernel_rfl
def owen_Alone.b0 : R.C := (.seq (.reg [] [.a 7 (.bin .lss (.t 6) (.t 5))] [] [])
  (.seq (.cond (.t 7) .skip (.exit 0))
  (.seq (.block 1 (.seq (.reg [] [.a 8 (.mv (.t 6)), .a 4 (.mv (.t 8))] [7, 8] [])
  (.reg [] [.a 9 (.mv (.t 3)), .a 10 (.mv (.t 4)), .a 11 (.bin .shl (.c (.int .i64 1)) (.t 10)), .a 12 (.lit 1 1 [(.int .i64 0)] [(0, 1, (.t 11))]), .a 13 (.app 1 8 (.t 9) (.t 12)), .a 3 (.mv (.t 13))] [4, 9, 10, 11, 12, 13] [])))
  (.reg [] [.a 14 (.bin .add (.t 6) (.c (.int .i64 1))), .a 6 (.mv (.t 14))] [14] []))))
def owen_Alone : R.Fn := ⟨1, [(.t 2)], (.seq (.reg [] [.a 2 (.mv (.c (.sl 1 [])))] [2] [])
  (.seq (.reg [] [.a 3 (.nil 1)] [] [])
  (.seq (.seq (.reg [] [.a 5 (.mv (.t 0)), .a 6 (.mv (.c (.int .i64 0)))] [0] [])
  (.block 0 (.loop [] [] owen_Alone.b0)))
  (.seq (.reg [] [.a 15 (.mv (.t 3)), .a 2 (.mv (.t 15))] [3, 5, 6, 7, 15] [])
  .ret))))⟩
def owen_Alone.hint : R.Hint := { nil := [3], kill := [(0, [2], []), (2, [0], []), (4, [7, 8], []), (5, [4, 9, 10, 11, 12, 13], []), (6, [14], []), (7, [3, 5, 6, 7, 15], [])] }
theorem owen_Alone.ok : cFn Tryd.prog owen_Alone.hint Tryd.f84 = some owen_Alone := by kernel_rfl
def orders_Next.b0 : R.C := (.seq (.seq (.reg [] [.a 15 (.mv (.t 5)), .a 16 (.bin .geq (.t 15) (.c (.int .i64 0))), .a 17 (.mv (.t 16)), .g 18 17 true (.mv (.t 4)), .g 19 17 true (.mv (.t 5)), .g 20 17 true (.iA 1 (.t 18) (.t 19)), .g 21 17 true (.ld 1 false (.t 20)), .g 22 17 true (.mv (.t 4)), .g 23 17 true (.mv (.t 5)), .g 24 17 true (.bin .add (.t 23) (.c (.int .i64 1))), .g 25 17 true (.iA 1 (.t 22) (.t 24)), .g 26 17 true (.ld 1 false (.t 25)), .g 27 17 true (.bin .geq (.t 21) (.t 26)), .a 28 (.pick (.t 17) (.t 27) (.c (.bool false)))] [15, 16, 17, 18, 19, 20, 21, 22, 23, 24, 25, 26, 27] [])
  (.cond (.t 28) .skip (.exit 0)))
  (.block 1 (.reg [] [.a 29 (.mv (.t 5)), .a 30 (.bin .sub (.t 29) (.c (.int .i64 1))), .a 5 (.mv (.t 30))] [28, 29, 30] [])))
def orders_Next.b2 : R.C := (.seq (.seq (.reg [] [.a 36 (.mv (.t 4)), .a 37 (.mv (.t 6)), .a 38 (.iA 1 (.t 36) (.t 37)), .a 39 (.ld 1 false (.t 38)), .a 40 (.mv (.t 4)), .a 41 (.mv (.t 5)), .a 42 (.iA 1 (.t 40) (.t 41)), .a 43 (.ld 1 false (.t 42)), .a 44 (.bin .leq (.t 39) (.t 43))] [36, 37, 38, 39, 40, 41, 42, 43] [])
  (.cond (.t 44) .skip (.exit 2)))
  (.block 3 (.reg [] [.a 45 (.mv (.t 6)), .a 46 (.bin .sub (.t 45) (.c (.int .i64 1))), .a 6 (.mv (.t 46))] [44, 45, 46] [])))
def orders_Next.b4 : R.C := (.seq (.seq (.reg [] [.a 66 (.mv (.t 7)), .a 67 (.mv (.t 8)), .a 68 (.bin .lss (.t 66) (.t 67))] [66, 67] [])
  (.cond (.t 68) .skip (.exit 4)))
  (.seq (.block 5 (.reg [] [.a 73 (.mv (.t 4)), .a 74 (.mv (.t 7)), .a 75 (.mv (.t 4)), .a 76 (.mv (.t 8)), .a 77 (.mv (.t 4)), .a 78 (.mv (.t 8)), .a 79 (.iA 1 (.t 77) (.t 78)), .a 80 (.ld 1 false (.t 79)), .a 81 (.mv (.t 4)), .a 82 (.mv (.t 7)), .a 83 (.iA 1 (.t 81) (.t 82)), .a 84 (.ld 1 false (.t 83)), .a 85 (.iA 1 (.t 73) (.t 74)), .n (.st 1 (.t 85) (.t 80)), .a 86 (.iA 1 (.t 75) (.t 76)), .n (.st 1 (.t 86) (.t 84))] [68, 73, 74, 75, 76, 77, 78, 79, 80, 81, 82, 83, 84, 85, 86] []))
  (.reg [] [.a 69 (.mv (.t 7)), .a 70 (.bin .add (.t 69) (.c (.int .i64 1))), .a 71 (.mv (.t 8)), .a 72 (.bin .sub (.t 71) (.c (.int .i64 1))), .a 7 (.mv (.t 70)), .a 8 (.mv (.t 72))] [69, 70, 71, 72] [])))
def orders_Next : R.Fn := ⟨1, [(.t 2), (.t 3)], (.seq (.reg [] [.a 2 (.mv (.c (.sl 1 []))), .a 3 (.mv (.c (.bool false)))] [2, 3] [])
  (.seq (.reg [] [.a 9 (.lito 1 0 [] []), .a 10 (.mv (.t 0)), .a 11 (.app 1 8 (.t 9) (.t 10)), .a 4 (.mv (.t 11))] [0, 9, 10, 11] [])
  (.seq (.reg [] [.a 12 (.mv (.t 4)), .a 13 (.ln (.t 12)), .a 14 (.bin .sub (.t 13) (.c (.int .i64 2))), .a 5 (.mv (.t 14))] [12, 13, 14] [])
  (.seq (.block 0 (.loop [] [] orders_Next.b0))
  (.seq (.seq (.reg [] [.a 31 (.mv (.t 5)), .a 32 (.bin .lss (.t 31) (.c (.int .i64 0)))] [28, 31] [])
  (.cond (.t 32) (.seq (.reg [] [.a 2 (.mv (.c (.sl 1 []))), .a 3 (.mv (.c (.bool false)))] [4, 5, 32] [])
  .ret) .skip))
  (.seq (.reg [] [.a 33 (.mv (.t 4)), .a 34 (.ln (.t 33)), .a 35 (.bin .sub (.t 34) (.c (.int .i64 1))), .a 6 (.mv (.t 35))] [32, 33, 34, 35] [])
  (.seq (.block 2 (.loop [] [] orders_Next.b2))
  (.seq (.reg [] [.a 47 (.mv (.t 4)), .a 48 (.mv (.t 5)), .a 49 (.mv (.t 4)), .a 50 (.mv (.t 6)), .a 51 (.mv (.t 4)), .a 52 (.mv (.t 6)), .a 53 (.iA 1 (.t 51) (.t 52)), .a 54 (.ld 1 false (.t 53)), .a 55 (.mv (.t 4)), .a 56 (.mv (.t 5)), .a 57 (.iA 1 (.t 55) (.t 56)), .a 58 (.ld 1 false (.t 57)), .a 59 (.iA 1 (.t 47) (.t 48)), .n (.st 1 (.t 59) (.t 54)), .a 60 (.iA 1 (.t 49) (.t 50)), .n (.st 1 (.t 60) (.t 58))] [6, 44, 47, 48, 49, 50, 51, 52, 53, 54, 55, 56, 57, 58, 59, 60] [])
  (.seq (.seq (.reg [] [.a 61 (.mv (.t 5)), .a 62 (.bin .add (.t 61) (.c (.int .i64 1))), .a 63 (.mv (.t 4)), .a 64 (.ln (.t 63)), .a 65 (.bin .sub (.t 64) (.c (.int .i64 1))), .a 7 (.mv (.t 62)), .a 8 (.mv (.t 65))] [5, 61, 62, 63, 64, 65] [])
  (.block 4 (.loop [] [] orders_Next.b4)))
  (.seq (.reg [] [.a 87 (.mv (.t 4)), .a 2 (.mv (.t 87)), .a 3 (.mv (.c (.bool true)))] [4, 7, 8, 68, 87] [])
  .ret))))))))))⟩
def orders_Next.hint : R.Hint := { lit := [9], kill := [(0, [2, 3], []), (1, [0, 9, 10, 11], []), (2, [12, 13, 14], []), (3, [15, 16, 17, 18, 19, 20, 21, 22, 23, 24, 25, 26, 27], []), (4, [28, 29, 30], []), (5, [28, 31], []), (6, [4, 5, 32], []), (7, [32, 33, 34, 35], []), (8, [36, 37, 38, 39, 40, 41, 42, 43], []), (9, [44, 45, 46], []), (10, [6, 44, 47, 48, 49, 50, 51, 52, 53, 54, 55, 56, 57, 58, 59, 60], []), (11, [5, 61, 62, 63, 64, 65], []), (12, [66, 67], []), (13, [69, 70, 71, 72], []), (14, [68, 73, 74, 75, 76, 77, 78, 79, 80, 81, 82, 83, 84, 85, 86], []), (15, [4, 7, 8, 68, 87], [])] }
theorem orders_Next.ok : cFn Tryd.prog orders_Next.hint Tryd.f86 = some orders_Next := by kernel_rfl
def dendronlaw21_same.b0 : R.C := (.seq (.seq (.reg [] [.a 11 (.mv (.t 5)), .a 12 (.mv (.t 0)), .a 13 (.ln (.t 12)), .a 14 (.bin .lss (.t 11) (.t 13))] [11, 12, 13] [])
  (.cond (.t 14) .skip (.exit 0)))
  (.seq (.block 1 (.seq (.reg [] [.a 17 (.mv (.t 0)), .a 18 (.mv (.t 5)), .a 19 (.iA 1 (.t 17) (.t 18)), .a 20 (.ld 1 false (.t 19)), .a 21 (.mv (.t 1)), .a 22 (.mv (.t 5)), .a 23 (.iA 1 (.t 21) (.t 22)), .a 24 (.ld 1 false (.t 23)), .a 25 (.bin .neq (.t 20) (.t 24))] [14, 17, 18, 19, 20, 21, 22, 23, 24] [])
  (.cond (.t 25) (.seq (.reg [] [.a 4 (.mv (.c (.bool false)))] [0, 1, 5, 25] [])
  .ret) .skip)))
  (.reg [] [.a 15 (.mv (.t 5)), .a 16 (.bin .add (.t 15) (.c (.int .i64 1))), .a 5 (.mv (.t 16))] [15, 16, 25] [])))
def dendronlaw21_same : R.Fn := ⟨2, [(.t 4)], (.seq (.reg [] [.a 4 (.mv (.c (.bool false)))] [4] [])
  (.seq (.seq (.reg [] [.a 6 (.mv (.t 0)), .a 7 (.ln (.t 6)), .a 8 (.mv (.t 1)), .a 9 (.ln (.t 8)), .a 10 (.bin .neq (.t 7) (.t 9))] [6, 7, 8, 9] [])
  (.cond (.t 10) (.seq (.reg [] [.a 4 (.mv (.c (.bool false)))] [0, 1, 10] [])
  .ret) .skip))
  (.seq (.seq (.reg [] [.a 5 (.mv (.c (.int .i64 0)))] [10] [])
  (.block 0 (.loop [] [] dendronlaw21_same.b0)))
  (.seq (.reg [] [.a 4 (.mv (.c (.bool true)))] [0, 1, 5, 14] [])
  .ret))))⟩
def dendronlaw21_same.hint : R.Hint := { kill := [(0, [4], []), (1, [6, 7, 8, 9], []), (2, [0, 1, 10], []), (3, [10], []), (4, [11, 12, 13], []), (5, [15, 16, 25], []), (6, [14, 17, 18, 19, 20, 21, 22, 23, 24], []), (7, [0, 1, 5, 25], []), (8, [0, 1, 5, 14], [])] }
theorem dendronlaw21_same.ok : cFn Tryd.prog dendronlaw21_same.hint Tryd.f87 = some dendronlaw21_same := by kernel_rfl
def dendronref10_Is : R.Fn := ⟨2, [(.t 4)], (.seq (.reg [] [.a 2 (.box (.t 0)), .a 3 (.box (.t 1)), .a 4 (.mv (.c (.bool false)))] [0, 1, 4] [])
  (.seq (.reg [] [.a 5 (.ld 3 true (.t 2)), .a 6 (.ld 3 true (.t 3)), .a 7 (.call F.dendronref03_From [(.t 6)]), .a 8 (.call F.dendronref03_Is [(.t 5), (.t 7)]), .a 4 (.mv (.t 8))] [2, 3, 5, 6, 7, 8] [2, 3])
  .ret))⟩
def dendronref10_Is.hint : R.Hint := { kill := [(0, [0, 1, 4], []), (1, [2, 3, 5, 6, 7, 8], [2, 3])] }
theorem dendronref10_Is.ok : cFn Tryd.prog dendronref10_Is.hint Tryd.f88 = some dendronref10_Is := by kernel_rfl
def dendronlaw21_two.b0 : R.C := (.seq (.seq (.reg [] [.a 5 (.mv (.t 4)), .a 6 (.mv (.t 0)), .a 7 (.bin .lss (.t 5) (.t 6))] [5, 6] [])
  (.cond (.t 7) .skip (.exit 0)))
  (.seq (.block 1 (.reg [] [.a 10 (.mv (.t 3)), .a 11 (.bin .mul (.c (.int .i64 2)) (.t 10)), .a 3 (.mv (.t 11))] [7, 10, 11] []))
  (.reg [] [.a 8 (.mv (.t 4)), .a 9 (.bin .add (.t 8) (.c (.int .i64 1))), .a 4 (.mv (.t 9))] [8, 9] [])))
def dendronlaw21_two : R.Fn := ⟨1, [(.t 2)], (.seq (.reg [] [.a 2 (.mv (.c (.int .i64 0)))] [2] [])
  (.seq (.reg [] [.a 3 (.mv (.c (.int .i64 1)))] [] [])
  (.seq (.seq (.reg [] [.a 4 (.mv (.c (.int .i64 0)))] [] [])
  (.block 0 (.loop [] [] dendronlaw21_two.b0)))
  (.seq (.reg [] [.a 12 (.mv (.t 3)), .a 2 (.mv (.t 12))] [0, 3, 4, 7, 12] [])
  .ret))))⟩
def dendronlaw21_two.hint : R.Hint := { kill := [(0, [2], []), (3, [5, 6], []), (4, [8, 9], []), (5, [7, 10, 11], []), (6, [0, 3, 4, 7, 12], [])] }
theorem dendronlaw21_two.ok : cFn Tryd.prog dendronlaw21_two.hint Tryd.f89 = some dendronlaw21_two := by kernel_rfl
def ratio_Make : R.Fn := ⟨2, [(.cell 4 3 true), (.t 5)], (.seq (.reg [] [.a 2 (.box (.t 0)), .a 3 (.box (.t 1)), .a 4 (.new [(.bool false), (.sl 1 []), (.sl 1 [])]), .a 5 (.mv (.c (.int .i64 0)))] [0, 1, 5] [])
  (.seq (.reg [] [.a 6 (.ld 2 true (.t 2)), .a 7 (.call F.whole_Clean [(.t 6)]), .a 8 (.ld 2 true (.t 3)), .a 9 (.call F.whole_Clean [(.t 8)]), .n (.st 2 (.t 2) (.t 7)), .n (.st 2 (.t 3) (.t 9))] [6, 7, 8, 9] [])
  (.seq (.seq (.reg [] [.a 10 (.ld 2 true (.t 3)), .a 11 (.call F.whole_Sign [(.t 10)]), .a 12 (.bin .eql (.t 11) (.c (.int .i64 0)))] [10, 11] [])
  (.cond (.t 12) (.seq (.reg [] [.a 13 (.bld [(.bool false), (.sl 1 []), (.sl 1 [])] []), .n (.st 3 (.t 4) (.t 13)), .a 5 (.mv (.c (.int .i64 2)))] [2, 3, 12, 13] [2, 3])
  .ret) .skip))
  (.seq (.seq (.reg [] [.a 14 (.fA 0 (.t 3)), .a 15 (.ld 1 false (.t 14))] [12, 14] [])
  (.cond (.t 15) (.reg [] [.a 16 (.ld 2 true (.t 2)), .a 17 (.call F.whole_Neg [(.t 16)]), .n (.st 2 (.t 2) (.t 17))] [15, 16, 17] []) .skip))
  (.seq (.reg [] [.a 18 (.ld 2 true (.t 2)), .a 19 (.fA 1 (.t 3)), .a 20 (.ld 1 false (.t 19)), .a 21 (.call F.ratio_form [(.t 18), (.t 20)]), .n (.st 3 (.t 4) (.t 21)), .a 5 (.mv (.c (.int .i64 0)))] [2, 3, 15, 18, 19, 20, 21] [2, 3])
  .ret)))))⟩
def ratio_Make.hint : R.Hint := { kill := [(0, [0, 1, 5], []), (1, [6, 7, 8, 9], []), (2, [10, 11], []), (3, [2, 3, 12, 13], [2, 3]), (4, [12, 14], []), (5, [15, 16, 17], []), (6, [2, 3, 15, 18, 19, 20, 21], [2, 3])] }
theorem ratio_Make.ok : cFn Tryd.prog ratio_Make.hint Tryd.f90 = some ratio_Make := by kernel_rfl
def whole_sign : R.Fn := ⟨2, [(.cell 4 2 true)], (.seq (.reg [] [.a 4 (.new [(.bool false), (.sl 1 [])])] [] [])
  (.seq (.reg [] [.a 5 (.mv (.t 0)), .a 6 (.mv (.t 5)), .g 7 6 true (.mv (.t 1)), .g 8 6 true (.ln (.t 7)), .g 9 6 true (.bin .gtr (.t 8) (.c (.int .i64 0))), .a 10 (.pick (.t 6) (.t 9) (.c (.bool false))), .a 11 (.mv (.t 1)), .a 12 (.bld [(.bool false), (.sl 1 [])] [(0, 1, (.t 10)), (1, 1, (.t 11))]), .n (.st 2 (.t 4) (.t 12))] [0, 1, 5, 6, 7, 8, 9, 10, 11, 12] [])
  .ret))⟩
def whole_sign.hint : R.Hint := { kill := [(1, [0, 1, 5, 6, 7, 8, 9, 10, 11, 12], [])] }
theorem whole_sign.ok : cFn Tryd.prog whole_sign.hint Tryd.f91 = some whole_sign := by kernel_rfl
def nat_Clean.b0 : R.C := (.seq (.reg [] [.a 12 (.bin .lss (.t 11) (.t 10))] [] [])
  (.seq (.cond (.t 12) .skip (.exit 0))
  (.seq (.block 1 (.seq (.reg [] [.a 13 (.mv (.t 11)), .a 14 (.iA 1 (.t 9) (.t 11)), .a 15 (.ld 1 false (.t 14)), .a 4 (.mv (.t 13)), .a 5 (.mv (.t 15))] [12, 13, 14, 15] [])
  (.reg [] [.a 16 (.mv (.t 3)), .a 17 (.mv (.t 4)), .a 18 (.mv (.t 5)), .a 19 (.bin .and (.t 18) (.c (.int .u64 4294967295))), .a 20 (.iA 1 (.t 16) (.t 17)), .n (.st 1 (.t 20) (.t 19))] [4, 5, 16, 17, 18, 19, 20] [])))
  (.reg [] [.a 21 (.bin .add (.t 11) (.c (.int .i64 1))), .a 11 (.mv (.t 21))] [21] []))))
def nat_Clean : R.Fn := ⟨1, [(.t 2)], (.seq (.reg [] [.a 2 (.mv (.c (.sl 1 [])))] [2] [])
  (.seq (.reg [] [.a 6 (.mv (.t 0)), .a 7 (.ln (.t 6)), .a 8 (.mk 1 8 [(.int .u64 0)] (.t 7) (.t 7)), .a 3 (.mv (.t 8))] [6, 7, 8] [])
  (.seq (.seq (.reg [] [.a 9 (.mv (.t 0)), .a 10 (.ln (.t 9)), .a 11 (.mv (.c (.int .i64 0)))] [0] [])
  (.block 0 (.loop [] [] nat_Clean.b0)))
  (.seq (.reg [3] [.a 22 (.mv (.t 3)), .a 23 (.call F.nat_trim [(.t 22)]), .a 2 (.mv (.t 23))] [3, 9, 10, 11, 12, 22, 23] [8])
  .ret))))⟩
def nat_Clean.hint : R.Hint := { pub := [(7, [3])], kill := [(0, [2], []), (1, [6, 7, 8], []), (2, [0], []), (4, [12, 13, 14, 15], []), (5, [4, 5, 16, 17, 18, 19, 20], []), (6, [21], []), (7, [3, 9, 10, 11, 12, 22, 23], [8])] }
theorem nat_Clean.ok : cFn Tryd.prog nat_Clean.hint Tryd.f92 = some nat_Clean := by kernel_rfl
def weigh_products.b0 : R.C := (.seq (.reg [] [.a 8 (.bin .lss (.t 7) (.c (.int .i64 64)))] [] [])
  (.seq (.cond (.t 8) .skip (.exit 0))
  (.seq (.block 1 (.seq (.reg [] [.a 9 (.mv (.t 7)), .a 3 (.mv (.t 9))] [8, 9] [])
  (.seq (.reg [4294967297] [.a 10 (.ld 2 true (.t 1)), .a 11 (.mv (.t 3)), .a 12 (.bin .add (.t 11) (.c (.int .i64 1))), .a 13 (.call F.whole_Of [(.t 12)]), .a 14 (.call F.whole_Mul [(.t 10), (.t 13)]), .n (.st 2 (.t 1) (.t 14))] [3, 10, 11, 12, 13, 14] [])
  (.reg [] [.a 15 (.mv (.t 2)), .a 16 (.ld 2 true (.t 1)), .a 17 (.lit 2 1 [(.bool false), (.sl 1 [])] [(0, 2, (.t 16))]), .a 18 (.app 2 32 (.t 15) (.t 17)), .a 2 (.mv (.t 18))] [15, 16, 17, 18] []))))
  (.reg [] [.a 19 (.bin .add (.t 7) (.c (.int .i64 1))), .a 7 (.mv (.t 19))] [19] []))))
def weigh_products : R.Fn := ⟨0, [(.t 0)], (.seq (.reg [] [.a 0 (.mv (.c (.sl 2 [])))] [0] [])
  (.seq (.reg [] [.a 4 (.call F.whole_Of [(.c (.int .i64 1))]), .a 1 (.new [(.bool false), (.sl 1 [])]), .n (.st 2 (.t 1) (.t 4))] [4] [])
  (.seq (.reg [] [.a 5 (.ld 2 true (.t 1)), .a 6 (.lito 2 1 [(.bool false), (.sl 1 [])] [(0, 2, (.t 5))]), .a 2 (.mv (.t 6))] [5, 6] [])
  (.seq (.seq (.reg [] [.a 7 (.mv (.c (.int .i64 0)))] [] [])
  (.block 0 (.loop [] [] weigh_products.b0)))
  (.seq (.reg [] [.a 20 (.mv (.t 2)), .a 0 (.mv (.t 20))] [1, 2, 7, 8, 20] [1])
  .ret)))))⟩
def weigh_products.hint : R.Hint := { lit := [6], pub := [(6, [4294967297])], kill := [(0, [0], []), (1, [4], []), (2, [5, 6], []), (5, [8, 9], []), (6, [3, 10, 11, 12, 13, 14], []), (7, [15, 16, 17, 18], []), (8, [19], []), (9, [1, 2, 7, 8, 20], [1])] }
theorem weigh_products.ok : cFn Tryd.prog weigh_products.hint Tryd.f95 = some weigh_products := by kernel_rfl
def whole_Cmp : R.Fn := ⟨2, [(.t 4)], (.seq (.reg [] [.a 2 (.box (.t 0)), .a 3 (.box (.t 1)), .a 4 (.mv (.c (.int .i64 0)))] [0, 1, 4] [])
  (.seq (.reg [] [.a 5 (.ld 2 true (.t 2)), .a 6 (.call F.whole_Clean [(.t 5)]), .a 7 (.ld 2 true (.t 3)), .a 8 (.call F.whole_Clean [(.t 7)]), .n (.st 2 (.t 2) (.t 6)), .n (.st 2 (.t 3) (.t 8))] [5, 6, 7, 8] [])
  (.seq (.block 0 (.seq (.reg [] [.a 10 (.fA 0 (.t 2)), .a 11 (.ld 1 false (.t 10)), .a 12 (.fA 0 (.t 3)), .a 13 (.ld 1 false (.t 12)), .a 14 (.beq true (.t 11) (.t 13)), .a 15 (.mv (.t 14)), .g 16 15 true (.fA 0 (.t 2)), .g 17 15 true (.ld 1 false (.t 16)), .a 18 (.pick (.t 15) (.t 17) (.c (.bool false))), .a 9 (.mv (.t 18))] [10, 11, 12, 13, 14, 15, 16, 17, 18] [])
  (.cond (.t 9) (.seq (.reg [] [.a 4 (.mv (.c (.int .i64 (-1))))] [2, 3, 9] [2, 3])
  .ret) (.seq (.reg [] [.a 20 (.fA 0 (.t 2)), .a 21 (.ld 1 false (.t 20)), .a 22 (.fA 0 (.t 3)), .a 23 (.ld 1 false (.t 22)), .a 24 (.beq true (.t 21) (.t 23)), .a 19 (.mv (.t 24))] [9, 20, 21, 22, 23, 24] [])
  (.cond (.t 19) (.seq (.reg [] [.a 4 (.mv (.c (.int .i64 1)))] [2, 3, 19] [2, 3])
  .ret) (.seq (.reg [] [.a 26 (.fA 0 (.t 2)), .a 27 (.ld 1 false (.t 26)), .a 25 (.mv (.t 27))] [19, 26, 27] [])
  (.cond (.t 25) (.seq (.reg [] [.a 28 (.fA 1 (.t 3)), .a 29 (.ld 1 false (.t 28)), .a 30 (.fA 1 (.t 2)), .a 31 (.ld 1 false (.t 30)), .a 32 (.call F.nat_Cmp [(.t 29), (.t 31)]), .a 4 (.mv (.t 32))] [2, 3, 25, 28, 29, 30, 31, 32] [2, 3])
  .ret) .skip)))))))
  (.seq (.reg [] [.a 33 (.fA 1 (.t 2)), .a 34 (.ld 1 false (.t 33)), .a 35 (.fA 1 (.t 3)), .a 36 (.ld 1 false (.t 35)), .a 37 (.call F.nat_Cmp [(.t 34), (.t 36)]), .a 4 (.mv (.t 37))] [2, 3, 25, 33, 34, 35, 36, 37] [2, 3])
  .ret))))⟩
def whole_Cmp.hint : R.Hint := { kill := [(0, [0, 1, 4], []), (1, [5, 6, 7, 8], []), (2, [10, 11, 12, 13, 14, 15, 16, 17, 18], []), (3, [2, 3, 9], [2, 3]), (4, [9, 20, 21, 22, 23, 24], []), (5, [2, 3, 19], [2, 3]), (6, [19, 26, 27], []), (7, [2, 3, 25, 28, 29, 30, 31, 32], [2, 3]), (8, [2, 3, 25, 33, 34, 35, 36, 37], [2, 3])] }
theorem whole_Cmp.ok : cFn Tryd.prog whole_Cmp.hint Tryd.f96 = some whole_Cmp := by kernel_rfl
def nat_trim.b0 : R.C := (.seq (.seq (.reg [] [.a 6 (.mv (.t 3)), .a 7 (.bin .gtr (.t 6) (.c (.int .i64 0))), .a 8 (.mv (.t 7)), .g 9 8 true (.mv (.t 0)), .g 10 8 true (.mv (.t 3)), .g 11 8 true (.bin .sub (.t 10) (.c (.int .i64 1))), .g 12 8 true (.iA 1 (.t 9) (.t 11)), .g 13 8 true (.ld 1 false (.t 12)), .g 14 8 true (.bin .eql (.t 13) (.c (.int .u64 0))), .a 15 (.pick (.t 8) (.t 14) (.c (.bool false)))] [6, 7, 8, 9, 10, 11, 12, 13, 14] [])
  (.cond (.t 15) .skip (.exit 0)))
  (.block 1 (.reg [] [.a 16 (.mv (.t 3)), .a 17 (.bin .sub (.t 16) (.c (.int .i64 1))), .a 3 (.mv (.t 17))] [15, 16, 17] [])))
def nat_trim : R.Fn := ⟨1, [(.own 2)], (.seq (.reg [] [.a 2 (.mv (.c (.sl 1 [])))] [2] [])
  (.seq (.reg [] [.a 4 (.mv (.t 0)), .a 5 (.ln (.t 4)), .a 3 (.mv (.t 5))] [4, 5] [])
  (.seq (.block 0 (.loop [] [] nat_trim.b0))
  (.seq (.seq (.reg [] [.a 18 (.mv (.t 3)), .a 19 (.bin .eql (.t 18) (.c (.int .i64 0)))] [15, 18] [])
  (.cond (.t 19) (.seq (.reg [] [.a 2 (.mv (.c (.sl 1 [])))] [0, 3, 19] [])
  .ret) .skip))
  (.seq (.reg [] [.a 20 (.mv (.t 0)), .a 21 (.mv (.t 3)), .a 22 (.slc 1 (.t 20) none (some (.t 21))), .a 2 (.mv (.t 22))] [0, 3, 19, 20, 21, 22] [])
  .ret)))))⟩
def nat_trim.hint : R.Hint := { kill := [(0, [2], []), (1, [4, 5], []), (2, [6, 7, 8, 9, 10, 11, 12, 13, 14], []), (3, [15, 16, 17], []), (4, [15, 18], []), (5, [0, 3, 19], []), (6, [0, 3, 19, 20, 21, 22], [])], own := true }
theorem nat_trim.ok : cFn Tryd.prog nat_trim.hint Tryd.f97 = some nat_trim := by kernel_rfl
def ratio_Inv : R.Fn := ⟨1, [(.cell 2 3 true), (.t 3)], (.seq (.reg [] [.a 1 (.box (.t 0)), .a 2 (.new [(.bool false), (.sl 1 []), (.sl 1 [])]), .a 3 (.mv (.c (.int .i64 0)))] [0, 3] [])
  (.seq (.reg [] [.a 4 (.ld 3 true (.t 1)), .a 5 (.call F.ratio_Clean [(.t 4)]), .n (.st 3 (.t 1) (.t 5))] [4, 5] [])
  (.seq (.reg [] [.a 6 (.ld 3 true (.t 1)), .a 7 (.call F.ratio_den [(.t 6)]), .a 8 (.fA 0 (.t 1)), .a 9 (.ld 2 true (.t 8)), .a 10 (.call F.ratio_Make [(.t 7), (.t 9)]), .a 11 (.ext (.t 10) 0), .a 12 (.ext (.t 10) 1), .n (.st 3 (.t 2) (.t 11)), .a 3 (.mv (.t 12))] [1, 6, 7, 8, 9, 10, 11, 12] [1])
  .ret)))⟩
def ratio_Inv.hint : R.Hint := { kill := [(0, [0, 3], []), (1, [4, 5], []), (2, [1, 6, 7, 8, 9, 10, 11, 12], [1])] }
theorem ratio_Inv.ok : cFn Tryd.prog ratio_Inv.hint Tryd.f98 = some ratio_Inv := by kernel_rfl
def nat_DivMod : R.Fn := ⟨2, [(.t 4), (.t 5), (.t 6)], (.seq (.reg [] [.a 4 (.mv (.c (.sl 1 []))), .a 5 (.mv (.c (.sl 1 []))), .a 6 (.mv (.c (.int .i64 0)))] [4, 5, 6] [])
  (.seq (.reg [] [.a 11 (.mv (.t 0)), .a 12 (.call F.nat_Clean [(.t 11)]), .a 13 (.mv (.t 1)), .a 14 (.call F.nat_Clean [(.t 13)]), .a 0 (.mv (.t 12)), .a 1 (.mv (.t 14))] [11, 12, 13, 14] [])
  (.seq (.block 0 (.seq (.reg [] [.a 16 (.mv (.t 1)), .a 17 (.ln (.t 16)), .a 18 (.bin .eql (.t 17) (.c (.int .i64 0))), .a 15 (.mv (.t 18))] [16, 17, 18] [])
  (.cond (.t 15) (.seq (.reg [] [.a 4 (.mv (.c (.sl 1 []))), .a 5 (.mv (.c (.sl 1 []))), .a 6 (.mv (.c (.int .i64 2)))] [0, 1, 15] [])
  .ret) (.seq (.reg [] [.a 20 (.mv (.t 0)), .a 21 (.mv (.t 1)), .a 22 (.call F.nat_order [(.t 20), (.t 21)]), .a 23 (.bin .lss (.t 22) (.c (.int .i64 0))), .a 19 (.mv (.t 23))] [15, 20, 21, 22, 23] [])
  (.cond (.t 19) (.seq (.reg [] [.a 24 (.mv (.t 0)), .a 4 (.mv (.c (.sl 1 []))), .a 5 (.mv (.t 24)), .a 6 (.mv (.c (.int .i64 0)))] [0, 1, 19, 24] [])
  .ret) (.seq (.reg [] [.a 26 (.mv (.t 1)), .a 27 (.ln (.t 26)), .a 28 (.bin .eql (.t 27) (.c (.int .i64 1))), .a 25 (.mv (.t 28))] [19, 26, 27, 28] [])
  (.cond (.t 25) (.seq (.reg [] [.a 30 (.mv (.t 0)), .a 31 (.mv (.t 1)), .a 32 (.iA 1 (.t 31) (.c (.int .i64 0))), .a 33 (.ld 1 false (.t 32)), .a 34 (.call F.nat_small [(.t 30), (.t 33)]), .a 29 (.mv (.t 34)), .a 35 (.ext (.t 29) 0), .a 36 (.ext (.t 29) 1), .a 7 (.mv (.t 35)), .a 8 (.mv (.t 36))] [0, 1, 25, 29, 30, 31, 32, 33, 34, 35, 36] [])
  (.seq (.reg [] [.a 37 (.mv (.t 7)), .a 38 (.mv (.t 8)), .a 39 (.call F.nat_Of [(.t 38)]), .a 4 (.mv (.t 37)), .a 5 (.mv (.t 39)), .a 6 (.mv (.c (.int .i64 0)))] [7, 8, 37, 38, 39] [])
  .ret)) .skip)))))))
  (.seq (.reg [] [.a 41 (.mv (.t 0)), .a 42 (.mv (.t 1)), .a 43 (.call F.nat_long [(.t 41), (.t 42)]), .a 40 (.mv (.t 43)), .a 44 (.ext (.t 40) 0), .a 45 (.ext (.t 40) 1), .a 9 (.mv (.t 44)), .a 10 (.mv (.t 45))] [0, 1, 25, 40, 41, 42, 43, 44, 45] [])
  (.seq (.reg [] [.a 46 (.mv (.t 9)), .a 47 (.mv (.t 10)), .a 4 (.mv (.t 46)), .a 5 (.mv (.t 47)), .a 6 (.mv (.c (.int .i64 0)))] [9, 10, 46, 47] [])
  .ret)))))⟩
def nat_DivMod.hint : R.Hint := { kill := [(0, [4, 5, 6], []), (1, [11, 12, 13, 14], []), (2, [16, 17, 18], []), (3, [0, 1, 15], []), (4, [15, 20, 21, 22, 23], []), (5, [0, 1, 19, 24], []), (6, [19, 26, 27, 28], []), (7, [0, 1, 25, 29, 30, 31, 32, 33, 34, 35, 36], []), (8, [7, 8, 37, 38, 39], []), (9, [0, 1, 25, 40, 41, 42, 43, 44, 45], []), (10, [9, 10, 46, 47], [])] }
theorem nat_DivMod.ok : cFn Tryd.prog nat_DivMod.hint Tryd.f99 = some nat_DivMod := by kernel_rfl
def nat_Add.b0 : R.C := (.seq (.reg [] [.a 22 (.bin .lss (.t 21) (.t 20))] [] [])
  (.seq (.cond (.t 22) .skip (.exit 0))
  (.seq (.block 1 (.seq (.reg [] [.a 23 (.mv (.t 21)), .a 7 (.mv (.t 23))] [22, 23] [])
  (.seq (.reg [] [.a 24 (.mv (.t 6)), .a 25 (.mv (.t 0)), .a 26 (.mv (.t 7)), .a 27 (.call F.nat_limb [(.t 25), (.t 26)]), .a 28 (.mv (.t 1)), .a 29 (.mv (.t 7)), .a 30 (.call F.nat_limb [(.t 28), (.t 29)]), .a 31 (.bin .add (.t 27) (.t 30)), .a 32 (.bin .add (.t 24) (.t 31)), .a 6 (.mv (.t 32))] [24, 25, 26, 27, 28, 29, 30, 31, 32] [])
  (.seq (.reg [] [.a 33 (.mv (.t 5)), .a 34 (.mv (.t 7)), .a 35 (.mv (.t 6)), .a 36 (.bin .and (.t 35) (.c (.int .u64 4294967295))), .a 37 (.iA 1 (.t 33) (.t 34)), .n (.st 1 (.t 37) (.t 36))] [7, 33, 34, 35, 36, 37] [])
  (.reg [] [.a 38 (.mv (.t 6)), .a 39 (.bin .shr (.t 38) (.c (.int .u64 32))), .a 6 (.mv (.t 39))] [38, 39] [])))))
  (.reg [] [.a 40 (.bin .add (.t 21) (.c (.int .i64 1))), .a 21 (.mv (.t 40))] [40] []))))
def nat_Add : R.Fn := ⟨2, [(.t 4)], (.seq (.reg [] [.a 4 (.mv (.c (.sl 1 [])))] [4] [])
  (.seq (.reg [] [.a 8 (.mv (.t 0)), .a 9 (.call F.nat_Clean [(.t 8)]), .a 10 (.mv (.t 1)), .a 11 (.call F.nat_Clean [(.t 10)]), .a 0 (.mv (.t 9)), .a 1 (.mv (.t 11))] [8, 9, 10, 11] [])
  (.seq (.reg [] [.a 12 (.mv (.t 0)), .a 13 (.ln (.t 12)), .a 14 (.mv (.t 1)), .a 15 (.ln (.t 14)), .a 16 (.mx (.t 13) (.t 15)), .a 17 (.bin .add (.t 16) (.c (.int .i64 1))), .a 18 (.mk 1 8 [(.int .u64 0)] (.t 17) (.t 17)), .a 5 (.mv (.t 18))] [12, 13, 14, 15, 16, 17, 18] [])
  (.seq (.reg [] [.a 6 (.mv (.c (.int .u64 0)))] [] [])
  (.seq (.seq (.reg [] [.a 19 (.mv (.t 5)), .a 20 (.ln (.t 19)), .a 21 (.mv (.c (.int .i64 0)))] [19] [])
  (.block 0 (.loop [] [] nat_Add.b0)))
  (.seq (.reg [5] [.a 41 (.mv (.t 5)), .a 42 (.call F.nat_trim [(.t 41)]), .a 4 (.mv (.t 42))] [0, 1, 5, 6, 20, 21, 22, 41, 42] [18])
  .ret))))))⟩
def nat_Add.hint : R.Hint := { pub := [(11, [5])], kill := [(0, [4], []), (1, [8, 9, 10, 11], []), (2, [12, 13, 14, 15, 16, 17, 18], []), (4, [19], []), (6, [22, 23], []), (7, [24, 25, 26, 27, 28, 29, 30, 31, 32], []), (8, [7, 33, 34, 35, 36, 37], []), (9, [38, 39], []), (10, [40], []), (11, [0, 1, 5, 6, 20, 21, 22, 41, 42], [18])] }
theorem nat_Add.ok : cFn Tryd.prog nat_Add.hint Tryd.f100 = some nat_Add := by kernel_rfl
def nat_Sub : R.Fn := ⟨2, [(.t 4), (.t 5)], (.seq (.reg [] [.a 4 (.mv (.c (.sl 1 []))), .a 5 (.mv (.c (.int .i64 0)))] [4, 5] [])
  (.seq (.reg [] [.a 6 (.mv (.t 0)), .a 7 (.call F.nat_Clean [(.t 6)]), .a 8 (.mv (.t 1)), .a 9 (.call F.nat_Clean [(.t 8)]), .a 0 (.mv (.t 7)), .a 1 (.mv (.t 9))] [6, 7, 8, 9] [])
  (.seq (.seq (.reg [] [.a 10 (.mv (.t 0)), .a 11 (.mv (.t 1)), .a 12 (.call F.nat_order [(.t 10), (.t 11)]), .a 13 (.bin .lss (.t 12) (.c (.int .i64 0)))] [10, 11, 12] [])
  (.cond (.t 13) (.seq (.reg [] [.a 4 (.mv (.c (.sl 1 []))), .a 5 (.mv (.c (.int .i64 3)))] [0, 1, 13] [])
  .ret) .skip))
  (.seq (.reg [] [.a 14 (.mv (.t 0)), .a 15 (.mv (.t 1)), .a 16 (.call F.nat_minus [(.t 14), (.t 15)]), .a 4 (.mv (.t 16)), .a 5 (.mv (.c (.int .i64 0)))] [0, 1, 13, 14, 15, 16] [])
  .ret))))⟩
def nat_Sub.hint : R.Hint := { kill := [(0, [4, 5], []), (1, [6, 7, 8, 9], []), (2, [10, 11, 12], []), (3, [0, 1, 13], []), (4, [0, 1, 13, 14, 15, 16], [])] }
theorem nat_Sub.ok : cFn Tryd.prog nat_Sub.hint Tryd.f101 = some nat_Sub := by kernel_rfl
def bits_Len : R.Fn := ⟨1, [(.t 2)], (.seq (.reg [] [.a 2 (.mv (.c (.int .i64 0)))] [2] [])
  (.seq (.cond (.c (.bool false)) (.seq (.reg [] [.a 3 (.mv (.t 0)), .a 4 (.conv .u32 (.t 3)), .a 5 (.call F.bits_Len32 [(.t 4)]), .a 2 (.mv (.t 5))] [0, 3, 4, 5] [])
  .ret) .skip)
  (.seq (.reg [] [.a 6 (.mv (.t 0)), .a 7 (.call F.bits_Len64 [(.t 6)]), .a 2 (.mv (.t 7))] [0, 6, 7] [])
  .ret)))⟩
def bits_Len.hint : R.Hint := { kill := [(0, [2], []), (1, [0, 3, 4, 5], []), (2, [0, 6, 7], [])] }
theorem bits_Len.ok : cFn Tryd.prog bits_Len.hint Tryd.f102 = some bits_Len := by kernel_rfl
def bits_OnesCount32 : R.Fn := ⟨1, [(.t 2)], (.seq (.reg [] [.a 2 (.mv (.c (.int .i64 0)))] [2] [])
  (.seq (.reg [] [.a 3 (.mv (.t 0)), .a 4 (.bin .shr (.t 3) (.c (.int .u64 24))), .a 5 (.sI (.c (.str ⟨#[0, 1, 1, 2, 1, 2, 2, 3, 1, 2, 2, 3, 2, 3, 3, 4, 1, 2, 2, 3, 2, 3, 3, 4, 2, 3, 3, 4, 3, 4, 4, 5, 1, 2, 2, 3, 2, 3, 3, 4, 2, 3, 3, 4, 3, 4, 4, 5, 2, 3, 3, 4, 3, 4, 4, 5, 3, 4, 4, 5, 4, 5, 5, 6, 1, 2, 2, 3, 2, 3, 3, 4, 2, 3, 3, 4, 3, 4, 4, 5, 2, 3, 3, 4, 3, 4, 4, 5, 3, 4, 4, 5, 4, 5, 5, 6, 2, 3, 3, 4, 3, 4, 4, 5, 3, 4, 4, 5, 4, 5, 5, 6, 3, 4, 4, 5, 4, 5, 5, 6, 4, 5, 5, 6, 5, 6, 6, 7, 1, 2, 2, 3, 2, 3, 3, 4, 2, 3, 3, 4, 3, 4, 4, 5, 2, 3, 3, 4, 3, 4, 4, 5, 3, 4, 4, 5, 4, 5, 5, 6, 2, 3, 3, 4, 3, 4, 4, 5, 3, 4, 4, 5, 4, 5, 5, 6, 3, 4, 4, 5, 4, 5, 5, 6, 4, 5, 5, 6, 5, 6, 6, 7, 2, 3, 3, 4, 3, 4, 4, 5, 3, 4, 4, 5, 4, 5, 5, 6, 3, 4, 4, 5, 4, 5, 5, 6, 4, 5, 5, 6, 5, 6, 6, 7, 3, 4, 4, 5, 4, 5, 5, 6, 4, 5, 5, 6, 5, 6, 6, 7, 4, 5, 5, 6, 5, 6, 6, 7, 5, 6, 6, 7, 6, 7, 7, 8]⟩)) (.t 4)), .a 6 (.mv (.t 0)), .a 7 (.bin .shr (.t 6) (.c (.int .u64 16))), .a 8 (.bin .and (.t 7) (.c (.int .u32 255))), .a 9 (.sI (.c (.str ⟨#[0, 1, 1, 2, 1, 2, 2, 3, 1, 2, 2, 3, 2, 3, 3, 4, 1, 2, 2, 3, 2, 3, 3, 4, 2, 3, 3, 4, 3, 4, 4, 5, 1, 2, 2, 3, 2, 3, 3, 4, 2, 3, 3, 4, 3, 4, 4, 5, 2, 3, 3, 4, 3, 4, 4, 5, 3, 4, 4, 5, 4, 5, 5, 6, 1, 2, 2, 3, 2, 3, 3, 4, 2, 3, 3, 4, 3, 4, 4, 5, 2, 3, 3, 4, 3, 4, 4, 5, 3, 4, 4, 5, 4, 5, 5, 6, 2, 3, 3, 4, 3, 4, 4, 5, 3, 4, 4, 5, 4, 5, 5, 6, 3, 4, 4, 5, 4, 5, 5, 6, 4, 5, 5, 6, 5, 6, 6, 7, 1, 2, 2, 3, 2, 3, 3, 4, 2, 3, 3, 4, 3, 4, 4, 5, 2, 3, 3, 4, 3, 4, 4, 5, 3, 4, 4, 5, 4, 5, 5, 6, 2, 3, 3, 4, 3, 4, 4, 5, 3, 4, 4, 5, 4, 5, 5, 6, 3, 4, 4, 5, 4, 5, 5, 6, 4, 5, 5, 6, 5, 6, 6, 7, 2, 3, 3, 4, 3, 4, 4, 5, 3, 4, 4, 5, 4, 5, 5, 6, 3, 4, 4, 5, 4, 5, 5, 6, 4, 5, 5, 6, 5, 6, 6, 7, 3, 4, 4, 5, 4, 5, 5, 6, 4, 5, 5, 6, 5, 6, 6, 7, 4, 5, 5, 6, 5, 6, 6, 7, 5, 6, 6, 7, 6, 7, 7, 8]⟩)) (.t 8)), .a 10 (.bin .add (.t 5) (.t 9)), .a 11 (.mv (.t 0)), .a 12 (.bin .shr (.t 11) (.c (.int .u64 8))), .a 13 (.bin .and (.t 12) (.c (.int .u32 255))), .a 14 (.sI (.c (.str ⟨#[0, 1, 1, 2, 1, 2, 2, 3, 1, 2, 2, 3, 2, 3, 3, 4, 1, 2, 2, 3, 2, 3, 3, 4, 2, 3, 3, 4, 3, 4, 4, 5, 1, 2, 2, 3, 2, 3, 3, 4, 2, 3, 3, 4, 3, 4, 4, 5, 2, 3, 3, 4, 3, 4, 4, 5, 3, 4, 4, 5, 4, 5, 5, 6, 1, 2, 2, 3, 2, 3, 3, 4, 2, 3, 3, 4, 3, 4, 4, 5, 2, 3, 3, 4, 3, 4, 4, 5, 3, 4, 4, 5, 4, 5, 5, 6, 2, 3, 3, 4, 3, 4, 4, 5, 3, 4, 4, 5, 4, 5, 5, 6, 3, 4, 4, 5, 4, 5, 5, 6, 4, 5, 5, 6, 5, 6, 6, 7, 1, 2, 2, 3, 2, 3, 3, 4, 2, 3, 3, 4, 3, 4, 4, 5, 2, 3, 3, 4, 3, 4, 4, 5, 3, 4, 4, 5, 4, 5, 5, 6, 2, 3, 3, 4, 3, 4, 4, 5, 3, 4, 4, 5, 4, 5, 5, 6, 3, 4, 4, 5, 4, 5, 5, 6, 4, 5, 5, 6, 5, 6, 6, 7, 2, 3, 3, 4, 3, 4, 4, 5, 3, 4, 4, 5, 4, 5, 5, 6, 3, 4, 4, 5, 4, 5, 5, 6, 4, 5, 5, 6, 5, 6, 6, 7, 3, 4, 4, 5, 4, 5, 5, 6, 4, 5, 5, 6, 5, 6, 6, 7, 4, 5, 5, 6, 5, 6, 6, 7, 5, 6, 6, 7, 6, 7, 7, 8]⟩)) (.t 13)), .a 15 (.bin .add (.t 10) (.t 14)), .a 16 (.mv (.t 0)), .a 17 (.bin .and (.t 16) (.c (.int .u32 255))), .a 18 (.sI (.c (.str ⟨#[0, 1, 1, 2, 1, 2, 2, 3, 1, 2, 2, 3, 2, 3, 3, 4, 1, 2, 2, 3, 2, 3, 3, 4, 2, 3, 3, 4, 3, 4, 4, 5, 1, 2, 2, 3, 2, 3, 3, 4, 2, 3, 3, 4, 3, 4, 4, 5, 2, 3, 3, 4, 3, 4, 4, 5, 3, 4, 4, 5, 4, 5, 5, 6, 1, 2, 2, 3, 2, 3, 3, 4, 2, 3, 3, 4, 3, 4, 4, 5, 2, 3, 3, 4, 3, 4, 4, 5, 3, 4, 4, 5, 4, 5, 5, 6, 2, 3, 3, 4, 3, 4, 4, 5, 3, 4, 4, 5, 4, 5, 5, 6, 3, 4, 4, 5, 4, 5, 5, 6, 4, 5, 5, 6, 5, 6, 6, 7, 1, 2, 2, 3, 2, 3, 3, 4, 2, 3, 3, 4, 3, 4, 4, 5, 2, 3, 3, 4, 3, 4, 4, 5, 3, 4, 4, 5, 4, 5, 5, 6, 2, 3, 3, 4, 3, 4, 4, 5, 3, 4, 4, 5, 4, 5, 5, 6, 3, 4, 4, 5, 4, 5, 5, 6, 4, 5, 5, 6, 5, 6, 6, 7, 2, 3, 3, 4, 3, 4, 4, 5, 3, 4, 4, 5, 4, 5, 5, 6, 3, 4, 4, 5, 4, 5, 5, 6, 4, 5, 5, 6, 5, 6, 6, 7, 3, 4, 4, 5, 4, 5, 5, 6, 4, 5, 5, 6, 5, 6, 6, 7, 4, 5, 5, 6, 5, 6, 6, 7, 5, 6, 6, 7, 6, 7, 7, 8]⟩)) (.t 17)), .a 19 (.bin .add (.t 15) (.t 18)), .a 20 (.conv .i64 (.t 19)), .a 2 (.mv (.t 20))] [0, 3, 4, 5, 6, 7, 8, 9, 10, 11, 12, 13, 14, 15, 16, 17, 18, 19, 20] [])
  .ret))⟩
def bits_OnesCount32.hint : R.Hint := { kill := [(0, [2], []), (1, [0, 3, 4, 5, 6, 7, 8, 9, 10, 11, 12, 13, 14, 15, 16, 17, 18, 19, 20], [])] }
theorem bits_OnesCount32.ok : cFn Tryd.prog bits_OnesCount32.hint Tryd.f103 = some bits_OnesCount32 := by kernel_rfl
def bits_OnesCount64 : R.Fn := ⟨1, [(.t 2)], (.seq (.reg [] [.a 2 (.mv (.c (.int .i64 0)))] [2] [])
  (.seq (.reg [] [.a 3 (.mv (.t 0)), .a 4 (.bin .shr (.t 3) (.c (.int .u64 1))), .a 5 (.bin .and (.t 4) (.c (.int .u64 6148914691236517205))), .a 6 (.mv (.t 0)), .a 7 (.bin .and (.t 6) (.c (.int .u64 6148914691236517205))), .a 8 (.bin .add (.t 5) (.t 7)), .a 0 (.mv (.t 8))] [3, 4, 5, 6, 7, 8] [])
  (.seq (.reg [] [.a 9 (.mv (.t 0)), .a 10 (.bin .shr (.t 9) (.c (.int .u64 2))), .a 11 (.bin .and (.t 10) (.c (.int .u64 3689348814741910323))), .a 12 (.mv (.t 0)), .a 13 (.bin .and (.t 12) (.c (.int .u64 3689348814741910323))), .a 14 (.bin .add (.t 11) (.t 13)), .a 0 (.mv (.t 14))] [9, 10, 11, 12, 13, 14] [])
  (.seq (.reg [] [.a 15 (.mv (.t 0)), .a 16 (.bin .shr (.t 15) (.c (.int .u64 4))), .a 17 (.mv (.t 0)), .a 18 (.bin .add (.t 16) (.t 17)), .a 19 (.bin .and (.t 18) (.c (.int .u64 1085102592571150095))), .a 0 (.mv (.t 19))] [15, 16, 17, 18, 19] [])
  (.seq (.reg [] [.a 20 (.mv (.t 0)), .a 21 (.mv (.t 0)), .a 22 (.bin .shr (.t 21) (.c (.int .u64 8))), .a 23 (.bin .add (.t 20) (.t 22)), .a 0 (.mv (.t 23))] [20, 21, 22, 23] [])
  (.seq (.reg [] [.a 24 (.mv (.t 0)), .a 25 (.mv (.t 0)), .a 26 (.bin .shr (.t 25) (.c (.int .u64 16))), .a 27 (.bin .add (.t 24) (.t 26)), .a 0 (.mv (.t 27))] [24, 25, 26, 27] [])
  (.seq (.reg [] [.a 28 (.mv (.t 0)), .a 29 (.mv (.t 0)), .a 30 (.bin .shr (.t 29) (.c (.int .u64 32))), .a 31 (.bin .add (.t 28) (.t 30)), .a 0 (.mv (.t 31))] [28, 29, 30, 31] [])
  (.seq (.reg [] [.a 32 (.mv (.t 0)), .a 33 (.conv .i64 (.t 32)), .a 34 (.bin .and (.t 33) (.c (.int .i64 127))), .a 2 (.mv (.t 34))] [0, 32, 33, 34] [])
  .ret))))))))⟩
def bits_OnesCount64.hint : R.Hint := { kill := [(0, [2], []), (1, [3, 4, 5, 6, 7, 8], []), (2, [9, 10, 11, 12, 13, 14], []), (3, [15, 16, 17, 18, 19], []), (4, [20, 21, 22, 23], []), (5, [24, 25, 26, 27], []), (6, [28, 29, 30, 31], []), (7, [0, 32, 33, 34], [])] }
theorem bits_OnesCount64.ok : cFn Tryd.prog bits_OnesCount64.hint Tryd.f104 = some bits_OnesCount64 := by kernel_rfl
def nat_euclid.b0 : R.C := (.seq (.seq (.reg [] [.a 19 (.mv (.t 7)), .a 20 (.bin .neq (.t 19) (.c (.int .u64 0)))] [19] [])
  (.cond (.t 20) .skip (.exit 0)))
  (.block 1 (.reg [] [.a 21 (.mv (.t 7)), .a 22 (.mv (.t 5)), .a 23 (.mv (.t 7)), .a 24 (.bin .rem (.t 22) (.t 23)), .a 5 (.mv (.t 21)), .a 7 (.mv (.t 24))] [20, 21, 22, 23, 24] [])))
def nat_euclid : R.Fn := ⟨2, [(.t 4)], (.seq (.reg [] [.a 4 (.mv (.c (.sl 1 [])))] [4] [])
  (.seq (.reg [] [.a 10 (.mv (.t 0)), .a 11 (.call F.nat_To [(.t 10)]), .a 9 (.mv (.t 11)), .a 12 (.ext (.t 9) 0), .a 13 (.ext (.t 9) 1), .a 5 (.mv (.t 12)), .a 6 (.mv (.t 13))] [0, 6, 9, 10, 11, 12, 13] [])
  (.seq (.reg [] [.a 15 (.mv (.t 1)), .a 16 (.call F.nat_To [(.t 15)]), .a 14 (.mv (.t 16)), .a 17 (.ext (.t 14) 0), .a 18 (.ext (.t 14) 1), .a 7 (.mv (.t 17)), .a 8 (.mv (.t 18))] [1, 8, 14, 15, 16, 17, 18] [])
  (.seq (.block 0 (.loop [] [] nat_euclid.b0))
  (.seq (.reg [] [.a 25 (.mv (.t 5)), .a 26 (.call F.nat_Of [(.t 25)]), .a 4 (.mv (.t 26))] [5, 7, 20, 25, 26] [])
  .ret)))))⟩
def nat_euclid.hint : R.Hint := { kill := [(0, [4], []), (1, [0, 6, 9, 10, 11, 12, 13], []), (2, [1, 8, 14, 15, 16, 17, 18], []), (3, [19], []), (4, [20, 21, 22, 23, 24], []), (5, [5, 7, 20, 25, 26], [])] }
theorem nat_euclid.ok : cFn Tryd.prog nat_euclid.hint Tryd.f105 = some nat_euclid := by kernel_rfl
def nat_zeros.b0 : R.C := (.seq (.reg [] [.a 9 (.bin .lss (.t 8) (.t 7))] [] [])
  (.seq (.cond (.t 9) .skip (.exit 0))
  (.seq (.block 1 (.seq (.reg [] [.a 10 (.mv (.t 8)), .a 11 (.iA 1 (.t 6) (.t 8)), .a 12 (.ld 1 false (.t 11)), .a 4 (.mv (.t 10)), .a 5 (.mv (.t 12))] [9, 10, 11, 12] [])
  (.seq (.seq (.reg [] [.a 13 (.mv (.t 5)), .a 14 (.bin .neq (.t 13) (.c (.int .u64 0)))] [13] [])
  (.cond (.t 14) (.seq (.reg [] [.a 15 (.mv (.t 4)), .a 16 (.bin .mul (.c (.int .i64 32)) (.t 15)), .a 17 (.mv (.t 5)), .a 18 (.call F.bits_TrailingZeros64 [(.t 17)]), .a 19 (.bin .add (.t 16) (.t 18)), .a 2 (.mv (.t 19))] [3, 4, 5, 6, 7, 8, 14, 15, 16, 17, 18, 19] [])
  .ret) .skip))
  (.reg [] [.a 20 (.mv (.t 3)), .a 21 (.bin .add (.t 20) (.c (.int .i64 32))), .a 3 (.mv (.t 21))] [4, 5, 14, 20, 21] []))))
  (.reg [] [.a 22 (.bin .add (.t 8) (.c (.int .i64 1))), .a 8 (.mv (.t 22))] [22] []))))
def nat_zeros : R.Fn := ⟨1, [(.t 2)], (.seq (.reg [] [.a 2 (.mv (.c (.int .i64 0)))] [2] [])
  (.seq (.reg [] [.a 3 (.mv (.c (.int .i64 0)))] [] [])
  (.seq (.seq (.reg [] [.a 6 (.mv (.t 0)), .a 7 (.ln (.t 6)), .a 8 (.mv (.c (.int .i64 0)))] [0] [])
  (.block 0 (.loop [] [] nat_zeros.b0)))
  (.seq (.reg [] [.a 23 (.mv (.t 3)), .a 2 (.mv (.t 23))] [3, 6, 7, 8, 9, 23] [])
  .ret))))⟩
def nat_zeros.hint : R.Hint := { kill := [(0, [2], []), (2, [0], []), (4, [9, 10, 11, 12], []), (5, [13], []), (6, [3, 4, 5, 6, 7, 8, 14, 15, 16, 17, 18, 19], []), (7, [4, 5, 14, 20, 21], []), (8, [22], []), (9, [3, 6, 7, 8, 9, 23], [])] }
theorem nat_zeros.ok : cFn Tryd.prog nat_zeros.hint Tryd.f106 = some nat_zeros := by kernel_rfl
def nat_shr.b0 : R.C := (.seq (.reg [] [.a 25 (.bin .lss (.t 24) (.t 23))] [] [])
  (.seq (.cond (.t 25) .skip (.exit 0))
  (.seq (.block 1 (.seq (.reg [] [.a 26 (.mv (.t 24)), .a 8 (.mv (.t 26))] [25, 26] [])
  (.reg [] [.a 27 (.mv (.t 7)), .a 28 (.mv (.t 8)), .a 29 (.mv (.t 0)), .a 30 (.mv (.t 8)), .a 31 (.mv (.t 5)), .a 32 (.bin .add (.t 30) (.t 31)), .a 33 (.bin .add (.t 32) (.c (.int .i64 1))), .a 34 (.call F.nat_limb [(.t 29), (.t 33)]), .a 35 (.bin .shl (.t 34) (.c (.int .u64 32))), .a 36 (.mv (.t 0)), .a 37 (.mv (.t 8)), .a 38 (.mv (.t 5)), .a 39 (.bin .add (.t 37) (.t 38)), .a 40 (.iA 1 (.t 36) (.t 39)), .a 41 (.ld 1 false (.t 40)), .a 42 (.bin .or (.t 35) (.t 41)), .a 43 (.mv (.t 6)), .a 44 (.bin .shr (.t 42) (.t 43)), .a 45 (.bin .and (.t 44) (.c (.int .u64 4294967295))), .a 46 (.iA 1 (.t 27) (.t 28)), .n (.st 1 (.t 46) (.t 45))] [8, 27, 28, 29, 30, 31, 32, 33, 34, 35, 36, 37, 38, 39, 40, 41, 42, 43, 44, 45, 46] [])))
  (.reg [] [.a 47 (.bin .add (.t 24) (.c (.int .i64 1))), .a 24 (.mv (.t 47))] [47] []))))
def nat_shr : R.Fn := ⟨2, [(.t 4)], (.seq (.reg [] [.a 4 (.mv (.c (.sl 1 [])))] [4] [])
  (.seq (.reg [] [.a 9 (.mv (.t 1)), .a 10 (.bin .quo (.t 9) (.c (.int .i64 32))), .a 11 (.mv (.t 1)), .a 12 (.bin .rem (.t 11) (.c (.int .i64 32))), .a 5 (.mv (.t 10)), .a 6 (.mv (.t 12))] [1, 9, 10, 11, 12] [])
  (.seq (.seq (.reg [] [.a 13 (.mv (.t 5)), .a 14 (.mv (.t 0)), .a 15 (.ln (.t 14)), .a 16 (.bin .geq (.t 13) (.t 15))] [13, 14, 15] [])
  (.cond (.t 16) (.seq (.reg [] [.a 4 (.mv (.c (.sl 1 [])))] [0, 5, 6, 16] [])
  .ret) .skip))
  (.seq (.reg [] [.a 17 (.mv (.t 0)), .a 18 (.ln (.t 17)), .a 19 (.mv (.t 5)), .a 20 (.bin .sub (.t 18) (.t 19)), .a 21 (.mk 1 8 [(.int .u64 0)] (.t 20) (.t 20)), .a 7 (.mv (.t 21))] [16, 17, 18, 19, 20, 21] [])
  (.seq (.seq (.reg [] [.a 22 (.mv (.t 7)), .a 23 (.ln (.t 22)), .a 24 (.mv (.c (.int .i64 0)))] [22] [])
  (.block 0 (.loop [] [] nat_shr.b0)))
  (.seq (.reg [7] [.a 48 (.mv (.t 7)), .a 49 (.call F.nat_trim [(.t 48)]), .a 4 (.mv (.t 49))] [0, 5, 6, 7, 23, 24, 25, 48, 49] [21])
  .ret))))))⟩
def nat_shr.hint : R.Hint := { pub := [(10, [7])], kill := [(0, [4], []), (1, [1, 9, 10, 11, 12], []), (2, [13, 14, 15], []), (3, [0, 5, 6, 16], []), (4, [16, 17, 18, 19, 20, 21], []), (5, [22], []), (7, [25, 26], []), (8, [8, 27, 28, 29, 30, 31, 32, 33, 34, 35, 36, 37, 38, 39, 40, 41, 42, 43, 44, 45, 46], []), (9, [47], []), (10, [0, 5, 6, 7, 23, 24, 25, 48, 49], [21])] }
theorem nat_shr.ok : cFn Tryd.prog nat_shr.hint Tryd.f107 = some nat_shr := by kernel_rfl
def nat_order.b1 : R.C := (.seq (.seq (.reg [] [.a 21 (.mv (.t 5)), .a 22 (.bin .geq (.t 21) (.c (.int .i64 0)))] [21] [])
  (.cond (.t 22) .skip (.exit 1)))
  (.seq (.block 2 (.block 3 (.seq (.reg [] [.a 26 (.mv (.t 0)), .a 27 (.mv (.t 5)), .a 28 (.iA 1 (.t 26) (.t 27)), .a 29 (.ld 1 false (.t 28)), .a 30 (.mv (.t 1)), .a 31 (.mv (.t 5)), .a 32 (.iA 1 (.t 30) (.t 31)), .a 33 (.ld 1 false (.t 32)), .a 34 (.bin .lss (.t 29) (.t 33)), .a 25 (.mv (.t 34))] [22, 26, 27, 28, 29, 30, 31, 32, 33, 34] [])
  (.cond (.t 25) (.seq (.reg [] [.a 4 (.mv (.c (.int .i64 (-1))))] [0, 1, 5, 25] [])
  .ret) (.seq (.reg [] [.a 36 (.mv (.t 0)), .a 37 (.mv (.t 5)), .a 38 (.iA 1 (.t 36) (.t 37)), .a 39 (.ld 1 false (.t 38)), .a 40 (.mv (.t 1)), .a 41 (.mv (.t 5)), .a 42 (.iA 1 (.t 40) (.t 41)), .a 43 (.ld 1 false (.t 42)), .a 44 (.bin .gtr (.t 39) (.t 43)), .a 35 (.mv (.t 44))] [25, 36, 37, 38, 39, 40, 41, 42, 43, 44] [])
  (.cond (.t 35) (.seq (.reg [] [.a 4 (.mv (.c (.int .i64 1)))] [0, 1, 5, 35] [])
  .ret) .skip))))))
  (.reg [] [.a 23 (.mv (.t 5)), .a 24 (.bin .sub (.t 23) (.c (.int .i64 1))), .a 5 (.mv (.t 24))] [23, 24, 35] [])))
def nat_order : R.Fn := ⟨2, [(.t 4)], (.seq (.reg [] [.a 4 (.mv (.c (.int .i64 0)))] [4] [])
  (.seq (.block 0 (.seq (.reg [] [.a 7 (.mv (.t 0)), .a 8 (.ln (.t 7)), .a 9 (.mv (.t 1)), .a 10 (.ln (.t 9)), .a 11 (.bin .lss (.t 8) (.t 10)), .a 6 (.mv (.t 11))] [7, 8, 9, 10, 11] [])
  (.cond (.t 6) (.seq (.reg [] [.a 4 (.mv (.c (.int .i64 (-1))))] [0, 1, 6] [])
  .ret) (.seq (.reg [] [.a 13 (.mv (.t 0)), .a 14 (.ln (.t 13)), .a 15 (.mv (.t 1)), .a 16 (.ln (.t 15)), .a 17 (.bin .gtr (.t 14) (.t 16)), .a 12 (.mv (.t 17))] [6, 13, 14, 15, 16, 17] [])
  (.cond (.t 12) (.seq (.reg [] [.a 4 (.mv (.c (.int .i64 1)))] [0, 1, 12] [])
  .ret) .skip)))))
  (.seq (.seq (.reg [] [.a 18 (.mv (.t 0)), .a 19 (.ln (.t 18)), .a 20 (.bin .sub (.t 19) (.c (.int .i64 1))), .a 5 (.mv (.t 20))] [12, 18, 19, 20] [])
  (.block 1 (.loop [] [] nat_order.b1)))
  (.seq (.reg [] [.a 4 (.mv (.c (.int .i64 0)))] [0, 1, 5, 22] [])
  .ret))))⟩
def nat_order.hint : R.Hint := { kill := [(0, [4], []), (1, [7, 8, 9, 10, 11], []), (2, [0, 1, 6], []), (3, [6, 13, 14, 15, 16, 17], []), (4, [0, 1, 12], []), (5, [12, 18, 19, 20], []), (6, [21], []), (7, [23, 24, 35], []), (8, [22, 26, 27, 28, 29, 30, 31, 32, 33, 34], []), (9, [0, 1, 5, 25], []), (10, [25, 36, 37, 38, 39, 40, 41, 42, 43, 44], []), (11, [0, 1, 5, 35], []), (12, [0, 1, 5, 22], [])] }
theorem nat_order.ok : cFn Tryd.prog nat_order.hint Tryd.f108 = some nat_order := by kernel_rfl
def nat_shl.b0 : R.C := (.seq (.reg [] [.a 23 (.bin .lss (.t 22) (.t 21))] [] [])
  (.seq (.cond (.t 23) .skip (.exit 0))
  (.seq (.block 1 (.seq (.reg [] [.a 24 (.mv (.t 22)), .a 25 (.iA 1 (.t 20) (.t 22)), .a 26 (.ld 1 false (.t 25)), .a 8 (.mv (.t 24)), .a 9 (.mv (.t 26))] [23, 24, 25, 26] [])
  (.seq (.reg [] [.a 27 (.mv (.t 9)), .a 28 (.mv (.t 6)), .a 29 (.bin .shl (.t 27) (.t 28)), .a 9 (.mv (.t 29))] [27, 28, 29] [])
  (.seq (.reg [] [.a 30 (.mv (.t 7)), .a 31 (.mv (.t 8)), .a 32 (.mv (.t 5)), .a 33 (.bin .add (.t 31) (.t 32)), .a 34 (.iA 1 (.t 30) (.t 33)), .a 35 (.ld 1 false (.t 34)), .a 36 (.mv (.t 9)), .a 37 (.bin .and (.t 36) (.c (.int .u64 4294967295))), .a 38 (.bin .or (.t 35) (.t 37)), .a 39 (.iA 1 (.t 30) (.t 33)), .n (.st 1 (.t 39) (.t 38))] [30, 31, 32, 33, 34, 35, 36, 37, 38, 39] [])
  (.reg [] [.a 40 (.mv (.t 7)), .a 41 (.mv (.t 8)), .a 42 (.mv (.t 5)), .a 43 (.bin .add (.t 41) (.t 42)), .a 44 (.bin .add (.t 43) (.c (.int .i64 1))), .a 45 (.mv (.t 9)), .a 46 (.bin .shr (.t 45) (.c (.int .u64 32))), .a 47 (.iA 1 (.t 40) (.t 44)), .n (.st 1 (.t 47) (.t 46))] [8, 9, 40, 41, 42, 43, 44, 45, 46, 47] [])))))
  (.reg [] [.a 48 (.bin .add (.t 22) (.c (.int .i64 1))), .a 22 (.mv (.t 48))] [48] []))))
def nat_shl : R.Fn := ⟨2, [(.own 4)], (.seq (.reg [] [.a 4 (.mv (.c (.sl 1 [])))] [4] [])
  (.seq (.reg [] [.a 10 (.mv (.t 1)), .a 11 (.bin .quo (.t 10) (.c (.int .i64 32))), .a 12 (.mv (.t 1)), .a 13 (.bin .rem (.t 12) (.c (.int .i64 32))), .a 5 (.mv (.t 11)), .a 6 (.mv (.t 13))] [1, 10, 11, 12, 13] [])
  (.seq (.reg [] [.a 14 (.mv (.t 0)), .a 15 (.ln (.t 14)), .a 16 (.mv (.t 5)), .a 17 (.bin .add (.t 15) (.t 16)), .a 18 (.bin .add (.t 17) (.c (.int .i64 1))), .a 19 (.mk 1 8 [(.int .u64 0)] (.t 18) (.t 18)), .a 7 (.mv (.t 19))] [14, 15, 16, 17, 18, 19] [])
  (.seq (.seq (.reg [] [.a 20 (.mv (.t 0)), .a 21 (.ln (.t 20)), .a 22 (.mv (.c (.int .i64 0)))] [0] [])
  (.block 0 (.loop [] [] nat_shl.b0)))
  (.seq (.reg [] [.a 49 (.mv (.t 7)), .a 50 (.callk F.nat_trim [(true, (.t 49))]), .a 4 (.mv (.t 50))] [5, 6, 7, 20, 21, 22, 23, 49, 50] [])
  .ret)))))⟩
def nat_shl.hint : R.Hint := { callk := [(50, [true])], kill := [(0, [4], []), (1, [1, 10, 11, 12, 13], []), (2, [14, 15, 16, 17, 18, 19], []), (3, [0], []), (5, [23, 24, 25, 26], []), (6, [27, 28, 29], []), (7, [30, 31, 32, 33, 34, 35, 36, 37, 38, 39], []), (8, [8, 9, 40, 41, 42, 43, 44, 45, 46, 47], []), (9, [48], []), (10, [5, 6, 7, 20, 21, 22, 23, 49, 50], [])], own := true }
theorem nat_shl.ok : cFn Tryd.prog nat_shl.hint Tryd.f109 = some nat_shl := by kernel_rfl
def nat_rest : R.Fn := ⟨2, [(.t 4), (.t 5)], (.seq (.reg [] [.a 4 (.mv (.c (.sl 1 []))), .a 5 (.mv (.c (.sl 1 [])))] [4, 5] [])
  (.seq (.reg [] [.a 10 (.mv (.t 0)), .a 11 (.mv (.t 1)), .a 12 (.call F.nat_DivMod [(.t 10), (.t 11)]), .a 9 (.mv (.t 12)), .a 13 (.ext (.t 9) 0), .a 14 (.ext (.t 9) 1), .a 15 (.ext (.t 9) 2), .a 6 (.mv (.t 13)), .a 7 (.mv (.t 14)), .a 8 (.mv (.t 15))] [0, 1, 8, 9, 10, 11, 12, 13, 14, 15] [])
  (.seq (.reg [] [.a 16 (.mv (.t 6)), .a 17 (.mv (.t 7)), .a 4 (.mv (.t 16)), .a 5 (.mv (.t 17))] [6, 7, 16, 17] [])
  .ret)))⟩
def nat_rest.hint : R.Hint := { kill := [(0, [4, 5], []), (1, [0, 1, 8, 9, 10, 11, 12, 13, 14, 15], []), (2, [6, 7, 16, 17], [])] }
theorem nat_rest.ok : cFn Tryd.prog nat_rest.hint Tryd.f110 = some nat_rest := by kernel_rfl
def nat_minus.b0 : R.C := (.seq (.reg [] [.a 15 (.bin .lss (.t 14) (.t 13))] [] [])
  (.seq (.cond (.t 15) .skip (.exit 0))
  (.seq (.block 1 (.seq (.reg [] [.a 16 (.mv (.t 14)), .a 7 (.mv (.t 16))] [15, 16] [])
  (.seq (.reg [] [.a 17 (.mv (.t 0)), .a 18 (.mv (.t 7)), .a 19 (.iA 1 (.t 17) (.t 18)), .a 20 (.ld 1 false (.t 19)), .a 21 (.bin .add (.c (.int .u64 4294967296)) (.t 20)), .a 22 (.mv (.t 1)), .a 23 (.mv (.t 7)), .a 24 (.call F.nat_limb [(.t 22), (.t 23)]), .a 25 (.bin .sub (.t 21) (.t 24)), .a 26 (.mv (.t 6)), .a 27 (.bin .sub (.t 25) (.t 26)), .a 8 (.mv (.t 27))] [6, 17, 18, 19, 20, 21, 22, 23, 24, 25, 26, 27] [])
  (.seq (.reg [] [.a 28 (.mv (.t 5)), .a 29 (.mv (.t 7)), .a 30 (.mv (.t 8)), .a 31 (.bin .and (.t 30) (.c (.int .u64 4294967295))), .a 32 (.iA 1 (.t 28) (.t 29)), .n (.st 1 (.t 32) (.t 31))] [7, 28, 29, 30, 31, 32] [])
  (.reg [] [.a 33 (.mv (.t 8)), .a 34 (.bin .shr (.t 33) (.c (.int .u64 32))), .a 35 (.bin .sub (.c (.int .u64 1)) (.t 34)), .a 6 (.mv (.t 35))] [8, 33, 34, 35] [])))))
  (.reg [] [.a 36 (.bin .add (.t 14) (.c (.int .i64 1))), .a 14 (.mv (.t 36))] [36] []))))
def nat_minus : R.Fn := ⟨2, [(.t 4)], (.seq (.reg [] [.a 4 (.mv (.c (.sl 1 [])))] [4] [])
  (.seq (.reg [] [.a 9 (.mv (.t 0)), .a 10 (.ln (.t 9)), .a 11 (.mk 1 8 [(.int .u64 0)] (.t 10) (.t 10)), .a 5 (.mv (.t 11))] [9, 10, 11] [])
  (.seq (.reg [] [.a 6 (.mv (.c (.int .u64 0)))] [] [])
  (.seq (.seq (.reg [] [.a 12 (.mv (.t 5)), .a 13 (.ln (.t 12)), .a 14 (.mv (.c (.int .i64 0)))] [12] [])
  (.block 0 (.loop [] [] nat_minus.b0)))
  (.seq (.reg [5] [.a 37 (.mv (.t 5)), .a 38 (.call F.nat_trim [(.t 37)]), .a 4 (.mv (.t 38))] [0, 1, 5, 6, 13, 14, 15, 37, 38] [11])
  .ret)))))⟩
def nat_minus.hint : R.Hint := { pub := [(10, [5])], kill := [(0, [4], []), (1, [9, 10, 11], []), (3, [12], []), (5, [15, 16], []), (6, [6, 17, 18, 19, 20, 21, 22, 23, 24, 25, 26, 27], []), (7, [7, 28, 29, 30, 31, 32], []), (8, [8, 33, 34, 35], []), (9, [36], []), (10, [0, 1, 5, 6, 13, 14, 15, 37, 38], [11])] }
theorem nat_minus.ok : cFn Tryd.prog nat_minus.hint Tryd.f111 = some nat_minus := by kernel_rfl
def dendronref03_Is : R.Fn := ⟨2, [(.t 4)], (.seq (.reg [] [.a 2 (.box (.t 0)), .a 3 (.box (.t 1)), .a 4 (.mv (.c (.bool false)))] [0, 1, 4] [])
  (.seq (.reg [] [.a 5 (.ld 3 true (.t 2)), .a 6 (.call F.dendronref03_Right [(.t 5)]), .a 7 (.mv (.t 6)), .g 8 7 true (.ld 3 true (.t 2)), .g 9 7 true (.call F.dendronref03_From [(.t 8)]), .g 10 7 true (.ld 3 true (.t 3)), .g 11 7 true (.call F.dendronref03_Order [(.t 9), (.t 10)]), .g 12 7 true (.bin .eql (.t 11) (.c (.int .i64 0))), .a 13 (.pick (.t 7) (.t 12) (.c (.bool false))), .a 4 (.mv (.t 13))] [2, 3, 5, 6, 7, 8, 9, 10, 11, 12, 13] [2, 3])
  .ret))⟩
def dendronref03_Is.hint : R.Hint := { kill := [(0, [0, 1, 4], []), (1, [2, 3, 5, 6, 7, 8, 9, 10, 11, 12, 13], [2, 3])] }
theorem dendronref03_Is.ok : cFn Tryd.prog dendronref03_Is.hint Tryd.f112 = some dendronref03_Is := by kernel_rfl
def dendronref03_From : R.Fn := ⟨1, [(.cell 2 3 true)], (.seq (.reg [] [.a 1 (.box (.t 0)), .a 2 (.new [(.bool false), (.sl 1 []), (.sl 1 [])])] [0] [])
  (.seq (.reg [] [.a 4 (.fA 2 (.t 1)), .a 5 (.ld 1 false (.t 4)), .a 6 (.call F.dendronref01_From [(.t 5)]), .a 3 (.mv (.t 6))] [4, 5, 6] [])
  (.seq (.seq (.reg [] [.a 7 (.mv (.t 3)), .a 8 (.ln (.t 7)), .a 9 (.bin .eql (.t 8) (.c (.int .i64 0)))] [7, 8] [])
  (.cond (.t 9) (.seq (.reg [] [.a 10 (.call F.dendronref03_Small [(.c (.int .i64 0)), (.c (.int .i64 1))]), .n (.st 3 (.t 2) (.t 10))] [1, 3, 9, 10] [1])
  .ret) .skip))
  (.seq (.reg [] [.a 11 (.fA 0 (.t 1)), .a 12 (.ld 2 true (.t 11)), .a 13 (.call F.dendronref02_From [(.t 12)]), .a 14 (.mv (.t 3)), .a 15 (.bld [(.bool false), (.sl 1 []), (.sl 1 [])] [(0, 2, (.t 13)), (2, 1, (.t 14))]), .n (.st 3 (.t 2) (.t 15))] [1, 3, 9, 11, 12, 13, 14, 15] [1])
  .ret))))⟩
def dendronref03_From.hint : R.Hint := { kill := [(0, [0], []), (1, [4, 5, 6], []), (2, [7, 8], []), (3, [1, 3, 9, 10], [1]), (4, [1, 3, 9, 11, 12, 13, 14, 15], [1])] }
theorem dendronref03_From.ok : cFn Tryd.prog dendronref03_From.hint Tryd.f113 = some dendronref03_From := by kernel_rfl
def nat_small.b0 : R.C := (.seq (.seq (.reg [] [.a 15 (.mv (.t 8)), .a 16 (.bin .geq (.t 15) (.c (.int .i64 0)))] [15] [])
  (.cond (.t 16) .skip (.exit 0)))
  (.seq (.block 1 (.seq (.reg [] [.a 19 (.mv (.t 7)), .a 20 (.bin .shl (.t 19) (.c (.int .u64 32))), .a 21 (.mv (.t 0)), .a 22 (.mv (.t 8)), .a 23 (.iA 1 (.t 21) (.t 22)), .a 24 (.ld 1 false (.t 23)), .a 25 (.bin .or (.t 20) (.t 24)), .a 7 (.mv (.t 25))] [16, 19, 20, 21, 22, 23, 24, 25] [])
  (.seq (.reg [] [.a 26 (.mv (.t 6)), .a 27 (.mv (.t 8)), .a 28 (.mv (.t 7)), .a 29 (.mv (.t 1)), .a 30 (.bin .quo (.t 28) (.t 29)), .a 31 (.iA 1 (.t 26) (.t 27)), .n (.st 1 (.t 31) (.t 30))] [26, 27, 28, 29, 30, 31] [])
  (.reg [] [.a 32 (.mv (.t 7)), .a 33 (.mv (.t 1)), .a 34 (.bin .rem (.t 32) (.t 33)), .a 7 (.mv (.t 34))] [32, 33, 34] []))))
  (.reg [] [.a 17 (.mv (.t 8)), .a 18 (.bin .sub (.t 17) (.c (.int .i64 1))), .a 8 (.mv (.t 18))] [17, 18] [])))
def nat_small : R.Fn := ⟨2, [(.t 4), (.t 5)], (.seq (.reg [] [.a 4 (.mv (.c (.sl 1 []))), .a 5 (.mv (.c (.int .u64 0)))] [4, 5] [])
  (.seq (.reg [] [.a 9 (.mv (.t 0)), .a 10 (.ln (.t 9)), .a 11 (.mk 1 8 [(.int .u64 0)] (.t 10) (.t 10)), .a 6 (.mv (.t 11))] [9, 10, 11] [])
  (.seq (.reg [] [.a 7 (.mv (.c (.int .u64 0)))] [] [])
  (.seq (.seq (.reg [] [.a 12 (.mv (.t 0)), .a 13 (.ln (.t 12)), .a 14 (.bin .sub (.t 13) (.c (.int .i64 1))), .a 8 (.mv (.t 14))] [12, 13, 14] [])
  (.block 0 (.loop [] [] nat_small.b0)))
  (.seq (.reg [6] [.a 35 (.mv (.t 6)), .a 36 (.call F.nat_trim [(.t 35)]), .a 37 (.mv (.t 7)), .a 4 (.mv (.t 36)), .a 5 (.mv (.t 37))] [0, 1, 6, 7, 8, 16, 35, 36, 37] [11])
  .ret)))))⟩
def nat_small.hint : R.Hint := { pub := [(9, [6])], kill := [(0, [4, 5], []), (1, [9, 10, 11], []), (3, [12, 13, 14], []), (4, [15], []), (5, [17, 18], []), (6, [16, 19, 20, 21, 22, 23, 24, 25], []), (7, [26, 27, 28, 29, 30, 31], []), (8, [32, 33, 34], []), (9, [0, 1, 6, 7, 8, 16, 35, 36, 37], [11])] }
theorem nat_small.ok : cFn Tryd.prog nat_small.hint Tryd.f116 = some nat_small := by kernel_rfl
def nat_long.b0 : R.C := (.seq (.seq (.reg [] [.a 42 (.mv (.t 11)), .a 43 (.bin .geq (.t 42) (.c (.int .i64 0)))] [42] [])
  (.cond (.t 43) .skip (.exit 0)))
  (.seq (.block 1 (.reg [7] [.a 46 (.mv (.t 10)), .a 47 (.mv (.t 11)), .a 48 (.mv (.t 8)), .a 49 (.mv (.t 11)), .a 50 (.mv (.t 11)), .a 51 (.mv (.t 9)), .a 52 (.bin .add (.t 50) (.t 51)), .a 53 (.bin .add (.t 52) (.c (.int .i64 1))), .a 54 (.slc 1 (.t 48) (some (.t 49)) (some (.t 53))), .a 55 (.mv (.t 7)), .a 56 (.callk F.nat_digit [(true, (.t 54)), (false, (.t 55))]), .a 57 (.iA 1 (.t 46) (.t 47)), .n (.st 1 (.t 57) (.t 56))] [43, 46, 47, 48, 49, 50, 51, 52, 53, 54, 55, 56, 57] [56, 1056, 2056, 3056]))
  (.reg [] [.a 44 (.mv (.t 11)), .a 45 (.bin .sub (.t 44) (.c (.int .i64 1))), .a 11 (.mv (.t 45))] [44, 45] [])))
def nat_long : R.Fn := ⟨2, [(.t 4), (.t 5)], (.seq (.reg [] [.a 4 (.mv (.c (.sl 1 []))), .a 5 (.mv (.c (.sl 1 [])))] [4, 5] [])
  (.seq (.reg [] [.a 12 (.mv (.t 1)), .a 13 (.mv (.t 1)), .a 14 (.ln (.t 13)), .a 15 (.bin .sub (.t 14) (.c (.int .i64 1))), .a 16 (.iA 1 (.t 12) (.t 15)), .a 17 (.ld 1 false (.t 16)), .a 18 (.conv .u32 (.t 17)), .a 19 (.call F.bits_LeadingZeros32 [(.t 18)]), .a 6 (.mv (.t 19))] [12, 13, 14, 15, 16, 17, 18, 19] [])
  (.seq (.reg [] [.a 20 (.mv (.t 1)), .a 21 (.mv (.t 6)), .a 22 (.callk F.nat_shl [(false, (.t 20)), (false, (.t 21))]), .a 7 (.mv (.t 22))] [1, 20, 21, 22] [])
  (.seq (.reg [] [.a 23 (.mv (.t 0)), .a 24 (.mv (.t 6)), .a 25 (.callk F.nat_shl [(false, (.t 23)), (false, (.t 24))]), .a 26 (.lit 1 2 [(.int .u64 0), (.int .u64 0)] [(0, 1, (.c (.int .u64 0))), (1, 1, (.c (.int .u64 0)))]), .a 27 (.app 1 8 (.t 25) (.t 26)), .a 28 (.mv (.t 0)), .a 29 (.ln (.t 28)), .a 30 (.bin .add (.t 29) (.c (.int .i64 1))), .a 31 (.slc 1 (.t 27) none (some (.t 30))), .a 8 (.mv (.t 31))] [0, 23, 24, 25, 26, 27, 28, 29, 30, 31] [])
  (.seq (.reg [] [.a 32 (.mv (.t 7)), .a 33 (.ln (.t 32)), .a 9 (.mv (.t 33))] [32, 33] [])
  (.seq (.reg [] [.a 34 (.mv (.t 8)), .a 35 (.ln (.t 34)), .a 36 (.mv (.t 9)), .a 37 (.bin .sub (.t 35) (.t 36)), .a 38 (.mk 1 8 [(.int .u64 0)] (.t 37) (.t 37)), .a 10 (.mv (.t 38))] [34, 35, 36, 37, 38] [])
  (.seq (.seq (.reg [] [.a 39 (.mv (.t 10)), .a 40 (.ln (.t 39)), .a 41 (.bin .sub (.t 40) (.c (.int .i64 1))), .a 11 (.mv (.t 41))] [39, 40, 41] [])
  (.block 0 (.loop [] [] nat_long.b0)))
  (.seq (.reg [10, 8] [.a 58 (.mv (.t 10)), .a 59 (.call F.nat_trim [(.t 58)]), .a 60 (.mv (.t 8)), .a 61 (.call F.nat_trim [(.t 60)]), .a 62 (.mv (.t 6)), .a 63 (.call F.nat_shr [(.t 61), (.t 62)]), .a 4 (.mv (.t 59)), .a 5 (.mv (.t 63))] [6, 7, 8, 9, 10, 11, 43, 58, 59, 60, 61, 62, 63] [22, 25, 38, 1022, 1025, 2022, 2025, 3022, 3025])
  .ret))))))))⟩
def nat_long.hint : R.Hint := { callk := [(22, [false, false]), (25, [false, false]), (56, [true, false])], pub := [(9, [7]), (10, [10, 8])], kill := [(0, [4, 5], []), (1, [12, 13, 14, 15, 16, 17, 18, 19], []), (2, [1, 20, 21, 22], []), (3, [0, 23, 24, 25, 26, 27, 28, 29, 30, 31], []), (4, [32, 33], []), (5, [34, 35, 36, 37, 38], []), (6, [39, 40, 41], []), (7, [42], []), (8, [44, 45], []), (9, [43, 46, 47, 48, 49, 50, 51, 52, 53, 54, 55, 56, 57], [56, 1056, 2056, 3056]), (10, [6, 7, 8, 9, 10, 11, 43, 58, 59, 60, 61, 62, 63], [22, 25, 38, 1022, 1025, 2022, 2025, 3022, 3025])] }
theorem nat_long.ok : cFn Tryd.prog nat_long.hint Tryd.f117 = some nat_long := by kernel_rfl
def nat_limb : R.Fn := ⟨2, [(.t 4)], (.seq (.reg [] [.a 4 (.mv (.c (.int .u64 0)))] [4] [])
  (.seq (.seq (.reg [] [.a 5 (.mv (.t 1)), .a 6 (.mv (.t 0)), .a 7 (.ln (.t 6)), .a 8 (.bin .lss (.t 5) (.t 7))] [5, 6, 7] [])
  (.cond (.t 8) (.seq (.reg [] [.a 9 (.mv (.t 0)), .a 10 (.mv (.t 1)), .a 11 (.iA 1 (.t 9) (.t 10)), .a 12 (.ld 1 false (.t 11)), .a 4 (.mv (.t 12))] [0, 1, 8, 9, 10, 11, 12] [])
  .ret) .skip))
  (.seq (.reg [] [.a 4 (.mv (.c (.int .u64 0)))] [0, 1, 8] [])
  .ret)))⟩
def nat_limb.hint : R.Hint := { kill := [(0, [4], []), (1, [5, 6, 7], []), (2, [0, 1, 8, 9, 10, 11, 12], []), (3, [0, 1, 8], [])] }
theorem nat_limb.ok : cFn Tryd.prog nat_limb.hint Tryd.f118 = some nat_limb := by kernel_rfl
def bits_Len32 : R.Fn := ⟨1, [(.t 2)], (.seq (.reg [] [.a 2 (.mv (.c (.int .i64 0)))] [] [])
  (.seq (.seq (.reg [] [.a 3 (.mv (.t 0)), .a 4 (.bin .geq (.t 3) (.c (.int .u32 65536)))] [3] [])
  (.cond (.t 4) (.seq (.reg [] [.a 5 (.mv (.t 0)), .a 6 (.bin .shr (.t 5) (.c (.int .u64 16))), .a 0 (.mv (.t 6))] [2, 4, 5, 6] [])
  (.reg [] [.a 2 (.mv (.c (.int .i64 16)))] [] [])) .skip))
  (.seq (.seq (.reg [] [.a 7 (.mv (.t 0)), .a 8 (.bin .geq (.t 7) (.c (.int .u32 256)))] [4, 7] [])
  (.cond (.t 8) (.seq (.reg [] [.a 9 (.mv (.t 0)), .a 10 (.bin .shr (.t 9) (.c (.int .u64 8))), .a 0 (.mv (.t 10))] [8, 9, 10] [])
  (.reg [] [.a 11 (.mv (.t 2)), .a 12 (.bin .add (.t 11) (.c (.int .i64 8))), .a 2 (.mv (.t 12))] [11, 12] [])) .skip))
  (.seq (.reg [] [.a 13 (.mv (.t 2)), .a 14 (.mv (.t 0)), .a 15 (.conv .u8 (.t 14)), .a 16 (.sI (.c (.str ⟨#[0, 1, 2, 2, 3, 3, 3, 3, 4, 4, 4, 4, 4, 4, 4, 4, 5, 5, 5, 5, 5, 5, 5, 5, 5, 5, 5, 5, 5, 5, 5, 5, 6, 6, 6, 6, 6, 6, 6, 6, 6, 6, 6, 6, 6, 6, 6, 6, 6, 6, 6, 6, 6, 6, 6, 6, 6, 6, 6, 6, 6, 6, 6, 6, 7, 7, 7, 7, 7, 7, 7, 7, 7, 7, 7, 7, 7, 7, 7, 7, 7, 7, 7, 7, 7, 7, 7, 7, 7, 7, 7, 7, 7, 7, 7, 7, 7, 7, 7, 7, 7, 7, 7, 7, 7, 7, 7, 7, 7, 7, 7, 7, 7, 7, 7, 7, 7, 7, 7, 7, 7, 7, 7, 7, 7, 7, 7, 7, 8, 8, 8, 8, 8, 8, 8, 8, 8, 8, 8, 8, 8, 8, 8, 8, 8, 8, 8, 8, 8, 8, 8, 8, 8, 8, 8, 8, 8, 8, 8, 8, 8, 8, 8, 8, 8, 8, 8, 8, 8, 8, 8, 8, 8, 8, 8, 8, 8, 8, 8, 8, 8, 8, 8, 8, 8, 8, 8, 8, 8, 8, 8, 8, 8, 8, 8, 8, 8, 8, 8, 8, 8, 8, 8, 8, 8, 8, 8, 8, 8, 8, 8, 8, 8, 8, 8, 8, 8, 8, 8, 8, 8, 8, 8, 8, 8, 8, 8, 8, 8, 8, 8, 8, 8, 8, 8, 8, 8, 8, 8, 8, 8, 8, 8, 8, 8, 8, 8, 8, 8, 8, 8, 8, 8, 8, 8, 8]⟩)) (.t 15)), .a 17 (.conv .i64 (.t 16)), .a 18 (.bin .add (.t 13) (.t 17)), .a 2 (.mv (.t 18))] [0, 8, 13, 14, 15, 16, 17, 18] [])
  .ret))))⟩
def bits_Len32.hint : R.Hint := { kill := [(1, [3], []), (2, [2, 4, 5, 6], []), (4, [4, 7], []), (5, [8, 9, 10], []), (6, [11, 12], []), (7, [0, 8, 13, 14, 15, 16, 17, 18], [])] }
theorem bits_Len32.ok : cFn Tryd.prog bits_Len32.hint Tryd.f119 = some bits_Len32 := by kernel_rfl
def bits_Len64 : R.Fn := ⟨1, [(.t 2)], (.seq (.reg [] [.a 2 (.mv (.c (.int .i64 0)))] [] [])
  (.seq (.seq (.reg [] [.a 3 (.mv (.t 0)), .a 4 (.bin .geq (.t 3) (.c (.int .u64 4294967296)))] [3] [])
  (.cond (.t 4) (.seq (.reg [] [.a 5 (.mv (.t 0)), .a 6 (.bin .shr (.t 5) (.c (.int .u64 32))), .a 0 (.mv (.t 6))] [2, 4, 5, 6] [])
  (.reg [] [.a 2 (.mv (.c (.int .i64 32)))] [] [])) .skip))
  (.seq (.seq (.reg [] [.a 7 (.mv (.t 0)), .a 8 (.bin .geq (.t 7) (.c (.int .u64 65536)))] [4, 7] [])
  (.cond (.t 8) (.seq (.reg [] [.a 9 (.mv (.t 0)), .a 10 (.bin .shr (.t 9) (.c (.int .u64 16))), .a 0 (.mv (.t 10))] [8, 9, 10] [])
  (.reg [] [.a 11 (.mv (.t 2)), .a 12 (.bin .add (.t 11) (.c (.int .i64 16))), .a 2 (.mv (.t 12))] [11, 12] [])) .skip))
  (.seq (.seq (.reg [] [.a 13 (.mv (.t 0)), .a 14 (.bin .geq (.t 13) (.c (.int .u64 256)))] [8, 13] [])
  (.cond (.t 14) (.seq (.reg [] [.a 15 (.mv (.t 0)), .a 16 (.bin .shr (.t 15) (.c (.int .u64 8))), .a 0 (.mv (.t 16))] [14, 15, 16] [])
  (.reg [] [.a 17 (.mv (.t 2)), .a 18 (.bin .add (.t 17) (.c (.int .i64 8))), .a 2 (.mv (.t 18))] [17, 18] [])) .skip))
  (.seq (.reg [] [.a 19 (.mv (.t 2)), .a 20 (.mv (.t 0)), .a 21 (.conv .u8 (.t 20)), .a 22 (.sI (.c (.str ⟨#[0, 1, 2, 2, 3, 3, 3, 3, 4, 4, 4, 4, 4, 4, 4, 4, 5, 5, 5, 5, 5, 5, 5, 5, 5, 5, 5, 5, 5, 5, 5, 5, 6, 6, 6, 6, 6, 6, 6, 6, 6, 6, 6, 6, 6, 6, 6, 6, 6, 6, 6, 6, 6, 6, 6, 6, 6, 6, 6, 6, 6, 6, 6, 6, 7, 7, 7, 7, 7, 7, 7, 7, 7, 7, 7, 7, 7, 7, 7, 7, 7, 7, 7, 7, 7, 7, 7, 7, 7, 7, 7, 7, 7, 7, 7, 7, 7, 7, 7, 7, 7, 7, 7, 7, 7, 7, 7, 7, 7, 7, 7, 7, 7, 7, 7, 7, 7, 7, 7, 7, 7, 7, 7, 7, 7, 7, 7, 7, 8, 8, 8, 8, 8, 8, 8, 8, 8, 8, 8, 8, 8, 8, 8, 8, 8, 8, 8, 8, 8, 8, 8, 8, 8, 8, 8, 8, 8, 8, 8, 8, 8, 8, 8, 8, 8, 8, 8, 8, 8, 8, 8, 8, 8, 8, 8, 8, 8, 8, 8, 8, 8, 8, 8, 8, 8, 8, 8, 8, 8, 8, 8, 8, 8, 8, 8, 8, 8, 8, 8, 8, 8, 8, 8, 8, 8, 8, 8, 8, 8, 8, 8, 8, 8, 8, 8, 8, 8, 8, 8, 8, 8, 8, 8, 8, 8, 8, 8, 8, 8, 8, 8, 8, 8, 8, 8, 8, 8, 8, 8, 8, 8, 8, 8, 8, 8, 8, 8, 8, 8, 8, 8, 8, 8, 8, 8, 8]⟩)) (.t 21)), .a 23 (.conv .i64 (.t 22)), .a 24 (.bin .add (.t 19) (.t 23)), .a 2 (.mv (.t 24))] [0, 14, 19, 20, 21, 22, 23, 24] [])
  .ret)))))⟩
def bits_Len64.hint : R.Hint := { kill := [(1, [3], []), (2, [2, 4, 5, 6], []), (4, [4, 7], []), (5, [8, 9, 10], []), (6, [11, 12], []), (7, [8, 13], []), (8, [14, 15, 16], []), (9, [17, 18], []), (10, [0, 14, 19, 20, 21, 22, 23, 24], [])] }
theorem bits_Len64.ok : cFn Tryd.prog bits_Len64.hint Tryd.f120 = some bits_Len64 := by kernel_rfl
def nat_To : R.Fn := ⟨1, [(.t 2), (.t 3)], (.seq (.reg [] [.a 2 (.mv (.c (.int .u64 0))), .a 3 (.mv (.c (.bool false)))] [2, 3] [])
  (.seq (.reg [] [.a 4 (.mv (.t 0)), .a 5 (.call F.nat_Clean [(.t 4)]), .a 0 (.mv (.t 5))] [4, 5] [])
  (.seq (.seq (.reg [] [.a 6 (.mv (.t 0)), .a 7 (.ln (.t 6))] [6] [])
  (.block 0 (.seq (.reg [] [.a 9 (.bin .eql (.t 7) (.c (.int .i64 0))), .a 8 (.mv (.t 9))] [9] [])
  (.cond (.t 8) (.seq (.reg [] [.a 2 (.mv (.c (.int .u64 0))), .a 3 (.mv (.c (.bool true)))] [0, 7, 8] [])
  .ret) (.seq (.reg [] [.a 11 (.bin .eql (.t 7) (.c (.int .i64 1))), .a 10 (.mv (.t 11))] [8, 11] [])
  (.cond (.t 10) (.seq (.reg [] [.a 12 (.mv (.t 0)), .a 13 (.iA 1 (.t 12) (.c (.int .i64 0))), .a 14 (.ld 1 false (.t 13)), .a 2 (.mv (.t 14)), .a 3 (.mv (.c (.bool true)))] [0, 7, 10, 12, 13, 14] [])
  .ret) (.seq (.reg [] [.a 16 (.bin .eql (.t 7) (.c (.int .i64 2))), .a 15 (.mv (.t 16))] [7, 10, 16] [])
  (.cond (.t 15) (.seq (.reg [] [.a 17 (.mv (.t 0)), .a 18 (.iA 1 (.t 17) (.c (.int .i64 1))), .a 19 (.ld 1 false (.t 18)), .a 20 (.bin .shl (.t 19) (.c (.int .u64 32))), .a 21 (.mv (.t 0)), .a 22 (.iA 1 (.t 21) (.c (.int .i64 0))), .a 23 (.ld 1 false (.t 22)), .a 24 (.bin .or (.t 20) (.t 23)), .a 2 (.mv (.t 24)), .a 3 (.mv (.c (.bool true)))] [0, 15, 17, 18, 19, 20, 21, 22, 23, 24] [])
  .ret) .skip))))))))
  (.seq (.reg [] [.a 2 (.mv (.c (.int .u64 0))), .a 3 (.mv (.c (.bool false)))] [0, 15] [])
  .ret))))⟩
def nat_To.hint : R.Hint := { kill := [(0, [2, 3], []), (1, [4, 5], []), (2, [6], []), (3, [9], []), (4, [0, 7, 8], []), (5, [8, 11], []), (6, [0, 7, 10, 12, 13, 14], []), (7, [7, 10, 16], []), (8, [0, 15, 17, 18, 19, 20, 21, 22, 23, 24], []), (9, [0, 15], [])] }
theorem nat_To.ok : cFn Tryd.prog nat_To.hint Tryd.f121 = some nat_To := by kernel_rfl
def dendronref03_Right : R.Fn := ⟨1, [(.t 2)], (.seq (.reg [] [.a 1 (.box (.t 0)), .a 2 (.mv (.c (.bool false)))] [0, 2] [])
  (.seq (.seq (.reg [] [.a 4 (.fA 0 (.t 1)), .a 5 (.fA 1 (.t 4)), .a 6 (.ld 1 false (.t 5)), .a 7 (.call F.dendronref01_Right [(.t 6)]), .a 8 (.un .not (.t 7)), .a 9 (.mv (.t 8)), .g 10 9 false (.fA 2 (.t 1)), .g 11 9 false (.ld 1 false (.t 10)), .g 12 9 false (.call F.dendronref01_Right [(.t 11)]), .g 13 9 false (.un .not (.t 12)), .a 14 (.pick (.t 9) (.c (.bool true)) (.t 13)), .a 15 (.mv (.t 14)), .g 16 15 false (.fA 2 (.t 1)), .g 17 15 false (.ld 1 false (.t 16)), .g 18 15 false (.ln (.t 17)), .g 19 15 false (.bin .eql (.t 18) (.c (.int .i64 0))), .a 20 (.pick (.t 15) (.c (.bool true)) (.t 19)), .a 21 (.mv (.t 20)), .g 22 21 false (.fA 0 (.t 1)), .g 23 21 false (.fA 1 (.t 22)), .g 24 21 false (.ld 1 false (.t 23)), .g 25 21 false (.ln (.t 24)), .g 26 21 false (.bin .eql (.t 25) (.c (.int .i64 0))), .g 27 21 false (.mv (.t 26)), .g 28 27 true (.fA 0 (.t 1)), .g 29 27 true (.fA 0 (.t 28)), .g 30 27 true (.ld 1 false (.t 29)), .g 31 21 false (.pick (.t 27) (.t 30) (.c (.bool false))), .a 32 (.pick (.t 21) (.c (.bool true)) (.t 31))] [4, 5, 6, 7, 8, 9, 10, 11, 12, 13, 14, 15, 16, 17, 18, 19, 20, 21, 22, 23, 24, 25, 26, 27, 28, 29, 30, 31] [])
  (.cond (.t 32) (.seq (.reg [] [.a 2 (.mv (.c (.bool false)))] [1, 32] [1])
  .ret) .skip))
  (.seq (.reg [] [.a 33 (.fA 0 (.t 1)), .a 34 (.fA 1 (.t 33)), .a 35 (.ld 1 false (.t 34)), .a 36 (.call F.dendronref01_From [(.t 35)]), .a 37 (.fA 2 (.t 1)), .a 38 (.ld 1 false (.t 37)), .a 39 (.call F.dendronref01_From [(.t 38)]), .a 40 (.call F.dendronref01_Gcd [(.t 36), (.t 39)]), .a 3 (.mv (.t 40))] [1, 32, 33, 34, 35, 36, 37, 38, 39, 40] [1])
  (.seq (.reg [] [.a 41 (.mv (.t 3)), .a 42 (.call F.dendronref01_Small [(.c (.int .i64 1))]), .a 43 (.call F.dendronref01_Order [(.t 41), (.t 42)]), .a 44 (.bin .eql (.t 43) (.c (.int .i64 0))), .a 2 (.mv (.t 44))] [3, 41, 42, 43, 44] [])
  .ret))))⟩
def dendronref03_Right.hint : R.Hint := { kill := [(0, [0, 2], []), (1, [4, 5, 6, 7, 8, 9, 10, 11, 12, 13, 14, 15, 16, 17, 18, 19, 20, 21, 22, 23, 24, 25, 26, 27, 28, 29, 30, 31], []), (2, [1, 32], [1]), (3, [1, 32, 33, 34, 35, 36, 37, 38, 39, 40], [1]), (4, [3, 41, 42, 43, 44], [])] }
theorem dendronref03_Right.ok : cFn Tryd.prog dendronref03_Right.hint Tryd.f123 = some dendronref03_Right := by kernel_rfl
def dendronref03_Order : R.Fn := ⟨2, [(.t 4)], (.seq (.reg [] [.a 2 (.box (.t 0)), .a 3 (.box (.t 1)), .a 4 (.mv (.c (.int .i64 0)))] [0, 1, 4] [])
  (.seq (.reg [] [.a 5 (.fA 0 (.t 2)), .a 6 (.ld 2 true (.t 5)), .a 7 (.ld 3 true (.t 3)), .a 8 (.call F.dendronref03_den [(.t 7)]), .a 9 (.call F.dendronref02_Times [(.t 6), (.t 8)]), .a 10 (.fA 0 (.t 3)), .a 11 (.ld 2 true (.t 10)), .a 12 (.ld 3 true (.t 2)), .a 13 (.call F.dendronref03_den [(.t 12)]), .a 14 (.call F.dendronref02_Times [(.t 11), (.t 13)]), .a 15 (.call F.dendronref02_Order [(.t 9), (.t 14)]), .a 4 (.mv (.t 15))] [2, 3, 5, 6, 7, 8, 9, 10, 11, 12, 13, 14, 15] [2, 3])
  .ret))⟩
def dendronref03_Order.hint : R.Hint := { kill := [(0, [0, 1, 4], []), (1, [2, 3, 5, 6, 7, 8, 9, 10, 11, 12, 13, 14, 15], [2, 3])] }
theorem dendronref03_Order.ok : cFn Tryd.prog dendronref03_Order.hint Tryd.f124 = some dendronref03_Order := by kernel_rfl
def dendronref01_From.b0 : R.C := (.seq (.seq (.reg [] [.a 10 (.mv (.t 5)), .a 11 (.bin .geq (.t 10) (.c (.int .i64 0)))] [10] [])
  (.cond (.t 11) .skip (.exit 0)))
  (.seq (.block 1 (.reg [] [.a 14 (.mv (.t 3)), .a 15 (.mv (.t 4)), .a 16 (.call F.dendronref01_Times [(.t 14), (.t 15)]), .a 17 (.mv (.t 0)), .a 18 (.mv (.t 5)), .a 19 (.iA 1 (.t 17) (.t 18)), .a 20 (.ld 1 false (.t 19)), .a 21 (.bin .and (.t 20) (.c (.int .u64 4294967295))), .a 22 (.conv .i64 (.t 21)), .a 23 (.call F.dendronref01_Small [(.t 22)]), .a 24 (.call F.dendronref01_Plus [(.t 16), (.t 23)]), .a 3 (.mv (.t 24))] [11, 14, 15, 16, 17, 18, 19, 20, 21, 22, 23, 24] []))
  (.reg [] [.a 12 (.mv (.t 5)), .a 13 (.bin .sub (.t 12) (.c (.int .i64 1))), .a 5 (.mv (.t 13))] [12, 13] [])))
def dendronref01_From : R.Fn := ⟨1, [(.t 2)], (.seq (.reg [] [.a 2 (.mv (.c (.sl 1 [])))] [2] [])
  (.seq (.reg [] [.a 3 (.mv (.c (.sl 1 [])))] [] [])
  (.seq (.reg [] [.a 6 (.call F.dendronref01_Small [(.c (.int .i64 4294967296))]), .a 4 (.mv (.t 6))] [6] [])
  (.seq (.seq (.reg [] [.a 7 (.mv (.t 0)), .a 8 (.ln (.t 7)), .a 9 (.bin .sub (.t 8) (.c (.int .i64 1))), .a 5 (.mv (.t 9))] [7, 8, 9] [])
  (.block 0 (.loop [] [] dendronref01_From.b0)))
  (.seq (.reg [] [.a 25 (.mv (.t 3)), .a 2 (.mv (.t 25))] [0, 3, 4, 5, 11, 25] [])
  .ret)))))⟩
def dendronref01_From.hint : R.Hint := { kill := [(0, [2], []), (2, [6], []), (3, [7, 8, 9], []), (4, [10], []), (5, [12, 13], []), (6, [11, 14, 15, 16, 17, 18, 19, 20, 21, 22, 23, 24], []), (7, [0, 3, 4, 5, 11, 25], [])] }
theorem dendronref01_From.ok : cFn Tryd.prog dendronref01_From.hint Tryd.f125 = some dendronref01_From := by kernel_rfl
def dendronref03_Small : R.Fn := ⟨2, [(.cell 4 3 true)], (.seq (.reg [] [.a 4 (.new [(.bool false), (.sl 1 []), (.sl 1 [])])] [] [])
  (.seq (.reg [] [.a 5 (.mv (.t 0)), .a 6 (.call F.dendronref02_Small [(.t 5)]), .a 7 (.mv (.t 1)), .a 8 (.call F.dendronref01_Small [(.t 7)]), .a 9 (.bld [(.bool false), (.sl 1 []), (.sl 1 [])] [(0, 2, (.t 6)), (2, 1, (.t 8))]), .n (.st 3 (.t 4) (.t 9))] [0, 1, 5, 6, 7, 8, 9] [])
  .ret))⟩
def dendronref03_Small.hint : R.Hint := { kill := [(1, [0, 1, 5, 6, 7, 8, 9], [])] }
theorem dendronref03_Small.ok : cFn Tryd.prog dendronref03_Small.hint Tryd.f126 = some dendronref03_Small := by kernel_rfl
def dendronref02_From : R.Fn := ⟨1, [(.cell 2 2 true)], (.seq (.reg [] [.a 1 (.box (.t 0)), .a 2 (.new [(.bool false), (.sl 1 [])])] [0] [])
  (.seq (.reg [] [.a 3 (.fA 0 (.t 1)), .a 4 (.ld 1 false (.t 3)), .a 5 (.fA 1 (.t 1)), .a 6 (.ld 1 false (.t 5)), .a 7 (.call F.dendronref01_From [(.t 6)]), .a 8 (.call F.dendronref02_Make [(.t 4), (.t 7)]), .n (.st 2 (.t 2) (.t 8))] [1, 3, 4, 5, 6, 7, 8] [1])
  .ret))⟩
def dendronref02_From.hint : R.Hint := { kill := [(0, [0], []), (1, [1, 3, 4, 5, 6, 7, 8], [1])] }
theorem dendronref02_From.ok : cFn Tryd.prog dendronref02_From.hint Tryd.f127 = some dendronref02_From := by kernel_rfl
def bits_LeadingZeros32 : R.Fn := ⟨1, [(.t 2)], (.seq (.reg [] [.a 2 (.mv (.c (.int .i64 0)))] [2] [])
  (.seq (.reg [] [.a 3 (.mv (.t 0)), .a 4 (.call F.bits_Len32 [(.t 3)]), .a 5 (.bin .sub (.c (.int .i64 32)) (.t 4)), .a 2 (.mv (.t 5))] [0, 3, 4, 5] [])
  .ret))⟩
def bits_LeadingZeros32.hint : R.Hint := { kill := [(0, [2], []), (1, [0, 3, 4, 5], [])] }
theorem bits_LeadingZeros32.ok : cFn Tryd.prog bits_LeadingZeros32.hint Tryd.f132 = some bits_LeadingZeros32 := by kernel_rfl
def nat_digit.b0 : R.C := (.seq (.seq (.reg [] [.a 36 (.mv (.t 7)), .a 37 (.bin .geq (.t 36) (.c (.int .u64 4294967296))), .a 38 (.mv (.t 37)), .g 39 38 false (.mv (.t 7)), .g 40 38 false (.mv (.t 1)), .g 41 38 false (.mv (.t 5)), .g 42 38 false (.bin .sub (.t 41) (.c (.int .i64 2))), .g 43 38 false (.iA 1 (.t 40) (.t 42)), .g 44 38 false (.ld 1 false (.t 43)), .g 45 38 false (.bin .mul (.t 39) (.t 44)), .g 46 38 false (.mv (.t 8)), .g 47 38 false (.bin .shl (.t 46) (.c (.int .u64 32))), .g 48 38 false (.mv (.t 0)), .g 49 38 false (.mv (.t 5)), .g 50 38 false (.bin .sub (.t 49) (.c (.int .i64 2))), .g 51 38 false (.iA 1 (.t 48) (.t 50)), .g 52 38 false (.ld 1 false (.t 51)), .g 53 38 false (.bin .or (.t 47) (.t 52)), .g 54 38 false (.bin .gtr (.t 45) (.t 53)), .a 55 (.pick (.t 38) (.c (.bool true)) (.t 54))] [36, 37, 38, 39, 40, 41, 42, 43, 44, 45, 46, 47, 48, 49, 50, 51, 52, 53, 54] [])
  (.cond (.t 55) .skip (.exit 0)))
  (.block 1 (.seq (.reg [] [.a 56 (.mv (.t 7)), .a 57 (.bin .sub (.t 56) (.c (.int .u64 1))), .a 7 (.mv (.t 57))] [55, 56, 57] [])
  (.seq (.reg [] [.a 58 (.mv (.t 8)), .a 59 (.mv (.t 1)), .a 60 (.mv (.t 5)), .a 61 (.bin .sub (.t 60) (.c (.int .i64 1))), .a 62 (.iA 1 (.t 59) (.t 61)), .a 63 (.ld 1 false (.t 62)), .a 64 (.bin .add (.t 58) (.t 63)), .a 8 (.mv (.t 64))] [58, 59, 60, 61, 62, 63, 64] [])
  (.seq (.reg [] [.a 65 (.mv (.t 8)), .a 66 (.bin .geq (.t 65) (.c (.int .u64 4294967296)))] [65] [])
  (.cond (.t 66) (.exit 0) .skip))))))
def nat_digit : R.Fn := ⟨2, [(.own 4)], (.seq (.reg [] [.a 4 (.mv (.c (.int .u64 0)))] [4] [])
  (.seq (.reg [] [.a 9 (.mv (.t 1)), .a 10 (.ln (.t 9)), .a 5 (.mv (.t 10))] [9, 10] [])
  (.seq (.reg [] [.a 11 (.mv (.t 0)), .a 12 (.mv (.t 5)), .a 13 (.iA 1 (.t 11) (.t 12)), .a 14 (.ld 1 false (.t 13)), .a 15 (.bin .shl (.t 14) (.c (.int .u64 32))), .a 16 (.mv (.t 0)), .a 17 (.mv (.t 5)), .a 18 (.bin .sub (.t 17) (.c (.int .i64 1))), .a 19 (.iA 1 (.t 16) (.t 18)), .a 20 (.ld 1 false (.t 19)), .a 21 (.bin .or (.t 15) (.t 20)), .a 6 (.mv (.t 21))] [11, 12, 13, 14, 15, 16, 17, 18, 19, 20, 21] [])
  (.seq (.reg [] [.a 22 (.mv (.t 6)), .a 23 (.mv (.t 1)), .a 24 (.mv (.t 5)), .a 25 (.bin .sub (.t 24) (.c (.int .i64 1))), .a 26 (.iA 1 (.t 23) (.t 25)), .a 27 (.ld 1 false (.t 26)), .a 28 (.bin .quo (.t 22) (.t 27)), .a 29 (.mv (.t 6)), .a 30 (.mv (.t 1)), .a 31 (.mv (.t 5)), .a 32 (.bin .sub (.t 31) (.c (.int .i64 1))), .a 33 (.iA 1 (.t 30) (.t 32)), .a 34 (.ld 1 false (.t 33)), .a 35 (.bin .rem (.t 29) (.t 34)), .a 7 (.mv (.t 28)), .a 8 (.mv (.t 35))] [6, 22, 23, 24, 25, 26, 27, 28, 29, 30, 31, 32, 33, 34, 35] [])
  (.seq (.block 0 (.loop [66] [] nat_digit.b0))
  (.seq (.seq (.reg [] [.a 67 (.mv (.t 0)), .a 68 (.mv (.t 1)), .a 69 (.mv (.t 7)), .a 70 (.callk F.nat_take [(true, (.t 67)), (false, (.t 68)), (false, (.t 69))])] [5, 8, 55, 66, 67, 68, 69] [])
  (.cond (.t 70) (.seq (.reg [] [.a 71 (.mv (.t 7)), .a 72 (.bin .sub (.t 71) (.c (.int .u64 1))), .a 7 (.mv (.t 72))] [70, 71, 72] [70, 1070, 2070, 3070])
  (.reg [] [.a 73 (.mv (.t 0)), .a 74 (.mv (.t 1)), .a 75 (.callk F.nat_give [(true, (.t 73)), (false, (.t 74))])] [0, 1, 73, 74, 75] [75, 1075, 2075, 3075])) .skip))
  (.seq (.reg [] [.a 76 (.mv (.t 7)), .a 4 (.mv (.t 76))] [0, 1, 7, 70, 76] [70, 1070, 2070, 3070])
  .ret)))))))⟩
def nat_digit.hint : R.Hint := { callk := [(70, [true, false, false]), (75, [true, false])], kill := [(0, [4], []), (1, [9, 10], []), (2, [11, 12, 13, 14, 15, 16, 17, 18, 19, 20, 21], []), (3, [6, 22, 23, 24, 25, 26, 27, 28, 29, 30, 31, 32, 33, 34, 35], []), (4, [36, 37, 38, 39, 40, 41, 42, 43, 44, 45, 46, 47, 48, 49, 50, 51, 52, 53, 54], []), (5, [55, 56, 57], []), (6, [58, 59, 60, 61, 62, 63, 64], []), (7, [65], []), (8, [5, 8, 55, 66, 67, 68, 69], []), (9, [70, 71, 72], [70, 1070, 2070, 3070]), (10, [0, 1, 73, 74, 75], [75, 1075, 2075, 3075]), (11, [0, 1, 7, 70, 76], [70, 1070, 2070, 3070])], loop := [(0, [66], [])], own := true }
theorem nat_digit.ok : cFn Tryd.prog nat_digit.hint Tryd.f133 = some nat_digit := by kernel_rfl
def dendronref01_Right.b0 : R.C := (.seq (.seq (.reg [] [.a 4 (.mv (.t 3)), .a 5 (.mv (.t 0)), .a 6 (.ln (.t 5)), .a 7 (.bin .lss (.t 4) (.t 6))] [4, 5, 6] [])
  (.cond (.t 7) .skip (.exit 0)))
  (.seq (.block 1 (.seq (.reg [] [.a 10 (.mv (.t 0)), .a 11 (.mv (.t 3)), .a 12 (.iA 1 (.t 10) (.t 11)), .a 13 (.ld 1 false (.t 12)), .a 14 (.bin .gtr (.t 13) (.c (.int .u64 4294967295)))] [7, 10, 11, 12, 13] [])
  (.cond (.t 14) (.seq (.reg [] [.a 2 (.mv (.c (.bool false)))] [0, 3, 14] [])
  .ret) .skip)))
  (.reg [] [.a 8 (.mv (.t 3)), .a 9 (.bin .add (.t 8) (.c (.int .i64 1))), .a 3 (.mv (.t 9))] [8, 9, 14] [])))
def dendronref01_Right : R.Fn := ⟨1, [(.t 2)], (.seq (.reg [] [.a 2 (.mv (.c (.bool false)))] [2] [])
  (.seq (.seq (.reg [] [.a 3 (.mv (.c (.int .i64 0)))] [] [])
  (.block 0 (.loop [] [] dendronref01_Right.b0)))
  (.seq (.reg [] [.a 15 (.mv (.t 0)), .a 16 (.ln (.t 15)), .a 17 (.bin .eql (.t 16) (.c (.int .i64 0))), .a 18 (.mv (.t 17)), .g 19 18 false (.mv (.t 0)), .g 20 18 false (.mv (.t 0)), .g 21 18 false (.ln (.t 20)), .g 22 18 false (.bin .sub (.t 21) (.c (.int .i64 1))), .g 23 18 false (.iA 1 (.t 19) (.t 22)), .g 24 18 false (.ld 1 false (.t 23)), .g 25 18 false (.bin .neq (.t 24) (.c (.int .u64 0))), .a 26 (.pick (.t 18) (.c (.bool true)) (.t 25)), .a 2 (.mv (.t 26))] [0, 3, 7, 15, 16, 17, 18, 19, 20, 21, 22, 23, 24, 25, 26] [])
  .ret)))⟩
def dendronref01_Right.hint : R.Hint := { kill := [(0, [2], []), (2, [4, 5, 6], []), (3, [8, 9, 14], []), (4, [7, 10, 11, 12, 13], []), (5, [0, 3, 14], []), (6, [0, 3, 7, 15, 16, 17, 18, 19, 20, 21, 22, 23, 24, 25, 26], [])] }
theorem dendronref01_Right.ok : cFn Tryd.prog dendronref01_Right.hint Tryd.f134 = some dendronref01_Right := by kernel_rfl
def dendronref01_Gcd.b0 : R.C := (.seq (.seq (.reg [] [.a 7 (.mv (.t 1)), .a 8 (.ln (.t 7)), .a 9 (.bin .gtr (.t 8) (.c (.int .i64 0)))] [7, 8] [])
  (.cond (.t 9) .skip (.exit 0)))
  (.block 1 (.seq (.reg [] [.a 11 (.mv (.t 0)), .a 12 (.mv (.t 1)), .a 13 (.call F.dendronref01_Over [(.t 11), (.t 12)]), .a 10 (.mv (.t 13)), .a 14 (.ext (.t 10) 0), .a 15 (.ext (.t 10) 1), .a 5 (.mv (.t 14)), .a 6 (.mv (.t 15))] [0, 5, 9, 10, 11, 12, 13, 14, 15] [])
  (.seq (.reg [] [.a 16 (.mv (.t 1)), .a 0 (.mv (.t 16))] [1, 16] [])
  (.reg [] [.a 17 (.mv (.t 6)), .a 1 (.mv (.t 17))] [6, 17] [])))))
def dendronref01_Gcd : R.Fn := ⟨2, [(.t 4)], (.seq (.reg [] [.a 4 (.mv (.c (.sl 1 [])))] [4] [])
  (.seq (.block 0 (.loop [] [] dendronref01_Gcd.b0))
  (.seq (.reg [] [.a 18 (.mv (.t 0)), .a 4 (.mv (.t 18))] [0, 1, 9, 18] [])
  .ret)))⟩
def dendronref01_Gcd.hint : R.Hint := { kill := [(0, [4], []), (1, [7, 8], []), (2, [0, 5, 9, 10, 11, 12, 13, 14, 15], []), (3, [1, 16], []), (4, [6, 17], []), (5, [0, 1, 9, 18], [])] }
theorem dendronref01_Gcd.ok : cFn Tryd.prog dendronref01_Gcd.hint Tryd.f135 = some dendronref01_Gcd := by kernel_rfl
def dendronref01_Order.b0 : R.C := (.seq (.seq (.reg [] [.a 19 (.mv (.t 5)), .a 20 (.bin .geq (.t 19) (.c (.int .i64 0)))] [19] [])
  (.cond (.t 20) .skip (.exit 0)))
  (.seq (.block 1 (.seq (.seq (.reg [] [.a 23 (.mv (.t 0)), .a 24 (.mv (.t 5)), .a 25 (.iA 1 (.t 23) (.t 24)), .a 26 (.ld 1 false (.t 25)), .a 27 (.mv (.t 1)), .a 28 (.mv (.t 5)), .a 29 (.iA 1 (.t 27) (.t 28)), .a 30 (.ld 1 false (.t 29)), .a 31 (.bin .lss (.t 26) (.t 30))] [20, 23, 24, 25, 26, 27, 28, 29, 30] [])
  (.cond (.t 31) (.seq (.reg [] [.a 4 (.mv (.c (.int .i64 (-1))))] [0, 1, 5, 31] [])
  .ret) .skip))
  (.seq (.reg [] [.a 32 (.mv (.t 0)), .a 33 (.mv (.t 5)), .a 34 (.iA 1 (.t 32) (.t 33)), .a 35 (.ld 1 false (.t 34)), .a 36 (.mv (.t 1)), .a 37 (.mv (.t 5)), .a 38 (.iA 1 (.t 36) (.t 37)), .a 39 (.ld 1 false (.t 38)), .a 40 (.bin .gtr (.t 35) (.t 39))] [31, 32, 33, 34, 35, 36, 37, 38, 39] [])
  (.cond (.t 40) (.seq (.reg [] [.a 4 (.mv (.c (.int .i64 1)))] [0, 1, 5, 40] [])
  .ret) .skip))))
  (.reg [] [.a 21 (.mv (.t 5)), .a 22 (.bin .sub (.t 21) (.c (.int .i64 1))), .a 5 (.mv (.t 22))] [21, 22, 40] [])))
def dendronref01_Order : R.Fn := ⟨2, [(.t 4)], (.seq (.reg [] [.a 4 (.mv (.c (.int .i64 0)))] [4] [])
  (.seq (.seq (.reg [] [.a 6 (.mv (.t 0)), .a 7 (.ln (.t 6)), .a 8 (.mv (.t 1)), .a 9 (.ln (.t 8)), .a 10 (.bin .neq (.t 7) (.t 9))] [6, 7, 8, 9] [])
  (.cond (.t 10) (.seq (.seq (.reg [] [.a 11 (.mv (.t 0)), .a 12 (.ln (.t 11)), .a 13 (.mv (.t 1)), .a 14 (.ln (.t 13)), .a 15 (.bin .lss (.t 12) (.t 14))] [0, 1, 10, 11, 12, 13, 14] [])
  (.cond (.t 15) (.seq (.reg [] [.a 4 (.mv (.c (.int .i64 (-1))))] [15] [])
  .ret) .skip))
  (.seq (.reg [] [.a 4 (.mv (.c (.int .i64 1)))] [15] [])
  .ret)) .skip))
  (.seq (.seq (.reg [] [.a 16 (.mv (.t 0)), .a 17 (.ln (.t 16)), .a 18 (.bin .sub (.t 17) (.c (.int .i64 1))), .a 5 (.mv (.t 18))] [10, 16, 17, 18] [])
  (.block 0 (.loop [] [] dendronref01_Order.b0)))
  (.seq (.reg [] [.a 4 (.mv (.c (.int .i64 0)))] [0, 1, 5, 20] [])
  .ret))))⟩
def dendronref01_Order.hint : R.Hint := { kill := [(0, [4], []), (1, [6, 7, 8, 9], []), (2, [0, 1, 10, 11, 12, 13, 14], []), (3, [15], []), (4, [15], []), (5, [10, 16, 17, 18], []), (6, [19], []), (7, [21, 22, 40], []), (8, [20, 23, 24, 25, 26, 27, 28, 29, 30], []), (9, [0, 1, 5, 31], []), (10, [31, 32, 33, 34, 35, 36, 37, 38, 39], []), (11, [0, 1, 5, 40], []), (12, [0, 1, 5, 20], [])] }
theorem dendronref01_Order.ok : cFn Tryd.prog dendronref01_Order.hint Tryd.f136 = some dendronref01_Order := by kernel_rfl
def dendronref01_Small.b0 : R.C := (.seq (.seq (.reg [] [.a 4 (.mv (.t 0)), .a 5 (.bin .gtr (.t 4) (.c (.int .i64 0)))] [4] [])
  (.cond (.t 5) .skip (.exit 0)))
  (.block 1 (.seq (.reg [] [.a 6 (.mv (.t 3)), .a 7 (.mv (.t 0)), .a 8 (.bin .rem (.t 7) (.c (.int .i64 10000))), .a 9 (.lit 1 1 [(.int .i64 0)] [(0, 1, (.t 8))]), .a 10 (.app 1 8 (.t 6) (.t 9)), .a 3 (.mv (.t 10))] [5, 6, 7, 8, 9, 10] [])
  (.reg [] [.a 11 (.mv (.t 0)), .a 12 (.bin .quo (.t 11) (.c (.int .i64 10000))), .a 0 (.mv (.t 12))] [11, 12] []))))
def dendronref01_Small : R.Fn := ⟨1, [(.t 2)], (.seq (.reg [] [.a 2 (.mv (.c (.sl 1 [])))] [2] [])
  (.seq (.reg [] [.a 3 (.nil 1)] [] [])
  (.seq (.block 0 (.loop [] [] dendronref01_Small.b0))
  (.seq (.reg [] [.a 13 (.mv (.t 3)), .a 2 (.mv (.t 13))] [0, 3, 5, 13] [])
  .ret))))⟩
def dendronref01_Small.hint : R.Hint := { nil := [3], kill := [(0, [2], []), (2, [4], []), (3, [5, 6, 7, 8, 9, 10], []), (4, [11, 12], []), (5, [0, 3, 5, 13], [])] }
theorem dendronref01_Small.ok : cFn Tryd.prog dendronref01_Small.hint Tryd.f137 = some dendronref01_Small := by kernel_rfl
def dendronref02_Order : R.Fn := ⟨2, [(.t 4)], (.seq (.reg [] [.a 2 (.box (.t 0)), .a 3 (.box (.t 1)), .a 4 (.mv (.c (.int .i64 0)))] [0, 1, 4] [])
  (.seq (.seq (.reg [] [.a 5 (.fA 0 (.t 2)), .a 6 (.ld 1 false (.t 5)), .a 7 (.mv (.t 6)), .g 8 7 true (.fA 0 (.t 3)), .g 9 7 true (.ld 1 false (.t 8)), .g 10 7 true (.un .not (.t 9)), .a 11 (.pick (.t 7) (.t 10) (.c (.bool false)))] [5, 6, 7, 8, 9, 10] [])
  (.cond (.t 11) (.seq (.reg [] [.a 4 (.mv (.c (.int .i64 (-1))))] [2, 3, 11] [2, 3])
  .ret) .skip))
  (.seq (.seq (.reg [] [.a 12 (.fA 0 (.t 2)), .a 13 (.ld 1 false (.t 12)), .a 14 (.un .not (.t 13)), .a 15 (.mv (.t 14)), .g 16 15 true (.fA 0 (.t 3)), .g 17 15 true (.ld 1 false (.t 16)), .a 18 (.pick (.t 15) (.t 17) (.c (.bool false)))] [11, 12, 13, 14, 15, 16, 17] [])
  (.cond (.t 18) (.seq (.reg [] [.a 4 (.mv (.c (.int .i64 1)))] [2, 3, 18] [2, 3])
  .ret) .skip))
  (.seq (.seq (.reg [] [.a 19 (.fA 0 (.t 2)), .a 20 (.ld 1 false (.t 19))] [18, 19] [])
  (.cond (.t 20) (.seq (.reg [] [.a 21 (.fA 1 (.t 3)), .a 22 (.ld 1 false (.t 21)), .a 23 (.fA 1 (.t 2)), .a 24 (.ld 1 false (.t 23)), .a 25 (.call F.dendronref01_Order [(.t 22), (.t 24)]), .a 4 (.mv (.t 25))] [2, 3, 20, 21, 22, 23, 24, 25] [2, 3])
  .ret) .skip))
  (.seq (.reg [] [.a 26 (.fA 1 (.t 2)), .a 27 (.ld 1 false (.t 26)), .a 28 (.fA 1 (.t 3)), .a 29 (.ld 1 false (.t 28)), .a 30 (.call F.dendronref01_Order [(.t 27), (.t 29)]), .a 4 (.mv (.t 30))] [2, 3, 20, 26, 27, 28, 29, 30] [2, 3])
  .ret)))))⟩
def dendronref02_Order.hint : R.Hint := { kill := [(0, [0, 1, 4], []), (1, [5, 6, 7, 8, 9, 10], []), (2, [2, 3, 11], [2, 3]), (3, [11, 12, 13, 14, 15, 16, 17], []), (4, [2, 3, 18], [2, 3]), (5, [18, 19], []), (6, [2, 3, 20, 21, 22, 23, 24, 25], [2, 3]), (7, [2, 3, 20, 26, 27, 28, 29, 30], [2, 3])] }
theorem dendronref02_Order.ok : cFn Tryd.prog dendronref02_Order.hint Tryd.f138 = some dendronref02_Order := by kernel_rfl
def dendronref02_Times : R.Fn := ⟨2, [(.cell 4 2 true)], (.seq (.reg [] [.a 2 (.box (.t 0)), .a 3 (.box (.t 1)), .a 4 (.new [(.bool false), (.sl 1 [])])] [0, 1] [])
  (.seq (.reg [] [.a 5 (.fA 0 (.t 2)), .a 6 (.ld 1 false (.t 5)), .a 7 (.fA 0 (.t 3)), .a 8 (.ld 1 false (.t 7)), .a 9 (.beq true (.t 6) (.t 8)), .a 10 (.fA 1 (.t 2)), .a 11 (.ld 1 false (.t 10)), .a 12 (.fA 1 (.t 3)), .a 13 (.ld 1 false (.t 12)), .a 14 (.call F.dendronref01_Times [(.t 11), (.t 13)]), .a 15 (.call F.dendronref02_Make [(.t 9), (.t 14)]), .n (.st 2 (.t 4) (.t 15))] [2, 3, 5, 6, 7, 8, 9, 10, 11, 12, 13, 14, 15] [2, 3])
  .ret))⟩
def dendronref02_Times.hint : R.Hint := { kill := [(0, [0, 1], []), (1, [2, 3, 5, 6, 7, 8, 9, 10, 11, 12, 13, 14, 15], [2, 3])] }
theorem dendronref02_Times.ok : cFn Tryd.prog dendronref02_Times.hint Tryd.f139 = some dendronref02_Times := by kernel_rfl
def dendronref03_den : R.Fn := ⟨1, [(.cell 2 2 true)], (.seq (.reg [] [.a 1 (.box (.t 0)), .a 2 (.new [(.bool false), (.sl 1 [])])] [0] [])
  (.seq (.reg [] [.a 3 (.fA 2 (.t 1)), .a 4 (.ld 1 false (.t 3)), .a 5 (.call F.dendronref02_Make [(.c (.bool false)), (.t 4)]), .n (.st 2 (.t 2) (.t 5))] [1, 3, 4, 5] [1])
  .ret))⟩
def dendronref03_den.hint : R.Hint := { kill := [(0, [0], []), (1, [1, 3, 4, 5], [1])] }
theorem dendronref03_den.ok : cFn Tryd.prog dendronref03_den.hint Tryd.f140 = some dendronref03_den := by kernel_rfl
def dendronref01_Plus.b0 : R.C := (.seq (.seq (.reg [] [.a 8 (.mv (.t 7)), .a 9 (.mv (.t 0)), .a 10 (.ln (.t 9)), .a 11 (.bin .lss (.t 8) (.t 10)), .a 12 (.mv (.t 11)), .g 13 12 false (.mv (.t 7)), .g 14 12 false (.mv (.t 1)), .g 15 12 false (.ln (.t 14)), .g 16 12 false (.bin .lss (.t 13) (.t 15)), .a 17 (.pick (.t 12) (.c (.bool true)) (.t 16)), .a 18 (.mv (.t 17)), .g 19 18 false (.mv (.t 6)), .g 20 18 false (.bin .gtr (.t 19) (.c (.int .i64 0))), .a 21 (.pick (.t 18) (.c (.bool true)) (.t 20))] [8, 9, 10, 11, 12, 13, 14, 15, 16, 17, 18, 19, 20] [])
  (.cond (.t 21) .skip (.exit 0)))
  (.seq (.block 1 (.seq (.reg [] [.a 24 (.mv (.t 6)), .a 25 (.mv (.t 0)), .a 26 (.mv (.t 7)), .a 27 (.call F.dendronref01_digit [(.t 25), (.t 26)]), .a 28 (.bin .add (.t 24) (.t 27)), .a 29 (.mv (.t 1)), .a 30 (.mv (.t 7)), .a 31 (.call F.dendronref01_digit [(.t 29), (.t 30)]), .a 32 (.bin .add (.t 28) (.t 31)), .a 6 (.mv (.t 32))] [21, 24, 25, 26, 27, 28, 29, 30, 31, 32] [])
  (.seq (.reg [] [.a 33 (.mv (.t 5)), .a 34 (.mv (.t 6)), .a 35 (.bin .rem (.t 34) (.c (.int .i64 10000))), .a 36 (.lit 1 1 [(.int .i64 0)] [(0, 1, (.t 35))]), .a 37 (.app 1 8 (.t 33) (.t 36)), .a 5 (.mv (.t 37))] [33, 34, 35, 36, 37] [])
  (.reg [] [.a 38 (.mv (.t 6)), .a 39 (.bin .quo (.t 38) (.c (.int .i64 10000))), .a 6 (.mv (.t 39))] [38, 39] []))))
  (.reg [] [.a 22 (.mv (.t 7)), .a 23 (.bin .add (.t 22) (.c (.int .i64 1))), .a 7 (.mv (.t 23))] [22, 23] [])))
def dendronref01_Plus : R.Fn := ⟨2, [(.t 4)], (.seq (.reg [] [.a 4 (.mv (.c (.sl 1 [])))] [4] [])
  (.seq (.reg [] [.a 5 (.nil 1)] [] [])
  (.seq (.reg [] [.a 6 (.mv (.c (.int .i64 0)))] [] [])
  (.seq (.seq (.reg [] [.a 7 (.mv (.c (.int .i64 0)))] [] [])
  (.block 0 (.loop [] [] dendronref01_Plus.b0)))
  (.seq (.reg [] [.a 40 (.mv (.t 5)), .a 4 (.mv (.t 40))] [0, 1, 5, 6, 7, 21, 40] [])
  .ret)))))⟩
def dendronref01_Plus.hint : R.Hint := { nil := [5], kill := [(0, [4], []), (4, [8, 9, 10, 11, 12, 13, 14, 15, 16, 17, 18, 19, 20], []), (5, [22, 23], []), (6, [21, 24, 25, 26, 27, 28, 29, 30, 31, 32], []), (7, [33, 34, 35, 36, 37], []), (8, [38, 39], []), (9, [0, 1, 5, 6, 7, 21, 40], [])] }
theorem dendronref01_Plus.ok : cFn Tryd.prog dendronref01_Plus.hint Tryd.f141 = some dendronref01_Plus := by kernel_rfl
def dendronref01_Times.b2 : R.C := (.seq (.seq (.reg [] [.a 21 (.mv (.t 8)), .a 22 (.mv (.t 1)), .a 23 (.ln (.t 22)), .a 24 (.bin .lss (.t 21) (.t 23))] [21, 22, 23] [])
  (.cond (.t 24) .skip (.exit 2)))
  (.seq (.block 3 (.seq (.reg [] [.a 27 (.mv (.t 7)), .a 28 (.mv (.t 5)), .a 29 (.mv (.t 6)), .a 30 (.mv (.t 8)), .a 31 (.bin .add (.t 29) (.t 30)), .a 32 (.iA 1 (.t 28) (.t 31)), .a 33 (.ld 1 false (.t 32)), .a 34 (.bin .add (.t 27) (.t 33)), .a 35 (.mv (.t 0)), .a 36 (.mv (.t 6)), .a 37 (.iA 1 (.t 35) (.t 36)), .a 38 (.ld 1 false (.t 37)), .a 39 (.mv (.t 1)), .a 40 (.mv (.t 8)), .a 41 (.iA 1 (.t 39) (.t 40)), .a 42 (.ld 1 false (.t 41)), .a 43 (.bin .mul (.t 38) (.t 42)), .a 44 (.bin .add (.t 34) (.t 43)), .a 7 (.mv (.t 44))] [24, 27, 28, 29, 30, 31, 32, 33, 34, 35, 36, 37, 38, 39, 40, 41, 42, 43, 44] [])
  (.seq (.reg [] [.a 45 (.mv (.t 5)), .a 46 (.mv (.t 6)), .a 47 (.mv (.t 8)), .a 48 (.bin .add (.t 46) (.t 47)), .a 49 (.mv (.t 7)), .a 50 (.bin .rem (.t 49) (.c (.int .i64 10000))), .a 51 (.iA 1 (.t 45) (.t 48)), .n (.st 1 (.t 51) (.t 50))] [45, 46, 47, 48, 49, 50, 51] [])
  (.reg [] [.a 52 (.mv (.t 7)), .a 53 (.bin .quo (.t 52) (.c (.int .i64 10000))), .a 7 (.mv (.t 53))] [52, 53] []))))
  (.reg [] [.a 25 (.mv (.t 8)), .a 26 (.bin .add (.t 25) (.c (.int .i64 1))), .a 8 (.mv (.t 26))] [25, 26] [])))
def dendronref01_Times.b0 : R.C := (.seq (.seq (.reg [] [.a 15 (.mv (.t 6)), .a 16 (.mv (.t 0)), .a 17 (.ln (.t 16)), .a 18 (.bin .lss (.t 15) (.t 17))] [15, 16, 17] [])
  (.cond (.t 18) .skip (.exit 0)))
  (.seq (.block 1 (.seq (.reg [] [.a 7 (.mv (.c (.int .i64 0)))] [18] [])
  (.seq (.seq (.reg [] [.a 8 (.mv (.c (.int .i64 0)))] [] [])
  (.block 2 (.loop [] [] dendronref01_Times.b2)))
  (.reg [] [.a 54 (.mv (.t 5)), .a 55 (.mv (.t 6)), .a 56 (.mv (.t 1)), .a 57 (.ln (.t 56)), .a 58 (.bin .add (.t 55) (.t 57)), .a 59 (.mv (.t 7)), .a 60 (.iA 1 (.t 54) (.t 58)), .n (.st 1 (.t 60) (.t 59))] [7, 8, 24, 54, 55, 56, 57, 58, 59, 60] []))))
  (.reg [] [.a 19 (.mv (.t 6)), .a 20 (.bin .add (.t 19) (.c (.int .i64 1))), .a 6 (.mv (.t 20))] [19, 20] [])))
def dendronref01_Times : R.Fn := ⟨2, [(.t 4)], (.seq (.reg [] [.a 4 (.mv (.c (.sl 1 [])))] [4] [])
  (.seq (.reg [] [.a 9 (.mv (.t 0)), .a 10 (.ln (.t 9)), .a 11 (.mv (.t 1)), .a 12 (.ln (.t 11)), .a 13 (.bin .add (.t 10) (.t 12)), .a 14 (.mk 1 8 [(.int .i64 0)] (.t 13) (.t 13)), .a 5 (.mv (.t 14))] [9, 10, 11, 12, 13, 14] [])
  (.seq (.seq (.reg [] [.a 6 (.mv (.c (.int .i64 0)))] [] [])
  (.block 0 (.loop [] [] dendronref01_Times.b0)))
  (.seq (.reg [5] [.a 61 (.mv (.t 5)), .a 62 (.call F.dendronref01_Trim [(.t 61)]), .a 4 (.mv (.t 62))] [0, 1, 5, 6, 18, 61, 62] [14])
  .ret))))⟩
def dendronref01_Times.hint : R.Hint := { pub := [(13, [5])], kill := [(0, [4], []), (1, [9, 10, 11, 12, 13, 14], []), (3, [15, 16, 17], []), (4, [19, 20], []), (5, [18], []), (7, [21, 22, 23], []), (8, [25, 26], []), (9, [24, 27, 28, 29, 30, 31, 32, 33, 34, 35, 36, 37, 38, 39, 40, 41, 42, 43, 44], []), (10, [45, 46, 47, 48, 49, 50, 51], []), (11, [52, 53], []), (12, [7, 8, 24, 54, 55, 56, 57, 58, 59, 60], []), (13, [0, 1, 5, 6, 18, 61, 62], [14])] }
theorem dendronref01_Times.ok : cFn Tryd.prog dendronref01_Times.hint Tryd.f142 = some dendronref01_Times := by kernel_rfl
def dendronref02_Small : R.Fn := ⟨1, [(.cell 2 2 true)], (.seq (.reg [] [.a 2 (.new [(.bool false), (.sl 1 [])])] [] [])
  (.seq (.seq (.reg [] [.a 3 (.mv (.t 0)), .a 4 (.bin .lss (.t 3) (.c (.int .i64 0)))] [3] [])
  (.cond (.t 4) (.seq (.reg [] [.a 5 (.mv (.t 0)), .a 6 (.bin .add (.t 5) (.c (.int .i64 1))), .a 7 (.bin .sub (.c (.int .i64 0)) (.t 6)), .a 8 (.call F.dendronref01_Small [(.t 7)]), .a 9 (.call F.dendronref01_Small [(.c (.int .i64 1))]), .a 10 (.call F.dendronref01_Plus [(.t 8), (.t 9)]), .a 11 (.call F.dendronref02_Make [(.c (.bool true)), (.t 10)]), .n (.st 2 (.t 2) (.t 11))] [0, 4, 5, 6, 7, 8, 9, 10, 11] [])
  .ret) .skip))
  (.seq (.reg [] [.a 12 (.mv (.t 0)), .a 13 (.call F.dendronref01_Small [(.t 12)]), .a 14 (.call F.dendronref02_Make [(.c (.bool false)), (.t 13)]), .n (.st 2 (.t 2) (.t 14))] [0, 4, 12, 13, 14] [])
  .ret)))⟩
def dendronref02_Small.hint : R.Hint := { kill := [(1, [3], []), (2, [0, 4, 5, 6, 7, 8, 9, 10, 11], []), (3, [0, 4, 12, 13, 14], [])] }
theorem dendronref02_Small.ok : cFn Tryd.prog dendronref02_Small.hint Tryd.f143 = some dendronref02_Small := by kernel_rfl
def dendronref02_Make : R.Fn := ⟨2, [(.cell 4 2 true)], (.seq (.reg [] [.a 4 (.new [(.bool false), (.sl 1 [])])] [] [])
  (.seq (.reg [] [.a 5 (.mv (.t 0)), .a 6 (.mv (.t 5)), .g 7 6 true (.mv (.t 1)), .g 8 6 true (.ln (.t 7)), .g 9 6 true (.bin .gtr (.t 8) (.c (.int .i64 0))), .a 10 (.pick (.t 6) (.t 9) (.c (.bool false))), .a 11 (.mv (.t 1)), .a 12 (.bld [(.bool false), (.sl 1 [])] [(0, 1, (.t 10)), (1, 1, (.t 11))]), .n (.st 2 (.t 4) (.t 12))] [0, 1, 5, 6, 7, 8, 9, 10, 11, 12] [])
  .ret))⟩
def dendronref02_Make.hint : R.Hint := { kill := [(1, [0, 1, 5, 6, 7, 8, 9, 10, 11, 12], [])] }
theorem dendronref02_Make.ok : cFn Tryd.prog dendronref02_Make.hint Tryd.f144 = some dendronref02_Make := by kernel_rfl
def nat_take.b0 : R.C := (.seq (.reg [] [.a 14 (.bin .lss (.t 13) (.t 12))] [] [])
  (.seq (.cond (.t 14) .skip (.exit 0))
  (.seq (.block 1 (.seq (.reg [] [.a 15 (.mv (.t 13)), .a 9 (.mv (.t 15))] [14, 15] [])
  (.seq (.reg [] [.a 16 (.mv (.t 7)), .a 17 (.mv (.t 2)), .a 18 (.mv (.t 1)), .a 19 (.mv (.t 9)), .a 20 (.call F.nat_limb [(.t 18), (.t 19)]), .a 21 (.bin .mul (.t 17) (.t 20)), .a 22 (.bin .add (.t 16) (.t 21)), .a 7 (.mv (.t 22))] [16, 17, 18, 19, 20, 21, 22] [])
  (.seq (.reg [] [.a 23 (.mv (.t 0)), .a 24 (.mv (.t 9)), .a 25 (.iA 1 (.t 23) (.t 24)), .a 26 (.ld 1 false (.t 25)), .a 27 (.bin .add (.c (.int .u64 4294967296)) (.t 26)), .a 28 (.mv (.t 7)), .a 29 (.bin .and (.t 28) (.c (.int .u64 4294967295))), .a 30 (.bin .sub (.t 27) (.t 29)), .a 31 (.mv (.t 8)), .a 32 (.bin .sub (.t 30) (.t 31)), .a 10 (.mv (.t 32))] [8, 23, 24, 25, 26, 27, 28, 29, 30, 31, 32] [])
  (.seq (.reg [] [.a 33 (.mv (.t 0)), .a 34 (.mv (.t 9)), .a 35 (.mv (.t 10)), .a 36 (.bin .and (.t 35) (.c (.int .u64 4294967295))), .a 37 (.iA 1 (.t 33) (.t 34)), .n (.st 1 (.t 37) (.t 36))] [9, 33, 34, 35, 36, 37] [])
  (.seq (.reg [] [.a 38 (.mv (.t 10)), .a 39 (.bin .shr (.t 38) (.c (.int .u64 32))), .a 40 (.bin .sub (.c (.int .u64 1)) (.t 39)), .a 8 (.mv (.t 40))] [10, 38, 39, 40] [])
  (.reg [] [.a 41 (.mv (.t 7)), .a 42 (.bin .shr (.t 41) (.c (.int .u64 32))), .a 7 (.mv (.t 42))] [41, 42] [])))))))
  (.reg [] [.a 43 (.bin .add (.t 13) (.c (.int .i64 1))), .a 13 (.mv (.t 43))] [43] []))))
def nat_take : R.Fn := ⟨3, [(.own 6)], (.seq (.reg [] [.a 6 (.mv (.c (.bool false)))] [6] [])
  (.seq (.reg [] [.a 7 (.mv (.c (.int .u64 0))), .a 8 (.mv (.c (.int .u64 0)))] [] [])
  (.seq (.seq (.reg [] [.a 11 (.mv (.t 0)), .a 12 (.ln (.t 11)), .a 13 (.mv (.c (.int .i64 0)))] [11] [])
  (.block 0 (.loop [] [] nat_take.b0)))
  (.seq (.reg [] [.a 44 (.mv (.t 8)), .a 45 (.bin .eql (.t 44) (.c (.int .u64 1))), .a 6 (.mv (.t 45))] [0, 1, 2, 7, 8, 12, 13, 14, 44, 45] [])
  .ret))))⟩
def nat_take.hint : R.Hint := { kill := [(0, [6], []), (2, [11], []), (4, [14, 15], []), (5, [16, 17, 18, 19, 20, 21, 22], []), (6, [8, 23, 24, 25, 26, 27, 28, 29, 30, 31, 32], []), (7, [9, 33, 34, 35, 36, 37], []), (8, [10, 38, 39, 40], []), (9, [41, 42], []), (10, [43], []), (11, [0, 1, 2, 7, 8, 12, 13, 14, 44, 45], [])], own := true }
theorem nat_take.ok : cFn Tryd.prog nat_take.hint Tryd.f149 = some nat_take := by kernel_rfl
def nat_give.b0 : R.C := (.seq (.reg [] [.a 9 (.bin .lss (.t 8) (.t 7))] [] [])
  (.seq (.cond (.t 9) .skip (.exit 0))
  (.seq (.block 1 (.seq (.reg [] [.a 10 (.mv (.t 8)), .a 5 (.mv (.t 10))] [9, 10] [])
  (.seq (.reg [] [.a 11 (.mv (.t 4)), .a 12 (.mv (.t 0)), .a 13 (.mv (.t 5)), .a 14 (.iA 1 (.t 12) (.t 13)), .a 15 (.ld 1 false (.t 14)), .a 16 (.mv (.t 1)), .a 17 (.mv (.t 5)), .a 18 (.call F.nat_limb [(.t 16), (.t 17)]), .a 19 (.bin .add (.t 15) (.t 18)), .a 20 (.bin .add (.t 11) (.t 19)), .a 4 (.mv (.t 20))] [11, 12, 13, 14, 15, 16, 17, 18, 19, 20] [])
  (.seq (.reg [] [.a 21 (.mv (.t 0)), .a 22 (.mv (.t 5)), .a 23 (.mv (.t 4)), .a 24 (.bin .and (.t 23) (.c (.int .u64 4294967295))), .a 25 (.iA 1 (.t 21) (.t 22)), .n (.st 1 (.t 25) (.t 24))] [5, 21, 22, 23, 24, 25] [])
  (.reg [] [.a 26 (.mv (.t 4)), .a 27 (.bin .shr (.t 26) (.c (.int .u64 32))), .a 4 (.mv (.t 27))] [26, 27] [])))))
  (.reg [] [.a 28 (.bin .add (.t 8) (.c (.int .i64 1))), .a 8 (.mv (.t 28))] [28] []))))
def nat_give : R.Fn := ⟨2, [], (.seq (.reg [] [.a 4 (.mv (.c (.int .u64 0)))] [] [])
  (.seq (.reg [] [.a 6 (.mv (.t 0)), .a 7 (.ln (.t 6)), .a 8 (.mv (.c (.int .i64 0)))] [6] [])
  (.block 0 (.loop [] [] nat_give.b0))))⟩
def nat_give.hint : R.Hint := { kill := [(1, [6], []), (3, [9, 10], []), (4, [11, 12, 13, 14, 15, 16, 17, 18, 19, 20], []), (5, [5, 21, 22, 23, 24, 25], []), (6, [26, 27], []), (7, [28], [])], own := true }
theorem nat_give.ok : cFn Tryd.prog nat_give.hint Tryd.f150 = some nat_give := by kernel_rfl
def dendronref01_Over.b2 : R.C := (.seq (.seq (.reg [] [.a 35 (.mv (.t 11)), .a 36 (.mv (.t 10)), .a 37 (.bin .sub (.t 35) (.t 36)), .a 38 (.bin .gtr (.t 37) (.c (.int .i64 1)))] [35, 36, 37] [])
  (.cond (.t 38) .skip (.exit 2)))
  (.block 3 (.seq (.reg [] [.a 39 (.mv (.t 10)), .a 40 (.mv (.t 11)), .a 41 (.bin .add (.t 39) (.t 40)), .a 42 (.bin .quo (.t 41) (.c (.int .i64 2))), .a 12 (.mv (.t 42))] [38, 39, 40, 41, 42] [])
  (.seq (.reg [] [.a 43 (.mv (.t 1)), .a 44 (.mv (.t 12)), .a 45 (.call F.dendronref01_Small [(.t 44)]), .a 46 (.call F.dendronref01_Times [(.t 43), (.t 45)]), .a 47 (.mv (.t 7)), .a 48 (.call F.dendronref01_Order [(.t 46), (.t 47)]), .a 49 (.bin .leq (.t 48) (.c (.int .i64 0)))] [43, 44, 45, 46, 47, 48] [])
  (.cond (.t 49) (.reg [] [.a 50 (.mv (.t 12)), .a 10 (.mv (.t 50))] [12, 49, 50] []) (.reg [] [.a 51 (.mv (.t 12)), .a 11 (.mv (.t 51))] [12, 49, 51] []))))))
def dendronref01_Over.b0 : R.C := (.seq (.seq (.reg [] [.a 19 (.mv (.t 8)), .a 20 (.bin .geq (.t 19) (.c (.int .i64 0)))] [19] [])
  (.cond (.t 20) .skip (.exit 0)))
  (.seq (.block 1 (.seq (.reg [] [.a 9 (.nil 1)] [20] [])
  (.seq (.reg [] [.a 23 (.mv (.t 9)), .a 24 (.mv (.t 0)), .a 25 (.mv (.t 8)), .a 26 (.iA 1 (.t 24) (.t 25)), .a 27 (.ld 1 false (.t 26)), .a 28 (.lit 1 1 [(.int .i64 0)] [(0, 1, (.t 27))]), .a 29 (.app 1 8 (.t 23) (.t 28)), .a 9 (.mv (.t 29))] [23, 24, 25, 26, 27, 28, 29] [])
  (.seq (.reg [] [.a 30 (.mv (.t 9)), .a 31 (.mv (.t 7)), .a 32 (.app 1 8 (.t 30) (.t 31)), .a 9 (.mv (.t 32))] [7, 30, 31, 32] [])
  (.seq (.reg [9] [.a 33 (.mv (.t 9)), .a 34 (.call F.dendronref01_Trim [(.t 33)]), .a 7 (.mv (.t 34))] [9, 33, 34] [9])
  (.seq (.reg [] [.a 10 (.mv (.c (.int .i64 0)))] [] [])
  (.seq (.reg [] [.a 11 (.mv (.c (.int .i64 10000)))] [] [])
  (.seq (.block 2 (.loop [] [] dendronref01_Over.b2))
  (.seq (.reg [] [.a 52 (.mv (.t 6)), .a 53 (.mv (.t 8)), .a 54 (.mv (.t 10)), .a 55 (.iA 1 (.t 52) (.t 53)), .n (.st 1 (.t 55) (.t 54))] [11, 38, 52, 53, 54, 55] [])
  (.reg [] [.a 56 (.mv (.t 7)), .a 57 (.mv (.t 1)), .a 58 (.mv (.t 10)), .a 59 (.call F.dendronref01_Small [(.t 58)]), .a 60 (.call F.dendronref01_Times [(.t 57), (.t 59)]), .a 61 (.call F.dendronref01_Minus [(.t 56), (.t 60)]), .a 7 (.mv (.t 61))] [10, 56, 57, 58, 59, 60, 61] []))))))))))
  (.reg [] [.a 21 (.mv (.t 8)), .a 22 (.bin .sub (.t 21) (.c (.int .i64 1))), .a 8 (.mv (.t 22))] [21, 22] [])))
def dendronref01_Over : R.Fn := ⟨2, [(.t 4), (.t 5)], (.seq (.reg [] [.a 4 (.mv (.c (.sl 1 []))), .a 5 (.mv (.c (.sl 1 [])))] [4, 5] [])
  (.seq (.reg [] [.a 13 (.mv (.t 0)), .a 14 (.ln (.t 13)), .a 15 (.mk 1 8 [(.int .i64 0)] (.t 14) (.t 14)), .a 6 (.mv (.t 15))] [13, 14, 15] [])
  (.seq (.reg [] [.a 7 (.mv (.c (.sl 1 [])))] [] [])
  (.seq (.seq (.reg [] [.a 16 (.mv (.t 0)), .a 17 (.ln (.t 16)), .a 18 (.bin .sub (.t 17) (.c (.int .i64 1))), .a 8 (.mv (.t 18))] [16, 17, 18] [])
  (.block 0 (.loop [] [] dendronref01_Over.b0)))
  (.seq (.reg [6] [.a 62 (.mv (.t 6)), .a 63 (.call F.dendronref01_Trim [(.t 62)]), .a 64 (.mv (.t 7)), .a 4 (.mv (.t 63)), .a 5 (.mv (.t 64))] [0, 1, 6, 7, 8, 20, 62, 63, 64] [15])
  .ret)))))⟩
def dendronref01_Over.hint : R.Hint := { nil := [9], pub := [(9, [9]), (19, [6])], kill := [(0, [4, 5], []), (1, [13, 14, 15], []), (3, [16, 17, 18], []), (4, [19], []), (5, [21, 22], []), (6, [20], []), (7, [23, 24, 25, 26, 27, 28, 29], []), (8, [7, 30, 31, 32], []), (9, [9, 33, 34], [9]), (12, [35, 36, 37], []), (13, [38, 39, 40, 41, 42], []), (14, [43, 44, 45, 46, 47, 48], []), (15, [12, 49, 50], []), (16, [12, 49, 51], []), (17, [11, 38, 52, 53, 54, 55], []), (18, [10, 56, 57, 58, 59, 60, 61], []), (19, [0, 1, 6, 7, 8, 20, 62, 63, 64], [15])] }
theorem dendronref01_Over.ok : cFn Tryd.prog dendronref01_Over.hint Tryd.f151 = some dendronref01_Over := by kernel_rfl
def dendronref01_digit : R.Fn := ⟨2, [(.t 4)], (.seq (.reg [] [.a 4 (.mv (.c (.int .i64 0)))] [4] [])
  (.seq (.seq (.reg [] [.a 5 (.mv (.t 1)), .a 6 (.mv (.t 0)), .a 7 (.ln (.t 6)), .a 8 (.bin .lss (.t 5) (.t 7))] [5, 6, 7] [])
  (.cond (.t 8) (.seq (.reg [] [.a 9 (.mv (.t 0)), .a 10 (.mv (.t 1)), .a 11 (.iA 1 (.t 9) (.t 10)), .a 12 (.ld 1 false (.t 11)), .a 4 (.mv (.t 12))] [0, 1, 8, 9, 10, 11, 12] [])
  .ret) .skip))
  (.seq (.reg [] [.a 4 (.mv (.c (.int .i64 0)))] [0, 1, 8] [])
  .ret)))⟩
def dendronref01_digit.hint : R.Hint := { kill := [(0, [4], []), (1, [5, 6, 7], []), (2, [0, 1, 8, 9, 10, 11, 12], []), (3, [0, 1, 8], [])] }
theorem dendronref01_digit.ok : cFn Tryd.prog dendronref01_digit.hint Tryd.f152 = some dendronref01_digit := by kernel_rfl
def dendronref01_Trim.b0 : R.C := (.seq (.seq (.reg [] [.a 6 (.mv (.t 3)), .a 7 (.bin .gtr (.t 6) (.c (.int .i64 0))), .a 8 (.mv (.t 7)), .g 9 8 true (.mv (.t 0)), .g 10 8 true (.mv (.t 3)), .g 11 8 true (.bin .sub (.t 10) (.c (.int .i64 1))), .g 12 8 true (.iA 1 (.t 9) (.t 11)), .g 13 8 true (.ld 1 false (.t 12)), .g 14 8 true (.bin .eql (.t 13) (.c (.int .i64 0))), .a 15 (.pick (.t 8) (.t 14) (.c (.bool false)))] [6, 7, 8, 9, 10, 11, 12, 13, 14] [])
  (.cond (.t 15) .skip (.exit 0)))
  (.block 1 (.reg [] [.a 16 (.mv (.t 3)), .a 17 (.bin .sub (.t 16) (.c (.int .i64 1))), .a 3 (.mv (.t 17))] [15, 16, 17] [])))
def dendronref01_Trim : R.Fn := ⟨1, [(.t 2)], (.seq (.reg [] [.a 2 (.mv (.c (.sl 1 [])))] [2] [])
  (.seq (.reg [] [.a 4 (.mv (.t 0)), .a 5 (.ln (.t 4)), .a 3 (.mv (.t 5))] [4, 5] [])
  (.seq (.block 0 (.loop [] [] dendronref01_Trim.b0))
  (.seq (.reg [] [.a 18 (.mv (.t 0)), .a 19 (.mv (.t 3)), .a 20 (.slc 1 (.t 18) none (some (.t 19))), .a 2 (.mv (.t 20))] [0, 3, 15, 18, 19, 20] [])
  .ret))))⟩
def dendronref01_Trim.hint : R.Hint := { kill := [(0, [2], []), (1, [4, 5], []), (2, [6, 7, 8, 9, 10, 11, 12, 13, 14], []), (3, [15, 16, 17], []), (4, [0, 3, 15, 18, 19, 20], [])] }
theorem dendronref01_Trim.ok : cFn Tryd.prog dendronref01_Trim.hint Tryd.f153 = some dendronref01_Trim := by kernel_rfl
def dendronref01_Minus.b0 : R.C := (.seq (.seq (.reg [] [.a 9 (.mv (.t 7)), .a 10 (.mv (.t 0)), .a 11 (.ln (.t 10)), .a 12 (.bin .lss (.t 9) (.t 11))] [9, 10, 11] [])
  (.cond (.t 12) .skip (.exit 0)))
  (.seq (.block 1 (.seq (.reg [] [.a 15 (.mv (.t 0)), .a 16 (.mv (.t 7)), .a 17 (.iA 1 (.t 15) (.t 16)), .a 18 (.ld 1 false (.t 17)), .a 19 (.mv (.t 1)), .a 20 (.mv (.t 7)), .a 21 (.call F.dendronref01_digit [(.t 19), (.t 20)]), .a 22 (.bin .sub (.t 18) (.t 21)), .a 23 (.mv (.t 6)), .a 24 (.bin .sub (.t 22) (.t 23)), .a 8 (.mv (.t 24))] [6, 12, 15, 16, 17, 18, 19, 20, 21, 22, 23, 24] [])
  (.seq (.reg [] [.a 6 (.mv (.c (.int .i64 0)))] [] [])
  (.seq (.seq (.reg [] [.a 25 (.mv (.t 8)), .a 26 (.bin .lss (.t 25) (.c (.int .i64 0)))] [25] [])
  (.cond (.t 26) (.seq (.reg [] [.a 27 (.mv (.t 8)), .a 28 (.bin .add (.t 27) (.c (.int .i64 10000))), .a 8 (.mv (.t 28))] [6, 26, 27, 28] [])
  (.reg [] [.a 6 (.mv (.c (.int .i64 1)))] [] [])) .skip))
  (.reg [] [.a 29 (.mv (.t 5)), .a 30 (.mv (.t 8)), .a 31 (.lit 1 1 [(.int .i64 0)] [(0, 1, (.t 30))]), .a 32 (.app 1 8 (.t 29) (.t 31)), .a 5 (.mv (.t 32))] [8, 26, 29, 30, 31, 32] [])))))
  (.reg [] [.a 13 (.mv (.t 7)), .a 14 (.bin .add (.t 13) (.c (.int .i64 1))), .a 7 (.mv (.t 14))] [13, 14] [])))
def dendronref01_Minus : R.Fn := ⟨2, [(.t 4)], (.seq (.reg [] [.a 4 (.mv (.c (.sl 1 [])))] [4] [])
  (.seq (.reg [] [.a 5 (.nil 1)] [] [])
  (.seq (.reg [] [.a 6 (.mv (.c (.int .i64 0)))] [] [])
  (.seq (.seq (.reg [] [.a 7 (.mv (.c (.int .i64 0)))] [] [])
  (.block 0 (.loop [] [] dendronref01_Minus.b0)))
  (.seq (.reg [5] [.a 33 (.mv (.t 5)), .a 34 (.call F.dendronref01_Trim [(.t 33)]), .a 4 (.mv (.t 34))] [0, 1, 5, 6, 7, 12, 33, 34] [5])
  .ret)))))⟩
def dendronref01_Minus.hint : R.Hint := { nil := [5], pub := [(12, [5])], kill := [(0, [4], []), (4, [9, 10, 11], []), (5, [13, 14], []), (6, [6, 12, 15, 16, 17, 18, 19, 20, 21, 22, 23, 24], []), (8, [25], []), (9, [6, 26, 27, 28], []), (11, [8, 26, 29, 30, 31, 32], []), (12, [0, 1, 5, 6, 7, 12, 33, 34], [5])] }
theorem dendronref01_Minus.ok : cFn Tryd.prog dendronref01_Minus.hint Tryd.f162 = some dendronref01_Minus := by kernel_rfl
def tab : List (Nat × R.Fn) := [(F.dendronlaw14_WeighKept, dendronlaw14_WeighKept), (F.dendronlaw14_WeighFacts, dendronlaw14_WeighFacts), (F.dendronlaw14_WeighWeights, dendronlaw14_WeighWeights), (F.dendronlaw14_WeighNobody, dendronlaw14_WeighNobody), (F.dendronlaw14_WeighPairs, dendronlaw14_WeighPairs), (F.dendronlaw14_WeighNeeds, dendronlaw14_WeighNeeds), (F.dendronlaw14_WeighAll, dendronlaw14_WeighAll), (F.dendronlaw19_GameAlikes, dendronlaw19_GameAlikes), (F.dendronlaw19_GameNulls, dendronlaw19_GameNulls), (F.dendronlaw19_GameSums, dendronlaw19_GameSums), (F.dendronlaw22_OwenQuotients, dendronlaw22_OwenQuotients), (F.dendronlaw21_OrdersAdds, dendronlaw21_OrdersAdds), (F.dendronlaw14_awake, dendronlaw14_awake), (F.weigh_New, weigh_New), (F.dendron_weigh_Table_Fact, dendron_weigh_Table_Fact), (F.ratio_Same, ratio_Same), (F.ratio_Int, ratio_Int), (F.dendronlaw14_fact, dendronlaw14_fact), (F.whole_Right, whole_Right), (F.dendron_weigh_Table_Weight, dendron_weigh_Table_Weight), (F.dendronlaw14_is, dendronlaw14_is), (F.dendronlaw14_quotient, dendronlaw14_quotient), (F.dendron_weigh_Table_Pair, dendron_weigh_Table_Pair), (F.dendron_weigh_Table_Need, dendron_weigh_Table_Need), (F.dendron_weigh_Table_All, dendron_weigh_Table_All), (F.ratio_Mul, ratio_Mul), (F.ratio_Of, ratio_Of), (F.ratio_Zero, ratio_Zero), (F.ratio_Neg, ratio_Neg), (F.ratio_Add, ratio_Add), (F.ratio_One, ratio_One), (F.dendronlaw19_Few, dendronlaw19_Few), (F.game_Alike, game_Alike), (F.dendronlaw19_Size, dendronlaw19_Size), (F.dendronlaw19_awake, dendronlaw19_awake), (F.game_Shapley, game_Shapley), (F.dendronlaw19_alike, dendronlaw19_alike), (F.game_Null, game_Null), (F.dendronlaw19_null, dendronlaw19_null), (F.ratio_Sign, ratio_Sign), (F.game_Sum, game_Sum), (F.ratio_Right, ratio_Right), (F.dendronlaw22_few, dendronlaw22_few), (F.owen_Quotient, owen_Quotient), (F.dendronlaw22_right, dendronlaw22_right), (F.dendronlaw22_awake, dendronlaw22_awake), (F.dendronlaw22_two, dendronlaw22_two), (F.dendronref19_In, dendronref19_In), (F.dendronlaw21_few, dendronlaw21_few), (F.orders_Adds, orders_Adds), (F.dendronlaw21_right, dendronlaw21_right), (F.dendronlaw21_awake, dendronlaw21_awake), (F.dendronref10_All, dendronref10_All), (F.dendronlaw21_adds, dendronlaw21_adds), (F.ratio_Sum, ratio_Sum), (F.ratio_Sub, ratio_Sub), (F.ratio_Frac, ratio_Frac), (F.whole_Clean, whole_Clean), (F.ratio_Cmp, ratio_Cmp), (F.nat_Of, nat_Of), (F.nat_Right, nat_Right), (F.dendron_weigh_Table_quotient, dendron_weigh_Table_quotient), (F.ratio_Div, ratio_Div), (F.ratio_Clean, ratio_Clean), (F.ratio_form, ratio_form), (F.whole_Mul, whole_Mul), (F.nat_Mul, nat_Mul), (F.whole_Of, whole_Of), (F.whole_Neg, whole_Neg), (F.whole_Add, whole_Add), (F.ratio_den, ratio_den), (F.dendronlaw19_number, dendronlaw19_number), (F.game_Players, game_Players), (F.dendronlaw19_two, dendronlaw19_two), (F.bits_OnesCount, bits_OnesCount), (F.whole_Sign, whole_Sign), (F.nat_Gcd, nat_Gcd), (F.nat_Cmp, nat_Cmp), (F.owen_Right, owen_Right), (F.owen_merged, owen_merged), (F.owen_Alone, owen_Alone), (F.orders_Next, orders_Next), (F.dendronlaw21_same, dendronlaw21_same), (F.dendronref10_Is, dendronref10_Is), (F.dendronlaw21_two, dendronlaw21_two), (F.ratio_Make, ratio_Make), (F.whole_sign, whole_sign), (F.nat_Clean, nat_Clean), (F.weigh_products, weigh_products), (F.whole_Cmp, whole_Cmp), (F.nat_trim, nat_trim), (F.ratio_Inv, ratio_Inv), (F.nat_DivMod, nat_DivMod), (F.nat_Add, nat_Add), (F.nat_Sub, nat_Sub), (F.bits_Len, bits_Len), (F.bits_OnesCount32, bits_OnesCount32), (F.bits_OnesCount64, bits_OnesCount64), (F.nat_euclid, nat_euclid), (F.nat_zeros, nat_zeros), (F.nat_shr, nat_shr), (F.nat_order, nat_order), (F.nat_shl, nat_shl), (F.nat_rest, nat_rest), (F.nat_minus, nat_minus), (F.dendronref03_Is, dendronref03_Is), (F.dendronref03_From, dendronref03_From), (F.nat_small, nat_small), (F.nat_long, nat_long), (F.nat_limb, nat_limb), (F.bits_Len32, bits_Len32), (F.bits_Len64, bits_Len64), (F.nat_To, nat_To), (F.dendronref03_Right, dendronref03_Right), (F.dendronref03_Order, dendronref03_Order), (F.dendronref01_From, dendronref01_From), (F.dendronref03_Small, dendronref03_Small), (F.dendronref02_From, dendronref02_From), (F.bits_LeadingZeros32, bits_LeadingZeros32), (F.nat_digit, nat_digit), (F.dendronref01_Right, dendronref01_Right), (F.dendronref01_Gcd, dendronref01_Gcd), (F.dendronref01_Order, dendronref01_Order), (F.dendronref01_Small, dendronref01_Small), (F.dendronref02_Order, dendronref02_Order), (F.dendronref02_Times, dendronref02_Times), (F.dendronref03_den, dendronref03_den), (F.dendronref01_Plus, dendronref01_Plus), (F.dendronref01_Times, dendronref01_Times), (F.dendronref02_Small, dendronref02_Small), (F.dendronref02_Make, dendronref02_Make), (F.nat_take, nat_take), (F.nat_give, nat_give), (F.dendronref01_Over, dendronref01_Over), (F.dendronref01_digit, dendronref01_digit), (F.dendronref01_Trim, dendronref01_Trim), (F.dendronref01_Minus, dendronref01_Minus)]
def ip : R.Ip := fun f => aget tab f
theorem dendronlaw14_WeighKept.ip : ip F.dendronlaw14_WeighKept = some dendronlaw14_WeighKept := rfl
theorem dendronlaw14_WeighFacts.ip : ip F.dendronlaw14_WeighFacts = some dendronlaw14_WeighFacts := rfl
theorem dendronlaw14_WeighWeights.ip : ip F.dendronlaw14_WeighWeights = some dendronlaw14_WeighWeights := rfl
theorem dendronlaw14_WeighNobody.ip : ip F.dendronlaw14_WeighNobody = some dendronlaw14_WeighNobody := rfl
theorem dendronlaw14_WeighPairs.ip : ip F.dendronlaw14_WeighPairs = some dendronlaw14_WeighPairs := rfl
theorem dendronlaw14_WeighNeeds.ip : ip F.dendronlaw14_WeighNeeds = some dendronlaw14_WeighNeeds := rfl
theorem dendronlaw14_WeighAll.ip : ip F.dendronlaw14_WeighAll = some dendronlaw14_WeighAll := rfl
theorem dendronlaw19_GameAlikes.ip : ip F.dendronlaw19_GameAlikes = some dendronlaw19_GameAlikes := rfl
theorem dendronlaw19_GameNulls.ip : ip F.dendronlaw19_GameNulls = some dendronlaw19_GameNulls := rfl
theorem dendronlaw19_GameSums.ip : ip F.dendronlaw19_GameSums = some dendronlaw19_GameSums := rfl
theorem dendronlaw22_OwenQuotients.ip : ip F.dendronlaw22_OwenQuotients = some dendronlaw22_OwenQuotients := rfl
theorem dendronlaw21_OrdersAdds.ip : ip F.dendronlaw21_OrdersAdds = some dendronlaw21_OrdersAdds := rfl
theorem dendronlaw14_awake.ip : ip F.dendronlaw14_awake = some dendronlaw14_awake := rfl
theorem weigh_New.ip : ip F.weigh_New = some weigh_New := rfl
theorem dendron_weigh_Table_Fact.ip : ip F.dendron_weigh_Table_Fact = some dendron_weigh_Table_Fact := rfl
theorem ratio_Same.ip : ip F.ratio_Same = some ratio_Same := rfl
theorem ratio_Int.ip : ip F.ratio_Int = some ratio_Int := rfl
theorem dendronlaw14_fact.ip : ip F.dendronlaw14_fact = some dendronlaw14_fact := rfl
theorem whole_Right.ip : ip F.whole_Right = some whole_Right := rfl
theorem dendron_weigh_Table_Weight.ip : ip F.dendron_weigh_Table_Weight = some dendron_weigh_Table_Weight := rfl
theorem dendronlaw14_is.ip : ip F.dendronlaw14_is = some dendronlaw14_is := rfl
theorem dendronlaw14_quotient.ip : ip F.dendronlaw14_quotient = some dendronlaw14_quotient := rfl
theorem dendron_weigh_Table_Pair.ip : ip F.dendron_weigh_Table_Pair = some dendron_weigh_Table_Pair := rfl
theorem dendron_weigh_Table_Need.ip : ip F.dendron_weigh_Table_Need = some dendron_weigh_Table_Need := rfl
theorem dendron_weigh_Table_All.ip : ip F.dendron_weigh_Table_All = some dendron_weigh_Table_All := rfl
theorem ratio_Mul.ip : ip F.ratio_Mul = some ratio_Mul := rfl
theorem ratio_Of.ip : ip F.ratio_Of = some ratio_Of := rfl
theorem ratio_Zero.ip : ip F.ratio_Zero = some ratio_Zero := rfl
theorem ratio_Neg.ip : ip F.ratio_Neg = some ratio_Neg := rfl
theorem ratio_Add.ip : ip F.ratio_Add = some ratio_Add := rfl
theorem ratio_One.ip : ip F.ratio_One = some ratio_One := rfl
theorem dendronlaw19_Few.ip : ip F.dendronlaw19_Few = some dendronlaw19_Few := rfl
theorem game_Alike.ip : ip F.game_Alike = some game_Alike := rfl
theorem dendronlaw19_Size.ip : ip F.dendronlaw19_Size = some dendronlaw19_Size := rfl
theorem dendronlaw19_awake.ip : ip F.dendronlaw19_awake = some dendronlaw19_awake := rfl
theorem game_Shapley.ip : ip F.game_Shapley = some game_Shapley := rfl
theorem dendronlaw19_alike.ip : ip F.dendronlaw19_alike = some dendronlaw19_alike := rfl
theorem game_Null.ip : ip F.game_Null = some game_Null := rfl
theorem dendronlaw19_null.ip : ip F.dendronlaw19_null = some dendronlaw19_null := rfl
theorem ratio_Sign.ip : ip F.ratio_Sign = some ratio_Sign := rfl
theorem game_Sum.ip : ip F.game_Sum = some game_Sum := rfl
theorem ratio_Right.ip : ip F.ratio_Right = some ratio_Right := rfl
theorem dendronlaw22_few.ip : ip F.dendronlaw22_few = some dendronlaw22_few := rfl
theorem owen_Quotient.ip : ip F.owen_Quotient = some owen_Quotient := rfl
theorem dendronlaw22_right.ip : ip F.dendronlaw22_right = some dendronlaw22_right := rfl
theorem dendronlaw22_awake.ip : ip F.dendronlaw22_awake = some dendronlaw22_awake := rfl
theorem dendronlaw22_two.ip : ip F.dendronlaw22_two = some dendronlaw22_two := rfl
theorem dendronref19_In.ip : ip F.dendronref19_In = some dendronref19_In := rfl
theorem dendronlaw21_few.ip : ip F.dendronlaw21_few = some dendronlaw21_few := rfl
theorem orders_Adds.ip : ip F.orders_Adds = some orders_Adds := rfl
theorem dendronlaw21_right.ip : ip F.dendronlaw21_right = some dendronlaw21_right := rfl
theorem dendronlaw21_awake.ip : ip F.dendronlaw21_awake = some dendronlaw21_awake := rfl
theorem dendronref10_All.ip : ip F.dendronref10_All = some dendronref10_All := rfl
theorem dendronlaw21_adds.ip : ip F.dendronlaw21_adds = some dendronlaw21_adds := rfl
theorem ratio_Sum.ip : ip F.ratio_Sum = some ratio_Sum := rfl
theorem ratio_Sub.ip : ip F.ratio_Sub = some ratio_Sub := rfl
theorem ratio_Frac.ip : ip F.ratio_Frac = some ratio_Frac := rfl
theorem whole_Clean.ip : ip F.whole_Clean = some whole_Clean := rfl
theorem ratio_Cmp.ip : ip F.ratio_Cmp = some ratio_Cmp := rfl
theorem nat_Of.ip : ip F.nat_Of = some nat_Of := rfl
theorem nat_Right.ip : ip F.nat_Right = some nat_Right := rfl
theorem dendron_weigh_Table_quotient.ip : ip F.dendron_weigh_Table_quotient = some dendron_weigh_Table_quotient := rfl
theorem ratio_Div.ip : ip F.ratio_Div = some ratio_Div := rfl
theorem ratio_Clean.ip : ip F.ratio_Clean = some ratio_Clean := rfl
theorem ratio_form.ip : ip F.ratio_form = some ratio_form := rfl
theorem whole_Mul.ip : ip F.whole_Mul = some whole_Mul := rfl
theorem nat_Mul.ip : ip F.nat_Mul = some nat_Mul := rfl
theorem whole_Of.ip : ip F.whole_Of = some whole_Of := rfl
theorem whole_Neg.ip : ip F.whole_Neg = some whole_Neg := rfl
theorem whole_Add.ip : ip F.whole_Add = some whole_Add := rfl
theorem ratio_den.ip : ip F.ratio_den = some ratio_den := rfl
theorem dendronlaw19_number.ip : ip F.dendronlaw19_number = some dendronlaw19_number := rfl
theorem game_Players.ip : ip F.game_Players = some game_Players := rfl
theorem dendronlaw19_two.ip : ip F.dendronlaw19_two = some dendronlaw19_two := rfl
theorem bits_OnesCount.ip : ip F.bits_OnesCount = some bits_OnesCount := rfl
theorem whole_Sign.ip : ip F.whole_Sign = some whole_Sign := rfl
theorem nat_Gcd.ip : ip F.nat_Gcd = some nat_Gcd := rfl
theorem nat_Cmp.ip : ip F.nat_Cmp = some nat_Cmp := rfl
theorem owen_Right.ip : ip F.owen_Right = some owen_Right := rfl
theorem owen_merged.ip : ip F.owen_merged = some owen_merged := rfl
theorem owen_Alone.ip : ip F.owen_Alone = some owen_Alone := rfl
theorem orders_Next.ip : ip F.orders_Next = some orders_Next := rfl
theorem dendronlaw21_same.ip : ip F.dendronlaw21_same = some dendronlaw21_same := rfl
theorem dendronref10_Is.ip : ip F.dendronref10_Is = some dendronref10_Is := rfl
theorem dendronlaw21_two.ip : ip F.dendronlaw21_two = some dendronlaw21_two := rfl
theorem ratio_Make.ip : ip F.ratio_Make = some ratio_Make := rfl
theorem whole_sign.ip : ip F.whole_sign = some whole_sign := rfl
theorem nat_Clean.ip : ip F.nat_Clean = some nat_Clean := rfl
theorem weigh_products.ip : ip F.weigh_products = some weigh_products := rfl
theorem whole_Cmp.ip : ip F.whole_Cmp = some whole_Cmp := rfl
theorem nat_trim.ip : ip F.nat_trim = some nat_trim := rfl
theorem ratio_Inv.ip : ip F.ratio_Inv = some ratio_Inv := rfl
theorem nat_DivMod.ip : ip F.nat_DivMod = some nat_DivMod := rfl
theorem nat_Add.ip : ip F.nat_Add = some nat_Add := rfl
theorem nat_Sub.ip : ip F.nat_Sub = some nat_Sub := rfl
theorem bits_Len.ip : ip F.bits_Len = some bits_Len := rfl
theorem bits_OnesCount32.ip : ip F.bits_OnesCount32 = some bits_OnesCount32 := rfl
theorem bits_OnesCount64.ip : ip F.bits_OnesCount64 = some bits_OnesCount64 := rfl
theorem nat_euclid.ip : ip F.nat_euclid = some nat_euclid := rfl
theorem nat_zeros.ip : ip F.nat_zeros = some nat_zeros := rfl
theorem nat_shr.ip : ip F.nat_shr = some nat_shr := rfl
theorem nat_order.ip : ip F.nat_order = some nat_order := rfl
theorem nat_shl.ip : ip F.nat_shl = some nat_shl := rfl
theorem nat_rest.ip : ip F.nat_rest = some nat_rest := rfl
theorem nat_minus.ip : ip F.nat_minus = some nat_minus := rfl
theorem dendronref03_Is.ip : ip F.dendronref03_Is = some dendronref03_Is := rfl
theorem dendronref03_From.ip : ip F.dendronref03_From = some dendronref03_From := rfl
theorem nat_small.ip : ip F.nat_small = some nat_small := rfl
theorem nat_long.ip : ip F.nat_long = some nat_long := rfl
theorem nat_limb.ip : ip F.nat_limb = some nat_limb := rfl
theorem bits_Len32.ip : ip F.bits_Len32 = some bits_Len32 := rfl
theorem bits_Len64.ip : ip F.bits_Len64 = some bits_Len64 := rfl
theorem nat_To.ip : ip F.nat_To = some nat_To := rfl
theorem dendronref03_Right.ip : ip F.dendronref03_Right = some dendronref03_Right := rfl
theorem dendronref03_Order.ip : ip F.dendronref03_Order = some dendronref03_Order := rfl
theorem dendronref01_From.ip : ip F.dendronref01_From = some dendronref01_From := rfl
theorem dendronref03_Small.ip : ip F.dendronref03_Small = some dendronref03_Small := rfl
theorem dendronref02_From.ip : ip F.dendronref02_From = some dendronref02_From := rfl
theorem bits_LeadingZeros32.ip : ip F.bits_LeadingZeros32 = some bits_LeadingZeros32 := rfl
theorem nat_digit.ip : ip F.nat_digit = some nat_digit := rfl
theorem dendronref01_Right.ip : ip F.dendronref01_Right = some dendronref01_Right := rfl
theorem dendronref01_Gcd.ip : ip F.dendronref01_Gcd = some dendronref01_Gcd := rfl
theorem dendronref01_Order.ip : ip F.dendronref01_Order = some dendronref01_Order := rfl
theorem dendronref01_Small.ip : ip F.dendronref01_Small = some dendronref01_Small := rfl
theorem dendronref02_Order.ip : ip F.dendronref02_Order = some dendronref02_Order := rfl
theorem dendronref02_Times.ip : ip F.dendronref02_Times = some dendronref02_Times := rfl
theorem dendronref03_den.ip : ip F.dendronref03_den = some dendronref03_den := rfl
theorem dendronref01_Plus.ip : ip F.dendronref01_Plus = some dendronref01_Plus := rfl
theorem dendronref01_Times.ip : ip F.dendronref01_Times = some dendronref01_Times := rfl
theorem dendronref02_Small.ip : ip F.dendronref02_Small = some dendronref02_Small := rfl
theorem dendronref02_Make.ip : ip F.dendronref02_Make = some dendronref02_Make := rfl
theorem nat_take.ip : ip F.nat_take = some nat_take := rfl
theorem nat_give.ip : ip F.nat_give = some nat_give := rfl
theorem dendronref01_Over.ip : ip F.dendronref01_Over = some dendronref01_Over := rfl
theorem dendronref01_digit.ip : ip F.dendronref01_digit = some dendronref01_digit := rfl
theorem dendronref01_Trim.ip : ip F.dendronref01_Trim = some dendronref01_Trim := rfl
theorem dendronref01_Minus.ip : ip F.dendronref01_Minus = some dendronref01_Minus := rfl
theorem tab_ok : ∀ p ∈ tab, ∃ h gf, Tryd.prog.funcs[p.1]? = some gf ∧ cFn Tryd.prog h gf = some p.2 := by
  simp only [tab, List.forall_mem_cons]
  exact ⟨⟨dendronlaw14_WeighKept.hint, Tryd.f3, Tryd.func3, dendronlaw14_WeighKept.ok⟩, ⟨dendronlaw14_WeighFacts.hint, Tryd.f4, Tryd.func4, dendronlaw14_WeighFacts.ok⟩, ⟨dendronlaw14_WeighWeights.hint, Tryd.f5, Tryd.func5, dendronlaw14_WeighWeights.ok⟩, ⟨dendronlaw14_WeighNobody.hint, Tryd.f6, Tryd.func6, dendronlaw14_WeighNobody.ok⟩, ⟨dendronlaw14_WeighPairs.hint, Tryd.f7, Tryd.func7, dendronlaw14_WeighPairs.ok⟩, ⟨dendronlaw14_WeighNeeds.hint, Tryd.f8, Tryd.func8, dendronlaw14_WeighNeeds.ok⟩, ⟨dendronlaw14_WeighAll.hint, Tryd.f9, Tryd.func9, dendronlaw14_WeighAll.ok⟩, ⟨dendronlaw19_GameAlikes.hint, Tryd.f10, Tryd.func10, dendronlaw19_GameAlikes.ok⟩, ⟨dendronlaw19_GameNulls.hint, Tryd.f11, Tryd.func11, dendronlaw19_GameNulls.ok⟩, ⟨dendronlaw19_GameSums.hint, Tryd.f12, Tryd.func12, dendronlaw19_GameSums.ok⟩, ⟨dendronlaw22_OwenQuotients.hint, Tryd.f13, Tryd.func13, dendronlaw22_OwenQuotients.ok⟩, ⟨dendronlaw21_OrdersAdds.hint, Tryd.f14, Tryd.func14, dendronlaw21_OrdersAdds.ok⟩, ⟨dendronlaw14_awake.hint, Tryd.f15, Tryd.func15, dendronlaw14_awake.ok⟩, ⟨weigh_New.hint, Tryd.f16, Tryd.func16, weigh_New.ok⟩, ⟨dendron_weigh_Table_Fact.hint, Tryd.f17, Tryd.func17, dendron_weigh_Table_Fact.ok⟩, ⟨ratio_Same.hint, Tryd.f18, Tryd.func18, ratio_Same.ok⟩, ⟨ratio_Int.hint, Tryd.f19, Tryd.func19, ratio_Int.ok⟩, ⟨dendronlaw14_fact.hint, Tryd.f20, Tryd.func20, dendronlaw14_fact.ok⟩, ⟨whole_Right.hint, Tryd.f21, Tryd.func21, whole_Right.ok⟩, ⟨dendron_weigh_Table_Weight.hint, Tryd.f22, Tryd.func22, dendron_weigh_Table_Weight.ok⟩, ⟨dendronlaw14_is.hint, Tryd.f23, Tryd.func23, dendronlaw14_is.ok⟩, ⟨dendronlaw14_quotient.hint, Tryd.f24, Tryd.func24, dendronlaw14_quotient.ok⟩, ⟨dendron_weigh_Table_Pair.hint, Tryd.f25, Tryd.func25, dendron_weigh_Table_Pair.ok⟩, ⟨dendron_weigh_Table_Need.hint, Tryd.f26, Tryd.func26, dendron_weigh_Table_Need.ok⟩, ⟨dendron_weigh_Table_All.hint, Tryd.f27, Tryd.func27, dendron_weigh_Table_All.ok⟩, ⟨ratio_Mul.hint, Tryd.f28, Tryd.func28, ratio_Mul.ok⟩, ⟨ratio_Of.hint, Tryd.f29, Tryd.func29, ratio_Of.ok⟩, ⟨ratio_Zero.hint, Tryd.f30, Tryd.func30, ratio_Zero.ok⟩, ⟨ratio_Neg.hint, Tryd.f31, Tryd.func31, ratio_Neg.ok⟩, ⟨ratio_Add.hint, Tryd.f32, Tryd.func32, ratio_Add.ok⟩, ⟨ratio_One.hint, Tryd.f33, Tryd.func33, ratio_One.ok⟩, ⟨dendronlaw19_Few.hint, Tryd.f34, Tryd.func34, dendronlaw19_Few.ok⟩, ⟨game_Alike.hint, Tryd.f35, Tryd.func35, game_Alike.ok⟩, ⟨dendronlaw19_Size.hint, Tryd.f36, Tryd.func36, dendronlaw19_Size.ok⟩, ⟨dendronlaw19_awake.hint, Tryd.f37, Tryd.func37, dendronlaw19_awake.ok⟩, ⟨game_Shapley.hint, Tryd.f38, Tryd.func38, game_Shapley.ok⟩, ⟨dendronlaw19_alike.hint, Tryd.f39, Tryd.func39, dendronlaw19_alike.ok⟩, ⟨game_Null.hint, Tryd.f40, Tryd.func40, game_Null.ok⟩, ⟨dendronlaw19_null.hint, Tryd.f41, Tryd.func41, dendronlaw19_null.ok⟩, ⟨ratio_Sign.hint, Tryd.f42, Tryd.func42, ratio_Sign.ok⟩, ⟨game_Sum.hint, Tryd.f43, Tryd.func43, game_Sum.ok⟩, ⟨ratio_Right.hint, Tryd.f44, Tryd.func44, ratio_Right.ok⟩, ⟨dendronlaw22_few.hint, Tryd.f45, Tryd.func45, dendronlaw22_few.ok⟩, ⟨owen_Quotient.hint, Tryd.f46, Tryd.func46, owen_Quotient.ok⟩, ⟨dendronlaw22_right.hint, Tryd.f47, Tryd.func47, dendronlaw22_right.ok⟩, ⟨dendronlaw22_awake.hint, Tryd.f48, Tryd.func48, dendronlaw22_awake.ok⟩, ⟨dendronlaw22_two.hint, Tryd.f49, Tryd.func49, dendronlaw22_two.ok⟩, ⟨dendronref19_In.hint, Tryd.f50, Tryd.func50, dendronref19_In.ok⟩, ⟨dendronlaw21_few.hint, Tryd.f51, Tryd.func51, dendronlaw21_few.ok⟩, ⟨orders_Adds.hint, Tryd.f52, Tryd.func52, orders_Adds.ok⟩, ⟨dendronlaw21_right.hint, Tryd.f53, Tryd.func53, dendronlaw21_right.ok⟩, ⟨dendronlaw21_awake.hint, Tryd.f54, Tryd.func54, dendronlaw21_awake.ok⟩, ⟨dendronref10_All.hint, Tryd.f55, Tryd.func55, dendronref10_All.ok⟩, ⟨dendronlaw21_adds.hint, Tryd.f56, Tryd.func56, dendronlaw21_adds.ok⟩, ⟨ratio_Sum.hint, Tryd.f57, Tryd.func57, ratio_Sum.ok⟩, ⟨ratio_Sub.hint, Tryd.f58, Tryd.func58, ratio_Sub.ok⟩, ⟨ratio_Frac.hint, Tryd.f59, Tryd.func59, ratio_Frac.ok⟩, ⟨whole_Clean.hint, Tryd.f60, Tryd.func60, whole_Clean.ok⟩, ⟨ratio_Cmp.hint, Tryd.f62, Tryd.func62, ratio_Cmp.ok⟩, ⟨nat_Of.hint, Tryd.f63, Tryd.func63, nat_Of.ok⟩, ⟨nat_Right.hint, Tryd.f64, Tryd.func64, nat_Right.ok⟩, ⟨dendron_weigh_Table_quotient.hint, Tryd.f65, Tryd.func65, dendron_weigh_Table_quotient.ok⟩, ⟨ratio_Div.hint, Tryd.f66, Tryd.func66, ratio_Div.ok⟩, ⟨ratio_Clean.hint, Tryd.f67, Tryd.func67, ratio_Clean.ok⟩, ⟨ratio_form.hint, Tryd.f68, Tryd.func68, ratio_form.ok⟩, ⟨whole_Mul.hint, Tryd.f69, Tryd.func69, whole_Mul.ok⟩, ⟨nat_Mul.hint, Tryd.f70, Tryd.func70, nat_Mul.ok⟩, ⟨whole_Of.hint, Tryd.f71, Tryd.func71, whole_Of.ok⟩, ⟨whole_Neg.hint, Tryd.f72, Tryd.func72, whole_Neg.ok⟩, ⟨whole_Add.hint, Tryd.f73, Tryd.func73, whole_Add.ok⟩, ⟨ratio_den.hint, Tryd.f74, Tryd.func74, ratio_den.ok⟩, ⟨dendronlaw19_number.hint, Tryd.f75, Tryd.func75, dendronlaw19_number.ok⟩, ⟨game_Players.hint, Tryd.f76, Tryd.func76, game_Players.ok⟩, ⟨dendronlaw19_two.hint, Tryd.f77, Tryd.func77, dendronlaw19_two.ok⟩, ⟨bits_OnesCount.hint, Tryd.f78, Tryd.func78, bits_OnesCount.ok⟩, ⟨whole_Sign.hint, Tryd.f79, Tryd.func79, whole_Sign.ok⟩, ⟨nat_Gcd.hint, Tryd.f80, Tryd.func80, nat_Gcd.ok⟩, ⟨nat_Cmp.hint, Tryd.f81, Tryd.func81, nat_Cmp.ok⟩, ⟨owen_Right.hint, Tryd.f82, Tryd.func82, owen_Right.ok⟩, ⟨owen_merged.hint, Tryd.f83, Tryd.func83, owen_merged.ok⟩, ⟨owen_Alone.hint, Tryd.f84, Tryd.func84, owen_Alone.ok⟩, ⟨orders_Next.hint, Tryd.f86, Tryd.func86, orders_Next.ok⟩, ⟨dendronlaw21_same.hint, Tryd.f87, Tryd.func87, dendronlaw21_same.ok⟩, ⟨dendronref10_Is.hint, Tryd.f88, Tryd.func88, dendronref10_Is.ok⟩, ⟨dendronlaw21_two.hint, Tryd.f89, Tryd.func89, dendronlaw21_two.ok⟩, ⟨ratio_Make.hint, Tryd.f90, Tryd.func90, ratio_Make.ok⟩, ⟨whole_sign.hint, Tryd.f91, Tryd.func91, whole_sign.ok⟩, ⟨nat_Clean.hint, Tryd.f92, Tryd.func92, nat_Clean.ok⟩, ⟨weigh_products.hint, Tryd.f95, Tryd.func95, weigh_products.ok⟩, ⟨whole_Cmp.hint, Tryd.f96, Tryd.func96, whole_Cmp.ok⟩, ⟨nat_trim.hint, Tryd.f97, Tryd.func97, nat_trim.ok⟩, ⟨ratio_Inv.hint, Tryd.f98, Tryd.func98, ratio_Inv.ok⟩, ⟨nat_DivMod.hint, Tryd.f99, Tryd.func99, nat_DivMod.ok⟩, ⟨nat_Add.hint, Tryd.f100, Tryd.func100, nat_Add.ok⟩, ⟨nat_Sub.hint, Tryd.f101, Tryd.func101, nat_Sub.ok⟩, ⟨bits_Len.hint, Tryd.f102, Tryd.func102, bits_Len.ok⟩, ⟨bits_OnesCount32.hint, Tryd.f103, Tryd.func103, bits_OnesCount32.ok⟩, ⟨bits_OnesCount64.hint, Tryd.f104, Tryd.func104, bits_OnesCount64.ok⟩, ⟨nat_euclid.hint, Tryd.f105, Tryd.func105, nat_euclid.ok⟩, ⟨nat_zeros.hint, Tryd.f106, Tryd.func106, nat_zeros.ok⟩, ⟨nat_shr.hint, Tryd.f107, Tryd.func107, nat_shr.ok⟩, ⟨nat_order.hint, Tryd.f108, Tryd.func108, nat_order.ok⟩, ⟨nat_shl.hint, Tryd.f109, Tryd.func109, nat_shl.ok⟩, ⟨nat_rest.hint, Tryd.f110, Tryd.func110, nat_rest.ok⟩, ⟨nat_minus.hint, Tryd.f111, Tryd.func111, nat_minus.ok⟩, ⟨dendronref03_Is.hint, Tryd.f112, Tryd.func112, dendronref03_Is.ok⟩, ⟨dendronref03_From.hint, Tryd.f113, Tryd.func113, dendronref03_From.ok⟩, ⟨nat_small.hint, Tryd.f116, Tryd.func116, nat_small.ok⟩, ⟨nat_long.hint, Tryd.f117, Tryd.func117, nat_long.ok⟩, ⟨nat_limb.hint, Tryd.f118, Tryd.func118, nat_limb.ok⟩, ⟨bits_Len32.hint, Tryd.f119, Tryd.func119, bits_Len32.ok⟩, ⟨bits_Len64.hint, Tryd.f120, Tryd.func120, bits_Len64.ok⟩, ⟨nat_To.hint, Tryd.f121, Tryd.func121, nat_To.ok⟩, ⟨dendronref03_Right.hint, Tryd.f123, Tryd.func123, dendronref03_Right.ok⟩, ⟨dendronref03_Order.hint, Tryd.f124, Tryd.func124, dendronref03_Order.ok⟩, ⟨dendronref01_From.hint, Tryd.f125, Tryd.func125, dendronref01_From.ok⟩, ⟨dendronref03_Small.hint, Tryd.f126, Tryd.func126, dendronref03_Small.ok⟩, ⟨dendronref02_From.hint, Tryd.f127, Tryd.func127, dendronref02_From.ok⟩, ⟨bits_LeadingZeros32.hint, Tryd.f132, Tryd.func132, bits_LeadingZeros32.ok⟩, ⟨nat_digit.hint, Tryd.f133, Tryd.func133, nat_digit.ok⟩, ⟨dendronref01_Right.hint, Tryd.f134, Tryd.func134, dendronref01_Right.ok⟩, ⟨dendronref01_Gcd.hint, Tryd.f135, Tryd.func135, dendronref01_Gcd.ok⟩, ⟨dendronref01_Order.hint, Tryd.f136, Tryd.func136, dendronref01_Order.ok⟩, ⟨dendronref01_Small.hint, Tryd.f137, Tryd.func137, dendronref01_Small.ok⟩, ⟨dendronref02_Order.hint, Tryd.f138, Tryd.func138, dendronref02_Order.ok⟩, ⟨dendronref02_Times.hint, Tryd.f139, Tryd.func139, dendronref02_Times.ok⟩, ⟨dendronref03_den.hint, Tryd.f140, Tryd.func140, dendronref03_den.ok⟩, ⟨dendronref01_Plus.hint, Tryd.f141, Tryd.func141, dendronref01_Plus.ok⟩, ⟨dendronref01_Times.hint, Tryd.f142, Tryd.func142, dendronref01_Times.ok⟩, ⟨dendronref02_Small.hint, Tryd.f143, Tryd.func143, dendronref02_Small.ok⟩, ⟨dendronref02_Make.hint, Tryd.f144, Tryd.func144, dendronref02_Make.ok⟩, ⟨nat_take.hint, Tryd.f149, Tryd.func149, nat_take.ok⟩, ⟨nat_give.hint, Tryd.f150, Tryd.func150, nat_give.ok⟩, ⟨dendronref01_Over.hint, Tryd.f151, Tryd.func151, dendronref01_Over.ok⟩, ⟨dendronref01_digit.hint, Tryd.f152, Tryd.func152, dendronref01_digit.ok⟩, ⟨dendronref01_Trim.hint, Tryd.f153, Tryd.func153, dendronref01_Trim.ok⟩, ⟨dendronref01_Minus.hint, Tryd.f162, Tryd.func162, dendronref01_Minus.ok⟩, by simp⟩
end Go.Proofs.YtgpaohcnnggepabDoor
