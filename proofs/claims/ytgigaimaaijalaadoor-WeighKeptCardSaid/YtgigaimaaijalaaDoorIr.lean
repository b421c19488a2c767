/- The interpreter's text of every function of the seat, and that it is the compiler's. -/
import Derived.Test.YtgigaimaaijalaaDoorRb
import Derived.Test.YtgigaimaaijalaaDoorChecked
set_option linter.unusedVariables false
set_option maxRecDepth 100000
namespace Go.Proofs.YtgigaimaaijalaaDoor
open Go Go.Proofs.R
def F.dendronlaw14_awake : Nat := 5
def F.weigh_New : Nat := 6
def F.ratio_Same : Nat := 8
def F.ratio_Int : Nat := 9
def F.dendronlaw14_fact : Nat := 10
def F.ratio_Cmp : Nat := 18
def F.dendron_weigh_Table_Weight : Nat := 19
def F.dendron_weigh_Table_Need : Nat := 20
def F.ratio_Frac : Nat := 21
def F.whole_Clean : Nat := 22
def F.dendron_weigh_Table_at : Nat := 23
def F.nat_Of : Nat := 24
def F.ratio_One : Nat := 25
def F.ratio_Mul : Nat := 26
def F.ratio_Of : Nat := 27
def F.ratio_Neg : Nat := 35
def F.ratio_Zero : Nat := 36
def F.ratio_Clean : Nat := 38
def F.whole_Cmp : Nat := 39
def F.whole_Mul : Nat := 40
def F.ratio_den : Nat := 41
def F.dendron_weigh_Table_quotient : Nat := 42
def F.ratio_Make : Nat := 43
def F.whole_Of : Nat := 44
def F.whole_sign : Nat := 45
def F.nat_Clean : Nat := 46
def F.sync_Once_Do : Nat := 47
def F.weigh_products : Nat := 49
def F.nat_trim : Nat := 50
def F.ratio_form : Nat := 51
def F.nat_Mul : Nat := 52
def F.whole_Neg : Nat := 62
def F.nat_Cmp : Nat := 65
def F.whole_Sign : Nat := 66
def F.sync_atomic_Bool_Load : Nat := 67
def F.sync_Once_doSlow : Nat := 68
def F.nat_Gcd : Nat := 69
def F.nat_DivMod : Nat := 70
def F.bits_Len32 : Nat := 71
def F.nat_order : Nat := 79
def F.sync_atomic_LoadUint32 : Nat := 80
def F.sync_Mutex_Lock : Nat := 81
def F.sync_Mutex_Unlock : Nat := 82
def F.sync_atomic_Bool_Store : Nat := 83
def F.nat_euclid : Nat := 84
def F.nat_zeros : Nat := 85
def F.nat_shr : Nat := 86
def F.nat_shl : Nat := 87
def F.nat_rest : Nat := 88
def F.nat_minus : Nat := 89
def F.nat_small : Nat := 90
def F.nat_long : Nat := 91
def F.nat_limb : Nat := 95
def F.internal_sync_Mutex_Lock : Nat := 96
def F.internal_sync_Mutex_Unlock : Nat := 97
def F.sync_atomic_StoreUint32 : Nat := 98
def F.sync_atomic_b32 : Nat := 99
def F.nat_To : Nat := 100
def F.bits_TrailingZeros64 : Nat := 101
def F.bits_LeadingZeros32 : Nat := 102
def F.nat_digit : Nat := 103
def F.internal_race_Disable : Nat := 105
def F.sync_atomic_CompareAndSwapInt32 : Nat := 106
def F.internal_race_Enable : Nat := 107
def F.internal_race_Acquire : Nat := 108
def F.internal_sync_Mutex_lockSlow : Nat := 109
def F.internal_race_ReleaseMerge : Nat := 110
def F.sync_atomic_AddInt32 : Nat := 111
def F.internal_sync_Mutex_unlockSlow : Nat := 112
def F.nat_take : Nat := 113
def F.nat_give : Nat := 114
def F.internal_sync_runtime_canSpin : Nat := 115
def F.internal_sync_runtime_doSpin : Nat := 116
def F.internal_sync_throw : Nat := 117
def F.internal_sync_runtime_nanotime : Nat := 118
def F.internal_sync_runtime_SemacquireMutex : Nat := 119
def F.internal_sync_fatal : Nat := 120
def F.internal_sync_runtime_Semrelease : Nat := 121
def dendronlaw14_awake : R.Fn := ⟨0, [(.t 0)], (.seq (.reg [] [.a 0 (.mv (.c (.bool false)))] [0] [])
  (.seq (.reg [] [.a 7 (.callk F.weigh_New []), .a 1 (.mv (.t 7))] [7] [])
  (.seq (.reg [] [.a 9 (.mv (.t 1)), .a 10 (.callk F.dendron_weigh_Table_Weight [(true, (.t 9)), (false, (.c (.int .i64 1))), (false, (.c (.int .i64 3)))]), .a 8 (.mv (.t 10)), .a 11 (.ext (.t 8) 0), .a 12 (.ext (.t 8) 1), .a 2 (.new [(.bool false), (.sl 1 []), (.sl 1 [])]), .n (.st 3 (.t 2) (.t 11)), .a 3 (.mv (.t 12))] [8, 9, 10, 11, 12] [])
  (.seq (.reg [] [.a 14 (.mv (.t 1)), .a 15 (.callk F.dendron_weigh_Table_Need [(true, (.t 14)), (false, (.c (.int .i64 1))), (false, (.c (.int .i64 1)))]), .a 13 (.mv (.t 15)), .a 16 (.ext (.t 13) 0), .a 17 (.ext (.t 13) 1), .a 18 (.ext (.t 13) 2), .a 4 (.new [(.bool false), (.sl 1 []), (.sl 1 [])]), .a 5 (.new [(.bool false), (.sl 1 []), (.sl 1 [])]), .n (.st 3 (.t 4) (.t 16)), .n (.st 3 (.t 5) (.t 17)), .a 6 (.mv (.t 18))] [1, 13, 14, 15, 16, 17, 18] [])
  (.seq (.reg [] [.a 19 (.mv (.t 3)), .a 20 (.bin .eql (.t 19) (.c (.int .i64 0))), .a 21 (.mv (.t 20)), .g 22 21 true (.mv (.t 6)), .g 23 21 true (.bin .eql (.t 22) (.c (.int .i64 0))), .a 24 (.pick (.t 21) (.t 23) (.c (.bool false))), .a 25 (.mv (.t 24)), .g 26 25 true (.ld 3 true (.t 2)), .g 27 25 true (.call F.ratio_Frac [(.c (.int .i64 1)), (.c (.int .i64 6))]), .g 28 25 true (.call F.ratio_Same [(.t 26), (.t 27)]), .a 29 (.pick (.t 25) (.t 28) (.c (.bool false))), .a 30 (.mv (.t 29)), .g 31 30 true (.ld 3 true (.t 4)), .g 32 30 true (.call F.ratio_Frac [(.c (.int .i64 1)), (.c (.int .i64 2))]), .g 33 30 true (.call F.ratio_Same [(.t 31), (.t 32)]), .a 34 (.pick (.t 30) (.t 33) (.c (.bool false))), .a 35 (.mv (.t 34)), .g 36 35 true (.ld 3 true (.t 5)), .g 37 35 true (.call F.ratio_Frac [(.c (.int .i64 (-1))), (.c (.int .i64 2))]), .g 38 35 true (.call F.ratio_Same [(.t 36), (.t 37)]), .a 39 (.pick (.t 35) (.t 38) (.c (.bool false))), .a 0 (.mv (.t 39))] [2, 3, 4, 5, 6, 19, 20, 21, 22, 23, 24, 25, 26, 27, 28, 29, 30, 31, 32, 33, 34, 35, 36, 37, 38, 39] [2, 4, 5, 7, 10, 15, 1010, 1015, 2010, 2015, 3010, 3015])
  .ret)))))⟩
def dendronlaw14_awake.hint : R.Hint := { callk := [(7, []), (10, [true, false, false]), (15, [true, false, false])], kill := [(0, [0], []), (1, [7], []), (2, [8, 9, 10, 11, 12], []), (3, [1, 13, 14, 15, 16, 17, 18], []), (4, [2, 3, 4, 5, 6, 19, 20, 21, 22, 23, 24, 25, 26, 27, 28, 29, 30, 31, 32, 33, 34, 35, 36, 37, 38, 39], [2, 4, 5, 7, 10, 15, 1010, 1015, 2010, 2015, 3010, 3015])] }
theorem dendronlaw14_awake.ok : cFn Tryd.prog dendronlaw14_awake.hint Tryd.f5 = some dendronlaw14_awake := by kernel_rfl
def weigh_New : R.Fn := ⟨0, [(.own 0)], (.seq (.reg [] [.a 0 (.mv (.c (.raw (.pointer none))))] [0] [])
  (.seq (.reg [] [.a 1 (.bld [(.int .u32 0), (.int .i32 0), (.int .u32 0), (.sl 2 [])] []), .a 2 (.box (.t 1)), .a 0 (.mv (.t 2))] [1, 2] [])
  .ret))⟩
def weigh_New.hint : R.Hint := { kill := [(0, [0], []), (1, [1, 2], [])], own := true }
theorem weigh_New.ok : cFn Tryd.prog weigh_New.hint Tryd.f6 = some weigh_New := by kernel_rfl
def ratio_Same : R.Fn := ⟨2, [(.t 4)], (.seq (.reg [] [.a 2 (.box (.t 0)), .a 3 (.box (.t 1)), .a 4 (.mv (.c (.bool false)))] [0, 1, 4] [])
  (.seq (.reg [] [.a 5 (.ld 3 true (.t 2)), .a 6 (.ld 3 true (.t 3)), .a 7 (.call F.ratio_Cmp [(.t 5), (.t 6)]), .a 8 (.bin .eql (.t 7) (.c (.int .i64 0))), .a 4 (.mv (.t 8))] [2, 3, 5, 6, 7, 8] [2, 3])
  .ret))⟩
def ratio_Same.hint : R.Hint := { kill := [(0, [0, 1, 4], []), (1, [2, 3, 5, 6, 7, 8], [2, 3])] }
theorem ratio_Same.ok : cFn Tryd.prog ratio_Same.hint Tryd.f8 = some ratio_Same := by kernel_rfl
def ratio_Int : R.Fn := ⟨1, [(.cell 2 3 true)], (.seq (.reg [] [.a 1 (.box (.t 0)), .a 2 (.new [(.bool false), (.sl 1 []), (.sl 1 [])])] [0] [])
  (.seq (.reg [] [.a 3 (.ld 2 true (.t 1)), .a 4 (.call F.whole_Clean [(.t 3)]), .a 5 (.call F.nat_Of [(.c (.int .u64 1))]), .a 6 (.bld [(.bool false), (.sl 1 []), (.sl 1 [])] [(0, 2, (.t 4)), (2, 1, (.t 5))]), .n (.st 3 (.t 2) (.t 6))] [1, 3, 4, 5, 6] [1])
  .ret))⟩
def ratio_Int.hint : R.Hint := { kill := [(0, [0], []), (1, [1, 3, 4, 5, 6], [1])] }
theorem ratio_Int.ok : cFn Tryd.prog ratio_Int.hint Tryd.f9 = some ratio_Int := by kernel_rfl
def dendronlaw14_fact.b0 : R.C := (.seq (.seq (.reg [] [.a 6 (.mv (.t 4)), .a 7 (.mv (.t 0)), .a 8 (.bin .leq (.t 6) (.t 7))] [6, 7] [])
  (.cond (.t 8) .skip (.exit 0)))
  (.seq (.block 1 (.reg [12884901891] [.a 11 (.ld 3 true (.t 3)), .a 12 (.mv (.t 4)), .a 13 (.call F.ratio_Of [(.t 12)]), .a 14 (.call F.ratio_Mul [(.t 11), (.t 13)]), .n (.st 3 (.t 3) (.t 14))] [8, 11, 12, 13, 14] []))
  (.reg [] [.a 9 (.mv (.t 4)), .a 10 (.bin .add (.t 9) (.c (.int .i64 1))), .a 4 (.mv (.t 10))] [9, 10] [])))
def dendronlaw14_fact : R.Fn := ⟨1, [(.cell 2 3 true)], (.seq (.reg [] [.a 2 (.new [(.bool false), (.sl 1 []), (.sl 1 [])])] [] [])
  (.seq (.reg [] [.a 5 (.call F.ratio_One []), .a 3 (.new [(.bool false), (.sl 1 []), (.sl 1 [])]), .n (.st 3 (.t 3) (.t 5))] [5] [])
  (.seq (.seq (.reg [] [.a 4 (.mv (.c (.int .i64 1)))] [] [])
  (.block 0 (.loop [] [] dendronlaw14_fact.b0)))
  (.seq (.reg [] [.a 15 (.ld 3 true (.t 3)), .n (.st 3 (.t 2) (.t 15))] [0, 3, 4, 8, 15] [3])
  .ret))))⟩
def dendronlaw14_fact.hint : R.Hint := { pub := [(5, [12884901891])], kill := [(1, [5], []), (3, [6, 7], []), (4, [9, 10], []), (5, [8, 11, 12, 13, 14], []), (6, [0, 3, 4, 8, 15], [3])] }
theorem dendronlaw14_fact.ok : cFn Tryd.prog dendronlaw14_fact.hint Tryd.f10 = some dendronlaw14_fact := by kernel_rfl
def ratio_Cmp : R.Fn := ⟨2, [(.t 4)], (.seq (.reg [] [.a 2 (.box (.t 0)), .a 3 (.box (.t 1)), .a 4 (.mv (.c (.int .i64 0)))] [0, 1, 4] [])
  (.seq (.reg [] [.a 5 (.ld 3 true (.t 2)), .a 6 (.call F.ratio_Clean [(.t 5)]), .a 7 (.ld 3 true (.t 3)), .a 8 (.call F.ratio_Clean [(.t 7)]), .n (.st 3 (.t 2) (.t 6)), .n (.st 3 (.t 3) (.t 8))] [5, 6, 7, 8] [])
  (.seq (.reg [] [.a 9 (.fA 0 (.t 2)), .a 10 (.ld 2 true (.t 9)), .a 11 (.ld 3 true (.t 3)), .a 12 (.call F.ratio_den [(.t 11)]), .a 13 (.call F.whole_Mul [(.t 10), (.t 12)]), .a 14 (.fA 0 (.t 3)), .a 15 (.ld 2 true (.t 14)), .a 16 (.ld 3 true (.t 2)), .a 17 (.call F.ratio_den [(.t 16)]), .a 18 (.call F.whole_Mul [(.t 15), (.t 17)]), .a 19 (.call F.whole_Cmp [(.t 13), (.t 18)]), .a 4 (.mv (.t 19))] [2, 3, 9, 10, 11, 12, 13, 14, 15, 16, 17, 18, 19] [2, 3])
  .ret)))⟩
def ratio_Cmp.hint : R.Hint := { kill := [(0, [0, 1, 4], []), (1, [5, 6, 7, 8], []), (2, [2, 3, 9, 10, 11, 12, 13, 14, 15, 16, 17, 18, 19], [2, 3])] }
theorem ratio_Cmp.ok : cFn Tryd.prog ratio_Cmp.hint Tryd.f18 = some ratio_Cmp := by kernel_rfl
def dendron_weigh_Table_Weight : R.Fn := ⟨3, [(.cell 6 3 true), (.t 7)], (.seq (.reg [] [.a 6 (.new [(.bool false), (.sl 1 []), (.sl 1 [])]), .a 7 (.mv (.c (.int .i64 0)))] [7] [])
  (.seq (.block 0 (.seq (.reg [] [.a 9 (.mv (.t 0)), .a 10 (.pnil false (.t 9)), .a 8 (.mv (.t 10))] [9, 10] [])
  (.cond (.t 8) (.seq (.reg [] [.a 11 (.bld [(.bool false), (.sl 1 []), (.sl 1 [])] []), .n (.st 3 (.t 6) (.t 11)), .a 7 (.mv (.c (.int .i64 18)))] [0, 1, 2, 8, 11] [])
  .ret) (.seq (.reg [] [.a 13 (.mv (.t 2)), .a 14 (.bin .lss (.t 13) (.c (.int .i64 1))), .a 15 (.mv (.t 14)), .g 16 15 false (.mv (.t 2)), .g 17 15 false (.bin .gtr (.t 16) (.c (.int .i64 64))), .a 18 (.pick (.t 15) (.c (.bool true)) (.t 17)), .a 19 (.mv (.t 18)), .g 20 19 false (.mv (.t 1)), .g 21 19 false (.bin .lss (.t 20) (.c (.int .i64 0))), .a 22 (.pick (.t 19) (.c (.bool true)) (.t 21)), .a 23 (.mv (.t 22)), .g 24 23 false (.mv (.t 1)), .g 25 23 false (.mv (.t 2)), .g 26 23 false (.bin .geq (.t 24) (.t 25)), .a 27 (.pick (.t 23) (.c (.bool true)) (.t 26)), .a 12 (.mv (.t 27))] [8, 13, 14, 15, 16, 17, 18, 19, 20, 21, 22, 23, 24, 25, 26, 27] [])
  (.cond (.t 12) (.seq (.reg [] [.a 28 (.bld [(.bool false), (.sl 1 []), (.sl 1 [])] []), .n (.st 3 (.t 6) (.t 28)), .a 7 (.mv (.c (.int .i64 8)))] [0, 1, 2, 12, 28] [])
  .ret) .skip)))))
  (.seq (.reg [] [.a 29 (.mv (.t 0)), .a 30 (.mv (.t 1)), .a 31 (.mv (.t 2)), .a 32 (.mv (.t 1)), .a 33 (.bin .sub (.t 31) (.t 32)), .a 34 (.bin .sub (.t 33) (.c (.int .i64 1))), .a 35 (.mv (.t 2)), .a 36 (.callk F.dendron_weigh_Table_quotient [(true, (.t 29)), (false, (.t 30)), (false, (.t 34)), (false, (.t 35))]), .n (.st 3 (.t 6) (.t 36)), .a 7 (.mv (.c (.int .i64 0)))] [0, 1, 2, 12, 29, 30, 31, 32, 33, 34, 35, 36] [36])
  .ret)))⟩
def dendron_weigh_Table_Weight.hint : R.Hint := { callk := [(36, [true, false, false, false])], kill := [(0, [7], []), (1, [9, 10], []), (2, [0, 1, 2, 8, 11], []), (3, [8, 13, 14, 15, 16, 17, 18, 19, 20, 21, 22, 23, 24, 25, 26, 27], []), (4, [0, 1, 2, 12, 28], []), (5, [0, 1, 2, 12, 29, 30, 31, 32, 33, 34, 35, 36], [36])] }
theorem dendron_weigh_Table_Weight.ok : cFn Tryd.prog dendron_weigh_Table_Weight.hint Tryd.f19 = some dendron_weigh_Table_Weight := by kernel_rfl
def dendron_weigh_Table_Need : R.Fn := ⟨3, [(.cell 6 3 true), (.cell 7 3 true), (.t 8)], (.seq (.reg [] [.a 6 (.new [(.bool false), (.sl 1 []), (.sl 1 [])]), .a 7 (.new [(.bool false), (.sl 1 []), (.sl 1 [])]), .a 8 (.mv (.c (.int .i64 0)))] [8] [])
  (.seq (.block 0 (.seq (.reg [] [.a 12 (.mv (.t 0)), .a 13 (.pnil false (.t 12)), .a 11 (.mv (.t 13))] [12, 13] [])
  (.cond (.t 11) (.seq (.reg [] [.a 14 (.bld [(.bool false), (.sl 1 []), (.sl 1 [])] []), .a 15 (.bld [(.bool false), (.sl 1 []), (.sl 1 [])] []), .n (.st 3 (.t 6) (.t 14)), .n (.st 3 (.t 7) (.t 15)), .a 8 (.mv (.c (.int .i64 18)))] [0, 1, 2, 11, 14, 15] [])
  .ret) (.seq (.reg [] [.a 17 (.mv (.t 1)), .a 18 (.bin .lss (.t 17) (.c (.int .i64 0))), .a 19 (.mv (.t 18)), .g 20 19 false (.mv (.t 2)), .g 21 19 false (.bin .lss (.t 20) (.c (.int .i64 0))), .a 22 (.pick (.t 19) (.c (.bool true)) (.t 21)), .a 23 (.mv (.t 22)), .g 24 23 false (.mv (.t 1)), .g 25 23 false (.bin .gtr (.t 24) (.c (.int .i64 64))), .a 26 (.pick (.t 23) (.c (.bool true)) (.t 25)), .a 27 (.mv (.t 26)), .g 28 27 false (.mv (.t 2)), .g 29 27 false (.mv (.t 1)), .g 30 27 false (.bin .sub (.c (.int .i64 64)) (.t 29)), .g 31 27 false (.bin .gtr (.t 28) (.t 30)), .a 32 (.pick (.t 27) (.c (.bool true)) (.t 31)), .a 16 (.mv (.t 32))] [11, 17, 18, 19, 20, 21, 22, 23, 24, 25, 26, 27, 28, 29, 30, 31, 32] [])
  (.cond (.t 16) (.seq (.reg [] [.a 33 (.bld [(.bool false), (.sl 1 []), (.sl 1 [])] []), .a 34 (.bld [(.bool false), (.sl 1 []), (.sl 1 [])] []), .n (.st 3 (.t 6) (.t 33)), .n (.st 3 (.t 7) (.t 34)), .a 8 (.mv (.c (.int .i64 8)))] [0, 1, 2, 16, 33, 34] [])
  .ret) .skip)))))
  (.seq (.reg [] [.a 35 (.call F.ratio_Zero []), .a 36 (.call F.ratio_Zero []), .a 9 (.new [(.bool false), (.sl 1 []), (.sl 1 [])]), .a 10 (.new [(.bool false), (.sl 1 []), (.sl 1 [])]), .n (.st 3 (.t 9) (.t 35)), .n (.st 3 (.t 10) (.t 36))] [16, 35, 36] [])
  (.seq (.seq (.reg [] [.a 37 (.mv (.t 1)), .a 38 (.bin .gtr (.t 37) (.c (.int .i64 0)))] [37] [])
  (.cond (.t 38) (.reg [] [.a 39 (.mv (.t 0)), .a 40 (.mv (.t 1)), .a 41 (.bin .sub (.t 40) (.c (.int .i64 1))), .a 42 (.mv (.t 2)), .a 43 (.mv (.t 1)), .a 44 (.mv (.t 2)), .a 45 (.bin .add (.t 43) (.t 44)), .a 46 (.callk F.dendron_weigh_Table_quotient [(true, (.t 39)), (false, (.t 41)), (false, (.t 42)), (false, (.t 45))]), .n (.st 3 (.t 9) (.t 46))] [38, 39, 40, 41, 42, 43, 44, 45, 46] [46]) .skip))
  (.seq (.seq (.reg [] [.a 47 (.mv (.t 2)), .a 48 (.bin .gtr (.t 47) (.c (.int .i64 0)))] [38, 47] [])
  (.cond (.t 48) (.reg [] [.a 49 (.mv (.t 0)), .a 50 (.mv (.t 1)), .a 51 (.mv (.t 2)), .a 52 (.bin .sub (.t 51) (.c (.int .i64 1))), .a 53 (.mv (.t 1)), .a 54 (.mv (.t 2)), .a 55 (.bin .add (.t 53) (.t 54)), .a 56 (.callk F.dendron_weigh_Table_quotient [(true, (.t 49)), (false, (.t 50)), (false, (.t 52)), (false, (.t 55))]), .a 57 (.call F.ratio_Neg [(.t 56)]), .n (.st 3 (.t 10) (.t 57))] [0, 1, 2, 48, 49, 50, 51, 52, 53, 54, 55, 56, 57] [56]) .skip))
  (.seq (.reg [25769803782, 30064771079, 38654705673, 42949672970] [.a 58 (.ld 3 true (.t 9)), .a 59 (.ld 3 true (.t 10)), .n (.st 3 (.t 6) (.t 58)), .n (.st 3 (.t 7) (.t 59)), .a 8 (.mv (.c (.int .i64 0)))] [0, 1, 2, 9, 10, 48, 58, 59] [9, 10])
  .ret))))))⟩
def dendron_weigh_Table_Need.hint : R.Hint := { callk := [(46, [true, false, false, false]), (56, [true, false, false, false])], pub := [(10, [25769803782, 30064771079, 38654705673, 42949672970])], kill := [(0, [8], []), (1, [12, 13], []), (2, [0, 1, 2, 11, 14, 15], []), (3, [11, 17, 18, 19, 20, 21, 22, 23, 24, 25, 26, 27, 28, 29, 30, 31, 32], []), (4, [0, 1, 2, 16, 33, 34], []), (5, [16, 35, 36], []), (6, [37], []), (7, [38, 39, 40, 41, 42, 43, 44, 45, 46], [46]), (8, [38, 47], []), (9, [0, 1, 2, 48, 49, 50, 51, 52, 53, 54, 55, 56, 57], [56]), (10, [0, 1, 2, 9, 10, 48, 58, 59], [9, 10])] }
theorem dendron_weigh_Table_Need.ok : cFn Tryd.prog dendron_weigh_Table_Need.hint Tryd.f20 = some dendron_weigh_Table_Need := by kernel_rfl
def ratio_Frac : R.Fn := ⟨2, [(.cell 4 3 true)], (.seq (.reg [] [.a 4 (.new [(.bool false), (.sl 1 []), (.sl 1 [])])] [] [])
  (.seq (.reg [] [.a 8 (.mv (.t 0)), .a 9 (.call F.whole_Of [(.t 8)]), .a 10 (.mv (.t 1)), .a 11 (.call F.whole_Of [(.t 10)]), .a 12 (.call F.ratio_Make [(.t 9), (.t 11)]), .a 7 (.mv (.t 12)), .a 13 (.ext (.t 7) 0), .a 14 (.ext (.t 7) 1), .a 5 (.new [(.bool false), (.sl 1 []), (.sl 1 [])]), .n (.st 3 (.t 5) (.t 13)), .a 6 (.mv (.t 14))] [0, 1, 6, 7, 8, 9, 10, 11, 12, 13, 14] [])
  (.seq (.reg [] [.a 15 (.ld 3 true (.t 5)), .a 16 (.call F.ratio_Clean [(.t 15)]), .n (.st 3 (.t 4) (.t 16))] [5, 15, 16] [5])
  .ret)))⟩
def ratio_Frac.hint : R.Hint := { kill := [(1, [0, 1, 6, 7, 8, 9, 10, 11, 12, 13, 14], []), (2, [5, 15, 16], [5])] }
theorem ratio_Frac.ok : cFn Tryd.prog ratio_Frac.hint Tryd.f21 = some ratio_Frac := by kernel_rfl
def whole_Clean : R.Fn := ⟨1, [(.cell 2 2 true)], (.seq (.reg [] [.a 1 (.box (.t 0)), .a 2 (.new [(.bool false), (.sl 1 [])])] [0] [])
  (.seq (.reg [] [.a 3 (.fA 0 (.t 1)), .a 4 (.ld 1 false (.t 3)), .a 5 (.fA 1 (.t 1)), .a 6 (.ld 1 false (.t 5)), .a 7 (.call F.nat_Clean [(.t 6)]), .a 8 (.call F.whole_sign [(.t 4), (.t 7)]), .n (.st 2 (.t 2) (.t 8))] [1, 3, 4, 5, 6, 7, 8] [1])
  .ret))⟩
def whole_Clean.hint : R.Hint := { kill := [(0, [0], []), (1, [1, 3, 4, 5, 6, 7, 8], [1])] }
theorem whole_Clean.ok : cFn Tryd.prog whole_Clean.hint Tryd.f22 = some whole_Clean := by kernel_rfl
def nat_Of : R.Fn := ⟨1, [(.t 2)], (.seq (.reg [] [.a 2 (.mv (.c (.sl 1 [])))] [2] [])
  (.seq (.reg [] [.a 3 (.mv (.t 0)), .a 4 (.bin .and (.t 3) (.c (.int .u64 4294967295))), .a 5 (.mv (.t 0)), .a 6 (.bin .shr (.t 5) (.c (.int .u64 32))), .a 7 (.lit 1 2 [(.int .u64 0), (.int .u64 0)] [(0, 1, (.t 4)), (1, 1, (.t 6))]), .a 8 (.call F.nat_trim [(.t 7)]), .a 2 (.mv (.t 8))] [0, 3, 4, 5, 6, 7, 8] [])
  .ret))⟩
def nat_Of.hint : R.Hint := { kill := [(0, [2], []), (1, [0, 3, 4, 5, 6, 7, 8], [])] }
theorem nat_Of.ok : cFn Tryd.prog nat_Of.hint Tryd.f24 = some nat_Of := by kernel_rfl
def ratio_One : R.Fn := ⟨0, [(.cell 0 3 true)], (.seq (.reg [] [.a 0 (.new [(.bool false), (.sl 1 []), (.sl 1 [])])] [] [])
  (.seq (.reg [] [.a 1 (.call F.ratio_Of [(.c (.int .i64 1))]), .n (.st 3 (.t 0) (.t 1))] [1] [])
  .ret))⟩
def ratio_One.hint : R.Hint := { kill := [(1, [1], [])] }
theorem ratio_One.ok : cFn Tryd.prog ratio_One.hint Tryd.f25 = some ratio_One := by kernel_rfl
def ratio_Mul : R.Fn := ⟨2, [(.cell 4 3 true)], (.seq (.reg [] [.a 2 (.box (.t 0)), .a 3 (.box (.t 1)), .a 4 (.new [(.bool false), (.sl 1 []), (.sl 1 [])])] [0, 1] [])
  (.seq (.reg [] [.a 5 (.ld 3 true (.t 2)), .a 6 (.call F.ratio_Clean [(.t 5)]), .a 7 (.ld 3 true (.t 3)), .a 8 (.call F.ratio_Clean [(.t 7)]), .n (.st 3 (.t 2) (.t 6)), .n (.st 3 (.t 3) (.t 8))] [5, 6, 7, 8] [])
  (.seq (.reg [] [.a 9 (.fA 0 (.t 2)), .a 10 (.ld 2 true (.t 9)), .a 11 (.fA 0 (.t 3)), .a 12 (.ld 2 true (.t 11)), .a 13 (.call F.whole_Mul [(.t 10), (.t 12)]), .a 14 (.fA 2 (.t 2)), .a 15 (.ld 1 false (.t 14)), .a 16 (.fA 2 (.t 3)), .a 17 (.ld 1 false (.t 16)), .a 18 (.call F.nat_Mul [(.t 15), (.t 17)]), .a 19 (.call F.ratio_form [(.t 13), (.t 18)]), .n (.st 3 (.t 4) (.t 19))] [2, 3, 9, 10, 11, 12, 13, 14, 15, 16, 17, 18, 19] [2, 3])
  .ret)))⟩
def ratio_Mul.hint : R.Hint := { kill := [(0, [0, 1], []), (1, [5, 6, 7, 8], []), (2, [2, 3, 9, 10, 11, 12, 13, 14, 15, 16, 17, 18, 19], [2, 3])] }
theorem ratio_Mul.ok : cFn Tryd.prog ratio_Mul.hint Tryd.f26 = some ratio_Mul := by kernel_rfl
def ratio_Of : R.Fn := ⟨1, [(.cell 2 3 true)], (.seq (.reg [] [.a 2 (.new [(.bool false), (.sl 1 []), (.sl 1 [])])] [] [])
  (.seq (.reg [] [.a 3 (.mv (.t 0)), .a 4 (.call F.whole_Of [(.t 3)]), .a 5 (.call F.nat_Of [(.c (.int .u64 1))]), .a 6 (.bld [(.bool false), (.sl 1 []), (.sl 1 [])] [(0, 2, (.t 4)), (2, 1, (.t 5))]), .n (.st 3 (.t 2) (.t 6))] [0, 3, 4, 5, 6] [])
  .ret))⟩
def ratio_Of.hint : R.Hint := { kill := [(1, [0, 3, 4, 5, 6], [])] }
theorem ratio_Of.ok : cFn Tryd.prog ratio_Of.hint Tryd.f27 = some ratio_Of := by kernel_rfl
def ratio_Neg : R.Fn := ⟨1, [(.cell 2 3 true)], (.seq (.reg [] [.a 1 (.box (.t 0)), .a 2 (.new [(.bool false), (.sl 1 []), (.sl 1 [])])] [0] [])
  (.seq (.reg [] [.a 3 (.ld 3 true (.t 1)), .a 4 (.call F.ratio_Clean [(.t 3)]), .n (.st 3 (.t 1) (.t 4))] [3, 4] [])
  (.seq (.reg [] [.a 5 (.fA 0 (.t 1)), .a 6 (.ld 2 true (.t 5)), .a 7 (.call F.whole_Neg [(.t 6)]), .a 8 (.fA 0 (.t 1)), .n (.st 2 (.t 8) (.t 7))] [5, 6, 7, 8] [])
  (.seq (.reg [] [.a 9 (.ld 3 true (.t 1)), .n (.st 3 (.t 2) (.t 9))] [1, 9] [1])
  .ret))))⟩
def ratio_Neg.hint : R.Hint := { kill := [(0, [0], []), (1, [3, 4], []), (2, [5, 6, 7, 8], []), (3, [1, 9], [1])] }
theorem ratio_Neg.ok : cFn Tryd.prog ratio_Neg.hint Tryd.f35 = some ratio_Neg := by kernel_rfl
def ratio_Zero : R.Fn := ⟨0, [(.cell 0 3 true)], (.seq (.reg [] [.a 0 (.new [(.bool false), (.sl 1 []), (.sl 1 [])])] [] [])
  (.seq (.reg [] [.a 1 (.call F.nat_Of [(.c (.int .u64 1))]), .a 2 (.bld [(.bool false), (.sl 1 []), (.sl 1 [])] [(2, 1, (.t 1))]), .n (.st 3 (.t 0) (.t 2))] [1, 2] [])
  .ret))⟩
def ratio_Zero.hint : R.Hint := { kill := [(1, [1, 2], [])] }
theorem ratio_Zero.ok : cFn Tryd.prog ratio_Zero.hint Tryd.f36 = some ratio_Zero := by kernel_rfl
def ratio_Clean : R.Fn := ⟨1, [(.cell 2 3 true)], (.seq (.reg [] [.a 1 (.box (.t 0)), .a 2 (.new [(.bool false), (.sl 1 []), (.sl 1 [])])] [0] [])
  (.seq (.reg [] [.a 4 (.fA 2 (.t 1)), .a 5 (.ld 1 false (.t 4)), .a 6 (.call F.nat_Clean [(.t 5)]), .a 3 (.mv (.t 6))] [4, 5, 6] [])
  (.seq (.seq (.reg [] [.a 7 (.mv (.t 3)), .a 8 (.ln (.t 7)), .a 9 (.bin .eql (.t 8) (.c (.int .i64 0)))] [7, 8] [])
  (.cond (.t 9) (.seq (.reg [] [.a 10 (.call F.ratio_Zero []), .n (.st 3 (.t 2) (.t 10))] [1, 3, 9, 10] [1])
  .ret) .skip))
  (.seq (.reg [] [.a 11 (.fA 0 (.t 1)), .a 12 (.ld 2 true (.t 11)), .a 13 (.call F.whole_Clean [(.t 12)]), .a 14 (.mv (.t 3)), .a 15 (.call F.ratio_form [(.t 13), (.t 14)]), .n (.st 3 (.t 2) (.t 15))] [1, 3, 9, 11, 12, 13, 14, 15] [1])
  .ret))))⟩
def ratio_Clean.hint : R.Hint := { kill := [(0, [0], []), (1, [4, 5, 6], []), (2, [7, 8], []), (3, [1, 3, 9, 10], [1]), (4, [1, 3, 9, 11, 12, 13, 14, 15], [1])] }
theorem ratio_Clean.ok : cFn Tryd.prog ratio_Clean.hint Tryd.f38 = some ratio_Clean := by kernel_rfl
def whole_Cmp : R.Fn := ⟨2, [(.t 4)], (.seq (.reg [] [.a 2 (.box (.t 0)), .a 3 (.box (.t 1)), .a 4 (.mv (.c (.int .i64 0)))] [0, 1, 4] [])
  (.seq (.reg [] [.a 5 (.ld 2 true (.t 2)), .a 6 (.call F.whole_Clean [(.t 5)]), .a 7 (.ld 2 true (.t 3)), .a 8 (.call F.whole_Clean [(.t 7)]), .n (.st 2 (.t 2) (.t 6)), .n (.st 2 (.t 3) (.t 8))] [5, 6, 7, 8] [])
  (.seq (.block 0 (.seq (.reg [] [.a 10 (.fA 0 (.t 2)), .a 11 (.ld 1 false (.t 10)), .a 12 (.fA 0 (.t 3)), .a 13 (.ld 1 false (.t 12)), .a 14 (.beq true (.t 11) (.t 13)), .a 15 (.mv (.t 14)), .g 16 15 true (.fA 0 (.t 2)), .g 17 15 true (.ld 1 false (.t 16)), .a 18 (.pick (.t 15) (.t 17) (.c (.bool false))), .a 9 (.mv (.t 18))] [10, 11, 12, 13, 14, 15, 16, 17, 18] [])
  (.cond (.t 9) (.seq (.reg [] [.a 4 (.mv (.c (.int .i64 (-1))))] [2, 3, 9] [2, 3])
  .ret) (.seq (.reg [] [.a 20 (.fA 0 (.t 2)), .a 21 (.ld 1 false (.t 20)), .a 22 (.fA 0 (.t 3)), .a 23 (.ld 1 false (.t 22)), .a 24 (.beq true (.t 21) (.t 23)), .a 19 (.mv (.t 24))] [9, 20, 21, 22, 23, 24] [])
  (.cond (.t 19) (.seq (.reg [] [.a 4 (.mv (.c (.int .i64 1)))] [2, 3, 19] [2, 3])
  .ret) (.seq (.reg [] [.a 26 (.fA 0 (.t 2)), .a 27 (.ld 1 false (.t 26)), .a 25 (.mv (.t 27))] [19, 26, 27] [])
  (.cond (.t 25) (.seq (.reg [] [.a 28 (.fA 1 (.t 3)), .a 29 (.ld 1 false (.t 28)), .a 30 (.fA 1 (.t 2)), .a 31 (.ld 1 false (.t 30)), .a 32 (.call F.nat_Cmp [(.t 29), (.t 31)]), .a 4 (.mv (.t 32))] [2, 3, 25, 28, 29, 30, 31, 32] [2, 3])
  .ret) .skip)))))))
  (.seq (.reg [] [.a 33 (.fA 1 (.t 2)), .a 34 (.ld 1 false (.t 33)), .a 35 (.fA 1 (.t 3)), .a 36 (.ld 1 false (.t 35)), .a 37 (.call F.nat_Cmp [(.t 34), (.t 36)]), .a 4 (.mv (.t 37))] [2, 3, 25, 33, 34, 35, 36, 37] [2, 3])
  .ret))))⟩
def whole_Cmp.hint : R.Hint := { kill := [(0, [0, 1, 4], []), (1, [5, 6, 7, 8], []), (2, [10, 11, 12, 13, 14, 15, 16, 17, 18], []), (3, [2, 3, 9], [2, 3]), (4, [9, 20, 21, 22, 23, 24], []), (5, [2, 3, 19], [2, 3]), (6, [19, 26, 27], []), (7, [2, 3, 25, 28, 29, 30, 31, 32], [2, 3]), (8, [2, 3, 25, 33, 34, 35, 36, 37], [2, 3])] }
theorem whole_Cmp.ok : cFn Tryd.prog whole_Cmp.hint Tryd.f39 = some whole_Cmp := by kernel_rfl
def whole_Mul : R.Fn := ⟨2, [(.cell 4 2 true)], (.seq (.reg [] [.a 2 (.box (.t 0)), .a 3 (.box (.t 1)), .a 4 (.new [(.bool false), (.sl 1 [])])] [0, 1] [])
  (.seq (.reg [] [.a 5 (.ld 2 true (.t 2)), .a 6 (.call F.whole_Clean [(.t 5)]), .a 7 (.ld 2 true (.t 3)), .a 8 (.call F.whole_Clean [(.t 7)]), .n (.st 2 (.t 2) (.t 6)), .n (.st 2 (.t 3) (.t 8))] [5, 6, 7, 8] [])
  (.seq (.reg [] [.a 9 (.fA 0 (.t 2)), .a 10 (.ld 1 false (.t 9)), .a 11 (.fA 0 (.t 3)), .a 12 (.ld 1 false (.t 11)), .a 13 (.beq true (.t 10) (.t 12)), .a 14 (.fA 1 (.t 2)), .a 15 (.ld 1 false (.t 14)), .a 16 (.fA 1 (.t 3)), .a 17 (.ld 1 false (.t 16)), .a 18 (.call F.nat_Mul [(.t 15), (.t 17)]), .a 19 (.call F.whole_sign [(.t 13), (.t 18)]), .n (.st 2 (.t 4) (.t 19))] [2, 3, 9, 10, 11, 12, 13, 14, 15, 16, 17, 18, 19] [2, 3])
  .ret)))⟩
def whole_Mul.hint : R.Hint := { kill := [(0, [0, 1], []), (1, [5, 6, 7, 8], []), (2, [2, 3, 9, 10, 11, 12, 13, 14, 15, 16, 17, 18, 19], [2, 3])] }
theorem whole_Mul.ok : cFn Tryd.prog whole_Mul.hint Tryd.f40 = some whole_Mul := by kernel_rfl
def ratio_den : R.Fn := ⟨1, [(.cell 2 2 true)], (.seq (.reg [] [.a 1 (.box (.t 0)), .a 2 (.new [(.bool false), (.sl 1 [])])] [0] [])
  (.seq (.reg [] [.a 3 (.fA 2 (.t 1)), .a 4 (.ld 1 false (.t 3)), .a 5 (.bld [(.bool false), (.sl 1 [])] [(1, 1, (.t 4))]), .n (.st 2 (.t 2) (.t 5))] [1, 3, 4, 5] [1])
  .ret))⟩
def ratio_den.hint : R.Hint := { kill := [(0, [0], []), (1, [1, 3, 4, 5], [1])] }
theorem ratio_den.ok : cFn Tryd.prog ratio_den.hint Tryd.f41 = some ratio_den := by kernel_rfl
def dendron_weigh_Table_quotient : R.Fn := ⟨4, [(.cell 8 3 true)], (.seq (.reg [] [.a 8 (.new [(.bool false), (.sl 1 []), (.sl 1 [])])] [] [])
  (.seq (.reg [] [.a 12 (.mv (.t 0)), .a 13 (.mv (.t 1)), .a 14 (.callk F.dendron_weigh_Table_at [(true, (.t 12)), (false, (.t 13))]), .a 15 (.mv (.t 0)), .a 16 (.mv (.t 2)), .a 17 (.callk F.dendron_weigh_Table_at [(true, (.t 15)), (false, (.t 16))]), .a 18 (.call F.whole_Mul [(.t 14), (.t 17)]), .a 19 (.mv (.t 0)), .a 20 (.mv (.t 3)), .a 21 (.callk F.dendron_weigh_Table_at [(true, (.t 19)), (false, (.t 20))]), .a 22 (.call F.ratio_Make [(.t 18), (.t 21)]), .a 11 (.mv (.t 22)), .a 23 (.ext (.t 11) 0), .a 24 (.ext (.t 11) 1), .a 9 (.new [(.bool false), (.sl 1 []), (.sl 1 [])]), .n (.st 3 (.t 9) (.t 23)), .a 10 (.mv (.t 24))] [0, 1, 2, 3, 10, 11, 12, 13, 14, 15, 16, 17, 18, 19, 20, 21, 22, 23, 24] [14, 17, 21])
  (.seq (.reg [] [.a 25 (.ld 3 true (.t 9)), .n (.st 3 (.t 8) (.t 25))] [9, 25] [9])
  .ret)))⟩
def dendron_weigh_Table_quotient.hint : R.Hint := { callk := [(14, [true, false]), (17, [true, false]), (21, [true, false])], kill := [(1, [0, 1, 2, 3, 10, 11, 12, 13, 14, 15, 16, 17, 18, 19, 20, 21, 22, 23, 24], [14, 17, 21]), (2, [9, 25], [9])] }
theorem dendron_weigh_Table_quotient.ok : cFn Tryd.prog dendron_weigh_Table_quotient.hint Tryd.f42 = some dendron_weigh_Table_quotient := by kernel_rfl
def ratio_Make : R.Fn := ⟨2, [(.cell 4 3 true), (.t 5)], (.seq (.reg [] [.a 2 (.box (.t 0)), .a 3 (.box (.t 1)), .a 4 (.new [(.bool false), (.sl 1 []), (.sl 1 [])]), .a 5 (.mv (.c (.int .i64 0)))] [0, 1, 5] [])
  (.seq (.reg [] [.a 6 (.ld 2 true (.t 2)), .a 7 (.call F.whole_Clean [(.t 6)]), .a 8 (.ld 2 true (.t 3)), .a 9 (.call F.whole_Clean [(.t 8)]), .n (.st 2 (.t 2) (.t 7)), .n (.st 2 (.t 3) (.t 9))] [6, 7, 8, 9] [])
  (.seq (.seq (.reg [] [.a 10 (.ld 2 true (.t 3)), .a 11 (.call F.whole_Sign [(.t 10)]), .a 12 (.bin .eql (.t 11) (.c (.int .i64 0)))] [10, 11] [])
  (.cond (.t 12) (.seq (.reg [] [.a 13 (.bld [(.bool false), (.sl 1 []), (.sl 1 [])] []), .n (.st 3 (.t 4) (.t 13)), .a 5 (.mv (.c (.int .i64 2)))] [2, 3, 12, 13] [2, 3])
  .ret) .skip))
  (.seq (.seq (.reg [] [.a 14 (.fA 0 (.t 3)), .a 15 (.ld 1 false (.t 14))] [12, 14] [])
  (.cond (.t 15) (.reg [] [.a 16 (.ld 2 true (.t 2)), .a 17 (.call F.whole_Neg [(.t 16)]), .n (.st 2 (.t 2) (.t 17))] [15, 16, 17] []) .skip))
  (.seq (.reg [] [.a 18 (.ld 2 true (.t 2)), .a 19 (.fA 1 (.t 3)), .a 20 (.ld 1 false (.t 19)), .a 21 (.call F.ratio_form [(.t 18), (.t 20)]), .n (.st 3 (.t 4) (.t 21)), .a 5 (.mv (.c (.int .i64 0)))] [2, 3, 15, 18, 19, 20, 21] [2, 3])
  .ret)))))⟩
def ratio_Make.hint : R.Hint := { kill := [(0, [0, 1, 5], []), (1, [6, 7, 8, 9], []), (2, [10, 11], []), (3, [2, 3, 12, 13], [2, 3]), (4, [12, 14], []), (5, [15, 16, 17], []), (6, [2, 3, 15, 18, 19, 20, 21], [2, 3])] }
theorem ratio_Make.ok : cFn Tryd.prog ratio_Make.hint Tryd.f43 = some ratio_Make := by kernel_rfl
def whole_Of : R.Fn := ⟨1, [(.cell 2 2 true)], (.seq (.reg [] [.a 2 (.new [(.bool false), (.sl 1 [])])] [] [])
  (.seq (.seq (.reg [] [.a 3 (.mv (.t 0)), .a 4 (.bin .lss (.t 3) (.c (.int .i64 0)))] [3] [])
  (.cond (.t 4) (.seq (.reg [] [.a 5 (.mv (.t 0)), .a 6 (.conv .u64 (.t 5)), .a 7 (.un .neg (.t 6)), .a 8 (.call F.nat_Of [(.t 7)]), .a 9 (.call F.whole_sign [(.c (.bool true)), (.t 8)]), .n (.st 2 (.t 2) (.t 9))] [0, 4, 5, 6, 7, 8, 9] [])
  .ret) .skip))
  (.seq (.reg [] [.a 10 (.mv (.t 0)), .a 11 (.conv .u64 (.t 10)), .a 12 (.call F.nat_Of [(.t 11)]), .a 13 (.call F.whole_sign [(.c (.bool false)), (.t 12)]), .n (.st 2 (.t 2) (.t 13))] [0, 4, 10, 11, 12, 13] [])
  .ret)))⟩
def whole_Of.hint : R.Hint := { kill := [(1, [3], []), (2, [0, 4, 5, 6, 7, 8, 9], []), (3, [0, 4, 10, 11, 12, 13], [])] }
theorem whole_Of.ok : cFn Tryd.prog whole_Of.hint Tryd.f44 = some whole_Of := by kernel_rfl
def whole_sign : R.Fn := ⟨2, [(.cell 4 2 true)], (.seq (.reg [] [.a 4 (.new [(.bool false), (.sl 1 [])])] [] [])
  (.seq (.reg [] [.a 5 (.mv (.t 0)), .a 6 (.mv (.t 5)), .g 7 6 true (.mv (.t 1)), .g 8 6 true (.ln (.t 7)), .g 9 6 true (.bin .gtr (.t 8) (.c (.int .i64 0))), .a 10 (.pick (.t 6) (.t 9) (.c (.bool false))), .a 11 (.mv (.t 1)), .a 12 (.bld [(.bool false), (.sl 1 [])] [(0, 1, (.t 10)), (1, 1, (.t 11))]), .n (.st 2 (.t 4) (.t 12))] [0, 1, 5, 6, 7, 8, 9, 10, 11, 12] [])
  .ret))⟩
def whole_sign.hint : R.Hint := { kill := [(1, [0, 1, 5, 6, 7, 8, 9, 10, 11, 12], [])] }
theorem whole_sign.ok : cFn Tryd.prog whole_sign.hint Tryd.f45 = some whole_sign := by kernel_rfl
def nat_Clean.b0 : R.C := (.seq (.reg [] [.a 12 (.bin .lss (.t 11) (.t 10))] [] [])
  (.seq (.cond (.t 12) .skip (.exit 0))
  (.seq (.block 1 (.seq (.reg [] [.a 13 (.mv (.t 11)), .a 14 (.iA 1 (.t 9) (.t 11)), .a 15 (.ld 1 false (.t 14)), .a 4 (.mv (.t 13)), .a 5 (.mv (.t 15))] [12, 13, 14, 15] [])
  (.reg [] [.a 16 (.mv (.t 3)), .a 17 (.mv (.t 4)), .a 18 (.mv (.t 5)), .a 19 (.bin .and (.t 18) (.c (.int .u64 4294967295))), .a 20 (.iA 1 (.t 16) (.t 17)), .n (.st 1 (.t 20) (.t 19))] [4, 5, 16, 17, 18, 19, 20] [])))
  (.reg [] [.a 21 (.bin .add (.t 11) (.c (.int .i64 1))), .a 11 (.mv (.t 21))] [21] []))))
def nat_Clean : R.Fn := ⟨1, [(.t 2)], (.seq (.reg [] [.a 2 (.mv (.c (.sl 1 [])))] [2] [])
  (.seq (.reg [] [.a 6 (.mv (.t 0)), .a 7 (.ln (.t 6)), .a 8 (.mk 1 8 [(.int .u64 0)] (.t 7) (.t 7)), .a 3 (.mv (.t 8))] [6, 7, 8] [])
  (.seq (.seq (.reg [] [.a 9 (.mv (.t 0)), .a 10 (.ln (.t 9)), .a 11 (.mv (.c (.int .i64 0)))] [0] [])
  (.block 0 (.loop [] [] nat_Clean.b0)))
  (.seq (.reg [3] [.a 22 (.mv (.t 3)), .a 23 (.call F.nat_trim [(.t 22)]), .a 2 (.mv (.t 23))] [3, 9, 10, 11, 12, 22, 23] [8])
  .ret))))⟩
def nat_Clean.hint : R.Hint := { pub := [(7, [3])], kill := [(0, [2], []), (1, [6, 7, 8], []), (2, [0], []), (4, [12, 13, 14, 15], []), (5, [4, 5, 16, 17, 18, 19, 20], []), (6, [21], []), (7, [3, 9, 10, 11, 12, 22, 23], [8])] }
theorem nat_Clean.ok : cFn Tryd.prog nat_Clean.hint Tryd.f46 = some nat_Clean := by kernel_rfl
def sync_Once_Do : R.Fn := ⟨2, [], (.seq (.reg [] [.a 4 (.mv (.t 0)), .a 5 (.nck (.t 4)), .a 6 (.fA 0 (.t 5)), .a 7 (.call F.sync_atomic_Bool_Load [(.t 6)]), .a 8 (.un .not (.t 7))] [4, 5, 6, 7] [])
  (.cond (.t 8) (.reg [] [.a 9 (.mv (.t 0)), .a 10 (.mv (.t 1)), .a 11 (.call F.sync_Once_doSlow [(.t 9), (.t 10)])] [0, 1, 8, 9, 10, 11] []) .skip))⟩
def sync_Once_Do.hint : R.Hint := { kill := [(0, [4, 5, 6, 7], []), (1, [0, 1, 8, 9, 10, 11], [])] }
theorem sync_Once_Do.ok : cFn Tryd.prog sync_Once_Do.hint Tryd.f47 = some sync_Once_Do := by kernel_rfl
def weigh_products.b0 : R.C := (.seq (.reg [] [.a 8 (.bin .lss (.t 7) (.c (.int .i64 64)))] [] [])
  (.seq (.cond (.t 8) .skip (.exit 0))
  (.seq (.block 1 (.seq (.reg [] [.a 9 (.mv (.t 7)), .a 3 (.mv (.t 9))] [8, 9] [])
  (.seq (.reg [4294967297] [.a 10 (.ld 2 true (.t 1)), .a 11 (.mv (.t 3)), .a 12 (.bin .add (.t 11) (.c (.int .i64 1))), .a 13 (.call F.whole_Of [(.t 12)]), .a 14 (.call F.whole_Mul [(.t 10), (.t 13)]), .n (.st 2 (.t 1) (.t 14))] [3, 10, 11, 12, 13, 14] [])
  (.reg [] [.a 15 (.mv (.t 2)), .a 16 (.ld 2 true (.t 1)), .a 17 (.lit 2 1 [(.bool false), (.sl 1 [])] [(0, 2, (.t 16))]), .a 18 (.app 2 32 (.t 15) (.t 17)), .a 2 (.mv (.t 18))] [15, 16, 17, 18] []))))
  (.reg [] [.a 19 (.bin .add (.t 7) (.c (.int .i64 1))), .a 7 (.mv (.t 19))] [19] []))))
def weigh_products : R.Fn := ⟨0, [(.t 0)], (.seq (.reg [] [.a 0 (.mv (.c (.sl 2 [])))] [0] [])
  (.seq (.reg [] [.a 4 (.call F.whole_Of [(.c (.int .i64 1))]), .a 1 (.new [(.bool false), (.sl 1 [])]), .n (.st 2 (.t 1) (.t 4))] [4] [])
  (.seq (.reg [] [.a 5 (.ld 2 true (.t 1)), .a 6 (.lito 2 1 [(.bool false), (.sl 1 [])] [(0, 2, (.t 5))]), .a 2 (.mv (.t 6))] [5, 6] [])
  (.seq (.seq (.reg [] [.a 7 (.mv (.c (.int .i64 0)))] [] [])
  (.block 0 (.loop [] [] weigh_products.b0)))
  (.seq (.reg [] [.a 20 (.mv (.t 2)), .a 0 (.mv (.t 20))] [1, 2, 7, 8, 20] [1])
  .ret)))))⟩
def weigh_products.hint : R.Hint := { lit := [6], pub := [(6, [4294967297])], kill := [(0, [0], []), (1, [4], []), (2, [5, 6], []), (5, [8, 9], []), (6, [3, 10, 11, 12, 13, 14], []), (7, [15, 16, 17, 18], []), (8, [19], []), (9, [1, 2, 7, 8, 20], [1])] }
theorem weigh_products.ok : cFn Tryd.prog weigh_products.hint Tryd.f49 = some weigh_products := by kernel_rfl
def nat_trim.b0 : R.C := (.seq (.seq (.reg [] [.a 6 (.mv (.t 3)), .a 7 (.bin .gtr (.t 6) (.c (.int .i64 0))), .a 8 (.mv (.t 7)), .g 9 8 true (.mv (.t 0)), .g 10 8 true (.mv (.t 3)), .g 11 8 true (.bin .sub (.t 10) (.c (.int .i64 1))), .g 12 8 true (.iA 1 (.t 9) (.t 11)), .g 13 8 true (.ld 1 false (.t 12)), .g 14 8 true (.bin .eql (.t 13) (.c (.int .u64 0))), .a 15 (.pick (.t 8) (.t 14) (.c (.bool false)))] [6, 7, 8, 9, 10, 11, 12, 13, 14] [])
  (.cond (.t 15) .skip (.exit 0)))
  (.block 1 (.reg [] [.a 16 (.mv (.t 3)), .a 17 (.bin .sub (.t 16) (.c (.int .i64 1))), .a 3 (.mv (.t 17))] [15, 16, 17] [])))
def nat_trim : R.Fn := ⟨1, [(.own 2)], (.seq (.reg [] [.a 2 (.mv (.c (.sl 1 [])))] [2] [])
  (.seq (.reg [] [.a 4 (.mv (.t 0)), .a 5 (.ln (.t 4)), .a 3 (.mv (.t 5))] [4, 5] [])
  (.seq (.block 0 (.loop [] [] nat_trim.b0))
  (.seq (.seq (.reg [] [.a 18 (.mv (.t 3)), .a 19 (.bin .eql (.t 18) (.c (.int .i64 0)))] [15, 18] [])
  (.cond (.t 19) (.seq (.reg [] [.a 2 (.mv (.c (.sl 1 [])))] [0, 3, 19] [])
  .ret) .skip))
  (.seq (.reg [] [.a 20 (.mv (.t 0)), .a 21 (.mv (.t 3)), .a 22 (.slc 1 (.t 20) none (some (.t 21))), .a 2 (.mv (.t 22))] [0, 3, 19, 20, 21, 22] [])
  .ret)))))⟩
def nat_trim.hint : R.Hint := { kill := [(0, [2], []), (1, [4, 5], []), (2, [6, 7, 8, 9, 10, 11, 12, 13, 14], []), (3, [15, 16, 17], []), (4, [15, 18], []), (5, [0, 3, 19], []), (6, [0, 3, 19, 20, 21, 22], [])], own := true }
theorem nat_trim.ok : cFn Tryd.prog nat_trim.hint Tryd.f50 = some nat_trim := by kernel_rfl
def ratio_form : R.Fn := ⟨2, [(.cell 4 3 true)], (.seq (.reg [] [.a 2 (.box (.t 0)), .a 4 (.new [(.bool false), (.sl 1 []), (.sl 1 [])])] [0] [])
  (.seq (.seq (.reg [] [.a 12 (.fA 1 (.t 2)), .a 13 (.ld 1 false (.t 12)), .a 14 (.ln (.t 13)), .a 15 (.bin .eql (.t 14) (.c (.int .i64 0)))] [12, 13, 14] [])
  (.cond (.t 15) (.seq (.reg [] [.a 16 (.call F.nat_Of [(.c (.int .u64 1))]), .a 17 (.bld [(.bool false), (.sl 1 []), (.sl 1 [])] [(2, 1, (.t 16))]), .n (.st 3 (.t 4) (.t 17))] [1, 2, 15, 16, 17] [2])
  .ret) .skip))
  (.seq (.reg [] [.a 18 (.fA 1 (.t 2)), .a 19 (.ld 1 false (.t 18)), .a 20 (.mv (.t 1)), .a 21 (.call F.nat_Gcd [(.t 19), (.t 20)]), .a 5 (.mv (.t 21))] [15, 18, 19, 20, 21] [])
  (.seq (.seq (.reg [] [.a 22 (.mv (.t 5)), .a 23 (.ln (.t 22)), .a 24 (.bin .eql (.t 23) (.c (.int .i64 1))), .a 25 (.mv (.t 24)), .g 26 25 true (.mv (.t 5)), .g 27 25 true (.iA 1 (.t 26) (.c (.int .i64 0))), .g 28 25 true (.ld 1 false (.t 27)), .g 29 25 true (.bin .eql (.t 28) (.c (.int .u64 1))), .a 30 (.pick (.t 25) (.t 29) (.c (.bool false)))] [22, 23, 24, 25, 26, 27, 28, 29] [])
  (.cond (.t 30) (.seq (.reg [] [.a 31 (.ld 2 true (.t 2)), .a 32 (.mv (.t 1)), .a 33 (.bld [(.bool false), (.sl 1 []), (.sl 1 [])] [(0, 2, (.t 31)), (2, 1, (.t 32))]), .n (.st 3 (.t 4) (.t 33))] [1, 2, 5, 30, 31, 32, 33] [2])
  .ret) .skip))
  (.seq (.reg [] [.a 35 (.fA 1 (.t 2)), .a 36 (.ld 1 false (.t 35)), .a 37 (.mv (.t 5)), .a 38 (.call F.nat_DivMod [(.t 36), (.t 37)]), .a 34 (.mv (.t 38)), .a 39 (.ext (.t 34) 0), .a 40 (.ext (.t 34) 1), .a 41 (.ext (.t 34) 2), .a 6 (.mv (.t 39)), .a 7 (.mv (.t 40)), .a 8 (.mv (.t 41))] [7, 8, 30, 34, 35, 36, 37, 38, 39, 40, 41] [])
  (.seq (.reg [] [.a 43 (.mv (.t 1)), .a 44 (.mv (.t 5)), .a 45 (.call F.nat_DivMod [(.t 43), (.t 44)]), .a 42 (.mv (.t 45)), .a 46 (.ext (.t 42) 0), .a 47 (.ext (.t 42) 1), .a 48 (.ext (.t 42) 2), .a 9 (.mv (.t 46)), .a 10 (.mv (.t 47)), .a 11 (.mv (.t 48))] [1, 5, 10, 11, 42, 43, 44, 45, 46, 47, 48] [])
  (.seq (.reg [] [.a 49 (.fA 0 (.t 2)), .a 50 (.ld 1 false (.t 49)), .a 51 (.mv (.t 6)), .a 52 (.bld [(.bool false), (.sl 1 [])] [(0, 1, (.t 50)), (1, 1, (.t 51))]), .a 53 (.mv (.t 9)), .a 54 (.bld [(.bool false), (.sl 1 []), (.sl 1 [])] [(0, 2, (.t 52)), (2, 1, (.t 53))]), .n (.st 3 (.t 4) (.t 54))] [2, 6, 9, 49, 50, 51, 52, 53, 54] [2])
  .ret)))))))⟩
def ratio_form.hint : R.Hint := { kill := [(0, [0], []), (1, [12, 13, 14], []), (2, [1, 2, 15, 16, 17], [2]), (3, [15, 18, 19, 20, 21], []), (4, [22, 23, 24, 25, 26, 27, 28, 29], []), (5, [1, 2, 5, 30, 31, 32, 33], [2]), (6, [7, 8, 30, 34, 35, 36, 37, 38, 39, 40, 41], []), (7, [1, 5, 10, 11, 42, 43, 44, 45, 46, 47, 48], []), (8, [2, 6, 9, 49, 50, 51, 52, 53, 54], [2])] }
theorem ratio_form.ok : cFn Tryd.prog ratio_form.hint Tryd.f51 = some ratio_form := by kernel_rfl
def nat_Mul.b2 : R.C := (.seq (.reg [] [.a 31 (.bin .lss (.t 30) (.t 29))] [] [])
  (.seq (.cond (.t 31) .skip (.exit 2))
  (.seq (.block 3 (.seq (.reg [] [.a 32 (.mv (.t 30)), .a 33 (.iA 1 (.t 28) (.t 30)), .a 34 (.ld 1 false (.t 33)), .a 9 (.mv (.t 32)), .a 10 (.mv (.t 34))] [31, 32, 33, 34] [])
  (.seq (.reg [] [.a 35 (.mv (.t 8)), .a 36 (.mv (.t 5)), .a 37 (.mv (.t 6)), .a 38 (.mv (.t 9)), .a 39 (.bin .add (.t 37) (.t 38)), .a 40 (.iA 1 (.t 36) (.t 39)), .a 41 (.ld 1 false (.t 40)), .a 42 (.mv (.t 7)), .a 43 (.mv (.t 10)), .a 44 (.bin .mul (.t 42) (.t 43)), .a 45 (.bin .add (.t 41) (.t 44)), .a 46 (.bin .add (.t 35) (.t 45)), .a 8 (.mv (.t 46))] [10, 35, 36, 37, 38, 39, 40, 41, 42, 43, 44, 45, 46] [])
  (.seq (.reg [] [.a 47 (.mv (.t 5)), .a 48 (.mv (.t 6)), .a 49 (.mv (.t 9)), .a 50 (.bin .add (.t 48) (.t 49)), .a 51 (.mv (.t 8)), .a 52 (.bin .and (.t 51) (.c (.int .u64 4294967295))), .a 53 (.iA 1 (.t 47) (.t 50)), .n (.st 1 (.t 53) (.t 52))] [9, 47, 48, 49, 50, 51, 52, 53] [])
  (.reg [] [.a 54 (.mv (.t 8)), .a 55 (.bin .shr (.t 54) (.c (.int .u64 32))), .a 8 (.mv (.t 55))] [54, 55] [])))))
  (.reg [] [.a 56 (.bin .add (.t 30) (.c (.int .i64 1))), .a 30 (.mv (.t 56))] [56] []))))
def nat_Mul.b0 : R.C := (.seq (.reg [] [.a 24 (.bin .lss (.t 23) (.t 22))] [] [])
  (.seq (.cond (.t 24) .skip (.exit 0))
  (.seq (.block 1 (.seq (.reg [] [.a 25 (.mv (.t 23)), .a 26 (.iA 1 (.t 21) (.t 23)), .a 27 (.ld 1 false (.t 26)), .a 6 (.mv (.t 25)), .a 7 (.mv (.t 27))] [24, 25, 26, 27] [])
  (.seq (.reg [] [.a 8 (.mv (.c (.int .u64 0)))] [] [])
  (.seq (.seq (.reg [] [.a 28 (.mv (.t 1)), .a 29 (.ln (.t 28)), .a 30 (.mv (.c (.int .i64 0)))] [] [])
  (.block 2 (.loop [] [] nat_Mul.b2)))
  (.reg [] [.a 57 (.mv (.t 5)), .a 58 (.mv (.t 6)), .a 59 (.mv (.t 1)), .a 60 (.ln (.t 59)), .a 61 (.bin .add (.t 58) (.t 60)), .a 62 (.mv (.t 8)), .a 63 (.iA 1 (.t 57) (.t 61)), .n (.st 1 (.t 63) (.t 62))] [6, 7, 8, 28, 29, 30, 31, 57, 58, 59, 60, 61, 62, 63] [])))))
  (.reg [] [.a 64 (.bin .add (.t 23) (.c (.int .i64 1))), .a 23 (.mv (.t 64))] [64] []))))
def nat_Mul : R.Fn := ⟨2, [(.t 4)], (.seq (.reg [] [.a 4 (.mv (.c (.sl 1 [])))] [4] [])
  (.seq (.reg [] [.a 11 (.mv (.t 0)), .a 12 (.call F.nat_Clean [(.t 11)]), .a 13 (.mv (.t 1)), .a 14 (.call F.nat_Clean [(.t 13)]), .a 0 (.mv (.t 12)), .a 1 (.mv (.t 14))] [11, 12, 13, 14] [])
  (.seq (.reg [] [.a 15 (.mv (.t 0)), .a 16 (.ln (.t 15)), .a 17 (.mv (.t 1)), .a 18 (.ln (.t 17)), .a 19 (.bin .add (.t 16) (.t 18)), .a 20 (.mk 1 8 [(.int .u64 0)] (.t 19) (.t 19)), .a 5 (.mv (.t 20))] [15, 16, 17, 18, 19, 20] [])
  (.seq (.seq (.reg [] [.a 21 (.mv (.t 0)), .a 22 (.ln (.t 21)), .a 23 (.mv (.c (.int .i64 0)))] [0] [])
  (.block 0 (.loop [] [] nat_Mul.b0)))
  (.seq (.reg [5] [.a 65 (.mv (.t 5)), .a 66 (.call F.nat_trim [(.t 65)]), .a 4 (.mv (.t 66))] [1, 5, 21, 22, 23, 24, 65, 66] [20])
  .ret)))))⟩
def nat_Mul.hint : R.Hint := { pub := [(16, [5])], kill := [(0, [4], []), (1, [11, 12, 13, 14], []), (2, [15, 16, 17, 18, 19, 20], []), (3, [0], []), (5, [24, 25, 26, 27], []), (9, [31, 32, 33, 34], []), (10, [10, 35, 36, 37, 38, 39, 40, 41, 42, 43, 44, 45, 46], []), (11, [9, 47, 48, 49, 50, 51, 52, 53], []), (12, [54, 55], []), (13, [56], []), (14, [6, 7, 8, 28, 29, 30, 31, 57, 58, 59, 60, 61, 62, 63], []), (15, [64], []), (16, [1, 5, 21, 22, 23, 24, 65, 66], [20])] }
theorem nat_Mul.ok : cFn Tryd.prog nat_Mul.hint Tryd.f52 = some nat_Mul := by kernel_rfl
def whole_Neg : R.Fn := ⟨1, [(.cell 2 2 true)], (.seq (.reg [] [.a 1 (.box (.t 0)), .a 2 (.new [(.bool false), (.sl 1 [])])] [0] [])
  (.seq (.reg [] [.a 3 (.ld 2 true (.t 1)), .a 4 (.call F.whole_Clean [(.t 3)]), .n (.st 2 (.t 1) (.t 4))] [3, 4] [])
  (.seq (.reg [] [.a 5 (.fA 0 (.t 1)), .a 6 (.ld 1 false (.t 5)), .a 7 (.un .not (.t 6)), .a 8 (.fA 1 (.t 1)), .a 9 (.ld 1 false (.t 8)), .a 10 (.call F.whole_sign [(.t 7), (.t 9)]), .n (.st 2 (.t 2) (.t 10))] [1, 5, 6, 7, 8, 9, 10] [1])
  .ret)))⟩
def whole_Neg.hint : R.Hint := { kill := [(0, [0], []), (1, [3, 4], []), (2, [1, 5, 6, 7, 8, 9, 10], [1])] }
theorem whole_Neg.ok : cFn Tryd.prog whole_Neg.hint Tryd.f62 = some whole_Neg := by kernel_rfl
def nat_Cmp : R.Fn := ⟨2, [(.t 4)], (.seq (.reg [] [.a 4 (.mv (.c (.int .i64 0)))] [4] [])
  (.seq (.reg [] [.a 5 (.mv (.t 0)), .a 6 (.call F.nat_Clean [(.t 5)]), .a 7 (.mv (.t 1)), .a 8 (.call F.nat_Clean [(.t 7)]), .a 9 (.call F.nat_order [(.t 6), (.t 8)]), .a 4 (.mv (.t 9))] [0, 1, 5, 6, 7, 8, 9] [])
  .ret))⟩
def nat_Cmp.hint : R.Hint := { kill := [(0, [4], []), (1, [0, 1, 5, 6, 7, 8, 9], [])] }
theorem nat_Cmp.ok : cFn Tryd.prog nat_Cmp.hint Tryd.f65 = some nat_Cmp := by kernel_rfl
def whole_Sign : R.Fn := ⟨1, [(.t 2)], (.seq (.reg [] [.a 1 (.box (.t 0)), .a 2 (.mv (.c (.int .i64 0)))] [0, 2] [])
  (.seq (.reg [] [.a 3 (.ld 2 true (.t 1)), .a 4 (.call F.whole_Clean [(.t 3)]), .n (.st 2 (.t 1) (.t 4))] [3, 4] [])
  (.seq (.block 0 (.seq (.reg [] [.a 6 (.fA 0 (.t 1)), .a 7 (.ld 1 false (.t 6)), .a 5 (.mv (.t 7))] [6, 7] [])
  (.cond (.t 5) (.seq (.reg [] [.a 2 (.mv (.c (.int .i64 (-1))))] [1, 5] [1])
  .ret) (.seq (.reg [] [.a 9 (.fA 1 (.t 1)), .a 10 (.ld 1 false (.t 9)), .a 11 (.ln (.t 10)), .a 12 (.bin .eql (.t 11) (.c (.int .i64 0))), .a 8 (.mv (.t 12))] [1, 5, 9, 10, 11, 12] [1])
  (.cond (.t 8) (.seq (.reg [] [.a 2 (.mv (.c (.int .i64 0)))] [8] [])
  .ret) .skip)))))
  (.seq (.reg [] [.a 2 (.mv (.c (.int .i64 1)))] [8] [])
  .ret))))⟩
def whole_Sign.hint : R.Hint := { kill := [(0, [0, 2], []), (1, [3, 4], []), (2, [6, 7], []), (3, [1, 5], [1]), (4, [1, 5, 9, 10, 11, 12], [1]), (5, [8], []), (6, [8], [])] }
theorem whole_Sign.ok : cFn Tryd.prog whole_Sign.hint Tryd.f66 = some whole_Sign := by kernel_rfl
def nat_Gcd.b1 : R.C := (.block 2 (.seq (.seq (.reg [] [.a 43 (.mv (.t 0)), .a 44 (.mv (.t 1)), .a 45 (.call F.nat_order [(.t 43), (.t 44)]), .a 7 (.mv (.t 45))] [43, 44, 45] [])
  (.block 3 (.seq (.reg [] [.a 47 (.mv (.t 7)), .a 48 (.bin .eql (.t 47) (.c (.int .i64 0))), .a 46 (.mv (.t 48))] [47, 48] [])
  (.cond (.t 46) (.seq (.reg [] [.a 49 (.mv (.t 0)), .a 50 (.mv (.t 5)), .a 51 (.mv (.t 6)), .a 52 (.mn (.t 50) (.t 51)), .a 53 (.call F.nat_shl [(.t 49), (.t 52)]), .a 4 (.mv (.t 53))] [0, 1, 5, 6, 7, 46, 49, 50, 51, 52, 53] [])
  .ret) (.seq (.reg [] [.a 55 (.mv (.t 7)), .a 56 (.bin .lss (.t 55) (.c (.int .i64 0))), .a 54 (.mv (.t 56))] [7, 46, 55, 56] [])
  (.cond (.t 54) (.reg [] [.a 57 (.mv (.t 1)), .a 58 (.mv (.t 0)), .a 0 (.mv (.t 57)), .a 1 (.mv (.t 58))] [54, 57, 58] []) .skip))))))
  (.seq (.seq (.reg [] [.a 59 (.mv (.t 0)), .a 60 (.ln (.t 59)), .a 61 (.mv (.t 1)), .a 62 (.ln (.t 61)), .a 63 (.bin .add (.t 62) (.c (.int .i64 1))), .a 64 (.bin .gtr (.t 60) (.t 63))] [54, 59, 60, 61, 62, 63] [])
  (.cond (.t 64) (.seq (.reg [] [.a 66 (.mv (.t 0)), .a 67 (.mv (.t 1)), .a 68 (.call F.nat_rest [(.t 66), (.t 67)]), .a 65 (.mv (.t 68)), .a 69 (.ext (.t 65) 0), .a 70 (.ext (.t 65) 1), .a 0 (.mv (.t 70))] [64, 65, 66, 67, 68, 69, 70] [])
  (.seq (.reg [] [.a 71 (.mv (.t 0)), .a 72 (.ln (.t 71)), .a 73 (.bin .eql (.t 72) (.c (.int .i64 0)))] [71, 72] [])
  (.cond (.t 73) (.seq (.reg [] [.a 74 (.mv (.t 1)), .a 75 (.mv (.t 5)), .a 76 (.mv (.t 6)), .a 77 (.mn (.t 75) (.t 76)), .a 78 (.call F.nat_shl [(.t 74), (.t 77)]), .a 4 (.mv (.t 78))] [0, 1, 5, 6, 73, 74, 75, 76, 77, 78] [])
  .ret) .skip))) (.reg [] [.a 79 (.mv (.t 0)), .a 80 (.mv (.t 1)), .a 81 (.call F.nat_minus [(.t 79), (.t 80)]), .a 0 (.mv (.t 81))] [64, 79, 80, 81] [])))
  (.reg [] [.a 82 (.mv (.t 0)), .a 83 (.mv (.t 0)), .a 84 (.call F.nat_zeros [(.t 83)]), .a 85 (.call F.nat_shr [(.t 82), (.t 84)]), .a 0 (.mv (.t 85))] [73, 82, 83, 84, 85] []))))
def nat_Gcd : R.Fn := ⟨2, [(.t 4)], (.seq (.reg [] [.a 4 (.mv (.c (.sl 1 [])))] [4] [])
  (.seq (.reg [] [.a 8 (.mv (.t 0)), .a 9 (.call F.nat_Clean [(.t 8)]), .a 10 (.mv (.t 1)), .a 11 (.call F.nat_Clean [(.t 10)]), .a 0 (.mv (.t 9)), .a 1 (.mv (.t 11))] [8, 9, 10, 11] [])
  (.seq (.block 0 (.seq (.reg [] [.a 13 (.mv (.t 0)), .a 14 (.ln (.t 13)), .a 15 (.bin .eql (.t 14) (.c (.int .i64 0))), .a 12 (.mv (.t 15))] [13, 14, 15] [])
  (.cond (.t 12) (.seq (.reg [] [.a 16 (.mv (.t 1)), .a 4 (.mv (.t 16))] [0, 1, 12, 16] [])
  .ret) (.seq (.reg [] [.a 18 (.mv (.t 1)), .a 19 (.ln (.t 18)), .a 20 (.bin .eql (.t 19) (.c (.int .i64 0))), .a 17 (.mv (.t 20))] [12, 18, 19, 20] [])
  (.cond (.t 17) (.seq (.reg [] [.a 21 (.mv (.t 0)), .a 4 (.mv (.t 21))] [0, 1, 17, 21] [])
  .ret) .skip)))))
  (.seq (.seq (.reg [] [.a 22 (.mv (.t 0)), .a 23 (.ln (.t 22)), .a 24 (.bin .leq (.t 23) (.c (.int .i64 2))), .a 25 (.mv (.t 24)), .g 26 25 true (.mv (.t 1)), .g 27 25 true (.ln (.t 26)), .g 28 25 true (.bin .leq (.t 27) (.c (.int .i64 2))), .a 29 (.pick (.t 25) (.t 28) (.c (.bool false)))] [17, 22, 23, 24, 25, 26, 27, 28] [])
  (.cond (.t 29) (.seq (.reg [] [.a 30 (.mv (.t 0)), .a 31 (.mv (.t 1)), .a 32 (.call F.nat_euclid [(.t 30), (.t 31)]), .a 4 (.mv (.t 32))] [0, 1, 29, 30, 31, 32] [])
  .ret) .skip))
  (.seq (.reg [] [.a 33 (.mv (.t 0)), .a 34 (.call F.nat_zeros [(.t 33)]), .a 35 (.mv (.t 1)), .a 36 (.call F.nat_zeros [(.t 35)]), .a 5 (.mv (.t 34)), .a 6 (.mv (.t 36))] [29, 33, 34, 35, 36] [])
  (.seq (.reg [] [.a 37 (.mv (.t 0)), .a 38 (.mv (.t 5)), .a 39 (.call F.nat_shr [(.t 37), (.t 38)]), .a 40 (.mv (.t 1)), .a 41 (.mv (.t 6)), .a 42 (.call F.nat_shr [(.t 40), (.t 41)]), .a 0 (.mv (.t 39)), .a 1 (.mv (.t 42))] [37, 38, 39, 40, 41, 42] [])
  (.block 1 (.loop [] [] nat_Gcd.b1))))))))⟩
def nat_Gcd.hint : R.Hint := { kill := [(0, [4], []), (1, [8, 9, 10, 11], []), (2, [13, 14, 15], []), (3, [0, 1, 12, 16], []), (4, [12, 18, 19, 20], []), (5, [0, 1, 17, 21], []), (6, [17, 22, 23, 24, 25, 26, 27, 28], []), (7, [0, 1, 29, 30, 31, 32], []), (8, [29, 33, 34, 35, 36], []), (9, [37, 38, 39, 40, 41, 42], []), (10, [43, 44, 45], []), (11, [47, 48], []), (12, [0, 1, 5, 6, 7, 46, 49, 50, 51, 52, 53], []), (13, [7, 46, 55, 56], []), (14, [54, 57, 58], []), (15, [54, 59, 60, 61, 62, 63], []), (16, [64, 65, 66, 67, 68, 69, 70], []), (17, [71, 72], []), (18, [0, 1, 5, 6, 73, 74, 75, 76, 77, 78], []), (19, [64, 79, 80, 81], []), (20, [73, 82, 83, 84, 85], [])] }
theorem nat_Gcd.ok : cFn Tryd.prog nat_Gcd.hint Tryd.f69 = some nat_Gcd := by kernel_rfl
def nat_DivMod : R.Fn := ⟨2, [(.t 4), (.t 5), (.t 6)], (.seq (.reg [] [.a 4 (.mv (.c (.sl 1 []))), .a 5 (.mv (.c (.sl 1 []))), .a 6 (.mv (.c (.int .i64 0)))] [4, 5, 6] [])
  (.seq (.reg [] [.a 11 (.mv (.t 0)), .a 12 (.call F.nat_Clean [(.t 11)]), .a 13 (.mv (.t 1)), .a 14 (.call F.nat_Clean [(.t 13)]), .a 0 (.mv (.t 12)), .a 1 (.mv (.t 14))] [11, 12, 13, 14] [])
  (.seq (.block 0 (.seq (.reg [] [.a 16 (.mv (.t 1)), .a 17 (.ln (.t 16)), .a 18 (.bin .eql (.t 17) (.c (.int .i64 0))), .a 15 (.mv (.t 18))] [16, 17, 18] [])
  (.cond (.t 15) (.seq (.reg [] [.a 4 (.mv (.c (.sl 1 []))), .a 5 (.mv (.c (.sl 1 []))), .a 6 (.mv (.c (.int .i64 2)))] [0, 1, 15] [])
  .ret) (.seq (.reg [] [.a 20 (.mv (.t 0)), .a 21 (.mv (.t 1)), .a 22 (.call F.nat_order [(.t 20), (.t 21)]), .a 23 (.bin .lss (.t 22) (.c (.int .i64 0))), .a 19 (.mv (.t 23))] [15, 20, 21, 22, 23] [])
  (.cond (.t 19) (.seq (.reg [] [.a 24 (.mv (.t 0)), .a 4 (.mv (.c (.sl 1 []))), .a 5 (.mv (.t 24)), .a 6 (.mv (.c (.int .i64 0)))] [0, 1, 19, 24] [])
  .ret) (.seq (.reg [] [.a 26 (.mv (.t 1)), .a 27 (.ln (.t 26)), .a 28 (.bin .eql (.t 27) (.c (.int .i64 1))), .a 25 (.mv (.t 28))] [19, 26, 27, 28] [])
  (.cond (.t 25) (.seq (.reg [] [.a 30 (.mv (.t 0)), .a 31 (.mv (.t 1)), .a 32 (.iA 1 (.t 31) (.c (.int .i64 0))), .a 33 (.ld 1 false (.t 32)), .a 34 (.call F.nat_small [(.t 30), (.t 33)]), .a 29 (.mv (.t 34)), .a 35 (.ext (.t 29) 0), .a 36 (.ext (.t 29) 1), .a 7 (.mv (.t 35)), .a 8 (.mv (.t 36))] [0, 1, 25, 29, 30, 31, 32, 33, 34, 35, 36] [])
  (.seq (.reg [] [.a 37 (.mv (.t 7)), .a 38 (.mv (.t 8)), .a 39 (.call F.nat_Of [(.t 38)]), .a 4 (.mv (.t 37)), .a 5 (.mv (.t 39)), .a 6 (.mv (.c (.int .i64 0)))] [7, 8, 37, 38, 39] [])
  .ret)) .skip)))))))
  (.seq (.reg [] [.a 41 (.mv (.t 0)), .a 42 (.mv (.t 1)), .a 43 (.call F.nat_long [(.t 41), (.t 42)]), .a 40 (.mv (.t 43)), .a 44 (.ext (.t 40) 0), .a 45 (.ext (.t 40) 1), .a 9 (.mv (.t 44)), .a 10 (.mv (.t 45))] [0, 1, 25, 40, 41, 42, 43, 44, 45] [])
  (.seq (.reg [] [.a 46 (.mv (.t 9)), .a 47 (.mv (.t 10)), .a 4 (.mv (.t 46)), .a 5 (.mv (.t 47)), .a 6 (.mv (.c (.int .i64 0)))] [9, 10, 46, 47] [])
  .ret)))))⟩
def nat_DivMod.hint : R.Hint := { kill := [(0, [4, 5, 6], []), (1, [11, 12, 13, 14], []), (2, [16, 17, 18], []), (3, [0, 1, 15], []), (4, [15, 20, 21, 22, 23], []), (5, [0, 1, 19, 24], []), (6, [19, 26, 27, 28], []), (7, [0, 1, 25, 29, 30, 31, 32, 33, 34, 35, 36], []), (8, [7, 8, 37, 38, 39], []), (9, [0, 1, 25, 40, 41, 42, 43, 44, 45], []), (10, [9, 10, 46, 47], [])] }
theorem nat_DivMod.ok : cFn Tryd.prog nat_DivMod.hint Tryd.f70 = some nat_DivMod := by kernel_rfl
def bits_Len32 : R.Fn := ⟨1, [(.t 2)], (.seq (.reg [] [.a 2 (.mv (.c (.int .i64 0)))] [] [])
  (.seq (.seq (.reg [] [.a 3 (.mv (.t 0)), .a 4 (.bin .geq (.t 3) (.c (.int .u32 65536)))] [3] [])
  (.cond (.t 4) (.seq (.reg [] [.a 5 (.mv (.t 0)), .a 6 (.bin .shr (.t 5) (.c (.int .u64 16))), .a 0 (.mv (.t 6))] [2, 4, 5, 6] [])
  (.reg [] [.a 2 (.mv (.c (.int .i64 16)))] [] [])) .skip))
  (.seq (.seq (.reg [] [.a 7 (.mv (.t 0)), .a 8 (.bin .geq (.t 7) (.c (.int .u32 256)))] [4, 7] [])
  (.cond (.t 8) (.seq (.reg [] [.a 9 (.mv (.t 0)), .a 10 (.bin .shr (.t 9) (.c (.int .u64 8))), .a 0 (.mv (.t 10))] [8, 9, 10] [])
  (.reg [] [.a 11 (.mv (.t 2)), .a 12 (.bin .add (.t 11) (.c (.int .i64 8))), .a 2 (.mv (.t 12))] [11, 12] [])) .skip))
  (.seq (.reg [] [.a 13 (.mv (.t 2)), .a 14 (.mv (.t 0)), .a 15 (.conv .u8 (.t 14)), .a 16 (.sI (.c (.str ⟨#[0, 1, 2, 2, 3, 3, 3, 3, 4, 4, 4, 4, 4, 4, 4, 4, 5, 5, 5, 5, 5, 5, 5, 5, 5, 5, 5, 5, 5, 5, 5, 5, 6, 6, 6, 6, 6, 6, 6, 6, 6, 6, 6, 6, 6, 6, 6, 6, 6, 6, 6, 6, 6, 6, 6, 6, 6, 6, 6, 6, 6, 6, 6, 6, 7, 7, 7, 7, 7, 7, 7, 7, 7, 7, 7, 7, 7, 7, 7, 7, 7, 7, 7, 7, 7, 7, 7, 7, 7, 7, 7, 7, 7, 7, 7, 7, 7, 7, 7, 7, 7, 7, 7, 7, 7, 7, 7, 7, 7, 7, 7, 7, 7, 7, 7, 7, 7, 7, 7, 7, 7, 7, 7, 7, 7, 7, 7, 7, 8, 8, 8, 8, 8, 8, 8, 8, 8, 8, 8, 8, 8, 8, 8, 8, 8, 8, 8, 8, 8, 8, 8, 8, 8, 8, 8, 8, 8, 8, 8, 8, 8, 8, 8, 8, 8, 8, 8, 8, 8, 8, 8, 8, 8, 8, 8, 8, 8, 8, 8, 8, 8, 8, 8, 8, 8, 8, 8, 8, 8, 8, 8, 8, 8, 8, 8, 8, 8, 8, 8, 8, 8, 8, 8, 8, 8, 8, 8, 8, 8, 8, 8, 8, 8, 8, 8, 8, 8, 8, 8, 8, 8, 8, 8, 8, 8, 8, 8, 8, 8, 8, 8, 8, 8, 8, 8, 8, 8, 8, 8, 8, 8, 8, 8, 8, 8, 8, 8, 8, 8, 8, 8, 8, 8, 8, 8, 8]⟩)) (.t 15)), .a 17 (.conv .i64 (.t 16)), .a 18 (.bin .add (.t 13) (.t 17)), .a 2 (.mv (.t 18))] [0, 8, 13, 14, 15, 16, 17, 18] [])
  .ret))))⟩
def bits_Len32.hint : R.Hint := { kill := [(1, [3], []), (2, [2, 4, 5, 6], []), (4, [4, 7], []), (5, [8, 9, 10], []), (6, [11, 12], []), (7, [0, 8, 13, 14, 15, 16, 17, 18], [])] }
theorem bits_Len32.ok : cFn Tryd.prog bits_Len32.hint Tryd.f71 = some bits_Len32 := by kernel_rfl
def nat_order.b1 : R.C := (.seq (.seq (.reg [] [.a 21 (.mv (.t 5)), .a 22 (.bin .geq (.t 21) (.c (.int .i64 0)))] [21] [])
  (.cond (.t 22) .skip (.exit 1)))
  (.seq (.block 2 (.block 3 (.seq (.reg [] [.a 26 (.mv (.t 0)), .a 27 (.mv (.t 5)), .a 28 (.iA 1 (.t 26) (.t 27)), .a 29 (.ld 1 false (.t 28)), .a 30 (.mv (.t 1)), .a 31 (.mv (.t 5)), .a 32 (.iA 1 (.t 30) (.t 31)), .a 33 (.ld 1 false (.t 32)), .a 34 (.bin .lss (.t 29) (.t 33)), .a 25 (.mv (.t 34))] [22, 26, 27, 28, 29, 30, 31, 32, 33, 34] [])
  (.cond (.t 25) (.seq (.reg [] [.a 4 (.mv (.c (.int .i64 (-1))))] [0, 1, 5, 25] [])
  .ret) (.seq (.reg [] [.a 36 (.mv (.t 0)), .a 37 (.mv (.t 5)), .a 38 (.iA 1 (.t 36) (.t 37)), .a 39 (.ld 1 false (.t 38)), .a 40 (.mv (.t 1)), .a 41 (.mv (.t 5)), .a 42 (.iA 1 (.t 40) (.t 41)), .a 43 (.ld 1 false (.t 42)), .a 44 (.bin .gtr (.t 39) (.t 43)), .a 35 (.mv (.t 44))] [25, 36, 37, 38, 39, 40, 41, 42, 43, 44] [])
  (.cond (.t 35) (.seq (.reg [] [.a 4 (.mv (.c (.int .i64 1)))] [0, 1, 5, 35] [])
  .ret) .skip))))))
  (.reg [] [.a 23 (.mv (.t 5)), .a 24 (.bin .sub (.t 23) (.c (.int .i64 1))), .a 5 (.mv (.t 24))] [23, 24, 35] [])))
def nat_order : R.Fn := ⟨2, [(.t 4)], (.seq (.reg [] [.a 4 (.mv (.c (.int .i64 0)))] [4] [])
  (.seq (.block 0 (.seq (.reg [] [.a 7 (.mv (.t 0)), .a 8 (.ln (.t 7)), .a 9 (.mv (.t 1)), .a 10 (.ln (.t 9)), .a 11 (.bin .lss (.t 8) (.t 10)), .a 6 (.mv (.t 11))] [7, 8, 9, 10, 11] [])
  (.cond (.t 6) (.seq (.reg [] [.a 4 (.mv (.c (.int .i64 (-1))))] [0, 1, 6] [])
  .ret) (.seq (.reg [] [.a 13 (.mv (.t 0)), .a 14 (.ln (.t 13)), .a 15 (.mv (.t 1)), .a 16 (.ln (.t 15)), .a 17 (.bin .gtr (.t 14) (.t 16)), .a 12 (.mv (.t 17))] [6, 13, 14, 15, 16, 17] [])
  (.cond (.t 12) (.seq (.reg [] [.a 4 (.mv (.c (.int .i64 1)))] [0, 1, 12] [])
  .ret) .skip)))))
  (.seq (.seq (.reg [] [.a 18 (.mv (.t 0)), .a 19 (.ln (.t 18)), .a 20 (.bin .sub (.t 19) (.c (.int .i64 1))), .a 5 (.mv (.t 20))] [12, 18, 19, 20] [])
  (.block 1 (.loop [] [] nat_order.b1)))
  (.seq (.reg [] [.a 4 (.mv (.c (.int .i64 0)))] [0, 1, 5, 22] [])
  .ret))))⟩
def nat_order.hint : R.Hint := { kill := [(0, [4], []), (1, [7, 8, 9, 10, 11], []), (2, [0, 1, 6], []), (3, [6, 13, 14, 15, 16, 17], []), (4, [0, 1, 12], []), (5, [12, 18, 19, 20], []), (6, [21], []), (7, [23, 24, 35], []), (8, [22, 26, 27, 28, 29, 30, 31, 32, 33, 34], []), (9, [0, 1, 5, 25], []), (10, [25, 36, 37, 38, 39, 40, 41, 42, 43, 44], []), (11, [0, 1, 5, 35], []), (12, [0, 1, 5, 22], [])] }
theorem nat_order.ok : cFn Tryd.prog nat_order.hint Tryd.f79 = some nat_order := by kernel_rfl
def sync_Mutex_Lock : R.Fn := ⟨1, [], (.reg [] [.a 2 (.mv (.t 0)), .a 3 (.nck (.t 2)), .a 4 (.fA 0 (.t 3)), .a 5 (.call F.internal_sync_Mutex_Lock [(.t 4)])] [0, 2, 3, 4, 5] [])⟩
def sync_Mutex_Lock.hint : R.Hint := { kill := [(0, [0, 2, 3, 4, 5], [])] }
theorem sync_Mutex_Lock.ok : cFn Tryd.prog sync_Mutex_Lock.hint Tryd.f81 = some sync_Mutex_Lock := by kernel_rfl
def sync_Mutex_Unlock : R.Fn := ⟨1, [], (.reg [] [.a 2 (.mv (.t 0)), .a 3 (.nck (.t 2)), .a 4 (.fA 0 (.t 3)), .a 5 (.call F.internal_sync_Mutex_Unlock [(.t 4)])] [0, 2, 3, 4, 5] [])⟩
def sync_Mutex_Unlock.hint : R.Hint := { kill := [(0, [0, 2, 3, 4, 5], [])] }
theorem sync_Mutex_Unlock.ok : cFn Tryd.prog sync_Mutex_Unlock.hint Tryd.f82 = some sync_Mutex_Unlock := by kernel_rfl
def nat_euclid.b0 : R.C := (.seq (.seq (.reg [] [.a 19 (.mv (.t 7)), .a 20 (.bin .neq (.t 19) (.c (.int .u64 0)))] [19] [])
  (.cond (.t 20) .skip (.exit 0)))
  (.block 1 (.reg [] [.a 21 (.mv (.t 7)), .a 22 (.mv (.t 5)), .a 23 (.mv (.t 7)), .a 24 (.bin .rem (.t 22) (.t 23)), .a 5 (.mv (.t 21)), .a 7 (.mv (.t 24))] [20, 21, 22, 23, 24] [])))
def nat_euclid : R.Fn := ⟨2, [(.t 4)], (.seq (.reg [] [.a 4 (.mv (.c (.sl 1 [])))] [4] [])
  (.seq (.reg [] [.a 10 (.mv (.t 0)), .a 11 (.call F.nat_To [(.t 10)]), .a 9 (.mv (.t 11)), .a 12 (.ext (.t 9) 0), .a 13 (.ext (.t 9) 1), .a 5 (.mv (.t 12)), .a 6 (.mv (.t 13))] [0, 6, 9, 10, 11, 12, 13] [])
  (.seq (.reg [] [.a 15 (.mv (.t 1)), .a 16 (.call F.nat_To [(.t 15)]), .a 14 (.mv (.t 16)), .a 17 (.ext (.t 14) 0), .a 18 (.ext (.t 14) 1), .a 7 (.mv (.t 17)), .a 8 (.mv (.t 18))] [1, 8, 14, 15, 16, 17, 18] [])
  (.seq (.block 0 (.loop [] [] nat_euclid.b0))
  (.seq (.reg [] [.a 25 (.mv (.t 5)), .a 26 (.call F.nat_Of [(.t 25)]), .a 4 (.mv (.t 26))] [5, 7, 20, 25, 26] [])
  .ret)))))⟩
def nat_euclid.hint : R.Hint := { kill := [(0, [4], []), (1, [0, 6, 9, 10, 11, 12, 13], []), (2, [1, 8, 14, 15, 16, 17, 18], []), (3, [19], []), (4, [20, 21, 22, 23, 24], []), (5, [5, 7, 20, 25, 26], [])] }
theorem nat_euclid.ok : cFn Tryd.prog nat_euclid.hint Tryd.f84 = some nat_euclid := by kernel_rfl
def nat_zeros.b0 : R.C := (.seq (.reg [] [.a 9 (.bin .lss (.t 8) (.t 7))] [] [])
  (.seq (.cond (.t 9) .skip (.exit 0))
  (.seq (.block 1 (.seq (.reg [] [.a 10 (.mv (.t 8)), .a 11 (.iA 1 (.t 6) (.t 8)), .a 12 (.ld 1 false (.t 11)), .a 4 (.mv (.t 10)), .a 5 (.mv (.t 12))] [9, 10, 11, 12] [])
  (.seq (.seq (.reg [] [.a 13 (.mv (.t 5)), .a 14 (.bin .neq (.t 13) (.c (.int .u64 0)))] [13] [])
  (.cond (.t 14) (.seq (.reg [] [.a 15 (.mv (.t 4)), .a 16 (.bin .mul (.c (.int .i64 32)) (.t 15)), .a 17 (.mv (.t 5)), .a 18 (.call F.bits_TrailingZeros64 [(.t 17)]), .a 19 (.bin .add (.t 16) (.t 18)), .a 2 (.mv (.t 19))] [3, 4, 5, 6, 7, 8, 14, 15, 16, 17, 18, 19] [])
  .ret) .skip))
  (.reg [] [.a 20 (.mv (.t 3)), .a 21 (.bin .add (.t 20) (.c (.int .i64 32))), .a 3 (.mv (.t 21))] [4, 5, 14, 20, 21] []))))
  (.reg [] [.a 22 (.bin .add (.t 8) (.c (.int .i64 1))), .a 8 (.mv (.t 22))] [22] []))))
def nat_zeros : R.Fn := ⟨1, [(.t 2)], (.seq (.reg [] [.a 2 (.mv (.c (.int .i64 0)))] [2] [])
  (.seq (.reg [] [.a 3 (.mv (.c (.int .i64 0)))] [] [])
  (.seq (.seq (.reg [] [.a 6 (.mv (.t 0)), .a 7 (.ln (.t 6)), .a 8 (.mv (.c (.int .i64 0)))] [0] [])
  (.block 0 (.loop [] [] nat_zeros.b0)))
  (.seq (.reg [] [.a 23 (.mv (.t 3)), .a 2 (.mv (.t 23))] [3, 6, 7, 8, 9, 23] [])
  .ret))))⟩
def nat_zeros.hint : R.Hint := { kill := [(0, [2], []), (2, [0], []), (4, [9, 10, 11, 12], []), (5, [13], []), (6, [3, 4, 5, 6, 7, 8, 14, 15, 16, 17, 18, 19], []), (7, [4, 5, 14, 20, 21], []), (8, [22], []), (9, [3, 6, 7, 8, 9, 23], [])] }
theorem nat_zeros.ok : cFn Tryd.prog nat_zeros.hint Tryd.f85 = some nat_zeros := by kernel_rfl
def nat_shr.b0 : R.C := (.seq (.reg [] [.a 25 (.bin .lss (.t 24) (.t 23))] [] [])
  (.seq (.cond (.t 25) .skip (.exit 0))
  (.seq (.block 1 (.seq (.reg [] [.a 26 (.mv (.t 24)), .a 8 (.mv (.t 26))] [25, 26] [])
  (.reg [] [.a 27 (.mv (.t 7)), .a 28 (.mv (.t 8)), .a 29 (.mv (.t 0)), .a 30 (.mv (.t 8)), .a 31 (.mv (.t 5)), .a 32 (.bin .add (.t 30) (.t 31)), .a 33 (.bin .add (.t 32) (.c (.int .i64 1))), .a 34 (.call F.nat_limb [(.t 29), (.t 33)]), .a 35 (.bin .shl (.t 34) (.c (.int .u64 32))), .a 36 (.mv (.t 0)), .a 37 (.mv (.t 8)), .a 38 (.mv (.t 5)), .a 39 (.bin .add (.t 37) (.t 38)), .a 40 (.iA 1 (.t 36) (.t 39)), .a 41 (.ld 1 false (.t 40)), .a 42 (.bin .or (.t 35) (.t 41)), .a 43 (.mv (.t 6)), .a 44 (.bin .shr (.t 42) (.t 43)), .a 45 (.bin .and (.t 44) (.c (.int .u64 4294967295))), .a 46 (.iA 1 (.t 27) (.t 28)), .n (.st 1 (.t 46) (.t 45))] [8, 27, 28, 29, 30, 31, 32, 33, 34, 35, 36, 37, 38, 39, 40, 41, 42, 43, 44, 45, 46] [])))
  (.reg [] [.a 47 (.bin .add (.t 24) (.c (.int .i64 1))), .a 24 (.mv (.t 47))] [47] []))))
def nat_shr : R.Fn := ⟨2, [(.t 4)], (.seq (.reg [] [.a 4 (.mv (.c (.sl 1 [])))] [4] [])
  (.seq (.reg [] [.a 9 (.mv (.t 1)), .a 10 (.bin .quo (.t 9) (.c (.int .i64 32))), .a 11 (.mv (.t 1)), .a 12 (.bin .rem (.t 11) (.c (.int .i64 32))), .a 5 (.mv (.t 10)), .a 6 (.mv (.t 12))] [1, 9, 10, 11, 12] [])
  (.seq (.seq (.reg [] [.a 13 (.mv (.t 5)), .a 14 (.mv (.t 0)), .a 15 (.ln (.t 14)), .a 16 (.bin .geq (.t 13) (.t 15))] [13, 14, 15] [])
  (.cond (.t 16) (.seq (.reg [] [.a 4 (.mv (.c (.sl 1 [])))] [0, 5, 6, 16] [])
  .ret) .skip))
  (.seq (.reg [] [.a 17 (.mv (.t 0)), .a 18 (.ln (.t 17)), .a 19 (.mv (.t 5)), .a 20 (.bin .sub (.t 18) (.t 19)), .a 21 (.mk 1 8 [(.int .u64 0)] (.t 20) (.t 20)), .a 7 (.mv (.t 21))] [16, 17, 18, 19, 20, 21] [])
  (.seq (.seq (.reg [] [.a 22 (.mv (.t 7)), .a 23 (.ln (.t 22)), .a 24 (.mv (.c (.int .i64 0)))] [22] [])
  (.block 0 (.loop [] [] nat_shr.b0)))
  (.seq (.reg [7] [.a 48 (.mv (.t 7)), .a 49 (.call F.nat_trim [(.t 48)]), .a 4 (.mv (.t 49))] [0, 5, 6, 7, 23, 24, 25, 48, 49] [21])
  .ret))))))⟩
def nat_shr.hint : R.Hint := { pub := [(10, [7])], kill := [(0, [4], []), (1, [1, 9, 10, 11, 12], []), (2, [13, 14, 15], []), (3, [0, 5, 6, 16], []), (4, [16, 17, 18, 19, 20, 21], []), (5, [22], []), (7, [25, 26], []), (8, [8, 27, 28, 29, 30, 31, 32, 33, 34, 35, 36, 37, 38, 39, 40, 41, 42, 43, 44, 45, 46], []), (9, [47], []), (10, [0, 5, 6, 7, 23, 24, 25, 48, 49], [21])] }
theorem nat_shr.ok : cFn Tryd.prog nat_shr.hint Tryd.f86 = some nat_shr := by kernel_rfl
def nat_shl.b0 : R.C := (.seq (.reg [] [.a 23 (.bin .lss (.t 22) (.t 21))] [] [])
  (.seq (.cond (.t 23) .skip (.exit 0))
  (.seq (.block 1 (.seq (.reg [] [.a 24 (.mv (.t 22)), .a 25 (.iA 1 (.t 20) (.t 22)), .a 26 (.ld 1 false (.t 25)), .a 8 (.mv (.t 24)), .a 9 (.mv (.t 26))] [23, 24, 25, 26] [])
  (.seq (.reg [] [.a 27 (.mv (.t 9)), .a 28 (.mv (.t 6)), .a 29 (.bin .shl (.t 27) (.t 28)), .a 9 (.mv (.t 29))] [27, 28, 29] [])
  (.seq (.reg [] [.a 30 (.mv (.t 7)), .a 31 (.mv (.t 8)), .a 32 (.mv (.t 5)), .a 33 (.bin .add (.t 31) (.t 32)), .a 34 (.iA 1 (.t 30) (.t 33)), .a 35 (.ld 1 false (.t 34)), .a 36 (.mv (.t 9)), .a 37 (.bin .and (.t 36) (.c (.int .u64 4294967295))), .a 38 (.bin .or (.t 35) (.t 37)), .a 39 (.iA 1 (.t 30) (.t 33)), .n (.st 1 (.t 39) (.t 38))] [30, 31, 32, 33, 34, 35, 36, 37, 38, 39] [])
  (.reg [] [.a 40 (.mv (.t 7)), .a 41 (.mv (.t 8)), .a 42 (.mv (.t 5)), .a 43 (.bin .add (.t 41) (.t 42)), .a 44 (.bin .add (.t 43) (.c (.int .i64 1))), .a 45 (.mv (.t 9)), .a 46 (.bin .shr (.t 45) (.c (.int .u64 32))), .a 47 (.iA 1 (.t 40) (.t 44)), .n (.st 1 (.t 47) (.t 46))] [8, 9, 40, 41, 42, 43, 44, 45, 46, 47] [])))))
  (.reg [] [.a 48 (.bin .add (.t 22) (.c (.int .i64 1))), .a 22 (.mv (.t 48))] [48] []))))
def nat_shl : R.Fn := ⟨2, [(.own 4)], (.seq (.reg [] [.a 4 (.mv (.c (.sl 1 [])))] [4] [])
  (.seq (.reg [] [.a 10 (.mv (.t 1)), .a 11 (.bin .quo (.t 10) (.c (.int .i64 32))), .a 12 (.mv (.t 1)), .a 13 (.bin .rem (.t 12) (.c (.int .i64 32))), .a 5 (.mv (.t 11)), .a 6 (.mv (.t 13))] [1, 10, 11, 12, 13] [])
  (.seq (.reg [] [.a 14 (.mv (.t 0)), .a 15 (.ln (.t 14)), .a 16 (.mv (.t 5)), .a 17 (.bin .add (.t 15) (.t 16)), .a 18 (.bin .add (.t 17) (.c (.int .i64 1))), .a 19 (.mk 1 8 [(.int .u64 0)] (.t 18) (.t 18)), .a 7 (.mv (.t 19))] [14, 15, 16, 17, 18, 19] [])
  (.seq (.seq (.reg [] [.a 20 (.mv (.t 0)), .a 21 (.ln (.t 20)), .a 22 (.mv (.c (.int .i64 0)))] [0] [])
  (.block 0 (.loop [] [] nat_shl.b0)))
  (.seq (.reg [] [.a 49 (.mv (.t 7)), .a 50 (.callk F.nat_trim [(true, (.t 49))]), .a 4 (.mv (.t 50))] [5, 6, 7, 20, 21, 22, 23, 49, 50] [])
  .ret)))))⟩
def nat_shl.hint : R.Hint := { callk := [(50, [true])], kill := [(0, [4], []), (1, [1, 10, 11, 12, 13], []), (2, [14, 15, 16, 17, 18, 19], []), (3, [0], []), (5, [23, 24, 25, 26], []), (6, [27, 28, 29], []), (7, [30, 31, 32, 33, 34, 35, 36, 37, 38, 39], []), (8, [8, 9, 40, 41, 42, 43, 44, 45, 46, 47], []), (9, [48], []), (10, [5, 6, 7, 20, 21, 22, 23, 49, 50], [])], own := true }
theorem nat_shl.ok : cFn Tryd.prog nat_shl.hint Tryd.f87 = some nat_shl := by kernel_rfl
def nat_rest : R.Fn := ⟨2, [(.t 4), (.t 5)], (.seq (.reg [] [.a 4 (.mv (.c (.sl 1 []))), .a 5 (.mv (.c (.sl 1 [])))] [4, 5] [])
  (.seq (.reg [] [.a 10 (.mv (.t 0)), .a 11 (.mv (.t 1)), .a 12 (.call F.nat_DivMod [(.t 10), (.t 11)]), .a 9 (.mv (.t 12)), .a 13 (.ext (.t 9) 0), .a 14 (.ext (.t 9) 1), .a 15 (.ext (.t 9) 2), .a 6 (.mv (.t 13)), .a 7 (.mv (.t 14)), .a 8 (.mv (.t 15))] [0, 1, 8, 9, 10, 11, 12, 13, 14, 15] [])
  (.seq (.reg [] [.a 16 (.mv (.t 6)), .a 17 (.mv (.t 7)), .a 4 (.mv (.t 16)), .a 5 (.mv (.t 17))] [6, 7, 16, 17] [])
  .ret)))⟩
def nat_rest.hint : R.Hint := { kill := [(0, [4, 5], []), (1, [0, 1, 8, 9, 10, 11, 12, 13, 14, 15], []), (2, [6, 7, 16, 17], [])] }
theorem nat_rest.ok : cFn Tryd.prog nat_rest.hint Tryd.f88 = some nat_rest := by kernel_rfl
def nat_minus.b0 : R.C := (.seq (.reg [] [.a 15 (.bin .lss (.t 14) (.t 13))] [] [])
  (.seq (.cond (.t 15) .skip (.exit 0))
  (.seq (.block 1 (.seq (.reg [] [.a 16 (.mv (.t 14)), .a 7 (.mv (.t 16))] [15, 16] [])
  (.seq (.reg [] [.a 17 (.mv (.t 0)), .a 18 (.mv (.t 7)), .a 19 (.iA 1 (.t 17) (.t 18)), .a 20 (.ld 1 false (.t 19)), .a 21 (.bin .add (.c (.int .u64 4294967296)) (.t 20)), .a 22 (.mv (.t 1)), .a 23 (.mv (.t 7)), .a 24 (.call F.nat_limb [(.t 22), (.t 23)]), .a 25 (.bin .sub (.t 21) (.t 24)), .a 26 (.mv (.t 6)), .a 27 (.bin .sub (.t 25) (.t 26)), .a 8 (.mv (.t 27))] [6, 17, 18, 19, 20, 21, 22, 23, 24, 25, 26, 27] [])
  (.seq (.reg [] [.a 28 (.mv (.t 5)), .a 29 (.mv (.t 7)), .a 30 (.mv (.t 8)), .a 31 (.bin .and (.t 30) (.c (.int .u64 4294967295))), .a 32 (.iA 1 (.t 28) (.t 29)), .n (.st 1 (.t 32) (.t 31))] [7, 28, 29, 30, 31, 32] [])
  (.reg [] [.a 33 (.mv (.t 8)), .a 34 (.bin .shr (.t 33) (.c (.int .u64 32))), .a 35 (.bin .sub (.c (.int .u64 1)) (.t 34)), .a 6 (.mv (.t 35))] [8, 33, 34, 35] [])))))
  (.reg [] [.a 36 (.bin .add (.t 14) (.c (.int .i64 1))), .a 14 (.mv (.t 36))] [36] []))))
def nat_minus : R.Fn := ⟨2, [(.t 4)], (.seq (.reg [] [.a 4 (.mv (.c (.sl 1 [])))] [4] [])
  (.seq (.reg [] [.a 9 (.mv (.t 0)), .a 10 (.ln (.t 9)), .a 11 (.mk 1 8 [(.int .u64 0)] (.t 10) (.t 10)), .a 5 (.mv (.t 11))] [9, 10, 11] [])
  (.seq (.reg [] [.a 6 (.mv (.c (.int .u64 0)))] [] [])
  (.seq (.seq (.reg [] [.a 12 (.mv (.t 5)), .a 13 (.ln (.t 12)), .a 14 (.mv (.c (.int .i64 0)))] [12] [])
  (.block 0 (.loop [] [] nat_minus.b0)))
  (.seq (.reg [5] [.a 37 (.mv (.t 5)), .a 38 (.call F.nat_trim [(.t 37)]), .a 4 (.mv (.t 38))] [0, 1, 5, 6, 13, 14, 15, 37, 38] [11])
  .ret)))))⟩
def nat_minus.hint : R.Hint := { pub := [(10, [5])], kill := [(0, [4], []), (1, [9, 10, 11], []), (3, [12], []), (5, [15, 16], []), (6, [6, 17, 18, 19, 20, 21, 22, 23, 24, 25, 26, 27], []), (7, [7, 28, 29, 30, 31, 32], []), (8, [8, 33, 34, 35], []), (9, [36], []), (10, [0, 1, 5, 6, 13, 14, 15, 37, 38], [11])] }
theorem nat_minus.ok : cFn Tryd.prog nat_minus.hint Tryd.f89 = some nat_minus := by kernel_rfl
def nat_small.b0 : R.C := (.seq (.seq (.reg [] [.a 15 (.mv (.t 8)), .a 16 (.bin .geq (.t 15) (.c (.int .i64 0)))] [15] [])
  (.cond (.t 16) .skip (.exit 0)))
  (.seq (.block 1 (.seq (.reg [] [.a 19 (.mv (.t 7)), .a 20 (.bin .shl (.t 19) (.c (.int .u64 32))), .a 21 (.mv (.t 0)), .a 22 (.mv (.t 8)), .a 23 (.iA 1 (.t 21) (.t 22)), .a 24 (.ld 1 false (.t 23)), .a 25 (.bin .or (.t 20) (.t 24)), .a 7 (.mv (.t 25))] [16, 19, 20, 21, 22, 23, 24, 25] [])
  (.seq (.reg [] [.a 26 (.mv (.t 6)), .a 27 (.mv (.t 8)), .a 28 (.mv (.t 7)), .a 29 (.mv (.t 1)), .a 30 (.bin .quo (.t 28) (.t 29)), .a 31 (.iA 1 (.t 26) (.t 27)), .n (.st 1 (.t 31) (.t 30))] [26, 27, 28, 29, 30, 31] [])
  (.reg [] [.a 32 (.mv (.t 7)), .a 33 (.mv (.t 1)), .a 34 (.bin .rem (.t 32) (.t 33)), .a 7 (.mv (.t 34))] [32, 33, 34] []))))
  (.reg [] [.a 17 (.mv (.t 8)), .a 18 (.bin .sub (.t 17) (.c (.int .i64 1))), .a 8 (.mv (.t 18))] [17, 18] [])))
def nat_small : R.Fn := ⟨2, [(.t 4), (.t 5)], (.seq (.reg [] [.a 4 (.mv (.c (.sl 1 []))), .a 5 (.mv (.c (.int .u64 0)))] [4, 5] [])
  (.seq (.reg [] [.a 9 (.mv (.t 0)), .a 10 (.ln (.t 9)), .a 11 (.mk 1 8 [(.int .u64 0)] (.t 10) (.t 10)), .a 6 (.mv (.t 11))] [9, 10, 11] [])
  (.seq (.reg [] [.a 7 (.mv (.c (.int .u64 0)))] [] [])
  (.seq (.seq (.reg [] [.a 12 (.mv (.t 0)), .a 13 (.ln (.t 12)), .a 14 (.bin .sub (.t 13) (.c (.int .i64 1))), .a 8 (.mv (.t 14))] [12, 13, 14] [])
  (.block 0 (.loop [] [] nat_small.b0)))
  (.seq (.reg [6] [.a 35 (.mv (.t 6)), .a 36 (.call F.nat_trim [(.t 35)]), .a 37 (.mv (.t 7)), .a 4 (.mv (.t 36)), .a 5 (.mv (.t 37))] [0, 1, 6, 7, 8, 16, 35, 36, 37] [11])
  .ret)))))⟩
def nat_small.hint : R.Hint := { pub := [(9, [6])], kill := [(0, [4, 5], []), (1, [9, 10, 11], []), (3, [12, 13, 14], []), (4, [15], []), (5, [17, 18], []), (6, [16, 19, 20, 21, 22, 23, 24, 25], []), (7, [26, 27, 28, 29, 30, 31], []), (8, [32, 33, 34], []), (9, [0, 1, 6, 7, 8, 16, 35, 36, 37], [11])] }
theorem nat_small.ok : cFn Tryd.prog nat_small.hint Tryd.f90 = some nat_small := by kernel_rfl
def nat_long.b0 : R.C := (.seq (.seq (.reg [] [.a 42 (.mv (.t 11)), .a 43 (.bin .geq (.t 42) (.c (.int .i64 0)))] [42] [])
  (.cond (.t 43) .skip (.exit 0)))
  (.seq (.block 1 (.reg [7] [.a 46 (.mv (.t 10)), .a 47 (.mv (.t 11)), .a 48 (.mv (.t 8)), .a 49 (.mv (.t 11)), .a 50 (.mv (.t 11)), .a 51 (.mv (.t 9)), .a 52 (.bin .add (.t 50) (.t 51)), .a 53 (.bin .add (.t 52) (.c (.int .i64 1))), .a 54 (.slc 1 (.t 48) (some (.t 49)) (some (.t 53))), .a 55 (.mv (.t 7)), .a 56 (.callk F.nat_digit [(true, (.t 54)), (false, (.t 55))]), .a 57 (.iA 1 (.t 46) (.t 47)), .n (.st 1 (.t 57) (.t 56))] [43, 46, 47, 48, 49, 50, 51, 52, 53, 54, 55, 56, 57] [56]))
  (.reg [] [.a 44 (.mv (.t 11)), .a 45 (.bin .sub (.t 44) (.c (.int .i64 1))), .a 11 (.mv (.t 45))] [44, 45] [])))
def nat_long : R.Fn := ⟨2, [(.t 4), (.t 5)], (.seq (.reg [] [.a 4 (.mv (.c (.sl 1 []))), .a 5 (.mv (.c (.sl 1 [])))] [4, 5] [])
  (.seq (.reg [] [.a 12 (.mv (.t 1)), .a 13 (.mv (.t 1)), .a 14 (.ln (.t 13)), .a 15 (.bin .sub (.t 14) (.c (.int .i64 1))), .a 16 (.iA 1 (.t 12) (.t 15)), .a 17 (.ld 1 false (.t 16)), .a 18 (.conv .u32 (.t 17)), .a 19 (.call F.bits_LeadingZeros32 [(.t 18)]), .a 6 (.mv (.t 19))] [12, 13, 14, 15, 16, 17, 18, 19] [])
  (.seq (.reg [] [.a 20 (.mv (.t 1)), .a 21 (.mv (.t 6)), .a 22 (.callk F.nat_shl [(false, (.t 20)), (false, (.t 21))]), .a 7 (.mv (.t 22))] [1, 20, 21, 22] [])
  (.seq (.reg [] [.a 23 (.mv (.t 0)), .a 24 (.mv (.t 6)), .a 25 (.callk F.nat_shl [(false, (.t 23)), (false, (.t 24))]), .a 26 (.lit 1 2 [(.int .u64 0), (.int .u64 0)] [(0, 1, (.c (.int .u64 0))), (1, 1, (.c (.int .u64 0)))]), .a 27 (.app 1 8 (.t 25) (.t 26)), .a 28 (.mv (.t 0)), .a 29 (.ln (.t 28)), .a 30 (.bin .add (.t 29) (.c (.int .i64 1))), .a 31 (.slc 1 (.t 27) none (some (.t 30))), .a 8 (.mv (.t 31))] [0, 23, 24, 25, 26, 27, 28, 29, 30, 31] [])
  (.seq (.reg [] [.a 32 (.mv (.t 7)), .a 33 (.ln (.t 32)), .a 9 (.mv (.t 33))] [32, 33] [])
  (.seq (.reg [] [.a 34 (.mv (.t 8)), .a 35 (.ln (.t 34)), .a 36 (.mv (.t 9)), .a 37 (.bin .sub (.t 35) (.t 36)), .a 38 (.mk 1 8 [(.int .u64 0)] (.t 37) (.t 37)), .a 10 (.mv (.t 38))] [34, 35, 36, 37, 38] [])
  (.seq (.seq (.reg [] [.a 39 (.mv (.t 10)), .a 40 (.ln (.t 39)), .a 41 (.bin .sub (.t 40) (.c (.int .i64 1))), .a 11 (.mv (.t 41))] [39, 40, 41] [])
  (.block 0 (.loop [] [] nat_long.b0)))
  (.seq (.reg [10, 8] [.a 58 (.mv (.t 10)), .a 59 (.call F.nat_trim [(.t 58)]), .a 60 (.mv (.t 8)), .a 61 (.call F.nat_trim [(.t 60)]), .a 62 (.mv (.t 6)), .a 63 (.call F.nat_shr [(.t 61), (.t 62)]), .a 4 (.mv (.t 59)), .a 5 (.mv (.t 63))] [6, 7, 8, 9, 10, 11, 43, 58, 59, 60, 61, 62, 63] [22, 25, 38])
  .ret))))))))⟩
def nat_long.hint : R.Hint := { callk := [(22, [false, false]), (25, [false, false]), (56, [true, false])], pub := [(9, [7]), (10, [10, 8])], kill := [(0, [4, 5], []), (1, [12, 13, 14, 15, 16, 17, 18, 19], []), (2, [1, 20, 21, 22], []), (3, [0, 23, 24, 25, 26, 27, 28, 29, 30, 31], []), (4, [32, 33], []), (5, [34, 35, 36, 37, 38], []), (6, [39, 40, 41], []), (7, [42], []), (8, [44, 45], []), (9, [43, 46, 47, 48, 49, 50, 51, 52, 53, 54, 55, 56, 57], [56]), (10, [6, 7, 8, 9, 10, 11, 43, 58, 59, 60, 61, 62, 63], [22, 25, 38])] }
theorem nat_long.ok : cFn Tryd.prog nat_long.hint Tryd.f91 = some nat_long := by kernel_rfl
def nat_limb : R.Fn := ⟨2, [(.t 4)], (.seq (.reg [] [.a 4 (.mv (.c (.int .u64 0)))] [4] [])
  (.seq (.seq (.reg [] [.a 5 (.mv (.t 1)), .a 6 (.mv (.t 0)), .a 7 (.ln (.t 6)), .a 8 (.bin .lss (.t 5) (.t 7))] [5, 6, 7] [])
  (.cond (.t 8) (.seq (.reg [] [.a 9 (.mv (.t 0)), .a 10 (.mv (.t 1)), .a 11 (.iA 1 (.t 9) (.t 10)), .a 12 (.ld 1 false (.t 11)), .a 4 (.mv (.t 12))] [0, 1, 8, 9, 10, 11, 12] [])
  .ret) .skip))
  (.seq (.reg [] [.a 4 (.mv (.c (.int .u64 0)))] [0, 1, 8] [])
  .ret)))⟩
def nat_limb.hint : R.Hint := { kill := [(0, [4], []), (1, [5, 6, 7], []), (2, [0, 1, 8, 9, 10, 11, 12], []), (3, [0, 1, 8], [])] }
theorem nat_limb.ok : cFn Tryd.prog nat_limb.hint Tryd.f95 = some nat_limb := by kernel_rfl
def nat_To : R.Fn := ⟨1, [(.t 2), (.t 3)], (.seq (.reg [] [.a 2 (.mv (.c (.int .u64 0))), .a 3 (.mv (.c (.bool false)))] [2, 3] [])
  (.seq (.reg [] [.a 4 (.mv (.t 0)), .a 5 (.call F.nat_Clean [(.t 4)]), .a 0 (.mv (.t 5))] [4, 5] [])
  (.seq (.seq (.reg [] [.a 6 (.mv (.t 0)), .a 7 (.ln (.t 6))] [6] [])
  (.block 0 (.seq (.reg [] [.a 9 (.bin .eql (.t 7) (.c (.int .i64 0))), .a 8 (.mv (.t 9))] [9] [])
  (.cond (.t 8) (.seq (.reg [] [.a 2 (.mv (.c (.int .u64 0))), .a 3 (.mv (.c (.bool true)))] [0, 7, 8] [])
  .ret) (.seq (.reg [] [.a 11 (.bin .eql (.t 7) (.c (.int .i64 1))), .a 10 (.mv (.t 11))] [8, 11] [])
  (.cond (.t 10) (.seq (.reg [] [.a 12 (.mv (.t 0)), .a 13 (.iA 1 (.t 12) (.c (.int .i64 0))), .a 14 (.ld 1 false (.t 13)), .a 2 (.mv (.t 14)), .a 3 (.mv (.c (.bool true)))] [0, 7, 10, 12, 13, 14] [])
  .ret) (.seq (.reg [] [.a 16 (.bin .eql (.t 7) (.c (.int .i64 2))), .a 15 (.mv (.t 16))] [7, 10, 16] [])
  (.cond (.t 15) (.seq (.reg [] [.a 17 (.mv (.t 0)), .a 18 (.iA 1 (.t 17) (.c (.int .i64 1))), .a 19 (.ld 1 false (.t 18)), .a 20 (.bin .shl (.t 19) (.c (.int .u64 32))), .a 21 (.mv (.t 0)), .a 22 (.iA 1 (.t 21) (.c (.int .i64 0))), .a 23 (.ld 1 false (.t 22)), .a 24 (.bin .or (.t 20) (.t 23)), .a 2 (.mv (.t 24)), .a 3 (.mv (.c (.bool true)))] [0, 15, 17, 18, 19, 20, 21, 22, 23, 24] [])
  .ret) .skip))))))))
  (.seq (.reg [] [.a 2 (.mv (.c (.int .u64 0))), .a 3 (.mv (.c (.bool false)))] [0, 15] [])
  .ret))))⟩
def nat_To.hint : R.Hint := { kill := [(0, [2, 3], []), (1, [4, 5], []), (2, [6], []), (3, [9], []), (4, [0, 7, 8], []), (5, [8, 11], []), (6, [0, 7, 10, 12, 13, 14], []), (7, [7, 10, 16], []), (8, [0, 15, 17, 18, 19, 20, 21, 22, 23, 24], []), (9, [0, 15], [])] }
theorem nat_To.ok : cFn Tryd.prog nat_To.hint Tryd.f100 = some nat_To := by kernel_rfl
def bits_LeadingZeros32 : R.Fn := ⟨1, [(.t 2)], (.seq (.reg [] [.a 2 (.mv (.c (.int .i64 0)))] [2] [])
  (.seq (.reg [] [.a 3 (.mv (.t 0)), .a 4 (.call F.bits_Len32 [(.t 3)]), .a 5 (.bin .sub (.c (.int .i64 32)) (.t 4)), .a 2 (.mv (.t 5))] [0, 3, 4, 5] [])
  .ret))⟩
def bits_LeadingZeros32.hint : R.Hint := { kill := [(0, [2], []), (1, [0, 3, 4, 5], [])] }
theorem bits_LeadingZeros32.ok : cFn Tryd.prog bits_LeadingZeros32.hint Tryd.f102 = some bits_LeadingZeros32 := by kernel_rfl
def nat_digit.b0 : R.C := (.seq (.seq (.reg [] [.a 36 (.mv (.t 7)), .a 37 (.bin .geq (.t 36) (.c (.int .u64 4294967296))), .a 38 (.mv (.t 37)), .g 39 38 false (.mv (.t 7)), .g 40 38 false (.mv (.t 1)), .g 41 38 false (.mv (.t 5)), .g 42 38 false (.bin .sub (.t 41) (.c (.int .i64 2))), .g 43 38 false (.iA 1 (.t 40) (.t 42)), .g 44 38 false (.ld 1 false (.t 43)), .g 45 38 false (.bin .mul (.t 39) (.t 44)), .g 46 38 false (.mv (.t 8)), .g 47 38 false (.bin .shl (.t 46) (.c (.int .u64 32))), .g 48 38 false (.mv (.t 0)), .g 49 38 false (.mv (.t 5)), .g 50 38 false (.bin .sub (.t 49) (.c (.int .i64 2))), .g 51 38 false (.iA 1 (.t 48) (.t 50)), .g 52 38 false (.ld 1 false (.t 51)), .g 53 38 false (.bin .or (.t 47) (.t 52)), .g 54 38 false (.bin .gtr (.t 45) (.t 53)), .a 55 (.pick (.t 38) (.c (.bool true)) (.t 54))] [36, 37, 38, 39, 40, 41, 42, 43, 44, 45, 46, 47, 48, 49, 50, 51, 52, 53, 54] [])
  (.cond (.t 55) .skip (.exit 0)))
  (.block 1 (.seq (.reg [] [.a 56 (.mv (.t 7)), .a 57 (.bin .sub (.t 56) (.c (.int .u64 1))), .a 7 (.mv (.t 57))] [55, 56, 57] [])
  (.seq (.reg [] [.a 58 (.mv (.t 8)), .a 59 (.mv (.t 1)), .a 60 (.mv (.t 5)), .a 61 (.bin .sub (.t 60) (.c (.int .i64 1))), .a 62 (.iA 1 (.t 59) (.t 61)), .a 63 (.ld 1 false (.t 62)), .a 64 (.bin .add (.t 58) (.t 63)), .a 8 (.mv (.t 64))] [58, 59, 60, 61, 62, 63, 64] [])
  (.seq (.reg [] [.a 65 (.mv (.t 8)), .a 66 (.bin .geq (.t 65) (.c (.int .u64 4294967296)))] [65] [])
  (.cond (.t 66) (.exit 0) .skip))))))
def nat_digit : R.Fn := ⟨2, [(.own 4)], (.seq (.reg [] [.a 4 (.mv (.c (.int .u64 0)))] [4] [])
  (.seq (.reg [] [.a 9 (.mv (.t 1)), .a 10 (.ln (.t 9)), .a 5 (.mv (.t 10))] [9, 10] [])
  (.seq (.reg [] [.a 11 (.mv (.t 0)), .a 12 (.mv (.t 5)), .a 13 (.iA 1 (.t 11) (.t 12)), .a 14 (.ld 1 false (.t 13)), .a 15 (.bin .shl (.t 14) (.c (.int .u64 32))), .a 16 (.mv (.t 0)), .a 17 (.mv (.t 5)), .a 18 (.bin .sub (.t 17) (.c (.int .i64 1))), .a 19 (.iA 1 (.t 16) (.t 18)), .a 20 (.ld 1 false (.t 19)), .a 21 (.bin .or (.t 15) (.t 20)), .a 6 (.mv (.t 21))] [11, 12, 13, 14, 15, 16, 17, 18, 19, 20, 21] [])
  (.seq (.reg [] [.a 22 (.mv (.t 6)), .a 23 (.mv (.t 1)), .a 24 (.mv (.t 5)), .a 25 (.bin .sub (.t 24) (.c (.int .i64 1))), .a 26 (.iA 1 (.t 23) (.t 25)), .a 27 (.ld 1 false (.t 26)), .a 28 (.bin .quo (.t 22) (.t 27)), .a 29 (.mv (.t 6)), .a 30 (.mv (.t 1)), .a 31 (.mv (.t 5)), .a 32 (.bin .sub (.t 31) (.c (.int .i64 1))), .a 33 (.iA 1 (.t 30) (.t 32)), .a 34 (.ld 1 false (.t 33)), .a 35 (.bin .rem (.t 29) (.t 34)), .a 7 (.mv (.t 28)), .a 8 (.mv (.t 35))] [6, 22, 23, 24, 25, 26, 27, 28, 29, 30, 31, 32, 33, 34, 35] [])
  (.seq (.block 0 (.loop [66] [] nat_digit.b0))
  (.seq (.seq (.reg [] [.a 67 (.mv (.t 0)), .a 68 (.mv (.t 1)), .a 69 (.mv (.t 7)), .a 70 (.callk F.nat_take [(true, (.t 67)), (false, (.t 68)), (false, (.t 69))])] [5, 8, 55, 66, 67, 68, 69] [])
  (.cond (.t 70) (.seq (.reg [] [.a 71 (.mv (.t 7)), .a 72 (.bin .sub (.t 71) (.c (.int .u64 1))), .a 7 (.mv (.t 72))] [70, 71, 72] [70])
  (.reg [] [.a 73 (.mv (.t 0)), .a 74 (.mv (.t 1)), .a 75 (.callk F.nat_give [(true, (.t 73)), (false, (.t 74))])] [0, 1, 73, 74, 75] [75])) .skip))
  (.seq (.reg [] [.a 76 (.mv (.t 7)), .a 4 (.mv (.t 76))] [0, 1, 7, 70, 76] [70])
  .ret)))))))⟩
def nat_digit.hint : R.Hint := { callk := [(70, [true, false, false]), (75, [true, false])], kill := [(0, [4], []), (1, [9, 10], []), (2, [11, 12, 13, 14, 15, 16, 17, 18, 19, 20, 21], []), (3, [6, 22, 23, 24, 25, 26, 27, 28, 29, 30, 31, 32, 33, 34, 35], []), (4, [36, 37, 38, 39, 40, 41, 42, 43, 44, 45, 46, 47, 48, 49, 50, 51, 52, 53, 54], []), (5, [55, 56, 57], []), (6, [58, 59, 60, 61, 62, 63, 64], []), (7, [65], []), (8, [5, 8, 55, 66, 67, 68, 69], []), (9, [70, 71, 72], [70]), (10, [0, 1, 73, 74, 75], [75]), (11, [0, 1, 7, 70, 76], [70])], loop := [(0, [66], [])], own := true }
theorem nat_digit.ok : cFn Tryd.prog nat_digit.hint Tryd.f103 = some nat_digit := by kernel_rfl
def nat_take.b0 : R.C := (.seq (.reg [] [.a 14 (.bin .lss (.t 13) (.t 12))] [] [])
  (.seq (.cond (.t 14) .skip (.exit 0))
  (.seq (.block 1 (.seq (.reg [] [.a 15 (.mv (.t 13)), .a 9 (.mv (.t 15))] [14, 15] [])
  (.seq (.reg [] [.a 16 (.mv (.t 7)), .a 17 (.mv (.t 2)), .a 18 (.mv (.t 1)), .a 19 (.mv (.t 9)), .a 20 (.call F.nat_limb [(.t 18), (.t 19)]), .a 21 (.bin .mul (.t 17) (.t 20)), .a 22 (.bin .add (.t 16) (.t 21)), .a 7 (.mv (.t 22))] [16, 17, 18, 19, 20, 21, 22] [])
  (.seq (.reg [] [.a 23 (.mv (.t 0)), .a 24 (.mv (.t 9)), .a 25 (.iA 1 (.t 23) (.t 24)), .a 26 (.ld 1 false (.t 25)), .a 27 (.bin .add (.c (.int .u64 4294967296)) (.t 26)), .a 28 (.mv (.t 7)), .a 29 (.bin .and (.t 28) (.c (.int .u64 4294967295))), .a 30 (.bin .sub (.t 27) (.t 29)), .a 31 (.mv (.t 8)), .a 32 (.bin .sub (.t 30) (.t 31)), .a 10 (.mv (.t 32))] [8, 23, 24, 25, 26, 27, 28, 29, 30, 31, 32] [])
  (.seq (.reg [] [.a 33 (.mv (.t 0)), .a 34 (.mv (.t 9)), .a 35 (.mv (.t 10)), .a 36 (.bin .and (.t 35) (.c (.int .u64 4294967295))), .a 37 (.iA 1 (.t 33) (.t 34)), .n (.st 1 (.t 37) (.t 36))] [9, 33, 34, 35, 36, 37] [])
  (.seq (.reg [] [.a 38 (.mv (.t 10)), .a 39 (.bin .shr (.t 38) (.c (.int .u64 32))), .a 40 (.bin .sub (.c (.int .u64 1)) (.t 39)), .a 8 (.mv (.t 40))] [10, 38, 39, 40] [])
  (.reg [] [.a 41 (.mv (.t 7)), .a 42 (.bin .shr (.t 41) (.c (.int .u64 32))), .a 7 (.mv (.t 42))] [41, 42] [])))))))
  (.reg [] [.a 43 (.bin .add (.t 13) (.c (.int .i64 1))), .a 13 (.mv (.t 43))] [43] []))))
def nat_take : R.Fn := ⟨3, [(.own 6)], (.seq (.reg [] [.a 6 (.mv (.c (.bool false)))] [6] [])
  (.seq (.reg [] [.a 7 (.mv (.c (.int .u64 0))), .a 8 (.mv (.c (.int .u64 0)))] [] [])
  (.seq (.seq (.reg [] [.a 11 (.mv (.t 0)), .a 12 (.ln (.t 11)), .a 13 (.mv (.c (.int .i64 0)))] [11] [])
  (.block 0 (.loop [] [] nat_take.b0)))
  (.seq (.reg [] [.a 44 (.mv (.t 8)), .a 45 (.bin .eql (.t 44) (.c (.int .u64 1))), .a 6 (.mv (.t 45))] [0, 1, 2, 7, 8, 12, 13, 14, 44, 45] [])
  .ret))))⟩
def nat_take.hint : R.Hint := { kill := [(0, [6], []), (2, [11], []), (4, [14, 15], []), (5, [16, 17, 18, 19, 20, 21, 22], []), (6, [8, 23, 24, 25, 26, 27, 28, 29, 30, 31, 32], []), (7, [9, 33, 34, 35, 36, 37], []), (8, [10, 38, 39, 40], []), (9, [41, 42], []), (10, [43], []), (11, [0, 1, 2, 7, 8, 12, 13, 14, 44, 45], [])], own := true }
theorem nat_take.ok : cFn Tryd.prog nat_take.hint Tryd.f113 = some nat_take := by kernel_rfl
def nat_give.b0 : R.C := (.seq (.reg [] [.a 9 (.bin .lss (.t 8) (.t 7))] [] [])
  (.seq (.cond (.t 9) .skip (.exit 0))
  (.seq (.block 1 (.seq (.reg [] [.a 10 (.mv (.t 8)), .a 5 (.mv (.t 10))] [9, 10] [])
  (.seq (.reg [] [.a 11 (.mv (.t 4)), .a 12 (.mv (.t 0)), .a 13 (.mv (.t 5)), .a 14 (.iA 1 (.t 12) (.t 13)), .a 15 (.ld 1 false (.t 14)), .a 16 (.mv (.t 1)), .a 17 (.mv (.t 5)), .a 18 (.call F.nat_limb [(.t 16), (.t 17)]), .a 19 (.bin .add (.t 15) (.t 18)), .a 20 (.bin .add (.t 11) (.t 19)), .a 4 (.mv (.t 20))] [11, 12, 13, 14, 15, 16, 17, 18, 19, 20] [])
  (.seq (.reg [] [.a 21 (.mv (.t 0)), .a 22 (.mv (.t 5)), .a 23 (.mv (.t 4)), .a 24 (.bin .and (.t 23) (.c (.int .u64 4294967295))), .a 25 (.iA 1 (.t 21) (.t 22)), .n (.st 1 (.t 25) (.t 24))] [5, 21, 22, 23, 24, 25] [])
  (.reg [] [.a 26 (.mv (.t 4)), .a 27 (.bin .shr (.t 26) (.c (.int .u64 32))), .a 4 (.mv (.t 27))] [26, 27] [])))))
  (.reg [] [.a 28 (.bin .add (.t 8) (.c (.int .i64 1))), .a 8 (.mv (.t 28))] [28] []))))
def nat_give : R.Fn := ⟨2, [], (.seq (.reg [] [.a 4 (.mv (.c (.int .u64 0)))] [] [])
  (.seq (.reg [] [.a 6 (.mv (.t 0)), .a 7 (.ln (.t 6)), .a 8 (.mv (.c (.int .i64 0)))] [6] [])
  (.block 0 (.loop [] [] nat_give.b0))))⟩
def nat_give.hint : R.Hint := { kill := [(1, [6], []), (3, [9, 10], []), (4, [11, 12, 13, 14, 15, 16, 17, 18, 19, 20], []), (5, [5, 21, 22, 23, 24, 25], []), (6, [26, 27], []), (7, [28], [])], own := true }
theorem nat_give.ok : cFn Tryd.prog nat_give.hint Tryd.f114 = some nat_give := by kernel_rfl
def tab : List (Nat × R.Fn) := [(F.dendronlaw14_awake, dendronlaw14_awake), (F.weigh_New, weigh_New), (F.ratio_Same, ratio_Same), (F.ratio_Int, ratio_Int), (F.dendronlaw14_fact, dendronlaw14_fact), (F.ratio_Cmp, ratio_Cmp), (F.dendron_weigh_Table_Weight, dendron_weigh_Table_Weight), (F.dendron_weigh_Table_Need, dendron_weigh_Table_Need), (F.ratio_Frac, ratio_Frac), (F.whole_Clean, whole_Clean), (F.nat_Of, nat_Of), (F.ratio_One, ratio_One), (F.ratio_Mul, ratio_Mul), (F.ratio_Of, ratio_Of), (F.ratio_Neg, ratio_Neg), (F.ratio_Zero, ratio_Zero), (F.ratio_Clean, ratio_Clean), (F.whole_Cmp, whole_Cmp), (F.whole_Mul, whole_Mul), (F.ratio_den, ratio_den), (F.dendron_weigh_Table_quotient, dendron_weigh_Table_quotient), (F.ratio_Make, ratio_Make), (F.whole_Of, whole_Of), (F.whole_sign, whole_sign), (F.nat_Clean, nat_Clean), (F.sync_Once_Do, sync_Once_Do), (F.weigh_products, weigh_products), (F.nat_trim, nat_trim), (F.ratio_form, ratio_form), (F.nat_Mul, nat_Mul), (F.whole_Neg, whole_Neg), (F.nat_Cmp, nat_Cmp), (F.whole_Sign, whole_Sign), (F.nat_Gcd, nat_Gcd), (F.nat_DivMod, nat_DivMod), (F.bits_Len32, bits_Len32), (F.nat_order, nat_order), (F.sync_Mutex_Lock, sync_Mutex_Lock), (F.sync_Mutex_Unlock, sync_Mutex_Unlock), (F.nat_euclid, nat_euclid), (F.nat_zeros, nat_zeros), (F.nat_shr, nat_shr), (F.nat_shl, nat_shl), (F.nat_rest, nat_rest), (F.nat_minus, nat_minus), (F.nat_small, nat_small), (F.nat_long, nat_long), (F.nat_limb, nat_limb), (F.nat_To, nat_To), (F.bits_LeadingZeros32, bits_LeadingZeros32), (F.nat_digit, nat_digit), (F.nat_take, nat_take), (F.nat_give, nat_give)]
def ip : R.Ip := fun f => aget tab f
theorem dendronlaw14_awake.ip : ip F.dendronlaw14_awake = some dendronlaw14_awake := rfl
theorem weigh_New.ip : ip F.weigh_New = some weigh_New := rfl
theorem ratio_Same.ip : ip F.ratio_Same = some ratio_Same := rfl
theorem ratio_Int.ip : ip F.ratio_Int = some ratio_Int := rfl
theorem dendronlaw14_fact.ip : ip F.dendronlaw14_fact = some dendronlaw14_fact := rfl
theorem ratio_Cmp.ip : ip F.ratio_Cmp = some ratio_Cmp := rfl
theorem dendron_weigh_Table_Weight.ip : ip F.dendron_weigh_Table_Weight = some dendron_weigh_Table_Weight := rfl
theorem dendron_weigh_Table_Need.ip : ip F.dendron_weigh_Table_Need = some dendron_weigh_Table_Need := rfl
theorem ratio_Frac.ip : ip F.ratio_Frac = some ratio_Frac := rfl
theorem whole_Clean.ip : ip F.whole_Clean = some whole_Clean := rfl
theorem nat_Of.ip : ip F.nat_Of = some nat_Of := rfl
theorem ratio_One.ip : ip F.ratio_One = some ratio_One := rfl
theorem ratio_Mul.ip : ip F.ratio_Mul = some ratio_Mul := rfl
theorem ratio_Of.ip : ip F.ratio_Of = some ratio_Of := rfl
theorem ratio_Neg.ip : ip F.ratio_Neg = some ratio_Neg := rfl
theorem ratio_Zero.ip : ip F.ratio_Zero = some ratio_Zero := rfl
theorem ratio_Clean.ip : ip F.ratio_Clean = some ratio_Clean := rfl
theorem whole_Cmp.ip : ip F.whole_Cmp = some whole_Cmp := rfl
theorem whole_Mul.ip : ip F.whole_Mul = some whole_Mul := rfl
theorem ratio_den.ip : ip F.ratio_den = some ratio_den := rfl
theorem dendron_weigh_Table_quotient.ip : ip F.dendron_weigh_Table_quotient = some dendron_weigh_Table_quotient := rfl
theorem ratio_Make.ip : ip F.ratio_Make = some ratio_Make := rfl
theorem whole_Of.ip : ip F.whole_Of = some whole_Of := rfl
theorem whole_sign.ip : ip F.whole_sign = some whole_sign := rfl
theorem nat_Clean.ip : ip F.nat_Clean = some nat_Clean := rfl
theorem sync_Once_Do.ip : ip F.sync_Once_Do = some sync_Once_Do := rfl
theorem weigh_products.ip : ip F.weigh_products = some weigh_products := rfl
theorem nat_trim.ip : ip F.nat_trim = some nat_trim := rfl
theorem ratio_form.ip : ip F.ratio_form = some ratio_form := rfl
theorem nat_Mul.ip : ip F.nat_Mul = some nat_Mul := rfl
theorem whole_Neg.ip : ip F.whole_Neg = some whole_Neg := rfl
theorem nat_Cmp.ip : ip F.nat_Cmp = some nat_Cmp := rfl
theorem whole_Sign.ip : ip F.whole_Sign = some whole_Sign := rfl
theorem nat_Gcd.ip : ip F.nat_Gcd = some nat_Gcd := rfl
theorem nat_DivMod.ip : ip F.nat_DivMod = some nat_DivMod := rfl
theorem bits_Len32.ip : ip F.bits_Len32 = some bits_Len32 := rfl
theorem nat_order.ip : ip F.nat_order = some nat_order := rfl
theorem sync_Mutex_Lock.ip : ip F.sync_Mutex_Lock = some sync_Mutex_Lock := rfl
theorem sync_Mutex_Unlock.ip : ip F.sync_Mutex_Unlock = some sync_Mutex_Unlock := rfl
theorem nat_euclid.ip : ip F.nat_euclid = some nat_euclid := rfl
theorem nat_zeros.ip : ip F.nat_zeros = some nat_zeros := rfl
theorem nat_shr.ip : ip F.nat_shr = some nat_shr := rfl
theorem nat_shl.ip : ip F.nat_shl = some nat_shl := rfl
theorem nat_rest.ip : ip F.nat_rest = some nat_rest := rfl
theorem nat_minus.ip : ip F.nat_minus = some nat_minus := rfl
theorem nat_small.ip : ip F.nat_small = some nat_small := rfl
theorem nat_long.ip : ip F.nat_long = some nat_long := rfl
theorem nat_limb.ip : ip F.nat_limb = some nat_limb := rfl
theorem nat_To.ip : ip F.nat_To = some nat_To := rfl
theorem bits_LeadingZeros32.ip : ip F.bits_LeadingZeros32 = some bits_LeadingZeros32 := rfl
theorem nat_digit.ip : ip F.nat_digit = some nat_digit := rfl
theorem nat_take.ip : ip F.nat_take = some nat_take := rfl
theorem nat_give.ip : ip F.nat_give = some nat_give := rfl
theorem tab_ok : ∀ p ∈ tab, ∃ h gf, Tryd.prog.funcs[p.1]? = some gf ∧ cFn Tryd.prog h gf = some p.2 := by
  simp only [tab, List.forall_mem_cons]
  exact ⟨⟨dendronlaw14_awake.hint, Tryd.f5, Tryd.func5, dendronlaw14_awake.ok⟩, ⟨weigh_New.hint, Tryd.f6, Tryd.func6, weigh_New.ok⟩, ⟨ratio_Same.hint, Tryd.f8, Tryd.func8, ratio_Same.ok⟩, ⟨ratio_Int.hint, Tryd.f9, Tryd.func9, ratio_Int.ok⟩, ⟨dendronlaw14_fact.hint, Tryd.f10, Tryd.func10, dendronlaw14_fact.ok⟩, ⟨ratio_Cmp.hint, Tryd.f18, Tryd.func18, ratio_Cmp.ok⟩, ⟨dendron_weigh_Table_Weight.hint, Tryd.f19, Tryd.func19, dendron_weigh_Table_Weight.ok⟩, ⟨dendron_weigh_Table_Need.hint, Tryd.f20, Tryd.func20, dendron_weigh_Table_Need.ok⟩, ⟨ratio_Frac.hint, Tryd.f21, Tryd.func21, ratio_Frac.ok⟩, ⟨whole_Clean.hint, Tryd.f22, Tryd.func22, whole_Clean.ok⟩, ⟨nat_Of.hint, Tryd.f24, Tryd.func24, nat_Of.ok⟩, ⟨ratio_One.hint, Tryd.f25, Tryd.func25, ratio_One.ok⟩, ⟨ratio_Mul.hint, Tryd.f26, Tryd.func26, ratio_Mul.ok⟩, ⟨ratio_Of.hint, Tryd.f27, Tryd.func27, ratio_Of.ok⟩, ⟨ratio_Neg.hint, Tryd.f35, Tryd.func35, ratio_Neg.ok⟩, ⟨ratio_Zero.hint, Tryd.f36, Tryd.func36, ratio_Zero.ok⟩, ⟨ratio_Clean.hint, Tryd.f38, Tryd.func38, ratio_Clean.ok⟩, ⟨whole_Cmp.hint, Tryd.f39, Tryd.func39, whole_Cmp.ok⟩, ⟨whole_Mul.hint, Tryd.f40, Tryd.func40, whole_Mul.ok⟩, ⟨ratio_den.hint, Tryd.f41, Tryd.func41, ratio_den.ok⟩, ⟨dendron_weigh_Table_quotient.hint, Tryd.f42, Tryd.func42, dendron_weigh_Table_quotient.ok⟩, ⟨ratio_Make.hint, Tryd.f43, Tryd.func43, ratio_Make.ok⟩, ⟨whole_Of.hint, Tryd.f44, Tryd.func44, whole_Of.ok⟩, ⟨whole_sign.hint, Tryd.f45, Tryd.func45, whole_sign.ok⟩, ⟨nat_Clean.hint, Tryd.f46, Tryd.func46, nat_Clean.ok⟩, ⟨sync_Once_Do.hint, Tryd.f47, Tryd.func47, sync_Once_Do.ok⟩, ⟨weigh_products.hint, Tryd.f49, Tryd.func49, weigh_products.ok⟩, ⟨nat_trim.hint, Tryd.f50, Tryd.func50, nat_trim.ok⟩, ⟨ratio_form.hint, Tryd.f51, Tryd.func51, ratio_form.ok⟩, ⟨nat_Mul.hint, Tryd.f52, Tryd.func52, nat_Mul.ok⟩, ⟨whole_Neg.hint, Tryd.f62, Tryd.func62, whole_Neg.ok⟩, ⟨nat_Cmp.hint, Tryd.f65, Tryd.func65, nat_Cmp.ok⟩, ⟨whole_Sign.hint, Tryd.f66, Tryd.func66, whole_Sign.ok⟩, ⟨nat_Gcd.hint, Tryd.f69, Tryd.func69, nat_Gcd.ok⟩, ⟨nat_DivMod.hint, Tryd.f70, Tryd.func70, nat_DivMod.ok⟩, ⟨bits_Len32.hint, Tryd.f71, Tryd.func71, bits_Len32.ok⟩, ⟨nat_order.hint, Tryd.f79, Tryd.func79, nat_order.ok⟩, ⟨sync_Mutex_Lock.hint, Tryd.f81, Tryd.func81, sync_Mutex_Lock.ok⟩, ⟨sync_Mutex_Unlock.hint, Tryd.f82, Tryd.func82, sync_Mutex_Unlock.ok⟩, ⟨nat_euclid.hint, Tryd.f84, Tryd.func84, nat_euclid.ok⟩, ⟨nat_zeros.hint, Tryd.f85, Tryd.func85, nat_zeros.ok⟩, ⟨nat_shr.hint, Tryd.f86, Tryd.func86, nat_shr.ok⟩, ⟨nat_shl.hint, Tryd.f87, Tryd.func87, nat_shl.ok⟩, ⟨nat_rest.hint, Tryd.f88, Tryd.func88, nat_rest.ok⟩, ⟨nat_minus.hint, Tryd.f89, Tryd.func89, nat_minus.ok⟩, ⟨nat_small.hint, Tryd.f90, Tryd.func90, nat_small.ok⟩, ⟨nat_long.hint, Tryd.f91, Tryd.func91, nat_long.ok⟩, ⟨nat_limb.hint, Tryd.f95, Tryd.func95, nat_limb.ok⟩, ⟨nat_To.hint, Tryd.f100, Tryd.func100, nat_To.ok⟩, ⟨bits_LeadingZeros32.hint, Tryd.f102, Tryd.func102, bits_LeadingZeros32.ok⟩, ⟨nat_digit.hint, Tryd.f103, Tryd.func103, nat_digit.ok⟩, ⟨nat_take.hint, Tryd.f113, Tryd.func113, nat_take.ok⟩, ⟨nat_give.hint, Tryd.f114, Tryd.func114, nat_give.ok⟩, by simp⟩
end Go.Proofs.YtgigaimaaijalaaDoor
