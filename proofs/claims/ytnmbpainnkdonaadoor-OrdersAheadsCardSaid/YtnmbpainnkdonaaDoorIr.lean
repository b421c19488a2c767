/- The interpreter's text of every function of the seat, and that it is the compiler's. -/
import Derived.Test.YtnmbpainnkdonaaDoorRb
import Derived.Test.YtnmbpainnkdonaaDoorChecked
set_option linter.unusedVariables false
set_option maxRecDepth 100000
namespace Go.Proofs.YtnmbpainnkdonaaDoor
open Go Go.Proofs.R
def F.dendronlaw21_OrdersMeans : Nat := 3
def F.dendronlaw21_OrdersAheads : Nat := 4
def F.dendronlaw19_Few : Nat := 5
def F.dendronlaw21_few : Nat := 6
def F.orders_Mean : Nat := 7
def F.dendronlaw19_Size : Nat := 8
def F.dendronlaw21_awake : Nat := 9
def F.dendronlaw21_right : Nat := 10
def F.dendronlaw21_adds : Nat := 11
def F.ratio_Add : Nat := 12
def F.ratio_Mul : Nat := 13
def F.ratio_Frac : Nat := 14
def F.dendronref10_All : Nat := 15
def F.orders_Ahead : Nat := 16
def F.orders_All : Nat := 17
def F.dendronlaw21_place : Nat := 18
def F.dendronlaw19_number : Nat := 19
def F.game_Players : Nat := 20
def F.ratio_Zero : Nat := 21
def F.orders_Adds : Nat := 22
def F.dendronlaw19_two : Nat := 23
def F.orders_Next : Nat := 24
def F.dendronlaw21_same : Nat := 25
def F.dendronlaw21_two : Nat := 26
def F.ratio_Sub : Nat := 27
def F.ratio_Clean : Nat := 28
def F.ratio_form : Nat := 29
def F.whole_Add : Nat := 30
def F.whole_Mul : Nat := 31
def F.ratio_den : Nat := 32
def F.nat_Mul : Nat := 33
def F.ratio_Make : Nat := 34
def F.whole_Of : Nat := 35
def F.dendronref10_Is : Nat := 36
def F.orders_First : Nat := 37
def F.bits_Len : Nat := 38
def F.nat_Of : Nat := 39
def F.orders_Right : Nat := 40
def F.ratio_Neg : Nat := 41
def F.nat_Clean : Nat := 42
def F.whole_Clean : Nat := 43
def F.nat_Gcd : Nat := 44
def F.nat_DivMod : Nat := 45
def F.whole_sign : Nat := 46
def F.nat_Add : Nat := 47
def F.nat_Cmp : Nat := 48
def F.nat_Sub : Nat := 49
def F.nat_trim : Nat := 50
def F.whole_Sign : Nat := 51
def F.whole_Neg : Nat := 52
def F.dendronref03_Is : Nat := 53
def F.dendronref03_From : Nat := 54
def F.bits_Len32 : Nat := 55
def F.bits_Len64 : Nat := 56
def F.nat_euclid : Nat := 57
def F.nat_zeros : Nat := 58
def F.nat_shr : Nat := 59
def F.nat_order : Nat := 60
def F.nat_shl : Nat := 61
def F.nat_rest : Nat := 62
def F.nat_minus : Nat := 63
def F.nat_small : Nat := 64
def F.nat_long : Nat := 65
def F.nat_limb : Nat := 66
def F.dendronref03_Right : Nat := 67
def F.dendronref03_Order : Nat := 68
def F.dendronref01_From : Nat := 69
def F.dendronref03_Small : Nat := 70
def F.dendronref02_From : Nat := 71
def F.nat_To : Nat := 72
def F.bits_TrailingZeros64 : Nat := 73
def F.bits_LeadingZeros32 : Nat := 74
def F.nat_digit : Nat := 75
def F.dendronref01_Right : Nat := 76
def F.dendronref01_Gcd : Nat := 77
def F.dendronref01_Order : Nat := 78
def F.dendronref01_Small : Nat := 79
def F.dendronref02_Order : Nat := 80
def F.dendronref02_Times : Nat := 81
def F.dendronref03_den : Nat := 82
def F.dendronref01_Plus : Nat := 83
def F.dendronref01_Times : Nat := 84
def F.dendronref02_Small : Nat := 85
def F.dendronref02_Make : Nat := 86
def F.nat_take : Nat := 87
def F.nat_give : Nat := 88
def F.dendronref01_Over : Nat := 89
def F.dendronref01_digit : Nat := 90
def F.dendronref01_Trim : Nat := 91
def F.dendronref01_Minus : Nat := 92
def F.runtime_boundsError_Error : Nat := 93
def F.runtime_boundsError_RuntimeError : Nat := 94
def F.runtime_errorString_Error : Nat := 95
def F.runtime_errorString_RuntimeError : Nat := 96
def F.runtime_plainError_Error : Nat := 97
def F.runtime_plainError_RuntimeError : Nat := 98
def F.runtime_errorAddressString_Error : Nat := 99
def F.runtime_errorAddressString_RuntimeError : Nat := 100
def F.runtime_TypeAssertionError_Error : Nat := 101
def F.runtime_TypeAssertionError_RuntimeError : Nat := 102
def F.runtime_PanicNilError_Error : Nat := 103
def F.runtime_PanicNilError_RuntimeError : Nat := 104
def F.internal_abi_Type_Align : Nat := 105
def F.internal_runtime_maps_unhashableTypeError_Error : Nat := 106
def F.internal_runtime_maps_unhashableTypeError_RuntimeError : Nat := 107
def F.dendron_api_Errno_Error : Nat := 108
def F.internal_abi_Kind_String : Nat := 109
def F.var_s_door__gosem_cut_vars_holds_initialisers_alone__see_the_manifest_s_row_cutvarsword__look_11__test_files_too_ : Nat := 110
def F.var_s_door__bits_deBruijn64tab_is_laid_by_its_own_initialiser__plain_data__look_11_ : Nat := 111
def F.var_s_door__the_look_of_gosem_cut_vars_went_over_the_folder_that_the_caller_named_as_the_repository_s_root__look_11_ : Nat := 112
def dendronlaw21_OrdersMeans.b0 : R.C := (.seq (.seq (.reg [] [.a 16 (.mv (.t 6)), .a 17 (.mv (.t 1)), .a 18 (.ln (.t 17)), .a 19 (.bin .lss (.t 16) (.t 18)), .a 20 (.mv (.t 19)), .g 21 20 true (.mv (.t 6)), .g 22 20 true (.bin .lss (.t 21) (.c (.int .i64 8))), .a 23 (.pick (.t 20) (.t 22) (.c (.bool false)))] [16, 17, 18, 19, 20, 21, 22] [])
  (.cond (.t 23) .skip (.exit 0)))
  (.seq (.block 1 (.reg [] [.a 26 (.mv (.t 5)), .a 27 (.mv (.t 1)), .a 28 (.mv (.t 6)), .a 29 (.iA 1 (.t 27) (.t 28)), .a 30 (.ld 1 false (.t 29)), .a 31 (.call F.dendronlaw21_few [(.t 30)]), .a 32 (.lit 1 1 [(.sl 1 [])] [(0, 1, (.t 31))]), .a 33 (.app 1 24 (.t 26) (.t 32)), .a 5 (.mv (.t 33))] [23, 26, 27, 28, 29, 30, 31, 32, 33] []))
  (.reg [] [.a 24 (.mv (.t 6)), .a 25 (.bin .add (.t 24) (.c (.int .i64 1))), .a 6 (.mv (.t 25))] [24, 25] [])))
def dendronlaw21_OrdersMeans.b4 : R.C := (.seq (.seq (.reg [] [.a 85 (.mv (.t 13)), .a 86 (.mv (.t 9)), .a 87 (.bin .lss (.t 85) (.t 86))] [85, 86] [])
  (.cond (.t 87) .skip (.exit 4)))
  (.seq (.block 5 (.reg [] [.a 90 (.mv (.t 10)), .a 91 (.mv (.t 13)), .a 92 (.mv (.t 10)), .a 93 (.mv (.t 13)), .a 94 (.iA 3 (.t 92) (.t 93)), .a 95 (.ld 3 true (.t 94)), .a 96 (.mv (.t 12)), .a 97 (.mv (.t 13)), .a 98 (.iA 3 (.t 96) (.t 97)), .a 99 (.ld 3 true (.t 98)), .a 100 (.mv (.t 5)), .a 101 (.ln (.t 100)), .a 102 (.call F.ratio_Frac [(.c (.int .i64 1)), (.t 101)]), .a 103 (.call F.ratio_Mul [(.t 99), (.t 102)]), .a 104 (.call F.ratio_Add [(.t 95), (.t 103)]), .a 105 (.iA 3 (.t 90) (.t 91)), .n (.st 3 (.t 105) (.t 104))] [87, 90, 91, 92, 93, 94, 95, 96, 97, 98, 99, 100, 101, 102, 103, 104, 105] []))
  (.reg [] [.a 88 (.mv (.t 13)), .a 89 (.bin .add (.t 88) (.c (.int .i64 1))), .a 13 (.mv (.t 89))] [88, 89] [])))
def dendronlaw21_OrdersMeans.b2 : R.C := (.seq (.seq (.reg [] [.a 56 (.mv (.t 11)), .a 57 (.mv (.t 5)), .a 58 (.ln (.t 57)), .a 59 (.bin .lss (.t 56) (.t 58))] [56, 57, 58] [])
  (.cond (.t 59) .skip (.exit 2)))
  (.seq (.block 3 (.seq (.seq (.reg [] [.a 62 (.mv (.t 5)), .a 63 (.mv (.t 11)), .a 64 (.iA 1 (.t 62) (.t 63)), .a 65 (.ld 1 false (.t 64)), .a 66 (.mv (.t 9)), .a 67 (.call F.dendronlaw21_right [(.t 65), (.t 66)]), .a 68 (.un .not (.t 67))] [59, 62, 63, 64, 65, 66, 67] [])
  (.cond (.t 68) (.seq (.reg [] [.a 69 (.mv (.t 7)), .a 70 (.ln (.t 69)), .a 71 (.bin .eql (.t 70) (.c (.int .i64 0))), .a 72 (.mv (.t 71)), .g 73 72 true (.mv (.t 8)), .g 74 72 true (.bin .eql (.t 73) (.c (.int .i64 1))), .a 75 (.pick (.t 72) (.t 74) (.c (.bool false))), .a 76 (.mv (.t 75)), .g 77 76 true (.call F.dendronlaw21_awake []), .a 78 (.pick (.t 76) (.t 77) (.c (.bool false))), .a 4 (.mv (.t 78))] [0, 5, 7, 8, 9, 10, 11, 68, 69, 70, 71, 72, 73, 74, 75, 76, 77, 78] [5, 55])
  .ret) .skip))
  (.seq (.reg [] [.a 79 (.mv (.t 0)), .a 80 (.mv (.t 5)), .a 81 (.mv (.t 11)), .a 82 (.iA 1 (.t 80) (.t 81)), .a 83 (.ld 1 false (.t 82)), .a 84 (.call F.dendronlaw21_adds [(.t 79), (.t 83)]), .a 12 (.mv (.t 84))] [68, 79, 80, 81, 82, 83, 84] [])
  (.seq (.reg [] [.a 13 (.mv (.c (.int .i64 0)))] [] [])
  (.block 4 (.loop [] [] dendronlaw21_OrdersMeans.b4))))))
  (.reg [] [.a 60 (.mv (.t 11)), .a 61 (.bin .add (.t 60) (.c (.int .i64 1))), .a 11 (.mv (.t 61))] [12, 13, 60, 61, 87] [])))
def dendronlaw21_OrdersMeans : R.Fn := ⟨2, [(.t 4)], (.seq (.reg [] [.a 4 (.mv (.c (.bool false)))] [4] [])
  (.seq (.reg [] [.a 14 (.mv (.t 0)), .a 15 (.call F.dendronlaw19_Few [(.t 14)]), .a 0 (.mv (.t 15))] [14, 15] [])
  (.seq (.reg [] [.a 5 (.nil 1)] [] [])
  (.seq (.seq (.reg [] [.a 6 (.mv (.c (.int .i64 0)))] [] [])
  (.block 0 (.loop [] [] dendronlaw21_OrdersMeans.b0)))
  (.seq (.reg [5] [.a 35 (.mv (.t 0)), .a 36 (.mv (.t 5)), .a 37 (.call F.orders_Mean [(.t 35), (.t 36)]), .a 34 (.mv (.t 37)), .a 38 (.ext (.t 34) 0), .a 39 (.ext (.t 34) 1), .a 7 (.mv (.t 38)), .a 8 (.mv (.t 39))] [1, 6, 23, 34, 35, 36, 37, 38, 39] [])
  (.seq (.reg [] [.a 40 (.mv (.t 0)), .a 41 (.call F.dendronlaw19_Size [(.t 40)]), .a 9 (.mv (.t 41))] [40, 41] [])
  (.seq (.seq (.reg [] [.a 42 (.mv (.t 9)), .a 43 (.bin .lss (.t 42) (.c (.int .i64 0)))] [42] [])
  (.cond (.t 43) (.seq (.reg [] [.a 44 (.mv (.t 7)), .a 45 (.ln (.t 44)), .a 46 (.bin .eql (.t 45) (.c (.int .i64 0))), .a 47 (.mv (.t 46)), .g 48 47 true (.mv (.t 8)), .g 49 47 true (.bin .eql (.t 48) (.c (.int .i64 1))), .a 50 (.pick (.t 47) (.t 49) (.c (.bool false))), .a 51 (.mv (.t 50)), .g 52 51 true (.call F.dendronlaw21_awake []), .a 53 (.pick (.t 51) (.t 52) (.c (.bool false))), .a 4 (.mv (.t 53))] [0, 5, 7, 8, 9, 43, 44, 45, 46, 47, 48, 49, 50, 51, 52, 53] [5])
  .ret) .skip))
  (.seq (.reg [] [.a 54 (.mv (.t 9)), .a 55 (.mk 3 56 [(.bool false), (.sl 1 []), (.sl 1 [])] (.t 54) (.t 54)), .a 10 (.mv (.t 55))] [43, 54, 55] [])
  (.seq (.seq (.reg [] [.a 11 (.mv (.c (.int .i64 0)))] [] [])
  (.block 2 (.loop [] [] dendronlaw21_OrdersMeans.b2)))
  (.seq (.seq (.reg [] [.a 106 (.mv (.t 5)), .a 107 (.ln (.t 106)), .a 108 (.bin .eql (.t 107) (.c (.int .i64 0)))] [0, 5, 9, 11, 59, 106, 107] [5])
  (.cond (.t 108) (.seq (.reg [] [.a 109 (.mv (.t 7)), .a 110 (.ln (.t 109)), .a 111 (.bin .eql (.t 110) (.c (.int .i64 0))), .a 112 (.mv (.t 111)), .g 113 112 true (.mv (.t 8)), .g 114 112 true (.bin .eql (.t 113) (.c (.int .i64 15))), .a 115 (.pick (.t 112) (.t 114) (.c (.bool false))), .a 116 (.mv (.t 115)), .g 117 116 true (.call F.dendronlaw21_awake []), .a 118 (.pick (.t 116) (.t 117) (.c (.bool false))), .a 4 (.mv (.t 118))] [7, 8, 10, 108, 109, 110, 111, 112, 113, 114, 115, 116, 117, 118] [55])
  .ret) .skip))
  (.seq (.reg [10] [.a 119 (.mv (.t 8)), .a 120 (.bin .eql (.t 119) (.c (.int .i64 0))), .a 121 (.mv (.t 120)), .g 122 121 true (.mv (.t 7)), .g 123 121 true (.mv (.t 10)), .g 124 121 true (.call F.dendronref10_All [(.t 122), (.t 123)]), .a 125 (.pick (.t 121) (.t 124) (.c (.bool false))), .a 126 (.mv (.t 125)), .g 127 126 true (.call F.dendronlaw21_awake []), .a 128 (.pick (.t 126) (.t 127) (.c (.bool false))), .a 4 (.mv (.t 128))] [7, 8, 10, 108, 119, 120, 121, 122, 123, 124, 125, 126, 127, 128] [55])
  .ret)))))))))))⟩
def dendronlaw21_OrdersMeans.hint : R.Hint := { nil := [5], pub := [(7, [5]), (24, [10])], kill := [(0, [4], []), (1, [14, 15], []), (4, [16, 17, 18, 19, 20, 21, 22], []), (5, [24, 25], []), (6, [23, 26, 27, 28, 29, 30, 31, 32, 33], []), (7, [1, 6, 23, 34, 35, 36, 37, 38, 39], []), (8, [40, 41], []), (9, [42], []), (10, [0, 5, 7, 8, 9, 43, 44, 45, 46, 47, 48, 49, 50, 51, 52, 53], [5]), (11, [43, 54, 55], []), (13, [56, 57, 58], []), (14, [12, 13, 60, 61, 87], []), (15, [59, 62, 63, 64, 65, 66, 67], []), (16, [0, 5, 7, 8, 9, 10, 11, 68, 69, 70, 71, 72, 73, 74, 75, 76, 77, 78], [5, 55]), (17, [68, 79, 80, 81, 82, 83, 84], []), (19, [85, 86], []), (20, [88, 89], []), (21, [87, 90, 91, 92, 93, 94, 95, 96, 97, 98, 99, 100, 101, 102, 103, 104, 105], []), (22, [0, 5, 9, 11, 59, 106, 107], [5]), (23, [7, 8, 10, 108, 109, 110, 111, 112, 113, 114, 115, 116, 117, 118], [55]), (24, [7, 8, 10, 108, 119, 120, 121, 122, 123, 124, 125, 126, 127, 128], [55])] }
theorem dendronlaw21_OrdersMeans.ok : cFn Tryd.prog dendronlaw21_OrdersMeans.hint Tryd.f3 = some dendronlaw21_OrdersMeans := by kernel_rfl
def dendronlaw21_OrdersAheads.b0 : R.C := (.seq (.seq (.reg [] [.a 49 (.mv (.t 8)), .a 50 (.mv (.t 1)), .a 51 (.ln (.t 50)), .a 52 (.bin .lss (.t 49) (.t 51))] [49, 50, 51] [])
  (.cond (.t 52) .skip (.exit 0)))
  (.seq (.block 1 (.seq (.reg [] [.a 55 (.mv (.t 1)), .a 56 (.mv (.t 8)), .a 57 (.iA 2 (.t 55) (.t 56)), .a 58 (.aA 2 1 (.t 57) (.c (.int .i64 0))), .a 59 (.ld 1 false (.t 58)), .a 60 (.bin .lss (.t 59) (.c (.int .i64 0))), .a 61 (.mv (.t 60)), .g 62 61 false (.mv (.t 1)), .g 63 61 false (.mv (.t 8)), .g 64 61 false (.iA 2 (.t 62) (.t 63)), .g 65 61 false (.aA 2 1 (.t 64) (.c (.int .i64 0))), .g 66 61 false (.ld 1 false (.t 65)), .g 67 61 false (.mv (.t 7)), .g 68 61 false (.bin .geq (.t 66) (.t 67)), .a 69 (.pick (.t 61) (.c (.bool true)) (.t 68)), .a 70 (.mv (.t 69)), .g 71 70 false (.mv (.t 1)), .g 72 70 false (.mv (.t 8)), .g 73 70 false (.iA 2 (.t 71) (.t 72)), .g 74 70 false (.aA 2 1 (.t 73) (.c (.int .i64 1))), .g 75 70 false (.ld 1 false (.t 74)), .g 76 70 false (.bin .lss (.t 75) (.c (.int .i64 0))), .a 77 (.pick (.t 70) (.c (.bool true)) (.t 76)), .a 78 (.mv (.t 77)), .g 79 78 false (.mv (.t 1)), .g 80 78 false (.mv (.t 8)), .g 81 78 false (.iA 2 (.t 79) (.t 80)), .g 82 78 false (.aA 2 1 (.t 81) (.c (.int .i64 1))), .g 83 78 false (.ld 1 false (.t 82)), .g 84 78 false (.mv (.t 7)), .g 85 78 false (.bin .geq (.t 83) (.t 84)), .a 86 (.pick (.t 78) (.c (.bool true)) (.t 85))] [52, 55, 56, 57, 58, 59, 60, 61, 62, 63, 64, 65, 66, 67, 68, 69, 70, 71, 72, 73, 74, 75, 76, 77, 78, 79, 80, 81, 82, 83, 84, 85] [])
  (.cond (.t 86) (.seq (.reg [] [.a 87 (.mv (.t 5)), .a 88 (.ln (.t 87)), .a 89 (.bin .eql (.t 88) (.c (.int .i64 0))), .a 90 (.mv (.t 89)), .g 91 90 true (.mv (.t 6)), .g 92 90 true (.bin .eql (.t 91) (.c (.int .i64 8))), .a 93 (.pick (.t 90) (.t 92) (.c (.bool false))), .a 94 (.mv (.t 93)), .g 95 94 true (.call F.dendronlaw21_awake []), .a 96 (.pick (.t 94) (.t 95) (.c (.bool false))), .a 4 (.mv (.t 96))] [0, 1, 5, 6, 7, 8, 86, 87, 88, 89, 90, 91, 92, 93, 94, 95, 96] [])
  .ret) .skip)))
  (.reg [] [.a 53 (.mv (.t 8)), .a 54 (.bin .add (.t 53) (.c (.int .i64 1))), .a 8 (.mv (.t 54))] [53, 54, 86] [])))
def dendronlaw21_OrdersAheads.b4 : R.C := (.seq (.seq (.reg [] [.a 115 (.mv (.t 14)), .a 116 (.mv (.t 1)), .a 117 (.ln (.t 116)), .a 118 (.bin .lss (.t 115) (.t 117))] [115, 116, 117] [])
  (.cond (.t 118) .skip (.exit 4)))
  (.seq (.block 5 (.reg [] [.a 121 (.mv (.t 13)), .a 122 (.mv (.t 121)), .g 123 122 true (.mv (.t 9)), .g 124 122 true (.mv (.t 12)), .g 125 122 true (.iA 1 (.t 123) (.t 124)), .g 126 122 true (.ld 1 false (.t 125)), .g 127 122 true (.mv (.t 1)), .g 128 122 true (.mv (.t 14)), .g 129 122 true (.iA 2 (.t 127) (.t 128)), .g 130 122 true (.aA 2 1 (.t 129) (.c (.int .i64 0))), .g 131 122 true (.ld 1 false (.t 130)), .g 132 122 true (.call F.dendronlaw21_place [(.t 126), (.t 131)]), .g 133 122 true (.mv (.t 9)), .g 134 122 true (.mv (.t 12)), .g 135 122 true (.iA 1 (.t 133) (.t 134)), .g 136 122 true (.ld 1 false (.t 135)), .g 137 122 true (.mv (.t 1)), .g 138 122 true (.mv (.t 14)), .g 139 122 true (.iA 2 (.t 137) (.t 138)), .g 140 122 true (.aA 2 1 (.t 139) (.c (.int .i64 1))), .g 141 122 true (.ld 1 false (.t 140)), .g 142 122 true (.call F.dendronlaw21_place [(.t 136), (.t 141)]), .g 143 122 true (.bin .lss (.t 132) (.t 142)), .a 144 (.pick (.t 122) (.t 143) (.c (.bool false))), .a 13 (.mv (.t 144))] [118, 121, 122, 123, 124, 125, 126, 127, 128, 129, 130, 131, 132, 133, 134, 135, 136, 137, 138, 139, 140, 141, 142, 143, 144] []))
  (.reg [] [.a 119 (.mv (.t 14)), .a 120 (.bin .add (.t 119) (.c (.int .i64 1))), .a 14 (.mv (.t 120))] [119, 120] [])))
def dendronlaw21_OrdersAheads.b2 : R.C := (.seq (.seq (.reg [] [.a 102 (.mv (.t 12)), .a 103 (.mv (.t 9)), .a 104 (.ln (.t 103)), .a 105 (.bin .lss (.t 102) (.t 104))] [102, 103, 104] [])
  (.cond (.t 105) .skip (.exit 2)))
  (.seq (.block 3 (.seq (.reg [] [.a 108 (.mv (.t 9)), .a 109 (.mv (.t 12)), .a 110 (.iA 1 (.t 108) (.t 109)), .a 111 (.ld 1 false (.t 110)), .a 112 (.ln (.t 111)), .a 113 (.mv (.t 7)), .a 114 (.bin .eql (.t 112) (.t 113)), .a 13 (.mv (.t 114))] [105, 108, 109, 110, 111, 112, 113, 114] [])
  (.seq (.seq (.reg [] [.a 14 (.mv (.c (.int .i64 0)))] [] [])
  (.block 4 (.loop [] [] dendronlaw21_OrdersAheads.b4)))
  (.seq (.reg [] [.a 145 (.mv (.t 13))] [13, 14, 118] [])
  (.cond (.t 145) (.reg [] [.a 146 (.mv (.t 11)), .a 147 (.mv (.t 9)), .a 148 (.mv (.t 12)), .a 149 (.iA 1 (.t 147) (.t 148)), .a 150 (.ld 1 false (.t 149)), .a 151 (.lit 1 1 [(.sl 1 [])] [(0, 1, (.t 150))]), .a 152 (.app 1 24 (.t 146) (.t 151)), .a 11 (.mv (.t 152))] [145, 146, 147, 148, 149, 150, 151, 152] []) .skip)))))
  (.reg [] [.a 106 (.mv (.t 12)), .a 107 (.bin .add (.t 106) (.c (.int .i64 1))), .a 12 (.mv (.t 107))] [106, 107, 145] [])))
def dendronlaw21_OrdersAheads : R.Fn := ⟨2, [(.t 4)], (.seq (.reg [] [.a 4 (.mv (.c (.bool false)))] [4] [])
  (.seq (.reg [] [.a 17 (.mv (.t 0)), .a 18 (.call F.dendronlaw19_Few [(.t 17)]), .a 0 (.mv (.t 18))] [17, 18] [])
  (.seq (.seq (.reg [] [.a 19 (.mv (.t 0)), .a 20 (.ln (.t 19)), .a 21 (.bin .gtr (.t 20) (.c (.int .i64 16)))] [19, 20] [])
  (.cond (.t 21) (.reg [] [.a 22 (.mv (.t 0)), .a 23 (.slc 3 (.t 22) none (some (.c (.int .i64 16)))), .a 0 (.mv (.t 23))] [21, 22, 23] []) .skip))
  (.seq (.seq (.reg [] [.a 24 (.mv (.t 1)), .a 25 (.ln (.t 24)), .a 26 (.bin .gtr (.t 25) (.c (.int .i64 6)))] [21, 24, 25] [])
  (.cond (.t 26) (.reg [] [.a 27 (.mv (.t 1)), .a 28 (.slc 2 (.t 27) none (some (.c (.int .i64 6)))), .a 1 (.mv (.t 28))] [26, 27, 28] []) .skip))
  (.seq (.reg [] [.a 30 (.mv (.t 0)), .a 31 (.mv (.t 1)), .a 32 (.call F.orders_Ahead [(.t 30), (.t 31)]), .a 29 (.mv (.t 32)), .a 33 (.ext (.t 29) 0), .a 34 (.ext (.t 29) 1), .a 5 (.mv (.t 33)), .a 6 (.mv (.t 34))] [26, 29, 30, 31, 32, 33, 34] [])
  (.seq (.reg [] [.a 35 (.mv (.t 0)), .a 36 (.call F.dendronlaw19_Size [(.t 35)]), .a 7 (.mv (.t 36))] [35, 36] [])
  (.seq (.seq (.reg [] [.a 37 (.mv (.t 7)), .a 38 (.bin .lss (.t 37) (.c (.int .i64 0)))] [37] [])
  (.cond (.t 38) (.seq (.reg [] [.a 39 (.mv (.t 5)), .a 40 (.ln (.t 39)), .a 41 (.bin .eql (.t 40) (.c (.int .i64 0))), .a 42 (.mv (.t 41)), .g 43 42 true (.mv (.t 6)), .g 44 42 true (.bin .eql (.t 43) (.c (.int .i64 1))), .a 45 (.pick (.t 42) (.t 44) (.c (.bool false))), .a 46 (.mv (.t 45)), .g 47 46 true (.call F.dendronlaw21_awake []), .a 48 (.pick (.t 46) (.t 47) (.c (.bool false))), .a 4 (.mv (.t 48))] [0, 1, 5, 6, 7, 38, 39, 40, 41, 42, 43, 44, 45, 46, 47, 48] [])
  .ret) .skip))
  (.seq (.seq (.reg [] [.a 8 (.mv (.c (.int .i64 0)))] [38] [])
  (.block 0 (.loop [] [] dendronlaw21_OrdersAheads.b0)))
  (.seq (.reg [] [.a 98 (.mv (.t 7)), .a 99 (.call F.orders_All [(.t 98)]), .a 97 (.mv (.t 99)), .a 100 (.ext (.t 97) 0), .a 101 (.ext (.t 97) 1), .a 9 (.mv (.t 100)), .a 10 (.mv (.t 101))] [8, 52, 97, 98, 99, 100, 101] [])
  (.seq (.reg [] [.a 11 (.nil 1)] [] [])
  (.seq (.seq (.reg [] [.a 12 (.mv (.c (.int .i64 0)))] [] [])
  (.block 2 (.loop [] [] dendronlaw21_OrdersAheads.b2)))
  (.seq (.reg [11] [.a 154 (.mv (.t 0)), .a 155 (.mv (.t 11)), .a 156 (.call F.orders_Mean [(.t 154), (.t 155)]), .a 153 (.mv (.t 156)), .a 157 (.ext (.t 153) 0), .a 158 (.ext (.t 153) 1), .a 15 (.mv (.t 157)), .a 16 (.mv (.t 158))] [0, 1, 7, 9, 12, 105, 153, 154, 155, 156, 157, 158] [])
  (.seq (.seq (.reg [] [.a 159 (.mv (.t 11)), .a 160 (.ln (.t 159)), .a 161 (.bin .eql (.t 160) (.c (.int .i64 0)))] [11, 159, 160] [11])
  (.cond (.t 161) (.seq (.reg [] [.a 162 (.mv (.t 5)), .a 163 (.ln (.t 162)), .a 164 (.bin .eql (.t 163) (.c (.int .i64 0))), .a 165 (.mv (.t 164)), .g 166 165 true (.mv (.t 6)), .g 167 165 true (.bin .eql (.t 166) (.c (.int .i64 15))), .a 168 (.pick (.t 165) (.t 167) (.c (.bool false))), .a 169 (.mv (.t 168)), .g 170 169 true (.mv (.t 10)), .g 171 169 true (.bin .eql (.t 170) (.c (.int .i64 0))), .a 172 (.pick (.t 169) (.t 171) (.c (.bool false))), .a 173 (.mv (.t 172)), .g 174 173 true (.mv (.t 16)), .g 175 173 true (.bin .eql (.t 174) (.c (.int .i64 15))), .a 176 (.pick (.t 173) (.t 175) (.c (.bool false))), .a 177 (.mv (.t 176)), .g 178 177 true (.call F.dendronlaw21_awake []), .a 179 (.pick (.t 177) (.t 178) (.c (.bool false))), .a 4 (.mv (.t 179))] [5, 6, 10, 15, 16, 161, 162, 163, 164, 165, 166, 167, 168, 169, 170, 171, 172, 173, 174, 175, 176, 177, 178, 179] [])
  .ret) .skip))
  (.seq (.reg [] [.a 180 (.mv (.t 6)), .a 181 (.bin .eql (.t 180) (.c (.int .i64 0))), .a 182 (.mv (.t 181)), .g 183 182 true (.mv (.t 10)), .g 184 182 true (.bin .eql (.t 183) (.c (.int .i64 0))), .a 185 (.pick (.t 182) (.t 184) (.c (.bool false))), .a 186 (.mv (.t 185)), .g 187 186 true (.mv (.t 16)), .g 188 186 true (.bin .eql (.t 187) (.c (.int .i64 0))), .a 189 (.pick (.t 186) (.t 188) (.c (.bool false))), .a 190 (.mv (.t 189)), .g 191 190 true (.mv (.t 5)), .g 192 190 true (.mv (.t 15)), .g 193 190 true (.call F.dendronref10_All [(.t 191), (.t 192)]), .a 194 (.pick (.t 190) (.t 193) (.c (.bool false))), .a 195 (.mv (.t 194)), .g 196 195 true (.call F.dendronlaw21_awake []), .a 197 (.pick (.t 195) (.t 196) (.c (.bool false))), .a 4 (.mv (.t 197))] [5, 6, 10, 15, 16, 161, 180, 181, 182, 183, 184, 185, 186, 187, 188, 189, 190, 191, 192, 193, 194, 195, 196, 197] [])
  .ret))))))))))))))⟩
def dendronlaw21_OrdersAheads.hint : R.Hint := { nil := [11], pub := [(27, [11])], kill := [(0, [4], []), (1, [17, 18], []), (2, [19, 20], []), (3, [21, 22, 23], []), (4, [21, 24, 25], []), (5, [26, 27, 28], []), (6, [26, 29, 30, 31, 32, 33, 34], []), (7, [35, 36], []), (8, [37], []), (9, [0, 1, 5, 6, 7, 38, 39, 40, 41, 42, 43, 44, 45, 46, 47, 48], []), (10, [38], []), (11, [49, 50, 51], []), (12, [53, 54, 86], []), (13, [52, 55, 56, 57, 58, 59, 60, 61, 62, 63, 64, 65, 66, 67, 68, 69, 70, 71, 72, 73, 74, 75, 76, 77, 78, 79, 80, 81, 82, 83, 84, 85], []), (14, [0, 1, 5, 6, 7, 8, 86, 87, 88, 89, 90, 91, 92, 93, 94, 95, 96], []), (15, [8, 52, 97, 98, 99, 100, 101], []), (18, [102, 103, 104], []), (19, [106, 107, 145], []), (20, [105, 108, 109, 110, 111, 112, 113, 114], []), (22, [115, 116, 117], []), (23, [119, 120], []), (24, [118, 121, 122, 123, 124, 125, 126, 127, 128, 129, 130, 131, 132, 133, 134, 135, 136, 137, 138, 139, 140, 141, 142, 143, 144], []), (25, [13, 14, 118], []), (26, [145, 146, 147, 148, 149, 150, 151, 152], []), (27, [0, 1, 7, 9, 12, 105, 153, 154, 155, 156, 157, 158], []), (28, [11, 159, 160], [11]), (29, [5, 6, 10, 15, 16, 161, 162, 163, 164, 165, 166, 167, 168, 169, 170, 171, 172, 173, 174, 175, 176, 177, 178, 179], []), (30, [5, 6, 10, 15, 16, 161, 180, 181, 182, 183, 184, 185, 186, 187, 188, 189, 190, 191, 192, 193, 194, 195, 196, 197], [])] }
theorem dendronlaw21_OrdersAheads.ok : cFn Tryd.prog dendronlaw21_OrdersAheads.hint Tryd.f4 = some dendronlaw21_OrdersAheads := by kernel_rfl
def dendronlaw19_Few.b0 : R.C := (.seq (.seq (.reg [] [.a 5 (.mv (.t 4)), .a 6 (.mv (.t 0)), .a 7 (.ln (.t 6)), .a 8 (.bin .lss (.t 5) (.t 7)), .a 9 (.mv (.t 8)), .g 10 9 true (.mv (.t 4)), .g 11 9 true (.bin .lss (.t 10) (.c (.int .i64 33))), .a 12 (.pick (.t 9) (.t 11) (.c (.bool false)))] [5, 6, 7, 8, 9, 10, 11] [])
  (.cond (.t 12) .skip (.exit 0)))
  (.seq (.block 1 (.reg [] [.a 15 (.mv (.t 3)), .a 16 (.mv (.t 0)), .a 17 (.mv (.t 4)), .a 18 (.iA 3 (.t 16) (.t 17)), .a 19 (.ld 3 true (.t 18)), .a 20 (.call F.dendronlaw19_number [(.t 19)]), .a 21 (.lit 3 1 [(.bool false), (.sl 1 []), (.sl 1 [])] [(0, 3, (.t 20))]), .a 22 (.app 3 56 (.t 15) (.t 21)), .a 3 (.mv (.t 22))] [12, 15, 16, 17, 18, 19, 20, 21, 22] []))
  (.reg [] [.a 13 (.mv (.t 4)), .a 14 (.bin .add (.t 13) (.c (.int .i64 1))), .a 4 (.mv (.t 14))] [13, 14] [])))
def dendronlaw19_Few : R.Fn := ⟨1, [(.t 2)], (.seq (.reg [] [.a 2 (.mv (.c (.sl 3 [])))] [2] [])
  (.seq (.reg [] [.a 3 (.nil 3)] [] [])
  (.seq (.seq (.reg [] [.a 4 (.mv (.c (.int .i64 0)))] [] [])
  (.block 0 (.loop [] [] dendronlaw19_Few.b0)))
  (.seq (.reg [] [.a 23 (.mv (.t 3)), .a 2 (.mv (.t 23))] [0, 3, 4, 12, 23] [])
  .ret))))⟩
def dendronlaw19_Few.hint : R.Hint := { nil := [3], kill := [(0, [2], []), (3, [5, 6, 7, 8, 9, 10, 11], []), (4, [13, 14], []), (5, [12, 15, 16, 17, 18, 19, 20, 21, 22], []), (6, [0, 3, 4, 12, 23], [])] }
theorem dendronlaw19_Few.ok : cFn Tryd.prog dendronlaw19_Few.hint Tryd.f5 = some dendronlaw19_Few := by kernel_rfl
def dendronlaw21_few : R.Fn := ⟨1, [(.t 2)], (.seq (.reg [] [.a 2 (.mv (.c (.sl 1 [])))] [2] [])
  (.seq (.seq (.reg [] [.a 3 (.mv (.t 0)), .a 4 (.ln (.t 3)), .a 5 (.bin .gtr (.t 4) (.c (.int .i64 12)))] [3, 4] [])
  (.cond (.t 5) (.seq (.reg [] [.a 6 (.mv (.t 0)), .a 7 (.slc 1 (.t 6) none (some (.c (.int .i64 12)))), .a 2 (.mv (.t 7))] [0, 5, 6, 7] [])
  .ret) .skip))
  (.seq (.reg [] [.a 8 (.mv (.t 0)), .a 2 (.mv (.t 8))] [0, 5, 8] [])
  .ret)))⟩
def dendronlaw21_few.hint : R.Hint := { kill := [(0, [2], []), (1, [3, 4], []), (2, [0, 5, 6, 7], []), (3, [0, 5, 8], [])] }
theorem dendronlaw21_few.ok : cFn Tryd.prog dendronlaw21_few.hint Tryd.f6 = some dendronlaw21_few := by kernel_rfl
def orders_Mean.b0 : R.C := (.seq (.reg [] [.a 29 (.bin .lss (.t 28) (.t 27))] [] [])
  (.seq (.cond (.t 29) .skip (.exit 0))
  (.seq (.block 1 (.seq (.reg [] [.a 30 (.mv (.t 28)), .a 9 (.mv (.t 30))] [29, 30] [])
  (.reg [] [.a 31 (.mv (.t 8)), .a 32 (.mv (.t 9)), .a 33 (.call F.ratio_Zero []), .a 34 (.iA 3 (.t 31) (.t 32)), .n (.st 3 (.t 34) (.t 33))] [9, 31, 32, 33, 34] [])))
  (.reg [] [.a 35 (.bin .add (.t 28) (.c (.int .i64 1))), .a 28 (.mv (.t 35))] [35] []))))
def orders_Mean.b4 : R.C := (.seq (.reg [] [.a 54 (.bin .lss (.t 53) (.t 52))] [] [])
  (.seq (.cond (.t 54) .skip (.exit 4))
  (.seq (.block 5 (.seq (.reg [] [.a 55 (.mv (.t 53)), .a 56 (.iA 3 (.t 51) (.t 53)), .a 57 (.ld 3 true (.t 56)), .a 15 (.new [(.bool false), (.sl 1 []), (.sl 1 [])]), .a 14 (.mv (.t 55)), .n (.st 3 (.t 15) (.t 57))] [54, 55, 56, 57] [])
  (.reg [] [.a 58 (.mv (.t 8)), .a 59 (.mv (.t 14)), .a 60 (.mv (.t 8)), .a 61 (.mv (.t 14)), .a 62 (.iA 3 (.t 60) (.t 61)), .a 63 (.ld 3 true (.t 62)), .a 64 (.ld 3 true (.t 15)), .a 65 (.call F.ratio_Add [(.t 63), (.t 64)]), .a 66 (.iA 3 (.t 58) (.t 59)), .n (.st 3 (.t 66) (.t 65))] [14, 15, 58, 59, 60, 61, 62, 63, 64, 65, 66] [15])))
  (.reg [] [.a 67 (.bin .add (.t 53) (.c (.int .i64 1))), .a 53 (.mv (.t 67))] [67] []))))
def orders_Mean.b2 : R.C := (.seq (.reg [] [.a 39 (.bin .lss (.t 38) (.t 37))] [] [])
  (.seq (.cond (.t 39) .skip (.exit 2))
  (.seq (.block 3 (.seq (.reg [] [.a 40 (.iA 1 (.t 36) (.t 38)), .a 41 (.ld 1 false (.t 40)), .a 11 (.mv (.t 41))] [39, 40, 41] [])
  (.seq (.reg [] [.a 43 (.mv (.t 0)), .a 44 (.mv (.t 11)), .a 45 (.call F.orders_Adds [(.t 43), (.t 44)]), .a 42 (.mv (.t 45)), .a 46 (.ext (.t 42) 0), .a 47 (.ext (.t 42) 1), .a 12 (.mv (.t 46)), .a 13 (.mv (.t 47))] [11, 42, 43, 44, 45, 46, 47] [])
  (.seq (.seq (.reg [] [.a 48 (.mv (.t 13)), .a 49 (.bin .neq (.t 48) (.c (.int .i64 0)))] [48] [])
  (.cond (.t 49) (.seq (.reg [] [.a 50 (.mv (.t 13)), .a 4 (.mv (.c (.sl 3 []))), .a 5 (.mv (.t 50))] [0, 1, 8, 12, 13, 36, 37, 38, 49, 50] [])
  .ret) .skip))
  (.seq (.reg [] [.a 51 (.mv (.t 12)), .a 52 (.ln (.t 51)), .a 53 (.mv (.c (.int .i64 0)))] [12, 13, 49] [])
  (.block 4 (.loop [] [] orders_Mean.b4)))))))
  (.reg [] [.a 68 (.bin .add (.t 38) (.c (.int .i64 1))), .a 38 (.mv (.t 68))] [51, 52, 53, 54, 68] []))))
def orders_Mean.b6 : R.C := (.seq (.reg [] [.a 75 (.bin .lss (.t 74) (.t 73))] [] [])
  (.seq (.cond (.t 75) .skip (.exit 6))
  (.seq (.block 7 (.seq (.reg [] [.a 76 (.mv (.t 74)), .a 16 (.mv (.t 76))] [75, 76] [])
  (.reg [] [.a 77 (.mv (.t 8)), .a 78 (.mv (.t 16)), .a 79 (.mv (.t 8)), .a 80 (.mv (.t 16)), .a 81 (.iA 3 (.t 79) (.t 80)), .a 82 (.ld 3 true (.t 81)), .a 83 (.mv (.t 1)), .a 84 (.ln (.t 83)), .a 85 (.call F.ratio_Frac [(.c (.int .i64 1)), (.t 84)]), .a 86 (.call F.ratio_Mul [(.t 82), (.t 85)]), .a 87 (.iA 3 (.t 77) (.t 78)), .n (.st 3 (.t 87) (.t 86))] [16, 77, 78, 79, 80, 81, 82, 83, 84, 85, 86, 87] [])))
  (.reg [] [.a 88 (.bin .add (.t 74) (.c (.int .i64 1))), .a 74 (.mv (.t 88))] [88] []))))
def orders_Mean : R.Fn := ⟨2, [(.t 4), (.t 5)], (.seq (.reg [] [.a 4 (.mv (.c (.sl 3 []))), .a 5 (.mv (.c (.int .i64 0)))] [4, 5] [])
  (.seq (.reg [] [.a 18 (.mv (.t 0)), .a 19 (.call F.game_Players [(.t 18)]), .a 17 (.mv (.t 19)), .a 20 (.ext (.t 17) 0), .a 21 (.ext (.t 17) 1), .a 6 (.mv (.t 20)), .a 7 (.mv (.t 21))] [17, 18, 19, 20, 21] [])
  (.seq (.seq (.reg [] [.a 22 (.mv (.t 7)), .a 23 (.un .not (.t 22))] [7, 22] [])
  (.cond (.t 23) (.seq (.reg [] [.a 4 (.mv (.c (.sl 3 []))), .a 5 (.mv (.c (.int .i64 1)))] [0, 1, 6, 23] [])
  .ret) .skip))
  (.seq (.reg [] [.a 24 (.mv (.t 6)), .a 25 (.mk 3 56 [(.bool false), (.sl 1 []), (.sl 1 [])] (.t 24) (.t 24)), .a 8 (.mv (.t 25))] [6, 23, 24, 25] [])
  (.seq (.seq (.reg [] [.a 26 (.mv (.t 8)), .a 27 (.ln (.t 26)), .a 28 (.mv (.c (.int .i64 0)))] [26] [])
  (.block 0 (.loop [] [] orders_Mean.b0)))
  (.seq (.seq (.reg [] [.a 36 (.mv (.t 1)), .a 37 (.ln (.t 36)), .a 38 (.mv (.c (.int .i64 0)))] [27, 28, 29] [])
  (.block 2 (.loop [] [] orders_Mean.b2)))
  (.seq (.seq (.reg [] [.a 69 (.mv (.t 1)), .a 70 (.ln (.t 69)), .a 71 (.bin .eql (.t 70) (.c (.int .i64 0)))] [0, 36, 37, 38, 39, 69, 70] [])
  (.cond (.t 71) (.seq (.reg [] [.a 4 (.mv (.c (.sl 3 []))), .a 5 (.mv (.c (.int .i64 15)))] [1, 8, 71] [])
  .ret) .skip))
  (.seq (.seq (.reg [] [.a 72 (.mv (.t 8)), .a 73 (.ln (.t 72)), .a 74 (.mv (.c (.int .i64 0)))] [71, 72] [])
  (.block 6 (.loop [] [] orders_Mean.b6)))
  (.seq (.reg [] [.a 89 (.mv (.t 8)), .a 4 (.mv (.t 89)), .a 5 (.mv (.c (.int .i64 0)))] [1, 8, 73, 74, 75, 89] [])
  .ret)))))))))⟩
def orders_Mean.hint : R.Hint := { kill := [(0, [4, 5], []), (1, [17, 18, 19, 20, 21], []), (2, [7, 22], []), (3, [0, 1, 6, 23], []), (4, [6, 23, 24, 25], []), (5, [26], []), (7, [29, 30], []), (8, [9, 31, 32, 33, 34], []), (9, [35], []), (10, [27, 28, 29], []), (12, [39, 40, 41], []), (13, [11, 42, 43, 44, 45, 46, 47], []), (14, [48], []), (15, [0, 1, 8, 12, 13, 36, 37, 38, 49, 50], []), (16, [12, 13, 49], []), (18, [54, 55, 56, 57], []), (19, [14, 15, 58, 59, 60, 61, 62, 63, 64, 65, 66], [15]), (20, [67], []), (21, [51, 52, 53, 54, 68], []), (22, [0, 36, 37, 38, 39, 69, 70], []), (23, [1, 8, 71], []), (24, [71, 72], []), (26, [75, 76], []), (27, [16, 77, 78, 79, 80, 81, 82, 83, 84, 85, 86, 87], []), (28, [88], []), (29, [1, 8, 73, 74, 75, 89], [])] }
theorem orders_Mean.ok : cFn Tryd.prog orders_Mean.hint Tryd.f7 = some orders_Mean := by kernel_rfl
def dendronlaw19_Size.b0 : R.C := (.seq (.seq (.reg [] [.a 4 (.mv (.t 3)), .a 5 (.bin .lss (.t 4) (.c (.int .i64 6)))] [4] [])
  (.cond (.t 5) .skip (.exit 0)))
  (.seq (.block 1 (.seq (.reg [] [.a 8 (.mv (.t 0)), .a 9 (.ln (.t 8)), .a 10 (.mv (.t 3)), .a 11 (.call F.dendronlaw19_two [(.t 10)]), .a 12 (.bin .eql (.t 9) (.t 11))] [5, 8, 9, 10, 11] [])
  (.cond (.t 12) (.seq (.reg [] [.a 13 (.mv (.t 3)), .a 2 (.mv (.t 13))] [0, 3, 12, 13] [])
  .ret) .skip)))
  (.reg [] [.a 6 (.mv (.t 3)), .a 7 (.bin .add (.t 6) (.c (.int .i64 1))), .a 3 (.mv (.t 7))] [6, 7, 12] [])))
def dendronlaw19_Size : R.Fn := ⟨1, [(.t 2)], (.seq (.reg [] [.a 2 (.mv (.c (.int .i64 0)))] [2] [])
  (.seq (.seq (.reg [] [.a 3 (.mv (.c (.int .i64 0)))] [] [])
  (.block 0 (.loop [] [] dendronlaw19_Size.b0)))
  (.seq (.reg [] [.a 2 (.mv (.c (.int .i64 (-1))))] [0, 3, 5] [])
  .ret)))⟩
def dendronlaw19_Size.hint : R.Hint := { kill := [(0, [2], []), (2, [4], []), (3, [6, 7, 12], []), (4, [5, 8, 9, 10, 11], []), (5, [0, 3, 12, 13], []), (6, [0, 3, 5], [])] }
theorem dendronlaw19_Size.ok : cFn Tryd.prog dendronlaw19_Size.hint Tryd.f8 = some dendronlaw19_Size := by kernel_rfl
def dendronlaw21_awake : R.Fn := ⟨0, [(.t 0)], (.seq (.reg [] [.a 0 (.mv (.c (.bool false)))] [0] [])
  (.seq (.reg [] [.a 4 (.lit 1 3 [(.int .i64 0), (.int .i64 0), (.int .i64 0)] [(0, 1, (.c (.int .i64 0))), (1, 1, (.c (.int .i64 2))), (2, 1, (.c (.int .i64 1)))]), .a 5 (.call F.orders_Next [(.t 4)]), .a 3 (.mv (.t 5)), .a 6 (.ext (.t 3) 0), .a 7 (.ext (.t 3) 1), .a 1 (.mv (.t 6)), .a 2 (.mv (.t 7))] [3, 4, 5, 6, 7] [])
  (.seq (.reg [] [.a 8 (.mv (.t 2)), .a 9 (.mv (.t 8)), .g 10 9 true (.mv (.t 1)), .g 11 9 true (.lit 1 3 [(.int .i64 0), (.int .i64 0), (.int .i64 0)] [(0, 1, (.c (.int .i64 1))), (1, 1, (.c (.int .i64 0))), (2, 1, (.c (.int .i64 2)))]), .g 12 9 true (.call F.dendronlaw21_same [(.t 10), (.t 11)]), .a 13 (.pick (.t 9) (.t 12) (.c (.bool false))), .a 14 (.mv (.t 13)), .a 15 (.pick (.t 14) (.c (.bool true)) (.c (.bool false))), .a 0 (.mv (.t 15))] [1, 2, 8, 9, 10, 11, 12, 13, 14, 15] [])
  .ret)))⟩
def dendronlaw21_awake.hint : R.Hint := { kill := [(0, [0], []), (1, [3, 4, 5, 6, 7], []), (2, [1, 2, 8, 9, 10, 11, 12, 13, 14, 15], [])] }
theorem dendronlaw21_awake.ok : cFn Tryd.prog dendronlaw21_awake.hint Tryd.f9 = some dendronlaw21_awake := by kernel_rfl
def dendronlaw21_right.b2 : R.C := (.seq (.seq (.reg [] [.a 17 (.mv (.t 7)), .a 18 (.mv (.t 0)), .a 19 (.ln (.t 18)), .a 20 (.bin .lss (.t 17) (.t 19))] [17, 18, 19] [])
  (.cond (.t 20) .skip (.exit 2)))
  (.seq (.block 3 (.seq (.reg [] [.a 23 (.mv (.t 0)), .a 24 (.mv (.t 7)), .a 25 (.iA 1 (.t 23) (.t 24)), .a 26 (.ld 1 false (.t 25)), .a 27 (.mv (.t 5)), .a 28 (.bin .eql (.t 26) (.t 27))] [20, 23, 24, 25, 26, 27] [])
  (.cond (.t 28) (.reg [] [.a 29 (.mv (.t 6)), .a 30 (.bin .add (.t 29) (.c (.int .i64 1))), .a 6 (.mv (.t 30))] [28, 29, 30] []) .skip)))
  (.reg [] [.a 21 (.mv (.t 7)), .a 22 (.bin .add (.t 21) (.c (.int .i64 1))), .a 7 (.mv (.t 22))] [21, 22, 28] [])))
def dendronlaw21_right.b0 : R.C := (.seq (.seq (.reg [] [.a 12 (.mv (.t 5)), .a 13 (.mv (.t 1)), .a 14 (.bin .lss (.t 12) (.t 13))] [12, 13] [])
  (.cond (.t 14) .skip (.exit 0)))
  (.seq (.block 1 (.seq (.reg [] [.a 6 (.mv (.c (.int .i64 0)))] [14] [])
  (.seq (.seq (.reg [] [.a 7 (.mv (.c (.int .i64 0)))] [] [])
  (.block 2 (.loop [] [] dendronlaw21_right.b2)))
  (.seq (.reg [] [.a 31 (.mv (.t 6)), .a 32 (.bin .neq (.t 31) (.c (.int .i64 1)))] [6, 7, 20, 31] [])
  (.cond (.t 32) (.seq (.reg [] [.a 4 (.mv (.c (.bool false)))] [0, 1, 5, 32] [])
  .ret) .skip)))))
  (.reg [] [.a 15 (.mv (.t 5)), .a 16 (.bin .add (.t 15) (.c (.int .i64 1))), .a 5 (.mv (.t 16))] [15, 16, 32] [])))
def dendronlaw21_right : R.Fn := ⟨2, [(.t 4)], (.seq (.reg [] [.a 4 (.mv (.c (.bool false)))] [4] [])
  (.seq (.seq (.reg [] [.a 8 (.mv (.t 0)), .a 9 (.ln (.t 8)), .a 10 (.mv (.t 1)), .a 11 (.bin .neq (.t 9) (.t 10))] [8, 9, 10] [])
  (.cond (.t 11) (.seq (.reg [] [.a 4 (.mv (.c (.bool false)))] [0, 1, 11] [])
  .ret) .skip))
  (.seq (.seq (.reg [] [.a 5 (.mv (.c (.int .i64 0)))] [11] [])
  (.block 0 (.loop [] [] dendronlaw21_right.b0)))
  (.seq (.reg [] [.a 4 (.mv (.c (.bool true)))] [0, 1, 5, 14] [])
  .ret))))⟩
def dendronlaw21_right.hint : R.Hint := { kill := [(0, [4], []), (1, [8, 9, 10], []), (2, [0, 1, 11], []), (3, [11], []), (4, [12, 13], []), (5, [15, 16, 32], []), (6, [14], []), (8, [17, 18, 19], []), (9, [21, 22, 28], []), (10, [20, 23, 24, 25, 26, 27], []), (11, [28, 29, 30], []), (12, [6, 7, 20, 31], []), (13, [0, 1, 5, 32], []), (14, [0, 1, 5, 14], [])] }
theorem dendronlaw21_right.ok : cFn Tryd.prog dendronlaw21_right.hint Tryd.f10 = some dendronlaw21_right := by kernel_rfl
def dendronlaw21_adds.b0 : R.C := (.seq (.seq (.reg [] [.a 12 (.mv (.t 7)), .a 13 (.mv (.t 1)), .a 14 (.ln (.t 13)), .a 15 (.bin .lss (.t 12) (.t 14))] [12, 13, 14] [])
  (.cond (.t 15) .skip (.exit 0)))
  (.seq (.block 1 (.seq (.reg [] [.a 18 (.mv (.t 6)), .a 19 (.mv (.t 1)), .a 20 (.mv (.t 7)), .a 21 (.iA 1 (.t 19) (.t 20)), .a 22 (.ld 1 false (.t 21)), .a 23 (.call F.dendronlaw21_two [(.t 22)]), .a 24 (.bin .add (.t 18) (.t 23)), .a 8 (.mv (.t 24))] [15, 18, 19, 20, 21, 22, 23, 24] [])
  (.seq (.reg [] [.a 25 (.mv (.t 5)), .a 26 (.mv (.t 1)), .a 27 (.mv (.t 7)), .a 28 (.iA 1 (.t 26) (.t 27)), .a 29 (.ld 1 false (.t 28)), .a 30 (.mv (.t 0)), .a 31 (.mv (.t 8)), .a 32 (.iA 3 (.t 30) (.t 31)), .a 33 (.ld 3 true (.t 32)), .a 34 (.mv (.t 0)), .a 35 (.mv (.t 6)), .a 36 (.iA 3 (.t 34) (.t 35)), .a 37 (.ld 3 true (.t 36)), .a 38 (.call F.ratio_Sub [(.t 33), (.t 37)]), .a 39 (.iA 3 (.t 25) (.t 29)), .n (.st 3 (.t 39) (.t 38))] [6, 25, 26, 27, 28, 29, 30, 31, 32, 33, 34, 35, 36, 37, 38, 39] [])
  (.reg [] [.a 40 (.mv (.t 8)), .a 6 (.mv (.t 40))] [8, 40] []))))
  (.reg [] [.a 16 (.mv (.t 7)), .a 17 (.bin .add (.t 16) (.c (.int .i64 1))), .a 7 (.mv (.t 17))] [16, 17] [])))
def dendronlaw21_adds : R.Fn := ⟨2, [(.t 4)], (.seq (.reg [] [.a 4 (.mv (.c (.sl 3 [])))] [4] [])
  (.seq (.reg [] [.a 9 (.mv (.t 1)), .a 10 (.ln (.t 9)), .a 11 (.mk 3 56 [(.bool false), (.sl 1 []), (.sl 1 [])] (.t 10) (.t 10)), .a 5 (.mv (.t 11))] [9, 10, 11] [])
  (.seq (.reg [] [.a 6 (.mv (.c (.int .i64 0)))] [] [])
  (.seq (.seq (.reg [] [.a 7 (.mv (.c (.int .i64 0)))] [] [])
  (.block 0 (.loop [] [] dendronlaw21_adds.b0)))
  (.seq (.reg [] [.a 41 (.mv (.t 5)), .a 4 (.mv (.t 41))] [0, 1, 5, 6, 7, 15, 41] [])
  .ret)))))⟩
def dendronlaw21_adds.hint : R.Hint := { kill := [(0, [4], []), (1, [9, 10, 11], []), (4, [12, 13, 14], []), (5, [16, 17], []), (6, [15, 18, 19, 20, 21, 22, 23, 24], []), (7, [6, 25, 26, 27, 28, 29, 30, 31, 32, 33, 34, 35, 36, 37, 38, 39], []), (8, [8, 40], []), (9, [0, 1, 5, 6, 7, 15, 41], [])] }
theorem dendronlaw21_adds.ok : cFn Tryd.prog dendronlaw21_adds.hint Tryd.f11 = some dendronlaw21_adds := by kernel_rfl
def ratio_Add : R.Fn := ⟨2, [(.cell 4 3 true)], (.seq (.reg [] [.a 2 (.box (.t 0)), .a 3 (.box (.t 1)), .a 4 (.new [(.bool false), (.sl 1 []), (.sl 1 [])])] [0, 1] [])
  (.seq (.reg [] [.a 5 (.ld 3 true (.t 2)), .a 6 (.call F.ratio_Clean [(.t 5)]), .a 7 (.ld 3 true (.t 3)), .a 8 (.call F.ratio_Clean [(.t 7)]), .n (.st 3 (.t 2) (.t 6)), .n (.st 3 (.t 3) (.t 8))] [5, 6, 7, 8] [])
  (.seq (.reg [] [.a 9 (.fA 0 (.t 2)), .a 10 (.ld 2 true (.t 9)), .a 11 (.ld 3 true (.t 3)), .a 12 (.call F.ratio_den [(.t 11)]), .a 13 (.call F.whole_Mul [(.t 10), (.t 12)]), .a 14 (.fA 0 (.t 3)), .a 15 (.ld 2 true (.t 14)), .a 16 (.ld 3 true (.t 2)), .a 17 (.call F.ratio_den [(.t 16)]), .a 18 (.call F.whole_Mul [(.t 15), (.t 17)]), .a 19 (.call F.whole_Add [(.t 13), (.t 18)]), .a 20 (.fA 2 (.t 2)), .a 21 (.ld 1 false (.t 20)), .a 22 (.fA 2 (.t 3)), .a 23 (.ld 1 false (.t 22)), .a 24 (.call F.nat_Mul [(.t 21), (.t 23)]), .a 25 (.call F.ratio_form [(.t 19), (.t 24)]), .n (.st 3 (.t 4) (.t 25))] [2, 3, 9, 10, 11, 12, 13, 14, 15, 16, 17, 18, 19, 20, 21, 22, 23, 24, 25] [2, 3])
  .ret)))⟩
def ratio_Add.hint : R.Hint := { kill := [(0, [0, 1], []), (1, [5, 6, 7, 8], []), (2, [2, 3, 9, 10, 11, 12, 13, 14, 15, 16, 17, 18, 19, 20, 21, 22, 23, 24, 25], [2, 3])] }
theorem ratio_Add.ok : cFn Tryd.prog ratio_Add.hint Tryd.f12 = some ratio_Add := by kernel_rfl
def ratio_Mul : R.Fn := ⟨2, [(.cell 4 3 true)], (.seq (.reg [] [.a 2 (.box (.t 0)), .a 3 (.box (.t 1)), .a 4 (.new [(.bool false), (.sl 1 []), (.sl 1 [])])] [0, 1] [])
  (.seq (.reg [] [.a 5 (.ld 3 true (.t 2)), .a 6 (.call F.ratio_Clean [(.t 5)]), .a 7 (.ld 3 true (.t 3)), .a 8 (.call F.ratio_Clean [(.t 7)]), .n (.st 3 (.t 2) (.t 6)), .n (.st 3 (.t 3) (.t 8))] [5, 6, 7, 8] [])
  (.seq (.reg [] [.a 9 (.fA 0 (.t 2)), .a 10 (.ld 2 true (.t 9)), .a 11 (.fA 0 (.t 3)), .a 12 (.ld 2 true (.t 11)), .a 13 (.call F.whole_Mul [(.t 10), (.t 12)]), .a 14 (.fA 2 (.t 2)), .a 15 (.ld 1 false (.t 14)), .a 16 (.fA 2 (.t 3)), .a 17 (.ld 1 false (.t 16)), .a 18 (.call F.nat_Mul [(.t 15), (.t 17)]), .a 19 (.call F.ratio_form [(.t 13), (.t 18)]), .n (.st 3 (.t 4) (.t 19))] [2, 3, 9, 10, 11, 12, 13, 14, 15, 16, 17, 18, 19] [2, 3])
  .ret)))⟩
def ratio_Mul.hint : R.Hint := { kill := [(0, [0, 1], []), (1, [5, 6, 7, 8], []), (2, [2, 3, 9, 10, 11, 12, 13, 14, 15, 16, 17, 18, 19], [2, 3])] }
theorem ratio_Mul.ok : cFn Tryd.prog ratio_Mul.hint Tryd.f13 = some ratio_Mul := by kernel_rfl
def ratio_Frac : R.Fn := ⟨2, [(.cell 4 3 true)], (.seq (.reg [] [.a 4 (.new [(.bool false), (.sl 1 []), (.sl 1 [])])] [] [])
  (.seq (.reg [] [.a 8 (.mv (.t 0)), .a 9 (.call F.whole_Of [(.t 8)]), .a 10 (.mv (.t 1)), .a 11 (.call F.whole_Of [(.t 10)]), .a 12 (.call F.ratio_Make [(.t 9), (.t 11)]), .a 7 (.mv (.t 12)), .a 13 (.ext (.t 7) 0), .a 14 (.ext (.t 7) 1), .a 5 (.new [(.bool false), (.sl 1 []), (.sl 1 [])]), .n (.st 3 (.t 5) (.t 13)), .a 6 (.mv (.t 14))] [0, 1, 6, 7, 8, 9, 10, 11, 12, 13, 14] [])
  (.seq (.reg [] [.a 15 (.ld 3 true (.t 5)), .a 16 (.call F.ratio_Clean [(.t 15)]), .n (.st 3 (.t 4) (.t 16))] [5, 15, 16] [5])
  .ret)))⟩
def ratio_Frac.hint : R.Hint := { kill := [(1, [0, 1, 6, 7, 8, 9, 10, 11, 12, 13, 14], []), (2, [5, 15, 16], [5])] }
theorem ratio_Frac.ok : cFn Tryd.prog ratio_Frac.hint Tryd.f14 = some ratio_Frac := by kernel_rfl
def dendronref10_All.b0 : R.C := (.seq (.seq (.reg [] [.a 11 (.mv (.t 5)), .a 12 (.mv (.t 0)), .a 13 (.ln (.t 12)), .a 14 (.bin .lss (.t 11) (.t 13))] [11, 12, 13] [])
  (.cond (.t 14) .skip (.exit 0)))
  (.seq (.block 1 (.seq (.reg [] [.a 17 (.mv (.t 0)), .a 18 (.mv (.t 5)), .a 19 (.iA 3 (.t 17) (.t 18)), .a 20 (.ld 3 true (.t 19)), .a 21 (.mv (.t 1)), .a 22 (.mv (.t 5)), .a 23 (.iA 3 (.t 21) (.t 22)), .a 24 (.ld 3 true (.t 23)), .a 25 (.call F.dendronref10_Is [(.t 20), (.t 24)]), .a 26 (.un .not (.t 25))] [14, 17, 18, 19, 20, 21, 22, 23, 24, 25] [])
  (.cond (.t 26) (.seq (.reg [] [.a 4 (.mv (.c (.bool false)))] [0, 1, 5, 26] [])
  .ret) .skip)))
  (.reg [] [.a 15 (.mv (.t 5)), .a 16 (.bin .add (.t 15) (.c (.int .i64 1))), .a 5 (.mv (.t 16))] [15, 16, 26] [])))
def dendronref10_All : R.Fn := ⟨2, [(.t 4)], (.seq (.reg [] [.a 4 (.mv (.c (.bool false)))] [4] [])
  (.seq (.seq (.reg [] [.a 6 (.mv (.t 0)), .a 7 (.ln (.t 6)), .a 8 (.mv (.t 1)), .a 9 (.ln (.t 8)), .a 10 (.bin .neq (.t 7) (.t 9))] [6, 7, 8, 9] [])
  (.cond (.t 10) (.seq (.reg [] [.a 4 (.mv (.c (.bool false)))] [0, 1, 10] [])
  .ret) .skip))
  (.seq (.seq (.reg [] [.a 5 (.mv (.c (.int .i64 0)))] [10] [])
  (.block 0 (.loop [] [] dendronref10_All.b0)))
  (.seq (.reg [] [.a 4 (.mv (.c (.bool true)))] [0, 1, 5, 14] [])
  .ret))))⟩
def dendronref10_All.hint : R.Hint := { kill := [(0, [4], []), (1, [6, 7, 8, 9], []), (2, [0, 1, 10], []), (3, [10], []), (4, [11, 12, 13], []), (5, [15, 16, 26], []), (6, [14, 17, 18, 19, 20, 21, 22, 23, 24, 25], []), (7, [0, 1, 5, 26], []), (8, [0, 1, 5, 14], [])] }
theorem dendronref10_All.ok : cFn Tryd.prog dendronref10_All.hint Tryd.f15 = some dendronref10_All := by kernel_rfl
def orders_Ahead.b0 : R.C := (.seq (.reg [] [.a 38 (.bin .lss (.t 37) (.t 36))] [] [])
  (.seq (.cond (.t 38) .skip (.exit 0))
  (.seq (.block 1 (.seq (.reg [] [.a 39 (.iA 2 (.t 35) (.t 37)), .a 40 (.ld 2 true (.t 39)), .a 11 (.new [(.int .i64 0), (.int .i64 0)]), .n (.st 2 (.t 11) (.t 40))] [38, 39, 40] [])
  (.seq (.reg [] [.a 41 (.aA 2 1 (.t 11) (.c (.int .i64 0))), .a 42 (.ld 1 false (.t 41)), .a 43 (.bin .lss (.t 42) (.c (.int .i64 0))), .a 44 (.mv (.t 43)), .g 45 44 false (.aA 2 1 (.t 11) (.c (.int .i64 0))), .g 46 44 false (.ld 1 false (.t 45)), .g 47 44 false (.mv (.t 6)), .g 48 44 false (.bin .geq (.t 46) (.t 47)), .a 49 (.pick (.t 44) (.c (.bool true)) (.t 48)), .a 50 (.mv (.t 49)), .g 51 50 false (.aA 2 1 (.t 11) (.c (.int .i64 1))), .g 52 50 false (.ld 1 false (.t 51)), .g 53 50 false (.bin .lss (.t 52) (.c (.int .i64 0))), .a 54 (.pick (.t 50) (.c (.bool true)) (.t 53)), .a 55 (.mv (.t 54)), .g 56 55 false (.aA 2 1 (.t 11) (.c (.int .i64 1))), .g 57 55 false (.ld 1 false (.t 56)), .g 58 55 false (.mv (.t 6)), .g 59 55 false (.bin .geq (.t 57) (.t 58)), .a 60 (.pick (.t 55) (.c (.bool true)) (.t 59))] [11, 41, 42, 43, 44, 45, 46, 47, 48, 49, 50, 51, 52, 53, 54, 55, 56, 57, 58, 59] [11])
  (.cond (.t 60) (.seq (.reg [] [.a 4 (.mv (.c (.sl 3 []))), .a 5 (.mv (.c (.int .i64 8)))] [0, 1, 6, 8, 35, 36, 37, 60] [])
  .ret) .skip))))
  (.reg [] [.a 61 (.bin .add (.t 37) (.c (.int .i64 1))), .a 37 (.mv (.t 61))] [60, 61] []))))
def orders_Ahead.b4 : R.C := (.seq (.reg [] [.a 73 (.bin .lss (.t 72) (.t 71))] [] [])
  (.seq (.cond (.t 73) .skip (.exit 4))
  (.seq (.block 5 (.seq (.reg [] [.a 74 (.mv (.t 72)), .a 75 (.iA 1 (.t 70) (.t 72)), .a 76 (.ld 1 false (.t 75)), .a 16 (.mv (.t 74)), .a 17 (.mv (.t 76))] [73, 74, 75, 76] [])
  (.reg [] [.a 77 (.mv (.t 15)), .a 78 (.mv (.t 17)), .a 79 (.mv (.t 16)), .a 80 (.iA 1 (.t 77) (.t 78)), .n (.st 1 (.t 80) (.t 79))] [16, 17, 77, 78, 79, 80] [])))
  (.reg [] [.a 81 (.bin .add (.t 72) (.c (.int .i64 1))), .a 72 (.mv (.t 81))] [81] []))))
def orders_Ahead.b6 : R.C := (.seq (.reg [] [.a 85 (.bin .lss (.t 84) (.t 83))] [] [])
  (.seq (.cond (.t 85) .skip (.exit 6))
  (.seq (.block 7 (.seq (.reg [] [.a 86 (.iA 2 (.t 82) (.t 84)), .a 87 (.ld 2 true (.t 86)), .a 19 (.new [(.int .i64 0), (.int .i64 0)]), .n (.st 2 (.t 19) (.t 87))] [85, 86, 87] [])
  (.seq (.reg [] [.a 88 (.mv (.t 15)), .a 89 (.aA 2 1 (.t 19) (.c (.int .i64 0))), .a 90 (.ld 1 false (.t 89)), .a 91 (.iA 1 (.t 88) (.t 90)), .a 92 (.ld 1 false (.t 91)), .a 93 (.mv (.t 15)), .a 94 (.aA 2 1 (.t 19) (.c (.int .i64 1))), .a 95 (.ld 1 false (.t 94)), .a 96 (.iA 1 (.t 93) (.t 95)), .a 97 (.ld 1 false (.t 96)), .a 98 (.bin .geq (.t 92) (.t 97))] [19, 88, 89, 90, 91, 92, 93, 94, 95, 96, 97] [19])
  (.cond (.t 98) (.exit 3) .skip))))
  (.reg [] [.a 99 (.bin .add (.t 84) (.c (.int .i64 1))), .a 84 (.mv (.t 99))] [98, 99] []))))
def orders_Ahead.b2 : R.C := (.seq (.reg [] [.a 65 (.bin .lss (.t 64) (.t 63))] [] [])
  (.seq (.cond (.t 65) .skip (.exit 2))
  (.seq (.block 3 (.seq (.reg [] [.a 66 (.iA 1 (.t 62) (.t 64)), .a 67 (.ld 1 false (.t 66)), .a 14 (.mv (.t 67))] [65, 66, 67] [])
  (.seq (.reg [] [.a 68 (.mv (.t 6)), .a 69 (.mk 1 8 [(.int .i64 0)] (.t 68) (.t 68)), .a 15 (.mv (.t 69))] [68, 69] [])
  (.seq (.seq (.reg [] [.a 70 (.mv (.t 14)), .a 71 (.ln (.t 70)), .a 72 (.mv (.c (.int .i64 0)))] [] [])
  (.block 4 (.loop [] [] orders_Ahead.b4)))
  (.seq (.seq (.reg [] [.a 82 (.mv (.t 1)), .a 83 (.ln (.t 82)), .a 84 (.mv (.c (.int .i64 0)))] [70, 71, 72, 73] [])
  (.block 6 (.loop [] [] orders_Ahead.b6)))
  (.reg [] [.a 100 (.mv (.t 12)), .a 101 (.mv (.t 14)), .a 102 (.lit 1 1 [(.sl 1 [])] [(0, 1, (.t 101))]), .a 103 (.app 1 24 (.t 100) (.t 102)), .a 12 (.mv (.t 103))] [14, 15, 82, 83, 84, 85, 100, 101, 102, 103] [69]))))))
  (.reg [] [.a 104 (.bin .add (.t 64) (.c (.int .i64 1))), .a 64 (.mv (.t 104))] [14, 15, 82, 83, 84, 98, 104] [69]))))
def orders_Ahead : R.Fn := ⟨2, [(.t 4), (.t 5)], (.seq (.reg [] [.a 4 (.mv (.c (.sl 3 []))), .a 5 (.mv (.c (.int .i64 0)))] [4, 5] [])
  (.scp (.seq (.reg [] [.a 21 (.mv (.t 0)), .a 22 (.call F.game_Players [(.t 21)]), .a 20 (.mv (.t 22)), .a 23 (.ext (.t 20) 0), .a 24 (.ext (.t 20) 1), .a 6 (.mv (.t 23)), .a 7 (.mv (.t 24))] [20, 21, 22, 23, 24] [])
  (.seq (.seq (.reg [] [.a 25 (.mv (.t 7)), .a 26 (.un .not (.t 25))] [7, 25] [])
  (.cond (.t 26) (.seq (.reg [] [.a 4 (.mv (.c (.sl 3 []))), .a 5 (.mv (.c (.int .i64 1)))] [0, 1, 6, 26] [])
  .ret) .skip))
  (.seq (.reg [] [.a 28 (.mv (.t 6)), .a 29 (.call F.orders_All [(.t 28)]), .a 27 (.mv (.t 29)), .a 30 (.ext (.t 27) 0), .a 31 (.ext (.t 27) 1), .a 8 (.mv (.t 30)), .a 9 (.mv (.t 31))] [26, 27, 28, 29, 30, 31] [])
  (.seq (.seq (.reg [] [.a 32 (.mv (.t 9)), .a 33 (.bin .neq (.t 32) (.c (.int .i64 0)))] [32] [])
  (.cond (.t 33) (.seq (.reg [] [.a 34 (.mv (.t 9)), .a 4 (.mv (.c (.sl 3 []))), .a 5 (.mv (.t 34))] [0, 1, 6, 8, 9, 33, 34] [])
  .ret) .skip))
  (.seq (.seq (.reg [] [.a 35 (.mv (.t 1)), .a 36 (.ln (.t 35)), .a 37 (.mv (.c (.int .i64 0)))] [9, 33] [])
  (.block 0 (.loop [] [] orders_Ahead.b0)))
  (.seq (.reg [] [.a 12 (.nil 1)] [35, 36, 37, 38] [])
  (.seq .lab
  (.seq (.seq (.reg [] [.a 62 (.mv (.t 8)), .a 63 (.ln (.t 62)), .a 64 (.mv (.c (.int .i64 0)))] [8] [])
  (.block 2 (.loop [] [] orders_Ahead.b2)))
  (.seq (.reg [12] [.a 105 (.mv (.t 0)), .a 106 (.mv (.t 12)), .a 107 (.call F.orders_Mean [(.t 105), (.t 106)]), .a 108 (.ext (.t 107) 0), .a 109 (.ext (.t 107) 1), .a 4 (.mv (.t 108)), .a 5 (.mv (.t 109))] [0, 1, 6, 12, 62, 63, 64, 65, 105, 106, 107, 108, 109] [12])
  .ret)))))))))))⟩
def orders_Ahead.hint : R.Hint := { nil := [12], pub := [(30, [12])], kill := [(0, [4, 5], []), (1, [20, 21, 22, 23, 24], []), (2, [7, 25], []), (3, [0, 1, 6, 26], []), (4, [26, 27, 28, 29, 30, 31], []), (5, [32], []), (6, [0, 1, 6, 8, 9, 33, 34], []), (7, [9, 33], []), (9, [38, 39, 40], []), (10, [11, 41, 42, 43, 44, 45, 46, 47, 48, 49, 50, 51, 52, 53, 54, 55, 56, 57, 58, 59], [11]), (11, [0, 1, 6, 8, 35, 36, 37, 60], []), (12, [60, 61], []), (13, [35, 36, 37, 38], []), (14, [8], []), (16, [65, 66, 67], []), (17, [68, 69], []), (20, [73, 74, 75, 76], []), (21, [16, 17, 77, 78, 79, 80], []), (22, [81], []), (23, [70, 71, 72, 73], []), (25, [85, 86, 87], []), (26, [19, 88, 89, 90, 91, 92, 93, 94, 95, 96, 97], [19]), (27, [98, 99], []), (28, [14, 15, 82, 83, 84, 85, 100, 101, 102, 103], [69]), (29, [14, 15, 82, 83, 84, 98, 104], [69]), (30, [0, 1, 6, 12, 62, 63, 64, 65, 105, 106, 107, 108, 109], [12])] }
theorem orders_Ahead.ok : cFn Tryd.prog orders_Ahead.hint Tryd.f16 = some orders_Ahead := by kernel_rfl
def orders_All.b0 : R.C := (.seq (.seq (.reg [] [.a 15 (.mv (.t 6))] [6] [])
  (.cond (.t 15) .skip (.exit 0)))
  (.block 1 (.seq (.reg [] [.a 16 (.mv (.t 4)), .a 17 (.mv (.t 5)), .a 18 (.lit 1 1 [(.sl 1 [])] [(0, 1, (.t 17))]), .a 19 (.app 1 24 (.t 16) (.t 18)), .a 4 (.mv (.t 19))] [15, 16, 17, 18, 19] [])
  (.reg [] [.a 21 (.mv (.t 5)), .a 22 (.call F.orders_Next [(.t 21)]), .a 20 (.mv (.t 22)), .a 23 (.ext (.t 20) 0), .a 24 (.ext (.t 20) 1), .a 5 (.mv (.t 23)), .a 6 (.mv (.t 24))] [20, 21, 22, 23, 24] []))))
def orders_All : R.Fn := ⟨1, [(.t 2), (.t 3)], (.seq (.reg [] [.a 2 (.mv (.c (.sl 1 []))), .a 3 (.mv (.c (.int .i64 0)))] [2, 3] [])
  (.seq (.seq (.reg [] [.a 7 (.mv (.t 0)), .a 8 (.bin .lss (.t 7) (.c (.int .i64 0))), .a 9 (.mv (.t 8)), .g 10 9 false (.mv (.t 0)), .g 11 9 false (.bin .gtr (.t 10) (.c (.int .i64 7))), .a 12 (.pick (.t 9) (.c (.bool true)) (.t 11))] [7, 8, 9, 10, 11] [])
  (.cond (.t 12) (.seq (.reg [] [.a 2 (.mv (.c (.sl 1 []))), .a 3 (.mv (.c (.int .i64 16)))] [0, 12] [])
  .ret) .skip))
  (.seq (.reg [] [.a 4 (.nil 1)] [12] [])
  (.seq (.reg [] [.a 13 (.mv (.t 0)), .a 14 (.call F.orders_First [(.t 13)]), .a 5 (.mv (.t 14)), .a 6 (.mv (.c (.bool true)))] [0, 13, 14] [])
  (.seq (.block 0 (.loop [] [] orders_All.b0))
  (.seq (.reg [] [.a 25 (.mv (.t 4)), .a 2 (.mv (.t 25)), .a 3 (.mv (.c (.int .i64 0)))] [4, 5, 15, 25] [])
  .ret))))))⟩
def orders_All.hint : R.Hint := { nil := [4], kill := [(0, [2, 3], []), (1, [7, 8, 9, 10, 11], []), (2, [0, 12], []), (3, [12], []), (4, [0, 13, 14], []), (5, [6], []), (6, [15, 16, 17, 18, 19], []), (7, [20, 21, 22, 23, 24], []), (8, [4, 5, 15, 25], [])] }
theorem orders_All.ok : cFn Tryd.prog orders_All.hint Tryd.f17 = some orders_All := by kernel_rfl
def dendronlaw21_place.b0 : R.C := (.seq (.seq (.reg [] [.a 6 (.mv (.t 5)), .a 7 (.mv (.t 0)), .a 8 (.ln (.t 7)), .a 9 (.bin .lss (.t 6) (.t 8))] [6, 7, 8] [])
  (.cond (.t 9) .skip (.exit 0)))
  (.seq (.block 1 (.seq (.reg [] [.a 12 (.mv (.t 0)), .a 13 (.mv (.t 5)), .a 14 (.iA 1 (.t 12) (.t 13)), .a 15 (.ld 1 false (.t 14)), .a 16 (.mv (.t 1)), .a 17 (.bin .eql (.t 15) (.t 16))] [9, 12, 13, 14, 15, 16] [])
  (.cond (.t 17) (.seq (.reg [] [.a 18 (.mv (.t 5)), .a 4 (.mv (.t 18))] [0, 1, 5, 17, 18] [])
  .ret) .skip)))
  (.reg [] [.a 10 (.mv (.t 5)), .a 11 (.bin .add (.t 10) (.c (.int .i64 1))), .a 5 (.mv (.t 11))] [10, 11, 17] [])))
def dendronlaw21_place : R.Fn := ⟨2, [(.t 4)], (.seq (.reg [] [.a 4 (.mv (.c (.int .i64 0)))] [4] [])
  (.seq (.seq (.reg [] [.a 5 (.mv (.c (.int .i64 0)))] [] [])
  (.block 0 (.loop [] [] dendronlaw21_place.b0)))
  (.seq (.reg [] [.a 4 (.mv (.c (.int .i64 (-1))))] [0, 1, 5, 9] [])
  .ret)))⟩
def dendronlaw21_place.hint : R.Hint := { kill := [(0, [4], []), (2, [6, 7, 8], []), (3, [10, 11, 17], []), (4, [9, 12, 13, 14, 15, 16], []), (5, [0, 1, 5, 17, 18], []), (6, [0, 1, 5, 9], [])] }
theorem dendronlaw21_place.ok : cFn Tryd.prog dendronlaw21_place.hint Tryd.f18 = some dendronlaw21_place := by kernel_rfl
def dendronlaw19_number : R.Fn := ⟨1, [(.cell 2 3 true)], (.seq (.reg [] [.a 1 (.box (.t 0)), .a 2 (.new [(.bool false), (.sl 1 []), (.sl 1 [])])] [0] [])
  (.seq (.seq (.reg [] [.a 3 (.fA 0 (.t 1)), .a 4 (.fA 1 (.t 3)), .a 5 (.ld 1 false (.t 4)), .a 6 (.ln (.t 5)), .a 7 (.bin .gtr (.t 6) (.c (.int .i64 2)))] [3, 4, 5, 6] [])
  (.cond (.t 7) (.reg [] [.a 8 (.fA 0 (.t 1)), .a 9 (.fA 1 (.t 8)), .a 10 (.ld 1 false (.t 9)), .a 11 (.slc 1 (.t 10) none (some (.c (.int .i64 2)))), .a 12 (.fA 0 (.t 1)), .a 13 (.fA 1 (.t 12)), .n (.st 1 (.t 13) (.t 11))] [7, 8, 9, 10, 11, 12, 13] []) .skip))
  (.seq (.seq (.reg [] [.a 14 (.fA 2 (.t 1)), .a 15 (.ld 1 false (.t 14)), .a 16 (.ln (.t 15)), .a 17 (.bin .gtr (.t 16) (.c (.int .i64 2)))] [7, 14, 15, 16] [])
  (.cond (.t 17) (.reg [] [.a 18 (.fA 2 (.t 1)), .a 19 (.ld 1 false (.t 18)), .a 20 (.slc 1 (.t 19) none (some (.c (.int .i64 2)))), .a 21 (.fA 2 (.t 1)), .n (.st 1 (.t 21) (.t 20))] [17, 18, 19, 20, 21] []) .skip))
  (.seq (.reg [] [.a 22 (.ld 3 true (.t 1)), .n (.st 3 (.t 2) (.t 22))] [1, 17, 22] [1])
  .ret))))⟩
def dendronlaw19_number.hint : R.Hint := { kill := [(0, [0], []), (1, [3, 4, 5, 6], []), (2, [7, 8, 9, 10, 11, 12, 13], []), (3, [7, 14, 15, 16], []), (4, [17, 18, 19, 20, 21], []), (5, [1, 17, 22], [1])] }
theorem dendronlaw19_number.ok : cFn Tryd.prog dendronlaw19_number.hint Tryd.f19 = some dendronlaw19_number := by kernel_rfl
def game_Players : R.Fn := ⟨1, [(.t 2), (.t 3)], (.seq (.reg [] [.a 2 (.mv (.c (.int .i64 0))), .a 3 (.mv (.c (.bool false)))] [2, 3] [])
  (.seq (.reg [] [.a 5 (.mv (.t 0)), .a 6 (.ln (.t 5)), .a 7 (.conv .u64 (.t 6)), .a 8 (.call F.bits_Len [(.t 7)]), .a 9 (.bin .sub (.t 8) (.c (.int .i64 1))), .a 4 (.mv (.t 9))] [5, 6, 7, 8, 9] [])
  (.seq (.seq (.reg [] [.a 10 (.mv (.t 0)), .a 11 (.ln (.t 10)), .a 12 (.bin .eql (.t 11) (.c (.int .i64 0))), .a 13 (.mv (.t 12)), .g 14 13 false (.mv (.t 0)), .g 15 13 false (.ln (.t 14)), .g 16 13 false (.mv (.t 4)), .g 17 13 false (.bin .shl (.c (.int .i64 1)) (.t 16)), .g 18 13 false (.bin .neq (.t 15) (.t 17)), .a 19 (.pick (.t 13) (.c (.bool true)) (.t 18)), .a 20 (.mv (.t 19)), .g 21 20 false (.mv (.t 4)), .g 22 20 false (.bin .gtr (.t 21) (.c (.int .i64 12))), .a 23 (.pick (.t 20) (.c (.bool true)) (.t 22))] [0, 10, 11, 12, 13, 14, 15, 16, 17, 18, 19, 20, 21, 22] [])
  (.cond (.t 23) (.seq (.reg [] [.a 2 (.mv (.c (.int .i64 0))), .a 3 (.mv (.c (.bool false)))] [4, 23] [])
  .ret) .skip))
  (.seq (.reg [] [.a 24 (.mv (.t 4)), .a 2 (.mv (.t 24)), .a 3 (.mv (.c (.bool true)))] [4, 23, 24] [])
  .ret))))⟩
def game_Players.hint : R.Hint := { kill := [(0, [2, 3], []), (1, [5, 6, 7, 8, 9], []), (2, [0, 10, 11, 12, 13, 14, 15, 16, 17, 18, 19, 20, 21, 22], []), (3, [4, 23], []), (4, [4, 23, 24], [])] }
theorem game_Players.ok : cFn Tryd.prog game_Players.hint Tryd.f20 = some game_Players := by kernel_rfl
def ratio_Zero : R.Fn := ⟨0, [(.cell 0 3 true)], (.seq (.reg [] [.a 0 (.new [(.bool false), (.sl 1 []), (.sl 1 [])])] [] [])
  (.seq (.reg [] [.a 1 (.call F.nat_Of [(.c (.int .u64 1))]), .a 2 (.bld [(.bool false), (.sl 1 []), (.sl 1 [])] [(2, 1, (.t 1))]), .n (.st 3 (.t 0) (.t 2))] [1, 2] [])
  .ret))⟩
def ratio_Zero.hint : R.Hint := { kill := [(1, [1, 2], [])] }
theorem ratio_Zero.ok : cFn Tryd.prog ratio_Zero.hint Tryd.f21 = some ratio_Zero := by kernel_rfl
def orders_Adds.b0 : R.C := (.seq (.reg [] [.a 30 (.bin .lss (.t 29) (.t 28))] [] [])
  (.seq (.cond (.t 30) .skip (.exit 0))
  (.seq (.block 1 (.seq (.reg [] [.a 31 (.iA 1 (.t 27) (.t 29)), .a 32 (.ld 1 false (.t 31)), .a 11 (.mv (.t 32))] [30, 31, 32] [])
  (.seq (.reg [] [.a 33 (.mv (.t 8)), .a 34 (.mv (.t 11)), .a 35 (.mv (.t 0)), .a 36 (.mv (.t 9)), .a 37 (.mv (.t 11)), .a 38 (.bin .shl (.c (.int .i64 1)) (.t 37)), .a 39 (.bin .or (.t 36) (.t 38)), .a 40 (.iA 3 (.t 35) (.t 39)), .a 41 (.ld 3 true (.t 40)), .a 42 (.mv (.t 0)), .a 43 (.mv (.t 9)), .a 44 (.iA 3 (.t 42) (.t 43)), .a 45 (.ld 3 true (.t 44)), .a 46 (.call F.ratio_Sub [(.t 41), (.t 45)]), .a 47 (.iA 3 (.t 33) (.t 34)), .n (.st 3 (.t 47) (.t 46))] [33, 34, 35, 36, 37, 38, 39, 40, 41, 42, 43, 44, 45, 46, 47] [])
  (.reg [] [.a 48 (.mv (.t 9)), .a 49 (.mv (.t 11)), .a 50 (.bin .shl (.c (.int .i64 1)) (.t 49)), .a 51 (.bin .or (.t 48) (.t 50)), .a 9 (.mv (.t 51))] [11, 48, 49, 50, 51] []))))
  (.reg [] [.a 52 (.bin .add (.t 29) (.c (.int .i64 1))), .a 29 (.mv (.t 52))] [52] []))))
def orders_Adds : R.Fn := ⟨2, [(.t 4), (.t 5)], (.seq (.reg [] [.a 4 (.mv (.c (.sl 3 []))), .a 5 (.mv (.c (.int .i64 0)))] [4, 5] [])
  (.seq (.reg [] [.a 13 (.mv (.t 0)), .a 14 (.call F.game_Players [(.t 13)]), .a 12 (.mv (.t 14)), .a 15 (.ext (.t 12) 0), .a 16 (.ext (.t 12) 1), .a 6 (.mv (.t 15)), .a 7 (.mv (.t 16))] [12, 13, 14, 15, 16] [])
  (.seq (.seq (.reg [] [.a 17 (.mv (.t 7)), .a 18 (.un .not (.t 17)), .a 19 (.mv (.t 18)), .g 20 19 false (.mv (.t 1)), .g 21 19 false (.mv (.t 6)), .g 22 19 false (.call F.orders_Right [(.t 20), (.t 21)]), .g 23 19 false (.un .not (.t 22)), .a 24 (.pick (.t 19) (.c (.bool true)) (.t 23))] [7, 17, 18, 19, 20, 21, 22, 23] [])
  (.cond (.t 24) (.seq (.reg [] [.a 4 (.mv (.c (.sl 3 []))), .a 5 (.mv (.c (.int .i64 1)))] [0, 1, 6, 24] [])
  .ret) .skip))
  (.seq (.reg [] [.a 25 (.mv (.t 6)), .a 26 (.mk 3 56 [(.bool false), (.sl 1 []), (.sl 1 [])] (.t 25) (.t 25)), .a 8 (.mv (.t 26))] [6, 24, 25, 26] [])
  (.seq (.reg [] [.a 9 (.mv (.c (.int .i64 0)))] [] [])
  (.seq (.seq (.reg [] [.a 27 (.mv (.t 1)), .a 28 (.ln (.t 27)), .a 29 (.mv (.c (.int .i64 0)))] [1] [])
  (.block 0 (.loop [] [] orders_Adds.b0)))
  (.seq (.reg [] [.a 53 (.mv (.t 8)), .a 4 (.mv (.t 53)), .a 5 (.mv (.c (.int .i64 0)))] [0, 8, 9, 27, 28, 29, 30, 53] [])
  .ret)))))))⟩
def orders_Adds.hint : R.Hint := { kill := [(0, [4, 5], []), (1, [12, 13, 14, 15, 16], []), (2, [7, 17, 18, 19, 20, 21, 22, 23], []), (3, [0, 1, 6, 24], []), (4, [6, 24, 25, 26], []), (6, [1], []), (8, [30, 31, 32], []), (9, [33, 34, 35, 36, 37, 38, 39, 40, 41, 42, 43, 44, 45, 46, 47], []), (10, [11, 48, 49, 50, 51], []), (11, [52], []), (12, [0, 8, 9, 27, 28, 29, 30, 53], [])] }
theorem orders_Adds.ok : cFn Tryd.prog orders_Adds.hint Tryd.f22 = some orders_Adds := by kernel_rfl
def dendronlaw19_two.b0 : R.C := (.seq (.seq (.reg [] [.a 5 (.mv (.t 4)), .a 6 (.mv (.t 0)), .a 7 (.bin .lss (.t 5) (.t 6))] [5, 6] [])
  (.cond (.t 7) .skip (.exit 0)))
  (.seq (.block 1 (.reg [] [.a 10 (.mv (.t 3)), .a 11 (.bin .mul (.c (.int .i64 2)) (.t 10)), .a 3 (.mv (.t 11))] [7, 10, 11] []))
  (.reg [] [.a 8 (.mv (.t 4)), .a 9 (.bin .add (.t 8) (.c (.int .i64 1))), .a 4 (.mv (.t 9))] [8, 9] [])))
def dendronlaw19_two : R.Fn := ⟨1, [(.t 2)], (.seq (.reg [] [.a 2 (.mv (.c (.int .i64 0)))] [2] [])
  (.seq (.reg [] [.a 3 (.mv (.c (.int .i64 1)))] [] [])
  (.seq (.seq (.reg [] [.a 4 (.mv (.c (.int .i64 0)))] [] [])
  (.block 0 (.loop [] [] dendronlaw19_two.b0)))
  (.seq (.reg [] [.a 12 (.mv (.t 3)), .a 2 (.mv (.t 12))] [0, 3, 4, 7, 12] [])
  .ret))))⟩
def dendronlaw19_two.hint : R.Hint := { kill := [(0, [2], []), (3, [5, 6], []), (4, [8, 9], []), (5, [7, 10, 11], []), (6, [0, 3, 4, 7, 12], [])] }
theorem dendronlaw19_two.ok : cFn Tryd.prog dendronlaw19_two.hint Tryd.f23 = some dendronlaw19_two := by kernel_rfl
def orders_Next.b0 : R.C := (.seq (.seq (.reg [] [.a 15 (.mv (.t 5)), .a 16 (.bin .geq (.t 15) (.c (.int .i64 0))), .a 17 (.mv (.t 16)), .g 18 17 true (.mv (.t 4)), .g 19 17 true (.mv (.t 5)), .g 20 17 true (.iA 1 (.t 18) (.t 19)), .g 21 17 true (.ld 1 false (.t 20)), .g 22 17 true (.mv (.t 4)), .g 23 17 true (.mv (.t 5)), .g 24 17 true (.bin .add (.t 23) (.c (.int .i64 1))), .g 25 17 true (.iA 1 (.t 22) (.t 24)), .g 26 17 true (.ld 1 false (.t 25)), .g 27 17 true (.bin .geq (.t 21) (.t 26)), .a 28 (.pick (.t 17) (.t 27) (.c (.bool false)))] [15, 16, 17, 18, 19, 20, 21, 22, 23, 24, 25, 26, 27] [])
  (.cond (.t 28) .skip (.exit 0)))
  (.block 1 (.reg [] [.a 29 (.mv (.t 5)), .a 30 (.bin .sub (.t 29) (.c (.int .i64 1))), .a 5 (.mv (.t 30))] [28, 29, 30] [])))
def orders_Next.b2 : R.C := (.seq (.seq (.reg [] [.a 36 (.mv (.t 4)), .a 37 (.mv (.t 6)), .a 38 (.iA 1 (.t 36) (.t 37)), .a 39 (.ld 1 false (.t 38)), .a 40 (.mv (.t 4)), .a 41 (.mv (.t 5)), .a 42 (.iA 1 (.t 40) (.t 41)), .a 43 (.ld 1 false (.t 42)), .a 44 (.bin .leq (.t 39) (.t 43))] [36, 37, 38, 39, 40, 41, 42, 43] [])
  (.cond (.t 44) .skip (.exit 2)))
  (.block 3 (.reg [] [.a 45 (.mv (.t 6)), .a 46 (.bin .sub (.t 45) (.c (.int .i64 1))), .a 6 (.mv (.t 46))] [44, 45, 46] [])))
def orders_Next.b4 : R.C := (.seq (.seq (.reg [] [.a 66 (.mv (.t 7)), .a 67 (.mv (.t 8)), .a 68 (.bin .lss (.t 66) (.t 67))] [66, 67] [])
  (.cond (.t 68) .skip (.exit 4)))
  (.seq (.block 5 (.reg [] [.a 73 (.mv (.t 4)), .a 74 (.mv (.t 7)), .a 75 (.mv (.t 4)), .a 76 (.mv (.t 8)), .a 77 (.mv (.t 4)), .a 78 (.mv (.t 8)), .a 79 (.iA 1 (.t 77) (.t 78)), .a 80 (.ld 1 false (.t 79)), .a 81 (.mv (.t 4)), .a 82 (.mv (.t 7)), .a 83 (.iA 1 (.t 81) (.t 82)), .a 84 (.ld 1 false (.t 83)), .a 85 (.iA 1 (.t 73) (.t 74)), .n (.st 1 (.t 85) (.t 80)), .a 86 (.iA 1 (.t 75) (.t 76)), .n (.st 1 (.t 86) (.t 84))] [68, 73, 74, 75, 76, 77, 78, 79, 80, 81, 82, 83, 84, 85, 86] []))
  (.reg [] [.a 69 (.mv (.t 7)), .a 70 (.bin .add (.t 69) (.c (.int .i64 1))), .a 71 (.mv (.t 8)), .a 72 (.bin .sub (.t 71) (.c (.int .i64 1))), .a 7 (.mv (.t 70)), .a 8 (.mv (.t 72))] [69, 70, 71, 72] [])))
def orders_Next : R.Fn := ⟨1, [(.t 2), (.t 3)], (.seq (.reg [] [.a 2 (.mv (.c (.sl 1 []))), .a 3 (.mv (.c (.bool false)))] [2, 3] [])
  (.seq (.reg [] [.a 9 (.lito 1 0 [] []), .a 10 (.mv (.t 0)), .a 11 (.app 1 8 (.t 9) (.t 10)), .a 4 (.mv (.t 11))] [0, 9, 10, 11] [])
  (.seq (.reg [] [.a 12 (.mv (.t 4)), .a 13 (.ln (.t 12)), .a 14 (.bin .sub (.t 13) (.c (.int .i64 2))), .a 5 (.mv (.t 14))] [12, 13, 14] [])
  (.seq (.block 0 (.loop [] [] orders_Next.b0))
  (.seq (.seq (.reg [] [.a 31 (.mv (.t 5)), .a 32 (.bin .lss (.t 31) (.c (.int .i64 0)))] [28, 31] [])
  (.cond (.t 32) (.seq (.reg [] [.a 2 (.mv (.c (.sl 1 []))), .a 3 (.mv (.c (.bool false)))] [4, 5, 32] [])
  .ret) .skip))
  (.seq (.reg [] [.a 33 (.mv (.t 4)), .a 34 (.ln (.t 33)), .a 35 (.bin .sub (.t 34) (.c (.int .i64 1))), .a 6 (.mv (.t 35))] [32, 33, 34, 35] [])
  (.seq (.block 2 (.loop [] [] orders_Next.b2))
  (.seq (.reg [] [.a 47 (.mv (.t 4)), .a 48 (.mv (.t 5)), .a 49 (.mv (.t 4)), .a 50 (.mv (.t 6)), .a 51 (.mv (.t 4)), .a 52 (.mv (.t 6)), .a 53 (.iA 1 (.t 51) (.t 52)), .a 54 (.ld 1 false (.t 53)), .a 55 (.mv (.t 4)), .a 56 (.mv (.t 5)), .a 57 (.iA 1 (.t 55) (.t 56)), .a 58 (.ld 1 false (.t 57)), .a 59 (.iA 1 (.t 47) (.t 48)), .n (.st 1 (.t 59) (.t 54)), .a 60 (.iA 1 (.t 49) (.t 50)), .n (.st 1 (.t 60) (.t 58))] [6, 44, 47, 48, 49, 50, 51, 52, 53, 54, 55, 56, 57, 58, 59, 60] [])
  (.seq (.seq (.reg [] [.a 61 (.mv (.t 5)), .a 62 (.bin .add (.t 61) (.c (.int .i64 1))), .a 63 (.mv (.t 4)), .a 64 (.ln (.t 63)), .a 65 (.bin .sub (.t 64) (.c (.int .i64 1))), .a 7 (.mv (.t 62)), .a 8 (.mv (.t 65))] [5, 61, 62, 63, 64, 65] [])
  (.block 4 (.loop [] [] orders_Next.b4)))
  (.seq (.reg [] [.a 87 (.mv (.t 4)), .a 2 (.mv (.t 87)), .a 3 (.mv (.c (.bool true)))] [4, 7, 8, 68, 87] [])
  .ret))))))))))⟩
def orders_Next.hint : R.Hint := { lit := [9], kill := [(0, [2, 3], []), (1, [0, 9, 10, 11], []), (2, [12, 13, 14], []), (3, [15, 16, 17, 18, 19, 20, 21, 22, 23, 24, 25, 26, 27], []), (4, [28, 29, 30], []), (5, [28, 31], []), (6, [4, 5, 32], []), (7, [32, 33, 34, 35], []), (8, [36, 37, 38, 39, 40, 41, 42, 43], []), (9, [44, 45, 46], []), (10, [6, 44, 47, 48, 49, 50, 51, 52, 53, 54, 55, 56, 57, 58, 59, 60], []), (11, [5, 61, 62, 63, 64, 65], []), (12, [66, 67], []), (13, [69, 70, 71, 72], []), (14, [68, 73, 74, 75, 76, 77, 78, 79, 80, 81, 82, 83, 84, 85, 86], []), (15, [4, 7, 8, 68, 87], [])] }
theorem orders_Next.ok : cFn Tryd.prog orders_Next.hint Tryd.f24 = some orders_Next := by kernel_rfl
def dendronlaw21_same.b0 : R.C := (.seq (.seq (.reg [] [.a 11 (.mv (.t 5)), .a 12 (.mv (.t 0)), .a 13 (.ln (.t 12)), .a 14 (.bin .lss (.t 11) (.t 13))] [11, 12, 13] [])
  (.cond (.t 14) .skip (.exit 0)))
  (.seq (.block 1 (.seq (.reg [] [.a 17 (.mv (.t 0)), .a 18 (.mv (.t 5)), .a 19 (.iA 1 (.t 17) (.t 18)), .a 20 (.ld 1 false (.t 19)), .a 21 (.mv (.t 1)), .a 22 (.mv (.t 5)), .a 23 (.iA 1 (.t 21) (.t 22)), .a 24 (.ld 1 false (.t 23)), .a 25 (.bin .neq (.t 20) (.t 24))] [14, 17, 18, 19, 20, 21, 22, 23, 24] [])
  (.cond (.t 25) (.seq (.reg [] [.a 4 (.mv (.c (.bool false)))] [0, 1, 5, 25] [])
  .ret) .skip)))
  (.reg [] [.a 15 (.mv (.t 5)), .a 16 (.bin .add (.t 15) (.c (.int .i64 1))), .a 5 (.mv (.t 16))] [15, 16, 25] [])))
def dendronlaw21_same : R.Fn := ⟨2, [(.t 4)], (.seq (.reg [] [.a 4 (.mv (.c (.bool false)))] [4] [])
  (.seq (.seq (.reg [] [.a 6 (.mv (.t 0)), .a 7 (.ln (.t 6)), .a 8 (.mv (.t 1)), .a 9 (.ln (.t 8)), .a 10 (.bin .neq (.t 7) (.t 9))] [6, 7, 8, 9] [])
  (.cond (.t 10) (.seq (.reg [] [.a 4 (.mv (.c (.bool false)))] [0, 1, 10] [])
  .ret) .skip))
  (.seq (.seq (.reg [] [.a 5 (.mv (.c (.int .i64 0)))] [10] [])
  (.block 0 (.loop [] [] dendronlaw21_same.b0)))
  (.seq (.reg [] [.a 4 (.mv (.c (.bool true)))] [0, 1, 5, 14] [])
  .ret))))⟩
def dendronlaw21_same.hint : R.Hint := { kill := [(0, [4], []), (1, [6, 7, 8, 9], []), (2, [0, 1, 10], []), (3, [10], []), (4, [11, 12, 13], []), (5, [15, 16, 25], []), (6, [14, 17, 18, 19, 20, 21, 22, 23, 24], []), (7, [0, 1, 5, 25], []), (8, [0, 1, 5, 14], [])] }
theorem dendronlaw21_same.ok : cFn Tryd.prog dendronlaw21_same.hint Tryd.f25 = some dendronlaw21_same := by kernel_rfl
def dendronlaw21_two.b0 : R.C := (.seq (.seq (.reg [] [.a 5 (.mv (.t 4)), .a 6 (.mv (.t 0)), .a 7 (.bin .lss (.t 5) (.t 6))] [5, 6] [])
  (.cond (.t 7) .skip (.exit 0)))
  (.seq (.block 1 (.reg [] [.a 10 (.mv (.t 3)), .a 11 (.bin .mul (.c (.int .i64 2)) (.t 10)), .a 3 (.mv (.t 11))] [7, 10, 11] []))
  (.reg [] [.a 8 (.mv (.t 4)), .a 9 (.bin .add (.t 8) (.c (.int .i64 1))), .a 4 (.mv (.t 9))] [8, 9] [])))
def dendronlaw21_two : R.Fn := ⟨1, [(.t 2)], (.seq (.reg [] [.a 2 (.mv (.c (.int .i64 0)))] [2] [])
  (.seq (.reg [] [.a 3 (.mv (.c (.int .i64 1)))] [] [])
  (.seq (.seq (.reg [] [.a 4 (.mv (.c (.int .i64 0)))] [] [])
  (.block 0 (.loop [] [] dendronlaw21_two.b0)))
  (.seq (.reg [] [.a 12 (.mv (.t 3)), .a 2 (.mv (.t 12))] [0, 3, 4, 7, 12] [])
  .ret))))⟩
def dendronlaw21_two.hint : R.Hint := { kill := [(0, [2], []), (3, [5, 6], []), (4, [8, 9], []), (5, [7, 10, 11], []), (6, [0, 3, 4, 7, 12], [])] }
theorem dendronlaw21_two.ok : cFn Tryd.prog dendronlaw21_two.hint Tryd.f26 = some dendronlaw21_two := by kernel_rfl
def ratio_Sub : R.Fn := ⟨2, [(.cell 4 3 true)], (.seq (.reg [] [.a 2 (.box (.t 0)), .a 3 (.box (.t 1)), .a 4 (.new [(.bool false), (.sl 1 []), (.sl 1 [])])] [0, 1] [])
  (.seq (.reg [] [.a 5 (.ld 3 true (.t 2)), .a 6 (.ld 3 true (.t 3)), .a 7 (.call F.ratio_Neg [(.t 6)]), .a 8 (.call F.ratio_Add [(.t 5), (.t 7)]), .n (.st 3 (.t 4) (.t 8))] [2, 3, 5, 6, 7, 8] [2, 3])
  .ret))⟩
def ratio_Sub.hint : R.Hint := { kill := [(0, [0, 1], []), (1, [2, 3, 5, 6, 7, 8], [2, 3])] }
theorem ratio_Sub.ok : cFn Tryd.prog ratio_Sub.hint Tryd.f27 = some ratio_Sub := by kernel_rfl
def ratio_Clean : R.Fn := ⟨1, [(.cell 2 3 true)], (.seq (.reg [] [.a 1 (.box (.t 0)), .a 2 (.new [(.bool false), (.sl 1 []), (.sl 1 [])])] [0] [])
  (.seq (.reg [] [.a 4 (.fA 2 (.t 1)), .a 5 (.ld 1 false (.t 4)), .a 6 (.call F.nat_Clean [(.t 5)]), .a 3 (.mv (.t 6))] [4, 5, 6] [])
  (.seq (.seq (.reg [] [.a 7 (.mv (.t 3)), .a 8 (.ln (.t 7)), .a 9 (.bin .eql (.t 8) (.c (.int .i64 0)))] [7, 8] [])
  (.cond (.t 9) (.seq (.reg [] [.a 10 (.call F.ratio_Zero []), .n (.st 3 (.t 2) (.t 10))] [1, 3, 9, 10] [1])
  .ret) .skip))
  (.seq (.reg [] [.a 11 (.fA 0 (.t 1)), .a 12 (.ld 2 true (.t 11)), .a 13 (.call F.whole_Clean [(.t 12)]), .a 14 (.mv (.t 3)), .a 15 (.call F.ratio_form [(.t 13), (.t 14)]), .n (.st 3 (.t 2) (.t 15))] [1, 3, 9, 11, 12, 13, 14, 15] [1])
  .ret))))⟩
def ratio_Clean.hint : R.Hint := { kill := [(0, [0], []), (1, [4, 5, 6], []), (2, [7, 8], []), (3, [1, 3, 9, 10], [1]), (4, [1, 3, 9, 11, 12, 13, 14, 15], [1])] }
theorem ratio_Clean.ok : cFn Tryd.prog ratio_Clean.hint Tryd.f28 = some ratio_Clean := by kernel_rfl
def ratio_form : R.Fn := ⟨2, [(.cell 4 3 true)], (.seq (.reg [] [.a 2 (.box (.t 0)), .a 4 (.new [(.bool false), (.sl 1 []), (.sl 1 [])])] [0] [])
  (.seq (.seq (.reg [] [.a 12 (.fA 1 (.t 2)), .a 13 (.ld 1 false (.t 12)), .a 14 (.ln (.t 13)), .a 15 (.bin .eql (.t 14) (.c (.int .i64 0)))] [12, 13, 14] [])
  (.cond (.t 15) (.seq (.reg [] [.a 16 (.call F.nat_Of [(.c (.int .u64 1))]), .a 17 (.bld [(.bool false), (.sl 1 []), (.sl 1 [])] [(2, 1, (.t 16))]), .n (.st 3 (.t 4) (.t 17))] [1, 2, 15, 16, 17] [2])
  .ret) .skip))
  (.seq (.reg [] [.a 18 (.fA 1 (.t 2)), .a 19 (.ld 1 false (.t 18)), .a 20 (.mv (.t 1)), .a 21 (.call F.nat_Gcd [(.t 19), (.t 20)]), .a 5 (.mv (.t 21))] [15, 18, 19, 20, 21] [])
  (.seq (.seq (.reg [] [.a 22 (.mv (.t 5)), .a 23 (.ln (.t 22)), .a 24 (.bin .eql (.t 23) (.c (.int .i64 1))), .a 25 (.mv (.t 24)), .g 26 25 true (.mv (.t 5)), .g 27 25 true (.iA 1 (.t 26) (.c (.int .i64 0))), .g 28 25 true (.ld 1 false (.t 27)), .g 29 25 true (.bin .eql (.t 28) (.c (.int .u64 1))), .a 30 (.pick (.t 25) (.t 29) (.c (.bool false)))] [22, 23, 24, 25, 26, 27, 28, 29] [])
  (.cond (.t 30) (.seq (.reg [] [.a 31 (.ld 2 true (.t 2)), .a 32 (.mv (.t 1)), .a 33 (.bld [(.bool false), (.sl 1 []), (.sl 1 [])] [(0, 2, (.t 31)), (2, 1, (.t 32))]), .n (.st 3 (.t 4) (.t 33))] [1, 2, 5, 30, 31, 32, 33] [2])
  .ret) .skip))
  (.seq (.reg [] [.a 35 (.fA 1 (.t 2)), .a 36 (.ld 1 false (.t 35)), .a 37 (.mv (.t 5)), .a 38 (.call F.nat_DivMod [(.t 36), (.t 37)]), .a 34 (.mv (.t 38)), .a 39 (.ext (.t 34) 0), .a 40 (.ext (.t 34) 1), .a 41 (.ext (.t 34) 2), .a 6 (.mv (.t 39)), .a 7 (.mv (.t 40)), .a 8 (.mv (.t 41))] [7, 8, 30, 34, 35, 36, 37, 38, 39, 40, 41] [])
  (.seq (.reg [] [.a 43 (.mv (.t 1)), .a 44 (.mv (.t 5)), .a 45 (.call F.nat_DivMod [(.t 43), (.t 44)]), .a 42 (.mv (.t 45)), .a 46 (.ext (.t 42) 0), .a 47 (.ext (.t 42) 1), .a 48 (.ext (.t 42) 2), .a 9 (.mv (.t 46)), .a 10 (.mv (.t 47)), .a 11 (.mv (.t 48))] [1, 5, 10, 11, 42, 43, 44, 45, 46, 47, 48] [])
  (.seq (.reg [] [.a 49 (.fA 0 (.t 2)), .a 50 (.ld 1 false (.t 49)), .a 51 (.mv (.t 6)), .a 52 (.bld [(.bool false), (.sl 1 [])] [(0, 1, (.t 50)), (1, 1, (.t 51))]), .a 53 (.mv (.t 9)), .a 54 (.bld [(.bool false), (.sl 1 []), (.sl 1 [])] [(0, 2, (.t 52)), (2, 1, (.t 53))]), .n (.st 3 (.t 4) (.t 54))] [2, 6, 9, 49, 50, 51, 52, 53, 54] [2])
  .ret)))))))⟩
def ratio_form.hint : R.Hint := { kill := [(0, [0], []), (1, [12, 13, 14], []), (2, [1, 2, 15, 16, 17], [2]), (3, [15, 18, 19, 20, 21], []), (4, [22, 23, 24, 25, 26, 27, 28, 29], []), (5, [1, 2, 5, 30, 31, 32, 33], [2]), (6, [7, 8, 30, 34, 35, 36, 37, 38, 39, 40, 41], []), (7, [1, 5, 10, 11, 42, 43, 44, 45, 46, 47, 48], []), (8, [2, 6, 9, 49, 50, 51, 52, 53, 54], [2])] }
theorem ratio_form.ok : cFn Tryd.prog ratio_form.hint Tryd.f29 = some ratio_form := by kernel_rfl
def whole_Add : R.Fn := ⟨2, [(.cell 4 2 true)], (.seq (.reg [] [.a 2 (.box (.t 0)), .a 3 (.box (.t 1)), .a 4 (.new [(.bool false), (.sl 1 [])])] [0, 1] [])
  (.seq (.reg [] [.a 7 (.ld 2 true (.t 2)), .a 8 (.call F.whole_Clean [(.t 7)]), .a 9 (.ld 2 true (.t 3)), .a 10 (.call F.whole_Clean [(.t 9)]), .n (.st 2 (.t 2) (.t 8)), .n (.st 2 (.t 3) (.t 10))] [7, 8, 9, 10] [])
  (.seq (.seq (.reg [] [.a 11 (.fA 0 (.t 2)), .a 12 (.ld 1 false (.t 11)), .a 13 (.fA 0 (.t 3)), .a 14 (.ld 1 false (.t 13)), .a 15 (.beq false (.t 12) (.t 14))] [11, 12, 13, 14] [])
  (.cond (.t 15) (.seq (.reg [] [.a 16 (.fA 0 (.t 2)), .a 17 (.ld 1 false (.t 16)), .a 18 (.fA 1 (.t 2)), .a 19 (.ld 1 false (.t 18)), .a 20 (.fA 1 (.t 3)), .a 21 (.ld 1 false (.t 20)), .a 22 (.call F.nat_Add [(.t 19), (.t 21)]), .a 23 (.call F.whole_sign [(.t 17), (.t 22)]), .n (.st 2 (.t 4) (.t 23))] [2, 3, 15, 16, 17, 18, 19, 20, 21, 22, 23] [2, 3])
  .ret) .skip))
  (.seq (.seq (.reg [] [.a 24 (.fA 1 (.t 2)), .a 25 (.ld 1 false (.t 24)), .a 26 (.fA 1 (.t 3)), .a 27 (.ld 1 false (.t 26)), .a 28 (.call F.nat_Cmp [(.t 25), (.t 27)]), .a 29 (.bin .lss (.t 28) (.c (.int .i64 0)))] [15, 24, 25, 26, 27, 28] [])
  (.cond (.t 29) (.reg [] [.a 30 (.ld 2 true (.t 3)), .a 31 (.ld 2 true (.t 2)), .n (.st 2 (.t 2) (.t 30)), .n (.st 2 (.t 3) (.t 31))] [29, 30, 31] []) .skip))
  (.seq (.reg [] [.a 33 (.fA 1 (.t 2)), .a 34 (.ld 1 false (.t 33)), .a 35 (.fA 1 (.t 3)), .a 36 (.ld 1 false (.t 35)), .a 37 (.call F.nat_Sub [(.t 34), (.t 36)]), .a 32 (.mv (.t 37)), .a 38 (.ext (.t 32) 0), .a 39 (.ext (.t 32) 1), .a 5 (.mv (.t 38)), .a 6 (.mv (.t 39))] [3, 6, 29, 32, 33, 34, 35, 36, 37, 38, 39] [3])
  (.seq (.reg [] [.a 40 (.fA 0 (.t 2)), .a 41 (.ld 1 false (.t 40)), .a 42 (.mv (.t 5)), .a 43 (.call F.whole_sign [(.t 41), (.t 42)]), .n (.st 2 (.t 4) (.t 43))] [2, 5, 40, 41, 42, 43] [2])
  .ret))))))⟩
def whole_Add.hint : R.Hint := { kill := [(0, [0, 1], []), (1, [7, 8, 9, 10], []), (2, [11, 12, 13, 14], []), (3, [2, 3, 15, 16, 17, 18, 19, 20, 21, 22, 23], [2, 3]), (4, [15, 24, 25, 26, 27, 28], []), (5, [29, 30, 31], []), (6, [3, 6, 29, 32, 33, 34, 35, 36, 37, 38, 39], [3]), (7, [2, 5, 40, 41, 42, 43], [2])] }
theorem whole_Add.ok : cFn Tryd.prog whole_Add.hint Tryd.f30 = some whole_Add := by kernel_rfl
def whole_Mul : R.Fn := ⟨2, [(.cell 4 2 true)], (.seq (.reg [] [.a 2 (.box (.t 0)), .a 3 (.box (.t 1)), .a 4 (.new [(.bool false), (.sl 1 [])])] [0, 1] [])
  (.seq (.reg [] [.a 5 (.ld 2 true (.t 2)), .a 6 (.call F.whole_Clean [(.t 5)]), .a 7 (.ld 2 true (.t 3)), .a 8 (.call F.whole_Clean [(.t 7)]), .n (.st 2 (.t 2) (.t 6)), .n (.st 2 (.t 3) (.t 8))] [5, 6, 7, 8] [])
  (.seq (.reg [] [.a 9 (.fA 0 (.t 2)), .a 10 (.ld 1 false (.t 9)), .a 11 (.fA 0 (.t 3)), .a 12 (.ld 1 false (.t 11)), .a 13 (.beq true (.t 10) (.t 12)), .a 14 (.fA 1 (.t 2)), .a 15 (.ld 1 false (.t 14)), .a 16 (.fA 1 (.t 3)), .a 17 (.ld 1 false (.t 16)), .a 18 (.call F.nat_Mul [(.t 15), (.t 17)]), .a 19 (.call F.whole_sign [(.t 13), (.t 18)]), .n (.st 2 (.t 4) (.t 19))] [2, 3, 9, 10, 11, 12, 13, 14, 15, 16, 17, 18, 19] [2, 3])
  .ret)))⟩
def whole_Mul.hint : R.Hint := { kill := [(0, [0, 1], []), (1, [5, 6, 7, 8], []), (2, [2, 3, 9, 10, 11, 12, 13, 14, 15, 16, 17, 18, 19], [2, 3])] }
theorem whole_Mul.ok : cFn Tryd.prog whole_Mul.hint Tryd.f31 = some whole_Mul := by kernel_rfl
def ratio_den : R.Fn := ⟨1, [(.cell 2 2 true)], (.seq (.reg [] [.a 1 (.box (.t 0)), .a 2 (.new [(.bool false), (.sl 1 [])])] [0] [])
  (.seq (.reg [] [.a 3 (.fA 2 (.t 1)), .a 4 (.ld 1 false (.t 3)), .a 5 (.bld [(.bool false), (.sl 1 [])] [(1, 1, (.t 4))]), .n (.st 2 (.t 2) (.t 5))] [1, 3, 4, 5] [1])
  .ret))⟩
def ratio_den.hint : R.Hint := { kill := [(0, [0], []), (1, [1, 3, 4, 5], [1])] }
theorem ratio_den.ok : cFn Tryd.prog ratio_den.hint Tryd.f32 = some ratio_den := by kernel_rfl
def nat_Mul.b2 : R.C := (.seq (.reg [] [.a 31 (.bin .lss (.t 30) (.t 29))] [] [])
  (.seq (.cond (.t 31) .skip (.exit 2))
  (.seq (.block 3 (.seq (.reg [] [.a 32 (.mv (.t 30)), .a 33 (.iA 1 (.t 28) (.t 30)), .a 34 (.ld 1 false (.t 33)), .a 9 (.mv (.t 32)), .a 10 (.mv (.t 34))] [31, 32, 33, 34] [])
  (.seq (.reg [] [.a 35 (.mv (.t 8)), .a 36 (.mv (.t 5)), .a 37 (.mv (.t 6)), .a 38 (.mv (.t 9)), .a 39 (.bin .add (.t 37) (.t 38)), .a 40 (.iA 1 (.t 36) (.t 39)), .a 41 (.ld 1 false (.t 40)), .a 42 (.mv (.t 7)), .a 43 (.mv (.t 10)), .a 44 (.bin .mul (.t 42) (.t 43)), .a 45 (.bin .add (.t 41) (.t 44)), .a 46 (.bin .add (.t 35) (.t 45)), .a 8 (.mv (.t 46))] [10, 35, 36, 37, 38, 39, 40, 41, 42, 43, 44, 45, 46] [])
  (.seq (.reg [] [.a 47 (.mv (.t 5)), .a 48 (.mv (.t 6)), .a 49 (.mv (.t 9)), .a 50 (.bin .add (.t 48) (.t 49)), .a 51 (.mv (.t 8)), .a 52 (.bin .and (.t 51) (.c (.int .u64 4294967295))), .a 53 (.iA 1 (.t 47) (.t 50)), .n (.st 1 (.t 53) (.t 52))] [9, 47, 48, 49, 50, 51, 52, 53] [])
  (.reg [] [.a 54 (.mv (.t 8)), .a 55 (.bin .shr (.t 54) (.c (.int .u64 32))), .a 8 (.mv (.t 55))] [54, 55] [])))))
  (.reg [] [.a 56 (.bin .add (.t 30) (.c (.int .i64 1))), .a 30 (.mv (.t 56))] [56] []))))
def nat_Mul.b0 : R.C := (.seq (.reg [] [.a 24 (.bin .lss (.t 23) (.t 22))] [] [])
  (.seq (.cond (.t 24) .skip (.exit 0))
  (.seq (.block 1 (.seq (.reg [] [.a 25 (.mv (.t 23)), .a 26 (.iA 1 (.t 21) (.t 23)), .a 27 (.ld 1 false (.t 26)), .a 6 (.mv (.t 25)), .a 7 (.mv (.t 27))] [24, 25, 26, 27] [])
  (.seq (.reg [] [.a 8 (.mv (.c (.int .u64 0)))] [] [])
  (.seq (.seq (.reg [] [.a 28 (.mv (.t 1)), .a 29 (.ln (.t 28)), .a 30 (.mv (.c (.int .i64 0)))] [] [])
  (.block 2 (.loop [] [] nat_Mul.b2)))
  (.reg [] [.a 57 (.mv (.t 5)), .a 58 (.mv (.t 6)), .a 59 (.mv (.t 1)), .a 60 (.ln (.t 59)), .a 61 (.bin .add (.t 58) (.t 60)), .a 62 (.mv (.t 8)), .a 63 (.iA 1 (.t 57) (.t 61)), .n (.st 1 (.t 63) (.t 62))] [6, 7, 8, 28, 29, 30, 31, 57, 58, 59, 60, 61, 62, 63] [])))))
  (.reg [] [.a 64 (.bin .add (.t 23) (.c (.int .i64 1))), .a 23 (.mv (.t 64))] [64] []))))
def nat_Mul : R.Fn := ⟨2, [(.t 4)], (.seq (.reg [] [.a 4 (.mv (.c (.sl 1 [])))] [4] [])
  (.seq (.reg [] [.a 11 (.mv (.t 0)), .a 12 (.call F.nat_Clean [(.t 11)]), .a 13 (.mv (.t 1)), .a 14 (.call F.nat_Clean [(.t 13)]), .a 0 (.mv (.t 12)), .a 1 (.mv (.t 14))] [11, 12, 13, 14] [])
  (.seq (.reg [] [.a 15 (.mv (.t 0)), .a 16 (.ln (.t 15)), .a 17 (.mv (.t 1)), .a 18 (.ln (.t 17)), .a 19 (.bin .add (.t 16) (.t 18)), .a 20 (.mk 1 8 [(.int .u64 0)] (.t 19) (.t 19)), .a 5 (.mv (.t 20))] [15, 16, 17, 18, 19, 20] [])
  (.seq (.seq (.reg [] [.a 21 (.mv (.t 0)), .a 22 (.ln (.t 21)), .a 23 (.mv (.c (.int .i64 0)))] [0] [])
  (.block 0 (.loop [] [] nat_Mul.b0)))
  (.seq (.reg [5] [.a 65 (.mv (.t 5)), .a 66 (.call F.nat_trim [(.t 65)]), .a 4 (.mv (.t 66))] [1, 5, 21, 22, 23, 24, 65, 66] [20])
  .ret)))))⟩
def nat_Mul.hint : R.Hint := { pub := [(16, [5])], kill := [(0, [4], []), (1, [11, 12, 13, 14], []), (2, [15, 16, 17, 18, 19, 20], []), (3, [0], []), (5, [24, 25, 26, 27], []), (9, [31, 32, 33, 34], []), (10, [10, 35, 36, 37, 38, 39, 40, 41, 42, 43, 44, 45, 46], []), (11, [9, 47, 48, 49, 50, 51, 52, 53], []), (12, [54, 55], []), (13, [56], []), (14, [6, 7, 8, 28, 29, 30, 31, 57, 58, 59, 60, 61, 62, 63], []), (15, [64], []), (16, [1, 5, 21, 22, 23, 24, 65, 66], [20])] }
theorem nat_Mul.ok : cFn Tryd.prog nat_Mul.hint Tryd.f33 = some nat_Mul := by kernel_rfl
def ratio_Make : R.Fn := ⟨2, [(.cell 4 3 true), (.t 5)], (.seq (.reg [] [.a 2 (.box (.t 0)), .a 3 (.box (.t 1)), .a 4 (.new [(.bool false), (.sl 1 []), (.sl 1 [])]), .a 5 (.mv (.c (.int .i64 0)))] [0, 1, 5] [])
  (.seq (.reg [] [.a 6 (.ld 2 true (.t 2)), .a 7 (.call F.whole_Clean [(.t 6)]), .a 8 (.ld 2 true (.t 3)), .a 9 (.call F.whole_Clean [(.t 8)]), .n (.st 2 (.t 2) (.t 7)), .n (.st 2 (.t 3) (.t 9))] [6, 7, 8, 9] [])
  (.seq (.seq (.reg [] [.a 10 (.ld 2 true (.t 3)), .a 11 (.call F.whole_Sign [(.t 10)]), .a 12 (.bin .eql (.t 11) (.c (.int .i64 0)))] [10, 11] [])
  (.cond (.t 12) (.seq (.reg [] [.a 13 (.bld [(.bool false), (.sl 1 []), (.sl 1 [])] []), .n (.st 3 (.t 4) (.t 13)), .a 5 (.mv (.c (.int .i64 2)))] [2, 3, 12, 13] [2, 3])
  .ret) .skip))
  (.seq (.seq (.reg [] [.a 14 (.fA 0 (.t 3)), .a 15 (.ld 1 false (.t 14))] [12, 14] [])
  (.cond (.t 15) (.reg [] [.a 16 (.ld 2 true (.t 2)), .a 17 (.call F.whole_Neg [(.t 16)]), .n (.st 2 (.t 2) (.t 17))] [15, 16, 17] []) .skip))
  (.seq (.reg [] [.a 18 (.ld 2 true (.t 2)), .a 19 (.fA 1 (.t 3)), .a 20 (.ld 1 false (.t 19)), .a 21 (.call F.ratio_form [(.t 18), (.t 20)]), .n (.st 3 (.t 4) (.t 21)), .a 5 (.mv (.c (.int .i64 0)))] [2, 3, 15, 18, 19, 20, 21] [2, 3])
  .ret)))))⟩
def ratio_Make.hint : R.Hint := { kill := [(0, [0, 1, 5], []), (1, [6, 7, 8, 9], []), (2, [10, 11], []), (3, [2, 3, 12, 13], [2, 3]), (4, [12, 14], []), (5, [15, 16, 17], []), (6, [2, 3, 15, 18, 19, 20, 21], [2, 3])] }
theorem ratio_Make.ok : cFn Tryd.prog ratio_Make.hint Tryd.f34 = some ratio_Make := by kernel_rfl
def whole_Of : R.Fn := ⟨1, [(.cell 2 2 true)], (.seq (.reg [] [.a 2 (.new [(.bool false), (.sl 1 [])])] [] [])
  (.seq (.seq (.reg [] [.a 3 (.mv (.t 0)), .a 4 (.bin .lss (.t 3) (.c (.int .i64 0)))] [3] [])
  (.cond (.t 4) (.seq (.reg [] [.a 5 (.mv (.t 0)), .a 6 (.conv .u64 (.t 5)), .a 7 (.un .neg (.t 6)), .a 8 (.call F.nat_Of [(.t 7)]), .a 9 (.call F.whole_sign [(.c (.bool true)), (.t 8)]), .n (.st 2 (.t 2) (.t 9))] [0, 4, 5, 6, 7, 8, 9] [])
  .ret) .skip))
  (.seq (.reg [] [.a 10 (.mv (.t 0)), .a 11 (.conv .u64 (.t 10)), .a 12 (.call F.nat_Of [(.t 11)]), .a 13 (.call F.whole_sign [(.c (.bool false)), (.t 12)]), .n (.st 2 (.t 2) (.t 13))] [0, 4, 10, 11, 12, 13] [])
  .ret)))⟩
def whole_Of.hint : R.Hint := { kill := [(1, [3], []), (2, [0, 4, 5, 6, 7, 8, 9], []), (3, [0, 4, 10, 11, 12, 13], [])] }
theorem whole_Of.ok : cFn Tryd.prog whole_Of.hint Tryd.f35 = some whole_Of := by kernel_rfl
def dendronref10_Is : R.Fn := ⟨2, [(.t 4)], (.seq (.reg [] [.a 2 (.box (.t 0)), .a 3 (.box (.t 1)), .a 4 (.mv (.c (.bool false)))] [0, 1, 4] [])
  (.seq (.reg [] [.a 5 (.ld 3 true (.t 2)), .a 6 (.ld 3 true (.t 3)), .a 7 (.call F.dendronref03_From [(.t 6)]), .a 8 (.call F.dendronref03_Is [(.t 5), (.t 7)]), .a 4 (.mv (.t 8))] [2, 3, 5, 6, 7, 8] [2, 3])
  .ret))⟩
def dendronref10_Is.hint : R.Hint := { kill := [(0, [0, 1, 4], []), (1, [2, 3, 5, 6, 7, 8], [2, 3])] }
theorem dendronref10_Is.ok : cFn Tryd.prog dendronref10_Is.hint Tryd.f36 = some dendronref10_Is := by kernel_rfl
def orders_First.b0 : R.C := (.seq (.reg [] [.a 7 (.bin .lss (.t 6) (.t 5))] [] [])
  (.seq (.cond (.t 7) .skip (.exit 0))
  (.seq (.block 1 (.seq (.reg [] [.a 8 (.mv (.t 6)), .a 4 (.mv (.t 8))] [7, 8] [])
  (.reg [] [.a 9 (.mv (.t 3)), .a 10 (.mv (.t 4)), .a 11 (.lit 1 1 [(.int .i64 0)] [(0, 1, (.t 10))]), .a 12 (.app 1 8 (.t 9) (.t 11)), .a 3 (.mv (.t 12))] [4, 9, 10, 11, 12] [])))
  (.reg [] [.a 13 (.bin .add (.t 6) (.c (.int .i64 1))), .a 6 (.mv (.t 13))] [13] []))))
def orders_First : R.Fn := ⟨1, [(.t 2)], (.seq (.reg [] [.a 2 (.mv (.c (.sl 1 [])))] [2] [])
  (.seq (.reg [] [.a 3 (.nil 1)] [] [])
  (.seq (.seq (.reg [] [.a 5 (.mv (.t 0)), .a 6 (.mv (.c (.int .i64 0)))] [0] [])
  (.block 0 (.loop [] [] orders_First.b0)))
  (.seq (.reg [] [.a 14 (.mv (.t 3)), .a 2 (.mv (.t 14))] [3, 5, 6, 7, 14] [])
  .ret))))⟩
def orders_First.hint : R.Hint := { nil := [3], kill := [(0, [2], []), (2, [0], []), (4, [7, 8], []), (5, [4, 9, 10, 11, 12], []), (6, [13], []), (7, [3, 5, 6, 7, 14], [])] }
theorem orders_First.ok : cFn Tryd.prog orders_First.hint Tryd.f37 = some orders_First := by kernel_rfl
def bits_Len : R.Fn := ⟨1, [(.t 2)], (.seq (.reg [] [.a 2 (.mv (.c (.int .i64 0)))] [2] [])
  (.seq (.cond (.c (.bool false)) (.seq (.reg [] [.a 3 (.mv (.t 0)), .a 4 (.conv .u32 (.t 3)), .a 5 (.call F.bits_Len32 [(.t 4)]), .a 2 (.mv (.t 5))] [0, 3, 4, 5] [])
  .ret) .skip)
  (.seq (.reg [] [.a 6 (.mv (.t 0)), .a 7 (.call F.bits_Len64 [(.t 6)]), .a 2 (.mv (.t 7))] [0, 6, 7] [])
  .ret)))⟩
def bits_Len.hint : R.Hint := { kill := [(0, [2], []), (1, [0, 3, 4, 5], []), (2, [0, 6, 7], [])] }
theorem bits_Len.ok : cFn Tryd.prog bits_Len.hint Tryd.f38 = some bits_Len := by kernel_rfl
def nat_Of : R.Fn := ⟨1, [(.t 2)], (.seq (.reg [] [.a 2 (.mv (.c (.sl 1 [])))] [2] [])
  (.seq (.reg [] [.a 3 (.mv (.t 0)), .a 4 (.bin .and (.t 3) (.c (.int .u64 4294967295))), .a 5 (.mv (.t 0)), .a 6 (.bin .shr (.t 5) (.c (.int .u64 32))), .a 7 (.lit 1 2 [(.int .u64 0), (.int .u64 0)] [(0, 1, (.t 4)), (1, 1, (.t 6))]), .a 8 (.call F.nat_trim [(.t 7)]), .a 2 (.mv (.t 8))] [0, 3, 4, 5, 6, 7, 8] [])
  .ret))⟩
def nat_Of.hint : R.Hint := { kill := [(0, [2], []), (1, [0, 3, 4, 5, 6, 7, 8], [])] }
theorem nat_Of.ok : cFn Tryd.prog nat_Of.hint Tryd.f39 = some nat_Of := by kernel_rfl
def ratio_Neg : R.Fn := ⟨1, [(.cell 2 3 true)], (.seq (.reg [] [.a 1 (.box (.t 0)), .a 2 (.new [(.bool false), (.sl 1 []), (.sl 1 [])])] [0] [])
  (.seq (.reg [] [.a 3 (.ld 3 true (.t 1)), .a 4 (.call F.ratio_Clean [(.t 3)]), .n (.st 3 (.t 1) (.t 4))] [3, 4] [])
  (.seq (.reg [] [.a 5 (.fA 0 (.t 1)), .a 6 (.ld 2 true (.t 5)), .a 7 (.call F.whole_Neg [(.t 6)]), .a 8 (.fA 0 (.t 1)), .n (.st 2 (.t 8) (.t 7))] [5, 6, 7, 8] [])
  (.seq (.reg [] [.a 9 (.ld 3 true (.t 1)), .n (.st 3 (.t 2) (.t 9))] [1, 9] [1])
  .ret))))⟩
def ratio_Neg.hint : R.Hint := { kill := [(0, [0], []), (1, [3, 4], []), (2, [5, 6, 7, 8], []), (3, [1, 9], [1])] }
theorem ratio_Neg.ok : cFn Tryd.prog ratio_Neg.hint Tryd.f41 = some ratio_Neg := by kernel_rfl
def nat_Clean.b0 : R.C := (.seq (.reg [] [.a 12 (.bin .lss (.t 11) (.t 10))] [] [])
  (.seq (.cond (.t 12) .skip (.exit 0))
  (.seq (.block 1 (.seq (.reg [] [.a 13 (.mv (.t 11)), .a 14 (.iA 1 (.t 9) (.t 11)), .a 15 (.ld 1 false (.t 14)), .a 4 (.mv (.t 13)), .a 5 (.mv (.t 15))] [12, 13, 14, 15] [])
  (.reg [] [.a 16 (.mv (.t 3)), .a 17 (.mv (.t 4)), .a 18 (.mv (.t 5)), .a 19 (.bin .and (.t 18) (.c (.int .u64 4294967295))), .a 20 (.iA 1 (.t 16) (.t 17)), .n (.st 1 (.t 20) (.t 19))] [4, 5, 16, 17, 18, 19, 20] [])))
  (.reg [] [.a 21 (.bin .add (.t 11) (.c (.int .i64 1))), .a 11 (.mv (.t 21))] [21] []))))
def nat_Clean : R.Fn := ⟨1, [(.t 2)], (.seq (.reg [] [.a 2 (.mv (.c (.sl 1 [])))] [2] [])
  (.seq (.reg [] [.a 6 (.mv (.t 0)), .a 7 (.ln (.t 6)), .a 8 (.mk 1 8 [(.int .u64 0)] (.t 7) (.t 7)), .a 3 (.mv (.t 8))] [6, 7, 8] [])
  (.seq (.seq (.reg [] [.a 9 (.mv (.t 0)), .a 10 (.ln (.t 9)), .a 11 (.mv (.c (.int .i64 0)))] [0] [])
  (.block 0 (.loop [] [] nat_Clean.b0)))
  (.seq (.reg [3] [.a 22 (.mv (.t 3)), .a 23 (.call F.nat_trim [(.t 22)]), .a 2 (.mv (.t 23))] [3, 9, 10, 11, 12, 22, 23] [8])
  .ret))))⟩
def nat_Clean.hint : R.Hint := { pub := [(7, [3])], kill := [(0, [2], []), (1, [6, 7, 8], []), (2, [0], []), (4, [12, 13, 14, 15], []), (5, [4, 5, 16, 17, 18, 19, 20], []), (6, [21], []), (7, [3, 9, 10, 11, 12, 22, 23], [8])] }
theorem nat_Clean.ok : cFn Tryd.prog nat_Clean.hint Tryd.f42 = some nat_Clean := by kernel_rfl
def whole_Clean : R.Fn := ⟨1, [(.cell 2 2 true)], (.seq (.reg [] [.a 1 (.box (.t 0)), .a 2 (.new [(.bool false), (.sl 1 [])])] [0] [])
  (.seq (.reg [] [.a 3 (.fA 0 (.t 1)), .a 4 (.ld 1 false (.t 3)), .a 5 (.fA 1 (.t 1)), .a 6 (.ld 1 false (.t 5)), .a 7 (.call F.nat_Clean [(.t 6)]), .a 8 (.call F.whole_sign [(.t 4), (.t 7)]), .n (.st 2 (.t 2) (.t 8))] [1, 3, 4, 5, 6, 7, 8] [1])
  .ret))⟩
def whole_Clean.hint : R.Hint := { kill := [(0, [0], []), (1, [1, 3, 4, 5, 6, 7, 8], [1])] }
theorem whole_Clean.ok : cFn Tryd.prog whole_Clean.hint Tryd.f43 = some whole_Clean := by kernel_rfl
def nat_Gcd.b1 : R.C := (.block 2 (.seq (.seq (.reg [] [.a 43 (.mv (.t 0)), .a 44 (.mv (.t 1)), .a 45 (.call F.nat_order [(.t 43), (.t 44)]), .a 7 (.mv (.t 45))] [43, 44, 45] [])
  (.block 3 (.seq (.reg [] [.a 47 (.mv (.t 7)), .a 48 (.bin .eql (.t 47) (.c (.int .i64 0))), .a 46 (.mv (.t 48))] [47, 48] [])
  (.cond (.t 46) (.seq (.reg [] [.a 49 (.mv (.t 0)), .a 50 (.mv (.t 5)), .a 51 (.mv (.t 6)), .a 52 (.mn (.t 50) (.t 51)), .a 53 (.call F.nat_shl [(.t 49), (.t 52)]), .a 4 (.mv (.t 53))] [0, 1, 5, 6, 7, 46, 49, 50, 51, 52, 53] [])
  .ret) (.seq (.reg [] [.a 55 (.mv (.t 7)), .a 56 (.bin .lss (.t 55) (.c (.int .i64 0))), .a 54 (.mv (.t 56))] [7, 46, 55, 56] [])
  (.cond (.t 54) (.reg [] [.a 57 (.mv (.t 1)), .a 58 (.mv (.t 0)), .a 0 (.mv (.t 57)), .a 1 (.mv (.t 58))] [54, 57, 58] []) .skip))))))
  (.seq (.seq (.reg [] [.a 59 (.mv (.t 0)), .a 60 (.ln (.t 59)), .a 61 (.mv (.t 1)), .a 62 (.ln (.t 61)), .a 63 (.bin .add (.t 62) (.c (.int .i64 1))), .a 64 (.bin .gtr (.t 60) (.t 63))] [54, 59, 60, 61, 62, 63] [])
  (.cond (.t 64) (.seq (.reg [] [.a 66 (.mv (.t 0)), .a 67 (.mv (.t 1)), .a 68 (.call F.nat_rest [(.t 66), (.t 67)]), .a 65 (.mv (.t 68)), .a 69 (.ext (.t 65) 0), .a 70 (.ext (.t 65) 1), .a 0 (.mv (.t 70))] [64, 65, 66, 67, 68, 69, 70] [])
  (.seq (.reg [] [.a 71 (.mv (.t 0)), .a 72 (.ln (.t 71)), .a 73 (.bin .eql (.t 72) (.c (.int .i64 0)))] [71, 72] [])
  (.cond (.t 73) (.seq (.reg [] [.a 74 (.mv (.t 1)), .a 75 (.mv (.t 5)), .a 76 (.mv (.t 6)), .a 77 (.mn (.t 75) (.t 76)), .a 78 (.call F.nat_shl [(.t 74), (.t 77)]), .a 4 (.mv (.t 78))] [0, 1, 5, 6, 73, 74, 75, 76, 77, 78] [])
  .ret) .skip))) (.reg [] [.a 79 (.mv (.t 0)), .a 80 (.mv (.t 1)), .a 81 (.call F.nat_minus [(.t 79), (.t 80)]), .a 0 (.mv (.t 81))] [64, 79, 80, 81] [])))
  (.reg [] [.a 82 (.mv (.t 0)), .a 83 (.mv (.t 0)), .a 84 (.call F.nat_zeros [(.t 83)]), .a 85 (.call F.nat_shr [(.t 82), (.t 84)]), .a 0 (.mv (.t 85))] [73, 82, 83, 84, 85] []))))
def nat_Gcd : R.Fn := ⟨2, [(.t 4)], (.seq (.reg [] [.a 4 (.mv (.c (.sl 1 [])))] [4] [])
  (.seq (.reg [] [.a 8 (.mv (.t 0)), .a 9 (.call F.nat_Clean [(.t 8)]), .a 10 (.mv (.t 1)), .a 11 (.call F.nat_Clean [(.t 10)]), .a 0 (.mv (.t 9)), .a 1 (.mv (.t 11))] [8, 9, 10, 11] [])
  (.seq (.block 0 (.seq (.reg [] [.a 13 (.mv (.t 0)), .a 14 (.ln (.t 13)), .a 15 (.bin .eql (.t 14) (.c (.int .i64 0))), .a 12 (.mv (.t 15))] [13, 14, 15] [])
  (.cond (.t 12) (.seq (.reg [] [.a 16 (.mv (.t 1)), .a 4 (.mv (.t 16))] [0, 1, 12, 16] [])
  .ret) (.seq (.reg [] [.a 18 (.mv (.t 1)), .a 19 (.ln (.t 18)), .a 20 (.bin .eql (.t 19) (.c (.int .i64 0))), .a 17 (.mv (.t 20))] [12, 18, 19, 20] [])
  (.cond (.t 17) (.seq (.reg [] [.a 21 (.mv (.t 0)), .a 4 (.mv (.t 21))] [0, 1, 17, 21] [])
  .ret) .skip)))))
  (.seq (.seq (.reg [] [.a 22 (.mv (.t 0)), .a 23 (.ln (.t 22)), .a 24 (.bin .leq (.t 23) (.c (.int .i64 2))), .a 25 (.mv (.t 24)), .g 26 25 true (.mv (.t 1)), .g 27 25 true (.ln (.t 26)), .g 28 25 true (.bin .leq (.t 27) (.c (.int .i64 2))), .a 29 (.pick (.t 25) (.t 28) (.c (.bool false)))] [17, 22, 23, 24, 25, 26, 27, 28] [])
  (.cond (.t 29) (.seq (.reg [] [.a 30 (.mv (.t 0)), .a 31 (.mv (.t 1)), .a 32 (.call F.nat_euclid [(.t 30), (.t 31)]), .a 4 (.mv (.t 32))] [0, 1, 29, 30, 31, 32] [])
  .ret) .skip))
  (.seq (.reg [] [.a 33 (.mv (.t 0)), .a 34 (.call F.nat_zeros [(.t 33)]), .a 35 (.mv (.t 1)), .a 36 (.call F.nat_zeros [(.t 35)]), .a 5 (.mv (.t 34)), .a 6 (.mv (.t 36))] [29, 33, 34, 35, 36] [])
  (.seq (.reg [] [.a 37 (.mv (.t 0)), .a 38 (.mv (.t 5)), .a 39 (.call F.nat_shr [(.t 37), (.t 38)]), .a 40 (.mv (.t 1)), .a 41 (.mv (.t 6)), .a 42 (.call F.nat_shr [(.t 40), (.t 41)]), .a 0 (.mv (.t 39)), .a 1 (.mv (.t 42))] [37, 38, 39, 40, 41, 42] [])
  (.block 1 (.loop [] [] nat_Gcd.b1))))))))⟩
def nat_Gcd.hint : R.Hint := { kill := [(0, [4], []), (1, [8, 9, 10, 11], []), (2, [13, 14, 15], []), (3, [0, 1, 12, 16], []), (4, [12, 18, 19, 20], []), (5, [0, 1, 17, 21], []), (6, [17, 22, 23, 24, 25, 26, 27, 28], []), (7, [0, 1, 29, 30, 31, 32], []), (8, [29, 33, 34, 35, 36], []), (9, [37, 38, 39, 40, 41, 42], []), (10, [43, 44, 45], []), (11, [47, 48], []), (12, [0, 1, 5, 6, 7, 46, 49, 50, 51, 52, 53], []), (13, [7, 46, 55, 56], []), (14, [54, 57, 58], []), (15, [54, 59, 60, 61, 62, 63], []), (16, [64, 65, 66, 67, 68, 69, 70], []), (17, [71, 72], []), (18, [0, 1, 5, 6, 73, 74, 75, 76, 77, 78], []), (19, [64, 79, 80, 81], []), (20, [73, 82, 83, 84, 85], [])] }
theorem nat_Gcd.ok : cFn Tryd.prog nat_Gcd.hint Tryd.f44 = some nat_Gcd := by kernel_rfl
def nat_DivMod : R.Fn := ⟨2, [(.t 4), (.t 5), (.t 6)], (.seq (.reg [] [.a 4 (.mv (.c (.sl 1 []))), .a 5 (.mv (.c (.sl 1 []))), .a 6 (.mv (.c (.int .i64 0)))] [4, 5, 6] [])
  (.seq (.reg [] [.a 11 (.mv (.t 0)), .a 12 (.call F.nat_Clean [(.t 11)]), .a 13 (.mv (.t 1)), .a 14 (.call F.nat_Clean [(.t 13)]), .a 0 (.mv (.t 12)), .a 1 (.mv (.t 14))] [11, 12, 13, 14] [])
  (.seq (.block 0 (.seq (.reg [] [.a 16 (.mv (.t 1)), .a 17 (.ln (.t 16)), .a 18 (.bin .eql (.t 17) (.c (.int .i64 0))), .a 15 (.mv (.t 18))] [16, 17, 18] [])
  (.cond (.t 15) (.seq (.reg [] [.a 4 (.mv (.c (.sl 1 []))), .a 5 (.mv (.c (.sl 1 []))), .a 6 (.mv (.c (.int .i64 2)))] [0, 1, 15] [])
  .ret) (.seq (.reg [] [.a 20 (.mv (.t 0)), .a 21 (.mv (.t 1)), .a 22 (.call F.nat_order [(.t 20), (.t 21)]), .a 23 (.bin .lss (.t 22) (.c (.int .i64 0))), .a 19 (.mv (.t 23))] [15, 20, 21, 22, 23] [])
  (.cond (.t 19) (.seq (.reg [] [.a 24 (.mv (.t 0)), .a 4 (.mv (.c (.sl 1 []))), .a 5 (.mv (.t 24)), .a 6 (.mv (.c (.int .i64 0)))] [0, 1, 19, 24] [])
  .ret) (.seq (.reg [] [.a 26 (.mv (.t 1)), .a 27 (.ln (.t 26)), .a 28 (.bin .eql (.t 27) (.c (.int .i64 1))), .a 25 (.mv (.t 28))] [19, 26, 27, 28] [])
  (.cond (.t 25) (.seq (.reg [] [.a 30 (.mv (.t 0)), .a 31 (.mv (.t 1)), .a 32 (.iA 1 (.t 31) (.c (.int .i64 0))), .a 33 (.ld 1 false (.t 32)), .a 34 (.call F.nat_small [(.t 30), (.t 33)]), .a 29 (.mv (.t 34)), .a 35 (.ext (.t 29) 0), .a 36 (.ext (.t 29) 1), .a 7 (.mv (.t 35)), .a 8 (.mv (.t 36))] [0, 1, 25, 29, 30, 31, 32, 33, 34, 35, 36] [])
  (.seq (.reg [] [.a 37 (.mv (.t 7)), .a 38 (.mv (.t 8)), .a 39 (.call F.nat_Of [(.t 38)]), .a 4 (.mv (.t 37)), .a 5 (.mv (.t 39)), .a 6 (.mv (.c (.int .i64 0)))] [7, 8, 37, 38, 39] [])
  .ret)) .skip)))))))
  (.seq (.reg [] [.a 41 (.mv (.t 0)), .a 42 (.mv (.t 1)), .a 43 (.call F.nat_long [(.t 41), (.t 42)]), .a 40 (.mv (.t 43)), .a 44 (.ext (.t 40) 0), .a 45 (.ext (.t 40) 1), .a 9 (.mv (.t 44)), .a 10 (.mv (.t 45))] [0, 1, 25, 40, 41, 42, 43, 44, 45] [])
  (.seq (.reg [] [.a 46 (.mv (.t 9)), .a 47 (.mv (.t 10)), .a 4 (.mv (.t 46)), .a 5 (.mv (.t 47)), .a 6 (.mv (.c (.int .i64 0)))] [9, 10, 46, 47] [])
  .ret)))))⟩
def nat_DivMod.hint : R.Hint := { kill := [(0, [4, 5, 6], []), (1, [11, 12, 13, 14], []), (2, [16, 17, 18], []), (3, [0, 1, 15], []), (4, [15, 20, 21, 22, 23], []), (5, [0, 1, 19, 24], []), (6, [19, 26, 27, 28], []), (7, [0, 1, 25, 29, 30, 31, 32, 33, 34, 35, 36], []), (8, [7, 8, 37, 38, 39], []), (9, [0, 1, 25, 40, 41, 42, 43, 44, 45], []), (10, [9, 10, 46, 47], [])] }
theorem nat_DivMod.ok : cFn Tryd.prog nat_DivMod.hint Tryd.f45 = some nat_DivMod := by kernel_rfl
def whole_sign : R.Fn := ⟨2, [(.cell 4 2 true)], (.seq (.reg [] [.a 4 (.new [(.bool false), (.sl 1 [])])] [] [])
  (.seq (.reg [] [.a 5 (.mv (.t 0)), .a 6 (.mv (.t 5)), .g 7 6 true (.mv (.t 1)), .g 8 6 true (.ln (.t 7)), .g 9 6 true (.bin .gtr (.t 8) (.c (.int .i64 0))), .a 10 (.pick (.t 6) (.t 9) (.c (.bool false))), .a 11 (.mv (.t 1)), .a 12 (.bld [(.bool false), (.sl 1 [])] [(0, 1, (.t 10)), (1, 1, (.t 11))]), .n (.st 2 (.t 4) (.t 12))] [0, 1, 5, 6, 7, 8, 9, 10, 11, 12] [])
  .ret))⟩
def whole_sign.hint : R.Hint := { kill := [(1, [0, 1, 5, 6, 7, 8, 9, 10, 11, 12], [])] }
theorem whole_sign.ok : cFn Tryd.prog whole_sign.hint Tryd.f46 = some whole_sign := by kernel_rfl
def nat_Add.b0 : R.C := (.seq (.reg [] [.a 22 (.bin .lss (.t 21) (.t 20))] [] [])
  (.seq (.cond (.t 22) .skip (.exit 0))
  (.seq (.block 1 (.seq (.reg [] [.a 23 (.mv (.t 21)), .a 7 (.mv (.t 23))] [22, 23] [])
  (.seq (.reg [] [.a 24 (.mv (.t 6)), .a 25 (.mv (.t 0)), .a 26 (.mv (.t 7)), .a 27 (.call F.nat_limb [(.t 25), (.t 26)]), .a 28 (.mv (.t 1)), .a 29 (.mv (.t 7)), .a 30 (.call F.nat_limb [(.t 28), (.t 29)]), .a 31 (.bin .add (.t 27) (.t 30)), .a 32 (.bin .add (.t 24) (.t 31)), .a 6 (.mv (.t 32))] [24, 25, 26, 27, 28, 29, 30, 31, 32] [])
  (.seq (.reg [] [.a 33 (.mv (.t 5)), .a 34 (.mv (.t 7)), .a 35 (.mv (.t 6)), .a 36 (.bin .and (.t 35) (.c (.int .u64 4294967295))), .a 37 (.iA 1 (.t 33) (.t 34)), .n (.st 1 (.t 37) (.t 36))] [7, 33, 34, 35, 36, 37] [])
  (.reg [] [.a 38 (.mv (.t 6)), .a 39 (.bin .shr (.t 38) (.c (.int .u64 32))), .a 6 (.mv (.t 39))] [38, 39] [])))))
  (.reg [] [.a 40 (.bin .add (.t 21) (.c (.int .i64 1))), .a 21 (.mv (.t 40))] [40] []))))
def nat_Add : R.Fn := ⟨2, [(.t 4)], (.seq (.reg [] [.a 4 (.mv (.c (.sl 1 [])))] [4] [])
  (.seq (.reg [] [.a 8 (.mv (.t 0)), .a 9 (.call F.nat_Clean [(.t 8)]), .a 10 (.mv (.t 1)), .a 11 (.call F.nat_Clean [(.t 10)]), .a 0 (.mv (.t 9)), .a 1 (.mv (.t 11))] [8, 9, 10, 11] [])
  (.seq (.reg [] [.a 12 (.mv (.t 0)), .a 13 (.ln (.t 12)), .a 14 (.mv (.t 1)), .a 15 (.ln (.t 14)), .a 16 (.mx (.t 13) (.t 15)), .a 17 (.bin .add (.t 16) (.c (.int .i64 1))), .a 18 (.mk 1 8 [(.int .u64 0)] (.t 17) (.t 17)), .a 5 (.mv (.t 18))] [12, 13, 14, 15, 16, 17, 18] [])
  (.seq (.reg [] [.a 6 (.mv (.c (.int .u64 0)))] [] [])
  (.seq (.seq (.reg [] [.a 19 (.mv (.t 5)), .a 20 (.ln (.t 19)), .a 21 (.mv (.c (.int .i64 0)))] [19] [])
  (.block 0 (.loop [] [] nat_Add.b0)))
  (.seq (.reg [5] [.a 41 (.mv (.t 5)), .a 42 (.call F.nat_trim [(.t 41)]), .a 4 (.mv (.t 42))] [0, 1, 5, 6, 20, 21, 22, 41, 42] [18])
  .ret))))))⟩
def nat_Add.hint : R.Hint := { pub := [(11, [5])], kill := [(0, [4], []), (1, [8, 9, 10, 11], []), (2, [12, 13, 14, 15, 16, 17, 18], []), (4, [19], []), (6, [22, 23], []), (7, [24, 25, 26, 27, 28, 29, 30, 31, 32], []), (8, [7, 33, 34, 35, 36, 37], []), (9, [38, 39], []), (10, [40], []), (11, [0, 1, 5, 6, 20, 21, 22, 41, 42], [18])] }
theorem nat_Add.ok : cFn Tryd.prog nat_Add.hint Tryd.f47 = some nat_Add := by kernel_rfl
def nat_Cmp : R.Fn := ⟨2, [(.t 4)], (.seq (.reg [] [.a 4 (.mv (.c (.int .i64 0)))] [4] [])
  (.seq (.reg [] [.a 5 (.mv (.t 0)), .a 6 (.call F.nat_Clean [(.t 5)]), .a 7 (.mv (.t 1)), .a 8 (.call F.nat_Clean [(.t 7)]), .a 9 (.call F.nat_order [(.t 6), (.t 8)]), .a 4 (.mv (.t 9))] [0, 1, 5, 6, 7, 8, 9] [])
  .ret))⟩
def nat_Cmp.hint : R.Hint := { kill := [(0, [4], []), (1, [0, 1, 5, 6, 7, 8, 9], [])] }
theorem nat_Cmp.ok : cFn Tryd.prog nat_Cmp.hint Tryd.f48 = some nat_Cmp := by kernel_rfl
def nat_Sub : R.Fn := ⟨2, [(.t 4), (.t 5)], (.seq (.reg [] [.a 4 (.mv (.c (.sl 1 []))), .a 5 (.mv (.c (.int .i64 0)))] [4, 5] [])
  (.seq (.reg [] [.a 6 (.mv (.t 0)), .a 7 (.call F.nat_Clean [(.t 6)]), .a 8 (.mv (.t 1)), .a 9 (.call F.nat_Clean [(.t 8)]), .a 0 (.mv (.t 7)), .a 1 (.mv (.t 9))] [6, 7, 8, 9] [])
  (.seq (.seq (.reg [] [.a 10 (.mv (.t 0)), .a 11 (.mv (.t 1)), .a 12 (.call F.nat_order [(.t 10), (.t 11)]), .a 13 (.bin .lss (.t 12) (.c (.int .i64 0)))] [10, 11, 12] [])
  (.cond (.t 13) (.seq (.reg [] [.a 4 (.mv (.c (.sl 1 []))), .a 5 (.mv (.c (.int .i64 3)))] [0, 1, 13] [])
  .ret) .skip))
  (.seq (.reg [] [.a 14 (.mv (.t 0)), .a 15 (.mv (.t 1)), .a 16 (.call F.nat_minus [(.t 14), (.t 15)]), .a 4 (.mv (.t 16)), .a 5 (.mv (.c (.int .i64 0)))] [0, 1, 13, 14, 15, 16] [])
  .ret))))⟩
def nat_Sub.hint : R.Hint := { kill := [(0, [4, 5], []), (1, [6, 7, 8, 9], []), (2, [10, 11, 12], []), (3, [0, 1, 13], []), (4, [0, 1, 13, 14, 15, 16], [])] }
theorem nat_Sub.ok : cFn Tryd.prog nat_Sub.hint Tryd.f49 = some nat_Sub := by kernel_rfl
def nat_trim.b0 : R.C := (.seq (.seq (.reg [] [.a 6 (.mv (.t 3)), .a 7 (.bin .gtr (.t 6) (.c (.int .i64 0))), .a 8 (.mv (.t 7)), .g 9 8 true (.mv (.t 0)), .g 10 8 true (.mv (.t 3)), .g 11 8 true (.bin .sub (.t 10) (.c (.int .i64 1))), .g 12 8 true (.iA 1 (.t 9) (.t 11)), .g 13 8 true (.ld 1 false (.t 12)), .g 14 8 true (.bin .eql (.t 13) (.c (.int .u64 0))), .a 15 (.pick (.t 8) (.t 14) (.c (.bool false)))] [6, 7, 8, 9, 10, 11, 12, 13, 14] [])
  (.cond (.t 15) .skip (.exit 0)))
  (.block 1 (.reg [] [.a 16 (.mv (.t 3)), .a 17 (.bin .sub (.t 16) (.c (.int .i64 1))), .a 3 (.mv (.t 17))] [15, 16, 17] [])))
def nat_trim : R.Fn := ⟨1, [(.own 2)], (.seq (.reg [] [.a 2 (.mv (.c (.sl 1 [])))] [2] [])
  (.seq (.reg [] [.a 4 (.mv (.t 0)), .a 5 (.ln (.t 4)), .a 3 (.mv (.t 5))] [4, 5] [])
  (.seq (.block 0 (.loop [] [] nat_trim.b0))
  (.seq (.seq (.reg [] [.a 18 (.mv (.t 3)), .a 19 (.bin .eql (.t 18) (.c (.int .i64 0)))] [15, 18] [])
  (.cond (.t 19) (.seq (.reg [] [.a 2 (.mv (.c (.sl 1 [])))] [0, 3, 19] [])
  .ret) .skip))
  (.seq (.reg [] [.a 20 (.mv (.t 0)), .a 21 (.mv (.t 3)), .a 22 (.slc 1 (.t 20) none (some (.t 21))), .a 2 (.mv (.t 22))] [0, 3, 19, 20, 21, 22] [])
  .ret)))))⟩
def nat_trim.hint : R.Hint := { kill := [(0, [2], []), (1, [4, 5], []), (2, [6, 7, 8, 9, 10, 11, 12, 13, 14], []), (3, [15, 16, 17], []), (4, [15, 18], []), (5, [0, 3, 19], []), (6, [0, 3, 19, 20, 21, 22], [])], own := true }
theorem nat_trim.ok : cFn Tryd.prog nat_trim.hint Tryd.f50 = some nat_trim := by kernel_rfl
def whole_Sign : R.Fn := ⟨1, [(.t 2)], (.seq (.reg [] [.a 1 (.box (.t 0)), .a 2 (.mv (.c (.int .i64 0)))] [0, 2] [])
  (.seq (.reg [] [.a 3 (.ld 2 true (.t 1)), .a 4 (.call F.whole_Clean [(.t 3)]), .n (.st 2 (.t 1) (.t 4))] [3, 4] [])
  (.seq (.block 0 (.seq (.reg [] [.a 6 (.fA 0 (.t 1)), .a 7 (.ld 1 false (.t 6)), .a 5 (.mv (.t 7))] [6, 7] [])
  (.cond (.t 5) (.seq (.reg [] [.a 2 (.mv (.c (.int .i64 (-1))))] [1, 5] [1])
  .ret) (.seq (.reg [] [.a 9 (.fA 1 (.t 1)), .a 10 (.ld 1 false (.t 9)), .a 11 (.ln (.t 10)), .a 12 (.bin .eql (.t 11) (.c (.int .i64 0))), .a 8 (.mv (.t 12))] [1, 5, 9, 10, 11, 12] [1])
  (.cond (.t 8) (.seq (.reg [] [.a 2 (.mv (.c (.int .i64 0)))] [8] [])
  .ret) .skip)))))
  (.seq (.reg [] [.a 2 (.mv (.c (.int .i64 1)))] [8] [])
  .ret))))⟩
def whole_Sign.hint : R.Hint := { kill := [(0, [0, 2], []), (1, [3, 4], []), (2, [6, 7], []), (3, [1, 5], [1]), (4, [1, 5, 9, 10, 11, 12], [1]), (5, [8], []), (6, [8], [])] }
theorem whole_Sign.ok : cFn Tryd.prog whole_Sign.hint Tryd.f51 = some whole_Sign := by kernel_rfl
def whole_Neg : R.Fn := ⟨1, [(.cell 2 2 true)], (.seq (.reg [] [.a 1 (.box (.t 0)), .a 2 (.new [(.bool false), (.sl 1 [])])] [0] [])
  (.seq (.reg [] [.a 3 (.ld 2 true (.t 1)), .a 4 (.call F.whole_Clean [(.t 3)]), .n (.st 2 (.t 1) (.t 4))] [3, 4] [])
  (.seq (.reg [] [.a 5 (.fA 0 (.t 1)), .a 6 (.ld 1 false (.t 5)), .a 7 (.un .not (.t 6)), .a 8 (.fA 1 (.t 1)), .a 9 (.ld 1 false (.t 8)), .a 10 (.call F.whole_sign [(.t 7), (.t 9)]), .n (.st 2 (.t 2) (.t 10))] [1, 5, 6, 7, 8, 9, 10] [1])
  .ret)))⟩
def whole_Neg.hint : R.Hint := { kill := [(0, [0], []), (1, [3, 4], []), (2, [1, 5, 6, 7, 8, 9, 10], [1])] }
theorem whole_Neg.ok : cFn Tryd.prog whole_Neg.hint Tryd.f52 = some whole_Neg := by kernel_rfl
def dendronref03_Is : R.Fn := ⟨2, [(.t 4)], (.seq (.reg [] [.a 2 (.box (.t 0)), .a 3 (.box (.t 1)), .a 4 (.mv (.c (.bool false)))] [0, 1, 4] [])
  (.seq (.reg [] [.a 5 (.ld 3 true (.t 2)), .a 6 (.call F.dendronref03_Right [(.t 5)]), .a 7 (.mv (.t 6)), .g 8 7 true (.ld 3 true (.t 2)), .g 9 7 true (.call F.dendronref03_From [(.t 8)]), .g 10 7 true (.ld 3 true (.t 3)), .g 11 7 true (.call F.dendronref03_Order [(.t 9), (.t 10)]), .g 12 7 true (.bin .eql (.t 11) (.c (.int .i64 0))), .a 13 (.pick (.t 7) (.t 12) (.c (.bool false))), .a 4 (.mv (.t 13))] [2, 3, 5, 6, 7, 8, 9, 10, 11, 12, 13] [2, 3])
  .ret))⟩
def dendronref03_Is.hint : R.Hint := { kill := [(0, [0, 1, 4], []), (1, [2, 3, 5, 6, 7, 8, 9, 10, 11, 12, 13], [2, 3])] }
theorem dendronref03_Is.ok : cFn Tryd.prog dendronref03_Is.hint Tryd.f53 = some dendronref03_Is := by kernel_rfl
def dendronref03_From : R.Fn := ⟨1, [(.cell 2 3 true)], (.seq (.reg [] [.a 1 (.box (.t 0)), .a 2 (.new [(.bool false), (.sl 1 []), (.sl 1 [])])] [0] [])
  (.seq (.reg [] [.a 4 (.fA 2 (.t 1)), .a 5 (.ld 1 false (.t 4)), .a 6 (.call F.dendronref01_From [(.t 5)]), .a 3 (.mv (.t 6))] [4, 5, 6] [])
  (.seq (.seq (.reg [] [.a 7 (.mv (.t 3)), .a 8 (.ln (.t 7)), .a 9 (.bin .eql (.t 8) (.c (.int .i64 0)))] [7, 8] [])
  (.cond (.t 9) (.seq (.reg [] [.a 10 (.call F.dendronref03_Small [(.c (.int .i64 0)), (.c (.int .i64 1))]), .n (.st 3 (.t 2) (.t 10))] [1, 3, 9, 10] [1])
  .ret) .skip))
  (.seq (.reg [] [.a 11 (.fA 0 (.t 1)), .a 12 (.ld 2 true (.t 11)), .a 13 (.call F.dendronref02_From [(.t 12)]), .a 14 (.mv (.t 3)), .a 15 (.bld [(.bool false), (.sl 1 []), (.sl 1 [])] [(0, 2, (.t 13)), (2, 1, (.t 14))]), .n (.st 3 (.t 2) (.t 15))] [1, 3, 9, 11, 12, 13, 14, 15] [1])
  .ret))))⟩
def dendronref03_From.hint : R.Hint := { kill := [(0, [0], []), (1, [4, 5, 6], []), (2, [7, 8], []), (3, [1, 3, 9, 10], [1]), (4, [1, 3, 9, 11, 12, 13, 14, 15], [1])] }
theorem dendronref03_From.ok : cFn Tryd.prog dendronref03_From.hint Tryd.f54 = some dendronref03_From := by kernel_rfl
def bits_Len32 : R.Fn := ⟨1, [(.t 2)], (.seq (.reg [] [.a 2 (.mv (.c (.int .i64 0)))] [] [])
  (.seq (.seq (.reg [] [.a 3 (.mv (.t 0)), .a 4 (.bin .geq (.t 3) (.c (.int .u32 65536)))] [3] [])
  (.cond (.t 4) (.seq (.reg [] [.a 5 (.mv (.t 0)), .a 6 (.bin .shr (.t 5) (.c (.int .u64 16))), .a 0 (.mv (.t 6))] [2, 4, 5, 6] [])
  (.reg [] [.a 2 (.mv (.c (.int .i64 16)))] [] [])) .skip))
  (.seq (.seq (.reg [] [.a 7 (.mv (.t 0)), .a 8 (.bin .geq (.t 7) (.c (.int .u32 256)))] [4, 7] [])
  (.cond (.t 8) (.seq (.reg [] [.a 9 (.mv (.t 0)), .a 10 (.bin .shr (.t 9) (.c (.int .u64 8))), .a 0 (.mv (.t 10))] [8, 9, 10] [])
  (.reg [] [.a 11 (.mv (.t 2)), .a 12 (.bin .add (.t 11) (.c (.int .i64 8))), .a 2 (.mv (.t 12))] [11, 12] [])) .skip))
  (.seq (.reg [] [.a 13 (.mv (.t 2)), .a 14 (.mv (.t 0)), .a 15 (.conv .u8 (.t 14)), .a 16 (.sI (.c (.str ⟨#[0, 1, 2, 2, 3, 3, 3, 3, 4, 4, 4, 4, 4, 4, 4, 4, 5, 5, 5, 5, 5, 5, 5, 5, 5, 5, 5, 5, 5, 5, 5, 5, 6, 6, 6, 6, 6, 6, 6, 6, 6, 6, 6, 6, 6, 6, 6, 6, 6, 6, 6, 6, 6, 6, 6, 6, 6, 6, 6, 6, 6, 6, 6, 6, 7, 7, 7, 7, 7, 7, 7, 7, 7, 7, 7, 7, 7, 7, 7, 7, 7, 7, 7, 7, 7, 7, 7, 7, 7, 7, 7, 7, 7, 7, 7, 7, 7, 7, 7, 7, 7, 7, 7, 7, 7, 7, 7, 7, 7, 7, 7, 7, 7, 7, 7, 7, 7, 7, 7, 7, 7, 7, 7, 7, 7, 7, 7, 7, 8, 8, 8, 8, 8, 8, 8, 8, 8, 8, 8, 8, 8, 8, 8, 8, 8, 8, 8, 8, 8, 8, 8, 8, 8, 8, 8, 8, 8, 8, 8, 8, 8, 8, 8, 8, 8, 8, 8, 8, 8, 8, 8, 8, 8, 8, 8, 8, 8, 8, 8, 8, 8, 8, 8, 8, 8, 8, 8, 8, 8, 8, 8, 8, 8, 8, 8, 8, 8, 8, 8, 8, 8, 8, 8, 8, 8, 8, 8, 8, 8, 8, 8, 8, 8, 8, 8, 8, 8, 8, 8, 8, 8, 8, 8, 8, 8, 8, 8, 8, 8, 8, 8, 8, 8, 8, 8, 8, 8, 8, 8, 8, 8, 8, 8, 8, 8, 8, 8, 8, 8, 8, 8, 8, 8, 8, 8, 8]⟩)) (.t 15)), .a 17 (.conv .i64 (.t 16)), .a 18 (.bin .add (.t 13) (.t 17)), .a 2 (.mv (.t 18))] [0, 8, 13, 14, 15, 16, 17, 18] [])
  .ret))))⟩
def bits_Len32.hint : R.Hint := { kill := [(1, [3], []), (2, [2, 4, 5, 6], []), (4, [4, 7], []), (5, [8, 9, 10], []), (6, [11, 12], []), (7, [0, 8, 13, 14, 15, 16, 17, 18], [])] }
theorem bits_Len32.ok : cFn Tryd.prog bits_Len32.hint Tryd.f55 = some bits_Len32 := by kernel_rfl
def bits_Len64 : R.Fn := ⟨1, [(.t 2)], (.seq (.reg [] [.a 2 (.mv (.c (.int .i64 0)))] [] [])
  (.seq (.seq (.reg [] [.a 3 (.mv (.t 0)), .a 4 (.bin .geq (.t 3) (.c (.int .u64 4294967296)))] [3] [])
  (.cond (.t 4) (.seq (.reg [] [.a 5 (.mv (.t 0)), .a 6 (.bin .shr (.t 5) (.c (.int .u64 32))), .a 0 (.mv (.t 6))] [2, 4, 5, 6] [])
  (.reg [] [.a 2 (.mv (.c (.int .i64 32)))] [] [])) .skip))
  (.seq (.seq (.reg [] [.a 7 (.mv (.t 0)), .a 8 (.bin .geq (.t 7) (.c (.int .u64 65536)))] [4, 7] [])
  (.cond (.t 8) (.seq (.reg [] [.a 9 (.mv (.t 0)), .a 10 (.bin .shr (.t 9) (.c (.int .u64 16))), .a 0 (.mv (.t 10))] [8, 9, 10] [])
  (.reg [] [.a 11 (.mv (.t 2)), .a 12 (.bin .add (.t 11) (.c (.int .i64 16))), .a 2 (.mv (.t 12))] [11, 12] [])) .skip))
  (.seq (.seq (.reg [] [.a 13 (.mv (.t 0)), .a 14 (.bin .geq (.t 13) (.c (.int .u64 256)))] [8, 13] [])
  (.cond (.t 14) (.seq (.reg [] [.a 15 (.mv (.t 0)), .a 16 (.bin .shr (.t 15) (.c (.int .u64 8))), .a 0 (.mv (.t 16))] [14, 15, 16] [])
  (.reg [] [.a 17 (.mv (.t 2)), .a 18 (.bin .add (.t 17) (.c (.int .i64 8))), .a 2 (.mv (.t 18))] [17, 18] [])) .skip))
  (.seq (.reg [] [.a 19 (.mv (.t 2)), .a 20 (.mv (.t 0)), .a 21 (.conv .u8 (.t 20)), .a 22 (.sI (.c (.str ⟨#[0, 1, 2, 2, 3, 3, 3, 3, 4, 4, 4, 4, 4, 4, 4, 4, 5, 5, 5, 5, 5, 5, 5, 5, 5, 5, 5, 5, 5, 5, 5, 5, 6, 6, 6, 6, 6, 6, 6, 6, 6, 6, 6, 6, 6, 6, 6, 6, 6, 6, 6, 6, 6, 6, 6, 6, 6, 6, 6, 6, 6, 6, 6, 6, 7, 7, 7, 7, 7, 7, 7, 7, 7, 7, 7, 7, 7, 7, 7, 7, 7, 7, 7, 7, 7, 7, 7, 7, 7, 7, 7, 7, 7, 7, 7, 7, 7, 7, 7, 7, 7, 7, 7, 7, 7, 7, 7, 7, 7, 7, 7, 7, 7, 7, 7, 7, 7, 7, 7, 7, 7, 7, 7, 7, 7, 7, 7, 7, 8, 8, 8, 8, 8, 8, 8, 8, 8, 8, 8, 8, 8, 8, 8, 8, 8, 8, 8, 8, 8, 8, 8, 8, 8, 8, 8, 8, 8, 8, 8, 8, 8, 8, 8, 8, 8, 8, 8, 8, 8, 8, 8, 8, 8, 8, 8, 8, 8, 8, 8, 8, 8, 8, 8, 8, 8, 8, 8, 8, 8, 8, 8, 8, 8, 8, 8, 8, 8, 8, 8, 8, 8, 8, 8, 8, 8, 8, 8, 8, 8, 8, 8, 8, 8, 8, 8, 8, 8, 8, 8, 8, 8, 8, 8, 8, 8, 8, 8, 8, 8, 8, 8, 8, 8, 8, 8, 8, 8, 8, 8, 8, 8, 8, 8, 8, 8, 8, 8, 8, 8, 8, 8, 8, 8, 8, 8, 8]⟩)) (.t 21)), .a 23 (.conv .i64 (.t 22)), .a 24 (.bin .add (.t 19) (.t 23)), .a 2 (.mv (.t 24))] [0, 14, 19, 20, 21, 22, 23, 24] [])
  .ret)))))⟩
def bits_Len64.hint : R.Hint := { kill := [(1, [3], []), (2, [2, 4, 5, 6], []), (4, [4, 7], []), (5, [8, 9, 10], []), (6, [11, 12], []), (7, [8, 13], []), (8, [14, 15, 16], []), (9, [17, 18], []), (10, [0, 14, 19, 20, 21, 22, 23, 24], [])] }
theorem bits_Len64.ok : cFn Tryd.prog bits_Len64.hint Tryd.f56 = some bits_Len64 := by kernel_rfl
def nat_euclid.b0 : R.C := (.seq (.seq (.reg [] [.a 19 (.mv (.t 7)), .a 20 (.bin .neq (.t 19) (.c (.int .u64 0)))] [19] [])
  (.cond (.t 20) .skip (.exit 0)))
  (.block 1 (.reg [] [.a 21 (.mv (.t 7)), .a 22 (.mv (.t 5)), .a 23 (.mv (.t 7)), .a 24 (.bin .rem (.t 22) (.t 23)), .a 5 (.mv (.t 21)), .a 7 (.mv (.t 24))] [20, 21, 22, 23, 24] [])))
def nat_euclid : R.Fn := ⟨2, [(.t 4)], (.seq (.reg [] [.a 4 (.mv (.c (.sl 1 [])))] [4] [])
  (.seq (.reg [] [.a 10 (.mv (.t 0)), .a 11 (.call F.nat_To [(.t 10)]), .a 9 (.mv (.t 11)), .a 12 (.ext (.t 9) 0), .a 13 (.ext (.t 9) 1), .a 5 (.mv (.t 12)), .a 6 (.mv (.t 13))] [0, 6, 9, 10, 11, 12, 13] [])
  (.seq (.reg [] [.a 15 (.mv (.t 1)), .a 16 (.call F.nat_To [(.t 15)]), .a 14 (.mv (.t 16)), .a 17 (.ext (.t 14) 0), .a 18 (.ext (.t 14) 1), .a 7 (.mv (.t 17)), .a 8 (.mv (.t 18))] [1, 8, 14, 15, 16, 17, 18] [])
  (.seq (.block 0 (.loop [] [] nat_euclid.b0))
  (.seq (.reg [] [.a 25 (.mv (.t 5)), .a 26 (.call F.nat_Of [(.t 25)]), .a 4 (.mv (.t 26))] [5, 7, 20, 25, 26] [])
  .ret)))))⟩
def nat_euclid.hint : R.Hint := { kill := [(0, [4], []), (1, [0, 6, 9, 10, 11, 12, 13], []), (2, [1, 8, 14, 15, 16, 17, 18], []), (3, [19], []), (4, [20, 21, 22, 23, 24], []), (5, [5, 7, 20, 25, 26], [])] }
theorem nat_euclid.ok : cFn Tryd.prog nat_euclid.hint Tryd.f57 = some nat_euclid := by kernel_rfl
def nat_zeros.b0 : R.C := (.seq (.reg [] [.a 9 (.bin .lss (.t 8) (.t 7))] [] [])
  (.seq (.cond (.t 9) .skip (.exit 0))
  (.seq (.block 1 (.seq (.reg [] [.a 10 (.mv (.t 8)), .a 11 (.iA 1 (.t 6) (.t 8)), .a 12 (.ld 1 false (.t 11)), .a 4 (.mv (.t 10)), .a 5 (.mv (.t 12))] [9, 10, 11, 12] [])
  (.seq (.seq (.reg [] [.a 13 (.mv (.t 5)), .a 14 (.bin .neq (.t 13) (.c (.int .u64 0)))] [13] [])
  (.cond (.t 14) (.seq (.reg [] [.a 15 (.mv (.t 4)), .a 16 (.bin .mul (.c (.int .i64 32)) (.t 15)), .a 17 (.mv (.t 5)), .a 18 (.call F.bits_TrailingZeros64 [(.t 17)]), .a 19 (.bin .add (.t 16) (.t 18)), .a 2 (.mv (.t 19))] [3, 4, 5, 6, 7, 8, 14, 15, 16, 17, 18, 19] [])
  .ret) .skip))
  (.reg [] [.a 20 (.mv (.t 3)), .a 21 (.bin .add (.t 20) (.c (.int .i64 32))), .a 3 (.mv (.t 21))] [4, 5, 14, 20, 21] []))))
  (.reg [] [.a 22 (.bin .add (.t 8) (.c (.int .i64 1))), .a 8 (.mv (.t 22))] [22] []))))
def nat_zeros : R.Fn := ⟨1, [(.t 2)], (.seq (.reg [] [.a 2 (.mv (.c (.int .i64 0)))] [2] [])
  (.seq (.reg [] [.a 3 (.mv (.c (.int .i64 0)))] [] [])
  (.seq (.seq (.reg [] [.a 6 (.mv (.t 0)), .a 7 (.ln (.t 6)), .a 8 (.mv (.c (.int .i64 0)))] [0] [])
  (.block 0 (.loop [] [] nat_zeros.b0)))
  (.seq (.reg [] [.a 23 (.mv (.t 3)), .a 2 (.mv (.t 23))] [3, 6, 7, 8, 9, 23] [])
  .ret))))⟩
def nat_zeros.hint : R.Hint := { kill := [(0, [2], []), (2, [0], []), (4, [9, 10, 11, 12], []), (5, [13], []), (6, [3, 4, 5, 6, 7, 8, 14, 15, 16, 17, 18, 19], []), (7, [4, 5, 14, 20, 21], []), (8, [22], []), (9, [3, 6, 7, 8, 9, 23], [])] }
theorem nat_zeros.ok : cFn Tryd.prog nat_zeros.hint Tryd.f58 = some nat_zeros := by kernel_rfl
def nat_shr.b0 : R.C := (.seq (.reg [] [.a 25 (.bin .lss (.t 24) (.t 23))] [] [])
  (.seq (.cond (.t 25) .skip (.exit 0))
  (.seq (.block 1 (.seq (.reg [] [.a 26 (.mv (.t 24)), .a 8 (.mv (.t 26))] [25, 26] [])
  (.reg [] [.a 27 (.mv (.t 7)), .a 28 (.mv (.t 8)), .a 29 (.mv (.t 0)), .a 30 (.mv (.t 8)), .a 31 (.mv (.t 5)), .a 32 (.bin .add (.t 30) (.t 31)), .a 33 (.bin .add (.t 32) (.c (.int .i64 1))), .a 34 (.call F.nat_limb [(.t 29), (.t 33)]), .a 35 (.bin .shl (.t 34) (.c (.int .u64 32))), .a 36 (.mv (.t 0)), .a 37 (.mv (.t 8)), .a 38 (.mv (.t 5)), .a 39 (.bin .add (.t 37) (.t 38)), .a 40 (.iA 1 (.t 36) (.t 39)), .a 41 (.ld 1 false (.t 40)), .a 42 (.bin .or (.t 35) (.t 41)), .a 43 (.mv (.t 6)), .a 44 (.bin .shr (.t 42) (.t 43)), .a 45 (.bin .and (.t 44) (.c (.int .u64 4294967295))), .a 46 (.iA 1 (.t 27) (.t 28)), .n (.st 1 (.t 46) (.t 45))] [8, 27, 28, 29, 30, 31, 32, 33, 34, 35, 36, 37, 38, 39, 40, 41, 42, 43, 44, 45, 46] [])))
  (.reg [] [.a 47 (.bin .add (.t 24) (.c (.int .i64 1))), .a 24 (.mv (.t 47))] [47] []))))
def nat_shr : R.Fn := ⟨2, [(.t 4)], (.seq (.reg [] [.a 4 (.mv (.c (.sl 1 [])))] [4] [])
  (.seq (.reg [] [.a 9 (.mv (.t 1)), .a 10 (.bin .quo (.t 9) (.c (.int .i64 32))), .a 11 (.mv (.t 1)), .a 12 (.bin .rem (.t 11) (.c (.int .i64 32))), .a 5 (.mv (.t 10)), .a 6 (.mv (.t 12))] [1, 9, 10, 11, 12] [])
  (.seq (.seq (.reg [] [.a 13 (.mv (.t 5)), .a 14 (.mv (.t 0)), .a 15 (.ln (.t 14)), .a 16 (.bin .geq (.t 13) (.t 15))] [13, 14, 15] [])
  (.cond (.t 16) (.seq (.reg [] [.a 4 (.mv (.c (.sl 1 [])))] [0, 5, 6, 16] [])
  .ret) .skip))
  (.seq (.reg [] [.a 17 (.mv (.t 0)), .a 18 (.ln (.t 17)), .a 19 (.mv (.t 5)), .a 20 (.bin .sub (.t 18) (.t 19)), .a 21 (.mk 1 8 [(.int .u64 0)] (.t 20) (.t 20)), .a 7 (.mv (.t 21))] [16, 17, 18, 19, 20, 21] [])
  (.seq (.seq (.reg [] [.a 22 (.mv (.t 7)), .a 23 (.ln (.t 22)), .a 24 (.mv (.c (.int .i64 0)))] [22] [])
  (.block 0 (.loop [] [] nat_shr.b0)))
  (.seq (.reg [7] [.a 48 (.mv (.t 7)), .a 49 (.call F.nat_trim [(.t 48)]), .a 4 (.mv (.t 49))] [0, 5, 6, 7, 23, 24, 25, 48, 49] [21])
  .ret))))))⟩
def nat_shr.hint : R.Hint := { pub := [(10, [7])], kill := [(0, [4], []), (1, [1, 9, 10, 11, 12], []), (2, [13, 14, 15], []), (3, [0, 5, 6, 16], []), (4, [16, 17, 18, 19, 20, 21], []), (5, [22], []), (7, [25, 26], []), (8, [8, 27, 28, 29, 30, 31, 32, 33, 34, 35, 36, 37, 38, 39, 40, 41, 42, 43, 44, 45, 46], []), (9, [47], []), (10, [0, 5, 6, 7, 23, 24, 25, 48, 49], [21])] }
theorem nat_shr.ok : cFn Tryd.prog nat_shr.hint Tryd.f59 = some nat_shr := by kernel_rfl
def nat_order.b1 : R.C := (.seq (.seq (.reg [] [.a 21 (.mv (.t 5)), .a 22 (.bin .geq (.t 21) (.c (.int .i64 0)))] [21] [])
  (.cond (.t 22) .skip (.exit 1)))
  (.seq (.block 2 (.block 3 (.seq (.reg [] [.a 26 (.mv (.t 0)), .a 27 (.mv (.t 5)), .a 28 (.iA 1 (.t 26) (.t 27)), .a 29 (.ld 1 false (.t 28)), .a 30 (.mv (.t 1)), .a 31 (.mv (.t 5)), .a 32 (.iA 1 (.t 30) (.t 31)), .a 33 (.ld 1 false (.t 32)), .a 34 (.bin .lss (.t 29) (.t 33)), .a 25 (.mv (.t 34))] [22, 26, 27, 28, 29, 30, 31, 32, 33, 34] [])
  (.cond (.t 25) (.seq (.reg [] [.a 4 (.mv (.c (.int .i64 (-1))))] [0, 1, 5, 25] [])
  .ret) (.seq (.reg [] [.a 36 (.mv (.t 0)), .a 37 (.mv (.t 5)), .a 38 (.iA 1 (.t 36) (.t 37)), .a 39 (.ld 1 false (.t 38)), .a 40 (.mv (.t 1)), .a 41 (.mv (.t 5)), .a 42 (.iA 1 (.t 40) (.t 41)), .a 43 (.ld 1 false (.t 42)), .a 44 (.bin .gtr (.t 39) (.t 43)), .a 35 (.mv (.t 44))] [25, 36, 37, 38, 39, 40, 41, 42, 43, 44] [])
  (.cond (.t 35) (.seq (.reg [] [.a 4 (.mv (.c (.int .i64 1)))] [0, 1, 5, 35] [])
  .ret) .skip))))))
  (.reg [] [.a 23 (.mv (.t 5)), .a 24 (.bin .sub (.t 23) (.c (.int .i64 1))), .a 5 (.mv (.t 24))] [23, 24, 35] [])))
def nat_order : R.Fn := ⟨2, [(.t 4)], (.seq (.reg [] [.a 4 (.mv (.c (.int .i64 0)))] [4] [])
  (.seq (.block 0 (.seq (.reg [] [.a 7 (.mv (.t 0)), .a 8 (.ln (.t 7)), .a 9 (.mv (.t 1)), .a 10 (.ln (.t 9)), .a 11 (.bin .lss (.t 8) (.t 10)), .a 6 (.mv (.t 11))] [7, 8, 9, 10, 11] [])
  (.cond (.t 6) (.seq (.reg [] [.a 4 (.mv (.c (.int .i64 (-1))))] [0, 1, 6] [])
  .ret) (.seq (.reg [] [.a 13 (.mv (.t 0)), .a 14 (.ln (.t 13)), .a 15 (.mv (.t 1)), .a 16 (.ln (.t 15)), .a 17 (.bin .gtr (.t 14) (.t 16)), .a 12 (.mv (.t 17))] [6, 13, 14, 15, 16, 17] [])
  (.cond (.t 12) (.seq (.reg [] [.a 4 (.mv (.c (.int .i64 1)))] [0, 1, 12] [])
  .ret) .skip)))))
  (.seq (.seq (.reg [] [.a 18 (.mv (.t 0)), .a 19 (.ln (.t 18)), .a 20 (.bin .sub (.t 19) (.c (.int .i64 1))), .a 5 (.mv (.t 20))] [12, 18, 19, 20] [])
  (.block 1 (.loop [] [] nat_order.b1)))
  (.seq (.reg [] [.a 4 (.mv (.c (.int .i64 0)))] [0, 1, 5, 22] [])
  .ret))))⟩
def nat_order.hint : R.Hint := { kill := [(0, [4], []), (1, [7, 8, 9, 10, 11], []), (2, [0, 1, 6], []), (3, [6, 13, 14, 15, 16, 17], []), (4, [0, 1, 12], []), (5, [12, 18, 19, 20], []), (6, [21], []), (7, [23, 24, 35], []), (8, [22, 26, 27, 28, 29, 30, 31, 32, 33, 34], []), (9, [0, 1, 5, 25], []), (10, [25, 36, 37, 38, 39, 40, 41, 42, 43, 44], []), (11, [0, 1, 5, 35], []), (12, [0, 1, 5, 22], [])] }
theorem nat_order.ok : cFn Tryd.prog nat_order.hint Tryd.f60 = some nat_order := by kernel_rfl
def nat_shl.b0 : R.C := (.seq (.reg [] [.a 23 (.bin .lss (.t 22) (.t 21))] [] [])
  (.seq (.cond (.t 23) .skip (.exit 0))
  (.seq (.block 1 (.seq (.reg [] [.a 24 (.mv (.t 22)), .a 25 (.iA 1 (.t 20) (.t 22)), .a 26 (.ld 1 false (.t 25)), .a 8 (.mv (.t 24)), .a 9 (.mv (.t 26))] [23, 24, 25, 26] [])
  (.seq (.reg [] [.a 27 (.mv (.t 9)), .a 28 (.mv (.t 6)), .a 29 (.bin .shl (.t 27) (.t 28)), .a 9 (.mv (.t 29))] [27, 28, 29] [])
  (.seq (.reg [] [.a 30 (.mv (.t 7)), .a 31 (.mv (.t 8)), .a 32 (.mv (.t 5)), .a 33 (.bin .add (.t 31) (.t 32)), .a 34 (.iA 1 (.t 30) (.t 33)), .a 35 (.ld 1 false (.t 34)), .a 36 (.mv (.t 9)), .a 37 (.bin .and (.t 36) (.c (.int .u64 4294967295))), .a 38 (.bin .or (.t 35) (.t 37)), .a 39 (.iA 1 (.t 30) (.t 33)), .n (.st 1 (.t 39) (.t 38))] [30, 31, 32, 33, 34, 35, 36, 37, 38, 39] [])
  (.reg [] [.a 40 (.mv (.t 7)), .a 41 (.mv (.t 8)), .a 42 (.mv (.t 5)), .a 43 (.bin .add (.t 41) (.t 42)), .a 44 (.bin .add (.t 43) (.c (.int .i64 1))), .a 45 (.mv (.t 9)), .a 46 (.bin .shr (.t 45) (.c (.int .u64 32))), .a 47 (.iA 1 (.t 40) (.t 44)), .n (.st 1 (.t 47) (.t 46))] [8, 9, 40, 41, 42, 43, 44, 45, 46, 47] [])))))
  (.reg [] [.a 48 (.bin .add (.t 22) (.c (.int .i64 1))), .a 22 (.mv (.t 48))] [48] []))))
def nat_shl : R.Fn := ⟨2, [(.own 4)], (.seq (.reg [] [.a 4 (.mv (.c (.sl 1 [])))] [4] [])
  (.seq (.reg [] [.a 10 (.mv (.t 1)), .a 11 (.bin .quo (.t 10) (.c (.int .i64 32))), .a 12 (.mv (.t 1)), .a 13 (.bin .rem (.t 12) (.c (.int .i64 32))), .a 5 (.mv (.t 11)), .a 6 (.mv (.t 13))] [1, 10, 11, 12, 13] [])
  (.seq (.reg [] [.a 14 (.mv (.t 0)), .a 15 (.ln (.t 14)), .a 16 (.mv (.t 5)), .a 17 (.bin .add (.t 15) (.t 16)), .a 18 (.bin .add (.t 17) (.c (.int .i64 1))), .a 19 (.mk 1 8 [(.int .u64 0)] (.t 18) (.t 18)), .a 7 (.mv (.t 19))] [14, 15, 16, 17, 18, 19] [])
  (.seq (.seq (.reg [] [.a 20 (.mv (.t 0)), .a 21 (.ln (.t 20)), .a 22 (.mv (.c (.int .i64 0)))] [0] [])
  (.block 0 (.loop [] [] nat_shl.b0)))
  (.seq (.reg [] [.a 49 (.mv (.t 7)), .a 50 (.callk F.nat_trim [(true, (.t 49))]), .a 4 (.mv (.t 50))] [5, 6, 7, 20, 21, 22, 23, 49, 50] [])
  .ret)))))⟩
def nat_shl.hint : R.Hint := { callk := [(50, [true])], kill := [(0, [4], []), (1, [1, 10, 11, 12, 13], []), (2, [14, 15, 16, 17, 18, 19], []), (3, [0], []), (5, [23, 24, 25, 26], []), (6, [27, 28, 29], []), (7, [30, 31, 32, 33, 34, 35, 36, 37, 38, 39], []), (8, [8, 9, 40, 41, 42, 43, 44, 45, 46, 47], []), (9, [48], []), (10, [5, 6, 7, 20, 21, 22, 23, 49, 50], [])], own := true }
theorem nat_shl.ok : cFn Tryd.prog nat_shl.hint Tryd.f61 = some nat_shl := by kernel_rfl
def nat_rest : R.Fn := ⟨2, [(.t 4), (.t 5)], (.seq (.reg [] [.a 4 (.mv (.c (.sl 1 []))), .a 5 (.mv (.c (.sl 1 [])))] [4, 5] [])
  (.seq (.reg [] [.a 10 (.mv (.t 0)), .a 11 (.mv (.t 1)), .a 12 (.call F.nat_DivMod [(.t 10), (.t 11)]), .a 9 (.mv (.t 12)), .a 13 (.ext (.t 9) 0), .a 14 (.ext (.t 9) 1), .a 15 (.ext (.t 9) 2), .a 6 (.mv (.t 13)), .a 7 (.mv (.t 14)), .a 8 (.mv (.t 15))] [0, 1, 8, 9, 10, 11, 12, 13, 14, 15] [])
  (.seq (.reg [] [.a 16 (.mv (.t 6)), .a 17 (.mv (.t 7)), .a 4 (.mv (.t 16)), .a 5 (.mv (.t 17))] [6, 7, 16, 17] [])
  .ret)))⟩
def nat_rest.hint : R.Hint := { kill := [(0, [4, 5], []), (1, [0, 1, 8, 9, 10, 11, 12, 13, 14, 15], []), (2, [6, 7, 16, 17], [])] }
theorem nat_rest.ok : cFn Tryd.prog nat_rest.hint Tryd.f62 = some nat_rest := by kernel_rfl
def nat_minus.b0 : R.C := (.seq (.reg [] [.a 15 (.bin .lss (.t 14) (.t 13))] [] [])
  (.seq (.cond (.t 15) .skip (.exit 0))
  (.seq (.block 1 (.seq (.reg [] [.a 16 (.mv (.t 14)), .a 7 (.mv (.t 16))] [15, 16] [])
  (.seq (.reg [] [.a 17 (.mv (.t 0)), .a 18 (.mv (.t 7)), .a 19 (.iA 1 (.t 17) (.t 18)), .a 20 (.ld 1 false (.t 19)), .a 21 (.bin .add (.c (.int .u64 4294967296)) (.t 20)), .a 22 (.mv (.t 1)), .a 23 (.mv (.t 7)), .a 24 (.call F.nat_limb [(.t 22), (.t 23)]), .a 25 (.bin .sub (.t 21) (.t 24)), .a 26 (.mv (.t 6)), .a 27 (.bin .sub (.t 25) (.t 26)), .a 8 (.mv (.t 27))] [6, 17, 18, 19, 20, 21, 22, 23, 24, 25, 26, 27] [])
  (.seq (.reg [] [.a 28 (.mv (.t 5)), .a 29 (.mv (.t 7)), .a 30 (.mv (.t 8)), .a 31 (.bin .and (.t 30) (.c (.int .u64 4294967295))), .a 32 (.iA 1 (.t 28) (.t 29)), .n (.st 1 (.t 32) (.t 31))] [7, 28, 29, 30, 31, 32] [])
  (.reg [] [.a 33 (.mv (.t 8)), .a 34 (.bin .shr (.t 33) (.c (.int .u64 32))), .a 35 (.bin .sub (.c (.int .u64 1)) (.t 34)), .a 6 (.mv (.t 35))] [8, 33, 34, 35] [])))))
  (.reg [] [.a 36 (.bin .add (.t 14) (.c (.int .i64 1))), .a 14 (.mv (.t 36))] [36] []))))
def nat_minus : R.Fn := ⟨2, [(.t 4)], (.seq (.reg [] [.a 4 (.mv (.c (.sl 1 [])))] [4] [])
  (.seq (.reg [] [.a 9 (.mv (.t 0)), .a 10 (.ln (.t 9)), .a 11 (.mk 1 8 [(.int .u64 0)] (.t 10) (.t 10)), .a 5 (.mv (.t 11))] [9, 10, 11] [])
  (.seq (.reg [] [.a 6 (.mv (.c (.int .u64 0)))] [] [])
  (.seq (.seq (.reg [] [.a 12 (.mv (.t 5)), .a 13 (.ln (.t 12)), .a 14 (.mv (.c (.int .i64 0)))] [12] [])
  (.block 0 (.loop [] [] nat_minus.b0)))
  (.seq (.reg [5] [.a 37 (.mv (.t 5)), .a 38 (.call F.nat_trim [(.t 37)]), .a 4 (.mv (.t 38))] [0, 1, 5, 6, 13, 14, 15, 37, 38] [11])
  .ret)))))⟩
def nat_minus.hint : R.Hint := { pub := [(10, [5])], kill := [(0, [4], []), (1, [9, 10, 11], []), (3, [12], []), (5, [15, 16], []), (6, [6, 17, 18, 19, 20, 21, 22, 23, 24, 25, 26, 27], []), (7, [7, 28, 29, 30, 31, 32], []), (8, [8, 33, 34, 35], []), (9, [36], []), (10, [0, 1, 5, 6, 13, 14, 15, 37, 38], [11])] }
theorem nat_minus.ok : cFn Tryd.prog nat_minus.hint Tryd.f63 = some nat_minus := by kernel_rfl
def nat_small.b0 : R.C := (.seq (.seq (.reg [] [.a 15 (.mv (.t 8)), .a 16 (.bin .geq (.t 15) (.c (.int .i64 0)))] [15] [])
  (.cond (.t 16) .skip (.exit 0)))
  (.seq (.block 1 (.seq (.reg [] [.a 19 (.mv (.t 7)), .a 20 (.bin .shl (.t 19) (.c (.int .u64 32))), .a 21 (.mv (.t 0)), .a 22 (.mv (.t 8)), .a 23 (.iA 1 (.t 21) (.t 22)), .a 24 (.ld 1 false (.t 23)), .a 25 (.bin .or (.t 20) (.t 24)), .a 7 (.mv (.t 25))] [16, 19, 20, 21, 22, 23, 24, 25] [])
  (.seq (.reg [] [.a 26 (.mv (.t 6)), .a 27 (.mv (.t 8)), .a 28 (.mv (.t 7)), .a 29 (.mv (.t 1)), .a 30 (.bin .quo (.t 28) (.t 29)), .a 31 (.iA 1 (.t 26) (.t 27)), .n (.st 1 (.t 31) (.t 30))] [26, 27, 28, 29, 30, 31] [])
  (.reg [] [.a 32 (.mv (.t 7)), .a 33 (.mv (.t 1)), .a 34 (.bin .rem (.t 32) (.t 33)), .a 7 (.mv (.t 34))] [32, 33, 34] []))))
  (.reg [] [.a 17 (.mv (.t 8)), .a 18 (.bin .sub (.t 17) (.c (.int .i64 1))), .a 8 (.mv (.t 18))] [17, 18] [])))
def nat_small : R.Fn := ⟨2, [(.t 4), (.t 5)], (.seq (.reg [] [.a 4 (.mv (.c (.sl 1 []))), .a 5 (.mv (.c (.int .u64 0)))] [4, 5] [])
  (.seq (.reg [] [.a 9 (.mv (.t 0)), .a 10 (.ln (.t 9)), .a 11 (.mk 1 8 [(.int .u64 0)] (.t 10) (.t 10)), .a 6 (.mv (.t 11))] [9, 10, 11] [])
  (.seq (.reg [] [.a 7 (.mv (.c (.int .u64 0)))] [] [])
  (.seq (.seq (.reg [] [.a 12 (.mv (.t 0)), .a 13 (.ln (.t 12)), .a 14 (.bin .sub (.t 13) (.c (.int .i64 1))), .a 8 (.mv (.t 14))] [12, 13, 14] [])
  (.block 0 (.loop [] [] nat_small.b0)))
  (.seq (.reg [6] [.a 35 (.mv (.t 6)), .a 36 (.call F.nat_trim [(.t 35)]), .a 37 (.mv (.t 7)), .a 4 (.mv (.t 36)), .a 5 (.mv (.t 37))] [0, 1, 6, 7, 8, 16, 35, 36, 37] [11])
  .ret)))))⟩
def nat_small.hint : R.Hint := { pub := [(9, [6])], kill := [(0, [4, 5], []), (1, [9, 10, 11], []), (3, [12, 13, 14], []), (4, [15], []), (5, [17, 18], []), (6, [16, 19, 20, 21, 22, 23, 24, 25], []), (7, [26, 27, 28, 29, 30, 31], []), (8, [32, 33, 34], []), (9, [0, 1, 6, 7, 8, 16, 35, 36, 37], [11])] }
theorem nat_small.ok : cFn Tryd.prog nat_small.hint Tryd.f64 = some nat_small := by kernel_rfl
def nat_long.b0 : R.C := (.seq (.seq (.reg [] [.a 42 (.mv (.t 11)), .a 43 (.bin .geq (.t 42) (.c (.int .i64 0)))] [42] [])
  (.cond (.t 43) .skip (.exit 0)))
  (.seq (.block 1 (.reg [7] [.a 46 (.mv (.t 10)), .a 47 (.mv (.t 11)), .a 48 (.mv (.t 8)), .a 49 (.mv (.t 11)), .a 50 (.mv (.t 11)), .a 51 (.mv (.t 9)), .a 52 (.bin .add (.t 50) (.t 51)), .a 53 (.bin .add (.t 52) (.c (.int .i64 1))), .a 54 (.slc 1 (.t 48) (some (.t 49)) (some (.t 53))), .a 55 (.mv (.t 7)), .a 56 (.callk F.nat_digit [(true, (.t 54)), (false, (.t 55))]), .a 57 (.iA 1 (.t 46) (.t 47)), .n (.st 1 (.t 57) (.t 56))] [43, 46, 47, 48, 49, 50, 51, 52, 53, 54, 55, 56, 57] [56]))
  (.reg [] [.a 44 (.mv (.t 11)), .a 45 (.bin .sub (.t 44) (.c (.int .i64 1))), .a 11 (.mv (.t 45))] [44, 45] [])))
def nat_long : R.Fn := ⟨2, [(.t 4), (.t 5)], (.seq (.reg [] [.a 4 (.mv (.c (.sl 1 []))), .a 5 (.mv (.c (.sl 1 [])))] [4, 5] [])
  (.seq (.reg [] [.a 12 (.mv (.t 1)), .a 13 (.mv (.t 1)), .a 14 (.ln (.t 13)), .a 15 (.bin .sub (.t 14) (.c (.int .i64 1))), .a 16 (.iA 1 (.t 12) (.t 15)), .a 17 (.ld 1 false (.t 16)), .a 18 (.conv .u32 (.t 17)), .a 19 (.call F.bits_LeadingZeros32 [(.t 18)]), .a 6 (.mv (.t 19))] [12, 13, 14, 15, 16, 17, 18, 19] [])
  (.seq (.reg [] [.a 20 (.mv (.t 1)), .a 21 (.mv (.t 6)), .a 22 (.callk F.nat_shl [(false, (.t 20)), (false, (.t 21))]), .a 7 (.mv (.t 22))] [1, 20, 21, 22] [])
  (.seq (.reg [] [.a 23 (.mv (.t 0)), .a 24 (.mv (.t 6)), .a 25 (.callk F.nat_shl [(false, (.t 23)), (false, (.t 24))]), .a 26 (.lit 1 2 [(.int .u64 0), (.int .u64 0)] [(0, 1, (.c (.int .u64 0))), (1, 1, (.c (.int .u64 0)))]), .a 27 (.app 1 8 (.t 25) (.t 26)), .a 28 (.mv (.t 0)), .a 29 (.ln (.t 28)), .a 30 (.bin .add (.t 29) (.c (.int .i64 1))), .a 31 (.slc 1 (.t 27) none (some (.t 30))), .a 8 (.mv (.t 31))] [0, 23, 24, 25, 26, 27, 28, 29, 30, 31] [])
  (.seq (.reg [] [.a 32 (.mv (.t 7)), .a 33 (.ln (.t 32)), .a 9 (.mv (.t 33))] [32, 33] [])
  (.seq (.reg [] [.a 34 (.mv (.t 8)), .a 35 (.ln (.t 34)), .a 36 (.mv (.t 9)), .a 37 (.bin .sub (.t 35) (.t 36)), .a 38 (.mk 1 8 [(.int .u64 0)] (.t 37) (.t 37)), .a 10 (.mv (.t 38))] [34, 35, 36, 37, 38] [])
  (.seq (.seq (.reg [] [.a 39 (.mv (.t 10)), .a 40 (.ln (.t 39)), .a 41 (.bin .sub (.t 40) (.c (.int .i64 1))), .a 11 (.mv (.t 41))] [39, 40, 41] [])
  (.block 0 (.loop [] [] nat_long.b0)))
  (.seq (.reg [10, 8] [.a 58 (.mv (.t 10)), .a 59 (.call F.nat_trim [(.t 58)]), .a 60 (.mv (.t 8)), .a 61 (.call F.nat_trim [(.t 60)]), .a 62 (.mv (.t 6)), .a 63 (.call F.nat_shr [(.t 61), (.t 62)]), .a 4 (.mv (.t 59)), .a 5 (.mv (.t 63))] [6, 7, 8, 9, 10, 11, 43, 58, 59, 60, 61, 62, 63] [22, 25, 38])
  .ret))))))))⟩
def nat_long.hint : R.Hint := { callk := [(22, [false, false]), (25, [false, false]), (56, [true, false])], pub := [(9, [7]), (10, [10, 8])], kill := [(0, [4, 5], []), (1, [12, 13, 14, 15, 16, 17, 18, 19], []), (2, [1, 20, 21, 22], []), (3, [0, 23, 24, 25, 26, 27, 28, 29, 30, 31], []), (4, [32, 33], []), (5, [34, 35, 36, 37, 38], []), (6, [39, 40, 41], []), (7, [42], []), (8, [44, 45], []), (9, [43, 46, 47, 48, 49, 50, 51, 52, 53, 54, 55, 56, 57], [56]), (10, [6, 7, 8, 9, 10, 11, 43, 58, 59, 60, 61, 62, 63], [22, 25, 38])] }
theorem nat_long.ok : cFn Tryd.prog nat_long.hint Tryd.f65 = some nat_long := by kernel_rfl
def nat_limb : R.Fn := ⟨2, [(.t 4)], (.seq (.reg [] [.a 4 (.mv (.c (.int .u64 0)))] [4] [])
  (.seq (.seq (.reg [] [.a 5 (.mv (.t 1)), .a 6 (.mv (.t 0)), .a 7 (.ln (.t 6)), .a 8 (.bin .lss (.t 5) (.t 7))] [5, 6, 7] [])
  (.cond (.t 8) (.seq (.reg [] [.a 9 (.mv (.t 0)), .a 10 (.mv (.t 1)), .a 11 (.iA 1 (.t 9) (.t 10)), .a 12 (.ld 1 false (.t 11)), .a 4 (.mv (.t 12))] [0, 1, 8, 9, 10, 11, 12] [])
  .ret) .skip))
  (.seq (.reg [] [.a 4 (.mv (.c (.int .u64 0)))] [0, 1, 8] [])
  .ret)))⟩
def nat_limb.hint : R.Hint := { kill := [(0, [4], []), (1, [5, 6, 7], []), (2, [0, 1, 8, 9, 10, 11, 12], []), (3, [0, 1, 8], [])] }
theorem nat_limb.ok : cFn Tryd.prog nat_limb.hint Tryd.f66 = some nat_limb := by kernel_rfl
def dendronref03_Right : R.Fn := ⟨1, [(.t 2)], (.seq (.reg [] [.a 1 (.box (.t 0)), .a 2 (.mv (.c (.bool false)))] [0, 2] [])
  (.seq (.seq (.reg [] [.a 4 (.fA 0 (.t 1)), .a 5 (.fA 1 (.t 4)), .a 6 (.ld 1 false (.t 5)), .a 7 (.call F.dendronref01_Right [(.t 6)]), .a 8 (.un .not (.t 7)), .a 9 (.mv (.t 8)), .g 10 9 false (.fA 2 (.t 1)), .g 11 9 false (.ld 1 false (.t 10)), .g 12 9 false (.call F.dendronref01_Right [(.t 11)]), .g 13 9 false (.un .not (.t 12)), .a 14 (.pick (.t 9) (.c (.bool true)) (.t 13)), .a 15 (.mv (.t 14)), .g 16 15 false (.fA 2 (.t 1)), .g 17 15 false (.ld 1 false (.t 16)), .g 18 15 false (.ln (.t 17)), .g 19 15 false (.bin .eql (.t 18) (.c (.int .i64 0))), .a 20 (.pick (.t 15) (.c (.bool true)) (.t 19)), .a 21 (.mv (.t 20)), .g 22 21 false (.fA 0 (.t 1)), .g 23 21 false (.fA 1 (.t 22)), .g 24 21 false (.ld 1 false (.t 23)), .g 25 21 false (.ln (.t 24)), .g 26 21 false (.bin .eql (.t 25) (.c (.int .i64 0))), .g 27 21 false (.mv (.t 26)), .g 28 27 true (.fA 0 (.t 1)), .g 29 27 true (.fA 0 (.t 28)), .g 30 27 true (.ld 1 false (.t 29)), .g 31 21 false (.pick (.t 27) (.t 30) (.c (.bool false))), .a 32 (.pick (.t 21) (.c (.bool true)) (.t 31))] [4, 5, 6, 7, 8, 9, 10, 11, 12, 13, 14, 15, 16, 17, 18, 19, 20, 21, 22, 23, 24, 25, 26, 27, 28, 29, 30, 31] [])
  (.cond (.t 32) (.seq (.reg [] [.a 2 (.mv (.c (.bool false)))] [1, 32] [1])
  .ret) .skip))
  (.seq (.reg [] [.a 33 (.fA 0 (.t 1)), .a 34 (.fA 1 (.t 33)), .a 35 (.ld 1 false (.t 34)), .a 36 (.call F.dendronref01_From [(.t 35)]), .a 37 (.fA 2 (.t 1)), .a 38 (.ld 1 false (.t 37)), .a 39 (.call F.dendronref01_From [(.t 38)]), .a 40 (.call F.dendronref01_Gcd [(.t 36), (.t 39)]), .a 3 (.mv (.t 40))] [1, 32, 33, 34, 35, 36, 37, 38, 39, 40] [1])
  (.seq (.reg [] [.a 41 (.mv (.t 3)), .a 42 (.call F.dendronref01_Small [(.c (.int .i64 1))]), .a 43 (.call F.dendronref01_Order [(.t 41), (.t 42)]), .a 44 (.bin .eql (.t 43) (.c (.int .i64 0))), .a 2 (.mv (.t 44))] [3, 41, 42, 43, 44] [])
  .ret))))⟩
def dendronref03_Right.hint : R.Hint := { kill := [(0, [0, 2], []), (1, [4, 5, 6, 7, 8, 9, 10, 11, 12, 13, 14, 15, 16, 17, 18, 19, 20, 21, 22, 23, 24, 25, 26, 27, 28, 29, 30, 31], []), (2, [1, 32], [1]), (3, [1, 32, 33, 34, 35, 36, 37, 38, 39, 40], [1]), (4, [3, 41, 42, 43, 44], [])] }
theorem dendronref03_Right.ok : cFn Tryd.prog dendronref03_Right.hint Tryd.f67 = some dendronref03_Right := by kernel_rfl
def dendronref03_Order : R.Fn := ⟨2, [(.t 4)], (.seq (.reg [] [.a 2 (.box (.t 0)), .a 3 (.box (.t 1)), .a 4 (.mv (.c (.int .i64 0)))] [0, 1, 4] [])
  (.seq (.reg [] [.a 5 (.fA 0 (.t 2)), .a 6 (.ld 2 true (.t 5)), .a 7 (.ld 3 true (.t 3)), .a 8 (.call F.dendronref03_den [(.t 7)]), .a 9 (.call F.dendronref02_Times [(.t 6), (.t 8)]), .a 10 (.fA 0 (.t 3)), .a 11 (.ld 2 true (.t 10)), .a 12 (.ld 3 true (.t 2)), .a 13 (.call F.dendronref03_den [(.t 12)]), .a 14 (.call F.dendronref02_Times [(.t 11), (.t 13)]), .a 15 (.call F.dendronref02_Order [(.t 9), (.t 14)]), .a 4 (.mv (.t 15))] [2, 3, 5, 6, 7, 8, 9, 10, 11, 12, 13, 14, 15] [2, 3])
  .ret))⟩
def dendronref03_Order.hint : R.Hint := { kill := [(0, [0, 1, 4], []), (1, [2, 3, 5, 6, 7, 8, 9, 10, 11, 12, 13, 14, 15], [2, 3])] }
theorem dendronref03_Order.ok : cFn Tryd.prog dendronref03_Order.hint Tryd.f68 = some dendronref03_Order := by kernel_rfl
def dendronref01_From.b0 : R.C := (.seq (.seq (.reg [] [.a 10 (.mv (.t 5)), .a 11 (.bin .geq (.t 10) (.c (.int .i64 0)))] [10] [])
  (.cond (.t 11) .skip (.exit 0)))
  (.seq (.block 1 (.reg [] [.a 14 (.mv (.t 3)), .a 15 (.mv (.t 4)), .a 16 (.call F.dendronref01_Times [(.t 14), (.t 15)]), .a 17 (.mv (.t 0)), .a 18 (.mv (.t 5)), .a 19 (.iA 1 (.t 17) (.t 18)), .a 20 (.ld 1 false (.t 19)), .a 21 (.bin .and (.t 20) (.c (.int .u64 4294967295))), .a 22 (.conv .i64 (.t 21)), .a 23 (.call F.dendronref01_Small [(.t 22)]), .a 24 (.call F.dendronref01_Plus [(.t 16), (.t 23)]), .a 3 (.mv (.t 24))] [11, 14, 15, 16, 17, 18, 19, 20, 21, 22, 23, 24] []))
  (.reg [] [.a 12 (.mv (.t 5)), .a 13 (.bin .sub (.t 12) (.c (.int .i64 1))), .a 5 (.mv (.t 13))] [12, 13] [])))
def dendronref01_From : R.Fn := ⟨1, [(.t 2)], (.seq (.reg [] [.a 2 (.mv (.c (.sl 1 [])))] [2] [])
  (.seq (.reg [] [.a 3 (.mv (.c (.sl 1 [])))] [] [])
  (.seq (.reg [] [.a 6 (.call F.dendronref01_Small [(.c (.int .i64 4294967296))]), .a 4 (.mv (.t 6))] [6] [])
  (.seq (.seq (.reg [] [.a 7 (.mv (.t 0)), .a 8 (.ln (.t 7)), .a 9 (.bin .sub (.t 8) (.c (.int .i64 1))), .a 5 (.mv (.t 9))] [7, 8, 9] [])
  (.block 0 (.loop [] [] dendronref01_From.b0)))
  (.seq (.reg [] [.a 25 (.mv (.t 3)), .a 2 (.mv (.t 25))] [0, 3, 4, 5, 11, 25] [])
  .ret)))))⟩
def dendronref01_From.hint : R.Hint := { kill := [(0, [2], []), (2, [6], []), (3, [7, 8, 9], []), (4, [10], []), (5, [12, 13], []), (6, [11, 14, 15, 16, 17, 18, 19, 20, 21, 22, 23, 24], []), (7, [0, 3, 4, 5, 11, 25], [])] }
theorem dendronref01_From.ok : cFn Tryd.prog dendronref01_From.hint Tryd.f69 = some dendronref01_From := by kernel_rfl
def dendronref03_Small : R.Fn := ⟨2, [(.cell 4 3 true)], (.seq (.reg [] [.a 4 (.new [(.bool false), (.sl 1 []), (.sl 1 [])])] [] [])
  (.seq (.reg [] [.a 5 (.mv (.t 0)), .a 6 (.call F.dendronref02_Small [(.t 5)]), .a 7 (.mv (.t 1)), .a 8 (.call F.dendronref01_Small [(.t 7)]), .a 9 (.bld [(.bool false), (.sl 1 []), (.sl 1 [])] [(0, 2, (.t 6)), (2, 1, (.t 8))]), .n (.st 3 (.t 4) (.t 9))] [0, 1, 5, 6, 7, 8, 9] [])
  .ret))⟩
def dendronref03_Small.hint : R.Hint := { kill := [(1, [0, 1, 5, 6, 7, 8, 9], [])] }
theorem dendronref03_Small.ok : cFn Tryd.prog dendronref03_Small.hint Tryd.f70 = some dendronref03_Small := by kernel_rfl
def dendronref02_From : R.Fn := ⟨1, [(.cell 2 2 true)], (.seq (.reg [] [.a 1 (.box (.t 0)), .a 2 (.new [(.bool false), (.sl 1 [])])] [0] [])
  (.seq (.reg [] [.a 3 (.fA 0 (.t 1)), .a 4 (.ld 1 false (.t 3)), .a 5 (.fA 1 (.t 1)), .a 6 (.ld 1 false (.t 5)), .a 7 (.call F.dendronref01_From [(.t 6)]), .a 8 (.call F.dendronref02_Make [(.t 4), (.t 7)]), .n (.st 2 (.t 2) (.t 8))] [1, 3, 4, 5, 6, 7, 8] [1])
  .ret))⟩
def dendronref02_From.hint : R.Hint := { kill := [(0, [0], []), (1, [1, 3, 4, 5, 6, 7, 8], [1])] }
theorem dendronref02_From.ok : cFn Tryd.prog dendronref02_From.hint Tryd.f71 = some dendronref02_From := by kernel_rfl
def nat_To : R.Fn := ⟨1, [(.t 2), (.t 3)], (.seq (.reg [] [.a 2 (.mv (.c (.int .u64 0))), .a 3 (.mv (.c (.bool false)))] [2, 3] [])
  (.seq (.reg [] [.a 4 (.mv (.t 0)), .a 5 (.call F.nat_Clean [(.t 4)]), .a 0 (.mv (.t 5))] [4, 5] [])
  (.seq (.seq (.reg [] [.a 6 (.mv (.t 0)), .a 7 (.ln (.t 6))] [6] [])
  (.block 0 (.seq (.reg [] [.a 9 (.bin .eql (.t 7) (.c (.int .i64 0))), .a 8 (.mv (.t 9))] [9] [])
  (.cond (.t 8) (.seq (.reg [] [.a 2 (.mv (.c (.int .u64 0))), .a 3 (.mv (.c (.bool true)))] [0, 7, 8] [])
  .ret) (.seq (.reg [] [.a 11 (.bin .eql (.t 7) (.c (.int .i64 1))), .a 10 (.mv (.t 11))] [8, 11] [])
  (.cond (.t 10) (.seq (.reg [] [.a 12 (.mv (.t 0)), .a 13 (.iA 1 (.t 12) (.c (.int .i64 0))), .a 14 (.ld 1 false (.t 13)), .a 2 (.mv (.t 14)), .a 3 (.mv (.c (.bool true)))] [0, 7, 10, 12, 13, 14] [])
  .ret) (.seq (.reg [] [.a 16 (.bin .eql (.t 7) (.c (.int .i64 2))), .a 15 (.mv (.t 16))] [7, 10, 16] [])
  (.cond (.t 15) (.seq (.reg [] [.a 17 (.mv (.t 0)), .a 18 (.iA 1 (.t 17) (.c (.int .i64 1))), .a 19 (.ld 1 false (.t 18)), .a 20 (.bin .shl (.t 19) (.c (.int .u64 32))), .a 21 (.mv (.t 0)), .a 22 (.iA 1 (.t 21) (.c (.int .i64 0))), .a 23 (.ld 1 false (.t 22)), .a 24 (.bin .or (.t 20) (.t 23)), .a 2 (.mv (.t 24)), .a 3 (.mv (.c (.bool true)))] [0, 15, 17, 18, 19, 20, 21, 22, 23, 24] [])
  .ret) .skip))))))))
  (.seq (.reg [] [.a 2 (.mv (.c (.int .u64 0))), .a 3 (.mv (.c (.bool false)))] [0, 15] [])
  .ret))))⟩
def nat_To.hint : R.Hint := { kill := [(0, [2, 3], []), (1, [4, 5], []), (2, [6], []), (3, [9], []), (4, [0, 7, 8], []), (5, [8, 11], []), (6, [0, 7, 10, 12, 13, 14], []), (7, [7, 10, 16], []), (8, [0, 15, 17, 18, 19, 20, 21, 22, 23, 24], []), (9, [0, 15], [])] }
theorem nat_To.ok : cFn Tryd.prog nat_To.hint Tryd.f72 = some nat_To := by kernel_rfl
def bits_LeadingZeros32 : R.Fn := ⟨1, [(.t 2)], (.seq (.reg [] [.a 2 (.mv (.c (.int .i64 0)))] [2] [])
  (.seq (.reg [] [.a 3 (.mv (.t 0)), .a 4 (.call F.bits_Len32 [(.t 3)]), .a 5 (.bin .sub (.c (.int .i64 32)) (.t 4)), .a 2 (.mv (.t 5))] [0, 3, 4, 5] [])
  .ret))⟩
def bits_LeadingZeros32.hint : R.Hint := { kill := [(0, [2], []), (1, [0, 3, 4, 5], [])] }
theorem bits_LeadingZeros32.ok : cFn Tryd.prog bits_LeadingZeros32.hint Tryd.f74 = some bits_LeadingZeros32 := by kernel_rfl
def nat_digit.b0 : R.C := (.seq (.seq (.reg [] [.a 36 (.mv (.t 7)), .a 37 (.bin .geq (.t 36) (.c (.int .u64 4294967296))), .a 38 (.mv (.t 37)), .g 39 38 false (.mv (.t 7)), .g 40 38 false (.mv (.t 1)), .g 41 38 false (.mv (.t 5)), .g 42 38 false (.bin .sub (.t 41) (.c (.int .i64 2))), .g 43 38 false (.iA 1 (.t 40) (.t 42)), .g 44 38 false (.ld 1 false (.t 43)), .g 45 38 false (.bin .mul (.t 39) (.t 44)), .g 46 38 false (.mv (.t 8)), .g 47 38 false (.bin .shl (.t 46) (.c (.int .u64 32))), .g 48 38 false (.mv (.t 0)), .g 49 38 false (.mv (.t 5)), .g 50 38 false (.bin .sub (.t 49) (.c (.int .i64 2))), .g 51 38 false (.iA 1 (.t 48) (.t 50)), .g 52 38 false (.ld 1 false (.t 51)), .g 53 38 false (.bin .or (.t 47) (.t 52)), .g 54 38 false (.bin .gtr (.t 45) (.t 53)), .a 55 (.pick (.t 38) (.c (.bool true)) (.t 54))] [36, 37, 38, 39, 40, 41, 42, 43, 44, 45, 46, 47, 48, 49, 50, 51, 52, 53, 54] [])
  (.cond (.t 55) .skip (.exit 0)))
  (.block 1 (.seq (.reg [] [.a 56 (.mv (.t 7)), .a 57 (.bin .sub (.t 56) (.c (.int .u64 1))), .a 7 (.mv (.t 57))] [55, 56, 57] [])
  (.seq (.reg [] [.a 58 (.mv (.t 8)), .a 59 (.mv (.t 1)), .a 60 (.mv (.t 5)), .a 61 (.bin .sub (.t 60) (.c (.int .i64 1))), .a 62 (.iA 1 (.t 59) (.t 61)), .a 63 (.ld 1 false (.t 62)), .a 64 (.bin .add (.t 58) (.t 63)), .a 8 (.mv (.t 64))] [58, 59, 60, 61, 62, 63, 64] [])
  (.seq (.reg [] [.a 65 (.mv (.t 8)), .a 66 (.bin .geq (.t 65) (.c (.int .u64 4294967296)))] [65] [])
  (.cond (.t 66) (.exit 0) .skip))))))
def nat_digit : R.Fn := ⟨2, [(.own 4)], (.seq (.reg [] [.a 4 (.mv (.c (.int .u64 0)))] [4] [])
  (.seq (.reg [] [.a 9 (.mv (.t 1)), .a 10 (.ln (.t 9)), .a 5 (.mv (.t 10))] [9, 10] [])
  (.seq (.reg [] [.a 11 (.mv (.t 0)), .a 12 (.mv (.t 5)), .a 13 (.iA 1 (.t 11) (.t 12)), .a 14 (.ld 1 false (.t 13)), .a 15 (.bin .shl (.t 14) (.c (.int .u64 32))), .a 16 (.mv (.t 0)), .a 17 (.mv (.t 5)), .a 18 (.bin .sub (.t 17) (.c (.int .i64 1))), .a 19 (.iA 1 (.t 16) (.t 18)), .a 20 (.ld 1 false (.t 19)), .a 21 (.bin .or (.t 15) (.t 20)), .a 6 (.mv (.t 21))] [11, 12, 13, 14, 15, 16, 17, 18, 19, 20, 21] [])
  (.seq (.reg [] [.a 22 (.mv (.t 6)), .a 23 (.mv (.t 1)), .a 24 (.mv (.t 5)), .a 25 (.bin .sub (.t 24) (.c (.int .i64 1))), .a 26 (.iA 1 (.t 23) (.t 25)), .a 27 (.ld 1 false (.t 26)), .a 28 (.bin .quo (.t 22) (.t 27)), .a 29 (.mv (.t 6)), .a 30 (.mv (.t 1)), .a 31 (.mv (.t 5)), .a 32 (.bin .sub (.t 31) (.c (.int .i64 1))), .a 33 (.iA 1 (.t 30) (.t 32)), .a 34 (.ld 1 false (.t 33)), .a 35 (.bin .rem (.t 29) (.t 34)), .a 7 (.mv (.t 28)), .a 8 (.mv (.t 35))] [6, 22, 23, 24, 25, 26, 27, 28, 29, 30, 31, 32, 33, 34, 35] [])
  (.seq (.block 0 (.loop [66] [] nat_digit.b0))
  (.seq (.seq (.reg [] [.a 67 (.mv (.t 0)), .a 68 (.mv (.t 1)), .a 69 (.mv (.t 7)), .a 70 (.callk F.nat_take [(true, (.t 67)), (false, (.t 68)), (false, (.t 69))])] [5, 8, 55, 66, 67, 68, 69] [])
  (.cond (.t 70) (.seq (.reg [] [.a 71 (.mv (.t 7)), .a 72 (.bin .sub (.t 71) (.c (.int .u64 1))), .a 7 (.mv (.t 72))] [70, 71, 72] [70])
  (.reg [] [.a 73 (.mv (.t 0)), .a 74 (.mv (.t 1)), .a 75 (.callk F.nat_give [(true, (.t 73)), (false, (.t 74))])] [0, 1, 73, 74, 75] [75])) .skip))
  (.seq (.reg [] [.a 76 (.mv (.t 7)), .a 4 (.mv (.t 76))] [0, 1, 7, 70, 76] [70])
  .ret)))))))⟩
def nat_digit.hint : R.Hint := { callk := [(70, [true, false, false]), (75, [true, false])], kill := [(0, [4], []), (1, [9, 10], []), (2, [11, 12, 13, 14, 15, 16, 17, 18, 19, 20, 21], []), (3, [6, 22, 23, 24, 25, 26, 27, 28, 29, 30, 31, 32, 33, 34, 35], []), (4, [36, 37, 38, 39, 40, 41, 42, 43, 44, 45, 46, 47, 48, 49, 50, 51, 52, 53, 54], []), (5, [55, 56, 57], []), (6, [58, 59, 60, 61, 62, 63, 64], []), (7, [65], []), (8, [5, 8, 55, 66, 67, 68, 69], []), (9, [70, 71, 72], [70]), (10, [0, 1, 73, 74, 75], [75]), (11, [0, 1, 7, 70, 76], [70])], loop := [(0, [66], [])], own := true }
theorem nat_digit.ok : cFn Tryd.prog nat_digit.hint Tryd.f75 = some nat_digit := by kernel_rfl
def dendronref01_Right.b0 : R.C := (.seq (.seq (.reg [] [.a 4 (.mv (.t 3)), .a 5 (.mv (.t 0)), .a 6 (.ln (.t 5)), .a 7 (.bin .lss (.t 4) (.t 6))] [4, 5, 6] [])
  (.cond (.t 7) .skip (.exit 0)))
  (.seq (.block 1 (.seq (.reg [] [.a 10 (.mv (.t 0)), .a 11 (.mv (.t 3)), .a 12 (.iA 1 (.t 10) (.t 11)), .a 13 (.ld 1 false (.t 12)), .a 14 (.bin .gtr (.t 13) (.c (.int .u64 4294967295)))] [7, 10, 11, 12, 13] [])
  (.cond (.t 14) (.seq (.reg [] [.a 2 (.mv (.c (.bool false)))] [0, 3, 14] [])
  .ret) .skip)))
  (.reg [] [.a 8 (.mv (.t 3)), .a 9 (.bin .add (.t 8) (.c (.int .i64 1))), .a 3 (.mv (.t 9))] [8, 9, 14] [])))
def dendronref01_Right : R.Fn := ⟨1, [(.t 2)], (.seq (.reg [] [.a 2 (.mv (.c (.bool false)))] [2] [])
  (.seq (.seq (.reg [] [.a 3 (.mv (.c (.int .i64 0)))] [] [])
  (.block 0 (.loop [] [] dendronref01_Right.b0)))
  (.seq (.reg [] [.a 15 (.mv (.t 0)), .a 16 (.ln (.t 15)), .a 17 (.bin .eql (.t 16) (.c (.int .i64 0))), .a 18 (.mv (.t 17)), .g 19 18 false (.mv (.t 0)), .g 20 18 false (.mv (.t 0)), .g 21 18 false (.ln (.t 20)), .g 22 18 false (.bin .sub (.t 21) (.c (.int .i64 1))), .g 23 18 false (.iA 1 (.t 19) (.t 22)), .g 24 18 false (.ld 1 false (.t 23)), .g 25 18 false (.bin .neq (.t 24) (.c (.int .u64 0))), .a 26 (.pick (.t 18) (.c (.bool true)) (.t 25)), .a 2 (.mv (.t 26))] [0, 3, 7, 15, 16, 17, 18, 19, 20, 21, 22, 23, 24, 25, 26] [])
  .ret)))⟩
def dendronref01_Right.hint : R.Hint := { kill := [(0, [2], []), (2, [4, 5, 6], []), (3, [8, 9, 14], []), (4, [7, 10, 11, 12, 13], []), (5, [0, 3, 14], []), (6, [0, 3, 7, 15, 16, 17, 18, 19, 20, 21, 22, 23, 24, 25, 26], [])] }
theorem dendronref01_Right.ok : cFn Tryd.prog dendronref01_Right.hint Tryd.f76 = some dendronref01_Right := by kernel_rfl
def dendronref01_Gcd.b0 : R.C := (.seq (.seq (.reg [] [.a 7 (.mv (.t 1)), .a 8 (.ln (.t 7)), .a 9 (.bin .gtr (.t 8) (.c (.int .i64 0)))] [7, 8] [])
  (.cond (.t 9) .skip (.exit 0)))
  (.block 1 (.seq (.reg [] [.a 11 (.mv (.t 0)), .a 12 (.mv (.t 1)), .a 13 (.call F.dendronref01_Over [(.t 11), (.t 12)]), .a 10 (.mv (.t 13)), .a 14 (.ext (.t 10) 0), .a 15 (.ext (.t 10) 1), .a 5 (.mv (.t 14)), .a 6 (.mv (.t 15))] [0, 5, 9, 10, 11, 12, 13, 14, 15] [])
  (.seq (.reg [] [.a 16 (.mv (.t 1)), .a 0 (.mv (.t 16))] [1, 16] [])
  (.reg [] [.a 17 (.mv (.t 6)), .a 1 (.mv (.t 17))] [6, 17] [])))))
def dendronref01_Gcd : R.Fn := ⟨2, [(.t 4)], (.seq (.reg [] [.a 4 (.mv (.c (.sl 1 [])))] [4] [])
  (.seq (.block 0 (.loop [] [] dendronref01_Gcd.b0))
  (.seq (.reg [] [.a 18 (.mv (.t 0)), .a 4 (.mv (.t 18))] [0, 1, 9, 18] [])
  .ret)))⟩
def dendronref01_Gcd.hint : R.Hint := { kill := [(0, [4], []), (1, [7, 8], []), (2, [0, 5, 9, 10, 11, 12, 13, 14, 15], []), (3, [1, 16], []), (4, [6, 17], []), (5, [0, 1, 9, 18], [])] }
theorem dendronref01_Gcd.ok : cFn Tryd.prog dendronref01_Gcd.hint Tryd.f77 = some dendronref01_Gcd := by kernel_rfl
def dendronref01_Order.b0 : R.C := (.seq (.seq (.reg [] [.a 19 (.mv (.t 5)), .a 20 (.bin .geq (.t 19) (.c (.int .i64 0)))] [19] [])
  (.cond (.t 20) .skip (.exit 0)))
  (.seq (.block 1 (.seq (.seq (.reg [] [.a 23 (.mv (.t 0)), .a 24 (.mv (.t 5)), .a 25 (.iA 1 (.t 23) (.t 24)), .a 26 (.ld 1 false (.t 25)), .a 27 (.mv (.t 1)), .a 28 (.mv (.t 5)), .a 29 (.iA 1 (.t 27) (.t 28)), .a 30 (.ld 1 false (.t 29)), .a 31 (.bin .lss (.t 26) (.t 30))] [20, 23, 24, 25, 26, 27, 28, 29, 30] [])
  (.cond (.t 31) (.seq (.reg [] [.a 4 (.mv (.c (.int .i64 (-1))))] [0, 1, 5, 31] [])
  .ret) .skip))
  (.seq (.reg [] [.a 32 (.mv (.t 0)), .a 33 (.mv (.t 5)), .a 34 (.iA 1 (.t 32) (.t 33)), .a 35 (.ld 1 false (.t 34)), .a 36 (.mv (.t 1)), .a 37 (.mv (.t 5)), .a 38 (.iA 1 (.t 36) (.t 37)), .a 39 (.ld 1 false (.t 38)), .a 40 (.bin .gtr (.t 35) (.t 39))] [31, 32, 33, 34, 35, 36, 37, 38, 39] [])
  (.cond (.t 40) (.seq (.reg [] [.a 4 (.mv (.c (.int .i64 1)))] [0, 1, 5, 40] [])
  .ret) .skip))))
  (.reg [] [.a 21 (.mv (.t 5)), .a 22 (.bin .sub (.t 21) (.c (.int .i64 1))), .a 5 (.mv (.t 22))] [21, 22, 40] [])))
def dendronref01_Order : R.Fn := ⟨2, [(.t 4)], (.seq (.reg [] [.a 4 (.mv (.c (.int .i64 0)))] [4] [])
  (.seq (.seq (.reg [] [.a 6 (.mv (.t 0)), .a 7 (.ln (.t 6)), .a 8 (.mv (.t 1)), .a 9 (.ln (.t 8)), .a 10 (.bin .neq (.t 7) (.t 9))] [6, 7, 8, 9] [])
  (.cond (.t 10) (.seq (.seq (.reg [] [.a 11 (.mv (.t 0)), .a 12 (.ln (.t 11)), .a 13 (.mv (.t 1)), .a 14 (.ln (.t 13)), .a 15 (.bin .lss (.t 12) (.t 14))] [0, 1, 10, 11, 12, 13, 14] [])
  (.cond (.t 15) (.seq (.reg [] [.a 4 (.mv (.c (.int .i64 (-1))))] [15] [])
  .ret) .skip))
  (.seq (.reg [] [.a 4 (.mv (.c (.int .i64 1)))] [15] [])
  .ret)) .skip))
  (.seq (.seq (.reg [] [.a 16 (.mv (.t 0)), .a 17 (.ln (.t 16)), .a 18 (.bin .sub (.t 17) (.c (.int .i64 1))), .a 5 (.mv (.t 18))] [10, 16, 17, 18] [])
  (.block 0 (.loop [] [] dendronref01_Order.b0)))
  (.seq (.reg [] [.a 4 (.mv (.c (.int .i64 0)))] [0, 1, 5, 20] [])
  .ret))))⟩
def dendronref01_Order.hint : R.Hint := { kill := [(0, [4], []), (1, [6, 7, 8, 9], []), (2, [0, 1, 10, 11, 12, 13, 14], []), (3, [15], []), (4, [15], []), (5, [10, 16, 17, 18], []), (6, [19], []), (7, [21, 22, 40], []), (8, [20, 23, 24, 25, 26, 27, 28, 29, 30], []), (9, [0, 1, 5, 31], []), (10, [31, 32, 33, 34, 35, 36, 37, 38, 39], []), (11, [0, 1, 5, 40], []), (12, [0, 1, 5, 20], [])] }
theorem dendronref01_Order.ok : cFn Tryd.prog dendronref01_Order.hint Tryd.f78 = some dendronref01_Order := by kernel_rfl
def dendronref01_Small.b0 : R.C := (.seq (.seq (.reg [] [.a 4 (.mv (.t 0)), .a 5 (.bin .gtr (.t 4) (.c (.int .i64 0)))] [4] [])
  (.cond (.t 5) .skip (.exit 0)))
  (.block 1 (.seq (.reg [] [.a 6 (.mv (.t 3)), .a 7 (.mv (.t 0)), .a 8 (.bin .rem (.t 7) (.c (.int .i64 10000))), .a 9 (.lit 1 1 [(.int .i64 0)] [(0, 1, (.t 8))]), .a 10 (.app 1 8 (.t 6) (.t 9)), .a 3 (.mv (.t 10))] [5, 6, 7, 8, 9, 10] [])
  (.reg [] [.a 11 (.mv (.t 0)), .a 12 (.bin .quo (.t 11) (.c (.int .i64 10000))), .a 0 (.mv (.t 12))] [11, 12] []))))
def dendronref01_Small : R.Fn := ⟨1, [(.t 2)], (.seq (.reg [] [.a 2 (.mv (.c (.sl 1 [])))] [2] [])
  (.seq (.reg [] [.a 3 (.nil 1)] [] [])
  (.seq (.block 0 (.loop [] [] dendronref01_Small.b0))
  (.seq (.reg [] [.a 13 (.mv (.t 3)), .a 2 (.mv (.t 13))] [0, 3, 5, 13] [])
  .ret))))⟩
def dendronref01_Small.hint : R.Hint := { nil := [3], kill := [(0, [2], []), (2, [4], []), (3, [5, 6, 7, 8, 9, 10], []), (4, [11, 12], []), (5, [0, 3, 5, 13], [])] }
theorem dendronref01_Small.ok : cFn Tryd.prog dendronref01_Small.hint Tryd.f79 = some dendronref01_Small := by kernel_rfl
def dendronref02_Order : R.Fn := ⟨2, [(.t 4)], (.seq (.reg [] [.a 2 (.box (.t 0)), .a 3 (.box (.t 1)), .a 4 (.mv (.c (.int .i64 0)))] [0, 1, 4] [])
  (.seq (.seq (.reg [] [.a 5 (.fA 0 (.t 2)), .a 6 (.ld 1 false (.t 5)), .a 7 (.mv (.t 6)), .g 8 7 true (.fA 0 (.t 3)), .g 9 7 true (.ld 1 false (.t 8)), .g 10 7 true (.un .not (.t 9)), .a 11 (.pick (.t 7) (.t 10) (.c (.bool false)))] [5, 6, 7, 8, 9, 10] [])
  (.cond (.t 11) (.seq (.reg [] [.a 4 (.mv (.c (.int .i64 (-1))))] [2, 3, 11] [2, 3])
  .ret) .skip))
  (.seq (.seq (.reg [] [.a 12 (.fA 0 (.t 2)), .a 13 (.ld 1 false (.t 12)), .a 14 (.un .not (.t 13)), .a 15 (.mv (.t 14)), .g 16 15 true (.fA 0 (.t 3)), .g 17 15 true (.ld 1 false (.t 16)), .a 18 (.pick (.t 15) (.t 17) (.c (.bool false)))] [11, 12, 13, 14, 15, 16, 17] [])
  (.cond (.t 18) (.seq (.reg [] [.a 4 (.mv (.c (.int .i64 1)))] [2, 3, 18] [2, 3])
  .ret) .skip))
  (.seq (.seq (.reg [] [.a 19 (.fA 0 (.t 2)), .a 20 (.ld 1 false (.t 19))] [18, 19] [])
  (.cond (.t 20) (.seq (.reg [] [.a 21 (.fA 1 (.t 3)), .a 22 (.ld 1 false (.t 21)), .a 23 (.fA 1 (.t 2)), .a 24 (.ld 1 false (.t 23)), .a 25 (.call F.dendronref01_Order [(.t 22), (.t 24)]), .a 4 (.mv (.t 25))] [2, 3, 20, 21, 22, 23, 24, 25] [2, 3])
  .ret) .skip))
  (.seq (.reg [] [.a 26 (.fA 1 (.t 2)), .a 27 (.ld 1 false (.t 26)), .a 28 (.fA 1 (.t 3)), .a 29 (.ld 1 false (.t 28)), .a 30 (.call F.dendronref01_Order [(.t 27), (.t 29)]), .a 4 (.mv (.t 30))] [2, 3, 20, 26, 27, 28, 29, 30] [2, 3])
  .ret)))))⟩
def dendronref02_Order.hint : R.Hint := { kill := [(0, [0, 1, 4], []), (1, [5, 6, 7, 8, 9, 10], []), (2, [2, 3, 11], [2, 3]), (3, [11, 12, 13, 14, 15, 16, 17], []), (4, [2, 3, 18], [2, 3]), (5, [18, 19], []), (6, [2, 3, 20, 21, 22, 23, 24, 25], [2, 3]), (7, [2, 3, 20, 26, 27, 28, 29, 30], [2, 3])] }
theorem dendronref02_Order.ok : cFn Tryd.prog dendronref02_Order.hint Tryd.f80 = some dendronref02_Order := by kernel_rfl
def dendronref02_Times : R.Fn := ⟨2, [(.cell 4 2 true)], (.seq (.reg [] [.a 2 (.box (.t 0)), .a 3 (.box (.t 1)), .a 4 (.new [(.bool false), (.sl 1 [])])] [0, 1] [])
  (.seq (.reg [] [.a 5 (.fA 0 (.t 2)), .a 6 (.ld 1 false (.t 5)), .a 7 (.fA 0 (.t 3)), .a 8 (.ld 1 false (.t 7)), .a 9 (.beq true (.t 6) (.t 8)), .a 10 (.fA 1 (.t 2)), .a 11 (.ld 1 false (.t 10)), .a 12 (.fA 1 (.t 3)), .a 13 (.ld 1 false (.t 12)), .a 14 (.call F.dendronref01_Times [(.t 11), (.t 13)]), .a 15 (.call F.dendronref02_Make [(.t 9), (.t 14)]), .n (.st 2 (.t 4) (.t 15))] [2, 3, 5, 6, 7, 8, 9, 10, 11, 12, 13, 14, 15] [2, 3])
  .ret))⟩
def dendronref02_Times.hint : R.Hint := { kill := [(0, [0, 1], []), (1, [2, 3, 5, 6, 7, 8, 9, 10, 11, 12, 13, 14, 15], [2, 3])] }
theorem dendronref02_Times.ok : cFn Tryd.prog dendronref02_Times.hint Tryd.f81 = some dendronref02_Times := by kernel_rfl
def dendronref03_den : R.Fn := ⟨1, [(.cell 2 2 true)], (.seq (.reg [] [.a 1 (.box (.t 0)), .a 2 (.new [(.bool false), (.sl 1 [])])] [0] [])
  (.seq (.reg [] [.a 3 (.fA 2 (.t 1)), .a 4 (.ld 1 false (.t 3)), .a 5 (.call F.dendronref02_Make [(.c (.bool false)), (.t 4)]), .n (.st 2 (.t 2) (.t 5))] [1, 3, 4, 5] [1])
  .ret))⟩
def dendronref03_den.hint : R.Hint := { kill := [(0, [0], []), (1, [1, 3, 4, 5], [1])] }
theorem dendronref03_den.ok : cFn Tryd.prog dendronref03_den.hint Tryd.f82 = some dendronref03_den := by kernel_rfl
def dendronref01_Plus.b0 : R.C := (.seq (.seq (.reg [] [.a 8 (.mv (.t 7)), .a 9 (.mv (.t 0)), .a 10 (.ln (.t 9)), .a 11 (.bin .lss (.t 8) (.t 10)), .a 12 (.mv (.t 11)), .g 13 12 false (.mv (.t 7)), .g 14 12 false (.mv (.t 1)), .g 15 12 false (.ln (.t 14)), .g 16 12 false (.bin .lss (.t 13) (.t 15)), .a 17 (.pick (.t 12) (.c (.bool true)) (.t 16)), .a 18 (.mv (.t 17)), .g 19 18 false (.mv (.t 6)), .g 20 18 false (.bin .gtr (.t 19) (.c (.int .i64 0))), .a 21 (.pick (.t 18) (.c (.bool true)) (.t 20))] [8, 9, 10, 11, 12, 13, 14, 15, 16, 17, 18, 19, 20] [])
  (.cond (.t 21) .skip (.exit 0)))
  (.seq (.block 1 (.seq (.reg [] [.a 24 (.mv (.t 6)), .a 25 (.mv (.t 0)), .a 26 (.mv (.t 7)), .a 27 (.call F.dendronref01_digit [(.t 25), (.t 26)]), .a 28 (.bin .add (.t 24) (.t 27)), .a 29 (.mv (.t 1)), .a 30 (.mv (.t 7)), .a 31 (.call F.dendronref01_digit [(.t 29), (.t 30)]), .a 32 (.bin .add (.t 28) (.t 31)), .a 6 (.mv (.t 32))] [21, 24, 25, 26, 27, 28, 29, 30, 31, 32] [])
  (.seq (.reg [] [.a 33 (.mv (.t 5)), .a 34 (.mv (.t 6)), .a 35 (.bin .rem (.t 34) (.c (.int .i64 10000))), .a 36 (.lit 1 1 [(.int .i64 0)] [(0, 1, (.t 35))]), .a 37 (.app 1 8 (.t 33) (.t 36)), .a 5 (.mv (.t 37))] [33, 34, 35, 36, 37] [])
  (.reg [] [.a 38 (.mv (.t 6)), .a 39 (.bin .quo (.t 38) (.c (.int .i64 10000))), .a 6 (.mv (.t 39))] [38, 39] []))))
  (.reg [] [.a 22 (.mv (.t 7)), .a 23 (.bin .add (.t 22) (.c (.int .i64 1))), .a 7 (.mv (.t 23))] [22, 23] [])))
def dendronref01_Plus : R.Fn := ⟨2, [(.t 4)], (.seq (.reg [] [.a 4 (.mv (.c (.sl 1 [])))] [4] [])
  (.seq (.reg [] [.a 5 (.nil 1)] [] [])
  (.seq (.reg [] [.a 6 (.mv (.c (.int .i64 0)))] [] [])
  (.seq (.seq (.reg [] [.a 7 (.mv (.c (.int .i64 0)))] [] [])
  (.block 0 (.loop [] [] dendronref01_Plus.b0)))
  (.seq (.reg [] [.a 40 (.mv (.t 5)), .a 4 (.mv (.t 40))] [0, 1, 5, 6, 7, 21, 40] [])
  .ret)))))⟩
def dendronref01_Plus.hint : R.Hint := { nil := [5], kill := [(0, [4], []), (4, [8, 9, 10, 11, 12, 13, 14, 15, 16, 17, 18, 19, 20], []), (5, [22, 23], []), (6, [21, 24, 25, 26, 27, 28, 29, 30, 31, 32], []), (7, [33, 34, 35, 36, 37], []), (8, [38, 39], []), (9, [0, 1, 5, 6, 7, 21, 40], [])] }
theorem dendronref01_Plus.ok : cFn Tryd.prog dendronref01_Plus.hint Tryd.f83 = some dendronref01_Plus := by kernel_rfl
def dendronref01_Times.b2 : R.C := (.seq (.seq (.reg [] [.a 21 (.mv (.t 8)), .a 22 (.mv (.t 1)), .a 23 (.ln (.t 22)), .a 24 (.bin .lss (.t 21) (.t 23))] [21, 22, 23] [])
  (.cond (.t 24) .skip (.exit 2)))
  (.seq (.block 3 (.seq (.reg [] [.a 27 (.mv (.t 7)), .a 28 (.mv (.t 5)), .a 29 (.mv (.t 6)), .a 30 (.mv (.t 8)), .a 31 (.bin .add (.t 29) (.t 30)), .a 32 (.iA 1 (.t 28) (.t 31)), .a 33 (.ld 1 false (.t 32)), .a 34 (.bin .add (.t 27) (.t 33)), .a 35 (.mv (.t 0)), .a 36 (.mv (.t 6)), .a 37 (.iA 1 (.t 35) (.t 36)), .a 38 (.ld 1 false (.t 37)), .a 39 (.mv (.t 1)), .a 40 (.mv (.t 8)), .a 41 (.iA 1 (.t 39) (.t 40)), .a 42 (.ld 1 false (.t 41)), .a 43 (.bin .mul (.t 38) (.t 42)), .a 44 (.bin .add (.t 34) (.t 43)), .a 7 (.mv (.t 44))] [24, 27, 28, 29, 30, 31, 32, 33, 34, 35, 36, 37, 38, 39, 40, 41, 42, 43, 44] [])
  (.seq (.reg [] [.a 45 (.mv (.t 5)), .a 46 (.mv (.t 6)), .a 47 (.mv (.t 8)), .a 48 (.bin .add (.t 46) (.t 47)), .a 49 (.mv (.t 7)), .a 50 (.bin .rem (.t 49) (.c (.int .i64 10000))), .a 51 (.iA 1 (.t 45) (.t 48)), .n (.st 1 (.t 51) (.t 50))] [45, 46, 47, 48, 49, 50, 51] [])
  (.reg [] [.a 52 (.mv (.t 7)), .a 53 (.bin .quo (.t 52) (.c (.int .i64 10000))), .a 7 (.mv (.t 53))] [52, 53] []))))
  (.reg [] [.a 25 (.mv (.t 8)), .a 26 (.bin .add (.t 25) (.c (.int .i64 1))), .a 8 (.mv (.t 26))] [25, 26] [])))
def dendronref01_Times.b0 : R.C := (.seq (.seq (.reg [] [.a 15 (.mv (.t 6)), .a 16 (.mv (.t 0)), .a 17 (.ln (.t 16)), .a 18 (.bin .lss (.t 15) (.t 17))] [15, 16, 17] [])
  (.cond (.t 18) .skip (.exit 0)))
  (.seq (.block 1 (.seq (.reg [] [.a 7 (.mv (.c (.int .i64 0)))] [18] [])
  (.seq (.seq (.reg [] [.a 8 (.mv (.c (.int .i64 0)))] [] [])
  (.block 2 (.loop [] [] dendronref01_Times.b2)))
  (.reg [] [.a 54 (.mv (.t 5)), .a 55 (.mv (.t 6)), .a 56 (.mv (.t 1)), .a 57 (.ln (.t 56)), .a 58 (.bin .add (.t 55) (.t 57)), .a 59 (.mv (.t 7)), .a 60 (.iA 1 (.t 54) (.t 58)), .n (.st 1 (.t 60) (.t 59))] [7, 8, 24, 54, 55, 56, 57, 58, 59, 60] []))))
  (.reg [] [.a 19 (.mv (.t 6)), .a 20 (.bin .add (.t 19) (.c (.int .i64 1))), .a 6 (.mv (.t 20))] [19, 20] [])))
def dendronref01_Times : R.Fn := ⟨2, [(.t 4)], (.seq (.reg [] [.a 4 (.mv (.c (.sl 1 [])))] [4] [])
  (.seq (.reg [] [.a 9 (.mv (.t 0)), .a 10 (.ln (.t 9)), .a 11 (.mv (.t 1)), .a 12 (.ln (.t 11)), .a 13 (.bin .add (.t 10) (.t 12)), .a 14 (.mk 1 8 [(.int .i64 0)] (.t 13) (.t 13)), .a 5 (.mv (.t 14))] [9, 10, 11, 12, 13, 14] [])
  (.seq (.seq (.reg [] [.a 6 (.mv (.c (.int .i64 0)))] [] [])
  (.block 0 (.loop [] [] dendronref01_Times.b0)))
  (.seq (.reg [5] [.a 61 (.mv (.t 5)), .a 62 (.call F.dendronref01_Trim [(.t 61)]), .a 4 (.mv (.t 62))] [0, 1, 5, 6, 18, 61, 62] [14])
  .ret))))⟩
def dendronref01_Times.hint : R.Hint := { pub := [(13, [5])], kill := [(0, [4], []), (1, [9, 10, 11, 12, 13, 14], []), (3, [15, 16, 17], []), (4, [19, 20], []), (5, [18], []), (7, [21, 22, 23], []), (8, [25, 26], []), (9, [24, 27, 28, 29, 30, 31, 32, 33, 34, 35, 36, 37, 38, 39, 40, 41, 42, 43, 44], []), (10, [45, 46, 47, 48, 49, 50, 51], []), (11, [52, 53], []), (12, [7, 8, 24, 54, 55, 56, 57, 58, 59, 60], []), (13, [0, 1, 5, 6, 18, 61, 62], [14])] }
theorem dendronref01_Times.ok : cFn Tryd.prog dendronref01_Times.hint Tryd.f84 = some dendronref01_Times := by kernel_rfl
def dendronref02_Small : R.Fn := ⟨1, [(.cell 2 2 true)], (.seq (.reg [] [.a 2 (.new [(.bool false), (.sl 1 [])])] [] [])
  (.seq (.seq (.reg [] [.a 3 (.mv (.t 0)), .a 4 (.bin .lss (.t 3) (.c (.int .i64 0)))] [3] [])
  (.cond (.t 4) (.seq (.reg [] [.a 5 (.mv (.t 0)), .a 6 (.bin .add (.t 5) (.c (.int .i64 1))), .a 7 (.bin .sub (.c (.int .i64 0)) (.t 6)), .a 8 (.call F.dendronref01_Small [(.t 7)]), .a 9 (.call F.dendronref01_Small [(.c (.int .i64 1))]), .a 10 (.call F.dendronref01_Plus [(.t 8), (.t 9)]), .a 11 (.call F.dendronref02_Make [(.c (.bool true)), (.t 10)]), .n (.st 2 (.t 2) (.t 11))] [0, 4, 5, 6, 7, 8, 9, 10, 11] [])
  .ret) .skip))
  (.seq (.reg [] [.a 12 (.mv (.t 0)), .a 13 (.call F.dendronref01_Small [(.t 12)]), .a 14 (.call F.dendronref02_Make [(.c (.bool false)), (.t 13)]), .n (.st 2 (.t 2) (.t 14))] [0, 4, 12, 13, 14] [])
  .ret)))⟩
def dendronref02_Small.hint : R.Hint := { kill := [(1, [3], []), (2, [0, 4, 5, 6, 7, 8, 9, 10, 11], []), (3, [0, 4, 12, 13, 14], [])] }
theorem dendronref02_Small.ok : cFn Tryd.prog dendronref02_Small.hint Tryd.f85 = some dendronref02_Small := by kernel_rfl
def dendronref02_Make : R.Fn := ⟨2, [(.cell 4 2 true)], (.seq (.reg [] [.a 4 (.new [(.bool false), (.sl 1 [])])] [] [])
  (.seq (.reg [] [.a 5 (.mv (.t 0)), .a 6 (.mv (.t 5)), .g 7 6 true (.mv (.t 1)), .g 8 6 true (.ln (.t 7)), .g 9 6 true (.bin .gtr (.t 8) (.c (.int .i64 0))), .a 10 (.pick (.t 6) (.t 9) (.c (.bool false))), .a 11 (.mv (.t 1)), .a 12 (.bld [(.bool false), (.sl 1 [])] [(0, 1, (.t 10)), (1, 1, (.t 11))]), .n (.st 2 (.t 4) (.t 12))] [0, 1, 5, 6, 7, 8, 9, 10, 11, 12] [])
  .ret))⟩
def dendronref02_Make.hint : R.Hint := { kill := [(1, [0, 1, 5, 6, 7, 8, 9, 10, 11, 12], [])] }
theorem dendronref02_Make.ok : cFn Tryd.prog dendronref02_Make.hint Tryd.f86 = some dendronref02_Make := by kernel_rfl
def nat_take.b0 : R.C := (.seq (.reg [] [.a 14 (.bin .lss (.t 13) (.t 12))] [] [])
  (.seq (.cond (.t 14) .skip (.exit 0))
  (.seq (.block 1 (.seq (.reg [] [.a 15 (.mv (.t 13)), .a 9 (.mv (.t 15))] [14, 15] [])
  (.seq (.reg [] [.a 16 (.mv (.t 7)), .a 17 (.mv (.t 2)), .a 18 (.mv (.t 1)), .a 19 (.mv (.t 9)), .a 20 (.call F.nat_limb [(.t 18), (.t 19)]), .a 21 (.bin .mul (.t 17) (.t 20)), .a 22 (.bin .add (.t 16) (.t 21)), .a 7 (.mv (.t 22))] [16, 17, 18, 19, 20, 21, 22] [])
  (.seq (.reg [] [.a 23 (.mv (.t 0)), .a 24 (.mv (.t 9)), .a 25 (.iA 1 (.t 23) (.t 24)), .a 26 (.ld 1 false (.t 25)), .a 27 (.bin .add (.c (.int .u64 4294967296)) (.t 26)), .a 28 (.mv (.t 7)), .a 29 (.bin .and (.t 28) (.c (.int .u64 4294967295))), .a 30 (.bin .sub (.t 27) (.t 29)), .a 31 (.mv (.t 8)), .a 32 (.bin .sub (.t 30) (.t 31)), .a 10 (.mv (.t 32))] [8, 23, 24, 25, 26, 27, 28, 29, 30, 31, 32] [])
  (.seq (.reg [] [.a 33 (.mv (.t 0)), .a 34 (.mv (.t 9)), .a 35 (.mv (.t 10)), .a 36 (.bin .and (.t 35) (.c (.int .u64 4294967295))), .a 37 (.iA 1 (.t 33) (.t 34)), .n (.st 1 (.t 37) (.t 36))] [9, 33, 34, 35, 36, 37] [])
  (.seq (.reg [] [.a 38 (.mv (.t 10)), .a 39 (.bin .shr (.t 38) (.c (.int .u64 32))), .a 40 (.bin .sub (.c (.int .u64 1)) (.t 39)), .a 8 (.mv (.t 40))] [10, 38, 39, 40] [])
  (.reg [] [.a 41 (.mv (.t 7)), .a 42 (.bin .shr (.t 41) (.c (.int .u64 32))), .a 7 (.mv (.t 42))] [41, 42] [])))))))
  (.reg [] [.a 43 (.bin .add (.t 13) (.c (.int .i64 1))), .a 13 (.mv (.t 43))] [43] []))))
def nat_take : R.Fn := ⟨3, [(.own 6)], (.seq (.reg [] [.a 6 (.mv (.c (.bool false)))] [6] [])
  (.seq (.reg [] [.a 7 (.mv (.c (.int .u64 0))), .a 8 (.mv (.c (.int .u64 0)))] [] [])
  (.seq (.seq (.reg [] [.a 11 (.mv (.t 0)), .a 12 (.ln (.t 11)), .a 13 (.mv (.c (.int .i64 0)))] [11] [])
  (.block 0 (.loop [] [] nat_take.b0)))
  (.seq (.reg [] [.a 44 (.mv (.t 8)), .a 45 (.bin .eql (.t 44) (.c (.int .u64 1))), .a 6 (.mv (.t 45))] [0, 1, 2, 7, 8, 12, 13, 14, 44, 45] [])
  .ret))))⟩
def nat_take.hint : R.Hint := { kill := [(0, [6], []), (2, [11], []), (4, [14, 15], []), (5, [16, 17, 18, 19, 20, 21, 22], []), (6, [8, 23, 24, 25, 26, 27, 28, 29, 30, 31, 32], []), (7, [9, 33, 34, 35, 36, 37], []), (8, [10, 38, 39, 40], []), (9, [41, 42], []), (10, [43], []), (11, [0, 1, 2, 7, 8, 12, 13, 14, 44, 45], [])], own := true }
theorem nat_take.ok : cFn Tryd.prog nat_take.hint Tryd.f87 = some nat_take := by kernel_rfl
def nat_give.b0 : R.C := (.seq (.reg [] [.a 9 (.bin .lss (.t 8) (.t 7))] [] [])
  (.seq (.cond (.t 9) .skip (.exit 0))
  (.seq (.block 1 (.seq (.reg [] [.a 10 (.mv (.t 8)), .a 5 (.mv (.t 10))] [9, 10] [])
  (.seq (.reg [] [.a 11 (.mv (.t 4)), .a 12 (.mv (.t 0)), .a 13 (.mv (.t 5)), .a 14 (.iA 1 (.t 12) (.t 13)), .a 15 (.ld 1 false (.t 14)), .a 16 (.mv (.t 1)), .a 17 (.mv (.t 5)), .a 18 (.call F.nat_limb [(.t 16), (.t 17)]), .a 19 (.bin .add (.t 15) (.t 18)), .a 20 (.bin .add (.t 11) (.t 19)), .a 4 (.mv (.t 20))] [11, 12, 13, 14, 15, 16, 17, 18, 19, 20] [])
  (.seq (.reg [] [.a 21 (.mv (.t 0)), .a 22 (.mv (.t 5)), .a 23 (.mv (.t 4)), .a 24 (.bin .and (.t 23) (.c (.int .u64 4294967295))), .a 25 (.iA 1 (.t 21) (.t 22)), .n (.st 1 (.t 25) (.t 24))] [5, 21, 22, 23, 24, 25] [])
  (.reg [] [.a 26 (.mv (.t 4)), .a 27 (.bin .shr (.t 26) (.c (.int .u64 32))), .a 4 (.mv (.t 27))] [26, 27] [])))))
  (.reg [] [.a 28 (.bin .add (.t 8) (.c (.int .i64 1))), .a 8 (.mv (.t 28))] [28] []))))
def nat_give : R.Fn := ⟨2, [], (.seq (.reg [] [.a 4 (.mv (.c (.int .u64 0)))] [] [])
  (.seq (.reg [] [.a 6 (.mv (.t 0)), .a 7 (.ln (.t 6)), .a 8 (.mv (.c (.int .i64 0)))] [6] [])
  (.block 0 (.loop [] [] nat_give.b0))))⟩
def nat_give.hint : R.Hint := { kill := [(1, [6], []), (3, [9, 10], []), (4, [11, 12, 13, 14, 15, 16, 17, 18, 19, 20], []), (5, [5, 21, 22, 23, 24, 25], []), (6, [26, 27], []), (7, [28], [])], own := true }
theorem nat_give.ok : cFn Tryd.prog nat_give.hint Tryd.f88 = some nat_give := by kernel_rfl
def dendronref01_Over.b2 : R.C := (.seq (.seq (.reg [] [.a 35 (.mv (.t 11)), .a 36 (.mv (.t 10)), .a 37 (.bin .sub (.t 35) (.t 36)), .a 38 (.bin .gtr (.t 37) (.c (.int .i64 1)))] [35, 36, 37] [])
  (.cond (.t 38) .skip (.exit 2)))
  (.block 3 (.seq (.reg [] [.a 39 (.mv (.t 10)), .a 40 (.mv (.t 11)), .a 41 (.bin .add (.t 39) (.t 40)), .a 42 (.bin .quo (.t 41) (.c (.int .i64 2))), .a 12 (.mv (.t 42))] [38, 39, 40, 41, 42] [])
  (.seq (.reg [] [.a 43 (.mv (.t 1)), .a 44 (.mv (.t 12)), .a 45 (.call F.dendronref01_Small [(.t 44)]), .a 46 (.call F.dendronref01_Times [(.t 43), (.t 45)]), .a 47 (.mv (.t 7)), .a 48 (.call F.dendronref01_Order [(.t 46), (.t 47)]), .a 49 (.bin .leq (.t 48) (.c (.int .i64 0)))] [43, 44, 45, 46, 47, 48] [])
  (.cond (.t 49) (.reg [] [.a 50 (.mv (.t 12)), .a 10 (.mv (.t 50))] [12, 49, 50] []) (.reg [] [.a 51 (.mv (.t 12)), .a 11 (.mv (.t 51))] [12, 49, 51] []))))))
def dendronref01_Over.b0 : R.C := (.seq (.seq (.reg [] [.a 19 (.mv (.t 8)), .a 20 (.bin .geq (.t 19) (.c (.int .i64 0)))] [19] [])
  (.cond (.t 20) .skip (.exit 0)))
  (.seq (.block 1 (.seq (.reg [] [.a 9 (.nil 1)] [20] [])
  (.seq (.reg [] [.a 23 (.mv (.t 9)), .a 24 (.mv (.t 0)), .a 25 (.mv (.t 8)), .a 26 (.iA 1 (.t 24) (.t 25)), .a 27 (.ld 1 false (.t 26)), .a 28 (.lit 1 1 [(.int .i64 0)] [(0, 1, (.t 27))]), .a 29 (.app 1 8 (.t 23) (.t 28)), .a 9 (.mv (.t 29))] [23, 24, 25, 26, 27, 28, 29] [])
  (.seq (.reg [] [.a 30 (.mv (.t 9)), .a 31 (.mv (.t 7)), .a 32 (.app 1 8 (.t 30) (.t 31)), .a 9 (.mv (.t 32))] [7, 30, 31, 32] [])
  (.seq (.reg [9] [.a 33 (.mv (.t 9)), .a 34 (.call F.dendronref01_Trim [(.t 33)]), .a 7 (.mv (.t 34))] [9, 33, 34] [9])
  (.seq (.reg [] [.a 10 (.mv (.c (.int .i64 0)))] [] [])
  (.seq (.reg [] [.a 11 (.mv (.c (.int .i64 10000)))] [] [])
  (.seq (.block 2 (.loop [] [] dendronref01_Over.b2))
  (.seq (.reg [] [.a 52 (.mv (.t 6)), .a 53 (.mv (.t 8)), .a 54 (.mv (.t 10)), .a 55 (.iA 1 (.t 52) (.t 53)), .n (.st 1 (.t 55) (.t 54))] [11, 38, 52, 53, 54, 55] [])
  (.reg [] [.a 56 (.mv (.t 7)), .a 57 (.mv (.t 1)), .a 58 (.mv (.t 10)), .a 59 (.call F.dendronref01_Small [(.t 58)]), .a 60 (.call F.dendronref01_Times [(.t 57), (.t 59)]), .a 61 (.call F.dendronref01_Minus [(.t 56), (.t 60)]), .a 7 (.mv (.t 61))] [10, 56, 57, 58, 59, 60, 61] []))))))))))
  (.reg [] [.a 21 (.mv (.t 8)), .a 22 (.bin .sub (.t 21) (.c (.int .i64 1))), .a 8 (.mv (.t 22))] [21, 22] [])))
def dendronref01_Over : R.Fn := ⟨2, [(.t 4), (.t 5)], (.seq (.reg [] [.a 4 (.mv (.c (.sl 1 []))), .a 5 (.mv (.c (.sl 1 [])))] [4, 5] [])
  (.seq (.reg [] [.a 13 (.mv (.t 0)), .a 14 (.ln (.t 13)), .a 15 (.mk 1 8 [(.int .i64 0)] (.t 14) (.t 14)), .a 6 (.mv (.t 15))] [13, 14, 15] [])
  (.seq (.reg [] [.a 7 (.mv (.c (.sl 1 [])))] [] [])
  (.seq (.seq (.reg [] [.a 16 (.mv (.t 0)), .a 17 (.ln (.t 16)), .a 18 (.bin .sub (.t 17) (.c (.int .i64 1))), .a 8 (.mv (.t 18))] [16, 17, 18] [])
  (.block 0 (.loop [] [] dendronref01_Over.b0)))
  (.seq (.reg [6] [.a 62 (.mv (.t 6)), .a 63 (.call F.dendronref01_Trim [(.t 62)]), .a 64 (.mv (.t 7)), .a 4 (.mv (.t 63)), .a 5 (.mv (.t 64))] [0, 1, 6, 7, 8, 20, 62, 63, 64] [15])
  .ret)))))⟩
def dendronref01_Over.hint : R.Hint := { nil := [9], pub := [(9, [9]), (19, [6])], kill := [(0, [4, 5], []), (1, [13, 14, 15], []), (3, [16, 17, 18], []), (4, [19], []), (5, [21, 22], []), (6, [20], []), (7, [23, 24, 25, 26, 27, 28, 29], []), (8, [7, 30, 31, 32], []), (9, [9, 33, 34], [9]), (12, [35, 36, 37], []), (13, [38, 39, 40, 41, 42], []), (14, [43, 44, 45, 46, 47, 48], []), (15, [12, 49, 50], []), (16, [12, 49, 51], []), (17, [11, 38, 52, 53, 54, 55], []), (18, [10, 56, 57, 58, 59, 60, 61], []), (19, [0, 1, 6, 7, 8, 20, 62, 63, 64], [15])] }
theorem dendronref01_Over.ok : cFn Tryd.prog dendronref01_Over.hint Tryd.f89 = some dendronref01_Over := by kernel_rfl
def dendronref01_digit : R.Fn := ⟨2, [(.t 4)], (.seq (.reg [] [.a 4 (.mv (.c (.int .i64 0)))] [4] [])
  (.seq (.seq (.reg [] [.a 5 (.mv (.t 1)), .a 6 (.mv (.t 0)), .a 7 (.ln (.t 6)), .a 8 (.bin .lss (.t 5) (.t 7))] [5, 6, 7] [])
  (.cond (.t 8) (.seq (.reg [] [.a 9 (.mv (.t 0)), .a 10 (.mv (.t 1)), .a 11 (.iA 1 (.t 9) (.t 10)), .a 12 (.ld 1 false (.t 11)), .a 4 (.mv (.t 12))] [0, 1, 8, 9, 10, 11, 12] [])
  .ret) .skip))
  (.seq (.reg [] [.a 4 (.mv (.c (.int .i64 0)))] [0, 1, 8] [])
  .ret)))⟩
def dendronref01_digit.hint : R.Hint := { kill := [(0, [4], []), (1, [5, 6, 7], []), (2, [0, 1, 8, 9, 10, 11, 12], []), (3, [0, 1, 8], [])] }
theorem dendronref01_digit.ok : cFn Tryd.prog dendronref01_digit.hint Tryd.f90 = some dendronref01_digit := by kernel_rfl
def dendronref01_Trim.b0 : R.C := (.seq (.seq (.reg [] [.a 6 (.mv (.t 3)), .a 7 (.bin .gtr (.t 6) (.c (.int .i64 0))), .a 8 (.mv (.t 7)), .g 9 8 true (.mv (.t 0)), .g 10 8 true (.mv (.t 3)), .g 11 8 true (.bin .sub (.t 10) (.c (.int .i64 1))), .g 12 8 true (.iA 1 (.t 9) (.t 11)), .g 13 8 true (.ld 1 false (.t 12)), .g 14 8 true (.bin .eql (.t 13) (.c (.int .i64 0))), .a 15 (.pick (.t 8) (.t 14) (.c (.bool false)))] [6, 7, 8, 9, 10, 11, 12, 13, 14] [])
  (.cond (.t 15) .skip (.exit 0)))
  (.block 1 (.reg [] [.a 16 (.mv (.t 3)), .a 17 (.bin .sub (.t 16) (.c (.int .i64 1))), .a 3 (.mv (.t 17))] [15, 16, 17] [])))
def dendronref01_Trim : R.Fn := ⟨1, [(.t 2)], (.seq (.reg [] [.a 2 (.mv (.c (.sl 1 [])))] [2] [])
  (.seq (.reg [] [.a 4 (.mv (.t 0)), .a 5 (.ln (.t 4)), .a 3 (.mv (.t 5))] [4, 5] [])
  (.seq (.block 0 (.loop [] [] dendronref01_Trim.b0))
  (.seq (.reg [] [.a 18 (.mv (.t 0)), .a 19 (.mv (.t 3)), .a 20 (.slc 1 (.t 18) none (some (.t 19))), .a 2 (.mv (.t 20))] [0, 3, 15, 18, 19, 20] [])
  .ret))))⟩
def dendronref01_Trim.hint : R.Hint := { kill := [(0, [2], []), (1, [4, 5], []), (2, [6, 7, 8, 9, 10, 11, 12, 13, 14], []), (3, [15, 16, 17], []), (4, [0, 3, 15, 18, 19, 20], [])] }
theorem dendronref01_Trim.ok : cFn Tryd.prog dendronref01_Trim.hint Tryd.f91 = some dendronref01_Trim := by kernel_rfl
def dendronref01_Minus.b0 : R.C := (.seq (.seq (.reg [] [.a 9 (.mv (.t 7)), .a 10 (.mv (.t 0)), .a 11 (.ln (.t 10)), .a 12 (.bin .lss (.t 9) (.t 11))] [9, 10, 11] [])
  (.cond (.t 12) .skip (.exit 0)))
  (.seq (.block 1 (.seq (.reg [] [.a 15 (.mv (.t 0)), .a 16 (.mv (.t 7)), .a 17 (.iA 1 (.t 15) (.t 16)), .a 18 (.ld 1 false (.t 17)), .a 19 (.mv (.t 1)), .a 20 (.mv (.t 7)), .a 21 (.call F.dendronref01_digit [(.t 19), (.t 20)]), .a 22 (.bin .sub (.t 18) (.t 21)), .a 23 (.mv (.t 6)), .a 24 (.bin .sub (.t 22) (.t 23)), .a 8 (.mv (.t 24))] [6, 12, 15, 16, 17, 18, 19, 20, 21, 22, 23, 24] [])
  (.seq (.reg [] [.a 6 (.mv (.c (.int .i64 0)))] [] [])
  (.seq (.seq (.reg [] [.a 25 (.mv (.t 8)), .a 26 (.bin .lss (.t 25) (.c (.int .i64 0)))] [25] [])
  (.cond (.t 26) (.seq (.reg [] [.a 27 (.mv (.t 8)), .a 28 (.bin .add (.t 27) (.c (.int .i64 10000))), .a 8 (.mv (.t 28))] [6, 26, 27, 28] [])
  (.reg [] [.a 6 (.mv (.c (.int .i64 1)))] [] [])) .skip))
  (.reg [] [.a 29 (.mv (.t 5)), .a 30 (.mv (.t 8)), .a 31 (.lit 1 1 [(.int .i64 0)] [(0, 1, (.t 30))]), .a 32 (.app 1 8 (.t 29) (.t 31)), .a 5 (.mv (.t 32))] [8, 26, 29, 30, 31, 32] [])))))
  (.reg [] [.a 13 (.mv (.t 7)), .a 14 (.bin .add (.t 13) (.c (.int .i64 1))), .a 7 (.mv (.t 14))] [13, 14] [])))
def dendronref01_Minus : R.Fn := ⟨2, [(.t 4)], (.seq (.reg [] [.a 4 (.mv (.c (.sl 1 [])))] [4] [])
  (.seq (.reg [] [.a 5 (.nil 1)] [] [])
  (.seq (.reg [] [.a 6 (.mv (.c (.int .i64 0)))] [] [])
  (.seq (.seq (.reg [] [.a 7 (.mv (.c (.int .i64 0)))] [] [])
  (.block 0 (.loop [] [] dendronref01_Minus.b0)))
  (.seq (.reg [5] [.a 33 (.mv (.t 5)), .a 34 (.call F.dendronref01_Trim [(.t 33)]), .a 4 (.mv (.t 34))] [0, 1, 5, 6, 7, 12, 33, 34] [5])
  .ret)))))⟩
def dendronref01_Minus.hint : R.Hint := { nil := [5], pub := [(12, [5])], kill := [(0, [4], []), (4, [9, 10, 11], []), (5, [13, 14], []), (6, [6, 12, 15, 16, 17, 18, 19, 20, 21, 22, 23, 24], []), (8, [25], []), (9, [6, 26, 27, 28], []), (11, [8, 26, 29, 30, 31, 32], []), (12, [0, 1, 5, 6, 7, 12, 33, 34], [5])] }
theorem dendronref01_Minus.ok : cFn Tryd.prog dendronref01_Minus.hint Tryd.f92 = some dendronref01_Minus := by kernel_rfl
def tab : List (Nat × R.Fn) := [(F.dendronlaw21_OrdersMeans, dendronlaw21_OrdersMeans), (F.dendronlaw21_OrdersAheads, dendronlaw21_OrdersAheads), (F.dendronlaw19_Few, dendronlaw19_Few), (F.dendronlaw21_few, dendronlaw21_few), (F.orders_Mean, orders_Mean), (F.dendronlaw19_Size, dendronlaw19_Size), (F.dendronlaw21_awake, dendronlaw21_awake), (F.dendronlaw21_right, dendronlaw21_right), (F.dendronlaw21_adds, dendronlaw21_adds), (F.ratio_Add, ratio_Add), (F.ratio_Mul, ratio_Mul), (F.ratio_Frac, ratio_Frac), (F.dendronref10_All, dendronref10_All), (F.orders_Ahead, orders_Ahead), (F.orders_All, orders_All), (F.dendronlaw21_place, dendronlaw21_place), (F.dendronlaw19_number, dendronlaw19_number), (F.game_Players, game_Players), (F.ratio_Zero, ratio_Zero), (F.orders_Adds, orders_Adds), (F.dendronlaw19_two, dendronlaw19_two), (F.orders_Next, orders_Next), (F.dendronlaw21_same, dendronlaw21_same), (F.dendronlaw21_two, dendronlaw21_two), (F.ratio_Sub, ratio_Sub), (F.ratio_Clean, ratio_Clean), (F.ratio_form, ratio_form), (F.whole_Add, whole_Add), (F.whole_Mul, whole_Mul), (F.ratio_den, ratio_den), (F.nat_Mul, nat_Mul), (F.ratio_Make, ratio_Make), (F.whole_Of, whole_Of), (F.dendronref10_Is, dendronref10_Is), (F.orders_First, orders_First), (F.bits_Len, bits_Len), (F.nat_Of, nat_Of), (F.ratio_Neg, ratio_Neg), (F.nat_Clean, nat_Clean), (F.whole_Clean, whole_Clean), (F.nat_Gcd, nat_Gcd), (F.nat_DivMod, nat_DivMod), (F.whole_sign, whole_sign), (F.nat_Add, nat_Add), (F.nat_Cmp, nat_Cmp), (F.nat_Sub, nat_Sub), (F.nat_trim, nat_trim), (F.whole_Sign, whole_Sign), (F.whole_Neg, whole_Neg), (F.dendronref03_Is, dendronref03_Is), (F.dendronref03_From, dendronref03_From), (F.bits_Len32, bits_Len32), (F.bits_Len64, bits_Len64), (F.nat_euclid, nat_euclid), (F.nat_zeros, nat_zeros), (F.nat_shr, nat_shr), (F.nat_order, nat_order), (F.nat_shl, nat_shl), (F.nat_rest, nat_rest), (F.nat_minus, nat_minus), (F.nat_small, nat_small), (F.nat_long, nat_long), (F.nat_limb, nat_limb), (F.dendronref03_Right, dendronref03_Right), (F.dendronref03_Order, dendronref03_Order), (F.dendronref01_From, dendronref01_From), (F.dendronref03_Small, dendronref03_Small), (F.dendronref02_From, dendronref02_From), (F.nat_To, nat_To), (F.bits_LeadingZeros32, bits_LeadingZeros32), (F.nat_digit, nat_digit), (F.dendronref01_Right, dendronref01_Right), (F.dendronref01_Gcd, dendronref01_Gcd), (F.dendronref01_Order, dendronref01_Order), (F.dendronref01_Small, dendronref01_Small), (F.dendronref02_Order, dendronref02_Order), (F.dendronref02_Times, dendronref02_Times), (F.dendronref03_den, dendronref03_den), (F.dendronref01_Plus, dendronref01_Plus), (F.dendronref01_Times, dendronref01_Times), (F.dendronref02_Small, dendronref02_Small), (F.dendronref02_Make, dendronref02_Make), (F.nat_take, nat_take), (F.nat_give, nat_give), (F.dendronref01_Over, dendronref01_Over), (F.dendronref01_digit, dendronref01_digit), (F.dendronref01_Trim, dendronref01_Trim), (F.dendronref01_Minus, dendronref01_Minus)]
def ip : R.Ip := fun f => aget tab f
theorem dendronlaw21_OrdersMeans.ip : ip F.dendronlaw21_OrdersMeans = some dendronlaw21_OrdersMeans := rfl
theorem dendronlaw21_OrdersAheads.ip : ip F.dendronlaw21_OrdersAheads = some dendronlaw21_OrdersAheads := rfl
theorem dendronlaw19_Few.ip : ip F.dendronlaw19_Few = some dendronlaw19_Few := rfl
theorem dendronlaw21_few.ip : ip F.dendronlaw21_few = some dendronlaw21_few := rfl
theorem orders_Mean.ip : ip F.orders_Mean = some orders_Mean := rfl
theorem dendronlaw19_Size.ip : ip F.dendronlaw19_Size = some dendronlaw19_Size := rfl
theorem dendronlaw21_awake.ip : ip F.dendronlaw21_awake = some dendronlaw21_awake := rfl
theorem dendronlaw21_right.ip : ip F.dendronlaw21_right = some dendronlaw21_right := rfl
theorem dendronlaw21_adds.ip : ip F.dendronlaw21_adds = some dendronlaw21_adds := rfl
theorem ratio_Add.ip : ip F.ratio_Add = some ratio_Add := rfl
theorem ratio_Mul.ip : ip F.ratio_Mul = some ratio_Mul := rfl
theorem ratio_Frac.ip : ip F.ratio_Frac = some ratio_Frac := rfl
theorem dendronref10_All.ip : ip F.dendronref10_All = some dendronref10_All := rfl
theorem orders_Ahead.ip : ip F.orders_Ahead = some orders_Ahead := rfl
theorem orders_All.ip : ip F.orders_All = some orders_All := rfl
theorem dendronlaw21_place.ip : ip F.dendronlaw21_place = some dendronlaw21_place := rfl
theorem dendronlaw19_number.ip : ip F.dendronlaw19_number = some dendronlaw19_number := rfl
theorem game_Players.ip : ip F.game_Players = some game_Players := rfl
theorem ratio_Zero.ip : ip F.ratio_Zero = some ratio_Zero := rfl
theorem orders_Adds.ip : ip F.orders_Adds = some orders_Adds := rfl
theorem dendronlaw19_two.ip : ip F.dendronlaw19_two = some dendronlaw19_two := rfl
theorem orders_Next.ip : ip F.orders_Next = some orders_Next := rfl
theorem dendronlaw21_same.ip : ip F.dendronlaw21_same = some dendronlaw21_same := rfl
theorem dendronlaw21_two.ip : ip F.dendronlaw21_two = some dendronlaw21_two := rfl
theorem ratio_Sub.ip : ip F.ratio_Sub = some ratio_Sub := rfl
theorem ratio_Clean.ip : ip F.ratio_Clean = some ratio_Clean := rfl
theorem ratio_form.ip : ip F.ratio_form = some ratio_form := rfl
theorem whole_Add.ip : ip F.whole_Add = some whole_Add := rfl
theorem whole_Mul.ip : ip F.whole_Mul = some whole_Mul := rfl
theorem ratio_den.ip : ip F.ratio_den = some ratio_den := rfl
theorem nat_Mul.ip : ip F.nat_Mul = some nat_Mul := rfl
theorem ratio_Make.ip : ip F.ratio_Make = some ratio_Make := rfl
theorem whole_Of.ip : ip F.whole_Of = some whole_Of := rfl
theorem dendronref10_Is.ip : ip F.dendronref10_Is = some dendronref10_Is := rfl
theorem orders_First.ip : ip F.orders_First = some orders_First := rfl
theorem bits_Len.ip : ip F.bits_Len = some bits_Len := rfl
theorem nat_Of.ip : ip F.nat_Of = some nat_Of := rfl
theorem ratio_Neg.ip : ip F.ratio_Neg = some ratio_Neg := rfl
theorem nat_Clean.ip : ip F.nat_Clean = some nat_Clean := rfl
theorem whole_Clean.ip : ip F.whole_Clean = some whole_Clean := rfl
theorem nat_Gcd.ip : ip F.nat_Gcd = some nat_Gcd := rfl
theorem nat_DivMod.ip : ip F.nat_DivMod = some nat_DivMod := rfl
theorem whole_sign.ip : ip F.whole_sign = some whole_sign := rfl
theorem nat_Add.ip : ip F.nat_Add = some nat_Add := rfl
theorem nat_Cmp.ip : ip F.nat_Cmp = some nat_Cmp := rfl
theorem nat_Sub.ip : ip F.nat_Sub = some nat_Sub := rfl
theorem nat_trim.ip : ip F.nat_trim = some nat_trim := rfl
theorem whole_Sign.ip : ip F.whole_Sign = some whole_Sign := rfl
theorem whole_Neg.ip : ip F.whole_Neg = some whole_Neg := rfl
theorem dendronref03_Is.ip : ip F.dendronref03_Is = some dendronref03_Is := rfl
theorem dendronref03_From.ip : ip F.dendronref03_From = some dendronref03_From := rfl
theorem bits_Len32.ip : ip F.bits_Len32 = some bits_Len32 := rfl
theorem bits_Len64.ip : ip F.bits_Len64 = some bits_Len64 := rfl
theorem nat_euclid.ip : ip F.nat_euclid = some nat_euclid := rfl
theorem nat_zeros.ip : ip F.nat_zeros = some nat_zeros := rfl
theorem nat_shr.ip : ip F.nat_shr = some nat_shr := rfl
theorem nat_order.ip : ip F.nat_order = some nat_order := rfl
theorem nat_shl.ip : ip F.nat_shl = some nat_shl := rfl
theorem nat_rest.ip : ip F.nat_rest = some nat_rest := rfl
theorem nat_minus.ip : ip F.nat_minus = some nat_minus := rfl
theorem nat_small.ip : ip F.nat_small = some nat_small := rfl
theorem nat_long.ip : ip F.nat_long = some nat_long := rfl
theorem nat_limb.ip : ip F.nat_limb = some nat_limb := rfl
theorem dendronref03_Right.ip : ip F.dendronref03_Right = some dendronref03_Right := rfl
theorem dendronref03_Order.ip : ip F.dendronref03_Order = some dendronref03_Order := rfl
theorem dendronref01_From.ip : ip F.dendronref01_From = some dendronref01_From := rfl
theorem dendronref03_Small.ip : ip F.dendronref03_Small = some dendronref03_Small := rfl
theorem dendronref02_From.ip : ip F.dendronref02_From = some dendronref02_From := rfl
theorem nat_To.ip : ip F.nat_To = some nat_To := rfl
theorem bits_LeadingZeros32.ip : ip F.bits_LeadingZeros32 = some bits_LeadingZeros32 := rfl
theorem nat_digit.ip : ip F.nat_digit = some nat_digit := rfl
theorem dendronref01_Right.ip : ip F.dendronref01_Right = some dendronref01_Right := rfl
theorem dendronref01_Gcd.ip : ip F.dendronref01_Gcd = some dendronref01_Gcd := rfl
theorem dendronref01_Order.ip : ip F.dendronref01_Order = some dendronref01_Order := rfl
theorem dendronref01_Small.ip : ip F.dendronref01_Small = some dendronref01_Small := rfl
theorem dendronref02_Order.ip : ip F.dendronref02_Order = some dendronref02_Order := rfl
theorem dendronref02_Times.ip : ip F.dendronref02_Times = some dendronref02_Times := rfl
theorem dendronref03_den.ip : ip F.dendronref03_den = some dendronref03_den := rfl
theorem dendronref01_Plus.ip : ip F.dendronref01_Plus = some dendronref01_Plus := rfl
theorem dendronref01_Times.ip : ip F.dendronref01_Times = some dendronref01_Times := rfl
theorem dendronref02_Small.ip : ip F.dendronref02_Small = some dendronref02_Small := rfl
theorem dendronref02_Make.ip : ip F.dendronref02_Make = some dendronref02_Make := rfl
theorem nat_take.ip : ip F.nat_take = some nat_take := rfl
theorem nat_give.ip : ip F.nat_give = some nat_give := rfl
theorem dendronref01_Over.ip : ip F.dendronref01_Over = some dendronref01_Over := rfl
theorem dendronref01_digit.ip : ip F.dendronref01_digit = some dendronref01_digit := rfl
theorem dendronref01_Trim.ip : ip F.dendronref01_Trim = some dendronref01_Trim := rfl
theorem dendronref01_Minus.ip : ip F.dendronref01_Minus = some dendronref01_Minus := rfl
theorem tab_ok : ∀ p ∈ tab, ∃ h gf, Tryd.prog.funcs[p.1]? = some gf ∧ cFn Tryd.prog h gf = some p.2 := by
  simp only [tab, List.forall_mem_cons]
  exact ⟨⟨dendronlaw21_OrdersMeans.hint, Tryd.f3, Tryd.func3, dendronlaw21_OrdersMeans.ok⟩, ⟨dendronlaw21_OrdersAheads.hint, Tryd.f4, Tryd.func4, dendronlaw21_OrdersAheads.ok⟩, ⟨dendronlaw19_Few.hint, Tryd.f5, Tryd.func5, dendronlaw19_Few.ok⟩, ⟨dendronlaw21_few.hint, Tryd.f6, Tryd.func6, dendronlaw21_few.ok⟩, ⟨orders_Mean.hint, Tryd.f7, Tryd.func7, orders_Mean.ok⟩, ⟨dendronlaw19_Size.hint, Tryd.f8, Tryd.func8, dendronlaw19_Size.ok⟩, ⟨dendronlaw21_awake.hint, Tryd.f9, Tryd.func9, dendronlaw21_awake.ok⟩, ⟨dendronlaw21_right.hint, Tryd.f10, Tryd.func10, dendronlaw21_right.ok⟩, ⟨dendronlaw21_adds.hint, Tryd.f11, Tryd.func11, dendronlaw21_adds.ok⟩, ⟨ratio_Add.hint, Tryd.f12, Tryd.func12, ratio_Add.ok⟩, ⟨ratio_Mul.hint, Tryd.f13, Tryd.func13, ratio_Mul.ok⟩, ⟨ratio_Frac.hint, Tryd.f14, Tryd.func14, ratio_Frac.ok⟩, ⟨dendronref10_All.hint, Tryd.f15, Tryd.func15, dendronref10_All.ok⟩, ⟨orders_Ahead.hint, Tryd.f16, Tryd.func16, orders_Ahead.ok⟩, ⟨orders_All.hint, Tryd.f17, Tryd.func17, orders_All.ok⟩, ⟨dendronlaw21_place.hint, Tryd.f18, Tryd.func18, dendronlaw21_place.ok⟩, ⟨dendronlaw19_number.hint, Tryd.f19, Tryd.func19, dendronlaw19_number.ok⟩, ⟨game_Players.hint, Tryd.f20, Tryd.func20, game_Players.ok⟩, ⟨ratio_Zero.hint, Tryd.f21, Tryd.func21, ratio_Zero.ok⟩, ⟨orders_Adds.hint, Tryd.f22, Tryd.func22, orders_Adds.ok⟩, ⟨dendronlaw19_two.hint, Tryd.f23, Tryd.func23, dendronlaw19_two.ok⟩, ⟨orders_Next.hint, Tryd.f24, Tryd.func24, orders_Next.ok⟩, ⟨dendronlaw21_same.hint, Tryd.f25, Tryd.func25, dendronlaw21_same.ok⟩, ⟨dendronlaw21_two.hint, Tryd.f26, Tryd.func26, dendronlaw21_two.ok⟩, ⟨ratio_Sub.hint, Tryd.f27, Tryd.func27, ratio_Sub.ok⟩, ⟨ratio_Clean.hint, Tryd.f28, Tryd.func28, ratio_Clean.ok⟩, ⟨ratio_form.hint, Tryd.f29, Tryd.func29, ratio_form.ok⟩, ⟨whole_Add.hint, Tryd.f30, Tryd.func30, whole_Add.ok⟩, ⟨whole_Mul.hint, Tryd.f31, Tryd.func31, whole_Mul.ok⟩, ⟨ratio_den.hint, Tryd.f32, Tryd.func32, ratio_den.ok⟩, ⟨nat_Mul.hint, Tryd.f33, Tryd.func33, nat_Mul.ok⟩, ⟨ratio_Make.hint, Tryd.f34, Tryd.func34, ratio_Make.ok⟩, ⟨whole_Of.hint, Tryd.f35, Tryd.func35, whole_Of.ok⟩, ⟨dendronref10_Is.hint, Tryd.f36, Tryd.func36, dendronref10_Is.ok⟩, ⟨orders_First.hint, Tryd.f37, Tryd.func37, orders_First.ok⟩, ⟨bits_Len.hint, Tryd.f38, Tryd.func38, bits_Len.ok⟩, ⟨nat_Of.hint, Tryd.f39, Tryd.func39, nat_Of.ok⟩, ⟨ratio_Neg.hint, Tryd.f41, Tryd.func41, ratio_Neg.ok⟩, ⟨nat_Clean.hint, Tryd.f42, Tryd.func42, nat_Clean.ok⟩, ⟨whole_Clean.hint, Tryd.f43, Tryd.func43, whole_Clean.ok⟩, ⟨nat_Gcd.hint, Tryd.f44, Tryd.func44, nat_Gcd.ok⟩, ⟨nat_DivMod.hint, Tryd.f45, Tryd.func45, nat_DivMod.ok⟩, ⟨whole_sign.hint, Tryd.f46, Tryd.func46, whole_sign.ok⟩, ⟨nat_Add.hint, Tryd.f47, Tryd.func47, nat_Add.ok⟩, ⟨nat_Cmp.hint, Tryd.f48, Tryd.func48, nat_Cmp.ok⟩, ⟨nat_Sub.hint, Tryd.f49, Tryd.func49, nat_Sub.ok⟩, ⟨nat_trim.hint, Tryd.f50, Tryd.func50, nat_trim.ok⟩, ⟨whole_Sign.hint, Tryd.f51, Tryd.func51, whole_Sign.ok⟩, ⟨whole_Neg.hint, Tryd.f52, Tryd.func52, whole_Neg.ok⟩, ⟨dendronref03_Is.hint, Tryd.f53, Tryd.func53, dendronref03_Is.ok⟩, ⟨dendronref03_From.hint, Tryd.f54, Tryd.func54, dendronref03_From.ok⟩, ⟨bits_Len32.hint, Tryd.f55, Tryd.func55, bits_Len32.ok⟩, ⟨bits_Len64.hint, Tryd.f56, Tryd.func56, bits_Len64.ok⟩, ⟨nat_euclid.hint, Tryd.f57, Tryd.func57, nat_euclid.ok⟩, ⟨nat_zeros.hint, Tryd.f58, Tryd.func58, nat_zeros.ok⟩, ⟨nat_shr.hint, Tryd.f59, Tryd.func59, nat_shr.ok⟩, ⟨nat_order.hint, Tryd.f60, Tryd.func60, nat_order.ok⟩, ⟨nat_shl.hint, Tryd.f61, Tryd.func61, nat_shl.ok⟩, ⟨nat_rest.hint, Tryd.f62, Tryd.func62, nat_rest.ok⟩, ⟨nat_minus.hint, Tryd.f63, Tryd.func63, nat_minus.ok⟩, ⟨nat_small.hint, Tryd.f64, Tryd.func64, nat_small.ok⟩, ⟨nat_long.hint, Tryd.f65, Tryd.func65, nat_long.ok⟩, ⟨nat_limb.hint, Tryd.f66, Tryd.func66, nat_limb.ok⟩, ⟨dendronref03_Right.hint, Tryd.f67, Tryd.func67, dendronref03_Right.ok⟩, ⟨dendronref03_Order.hint, Tryd.f68, Tryd.func68, dendronref03_Order.ok⟩, ⟨dendronref01_From.hint, Tryd.f69, Tryd.func69, dendronref01_From.ok⟩, ⟨dendronref03_Small.hint, Tryd.f70, Tryd.func70, dendronref03_Small.ok⟩, ⟨dendronref02_From.hint, Tryd.f71, Tryd.func71, dendronref02_From.ok⟩, ⟨nat_To.hint, Tryd.f72, Tryd.func72, nat_To.ok⟩, ⟨bits_LeadingZeros32.hint, Tryd.f74, Tryd.func74, bits_LeadingZeros32.ok⟩, ⟨nat_digit.hint, Tryd.f75, Tryd.func75, nat_digit.ok⟩, ⟨dendronref01_Right.hint, Tryd.f76, Tryd.func76, dendronref01_Right.ok⟩, ⟨dendronref01_Gcd.hint, Tryd.f77, Tryd.func77, dendronref01_Gcd.ok⟩, ⟨dendronref01_Order.hint, Tryd.f78, Tryd.func78, dendronref01_Order.ok⟩, ⟨dendronref01_Small.hint, Tryd.f79, Tryd.func79, dendronref01_Small.ok⟩, ⟨dendronref02_Order.hint, Tryd.f80, Tryd.func80, dendronref02_Order.ok⟩, ⟨dendronref02_Times.hint, Tryd.f81, Tryd.func81, dendronref02_Times.ok⟩, ⟨dendronref03_den.hint, Tryd.f82, Tryd.func82, dendronref03_den.ok⟩, ⟨dendronref01_Plus.hint, Tryd.f83, Tryd.func83, dendronref01_Plus.ok⟩, ⟨dendronref01_Times.hint, Tryd.f84, Tryd.func84, dendronref01_Times.ok⟩, ⟨dendronref02_Small.hint, Tryd.f85, Tryd.func85, dendronref02_Small.ok⟩, ⟨dendronref02_Make.hint, Tryd.f86, Tryd.func86, dendronref02_Make.ok⟩, ⟨nat_take.hint, Tryd.f87, Tryd.func87, nat_take.ok⟩, ⟨nat_give.hint, Tryd.f88, Tryd.func88, nat_give.ok⟩, ⟨dendronref01_Over.hint, Tryd.f89, Tryd.func89, dendronref01_Over.ok⟩, ⟨dendronref01_digit.hint, Tryd.f90, Tryd.func90, dendronref01_digit.ok⟩, ⟨dendronref01_Trim.hint, Tryd.f91, Tryd.func91, dendronref01_Trim.ok⟩, ⟨dendronref01_Minus.hint, Tryd.f92, Tryd.func92, dendronref01_Minus.ok⟩, by simp⟩
end Go.Proofs.YtnmbpainnkdonaaDoor
