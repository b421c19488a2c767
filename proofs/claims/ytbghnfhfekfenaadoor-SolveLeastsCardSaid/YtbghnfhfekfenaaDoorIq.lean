/- The interpreter's text of the seat's functions, the first half. -/
import Derived.Test.YtbghnfhfekfenaaDoorRb
import Derived.Test.YtbghnfhfekfenaaDoorChecked
set_option linter.unusedVariables false
set_option maxRecDepth 100000
namespace Go.Proofs.YtbghnfhfekfenaaDoor
open Go Go.Proofs.R
def F.dendronlaw05_SolveSizes : Nat := 3
def F.dendronlaw05_SolveProducts : Nat := 4
def F.dendronlaw05_SolveDets : Nat := 5
def F.dendronlaw05_SolveSteps : Nat := 6
def F.dendronlaw05_SolveSolves : Nat := 7
def F.dendronlaw05_SolveKernels : Nat := 8
def F.dendronlaw05_SolveInverses : Nat := 9
def F.dendronlaw05_SolveLeasts : Nat := 10
def F.dendronlaw20_KernelNearest : Nat := 11
def F.dendronlaw05_few : Nat := 12
def F.solve_Size : Nat := 13
def F.dendronlaw05_size : Nat := 14
def F.dendronlaw05_tables : Nat := 15
def F.solve_Copy : Nat := 16
def F.solve_Unit : Nat := 17
def F.ratio_Zero : Nat := 18
def F.ratio_One : Nat := 19
def F.ratio_Same : Nat := 20
def F.solve_Flip : Nat := 21
def F.dendronlaw05_awake : Nat := 22
def F.dendronlaw05_same : Nat := 23
def F.dendronlaw05_column : Nat := 24
def F.dendronlaw05_row : Nat := 25
def F.solve_Apply : Nat := 26
def F.dendronlaw05_dot : Nat := 27
def F.solve_Dot : Nat := 28
def F.solve_Mul : Nat := 29
def F.dendronlaw05_square : Nat := 30
def F.solve_Det : Nat := 31
def F.ratio_Right : Nat := 32
def F.dendronlaw05_det : Nat := 33
def F.solve_Steps : Nat := 34
def F.solve_Rank : Nat := 35
def F.dendronlaw05_inSteps : Nat := 36
def F.dendronlaw05_made : Nat := 37
def F.solve_Solve : Nat := 38
def F.ratio_Sign : Nat := 39
def F.solve_Kernel : Nat := 40
def F.solve_Inverse : Nat := 41
def F.solve_Least : Nat := 42
def F.ratio_Cmp : Nat := 43
def F.dendronlaw05_loss : Nat := 44
def F.dendronlaw19_Few : Nat := 45
def F.dendronlaw19_Size : Nat := 46
def F.dendronlaw20_awake : Nat := 47
def F.kernel_Values : Nat := 48
def F.ratio_Sub : Nat := 49
def F.ratio_Sum : Nat := 50
def F.kernel_Distance : Nat := 51
def F.ratio_Clean : Nat := 52
def F.nat_Of : Nat := 53
def F.ratio_Of : Nat := 54
def F.dendronlaw05_number : Nat := 55
def F.ratio_Add : Nat := 56
def F.ratio_Mul : Nat := 57
def F.dendron_solve_reducer_run : Nat := 58
def F.ratio_Neg : Nat := 59
def F.whole_Right : Nat := 60
def F.nat_Right : Nat := 61
def F.nat_Gcd : Nat := 62
def F.nat_Cmp : Nat := 63
def F.solve_wide : Nat := 64
def F.whole_Sign : Nat := 65
def F.whole_Cmp : Nat := 66
def F.whole_Mul : Nat := 67
def F.ratio_den : Nat := 68
def F.dendronlaw19_number : Nat := 69
def F.dendronlaw19_two : Nat := 70
def F.kernel_Weight : Nat := 71
def F.ratio_Frac : Nat := 72
def F.game_Players : Nat := 73
def F.kernel_System : Nat := 74
def F.bits_OnesCount : Nat := 75
def F.nat_Clean : Nat := 76
def F.ratio_form : Nat := 77
def F.whole_Clean : Nat := 78
def F.nat_trim : Nat := 79
def F.whole_Of : Nat := 80
def F.whole_Add : Nat := 81
def F.nat_Mul : Nat := 82
def F.dendron_solve_reducer_pivot : Nat := 83
def F.dendron_solve_reducer_clear : Nat := 84
def F.whole_Neg : Nat := 85
def F.nat_euclid : Nat := 86
def F.nat_zeros : Nat := 87
def F.nat_shr : Nat := 88
def F.nat_order : Nat := 89
def F.nat_shl : Nat := 90
def F.nat_rest : Nat := 91
def F.nat_minus : Nat := 92
def F.whole_sign : Nat := 93
def F.whole_Choose : Nat := 94
def F.ratio_Make : Nat := 95
def F.bits_Len : Nat := 96
def F.bits_OnesCount32 : Nat := 97
def F.bits_OnesCount64 : Nat := 98
def F.nat_DivMod : Nat := 99
def F.nat_Add : Nat := 100
def F.nat_Sub : Nat := 101
def F.ratio_Inv : Nat := 102
def F.nat_To : Nat := 103
def F.bits_TrailingZeros64 : Nat := 104
def F.nat_limb : Nat := 105
def F.bits_Len32 : Nat := 106
def F.bits_Len64 : Nat := 107
def F.nat_small : Nat := 108
def F.nat_long : Nat := 109
def F.bits_LeadingZeros32 : Nat := 110
def F.nat_digit : Nat := 111
def F.nat_take : Nat := 112
def F.nat_give : Nat := 113
def F.runtime_boundsError_Error : Nat := 114
def F.runtime_boundsError_RuntimeError : Nat := 115
def F.runtime_errorString_Error : Nat := 116
def F.runtime_errorString_RuntimeError : Nat := 117
def F.runtime_plainError_Error : Nat := 118
def F.runtime_plainError_RuntimeError : Nat := 119
def F.runtime_errorAddressString_Error : Nat := 120
def F.runtime_errorAddressString_RuntimeError : Nat := 121
def F.runtime_TypeAssertionError_Error : Nat := 122
def F.runtime_TypeAssertionError_RuntimeError : Nat := 123
def F.runtime_PanicNilError_Error : Nat := 124
def F.runtime_PanicNilError_RuntimeError : Nat := 125
def F.internal_abi_Type_Align : Nat := 126
def F.internal_runtime_maps_unhashableTypeError_Error : Nat := 127
def F.internal_runtime_maps_unhashableTypeError_RuntimeError : Nat := 128
def F.dendron_api_Errno_Error : Nat := 129
def F.internal_abi_Kind_String : Nat := 130
def F.var_s_door__gosem_cut_vars_holds_initialisers_alone__see_the_manifest_s_row_cutvarsword__look_11__test_files_too_ : Nat := 131
def F.var_s_door__bits_deBruijn64tab_is_laid_by_its_own_initialiser__plain_data__look_11_ : Nat := 132
def F.var_s_door__the_look_of_gosem_cut_vars_went_over_the_folder_that_the_caller_named_as_the_repository_s_root__look_11_ : Nat := 133
def dendronlaw05_SolveSizes.b2 : R.C := (.seq (.seq (.reg [] [.a 75 (.mv (.t 13)), .a 76 (.mv (.t 1)), .a 77 (.bin .lss (.t 75) (.t 76))] [75, 76] [])
  (.cond (.t 77) .skip (.exit 2)))
  (.seq (.block 3 (.seq (.reg [] [.a 80 (.call F.ratio_Zero []), .a 14 (.new [(.bool false), (.sl 1 []), (.sl 1 [])]), .n (.st 3 (.t 14) (.t 80))] [77, 80] [])
  (.seq (.seq (.reg [] [.a 81 (.mv (.t 12)), .a 82 (.mv (.t 13)), .a 83 (.bin .eql (.t 81) (.t 82))] [81, 82] [])
  (.cond (.t 83) (.reg [] [.a 84 (.call F.ratio_One []), .n (.st 3 (.t 14) (.t 84))] [83, 84] []) .skip))
  (.seq (.reg [] [.a 85 (.mv (.t 11)), .a 86 (.mv (.t 12)), .a 87 (.iA 1 (.t 85) (.t 86)), .a 88 (.ld 1 false (.t 87)), .a 89 (.ln (.t 88)), .a 90 (.mv (.t 1)), .a 91 (.bin .neq (.t 89) (.t 90)), .a 92 (.mv (.t 91)), .g 93 92 false (.mv (.t 11)), .g 94 92 false (.mv (.t 12)), .g 95 92 false (.iA 1 (.t 93) (.t 94)), .g 96 92 false (.ld 1 false (.t 95)), .g 97 92 false (.mv (.t 13)), .g 98 92 false (.iA 3 (.t 96) (.t 97)), .g 99 92 false (.ld 3 true (.t 98)), .g 100 92 false (.ld 3 true (.t 14)), .g 101 92 false (.call F.ratio_Same [(.t 99), (.t 100)]), .g 102 92 false (.un .not (.t 101)), .a 103 (.pick (.t 92) (.c (.bool true)) (.t 102))] [14, 83, 85, 86, 87, 88, 89, 90, 91, 92, 93, 94, 95, 96, 97, 98, 99, 100, 101, 102] [14])
  (.cond (.t 103) (.seq (.reg [] [.a 4 (.mv (.c (.bool false)))] [0, 1, 9, 10, 11, 12, 13, 103] [])
  .ret) .skip)))))
  (.reg [] [.a 78 (.mv (.t 13)), .a 79 (.bin .add (.t 78) (.c (.int .i64 1))), .a 13 (.mv (.t 79))] [78, 79, 103] [])))
def dendronlaw05_SolveSizes.b0 : R.C := (.seq (.seq (.reg [] [.a 69 (.mv (.t 12)), .a 70 (.mv (.t 11)), .a 71 (.ln (.t 70)), .a 72 (.bin .lss (.t 69) (.t 71))] [69, 70, 71] [])
  (.cond (.t 72) .skip (.exit 0)))
  (.seq (.block 1 (.seq (.reg [] [.a 13 (.mv (.c (.int .i64 0)))] [72] [])
  (.block 2 (.loop [] [] dendronlaw05_SolveSizes.b2))))
  (.reg [] [.a 73 (.mv (.t 12)), .a 74 (.bin .add (.t 73) (.c (.int .i64 1))), .a 12 (.mv (.t 74))] [13, 73, 74, 77] [])))
def dendronlaw05_SolveSizes.b4 : R.C := (.seq (.seq (.reg [] [.a 129 (.mv (.t 17)), .a 130 (.mv (.t 9)), .a 131 (.bin .lss (.t 129) (.t 130))] [129, 130] [])
  (.cond (.t 131) .skip (.exit 4)))
  (.seq (.block 5 (.seq (.reg [] [.a 134 (.mv (.t 15)), .a 135 (.mv (.t 17)), .a 136 (.iA 1 (.t 134) (.t 135)), .a 137 (.ld 1 false (.t 136)), .a 138 (.mv (.t 0)), .a 139 (.mv (.t 17)), .a 140 (.call F.dendronlaw05_column [(.t 138), (.t 139)]), .a 141 (.call F.dendronlaw05_same [(.t 137), (.t 140)]), .a 142 (.un .not (.t 141))] [131, 134, 135, 136, 137, 138, 139, 140, 141] [])
  (.cond (.t 142) (.seq (.reg [] [.a 4 (.mv (.c (.bool false)))] [0, 9, 15, 17, 142] [])
  .ret) .skip)))
  (.reg [] [.a 132 (.mv (.t 17)), .a 133 (.bin .add (.t 132) (.c (.int .i64 1))), .a 17 (.mv (.t 133))] [132, 133, 142] [])))
def dendronlaw05_SolveSizes : R.Fn := ⟨2, [(.t 4)], (.seq (.reg [] [.a 4 (.mv (.c (.bool false)))] [4] [])
  (.seq (.reg [] [.a 18 (.mv (.t 0)), .a 19 (.call F.dendronlaw05_few [(.t 18), (.c (.int .i64 6))]), .a 0 (.mv (.t 19))] [18, 19] [])
  (.seq (.reg [] [.a 21 (.mv (.t 0)), .a 22 (.call F.solve_Size [(.t 21)]), .a 20 (.mv (.t 22)), .a 23 (.ext (.t 20) 0), .a 24 (.ext (.t 20) 1), .a 25 (.ext (.t 20) 2), .a 5 (.mv (.t 23)), .a 6 (.mv (.t 24)), .a 7 (.mv (.t 25))] [20, 21, 22, 23, 24, 25] [])
  (.seq (.reg [] [.a 27 (.mv (.t 0)), .a 28 (.call F.dendronlaw05_size [(.t 27)]), .a 26 (.mv (.t 28)), .a 29 (.ext (.t 26) 0), .a 30 (.ext (.t 26) 1), .a 31 (.ext (.t 26) 2), .a 8 (.mv (.t 29)), .a 9 (.mv (.t 30)), .a 10 (.mv (.t 31))] [26, 27, 28, 29, 30, 31] [])
  (.seq (.seq (.reg [] [.a 32 (.mv (.t 5)), .a 33 (.mv (.t 8)), .a 34 (.bin .neq (.t 32) (.t 33)), .a 35 (.mv (.t 34)), .g 36 35 false (.mv (.t 6)), .g 37 35 false (.mv (.t 9)), .g 38 35 false (.bin .neq (.t 36) (.t 37)), .a 39 (.pick (.t 35) (.c (.bool true)) (.t 38)), .a 40 (.mv (.t 39)), .g 41 40 false (.mv (.t 7)), .g 42 40 false (.mv (.t 10)), .g 43 40 false (.beq true (.t 41) (.t 42)), .a 44 (.pick (.t 40) (.c (.bool true)) (.t 43)), .a 45 (.mv (.t 44)), .g 46 45 false (.mv (.t 0)), .g 47 45 false (.callc F.solve_Copy [(.t 46)]), .g 48 45 false (.mv (.t 0)), .g 49 45 false (.call F.dendronlaw05_tables [(.t 47), (.t 48)]), .g 50 45 false (.un .not (.t 49)), .a 51 (.pick (.t 45) (.c (.bool true)) (.t 50))] [5, 6, 7, 8, 32, 33, 34, 35, 36, 37, 38, 39, 40, 41, 42, 43, 44, 45, 46, 47, 48, 49, 50] [])
  (.cond (.t 51) (.seq (.reg [] [.a 4 (.mv (.c (.bool false)))] [0, 1, 9, 10, 51] [])
  .ret) .skip))
  (.seq (.seq (.reg [] [.a 52 (.mv (.t 1)), .a 53 (.bin .leq (.t 52) (.c (.int .i64 6)))] [51, 52] [])
  (.cond (.t 53) (.seq (.reg [] [.a 54 (.mv (.t 1)), .a 55 (.call F.solve_Unit [(.t 54)]), .a 11 (.mv (.t 55))] [53, 54, 55] [])
  (.seq (.seq (.reg [] [.a 56 (.mv (.t 11)), .a 57 (.ln (.t 56)), .a 58 (.mv (.t 1)), .a 59 (.bin .neq (.t 57) (.t 58)), .a 60 (.mv (.t 59)), .g 61 60 true (.mv (.t 1)), .g 62 60 true (.bin .gtr (.t 61) (.c (.int .i64 0))), .g 63 60 true (.mv (.t 62)), .g 64 63 false (.mv (.t 11)), .g 65 63 false (.ln (.t 64)), .g 66 63 false (.bin .neq (.t 65) (.c (.int .i64 0))), .g 67 60 true (.pick (.t 63) (.c (.bool true)) (.t 66)), .a 68 (.pick (.t 60) (.t 67) (.c (.bool false)))] [56, 57, 58, 59, 60, 61, 62, 63, 64, 65, 66, 67] [])
  (.cond (.t 68) (.seq (.reg [] [.a 4 (.mv (.c (.bool false)))] [0, 1, 9, 10, 11, 68] [])
  .ret) .skip))
  (.seq (.reg [] [.a 12 (.mv (.c (.int .i64 0)))] [68] [])
  (.block 0 (.loop [] [] dendronlaw05_SolveSizes.b0))))) .skip))
  (.seq (.reg [] [.a 105 (.mv (.t 0)), .a 106 (.callc F.solve_Flip [(.t 105)]), .a 104 (.mv (.t 106)), .a 107 (.ext (.t 104) 0), .a 108 (.ext (.t 104) 1), .a 15 (.mv (.t 107)), .a 16 (.mv (.t 108))] [1, 11, 12, 53, 72, 104, 105, 106, 107, 108] [])
  (.seq (.seq (.reg [] [.a 109 (.mv (.t 10)), .a 110 (.un .not (.t 109))] [10, 109] [])
  (.cond (.t 110) (.seq (.reg [] [.a 111 (.mv (.t 15)), .a 112 (.ln (.t 111)), .a 113 (.bin .eql (.t 112) (.c (.int .i64 0))), .a 114 (.mv (.t 113)), .g 115 114 true (.mv (.t 16)), .g 116 114 true (.bin .eql (.t 115) (.c (.int .i64 14))), .a 117 (.pick (.t 114) (.t 116) (.c (.bool false))), .a 118 (.mv (.t 117)), .g 119 118 true (.call F.dendronlaw05_awake []), .a 120 (.pick (.t 118) (.t 119) (.c (.bool false))), .a 4 (.mv (.t 120))] [0, 9, 15, 16, 110, 111, 112, 113, 114, 115, 116, 117, 118, 119, 120] [])
  .ret) .skip))
  (.seq (.seq (.reg [] [.a 121 (.mv (.t 16)), .a 122 (.bin .neq (.t 121) (.c (.int .i64 0))), .a 123 (.mv (.t 122)), .g 124 123 false (.mv (.t 15)), .g 125 123 false (.ln (.t 124)), .g 126 123 false (.mv (.t 9)), .g 127 123 false (.bin .neq (.t 125) (.t 126)), .a 128 (.pick (.t 123) (.c (.bool true)) (.t 127))] [16, 110, 121, 122, 123, 124, 125, 126, 127] [])
  (.cond (.t 128) (.seq (.reg [] [.a 4 (.mv (.c (.bool false)))] [0, 9, 15, 128] [])
  .ret) .skip))
  (.seq (.seq (.reg [] [.a 17 (.mv (.c (.int .i64 0)))] [128] [])
  (.block 4 (.loop [] [] dendronlaw05_SolveSizes.b4)))
  (.seq (.reg [] [.a 143 (.call F.dendronlaw05_awake []), .a 4 (.mv (.t 143))] [0, 9, 15, 17, 131, 143] [])
  .ret)))))))))))⟩
def dendronlaw05_SolveSizes.hint : R.Hint := { kill := [(0, [4], []), (1, [18, 19], []), (2, [20, 21, 22, 23, 24, 25], []), (3, [26, 27, 28, 29, 30, 31], []), (4, [5, 6, 7, 8, 32, 33, 34, 35, 36, 37, 38, 39, 40, 41, 42, 43, 44, 45, 46, 47, 48, 49, 50], []), (5, [0, 1, 9, 10, 51], []), (6, [51, 52], []), (7, [53, 54, 55], []), (8, [56, 57, 58, 59, 60, 61, 62, 63, 64, 65, 66, 67], []), (9, [0, 1, 9, 10, 11, 68], []), (10, [68], []), (11, [69, 70, 71], []), (12, [13, 73, 74, 77], []), (13, [72], []), (14, [75, 76], []), (15, [78, 79, 103], []), (16, [77, 80], []), (17, [81, 82], []), (18, [83, 84], []), (19, [14, 83, 85, 86, 87, 88, 89, 90, 91, 92, 93, 94, 95, 96, 97, 98, 99, 100, 101, 102], [14]), (20, [0, 1, 9, 10, 11, 12, 13, 103], []), (21, [1, 11, 12, 53, 72, 104, 105, 106, 107, 108], []), (22, [10, 109], []), (23, [0, 9, 15, 16, 110, 111, 112, 113, 114, 115, 116, 117, 118, 119, 120], []), (24, [16, 110, 121, 122, 123, 124, 125, 126, 127], []), (25, [0, 9, 15, 128], []), (26, [128], []), (27, [129, 130], []), (28, [132, 133, 142], []), (29, [131, 134, 135, 136, 137, 138, 139, 140, 141], []), (30, [0, 9, 15, 17, 142], []), (31, [0, 9, 15, 17, 131, 143], [])], callc := [47, 106] }
theorem dendronlaw05_SolveSizes.ok : cFn Tryd.prog dendronlaw05_SolveSizes.hint Tryd.f3 = some dendronlaw05_SolveSizes := by kernel_rfl
def dendronlaw05_SolveProducts.b0 : R.C := (.seq (.seq (.reg [] [.a 37 (.mv (.t 11)), .a 38 (.mv (.t 0)), .a 39 (.ln (.t 38)), .a 40 (.bin .lss (.t 37) (.t 39))] [37, 38, 39] [])
  (.cond (.t 40) .skip (.exit 0)))
  (.seq (.block 1 (.seq (.reg [] [.a 43 (.mv (.t 9)), .a 44 (.mv (.t 43)), .g 45 44 true (.mv (.t 0)), .g 46 44 true (.mv (.t 11)), .g 47 44 true (.iA 1 (.t 45) (.t 46)), .g 48 44 true (.ld 1 false (.t 47)), .g 49 44 true (.ln (.t 48)), .g 50 44 true (.mv (.t 2)), .g 51 44 true (.ln (.t 50)), .g 52 44 true (.bin .eql (.t 49) (.t 51)), .a 53 (.pick (.t 44) (.t 52) (.c (.bool false))), .a 9 (.mv (.t 53))] [40, 43, 44, 45, 46, 47, 48, 49, 50, 51, 52, 53] [])
  (.seq (.reg [] [.a 54 (.mv (.t 10)), .a 55 (.mv (.t 0)), .a 56 (.mv (.t 11)), .a 57 (.iA 1 (.t 55) (.t 56)), .a 58 (.ld 1 false (.t 57)), .a 59 (.mv (.t 2)), .a 60 (.call F.dendronlaw05_dot [(.t 58), (.t 59)]), .a 61 (.lit 3 1 [(.bool false), (.sl 1 []), (.sl 1 [])] [(0, 3, (.t 60))]), .a 62 (.app 3 56 (.t 54) (.t 61)), .a 10 (.mv (.t 62))] [54, 55, 56, 57, 58, 59, 60, 61, 62] [])
  (.seq (.reg [] [.a 64 (.mv (.t 0)), .a 65 (.mv (.t 11)), .a 66 (.iA 1 (.t 64) (.t 65)), .a 67 (.ld 1 false (.t 66)), .a 68 (.mv (.t 2)), .a 69 (.call F.solve_Dot [(.t 67), (.t 68)]), .a 63 (.mv (.t 69)), .a 70 (.ext (.t 63) 0), .a 71 (.ext (.t 63) 1), .a 12 (.new [(.bool false), (.sl 1 []), (.sl 1 [])]), .n (.st 3 (.t 12) (.t 70)), .a 13 (.mv (.t 71))] [63, 64, 65, 66, 67, 68, 69, 70, 71] [])
  (.seq (.reg [] [.a 72 (.mv (.t 13)), .a 73 (.bin .eql (.t 72) (.c (.int .i64 0))), .a 74 (.mv (.t 0)), .a 75 (.mv (.t 11)), .a 76 (.iA 1 (.t 74) (.t 75)), .a 77 (.ld 1 false (.t 76)), .a 78 (.ln (.t 77)), .a 79 (.mv (.t 2)), .a 80 (.ln (.t 79)), .a 81 (.bin .eql (.t 78) (.t 80)), .a 82 (.beq true (.t 73) (.t 81)), .a 83 (.mv (.t 82)), .g 84 83 false (.mv (.t 13)), .g 85 83 false (.bin .eql (.t 84) (.c (.int .i64 0))), .g 86 83 false (.mv (.t 85)), .g 87 86 true (.ld 3 true (.t 12)), .g 88 86 true (.mv (.t 10)), .g 89 86 true (.mv (.t 11)), .g 90 86 true (.iA 3 (.t 88) (.t 89)), .g 91 86 true (.ld 3 true (.t 90)), .g 92 86 true (.call F.ratio_Same [(.t 87), (.t 91)]), .g 93 86 true (.un .not (.t 92)), .g 94 83 false (.pick (.t 86) (.t 93) (.c (.bool false))), .a 95 (.pick (.t 83) (.c (.bool true)) (.t 94)), .a 96 (.mv (.t 95)), .g 97 96 false (.mv (.t 13)), .g 98 96 false (.bin .neq (.t 97) (.c (.int .i64 0))), .g 99 96 false (.mv (.t 98)), .g 100 99 true (.mv (.t 13)), .g 101 99 true (.bin .neq (.t 100) (.c (.int .i64 14))), .g 102 96 false (.pick (.t 99) (.t 101) (.c (.bool false))), .a 103 (.pick (.t 96) (.c (.bool true)) (.t 102))] [12, 13, 72, 73, 74, 75, 76, 77, 78, 79, 80, 81, 82, 83, 84, 85, 86, 87, 88, 89, 90, 91, 92, 93, 94, 95, 96, 97, 98, 99, 100, 101, 102] [12])
  (.cond (.t 103) (.seq (.reg [] [.a 6 (.mv (.c (.bool false)))] [0, 1, 2, 7, 8, 9, 10, 11, 103] [10])
  .ret) .skip))))))
  (.reg [] [.a 41 (.mv (.t 11)), .a 42 (.bin .add (.t 41) (.c (.int .i64 1))), .a 11 (.mv (.t 42))] [41, 42, 103] [])))
def dendronlaw05_SolveProducts.b4 : R.C := (.seq (.seq (.reg [] [.a 182 (.mv (.t 24)), .a 183 (.mv (.t 18)), .a 184 (.bin .lss (.t 182) (.t 183))] [182, 183] [])
  (.cond (.t 184) .skip (.exit 4)))
  (.seq (.block 5 (.reg [] [.a 187 (.mv (.t 23)), .a 188 (.mv (.t 0)), .a 189 (.mv (.t 22)), .a 190 (.iA 1 (.t 188) (.t 189)), .a 191 (.ld 1 false (.t 190)), .a 192 (.mv (.t 1)), .a 193 (.mv (.t 24)), .a 194 (.call F.dendronlaw05_column [(.t 192), (.t 193)]), .a 195 (.call F.dendronlaw05_dot [(.t 191), (.t 194)]), .a 196 (.lit 3 1 [(.bool false), (.sl 1 []), (.sl 1 [])] [(0, 3, (.t 195))]), .a 197 (.app 3 56 (.t 187) (.t 196)), .a 23 (.mv (.t 197))] [184, 187, 188, 189, 190, 191, 192, 193, 194, 195, 196, 197] []))
  (.reg [] [.a 185 (.mv (.t 24)), .a 186 (.bin .add (.t 185) (.c (.int .i64 1))), .a 24 (.mv (.t 186))] [185, 186] [])))
def dendronlaw05_SolveProducts.b2 : R.C := (.seq (.seq (.reg [] [.a 176 (.mv (.t 22)), .a 177 (.mv (.t 0)), .a 178 (.ln (.t 177)), .a 179 (.bin .lss (.t 176) (.t 178))] [176, 177, 178] [])
  (.cond (.t 179) .skip (.exit 2)))
  (.seq (.block 3 (.seq (.reg [] [.a 23 (.nil 3)] [179] [])
  (.seq (.seq (.reg [] [.a 24 (.mv (.c (.int .i64 0)))] [] [])
  (.block 4 (.loop [] [] dendronlaw05_SolveProducts.b4)))
  (.seq (.reg [23] [.a 198 (.mv (.t 20)), .a 199 (.mv (.t 22)), .a 200 (.iA 1 (.t 198) (.t 199)), .a 201 (.ld 1 false (.t 200)), .a 202 (.mv (.t 23)), .a 203 (.call F.dendronlaw05_same [(.t 201), (.t 202)]), .a 204 (.un .not (.t 203))] [23, 24, 184, 198, 199, 200, 201, 202, 203] [23])
  (.cond (.t 204) (.seq (.reg [] [.a 6 (.mv (.c (.bool false)))] [0, 1, 18, 20, 22, 204] [])
  .ret) .skip)))))
  (.reg [] [.a 180 (.mv (.t 22)), .a 181 (.bin .add (.t 180) (.c (.int .i64 1))), .a 22 (.mv (.t 181))] [180, 181, 204] [])))
def dendronlaw05_SolveProducts : R.Fn := ⟨3, [(.t 6)], (.seq (.reg [] [.a 6 (.mv (.c (.bool false)))] [6] [])
  (.seq (.reg [] [.a 25 (.mv (.t 0)), .a 26 (.call F.dendronlaw05_few [(.t 25), (.c (.int .i64 5))]), .a 0 (.mv (.t 26))] [25, 26] [])
  (.seq (.reg [] [.a 27 (.mv (.t 1)), .a 28 (.call F.dendronlaw05_few [(.t 27), (.c (.int .i64 5))]), .a 1 (.mv (.t 28))] [27, 28] [])
  (.seq (.reg [] [.a 29 (.mv (.t 2)), .a 30 (.call F.dendronlaw05_row [(.t 29), (.c (.int .i64 5))]), .a 2 (.mv (.t 30))] [29, 30] [])
  (.seq (.reg [] [.a 32 (.mv (.t 0)), .a 33 (.mv (.t 2)), .a 34 (.call F.solve_Apply [(.t 32), (.t 33)]), .a 31 (.mv (.t 34)), .a 35 (.ext (.t 31) 0), .a 36 (.ext (.t 31) 1), .a 7 (.mv (.t 35)), .a 8 (.mv (.t 36))] [31, 32, 33, 34, 35, 36] [])
  (.seq (.reg [] [.a 9 (.mv (.c (.bool true)))] [] [])
  (.seq (.reg [] [.a 10 (.nil 3)] [] [])
  (.seq (.seq (.reg [] [.a 11 (.mv (.c (.int .i64 0)))] [] [])
  (.block 0 (.loop [] [] dendronlaw05_SolveProducts.b0)))
  (.seq (.seq (.reg [10] [.a 104 (.mv (.t 9)), .a 105 (.mv (.t 104)), .g 106 105 true (.mv (.t 8)), .g 107 105 true (.bin .neq (.t 106) (.c (.int .i64 0))), .g 108 105 true (.mv (.t 107)), .g 109 108 false (.mv (.t 7)), .g 110 108 false (.mv (.t 10)), .g 111 108 false (.call F.dendronlaw05_same [(.t 109), (.t 110)]), .g 112 108 false (.un .not (.t 111)), .g 113 105 true (.pick (.t 108) (.c (.bool true)) (.t 112)), .a 114 (.pick (.t 105) (.t 113) (.c (.bool false))), .a 115 (.mv (.t 114)), .g 116 115 false (.mv (.t 9)), .g 117 115 false (.un .not (.t 116)), .g 118 115 false (.mv (.t 117)), .g 119 118 true (.mv (.t 8)), .g 120 118 true (.bin .neq (.t 119) (.c (.int .i64 14))), .g 121 118 true (.mv (.t 120)), .g 122 121 false (.mv (.t 7)), .g 123 121 false (.ln (.t 122)), .g 124 121 false (.bin .neq (.t 123) (.c (.int .i64 0))), .g 125 118 true (.pick (.t 121) (.c (.bool true)) (.t 124)), .g 126 115 false (.pick (.t 118) (.t 125) (.c (.bool false))), .a 127 (.pick (.t 115) (.c (.bool true)) (.t 126))] [2, 7, 8, 9, 10, 11, 40, 104, 105, 106, 107, 108, 109, 110, 111, 112, 113, 114, 115, 116, 117, 118, 119, 120, 121, 122, 123, 124, 125, 126] [10])
  (.cond (.t 127) (.seq (.reg [] [.a 6 (.mv (.c (.bool false)))] [0, 1, 127] [])
  .ret) .skip))
  (.seq (.reg [] [.a 129 (.mv (.t 0)), .a 130 (.call F.dendronlaw05_size [(.t 129)]), .a 128 (.mv (.t 130)), .a 131 (.ext (.t 128) 0), .a 132 (.ext (.t 128) 1), .a 133 (.ext (.t 128) 2), .a 14 (.mv (.t 131)), .a 15 (.mv (.t 132)), .a 16 (.mv (.t 133))] [14, 127, 128, 129, 130, 131, 132, 133] [])
  (.seq (.reg [] [.a 135 (.mv (.t 1)), .a 136 (.call F.dendronlaw05_size [(.t 135)]), .a 134 (.mv (.t 136)), .a 137 (.ext (.t 134) 0), .a 138 (.ext (.t 134) 1), .a 139 (.ext (.t 134) 2), .a 17 (.mv (.t 137)), .a 18 (.mv (.t 138)), .a 19 (.mv (.t 139))] [134, 135, 136, 137, 138, 139] [])
  (.seq (.reg [] [.a 141 (.mv (.t 0)), .a 142 (.mv (.t 1)), .a 143 (.call F.solve_Mul [(.t 141), (.t 142)]), .a 140 (.mv (.t 143)), .a 144 (.ext (.t 140) 0), .a 145 (.ext (.t 140) 1), .a 20 (.mv (.t 144)), .a 21 (.mv (.t 145))] [140, 141, 142, 143, 144, 145] [])
  (.seq (.seq (.reg [] [.a 146 (.mv (.t 16)), .a 147 (.un .not (.t 146)), .a 148 (.mv (.t 147)), .g 149 148 false (.mv (.t 19)), .g 150 148 false (.un .not (.t 149)), .a 151 (.pick (.t 148) (.c (.bool true)) (.t 150)), .a 152 (.mv (.t 151)), .g 153 152 false (.mv (.t 15)), .g 154 152 false (.mv (.t 17)), .g 155 152 false (.bin .neq (.t 153) (.t 154)), .a 156 (.pick (.t 152) (.c (.bool true)) (.t 155))] [15, 16, 17, 19, 146, 147, 148, 149, 150, 151, 152, 153, 154, 155] [])
  (.cond (.t 156) (.seq (.reg [] [.a 157 (.mv (.t 20)), .a 158 (.ln (.t 157)), .a 159 (.bin .eql (.t 158) (.c (.int .i64 0))), .a 160 (.mv (.t 159)), .g 161 160 true (.mv (.t 21)), .g 162 160 true (.bin .eql (.t 161) (.c (.int .i64 14))), .a 163 (.pick (.t 160) (.t 162) (.c (.bool false))), .a 164 (.mv (.t 163)), .g 165 164 true (.call F.dendronlaw05_awake []), .a 166 (.pick (.t 164) (.t 165) (.c (.bool false))), .a 6 (.mv (.t 166))] [0, 1, 18, 20, 21, 156, 157, 158, 159, 160, 161, 162, 163, 164, 165, 166] [])
  .ret) .skip))
  (.seq (.seq (.reg [] [.a 167 (.mv (.t 21)), .a 168 (.bin .neq (.t 167) (.c (.int .i64 0))), .a 169 (.mv (.t 168)), .g 170 169 false (.mv (.t 20)), .g 171 169 false (.ln (.t 170)), .g 172 169 false (.mv (.t 0)), .g 173 169 false (.ln (.t 172)), .g 174 169 false (.bin .neq (.t 171) (.t 173)), .a 175 (.pick (.t 169) (.c (.bool true)) (.t 174))] [21, 156, 167, 168, 169, 170, 171, 172, 173, 174] [])
  (.cond (.t 175) (.seq (.reg [] [.a 6 (.mv (.c (.bool false)))] [0, 1, 18, 20, 175] [])
  .ret) .skip))
  (.seq (.seq (.reg [] [.a 22 (.mv (.c (.int .i64 0)))] [175] [])
  (.block 2 (.loop [] [] dendronlaw05_SolveProducts.b2)))
  (.seq (.reg [] [.a 205 (.call F.dendronlaw05_awake []), .a 6 (.mv (.t 205))] [0, 1, 18, 20, 22, 179, 205] [])
  .ret))))))))))))))))⟩
def dendronlaw05_SolveProducts.hint : R.Hint := { nil := [10, 23], pub := [(15, [10]), (32, [23])], kill := [(0, [6], []), (1, [25, 26], []), (2, [27, 28], []), (3, [29, 30], []), (4, [31, 32, 33, 34, 35, 36], []), (8, [37, 38, 39], []), (9, [41, 42, 103], []), (10, [40, 43, 44, 45, 46, 47, 48, 49, 50, 51, 52, 53], []), (11, [54, 55, 56, 57, 58, 59, 60, 61, 62], []), (12, [63, 64, 65, 66, 67, 68, 69, 70, 71], []), (13, [12, 13, 72, 73, 74, 75, 76, 77, 78, 79, 80, 81, 82, 83, 84, 85, 86, 87, 88, 89, 90, 91, 92, 93, 94, 95, 96, 97, 98, 99, 100, 101, 102], [12]), (14, [0, 1, 2, 7, 8, 9, 10, 11, 103], [10]), (15, [2, 7, 8, 9, 10, 11, 40, 104, 105, 106, 107, 108, 109, 110, 111, 112, 113, 114, 115, 116, 117, 118, 119, 120, 121, 122, 123, 124, 125, 126], [10]), (16, [0, 1, 127], []), (17, [14, 127, 128, 129, 130, 131, 132, 133], []), (18, [134, 135, 136, 137, 138, 139], []), (19, [140, 141, 142, 143, 144, 145], []), (20, [15, 16, 17, 19, 146, 147, 148, 149, 150, 151, 152, 153, 154, 155], []), (21, [0, 1, 18, 20, 21, 156, 157, 158, 159, 160, 161, 162, 163, 164, 165, 166], []), (22, [21, 156, 167, 168, 169, 170, 171, 172, 173, 174], []), (23, [0, 1, 18, 20, 175], []), (24, [175], []), (25, [176, 177, 178], []), (26, [180, 181, 204], []), (27, [179], []), (29, [182, 183], []), (30, [185, 186], []), (31, [184, 187, 188, 189, 190, 191, 192, 193, 194, 195, 196, 197], []), (32, [23, 24, 184, 198, 199, 200, 201, 202, 203], [23]), (33, [0, 1, 18, 20, 22, 204], []), (34, [0, 1, 18, 20, 22, 179, 205], [])] }
theorem dendronlaw05_SolveProducts.ok : cFn Tryd.prog dendronlaw05_SolveProducts.hint Tryd.f4 = some dendronlaw05_SolveProducts := by kernel_rfl
def dendronlaw05_SolveDets : R.Fn := ⟨2, [(.t 4)], (.seq (.reg [] [.a 4 (.mv (.c (.bool false)))] [4] [])
  (.seq (.reg [] [.a 10 (.mv (.t 0)), .a 11 (.call F.dendronlaw05_few [(.t 10), (.c (.int .i64 4))]), .a 0 (.mv (.t 11))] [10, 11] [])
  (.seq (.seq (.reg [] [.a 12 (.mv (.t 1))] [1] [])
  (.cond (.t 12) (.reg [] [.a 13 (.mv (.t 0)), .a 14 (.call F.dendronlaw05_square [(.t 13)]), .a 0 (.mv (.t 14))] [12, 13, 14] []) .skip))
  (.seq (.reg [] [.a 16 (.mv (.t 0)), .a 17 (.call F.solve_Det [(.t 16)]), .a 15 (.mv (.t 17)), .a 18 (.ext (.t 15) 0), .a 19 (.ext (.t 15) 1), .a 5 (.new [(.bool false), (.sl 1 []), (.sl 1 [])]), .n (.st 3 (.t 5) (.t 18)), .a 6 (.mv (.t 19))] [12, 15, 16, 17, 18, 19] [])
  (.seq (.reg [] [.a 21 (.mv (.t 0)), .a 22 (.call F.dendronlaw05_size [(.t 21)]), .a 20 (.mv (.t 22)), .a 23 (.ext (.t 20) 0), .a 24 (.ext (.t 20) 1), .a 25 (.ext (.t 20) 2), .a 7 (.mv (.t 23)), .a 8 (.mv (.t 24)), .a 9 (.mv (.t 25))] [20, 21, 22, 23, 24, 25] [])
  (.seq (.seq (.reg [] [.a 26 (.mv (.t 9)), .a 27 (.un .not (.t 26)), .a 28 (.mv (.t 27)), .g 29 28 false (.mv (.t 7)), .g 30 28 false (.mv (.t 8)), .g 31 28 false (.bin .neq (.t 29) (.t 30)), .a 32 (.pick (.t 28) (.c (.bool true)) (.t 31))] [7, 8, 9, 26, 27, 28, 29, 30, 31] [])
  (.cond (.t 32) (.seq (.reg [] [.a 33 (.fA 2 (.t 5)), .a 34 (.ld 1 false (.t 33)), .a 35 (.ln (.t 34)), .a 36 (.bin .eql (.t 35) (.c (.int .i64 0))), .a 37 (.mv (.t 36)), .g 38 37 true (.mv (.t 6)), .g 39 37 true (.bin .eql (.t 38) (.c (.int .i64 14))), .a 40 (.pick (.t 37) (.t 39) (.c (.bool false))), .a 41 (.mv (.t 40)), .g 42 41 true (.call F.dendronlaw05_awake []), .a 43 (.pick (.t 41) (.t 42) (.c (.bool false))), .a 4 (.mv (.t 43))] [0, 5, 6, 32, 33, 34, 35, 36, 37, 38, 39, 40, 41, 42, 43] [5])
  .ret) .skip))
  (.seq (.reg [] [.a 44 (.mv (.t 6)), .a 45 (.bin .eql (.t 44) (.c (.int .i64 0))), .a 46 (.mv (.t 45)), .g 47 46 true (.ld 3 true (.t 5)), .g 48 46 true (.call F.ratio_Right [(.t 47)]), .a 49 (.pick (.t 46) (.t 48) (.c (.bool false))), .a 50 (.mv (.t 49)), .g 51 50 true (.ld 3 true (.t 5)), .g 52 50 true (.mv (.t 0)), .g 53 50 true (.callc F.dendronlaw05_det [(.t 52)]), .g 54 50 true (.call F.ratio_Same [(.t 51), (.t 53)]), .a 55 (.pick (.t 50) (.t 54) (.c (.bool false))), .a 56 (.mv (.t 55)), .g 57 56 true (.call F.dendronlaw05_awake []), .a 58 (.pick (.t 56) (.t 57) (.c (.bool false))), .a 4 (.mv (.t 58))] [0, 5, 6, 32, 44, 45, 46, 47, 48, 49, 50, 51, 52, 53, 54, 55, 56, 57, 58] [5])
  .ret)))))))⟩
def dendronlaw05_SolveDets.hint : R.Hint := { kill := [(0, [4], []), (1, [10, 11], []), (2, [1], []), (3, [12, 13, 14], []), (4, [12, 15, 16, 17, 18, 19], []), (5, [20, 21, 22, 23, 24, 25], []), (6, [7, 8, 9, 26, 27, 28, 29, 30, 31], []), (7, [0, 5, 6, 32, 33, 34, 35, 36, 37, 38, 39, 40, 41, 42, 43], [5]), (8, [0, 5, 6, 32, 44, 45, 46, 47, 48, 49, 50, 51, 52, 53, 54, 55, 56, 57, 58], [5])], callc := [53] }
theorem dendronlaw05_SolveDets.ok : cFn Tryd.prog dendronlaw05_SolveDets.hint Tryd.f5 = some dendronlaw05_SolveDets := by kernel_rfl
def dendronlaw05_SolveSteps.b0 : R.C := (.seq (.seq (.reg [] [.a 74 (.mv (.t 11)), .a 75 (.mv (.t 8)), .a 76 (.bin .lss (.t 74) (.t 75))] [74, 75] [])
  (.cond (.t 76) .skip (.exit 0)))
  (.seq (.block 1 (.seq (.reg [] [.a 79 (.mv (.t 3)), .a 80 (.mv (.t 11)), .a 81 (.iA 1 (.t 79) (.t 80)), .a 82 (.ld 1 false (.t 81)), .a 83 (.ln (.t 82)), .a 84 (.mv (.t 9)), .a 85 (.bin .neq (.t 83) (.t 84))] [76, 79, 80, 81, 82, 83, 84] [])
  (.cond (.t 85) (.seq (.reg [] [.a 2 (.mv (.c (.bool false)))] [0, 3, 4, 6, 8, 9, 11, 85] [])
  .ret) .skip)))
  (.reg [] [.a 77 (.mv (.t 11)), .a 78 (.bin .add (.t 77) (.c (.int .i64 1))), .a 11 (.mv (.t 78))] [77, 78, 85] [])))
def dendronlaw05_SolveSteps.b2 : R.C := (.seq (.seq (.reg [] [.a 90 (.mv (.t 12)), .a 91 (.mv (.t 8)), .a 92 (.bin .lss (.t 90) (.t 91))] [90, 91] [])
  (.cond (.t 92) .skip (.exit 2)))
  (.seq (.block 3 (.seq (.reg [] [.a 95 (.mv (.t 0)), .a 96 (.mv (.t 12)), .a 97 (.iA 1 (.t 95) (.t 96)), .a 98 (.ld 1 false (.t 97)), .a 99 (.mv (.t 3)), .a 100 (.mv (.t 4)), .a 101 (.call F.dendronlaw05_made [(.t 98), (.t 99), (.t 100)]), .a 102 (.un .not (.t 101))] [92, 95, 96, 97, 98, 99, 100, 101] [])
  (.cond (.t 102) (.seq (.reg [] [.a 2 (.mv (.c (.bool false)))] [0, 3, 4, 6, 8, 12, 102] [])
  .ret) .skip)))
  (.reg [] [.a 93 (.mv (.t 12)), .a 94 (.bin .add (.t 93) (.c (.int .i64 1))), .a 12 (.mv (.t 94))] [93, 94, 102] [])))
def dendronlaw05_SolveSteps : R.Fn := ⟨1, [(.t 2)], (.seq (.reg [] [.a 2 (.mv (.c (.bool false)))] [2] [])
  (.seq (.reg [] [.a 16 (.mv (.t 0)), .a 17 (.call F.dendronlaw05_few [(.t 16), (.c (.int .i64 5))]), .a 0 (.mv (.t 17))] [16, 17] [])
  (.seq (.reg [] [.a 19 (.mv (.t 0)), .a 20 (.call F.solve_Steps [(.t 19)]), .a 18 (.mv (.t 20)), .a 21 (.ext (.t 18) 0), .a 22 (.ext (.t 18) 1), .a 23 (.ext (.t 18) 2), .a 3 (.mv (.t 21)), .a 4 (.mv (.t 22)), .a 5 (.mv (.t 23))] [18, 19, 20, 21, 22, 23] [])
  (.seq (.reg [] [.a 25 (.mv (.t 0)), .a 26 (.call F.solve_Rank [(.t 25)]), .a 24 (.mv (.t 26)), .a 27 (.ext (.t 24) 0), .a 28 (.ext (.t 24) 1), .a 6 (.mv (.t 27)), .a 7 (.mv (.t 28))] [24, 25, 26, 27, 28] [])
  (.seq (.reg [] [.a 30 (.mv (.t 0)), .a 31 (.call F.dendronlaw05_size [(.t 30)]), .a 29 (.mv (.t 31)), .a 32 (.ext (.t 29) 0), .a 33 (.ext (.t 29) 1), .a 34 (.ext (.t 29) 2), .a 8 (.mv (.t 32)), .a 9 (.mv (.t 33)), .a 10 (.mv (.t 34))] [29, 30, 31, 32, 33, 34] [])
  (.seq (.seq (.reg [] [.a 35 (.mv (.t 10)), .a 36 (.un .not (.t 35))] [10, 35] [])
  (.cond (.t 36) (.seq (.reg [] [.a 37 (.mv (.t 3)), .a 38 (.ln (.t 37)), .a 39 (.mv (.t 4)), .a 40 (.ln (.t 39)), .a 41 (.bin .add (.t 38) (.t 40)), .a 42 (.mv (.t 6)), .a 43 (.bin .add (.t 41) (.t 42)), .a 44 (.bin .eql (.t 43) (.c (.int .i64 0))), .a 45 (.mv (.t 44)), .g 46 45 true (.mv (.t 5)), .g 47 45 true (.bin .eql (.t 46) (.c (.int .i64 14))), .a 48 (.pick (.t 45) (.t 47) (.c (.bool false))), .a 49 (.mv (.t 48)), .g 50 49 true (.mv (.t 7)), .g 51 49 true (.bin .eql (.t 50) (.c (.int .i64 14))), .a 52 (.pick (.t 49) (.t 51) (.c (.bool false))), .a 53 (.mv (.t 52)), .g 54 53 true (.call F.dendronlaw05_awake []), .a 55 (.pick (.t 53) (.t 54) (.c (.bool false))), .a 2 (.mv (.t 55))] [0, 3, 4, 5, 6, 7, 8, 9, 36, 37, 38, 39, 40, 41, 42, 43, 44, 45, 46, 47, 48, 49, 50, 51, 52, 53, 54, 55] [])
  .ret) .skip))
  (.seq (.seq (.reg [] [.a 56 (.mv (.t 5)), .a 57 (.bin .neq (.t 56) (.c (.int .i64 0))), .a 58 (.mv (.t 57)), .g 59 58 false (.mv (.t 7)), .g 60 58 false (.bin .neq (.t 59) (.c (.int .i64 0))), .a 61 (.pick (.t 58) (.c (.bool true)) (.t 60)), .a 62 (.mv (.t 61)), .g 63 62 false (.mv (.t 6)), .g 64 62 false (.mv (.t 4)), .g 65 62 false (.ln (.t 64)), .g 66 62 false (.bin .neq (.t 63) (.t 65)), .a 67 (.pick (.t 62) (.c (.bool true)) (.t 66)), .a 68 (.mv (.t 67)), .g 69 68 false (.mv (.t 3)), .g 70 68 false (.ln (.t 69)), .g 71 68 false (.mv (.t 8)), .g 72 68 false (.bin .neq (.t 70) (.t 71)), .a 73 (.pick (.t 68) (.c (.bool true)) (.t 72))] [5, 7, 36, 56, 57, 58, 59, 60, 61, 62, 63, 64, 65, 66, 67, 68, 69, 70, 71, 72] [])
  (.cond (.t 73) (.seq (.reg [] [.a 2 (.mv (.c (.bool false)))] [0, 3, 4, 6, 8, 9, 73] [])
  .ret) .skip))
  (.seq (.seq (.reg [] [.a 11 (.mv (.c (.int .i64 0)))] [73] [])
  (.block 0 (.loop [] [] dendronlaw05_SolveSteps.b0)))
  (.seq (.seq (.reg [] [.a 86 (.mv (.t 3)), .a 87 (.mv (.t 4)), .a 88 (.call F.dendronlaw05_inSteps [(.t 86), (.t 87)]), .a 89 (.un .not (.t 88))] [9, 11, 76, 86, 87, 88] [])
  (.cond (.t 89) (.seq (.reg [] [.a 2 (.mv (.c (.bool false)))] [0, 3, 4, 6, 8, 89] [])
  .ret) .skip))
  (.seq (.seq (.reg [] [.a 12 (.mv (.c (.int .i64 0)))] [89] [])
  (.block 2 (.loop [] [] dendronlaw05_SolveSteps.b2)))
  (.seq (.reg [] [.a 103 (.lito 1 0 [] []), .a 104 (.mv (.t 0)), .a 105 (.app 1 24 (.t 103) (.t 104)), .a 106 (.mv (.t 3)), .a 107 (.app 1 24 (.t 105) (.t 106)), .a 13 (.mv (.t 107))] [0, 3, 4, 8, 12, 92, 103, 104, 105, 106, 107] [])
  (.seq (.reg [13] [.a 109 (.mv (.t 13)), .a 110 (.call F.solve_Rank [(.t 109)]), .a 108 (.mv (.t 110)), .a 111 (.ext (.t 108) 0), .a 112 (.ext (.t 108) 1), .a 14 (.mv (.t 111)), .a 15 (.mv (.t 112))] [13, 108, 109, 110, 111, 112] [103])
  (.seq (.reg [] [.a 113 (.mv (.t 15)), .a 114 (.bin .eql (.t 113) (.c (.int .i64 0))), .a 115 (.mv (.t 114)), .g 116 115 true (.mv (.t 14)), .g 117 115 true (.mv (.t 6)), .g 118 115 true (.bin .eql (.t 116) (.t 117)), .a 119 (.pick (.t 115) (.t 118) (.c (.bool false))), .a 120 (.mv (.t 119)), .g 121 120 true (.call F.dendronlaw05_awake []), .a 122 (.pick (.t 120) (.t 121) (.c (.bool false))), .a 2 (.mv (.t 122))] [6, 14, 15, 113, 114, 115, 116, 117, 118, 119, 120, 121, 122] [])
  .ret)))))))))))))⟩
def dendronlaw05_SolveSteps.hint : R.Hint := { lit := [103], pub := [(22, [13])], kill := [(0, [2], []), (1, [16, 17], []), (2, [18, 19, 20, 21, 22, 23], []), (3, [24, 25, 26, 27, 28], []), (4, [29, 30, 31, 32, 33, 34], []), (5, [10, 35], []), (6, [0, 3, 4, 5, 6, 7, 8, 9, 36, 37, 38, 39, 40, 41, 42, 43, 44, 45, 46, 47, 48, 49, 50, 51, 52, 53, 54, 55], []), (7, [5, 7, 36, 56, 57, 58, 59, 60, 61, 62, 63, 64, 65, 66, 67, 68, 69, 70, 71, 72], []), (8, [0, 3, 4, 6, 8, 9, 73], []), (9, [73], []), (10, [74, 75], []), (11, [77, 78, 85], []), (12, [76, 79, 80, 81, 82, 83, 84], []), (13, [0, 3, 4, 6, 8, 9, 11, 85], []), (14, [9, 11, 76, 86, 87, 88], []), (15, [0, 3, 4, 6, 8, 89], []), (16, [89], []), (17, [90, 91], []), (18, [93, 94, 102], []), (19, [92, 95, 96, 97, 98, 99, 100, 101], []), (20, [0, 3, 4, 6, 8, 12, 102], []), (21, [0, 3, 4, 8, 12, 92, 103, 104, 105, 106, 107], []), (22, [13, 108, 109, 110, 111, 112], [103]), (23, [6, 14, 15, 113, 114, 115, 116, 117, 118, 119, 120, 121, 122], [])] }
theorem dendronlaw05_SolveSteps.ok : cFn Tryd.prog dendronlaw05_SolveSteps.hint Tryd.f6 = some dendronlaw05_SolveSteps := by kernel_rfl
def dendronlaw05_SolveSolves.b0 : R.C := (.seq (.seq (.reg [] [.a 60 (.mv (.t 14)), .a 61 (.mv (.t 7)), .a 62 (.bin .lss (.t 60) (.t 61))] [60, 61] [])
  (.cond (.t 62) .skip (.exit 0)))
  (.seq (.block 1 (.reg [] [.a 65 (.mv (.t 13)), .a 66 (.lith 3 0 []), .a 67 (.mv (.t 0)), .a 68 (.mv (.t 14)), .a 69 (.iA 1 (.t 67) (.t 68)), .a 70 (.ldd 1 false (.t 69)), .a 71 (.apph 3 56 (.t 66) (.t 70)), .a 72 (.mv (.t 1)), .a 73 (.mv (.t 14)), .a 74 (.iA 3 (.t 72) (.t 73)), .a 75 (.ldd 3 true (.t 74)), .a 76 (.litd 3 1 [(.bool false), (.sl 1 []), (.sl 1 [])] [(0, 3, (.t 75))]), .a 77 (.appf 3 56 (.t 71) (.t 76)), .a 78 (.lit 1 1 [(.sl 3 [])] [(0, 1, (.t 77))]), .a 79 (.app 1 24 (.t 65) (.t 78)), .a 13 (.mv (.t 79))] [62, 65, 66, 67, 68, 69, 70, 71, 72, 73, 74, 75, 76, 77, 78, 79] [66]))
  (.reg [] [.a 63 (.mv (.t 14)), .a 64 (.bin .add (.t 63) (.c (.int .i64 1))), .a 14 (.mv (.t 64))] [63, 64] [])))
def dendronlaw05_SolveSolves.b2 : R.C := (.seq (.seq (.reg [] [.a 107 (.mv (.t 17)), .a 108 (.mv (.t 7)), .a 109 (.bin .lss (.t 107) (.t 108))] [107, 108] [])
  (.cond (.t 109) .skip (.exit 2)))
  (.seq (.block 3 (.seq (.reg [] [.a 112 (.mv (.t 0)), .a 113 (.mv (.t 17)), .a 114 (.iA 1 (.t 112) (.t 113)), .a 115 (.ldr (.t 114)), .a 116 (.mv (.t 5)), .a 117 (.callc F.dendronlaw05_dot [(.t 115), (.t 116)]), .a 118 (.mv (.t 1)), .a 119 (.mv (.t 17)), .a 120 (.iA 3 (.t 118) (.t 119)), .a 121 (.ld 3 true (.t 120)), .a 122 (.callc F.ratio_Same [(.t 117), (.t 121)]), .a 123 (.un .not (.t 122))] [109, 112, 113, 114, 115, 116, 117, 118, 119, 120, 121, 122] [])
  (.cond (.t 123) (.seq (.reg [] [.a 4 (.mv (.c (.bool false)))] [0, 1, 5, 7, 8, 11, 17, 123] [])
  .ret) .skip)))
  (.reg [] [.a 110 (.mv (.t 17)), .a 111 (.bin .add (.t 110) (.c (.int .i64 1))), .a 17 (.mv (.t 111))] [110, 111, 123] [])))
def dendronlaw05_SolveSolves.b4 : R.C := (.seq (.seq (.reg [] [.a 124 (.mv (.t 19)), .a 125 (.mv (.t 8)), .a 126 (.bin .lss (.t 124) (.t 125))] [124, 125] [])
  (.cond (.t 126) .skip (.exit 4)))
  (.seq (.block 5 (.seq (.reg [] [.a 129 (.mv (.t 18)), .a 130 (.mv (.t 11)), .a 131 (.ln (.t 130)), .a 132 (.bin .lss (.t 129) (.t 131)), .a 133 (.mv (.t 132)), .g 134 133 true (.mv (.t 11)), .g 135 133 true (.mv (.t 18)), .g 136 133 true (.iA 1 (.t 134) (.t 135)), .g 137 133 true (.ld 1 false (.t 136)), .g 138 133 true (.mv (.t 19)), .g 139 133 true (.bin .eql (.t 137) (.t 138)), .a 140 (.pick (.t 133) (.t 139) (.c (.bool false)))] [126, 129, 130, 131, 132, 133, 134, 135, 136, 137, 138, 139] [])
  (.cond (.t 140) (.reg [] [.a 141 (.mv (.t 18)), .a 142 (.bin .add (.t 141) (.c (.int .i64 1))), .a 18 (.mv (.t 142))] [140, 141, 142] []) (.seq (.reg [] [.a 143 (.mv (.t 5)), .a 144 (.mv (.t 19)), .a 145 (.iA 3 (.t 143) (.t 144)), .a 146 (.ld 3 true (.t 145)), .a 147 (.callc F.ratio_Sign [(.t 146)]), .a 148 (.bin .neq (.t 147) (.c (.int .i64 0)))] [140, 143, 144, 145, 146, 147] [])
  (.cond (.t 148) (.seq (.reg [] [.a 4 (.mv (.c (.bool false)))] [5, 8, 11, 18, 19, 148] [])
  .ret) .skip)))))
  (.reg [] [.a 127 (.mv (.t 19)), .a 128 (.bin .add (.t 127) (.c (.int .i64 1))), .a 19 (.mv (.t 128))] [127, 128, 148] [])))
def dendronlaw05_SolveSolves : R.Fn := ⟨2, [(.t 4)], (.seq (.reg [] [.a 4 (.mv (.c (.bool false)))] [4] [])
  (.seq (.reg [] [.a 20 (.mv (.t 0)), .a 21 (.callc F.dendronlaw05_few [(.t 20), (.c (.int .i64 4))]), .a 0 (.mv (.t 21))] [20, 21] [])
  (.seq (.reg [] [.a 22 (.mv (.t 1)), .a 23 (.callc F.dendronlaw05_row [(.t 22), (.c (.int .i64 4))]), .a 1 (.mv (.t 23))] [22, 23] [])
  (.seq (.reg [] [.a 25 (.mv (.t 0)), .a 26 (.mv (.t 1)), .a 27 (.callc F.solve_Solve [(.t 25), (.t 26)]), .a 24 (.mv (.t 27)), .a 28 (.ext (.t 24) 0), .a 29 (.ext (.t 24) 1), .a 5 (.mv (.t 28)), .a 6 (.mv (.t 29))] [24, 25, 26, 27, 28, 29] [])
  (.seq (.reg [] [.a 31 (.mv (.t 0)), .a 32 (.callc F.dendronlaw05_size [(.t 31)]), .a 30 (.mv (.t 32)), .a 33 (.ext (.t 30) 0), .a 34 (.ext (.t 30) 1), .a 35 (.ext (.t 30) 2), .a 7 (.mv (.t 33)), .a 8 (.mv (.t 34)), .a 9 (.mv (.t 35))] [30, 31, 32, 33, 34, 35] [])
  (.seq (.seq (.reg [] [.a 36 (.mv (.t 9)), .a 37 (.un .not (.t 36)), .a 38 (.mv (.t 37)), .g 39 38 false (.mv (.t 7)), .g 40 38 false (.mv (.t 1)), .g 41 38 false (.ln (.t 40)), .g 42 38 false (.bin .neq (.t 39) (.t 41)), .a 43 (.pick (.t 38) (.c (.bool true)) (.t 42))] [9, 36, 37, 38, 39, 40, 41, 42] [])
  (.cond (.t 43) (.seq (.reg [] [.a 44 (.mv (.t 5)), .a 45 (.ln (.t 44)), .a 46 (.bin .eql (.t 45) (.c (.int .i64 0))), .a 47 (.mv (.t 46)), .g 48 47 true (.mv (.t 6)), .g 49 47 true (.bin .eql (.t 48) (.c (.int .i64 14))), .a 50 (.pick (.t 47) (.t 49) (.c (.bool false))), .a 51 (.mv (.t 50)), .g 52 51 true (.callc F.dendronlaw05_awake []), .a 53 (.pick (.t 51) (.t 52) (.c (.bool false))), .a 4 (.mv (.t 53))] [0, 1, 5, 6, 7, 8, 43, 44, 45, 46, 47, 48, 49, 50, 51, 52, 53] [])
  .ret) .skip))
  (.seq (.reg [] [.a 55 (.mv (.t 0)), .a 56 (.callc F.solve_Steps [(.t 55)]), .a 54 (.mv (.t 56)), .a 57 (.ext (.t 54) 0), .a 58 (.ext (.t 54) 1), .a 59 (.ext (.t 54) 2), .a 10 (.mv (.t 57)), .a 11 (.mv (.t 58)), .a 12 (.mv (.t 59))] [10, 12, 43, 54, 55, 56, 57, 58, 59] [])
  (.seq (.reg [] [.a 13 (.nil 1)] [] [])
  (.seq (.seq (.reg [] [.a 14 (.mv (.c (.int .i64 0)))] [] [])
  (.block 0 (.loop [] [] dendronlaw05_SolveSolves.b0)))
  (.seq (.reg [13] [.a 81 (.mv (.t 13)), .a 82 (.callc F.solve_Rank [(.t 81)]), .a 80 (.mv (.t 82)), .a 83 (.ext (.t 80) 0), .a 84 (.ext (.t 80) 1), .a 15 (.mv (.t 83)), .a 16 (.mv (.t 84))] [13, 14, 16, 62, 80, 81, 82, 83, 84] [13])
  (.seq (.seq (.reg [] [.a 85 (.mv (.t 15)), .a 86 (.mv (.t 11)), .a 87 (.ln (.t 86)), .a 88 (.bin .gtr (.t 85) (.t 87))] [15, 85, 86, 87] [])
  (.cond (.t 88) (.seq (.reg [] [.a 89 (.mv (.t 5)), .a 90 (.ln (.t 89)), .a 91 (.bin .eql (.t 90) (.c (.int .i64 0))), .a 92 (.mv (.t 91)), .g 93 92 true (.mv (.t 6)), .g 94 92 true (.bin .eql (.t 93) (.c (.int .i64 17))), .a 95 (.pick (.t 92) (.t 94) (.c (.bool false))), .a 96 (.mv (.t 95)), .g 97 96 true (.callc F.dendronlaw05_awake []), .a 98 (.pick (.t 96) (.t 97) (.c (.bool false))), .a 4 (.mv (.t 98))] [0, 1, 5, 6, 7, 8, 11, 88, 89, 90, 91, 92, 93, 94, 95, 96, 97, 98] [])
  .ret) .skip))
  (.seq (.seq (.reg [] [.a 99 (.mv (.t 6)), .a 100 (.bin .neq (.t 99) (.c (.int .i64 0))), .a 101 (.mv (.t 100)), .g 102 101 false (.mv (.t 5)), .g 103 101 false (.ln (.t 102)), .g 104 101 false (.mv (.t 8)), .g 105 101 false (.bin .neq (.t 103) (.t 104)), .a 106 (.pick (.t 101) (.c (.bool true)) (.t 105))] [6, 88, 99, 100, 101, 102, 103, 104, 105] [])
  (.cond (.t 106) (.seq (.reg [] [.a 4 (.mv (.c (.bool false)))] [0, 1, 5, 7, 8, 11, 106] [])
  .ret) .skip))
  (.seq (.seq (.reg [] [.a 17 (.mv (.c (.int .i64 0)))] [106] [])
  (.block 2 (.loop [] [] dendronlaw05_SolveSolves.b2)))
  (.seq (.reg [] [.a 18 (.mv (.c (.int .i64 0)))] [0, 1, 7, 17, 109] [])
  (.seq (.seq (.reg [] [.a 19 (.mv (.c (.int .i64 0)))] [] [])
  (.block 4 (.loop [] [] dendronlaw05_SolveSolves.b4)))
  (.seq (.reg [] [.a 149 (.callc F.dendronlaw05_awake []), .a 4 (.mv (.t 149))] [5, 8, 11, 18, 19, 126, 149] [])
  .ret))))))))))))))))⟩
def dendronlaw05_SolveSolves.hint : R.Hint := { nil := [13], pub := [(13, [13])], kill := [(0, [4], []), (1, [20, 21], []), (2, [22, 23], []), (3, [24, 25, 26, 27, 28, 29], []), (4, [30, 31, 32, 33, 34, 35], []), (5, [9, 36, 37, 38, 39, 40, 41, 42], []), (6, [0, 1, 5, 6, 7, 8, 43, 44, 45, 46, 47, 48, 49, 50, 51, 52, 53], []), (7, [10, 12, 43, 54, 55, 56, 57, 58, 59], []), (10, [60, 61], []), (11, [63, 64], []), (12, [62, 65, 66, 67, 68, 69, 70, 71, 72, 73, 74, 75, 76, 77, 78, 79], [66]), (13, [13, 14, 16, 62, 80, 81, 82, 83, 84], [13]), (14, [15, 85, 86, 87], []), (15, [0, 1, 5, 6, 7, 8, 11, 88, 89, 90, 91, 92, 93, 94, 95, 96, 97, 98], []), (16, [6, 88, 99, 100, 101, 102, 103, 104, 105], []), (17, [0, 1, 5, 7, 8, 11, 106], []), (18, [106], []), (19, [107, 108], []), (20, [110, 111, 123], []), (21, [109, 112, 113, 114, 115, 116, 117, 118, 119, 120, 121, 122], []), (22, [0, 1, 5, 7, 8, 11, 17, 123], []), (23, [0, 1, 7, 17, 109], []), (25, [124, 125], []), (26, [127, 128, 148], []), (27, [126, 129, 130, 131, 132, 133, 134, 135, 136, 137, 138, 139], []), (28, [140, 141, 142], []), (29, [140, 143, 144, 145, 146, 147], []), (30, [5, 8, 11, 18, 19, 148], []), (31, [5, 8, 11, 18, 19, 126, 149], [])], heap := true, apph := [71], pure := [70, 75, 76], lith := [66], appf := [77] }
theorem dendronlaw05_SolveSolves.ok : cFn Tryd.prog dendronlaw05_SolveSolves.hint Tryd.f7 = some dendronlaw05_SolveSolves := by kernel_rfl
def dendronlaw05_SolveKernels.b2 : R.C := (.seq (.seq (.reg [] [.a 79 (.mv (.t 14)), .a 80 (.mv (.t 3)), .a 81 (.ln (.t 80)), .a 82 (.bin .lss (.t 79) (.t 81))] [79, 80, 81] [])
  (.cond (.t 82) .skip (.exit 2)))
  (.seq (.block 3 (.seq (.reg [] [.a 85 (.call F.ratio_Zero []), .a 15 (.new [(.bool false), (.sl 1 []), (.sl 1 [])]), .n (.st 3 (.t 15) (.t 85))] [82, 85] [])
  (.seq (.seq (.reg [] [.a 86 (.mv (.t 14)), .a 87 (.mv (.t 11)), .a 88 (.bin .eql (.t 86) (.t 87))] [86, 87] [])
  (.cond (.t 88) (.reg [] [.a 89 (.call F.ratio_One []), .n (.st 3 (.t 15) (.t 89))] [88, 89] []) .skip))
  (.seq (.reg [] [.a 90 (.mv (.t 3)), .a 91 (.mv (.t 14)), .a 92 (.iA 1 (.t 90) (.t 91)), .a 93 (.ld 1 false (.t 92)), .a 94 (.ln (.t 93)), .a 95 (.mv (.t 6)), .a 96 (.bin .neq (.t 94) (.t 95)), .a 97 (.mv (.t 96)), .g 98 97 false (.mv (.t 3)), .g 99 97 false (.mv (.t 14)), .g 100 97 false (.iA 1 (.t 98) (.t 99)), .g 101 97 false (.ld 1 false (.t 100)), .g 102 97 false (.mv (.t 13)), .g 103 97 false (.iA 3 (.t 101) (.t 102)), .g 104 97 false (.ld 3 true (.t 103)), .g 105 97 false (.ld 3 true (.t 15)), .g 106 97 false (.call F.ratio_Same [(.t 104), (.t 105)]), .g 107 97 false (.un .not (.t 106)), .a 108 (.pick (.t 97) (.c (.bool true)) (.t 107))] [15, 88, 90, 91, 92, 93, 94, 95, 96, 97, 98, 99, 100, 101, 102, 103, 104, 105, 106, 107] [15])
  (.cond (.t 108) (.seq (.reg [] [.a 2 (.mv (.c (.bool false)))] [0, 3, 5, 6, 9, 11, 12, 13, 14, 108] [])
  .ret) .skip)))))
  (.reg [] [.a 83 (.mv (.t 14)), .a 84 (.bin .add (.t 83) (.c (.int .i64 1))), .a 14 (.mv (.t 84))] [83, 84, 108] [])))
def dendronlaw05_SolveKernels.b0 : R.C := (.seq (.seq (.reg [] [.a 60 (.mv (.t 13)), .a 61 (.mv (.t 6)), .a 62 (.bin .lss (.t 60) (.t 61))] [60, 61] [])
  (.cond (.t 62) .skip (.exit 0)))
  (.seq (.block 1 (.seq (.seq (.reg [] [.a 65 (.mv (.t 12)), .a 66 (.mv (.t 9)), .a 67 (.ln (.t 66)), .a 68 (.bin .lss (.t 65) (.t 67)), .a 69 (.mv (.t 68)), .g 70 69 true (.mv (.t 9)), .g 71 69 true (.mv (.t 12)), .g 72 69 true (.iA 1 (.t 70) (.t 71)), .g 73 69 true (.ld 1 false (.t 72)), .g 74 69 true (.mv (.t 13)), .g 75 69 true (.bin .eql (.t 73) (.t 74)), .a 76 (.pick (.t 69) (.t 75) (.c (.bool false)))] [62, 65, 66, 67, 68, 69, 70, 71, 72, 73, 74, 75] [])
  (.cond (.t 76) (.seq (.reg [] [.a 77 (.mv (.t 12)), .a 78 (.bin .add (.t 77) (.c (.int .i64 1))), .a 12 (.mv (.t 78))] [76, 77, 78] [])
  (.exit 1)) .skip))
  (.seq (.seq (.reg [] [.a 14 (.mv (.c (.int .i64 0)))] [76] [])
  (.block 2 (.loop [] [] dendronlaw05_SolveKernels.b2)))
  (.reg [] [.a 109 (.mv (.t 11)), .a 110 (.bin .add (.t 109) (.c (.int .i64 1))), .a 11 (.mv (.t 110))] [14, 82, 109, 110] []))))
  (.reg [] [.a 63 (.mv (.t 13)), .a 64 (.bin .add (.t 63) (.c (.int .i64 1))), .a 13 (.mv (.t 64))] [63, 64] [])))
def dendronlaw05_SolveKernels.b6 : R.C := (.seq (.seq (.reg [] [.a 117 (.mv (.t 17)), .a 118 (.mv (.t 5)), .a 119 (.bin .lss (.t 117) (.t 118))] [117, 118] [])
  (.cond (.t 119) .skip (.exit 6)))
  (.seq (.block 7 (.seq (.reg [] [.a 122 (.mv (.t 0)), .a 123 (.mv (.t 17)), .a 124 (.iA 1 (.t 122) (.t 123)), .a 125 (.ld 1 false (.t 124)), .a 126 (.mv (.t 3)), .a 127 (.mv (.t 16)), .a 128 (.iA 1 (.t 126) (.t 127)), .a 129 (.ld 1 false (.t 128)), .a 130 (.call F.dendronlaw05_dot [(.t 125), (.t 129)]), .a 131 (.call F.ratio_Sign [(.t 130)]), .a 132 (.bin .neq (.t 131) (.c (.int .i64 0)))] [119, 122, 123, 124, 125, 126, 127, 128, 129, 130, 131] [])
  (.cond (.t 132) (.seq (.reg [] [.a 2 (.mv (.c (.bool false)))] [0, 3, 5, 16, 17, 132] [])
  .ret) .skip)))
  (.reg [] [.a 120 (.mv (.t 17)), .a 121 (.bin .add (.t 120) (.c (.int .i64 1))), .a 17 (.mv (.t 121))] [120, 121, 132] [])))
def dendronlaw05_SolveKernels.b4 : R.C := (.seq (.seq (.reg [] [.a 111 (.mv (.t 16)), .a 112 (.mv (.t 3)), .a 113 (.ln (.t 112)), .a 114 (.bin .lss (.t 111) (.t 113))] [111, 112, 113] [])
  (.cond (.t 114) .skip (.exit 4)))
  (.seq (.block 5 (.seq (.reg [] [.a 17 (.mv (.c (.int .i64 0)))] [114] [])
  (.block 6 (.loop [] [] dendronlaw05_SolveKernels.b6))))
  (.reg [] [.a 115 (.mv (.t 16)), .a 116 (.bin .add (.t 115) (.c (.int .i64 1))), .a 16 (.mv (.t 116))] [17, 115, 116, 119] [])))
def dendronlaw05_SolveKernels : R.Fn := ⟨1, [(.t 2)], (.seq (.reg [] [.a 2 (.mv (.c (.bool false)))] [2] [])
  (.seq (.reg [] [.a 18 (.mv (.t 0)), .a 19 (.call F.dendronlaw05_few [(.t 18), (.c (.int .i64 5))]), .a 0 (.mv (.t 19))] [18, 19] [])
  (.seq (.reg [] [.a 21 (.mv (.t 0)), .a 22 (.call F.solve_Kernel [(.t 21)]), .a 20 (.mv (.t 22)), .a 23 (.ext (.t 20) 0), .a 24 (.ext (.t 20) 1), .a 3 (.mv (.t 23)), .a 4 (.mv (.t 24))] [20, 21, 22, 23, 24] [])
  (.seq (.reg [] [.a 26 (.mv (.t 0)), .a 27 (.call F.dendronlaw05_size [(.t 26)]), .a 25 (.mv (.t 27)), .a 28 (.ext (.t 25) 0), .a 29 (.ext (.t 25) 1), .a 30 (.ext (.t 25) 2), .a 5 (.mv (.t 28)), .a 6 (.mv (.t 29)), .a 7 (.mv (.t 30))] [25, 26, 27, 28, 29, 30] [])
  (.seq (.seq (.reg [] [.a 31 (.mv (.t 7)), .a 32 (.un .not (.t 31))] [7, 31] [])
  (.cond (.t 32) (.seq (.reg [] [.a 33 (.mv (.t 3)), .a 34 (.ln (.t 33)), .a 35 (.bin .eql (.t 34) (.c (.int .i64 0))), .a 36 (.mv (.t 35)), .g 37 36 true (.mv (.t 4)), .g 38 36 true (.bin .eql (.t 37) (.c (.int .i64 14))), .a 39 (.pick (.t 36) (.t 38) (.c (.bool false))), .a 40 (.mv (.t 39)), .g 41 40 true (.call F.dendronlaw05_awake []), .a 42 (.pick (.t 40) (.t 41) (.c (.bool false))), .a 2 (.mv (.t 42))] [0, 3, 4, 5, 6, 32, 33, 34, 35, 36, 37, 38, 39, 40, 41, 42] [])
  .ret) .skip))
  (.seq (.reg [] [.a 44 (.mv (.t 0)), .a 45 (.call F.solve_Steps [(.t 44)]), .a 43 (.mv (.t 45)), .a 46 (.ext (.t 43) 0), .a 47 (.ext (.t 43) 1), .a 48 (.ext (.t 43) 2), .a 8 (.mv (.t 46)), .a 9 (.mv (.t 47)), .a 10 (.mv (.t 48))] [8, 10, 32, 43, 44, 45, 46, 47, 48] [])
  (.seq (.seq (.reg [] [.a 49 (.mv (.t 4)), .a 50 (.bin .neq (.t 49) (.c (.int .i64 0))), .a 51 (.mv (.t 50)), .g 52 51 false (.mv (.t 3)), .g 53 51 false (.ln (.t 52)), .g 54 51 false (.mv (.t 6)), .g 55 51 false (.mv (.t 9)), .g 56 51 false (.ln (.t 55)), .g 57 51 false (.bin .sub (.t 54) (.t 56)), .g 58 51 false (.bin .neq (.t 53) (.t 57)), .a 59 (.pick (.t 51) (.c (.bool true)) (.t 58))] [4, 49, 50, 51, 52, 53, 54, 55, 56, 57, 58] [])
  (.cond (.t 59) (.seq (.reg [] [.a 2 (.mv (.c (.bool false)))] [0, 3, 5, 6, 9, 59] [])
  .ret) .skip))
  (.seq (.reg [] [.a 11 (.mv (.c (.int .i64 0))), .a 12 (.mv (.c (.int .i64 0)))] [59] [])
  (.seq (.seq (.reg [] [.a 13 (.mv (.c (.int .i64 0)))] [] [])
  (.block 0 (.loop [] [] dendronlaw05_SolveKernels.b0)))
  (.seq (.seq (.reg [] [.a 16 (.mv (.c (.int .i64 0)))] [6, 9, 11, 12, 13, 62] [])
  (.block 4 (.loop [] [] dendronlaw05_SolveKernels.b4)))
  (.seq (.reg [] [.a 133 (.call F.dendronlaw05_awake []), .a 2 (.mv (.t 133))] [0, 3, 5, 16, 114, 133] [])
  .ret)))))))))))⟩
def dendronlaw05_SolveKernels.hint : R.Hint := { kill := [(0, [2], []), (1, [18, 19], []), (2, [20, 21, 22, 23, 24], []), (3, [25, 26, 27, 28, 29, 30], []), (4, [7, 31], []), (5, [0, 3, 4, 5, 6, 32, 33, 34, 35, 36, 37, 38, 39, 40, 41, 42], []), (6, [8, 10, 32, 43, 44, 45, 46, 47, 48], []), (7, [4, 49, 50, 51, 52, 53, 54, 55, 56, 57, 58], []), (8, [0, 3, 5, 6, 9, 59], []), (9, [59], []), (11, [60, 61], []), (12, [63, 64], []), (13, [62, 65, 66, 67, 68, 69, 70, 71, 72, 73, 74, 75], []), (14, [76, 77, 78], []), (15, [76], []), (16, [79, 80, 81], []), (17, [83, 84, 108], []), (18, [82, 85], []), (19, [86, 87], []), (20, [88, 89], []), (21, [15, 88, 90, 91, 92, 93, 94, 95, 96, 97, 98, 99, 100, 101, 102, 103, 104, 105, 106, 107], [15]), (22, [0, 3, 5, 6, 9, 11, 12, 13, 14, 108], []), (23, [14, 82, 109, 110], []), (24, [6, 9, 11, 12, 13, 62], []), (25, [111, 112, 113], []), (26, [17, 115, 116, 119], []), (27, [114], []), (28, [117, 118], []), (29, [120, 121, 132], []), (30, [119, 122, 123, 124, 125, 126, 127, 128, 129, 130, 131], []), (31, [0, 3, 5, 16, 17, 132], []), (32, [0, 3, 5, 16, 114, 133], [])] }
theorem dendronlaw05_SolveKernels.ok : cFn Tryd.prog dendronlaw05_SolveKernels.hint Tryd.f8 = some dendronlaw05_SolveKernels := by kernel_rfl
def dendronlaw05_SolveInverses : R.Fn := ⟨2, [(.t 4)], (.seq (.reg [] [.a 4 (.mv (.c (.bool false)))] [4] [])
  (.seq (.reg [] [.a 14 (.mv (.t 0)), .a 15 (.call F.dendronlaw05_few [(.t 14), (.c (.int .i64 4))]), .a 0 (.mv (.t 15))] [14, 15] [])
  (.seq (.seq (.reg [] [.a 16 (.mv (.t 1))] [1] [])
  (.cond (.t 16) (.reg [] [.a 17 (.mv (.t 0)), .a 18 (.call F.dendronlaw05_square [(.t 17)]), .a 0 (.mv (.t 18))] [16, 17, 18] []) .skip))
  (.seq (.reg [] [.a 20 (.mv (.t 0)), .a 21 (.call F.solve_Inverse [(.t 20)]), .a 19 (.mv (.t 21)), .a 22 (.ext (.t 19) 0), .a 23 (.ext (.t 19) 1), .a 5 (.mv (.t 22)), .a 6 (.mv (.t 23))] [16, 19, 20, 21, 22, 23] [])
  (.seq (.reg [] [.a 25 (.mv (.t 0)), .a 26 (.call F.dendronlaw05_size [(.t 25)]), .a 24 (.mv (.t 26)), .a 27 (.ext (.t 24) 0), .a 28 (.ext (.t 24) 1), .a 29 (.ext (.t 24) 2), .a 7 (.mv (.t 27)), .a 8 (.mv (.t 28)), .a 9 (.mv (.t 29))] [24, 25, 26, 27, 28, 29] [])
  (.seq (.seq (.reg [] [.a 30 (.mv (.t 9)), .a 31 (.un .not (.t 30)), .a 32 (.mv (.t 31)), .g 33 32 false (.mv (.t 7)), .g 34 32 false (.mv (.t 8)), .g 35 32 false (.bin .neq (.t 33) (.t 34)), .a 36 (.pick (.t 32) (.c (.bool true)) (.t 35))] [8, 9, 30, 31, 32, 33, 34, 35] [])
  (.cond (.t 36) (.seq (.reg [] [.a 37 (.mv (.t 5)), .a 38 (.ln (.t 37)), .a 39 (.bin .eql (.t 38) (.c (.int .i64 0))), .a 40 (.mv (.t 39)), .g 41 40 true (.mv (.t 6)), .g 42 40 true (.bin .eql (.t 41) (.c (.int .i64 14))), .a 43 (.pick (.t 40) (.t 42) (.c (.bool false))), .a 44 (.mv (.t 43)), .g 45 44 true (.call F.dendronlaw05_awake []), .a 46 (.pick (.t 44) (.t 45) (.c (.bool false))), .a 4 (.mv (.t 46))] [0, 5, 6, 7, 36, 37, 38, 39, 40, 41, 42, 43, 44, 45, 46] [])
  .ret) .skip))
  (.seq (.seq (.reg [] [.a 47 (.mv (.t 0)), .a 48 (.callc F.dendronlaw05_det [(.t 47)]), .a 49 (.call F.ratio_Sign [(.t 48)]), .a 50 (.bin .eql (.t 49) (.c (.int .i64 0)))] [36, 47, 48, 49] [])
  (.cond (.t 50) (.seq (.reg [] [.a 51 (.mv (.t 5)), .a 52 (.ln (.t 51)), .a 53 (.bin .eql (.t 52) (.c (.int .i64 0))), .a 54 (.mv (.t 53)), .g 55 54 true (.mv (.t 6)), .g 56 54 true (.bin .eql (.t 55) (.c (.int .i64 2))), .a 57 (.pick (.t 54) (.t 56) (.c (.bool false))), .a 58 (.mv (.t 57)), .g 59 58 true (.call F.dendronlaw05_awake []), .a 60 (.pick (.t 58) (.t 59) (.c (.bool false))), .a 4 (.mv (.t 60))] [0, 5, 6, 7, 50, 51, 52, 53, 54, 55, 56, 57, 58, 59, 60] [])
  .ret) .skip))
  (.seq (.reg [] [.a 62 (.mv (.t 0)), .a 63 (.mv (.t 5)), .a 64 (.call F.solve_Mul [(.t 62), (.t 63)]), .a 61 (.mv (.t 64)), .a 65 (.ext (.t 61) 0), .a 66 (.ext (.t 61) 1), .a 10 (.mv (.t 65)), .a 11 (.mv (.t 66))] [50, 61, 62, 63, 64, 65, 66] [])
  (.seq (.reg [] [.a 68 (.mv (.t 5)), .a 69 (.mv (.t 0)), .a 70 (.call F.solve_Mul [(.t 68), (.t 69)]), .a 67 (.mv (.t 70)), .a 71 (.ext (.t 67) 0), .a 72 (.ext (.t 67) 1), .a 12 (.mv (.t 71)), .a 13 (.mv (.t 72))] [0, 5, 67, 68, 69, 70, 71, 72] [])
  (.seq (.reg [] [.a 73 (.mv (.t 6)), .a 74 (.bin .eql (.t 73) (.c (.int .i64 0))), .a 75 (.mv (.t 74)), .g 76 75 true (.mv (.t 11)), .g 77 75 true (.bin .eql (.t 76) (.c (.int .i64 0))), .a 78 (.pick (.t 75) (.t 77) (.c (.bool false))), .a 79 (.mv (.t 78)), .g 80 79 true (.mv (.t 13)), .g 81 79 true (.bin .eql (.t 80) (.c (.int .i64 0))), .a 82 (.pick (.t 79) (.t 81) (.c (.bool false))), .a 83 (.mv (.t 82)), .g 84 83 true (.mv (.t 10)), .g 85 83 true (.mv (.t 7)), .g 86 83 true (.call F.solve_Unit [(.t 85)]), .g 87 83 true (.call F.dendronlaw05_tables [(.t 84), (.t 86)]), .a 88 (.pick (.t 83) (.t 87) (.c (.bool false))), .a 89 (.mv (.t 88)), .g 90 89 true (.mv (.t 12)), .g 91 89 true (.mv (.t 7)), .g 92 89 true (.call F.solve_Unit [(.t 91)]), .g 93 89 true (.call F.dendronlaw05_tables [(.t 90), (.t 92)]), .a 94 (.pick (.t 89) (.t 93) (.c (.bool false))), .a 95 (.mv (.t 94)), .g 96 95 true (.call F.dendronlaw05_awake []), .a 97 (.pick (.t 95) (.t 96) (.c (.bool false))), .a 4 (.mv (.t 97))] [6, 7, 10, 11, 12, 13, 73, 74, 75, 76, 77, 78, 79, 80, 81, 82, 83, 84, 85, 86, 87, 88, 89, 90, 91, 92, 93, 94, 95, 96, 97] [])
  .ret))))))))))⟩
def dendronlaw05_SolveInverses.hint : R.Hint := { kill := [(0, [4], []), (1, [14, 15], []), (2, [1], []), (3, [16, 17, 18], []), (4, [16, 19, 20, 21, 22, 23], []), (5, [24, 25, 26, 27, 28, 29], []), (6, [8, 9, 30, 31, 32, 33, 34, 35], []), (7, [0, 5, 6, 7, 36, 37, 38, 39, 40, 41, 42, 43, 44, 45, 46], []), (8, [36, 47, 48, 49], []), (9, [0, 5, 6, 7, 50, 51, 52, 53, 54, 55, 56, 57, 58, 59, 60], []), (10, [50, 61, 62, 63, 64, 65, 66], []), (11, [0, 5, 67, 68, 69, 70, 71, 72], []), (12, [6, 7, 10, 11, 12, 13, 73, 74, 75, 76, 77, 78, 79, 80, 81, 82, 83, 84, 85, 86, 87, 88, 89, 90, 91, 92, 93, 94, 95, 96, 97], [])], callc := [48] }
theorem dendronlaw05_SolveInverses.ok : cFn Tryd.prog dendronlaw05_SolveInverses.hint Tryd.f9 = some dendronlaw05_SolveInverses := by kernel_rfl
def dendronlaw05_SolveLeasts.b0 : R.C := (.seq (.seq (.reg [] [.a 64 (.mv (.t 14)), .a 65 (.mv (.t 11)), .a 66 (.bin .lss (.t 64) (.t 65))] [64, 65] [])
  (.cond (.t 66) .skip (.exit 0)))
  (.seq (.block 1 (.seq (.reg [] [.a 69 (.mv (.t 2)), .a 70 (.mv (.t 14)), .a 71 (.iA 3 (.t 69) (.t 70)), .a 72 (.ld 3 true (.t 71)), .a 73 (.call F.ratio_Sign [(.t 72)]), .a 74 (.bin .lss (.t 73) (.c (.int .i64 0)))] [66, 69, 70, 71, 72, 73] [])
  (.cond (.t 74) (.seq (.reg [] [.a 75 (.mv (.t 9)), .a 76 (.ln (.t 75)), .a 77 (.bin .eql (.t 76) (.c (.int .i64 0))), .a 78 (.mv (.t 77)), .g 79 78 true (.mv (.t 10)), .g 80 78 true (.bin .eql (.t 79) (.c (.int .i64 8))), .a 81 (.pick (.t 78) (.t 80) (.c (.bool false))), .a 82 (.mv (.t 81)), .g 83 82 true (.call F.dendronlaw05_awake []), .a 84 (.pick (.t 82) (.t 83) (.c (.bool false))), .a 8 (.mv (.t 84))] [0, 1, 2, 3, 9, 10, 11, 12, 14, 74, 75, 76, 77, 78, 79, 80, 81, 82, 83, 84] [])
  .ret) .skip)))
  (.reg [] [.a 67 (.mv (.t 14)), .a 68 (.bin .add (.t 67) (.c (.int .i64 1))), .a 14 (.mv (.t 68))] [67, 68, 74] [])))
def dendronlaw05_SolveLeasts.b2 : R.C := (.seq (.seq (.reg [] [.a 85 (.mv (.t 16)), .a 86 (.mv (.t 11)), .a 87 (.bin .lss (.t 85) (.t 86))] [85, 86] [])
  (.cond (.t 87) .skip (.exit 2)))
  (.seq (.block 3 (.seq (.reg [] [.a 90 (.mv (.t 2)), .a 91 (.mv (.t 16)), .a 92 (.iA 3 (.t 90) (.t 91)), .a 93 (.ld 3 true (.t 92)), .a 94 (.call F.ratio_Sign [(.t 93)]), .a 95 (.bin .gtr (.t 94) (.c (.int .i64 0)))] [87, 90, 91, 92, 93, 94] [])
  (.cond (.t 95) (.reg [] [.a 96 (.mv (.t 15)), .a 97 (.mv (.t 0)), .a 98 (.mv (.t 16)), .a 99 (.iA 1 (.t 97) (.t 98)), .a 100 (.ld 1 false (.t 99)), .a 101 (.lit 1 1 [(.sl 3 [])] [(0, 1, (.t 100))]), .a 102 (.app 1 24 (.t 96) (.t 101)), .a 15 (.mv (.t 102))] [95, 96, 97, 98, 99, 100, 101, 102] []) .skip)))
  (.reg [] [.a 88 (.mv (.t 16)), .a 89 (.bin .add (.t 88) (.c (.int .i64 1))), .a 16 (.mv (.t 89))] [88, 89, 95] [])))
def dendronlaw05_SolveLeasts : R.Fn := ⟨4, [(.t 8)], (.seq (.reg [] [.a 8 (.mv (.c (.bool false)))] [8] [])
  (.seq (.reg [] [.a 19 (.mv (.t 0)), .a 20 (.call F.dendronlaw05_few [(.t 19), (.c (.int .i64 4))]), .a 0 (.mv (.t 20))] [19, 20] [])
  (.seq (.reg [] [.a 21 (.mv (.t 1)), .a 22 (.call F.dendronlaw05_row [(.t 21), (.c (.int .i64 4))]), .a 1 (.mv (.t 22))] [21, 22] [])
  (.seq (.reg [] [.a 23 (.mv (.t 2)), .a 24 (.call F.dendronlaw05_row [(.t 23), (.c (.int .i64 4))]), .a 2 (.mv (.t 24))] [23, 24] [])
  (.seq (.reg [] [.a 25 (.mv (.t 3)), .a 26 (.call F.dendronlaw05_row [(.t 25), (.c (.int .i64 4))]), .a 3 (.mv (.t 26))] [25, 26] [])
  (.seq (.reg [] [.a 28 (.mv (.t 0)), .a 29 (.mv (.t 1)), .a 30 (.mv (.t 2)), .a 31 (.call F.solve_Least [(.t 28), (.t 29), (.t 30)]), .a 27 (.mv (.t 31)), .a 32 (.ext (.t 27) 0), .a 33 (.ext (.t 27) 1), .a 9 (.mv (.t 32)), .a 10 (.mv (.t 33))] [27, 28, 29, 30, 31, 32, 33] [])
  (.seq (.reg [] [.a 35 (.mv (.t 0)), .a 36 (.call F.dendronlaw05_size [(.t 35)]), .a 34 (.mv (.t 36)), .a 37 (.ext (.t 34) 0), .a 38 (.ext (.t 34) 1), .a 39 (.ext (.t 34) 2), .a 11 (.mv (.t 37)), .a 12 (.mv (.t 38)), .a 13 (.mv (.t 39))] [34, 35, 36, 37, 38, 39] [])
  (.seq (.seq (.reg [] [.a 40 (.mv (.t 13)), .a 41 (.un .not (.t 40)), .a 42 (.mv (.t 41)), .g 43 42 false (.mv (.t 11)), .g 44 42 false (.mv (.t 1)), .g 45 42 false (.ln (.t 44)), .g 46 42 false (.bin .neq (.t 43) (.t 45)), .a 47 (.pick (.t 42) (.c (.bool true)) (.t 46)), .a 48 (.mv (.t 47)), .g 49 48 false (.mv (.t 11)), .g 50 48 false (.mv (.t 2)), .g 51 48 false (.ln (.t 50)), .g 52 48 false (.bin .neq (.t 49) (.t 51)), .a 53 (.pick (.t 48) (.c (.bool true)) (.t 52))] [13, 40, 41, 42, 43, 44, 45, 46, 47, 48, 49, 50, 51, 52] [])
  (.cond (.t 53) (.seq (.reg [] [.a 54 (.mv (.t 9)), .a 55 (.ln (.t 54)), .a 56 (.bin .eql (.t 55) (.c (.int .i64 0))), .a 57 (.mv (.t 56)), .g 58 57 true (.mv (.t 10)), .g 59 57 true (.bin .eql (.t 58) (.c (.int .i64 14))), .a 60 (.pick (.t 57) (.t 59) (.c (.bool false))), .a 61 (.mv (.t 60)), .g 62 61 true (.call F.dendronlaw05_awake []), .a 63 (.pick (.t 61) (.t 62) (.c (.bool false))), .a 8 (.mv (.t 63))] [0, 1, 2, 3, 9, 10, 11, 12, 53, 54, 55, 56, 57, 58, 59, 60, 61, 62, 63] [])
  .ret) .skip))
  (.seq (.seq (.reg [] [.a 14 (.mv (.c (.int .i64 0)))] [53] [])
  (.block 0 (.loop [] [] dendronlaw05_SolveLeasts.b0)))
  (.seq (.reg [] [.a 15 (.nil 1)] [14, 66] [])
  (.seq (.seq (.reg [] [.a 16 (.mv (.c (.int .i64 0)))] [] [])
  (.block 2 (.loop [] [] dendronlaw05_SolveLeasts.b2)))
  (.seq (.reg [15] [.a 104 (.mv (.t 15)), .a 105 (.call F.solve_Rank [(.t 104)]), .a 103 (.mv (.t 105)), .a 106 (.ext (.t 103) 0), .a 107 (.ext (.t 103) 1), .a 17 (.mv (.t 106)), .a 18 (.mv (.t 107))] [11, 15, 16, 18, 87, 103, 104, 105, 106, 107] [15])
  (.seq (.seq (.reg [] [.a 108 (.mv (.t 17)), .a 109 (.mv (.t 12)), .a 110 (.bin .lss (.t 108) (.t 109))] [17, 108, 109] [])
  (.cond (.t 110) (.seq (.reg [] [.a 111 (.mv (.t 9)), .a 112 (.ln (.t 111)), .a 113 (.bin .eql (.t 112) (.c (.int .i64 0))), .a 114 (.mv (.t 113)), .g 115 114 true (.mv (.t 10)), .g 116 114 true (.bin .eql (.t 115) (.c (.int .i64 2))), .a 117 (.pick (.t 114) (.t 116) (.c (.bool false))), .a 118 (.mv (.t 117)), .g 119 118 true (.call F.dendronlaw05_awake []), .a 120 (.pick (.t 118) (.t 119) (.c (.bool false))), .a 8 (.mv (.t 120))] [0, 1, 2, 3, 9, 10, 12, 110, 111, 112, 113, 114, 115, 116, 117, 118, 119, 120] [])
  .ret) .skip))
  (.seq (.seq (.reg [] [.a 121 (.mv (.t 10)), .a 122 (.bin .neq (.t 121) (.c (.int .i64 0))), .a 123 (.mv (.t 122)), .g 124 123 false (.mv (.t 9)), .g 125 123 false (.ln (.t 124)), .g 126 123 false (.mv (.t 12)), .g 127 123 false (.bin .neq (.t 125) (.t 126)), .a 128 (.pick (.t 123) (.c (.bool true)) (.t 127))] [10, 110, 121, 122, 123, 124, 125, 126, 127] [])
  (.cond (.t 128) (.seq (.reg [] [.a 8 (.mv (.c (.bool false)))] [0, 1, 2, 3, 9, 12, 128] [])
  .ret) .skip))
  (.seq (.reg [] [.a 129 (.mv (.t 3)), .a 130 (.ln (.t 129)), .a 131 (.mv (.t 12)), .a 132 (.bin .neq (.t 130) (.t 131)), .a 133 (.mv (.t 132)), .g 134 133 false (.mv (.t 9)), .g 135 133 false (.mv (.t 3)), .g 136 133 false (.call F.dendronlaw05_same [(.t 134), (.t 135)]), .a 137 (.pick (.t 133) (.c (.bool true)) (.t 136)), .a 138 (.mv (.t 137)), .g 139 138 false (.mv (.t 0)), .g 140 138 false (.mv (.t 1)), .g 141 138 false (.mv (.t 2)), .g 142 138 false (.mv (.t 9)), .g 143 138 false (.call F.dendronlaw05_loss [(.t 139), (.t 140), (.t 141), (.t 142)]), .g 144 138 false (.mv (.t 0)), .g 145 138 false (.mv (.t 1)), .g 146 138 false (.mv (.t 2)), .g 147 138 false (.mv (.t 3)), .g 148 138 false (.call F.dendronlaw05_loss [(.t 144), (.t 145), (.t 146), (.t 147)]), .g 149 138 false (.call F.ratio_Cmp [(.t 143), (.t 148)]), .g 150 138 false (.bin .lss (.t 149) (.c (.int .i64 0))), .a 151 (.pick (.t 138) (.c (.bool true)) (.t 150)), .a 152 (.mv (.t 151)), .g 153 152 true (.call F.dendronlaw05_awake []), .a 154 (.pick (.t 152) (.t 153) (.c (.bool false))), .a 8 (.mv (.t 154))] [0, 1, 2, 3, 9, 12, 128, 129, 130, 131, 132, 133, 134, 135, 136, 137, 138, 139, 140, 141, 142, 143, 144, 145, 146, 147, 148, 149, 150, 151, 152, 153, 154] [])
  .ret)))))))))))))))⟩
def dendronlaw05_SolveLeasts.hint : R.Hint := { nil := [15], pub := [(20, [15])], kill := [(0, [8], []), (1, [19, 20], []), (2, [21, 22], []), (3, [23, 24], []), (4, [25, 26], []), (5, [27, 28, 29, 30, 31, 32, 33], []), (6, [34, 35, 36, 37, 38, 39], []), (7, [13, 40, 41, 42, 43, 44, 45, 46, 47, 48, 49, 50, 51, 52], []), (8, [0, 1, 2, 3, 9, 10, 11, 12, 53, 54, 55, 56, 57, 58, 59, 60, 61, 62, 63], []), (9, [53], []), (10, [64, 65], []), (11, [67, 68, 74], []), (12, [66, 69, 70, 71, 72, 73], []), (13, [0, 1, 2, 3, 9, 10, 11, 12, 14, 74, 75, 76, 77, 78, 79, 80, 81, 82, 83, 84], []), (14, [14, 66], []), (16, [85, 86], []), (17, [88, 89, 95], []), (18, [87, 90, 91, 92, 93, 94], []), (19, [95, 96, 97, 98, 99, 100, 101, 102], []), (20, [11, 15, 16, 18, 87, 103, 104, 105, 106, 107], [15]), (21, [17, 108, 109], []), (22, [0, 1, 2, 3, 9, 10, 12, 110, 111, 112, 113, 114, 115, 116, 117, 118, 119, 120], []), (23, [10, 110, 121, 122, 123, 124, 125, 126, 127], []), (24, [0, 1, 2, 3, 9, 12, 128], []), (25, [0, 1, 2, 3, 9, 12, 128, 129, 130, 131, 132, 133, 134, 135, 136, 137, 138, 139, 140, 141, 142, 143, 144, 145, 146, 147, 148, 149, 150, 151, 152, 153, 154], [])] }
theorem dendronlaw05_SolveLeasts.ok : cFn Tryd.prog dendronlaw05_SolveLeasts.hint Tryd.f10 = some dendronlaw05_SolveLeasts := by kernel_rfl
def dendronlaw20_KernelNearest.b0 : R.C := (.seq (.seq (.reg [] [.a 78 (.mv (.t 14)), .a 79 (.mv (.t 5)), .a 80 (.bin .lss (.t 78) (.t 79))] [78, 79] [])
  (.cond (.t 80) .skip (.exit 0)))
  (.seq (.block 1 (.reg [] [.a 83 (.mv (.t 13)), .a 84 (.mv (.t 83)), .g 85 84 true (.mv (.t 6)), .g 86 84 true (.mv (.t 14)), .g 87 84 true (.iA 3 (.t 85) (.t 86)), .g 88 84 true (.ld 3 true (.t 87)), .g 89 84 true (.mv (.t 8)), .g 90 84 true (.mv (.t 14)), .g 91 84 true (.iA 3 (.t 89) (.t 90)), .g 92 84 true (.ld 3 true (.t 91)), .g 93 84 true (.call F.ratio_Same [(.t 88), (.t 92)]), .a 94 (.pick (.t 84) (.t 93) (.c (.bool false))), .a 13 (.mv (.t 94))] [80, 83, 84, 85, 86, 87, 88, 89, 90, 91, 92, 93, 94] []))
  (.reg [] [.a 81 (.mv (.t 14)), .a 82 (.bin .add (.t 81) (.c (.int .i64 1))), .a 14 (.mv (.t 82))] [81, 82] [])))
def dendronlaw20_KernelNearest : R.Fn := ⟨2, [(.t 4)], (.seq (.reg [] [.a 4 (.mv (.c (.bool false)))] [4] [])
  (.seq (.reg [] [.a 16 (.mv (.t 0)), .a 17 (.call F.dendronlaw19_Few [(.t 16)]), .a 0 (.mv (.t 17))] [16, 17] [])
  (.seq (.reg [] [.a 18 (.mv (.t 1)), .a 19 (.call F.dendronlaw19_Few [(.t 18)]), .a 1 (.mv (.t 19))] [18, 19] [])
  (.seq (.reg [] [.a 20 (.mv (.t 0)), .a 21 (.call F.dendronlaw19_Size [(.t 20)]), .a 5 (.mv (.t 21))] [20, 21] [])
  (.seq (.seq (.reg [] [.a 22 (.mv (.t 5)), .a 23 (.bin .lss (.t 22) (.c (.int .i64 2))), .a 24 (.mv (.t 23)), .g 25 24 false (.mv (.t 1)), .g 26 24 false (.ln (.t 25)), .g 27 24 false (.mv (.t 5)), .g 28 24 false (.bin .lss (.t 26) (.t 27)), .a 29 (.pick (.t 24) (.c (.bool true)) (.t 28))] [22, 23, 24, 25, 26, 27, 28] [])
  (.cond (.t 29) (.seq (.reg [] [.a 30 (.call F.dendronlaw20_awake []), .a 4 (.mv (.t 30))] [0, 1, 5, 29, 30] [])
  .ret) .skip))
  (.seq (.reg [] [.a 32 (.mv (.t 0)), .a 33 (.call F.kernel_Values [(.t 32)]), .a 31 (.mv (.t 33)), .a 34 (.ext (.t 31) 0), .a 35 (.ext (.t 31) 1), .a 6 (.mv (.t 34)), .a 7 (.mv (.t 35))] [29, 31, 32, 33, 34, 35] [])
  (.seq (.seq (.reg [] [.a 36 (.mv (.t 7)), .a 37 (.bin .neq (.t 36) (.c (.int .i64 0))), .a 38 (.mv (.t 37)), .g 39 38 false (.mv (.t 6)), .g 40 38 false (.ln (.t 39)), .g 41 38 false (.mv (.t 5)), .g 42 38 false (.bin .neq (.t 40) (.t 41)), .a 43 (.pick (.t 38) (.c (.bool true)) (.t 42))] [7, 36, 37, 38, 39, 40, 41, 42] [])
  (.cond (.t 43) (.seq (.reg [] [.a 4 (.mv (.c (.bool false)))] [0, 1, 5, 6, 43] [])
  .ret) .skip))
  (.seq (.reg [] [.a 44 (.lito 3 0 [] []), .a 45 (.mv (.t 1)), .a 46 (.mv (.t 5)), .a 47 (.bin .sub (.t 46) (.c (.int .i64 1))), .a 48 (.slc 3 (.t 45) none (some (.t 47))), .a 49 (.app 3 56 (.t 44) (.t 48)), .a 8 (.mv (.t 49))] [1, 43, 44, 45, 46, 47, 48, 49] [])
  (.seq (.reg [] [.a 50 (.mv (.t 8)), .a 51 (.mv (.t 0)), .a 52 (.mv (.t 0)), .a 53 (.ln (.t 52)), .a 54 (.bin .sub (.t 53) (.c (.int .i64 1))), .a 55 (.iA 3 (.t 51) (.t 54)), .a 56 (.ld 3 true (.t 55)), .a 57 (.mv (.t 0)), .a 58 (.iA 3 (.t 57) (.c (.int .i64 0))), .a 59 (.ld 3 true (.t 58)), .a 60 (.call F.ratio_Sub [(.t 56), (.t 59)]), .a 61 (.mv (.t 8)), .a 62 (.call F.ratio_Sum [(.t 61)]), .a 63 (.call F.ratio_Sub [(.t 60), (.t 62)]), .a 64 (.lit 3 1 [(.bool false), (.sl 1 []), (.sl 1 [])] [(0, 3, (.t 63))]), .a 65 (.app 3 56 (.t 50) (.t 64)), .a 8 (.mv (.t 65))] [50, 51, 52, 53, 54, 55, 56, 57, 58, 59, 60, 61, 62, 63, 64, 65] [])
  (.seq (.reg [] [.a 67 (.mv (.t 0)), .a 68 (.mv (.t 6)), .a 69 (.call F.kernel_Distance [(.t 67), (.t 68)]), .a 66 (.mv (.t 69)), .a 70 (.ext (.t 66) 0), .a 71 (.ext (.t 66) 1), .a 9 (.new [(.bool false), (.sl 1 []), (.sl 1 [])]), .n (.st 3 (.t 9) (.t 70)), .a 10 (.mv (.t 71))] [66, 67, 68, 69, 70, 71] [])
  (.seq (.reg [8] [.a 73 (.mv (.t 0)), .a 74 (.mv (.t 8)), .a 75 (.call F.kernel_Distance [(.t 73), (.t 74)]), .a 72 (.mv (.t 75)), .a 76 (.ext (.t 72) 0), .a 77 (.ext (.t 72) 1), .a 11 (.new [(.bool false), (.sl 1 []), (.sl 1 [])]), .n (.st 3 (.t 11) (.t 76)), .a 12 (.mv (.t 77))] [0, 72, 73, 74, 75, 76, 77] [])
  (.seq (.reg [] [.a 13 (.mv (.c (.bool true)))] [] [])
  (.seq (.seq (.reg [] [.a 14 (.mv (.c (.int .i64 0)))] [] [])
  (.block 0 (.loop [] [] dendronlaw20_KernelNearest.b0)))
  (.seq (.reg [] [.a 95 (.ld 3 true (.t 9)), .a 96 (.ld 3 true (.t 11)), .a 97 (.call F.ratio_Cmp [(.t 95), (.t 96)]), .a 15 (.mv (.t 97))] [5, 6, 8, 9, 11, 14, 80, 95, 96, 97] [9, 11, 44])
  (.seq (.reg [] [.a 98 (.mv (.t 10)), .a 99 (.bin .eql (.t 98) (.c (.int .i64 0))), .a 100 (.mv (.t 99)), .g 101 100 true (.mv (.t 12)), .g 102 100 true (.bin .eql (.t 101) (.c (.int .i64 0))), .a 103 (.pick (.t 100) (.t 102) (.c (.bool false))), .a 104 (.mv (.t 103)), .g 105 104 true (.mv (.t 13)), .g 106 104 true (.mv (.t 105)), .g 107 106 true (.mv (.t 15)), .g 108 106 true (.bin .eql (.t 107) (.c (.int .i64 0))), .g 109 104 true (.pick (.t 106) (.t 108) (.c (.bool false))), .g 110 104 true (.mv (.t 109)), .g 111 110 false (.mv (.t 13)), .g 112 110 false (.un .not (.t 111)), .g 113 110 false (.mv (.t 112)), .g 114 113 true (.mv (.t 15)), .g 115 113 true (.bin .lss (.t 114) (.c (.int .i64 0))), .g 116 110 false (.pick (.t 113) (.t 115) (.c (.bool false))), .g 117 104 true (.pick (.t 110) (.c (.bool true)) (.t 116)), .a 118 (.pick (.t 104) (.t 117) (.c (.bool false))), .a 119 (.mv (.t 118)), .g 120 119 true (.call F.dendronlaw20_awake []), .a 121 (.pick (.t 119) (.t 120) (.c (.bool false))), .a 4 (.mv (.t 121))] [10, 12, 13, 15, 98, 99, 100, 101, 102, 103, 104, 105, 106, 107, 108, 109, 110, 111, 112, 113, 114, 115, 116, 117, 118, 119, 120, 121] [])
  .ret)))))))))))))))⟩
def dendronlaw20_KernelNearest.hint : R.Hint := { lit := [44], pub := [(12, [8])], kill := [(0, [4], []), (1, [16, 17], []), (2, [18, 19], []), (3, [20, 21], []), (4, [22, 23, 24, 25, 26, 27, 28], []), (5, [0, 1, 5, 29, 30], []), (6, [29, 31, 32, 33, 34, 35], []), (7, [7, 36, 37, 38, 39, 40, 41, 42], []), (8, [0, 1, 5, 6, 43], []), (9, [1, 43, 44, 45, 46, 47, 48, 49], []), (10, [50, 51, 52, 53, 54, 55, 56, 57, 58, 59, 60, 61, 62, 63, 64, 65], []), (11, [66, 67, 68, 69, 70, 71], []), (12, [0, 72, 73, 74, 75, 76, 77], []), (15, [78, 79], []), (16, [81, 82], []), (17, [80, 83, 84, 85, 86, 87, 88, 89, 90, 91, 92, 93, 94], []), (18, [5, 6, 8, 9, 11, 14, 80, 95, 96, 97], [9, 11, 44]), (19, [10, 12, 13, 15, 98, 99, 100, 101, 102, 103, 104, 105, 106, 107, 108, 109, 110, 111, 112, 113, 114, 115, 116, 117, 118, 119, 120, 121], [])] }
theorem dendronlaw20_KernelNearest.ok : cFn Tryd.prog dendronlaw20_KernelNearest.hint Tryd.f11 = some dendronlaw20_KernelNearest := by kernel_rfl
def dendronlaw05_few.b0 : R.C := (.seq (.seq (.reg [] [.a 7 (.mv (.t 6)), .a 8 (.mv (.t 0)), .a 9 (.ln (.t 8)), .a 10 (.bin .lss (.t 7) (.t 9)), .a 11 (.mv (.t 10)), .g 12 11 true (.mv (.t 6)), .g 13 11 true (.mv (.t 1)), .g 14 11 true (.bin .lss (.t 12) (.t 13)), .a 15 (.pick (.t 11) (.t 14) (.c (.bool false)))] [7, 8, 9, 10, 11, 12, 13, 14] [])
  (.cond (.t 15) .skip (.exit 0)))
  (.seq (.block 1 (.reg [] [.a 18 (.mv (.t 5)), .a 19 (.mv (.t 0)), .a 20 (.mv (.t 6)), .a 21 (.iA 1 (.t 19) (.t 20)), .a 22 (.ld 1 false (.t 21)), .a 23 (.mv (.t 1)), .a 24 (.call F.dendronlaw05_row [(.t 22), (.t 23)]), .a 25 (.lit 1 1 [(.sl 3 [])] [(0, 1, (.t 24))]), .a 26 (.app 1 24 (.t 18) (.t 25)), .a 5 (.mv (.t 26))] [15, 18, 19, 20, 21, 22, 23, 24, 25, 26] []))
  (.reg [] [.a 16 (.mv (.t 6)), .a 17 (.bin .add (.t 16) (.c (.int .i64 1))), .a 6 (.mv (.t 17))] [16, 17] [])))
def dendronlaw05_few : R.Fn := ⟨2, [(.t 4)], (.seq (.reg [] [.a 4 (.mv (.c (.sl 1 [])))] [4] [])
  (.seq (.reg [] [.a 5 (.nil 1)] [] [])
  (.seq (.seq (.reg [] [.a 6 (.mv (.c (.int .i64 0)))] [] [])
  (.block 0 (.loop [] [] dendronlaw05_few.b0)))
  (.seq (.reg [] [.a 27 (.mv (.t 5)), .a 4 (.mv (.t 27))] [0, 1, 5, 6, 15, 27] [])
  .ret))))⟩
def dendronlaw05_few.hint : R.Hint := { nil := [5], kill := [(0, [4], []), (3, [7, 8, 9, 10, 11, 12, 13, 14], []), (4, [16, 17], []), (5, [15, 18, 19, 20, 21, 22, 23, 24, 25, 26], []), (6, [0, 1, 5, 6, 15, 27], [])] }
theorem dendronlaw05_few.ok : cFn Tryd.prog dendronlaw05_few.hint Tryd.f12 = some dendronlaw05_few := by kernel_rfl
def solve_Size.b0 : R.C := (.seq (.reg [] [.a 13 (.bin .lss (.t 12) (.t 11))] [] [])
  (.seq (.cond (.t 13) .skip (.exit 0))
  (.seq (.block 1 (.seq (.reg [] [.a 14 (.iA 1 (.t 10) (.t 12)), .a 15 (.ld 1 false (.t 14)), .a 6 (.mv (.t 15))] [13, 14, 15] [])
  (.seq (.reg [] [.a 16 (.mv (.t 6)), .a 17 (.ln (.t 16)), .a 18 (.mv (.t 0)), .a 19 (.iA 1 (.t 18) (.c (.int .i64 0))), .a 20 (.ld 1 false (.t 19)), .a 21 (.ln (.t 20)), .a 22 (.bin .neq (.t 17) (.t 21))] [6, 16, 17, 18, 19, 20, 21] [])
  (.cond (.t 22) (.seq (.reg [] [.a 2 (.mv (.c (.int .i64 0))), .a 3 (.mv (.c (.int .i64 0))), .a 4 (.mv (.c (.bool false)))] [0, 10, 11, 12, 22] [])
  .ret) .skip))))
  (.reg [] [.a 23 (.bin .add (.t 12) (.c (.int .i64 1))), .a 12 (.mv (.t 23))] [22, 23] []))))
def solve_Size : R.Fn := ⟨1, [(.t 2), (.t 3), (.t 4)], (.seq (.reg [] [.a 2 (.mv (.c (.int .i64 0))), .a 3 (.mv (.c (.int .i64 0))), .a 4 (.mv (.c (.bool false)))] [2, 3, 4] [])
  (.seq (.seq (.reg [] [.a 7 (.mv (.t 0)), .a 8 (.ln (.t 7)), .a 9 (.bin .eql (.t 8) (.c (.int .i64 0)))] [7, 8] [])
  (.cond (.t 9) (.seq (.reg [] [.a 2 (.mv (.c (.int .i64 0))), .a 3 (.mv (.c (.int .i64 0))), .a 4 (.mv (.c (.bool true)))] [0, 9] [])
  .ret) .skip))
  (.seq (.seq (.reg [] [.a 10 (.mv (.t 0)), .a 11 (.ln (.t 10)), .a 12 (.mv (.c (.int .i64 0)))] [9] [])
  (.block 0 (.loop [] [] solve_Size.b0)))
  (.seq (.reg [] [.a 24 (.mv (.t 0)), .a 25 (.ln (.t 24)), .a 26 (.mv (.t 0)), .a 27 (.iA 1 (.t 26) (.c (.int .i64 0))), .a 28 (.ld 1 false (.t 27)), .a 29 (.ln (.t 28)), .a 2 (.mv (.t 25)), .a 3 (.mv (.t 29)), .a 4 (.mv (.c (.bool true)))] [0, 10, 11, 12, 13, 24, 25, 26, 27, 28, 29] [])
  .ret))))⟩
def solve_Size.hint : R.Hint := { kill := [(0, [2, 3, 4], []), (1, [7, 8], []), (2, [0, 9], []), (3, [9], []), (5, [13, 14, 15], []), (6, [6, 16, 17, 18, 19, 20, 21], []), (7, [0, 10, 11, 12, 22], []), (8, [22, 23], []), (9, [0, 10, 11, 12, 13, 24, 25, 26, 27, 28, 29], [])] }
theorem solve_Size.ok : cFn Tryd.prog solve_Size.hint Tryd.f13 = some solve_Size := by kernel_rfl
def dendronlaw05_size.b0 : R.C := (.seq (.seq (.reg [] [.a 6 (.mv (.t 5)), .a 7 (.mv (.t 0)), .a 8 (.ln (.t 7)), .a 9 (.bin .lss (.t 6) (.t 8))] [6, 7, 8] [])
  (.cond (.t 9) .skip (.exit 0)))
  (.seq (.block 1 (.seq (.reg [] [.a 12 (.mv (.t 0)), .a 13 (.mv (.t 5)), .a 14 (.iA 1 (.t 12) (.t 13)), .a 15 (.ld 1 false (.t 14)), .a 16 (.ln (.t 15)), .a 17 (.mv (.t 0)), .a 18 (.iA 1 (.t 17) (.c (.int .i64 0))), .a 19 (.ld 1 false (.t 18)), .a 20 (.ln (.t 19)), .a 21 (.bin .neq (.t 16) (.t 20))] [9, 12, 13, 14, 15, 16, 17, 18, 19, 20] [])
  (.cond (.t 21) (.seq (.reg [] [.a 2 (.mv (.c (.int .i64 0))), .a 3 (.mv (.c (.int .i64 0))), .a 4 (.mv (.c (.bool false)))] [0, 5, 21] [])
  .ret) .skip)))
  (.reg [] [.a 10 (.mv (.t 5)), .a 11 (.bin .add (.t 10) (.c (.int .i64 1))), .a 5 (.mv (.t 11))] [10, 11, 21] [])))
def dendronlaw05_size : R.Fn := ⟨1, [(.t 2), (.t 3), (.t 4)], (.seq (.reg [] [.a 2 (.mv (.c (.int .i64 0))), .a 3 (.mv (.c (.int .i64 0))), .a 4 (.mv (.c (.bool false)))] [2, 3, 4] [])
  (.seq (.seq (.reg [] [.a 5 (.mv (.c (.int .i64 0)))] [] [])
  (.block 0 (.loop [] [] dendronlaw05_size.b0)))
  (.seq (.seq (.reg [] [.a 22 (.mv (.t 0)), .a 23 (.ln (.t 22)), .a 24 (.bin .eql (.t 23) (.c (.int .i64 0)))] [5, 9, 22, 23] [])
  (.cond (.t 24) (.seq (.reg [] [.a 2 (.mv (.c (.int .i64 0))), .a 3 (.mv (.c (.int .i64 0))), .a 4 (.mv (.c (.bool true)))] [0, 24] [])
  .ret) .skip))
  (.seq (.reg [] [.a 25 (.mv (.t 0)), .a 26 (.ln (.t 25)), .a 27 (.mv (.t 0)), .a 28 (.iA 1 (.t 27) (.c (.int .i64 0))), .a 29 (.ld 1 false (.t 28)), .a 30 (.ln (.t 29)), .a 2 (.mv (.t 26)), .a 3 (.mv (.t 30)), .a 4 (.mv (.c (.bool true)))] [0, 24, 25, 26, 27, 28, 29, 30] [])
  .ret))))⟩
def dendronlaw05_size.hint : R.Hint := { kill := [(0, [2, 3, 4], []), (2, [6, 7, 8], []), (3, [10, 11, 21], []), (4, [9, 12, 13, 14, 15, 16, 17, 18, 19, 20], []), (5, [0, 5, 21], []), (6, [5, 9, 22, 23], []), (7, [0, 24], []), (8, [0, 24, 25, 26, 27, 28, 29, 30], [])] }
theorem dendronlaw05_size.ok : cFn Tryd.prog dendronlaw05_size.hint Tryd.f14 = some dendronlaw05_size := by kernel_rfl
def dendronlaw05_tables.b0 : R.C := (.seq (.seq (.reg [] [.a 11 (.mv (.t 5)), .a 12 (.mv (.t 0)), .a 13 (.ln (.t 12)), .a 14 (.bin .lss (.t 11) (.t 13))] [11, 12, 13] [])
  (.cond (.t 14) .skip (.exit 0)))
  (.seq (.block 1 (.seq (.reg [] [.a 17 (.mv (.t 0)), .a 18 (.mv (.t 5)), .a 19 (.iA 1 (.t 17) (.t 18)), .a 20 (.ld 1 false (.t 19)), .a 21 (.mv (.t 1)), .a 22 (.mv (.t 5)), .a 23 (.iA 1 (.t 21) (.t 22)), .a 24 (.ld 1 false (.t 23)), .a 25 (.call F.dendronlaw05_same [(.t 20), (.t 24)]), .a 26 (.un .not (.t 25))] [14, 17, 18, 19, 20, 21, 22, 23, 24, 25] [])
  (.cond (.t 26) (.seq (.reg [] [.a 4 (.mv (.c (.bool false)))] [0, 1, 5, 26] [])
  .ret) .skip)))
  (.reg [] [.a 15 (.mv (.t 5)), .a 16 (.bin .add (.t 15) (.c (.int .i64 1))), .a 5 (.mv (.t 16))] [15, 16, 26] [])))
def dendronlaw05_tables : R.Fn := ⟨2, [(.t 4)], (.seq (.reg [] [.a 4 (.mv (.c (.bool false)))] [4] [])
  (.seq (.seq (.reg [] [.a 6 (.mv (.t 0)), .a 7 (.ln (.t 6)), .a 8 (.mv (.t 1)), .a 9 (.ln (.t 8)), .a 10 (.bin .neq (.t 7) (.t 9))] [6, 7, 8, 9] [])
  (.cond (.t 10) (.seq (.reg [] [.a 4 (.mv (.c (.bool false)))] [0, 1, 10] [])
  .ret) .skip))
  (.seq (.seq (.reg [] [.a 5 (.mv (.c (.int .i64 0)))] [10] [])
  (.block 0 (.loop [] [] dendronlaw05_tables.b0)))
  (.seq (.reg [] [.a 4 (.mv (.c (.bool true)))] [0, 1, 5, 14] [])
  .ret))))⟩
def dendronlaw05_tables.hint : R.Hint := { kill := [(0, [4], []), (1, [6, 7, 8, 9], []), (2, [0, 1, 10], []), (3, [10], []), (4, [11, 12, 13], []), (5, [15, 16, 26], []), (6, [14, 17, 18, 19, 20, 21, 22, 23, 24, 25], []), (7, [0, 1, 5, 26], []), (8, [0, 1, 5, 14], [])] }
theorem dendronlaw05_tables.ok : cFn Tryd.prog dendronlaw05_tables.hint Tryd.f15 = some dendronlaw05_tables := by kernel_rfl
def solve_Copy.b2 : R.C := (.seq (.reg [] [.a 18 (.bin .lss (.t 17) (.t 16))] [] [])
  (.seq (.cond (.t 18) .skip (.exit 2))
  (.seq (.block 3 (.seq (.reg [] [.a 19 (.iA 3 (.t 15) (.t 17)), .a 20 (.ld 3 true (.t 19)), .a 8 (.new [(.bool false), (.sl 1 []), (.sl 1 [])]), .n (.st 3 (.t 8) (.t 20))] [18, 19, 20] [])
  (.reg [] [.a 21 (.mv (.t 6)), .a 22 (.ld 3 true (.t 8)), .a 23 (.callc F.ratio_Clean [(.t 22)]), .a 24 (.lit 3 1 [(.bool false), (.sl 1 []), (.sl 1 [])] [(0, 3, (.t 23))]), .a 25 (.app 3 56 (.t 21) (.t 24)), .a 6 (.mv (.t 25))] [8, 21, 22, 23, 24, 25] [8])))
  (.reg [] [.a 26 (.bin .add (.t 17) (.c (.int .i64 1))), .a 17 (.mv (.t 26))] [26] []))))
def solve_Copy.b0 : R.C := (.seq (.reg [] [.a 12 (.bin .lss (.t 11) (.t 10))] [] [])
  (.seq (.cond (.t 12) .skip (.exit 0))
  (.seq (.block 1 (.seq (.reg [] [.a 13 (.iA 1 (.t 9) (.t 11)), .a 14 (.ldr (.t 13)), .a 5 (.mv (.t 14))] [12, 13, 14] [])
  (.seq (.reg [] [.a 6 (.nil 3)] [] [])
  (.seq (.seq (.reg [] [.a 15 (.mv (.t 5)), .a 16 (.ln (.t 15)), .a 17 (.mv (.c (.int .i64 0)))] [5] [])
  (.block 2 (.loop [] [] solve_Copy.b2)))
  (.up [6] (.reg [6] [.a 27 (.mv (.t 3)), .a 28 (.mv (.t 6)), .a 29 (.lit 1 1 [(.sl 3 [])] [(0, 1, (.t 28))]), .a 30 (.app 1 24 (.t 27) (.t 29)), .a 3 (.mv (.t 30))] [6, 15, 16, 17, 18, 27, 28, 29, 30] [6]))))))
  (.reg [] [.a 31 (.bin .add (.t 11) (.c (.int .i64 1))), .a 11 (.mv (.t 31))] [31] []))))
def solve_Copy : R.Fn := ⟨1, [(.own 2)], (.seq (.reg [] [.a 2 (.mv (.c (.sl 1 [])))] [2] [])
  (.seq (.reg [] [.a 3 (.nil 1)] [] [])
  (.seq (.seq (.reg [] [.a 9 (.mv (.t 0)), .a 10 (.ln (.t 9)), .a 11 (.mv (.c (.int .i64 0)))] [0] [])
  (.block 0 (.loop [] [] solve_Copy.b0)))
  (.seq (.up [3] (.reg [] [.a 32 (.mv (.t 3)), .a 2 (.mv (.t 32))] [3, 9, 10, 11, 12, 32] []))
  .ret))))⟩
def solve_Copy.hint : R.Hint := { nil := [3, 6], pub := [(11, [6])], kill := [(0, [2], []), (2, [0], []), (4, [12, 13, 14], []), (6, [5], []), (8, [18, 19, 20], []), (9, [8, 21, 22, 23, 24, 25], [8]), (10, [26], []), (11, [6, 15, 16, 17, 18, 27, 28, 29, 30], [6]), (12, [31], []), (13, [3, 9, 10, 11, 12, 32], [])], own := true, heap := true, up := [(11, [6]), (13, [3])] }
theorem solve_Copy.ok : cFn Tryd.prog solve_Copy.hint Tryd.f16 = some solve_Copy := by kernel_rfl
def solve_Unit.b2 : R.C := (.seq (.reg [] [.a 13 (.bin .lss (.t 12) (.t 11))] [] [])
  (.seq (.cond (.t 13) .skip (.exit 2))
  (.seq (.block 3 (.seq (.reg [] [.a 14 (.mv (.t 12)), .a 6 (.mv (.t 14))] [13, 14] [])
  (.seq (.reg [] [.a 15 (.mv (.t 4)), .a 16 (.mv (.t 6)), .a 17 (.bin .eql (.t 15) (.t 16))] [6, 15, 16] [])
  (.cond (.t 17) (.reg [] [.a 18 (.mv (.t 5)), .a 19 (.call F.ratio_One []), .a 20 (.lit 3 1 [(.bool false), (.sl 1 []), (.sl 1 [])] [(0, 3, (.t 19))]), .a 21 (.app 3 56 (.t 18) (.t 20)), .a 5 (.mv (.t 21))] [17, 18, 19, 20, 21] []) (.reg [] [.a 22 (.mv (.t 5)), .a 23 (.call F.ratio_Zero []), .a 24 (.lit 3 1 [(.bool false), (.sl 1 []), (.sl 1 [])] [(0, 3, (.t 23))]), .a 25 (.app 3 56 (.t 22) (.t 24)), .a 5 (.mv (.t 25))] [17, 22, 23, 24, 25] [])))))
  (.reg [] [.a 26 (.bin .add (.t 12) (.c (.int .i64 1))), .a 12 (.mv (.t 26))] [26] []))))
def solve_Unit.b0 : R.C := (.seq (.reg [] [.a 9 (.bin .lss (.t 8) (.t 7))] [] [])
  (.seq (.cond (.t 9) .skip (.exit 0))
  (.seq (.block 1 (.seq (.reg [] [.a 10 (.mv (.t 8)), .a 4 (.mv (.t 10))] [9, 10] [])
  (.seq (.reg [] [.a 5 (.nil 3)] [] [])
  (.seq (.seq (.reg [] [.a 11 (.mv (.t 0)), .a 12 (.mv (.c (.int .i64 0)))] [] [])
  (.block 2 (.loop [] [] solve_Unit.b2)))
  (.reg [5] [.a 27 (.mv (.t 3)), .a 28 (.mv (.t 5)), .a 29 (.lit 1 1 [(.sl 3 [])] [(0, 1, (.t 28))]), .a 30 (.app 1 24 (.t 27) (.t 29)), .a 3 (.mv (.t 30))] [4, 5, 11, 12, 13, 27, 28, 29, 30] [5])))))
  (.reg [] [.a 31 (.bin .add (.t 8) (.c (.int .i64 1))), .a 8 (.mv (.t 31))] [31] []))))
def solve_Unit : R.Fn := ⟨1, [(.t 2)], (.seq (.reg [] [.a 2 (.mv (.c (.sl 1 [])))] [2] [])
  (.seq (.reg [] [.a 3 (.nil 1)] [] [])
  (.seq (.seq (.reg [] [.a 7 (.mv (.t 0)), .a 8 (.mv (.c (.int .i64 0)))] [] [])
  (.block 0 (.loop [] [] solve_Unit.b0)))
  (.seq (.reg [] [.a 32 (.mv (.t 3)), .a 2 (.mv (.t 32))] [0, 3, 7, 8, 9, 32] [])
  .ret))))⟩
def solve_Unit.hint : R.Hint := { nil := [3, 5], pub := [(13, [5])], kill := [(0, [2], []), (4, [9, 10], []), (8, [13, 14], []), (9, [6, 15, 16], []), (10, [17, 18, 19, 20, 21], []), (11, [17, 22, 23, 24, 25], []), (12, [26], []), (13, [4, 5, 11, 12, 13, 27, 28, 29, 30], [5]), (14, [31], []), (15, [0, 3, 7, 8, 9, 32], [])] }
theorem solve_Unit.ok : cFn Tryd.prog solve_Unit.hint Tryd.f17 = some solve_Unit := by kernel_rfl
def ratio_Zero : R.Fn := ⟨0, [(.cell 0 3 true)], (.seq (.reg [] [.a 0 (.new [(.bool false), (.sl 1 []), (.sl 1 [])])] [] [])
  (.seq (.reg [] [.a 1 (.call F.nat_Of [(.c (.int .u64 1))]), .a 2 (.bld [(.bool false), (.sl 1 []), (.sl 1 [])] [(2, 1, (.t 1))]), .n (.st 3 (.t 0) (.t 2))] [1, 2] [])
  .ret))⟩
def ratio_Zero.hint : R.Hint := { kill := [(1, [1, 2], [])] }
theorem ratio_Zero.ok : cFn Tryd.prog ratio_Zero.hint Tryd.f18 = some ratio_Zero := by kernel_rfl
def ratio_One : R.Fn := ⟨0, [(.cell 0 3 true)], (.seq (.reg [] [.a 0 (.new [(.bool false), (.sl 1 []), (.sl 1 [])])] [] [])
  (.seq (.reg [] [.a 1 (.call F.ratio_Of [(.c (.int .i64 1))]), .n (.st 3 (.t 0) (.t 1))] [1] [])
  .ret))⟩
def ratio_One.hint : R.Hint := { kill := [(1, [1], [])] }
theorem ratio_One.ok : cFn Tryd.prog ratio_One.hint Tryd.f19 = some ratio_One := by kernel_rfl
def ratio_Same : R.Fn := ⟨2, [(.t 4)], (.seq (.reg [] [.a 2 (.box (.t 0)), .a 3 (.box (.t 1)), .a 4 (.mv (.c (.bool false)))] [0, 1, 4] [])
  (.seq (.reg [] [.a 5 (.ld 3 true (.t 2)), .a 6 (.ld 3 true (.t 3)), .a 7 (.call F.ratio_Cmp [(.t 5), (.t 6)]), .a 8 (.bin .eql (.t 7) (.c (.int .i64 0))), .a 4 (.mv (.t 8))] [2, 3, 5, 6, 7, 8] [2, 3])
  .ret))⟩
def ratio_Same.hint : R.Hint := { kill := [(0, [0, 1, 4], []), (1, [2, 3, 5, 6, 7, 8], [2, 3])] }
theorem ratio_Same.ok : cFn Tryd.prog ratio_Same.hint Tryd.f20 = some ratio_Same := by kernel_rfl
def solve_Flip.b2 : R.C := (.seq (.reg [] [.a 26 (.bin .lss (.t 25) (.t 24))] [] [])
  (.seq (.cond (.t 26) .skip (.exit 2))
  (.seq (.block 3 (.seq (.reg [] [.a 27 (.mv (.t 25)), .a 10 (.mv (.t 27))] [26, 27] [])
  (.reg [] [.a 28 (.mv (.t 9)), .a 29 (.mv (.t 0)), .a 30 (.mv (.t 10)), .a 31 (.iA 1 (.t 29) (.t 30)), .a 32 (.ldr (.t 31)), .a 33 (.mv (.t 8)), .a 34 (.iA 3 (.t 32) (.t 33)), .a 35 (.ld 3 true (.t 34)), .a 36 (.callc F.ratio_Clean [(.t 35)]), .a 37 (.lit 3 1 [(.bool false), (.sl 1 []), (.sl 1 [])] [(0, 3, (.t 36))]), .a 38 (.app 3 56 (.t 28) (.t 37)), .a 9 (.mv (.t 38))] [10, 28, 29, 30, 31, 32, 33, 34, 35, 36, 37, 38] [])))
  (.reg [] [.a 39 (.bin .add (.t 25) (.c (.int .i64 1))), .a 25 (.mv (.t 39))] [39] []))))
def solve_Flip.b0 : R.C := (.seq (.reg [] [.a 21 (.bin .lss (.t 20) (.t 19))] [] [])
  (.seq (.cond (.t 21) .skip (.exit 0))
  (.seq (.block 1 (.seq (.reg [] [.a 22 (.mv (.t 20)), .a 8 (.mv (.t 22))] [21, 22] [])
  (.seq (.reg [] [.a 9 (.nil 3)] [] [])
  (.seq (.seq (.reg [] [.a 23 (.mv (.t 0)), .a 24 (.ln (.t 23)), .a 25 (.mv (.c (.int .i64 0)))] [23] [])
  (.block 2 (.loop [] [] solve_Flip.b2)))
  (.up [9] (.reg [9] [.a 40 (.mv (.t 7)), .a 41 (.mv (.t 9)), .a 42 (.lit 1 1 [(.sl 3 [])] [(0, 1, (.t 41))]), .a 43 (.app 1 24 (.t 40) (.t 42)), .a 7 (.mv (.t 43))] [8, 9, 24, 25, 26, 40, 41, 42, 43] [9]))))))
  (.reg [] [.a 44 (.bin .add (.t 20) (.c (.int .i64 1))), .a 20 (.mv (.t 44))] [44] []))))
def solve_Flip : R.Fn := ⟨1, [(.own 2), (.own 3)], (.seq (.reg [] [.a 2 (.mv (.c (.sl 1 []))), .a 3 (.mv (.c (.int .i64 0)))] [2, 3] [])
  (.seq (.reg [] [.a 12 (.mv (.t 0)), .a 13 (.callc F.solve_Size [(.t 12)]), .a 11 (.mv (.t 13)), .a 14 (.ext (.t 11) 0), .a 15 (.ext (.t 11) 1), .a 16 (.ext (.t 11) 2), .a 4 (.mv (.t 14)), .a 5 (.mv (.t 15)), .a 6 (.mv (.t 16))] [4, 11, 12, 13, 14, 15, 16] [])
  (.seq (.seq (.reg [] [.a 17 (.mv (.t 6)), .a 18 (.un .not (.t 17))] [6, 17] [])
  (.cond (.t 18) (.seq (.reg [] [.a 2 (.mv (.c (.sl 1 []))), .a 3 (.mv (.c (.int .i64 14)))] [0, 5, 18] [])
  .ret) .skip))
  (.seq (.reg [] [.a 7 (.nil 1)] [18] [])
  (.seq (.seq (.reg [] [.a 19 (.mv (.t 5)), .a 20 (.mv (.c (.int .i64 0)))] [5] [])
  (.block 0 (.loop [] [] solve_Flip.b0)))
  (.seq (.up [7] (.reg [] [.a 45 (.mv (.t 7)), .a 2 (.mv (.t 45)), .a 3 (.mv (.c (.int .i64 0)))] [0, 7, 19, 20, 21, 45] []))
  .ret))))))⟩
def solve_Flip.hint : R.Hint := { nil := [7, 9], pub := [(14, [9])], kill := [(0, [2, 3], []), (1, [4, 11, 12, 13, 14, 15, 16], []), (2, [6, 17], []), (3, [0, 5, 18], []), (4, [18], []), (5, [5], []), (7, [21, 22], []), (9, [23], []), (11, [26, 27], []), (12, [10, 28, 29, 30, 31, 32, 33, 34, 35, 36, 37, 38], []), (13, [39], []), (14, [8, 9, 24, 25, 26, 40, 41, 42, 43], [9]), (15, [44], []), (16, [0, 7, 19, 20, 21, 45], [])], own := true, heap := true, up := [(14, [9]), (16, [7])] }
theorem solve_Flip.ok : cFn Tryd.prog solve_Flip.hint Tryd.f21 = some solve_Flip := by kernel_rfl
def dendronlaw05_awake : R.Fn := ⟨0, [(.t 0)], (.seq (.reg [] [.a 0 (.mv (.c (.bool false)))] [0] [])
  (.seq (.reg [] [.a 7 (.call F.ratio_Of [(.c (.int .i64 1))]), .a 8 (.call F.ratio_Of [(.c (.int .i64 2))]), .a 9 (.lit 3 2 [(.bool false), (.sl 1 []), (.sl 1 []), (.bool false), (.sl 1 []), (.sl 1 [])] [(0, 3, (.t 7)), (3, 3, (.t 8))]), .a 10 (.call F.ratio_Of [(.c (.int .i64 3))]), .a 11 (.call F.ratio_Of [(.c (.int .i64 4))]), .a 12 (.lit 3 2 [(.bool false), (.sl 1 []), (.sl 1 []), (.bool false), (.sl 1 []), (.sl 1 [])] [(0, 3, (.t 10)), (3, 3, (.t 11))]), .a 13 (.lit 1 2 [(.sl 3 []), (.sl 3 [])] [(0, 1, (.t 9)), (1, 1, (.t 12))]), .a 1 (.mv (.t 13))] [7, 8, 9, 10, 11, 12, 13] [])
  (.seq (.reg [] [.a 14 (.call F.ratio_Of [(.c (.int .i64 1))]), .a 15 (.call F.ratio_Of [(.c (.int .i64 1))]), .a 16 (.lit 3 2 [(.bool false), (.sl 1 []), (.sl 1 []), (.bool false), (.sl 1 []), (.sl 1 [])] [(0, 3, (.t 14)), (3, 3, (.t 15))]), .a 17 (.call F.ratio_Of [(.c (.int .i64 1))]), .a 18 (.call F.ratio_Of [(.c (.int .i64 (-1)))]), .a 19 (.lit 3 2 [(.bool false), (.sl 1 []), (.sl 1 []), (.bool false), (.sl 1 []), (.sl 1 [])] [(0, 3, (.t 17)), (3, 3, (.t 18))]), .a 20 (.lit 1 2 [(.sl 3 []), (.sl 3 [])] [(0, 1, (.t 16)), (1, 1, (.t 19))]), .a 2 (.mv (.t 20))] [14, 15, 16, 17, 18, 19, 20] [])
  (.seq (.reg [] [.a 22 (.mv (.t 1)), .a 23 (.call F.solve_Det [(.t 22)]), .a 21 (.mv (.t 23)), .a 24 (.ext (.t 21) 0), .a 25 (.ext (.t 21) 1), .a 3 (.new [(.bool false), (.sl 1 []), (.sl 1 [])]), .n (.st 3 (.t 3) (.t 24)), .a 4 (.mv (.t 25))] [1, 21, 22, 23, 24, 25] [])
  (.seq (.reg [] [.a 27 (.mv (.t 2)), .a 28 (.call F.ratio_Of [(.c (.int .i64 3))]), .a 29 (.call F.ratio_Of [(.c (.int .i64 1))]), .a 30 (.lit 3 2 [(.bool false), (.sl 1 []), (.sl 1 []), (.bool false), (.sl 1 []), (.sl 1 [])] [(0, 3, (.t 28)), (3, 3, (.t 29))]), .a 31 (.call F.solve_Solve [(.t 27), (.t 30)]), .a 26 (.mv (.t 31)), .a 32 (.ext (.t 26) 0), .a 33 (.ext (.t 26) 1), .a 5 (.mv (.t 32)), .a 6 (.mv (.t 33))] [2, 26, 27, 28, 29, 30, 31, 32, 33] [])
  (.seq (.reg [] [.a 34 (.mv (.t 4)), .a 35 (.bin .eql (.t 34) (.c (.int .i64 0))), .a 36 (.mv (.t 35)), .g 37 36 true (.ld 3 true (.t 3)), .g 38 36 true (.call F.ratio_Of [(.c (.int .i64 (-2)))]), .g 39 36 true (.call F.ratio_Same [(.t 37), (.t 38)]), .a 40 (.pick (.t 36) (.t 39) (.c (.bool false))), .a 41 (.mv (.t 40)), .g 42 41 true (.mv (.t 6)), .g 43 41 true (.bin .eql (.t 42) (.c (.int .i64 0))), .a 44 (.pick (.t 41) (.t 43) (.c (.bool false))), .a 45 (.mv (.t 44)), .g 46 45 true (.mv (.t 5)), .g 47 45 true (.ln (.t 46)), .g 48 45 true (.bin .eql (.t 47) (.c (.int .i64 2))), .a 49 (.pick (.t 45) (.t 48) (.c (.bool false))), .a 50 (.mv (.t 49)), .g 51 50 true (.mv (.t 5)), .g 52 50 true (.iA 3 (.t 51) (.c (.int .i64 0))), .g 53 50 true (.ld 3 true (.t 52)), .g 54 50 true (.call F.ratio_Of [(.c (.int .i64 2))]), .g 55 50 true (.call F.ratio_Same [(.t 53), (.t 54)]), .a 56 (.pick (.t 50) (.t 55) (.c (.bool false))), .a 57 (.mv (.t 56)), .g 58 57 true (.mv (.t 5)), .g 59 57 true (.iA 3 (.t 58) (.c (.int .i64 1))), .g 60 57 true (.ld 3 true (.t 59)), .g 61 57 true (.call F.ratio_Of [(.c (.int .i64 1))]), .g 62 57 true (.call F.ratio_Same [(.t 60), (.t 61)]), .a 63 (.pick (.t 57) (.t 62) (.c (.bool false))), .a 0 (.mv (.t 63))] [3, 4, 5, 6, 34, 35, 36, 37, 38, 39, 40, 41, 42, 43, 44, 45, 46, 47, 48, 49, 50, 51, 52, 53, 54, 55, 56, 57, 58, 59, 60, 61, 62, 63] [3])
  .ret))))))⟩
def dendronlaw05_awake.hint : R.Hint := { kill := [(0, [0], []), (1, [7, 8, 9, 10, 11, 12, 13], []), (2, [14, 15, 16, 17, 18, 19, 20], []), (3, [1, 21, 22, 23, 24, 25], []), (4, [2, 26, 27, 28, 29, 30, 31, 32, 33], []), (5, [3, 4, 5, 6, 34, 35, 36, 37, 38, 39, 40, 41, 42, 43, 44, 45, 46, 47, 48, 49, 50, 51, 52, 53, 54, 55, 56, 57, 58, 59, 60, 61, 62, 63], [3])] }
theorem dendronlaw05_awake.ok : cFn Tryd.prog dendronlaw05_awake.hint Tryd.f22 = some dendronlaw05_awake := by kernel_rfl
def dendronlaw05_same.b0 : R.C := (.seq (.seq (.reg [] [.a 11 (.mv (.t 5)), .a 12 (.mv (.t 0)), .a 13 (.ln (.t 12)), .a 14 (.bin .lss (.t 11) (.t 13))] [11, 12, 13] [])
  (.cond (.t 14) .skip (.exit 0)))
  (.seq (.block 1 (.seq (.reg [] [.a 17 (.mv (.t 0)), .a 18 (.mv (.t 5)), .a 19 (.iA 3 (.t 17) (.t 18)), .a 20 (.ld 3 true (.t 19)), .a 21 (.call F.ratio_Right [(.t 20)]), .a 22 (.un .not (.t 21)), .a 23 (.mv (.t 22)), .g 24 23 false (.mv (.t 0)), .g 25 23 false (.mv (.t 5)), .g 26 23 false (.iA 3 (.t 24) (.t 25)), .g 27 23 false (.ld 3 true (.t 26)), .g 28 23 false (.mv (.t 1)), .g 29 23 false (.mv (.t 5)), .g 30 23 false (.iA 3 (.t 28) (.t 29)), .g 31 23 false (.ld 3 true (.t 30)), .g 32 23 false (.call F.ratio_Same [(.t 27), (.t 31)]), .g 33 23 false (.un .not (.t 32)), .a 34 (.pick (.t 23) (.c (.bool true)) (.t 33))] [14, 17, 18, 19, 20, 21, 22, 23, 24, 25, 26, 27, 28, 29, 30, 31, 32, 33] [])
  (.cond (.t 34) (.seq (.reg [] [.a 4 (.mv (.c (.bool false)))] [0, 1, 5, 34] [])
  .ret) .skip)))
  (.reg [] [.a 15 (.mv (.t 5)), .a 16 (.bin .add (.t 15) (.c (.int .i64 1))), .a 5 (.mv (.t 16))] [15, 16, 34] [])))
def dendronlaw05_same : R.Fn := ⟨2, [(.t 4)], (.seq (.reg [] [.a 4 (.mv (.c (.bool false)))] [4] [])
  (.seq (.seq (.reg [] [.a 6 (.mv (.t 0)), .a 7 (.ln (.t 6)), .a 8 (.mv (.t 1)), .a 9 (.ln (.t 8)), .a 10 (.bin .neq (.t 7) (.t 9))] [6, 7, 8, 9] [])
  (.cond (.t 10) (.seq (.reg [] [.a 4 (.mv (.c (.bool false)))] [0, 1, 10] [])
  .ret) .skip))
  (.seq (.seq (.reg [] [.a 5 (.mv (.c (.int .i64 0)))] [10] [])
  (.block 0 (.loop [] [] dendronlaw05_same.b0)))
  (.seq (.reg [] [.a 4 (.mv (.c (.bool true)))] [0, 1, 5, 14] [])
  .ret))))⟩
def dendronlaw05_same.hint : R.Hint := { kill := [(0, [4], []), (1, [6, 7, 8, 9], []), (2, [0, 1, 10], []), (3, [10], []), (4, [11, 12, 13], []), (5, [15, 16, 34], []), (6, [14, 17, 18, 19, 20, 21, 22, 23, 24, 25, 26, 27, 28, 29, 30, 31, 32, 33], []), (7, [0, 1, 5, 34], []), (8, [0, 1, 5, 14], [])] }
theorem dendronlaw05_same.ok : cFn Tryd.prog dendronlaw05_same.hint Tryd.f23 = some dendronlaw05_same := by kernel_rfl
def dendronlaw05_column.b0 : R.C := (.seq (.seq (.reg [] [.a 7 (.mv (.t 6)), .a 8 (.mv (.t 0)), .a 9 (.ln (.t 8)), .a 10 (.bin .lss (.t 7) (.t 9))] [7, 8, 9] [])
  (.cond (.t 10) .skip (.exit 0)))
  (.seq (.block 1 (.reg [] [.a 13 (.mv (.t 5)), .a 14 (.mv (.t 0)), .a 15 (.mv (.t 6)), .a 16 (.iA 1 (.t 14) (.t 15)), .a 17 (.ld 1 false (.t 16)), .a 18 (.mv (.t 1)), .a 19 (.iA 3 (.t 17) (.t 18)), .a 20 (.ld 3 true (.t 19)), .a 21 (.lit 3 1 [(.bool false), (.sl 1 []), (.sl 1 [])] [(0, 3, (.t 20))]), .a 22 (.app 3 56 (.t 13) (.t 21)), .a 5 (.mv (.t 22))] [10, 13, 14, 15, 16, 17, 18, 19, 20, 21, 22] []))
  (.reg [] [.a 11 (.mv (.t 6)), .a 12 (.bin .add (.t 11) (.c (.int .i64 1))), .a 6 (.mv (.t 12))] [11, 12] [])))
def dendronlaw05_column : R.Fn := ⟨2, [(.t 4)], (.seq (.reg [] [.a 4 (.mv (.c (.sl 3 [])))] [4] [])
  (.seq (.reg [] [.a 5 (.nil 3)] [] [])
  (.seq (.seq (.reg [] [.a 6 (.mv (.c (.int .i64 0)))] [] [])
  (.block 0 (.loop [] [] dendronlaw05_column.b0)))
  (.seq (.reg [] [.a 23 (.mv (.t 5)), .a 4 (.mv (.t 23))] [0, 1, 5, 6, 10, 23] [])
  .ret))))⟩
def dendronlaw05_column.hint : R.Hint := { nil := [5], kill := [(0, [4], []), (3, [7, 8, 9], []), (4, [11, 12], []), (5, [10, 13, 14, 15, 16, 17, 18, 19, 20, 21, 22], []), (6, [0, 1, 5, 6, 10, 23], [])] }
theorem dendronlaw05_column.ok : cFn Tryd.prog dendronlaw05_column.hint Tryd.f24 = some dendronlaw05_column := by kernel_rfl
def dendronlaw05_row.b0 : R.C := (.seq (.seq (.reg [] [.a 7 (.mv (.t 6)), .a 8 (.mv (.t 0)), .a 9 (.ln (.t 8)), .a 10 (.bin .lss (.t 7) (.t 9)), .a 11 (.mv (.t 10)), .g 12 11 true (.mv (.t 6)), .g 13 11 true (.mv (.t 1)), .g 14 11 true (.bin .lss (.t 12) (.t 13)), .a 15 (.pick (.t 11) (.t 14) (.c (.bool false)))] [7, 8, 9, 10, 11, 12, 13, 14] [])
  (.cond (.t 15) .skip (.exit 0)))
  (.seq (.block 1 (.reg [] [.a 18 (.mv (.t 5)), .a 19 (.mv (.t 0)), .a 20 (.mv (.t 6)), .a 21 (.iA 3 (.t 19) (.t 20)), .a 22 (.ld 3 true (.t 21)), .a 23 (.call F.dendronlaw05_number [(.t 22)]), .a 24 (.lit 3 1 [(.bool false), (.sl 1 []), (.sl 1 [])] [(0, 3, (.t 23))]), .a 25 (.app 3 56 (.t 18) (.t 24)), .a 5 (.mv (.t 25))] [15, 18, 19, 20, 21, 22, 23, 24, 25] []))
  (.reg [] [.a 16 (.mv (.t 6)), .a 17 (.bin .add (.t 16) (.c (.int .i64 1))), .a 6 (.mv (.t 17))] [16, 17] [])))
def dendronlaw05_row : R.Fn := ⟨2, [(.t 4)], (.seq (.reg [] [.a 4 (.mv (.c (.sl 3 [])))] [4] [])
  (.seq (.reg [] [.a 5 (.nil 3)] [] [])
  (.seq (.seq (.reg [] [.a 6 (.mv (.c (.int .i64 0)))] [] [])
  (.block 0 (.loop [] [] dendronlaw05_row.b0)))
  (.seq (.reg [] [.a 26 (.mv (.t 5)), .a 4 (.mv (.t 26))] [0, 1, 5, 6, 15, 26] [])
  .ret))))⟩
def dendronlaw05_row.hint : R.Hint := { nil := [5], kill := [(0, [4], []), (3, [7, 8, 9, 10, 11, 12, 13, 14], []), (4, [16, 17], []), (5, [15, 18, 19, 20, 21, 22, 23, 24, 25], []), (6, [0, 1, 5, 6, 15, 26], [])] }
theorem dendronlaw05_row.ok : cFn Tryd.prog dendronlaw05_row.hint Tryd.f25 = some dendronlaw05_row := by kernel_rfl
def solve_Apply.b0 : R.C := (.seq (.reg [] [.a 14 (.bin .lss (.t 13) (.t 12))] [] [])
  (.seq (.cond (.t 14) .skip (.exit 0))
  (.seq (.block 1 (.seq (.reg [] [.a 15 (.iA 1 (.t 11) (.t 13)), .a 16 (.ld 1 false (.t 15)), .a 8 (.mv (.t 16))] [14, 15, 16] [])
  (.seq (.reg [] [.a 18 (.mv (.t 8)), .a 19 (.mv (.t 1)), .a 20 (.call F.solve_Dot [(.t 18), (.t 19)]), .a 17 (.mv (.t 20)), .a 21 (.ext (.t 17) 0), .a 22 (.ext (.t 17) 1), .a 9 (.new [(.bool false), (.sl 1 []), (.sl 1 [])]), .n (.st 3 (.t 9) (.t 21)), .a 10 (.mv (.t 22))] [8, 17, 18, 19, 20, 21, 22] [])
  (.seq (.seq (.reg [] [.a 23 (.mv (.t 10)), .a 24 (.bin .neq (.t 23) (.c (.int .i64 0)))] [23] [])
  (.cond (.t 24) (.seq (.reg [] [.a 25 (.mv (.t 10)), .a 4 (.mv (.c (.sl 3 []))), .a 5 (.mv (.t 25))] [1, 6, 9, 10, 11, 12, 13, 24, 25] [9])
  .ret) .skip))
  (.reg [] [.a 26 (.mv (.t 6)), .a 27 (.ld 3 true (.t 9)), .a 28 (.lit 3 1 [(.bool false), (.sl 1 []), (.sl 1 [])] [(0, 3, (.t 27))]), .a 29 (.app 3 56 (.t 26) (.t 28)), .a 6 (.mv (.t 29))] [9, 10, 24, 26, 27, 28, 29] [9])))))
  (.reg [] [.a 30 (.bin .add (.t 13) (.c (.int .i64 1))), .a 13 (.mv (.t 30))] [30] []))))
def solve_Apply : R.Fn := ⟨2, [(.t 4), (.t 5)], (.seq (.reg [] [.a 4 (.mv (.c (.sl 3 []))), .a 5 (.mv (.c (.int .i64 0)))] [4, 5] [])
  (.seq (.reg [] [.a 6 (.nil 3)] [] [])
  (.seq (.seq (.reg [] [.a 11 (.mv (.t 0)), .a 12 (.ln (.t 11)), .a 13 (.mv (.c (.int .i64 0)))] [0] [])
  (.block 0 (.loop [] [] solve_Apply.b0)))
  (.seq (.reg [] [.a 31 (.mv (.t 6)), .a 4 (.mv (.t 31)), .a 5 (.mv (.c (.int .i64 0)))] [1, 6, 11, 12, 13, 14, 31] [])
  .ret))))⟩
def solve_Apply.hint : R.Hint := { nil := [6], kill := [(0, [4, 5], []), (2, [0], []), (4, [14, 15, 16], []), (5, [8, 17, 18, 19, 20, 21, 22], []), (6, [23], []), (7, [1, 6, 9, 10, 11, 12, 13, 24, 25], [9]), (8, [9, 10, 24, 26, 27, 28, 29], [9]), (9, [30], []), (10, [1, 6, 11, 12, 13, 14, 31], [])] }
theorem solve_Apply.ok : cFn Tryd.prog solve_Apply.hint Tryd.f26 = some solve_Apply := by kernel_rfl
def dendronlaw05_dot.b0 : R.C := (.seq (.seq (.reg [] [.a 8 (.mv (.t 6)), .a 9 (.mv (.t 0)), .a 10 (.ln (.t 9)), .a 11 (.bin .lss (.t 8) (.t 10)), .a 12 (.mv (.t 11)), .g 13 12 true (.mv (.t 6)), .g 14 12 true (.mv (.t 1)), .g 15 12 true (.ln (.t 14)), .g 16 12 true (.bin .lss (.t 13) (.t 15)), .a 17 (.pick (.t 12) (.t 16) (.c (.bool false)))] [8, 9, 10, 11, 12, 13, 14, 15, 16] [])
  (.cond (.t 17) .skip (.exit 0)))
  (.seq (.block 1 (.reg [21474836485] [.a 20 (.ld 3 true (.t 5)), .a 21 (.mv (.t 0)), .a 22 (.mv (.t 6)), .a 23 (.iA 3 (.t 21) (.t 22)), .a 24 (.ld 3 true (.t 23)), .a 25 (.mv (.t 1)), .a 26 (.mv (.t 6)), .a 27 (.iA 3 (.t 25) (.t 26)), .a 28 (.ld 3 true (.t 27)), .a 29 (.call F.ratio_Mul [(.t 24), (.t 28)]), .a 30 (.call F.ratio_Add [(.t 20), (.t 29)]), .n (.st 3 (.t 5) (.t 30))] [17, 20, 21, 22, 23, 24, 25, 26, 27, 28, 29, 30] []))
  (.reg [] [.a 18 (.mv (.t 6)), .a 19 (.bin .add (.t 18) (.c (.int .i64 1))), .a 6 (.mv (.t 19))] [18, 19] [])))
def dendronlaw05_dot : R.Fn := ⟨2, [(.cell 4 3 true)], (.seq (.reg [] [.a 4 (.new [(.bool false), (.sl 1 []), (.sl 1 [])])] [] [])
  (.seq (.reg [] [.a 7 (.call F.ratio_Zero []), .a 5 (.new [(.bool false), (.sl 1 []), (.sl 1 [])]), .n (.st 3 (.t 5) (.t 7))] [7] [])
  (.seq (.seq (.reg [] [.a 6 (.mv (.c (.int .i64 0)))] [] [])
  (.block 0 (.loop [] [] dendronlaw05_dot.b0)))
  (.seq (.reg [] [.a 31 (.ld 3 true (.t 5)), .n (.st 3 (.t 4) (.t 31))] [0, 1, 5, 6, 17, 31] [5])
  .ret))))⟩
def dendronlaw05_dot.hint : R.Hint := { pub := [(5, [21474836485])], kill := [(1, [7], []), (3, [8, 9, 10, 11, 12, 13, 14, 15, 16], []), (4, [18, 19], []), (5, [17, 20, 21, 22, 23, 24, 25, 26, 27, 28, 29, 30], []), (6, [0, 1, 5, 6, 17, 31], [5])] }
theorem dendronlaw05_dot.ok : cFn Tryd.prog dendronlaw05_dot.hint Tryd.f27 = some dendronlaw05_dot := by kernel_rfl
def solve_Dot.b0 : R.C := (.seq (.reg [] [.a 18 (.bin .lss (.t 17) (.t 16))] [] [])
  (.seq (.cond (.t 18) .skip (.exit 0))
  (.seq (.block 1 (.seq (.reg [] [.a 19 (.mv (.t 17)), .a 7 (.mv (.t 19))] [18, 19] [])
  (.reg [25769803782] [.a 20 (.ld 3 true (.t 6)), .a 21 (.mv (.t 0)), .a 22 (.mv (.t 7)), .a 23 (.iA 3 (.t 21) (.t 22)), .a 24 (.ld 3 true (.t 23)), .a 25 (.mv (.t 1)), .a 26 (.mv (.t 7)), .a 27 (.iA 3 (.t 25) (.t 26)), .a 28 (.ld 3 true (.t 27)), .a 29 (.call F.ratio_Mul [(.t 24), (.t 28)]), .a 30 (.call F.ratio_Add [(.t 20), (.t 29)]), .n (.st 3 (.t 6) (.t 30))] [7, 20, 21, 22, 23, 24, 25, 26, 27, 28, 29, 30] [])))
  (.reg [] [.a 31 (.bin .add (.t 17) (.c (.int .i64 1))), .a 17 (.mv (.t 31))] [31] []))))
def solve_Dot : R.Fn := ⟨2, [(.cell 4 3 true), (.t 5)], (.seq (.reg [] [.a 4 (.new [(.bool false), (.sl 1 []), (.sl 1 [])]), .a 5 (.mv (.c (.int .i64 0)))] [5] [])
  (.seq (.seq (.reg [] [.a 8 (.mv (.t 0)), .a 9 (.ln (.t 8)), .a 10 (.mv (.t 1)), .a 11 (.ln (.t 10)), .a 12 (.bin .neq (.t 9) (.t 11))] [8, 9, 10, 11] [])
  (.cond (.t 12) (.seq (.reg [] [.a 13 (.bld [(.bool false), (.sl 1 []), (.sl 1 [])] []), .n (.st 3 (.t 4) (.t 13)), .a 5 (.mv (.c (.int .i64 14)))] [0, 1, 12, 13] [])
  .ret) .skip))
  (.seq (.reg [] [.a 14 (.call F.ratio_Zero []), .a 6 (.new [(.bool false), (.sl 1 []), (.sl 1 [])]), .n (.st 3 (.t 6) (.t 14))] [12, 14] [])
  (.seq (.seq (.reg [] [.a 15 (.mv (.t 0)), .a 16 (.ln (.t 15)), .a 17 (.mv (.c (.int .i64 0)))] [15] [])
  (.block 0 (.loop [] [] solve_Dot.b0)))
  (.seq (.reg [] [.a 32 (.ld 3 true (.t 6)), .n (.st 3 (.t 4) (.t 32)), .a 5 (.mv (.c (.int .i64 0)))] [0, 1, 6, 16, 17, 18, 32] [6])
  .ret)))))⟩
def solve_Dot.hint : R.Hint := { pub := [(7, [25769803782])], kill := [(0, [5], []), (1, [8, 9, 10, 11], []), (2, [0, 1, 12, 13], []), (3, [12, 14], []), (4, [15], []), (6, [18, 19], []), (7, [7, 20, 21, 22, 23, 24, 25, 26, 27, 28, 29, 30], []), (8, [31], []), (9, [0, 1, 6, 16, 17, 18, 32], [6])] }
theorem solve_Dot.ok : cFn Tryd.prog solve_Dot.hint Tryd.f28 = some solve_Dot := by kernel_rfl
def solve_Mul.b0 : R.C := (.seq (.reg [] [.a 50 (.bin .lss (.t 49) (.t 48))] [] [])
  (.seq (.cond (.t 50) .skip (.exit 0))
  (.seq (.block 1 (.seq (.reg [] [.a 51 (.iA 1 (.t 47) (.t 49)), .a 52 (.ld 1 false (.t 51)), .a 16 (.mv (.t 52))] [50, 51, 52] [])
  (.seq (.reg [] [.a 54 (.mv (.t 12)), .a 55 (.mv (.t 16)), .a 56 (.call F.solve_Apply [(.t 54), (.t 55)]), .a 53 (.mv (.t 56)), .a 57 (.ext (.t 53) 0), .a 58 (.ext (.t 53) 1), .a 17 (.mv (.t 57)), .a 18 (.mv (.t 58))] [16, 18, 53, 54, 55, 56, 57, 58] [])
  (.reg [] [.a 59 (.mv (.t 14)), .a 60 (.mv (.t 17)), .a 61 (.lit 1 1 [(.sl 3 [])] [(0, 1, (.t 60))]), .a 62 (.app 1 24 (.t 59) (.t 61)), .a 14 (.mv (.t 62))] [17, 59, 60, 61, 62] []))))
  (.reg [] [.a 63 (.bin .add (.t 49) (.c (.int .i64 1))), .a 49 (.mv (.t 63))] [63] []))))
def solve_Mul : R.Fn := ⟨2, [(.t 4), (.t 5)], (.seq (.reg [] [.a 4 (.mv (.c (.sl 1 []))), .a 5 (.mv (.c (.int .i64 0)))] [4, 5] [])
  (.seq (.reg [] [.a 20 (.mv (.t 0)), .a 21 (.call F.solve_Size [(.t 20)]), .a 19 (.mv (.t 21)), .a 22 (.ext (.t 19) 0), .a 23 (.ext (.t 19) 1), .a 24 (.ext (.t 19) 2), .a 6 (.mv (.t 22)), .a 7 (.mv (.t 23)), .a 8 (.mv (.t 24))] [6, 19, 20, 21, 22, 23, 24] [])
  (.seq (.reg [] [.a 26 (.mv (.t 1)), .a 27 (.call F.solve_Size [(.t 26)]), .a 25 (.mv (.t 27)), .a 28 (.ext (.t 25) 0), .a 29 (.ext (.t 25) 1), .a 30 (.ext (.t 25) 2), .a 9 (.mv (.t 28)), .a 10 (.mv (.t 29)), .a 11 (.mv (.t 30))] [10, 25, 26, 27, 28, 29, 30] [])
  (.seq (.seq (.reg [] [.a 31 (.mv (.t 8)), .a 32 (.un .not (.t 31)), .a 33 (.mv (.t 32)), .g 34 33 false (.mv (.t 11)), .g 35 33 false (.un .not (.t 34)), .a 36 (.pick (.t 33) (.c (.bool true)) (.t 35)), .a 37 (.mv (.t 36)), .g 38 37 false (.mv (.t 7)), .g 39 37 false (.mv (.t 9)), .g 40 37 false (.bin .neq (.t 38) (.t 39)), .a 41 (.pick (.t 37) (.c (.bool true)) (.t 40))] [7, 8, 9, 11, 31, 32, 33, 34, 35, 36, 37, 38, 39, 40] [])
  (.cond (.t 41) (.seq (.reg [] [.a 4 (.mv (.c (.sl 1 []))), .a 5 (.mv (.c (.int .i64 14)))] [0, 1, 41] [])
  .ret) .skip))
  (.seq (.reg [] [.a 43 (.mv (.t 1)), .a 44 (.callc F.solve_Flip [(.t 43)]), .a 42 (.mv (.t 44)), .a 45 (.ext (.t 42) 0), .a 46 (.ext (.t 42) 1), .a 12 (.mv (.t 45)), .a 13 (.mv (.t 46))] [1, 13, 41, 42, 43, 44, 45, 46] [])
  (.seq (.reg [] [.a 14 (.nil 1)] [] [])
  (.seq (.seq (.reg [] [.a 47 (.mv (.t 0)), .a 48 (.ln (.t 47)), .a 49 (.mv (.c (.int .i64 0)))] [0] [])
  (.block 0 (.loop [] [] solve_Mul.b0)))
  (.seq (.reg [] [.a 64 (.mv (.t 14)), .a 4 (.mv (.t 64)), .a 5 (.mv (.c (.int .i64 0)))] [12, 14, 47, 48, 49, 50, 64] [])
  .ret))))))))⟩
def solve_Mul.hint : R.Hint := { nil := [14], kill := [(0, [4, 5], []), (1, [6, 19, 20, 21, 22, 23, 24], []), (2, [10, 25, 26, 27, 28, 29, 30], []), (3, [7, 8, 9, 11, 31, 32, 33, 34, 35, 36, 37, 38, 39, 40], []), (4, [0, 1, 41], []), (5, [1, 13, 41, 42, 43, 44, 45, 46], []), (7, [0], []), (9, [50, 51, 52], []), (10, [16, 18, 53, 54, 55, 56, 57, 58], []), (11, [17, 59, 60, 61, 62], []), (12, [63], []), (13, [12, 14, 47, 48, 49, 50, 64], [])], callc := [44] }
theorem solve_Mul.ok : cFn Tryd.prog solve_Mul.hint Tryd.f29 = some solve_Mul := by kernel_rfl
def dendronlaw05_square.b2 : R.C := (.seq (.seq (.reg [] [.a 14 (.mv (.t 6)), .a 15 (.mv (.t 0)), .a 16 (.ln (.t 15)), .a 17 (.bin .lss (.t 14) (.t 16))] [14, 15, 16] [])
  (.cond (.t 17) .skip (.exit 2)))
  (.seq (.block 3 (.seq (.reg [] [.a 20 (.call F.ratio_Zero []), .a 7 (.new [(.bool false), (.sl 1 []), (.sl 1 [])]), .n (.st 3 (.t 7) (.t 20))] [17, 20] [])
  (.seq (.seq (.reg [] [.a 21 (.mv (.t 6)), .a 22 (.mv (.t 0)), .a 23 (.mv (.t 4)), .a 24 (.iA 1 (.t 22) (.t 23)), .a 25 (.ld 1 false (.t 24)), .a 26 (.ln (.t 25)), .a 27 (.bin .lss (.t 21) (.t 26))] [21, 22, 23, 24, 25, 26] [])
  (.cond (.t 27) (.reg [] [.a 28 (.mv (.t 0)), .a 29 (.mv (.t 4)), .a 30 (.iA 1 (.t 28) (.t 29)), .a 31 (.ld 1 false (.t 30)), .a 32 (.mv (.t 6)), .a 33 (.iA 3 (.t 31) (.t 32)), .a 34 (.ld 3 true (.t 33)), .n (.st 3 (.t 7) (.t 34))] [27, 28, 29, 30, 31, 32, 33, 34] []) .skip))
  (.reg [] [.a 35 (.mv (.t 5)), .a 36 (.ld 3 true (.t 7)), .a 37 (.lit 3 1 [(.bool false), (.sl 1 []), (.sl 1 [])] [(0, 3, (.t 36))]), .a 38 (.app 3 56 (.t 35) (.t 37)), .a 5 (.mv (.t 38))] [7, 27, 35, 36, 37, 38] [7]))))
  (.reg [] [.a 18 (.mv (.t 6)), .a 19 (.bin .add (.t 18) (.c (.int .i64 1))), .a 6 (.mv (.t 19))] [18, 19] [])))
def dendronlaw05_square.b0 : R.C := (.seq (.seq (.reg [] [.a 8 (.mv (.t 4)), .a 9 (.mv (.t 0)), .a 10 (.ln (.t 9)), .a 11 (.bin .lss (.t 8) (.t 10))] [8, 9, 10] [])
  (.cond (.t 11) .skip (.exit 0)))
  (.seq (.block 1 (.seq (.reg [] [.a 5 (.nil 3)] [11] [])
  (.seq (.seq (.reg [] [.a 6 (.mv (.c (.int .i64 0)))] [] [])
  (.block 2 (.loop [] [] dendronlaw05_square.b2)))
  (.reg [5] [.a 39 (.mv (.t 3)), .a 40 (.mv (.t 5)), .a 41 (.lit 1 1 [(.sl 3 [])] [(0, 1, (.t 40))]), .a 42 (.app 1 24 (.t 39) (.t 41)), .a 3 (.mv (.t 42))] [5, 6, 17, 39, 40, 41, 42] [5]))))
  (.reg [] [.a 12 (.mv (.t 4)), .a 13 (.bin .add (.t 12) (.c (.int .i64 1))), .a 4 (.mv (.t 13))] [12, 13] [])))
def dendronlaw05_square : R.Fn := ⟨1, [(.t 2)], (.seq (.reg [] [.a 2 (.mv (.c (.sl 1 [])))] [2] [])
  (.seq (.reg [] [.a 3 (.nil 1)] [] [])
  (.seq (.seq (.reg [] [.a 4 (.mv (.c (.int .i64 0)))] [] [])
  (.block 0 (.loop [] [] dendronlaw05_square.b0)))
  (.seq (.reg [] [.a 43 (.mv (.t 3)), .a 2 (.mv (.t 43))] [0, 3, 4, 11, 43] [])
  .ret))))⟩
def dendronlaw05_square.hint : R.Hint := { nil := [3, 5], pub := [(13, [5])], kill := [(0, [2], []), (3, [8, 9, 10], []), (4, [12, 13], []), (5, [11], []), (7, [14, 15, 16], []), (8, [18, 19], []), (9, [17, 20], []), (10, [21, 22, 23, 24, 25, 26], []), (11, [27, 28, 29, 30, 31, 32, 33, 34], []), (12, [7, 27, 35, 36, 37, 38], [7]), (13, [5, 6, 17, 39, 40, 41, 42], [5]), (14, [0, 3, 4, 11, 43], [])] }
theorem dendronlaw05_square.ok : cFn Tryd.prog dendronlaw05_square.hint Tryd.f30 = some dendronlaw05_square := by kernel_rfl
def solve_Det : R.Fn := ⟨1, [(.cell 2 3 true), (.deep 3 1)], (.seq (.reg [] [.a 2 (.new [(.bool false), (.sl 1 []), (.sl 1 [])]), .a 3 (.mv (.c (.int .i64 0)))] [3] [])
  (.seq (.reg [] [.a 9 (.mv (.t 0)), .a 10 (.callc F.solve_Size [(.t 9)]), .a 8 (.mv (.t 10)), .a 11 (.ext (.t 8) 0), .a 12 (.ext (.t 8) 1), .a 13 (.ext (.t 8) 2), .a 4 (.mv (.t 11)), .a 5 (.mv (.t 12)), .a 6 (.mv (.t 13))] [8, 9, 10, 11, 12, 13] [])
  (.seq (.seq (.reg [] [.a 14 (.mv (.t 6)), .a 15 (.un .not (.t 14)), .a 16 (.mv (.t 15)), .g 17 16 false (.mv (.t 4)), .g 18 16 false (.mv (.t 5)), .g 19 16 false (.bin .neq (.t 17) (.t 18)), .a 20 (.pick (.t 16) (.c (.bool true)) (.t 19))] [6, 14, 15, 16, 17, 18, 19] [])
  (.cond (.t 20) (.seq (.reg [] [.a 21 (.bld [(.bool false), (.raw (.slice none 0 0)), (.raw (.slice none 0 0))] []), .n (.st 3 (.t 2) (.t 21)), .a 3 (.mv (.c (.int .i64 14)))] [0, 4, 5, 20, 21] [])
  .ret) .skip))
  (.seq (.reg [] [.a 22 (.mv (.t 0)), .a 23 (.callh F.solve_Copy [(false, (.t 22))]), .a 24 (.mv (.t 5)), .a 25 (.bld [(.raw (.slice none 0 0)), (.int .i64 0), (.raw (.slice none 0 0)), (.bool false), (.bool false), (.raw (.slice none 0 0)), (.raw (.slice none 0 0))] [(0, 1, (.t 23)), (1, 1, (.t 24))]), .a 26 (.box (.t 25)), .a 7 (.mv (.t 26))] [0, 5, 20, 22, 23, 24, 25, 26] [])
  (.seq (.reg [] [.a 27 (.mv (.t 7)), .a 28 (.callh F.dendron_solve_reducer_run [(true, (.t 27))])] [27, 28] [])
  (.seq (.block 0 (.seq (.reg [] [.a 30 (.mv (.t 7)), .a 31 (.nck (.t 30)), .a 32 (.fA 2 (.t 31)), .a 33 (.ldr (.t 32)), .a 34 (.ln (.t 33)), .a 35 (.mv (.t 4)), .a 36 (.bin .lss (.t 34) (.t 35)), .a 29 (.mv (.t 36))] [4, 30, 31, 32, 33, 34, 35, 36] [])
  (.cond (.t 29) (.seq (.reg [] [.a 37 (.callc F.ratio_Zero []), .n (.st 3 (.t 2) (.t 37)), .a 3 (.mv (.c (.int .i64 0)))] [7, 29, 37] [26])
  .ret) (.seq (.reg [] [.a 39 (.mv (.t 7)), .a 40 (.nck (.t 39)), .a 41 (.fA 3 (.t 40)), .a 42 (.ld 1 false (.t 41)), .a 38 (.mv (.t 42))] [29, 39, 40, 41, 42] [])
  (.cond (.t 38) (.seq (.reg [] [.a 43 (.mv (.t 7)), .a 44 (.nck (.t 43)), .a 45 (.fA 4 (.t 44)), .a 46 (.ld 3 true (.t 45)), .a 47 (.callc F.ratio_Neg [(.t 46)]), .n (.st 3 (.t 2) (.t 47)), .a 3 (.mv (.c (.int .i64 0)))] [7, 38, 43, 44, 45, 46, 47] [26])
  .ret) .skip)))))
  (.seq (.reg [] [.a 48 (.mv (.t 7)), .a 49 (.nck (.t 48)), .a 50 (.fA 4 (.t 49)), .a 51 (.ld 3 true (.t 50)), .n (.st 3 (.t 2) (.t 51)), .a 3 (.mv (.c (.int .i64 0)))] [7, 38, 48, 49, 50, 51] [26])
  .ret)))))))⟩
def solve_Det.hint : R.Hint := { kill := [(0, [3], []), (1, [8, 9, 10, 11, 12, 13], []), (2, [6, 14, 15, 16, 17, 18, 19], []), (3, [0, 4, 5, 20, 21], []), (4, [0, 5, 20, 22, 23, 24, 25, 26], []), (5, [27, 28], []), (6, [4, 30, 31, 32, 33, 34, 35, 36], []), (7, [7, 29, 37], [26]), (8, [29, 39, 40, 41, 42], []), (9, [7, 38, 43, 44, 45, 46, 47], [26]), (10, [7, 38, 48, 49, 50, 51], [26])], heap := true, callh := [(23, [false]), (28, [true])], rawnil := [21, 25], deep := [(3, 1)] }
theorem solve_Det.ok : cFn Tryd.prog solve_Det.hint Tryd.f31 = some solve_Det := by kernel_rfl
def ratio_Right : R.Fn := ⟨1, [(.t 2)], (.seq (.reg [] [.a 1 (.box (.t 0)), .a 2 (.mv (.c (.bool false)))] [0, 2] [])
  (.seq (.seq (.reg [] [.a 4 (.fA 0 (.t 1)), .a 5 (.ld 2 true (.t 4)), .a 6 (.call F.whole_Right [(.t 5)]), .a 7 (.un .not (.t 6)), .a 8 (.mv (.t 7)), .g 9 8 false (.fA 2 (.t 1)), .g 10 8 false (.ld 1 false (.t 9)), .g 11 8 false (.call F.nat_Right [(.t 10)]), .g 12 8 false (.un .not (.t 11)), .a 13 (.pick (.t 8) (.c (.bool true)) (.t 12)), .a 14 (.mv (.t 13)), .g 15 14 false (.fA 2 (.t 1)), .g 16 14 false (.ld 1 false (.t 15)), .g 17 14 false (.ln (.t 16)), .g 18 14 false (.bin .eql (.t 17) (.c (.int .i64 0))), .a 19 (.pick (.t 14) (.c (.bool true)) (.t 18))] [4, 5, 6, 7, 8, 9, 10, 11, 12, 13, 14, 15, 16, 17, 18] [])
  (.cond (.t 19) (.seq (.reg [] [.a 2 (.mv (.c (.bool false)))] [1, 19] [1])
  .ret) .skip))
  (.seq (.reg [] [.a 20 (.fA 0 (.t 1)), .a 21 (.fA 1 (.t 20)), .a 22 (.ld 1 false (.t 21)), .a 23 (.fA 2 (.t 1)), .a 24 (.ld 1 false (.t 23)), .a 25 (.call F.nat_Gcd [(.t 22), (.t 24)]), .a 3 (.mv (.t 25))] [1, 19, 20, 21, 22, 23, 24, 25] [1])
  (.seq (.reg [] [.a 26 (.mv (.t 3)), .a 27 (.call F.nat_Of [(.c (.int .u64 1))]), .a 28 (.call F.nat_Cmp [(.t 26), (.t 27)]), .a 29 (.bin .eql (.t 28) (.c (.int .i64 0))), .a 2 (.mv (.t 29))] [3, 26, 27, 28, 29] [])
  .ret))))⟩
def ratio_Right.hint : R.Hint := { kill := [(0, [0, 2], []), (1, [4, 5, 6, 7, 8, 9, 10, 11, 12, 13, 14, 15, 16, 17, 18], []), (2, [1, 19], [1]), (3, [1, 19, 20, 21, 22, 23, 24, 25], [1]), (4, [3, 26, 27, 28, 29], [])] }
theorem ratio_Right.ok : cFn Tryd.prog ratio_Right.hint Tryd.f32 = some ratio_Right := by kernel_rfl
def dendronlaw05_det.b2 : R.C := (.seq (.seq (.reg [] [.a 19 (.mv (.t 6)), .a 20 (.mv (.t 0)), .a 21 (.ln (.t 20)), .a 22 (.bin .lss (.t 19) (.t 21))] [19, 20, 21] [])
  (.cond (.t 22) .skip (.exit 2)))
  (.seq (.block 3 (.reg [] [.a 25 (.mv (.t 5)), .a 26 (.lith 3 0 []), .a 27 (.mv (.t 0)), .a 28 (.mv (.t 6)), .a 29 (.iA 1 (.t 27) (.t 28)), .a 30 (.ldd 1 false (.t 29)), .a 31 (.mv (.t 4)), .a 32 (.slc 3 (.t 30) none (some (.t 31))), .a 33 (.apph 3 56 (.t 26) (.t 32)), .a 34 (.mv (.t 0)), .a 35 (.mv (.t 6)), .a 36 (.iA 1 (.t 34) (.t 35)), .a 37 (.ldd 1 false (.t 36)), .a 38 (.mv (.t 4)), .a 39 (.bin .add (.t 38) (.c (.int .i64 1))), .a 40 (.slc 3 (.t 37) (some (.t 39)) none), .a 41 (.appf 3 56 (.t 33) (.t 40)), .a 42 (.lit 1 1 [(.sl 3 [])] [(0, 1, (.t 41))]), .a 43 (.app 1 24 (.t 25) (.t 42)), .a 5 (.mv (.t 43))] [22, 25, 26, 27, 28, 29, 30, 31, 32, 33, 34, 35, 36, 37, 38, 39, 40, 41, 42, 43] [26]))
  (.reg [] [.a 23 (.mv (.t 6)), .a 24 (.bin .add (.t 23) (.c (.int .i64 1))), .a 6 (.mv (.t 24))] [23, 24] [])))
def dendronlaw05_det.b0 : R.C := (.seq (.seq (.reg [] [.a 13 (.mv (.t 4)), .a 14 (.mv (.t 0)), .a 15 (.ln (.t 14)), .a 16 (.bin .lss (.t 13) (.t 15))] [13, 14, 15] [])
  (.cond (.t 16) .skip (.exit 0)))
  (.seq (.block 1 (.seq (.reg [] [.a 5 (.nil 1)] [16] [])
  (.seq (.seq (.reg [] [.a 6 (.mv (.c (.int .i64 1)))] [] [])
  (.block 2 (.loop [] [] dendronlaw05_det.b2)))
  (.seq (.reg [5] [.a 44 (.mv (.t 0)), .a 45 (.iA 1 (.t 44) (.c (.int .i64 0))), .a 46 (.ldr (.t 45)), .a 47 (.mv (.t 4)), .a 48 (.iA 3 (.t 46) (.t 47)), .a 49 (.ld 3 true (.t 48)), .a 50 (.mv (.t 5)), .a 51 (.callc F.dendronlaw05_det [(.t 50)]), .a 52 (.callc F.ratio_Mul [(.t 49), (.t 51)]), .a 7 (.new [(.bool false), (.sl 1 []), (.sl 1 [])]), .n (.st 3 (.t 7) (.t 52))] [5, 6, 22, 44, 45, 46, 47, 48, 49, 50, 51, 52] [5])
  (.seq (.seq (.reg [] [.a 53 (.mv (.t 4)), .a 54 (.bin .rem (.t 53) (.c (.int .i64 2))), .a 55 (.bin .eql (.t 54) (.c (.int .i64 1)))] [53, 54] [])
  (.cond (.t 55) (.reg [] [.a 56 (.ld 3 true (.t 7)), .a 57 (.callc F.ratio_Neg [(.t 56)]), .n (.st 3 (.t 7) (.t 57))] [55, 56, 57] []) .skip))
  (.reg [] [.a 58 (.ld 3 true (.t 3)), .a 59 (.ld 3 true (.t 7)), .a 60 (.callc F.ratio_Add [(.t 58), (.t 59)]), .n (.st 3 (.t 3) (.t 60))] [7, 55, 58, 59, 60] [7]))))))
  (.reg [] [.a 17 (.mv (.t 4)), .a 18 (.bin .add (.t 17) (.c (.int .i64 1))), .a 4 (.mv (.t 18))] [17, 18] [])))
def dendronlaw05_det : R.Fn := ⟨1, [(.cell 2 3 true)], (.seq (.reg [] [.a 2 (.new [(.bool false), (.sl 1 []), (.sl 1 [])])] [] [])
  (.seq (.seq (.reg [] [.a 8 (.mv (.t 0)), .a 9 (.ln (.t 8)), .a 10 (.bin .eql (.t 9) (.c (.int .i64 0)))] [8, 9] [])
  (.cond (.t 10) (.seq (.reg [] [.a 11 (.callc F.ratio_One []), .n (.st 3 (.t 2) (.t 11))] [0, 10, 11] [])
  .ret) .skip))
  (.seq (.reg [] [.a 12 (.callc F.ratio_Zero []), .a 3 (.new [(.bool false), (.sl 1 []), (.sl 1 [])]), .n (.st 3 (.t 3) (.t 12))] [10, 12] [])
  (.seq (.seq (.reg [] [.a 4 (.mv (.c (.int .i64 0)))] [] [])
  (.block 0 (.loop [] [] dendronlaw05_det.b0)))
  (.seq (.reg [] [.a 61 (.ld 3 true (.t 3)), .n (.st 3 (.t 2) (.t 61))] [0, 3, 4, 16, 61] [3])
  .ret)))))⟩
def dendronlaw05_det.hint : R.Hint := { nil := [5], pub := [(12, [5])], kill := [(1, [8, 9], []), (2, [0, 10, 11], []), (3, [10, 12], []), (5, [13, 14, 15], []), (6, [17, 18], []), (7, [16], []), (9, [19, 20, 21], []), (10, [23, 24], []), (11, [22, 25, 26, 27, 28, 29, 30, 31, 32, 33, 34, 35, 36, 37, 38, 39, 40, 41, 42, 43], [26]), (12, [5, 6, 22, 44, 45, 46, 47, 48, 49, 50, 51, 52], [5]), (13, [53, 54], []), (14, [55, 56, 57], []), (15, [7, 55, 58, 59, 60], [7]), (16, [0, 3, 4, 16, 61], [3])], heap := true, apph := [33], pure := [30, 37], lith := [26], appf := [41] }
theorem dendronlaw05_det.ok : cFn Tryd.prog dendronlaw05_det.hint Tryd.f33 = some dendronlaw05_det := by kernel_rfl
def solve_Steps : R.Fn := ⟨1, [(.deep 2 1), (.deep 3 1), (.t 4)], (.seq (.reg [] [.a 2 (.mv (.c (.sl 1 []))), .a 3 (.mv (.c (.sl 1 []))), .a 4 (.mv (.c (.int .i64 0)))] [2, 3, 4] [])
  (.seq (.reg [] [.a 10 (.mv (.t 0)), .a 11 (.callc F.solve_Size [(.t 10)]), .a 9 (.mv (.t 11)), .a 12 (.ext (.t 9) 0), .a 13 (.ext (.t 9) 1), .a 14 (.ext (.t 9) 2), .a 5 (.mv (.t 12)), .a 6 (.mv (.t 13)), .a 7 (.mv (.t 14))] [5, 9, 10, 11, 12, 13, 14] [])
  (.seq (.seq (.reg [] [.a 15 (.mv (.t 7)), .a 16 (.un .not (.t 15))] [7, 15] [])
  (.cond (.t 16) (.seq (.reg [] [.a 2 (.mv (.c (.sl 1 []))), .a 3 (.mv (.c (.sl 1 []))), .a 4 (.mv (.c (.int .i64 14)))] [0, 6, 16] [])
  .ret) .skip))
  (.seq (.reg [] [.a 17 (.mv (.t 0)), .a 18 (.callh F.solve_Copy [(false, (.t 17))]), .a 19 (.mv (.t 6)), .a 20 (.bld [(.raw (.slice none 0 0)), (.int .i64 0), (.raw (.slice none 0 0)), (.bool false), (.bool false), (.raw (.slice none 0 0)), (.raw (.slice none 0 0))] [(0, 1, (.t 18)), (1, 1, (.t 19))]), .a 21 (.box (.t 20)), .a 8 (.mv (.t 21))] [0, 6, 16, 17, 18, 19, 20, 21] [])
  (.seq (.reg [] [.a 22 (.mv (.t 8)), .a 23 (.callh F.dendron_solve_reducer_run [(true, (.t 22))])] [22, 23] [])
  (.seq (.reg [] [.a 24 (.mv (.t 8)), .a 25 (.nck (.t 24)), .a 26 (.fA 0 (.t 25)), .a 27 (.ldr (.t 26)), .a 28 (.mv (.t 8)), .a 29 (.nck (.t 28)), .a 30 (.fA 2 (.t 29)), .a 31 (.ldr (.t 30)), .a 2 (.mv (.t 27)), .a 3 (.mv (.t 31)), .a 4 (.mv (.c (.int .i64 0)))] [8, 24, 25, 26, 27, 28, 29, 30, 31] [21])
  .ret))))))⟩
def solve_Steps.hint : R.Hint := { kill := [(0, [2, 3, 4], []), (1, [5, 9, 10, 11, 12, 13, 14], []), (2, [7, 15], []), (3, [0, 6, 16], []), (4, [0, 6, 16, 17, 18, 19, 20, 21], []), (5, [22, 23], []), (6, [8, 24, 25, 26, 27, 28, 29, 30, 31], [21])], heap := true, callh := [(18, [false]), (23, [true])], rawnil := [20], deep := [(2, 1), (3, 1)] }
theorem solve_Steps.ok : cFn Tryd.prog solve_Steps.hint Tryd.f34 = some solve_Steps := by kernel_rfl
def solve_Rank : R.Fn := ⟨1, [(.t 2), (.t 3)], (.seq (.reg [] [.a 2 (.mv (.c (.int .i64 0))), .a 3 (.mv (.c (.int .i64 0)))] [2, 3] [])
  (.seq (.reg [] [.a 8 (.mv (.t 0)), .a 9 (.call F.solve_Steps [(.t 8)]), .a 7 (.mv (.t 9)), .a 10 (.ext (.t 7) 0), .a 11 (.ext (.t 7) 1), .a 12 (.ext (.t 7) 2), .a 4 (.mv (.t 10)), .a 5 (.mv (.t 11)), .a 6 (.mv (.t 12))] [0, 4, 7, 8, 9, 10, 11, 12] [])
  (.seq (.reg [] [.a 13 (.mv (.t 5)), .a 14 (.ln (.t 13)), .a 15 (.mv (.t 6)), .a 2 (.mv (.t 14)), .a 3 (.mv (.t 15))] [5, 6, 13, 14, 15] [])
  .ret)))⟩
def solve_Rank.hint : R.Hint := { kill := [(0, [2, 3], []), (1, [0, 4, 7, 8, 9, 10, 11, 12], []), (2, [5, 6, 13, 14, 15], [])] }
theorem solve_Rank.ok : cFn Tryd.prog solve_Rank.hint Tryd.f35 = some solve_Rank := by kernel_rfl
def dendronlaw05_inSteps.b2 : R.C := (.seq (.seq (.reg [] [.a 14 (.mv (.t 6)), .a 15 (.mv (.t 0)), .a 16 (.mv (.t 5)), .a 17 (.iA 1 (.t 15) (.t 16)), .a 18 (.ld 1 false (.t 17)), .a 19 (.ln (.t 18)), .a 20 (.bin .lss (.t 14) (.t 19)), .a 21 (.mv (.t 20)), .g 22 21 true (.mv (.t 0)), .g 23 21 true (.mv (.t 5)), .g 24 21 true (.iA 1 (.t 22) (.t 23)), .g 25 21 true (.ld 1 false (.t 24)), .g 26 21 true (.mv (.t 6)), .g 27 21 true (.iA 3 (.t 25) (.t 26)), .g 28 21 true (.ld 3 true (.t 27)), .g 29 21 true (.call F.ratio_Sign [(.t 28)]), .g 30 21 true (.bin .eql (.t 29) (.c (.int .i64 0))), .a 31 (.pick (.t 21) (.t 30) (.c (.bool false)))] [14, 15, 16, 17, 18, 19, 20, 21, 22, 23, 24, 25, 26, 27, 28, 29, 30] [])
  (.cond (.t 31) .skip (.exit 2)))
  (.block 3 (.reg [] [.a 32 (.mv (.t 6)), .a 33 (.bin .add (.t 32) (.c (.int .i64 1))), .a 6 (.mv (.t 33))] [31, 32, 33] [])))
def dendronlaw05_inSteps.b4 : R.C := (.seq (.seq (.reg [] [.a 88 (.mv (.t 7)), .a 89 (.mv (.t 0)), .a 90 (.ln (.t 89)), .a 91 (.bin .lss (.t 88) (.t 90))] [88, 89, 90] [])
  (.cond (.t 91) .skip (.exit 4)))
  (.seq (.block 5 (.seq (.reg [] [.a 94 (.mv (.t 7)), .a 95 (.mv (.t 5)), .a 96 (.bin .neq (.t 94) (.t 95)), .a 97 (.mv (.t 96)), .g 98 97 true (.mv (.t 0)), .g 99 97 true (.mv (.t 7)), .g 100 97 true (.iA 1 (.t 98) (.t 99)), .g 101 97 true (.ld 1 false (.t 100)), .g 102 97 true (.mv (.t 6)), .g 103 97 true (.iA 3 (.t 101) (.t 102)), .g 104 97 true (.ld 3 true (.t 103)), .g 105 97 true (.call F.ratio_Sign [(.t 104)]), .g 106 97 true (.bin .neq (.t 105) (.c (.int .i64 0))), .a 107 (.pick (.t 97) (.t 106) (.c (.bool false)))] [91, 94, 95, 96, 97, 98, 99, 100, 101, 102, 103, 104, 105, 106] [])
  (.cond (.t 107) (.seq (.reg [] [.a 4 (.mv (.c (.bool false)))] [0, 1, 5, 6, 7, 107] [])
  .ret) .skip)))
  (.reg [] [.a 92 (.mv (.t 7)), .a 93 (.bin .add (.t 92) (.c (.int .i64 1))), .a 7 (.mv (.t 93))] [92, 93, 107] [])))
def dendronlaw05_inSteps.b0 : R.C := (.seq (.seq (.reg [] [.a 8 (.mv (.t 5)), .a 9 (.mv (.t 0)), .a 10 (.ln (.t 9)), .a 11 (.bin .lss (.t 8) (.t 10))] [8, 9, 10] [])
  (.cond (.t 11) .skip (.exit 0)))
  (.seq (.block 1 (.seq (.reg [] [.a 6 (.mv (.c (.int .i64 0)))] [11] [])
  (.seq (.block 2 (.loop [] [] dendronlaw05_inSteps.b2))
  (.seq (.seq (.reg [] [.a 34 (.mv (.t 5)), .a 35 (.mv (.t 1)), .a 36 (.ln (.t 35)), .a 37 (.bin .geq (.t 34) (.t 36))] [31, 34, 35, 36] [])
  (.cond (.t 37) (.seq (.seq (.reg [] [.a 38 (.mv (.t 6)), .a 39 (.mv (.t 0)), .a 40 (.mv (.t 5)), .a 41 (.iA 1 (.t 39) (.t 40)), .a 42 (.ld 1 false (.t 41)), .a 43 (.ln (.t 42)), .a 44 (.bin .lss (.t 38) (.t 43))] [6, 37, 38, 39, 40, 41, 42, 43] [])
  (.cond (.t 44) (.seq (.reg [] [.a 4 (.mv (.c (.bool false)))] [0, 1, 5, 44] [])
  .ret) .skip))
  (.exit 1)) .skip))
  (.seq (.seq (.reg [] [.a 45 (.mv (.t 6)), .a 46 (.mv (.t 1)), .a 47 (.mv (.t 5)), .a 48 (.iA 1 (.t 46) (.t 47)), .a 49 (.ld 1 false (.t 48)), .a 50 (.bin .neq (.t 45) (.t 49)), .a 51 (.mv (.t 50)), .g 52 51 false (.mv (.t 5)), .g 53 51 false (.bin .gtr (.t 52) (.c (.int .i64 0))), .g 54 51 false (.mv (.t 53)), .g 55 54 true (.mv (.t 1)), .g 56 54 true (.mv (.t 5)), .g 57 54 true (.iA 1 (.t 55) (.t 56)), .g 58 54 true (.ld 1 false (.t 57)), .g 59 54 true (.mv (.t 1)), .g 60 54 true (.mv (.t 5)), .g 61 54 true (.bin .sub (.t 60) (.c (.int .i64 1))), .g 62 54 true (.iA 1 (.t 59) (.t 61)), .g 63 54 true (.ld 1 false (.t 62)), .g 64 54 true (.bin .leq (.t 58) (.t 63)), .g 65 51 false (.pick (.t 54) (.t 64) (.c (.bool false))), .a 66 (.pick (.t 51) (.c (.bool true)) (.t 65)), .a 67 (.mv (.t 66)), .g 68 67 false (.mv (.t 6)), .g 69 67 false (.mv (.t 0)), .g 70 67 false (.mv (.t 5)), .g 71 67 false (.iA 1 (.t 69) (.t 70)), .g 72 67 false (.ld 1 false (.t 71)), .g 73 67 false (.ln (.t 72)), .g 74 67 false (.bin .geq (.t 68) (.t 73)), .a 75 (.pick (.t 67) (.c (.bool true)) (.t 74)), .a 76 (.mv (.t 75)), .g 77 76 false (.mv (.t 0)), .g 78 76 false (.mv (.t 5)), .g 79 76 false (.iA 1 (.t 77) (.t 78)), .g 80 76 false (.ld 1 false (.t 79)), .g 81 76 false (.mv (.t 6)), .g 82 76 false (.iA 3 (.t 80) (.t 81)), .g 83 76 false (.ld 3 true (.t 82)), .g 84 76 false (.call F.ratio_One []), .g 85 76 false (.call F.ratio_Same [(.t 83), (.t 84)]), .g 86 76 false (.un .not (.t 85)), .a 87 (.pick (.t 76) (.c (.bool true)) (.t 86))] [37, 45, 46, 47, 48, 49, 50, 51, 52, 53, 54, 55, 56, 57, 58, 59, 60, 61, 62, 63, 64, 65, 66, 67, 68, 69, 70, 71, 72, 73, 74, 75, 76, 77, 78, 79, 80, 81, 82, 83, 84, 85, 86] [])
  (.cond (.t 87) (.seq (.reg [] [.a 4 (.mv (.c (.bool false)))] [0, 1, 5, 6, 87] [])
  .ret) .skip))
  (.seq (.reg [] [.a 7 (.mv (.c (.int .i64 0)))] [87] [])
  (.block 4 (.loop [] [] dendronlaw05_inSteps.b4))))))))
  (.reg [] [.a 12 (.mv (.t 5)), .a 13 (.bin .add (.t 12) (.c (.int .i64 1))), .a 5 (.mv (.t 13))] [6, 7, 12, 13, 44, 91] [])))
def dendronlaw05_inSteps : R.Fn := ⟨2, [(.t 4)], (.seq (.reg [] [.a 4 (.mv (.c (.bool false)))] [4] [])
  (.seq (.seq (.reg [] [.a 5 (.mv (.c (.int .i64 0)))] [] [])
  (.block 0 (.loop [] [] dendronlaw05_inSteps.b0)))
  (.seq (.reg [] [.a 108 (.mv (.t 1)), .a 109 (.ln (.t 108)), .a 110 (.mv (.t 0)), .a 111 (.ln (.t 110)), .a 112 (.bin .leq (.t 109) (.t 111)), .a 4 (.mv (.t 112))] [0, 1, 5, 11, 108, 109, 110, 111, 112] [])
  .ret)))⟩
def dendronlaw05_inSteps.hint : R.Hint := { kill := [(0, [4], []), (2, [8, 9, 10], []), (3, [6, 7, 12, 13, 44, 91], []), (4, [11], []), (5, [14, 15, 16, 17, 18, 19, 20, 21, 22, 23, 24, 25, 26, 27, 28, 29, 30], []), (6, [31, 32, 33], []), (7, [31, 34, 35, 36], []), (8, [6, 37, 38, 39, 40, 41, 42, 43], []), (9, [0, 1, 5, 44], []), (10, [37, 45, 46, 47, 48, 49, 50, 51, 52, 53, 54, 55, 56, 57, 58, 59, 60, 61, 62, 63, 64, 65, 66, 67, 68, 69, 70, 71, 72, 73, 74, 75, 76, 77, 78, 79, 80, 81, 82, 83, 84, 85, 86], []), (11, [0, 1, 5, 6, 87], []), (12, [87], []), (13, [88, 89, 90], []), (14, [92, 93, 107], []), (15, [91, 94, 95, 96, 97, 98, 99, 100, 101, 102, 103, 104, 105, 106], []), (16, [0, 1, 5, 6, 7, 107], []), (17, [0, 1, 5, 11, 108, 109, 110, 111, 112], [])] }
theorem dendronlaw05_inSteps.ok : cFn Tryd.prog dendronlaw05_inSteps.hint Tryd.f36 = some dendronlaw05_inSteps := by kernel_rfl
def dendronlaw05_made.b2 : R.C := (.seq (.seq (.reg [] [.a 17 (.mv (.t 9)), .a 18 (.mv (.t 2)), .a 19 (.ln (.t 18)), .a 20 (.bin .lss (.t 17) (.t 19))] [17, 18, 19] [])
  (.cond (.t 20) .skip (.exit 2)))
  (.seq (.block 3 (.reg [34359738376] [.a 23 (.ld 3 true (.t 8)), .a 24 (.mv (.t 0)), .a 25 (.mv (.t 2)), .a 26 (.mv (.t 9)), .a 27 (.iA 1 (.t 25) (.t 26)), .a 28 (.ld 1 false (.t 27)), .a 29 (.iA 3 (.t 24) (.t 28)), .a 30 (.ld 3 true (.t 29)), .a 31 (.mv (.t 1)), .a 32 (.mv (.t 9)), .a 33 (.iA 1 (.t 31) (.t 32)), .a 34 (.ld 1 false (.t 33)), .a 35 (.mv (.t 7)), .a 36 (.iA 3 (.t 34) (.t 35)), .a 37 (.ld 3 true (.t 36)), .a 38 (.call F.ratio_Mul [(.t 30), (.t 37)]), .a 39 (.call F.ratio_Add [(.t 23), (.t 38)]), .n (.st 3 (.t 8) (.t 39))] [20, 23, 24, 25, 26, 27, 28, 29, 30, 31, 32, 33, 34, 35, 36, 37, 38, 39] []))
  (.reg [] [.a 21 (.mv (.t 9)), .a 22 (.bin .add (.t 21) (.c (.int .i64 1))), .a 9 (.mv (.t 22))] [21, 22] [])))
def dendronlaw05_made.b0 : R.C := (.seq (.seq (.reg [] [.a 10 (.mv (.t 7)), .a 11 (.mv (.t 0)), .a 12 (.ln (.t 11)), .a 13 (.bin .lss (.t 10) (.t 12))] [10, 11, 12] [])
  (.cond (.t 13) .skip (.exit 0)))
  (.seq (.block 1 (.seq (.reg [] [.a 16 (.call F.ratio_Zero []), .a 8 (.new [(.bool false), (.sl 1 []), (.sl 1 [])]), .n (.st 3 (.t 8) (.t 16))] [13, 16] [])
  (.seq (.seq (.reg [] [.a 9 (.mv (.c (.int .i64 0)))] [] [])
  (.block 2 (.loop [] [] dendronlaw05_made.b2)))
  (.seq (.reg [] [.a 40 (.ld 3 true (.t 8)), .a 41 (.mv (.t 0)), .a 42 (.mv (.t 7)), .a 43 (.iA 3 (.t 41) (.t 42)), .a 44 (.ld 3 true (.t 43)), .a 45 (.call F.ratio_Same [(.t 40), (.t 44)]), .a 46 (.un .not (.t 45))] [8, 9, 20, 40, 41, 42, 43, 44, 45] [8])
  (.cond (.t 46) (.seq (.reg [] [.a 6 (.mv (.c (.bool false)))] [0, 1, 2, 7, 46] [])
  .ret) .skip)))))
  (.reg [] [.a 14 (.mv (.t 7)), .a 15 (.bin .add (.t 14) (.c (.int .i64 1))), .a 7 (.mv (.t 15))] [14, 15, 46] [])))
def dendronlaw05_made : R.Fn := ⟨3, [(.t 6)], (.seq (.reg [] [.a 6 (.mv (.c (.bool false)))] [6] [])
  (.seq (.seq (.reg [] [.a 7 (.mv (.c (.int .i64 0)))] [] [])
  (.block 0 (.loop [] [] dendronlaw05_made.b0)))
  (.seq (.reg [] [.a 6 (.mv (.c (.bool true)))] [0, 1, 2, 7, 13] [])
  .ret)))⟩
def dendronlaw05_made.hint : R.Hint := { pub := [(8, [34359738376])], kill := [(0, [6], []), (2, [10, 11, 12], []), (3, [14, 15, 46], []), (4, [13, 16], []), (6, [17, 18, 19], []), (7, [21, 22], []), (8, [20, 23, 24, 25, 26, 27, 28, 29, 30, 31, 32, 33, 34, 35, 36, 37, 38, 39], []), (9, [8, 9, 20, 40, 41, 42, 43, 44, 45], [8]), (10, [0, 1, 2, 7, 46], []), (11, [0, 1, 2, 7, 13], [])] }
theorem dendronlaw05_made.ok : cFn Tryd.prog dendronlaw05_made.hint Tryd.f37 = some dendronlaw05_made := by kernel_rfl
def solve_Solve.b0 : R.C := (.seq (.reg [] [.a 35 (.bin .lss (.t 34) (.t 33))] [] [])
  (.seq (.cond (.t 35) .skip (.exit 0))
  (.seq (.block 1 (.seq (.reg [] [.a 36 (.iA 3 (.t 32) (.t 34)), .a 37 (.ld 3 true (.t 36)), .a 11 (.new [(.bool false), (.sl 1 []), (.sl 1 [])]), .n (.st 3 (.t 11) (.t 37))] [35, 36, 37] [])
  (.reg [] [.a 38 (.mv (.t 9)), .a 39 (.ld 3 true (.t 11)), .a 40 (.lit 3 1 [(.bool false), (.sl 1 []), (.sl 1 [])] [(0, 3, (.t 39))]), .a 41 (.lit 1 1 [(.sl 3 [])] [(0, 1, (.t 40))]), .a 42 (.app 1 24 (.t 38) (.t 41)), .a 9 (.mv (.t 42))] [11, 38, 39, 40, 41, 42] [11])))
  (.reg [] [.a 43 (.bin .add (.t 34) (.c (.int .i64 1))), .a 34 (.mv (.t 43))] [43] []))))
def solve_Solve.b2 : R.C := (.seq (.seq (.reg [] [.a 57 (.mv (.t 13)), .a 58 (.mv (.t 6)), .a 59 (.bin .lss (.t 57) (.t 58))] [57, 58] [])
  (.cond (.t 59) .skip (.exit 2)))
  (.seq (.block 3 (.seq (.reg [] [.a 62 (.mv (.t 12)), .a 63 (.nck (.t 62)), .a 64 (.fA 0 (.t 63)), .a 65 (.ldr (.t 64)), .a 66 (.mv (.t 13)), .a 67 (.iA 1 (.t 65) (.t 66)), .a 68 (.ldr (.t 67)), .a 69 (.mv (.t 7)), .a 70 (.iA 3 (.t 68) (.t 69)), .a 71 (.ld 3 true (.t 70)), .a 72 (.callc F.ratio_Sign [(.t 71)]), .a 73 (.bin .neq (.t 72) (.c (.int .i64 0)))] [59, 62, 63, 64, 65, 66, 67, 68, 69, 70, 71, 72] [])
  (.cond (.t 73) (.seq (.reg [] [.a 4 (.mv (.c (.sl 3 []))), .a 5 (.mv (.c (.int .i64 17)))] [6, 7, 12, 13, 73] [49])
  .ret) .skip)))
  (.reg [] [.a 60 (.mv (.t 13)), .a 61 (.bin .add (.t 60) (.c (.int .i64 1))), .a 13 (.mv (.t 61))] [60, 61, 73] [])))
def solve_Solve.b4 : R.C := (.seq (.reg [] [.a 79 (.bin .lss (.t 78) (.t 77))] [] [])
  (.seq (.cond (.t 79) .skip (.exit 4))
  (.seq (.block 5 (.seq (.reg [] [.a 80 (.mv (.t 78)), .a 15 (.mv (.t 80))] [79, 80] [])
  (.reg [] [.a 81 (.mv (.t 14)), .a 82 (.mv (.t 15)), .a 83 (.callc F.ratio_Zero []), .a 84 (.iA 3 (.t 81) (.t 82)), .n (.st 3 (.t 84) (.t 83))] [15, 81, 82, 83, 84] [])))
  (.reg [] [.a 85 (.bin .add (.t 78) (.c (.int .i64 1))), .a 78 (.mv (.t 85))] [85] []))))
def solve_Solve.b6 : R.C := (.seq (.reg [] [.a 92 (.bin .lss (.t 91) (.t 90))] [] [])
  (.seq (.cond (.t 92) .skip (.exit 6))
  (.seq (.block 7 (.seq (.reg [] [.a 93 (.mv (.t 91)), .a 94 (.iA 1 (.t 89) (.t 91)), .a 95 (.ld 1 false (.t 94)), .a 16 (.mv (.t 93)), .a 17 (.mv (.t 95))] [92, 93, 94, 95] [])
  (.reg [] [.a 96 (.mv (.t 14)), .a 97 (.mv (.t 17)), .a 98 (.mv (.t 12)), .a 99 (.nck (.t 98)), .a 100 (.fA 0 (.t 99)), .a 101 (.ldr (.t 100)), .a 102 (.mv (.t 16)), .a 103 (.iA 1 (.t 101) (.t 102)), .a 104 (.ldr (.t 103)), .a 105 (.mv (.t 7)), .a 106 (.iA 3 (.t 104) (.t 105)), .a 107 (.ld 3 true (.t 106)), .a 108 (.iA 3 (.t 96) (.t 97)), .n (.st 3 (.t 108) (.t 107))] [16, 17, 96, 97, 98, 99, 100, 101, 102, 103, 104, 105, 106, 107, 108] [])))
  (.reg [] [.a 109 (.bin .add (.t 91) (.c (.int .i64 1))), .a 91 (.mv (.t 109))] [109] []))))
def solve_Solve : R.Fn := ⟨2, [(.deep 4 3), (.t 5)], (.seq (.reg [] [.a 4 (.mv (.c (.sl 3 []))), .a 5 (.mv (.c (.int .i64 0)))] [4, 5] [])
  (.seq (.reg [] [.a 19 (.mv (.t 0)), .a 20 (.callc F.solve_Size [(.t 19)]), .a 18 (.mv (.t 20)), .a 21 (.ext (.t 18) 0), .a 22 (.ext (.t 18) 1), .a 23 (.ext (.t 18) 2), .a 6 (.mv (.t 21)), .a 7 (.mv (.t 22)), .a 8 (.mv (.t 23))] [18, 19, 20, 21, 22, 23] [])
  (.seq (.seq (.reg [] [.a 24 (.mv (.t 8)), .a 25 (.un .not (.t 24)), .a 26 (.mv (.t 25)), .g 27 26 false (.mv (.t 6)), .g 28 26 false (.mv (.t 1)), .g 29 26 false (.ln (.t 28)), .g 30 26 false (.bin .neq (.t 27) (.t 29)), .a 31 (.pick (.t 26) (.c (.bool true)) (.t 30))] [8, 24, 25, 26, 27, 28, 29, 30] [])
  (.cond (.t 31) (.seq (.reg [] [.a 4 (.mv (.c (.sl 3 []))), .a 5 (.mv (.c (.int .i64 14)))] [0, 1, 6, 7, 31] [])
  .ret) .skip))
  (.seq (.reg [] [.a 9 (.nil 1)] [31] [])
  (.seq (.seq (.reg [] [.a 32 (.mv (.t 1)), .a 33 (.ln (.t 32)), .a 34 (.mv (.c (.int .i64 0)))] [1] [])
  (.block 0 (.loop [] [] solve_Solve.b0)))
  (.seq (.reg [9] [.a 44 (.mv (.t 0)), .a 45 (.mv (.t 9)), .a 46 (.callh F.solve_wide [(false, (.t 44)), (false, (.t 45))]), .a 47 (.mv (.t 7)), .a 48 (.bld [(.raw (.slice none 0 0)), (.int .i64 0), (.raw (.slice none 0 0)), (.bool false), (.bool false), (.raw (.slice none 0 0)), (.raw (.slice none 0 0))] [(0, 1, (.t 46)), (1, 1, (.t 47))]), .a 49 (.box (.t 48)), .a 12 (.mv (.t 49))] [0, 9, 32, 33, 34, 35, 44, 45, 46, 47, 48, 49] [9])
  (.seq (.reg [] [.a 50 (.mv (.t 12)), .a 51 (.callh F.dendron_solve_reducer_run [(true, (.t 50))])] [50, 51] [])
  (.seq (.seq (.reg [] [.a 52 (.mv (.t 12)), .a 53 (.nck (.t 52)), .a 54 (.fA 2 (.t 53)), .a 55 (.ldr (.t 54)), .a 56 (.ln (.t 55)), .a 13 (.mv (.t 56))] [52, 53, 54, 55, 56] [])
  (.block 2 (.loop [] [] solve_Solve.b2)))
  (.seq (.reg [] [.a 74 (.mv (.t 7)), .a 75 (.mk 3 56 [(.bool false), (.sl 1 []), (.sl 1 [])] (.t 74) (.t 74)), .a 14 (.mv (.t 75))] [6, 13, 59, 74, 75] [])
  (.seq (.seq (.reg [] [.a 76 (.mv (.t 14)), .a 77 (.ln (.t 76)), .a 78 (.mv (.c (.int .i64 0)))] [76] [])
  (.block 4 (.loop [] [] solve_Solve.b4)))
  (.seq (.seq (.reg [] [.a 86 (.mv (.t 12)), .a 87 (.nck (.t 86)), .a 88 (.fA 2 (.t 87)), .a 89 (.ldr (.t 88)), .a 90 (.ln (.t 89)), .a 91 (.mv (.c (.int .i64 0)))] [77, 78, 79, 86, 87, 88] [])
  (.block 6 (.loop [] [] solve_Solve.b6)))
  (.seq (.reg [] [.a 110 (.mv (.t 14)), .a 4 (.mv (.t 110)), .a 5 (.mv (.c (.int .i64 0)))] [7, 12, 14, 89, 90, 91, 92, 110] [49])
  .ret))))))))))))⟩
def solve_Solve.hint : R.Hint := { nil := [9], pub := [(10, [9])], kill := [(0, [4, 5], []), (1, [18, 19, 20, 21, 22, 23], []), (2, [8, 24, 25, 26, 27, 28, 29, 30], []), (3, [0, 1, 6, 7, 31], []), (4, [31], []), (5, [1], []), (7, [35, 36, 37], []), (8, [11, 38, 39, 40, 41, 42], [11]), (9, [43], []), (10, [0, 9, 32, 33, 34, 35, 44, 45, 46, 47, 48, 49], [9]), (11, [50, 51], []), (12, [52, 53, 54, 55, 56], []), (13, [57, 58], []), (14, [60, 61, 73], []), (15, [59, 62, 63, 64, 65, 66, 67, 68, 69, 70, 71, 72], []), (16, [6, 7, 12, 13, 73], [49]), (17, [6, 13, 59, 74, 75], []), (18, [76], []), (20, [79, 80], []), (21, [15, 81, 82, 83, 84], []), (22, [85], []), (23, [77, 78, 79, 86, 87, 88], []), (25, [92, 93, 94, 95], []), (26, [16, 17, 96, 97, 98, 99, 100, 101, 102, 103, 104, 105, 106, 107, 108], []), (27, [109], []), (28, [7, 12, 14, 89, 90, 91, 92, 110], [49])], heap := true, callh := [(46, [false, false]), (51, [true])], rawnil := [48], deep := [(4, 3)] }
theorem solve_Solve.ok : cFn Tryd.prog solve_Solve.hint Tryd.f38 = some solve_Solve := by kernel_rfl
def ratio_Sign : R.Fn := ⟨1, [(.t 2)], (.seq (.reg [] [.a 1 (.box (.t 0)), .a 2 (.mv (.c (.int .i64 0)))] [0, 2] [])
  (.seq (.reg [] [.a 3 (.ld 3 true (.t 1)), .a 4 (.call F.ratio_Clean [(.t 3)]), .a 5 (.fV 0 2 true (.t 4)), .a 6 (.call F.whole_Sign [(.t 5)]), .a 2 (.mv (.t 6))] [1, 3, 4, 5, 6] [1])
  .ret))⟩
def ratio_Sign.hint : R.Hint := { kill := [(0, [0, 2], []), (1, [1, 3, 4, 5, 6], [1])] }
theorem ratio_Sign.ok : cFn Tryd.prog ratio_Sign.hint Tryd.f39 = some ratio_Sign := by kernel_rfl
def solve_Kernel.b2 : R.C := (.seq (.reg [] [.a 55 (.bin .lss (.t 54) (.t 53))] [] [])
  (.seq (.cond (.t 55) .skip (.exit 2))
  (.seq (.block 3 (.seq (.reg [] [.a 56 (.mv (.t 54)), .a 14 (.mv (.t 56))] [55, 56] [])
  (.reg [] [.a 57 (.mv (.t 13)), .a 58 (.mv (.t 14)), .a 59 (.call F.ratio_Zero []), .a 60 (.iA 3 (.t 57) (.t 58)), .n (.st 3 (.t 60) (.t 59))] [14, 57, 58, 59, 60] [])))
  (.reg [] [.a 61 (.bin .add (.t 54) (.c (.int .i64 1))), .a 54 (.mv (.t 61))] [61] []))))
def solve_Kernel.b4 : R.C := (.seq (.reg [] [.a 69 (.bin .lss (.t 68) (.t 67))] [] [])
  (.seq (.cond (.t 69) .skip (.exit 4))
  (.seq (.block 5 (.seq (.reg [] [.a 70 (.mv (.t 68)), .a 71 (.iA 1 (.t 66) (.t 68)), .a 72 (.ld 1 false (.t 71)), .a 15 (.mv (.t 70)), .a 16 (.mv (.t 72))] [69, 70, 71, 72] [])
  (.reg [] [.a 73 (.mv (.t 13)), .a 74 (.mv (.t 16)), .a 75 (.mv (.t 4)), .a 76 (.mv (.t 15)), .a 77 (.iA 1 (.t 75) (.t 76)), .a 78 (.ld 1 false (.t 77)), .a 79 (.mv (.t 12)), .a 80 (.iA 3 (.t 78) (.t 79)), .a 81 (.ld 3 true (.t 80)), .a 82 (.call F.ratio_Neg [(.t 81)]), .a 83 (.iA 3 (.t 73) (.t 74)), .n (.st 3 (.t 83) (.t 82))] [15, 16, 73, 74, 75, 76, 77, 78, 79, 80, 81, 82, 83] [])))
  (.reg [] [.a 84 (.bin .add (.t 68) (.c (.int .i64 1))), .a 68 (.mv (.t 84))] [84] []))))
def solve_Kernel.b0 : R.C := (.seq (.reg [] [.a 34 (.bin .lss (.t 33) (.t 32))] [] [])
  (.seq (.cond (.t 34) .skip (.exit 0))
  (.seq (.block 1 (.seq (.reg [] [.a 35 (.mv (.t 33)), .a 12 (.mv (.t 35))] [34, 35] [])
  (.seq (.seq (.reg [] [.a 36 (.mv (.t 11)), .a 37 (.mv (.t 5)), .a 38 (.ln (.t 37)), .a 39 (.bin .lss (.t 36) (.t 38)), .a 40 (.mv (.t 39)), .g 41 40 true (.mv (.t 5)), .g 42 40 true (.mv (.t 11)), .g 43 40 true (.iA 1 (.t 41) (.t 42)), .g 44 40 true (.ld 1 false (.t 43)), .g 45 40 true (.mv (.t 12)), .g 46 40 true (.bin .eql (.t 44) (.t 45)), .a 47 (.pick (.t 40) (.t 46) (.c (.bool false)))] [36, 37, 38, 39, 40, 41, 42, 43, 44, 45, 46] [])
  (.cond (.t 47) (.seq (.reg [] [.a 48 (.mv (.t 11)), .a 49 (.bin .add (.t 48) (.c (.int .i64 1))), .a 11 (.mv (.t 49))] [12, 47, 48, 49] [])
  (.exit 1)) .skip))
  (.seq (.reg [] [.a 50 (.mv (.t 8)), .a 51 (.mk 3 56 [(.bool false), (.sl 1 []), (.sl 1 [])] (.t 50) (.t 50)), .a 13 (.mv (.t 51))] [47, 50, 51] [])
  (.seq (.seq (.reg [] [.a 52 (.mv (.t 13)), .a 53 (.ln (.t 52)), .a 54 (.mv (.c (.int .i64 0)))] [52] [])
  (.block 2 (.loop [] [] solve_Kernel.b2)))
  (.seq (.reg [] [.a 62 (.mv (.t 13)), .a 63 (.mv (.t 12)), .a 64 (.call F.ratio_One []), .a 65 (.iA 3 (.t 62) (.t 63)), .n (.st 3 (.t 65) (.t 64))] [53, 54, 55, 62, 63, 64, 65] [])
  (.seq (.seq (.reg [] [.a 66 (.mv (.t 5)), .a 67 (.ln (.t 66)), .a 68 (.mv (.c (.int .i64 0)))] [] [])
  (.block 4 (.loop [] [] solve_Kernel.b4)))
  (.reg [13] [.a 85 (.mv (.t 10)), .a 86 (.mv (.t 13)), .a 87 (.lit 1 1 [(.sl 3 [])] [(0, 1, (.t 86))]), .a 88 (.app 1 24 (.t 85) (.t 87)), .a 10 (.mv (.t 88))] [12, 13, 66, 67, 68, 69, 85, 86, 87, 88] [51]))))))))
  (.reg [] [.a 89 (.bin .add (.t 33) (.c (.int .i64 1))), .a 33 (.mv (.t 89))] [89] []))))
def solve_Kernel : R.Fn := ⟨1, [(.t 2), (.t 3)], (.seq (.reg [] [.a 2 (.mv (.c (.sl 1 []))), .a 3 (.mv (.c (.int .i64 0)))] [2, 3] [])
  (.seq (.reg [] [.a 18 (.mv (.t 0)), .a 19 (.call F.solve_Steps [(.t 18)]), .a 17 (.mv (.t 19)), .a 20 (.ext (.t 17) 0), .a 21 (.ext (.t 17) 1), .a 22 (.ext (.t 17) 2), .a 4 (.mv (.t 20)), .a 5 (.mv (.t 21)), .a 6 (.mv (.t 22))] [17, 18, 19, 20, 21, 22] [])
  (.seq (.seq (.reg [] [.a 23 (.mv (.t 6)), .a 24 (.bin .neq (.t 23) (.c (.int .i64 0)))] [23] [])
  (.cond (.t 24) (.seq (.reg [] [.a 25 (.mv (.t 6)), .a 2 (.mv (.c (.sl 1 []))), .a 3 (.mv (.t 25))] [0, 4, 5, 6, 24, 25] [])
  .ret) .skip))
  (.seq (.reg [] [.a 27 (.mv (.t 0)), .a 28 (.call F.solve_Size [(.t 27)]), .a 26 (.mv (.t 28)), .a 29 (.ext (.t 26) 0), .a 30 (.ext (.t 26) 1), .a 31 (.ext (.t 26) 2), .a 7 (.mv (.t 29)), .a 8 (.mv (.t 30)), .a 9 (.mv (.t 31))] [0, 6, 7, 9, 24, 26, 27, 28, 29, 30, 31] [])
  (.seq (.reg [] [.a 10 (.nil 1)] [] [])
  (.seq (.reg [] [.a 11 (.mv (.c (.int .i64 0)))] [] [])
  (.seq (.seq (.reg [] [.a 32 (.mv (.t 8)), .a 33 (.mv (.c (.int .i64 0)))] [] [])
  (.block 0 (.loop [] [] solve_Kernel.b0)))
  (.seq (.reg [] [.a 90 (.mv (.t 10)), .a 2 (.mv (.t 90)), .a 3 (.mv (.c (.int .i64 0)))] [4, 5, 8, 10, 11, 32, 33, 34, 90] [])
  .ret))))))))⟩
def solve_Kernel.hint : R.Hint := { nil := [10], pub := [(24, [13])], kill := [(0, [2, 3], []), (1, [17, 18, 19, 20, 21, 22], []), (2, [23], []), (3, [0, 4, 5, 6, 24, 25], []), (4, [0, 6, 7, 9, 24, 26, 27, 28, 29, 30, 31], []), (9, [34, 35], []), (10, [36, 37, 38, 39, 40, 41, 42, 43, 44, 45, 46], []), (11, [12, 47, 48, 49], []), (12, [47, 50, 51], []), (13, [52], []), (15, [55, 56], []), (16, [14, 57, 58, 59, 60], []), (17, [61], []), (18, [53, 54, 55, 62, 63, 64, 65], []), (21, [69, 70, 71, 72], []), (22, [15, 16, 73, 74, 75, 76, 77, 78, 79, 80, 81, 82, 83], []), (23, [84], []), (24, [12, 13, 66, 67, 68, 69, 85, 86, 87, 88], [51]), (25, [89], []), (26, [4, 5, 8, 10, 11, 32, 33, 34, 90], [])] }
theorem solve_Kernel.ok : cFn Tryd.prog solve_Kernel.hint Tryd.f40 = some solve_Kernel := by kernel_rfl
def solve_Inverse.b0 : R.C := (.seq (.reg [] [.a 46 (.bin .lss (.t 45) (.t 44))] [] [])
  (.seq (.cond (.t 46) .skip (.exit 0))
  (.seq (.block 1 (.seq (.reg [] [.a 47 (.iA 1 (.t 43) (.t 45)), .a 48 (.ldr (.t 47)), .a 10 (.mv (.t 48))] [46, 47, 48] [])
  (.reg [] [.a 49 (.mv (.t 8)), .a 50 (.mv (.t 10)), .a 51 (.mv (.t 5)), .a 52 (.slc 3 (.t 50) (some (.t 51)) none), .a 53 (.lit 1 1 [(.sl 3 [])] [(0, 1, (.t 52))]), .a 54 (.app 1 24 (.t 49) (.t 53)), .a 8 (.mv (.t 54))] [10, 49, 50, 51, 52, 53, 54] [])))
  (.reg [] [.a 55 (.bin .add (.t 45) (.c (.int .i64 1))), .a 45 (.mv (.t 55))] [55] []))))
def solve_Inverse : R.Fn := ⟨1, [(.deep 2 1), (.t 3)], (.seq (.reg [] [.a 2 (.mv (.c (.sl 1 []))), .a 3 (.mv (.c (.int .i64 0)))] [2, 3] [])
  (.seq (.reg [] [.a 12 (.mv (.t 0)), .a 13 (.callc F.solve_Size [(.t 12)]), .a 11 (.mv (.t 13)), .a 14 (.ext (.t 11) 0), .a 15 (.ext (.t 11) 1), .a 16 (.ext (.t 11) 2), .a 4 (.mv (.t 14)), .a 5 (.mv (.t 15)), .a 6 (.mv (.t 16))] [11, 12, 13, 14, 15, 16] [])
  (.seq (.seq (.reg [] [.a 17 (.mv (.t 6)), .a 18 (.un .not (.t 17)), .a 19 (.mv (.t 18)), .g 20 19 false (.mv (.t 4)), .g 21 19 false (.mv (.t 5)), .g 22 19 false (.bin .neq (.t 20) (.t 21)), .a 23 (.pick (.t 19) (.c (.bool true)) (.t 22))] [6, 17, 18, 19, 20, 21, 22] [])
  (.cond (.t 23) (.seq (.reg [] [.a 2 (.mv (.c (.sl 1 []))), .a 3 (.mv (.c (.int .i64 14)))] [0, 4, 5, 23] [])
  .ret) .skip))
  (.seq (.reg [] [.a 24 (.mv (.t 0)), .a 25 (.mv (.t 4)), .a 26 (.callc F.solve_Unit [(.t 25)]), .a 27 (.callh F.solve_wide [(false, (.t 24)), (false, (.t 26))]), .a 28 (.mv (.t 5)), .a 29 (.bld [(.raw (.slice none 0 0)), (.int .i64 0), (.raw (.slice none 0 0)), (.bool false), (.bool false), (.raw (.slice none 0 0)), (.raw (.slice none 0 0))] [(0, 1, (.t 27)), (1, 1, (.t 28))]), .a 30 (.box (.t 29)), .a 7 (.mv (.t 30))] [0, 23, 24, 25, 26, 27, 28, 29, 30] [])
  (.seq (.reg [] [.a 31 (.mv (.t 7)), .a 32 (.callh F.dendron_solve_reducer_run [(true, (.t 31))])] [31, 32] [])
  (.seq (.seq (.reg [] [.a 33 (.mv (.t 7)), .a 34 (.nck (.t 33)), .a 35 (.fA 2 (.t 34)), .a 36 (.ldr (.t 35)), .a 37 (.ln (.t 36)), .a 38 (.mv (.t 4)), .a 39 (.bin .lss (.t 37) (.t 38))] [4, 33, 34, 35, 36, 37, 38] [])
  (.cond (.t 39) (.seq (.reg [] [.a 2 (.mv (.c (.sl 1 []))), .a 3 (.mv (.c (.int .i64 2)))] [5, 7, 39] [30])
  .ret) .skip))
  (.seq (.reg [] [.a 8 (.nil 1)] [39] [])
  (.seq (.seq (.reg [] [.a 40 (.mv (.t 7)), .a 41 (.nck (.t 40)), .a 42 (.fA 0 (.t 41)), .a 43 (.ldr (.t 42)), .a 44 (.ln (.t 43)), .a 45 (.mv (.c (.int .i64 0)))] [7, 40, 41, 42] [30])
  (.block 0 (.loop [] [] solve_Inverse.b0)))
  (.seq (.reg [] [.a 56 (.mv (.t 8)), .a 2 (.mv (.t 56)), .a 3 (.mv (.c (.int .i64 0)))] [5, 8, 43, 44, 45, 46, 56] [])
  .ret)))))))))⟩
def solve_Inverse.hint : R.Hint := { nil := [8], kill := [(0, [2, 3], []), (1, [11, 12, 13, 14, 15, 16], []), (2, [6, 17, 18, 19, 20, 21, 22], []), (3, [0, 4, 5, 23], []), (4, [0, 23, 24, 25, 26, 27, 28, 29, 30], []), (5, [31, 32], []), (6, [4, 33, 34, 35, 36, 37, 38], []), (7, [5, 7, 39], [30]), (8, [39], []), (9, [7, 40, 41, 42], [30]), (11, [46, 47, 48], []), (12, [10, 49, 50, 51, 52, 53, 54], []), (13, [55], []), (14, [5, 8, 43, 44, 45, 46, 56], [])], heap := true, callh := [(27, [false, false]), (32, [true])], rawnil := [29], deep := [(2, 1)] }
theorem solve_Inverse.ok : cFn Tryd.prog solve_Inverse.hint Tryd.f41 = some solve_Inverse := by kernel_rfl
def solve_Least.b0 : R.C := (.seq (.reg [] [.a 45 (.bin .lss (.t 44) (.t 43))] [] [])
  (.seq (.cond (.t 45) .skip (.exit 0))
  (.seq (.block 1 (.seq (.reg [] [.a 46 (.iA 3 (.t 42) (.t 44)), .a 47 (.ld 3 true (.t 46)), .a 12 (.new [(.bool false), (.sl 1 []), (.sl 1 [])]), .n (.st 3 (.t 12) (.t 47))] [45, 46, 47] [])
  (.seq (.reg [] [.a 48 (.ld 3 true (.t 12)), .a 49 (.callc F.ratio_Sign [(.t 48)]), .a 50 (.bin .lss (.t 49) (.c (.int .i64 0)))] [12, 48, 49] [12])
  (.cond (.t 50) (.seq (.reg [] [.a 6 (.mv (.c (.sl 3 []))), .a 7 (.mv (.c (.int .i64 8)))] [0, 1, 2, 9, 42, 43, 44, 50] [])
  .ret) .skip))))
  (.reg [] [.a 51 (.bin .add (.t 44) (.c (.int .i64 1))), .a 44 (.mv (.t 51))] [50, 51] []))))
def solve_Least.b4 : R.C := (.seq (.reg [] [.a 70 (.bin .lss (.t 69) (.t 68))] [] [])
  (.seq (.cond (.t 70) .skip (.exit 4))
  (.seq (.block 5 (.seq (.reg [] [.a 71 (.mv (.t 69)), .a 16 (.mv (.t 71))] [70, 71] [])
  (.reg [] [.a 72 (.mv (.t 13)), .a 73 (.mv (.t 15)), .a 74 (.iA 1 (.t 72) (.t 73)), .a 75 (.ldr (.t 74)), .a 76 (.mv (.t 16)), .a 77 (.mv (.t 13)), .a 78 (.mv (.t 15)), .a 79 (.iA 1 (.t 77) (.t 78)), .a 80 (.ldr (.t 79)), .a 81 (.mv (.t 16)), .a 82 (.iA 3 (.t 80) (.t 81)), .a 83 (.ld 3 true (.t 82)), .a 84 (.mv (.t 2)), .a 85 (.mv (.t 16)), .a 86 (.iA 3 (.t 84) (.t 85)), .a 87 (.ld 3 true (.t 86)), .a 88 (.callc F.ratio_Mul [(.t 83), (.t 87)]), .a 89 (.iA 3 (.t 75) (.t 76)), .n (.st 3 (.t 89) (.t 88))] [16, 72, 73, 74, 75, 76, 77, 78, 79, 80, 81, 82, 83, 84, 85, 86, 87, 88, 89] [])))
  (.reg [] [.a 90 (.bin .add (.t 69) (.c (.int .i64 1))), .a 69 (.mv (.t 90))] [90] []))))
def solve_Least.b2 : R.C := (.seq (.reg [] [.a 62 (.bin .lss (.t 61) (.t 60))] [] [])
  (.seq (.cond (.t 62) .skip (.exit 2))
  (.seq (.block 3 (.seq (.reg [] [.a 63 (.mv (.t 61)), .a 15 (.mv (.t 63))] [62, 63] [])
  (.seq (.reg [] [.a 64 (.mv (.t 13)), .a 65 (.mv (.t 15)), .a 66 (.iA 1 (.t 64) (.t 65)), .a 67 (.ldr (.t 66)), .a 68 (.ln (.t 67)), .a 69 (.mv (.c (.int .i64 0)))] [64, 65, 66, 67] [])
  (.block 4 (.loop [] [] solve_Least.b4)))))
  (.reg [] [.a 91 (.bin .add (.t 61) (.c (.int .i64 1))), .a 61 (.mv (.t 91))] [15, 68, 69, 70, 91] []))))
def solve_Least : R.Fn := ⟨3, [(.deep 6 3), (.t 7)], (.seq (.reg [] [.a 6 (.mv (.c (.sl 3 []))), .a 7 (.mv (.c (.int .i64 0)))] [6, 7] [])
  (.seq (.reg [] [.a 23 (.mv (.t 0)), .a 24 (.callc F.solve_Size [(.t 23)]), .a 22 (.mv (.t 24)), .a 25 (.ext (.t 22) 0), .a 26 (.ext (.t 22) 1), .a 27 (.ext (.t 22) 2), .a 8 (.mv (.t 25)), .a 9 (.mv (.t 26)), .a 10 (.mv (.t 27))] [22, 23, 24, 25, 26, 27] [])
  (.seq (.seq (.reg [] [.a 28 (.mv (.t 10)), .a 29 (.un .not (.t 28)), .a 30 (.mv (.t 29)), .g 31 30 false (.mv (.t 8)), .g 32 30 false (.mv (.t 1)), .g 33 30 false (.ln (.t 32)), .g 34 30 false (.bin .neq (.t 31) (.t 33)), .a 35 (.pick (.t 30) (.c (.bool true)) (.t 34)), .a 36 (.mv (.t 35)), .g 37 36 false (.mv (.t 8)), .g 38 36 false (.mv (.t 2)), .g 39 36 false (.ln (.t 38)), .g 40 36 false (.bin .neq (.t 37) (.t 39)), .a 41 (.pick (.t 36) (.c (.bool true)) (.t 40))] [8, 10, 28, 29, 30, 31, 32, 33, 34, 35, 36, 37, 38, 39, 40] [])
  (.cond (.t 41) (.seq (.reg [] [.a 6 (.mv (.c (.sl 3 []))), .a 7 (.mv (.c (.int .i64 14)))] [0, 1, 2, 9, 41] [])
  .ret) .skip))
  (.seq (.seq (.reg [] [.a 42 (.mv (.t 2)), .a 43 (.ln (.t 42)), .a 44 (.mv (.c (.int .i64 0)))] [41] [])
  (.block 0 (.loop [] [] solve_Least.b0)))
  (.seq (.seq (.reg [] [.a 52 (.mv (.t 9)), .a 53 (.bin .eql (.t 52) (.c (.int .i64 0)))] [9, 42, 43, 44, 45, 52] [])
  (.cond (.t 53) (.seq (.reg [] [.a 6 (.mv (.c (.sl 3 []))), .a 7 (.mv (.c (.int .i64 0)))] [0, 1, 2, 53] [])
  .ret) .skip))
  (.seq (.reg [] [.a 55 (.mv (.t 0)), .a 56 (.callh F.solve_Flip [(false, (.t 55))]), .a 54 (.mv (.t 56)), .a 57 (.ext (.t 54) 0), .a 58 (.ext (.t 54) 1), .a 13 (.mv (.t 57)), .a 14 (.mv (.t 58))] [14, 53, 54, 55, 56, 57, 58] [])
  (.seq (.seq (.reg [] [.a 59 (.mv (.t 13)), .a 60 (.ln (.t 59)), .a 61 (.mv (.c (.int .i64 0)))] [59] [])
  (.block 2 (.loop [] [] solve_Least.b2)))
  (.seq (.up [4294967309] (.reg [] [.a 93 (.mv (.t 13)), .a 94 (.mv (.t 0)), .a 95 (.callc F.solve_Mul [(.t 93), (.t 94)]), .a 92 (.mv (.t 95)), .a 96 (.ext (.t 92) 0), .a 97 (.ext (.t 92) 1), .a 17 (.mv (.t 96)), .a 18 (.mv (.t 97))] [0, 2, 60, 61, 62, 92, 93, 94, 95, 96, 97] []))
  (.seq (.seq (.reg [] [.a 98 (.mv (.t 18)), .a 99 (.bin .neq (.t 98) (.c (.int .i64 0)))] [98] [])
  (.cond (.t 99) (.seq (.reg [] [.a 100 (.mv (.t 18)), .a 6 (.mv (.c (.sl 3 []))), .a 7 (.mv (.t 100))] [1, 13, 17, 18, 99, 100] [])
  .ret) .skip))
  (.seq (.reg [] [.a 102 (.mv (.t 13)), .a 103 (.mv (.t 1)), .a 104 (.callc F.solve_Apply [(.t 102), (.t 103)]), .a 101 (.mv (.t 104)), .a 105 (.ext (.t 101) 0), .a 106 (.ext (.t 101) 1), .a 19 (.mv (.t 105)), .a 20 (.mv (.t 106))] [1, 13, 18, 20, 99, 101, 102, 103, 104, 105, 106] [])
  (.seq (.reg [] [.a 108 (.mv (.t 17)), .a 109 (.callc F.solve_Inverse [(.t 108)]), .a 107 (.mv (.t 109)), .a 110 (.ext (.t 107) 0), .a 111 (.ext (.t 107) 1), .a 21 (.mv (.t 110)), .a 18 (.mv (.t 111))] [17, 107, 108, 109, 110, 111] [])
  (.seq (.seq (.reg [] [.a 112 (.mv (.t 18)), .a 113 (.bin .neq (.t 112) (.c (.int .i64 0)))] [112] [])
  (.cond (.t 113) (.seq (.reg [] [.a 114 (.mv (.t 18)), .a 6 (.mv (.c (.sl 3 []))), .a 7 (.mv (.t 114))] [18, 19, 21, 113, 114] [])
  .ret) .skip))
  (.seq (.reg [] [.a 115 (.mv (.t 21)), .a 116 (.mv (.t 19)), .a 117 (.callc F.solve_Apply [(.t 115), (.t 116)]), .a 118 (.ext (.t 117) 0), .a 119 (.ext (.t 117) 1), .a 6 (.mv (.t 118)), .a 7 (.mv (.t 119))] [18, 19, 21, 113, 115, 116, 117, 118, 119] [])
  .ret)))))))))))))⟩
def solve_Least.hint : R.Hint := { kill := [(0, [6, 7], []), (1, [22, 23, 24, 25, 26, 27], []), (2, [8, 10, 28, 29, 30, 31, 32, 33, 34, 35, 36, 37, 38, 39, 40], []), (3, [0, 1, 2, 9, 41], []), (4, [41], []), (6, [45, 46, 47], []), (7, [12, 48, 49], [12]), (8, [0, 1, 2, 9, 42, 43, 44, 50], []), (9, [50, 51], []), (10, [9, 42, 43, 44, 45, 52], []), (11, [0, 1, 2, 53], []), (12, [14, 53, 54, 55, 56, 57, 58], []), (13, [59], []), (15, [62, 63], []), (16, [64, 65, 66, 67], []), (18, [70, 71], []), (19, [16, 72, 73, 74, 75, 76, 77, 78, 79, 80, 81, 82, 83, 84, 85, 86, 87, 88, 89], []), (20, [90], []), (21, [15, 68, 69, 70, 91], []), (22, [0, 2, 60, 61, 62, 92, 93, 94, 95, 96, 97], []), (23, [98], []), (24, [1, 13, 17, 18, 99, 100], []), (25, [1, 13, 18, 20, 99, 101, 102, 103, 104, 105, 106], []), (26, [17, 107, 108, 109, 110, 111], []), (27, [112], []), (28, [18, 19, 21, 113, 114], []), (29, [18, 19, 21, 113, 115, 116, 117, 118, 119], [])], heap := true, callh := [(56, [false])], deep := [(6, 3)], up := [(22, [4294967309])] }
theorem solve_Least.ok : cFn Tryd.prog solve_Least.hint Tryd.f42 = some solve_Least := by kernel_rfl
def ratio_Cmp : R.Fn := ⟨2, [(.t 4)], (.seq (.reg [] [.a 2 (.box (.t 0)), .a 3 (.box (.t 1)), .a 4 (.mv (.c (.int .i64 0)))] [0, 1, 4] [])
  (.seq (.reg [] [.a 5 (.ld 3 true (.t 2)), .a 6 (.call F.ratio_Clean [(.t 5)]), .a 7 (.ld 3 true (.t 3)), .a 8 (.call F.ratio_Clean [(.t 7)]), .n (.st 3 (.t 2) (.t 6)), .n (.st 3 (.t 3) (.t 8))] [5, 6, 7, 8] [])
  (.seq (.reg [] [.a 9 (.fA 0 (.t 2)), .a 10 (.ld 2 true (.t 9)), .a 11 (.ld 3 true (.t 3)), .a 12 (.call F.ratio_den [(.t 11)]), .a 13 (.call F.whole_Mul [(.t 10), (.t 12)]), .a 14 (.fA 0 (.t 3)), .a 15 (.ld 2 true (.t 14)), .a 16 (.ld 3 true (.t 2)), .a 17 (.call F.ratio_den [(.t 16)]), .a 18 (.call F.whole_Mul [(.t 15), (.t 17)]), .a 19 (.call F.whole_Cmp [(.t 13), (.t 18)]), .a 4 (.mv (.t 19))] [2, 3, 9, 10, 11, 12, 13, 14, 15, 16, 17, 18, 19] [2, 3])
  .ret)))⟩
def ratio_Cmp.hint : R.Hint := { kill := [(0, [0, 1, 4], []), (1, [5, 6, 7, 8], []), (2, [2, 3, 9, 10, 11, 12, 13, 14, 15, 16, 17, 18, 19], [2, 3])] }
theorem ratio_Cmp.ok : cFn Tryd.prog ratio_Cmp.hint Tryd.f43 = some ratio_Cmp := by kernel_rfl
def dendronlaw05_loss.b0 : R.C := (.seq (.seq (.reg [] [.a 13 (.mv (.t 10)), .a 14 (.mv (.t 0)), .a 15 (.ln (.t 14)), .a 16 (.bin .lss (.t 13) (.t 15))] [13, 14, 15] [])
  (.cond (.t 16) .skip (.exit 0)))
  (.seq (.block 1 (.seq (.reg [] [.a 19 (.mv (.t 0)), .a 20 (.mv (.t 10)), .a 21 (.iA 1 (.t 19) (.t 20)), .a 22 (.ld 1 false (.t 21)), .a 23 (.mv (.t 3)), .a 24 (.call F.dendronlaw05_dot [(.t 22), (.t 23)]), .a 25 (.mv (.t 1)), .a 26 (.mv (.t 10)), .a 27 (.iA 3 (.t 25) (.t 26)), .a 28 (.ld 3 true (.t 27)), .a 29 (.call F.ratio_Sub [(.t 24), (.t 28)]), .a 11 (.new [(.bool false), (.sl 1 []), (.sl 1 [])]), .n (.st 3 (.t 11) (.t 29))] [16, 19, 20, 21, 22, 23, 24, 25, 26, 27, 28, 29] [])
  (.reg [38654705673, 47244640267] [.a 30 (.ld 3 true (.t 9)), .a 31 (.mv (.t 2)), .a 32 (.mv (.t 10)), .a 33 (.iA 3 (.t 31) (.t 32)), .a 34 (.ld 3 true (.t 33)), .a 35 (.ld 3 true (.t 11)), .a 36 (.ld 3 true (.t 11)), .a 37 (.call F.ratio_Mul [(.t 35), (.t 36)]), .a 38 (.call F.ratio_Mul [(.t 34), (.t 37)]), .a 39 (.call F.ratio_Add [(.t 30), (.t 38)]), .n (.st 3 (.t 9) (.t 39))] [11, 30, 31, 32, 33, 34, 35, 36, 37, 38, 39] [11])))
  (.reg [] [.a 17 (.mv (.t 10)), .a 18 (.bin .add (.t 17) (.c (.int .i64 1))), .a 10 (.mv (.t 18))] [17, 18] [])))
def dendronlaw05_loss : R.Fn := ⟨4, [(.cell 8 3 true)], (.seq (.reg [] [.a 8 (.new [(.bool false), (.sl 1 []), (.sl 1 [])])] [] [])
  (.seq (.reg [] [.a 12 (.call F.ratio_Zero []), .a 9 (.new [(.bool false), (.sl 1 []), (.sl 1 [])]), .n (.st 3 (.t 9) (.t 12))] [12] [])
  (.seq (.seq (.reg [] [.a 10 (.mv (.c (.int .i64 0)))] [] [])
  (.block 0 (.loop [] [] dendronlaw05_loss.b0)))
  (.seq (.reg [] [.a 40 (.ld 3 true (.t 9)), .n (.st 3 (.t 8) (.t 40))] [0, 1, 2, 3, 9, 10, 16, 40] [9])
  .ret))))⟩
def dendronlaw05_loss.hint : R.Hint := { pub := [(6, [38654705673, 47244640267])], kill := [(1, [12], []), (3, [13, 14, 15], []), (4, [17, 18], []), (5, [16, 19, 20, 21, 22, 23, 24, 25, 26, 27, 28, 29], []), (6, [11, 30, 31, 32, 33, 34, 35, 36, 37, 38, 39], [11]), (7, [0, 1, 2, 3, 9, 10, 16, 40], [9])] }
theorem dendronlaw05_loss.ok : cFn Tryd.prog dendronlaw05_loss.hint Tryd.f44 = some dendronlaw05_loss := by kernel_rfl
def dendronlaw19_Few.b0 : R.C := (.seq (.seq (.reg [] [.a 5 (.mv (.t 4)), .a 6 (.mv (.t 0)), .a 7 (.ln (.t 6)), .a 8 (.bin .lss (.t 5) (.t 7)), .a 9 (.mv (.t 8)), .g 10 9 true (.mv (.t 4)), .g 11 9 true (.bin .lss (.t 10) (.c (.int .i64 33))), .a 12 (.pick (.t 9) (.t 11) (.c (.bool false)))] [5, 6, 7, 8, 9, 10, 11] [])
  (.cond (.t 12) .skip (.exit 0)))
  (.seq (.block 1 (.reg [] [.a 15 (.mv (.t 3)), .a 16 (.mv (.t 0)), .a 17 (.mv (.t 4)), .a 18 (.iA 3 (.t 16) (.t 17)), .a 19 (.ld 3 true (.t 18)), .a 20 (.call F.dendronlaw19_number [(.t 19)]), .a 21 (.lit 3 1 [(.bool false), (.sl 1 []), (.sl 1 [])] [(0, 3, (.t 20))]), .a 22 (.app 3 56 (.t 15) (.t 21)), .a 3 (.mv (.t 22))] [12, 15, 16, 17, 18, 19, 20, 21, 22] []))
  (.reg [] [.a 13 (.mv (.t 4)), .a 14 (.bin .add (.t 13) (.c (.int .i64 1))), .a 4 (.mv (.t 14))] [13, 14] [])))
def dendronlaw19_Few : R.Fn := ⟨1, [(.t 2)], (.seq (.reg [] [.a 2 (.mv (.c (.sl 3 [])))] [2] [])
  (.seq (.reg [] [.a 3 (.nil 3)] [] [])
  (.seq (.seq (.reg [] [.a 4 (.mv (.c (.int .i64 0)))] [] [])
  (.block 0 (.loop [] [] dendronlaw19_Few.b0)))
  (.seq (.reg [] [.a 23 (.mv (.t 3)), .a 2 (.mv (.t 23))] [0, 3, 4, 12, 23] [])
  .ret))))⟩
def dendronlaw19_Few.hint : R.Hint := { nil := [3], kill := [(0, [2], []), (3, [5, 6, 7, 8, 9, 10, 11], []), (4, [13, 14], []), (5, [12, 15, 16, 17, 18, 19, 20, 21, 22], []), (6, [0, 3, 4, 12, 23], [])] }
theorem dendronlaw19_Few.ok : cFn Tryd.prog dendronlaw19_Few.hint Tryd.f45 = some dendronlaw19_Few := by kernel_rfl
def dendronlaw19_Size.b0 : R.C := (.seq (.seq (.reg [] [.a 4 (.mv (.t 3)), .a 5 (.bin .lss (.t 4) (.c (.int .i64 6)))] [4] [])
  (.cond (.t 5) .skip (.exit 0)))
  (.seq (.block 1 (.seq (.reg [] [.a 8 (.mv (.t 0)), .a 9 (.ln (.t 8)), .a 10 (.mv (.t 3)), .a 11 (.call F.dendronlaw19_two [(.t 10)]), .a 12 (.bin .eql (.t 9) (.t 11))] [5, 8, 9, 10, 11] [])
  (.cond (.t 12) (.seq (.reg [] [.a 13 (.mv (.t 3)), .a 2 (.mv (.t 13))] [0, 3, 12, 13] [])
  .ret) .skip)))
  (.reg [] [.a 6 (.mv (.t 3)), .a 7 (.bin .add (.t 6) (.c (.int .i64 1))), .a 3 (.mv (.t 7))] [6, 7, 12] [])))
def dendronlaw19_Size : R.Fn := ⟨1, [(.t 2)], (.seq (.reg [] [.a 2 (.mv (.c (.int .i64 0)))] [2] [])
  (.seq (.seq (.reg [] [.a 3 (.mv (.c (.int .i64 0)))] [] [])
  (.block 0 (.loop [] [] dendronlaw19_Size.b0)))
  (.seq (.reg [] [.a 2 (.mv (.c (.int .i64 (-1))))] [0, 3, 5] [])
  .ret)))⟩
def dendronlaw19_Size.hint : R.Hint := { kill := [(0, [2], []), (2, [4], []), (3, [6, 7, 12], []), (4, [5, 8, 9, 10, 11], []), (5, [0, 3, 12, 13], []), (6, [0, 3, 5], [])] }
theorem dendronlaw19_Size.ok : cFn Tryd.prog dendronlaw19_Size.hint Tryd.f46 = some dendronlaw19_Size := by kernel_rfl
def dendronlaw20_awake : R.Fn := ⟨0, [(.t 0)], (.seq (.reg [] [.a 0 (.mv (.c (.bool false)))] [0] [])
  (.seq (.reg [] [.a 4 (.call F.kernel_Weight [(.c (.int .i64 1)), (.c (.int .i64 3))]), .a 3 (.mv (.t 4)), .a 5 (.ext (.t 3) 0), .a 6 (.ext (.t 3) 1), .a 1 (.new [(.bool false), (.sl 1 []), (.sl 1 [])]), .n (.st 3 (.t 1) (.t 5)), .a 2 (.mv (.t 6))] [3, 4, 5, 6] [])
  (.seq (.reg [] [.a 7 (.mv (.t 2)), .a 8 (.bin .eql (.t 7) (.c (.int .i64 0))), .a 9 (.mv (.t 8)), .g 10 9 true (.ld 3 true (.t 1)), .g 11 9 true (.call F.ratio_Frac [(.c (.int .i64 1)), (.c (.int .i64 3))]), .g 12 9 true (.call F.ratio_Same [(.t 10), (.t 11)]), .a 13 (.pick (.t 9) (.t 12) (.c (.bool false))), .a 0 (.mv (.t 13))] [1, 2, 7, 8, 9, 10, 11, 12, 13] [1])
  .ret)))⟩
def dendronlaw20_awake.hint : R.Hint := { kill := [(0, [0], []), (1, [3, 4, 5, 6], []), (2, [1, 2, 7, 8, 9, 10, 11, 12, 13], [1])] }
theorem dendronlaw20_awake.ok : cFn Tryd.prog dendronlaw20_awake.hint Tryd.f47 = some dendronlaw20_awake := by kernel_rfl
def kernel_Values : R.Fn := ⟨1, [(.t 2), (.t 3)], (.seq (.reg [] [.a 2 (.mv (.c (.sl 3 []))), .a 3 (.mv (.c (.int .i64 0)))] [2, 3] [])
  (.seq (.reg [] [.a 14 (.mv (.t 0)), .a 15 (.call F.game_Players [(.t 14)]), .a 13 (.mv (.t 15)), .a 16 (.ext (.t 13) 0), .a 17 (.ext (.t 13) 1), .a 4 (.mv (.t 16)), .a 5 (.mv (.t 17))] [13, 14, 15, 16, 17] [])
  (.seq (.block 0 (.seq (.reg [] [.a 19 (.mv (.t 5)), .a 20 (.un .not (.t 19)), .a 18 (.mv (.t 20))] [5, 19, 20] [])
  (.cond (.t 18) (.seq (.reg [] [.a 2 (.mv (.c (.sl 3 []))), .a 3 (.mv (.c (.int .i64 1)))] [0, 4, 18] [])
  .ret) (.seq (.reg [] [.a 22 (.mv (.t 4)), .a 23 (.bin .eql (.t 22) (.c (.int .i64 0))), .a 21 (.mv (.t 23))] [18, 22, 23] [])
  (.cond (.t 21) (.seq (.reg [] [.a 2 (.mv (.c (.sl 3 []))), .a 3 (.mv (.c (.int .i64 0)))] [0, 4, 21] [])
  .ret) .skip)))))
  (.seq (.reg [] [.a 24 (.mv (.t 0)), .a 25 (.mv (.t 0)), .a 26 (.ln (.t 25)), .a 27 (.bin .sub (.t 26) (.c (.int .i64 1))), .a 28 (.iA 3 (.t 24) (.t 27)), .a 29 (.ld 3 true (.t 28)), .a 30 (.mv (.t 0)), .a 31 (.iA 3 (.t 30) (.c (.int .i64 0))), .a 32 (.ld 3 true (.t 31)), .a 33 (.call F.ratio_Sub [(.t 29), (.t 32)]), .a 6 (.new [(.bool false), (.sl 1 []), (.sl 1 [])]), .n (.st 3 (.t 6) (.t 33))] [21, 24, 25, 26, 27, 28, 29, 30, 31, 32, 33] [])
  (.seq (.seq (.reg [] [.a 34 (.mv (.t 4)), .a 35 (.bin .eql (.t 34) (.c (.int .i64 1)))] [4, 34] [])
  (.cond (.t 35) (.seq (.reg [] [.a 36 (.ld 3 true (.t 6)), .a 37 (.lit 3 1 [(.bool false), (.sl 1 []), (.sl 1 [])] [(0, 3, (.t 36))]), .a 2 (.mv (.t 37)), .a 3 (.mv (.c (.int .i64 0)))] [0, 6, 35, 36, 37] [6])
  .ret) .skip))
  (.seq (.reg [] [.a 39 (.mv (.t 0)), .a 40 (.call F.kernel_System [(.t 39)]), .a 38 (.mv (.t 40)), .a 41 (.ext (.t 38) 0), .a 42 (.ext (.t 38) 1), .a 43 (.ext (.t 38) 2), .a 44 (.ext (.t 38) 3), .a 7 (.mv (.t 41)), .a 8 (.mv (.t 42)), .a 9 (.mv (.t 43)), .a 10 (.mv (.t 44))] [0, 10, 35, 38, 39, 40, 41, 42, 43, 44] [])
  (.seq (.reg [] [.a 46 (.mv (.t 7)), .a 47 (.mv (.t 8)), .a 48 (.mv (.t 9)), .a 49 (.call F.solve_Least [(.t 46), (.t 47), (.t 48)]), .a 45 (.mv (.t 49)), .a 50 (.ext (.t 45) 0), .a 51 (.ext (.t 45) 1), .a 11 (.mv (.t 50)), .a 12 (.mv (.t 51))] [7, 8, 9, 45, 46, 47, 48, 49, 50, 51] [])
  (.seq (.seq (.reg [] [.a 52 (.mv (.t 12)), .a 53 (.bin .neq (.t 52) (.c (.int .i64 0)))] [52] [])
  (.cond (.t 53) (.seq (.reg [] [.a 54 (.mv (.t 12)), .a 2 (.mv (.c (.sl 3 []))), .a 3 (.mv (.t 54))] [6, 11, 12, 53, 54] [6])
  .ret) .skip))
  (.seq (.reg [] [.a 55 (.mv (.t 11)), .a 56 (.ld 3 true (.t 6)), .a 57 (.mv (.t 11)), .a 58 (.call F.ratio_Sum [(.t 57)]), .a 59 (.call F.ratio_Sub [(.t 56), (.t 58)]), .a 60 (.lit 3 1 [(.bool false), (.sl 1 []), (.sl 1 [])] [(0, 3, (.t 59))]), .a 61 (.app 3 56 (.t 55) (.t 60)), .a 2 (.mv (.t 61)), .a 3 (.mv (.c (.int .i64 0)))] [6, 11, 12, 53, 55, 56, 57, 58, 59, 60, 61] [6])
  .ret)))))))))⟩
def kernel_Values.hint : R.Hint := { kill := [(0, [2, 3], []), (1, [13, 14, 15, 16, 17], []), (2, [5, 19, 20], []), (3, [0, 4, 18], []), (4, [18, 22, 23], []), (5, [0, 4, 21], []), (6, [21, 24, 25, 26, 27, 28, 29, 30, 31, 32, 33], []), (7, [4, 34], []), (8, [0, 6, 35, 36, 37], [6]), (9, [0, 10, 35, 38, 39, 40, 41, 42, 43, 44], []), (10, [7, 8, 9, 45, 46, 47, 48, 49, 50, 51], []), (11, [52], []), (12, [6, 11, 12, 53, 54], [6]), (13, [6, 11, 12, 53, 55, 56, 57, 58, 59, 60, 61], [6])] }
theorem kernel_Values.ok : cFn Tryd.prog kernel_Values.hint Tryd.f48 = some kernel_Values := by kernel_rfl
def ratio_Sub : R.Fn := ⟨2, [(.cell 4 3 true)], (.seq (.reg [] [.a 2 (.box (.t 0)), .a 3 (.box (.t 1)), .a 4 (.new [(.bool false), (.sl 1 []), (.sl 1 [])])] [0, 1] [])
  (.seq (.reg [] [.a 5 (.ld 3 true (.t 2)), .a 6 (.ld 3 true (.t 3)), .a 7 (.call F.ratio_Neg [(.t 6)]), .a 8 (.call F.ratio_Add [(.t 5), (.t 7)]), .n (.st 3 (.t 4) (.t 8))] [2, 3, 5, 6, 7, 8] [2, 3])
  .ret))⟩
def ratio_Sub.hint : R.Hint := { kill := [(0, [0, 1], []), (1, [2, 3, 5, 6, 7, 8], [2, 3])] }
theorem ratio_Sub.ok : cFn Tryd.prog ratio_Sub.hint Tryd.f49 = some ratio_Sub := by kernel_rfl
def ratio_Sum.b0 : R.C := (.seq (.reg [] [.a 10 (.bin .lss (.t 9) (.t 8))] [] [])
  (.seq (.cond (.t 10) .skip (.exit 0))
  (.seq (.block 1 (.seq (.reg [] [.a 11 (.iA 3 (.t 7) (.t 9)), .a 12 (.ld 3 true (.t 11)), .a 5 (.new [(.bool false), (.sl 1 []), (.sl 1 [])]), .n (.st 3 (.t 5) (.t 12))] [10, 11, 12] [])
  (.reg [] [.a 13 (.ld 3 true (.t 3)), .a 14 (.ld 3 true (.t 5)), .a 15 (.call F.ratio_Add [(.t 13), (.t 14)]), .n (.st 3 (.t 3) (.t 15))] [5, 13, 14, 15] [5])))
  (.reg [] [.a 16 (.bin .add (.t 9) (.c (.int .i64 1))), .a 9 (.mv (.t 16))] [16] []))))
def ratio_Sum : R.Fn := ⟨1, [(.cell 2 3 true)], (.seq (.reg [] [.a 2 (.new [(.bool false), (.sl 1 []), (.sl 1 [])])] [] [])
  (.seq (.reg [] [.a 6 (.call F.ratio_Zero []), .a 3 (.new [(.bool false), (.sl 1 []), (.sl 1 [])]), .n (.st 3 (.t 3) (.t 6))] [6] [])
  (.seq (.seq (.reg [] [.a 7 (.mv (.t 0)), .a 8 (.ln (.t 7)), .a 9 (.mv (.c (.int .i64 0)))] [0] [])
  (.block 0 (.loop [] [] ratio_Sum.b0)))
  (.seq (.reg [] [.a 17 (.ld 3 true (.t 3)), .n (.st 3 (.t 2) (.t 17))] [3, 7, 8, 9, 10, 17] [3])
  .ret))))⟩
def ratio_Sum.hint : R.Hint := { kill := [(1, [6], []), (2, [0], []), (4, [10, 11, 12], []), (5, [5, 13, 14, 15], [5]), (6, [16], []), (7, [3, 7, 8, 9, 10, 17], [3])] }
theorem ratio_Sum.ok : cFn Tryd.prog ratio_Sum.hint Tryd.f50 = some ratio_Sum := by kernel_rfl
def kernel_Distance.b2 : R.C := (.seq (.reg [] [.a 49 (.bin .lss (.t 48) (.t 47))] [] [])
  (.seq (.cond (.t 49) .skip (.exit 2))
  (.seq (.block 3 (.seq (.reg [] [.a 50 (.mv (.t 48)), .a 11 (.mv (.t 50))] [49, 50] [])
  (.seq (.reg [] [.a 51 (.mv (.t 9)), .a 52 (.mv (.t 11)), .a 53 (.bin .shr (.t 51) (.t 52)), .a 54 (.bin .and (.t 53) (.c (.int .i64 1))), .a 55 (.bin .eql (.t 54) (.c (.int .i64 1)))] [51, 52, 53, 54] [])
  (.cond (.t 55) (.reg [42949672970] [.a 56 (.ld 3 true (.t 10)), .a 57 (.mv (.t 1)), .a 58 (.mv (.t 11)), .a 59 (.iA 3 (.t 57) (.t 58)), .a 60 (.ld 3 true (.t 59)), .a 61 (.call F.ratio_Add [(.t 56), (.t 60)]), .n (.st 3 (.t 10) (.t 61))] [11, 55, 56, 57, 58, 59, 60, 61] []) .skip))))
  (.reg [] [.a 62 (.bin .add (.t 48) (.c (.int .i64 1))), .a 48 (.mv (.t 62))] [11, 55, 62] []))))
def kernel_Distance.b0 : R.C := (.seq (.seq (.reg [] [.a 32 (.mv (.t 9)), .a 33 (.mv (.t 0)), .a 34 (.ln (.t 33)), .a 35 (.bin .sub (.t 34) (.c (.int .i64 1))), .a 36 (.bin .lss (.t 32) (.t 35))] [32, 33, 34, 35] [])
  (.cond (.t 36) .skip (.exit 0)))
  (.seq (.block 1 (.seq (.reg [] [.a 39 (.mv (.t 0)), .a 40 (.iA 3 (.t 39) (.c (.int .i64 0))), .a 41 (.ld 3 true (.t 40)), .a 42 (.mv (.t 0)), .a 43 (.mv (.t 9)), .a 44 (.iA 3 (.t 42) (.t 43)), .a 45 (.ld 3 true (.t 44)), .a 46 (.call F.ratio_Sub [(.t 41), (.t 45)]), .a 10 (.new [(.bool false), (.sl 1 []), (.sl 1 [])]), .n (.st 3 (.t 10) (.t 46))] [36, 39, 40, 41, 42, 43, 44, 45, 46] [])
  (.seq (.seq (.reg [] [.a 47 (.mv (.t 6)), .a 48 (.mv (.c (.int .i64 0)))] [] [])
  (.block 2 (.loop [] [] kernel_Distance.b2)))
  (.seq (.reg [] [.a 64 (.mv (.t 9)), .a 65 (.conv .u64 (.t 64)), .a 66 (.call F.bits_OnesCount [(.t 65)]), .a 67 (.mv (.t 6)), .a 68 (.call F.kernel_Weight [(.t 66), (.t 67)]), .a 63 (.mv (.t 68)), .a 69 (.ext (.t 63) 0), .a 70 (.ext (.t 63) 1), .a 12 (.new [(.bool false), (.sl 1 []), (.sl 1 [])]), .n (.st 3 (.t 12) (.t 69)), .a 13 (.mv (.t 70))] [13, 47, 48, 49, 63, 64, 65, 66, 67, 68, 69, 70] [])
  (.reg [34359738376, 42949672970, 51539607564] [.a 71 (.ld 3 true (.t 8)), .a 72 (.ld 3 true (.t 12)), .a 73 (.ld 3 true (.t 10)), .a 74 (.ld 3 true (.t 10)), .a 75 (.call F.ratio_Mul [(.t 73), (.t 74)]), .a 76 (.call F.ratio_Mul [(.t 72), (.t 75)]), .a 77 (.call F.ratio_Add [(.t 71), (.t 76)]), .n (.st 3 (.t 8) (.t 77))] [10, 12, 71, 72, 73, 74, 75, 76, 77] [10, 12])))))
  (.reg [] [.a 37 (.mv (.t 9)), .a 38 (.bin .add (.t 37) (.c (.int .i64 1))), .a 9 (.mv (.t 38))] [37, 38] [])))
def kernel_Distance : R.Fn := ⟨2, [(.cell 4 3 true), (.t 5)], (.seq (.reg [] [.a 4 (.new [(.bool false), (.sl 1 []), (.sl 1 [])]), .a 5 (.mv (.c (.int .i64 0)))] [5] [])
  (.seq (.reg [] [.a 15 (.mv (.t 0)), .a 16 (.call F.game_Players [(.t 15)]), .a 14 (.mv (.t 16)), .a 17 (.ext (.t 14) 0), .a 18 (.ext (.t 14) 1), .a 6 (.mv (.t 17)), .a 7 (.mv (.t 18))] [14, 15, 16, 17, 18] [])
  (.seq (.seq (.reg [] [.a 19 (.mv (.t 7)), .a 20 (.un .not (.t 19)), .a 21 (.mv (.t 20)), .g 22 21 false (.mv (.t 6)), .g 23 21 false (.bin .lss (.t 22) (.c (.int .i64 2))), .a 24 (.pick (.t 21) (.c (.bool true)) (.t 23))] [7, 19, 20, 21, 22, 23] [])
  (.cond (.t 24) (.seq (.reg [] [.a 25 (.bld [(.bool false), (.sl 1 []), (.sl 1 [])] []), .n (.st 3 (.t 4) (.t 25)), .a 5 (.mv (.c (.int .i64 1)))] [0, 1, 6, 24, 25] [])
  .ret) .skip))
  (.seq (.seq (.reg [] [.a 26 (.mv (.t 1)), .a 27 (.ln (.t 26)), .a 28 (.mv (.t 6)), .a 29 (.bin .neq (.t 27) (.t 28))] [24, 26, 27, 28] [])
  (.cond (.t 29) (.seq (.reg [] [.a 30 (.bld [(.bool false), (.sl 1 []), (.sl 1 [])] []), .n (.st 3 (.t 4) (.t 30)), .a 5 (.mv (.c (.int .i64 14)))] [0, 1, 6, 29, 30] [])
  .ret) .skip))
  (.seq (.reg [] [.a 31 (.call F.ratio_Zero []), .a 8 (.new [(.bool false), (.sl 1 []), (.sl 1 [])]), .n (.st 3 (.t 8) (.t 31))] [29, 31] [])
  (.seq (.seq (.reg [] [.a 9 (.mv (.c (.int .i64 1)))] [] [])
  (.block 0 (.loop [] [] kernel_Distance.b0)))
  (.seq (.reg [] [.a 78 (.ld 3 true (.t 8)), .n (.st 3 (.t 4) (.t 78)), .a 5 (.mv (.c (.int .i64 0)))] [0, 1, 6, 8, 9, 36, 78] [8])
  .ret)))))))⟩
def kernel_Distance.hint : R.Hint := { pub := [(15, [42949672970]), (18, [34359738376, 42949672970, 51539607564])], kill := [(0, [5], []), (1, [14, 15, 16, 17, 18], []), (2, [7, 19, 20, 21, 22, 23], []), (3, [0, 1, 6, 24, 25], []), (4, [24, 26, 27, 28], []), (5, [0, 1, 6, 29, 30], []), (6, [29, 31], []), (8, [32, 33, 34, 35], []), (9, [37, 38], []), (10, [36, 39, 40, 41, 42, 43, 44, 45, 46], []), (13, [49, 50], []), (14, [51, 52, 53, 54], []), (15, [11, 55, 56, 57, 58, 59, 60, 61], []), (16, [11, 55, 62], []), (17, [13, 47, 48, 49, 63, 64, 65, 66, 67, 68, 69, 70], []), (18, [10, 12, 71, 72, 73, 74, 75, 76, 77], [10, 12]), (19, [0, 1, 6, 8, 9, 36, 78], [8])] }
theorem kernel_Distance.ok : cFn Tryd.prog kernel_Distance.hint Tryd.f51 = some kernel_Distance := by kernel_rfl
def ratio_Clean : R.Fn := ⟨1, [(.cell 2 3 true)], (.seq (.reg [] [.a 1 (.box (.t 0)), .a 2 (.new [(.bool false), (.sl 1 []), (.sl 1 [])])] [0] [])
  (.seq (.reg [] [.a 4 (.fA 2 (.t 1)), .a 5 (.ld 1 false (.t 4)), .a 6 (.call F.nat_Clean [(.t 5)]), .a 3 (.mv (.t 6))] [4, 5, 6] [])
  (.seq (.seq (.reg [] [.a 7 (.mv (.t 3)), .a 8 (.ln (.t 7)), .a 9 (.bin .eql (.t 8) (.c (.int .i64 0)))] [7, 8] [])
  (.cond (.t 9) (.seq (.reg [] [.a 10 (.call F.ratio_Zero []), .n (.st 3 (.t 2) (.t 10))] [1, 3, 9, 10] [1])
  .ret) .skip))
  (.seq (.reg [] [.a 11 (.fA 0 (.t 1)), .a 12 (.ld 2 true (.t 11)), .a 13 (.call F.whole_Clean [(.t 12)]), .a 14 (.mv (.t 3)), .a 15 (.call F.ratio_form [(.t 13), (.t 14)]), .n (.st 3 (.t 2) (.t 15))] [1, 3, 9, 11, 12, 13, 14, 15] [1])
  .ret))))⟩
def ratio_Clean.hint : R.Hint := { kill := [(0, [0], []), (1, [4, 5, 6], []), (2, [7, 8], []), (3, [1, 3, 9, 10], [1]), (4, [1, 3, 9, 11, 12, 13, 14, 15], [1])] }
theorem ratio_Clean.ok : cFn Tryd.prog ratio_Clean.hint Tryd.f52 = some ratio_Clean := by kernel_rfl
def nat_Of : R.Fn := ⟨1, [(.t 2)], (.seq (.reg [] [.a 2 (.mv (.c (.sl 1 [])))] [2] [])
  (.seq (.reg [] [.a 3 (.mv (.t 0)), .a 4 (.bin .and (.t 3) (.c (.int .u64 4294967295))), .a 5 (.mv (.t 0)), .a 6 (.bin .shr (.t 5) (.c (.int .u64 32))), .a 7 (.lit 1 2 [(.int .u64 0), (.int .u64 0)] [(0, 1, (.t 4)), (1, 1, (.t 6))]), .a 8 (.call F.nat_trim [(.t 7)]), .a 2 (.mv (.t 8))] [0, 3, 4, 5, 6, 7, 8] [])
  .ret))⟩
def nat_Of.hint : R.Hint := { kill := [(0, [2], []), (1, [0, 3, 4, 5, 6, 7, 8], [])] }
theorem nat_Of.ok : cFn Tryd.prog nat_Of.hint Tryd.f53 = some nat_Of := by kernel_rfl
def ratio_Of : R.Fn := ⟨1, [(.cell 2 3 true)], (.seq (.reg [] [.a 2 (.new [(.bool false), (.sl 1 []), (.sl 1 [])])] [] [])
  (.seq (.reg [] [.a 3 (.mv (.t 0)), .a 4 (.call F.whole_Of [(.t 3)]), .a 5 (.call F.nat_Of [(.c (.int .u64 1))]), .a 6 (.bld [(.bool false), (.sl 1 []), (.sl 1 [])] [(0, 2, (.t 4)), (2, 1, (.t 5))]), .n (.st 3 (.t 2) (.t 6))] [0, 3, 4, 5, 6] [])
  .ret))⟩
def ratio_Of.hint : R.Hint := { kill := [(1, [0, 3, 4, 5, 6], [])] }
theorem ratio_Of.ok : cFn Tryd.prog ratio_Of.hint Tryd.f54 = some ratio_Of := by kernel_rfl
def dendronlaw05_number : R.Fn := ⟨1, [(.cell 2 3 true)], (.seq (.reg [] [.a 1 (.box (.t 0)), .a 2 (.new [(.bool false), (.sl 1 []), (.sl 1 [])])] [0] [])
  (.seq (.seq (.reg [] [.a 3 (.fA 0 (.t 1)), .a 4 (.fA 1 (.t 3)), .a 5 (.ld 1 false (.t 4)), .a 6 (.ln (.t 5)), .a 7 (.bin .gtr (.t 6) (.c (.int .i64 1)))] [3, 4, 5, 6] [])
  (.cond (.t 7) (.reg [] [.a 8 (.fA 0 (.t 1)), .a 9 (.fA 1 (.t 8)), .a 10 (.ld 1 false (.t 9)), .a 11 (.slc 1 (.t 10) none (some (.c (.int .i64 1)))), .a 12 (.fA 0 (.t 1)), .a 13 (.fA 1 (.t 12)), .n (.st 1 (.t 13) (.t 11))] [7, 8, 9, 10, 11, 12, 13] []) .skip))
  (.seq (.seq (.reg [] [.a 14 (.fA 2 (.t 1)), .a 15 (.ld 1 false (.t 14)), .a 16 (.ln (.t 15)), .a 17 (.bin .gtr (.t 16) (.c (.int .i64 1)))] [7, 14, 15, 16] [])
  (.cond (.t 17) (.reg [] [.a 18 (.fA 2 (.t 1)), .a 19 (.ld 1 false (.t 18)), .a 20 (.slc 1 (.t 19) none (some (.c (.int .i64 1)))), .a 21 (.fA 2 (.t 1)), .n (.st 1 (.t 21) (.t 20))] [17, 18, 19, 20, 21] []) .skip))
  (.seq (.reg [] [.a 22 (.ld 3 true (.t 1)), .n (.st 3 (.t 2) (.t 22))] [1, 17, 22] [1])
  .ret))))⟩
def dendronlaw05_number.hint : R.Hint := { kill := [(0, [0], []), (1, [3, 4, 5, 6], []), (2, [7, 8, 9, 10, 11, 12, 13], []), (3, [7, 14, 15, 16], []), (4, [17, 18, 19, 20, 21], []), (5, [1, 17, 22], [1])] }
theorem dendronlaw05_number.ok : cFn Tryd.prog dendronlaw05_number.hint Tryd.f55 = some dendronlaw05_number := by kernel_rfl
def ratio_Add : R.Fn := ⟨2, [(.cell 4 3 true)], (.seq (.reg [] [.a 2 (.box (.t 0)), .a 3 (.box (.t 1)), .a 4 (.new [(.bool false), (.sl 1 []), (.sl 1 [])])] [0, 1] [])
  (.seq (.reg [] [.a 5 (.ld 3 true (.t 2)), .a 6 (.call F.ratio_Clean [(.t 5)]), .a 7 (.ld 3 true (.t 3)), .a 8 (.call F.ratio_Clean [(.t 7)]), .n (.st 3 (.t 2) (.t 6)), .n (.st 3 (.t 3) (.t 8))] [5, 6, 7, 8] [])
  (.seq (.reg [] [.a 9 (.fA 0 (.t 2)), .a 10 (.ld 2 true (.t 9)), .a 11 (.ld 3 true (.t 3)), .a 12 (.call F.ratio_den [(.t 11)]), .a 13 (.call F.whole_Mul [(.t 10), (.t 12)]), .a 14 (.fA 0 (.t 3)), .a 15 (.ld 2 true (.t 14)), .a 16 (.ld 3 true (.t 2)), .a 17 (.call F.ratio_den [(.t 16)]), .a 18 (.call F.whole_Mul [(.t 15), (.t 17)]), .a 19 (.call F.whole_Add [(.t 13), (.t 18)]), .a 20 (.fA 2 (.t 2)), .a 21 (.ld 1 false (.t 20)), .a 22 (.fA 2 (.t 3)), .a 23 (.ld 1 false (.t 22)), .a 24 (.call F.nat_Mul [(.t 21), (.t 23)]), .a 25 (.call F.ratio_form [(.t 19), (.t 24)]), .n (.st 3 (.t 4) (.t 25))] [2, 3, 9, 10, 11, 12, 13, 14, 15, 16, 17, 18, 19, 20, 21, 22, 23, 24, 25] [2, 3])
  .ret)))⟩
def ratio_Add.hint : R.Hint := { kill := [(0, [0, 1], []), (1, [5, 6, 7, 8], []), (2, [2, 3, 9, 10, 11, 12, 13, 14, 15, 16, 17, 18, 19, 20, 21, 22, 23, 24, 25], [2, 3])] }
theorem ratio_Add.ok : cFn Tryd.prog ratio_Add.hint Tryd.f56 = some ratio_Add := by kernel_rfl
def ratio_Mul : R.Fn := ⟨2, [(.cell 4 3 true)], (.seq (.reg [] [.a 2 (.box (.t 0)), .a 3 (.box (.t 1)), .a 4 (.new [(.bool false), (.sl 1 []), (.sl 1 [])])] [0, 1] [])
  (.seq (.reg [] [.a 5 (.ld 3 true (.t 2)), .a 6 (.call F.ratio_Clean [(.t 5)]), .a 7 (.ld 3 true (.t 3)), .a 8 (.call F.ratio_Clean [(.t 7)]), .n (.st 3 (.t 2) (.t 6)), .n (.st 3 (.t 3) (.t 8))] [5, 6, 7, 8] [])
  (.seq (.reg [] [.a 9 (.fA 0 (.t 2)), .a 10 (.ld 2 true (.t 9)), .a 11 (.fA 0 (.t 3)), .a 12 (.ld 2 true (.t 11)), .a 13 (.call F.whole_Mul [(.t 10), (.t 12)]), .a 14 (.fA 2 (.t 2)), .a 15 (.ld 1 false (.t 14)), .a 16 (.fA 2 (.t 3)), .a 17 (.ld 1 false (.t 16)), .a 18 (.call F.nat_Mul [(.t 15), (.t 17)]), .a 19 (.call F.ratio_form [(.t 13), (.t 18)]), .n (.st 3 (.t 4) (.t 19))] [2, 3, 9, 10, 11, 12, 13, 14, 15, 16, 17, 18, 19] [2, 3])
  .ret)))⟩
def ratio_Mul.hint : R.Hint := { kill := [(0, [0, 1], []), (1, [5, 6, 7, 8], []), (2, [2, 3, 9, 10, 11, 12, 13, 14, 15, 16, 17, 18, 19], [2, 3])] }
theorem ratio_Mul.ok : cFn Tryd.prog ratio_Mul.hint Tryd.f57 = some ratio_Mul := by kernel_rfl
def dendron_solve_reducer_run.b0 : R.C := (.seq (.reg [] [.a 14 (.bin .lss (.t 13) (.t 12))] [] [])
  (.seq (.cond (.t 14) .skip (.exit 0))
  (.seq (.block 1 (.seq (.reg [] [.a 15 (.mv (.t 13)), .a 2 (.mv (.t 15))] [14, 15] [])
  (.seq (.reg [] [.a 16 (.mv (.t 0)), .a 17 (.nck (.t 16)), .a 18 (.fA 2 (.t 17)), .a 19 (.ldr (.t 18)), .a 20 (.ln (.t 19)), .a 3 (.mv (.t 20))] [16, 17, 18, 19, 20] [])
  (.seq (.reg [] [.a 21 (.mv (.t 0)), .a 22 (.mv (.t 3)), .a 23 (.mv (.t 2)), .a 24 (.callh F.dendron_solve_reducer_pivot [(true, (.t 21)), (false, (.t 22)), (false, (.t 23))]), .a 4 (.mv (.t 24))] [21, 22, 23, 24] [])
  (.seq (.seq (.reg [] [.a 25 (.mv (.t 4)), .a 26 (.bin .lss (.t 25) (.c (.int .i64 0)))] [25] [])
  (.cond (.t 26) (.exit 1) .skip))
  (.seq (.seq (.reg [] [.a 27 (.mv (.t 4)), .a 28 (.mv (.t 3)), .a 29 (.bin .neq (.t 27) (.t 28))] [26, 27, 28] [])
  (.cond (.t 29) (.seq (.reg [] [.a 30 (.mv (.t 0)), .a 31 (.nck (.t 30)), .a 32 (.fA 0 (.t 31)), .a 33 (.ldr (.t 32)), .a 34 (.mv (.t 4)), .a 35 (.mv (.t 0)), .a 36 (.nck (.t 35)), .a 37 (.fA 0 (.t 36)), .a 38 (.ldr (.t 37)), .a 39 (.mv (.t 3)), .a 40 (.mv (.t 0)), .a 41 (.nck (.t 40)), .a 42 (.fA 0 (.t 41)), .a 43 (.ldr (.t 42)), .a 44 (.mv (.t 3)), .a 45 (.iA 1 (.t 43) (.t 44)), .a 46 (.ldr (.t 45)), .a 47 (.mv (.t 0)), .a 48 (.nck (.t 47)), .a 49 (.fA 0 (.t 48)), .a 50 (.ldr (.t 49)), .a 51 (.mv (.t 4)), .a 52 (.iA 1 (.t 50) (.t 51)), .a 53 (.ldr (.t 52)), .a 54 (.iA 1 (.t 33) (.t 34)), .n (.st 1 (.t 54) (.t 46)), .a 55 (.iA 1 (.t 38) (.t 39)), .n (.st 1 (.t 55) (.t 53))] [4, 29, 30, 31, 32, 33, 34, 35, 36, 37, 38, 39, 40, 41, 42, 43, 44, 45, 46, 47, 48, 49, 50, 51, 52, 53, 54, 55] [])
  (.reg [] [.a 56 (.mv (.t 0)), .a 57 (.mv (.t 0)), .a 58 (.nck (.t 57)), .a 59 (.fA 3 (.t 58)), .a 60 (.ld 1 false (.t 59)), .a 61 (.un .not (.t 60)), .a 62 (.nck (.t 56)), .a 63 (.fA 3 (.t 62)), .n (.st 1 (.t 63) (.t 61))] [56, 57, 58, 59, 60, 61, 62, 63] [])) .skip))
  (.seq (.reg [] [.a 64 (.mv (.t 0)), .a 65 (.mv (.t 3)), .a 66 (.mv (.t 2)), .a 67 (.callh F.dendron_solve_reducer_clear [(true, (.t 64)), (false, (.t 65)), (false, (.t 66))])] [3, 4, 29, 64, 65, 66, 67] [])
  (.reg [] [.a 68 (.mv (.t 0)), .a 69 (.mv (.t 0)), .a 70 (.nck (.t 69)), .a 71 (.fA 2 (.t 70)), .a 72 (.ldr (.t 71)), .a 73 (.mv (.t 2)), .a 74 (.lit 1 1 [(.int .i64 0)] [(0, 1, (.t 73))]), .a 75 (.apph 1 8 (.t 72) (.t 74)), .a 76 (.nck (.t 68)), .a 77 (.fA 2 (.t 76)), .n (.st 1 (.t 77) (.t 75))] [2, 68, 69, 70, 71, 72, 73, 74, 75, 76, 77] []))))))))
  (.reg [] [.a 78 (.bin .add (.t 13) (.c (.int .i64 1))), .a 13 (.mv (.t 78))] [2, 3, 4, 26, 78] []))))
def dendron_solve_reducer_run : R.Fn := ⟨1, [], (.seq (.reg [] [.a 5 (.mv (.t 0)), .a 6 (.callc F.ratio_One []), .a 7 (.nck (.t 5)), .a 8 (.fA 4 (.t 7)), .n (.st 3 (.t 8) (.t 6))] [5, 6, 7, 8] [])
  (.seq (.reg [] [.a 9 (.mv (.t 0)), .a 10 (.nck (.t 9)), .a 11 (.fA 1 (.t 10)), .a 12 (.ld 1 false (.t 11)), .a 13 (.mv (.c (.int .i64 0)))] [9, 10, 11] [])
  (.block 0 (.loop [] [] dendron_solve_reducer_run.b0))))⟩
def dendron_solve_reducer_run.hint : R.Hint := { kill := [(0, [5, 6, 7, 8], []), (1, [9, 10, 11], []), (3, [14, 15], []), (4, [16, 17, 18, 19, 20], []), (5, [21, 22, 23, 24], []), (6, [25], []), (7, [26, 27, 28], []), (8, [4, 29, 30, 31, 32, 33, 34, 35, 36, 37, 38, 39, 40, 41, 42, 43, 44, 45, 46, 47, 48, 49, 50, 51, 52, 53, 54, 55], []), (9, [56, 57, 58, 59, 60, 61, 62, 63], []), (10, [3, 4, 29, 64, 65, 66, 67], []), (11, [2, 68, 69, 70, 71, 72, 73, 74, 75, 76, 77], []), (12, [2, 3, 4, 26, 78], [])], heap := true, callh := [(24, [true, false, false]), (67, [true, false, false])], apph := [75] }
theorem dendron_solve_reducer_run.ok : cFn Tryd.prog dendron_solve_reducer_run.hint Tryd.f58 = some dendron_solve_reducer_run := by kernel_rfl
end Go.Proofs.YtbghnfhfekfenaaDoor
