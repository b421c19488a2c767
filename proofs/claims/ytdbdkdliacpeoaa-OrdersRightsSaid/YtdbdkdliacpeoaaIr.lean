/- The interpreter's text of every function of the seat, and that it is the compiler's. -/
import Derived.Test.YtdbdkdliacpeoaaRb
import Derived.Test.YtdbdkdliacpeoaaChecked
set_option linter.unusedVariables false
set_option maxRecDepth 100000
namespace Go.Proofs.Ytdbdkdliacpeoaa
open Go Go.Proofs.R
def F.dendronlaw21_OrdersNexts : Nat := 3
def F.dendronlaw22_OwenRights : Nat := 4
def F.dendronlaw21_OrdersFirsts : Nat := 5
def F.dendronlaw21_OrdersAll : Nat := 6
def F.dendronlaw21_OrdersRights : Nat := 7
def F.dendronlaw21_few : Nat := 8
def F.orders_Next : Nat := 9
def F.dendronlaw21_same : Nat := 10
def F.dendronlaw21_alike : Nat := 11
def F.dendronlaw21_less : Nat := 12
def F.dendronlaw21_awake : Nat := 13
def F.dendronlaw22_few : Nat := 14
def F.owen_Right : Nat := 15
def F.dendronlaw22_awake : Nat := 16
def F.owen_Alone : Nat := 17
def F.dendronlaw22_right : Nat := 18
def F.dendronlaw22_two : Nat := 19
def F.orders_First : Nat := 20
def F.orders_All : Nat := 21
def F.dendronlaw21_right : Nat := 22
def F.orders_Back : Nat := 23
def F.orders_Right : Nat := 24
def F.dendronref19_In : Nat := 25
def F.runtime_boundsError_Error : Nat := 26
def F.runtime_boundsError_RuntimeError : Nat := 27
def F.runtime_errorString_Error : Nat := 28
def F.runtime_errorString_RuntimeError : Nat := 29
def F.runtime_plainError_Error : Nat := 30
def F.runtime_plainError_RuntimeError : Nat := 31
def F.runtime_errorAddressString_Error : Nat := 32
def F.runtime_errorAddressString_RuntimeError : Nat := 33
def F.runtime_TypeAssertionError_Error : Nat := 34
def F.runtime_TypeAssertionError_RuntimeError : Nat := 35
def F.runtime_PanicNilError_Error : Nat := 36
def F.runtime_PanicNilError_RuntimeError : Nat := 37
def F.internal_abi_Type_Align : Nat := 38
def F.internal_runtime_maps_unhashableTypeError_Error : Nat := 39
def F.internal_runtime_maps_unhashableTypeError_RuntimeError : Nat := 40
def F.dendron_api_Errno_Error : Nat := 41
def F.internal_abi_Kind_String : Nat := 42
def dendronlaw21_OrdersNexts : R.Fn := ⟨2, [(.t 4)], (.seq (.reg [] [.a 4 (.mv (.c (.bool false)))] [4] [])
  (.seq (.reg [] [.a 9 (.mv (.t 0)), .a 10 (.call F.dendronlaw21_few [(.t 9)]), .a 0 (.mv (.t 10))] [9, 10] [])
  (.seq (.reg [] [.a 11 (.mv (.t 1)), .a 12 (.call F.dendronlaw21_few [(.t 11)]), .a 1 (.mv (.t 12))] [11, 12] [])
  (.seq (.reg [] [.a 13 (.lito 1 0 [] []), .a 14 (.mv (.t 0)), .a 15 (.app 1 8 (.t 13) (.t 14)), .a 5 (.mv (.t 15))] [13, 14, 15] [])
  (.seq (.reg [] [.a 17 (.mv (.t 0)), .a 18 (.call F.orders_Next [(.t 17)]), .a 16 (.mv (.t 18)), .a 19 (.ext (.t 16) 0), .a 20 (.ext (.t 16) 1), .a 6 (.mv (.t 19)), .a 7 (.mv (.t 20))] [16, 17, 18, 19, 20] [])
  (.seq (.seq (.reg [5] [.a 21 (.mv (.t 0)), .a 22 (.mv (.t 5)), .a 23 (.call F.dendronlaw21_same [(.t 21), (.t 22)]), .a 24 (.un .not (.t 23))] [5, 21, 22, 23] [13])
  (.cond (.t 24) (.seq (.reg [] [.a 4 (.mv (.c (.bool false)))] [0, 1, 6, 7, 24] [])
  .ret) .skip))
  (.seq (.reg [] [.a 25 (.mv (.t 0)), .a 26 (.mv (.t 1)), .a 27 (.call F.dendronlaw21_alike [(.t 25), (.t 26)]), .a 28 (.mv (.t 27)), .g 29 28 true (.mv (.t 0)), .g 30 28 true (.mv (.t 1)), .g 31 28 true (.call F.dendronlaw21_less [(.t 29), (.t 30)]), .a 32 (.pick (.t 28) (.t 31) (.c (.bool false))), .a 8 (.mv (.t 32))] [24, 25, 26, 27, 28, 29, 30, 31, 32] [])
  (.seq (.seq (.reg [] [.a 33 (.mv (.t 7)), .a 34 (.un .not (.t 33))] [7, 33] [])
  (.cond (.t 34) (.seq (.reg [] [.a 35 (.mv (.t 6)), .a 36 (.ln (.t 35)), .a 37 (.bin .eql (.t 36) (.c (.int .i64 0))), .a 38 (.mv (.t 37)), .g 39 38 true (.mv (.t 8)), .g 40 38 true (.un .not (.t 39)), .a 41 (.pick (.t 38) (.t 40) (.c (.bool false))), .a 42 (.mv (.t 41)), .g 43 42 true (.call F.dendronlaw21_awake []), .a 44 (.pick (.t 42) (.t 43) (.c (.bool false))), .a 4 (.mv (.t 44))] [0, 1, 6, 8, 34, 35, 36, 37, 38, 39, 40, 41, 42, 43, 44] [])
  .ret) .skip))
  (.seq (.reg [] [.a 45 (.mv (.t 0)), .a 46 (.mv (.t 6)), .a 47 (.call F.dendronlaw21_alike [(.t 45), (.t 46)]), .a 48 (.mv (.t 47)), .g 49 48 true (.mv (.t 0)), .g 50 48 true (.mv (.t 6)), .g 51 48 true (.call F.dendronlaw21_less [(.t 49), (.t 50)]), .a 52 (.pick (.t 48) (.t 51) (.c (.bool false))), .a 53 (.mv (.t 52)), .g 54 53 true (.mv (.t 8)), .g 55 53 true (.un .not (.t 54)), .g 56 53 true (.mv (.t 55)), .g 57 56 false (.mv (.t 1)), .g 58 56 false (.mv (.t 6)), .g 59 56 false (.call F.dendronlaw21_less [(.t 57), (.t 58)]), .g 60 56 false (.un .not (.t 59)), .g 61 53 true (.pick (.t 56) (.c (.bool true)) (.t 60)), .a 62 (.pick (.t 53) (.t 61) (.c (.bool false))), .a 63 (.mv (.t 62)), .g 64 63 true (.call F.dendronlaw21_awake []), .a 65 (.pick (.t 63) (.t 64) (.c (.bool false))), .a 4 (.mv (.t 65))] [0, 1, 6, 8, 34, 45, 46, 47, 48, 49, 50, 51, 52, 53, 54, 55, 56, 57, 58, 59, 60, 61, 62, 63, 64, 65] [])
  .ret)))))))))⟩
def dendronlaw21_OrdersNexts.hint : R.Hint := { lit := [13], pub := [(5, [5])], kill := [(0, [4], []), (1, [9, 10], []), (2, [11, 12], []), (3, [13, 14, 15], []), (4, [16, 17, 18, 19, 20], []), (5, [5, 21, 22, 23], [13]), (6, [0, 1, 6, 7, 24], []), (7, [24, 25, 26, 27, 28, 29, 30, 31, 32], []), (8, [7, 33], []), (9, [0, 1, 6, 8, 34, 35, 36, 37, 38, 39, 40, 41, 42, 43, 44], []), (10, [0, 1, 6, 8, 34, 45, 46, 47, 48, 49, 50, 51, 52, 53, 54, 55, 56, 57, 58, 59, 60, 61, 62, 63, 64, 65], [])] }
theorem dendronlaw21_OrdersNexts.ok : cFn Try.prog dendronlaw21_OrdersNexts.hint Try.f3 = some dendronlaw21_OrdersNexts := by kernel_rfl
def dendronlaw22_OwenRights.b0 : R.C := (.seq (.seq (.reg [] [.a 36 (.mv (.t 7)), .a 37 (.mv (.t 1)), .a 38 (.bin .lss (.t 36) (.t 37))] [36, 37] [])
  (.cond (.t 38) .skip (.exit 0)))
  (.seq (.block 1 (.seq (.reg [] [.a 41 (.mv (.t 6)), .a 42 (.mv (.t 7)), .a 43 (.iA 1 (.t 41) (.t 42)), .a 44 (.ld 1 false (.t 43)), .a 45 (.mv (.t 7)), .a 46 (.call F.dendronlaw22_two [(.t 45)]), .a 47 (.bin .neq (.t 44) (.t 46))] [38, 41, 42, 43, 44, 45, 46] [])
  (.cond (.t 47) (.seq (.reg [] [.a 4 (.mv (.c (.bool false)))] [0, 1, 5, 6, 7, 47] [])
  .ret) .skip)))
  (.reg [] [.a 39 (.mv (.t 7)), .a 40 (.bin .add (.t 39) (.c (.int .i64 1))), .a 7 (.mv (.t 40))] [39, 40, 47] [])))
def dendronlaw22_OwenRights : R.Fn := ⟨2, [(.t 4)], (.seq (.reg [] [.a 4 (.mv (.c (.bool false)))] [4] [])
  (.seq (.reg [] [.a 8 (.mv (.t 0)), .a 9 (.call F.dendronlaw22_few [(.t 8)]), .a 0 (.mv (.t 9))] [8, 9] [])
  (.seq (.reg [] [.a 10 (.mv (.t 0)), .a 11 (.mv (.t 1)), .a 12 (.call F.owen_Right [(.t 10), (.t 11)]), .a 5 (.mv (.t 12))] [10, 11, 12] [])
  (.seq (.seq (.reg [] [.a 13 (.mv (.t 1)), .a 14 (.bin .lss (.t 13) (.c (.int .i64 0))), .a 15 (.mv (.t 14)), .g 16 15 false (.mv (.t 1)), .g 17 15 false (.bin .gtr (.t 16) (.c (.int .i64 12))), .a 18 (.pick (.t 15) (.c (.bool true)) (.t 17))] [13, 14, 15, 16, 17] [])
  (.cond (.t 18) (.seq (.reg [] [.a 19 (.mv (.t 5)), .a 20 (.un .not (.t 19)), .a 21 (.mv (.t 20)), .g 22 21 true (.call F.dendronlaw22_awake []), .a 23 (.pick (.t 21) (.t 22) (.c (.bool false))), .a 4 (.mv (.t 23))] [0, 1, 5, 18, 19, 20, 21, 22, 23] [])
  .ret) .skip))
  (.seq (.reg [] [.a 24 (.mv (.t 1)), .a 25 (.call F.owen_Alone [(.t 24)]), .a 6 (.mv (.t 25))] [18, 24, 25] [])
  (.seq (.seq (.reg [] [.a 26 (.mv (.t 6)), .a 27 (.ln (.t 26)), .a 28 (.mv (.t 1)), .a 29 (.bin .neq (.t 27) (.t 28)), .a 30 (.mv (.t 29)), .g 31 30 false (.mv (.t 6)), .g 32 30 false (.mv (.t 1)), .g 33 30 false (.call F.dendronlaw22_right [(.t 31), (.t 32)]), .g 34 30 false (.un .not (.t 33)), .a 35 (.pick (.t 30) (.c (.bool true)) (.t 34))] [26, 27, 28, 29, 30, 31, 32, 33, 34] [])
  (.cond (.t 35) (.seq (.reg [] [.a 4 (.mv (.c (.bool false)))] [0, 1, 5, 6, 35] [])
  .ret) .skip))
  (.seq (.seq (.reg [] [.a 7 (.mv (.c (.int .i64 0)))] [35] [])
  (.block 0 (.loop [] [] dendronlaw22_OwenRights.b0)))
  (.seq (.reg [] [.a 48 (.mv (.t 5)), .a 49 (.mv (.t 0)), .a 50 (.mv (.t 1)), .a 51 (.call F.dendronlaw22_right [(.t 49), (.t 50)]), .a 52 (.beq false (.t 48) (.t 51)), .a 53 (.mv (.t 52)), .g 54 53 true (.call F.dendronlaw22_awake []), .a 55 (.pick (.t 53) (.t 54) (.c (.bool false))), .a 4 (.mv (.t 55))] [0, 1, 5, 6, 7, 38, 48, 49, 50, 51, 52, 53, 54, 55] [])
  .ret))))))))⟩
def dendronlaw22_OwenRights.hint : R.Hint := { kill := [(0, [4], []), (1, [8, 9], []), (2, [10, 11, 12], []), (3, [13, 14, 15, 16, 17], []), (4, [0, 1, 5, 18, 19, 20, 21, 22, 23], []), (5, [18, 24, 25], []), (6, [26, 27, 28, 29, 30, 31, 32, 33, 34], []), (7, [0, 1, 5, 6, 35], []), (8, [35], []), (9, [36, 37], []), (10, [39, 40, 47], []), (11, [38, 41, 42, 43, 44, 45, 46], []), (12, [0, 1, 5, 6, 7, 47], []), (13, [0, 1, 5, 6, 7, 38, 48, 49, 50, 51, 52, 53, 54, 55], [])] }
theorem dendronlaw22_OwenRights.ok : cFn Try.prog dendronlaw22_OwenRights.hint Try.f4 = some dendronlaw22_OwenRights := by kernel_rfl
def dendronlaw21_OrdersFirsts.b0 : R.C := (.seq (.seq (.reg [] [.a 10 (.mv (.t 4)), .a 11 (.mv (.t 3)), .a 12 (.ln (.t 11)), .a 13 (.bin .lss (.t 10) (.t 12))] [10, 11, 12] [])
  (.cond (.t 13) .skip (.exit 0)))
  (.seq (.block 1 (.seq (.reg [] [.a 16 (.mv (.t 3)), .a 17 (.mv (.t 4)), .a 18 (.iA 1 (.t 16) (.t 17)), .a 19 (.ld 1 false (.t 18)), .a 20 (.mv (.t 4)), .a 21 (.bin .neq (.t 19) (.t 20))] [13, 16, 17, 18, 19, 20] [])
  (.cond (.t 21) (.seq (.reg [] [.a 2 (.mv (.c (.bool false)))] [0, 3, 4, 21] [])
  .ret) .skip)))
  (.reg [] [.a 14 (.mv (.t 4)), .a 15 (.bin .add (.t 14) (.c (.int .i64 1))), .a 4 (.mv (.t 15))] [14, 15, 21] [])))
def dendronlaw21_OrdersFirsts : R.Fn := ⟨1, [(.t 2)], (.seq (.reg [] [.a 2 (.mv (.c (.bool false)))] [2] [])
  (.seq (.seq (.reg [] [.a 5 (.mv (.t 0)), .a 6 (.bin .gtr (.t 5) (.c (.int .i64 100)))] [5] [])
  (.cond (.t 6) (.seq (.reg [] [.a 7 (.call F.dendronlaw21_awake []), .a 2 (.mv (.t 7))] [0, 6, 7] [])
  .ret) .skip))
  (.seq (.reg [] [.a 8 (.mv (.t 0)), .a 9 (.call F.orders_First [(.t 8)]), .a 3 (.mv (.t 9))] [6, 8, 9] [])
  (.seq (.seq (.reg [] [.a 4 (.mv (.c (.int .i64 0)))] [] [])
  (.block 0 (.loop [] [] dendronlaw21_OrdersFirsts.b0)))
  (.seq (.reg [] [.a 22 (.mv (.t 3)), .a 23 (.ln (.t 22)), .a 24 (.mv (.t 0)), .a 25 (.bin .eql (.t 23) (.t 24)), .a 26 (.mv (.t 25)), .g 27 26 false (.mv (.t 0)), .g 28 26 false (.bin .lss (.t 27) (.c (.int .i64 0))), .g 29 26 false (.mv (.t 28)), .g 30 29 true (.mv (.t 3)), .g 31 29 true (.ln (.t 30)), .g 32 29 true (.bin .eql (.t 31) (.c (.int .i64 0))), .g 33 26 false (.pick (.t 29) (.t 32) (.c (.bool false))), .a 34 (.pick (.t 26) (.c (.bool true)) (.t 33)), .a 35 (.mv (.t 34)), .g 36 35 true (.call F.dendronlaw21_awake []), .a 37 (.pick (.t 35) (.t 36) (.c (.bool false))), .a 2 (.mv (.t 37))] [0, 3, 4, 13, 22, 23, 24, 25, 26, 27, 28, 29, 30, 31, 32, 33, 34, 35, 36, 37] [])
  .ret)))))⟩
def dendronlaw21_OrdersFirsts.hint : R.Hint := { kill := [(0, [2], []), (1, [5], []), (2, [0, 6, 7], []), (3, [6, 8, 9], []), (5, [10, 11, 12], []), (6, [14, 15, 21], []), (7, [13, 16, 17, 18, 19, 20], []), (8, [0, 3, 4, 21], []), (9, [0, 3, 4, 13, 22, 23, 24, 25, 26, 27, 28, 29, 30, 31, 32, 33, 34, 35, 36, 37], [])] }
theorem dendronlaw21_OrdersFirsts.ok : cFn Try.prog dendronlaw21_OrdersFirsts.hint Try.f5 = some dendronlaw21_OrdersFirsts := by kernel_rfl
def dendronlaw21_OrdersAll.b0 : R.C := (.seq (.seq (.reg [] [.a 36 (.mv (.t 6)), .a 37 (.mv (.t 0)), .a 38 (.bin .leq (.t 36) (.t 37))] [36, 37] [])
  (.cond (.t 38) .skip (.exit 0)))
  (.seq (.block 1 (.reg [] [.a 41 (.mv (.t 5)), .a 42 (.mv (.t 6)), .a 43 (.bin .mul (.t 41) (.t 42)), .a 5 (.mv (.t 43))] [38, 41, 42, 43] []))
  (.reg [] [.a 39 (.mv (.t 6)), .a 40 (.bin .add (.t 39) (.c (.int .i64 1))), .a 6 (.mv (.t 40))] [39, 40] [])))
def dendronlaw21_OrdersAll.b2 : R.C := (.seq (.seq (.reg [] [.a 61 (.mv (.t 7)), .a 62 (.mv (.t 3)), .a 63 (.ln (.t 62)), .a 64 (.bin .lss (.t 61) (.t 63))] [61, 62, 63] [])
  (.cond (.t 64) .skip (.exit 2)))
  (.seq (.block 3 (.seq (.reg [] [.a 67 (.mv (.t 3)), .a 68 (.mv (.t 7)), .a 69 (.iA 1 (.t 67) (.t 68)), .a 70 (.ld 1 false (.t 69)), .a 71 (.mv (.t 0)), .a 72 (.call F.dendronlaw21_right [(.t 70), (.t 71)]), .a 73 (.un .not (.t 72)), .a 74 (.mv (.t 73)), .g 75 74 false (.mv (.t 7)), .g 76 74 false (.bin .gtr (.t 75) (.c (.int .i64 0))), .g 77 74 false (.mv (.t 76)), .g 78 77 true (.mv (.t 3)), .g 79 77 true (.mv (.t 7)), .g 80 77 true (.bin .sub (.t 79) (.c (.int .i64 1))), .g 81 77 true (.iA 1 (.t 78) (.t 80)), .g 82 77 true (.ld 1 false (.t 81)), .g 83 77 true (.mv (.t 3)), .g 84 77 true (.mv (.t 7)), .g 85 77 true (.iA 1 (.t 83) (.t 84)), .g 86 77 true (.ld 1 false (.t 85)), .g 87 77 true (.call F.dendronlaw21_less [(.t 82), (.t 86)]), .g 88 77 true (.un .not (.t 87)), .g 89 74 false (.pick (.t 77) (.t 88) (.c (.bool false))), .a 90 (.pick (.t 74) (.c (.bool true)) (.t 89))] [64, 67, 68, 69, 70, 71, 72, 73, 74, 75, 76, 77, 78, 79, 80, 81, 82, 83, 84, 85, 86, 87, 88, 89] [])
  (.cond (.t 90) (.seq (.reg [] [.a 2 (.mv (.c (.bool false)))] [0, 3, 7, 90] [])
  .ret) .skip)))
  (.reg [] [.a 65 (.mv (.t 7)), .a 66 (.bin .add (.t 65) (.c (.int .i64 1))), .a 7 (.mv (.t 66))] [65, 66, 90] [])))
def dendronlaw21_OrdersAll : R.Fn := ⟨1, [(.t 2)], (.seq (.reg [] [.a 2 (.mv (.c (.bool false)))] [2] [])
  (.seq (.seq (.reg [] [.a 8 (.mv (.t 0)), .a 9 (.bin .gtr (.t 8) (.c (.int .i64 5))), .a 10 (.mv (.t 9)), .g 11 10 true (.mv (.t 0)), .g 12 10 true (.bin .leq (.t 11) (.c (.int .i64 7))), .a 13 (.pick (.t 10) (.t 12) (.c (.bool false)))] [8, 9, 10, 11, 12] [])
  (.cond (.t 13) (.seq (.reg [] [.a 14 (.call F.dendronlaw21_awake []), .a 2 (.mv (.t 14))] [0, 13, 14] [])
  .ret) .skip))
  (.seq (.reg [] [.a 16 (.mv (.t 0)), .a 17 (.call F.orders_All [(.t 16)]), .a 15 (.mv (.t 17)), .a 18 (.ext (.t 15) 0), .a 19 (.ext (.t 15) 1), .a 3 (.mv (.t 18)), .a 4 (.mv (.t 19))] [13, 15, 16, 17, 18, 19] [])
  (.seq (.seq (.reg [] [.a 20 (.mv (.t 0)), .a 21 (.bin .lss (.t 20) (.c (.int .i64 0))), .a 22 (.mv (.t 21)), .g 23 22 false (.mv (.t 0)), .g 24 22 false (.bin .gtr (.t 23) (.c (.int .i64 7))), .a 25 (.pick (.t 22) (.c (.bool true)) (.t 24))] [20, 21, 22, 23, 24] [])
  (.cond (.t 25) (.seq (.reg [] [.a 26 (.mv (.t 3)), .a 27 (.ln (.t 26)), .a 28 (.bin .eql (.t 27) (.c (.int .i64 0))), .a 29 (.mv (.t 28)), .g 30 29 true (.mv (.t 4)), .g 31 29 true (.bin .eql (.t 30) (.c (.int .i64 16))), .a 32 (.pick (.t 29) (.t 31) (.c (.bool false))), .a 33 (.mv (.t 32)), .g 34 33 true (.call F.dendronlaw21_awake []), .a 35 (.pick (.t 33) (.t 34) (.c (.bool false))), .a 2 (.mv (.t 35))] [0, 3, 4, 25, 26, 27, 28, 29, 30, 31, 32, 33, 34, 35] [])
  .ret) .skip))
  (.seq (.reg [] [.a 5 (.mv (.c (.int .i64 1)))] [25] [])
  (.seq (.seq (.reg [] [.a 6 (.mv (.c (.int .i64 1)))] [] [])
  (.block 0 (.loop [] [] dendronlaw21_OrdersAll.b0)))
  (.seq (.seq (.reg [] [.a 44 (.mv (.t 4)), .a 45 (.bin .neq (.t 44) (.c (.int .i64 0))), .a 46 (.mv (.t 45)), .g 47 46 false (.mv (.t 3)), .g 48 46 false (.ln (.t 47)), .g 49 46 false (.mv (.t 5)), .g 50 46 false (.bin .neq (.t 48) (.t 49)), .a 51 (.pick (.t 46) (.c (.bool true)) (.t 50)), .a 52 (.mv (.t 51)), .g 53 52 false (.mv (.t 3)), .g 54 52 false (.iA 1 (.t 53) (.c (.int .i64 0))), .g 55 52 false (.ld 1 false (.t 54)), .g 56 52 false (.mv (.t 0)), .g 57 52 false (.call F.orders_First [(.t 56)]), .g 58 52 false (.call F.dendronlaw21_same [(.t 55), (.t 57)]), .g 59 52 false (.un .not (.t 58)), .a 60 (.pick (.t 52) (.c (.bool true)) (.t 59))] [4, 5, 6, 38, 44, 45, 46, 47, 48, 49, 50, 51, 52, 53, 54, 55, 56, 57, 58, 59] [])
  (.cond (.t 60) (.seq (.reg [] [.a 2 (.mv (.c (.bool false)))] [0, 3, 60] [])
  .ret) .skip))
  (.seq (.seq (.reg [] [.a 7 (.mv (.c (.int .i64 0)))] [60] [])
  (.block 2 (.loop [] [] dendronlaw21_OrdersAll.b2)))
  (.seq (.reg [] [.a 91 (.call F.dendronlaw21_awake []), .a 2 (.mv (.t 91))] [0, 3, 7, 64, 91] [])
  .ret)))))))))⟩
def dendronlaw21_OrdersAll.hint : R.Hint := { kill := [(0, [2], []), (1, [8, 9, 10, 11, 12], []), (2, [0, 13, 14], []), (3, [13, 15, 16, 17, 18, 19], []), (4, [20, 21, 22, 23, 24], []), (5, [0, 3, 4, 25, 26, 27, 28, 29, 30, 31, 32, 33, 34, 35], []), (6, [25], []), (8, [36, 37], []), (9, [39, 40], []), (10, [38, 41, 42, 43], []), (11, [4, 5, 6, 38, 44, 45, 46, 47, 48, 49, 50, 51, 52, 53, 54, 55, 56, 57, 58, 59], []), (12, [0, 3, 60], []), (13, [60], []), (14, [61, 62, 63], []), (15, [65, 66, 90], []), (16, [64, 67, 68, 69, 70, 71, 72, 73, 74, 75, 76, 77, 78, 79, 80, 81, 82, 83, 84, 85, 86, 87, 88, 89], []), (17, [0, 3, 7, 90], []), (18, [0, 3, 7, 64, 91], [])] }
theorem dendronlaw21_OrdersAll.ok : cFn Try.prog dendronlaw21_OrdersAll.hint Try.f6 = some dendronlaw21_OrdersAll := by kernel_rfl
def dendronlaw21_OrdersRights.b0 : R.C := (.seq (.seq (.reg [] [.a 16 (.mv (.t 6)), .a 17 (.mv (.t 0)), .a 18 (.ln (.t 17)), .a 19 (.bin .lss (.t 16) (.t 18))] [16, 17, 18] [])
  (.cond (.t 19) .skip (.exit 0)))
  (.seq (.block 1 (.seq (.reg [] [.a 22 (.mv (.t 5)), .a 23 (.mv (.t 0)), .a 24 (.ln (.t 23)), .a 25 (.bin .sub (.t 24) (.c (.int .i64 1))), .a 26 (.mv (.t 6)), .a 27 (.bin .sub (.t 25) (.t 26)), .a 28 (.iA 1 (.t 22) (.t 27)), .a 29 (.ld 1 false (.t 28)), .a 30 (.mv (.t 0)), .a 31 (.mv (.t 6)), .a 32 (.iA 1 (.t 30) (.t 31)), .a 33 (.ld 1 false (.t 32)), .a 34 (.bin .neq (.t 29) (.t 33))] [19, 22, 23, 24, 25, 26, 27, 28, 29, 30, 31, 32, 33] [])
  (.cond (.t 34) (.seq (.reg [] [.a 4 (.mv (.c (.bool false)))] [0, 1, 5, 6, 34] [])
  .ret) .skip)))
  (.reg [] [.a 20 (.mv (.t 6)), .a 21 (.bin .add (.t 20) (.c (.int .i64 1))), .a 6 (.mv (.t 21))] [20, 21, 34] [])))
def dendronlaw21_OrdersRights : R.Fn := ⟨2, [(.t 4)], (.seq (.reg [] [.a 4 (.mv (.c (.bool false)))] [4] [])
  (.seq (.reg [] [.a 7 (.mv (.t 0)), .a 8 (.call F.dendronlaw21_few [(.t 7)]), .a 0 (.mv (.t 8))] [7, 8] [])
  (.seq (.reg [] [.a 9 (.mv (.t 0)), .a 10 (.call F.orders_Back [(.t 9)]), .a 5 (.mv (.t 10))] [9, 10] [])
  (.seq (.seq (.reg [] [.a 11 (.mv (.t 5)), .a 12 (.ln (.t 11)), .a 13 (.mv (.t 0)), .a 14 (.ln (.t 13)), .a 15 (.bin .neq (.t 12) (.t 14))] [11, 12, 13, 14] [])
  (.cond (.t 15) (.seq (.reg [] [.a 4 (.mv (.c (.bool false)))] [0, 1, 5, 15] [])
  .ret) .skip))
  (.seq (.seq (.reg [] [.a 6 (.mv (.c (.int .i64 0)))] [15] [])
  (.block 0 (.loop [] [] dendronlaw21_OrdersRights.b0)))
  (.seq (.reg [] [.a 35 (.mv (.t 0)), .a 36 (.mv (.t 1)), .a 37 (.call F.orders_Right [(.t 35), (.t 36)]), .a 38 (.mv (.t 0)), .a 39 (.mv (.t 1)), .a 40 (.call F.dendronlaw21_right [(.t 38), (.t 39)]), .a 41 (.beq false (.t 37) (.t 40)), .a 42 (.mv (.t 41)), .g 43 42 true (.call F.dendronlaw21_awake []), .a 44 (.pick (.t 42) (.t 43) (.c (.bool false))), .a 4 (.mv (.t 44))] [0, 1, 5, 6, 19, 35, 36, 37, 38, 39, 40, 41, 42, 43, 44] [])
  .ret))))))⟩
def dendronlaw21_OrdersRights.hint : R.Hint := { kill := [(0, [4], []), (1, [7, 8], []), (2, [9, 10], []), (3, [11, 12, 13, 14], []), (4, [0, 1, 5, 15], []), (5, [15], []), (6, [16, 17, 18], []), (7, [20, 21, 34], []), (8, [19, 22, 23, 24, 25, 26, 27, 28, 29, 30, 31, 32, 33], []), (9, [0, 1, 5, 6, 34], []), (10, [0, 1, 5, 6, 19, 35, 36, 37, 38, 39, 40, 41, 42, 43, 44], [])] }
theorem dendronlaw21_OrdersRights.ok : cFn Try.prog dendronlaw21_OrdersRights.hint Try.f7 = some dendronlaw21_OrdersRights := by kernel_rfl
def dendronlaw21_few : R.Fn := ⟨1, [(.t 2)], (.seq (.reg [] [.a 2 (.mv (.c (.sl 1 [])))] [2] [])
  (.seq (.seq (.reg [] [.a 3 (.mv (.t 0)), .a 4 (.ln (.t 3)), .a 5 (.bin .gtr (.t 4) (.c (.int .i64 12)))] [3, 4] [])
  (.cond (.t 5) (.seq (.reg [] [.a 6 (.mv (.t 0)), .a 7 (.slc 1 (.t 6) none (some (.c (.int .i64 12)))), .a 2 (.mv (.t 7))] [0, 5, 6, 7] [])
  .ret) .skip))
  (.seq (.reg [] [.a 8 (.mv (.t 0)), .a 2 (.mv (.t 8))] [0, 5, 8] [])
  .ret)))⟩
def dendronlaw21_few.hint : R.Hint := { kill := [(0, [2], []), (1, [3, 4], []), (2, [0, 5, 6, 7], []), (3, [0, 5, 8], [])] }
theorem dendronlaw21_few.ok : cFn Try.prog dendronlaw21_few.hint Try.f8 = some dendronlaw21_few := by kernel_rfl
def orders_Next.b0 : R.C := (.seq (.seq (.reg [] [.a 15 (.mv (.t 5)), .a 16 (.bin .geq (.t 15) (.c (.int .i64 0))), .a 17 (.mv (.t 16)), .g 18 17 true (.mv (.t 4)), .g 19 17 true (.mv (.t 5)), .g 20 17 true (.iA 1 (.t 18) (.t 19)), .g 21 17 true (.ld 1 false (.t 20)), .g 22 17 true (.mv (.t 4)), .g 23 17 true (.mv (.t 5)), .g 24 17 true (.bin .add (.t 23) (.c (.int .i64 1))), .g 25 17 true (.iA 1 (.t 22) (.t 24)), .g 26 17 true (.ld 1 false (.t 25)), .g 27 17 true (.bin .geq (.t 21) (.t 26)), .a 28 (.pick (.t 17) (.t 27) (.c (.bool false)))] [15, 16, 17, 18, 19, 20, 21, 22, 23, 24, 25, 26, 27] [])
  (.cond (.t 28) .skip (.exit 0)))
  (.block 1 (.reg [] [.a 29 (.mv (.t 5)), .a 30 (.bin .sub (.t 29) (.c (.int .i64 1))), .a 5 (.mv (.t 30))] [28, 29, 30] [])))
def orders_Next.b2 : R.C := (.seq (.seq (.reg [] [.a 36 (.mv (.t 4)), .a 37 (.mv (.t 6)), .a 38 (.iA 1 (.t 36) (.t 37)), .a 39 (.ld 1 false (.t 38)), .a 40 (.mv (.t 4)), .a 41 (.mv (.t 5)), .a 42 (.iA 1 (.t 40) (.t 41)), .a 43 (.ld 1 false (.t 42)), .a 44 (.bin .leq (.t 39) (.t 43))] [36, 37, 38, 39, 40, 41, 42, 43] [])
  (.cond (.t 44) .skip (.exit 2)))
  (.block 3 (.reg [] [.a 45 (.mv (.t 6)), .a 46 (.bin .sub (.t 45) (.c (.int .i64 1))), .a 6 (.mv (.t 46))] [44, 45, 46] [])))
def orders_Next.b4 : R.C := (.seq (.seq (.reg [] [.a 66 (.mv (.t 7)), .a 67 (.mv (.t 8)), .a 68 (.bin .lss (.t 66) (.t 67))] [66, 67] [])
  (.cond (.t 68) .skip (.exit 4)))
  (.seq (.block 5 (.reg [] [.a 73 (.mv (.t 4)), .a 74 (.mv (.t 7)), .a 75 (.mv (.t 4)), .a 76 (.mv (.t 8)), .a 77 (.mv (.t 4)), .a 78 (.mv (.t 8)), .a 79 (.iA 1 (.t 77) (.t 78)), .a 80 (.ld 1 false (.t 79)), .a 81 (.mv (.t 4)), .a 82 (.mv (.t 7)), .a 83 (.iA 1 (.t 81) (.t 82)), .a 84 (.ld 1 false (.t 83)), .a 85 (.iA 1 (.t 73) (.t 74)), .n (.st 1 (.t 85) (.t 80)), .a 86 (.iA 1 (.t 75) (.t 76)), .n (.st 1 (.t 86) (.t 84))] [68, 73, 74, 75, 76, 77, 78, 79, 80, 81, 82, 83, 84, 85, 86] []))
  (.reg [] [.a 69 (.mv (.t 7)), .a 70 (.bin .add (.t 69) (.c (.int .i64 1))), .a 71 (.mv (.t 8)), .a 72 (.bin .sub (.t 71) (.c (.int .i64 1))), .a 7 (.mv (.t 70)), .a 8 (.mv (.t 72))] [69, 70, 71, 72] [])))
def orders_Next : R.Fn := ⟨1, [(.t 2), (.t 3)], (.seq (.reg [] [.a 2 (.mv (.c (.sl 1 []))), .a 3 (.mv (.c (.bool false)))] [2, 3] [])
  (.seq (.reg [] [.a 9 (.lito 1 0 [] []), .a 10 (.mv (.t 0)), .a 11 (.app 1 8 (.t 9) (.t 10)), .a 4 (.mv (.t 11))] [0, 9, 10, 11] [])
  (.seq (.reg [] [.a 12 (.mv (.t 4)), .a 13 (.ln (.t 12)), .a 14 (.bin .sub (.t 13) (.c (.int .i64 2))), .a 5 (.mv (.t 14))] [12, 13, 14] [])
  (.seq (.block 0 (.loop [] [] orders_Next.b0))
  (.seq (.seq (.reg [] [.a 31 (.mv (.t 5)), .a 32 (.bin .lss (.t 31) (.c (.int .i64 0)))] [28, 31] [])
  (.cond (.t 32) (.seq (.reg [] [.a 2 (.mv (.c (.sl 1 []))), .a 3 (.mv (.c (.bool false)))] [4, 5, 32] [])
  .ret) .skip))
  (.seq (.reg [] [.a 33 (.mv (.t 4)), .a 34 (.ln (.t 33)), .a 35 (.bin .sub (.t 34) (.c (.int .i64 1))), .a 6 (.mv (.t 35))] [32, 33, 34, 35] [])
  (.seq (.block 2 (.loop [] [] orders_Next.b2))
  (.seq (.reg [] [.a 47 (.mv (.t 4)), .a 48 (.mv (.t 5)), .a 49 (.mv (.t 4)), .a 50 (.mv (.t 6)), .a 51 (.mv (.t 4)), .a 52 (.mv (.t 6)), .a 53 (.iA 1 (.t 51) (.t 52)), .a 54 (.ld 1 false (.t 53)), .a 55 (.mv (.t 4)), .a 56 (.mv (.t 5)), .a 57 (.iA 1 (.t 55) (.t 56)), .a 58 (.ld 1 false (.t 57)), .a 59 (.iA 1 (.t 47) (.t 48)), .n (.st 1 (.t 59) (.t 54)), .a 60 (.iA 1 (.t 49) (.t 50)), .n (.st 1 (.t 60) (.t 58))] [6, 44, 47, 48, 49, 50, 51, 52, 53, 54, 55, 56, 57, 58, 59, 60] [])
  (.seq (.seq (.reg [] [.a 61 (.mv (.t 5)), .a 62 (.bin .add (.t 61) (.c (.int .i64 1))), .a 63 (.mv (.t 4)), .a 64 (.ln (.t 63)), .a 65 (.bin .sub (.t 64) (.c (.int .i64 1))), .a 7 (.mv (.t 62)), .a 8 (.mv (.t 65))] [5, 61, 62, 63, 64, 65] [])
  (.block 4 (.loop [] [] orders_Next.b4)))
  (.seq (.reg [] [.a 87 (.mv (.t 4)), .a 2 (.mv (.t 87)), .a 3 (.mv (.c (.bool true)))] [4, 7, 8, 68, 87] [])
  .ret))))))))))⟩
def orders_Next.hint : R.Hint := { lit := [9], kill := [(0, [2, 3], []), (1, [0, 9, 10, 11], []), (2, [12, 13, 14], []), (3, [15, 16, 17, 18, 19, 20, 21, 22, 23, 24, 25, 26, 27], []), (4, [28, 29, 30], []), (5, [28, 31], []), (6, [4, 5, 32], []), (7, [32, 33, 34, 35], []), (8, [36, 37, 38, 39, 40, 41, 42, 43], []), (9, [44, 45, 46], []), (10, [6, 44, 47, 48, 49, 50, 51, 52, 53, 54, 55, 56, 57, 58, 59, 60], []), (11, [5, 61, 62, 63, 64, 65], []), (12, [66, 67], []), (13, [69, 70, 71, 72], []), (14, [68, 73, 74, 75, 76, 77, 78, 79, 80, 81, 82, 83, 84, 85, 86], []), (15, [4, 7, 8, 68, 87], [])] }
theorem orders_Next.ok : cFn Try.prog orders_Next.hint Try.f9 = some orders_Next := by kernel_rfl
def dendronlaw21_same.b0 : R.C := (.seq (.seq (.reg [] [.a 11 (.mv (.t 5)), .a 12 (.mv (.t 0)), .a 13 (.ln (.t 12)), .a 14 (.bin .lss (.t 11) (.t 13))] [11, 12, 13] [])
  (.cond (.t 14) .skip (.exit 0)))
  (.seq (.block 1 (.seq (.reg [] [.a 17 (.mv (.t 0)), .a 18 (.mv (.t 5)), .a 19 (.iA 1 (.t 17) (.t 18)), .a 20 (.ld 1 false (.t 19)), .a 21 (.mv (.t 1)), .a 22 (.mv (.t 5)), .a 23 (.iA 1 (.t 21) (.t 22)), .a 24 (.ld 1 false (.t 23)), .a 25 (.bin .neq (.t 20) (.t 24))] [14, 17, 18, 19, 20, 21, 22, 23, 24] [])
  (.cond (.t 25) (.seq (.reg [] [.a 4 (.mv (.c (.bool false)))] [0, 1, 5, 25] [])
  .ret) .skip)))
  (.reg [] [.a 15 (.mv (.t 5)), .a 16 (.bin .add (.t 15) (.c (.int .i64 1))), .a 5 (.mv (.t 16))] [15, 16, 25] [])))
def dendronlaw21_same : R.Fn := ⟨2, [(.t 4)], (.seq (.reg [] [.a 4 (.mv (.c (.bool false)))] [4] [])
  (.seq (.seq (.reg [] [.a 6 (.mv (.t 0)), .a 7 (.ln (.t 6)), .a 8 (.mv (.t 1)), .a 9 (.ln (.t 8)), .a 10 (.bin .neq (.t 7) (.t 9))] [6, 7, 8, 9] [])
  (.cond (.t 10) (.seq (.reg [] [.a 4 (.mv (.c (.bool false)))] [0, 1, 10] [])
  .ret) .skip))
  (.seq (.seq (.reg [] [.a 5 (.mv (.c (.int .i64 0)))] [10] [])
  (.block 0 (.loop [] [] dendronlaw21_same.b0)))
  (.seq (.reg [] [.a 4 (.mv (.c (.bool true)))] [0, 1, 5, 14] [])
  .ret))))⟩
def dendronlaw21_same.hint : R.Hint := { kill := [(0, [4], []), (1, [6, 7, 8, 9], []), (2, [0, 1, 10], []), (3, [10], []), (4, [11, 12, 13], []), (5, [15, 16, 25], []), (6, [14, 17, 18, 19, 20, 21, 22, 23, 24], []), (7, [0, 1, 5, 25], []), (8, [0, 1, 5, 14], [])] }
theorem dendronlaw21_same.ok : cFn Try.prog dendronlaw21_same.hint Try.f10 = some dendronlaw21_same := by kernel_rfl
def dendronlaw21_alike.b2 : R.C := (.seq (.seq (.reg [] [.a 20 (.mv (.t 8)), .a 21 (.mv (.t 0)), .a 22 (.ln (.t 21)), .a 23 (.bin .lss (.t 20) (.t 22))] [20, 21, 22] [])
  (.cond (.t 23) .skip (.exit 2)))
  (.seq (.block 3 (.seq (.seq (.reg [] [.a 26 (.mv (.t 0)), .a 27 (.mv (.t 8)), .a 28 (.iA 1 (.t 26) (.t 27)), .a 29 (.ld 1 false (.t 28)), .a 30 (.mv (.t 0)), .a 31 (.mv (.t 5)), .a 32 (.iA 1 (.t 30) (.t 31)), .a 33 (.ld 1 false (.t 32)), .a 34 (.bin .eql (.t 29) (.t 33))] [23, 26, 27, 28, 29, 30, 31, 32, 33] [])
  (.cond (.t 34) (.reg [] [.a 35 (.mv (.t 6)), .a 36 (.bin .add (.t 35) (.c (.int .i64 1))), .a 6 (.mv (.t 36))] [34, 35, 36] []) .skip))
  (.seq (.reg [] [.a 37 (.mv (.t 1)), .a 38 (.mv (.t 8)), .a 39 (.iA 1 (.t 37) (.t 38)), .a 40 (.ld 1 false (.t 39)), .a 41 (.mv (.t 0)), .a 42 (.mv (.t 5)), .a 43 (.iA 1 (.t 41) (.t 42)), .a 44 (.ld 1 false (.t 43)), .a 45 (.bin .eql (.t 40) (.t 44))] [34, 37, 38, 39, 40, 41, 42, 43, 44] [])
  (.cond (.t 45) (.reg [] [.a 46 (.mv (.t 7)), .a 47 (.bin .add (.t 46) (.c (.int .i64 1))), .a 7 (.mv (.t 47))] [45, 46, 47] []) .skip))))
  (.reg [] [.a 24 (.mv (.t 8)), .a 25 (.bin .add (.t 24) (.c (.int .i64 1))), .a 8 (.mv (.t 25))] [24, 25, 45] [])))
def dendronlaw21_alike.b0 : R.C := (.seq (.seq (.reg [] [.a 14 (.mv (.t 5)), .a 15 (.mv (.t 0)), .a 16 (.ln (.t 15)), .a 17 (.bin .lss (.t 14) (.t 16))] [14, 15, 16] [])
  (.cond (.t 17) .skip (.exit 0)))
  (.seq (.block 1 (.seq (.reg [] [.a 6 (.mv (.c (.int .i64 0))), .a 7 (.mv (.c (.int .i64 0)))] [17] [])
  (.seq (.seq (.reg [] [.a 8 (.mv (.c (.int .i64 0)))] [] [])
  (.block 2 (.loop [] [] dendronlaw21_alike.b2)))
  (.seq (.reg [] [.a 48 (.mv (.t 6)), .a 49 (.mv (.t 7)), .a 50 (.bin .neq (.t 48) (.t 49))] [6, 7, 8, 23, 48, 49] [])
  (.cond (.t 50) (.seq (.reg [] [.a 4 (.mv (.c (.bool false)))] [0, 1, 5, 50] [])
  .ret) .skip)))))
  (.reg [] [.a 18 (.mv (.t 5)), .a 19 (.bin .add (.t 18) (.c (.int .i64 1))), .a 5 (.mv (.t 19))] [18, 19, 50] [])))
def dendronlaw21_alike : R.Fn := ⟨2, [(.t 4)], (.seq (.reg [] [.a 4 (.mv (.c (.bool false)))] [4] [])
  (.seq (.seq (.reg [] [.a 9 (.mv (.t 0)), .a 10 (.ln (.t 9)), .a 11 (.mv (.t 1)), .a 12 (.ln (.t 11)), .a 13 (.bin .neq (.t 10) (.t 12))] [9, 10, 11, 12] [])
  (.cond (.t 13) (.seq (.reg [] [.a 4 (.mv (.c (.bool false)))] [0, 1, 13] [])
  .ret) .skip))
  (.seq (.seq (.reg [] [.a 5 (.mv (.c (.int .i64 0)))] [13] [])
  (.block 0 (.loop [] [] dendronlaw21_alike.b0)))
  (.seq (.reg [] [.a 4 (.mv (.c (.bool true)))] [0, 1, 5, 17] [])
  .ret))))⟩
def dendronlaw21_alike.hint : R.Hint := { kill := [(0, [4], []), (1, [9, 10, 11, 12], []), (2, [0, 1, 13], []), (3, [13], []), (4, [14, 15, 16], []), (5, [18, 19, 50], []), (6, [17], []), (8, [20, 21, 22], []), (9, [24, 25, 45], []), (10, [23, 26, 27, 28, 29, 30, 31, 32, 33], []), (11, [34, 35, 36], []), (12, [34, 37, 38, 39, 40, 41, 42, 43, 44], []), (13, [45, 46, 47], []), (14, [6, 7, 8, 23, 48, 49], []), (15, [0, 1, 5, 50], []), (16, [0, 1, 5, 17], [])] }
theorem dendronlaw21_alike.ok : cFn Try.prog dendronlaw21_alike.hint Try.f11 = some dendronlaw21_alike := by kernel_rfl
def dendronlaw21_less.b0 : R.C := (.seq (.seq (.reg [] [.a 6 (.mv (.t 5)), .a 7 (.mv (.t 0)), .a 8 (.ln (.t 7)), .a 9 (.bin .lss (.t 6) (.t 8))] [6, 7, 8] [])
  (.cond (.t 9) .skip (.exit 0)))
  (.seq (.block 1 (.seq (.seq (.reg [] [.a 12 (.mv (.t 0)), .a 13 (.mv (.t 5)), .a 14 (.iA 1 (.t 12) (.t 13)), .a 15 (.ld 1 false (.t 14)), .a 16 (.mv (.t 1)), .a 17 (.mv (.t 5)), .a 18 (.iA 1 (.t 16) (.t 17)), .a 19 (.ld 1 false (.t 18)), .a 20 (.bin .lss (.t 15) (.t 19))] [9, 12, 13, 14, 15, 16, 17, 18, 19] [])
  (.cond (.t 20) (.seq (.reg [] [.a 4 (.mv (.c (.bool true)))] [0, 1, 5, 20] [])
  .ret) .skip))
  (.seq (.reg [] [.a 21 (.mv (.t 0)), .a 22 (.mv (.t 5)), .a 23 (.iA 1 (.t 21) (.t 22)), .a 24 (.ld 1 false (.t 23)), .a 25 (.mv (.t 1)), .a 26 (.mv (.t 5)), .a 27 (.iA 1 (.t 25) (.t 26)), .a 28 (.ld 1 false (.t 27)), .a 29 (.bin .gtr (.t 24) (.t 28))] [20, 21, 22, 23, 24, 25, 26, 27, 28] [])
  (.cond (.t 29) (.seq (.reg [] [.a 4 (.mv (.c (.bool false)))] [0, 1, 5, 29] [])
  .ret) .skip))))
  (.reg [] [.a 10 (.mv (.t 5)), .a 11 (.bin .add (.t 10) (.c (.int .i64 1))), .a 5 (.mv (.t 11))] [10, 11, 29] [])))
def dendronlaw21_less : R.Fn := ⟨2, [(.t 4)], (.seq (.reg [] [.a 4 (.mv (.c (.bool false)))] [4] [])
  (.seq (.seq (.reg [] [.a 5 (.mv (.c (.int .i64 0)))] [] [])
  (.block 0 (.loop [] [] dendronlaw21_less.b0)))
  (.seq (.reg [] [.a 4 (.mv (.c (.bool false)))] [0, 1, 5, 9] [])
  .ret)))⟩
def dendronlaw21_less.hint : R.Hint := { kill := [(0, [4], []), (2, [6, 7, 8], []), (3, [10, 11, 29], []), (4, [9, 12, 13, 14, 15, 16, 17, 18, 19], []), (5, [0, 1, 5, 20], []), (6, [20, 21, 22, 23, 24, 25, 26, 27, 28], []), (7, [0, 1, 5, 29], []), (8, [0, 1, 5, 9], [])] }
theorem dendronlaw21_less.ok : cFn Try.prog dendronlaw21_less.hint Try.f12 = some dendronlaw21_less := by kernel_rfl
def dendronlaw21_awake : R.Fn := ⟨0, [(.t 0)], (.seq (.reg [] [.a 0 (.mv (.c (.bool false)))] [0] [])
  (.seq (.reg [] [.a 4 (.lit 1 3 [(.int .i64 0), (.int .i64 0), (.int .i64 0)] [(0, 1, (.c (.int .i64 0))), (1, 1, (.c (.int .i64 2))), (2, 1, (.c (.int .i64 1)))]), .a 5 (.call F.orders_Next [(.t 4)]), .a 3 (.mv (.t 5)), .a 6 (.ext (.t 3) 0), .a 7 (.ext (.t 3) 1), .a 1 (.mv (.t 6)), .a 2 (.mv (.t 7))] [3, 4, 5, 6, 7] [])
  (.seq (.reg [] [.a 8 (.mv (.t 2)), .a 9 (.mv (.t 8)), .g 10 9 true (.mv (.t 1)), .g 11 9 true (.lit 1 3 [(.int .i64 0), (.int .i64 0), (.int .i64 0)] [(0, 1, (.c (.int .i64 1))), (1, 1, (.c (.int .i64 0))), (2, 1, (.c (.int .i64 2)))]), .g 12 9 true (.call F.dendronlaw21_same [(.t 10), (.t 11)]), .a 13 (.pick (.t 9) (.t 12) (.c (.bool false))), .a 14 (.mv (.t 13)), .a 15 (.pick (.t 14) (.c (.bool true)) (.c (.bool false))), .a 0 (.mv (.t 15))] [1, 2, 8, 9, 10, 11, 12, 13, 14, 15] [])
  .ret)))⟩
def dendronlaw21_awake.hint : R.Hint := { kill := [(0, [0], []), (1, [3, 4, 5, 6, 7], []), (2, [1, 2, 8, 9, 10, 11, 12, 13, 14, 15], [])] }
theorem dendronlaw21_awake.ok : cFn Try.prog dendronlaw21_awake.hint Try.f13 = some dendronlaw21_awake := by kernel_rfl
def dendronlaw22_few : R.Fn := ⟨1, [(.t 2)], (.seq (.reg [] [.a 2 (.mv (.c (.sl 1 [])))] [2] [])
  (.seq (.seq (.reg [] [.a 3 (.mv (.t 0)), .a 4 (.ln (.t 3)), .a 5 (.bin .gtr (.t 4) (.c (.int .i64 12)))] [3, 4] [])
  (.cond (.t 5) (.seq (.reg [] [.a 6 (.mv (.t 0)), .a 7 (.slc 1 (.t 6) none (some (.c (.int .i64 12)))), .a 2 (.mv (.t 7))] [0, 5, 6, 7] [])
  .ret) .skip))
  (.seq (.reg [] [.a 8 (.mv (.t 0)), .a 2 (.mv (.t 8))] [0, 5, 8] [])
  .ret)))⟩
def dendronlaw22_few.hint : R.Hint := { kill := [(0, [2], []), (1, [3, 4], []), (2, [0, 5, 6, 7], []), (3, [0, 5, 8], [])] }
theorem dendronlaw22_few.ok : cFn Try.prog dendronlaw22_few.hint Try.f14 = some dendronlaw22_few := by kernel_rfl
def owen_Right.b0 : R.C := (.seq (.reg [] [.a 17 (.bin .lss (.t 16) (.t 15))] [] [])
  (.seq (.cond (.t 17) .skip (.exit 0))
  (.seq (.block 1 (.seq (.reg [] [.a 18 (.iA 1 (.t 14) (.t 16)), .a 19 (.ld 1 false (.t 18)), .a 7 (.mv (.t 19))] [17, 18, 19] [])
  (.seq (.seq (.reg [] [.a 20 (.mv (.t 7)), .a 21 (.bin .leq (.t 20) (.c (.int .i64 0))), .a 22 (.mv (.t 21)), .g 23 22 false (.mv (.t 7)), .g 24 22 false (.mv (.t 1)), .g 25 22 false (.bin .shl (.c (.int .i64 1)) (.t 24)), .g 26 22 false (.bin .geq (.t 23) (.t 25)), .a 27 (.pick (.t 22) (.c (.bool true)) (.t 26)), .a 28 (.mv (.t 27)), .g 29 28 false (.mv (.t 5)), .g 30 28 false (.mv (.t 7)), .g 31 28 false (.bin .and (.t 29) (.t 30)), .g 32 28 false (.bin .neq (.t 31) (.c (.int .i64 0))), .a 33 (.pick (.t 28) (.c (.bool true)) (.t 32))] [20, 21, 22, 23, 24, 25, 26, 27, 28, 29, 30, 31, 32] [])
  (.cond (.t 33) (.seq (.reg [] [.a 4 (.mv (.c (.bool false)))] [1, 5, 7, 14, 15, 16, 33] [])
  .ret) .skip))
  (.reg [] [.a 34 (.mv (.t 5)), .a 35 (.mv (.t 7)), .a 36 (.bin .or (.t 34) (.t 35)), .a 5 (.mv (.t 36))] [7, 33, 34, 35, 36] []))))
  (.reg [] [.a 37 (.bin .add (.t 16) (.c (.int .i64 1))), .a 16 (.mv (.t 37))] [37] []))))
def owen_Right : R.Fn := ⟨2, [(.t 4)], (.seq (.reg [] [.a 4 (.mv (.c (.bool false)))] [4] [])
  (.seq (.seq (.reg [] [.a 8 (.mv (.t 1)), .a 9 (.bin .lss (.t 8) (.c (.int .i64 0))), .a 10 (.mv (.t 9)), .g 11 10 false (.mv (.t 1)), .g 12 10 false (.bin .gtr (.t 11) (.c (.int .i64 12))), .a 13 (.pick (.t 10) (.c (.bool true)) (.t 12))] [8, 9, 10, 11, 12] [])
  (.cond (.t 13) (.seq (.reg [] [.a 4 (.mv (.c (.bool false)))] [0, 1, 13] [])
  .ret) .skip))
  (.seq (.reg [] [.a 5 (.mv (.c (.int .i64 0)))] [13] [])
  (.seq (.seq (.reg [] [.a 14 (.mv (.t 0)), .a 15 (.ln (.t 14)), .a 16 (.mv (.c (.int .i64 0)))] [0] [])
  (.block 0 (.loop [] [] owen_Right.b0)))
  (.seq (.reg [] [.a 38 (.mv (.t 5)), .a 39 (.mv (.t 1)), .a 40 (.bin .shl (.c (.int .i64 1)) (.t 39)), .a 41 (.bin .sub (.t 40) (.c (.int .i64 1))), .a 42 (.bin .eql (.t 38) (.t 41)), .a 4 (.mv (.t 42))] [1, 5, 14, 15, 16, 17, 38, 39, 40, 41, 42] [])
  .ret)))))⟩
def owen_Right.hint : R.Hint := { kill := [(0, [4], []), (1, [8, 9, 10, 11, 12], []), (2, [0, 1, 13], []), (3, [13], []), (4, [0], []), (6, [17, 18, 19], []), (7, [20, 21, 22, 23, 24, 25, 26, 27, 28, 29, 30, 31, 32], []), (8, [1, 5, 7, 14, 15, 16, 33], []), (9, [7, 33, 34, 35, 36], []), (10, [37], []), (11, [1, 5, 14, 15, 16, 17, 38, 39, 40, 41, 42], [])] }
theorem owen_Right.ok : cFn Try.prog owen_Right.hint Try.f15 = some owen_Right := by kernel_rfl
def dendronlaw22_awake : R.Fn := ⟨0, [(.t 0)], (.seq (.reg [] [.a 0 (.mv (.c (.bool false)))] [0] [])
  (.seq (.reg [] [.a 2 (.call F.owen_Alone [(.c (.int .i64 3))]), .a 1 (.mv (.t 2))] [2] [])
  (.seq (.reg [] [.a 3 (.mv (.t 1)), .a 4 (.ln (.t 3)), .a 5 (.bin .eql (.t 4) (.c (.int .i64 3))), .a 6 (.mv (.t 5)), .g 7 6 true (.mv (.t 1)), .g 8 6 true (.iA 1 (.t 7) (.c (.int .i64 0))), .g 9 6 true (.ld 1 false (.t 8)), .g 10 6 true (.bin .eql (.t 9) (.c (.int .i64 1))), .a 11 (.pick (.t 6) (.t 10) (.c (.bool false))), .a 12 (.mv (.t 11)), .g 13 12 true (.mv (.t 1)), .g 14 12 true (.iA 1 (.t 13) (.c (.int .i64 1))), .g 15 12 true (.ld 1 false (.t 14)), .g 16 12 true (.bin .eql (.t 15) (.c (.int .i64 2))), .a 17 (.pick (.t 12) (.t 16) (.c (.bool false))), .a 18 (.mv (.t 17)), .g 19 18 true (.mv (.t 1)), .g 20 18 true (.iA 1 (.t 19) (.c (.int .i64 2))), .g 21 18 true (.ld 1 false (.t 20)), .g 22 18 true (.bin .eql (.t 21) (.c (.int .i64 4))), .a 23 (.pick (.t 18) (.t 22) (.c (.bool false))), .a 24 (.mv (.t 23)), .g 25 24 true (.mv (.t 1)), .g 26 24 true (.call F.owen_Right [(.t 25), (.c (.int .i64 3))]), .a 27 (.pick (.t 24) (.t 26) (.c (.bool false))), .a 0 (.mv (.t 27))] [1, 3, 4, 5, 6, 7, 8, 9, 10, 11, 12, 13, 14, 15, 16, 17, 18, 19, 20, 21, 22, 23, 24, 25, 26, 27] [])
  .ret)))⟩
def dendronlaw22_awake.hint : R.Hint := { kill := [(0, [0], []), (1, [2], []), (2, [1, 3, 4, 5, 6, 7, 8, 9, 10, 11, 12, 13, 14, 15, 16, 17, 18, 19, 20, 21, 22, 23, 24, 25, 26, 27], [])] }
theorem dendronlaw22_awake.ok : cFn Try.prog dendronlaw22_awake.hint Try.f16 = some dendronlaw22_awake := by kernel_rfl
def owen_Alone.b0 : R.C := (.seq (.reg [] [.a 7 (.bin .lss (.t 6) (.t 5))] [] [])
  (.seq (.cond (.t 7) .skip (.exit 0))
  (.seq (.block 1 (.seq (.reg [] [.a 8 (.mv (.t 6)), .a 4 (.mv (.t 8))] [7, 8] [])
  (.reg [] [.a 9 (.mv (.t 3)), .a 10 (.mv (.t 4)), .a 11 (.bin .shl (.c (.int .i64 1)) (.t 10)), .a 12 (.lit 1 1 [(.int .i64 0)] [(0, 1, (.t 11))]), .a 13 (.app 1 8 (.t 9) (.t 12)), .a 3 (.mv (.t 13))] [4, 9, 10, 11, 12, 13] [])))
  (.reg [] [.a 14 (.bin .add (.t 6) (.c (.int .i64 1))), .a 6 (.mv (.t 14))] [14] []))))
def owen_Alone : R.Fn := ⟨1, [(.t 2)], (.seq (.reg [] [.a 2 (.mv (.c (.sl 1 [])))] [2] [])
  (.seq (.reg [] [.a 3 (.nil 1)] [] [])
  (.seq (.seq (.reg [] [.a 5 (.mv (.t 0)), .a 6 (.mv (.c (.int .i64 0)))] [0] [])
  (.block 0 (.loop [] [] owen_Alone.b0)))
  (.seq (.reg [] [.a 15 (.mv (.t 3)), .a 2 (.mv (.t 15))] [3, 5, 6, 7, 15] [])
  .ret))))⟩
def owen_Alone.hint : R.Hint := { nil := [3], kill := [(0, [2], []), (2, [0], []), (4, [7, 8], []), (5, [4, 9, 10, 11, 12, 13], []), (6, [14], []), (7, [3, 5, 6, 7, 15], [])] }
theorem owen_Alone.ok : cFn Try.prog owen_Alone.hint Try.f17 = some owen_Alone := by kernel_rfl
def dendronlaw22_right.b0 : R.C := (.seq (.seq (.reg [] [.a 9 (.mv (.t 5)), .a 10 (.mv (.t 0)), .a 11 (.ln (.t 10)), .a 12 (.bin .lss (.t 9) (.t 11))] [9, 10, 11] [])
  (.cond (.t 12) .skip (.exit 0)))
  (.seq (.block 1 (.seq (.reg [] [.a 15 (.mv (.t 0)), .a 16 (.mv (.t 5)), .a 17 (.iA 1 (.t 15) (.t 16)), .a 18 (.ld 1 false (.t 17)), .a 19 (.bin .lss (.t 18) (.c (.int .i64 1))), .a 20 (.mv (.t 19)), .g 21 20 false (.mv (.t 0)), .g 22 20 false (.mv (.t 5)), .g 23 20 false (.iA 1 (.t 21) (.t 22)), .g 24 20 false (.ld 1 false (.t 23)), .g 25 20 false (.mv (.t 1)), .g 26 20 false (.call F.dendronlaw22_two [(.t 25)]), .g 27 20 false (.bin .geq (.t 24) (.t 26)), .a 28 (.pick (.t 20) (.c (.bool true)) (.t 27))] [12, 15, 16, 17, 18, 19, 20, 21, 22, 23, 24, 25, 26, 27] [])
  (.cond (.t 28) (.seq (.reg [] [.a 4 (.mv (.c (.bool false)))] [0, 1, 5, 28] [])
  .ret) .skip)))
  (.reg [] [.a 13 (.mv (.t 5)), .a 14 (.bin .add (.t 13) (.c (.int .i64 1))), .a 5 (.mv (.t 14))] [13, 14, 28] [])))
def dendronlaw22_right.b4 : R.C := (.seq (.seq (.reg [] [.a 34 (.mv (.t 8)), .a 35 (.mv (.t 0)), .a 36 (.ln (.t 35)), .a 37 (.bin .lss (.t 34) (.t 36))] [34, 35, 36] [])
  (.cond (.t 37) .skip (.exit 4)))
  (.seq (.block 5 (.seq (.reg [] [.a 40 (.mv (.t 0)), .a 41 (.mv (.t 8)), .a 42 (.iA 1 (.t 40) (.t 41)), .a 43 (.ld 1 false (.t 42)), .a 44 (.mv (.t 6)), .a 45 (.call F.dendronref19_In [(.t 43), (.t 44)])] [37, 40, 41, 42, 43, 44] [])
  (.cond (.t 45) (.reg [] [.a 46 (.mv (.t 7)), .a 47 (.bin .add (.t 46) (.c (.int .i64 1))), .a 7 (.mv (.t 47))] [45, 46, 47] []) .skip)))
  (.reg [] [.a 38 (.mv (.t 8)), .a 39 (.bin .add (.t 38) (.c (.int .i64 1))), .a 8 (.mv (.t 39))] [38, 39, 45] [])))
def dendronlaw22_right.b2 : R.C := (.seq (.seq (.reg [] [.a 29 (.mv (.t 6)), .a 30 (.mv (.t 1)), .a 31 (.bin .lss (.t 29) (.t 30))] [29, 30] [])
  (.cond (.t 31) .skip (.exit 2)))
  (.seq (.block 3 (.seq (.reg [] [.a 7 (.mv (.c (.int .i64 0)))] [31] [])
  (.seq (.seq (.reg [] [.a 8 (.mv (.c (.int .i64 0)))] [] [])
  (.block 4 (.loop [] [] dendronlaw22_right.b4)))
  (.seq (.reg [] [.a 48 (.mv (.t 7)), .a 49 (.bin .neq (.t 48) (.c (.int .i64 1)))] [7, 8, 37, 48] [])
  (.cond (.t 49) (.seq (.reg [] [.a 4 (.mv (.c (.bool false)))] [0, 1, 6, 49] [])
  .ret) .skip)))))
  (.reg [] [.a 32 (.mv (.t 6)), .a 33 (.bin .add (.t 32) (.c (.int .i64 1))), .a 6 (.mv (.t 33))] [32, 33, 49] [])))
def dendronlaw22_right : R.Fn := ⟨2, [(.t 4)], (.seq (.reg [] [.a 4 (.mv (.c (.bool false)))] [4] [])
  (.seq (.seq (.reg [] [.a 5 (.mv (.c (.int .i64 0)))] [] [])
  (.block 0 (.loop [] [] dendronlaw22_right.b0)))
  (.seq (.seq (.reg [] [.a 6 (.mv (.c (.int .i64 0)))] [5, 12] [])
  (.block 2 (.loop [] [] dendronlaw22_right.b2)))
  (.seq (.reg [] [.a 4 (.mv (.c (.bool true)))] [0, 1, 6, 31] [])
  .ret))))⟩
def dendronlaw22_right.hint : R.Hint := { kill := [(0, [4], []), (2, [9, 10, 11], []), (3, [13, 14, 28], []), (4, [12, 15, 16, 17, 18, 19, 20, 21, 22, 23, 24, 25, 26, 27], []), (5, [0, 1, 5, 28], []), (6, [5, 12], []), (7, [29, 30], []), (8, [32, 33, 49], []), (9, [31], []), (11, [34, 35, 36], []), (12, [38, 39, 45], []), (13, [37, 40, 41, 42, 43, 44], []), (14, [45, 46, 47], []), (15, [7, 8, 37, 48], []), (16, [0, 1, 6, 49], []), (17, [0, 1, 6, 31], [])] }
theorem dendronlaw22_right.ok : cFn Try.prog dendronlaw22_right.hint Try.f18 = some dendronlaw22_right := by kernel_rfl
def dendronlaw22_two.b0 : R.C := (.seq (.seq (.reg [] [.a 5 (.mv (.t 4)), .a 6 (.mv (.t 0)), .a 7 (.bin .lss (.t 5) (.t 6))] [5, 6] [])
  (.cond (.t 7) .skip (.exit 0)))
  (.seq (.block 1 (.reg [] [.a 10 (.mv (.t 3)), .a 11 (.bin .mul (.c (.int .i64 2)) (.t 10)), .a 3 (.mv (.t 11))] [7, 10, 11] []))
  (.reg [] [.a 8 (.mv (.t 4)), .a 9 (.bin .add (.t 8) (.c (.int .i64 1))), .a 4 (.mv (.t 9))] [8, 9] [])))
def dendronlaw22_two : R.Fn := ⟨1, [(.t 2)], (.seq (.reg [] [.a 2 (.mv (.c (.int .i64 0)))] [2] [])
  (.seq (.reg [] [.a 3 (.mv (.c (.int .i64 1)))] [] [])
  (.seq (.seq (.reg [] [.a 4 (.mv (.c (.int .i64 0)))] [] [])
  (.block 0 (.loop [] [] dendronlaw22_two.b0)))
  (.seq (.reg [] [.a 12 (.mv (.t 3)), .a 2 (.mv (.t 12))] [0, 3, 4, 7, 12] [])
  .ret))))⟩
def dendronlaw22_two.hint : R.Hint := { kill := [(0, [2], []), (3, [5, 6], []), (4, [8, 9], []), (5, [7, 10, 11], []), (6, [0, 3, 4, 7, 12], [])] }
theorem dendronlaw22_two.ok : cFn Try.prog dendronlaw22_two.hint Try.f19 = some dendronlaw22_two := by kernel_rfl
def orders_First.b0 : R.C := (.seq (.reg [] [.a 7 (.bin .lss (.t 6) (.t 5))] [] [])
  (.seq (.cond (.t 7) .skip (.exit 0))
  (.seq (.block 1 (.seq (.reg [] [.a 8 (.mv (.t 6)), .a 4 (.mv (.t 8))] [7, 8] [])
  (.reg [] [.a 9 (.mv (.t 3)), .a 10 (.mv (.t 4)), .a 11 (.lit 1 1 [(.int .i64 0)] [(0, 1, (.t 10))]), .a 12 (.app 1 8 (.t 9) (.t 11)), .a 3 (.mv (.t 12))] [4, 9, 10, 11, 12] [])))
  (.reg [] [.a 13 (.bin .add (.t 6) (.c (.int .i64 1))), .a 6 (.mv (.t 13))] [13] []))))
def orders_First : R.Fn := ⟨1, [(.t 2)], (.seq (.reg [] [.a 2 (.mv (.c (.sl 1 [])))] [2] [])
  (.seq (.reg [] [.a 3 (.nil 1)] [] [])
  (.seq (.seq (.reg [] [.a 5 (.mv (.t 0)), .a 6 (.mv (.c (.int .i64 0)))] [0] [])
  (.block 0 (.loop [] [] orders_First.b0)))
  (.seq (.reg [] [.a 14 (.mv (.t 3)), .a 2 (.mv (.t 14))] [3, 5, 6, 7, 14] [])
  .ret))))⟩
def orders_First.hint : R.Hint := { nil := [3], kill := [(0, [2], []), (2, [0], []), (4, [7, 8], []), (5, [4, 9, 10, 11, 12], []), (6, [13], []), (7, [3, 5, 6, 7, 14], [])] }
theorem orders_First.ok : cFn Try.prog orders_First.hint Try.f20 = some orders_First := by kernel_rfl
def orders_All.b0 : R.C := (.seq (.seq (.reg [] [.a 15 (.mv (.t 6))] [6] [])
  (.cond (.t 15) .skip (.exit 0)))
  (.block 1 (.seq (.reg [] [.a 16 (.mv (.t 4)), .a 17 (.mv (.t 5)), .a 18 (.lit 1 1 [(.sl 1 [])] [(0, 1, (.t 17))]), .a 19 (.app 1 24 (.t 16) (.t 18)), .a 4 (.mv (.t 19))] [15, 16, 17, 18, 19] [])
  (.reg [] [.a 21 (.mv (.t 5)), .a 22 (.call F.orders_Next [(.t 21)]), .a 20 (.mv (.t 22)), .a 23 (.ext (.t 20) 0), .a 24 (.ext (.t 20) 1), .a 5 (.mv (.t 23)), .a 6 (.mv (.t 24))] [20, 21, 22, 23, 24] []))))
def orders_All : R.Fn := ⟨1, [(.t 2), (.t 3)], (.seq (.reg [] [.a 2 (.mv (.c (.sl 1 []))), .a 3 (.mv (.c (.int .i64 0)))] [2, 3] [])
  (.seq (.seq (.reg [] [.a 7 (.mv (.t 0)), .a 8 (.bin .lss (.t 7) (.c (.int .i64 0))), .a 9 (.mv (.t 8)), .g 10 9 false (.mv (.t 0)), .g 11 9 false (.bin .gtr (.t 10) (.c (.int .i64 7))), .a 12 (.pick (.t 9) (.c (.bool true)) (.t 11))] [7, 8, 9, 10, 11] [])
  (.cond (.t 12) (.seq (.reg [] [.a 2 (.mv (.c (.sl 1 []))), .a 3 (.mv (.c (.int .i64 16)))] [0, 12] [])
  .ret) .skip))
  (.seq (.reg [] [.a 4 (.nil 1)] [12] [])
  (.seq (.reg [] [.a 13 (.mv (.t 0)), .a 14 (.call F.orders_First [(.t 13)]), .a 5 (.mv (.t 14)), .a 6 (.mv (.c (.bool true)))] [0, 13, 14] [])
  (.seq (.block 0 (.loop [] [] orders_All.b0))
  (.seq (.reg [] [.a 25 (.mv (.t 4)), .a 2 (.mv (.t 25)), .a 3 (.mv (.c (.int .i64 0)))] [4, 5, 15, 25] [])
  .ret))))))⟩
def orders_All.hint : R.Hint := { nil := [4], kill := [(0, [2, 3], []), (1, [7, 8, 9, 10, 11], []), (2, [0, 12], []), (3, [12], []), (4, [0, 13, 14], []), (5, [6], []), (6, [15, 16, 17, 18, 19], []), (7, [20, 21, 22, 23, 24], []), (8, [4, 5, 15, 25], [])] }
theorem orders_All.ok : cFn Try.prog orders_All.hint Try.f21 = some orders_All := by kernel_rfl
def dendronlaw21_right.b2 : R.C := (.seq (.seq (.reg [] [.a 17 (.mv (.t 7)), .a 18 (.mv (.t 0)), .a 19 (.ln (.t 18)), .a 20 (.bin .lss (.t 17) (.t 19))] [17, 18, 19] [])
  (.cond (.t 20) .skip (.exit 2)))
  (.seq (.block 3 (.seq (.reg [] [.a 23 (.mv (.t 0)), .a 24 (.mv (.t 7)), .a 25 (.iA 1 (.t 23) (.t 24)), .a 26 (.ld 1 false (.t 25)), .a 27 (.mv (.t 5)), .a 28 (.bin .eql (.t 26) (.t 27))] [20, 23, 24, 25, 26, 27] [])
  (.cond (.t 28) (.reg [] [.a 29 (.mv (.t 6)), .a 30 (.bin .add (.t 29) (.c (.int .i64 1))), .a 6 (.mv (.t 30))] [28, 29, 30] []) .skip)))
  (.reg [] [.a 21 (.mv (.t 7)), .a 22 (.bin .add (.t 21) (.c (.int .i64 1))), .a 7 (.mv (.t 22))] [21, 22, 28] [])))
def dendronlaw21_right.b0 : R.C := (.seq (.seq (.reg [] [.a 12 (.mv (.t 5)), .a 13 (.mv (.t 1)), .a 14 (.bin .lss (.t 12) (.t 13))] [12, 13] [])
  (.cond (.t 14) .skip (.exit 0)))
  (.seq (.block 1 (.seq (.reg [] [.a 6 (.mv (.c (.int .i64 0)))] [14] [])
  (.seq (.seq (.reg [] [.a 7 (.mv (.c (.int .i64 0)))] [] [])
  (.block 2 (.loop [] [] dendronlaw21_right.b2)))
  (.seq (.reg [] [.a 31 (.mv (.t 6)), .a 32 (.bin .neq (.t 31) (.c (.int .i64 1)))] [6, 7, 20, 31] [])
  (.cond (.t 32) (.seq (.reg [] [.a 4 (.mv (.c (.bool false)))] [0, 1, 5, 32] [])
  .ret) .skip)))))
  (.reg [] [.a 15 (.mv (.t 5)), .a 16 (.bin .add (.t 15) (.c (.int .i64 1))), .a 5 (.mv (.t 16))] [15, 16, 32] [])))
def dendronlaw21_right : R.Fn := ⟨2, [(.t 4)], (.seq (.reg [] [.a 4 (.mv (.c (.bool false)))] [4] [])
  (.seq (.seq (.reg [] [.a 8 (.mv (.t 0)), .a 9 (.ln (.t 8)), .a 10 (.mv (.t 1)), .a 11 (.bin .neq (.t 9) (.t 10))] [8, 9, 10] [])
  (.cond (.t 11) (.seq (.reg [] [.a 4 (.mv (.c (.bool false)))] [0, 1, 11] [])
  .ret) .skip))
  (.seq (.seq (.reg [] [.a 5 (.mv (.c (.int .i64 0)))] [11] [])
  (.block 0 (.loop [] [] dendronlaw21_right.b0)))
  (.seq (.reg [] [.a 4 (.mv (.c (.bool true)))] [0, 1, 5, 14] [])
  .ret))))⟩
def dendronlaw21_right.hint : R.Hint := { kill := [(0, [4], []), (1, [8, 9, 10], []), (2, [0, 1, 11], []), (3, [11], []), (4, [12, 13], []), (5, [15, 16, 32], []), (6, [14], []), (8, [17, 18, 19], []), (9, [21, 22, 28], []), (10, [20, 23, 24, 25, 26, 27], []), (11, [28, 29, 30], []), (12, [6, 7, 20, 31], []), (13, [0, 1, 5, 32], []), (14, [0, 1, 5, 14], [])] }
theorem dendronlaw21_right.ok : cFn Try.prog dendronlaw21_right.hint Try.f22 = some dendronlaw21_right := by kernel_rfl
def orders_Back.b0 : R.C := (.seq (.seq (.reg [] [.a 8 (.mv (.t 4)), .a 9 (.bin .geq (.t 8) (.c (.int .i64 0)))] [8] [])
  (.cond (.t 9) .skip (.exit 0)))
  (.seq (.block 1 (.reg [] [.a 12 (.mv (.t 3)), .a 13 (.mv (.t 0)), .a 14 (.mv (.t 4)), .a 15 (.iA 1 (.t 13) (.t 14)), .a 16 (.ld 1 false (.t 15)), .a 17 (.lit 1 1 [(.int .i64 0)] [(0, 1, (.t 16))]), .a 18 (.app 1 8 (.t 12) (.t 17)), .a 3 (.mv (.t 18))] [9, 12, 13, 14, 15, 16, 17, 18] []))
  (.reg [] [.a 10 (.mv (.t 4)), .a 11 (.bin .sub (.t 10) (.c (.int .i64 1))), .a 4 (.mv (.t 11))] [10, 11] [])))
def orders_Back : R.Fn := ⟨1, [(.t 2)], (.seq (.reg [] [.a 2 (.mv (.c (.sl 1 [])))] [2] [])
  (.seq (.reg [] [.a 3 (.nil 1)] [] [])
  (.seq (.seq (.reg [] [.a 5 (.mv (.t 0)), .a 6 (.ln (.t 5)), .a 7 (.bin .sub (.t 6) (.c (.int .i64 1))), .a 4 (.mv (.t 7))] [5, 6, 7] [])
  (.block 0 (.loop [] [] orders_Back.b0)))
  (.seq (.reg [] [.a 19 (.mv (.t 3)), .a 2 (.mv (.t 19))] [0, 3, 4, 9, 19] [])
  .ret))))⟩
def orders_Back.hint : R.Hint := { nil := [3], kill := [(0, [2], []), (2, [5, 6, 7], []), (3, [8], []), (4, [10, 11], []), (5, [9, 12, 13, 14, 15, 16, 17, 18], []), (6, [0, 3, 4, 9, 19], [])] }
theorem orders_Back.ok : cFn Try.prog orders_Back.hint Try.f23 = some orders_Back := by kernel_rfl
def dendronref19_In.b0 : R.C := (.seq (.seq (.reg [] [.a 6 (.mv (.t 5)), .a 7 (.mv (.t 1)), .a 8 (.bin .lss (.t 6) (.t 7))] [6, 7] [])
  (.cond (.t 8) .skip (.exit 0)))
  (.seq (.block 1 (.reg [] [.a 11 (.mv (.t 0)), .a 12 (.bin .quo (.t 11) (.c (.int .i64 2))), .a 0 (.mv (.t 12))] [8, 11, 12] []))
  (.reg [] [.a 9 (.mv (.t 5)), .a 10 (.bin .add (.t 9) (.c (.int .i64 1))), .a 5 (.mv (.t 10))] [9, 10] [])))
def dendronref19_In : R.Fn := ⟨2, [(.t 4)], (.seq (.reg [] [.a 4 (.mv (.c (.bool false)))] [4] [])
  (.seq (.seq (.reg [] [.a 5 (.mv (.c (.int .i64 0)))] [] [])
  (.block 0 (.loop [] [] dendronref19_In.b0)))
  (.seq (.reg [] [.a 13 (.mv (.t 0)), .a 14 (.bin .rem (.t 13) (.c (.int .i64 2))), .a 15 (.bin .eql (.t 14) (.c (.int .i64 1))), .a 4 (.mv (.t 15))] [0, 1, 5, 8, 13, 14, 15] [])
  .ret)))⟩
def dendronref19_In.hint : R.Hint := { kill := [(0, [4], []), (2, [6, 7], []), (3, [9, 10], []), (4, [8, 11, 12], []), (5, [0, 1, 5, 8, 13, 14, 15], [])] }
theorem dendronref19_In.ok : cFn Try.prog dendronref19_In.hint Try.f25 = some dendronref19_In := by kernel_rfl
def tab : List (Nat × R.Fn) := [(F.dendronlaw21_OrdersNexts, dendronlaw21_OrdersNexts), (F.dendronlaw22_OwenRights, dendronlaw22_OwenRights), (F.dendronlaw21_OrdersFirsts, dendronlaw21_OrdersFirsts), (F.dendronlaw21_OrdersAll, dendronlaw21_OrdersAll), (F.dendronlaw21_OrdersRights, dendronlaw21_OrdersRights), (F.dendronlaw21_few, dendronlaw21_few), (F.orders_Next, orders_Next), (F.dendronlaw21_same, dendronlaw21_same), (F.dendronlaw21_alike, dendronlaw21_alike), (F.dendronlaw21_less, dendronlaw21_less), (F.dendronlaw21_awake, dendronlaw21_awake), (F.dendronlaw22_few, dendronlaw22_few), (F.owen_Right, owen_Right), (F.dendronlaw22_awake, dendronlaw22_awake), (F.owen_Alone, owen_Alone), (F.dendronlaw22_right, dendronlaw22_right), (F.dendronlaw22_two, dendronlaw22_two), (F.orders_First, orders_First), (F.orders_All, orders_All), (F.dendronlaw21_right, dendronlaw21_right), (F.orders_Back, orders_Back), (F.dendronref19_In, dendronref19_In)]
def ip : R.Ip := fun f => aget tab f
theorem dendronlaw21_OrdersNexts.ip : ip F.dendronlaw21_OrdersNexts = some dendronlaw21_OrdersNexts := rfl
theorem dendronlaw22_OwenRights.ip : ip F.dendronlaw22_OwenRights = some dendronlaw22_OwenRights := rfl
theorem dendronlaw21_OrdersFirsts.ip : ip F.dendronlaw21_OrdersFirsts = some dendronlaw21_OrdersFirsts := rfl
theorem dendronlaw21_OrdersAll.ip : ip F.dendronlaw21_OrdersAll = some dendronlaw21_OrdersAll := rfl
theorem dendronlaw21_OrdersRights.ip : ip F.dendronlaw21_OrdersRights = some dendronlaw21_OrdersRights := rfl
theorem dendronlaw21_few.ip : ip F.dendronlaw21_few = some dendronlaw21_few := rfl
theorem orders_Next.ip : ip F.orders_Next = some orders_Next := rfl
theorem dendronlaw21_same.ip : ip F.dendronlaw21_same = some dendronlaw21_same := rfl
theorem dendronlaw21_alike.ip : ip F.dendronlaw21_alike = some dendronlaw21_alike := rfl
theorem dendronlaw21_less.ip : ip F.dendronlaw21_less = some dendronlaw21_less := rfl
theorem dendronlaw21_awake.ip : ip F.dendronlaw21_awake = some dendronlaw21_awake := rfl
theorem dendronlaw22_few.ip : ip F.dendronlaw22_few = some dendronlaw22_few := rfl
theorem owen_Right.ip : ip F.owen_Right = some owen_Right := rfl
theorem dendronlaw22_awake.ip : ip F.dendronlaw22_awake = some dendronlaw22_awake := rfl
theorem owen_Alone.ip : ip F.owen_Alone = some owen_Alone := rfl
theorem dendronlaw22_right.ip : ip F.dendronlaw22_right = some dendronlaw22_right := rfl
theorem dendronlaw22_two.ip : ip F.dendronlaw22_two = some dendronlaw22_two := rfl
theorem orders_First.ip : ip F.orders_First = some orders_First := rfl
theorem orders_All.ip : ip F.orders_All = some orders_All := rfl
theorem dendronlaw21_right.ip : ip F.dendronlaw21_right = some dendronlaw21_right := rfl
theorem orders_Back.ip : ip F.orders_Back = some orders_Back := rfl
theorem dendronref19_In.ip : ip F.dendronref19_In = some dendronref19_In := rfl
theorem tab_ok : ∀ p ∈ tab, ∃ h gf, Try.prog.funcs[p.1]? = some gf ∧ cFn Try.prog h gf = some p.2 := by
  simp only [tab, List.forall_mem_cons]
  exact ⟨⟨dendronlaw21_OrdersNexts.hint, Try.f3, Try.func3, dendronlaw21_OrdersNexts.ok⟩, ⟨dendronlaw22_OwenRights.hint, Try.f4, Try.func4, dendronlaw22_OwenRights.ok⟩, ⟨dendronlaw21_OrdersFirsts.hint, Try.f5, Try.func5, dendronlaw21_OrdersFirsts.ok⟩, ⟨dendronlaw21_OrdersAll.hint, Try.f6, Try.func6, dendronlaw21_OrdersAll.ok⟩, ⟨dendronlaw21_OrdersRights.hint, Try.f7, Try.func7, dendronlaw21_OrdersRights.ok⟩, ⟨dendronlaw21_few.hint, Try.f8, Try.func8, dendronlaw21_few.ok⟩, ⟨orders_Next.hint, Try.f9, Try.func9, orders_Next.ok⟩, ⟨dendronlaw21_same.hint, Try.f10, Try.func10, dendronlaw21_same.ok⟩, ⟨dendronlaw21_alike.hint, Try.f11, Try.func11, dendronlaw21_alike.ok⟩, ⟨dendronlaw21_less.hint, Try.f12, Try.func12, dendronlaw21_less.ok⟩, ⟨dendronlaw21_awake.hint, Try.f13, Try.func13, dendronlaw21_awake.ok⟩, ⟨dendronlaw22_few.hint, Try.f14, Try.func14, dendronlaw22_few.ok⟩, ⟨owen_Right.hint, Try.f15, Try.func15, owen_Right.ok⟩, ⟨dendronlaw22_awake.hint, Try.f16, Try.func16, dendronlaw22_awake.ok⟩, ⟨owen_Alone.hint, Try.f17, Try.func17, owen_Alone.ok⟩, ⟨dendronlaw22_right.hint, Try.f18, Try.func18, dendronlaw22_right.ok⟩, ⟨dendronlaw22_two.hint, Try.f19, Try.func19, dendronlaw22_two.ok⟩, ⟨orders_First.hint, Try.f20, Try.func20, orders_First.ok⟩, ⟨orders_All.hint, Try.f21, Try.func21, orders_All.ok⟩, ⟨dendronlaw21_right.hint, Try.f22, Try.func22, dendronlaw21_right.ok⟩, ⟨orders_Back.hint, Try.f23, Try.func23, orders_Back.ok⟩, ⟨dendronref19_In.hint, Try.f25, Try.func25, dendronref19_In.ok⟩, by simp⟩
end Go.Proofs.Ytdbdkdliacpeoaa
