/- Closed facts on the loaded program's types and functions, each by the kernel. -/
import Derived.Test.YtnnmbmgnpdcefaaProg
import Derived.Test.YtnnmbmgnpdcefaaYH
namespace Go.Proofs.Ytnnmbmgnpdcefaa.X
open Go Go.RowKit
set_option linter.unusedVariables false
set_option linter.unusedSimpArgs false

theorem agg_116 : aggB Try.prog 116 7 = true := by kernel_rfl
theorem agg_31 : aggB Try.prog 31 8 = true := by kernel_rfl
theorem agg_39 : aggB Try.prog 39 5 = true := by kernel_rfl
theorem agg_44 : aggB Try.prog 44 6 = true := by kernel_rfl
theorem agg_47 : aggB Try.prog 47 4 = true := by kernel_rfl
theorem agg_52 : aggB Try.prog 52 3 = true := by kernel_rfl
theorem agg_61 : aggB Try.prog 61 3 = true := by kernel_rfl
theorem agg_66 : aggB Try.prog 66 5 = true := by kernel_rfl
theorem agg_87 : aggB Try.prog 87 2 = true := by kernel_rfl
theorem agg_94 : aggB Try.prog 94 6 = true := by kernel_rfl
theorem bld_116 : structB Try.prog 116 = some ([(0, 3), (3, 3), (6, 1)], [.int .i64 0, .int .i64 0, .int .i64 0, .int .i64 0, .int .i64 0, .int .i64 0, .int .i64 0]) := by kernel_rfl
theorem bld_25 : structB Try.prog 25 = some ([(0, 1), (1, 1)], [.slice none 0 0, .int .i64 0]) := by kernel_rfl
theorem bld_31 : structB Try.prog 31 = some ([(0, 1), (1, 1), (2, 1), (3, 1), (4, 1), (5, 1), (6, 1), (7, 1)], [.int .i64 0, .int .i64 0, .int .i64 0, .int .i64 0, .slice none 0 0, .slice none 0 0, .slice none 0 0, .slice none 0 0]) := by kernel_rfl
theorem bld_39 : structB Try.prog 39 = some ([(0, 1), (1, 1), (2, 1), (3, 1), (4, 1)], [.int .i64 0, .int .i64 0, .int .i64 0, .bool false, .int .i64 0]) := by kernel_rfl
theorem bld_44 : structB Try.prog 44 = some ([(0, 1), (1, 1), (2, 1), (3, 1), (4, 1), (5, 1)], [.int .i64 0, .int .i64 0, .int .i64 0, .int .i64 0, .int .i64 0, .int .i64 0]) := by kernel_rfl
theorem bld_47 : structB Try.prog 47 = some ([(0, 1), (1, 1), (2, 1), (3, 1)], [.int .i64 0, .int .i64 0, .int .i64 0, .int .i64 0]) := by kernel_rfl
theorem bld_52 : structB Try.prog 52 = some ([(0, 1), (1, 1), (2, 1)], [.int .i64 0, .int .i64 0, .int .i64 0]) := by kernel_rfl
theorem bld_61 : structB Try.prog 61 = some ([(0, 1), (1, 1), (2, 1)], [.int .i64 0, .int .i64 0, .int .i64 0]) := by kernel_rfl
theorem bld_82 : structB Try.prog 82 = some ([(0, 8), (8, 1), (9, 1), (10, 1)], [.int .i64 0, .int .i64 0, .int .i64 0, .int .i64 0, .slice none 0 0, .slice none 0 0, .slice none 0 0, .slice none 0 0, .map none, .map none, .map none]) := by kernel_rfl
theorem bld_87 : structB Try.prog 87 = some ([(0, 1), (1, 1)], [.map none, .map none]) := by kernel_rfl
theorem bld_94 : structB Try.prog 94 = some ([(0, 3), (3, 3)], [.int .i64 0, .int .i64 0, .int .i64 0, .int .i64 0, .int .i64 0, .int .i64 0]) := by kernel_rfl
theorem bldf_116 : fieldsB Try.prog 116 = true := by kernel_rfl
theorem bldf_25 : fieldsB Try.prog 25 = true := by kernel_rfl
theorem bldf_31 : fieldsB Try.prog 31 = true := by kernel_rfl
theorem bldf_39 : fieldsB Try.prog 39 = true := by kernel_rfl
theorem bldf_44 : fieldsB Try.prog 44 = true := by kernel_rfl
theorem bldf_47 : fieldsB Try.prog 47 = true := by kernel_rfl
theorem bldf_52 : fieldsB Try.prog 52 = true := by kernel_rfl
theorem bldf_61 : fieldsB Try.prog 61 = true := by kernel_rfl
theorem bldf_82 : fieldsB Try.prog 82 = true := by kernel_rfl
theorem bldf_87 : fieldsB Try.prog 87 = true := by kernel_rfl
theorem bldf_94 : fieldsB Try.prog 94 = true := by kernel_rfl
theorem call_10 : callB Try.prog 10 = true := by kernel_rfl
theorem call_12 : callB Try.prog 12 = true := by kernel_rfl
theorem call_13 : callB Try.prog 13 = true := by kernel_rfl
theorem call_14 : callB Try.prog 14 = true := by kernel_rfl
theorem call_15 : callB Try.prog 15 = true := by kernel_rfl
theorem call_16 : callB Try.prog 16 = true := by kernel_rfl
theorem call_17 : callB Try.prog 17 = true := by kernel_rfl
theorem call_18 : callB Try.prog 18 = true := by kernel_rfl
theorem call_19 : callB Try.prog 19 = true := by kernel_rfl
theorem call_26 : callB Try.prog 26 = true := by kernel_rfl
theorem call_33 : callB Try.prog 33 = true := by kernel_rfl
theorem call_34 : callB Try.prog 34 = true := by kernel_rfl
theorem call_35 : callB Try.prog 35 = true := by kernel_rfl
theorem call_36 : callB Try.prog 36 = true := by kernel_rfl
theorem call_37 : callB Try.prog 37 = true := by kernel_rfl
theorem call_38 : callB Try.prog 38 = true := by kernel_rfl
theorem call_39 : callB Try.prog 39 = true := by kernel_rfl
theorem call_40 : callB Try.prog 40 = true := by kernel_rfl
theorem call_41 : callB Try.prog 41 = true := by kernel_rfl
theorem call_42 : callB Try.prog 42 = true := by kernel_rfl
theorem call_44 : callB Try.prog 44 = true := by kernel_rfl
theorem call_61 : callB Try.prog 61 = true := by kernel_rfl
theorem call_62 : callB Try.prog 62 = true := by kernel_rfl
theorem call_8 : callB Try.prog 8 = true := by kernel_rfl
theorem call_9 : callB Try.prog 9 = true := by kernel_rfl
theorem eqs_52 : eqStB Try.prog 52 [0, 0, 0] = true := by kernel_rfl
theorem eqs_61 : eqStB Try.prog 61 [0, 0, 0] = true := by kernel_rfl
theorem fld_116_0 : fieldAtB Try.prog 116 0 = some (0, 61) := by kernel_rfl
theorem fld_116_1 : fieldAtB Try.prog 116 1 = some (3, 61) := by kernel_rfl
theorem fld_116_2 : fieldAtB Try.prog 116 2 = some (6, 3) := by kernel_rfl
theorem fld_25_0 : fieldAtB Try.prog 25 0 = some (0, 22) := by kernel_rfl
theorem fld_25_1 : fieldAtB Try.prog 25 1 = some (1, 3) := by kernel_rfl
theorem fld_31_0 : fieldAtB Try.prog 31 0 = some (0, 3) := by kernel_rfl
theorem fld_31_1 : fieldAtB Try.prog 31 1 = some (1, 3) := by kernel_rfl
theorem fld_31_2 : fieldAtB Try.prog 31 2 = some (2, 3) := by kernel_rfl
theorem fld_31_3 : fieldAtB Try.prog 31 3 = some (3, 3) := by kernel_rfl
theorem fld_31_4 : fieldAtB Try.prog 31 4 = some (4, 26) := by kernel_rfl
theorem fld_31_5 : fieldAtB Try.prog 31 5 = some (5, 27) := by kernel_rfl
theorem fld_31_6 : fieldAtB Try.prog 31 6 = some (6, 28) := by kernel_rfl
theorem fld_31_7 : fieldAtB Try.prog 31 7 = some (7, 29) := by kernel_rfl
theorem fld_39_0 : fieldAtB Try.prog 39 0 = some (0, 3) := by kernel_rfl
theorem fld_39_1 : fieldAtB Try.prog 39 1 = some (1, 3) := by kernel_rfl
theorem fld_39_2 : fieldAtB Try.prog 39 2 = some (2, 3) := by kernel_rfl
theorem fld_39_3 : fieldAtB Try.prog 39 3 = some (3, 4) := by kernel_rfl
theorem fld_39_4 : fieldAtB Try.prog 39 4 = some (4, 3) := by kernel_rfl
theorem fld_44_0 : fieldAtB Try.prog 44 0 = some (0, 3) := by kernel_rfl
theorem fld_44_1 : fieldAtB Try.prog 44 1 = some (1, 3) := by kernel_rfl
theorem fld_44_2 : fieldAtB Try.prog 44 2 = some (2, 3) := by kernel_rfl
theorem fld_44_3 : fieldAtB Try.prog 44 3 = some (3, 3) := by kernel_rfl
theorem fld_44_4 : fieldAtB Try.prog 44 4 = some (4, 3) := by kernel_rfl
theorem fld_44_5 : fieldAtB Try.prog 44 5 = some (5, 3) := by kernel_rfl
theorem fld_47_0 : fieldAtB Try.prog 47 0 = some (0, 3) := by kernel_rfl
theorem fld_47_1 : fieldAtB Try.prog 47 1 = some (1, 3) := by kernel_rfl
theorem fld_47_2 : fieldAtB Try.prog 47 2 = some (2, 3) := by kernel_rfl
theorem fld_47_3 : fieldAtB Try.prog 47 3 = some (3, 3) := by kernel_rfl
theorem fld_52_0 : fieldAtB Try.prog 52 0 = some (0, 3) := by kernel_rfl
theorem fld_52_1 : fieldAtB Try.prog 52 1 = some (1, 3) := by kernel_rfl
theorem fld_52_2 : fieldAtB Try.prog 52 2 = some (2, 3) := by kernel_rfl
theorem fld_61_0 : fieldAtB Try.prog 61 0 = some (0, 3) := by kernel_rfl
theorem fld_61_1 : fieldAtB Try.prog 61 1 = some (1, 3) := by kernel_rfl
theorem fld_61_2 : fieldAtB Try.prog 61 2 = some (2, 3) := by kernel_rfl
theorem fld_66_0 : fieldAtB Try.prog 66 0 = some (0, 3) := by kernel_rfl
theorem fld_66_1 : fieldAtB Try.prog 66 1 = some (1, 3) := by kernel_rfl
theorem fld_66_2 : fieldAtB Try.prog 66 2 = some (2, 3) := by kernel_rfl
theorem fld_66_3 : fieldAtB Try.prog 66 3 = some (3, 3) := by kernel_rfl
theorem fld_66_4 : fieldAtB Try.prog 66 4 = some (4, 3) := by kernel_rfl
theorem fld_82_1 : fieldAtB Try.prog 82 1 = some (8, 79) := by kernel_rfl
theorem fld_82_2 : fieldAtB Try.prog 82 2 = some (9, 80) := by kernel_rfl
theorem fld_82_3 : fieldAtB Try.prog 82 3 = some (10, 80) := by kernel_rfl
theorem fld_87_0 : fieldAtB Try.prog 87 0 = some (0, 84) := by kernel_rfl
theorem fld_87_1 : fieldAtB Try.prog 87 1 = some (1, 85) := by kernel_rfl
theorem fld_94_0 : fieldAtB Try.prog 94 0 = some (0, 61) := by kernel_rfl
theorem fld_94_1 : fieldAtB Try.prog 94 1 = some (3, 61) := by kernel_rfl
theorem mixed : Try.prog.follows .mixedOrders = true := by kernel_rfl
theorem one_22 : oneB Try.prog 22 = true := by kernel_rfl
theorem one_26 : oneB Try.prog 26 = true := by kernel_rfl
theorem one_27 : oneB Try.prog 27 = true := by kernel_rfl
theorem one_28 : oneB Try.prog 28 = true := by kernel_rfl
theorem one_29 : oneB Try.prog 29 = true := by kernel_rfl
theorem one_3 : oneB Try.prog 3 = true := by kernel_rfl
theorem one_4 : oneB Try.prog 4 = true := by kernel_rfl
theorem one_79 : oneB Try.prog 79 = true := by kernel_rfl
theorem one_80 : oneB Try.prog 80 = true := by kernel_rfl
theorem one_84 : oneB Try.prog 84 = true := by kernel_rfl
theorem one_85 : oneB Try.prog 85 = true := by kernel_rfl
theorem sl_114 : sliceB Try.prog 114 = some (94, 6, 48) := by kernel_rfl
theorem sl_117 : sliceB Try.prog 117 = some (116, 7, 56) := by kernel_rfl
theorem sl_22 : sliceB Try.prog 22 = some (3, 1, 8) := by kernel_rfl
theorem sl_26 : sliceB Try.prog 26 = some (44, 6, 48) := by kernel_rfl
theorem sl_27 : sliceB Try.prog 27 = some (47, 4, 32) := by kernel_rfl
theorem sl_28 : sliceB Try.prog 28 = some (39, 5, 40) := by kernel_rfl
theorem sl_29 : sliceB Try.prog 29 = some (66, 5, 40) := by kernel_rfl
theorem sz_44 : (Try.prog.info? 44).map (·.size) = some 6 := by kernel_rfl
theorem sz_47 : (Try.prog.info? 47).map (·.size) = some 4 := by kernel_rfl
theorem um_79 : Try.prog.underlying 79 = some (.map 61 114) := by kernel_rfl
theorem um_80 : Try.prog.underlying 80 = some (.map 61 3) := by kernel_rfl
theorem um_84 : Try.prog.underlying 84 = some (.map 61 4) := by kernel_rfl
theorem um_85 : Try.prog.underlying 85 = some (.map 94 4) := by kernel_rfl
theorem usl_114 : Try.prog.underlying 114 = some (.slice 94) := by kernel_rfl
theorem usl_117 : Try.prog.underlying 117 = some (.slice 116) := by kernel_rfl
theorem usl_22 : Try.prog.underlying 22 = some (.slice 3) := by kernel_rfl
theorem usl_26 : Try.prog.underlying 26 = some (.slice 44) := by kernel_rfl
theorem usl_27 : Try.prog.underlying 27 = some (.slice 47) := by kernel_rfl
theorem usl_28 : Try.prog.underlying 28 = some (.slice 39) := by kernel_rfl
theorem usl_29 : Try.prog.underlying 29 = some (.slice 66) := by kernel_rfl
theorem zero_116 : zeroB Try.prog 116 = some [.int .i64 0, .int .i64 0, .int .i64 0, .int .i64 0, .int .i64 0, .int .i64 0, .int .i64 0] := by kernel_rfl
theorem zero_3 : zeroB Try.prog 3 = some [.int .i64 0] := by kernel_rfl
theorem zero_31 : zeroB Try.prog 31 = some [.int .i64 0, .int .i64 0, .int .i64 0, .int .i64 0, .slice none 0 0, .slice none 0 0, .slice none 0 0, .slice none 0 0] := by kernel_rfl
theorem zero_39 : zeroB Try.prog 39 = some [.int .i64 0, .int .i64 0, .int .i64 0, .bool false, .int .i64 0] := by kernel_rfl
theorem zero_44 : zeroB Try.prog 44 = some [.int .i64 0, .int .i64 0, .int .i64 0, .int .i64 0, .int .i64 0, .int .i64 0] := by kernel_rfl
theorem zero_47 : zeroB Try.prog 47 = some [.int .i64 0, .int .i64 0, .int .i64 0, .int .i64 0] := by kernel_rfl
theorem zero_52 : zeroB Try.prog 52 = some [.int .i64 0, .int .i64 0, .int .i64 0] := by kernel_rfl
theorem zero_61 : zeroB Try.prog 61 = some [.int .i64 0, .int .i64 0, .int .i64 0] := by kernel_rfl
theorem zero_66 : zeroB Try.prog 66 = some [.int .i64 0, .int .i64 0, .int .i64 0, .int .i64 0, .int .i64 0] := by kernel_rfl
theorem zero_87 : zeroB Try.prog 87 = some [.map none, .map none] := by kernel_rfl
theorem zero_94 : zeroB Try.prog 94 = some [.int .i64 0, .int .i64 0, .int .i64 0, .int .i64 0, .int .i64 0, .int .i64 0] := by kernel_rfl
theorem zv_114 : ((Try.prog.info? 114).bind fun i => i.zero) = some (.slice none 0 0) := by kernel_rfl
theorem zv_3 : ((Try.prog.info? 3).bind fun i => i.zero) = some (.int .i64 0) := by kernel_rfl
theorem zv_4 : ((Try.prog.info? 4).bind fun i => i.zero) = some (.bool false) := by kernel_rfl

end Go.Proofs.Ytnnmbmgnpdcefaa.X
