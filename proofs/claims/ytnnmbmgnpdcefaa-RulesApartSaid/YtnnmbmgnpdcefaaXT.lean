/- Closed facts on the loaded program's types and functions, each by the kernel. -/
import Derived.Test.YtnnmbmgnpdcefaaProg
import Derived.Test.YtnnmbmgnpdcefaaYH
namespace Go.Proofs.Ytnnmbmgnpdcefaa.X
open Go Go.RowKit
set_option linter.unusedVariables false
set_option linter.unusedSimpArgs false

theorem agg_122 : aggB Try.prog 122 4 = true := by kernel_rfl
theorem agg_125 : aggB Try.prog 125 2 = true := by kernel_rfl
theorem agg_146 : aggB Try.prog 146 4 = true := by kernel_rfl
theorem agg_31 : aggB Try.prog 31 8 = true := by kernel_rfl
theorem agg_39 : aggB Try.prog 39 5 = true := by kernel_rfl
theorem agg_44 : aggB Try.prog 44 6 = true := by kernel_rfl
theorem agg_47 : aggB Try.prog 47 4 = true := by kernel_rfl
theorem agg_61 : aggB Try.prog 61 3 = true := by kernel_rfl
theorem agg_63 : aggB Try.prog 63 6 = true := by kernel_rfl
theorem agg_66 : aggB Try.prog 66 5 = true := by kernel_rfl
theorem arr_125 : arrB Try.prog 125 = some (2, 1, 3) := by kernel_rfl
theorem arr_126 : arrB Try.prog 126 = some (4, 2, 125) := by kernel_rfl
theorem bld_103 : structB Try.prog 103 = some ([(0, 1), (1, 1)], [.map none, .bool false]) := by kernel_rfl
theorem bld_122 : structB Try.prog 122 = some ([(0, 1), (1, 1), (2, 1), (3, 1)], [.int .i64 0, .slice none 0 0, .bool false, .int .i64 0]) := by kernel_rfl
theorem bld_146 : structB Try.prog 146 = some ([(0, 1), (1, 3)], [.int .i64 0, .int .i64 0, .int .i64 0, .int .i64 0]) := by kernel_rfl
theorem bld_25 : structB Try.prog 25 = some ([(0, 1), (1, 1)], [.slice none 0 0, .int .i64 0]) := by kernel_rfl
theorem bld_31 : structB Try.prog 31 = some ([(0, 1), (1, 1), (2, 1), (3, 1), (4, 1), (5, 1), (6, 1), (7, 1)], [.int .i64 0, .int .i64 0, .int .i64 0, .int .i64 0, .slice none 0 0, .slice none 0 0, .slice none 0 0, .slice none 0 0]) := by kernel_rfl
theorem bld_39 : structB Try.prog 39 = some ([(0, 1), (1, 1), (2, 1), (3, 1), (4, 1)], [.int .i64 0, .int .i64 0, .int .i64 0, .bool false, .int .i64 0]) := by kernel_rfl
theorem bld_44 : structB Try.prog 44 = some ([(0, 1), (1, 1), (2, 1), (3, 1), (4, 1), (5, 1)], [.int .i64 0, .int .i64 0, .int .i64 0, .int .i64 0, .int .i64 0, .int .i64 0]) := by kernel_rfl
theorem bld_47 : structB Try.prog 47 = some ([(0, 1), (1, 1), (2, 1), (3, 1)], [.int .i64 0, .int .i64 0, .int .i64 0, .int .i64 0]) := by kernel_rfl
theorem bld_61 : structB Try.prog 61 = some ([(0, 1), (1, 1), (2, 1)], [.int .i64 0, .int .i64 0, .int .i64 0]) := by kernel_rfl
theorem bld_63 : structB Try.prog 63 = some ([(0, 1), (1, 1), (2, 1), (3, 3)], [.int .i64 0, .int .i64 0, .int .i64 0, .int .i64 0, .int .i64 0, .int .i64 0]) := by kernel_rfl
theorem bld_66 : structB Try.prog 66 = some ([(0, 1), (1, 1), (2, 1), (3, 1), (4, 1)], [.int .i64 0, .int .i64 0, .int .i64 0, .int .i64 0, .int .i64 0]) := by kernel_rfl
theorem bldf_103 : fieldsB Try.prog 103 = true := by kernel_rfl
theorem bldf_122 : fieldsB Try.prog 122 = true := by kernel_rfl
theorem bldf_146 : fieldsB Try.prog 146 = true := by kernel_rfl
theorem bldf_25 : fieldsB Try.prog 25 = true := by kernel_rfl
theorem bldf_31 : fieldsB Try.prog 31 = true := by kernel_rfl
theorem bldf_39 : fieldsB Try.prog 39 = true := by kernel_rfl
theorem bldf_44 : fieldsB Try.prog 44 = true := by kernel_rfl
theorem bldf_47 : fieldsB Try.prog 47 = true := by kernel_rfl
theorem bldf_61 : fieldsB Try.prog 61 = true := by kernel_rfl
theorem bldf_63 : fieldsB Try.prog 63 = true := by kernel_rfl
theorem bldf_66 : fieldsB Try.prog 66 = true := by kernel_rfl
theorem call_11 : callB Try.prog 11 = true := by kernel_rfl
theorem call_13 : callB Try.prog 13 = true := by kernel_rfl
theorem call_14 : callB Try.prog 14 = true := by kernel_rfl
theorem call_17 : callB Try.prog 17 = true := by kernel_rfl
theorem call_20 : callB Try.prog 20 = true := by kernel_rfl
theorem call_21 : callB Try.prog 21 = true := by kernel_rfl
theorem call_22 : callB Try.prog 22 = true := by kernel_rfl
theorem call_23 : callB Try.prog 23 = true := by kernel_rfl
theorem call_26 : callB Try.prog 26 = true := by kernel_rfl
theorem call_27 : callB Try.prog 27 = true := by kernel_rfl
theorem call_28 : callB Try.prog 28 = true := by kernel_rfl
theorem call_29 : callB Try.prog 29 = true := by kernel_rfl
theorem call_30 : callB Try.prog 30 = true := by kernel_rfl
theorem call_31 : callB Try.prog 31 = true := by kernel_rfl
theorem call_32 : callB Try.prog 32 = true := by kernel_rfl
theorem call_33 : callB Try.prog 33 = true := by kernel_rfl
theorem call_34 : callB Try.prog 34 = true := by kernel_rfl
theorem call_43 : callB Try.prog 43 = true := by kernel_rfl
theorem call_44 : callB Try.prog 44 = true := by kernel_rfl
theorem call_45 : callB Try.prog 45 = true := by kernel_rfl
theorem call_46 : callB Try.prog 46 = true := by kernel_rfl
theorem call_47 : callB Try.prog 47 = true := by kernel_rfl
theorem call_48 : callB Try.prog 48 = true := by kernel_rfl
theorem call_49 : callB Try.prog 49 = true := by kernel_rfl
theorem call_50 : callB Try.prog 50 = true := by kernel_rfl
theorem call_51 : callB Try.prog 51 = true := by kernel_rfl
theorem call_52 : callB Try.prog 52 = true := by kernel_rfl
theorem call_54 : callB Try.prog 54 = true := by kernel_rfl
theorem call_55 : callB Try.prog 55 = true := by kernel_rfl
theorem call_56 : callB Try.prog 56 = true := by kernel_rfl
theorem call_57 : callB Try.prog 57 = true := by kernel_rfl
theorem call_58 : callB Try.prog 58 = true := by kernel_rfl
theorem call_59 : callB Try.prog 59 = true := by kernel_rfl
theorem call_60 : callB Try.prog 60 = true := by kernel_rfl
theorem call_61 : callB Try.prog 61 = true := by kernel_rfl
theorem call_62 : callB Try.prog 62 = true := by kernel_rfl
theorem call_63 : callB Try.prog 63 = true := by kernel_rfl
theorem call_64 : callB Try.prog 64 = true := by kernel_rfl
theorem call_65 : callB Try.prog 65 = true := by kernel_rfl
theorem call_66 : callB Try.prog 66 = true := by kernel_rfl
theorem call_67 : callB Try.prog 67 = true := by kernel_rfl
theorem call_68 : callB Try.prog 68 = true := by kernel_rfl
theorem call_69 : callB Try.prog 69 = true := by kernel_rfl
theorem call_70 : callB Try.prog 70 = true := by kernel_rfl
theorem call_71 : callB Try.prog 71 = true := by kernel_rfl
theorem call_72 : callB Try.prog 72 = true := by kernel_rfl
theorem call_75 : callB Try.prog 75 = true := by kernel_rfl
theorem call_76 : callB Try.prog 76 = true := by kernel_rfl
theorem call_77 : callB Try.prog 77 = true := by kernel_rfl
theorem call_78 : callB Try.prog 78 = true := by kernel_rfl
theorem call_79 : callB Try.prog 79 = true := by kernel_rfl
theorem call_80 : callB Try.prog 80 = true := by kernel_rfl
theorem call_81 : callB Try.prog 81 = true := by kernel_rfl
theorem call_9 : callB Try.prog 9 = true := by kernel_rfl
theorem call_92 : callB Try.prog 92 = true := by kernel_rfl
theorem fld_103_0 : fieldAtB Try.prog 103 0 = some (0, 101) := by kernel_rfl
theorem fld_103_1 : fieldAtB Try.prog 103 1 = some (1, 4) := by kernel_rfl
theorem fld_122_0 : fieldAtB Try.prog 122 0 = some (0, 3) := by kernel_rfl
theorem fld_122_1 : fieldAtB Try.prog 122 1 = some (1, 120) := by kernel_rfl
theorem fld_122_2 : fieldAtB Try.prog 122 2 = some (2, 4) := by kernel_rfl
theorem fld_122_3 : fieldAtB Try.prog 122 3 = some (3, 3) := by kernel_rfl
theorem fld_25_0 : fieldAtB Try.prog 25 0 = some (0, 22) := by kernel_rfl
theorem fld_25_1 : fieldAtB Try.prog 25 1 = some (1, 3) := by kernel_rfl
theorem fld_31_0 : fieldAtB Try.prog 31 0 = some (0, 3) := by kernel_rfl
theorem fld_31_1 : fieldAtB Try.prog 31 1 = some (1, 3) := by kernel_rfl
theorem fld_31_2 : fieldAtB Try.prog 31 2 = some (2, 3) := by kernel_rfl
theorem fld_31_3 : fieldAtB Try.prog 31 3 = some (3, 3) := by kernel_rfl
theorem fld_31_4 : fieldAtB Try.prog 31 4 = some (4, 26) := by kernel_rfl
theorem fld_31_5 : fieldAtB Try.prog 31 5 = some (5, 27) := by kernel_rfl
theorem fld_31_6 : fieldAtB Try.prog 31 6 = some (6, 28) := by kernel_rfl
theorem fld_31_7 : fieldAtB Try.prog 31 7 = some (7, 29) := by kernel_rfl
theorem fld_39_0 : fieldAtB Try.prog 39 0 = some (0, 3) := by kernel_rfl
theorem fld_39_1 : fieldAtB Try.prog 39 1 = some (1, 3) := by kernel_rfl
theorem fld_39_2 : fieldAtB Try.prog 39 2 = some (2, 3) := by kernel_rfl
theorem fld_39_3 : fieldAtB Try.prog 39 3 = some (3, 4) := by kernel_rfl
theorem fld_39_4 : fieldAtB Try.prog 39 4 = some (4, 3) := by kernel_rfl
theorem fld_44_0 : fieldAtB Try.prog 44 0 = some (0, 3) := by kernel_rfl
theorem fld_44_1 : fieldAtB Try.prog 44 1 = some (1, 3) := by kernel_rfl
theorem fld_44_2 : fieldAtB Try.prog 44 2 = some (2, 3) := by kernel_rfl
theorem fld_44_3 : fieldAtB Try.prog 44 3 = some (3, 3) := by kernel_rfl
theorem fld_44_4 : fieldAtB Try.prog 44 4 = some (4, 3) := by kernel_rfl
theorem fld_44_5 : fieldAtB Try.prog 44 5 = some (5, 3) := by kernel_rfl
theorem fld_47_0 : fieldAtB Try.prog 47 0 = some (0, 3) := by kernel_rfl
theorem fld_47_1 : fieldAtB Try.prog 47 1 = some (1, 3) := by kernel_rfl
theorem fld_47_2 : fieldAtB Try.prog 47 2 = some (2, 3) := by kernel_rfl
theorem fld_47_3 : fieldAtB Try.prog 47 3 = some (3, 3) := by kernel_rfl
theorem fld_61_0 : fieldAtB Try.prog 61 0 = some (0, 3) := by kernel_rfl
theorem fld_61_1 : fieldAtB Try.prog 61 1 = some (1, 3) := by kernel_rfl
theorem fld_61_2 : fieldAtB Try.prog 61 2 = some (2, 3) := by kernel_rfl
theorem fld_63_0 : fieldAtB Try.prog 63 0 = some (0, 3) := by kernel_rfl
theorem fld_63_1 : fieldAtB Try.prog 63 1 = some (1, 3) := by kernel_rfl
theorem fld_63_2 : fieldAtB Try.prog 63 2 = some (2, 3) := by kernel_rfl
theorem fld_63_3 : fieldAtB Try.prog 63 3 = some (3, 61) := by kernel_rfl
theorem fld_66_0 : fieldAtB Try.prog 66 0 = some (0, 3) := by kernel_rfl
theorem fld_66_1 : fieldAtB Try.prog 66 1 = some (1, 3) := by kernel_rfl
theorem fld_66_2 : fieldAtB Try.prog 66 2 = some (2, 3) := by kernel_rfl
theorem fld_66_3 : fieldAtB Try.prog 66 3 = some (3, 3) := by kernel_rfl
theorem fld_66_4 : fieldAtB Try.prog 66 4 = some (4, 3) := by kernel_rfl
theorem mixed : Try.prog.follows .mixedOrders = true := by kernel_rfl
theorem one_101 : oneB Try.prog 101 = true := by kernel_rfl
theorem one_104 : oneB Try.prog 104 = true := by kernel_rfl
theorem one_120 : oneB Try.prog 120 = true := by kernel_rfl
theorem one_22 : oneB Try.prog 22 = true := by kernel_rfl
theorem one_26 : oneB Try.prog 26 = true := by kernel_rfl
theorem one_27 : oneB Try.prog 27 = true := by kernel_rfl
theorem one_28 : oneB Try.prog 28 = true := by kernel_rfl
theorem one_29 : oneB Try.prog 29 = true := by kernel_rfl
theorem one_3 : oneB Try.prog 3 = true := by kernel_rfl
theorem one_4 : oneB Try.prog 4 = true := by kernel_rfl
theorem sl_105 : sliceB Try.prog 105 = some (104, 1, 8) := by kernel_rfl
theorem sl_120 : sliceB Try.prog 120 = some (61, 3, 24) := by kernel_rfl
theorem sl_22 : sliceB Try.prog 22 = some (3, 1, 8) := by kernel_rfl
theorem sl_26 : sliceB Try.prog 26 = some (44, 6, 48) := by kernel_rfl
theorem sl_27 : sliceB Try.prog 27 = some (47, 4, 32) := by kernel_rfl
theorem sl_28 : sliceB Try.prog 28 = some (39, 5, 40) := by kernel_rfl
theorem sl_29 : sliceB Try.prog 29 = some (66, 5, 40) := by kernel_rfl
theorem sl_56 : sliceB Try.prog 56 = some (63, 6, 48) := by kernel_rfl
theorem sl_98 : sliceB Try.prog 98 = some (122, 4, 48) := by kernel_rfl
theorem sz_3 : (Try.prog.info? 3).map (·.size) = some 1 := by kernel_rfl
theorem sz_39 : (Try.prog.info? 39).map (·.size) = some 5 := by kernel_rfl
theorem sz_44 : (Try.prog.info? 44).map (·.size) = some 6 := by kernel_rfl
theorem sz_47 : (Try.prog.info? 47).map (·.size) = some 4 := by kernel_rfl
theorem sz_61 : (Try.prog.info? 61).map (·.size) = some 3 := by kernel_rfl
theorem sz_63 : (Try.prog.info? 63).map (·.size) = some 6 := by kernel_rfl
theorem ui_3 : Try.prog.underlying 3 = some (.int .i64) := by kernel_rfl
theorem um_101 : Try.prog.underlying 101 = some (.map 63 4) := by kernel_rfl
theorem um_123 : Try.prog.underlying 123 = some (.map 61 22) := by kernel_rfl
theorem um_130 : Try.prog.underlying 130 = some (.map 3 84) := by kernel_rfl
theorem um_131 : Try.prog.underlying 131 = some (.map 3 3) := by kernel_rfl
theorem um_134 : Try.prog.underlying 134 = some (.map 3 4) := by kernel_rfl
theorem um_135 : Try.prog.underlying 135 = some (.map 3 61) := by kernel_rfl
theorem um_144 : Try.prog.underlying 144 = some (.map 146 3) := by kernel_rfl
theorem um_84 : Try.prog.underlying 84 = some (.map 61 4) := by kernel_rfl
theorem usl_105 : Try.prog.underlying 105 = some (.slice 104) := by kernel_rfl
theorem usl_120 : Try.prog.underlying 120 = some (.slice 61) := by kernel_rfl
theorem usl_22 : Try.prog.underlying 22 = some (.slice 3) := by kernel_rfl
theorem usl_26 : Try.prog.underlying 26 = some (.slice 44) := by kernel_rfl
theorem usl_27 : Try.prog.underlying 27 = some (.slice 47) := by kernel_rfl
theorem usl_28 : Try.prog.underlying 28 = some (.slice 39) := by kernel_rfl
theorem usl_29 : Try.prog.underlying 29 = some (.slice 66) := by kernel_rfl
theorem usl_56 : Try.prog.underlying 56 = some (.slice 63) := by kernel_rfl
theorem usl_98 : Try.prog.underlying 98 = some (.slice 122) := by kernel_rfl
theorem zero_104 : zeroB Try.prog 104 = some [.nilFunc] := by kernel_rfl
theorem zero_122 : zeroB Try.prog 122 = some [.int .i64 0, .slice none 0 0, .bool false, .int .i64 0] := by kernel_rfl
theorem zero_125 : zeroB Try.prog 125 = some [.int .i64 0, .int .i64 0] := by kernel_rfl
theorem zero_126 : zeroB Try.prog 126 = some [.int .i64 0, .int .i64 0, .int .i64 0, .int .i64 0, .int .i64 0, .int .i64 0, .int .i64 0, .int .i64 0] := by kernel_rfl
theorem zero_146 : zeroB Try.prog 146 = some [.int .i64 0, .int .i64 0, .int .i64 0, .int .i64 0] := by kernel_rfl
theorem zero_22 : zeroB Try.prog 22 = some [.slice none 0 0] := by kernel_rfl
theorem zero_3 : zeroB Try.prog 3 = some [.int .i64 0] := by kernel_rfl
theorem zero_31 : zeroB Try.prog 31 = some [.int .i64 0, .int .i64 0, .int .i64 0, .int .i64 0, .slice none 0 0, .slice none 0 0, .slice none 0 0, .slice none 0 0] := by kernel_rfl
theorem zero_39 : zeroB Try.prog 39 = some [.int .i64 0, .int .i64 0, .int .i64 0, .bool false, .int .i64 0] := by kernel_rfl
theorem zero_44 : zeroB Try.prog 44 = some [.int .i64 0, .int .i64 0, .int .i64 0, .int .i64 0, .int .i64 0, .int .i64 0] := by kernel_rfl
theorem zero_47 : zeroB Try.prog 47 = some [.int .i64 0, .int .i64 0, .int .i64 0, .int .i64 0] := by kernel_rfl
theorem zero_61 : zeroB Try.prog 61 = some [.int .i64 0, .int .i64 0, .int .i64 0] := by kernel_rfl
theorem zero_63 : zeroB Try.prog 63 = some [.int .i64 0, .int .i64 0, .int .i64 0, .int .i64 0, .int .i64 0, .int .i64 0] := by kernel_rfl
theorem zero_66 : zeroB Try.prog 66 = some [.int .i64 0, .int .i64 0, .int .i64 0, .int .i64 0, .int .i64 0] := by kernel_rfl
theorem zv_22 : ((Try.prog.info? 22).bind fun i => i.zero) = some (.slice none 0 0) := by kernel_rfl
theorem zv_3 : ((Try.prog.info? 3).bind fun i => i.zero) = some (.int .i64 0) := by kernel_rfl
theorem zv_4 : ((Try.prog.info? 4).bind fun i => i.zero) = some (.bool false) := by kernel_rfl
theorem zv_61 : ((Try.prog.info? 61).bind fun i => i.zero) = some (.agg #[.int .i64 0, .int .i64 0, .int .i64 0]) := by kernel_rfl
theorem zv_84 : ((Try.prog.info? 84).bind fun i => i.zero) = some (.map none) := by kernel_rfl

end Go.Proofs.Ytnnmbmgnpdcefaa.X
