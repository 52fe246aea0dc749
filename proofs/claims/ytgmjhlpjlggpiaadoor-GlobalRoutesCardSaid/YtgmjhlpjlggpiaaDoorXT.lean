/- Closed facts on the loaded program's types and functions, each by the kernel. -/
import Derived.Test.YtgmjhlpjlggpiaaDoorProg
import Derived.Test.YtgmjhlpjlggpiaaDoorYT
namespace Go.Proofs.YtgmjhlpjlggpiaaDoor.X
open Go Go.RowKit
set_option linter.unusedVariables false
set_option linter.unusedSimpArgs false

theorem agg_30 : aggB Tryd.prog 30 6 = true := by kernel_rfl
theorem agg_38 : aggB Tryd.prog 38 2 = true := by kernel_rfl
theorem agg_40 : aggB Tryd.prog 40 2 = true := by kernel_rfl
theorem agg_42 : aggB Tryd.prog 42 6 = true := by kernel_rfl
theorem agg_53 : aggB Tryd.prog 53 2 = true := by kernel_rfl
theorem agg_60 : aggB Tryd.prog 60 3 = true := by kernel_rfl
theorem agg_62 : aggB Tryd.prog 62 5 = true := by kernel_rfl
theorem agg_65 : aggB Tryd.prog 65 4 = true := by kernel_rfl
theorem agg_96 : aggB Tryd.prog 96 3 = true := by kernel_rfl
theorem bld_25 : structB Tryd.prog 25 = some ([(0, 1), (1, 1)], [.slice none 0 0, .int .i64 0]) := by kernel_rfl
theorem bld_30 : structB Tryd.prog 30 = some ([(0, 1), (1, 1), (2, 1), (3, 1), (4, 1), (5, 1)], [.int .i64 0, .int .i64 0, .int .i64 0, .slice none 0 0, .slice none 0 0, .slice none 0 0]) := by kernel_rfl
theorem bld_40 : structB Tryd.prog 40 = some ([(0, 1), (1, 1)], [.int .i64 0, .int .i64 0]) := by kernel_rfl
theorem bld_42 : structB Tryd.prog 42 = some ([(0, 2), (2, 1), (3, 1), (4, 1), (5, 1)], [.int .i64 0, .int .i64 0, .int .i64 0, .int .i64 0, .bool false, .int .i64 0]) := by kernel_rfl
theorem bld_53 : structB Tryd.prog 53 = some ([(0, 1), (1, 1)], [.int .i64 0, .int .i64 0]) := by kernel_rfl
theorem bld_60 : structB Tryd.prog 60 = some ([(0, 1), (1, 1), (2, 1)], [.int .i64 0, .int .i64 0, .int .i64 0]) := by kernel_rfl
theorem bld_62 : structB Tryd.prog 62 = some ([(0, 1), (1, 1), (2, 1), (3, 1), (4, 1)], [.int .i64 0, .int .i64 0, .int .i64 0, .int .i64 0, .int .i64 0]) := by kernel_rfl
theorem bld_65 : structB Tryd.prog 65 = some ([(0, 1), (1, 1), (2, 1), (3, 1)], [.string ⟨#[]⟩, .bool false, .int .i64 0, .int .i64 0]) := by kernel_rfl
theorem bld_73 : structB Tryd.prog 73 = some ([(0, 6), (6, 1), (7, 1), (8, 1)], [.int .i64 0, .int .i64 0, .int .i64 0, .slice none 0 0, .slice none 0 0, .slice none 0 0, .map none, .map none, .map none]) := by kernel_rfl
theorem bld_96 : structB Tryd.prog 96 = some ([(0, 1), (1, 1), (2, 1)], [.int .i64 0, .int .i64 0, .int .i64 0]) := by kernel_rfl
theorem bldf_25 : fieldsB Tryd.prog 25 = true := by kernel_rfl
theorem bldf_30 : fieldsB Tryd.prog 30 = true := by kernel_rfl
theorem bldf_40 : fieldsB Tryd.prog 40 = true := by kernel_rfl
theorem bldf_42 : fieldsB Tryd.prog 42 = true := by kernel_rfl
theorem bldf_53 : fieldsB Tryd.prog 53 = true := by kernel_rfl
theorem bldf_60 : fieldsB Tryd.prog 60 = true := by kernel_rfl
theorem bldf_62 : fieldsB Tryd.prog 62 = true := by kernel_rfl
theorem bldf_65 : fieldsB Tryd.prog 65 = true := by kernel_rfl
theorem bldf_73 : fieldsB Tryd.prog 73 = true := by kernel_rfl
theorem bldf_96 : fieldsB Tryd.prog 96 = true := by kernel_rfl
theorem call_10 : callB Tryd.prog 10 = true := by kernel_rfl
theorem call_11 : callB Tryd.prog 11 = true := by kernel_rfl
theorem call_12 : callB Tryd.prog 12 = true := by kernel_rfl
theorem call_13 : callB Tryd.prog 13 = true := by kernel_rfl
theorem call_14 : callB Tryd.prog 14 = true := by kernel_rfl
theorem call_15 : callB Tryd.prog 15 = true := by kernel_rfl
theorem call_16 : callB Tryd.prog 16 = true := by kernel_rfl
theorem call_17 : callB Tryd.prog 17 = true := by kernel_rfl
theorem call_18 : callB Tryd.prog 18 = true := by kernel_rfl
theorem call_19 : callB Tryd.prog 19 = true := by kernel_rfl
theorem call_20 : callB Tryd.prog 20 = true := by kernel_rfl
theorem call_21 : callB Tryd.prog 21 = true := by kernel_rfl
theorem call_22 : callB Tryd.prog 22 = true := by kernel_rfl
theorem call_23 : callB Tryd.prog 23 = true := by kernel_rfl
theorem call_24 : callB Tryd.prog 24 = true := by kernel_rfl
theorem call_25 : callB Tryd.prog 25 = true := by kernel_rfl
theorem call_26 : callB Tryd.prog 26 = true := by kernel_rfl
theorem call_27 : callB Tryd.prog 27 = true := by kernel_rfl
theorem call_28 : callB Tryd.prog 28 = true := by kernel_rfl
theorem call_29 : callB Tryd.prog 29 = true := by kernel_rfl
theorem call_30 : callB Tryd.prog 30 = true := by kernel_rfl
theorem call_31 : callB Tryd.prog 31 = true := by kernel_rfl
theorem call_33 : callB Tryd.prog 33 = true := by kernel_rfl
theorem call_34 : callB Tryd.prog 34 = true := by kernel_rfl
theorem call_35 : callB Tryd.prog 35 = true := by kernel_rfl
theorem call_36 : callB Tryd.prog 36 = true := by kernel_rfl
theorem call_37 : callB Tryd.prog 37 = true := by kernel_rfl
theorem call_39 : callB Tryd.prog 39 = true := by kernel_rfl
theorem call_4 : callB Tryd.prog 4 = true := by kernel_rfl
theorem call_40 : callB Tryd.prog 40 = true := by kernel_rfl
theorem call_41 : callB Tryd.prog 41 = true := by kernel_rfl
theorem call_42 : callB Tryd.prog 42 = true := by kernel_rfl
theorem call_43 : callB Tryd.prog 43 = true := by kernel_rfl
theorem call_44 : callB Tryd.prog 44 = true := by kernel_rfl
theorem call_45 : callB Tryd.prog 45 = true := by kernel_rfl
theorem call_5 : callB Tryd.prog 5 = true := by kernel_rfl
theorem call_50 : callB Tryd.prog 50 = true := by kernel_rfl
theorem call_51 : callB Tryd.prog 51 = true := by kernel_rfl
theorem call_6 : callB Tryd.prog 6 = true := by kernel_rfl
theorem call_7 : callB Tryd.prog 7 = true := by kernel_rfl
theorem call_76 : callB Tryd.prog 76 = true := by kernel_rfl
theorem call_77 : callB Tryd.prog 77 = true := by kernel_rfl
theorem call_78 : callB Tryd.prog 78 = true := by kernel_rfl
theorem call_79 : callB Tryd.prog 79 = true := by kernel_rfl
theorem call_8 : callB Tryd.prog 8 = true := by kernel_rfl
theorem call_80 : callB Tryd.prog 80 = true := by kernel_rfl
theorem call_81 : callB Tryd.prog 81 = true := by kernel_rfl
theorem call_82 : callB Tryd.prog 82 = true := by kernel_rfl
theorem call_9 : callB Tryd.prog 9 = true := by kernel_rfl
theorem conc_92 : concB Tryd.prog 92 = true := by kernel_rfl
theorem conc_96 : concB Tryd.prog 96 = true := by kernel_rfl
theorem eqs_53 : eqStB Tryd.prog 53 [0, 0] = true := by kernel_rfl
theorem fld_25_0 : fieldAtB Tryd.prog 25 0 = some (0, 22) := by kernel_rfl
theorem fld_25_1 : fieldAtB Tryd.prog 25 1 = some (1, 3) := by kernel_rfl
theorem fld_30_0 : fieldAtB Tryd.prog 30 0 = some (0, 3) := by kernel_rfl
theorem fld_30_1 : fieldAtB Tryd.prog 30 1 = some (1, 3) := by kernel_rfl
theorem fld_30_2 : fieldAtB Tryd.prog 30 2 = some (2, 3) := by kernel_rfl
theorem fld_30_3 : fieldAtB Tryd.prog 30 3 = some (3, 26) := by kernel_rfl
theorem fld_30_4 : fieldAtB Tryd.prog 30 4 = some (4, 27) := by kernel_rfl
theorem fld_30_5 : fieldAtB Tryd.prog 30 5 = some (5, 28) := by kernel_rfl
theorem fld_38_1 : fieldAtB Tryd.prog 38 1 = some (1, 36) := by kernel_rfl
theorem fld_40_0 : fieldAtB Tryd.prog 40 0 = some (0, 3) := by kernel_rfl
theorem fld_40_1 : fieldAtB Tryd.prog 40 1 = some (1, 3) := by kernel_rfl
theorem fld_42_0 : fieldAtB Tryd.prog 42 0 = some (0, 40) := by kernel_rfl
theorem fld_53_0 : fieldAtB Tryd.prog 53 0 = some (0, 3) := by kernel_rfl
theorem fld_53_1 : fieldAtB Tryd.prog 53 1 = some (1, 3) := by kernel_rfl
theorem fld_60_0 : fieldAtB Tryd.prog 60 0 = some (0, 3) := by kernel_rfl
theorem fld_60_1 : fieldAtB Tryd.prog 60 1 = some (1, 3) := by kernel_rfl
theorem fld_60_2 : fieldAtB Tryd.prog 60 2 = some (2, 3) := by kernel_rfl
theorem fld_62_0 : fieldAtB Tryd.prog 62 0 = some (0, 3) := by kernel_rfl
theorem fld_62_1 : fieldAtB Tryd.prog 62 1 = some (1, 3) := by kernel_rfl
theorem fld_62_2 : fieldAtB Tryd.prog 62 2 = some (2, 3) := by kernel_rfl
theorem fld_62_3 : fieldAtB Tryd.prog 62 3 = some (3, 3) := by kernel_rfl
theorem fld_62_4 : fieldAtB Tryd.prog 62 4 = some (4, 3) := by kernel_rfl
theorem fld_65_0 : fieldAtB Tryd.prog 65 0 = some (0, 9) := by kernel_rfl
theorem fld_65_1 : fieldAtB Tryd.prog 65 1 = some (1, 4) := by kernel_rfl
theorem fld_65_2 : fieldAtB Tryd.prog 65 2 = some (2, 3) := by kernel_rfl
theorem fld_65_3 : fieldAtB Tryd.prog 65 3 = some (3, 3) := by kernel_rfl
theorem fld_73_0 : fieldAtB Tryd.prog 73 0 = some (0, 30) := by kernel_rfl
theorem fld_73_1 : fieldAtB Tryd.prog 73 1 = some (6, 71) := by kernel_rfl
theorem fld_73_2 : fieldAtB Tryd.prog 73 2 = some (7, 71) := by kernel_rfl
theorem fld_73_3 : fieldAtB Tryd.prog 73 3 = some (8, 71) := by kernel_rfl
theorem fld_96_0 : fieldAtB Tryd.prog 96 0 = some (0, 3) := by kernel_rfl
theorem fld_96_1 : fieldAtB Tryd.prog 96 1 = some (1, 3) := by kernel_rfl
theorem fld_96_2 : fieldAtB Tryd.prog 96 2 = some (2, 3) := by kernel_rfl
theorem meth_92_Len : methB Tryd.prog 92 "Len" 40 false = true := by kernel_rfl
theorem meth_92_Less : methB Tryd.prog 92 "Less" 76 false = true := by kernel_rfl
theorem meth_92_Pop : methB Tryd.prog 92 "Pop" 77 true = true := by kernel_rfl
theorem meth_92_Push : methB Tryd.prog 92 "Push" 78 true = true := by kernel_rfl
theorem meth_92_Swap : methB Tryd.prog 92 "Swap" 79 false = true := by kernel_rfl
theorem mixed : Tryd.prog.follows .mixedOrders = true := by kernel_rfl
theorem one_22 : oneB Tryd.prog 22 = true := by kernel_rfl
theorem one_26 : oneB Tryd.prog 26 = true := by kernel_rfl
theorem one_27 : oneB Tryd.prog 27 = true := by kernel_rfl
theorem one_28 : oneB Tryd.prog 28 = true := by kernel_rfl
theorem one_3 : oneB Tryd.prog 3 = true := by kernel_rfl
theorem one_34 : oneB Tryd.prog 34 = true := by kernel_rfl
theorem one_36 : oneB Tryd.prog 36 = true := by kernel_rfl
theorem one_4 : oneB Tryd.prog 4 = true := by kernel_rfl
theorem one_51 : oneB Tryd.prog 51 = true := by kernel_rfl
theorem one_71 : oneB Tryd.prog 71 = true := by kernel_rfl
theorem one_89 : oneB Tryd.prog 89 = true := by kernel_rfl
theorem one_9 : oneB Tryd.prog 9 = true := by kernel_rfl
theorem one_94 : oneB Tryd.prog 94 = true := by kernel_rfl
theorem sl_22 : sliceB Tryd.prog 22 = some (3, 1, 8) := by kernel_rfl
theorem sl_26 : sliceB Tryd.prog 26 = some (60, 3, 24) := by kernel_rfl
theorem sl_27 : sliceB Tryd.prog 27 = some (62, 5, 40) := by kernel_rfl
theorem sl_28 : sliceB Tryd.prog 28 = some (65, 4, 40) := by kernel_rfl
theorem sl_34 : sliceB Tryd.prog 34 = some (38, 2, 40) := by kernel_rfl
theorem sl_36 : sliceB Tryd.prog 36 = some (42, 6, 48) := by kernel_rfl
theorem sl_43 : sliceB Tryd.prog 43 = some (51, 1, 24) := by kernel_rfl
theorem sl_51 : sliceB Tryd.prog 51 = some (53, 2, 16) := by kernel_rfl
theorem sl_94 : sliceB Tryd.prog 94 = some (96, 3, 24) := by kernel_rfl
theorem sz_51 : (Tryd.prog.info? 51).map (·.size) = some 1 := by kernel_rfl
theorem sz_96 : (Tryd.prog.info? 96).map (·.size) = some 3 := by kernel_rfl
theorem ub_4 : Tryd.prog.underlying 4 = some .bool := by kernel_rfl
theorem ui_3 : Tryd.prog.underlying 3 = some (.int .i64) := by kernel_rfl
theorem um_71 : Tryd.prog.underlying 71 = some (.map 53 3) := by kernel_rfl
theorem um_84 : Tryd.prog.underlying 84 = some (.map 3 4) := by kernel_rfl
theorem um_89 : Tryd.prog.underlying 89 = some (.map 3 3) := by kernel_rfl
theorem us_9 : Tryd.prog.underlying 9 = some .string := by kernel_rfl
theorem usl_22 : Tryd.prog.underlying 22 = some (.slice 3) := by kernel_rfl
theorem usl_26 : Tryd.prog.underlying 26 = some (.slice 60) := by kernel_rfl
theorem usl_27 : Tryd.prog.underlying 27 = some (.slice 62) := by kernel_rfl
theorem usl_28 : Tryd.prog.underlying 28 = some (.slice 65) := by kernel_rfl
theorem usl_34 : Tryd.prog.underlying 34 = some (.slice 38) := by kernel_rfl
theorem usl_36 : Tryd.prog.underlying 36 = some (.slice 42) := by kernel_rfl
theorem usl_43 : Tryd.prog.underlying 43 = some (.slice 51) := by kernel_rfl
theorem usl_51 : Tryd.prog.underlying 51 = some (.slice 53) := by kernel_rfl
theorem usl_94 : Tryd.prog.underlying 94 = some (.slice 96) := by kernel_rfl
theorem zero_3 : zeroB Tryd.prog 3 = some [.int .i64 0] := by kernel_rfl
theorem zero_30 : zeroB Tryd.prog 30 = some [.int .i64 0, .int .i64 0, .int .i64 0, .slice none 0 0, .slice none 0 0, .slice none 0 0] := by kernel_rfl
theorem zero_34 : zeroB Tryd.prog 34 = some [.slice none 0 0] := by kernel_rfl
theorem zero_38 : zeroB Tryd.prog 38 = some [.string ⟨#[]⟩, .slice none 0 0] := by kernel_rfl
theorem zero_42 : zeroB Tryd.prog 42 = some [.int .i64 0, .int .i64 0, .int .i64 0, .int .i64 0, .bool false, .int .i64 0] := by kernel_rfl
theorem zero_51 : zeroB Tryd.prog 51 = some [.slice none 0 0] := by kernel_rfl
theorem zero_53 : zeroB Tryd.prog 53 = some [.int .i64 0, .int .i64 0] := by kernel_rfl
theorem zero_60 : zeroB Tryd.prog 60 = some [.int .i64 0, .int .i64 0, .int .i64 0] := by kernel_rfl
theorem zero_62 : zeroB Tryd.prog 62 = some [.int .i64 0, .int .i64 0, .int .i64 0, .int .i64 0, .int .i64 0] := by kernel_rfl
theorem zero_65 : zeroB Tryd.prog 65 = some [.string ⟨#[]⟩, .bool false, .int .i64 0, .int .i64 0] := by kernel_rfl
theorem zero_89 : zeroB Tryd.prog 89 = some [.map none] := by kernel_rfl
theorem zero_96 : zeroB Tryd.prog 96 = some [.int .i64 0, .int .i64 0, .int .i64 0] := by kernel_rfl
theorem zv_3 : ((Tryd.prog.info? 3).bind fun i => i.zero) = some (.int .i64 0) := by kernel_rfl
theorem zv_4 : ((Tryd.prog.info? 4).bind fun i => i.zero) = some (.bool false) := by kernel_rfl

end Go.Proofs.YtgmjhlpjlggpiaaDoor.X
