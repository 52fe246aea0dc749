/- Closed facts on the loaded program's types and functions, each by the kernel. -/
import Derived.Test.YtfkncjfpgflafaaDoorProg
import Derived.Test.YtfkncjfpgflafaaDoorYH
namespace Go.Proofs.YtfkncjfpgflafaaDoor.X
open Go Go.RowKit
set_option linter.unusedVariables false
set_option linter.unusedSimpArgs false

theorem agg_106 : aggB Tryd.prog 106 3 = true := by kernel_rfl
theorem agg_30 : aggB Tryd.prog 30 6 = true := by kernel_rfl
theorem agg_36 : aggB Tryd.prog 36 2 = true := by kernel_rfl
theorem agg_46 : aggB Tryd.prog 46 2 = true := by kernel_rfl
theorem agg_68 : aggB Tryd.prog 68 3 = true := by kernel_rfl
theorem agg_70 : aggB Tryd.prog 70 5 = true := by kernel_rfl
theorem agg_73 : aggB Tryd.prog 73 4 = true := by kernel_rfl
theorem agg_88 : aggB Tryd.prog 88 2 = true := by kernel_rfl
theorem bld_106 : structB Tryd.prog 106 = some ([(0, 1), (1, 2)], [.int .i64 0, .int .i64 0, .int .i64 0]) := by kernel_rfl
theorem bld_25 : structB Tryd.prog 25 = some ([(0, 1), (1, 1)], [.slice none 0 0, .int .i64 0]) := by kernel_rfl
theorem bld_30 : structB Tryd.prog 30 = some ([(0, 1), (1, 1), (2, 1), (3, 1), (4, 1), (5, 1)], [.int .i64 0, .int .i64 0, .int .i64 0, .slice none 0 0, .slice none 0 0, .slice none 0 0]) := by kernel_rfl
theorem bld_36 : structB Tryd.prog 36 = some ([(0, 1), (1, 1)], [.int .i64 0, .int .i64 0]) := by kernel_rfl
theorem bld_46 : structB Tryd.prog 46 = some ([(0, 1), (1, 1)], [.int .i64 0, .int .i64 0]) := by kernel_rfl
theorem bld_68 : structB Tryd.prog 68 = some ([(0, 1), (1, 1), (2, 1)], [.int .i64 0, .int .i64 0, .int .i64 0]) := by kernel_rfl
theorem bld_70 : structB Tryd.prog 70 = some ([(0, 1), (1, 1), (2, 1), (3, 1), (4, 1)], [.int .i64 0, .int .i64 0, .int .i64 0, .int .i64 0, .int .i64 0]) := by kernel_rfl
theorem bld_73 : structB Tryd.prog 73 = some ([(0, 1), (1, 1), (2, 1), (3, 1)], [.string ⟨#[]⟩, .bool false, .int .i64 0, .int .i64 0]) := by kernel_rfl
theorem bld_88 : structB Tryd.prog 88 = some ([(0, 1), (1, 1)], [.int .i64 0, .int .i64 0]) := by kernel_rfl
theorem bldf_106 : fieldsB Tryd.prog 106 = true := by kernel_rfl
theorem bldf_25 : fieldsB Tryd.prog 25 = true := by kernel_rfl
theorem bldf_30 : fieldsB Tryd.prog 30 = true := by kernel_rfl
theorem bldf_36 : fieldsB Tryd.prog 36 = true := by kernel_rfl
theorem bldf_46 : fieldsB Tryd.prog 46 = true := by kernel_rfl
theorem bldf_68 : fieldsB Tryd.prog 68 = true := by kernel_rfl
theorem bldf_70 : fieldsB Tryd.prog 70 = true := by kernel_rfl
theorem bldf_73 : fieldsB Tryd.prog 73 = true := by kernel_rfl
theorem bldf_88 : fieldsB Tryd.prog 88 = true := by kernel_rfl
theorem call_10 : callB Tryd.prog 10 = true := by kernel_rfl
theorem call_11 : callB Tryd.prog 11 = true := by kernel_rfl
theorem call_12 : callB Tryd.prog 12 = true := by kernel_rfl
theorem call_13 : callB Tryd.prog 13 = true := by kernel_rfl
theorem call_21 : callB Tryd.prog 21 = true := by kernel_rfl
theorem call_22 : callB Tryd.prog 22 = true := by kernel_rfl
theorem call_23 : callB Tryd.prog 23 = true := by kernel_rfl
theorem call_24 : callB Tryd.prog 24 = true := by kernel_rfl
theorem call_25 : callB Tryd.prog 25 = true := by kernel_rfl
theorem call_26 : callB Tryd.prog 26 = true := by kernel_rfl
theorem call_27 : callB Tryd.prog 27 = true := by kernel_rfl
theorem call_28 : callB Tryd.prog 28 = true := by kernel_rfl
theorem call_29 : callB Tryd.prog 29 = true := by kernel_rfl
theorem call_30 : callB Tryd.prog 30 = true := by kernel_rfl
theorem call_42 : callB Tryd.prog 42 = true := by kernel_rfl
theorem call_43 : callB Tryd.prog 43 = true := by kernel_rfl
theorem call_44 : callB Tryd.prog 44 = true := by kernel_rfl
theorem call_45 : callB Tryd.prog 45 = true := by kernel_rfl
theorem call_46 : callB Tryd.prog 46 = true := by kernel_rfl
theorem call_47 : callB Tryd.prog 47 = true := by kernel_rfl
theorem call_48 : callB Tryd.prog 48 = true := by kernel_rfl
theorem call_49 : callB Tryd.prog 49 = true := by kernel_rfl
theorem call_5 : callB Tryd.prog 5 = true := by kernel_rfl
theorem call_50 : callB Tryd.prog 50 = true := by kernel_rfl
theorem call_51 : callB Tryd.prog 51 = true := by kernel_rfl
theorem call_52 : callB Tryd.prog 52 = true := by kernel_rfl
theorem call_58 : callB Tryd.prog 58 = true := by kernel_rfl
theorem call_59 : callB Tryd.prog 59 = true := by kernel_rfl
theorem call_6 : callB Tryd.prog 6 = true := by kernel_rfl
theorem call_7 : callB Tryd.prog 7 = true := by kernel_rfl
theorem call_71 : callB Tryd.prog 71 = true := by kernel_rfl
theorem call_72 : callB Tryd.prog 72 = true := by kernel_rfl
theorem call_8 : callB Tryd.prog 8 = true := by kernel_rfl
theorem call_80 : callB Tryd.prog 80 = true := by kernel_rfl
theorem call_83 : callB Tryd.prog 83 = true := by kernel_rfl
theorem call_9 : callB Tryd.prog 9 = true := by kernel_rfl
theorem fld_106_0 : fieldAtB Tryd.prog 106 0 = some (0, 3) := by kernel_rfl
theorem fld_106_1 : fieldAtB Tryd.prog 106 1 = some (1, 46) := by kernel_rfl
theorem fld_25_0 : fieldAtB Tryd.prog 25 0 = some (0, 22) := by kernel_rfl
theorem fld_25_1 : fieldAtB Tryd.prog 25 1 = some (1, 3) := by kernel_rfl
theorem fld_30_0 : fieldAtB Tryd.prog 30 0 = some (0, 3) := by kernel_rfl
theorem fld_30_1 : fieldAtB Tryd.prog 30 1 = some (1, 3) := by kernel_rfl
theorem fld_30_2 : fieldAtB Tryd.prog 30 2 = some (2, 3) := by kernel_rfl
theorem fld_30_3 : fieldAtB Tryd.prog 30 3 = some (3, 26) := by kernel_rfl
theorem fld_30_4 : fieldAtB Tryd.prog 30 4 = some (4, 27) := by kernel_rfl
theorem fld_30_5 : fieldAtB Tryd.prog 30 5 = some (5, 28) := by kernel_rfl
theorem fld_36_0 : fieldAtB Tryd.prog 36 0 = some (0, 3) := by kernel_rfl
theorem fld_36_1 : fieldAtB Tryd.prog 36 1 = some (1, 3) := by kernel_rfl
theorem fld_46_0 : fieldAtB Tryd.prog 46 0 = some (0, 3) := by kernel_rfl
theorem fld_46_1 : fieldAtB Tryd.prog 46 1 = some (1, 3) := by kernel_rfl
theorem fld_68_0 : fieldAtB Tryd.prog 68 0 = some (0, 3) := by kernel_rfl
theorem fld_68_1 : fieldAtB Tryd.prog 68 1 = some (1, 3) := by kernel_rfl
theorem fld_68_2 : fieldAtB Tryd.prog 68 2 = some (2, 3) := by kernel_rfl
theorem fld_70_0 : fieldAtB Tryd.prog 70 0 = some (0, 3) := by kernel_rfl
theorem fld_70_1 : fieldAtB Tryd.prog 70 1 = some (1, 3) := by kernel_rfl
theorem fld_70_2 : fieldAtB Tryd.prog 70 2 = some (2, 3) := by kernel_rfl
theorem fld_70_3 : fieldAtB Tryd.prog 70 3 = some (3, 3) := by kernel_rfl
theorem fld_70_4 : fieldAtB Tryd.prog 70 4 = some (4, 3) := by kernel_rfl
theorem fld_73_0 : fieldAtB Tryd.prog 73 0 = some (0, 9) := by kernel_rfl
theorem fld_73_1 : fieldAtB Tryd.prog 73 1 = some (1, 4) := by kernel_rfl
theorem fld_73_2 : fieldAtB Tryd.prog 73 2 = some (2, 3) := by kernel_rfl
theorem fld_73_3 : fieldAtB Tryd.prog 73 3 = some (3, 3) := by kernel_rfl
theorem fld_88_0 : fieldAtB Tryd.prog 88 0 = some (0, 3) := by kernel_rfl
theorem fld_88_1 : fieldAtB Tryd.prog 88 1 = some (1, 3) := by kernel_rfl
theorem ik_153 : intB Tryd.prog 153 .u64 = true := by kernel_rfl
theorem ik_3 : intB Tryd.prog 3 .i64 = true := by kernel_rfl
theorem mixed : Tryd.prog.follows .mixedOrders = true := by kernel_rfl
theorem one_22 : oneB Tryd.prog 22 = true := by kernel_rfl
theorem one_26 : oneB Tryd.prog 26 = true := by kernel_rfl
theorem one_27 : oneB Tryd.prog 27 = true := by kernel_rfl
theorem one_28 : oneB Tryd.prog 28 = true := by kernel_rfl
theorem one_3 : oneB Tryd.prog 3 = true := by kernel_rfl
theorem one_32 : oneB Tryd.prog 32 = true := by kernel_rfl
theorem one_4 : oneB Tryd.prog 4 = true := by kernel_rfl
theorem one_85 : oneB Tryd.prog 85 = true := by kernel_rfl
theorem one_9 : oneB Tryd.prog 9 = true := by kernel_rfl
theorem sl_102 : sliceB Tryd.prog 102 = some (106, 3, 24) := by kernel_rfl
theorem sl_110 : sliceB Tryd.prog 110 = some (22, 1, 24) := by kernel_rfl
theorem sl_22 : sliceB Tryd.prog 22 = some (3, 1, 8) := by kernel_rfl
theorem sl_26 : sliceB Tryd.prog 26 = some (68, 3, 24) := by kernel_rfl
theorem sl_27 : sliceB Tryd.prog 27 = some (70, 5, 40) := by kernel_rfl
theorem sl_28 : sliceB Tryd.prog 28 = some (73, 4, 40) := by kernel_rfl
theorem sl_32 : sliceB Tryd.prog 32 = some (36, 2, 16) := by kernel_rfl
theorem sl_37 : sliceB Tryd.prog 37 = some (88, 2, 16) := by kernel_rfl
theorem sl_43 : sliceB Tryd.prog 43 = some (46, 2, 16) := by kernel_rfl
theorem sl_85 : sliceB Tryd.prog 85 = some (4, 1, 1) := by kernel_rfl
theorem sl_86 : sliceB Tryd.prog 86 = some (85, 1, 24) := by kernel_rfl
theorem sz_22 : (Tryd.prog.info? 22).map (·.size) = some 1 := by kernel_rfl
theorem sz_3 : (Tryd.prog.info? 3).map (·.size) = some 1 := by kernel_rfl
theorem sz_4 : (Tryd.prog.info? 4).map (·.size) = some 1 := by kernel_rfl
theorem sz_85 : (Tryd.prog.info? 85).map (·.size) = some 1 := by kernel_rfl
theorem sz_88 : (Tryd.prog.info? 88).map (·.size) = some 2 := by kernel_rfl
theorem ub_4 : Tryd.prog.underlying 4 = some .bool := by kernel_rfl
theorem uk_153 : (Tryd.prog.underlying 153).isSome = true := by kernel_rfl
theorem uk_3 : (Tryd.prog.underlying 3).isSome = true := by kernel_rfl
theorem us_9 : Tryd.prog.underlying 9 = some .string := by kernel_rfl
theorem usl_102 : Tryd.prog.underlying 102 = some (.slice 106) := by kernel_rfl
theorem usl_22 : Tryd.prog.underlying 22 = some (.slice 3) := by kernel_rfl
theorem usl_26 : Tryd.prog.underlying 26 = some (.slice 68) := by kernel_rfl
theorem usl_27 : Tryd.prog.underlying 27 = some (.slice 70) := by kernel_rfl
theorem usl_28 : Tryd.prog.underlying 28 = some (.slice 73) := by kernel_rfl
theorem usl_32 : Tryd.prog.underlying 32 = some (.slice 36) := by kernel_rfl
theorem usl_37 : Tryd.prog.underlying 37 = some (.slice 88) := by kernel_rfl
theorem usl_43 : Tryd.prog.underlying 43 = some (.slice 46) := by kernel_rfl
theorem usl_85 : Tryd.prog.underlying 85 = some (.slice 4) := by kernel_rfl
theorem usl_86 : Tryd.prog.underlying 86 = some (.slice 85) := by kernel_rfl
theorem zero_106 : zeroB Tryd.prog 106 = some [.int .i64 0, .int .i64 0, .int .i64 0] := by kernel_rfl
theorem zero_22 : zeroB Tryd.prog 22 = some [.slice none 0 0] := by kernel_rfl
theorem zero_3 : zeroB Tryd.prog 3 = some [.int .i64 0] := by kernel_rfl
theorem zero_30 : zeroB Tryd.prog 30 = some [.int .i64 0, .int .i64 0, .int .i64 0, .slice none 0 0, .slice none 0 0, .slice none 0 0] := by kernel_rfl
theorem zero_36 : zeroB Tryd.prog 36 = some [.int .i64 0, .int .i64 0] := by kernel_rfl
theorem zero_4 : zeroB Tryd.prog 4 = some [.bool false] := by kernel_rfl
theorem zero_46 : zeroB Tryd.prog 46 = some [.int .i64 0, .int .i64 0] := by kernel_rfl
theorem zero_68 : zeroB Tryd.prog 68 = some [.int .i64 0, .int .i64 0, .int .i64 0] := by kernel_rfl
theorem zero_70 : zeroB Tryd.prog 70 = some [.int .i64 0, .int .i64 0, .int .i64 0, .int .i64 0, .int .i64 0] := by kernel_rfl
theorem zero_73 : zeroB Tryd.prog 73 = some [.string ⟨#[]⟩, .bool false, .int .i64 0, .int .i64 0] := by kernel_rfl
theorem zero_85 : zeroB Tryd.prog 85 = some [.slice none 0 0] := by kernel_rfl
theorem zero_88 : zeroB Tryd.prog 88 = some [.int .i64 0, .int .i64 0] := by kernel_rfl

end Go.Proofs.YtfkncjfpgflafaaDoor.X
