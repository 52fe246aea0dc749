/- Closed facts on the loaded program's types and functions, each by the kernel. -/
import Derived.Test.YtlolchgeedegdaaDoorProg
import Derived.Test.YtlolchgeedegdaaDoorYH
namespace Go.Proofs.YtlolchgeedegdaaDoor.X
open Go Go.RowKit
set_option linter.unusedVariables false
set_option linter.unusedSimpArgs false

theorem agg_101 : aggB Tryd.prog 101 5 = true := by kernel_rfl
theorem agg_123 : aggB Tryd.prog 123 5 = true := by kernel_rfl
theorem agg_181 : aggB Tryd.prog 181 4 = true := by kernel_rfl
theorem agg_91 : aggB Tryd.prog 91 8 = true := by kernel_rfl
theorem agg_98 : aggB Tryd.prog 98 6 = true := by kernel_rfl
theorem bld_101 : structB Tryd.prog 101 = some ([(0, 1), (1, 1), (2, 1), (3, 1), (4, 1)], [.int .i64 0, .int .i64 0, .int .i64 0, .bool false, .int .i64 0]) := by kernel_rfl
theorem bld_123 : structB Tryd.prog 123 = some ([(0, 1), (1, 1), (2, 1), (3, 1), (4, 1)], [.int .i64 0, .int .i64 0, .int .i64 0, .int .i64 0, .int .i64 0]) := by kernel_rfl
theorem bld_181 : structB Tryd.prog 181 = some ([(0, 1), (1, 1), (2, 1), (3, 1)], [.int .i64 0, .int .i64 0, .int .i64 0, .int .i64 0]) := by kernel_rfl
theorem bld_25 : structB Tryd.prog 25 = some ([(0, 1), (1, 1)], [.slice none 0 0, .int .i64 0]) := by kernel_rfl
theorem bld_91 : structB Tryd.prog 91 = some ([(0, 1), (1, 1), (2, 1), (3, 1), (4, 1), (5, 1), (6, 1), (7, 1)], [.int .i64 0, .int .i64 0, .int .i64 0, .int .i64 0, .slice none 0 0, .slice none 0 0, .slice none 0 0, .slice none 0 0]) := by kernel_rfl
theorem bld_98 : structB Tryd.prog 98 = some ([(0, 1), (1, 1), (2, 1), (3, 1), (4, 1), (5, 1)], [.int .i64 0, .int .i64 0, .int .i64 0, .int .i64 0, .int .i64 0, .int .i64 0]) := by kernel_rfl
theorem bldf_101 : fieldsB Tryd.prog 101 = true := by kernel_rfl
theorem bldf_123 : fieldsB Tryd.prog 123 = true := by kernel_rfl
theorem bldf_181 : fieldsB Tryd.prog 181 = true := by kernel_rfl
theorem bldf_25 : fieldsB Tryd.prog 25 = true := by kernel_rfl
theorem bldf_91 : fieldsB Tryd.prog 91 = true := by kernel_rfl
theorem bldf_98 : fieldsB Tryd.prog 98 = true := by kernel_rfl
theorem call_13 : callB Tryd.prog 13 = true := by kernel_rfl
theorem call_139 : callB Tryd.prog 139 = true := by kernel_rfl
theorem call_140 : callB Tryd.prog 140 = true := by kernel_rfl
theorem call_141 : callB Tryd.prog 141 = true := by kernel_rfl
theorem call_142 : callB Tryd.prog 142 = true := by kernel_rfl
theorem call_18 : callB Tryd.prog 18 = true := by kernel_rfl
theorem call_24 : callB Tryd.prog 24 = true := by kernel_rfl
theorem call_30 : callB Tryd.prog 30 = true := by kernel_rfl
theorem call_31 : callB Tryd.prog 31 = true := by kernel_rfl
theorem call_33 : callB Tryd.prog 33 = true := by kernel_rfl
theorem call_34 : callB Tryd.prog 34 = true := by kernel_rfl
theorem call_35 : callB Tryd.prog 35 = true := by kernel_rfl
theorem call_36 : callB Tryd.prog 36 = true := by kernel_rfl
theorem call_68 : callB Tryd.prog 68 = true := by kernel_rfl
theorem call_71 : callB Tryd.prog 71 = true := by kernel_rfl
theorem call_80 : callB Tryd.prog 80 = true := by kernel_rfl
theorem call_81 : callB Tryd.prog 81 = true := by kernel_rfl
theorem call_84 : callB Tryd.prog 84 = true := by kernel_rfl
theorem call_85 : callB Tryd.prog 85 = true := by kernel_rfl
theorem call_86 : callB Tryd.prog 86 = true := by kernel_rfl
theorem call_87 : callB Tryd.prog 87 = true := by kernel_rfl
theorem call_88 : callB Tryd.prog 88 = true := by kernel_rfl
theorem call_89 : callB Tryd.prog 89 = true := by kernel_rfl
theorem call_90 : callB Tryd.prog 90 = true := by kernel_rfl
theorem call_91 : callB Tryd.prog 91 = true := by kernel_rfl
theorem call_93 : callB Tryd.prog 93 = true := by kernel_rfl
theorem fld_101_0 : fieldAtB Tryd.prog 101 0 = some (0, 3) := by kernel_rfl
theorem fld_101_1 : fieldAtB Tryd.prog 101 1 = some (1, 3) := by kernel_rfl
theorem fld_101_2 : fieldAtB Tryd.prog 101 2 = some (2, 3) := by kernel_rfl
theorem fld_101_3 : fieldAtB Tryd.prog 101 3 = some (3, 4) := by kernel_rfl
theorem fld_101_4 : fieldAtB Tryd.prog 101 4 = some (4, 3) := by kernel_rfl
theorem fld_123_0 : fieldAtB Tryd.prog 123 0 = some (0, 3) := by kernel_rfl
theorem fld_123_1 : fieldAtB Tryd.prog 123 1 = some (1, 3) := by kernel_rfl
theorem fld_123_2 : fieldAtB Tryd.prog 123 2 = some (2, 3) := by kernel_rfl
theorem fld_123_3 : fieldAtB Tryd.prog 123 3 = some (3, 3) := by kernel_rfl
theorem fld_123_4 : fieldAtB Tryd.prog 123 4 = some (4, 3) := by kernel_rfl
theorem fld_181_0 : fieldAtB Tryd.prog 181 0 = some (0, 3) := by kernel_rfl
theorem fld_181_1 : fieldAtB Tryd.prog 181 1 = some (1, 3) := by kernel_rfl
theorem fld_181_2 : fieldAtB Tryd.prog 181 2 = some (2, 3) := by kernel_rfl
theorem fld_181_3 : fieldAtB Tryd.prog 181 3 = some (3, 3) := by kernel_rfl
theorem fld_25_0 : fieldAtB Tryd.prog 25 0 = some (0, 22) := by kernel_rfl
theorem fld_25_1 : fieldAtB Tryd.prog 25 1 = some (1, 3) := by kernel_rfl
theorem fld_91_0 : fieldAtB Tryd.prog 91 0 = some (0, 3) := by kernel_rfl
theorem fld_91_1 : fieldAtB Tryd.prog 91 1 = some (1, 3) := by kernel_rfl
theorem fld_91_2 : fieldAtB Tryd.prog 91 2 = some (2, 3) := by kernel_rfl
theorem fld_91_3 : fieldAtB Tryd.prog 91 3 = some (3, 3) := by kernel_rfl
theorem fld_91_4 : fieldAtB Tryd.prog 91 4 = some (4, 86) := by kernel_rfl
theorem fld_91_5 : fieldAtB Tryd.prog 91 5 = some (5, 87) := by kernel_rfl
theorem fld_91_6 : fieldAtB Tryd.prog 91 6 = some (6, 88) := by kernel_rfl
theorem fld_91_7 : fieldAtB Tryd.prog 91 7 = some (7, 89) := by kernel_rfl
theorem fld_98_0 : fieldAtB Tryd.prog 98 0 = some (0, 3) := by kernel_rfl
theorem fld_98_1 : fieldAtB Tryd.prog 98 1 = some (1, 3) := by kernel_rfl
theorem fld_98_2 : fieldAtB Tryd.prog 98 2 = some (2, 3) := by kernel_rfl
theorem fld_98_3 : fieldAtB Tryd.prog 98 3 = some (3, 3) := by kernel_rfl
theorem fld_98_4 : fieldAtB Tryd.prog 98 4 = some (4, 3) := by kernel_rfl
theorem fld_98_5 : fieldAtB Tryd.prog 98 5 = some (5, 3) := by kernel_rfl
theorem mixed : Tryd.prog.follows .mixedOrders = true := by kernel_rfl
theorem one_22 : oneB Tryd.prog 22 = true := by kernel_rfl
theorem one_3 : oneB Tryd.prog 3 = true := by kernel_rfl
theorem one_4 : oneB Tryd.prog 4 = true := by kernel_rfl
theorem one_86 : oneB Tryd.prog 86 = true := by kernel_rfl
theorem one_87 : oneB Tryd.prog 87 = true := by kernel_rfl
theorem one_88 : oneB Tryd.prog 88 = true := by kernel_rfl
theorem one_89 : oneB Tryd.prog 89 = true := by kernel_rfl
theorem one_9 : oneB Tryd.prog 9 = true := by kernel_rfl
theorem sl_22 : sliceB Tryd.prog 22 = some (3, 1, 8) := by kernel_rfl
theorem sl_26 : sliceB Tryd.prog 26 = some (9, 1, 16) := by kernel_rfl
theorem sl_86 : sliceB Tryd.prog 86 = some (98, 6, 48) := by kernel_rfl
theorem sl_87 : sliceB Tryd.prog 87 = some (181, 4, 32) := by kernel_rfl
theorem sl_88 : sliceB Tryd.prog 88 = some (101, 5, 40) := by kernel_rfl
theorem sl_89 : sliceB Tryd.prog 89 = some (123, 5, 40) := by kernel_rfl
theorem sz_9 : (Tryd.prog.info? 9).map (·.size) = some 1 := by kernel_rfl
theorem uif_174 : Tryd.prog.underlying 174 = some (.interface (Tryd.prog.methodsAt 174)) := by kernel_rfl
theorem us_9 : Tryd.prog.underlying 9 = some .string := by kernel_rfl
theorem usl_22 : Tryd.prog.underlying 22 = some (.slice 3) := by kernel_rfl
theorem usl_26 : Tryd.prog.underlying 26 = some (.slice 9) := by kernel_rfl
theorem usl_86 : Tryd.prog.underlying 86 = some (.slice 98) := by kernel_rfl
theorem usl_87 : Tryd.prog.underlying 87 = some (.slice 181) := by kernel_rfl
theorem usl_88 : Tryd.prog.underlying 88 = some (.slice 101) := by kernel_rfl
theorem usl_89 : Tryd.prog.underlying 89 = some (.slice 123) := by kernel_rfl
theorem zero_101 : zeroB Tryd.prog 101 = some [.int .i64 0, .int .i64 0, .int .i64 0, .bool false, .int .i64 0] := by kernel_rfl
theorem zero_123 : zeroB Tryd.prog 123 = some [.int .i64 0, .int .i64 0, .int .i64 0, .int .i64 0, .int .i64 0] := by kernel_rfl
theorem zero_171 : zeroB Tryd.prog 171 = some [.pointer none, .slice none 0 0] := by kernel_rfl
theorem zero_181 : zeroB Tryd.prog 181 = some [.int .i64 0, .int .i64 0, .int .i64 0, .int .i64 0] := by kernel_rfl
theorem zero_3 : zeroB Tryd.prog 3 = some [.int .i64 0] := by kernel_rfl
theorem zero_91 : zeroB Tryd.prog 91 = some [.int .i64 0, .int .i64 0, .int .i64 0, .int .i64 0, .slice none 0 0, .slice none 0 0, .slice none 0 0, .slice none 0 0] := by kernel_rfl
theorem zero_98 : zeroB Tryd.prog 98 = some [.int .i64 0, .int .i64 0, .int .i64 0, .int .i64 0, .int .i64 0, .int .i64 0] := by kernel_rfl

end Go.Proofs.YtlolchgeedegdaaDoor.X
