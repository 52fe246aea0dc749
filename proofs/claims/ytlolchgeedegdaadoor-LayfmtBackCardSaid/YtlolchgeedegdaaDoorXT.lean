/- Closed facts on the loaded program's types and functions, each by the kernel. -/
import Derived.Test.YtlolchgeedegdaaDoorProg
import Derived.Test.YtlolchgeedegdaaDoorYH
namespace Go.Proofs.YtlolchgeedegdaaDoor.X
open Go Go.RowKit
set_option linter.unusedVariables false
set_option linter.unusedSimpArgs false

theorem agg_101 : aggB Tryd.prog 101 5 = true := by kernel_rfl
theorem agg_105 : aggB Tryd.prog 105 6 = true := by kernel_rfl
theorem agg_109 : aggB Tryd.prog 109 2 = true := by kernel_rfl
theorem agg_117 : aggB Tryd.prog 117 4 = true := by kernel_rfl
theorem agg_120 : aggB Tryd.prog 120 3 = true := by kernel_rfl
theorem agg_123 : aggB Tryd.prog 123 5 = true := by kernel_rfl
theorem agg_181 : aggB Tryd.prog 181 4 = true := by kernel_rfl
theorem agg_91 : aggB Tryd.prog 91 8 = true := by kernel_rfl
theorem agg_98 : aggB Tryd.prog 98 6 = true := by kernel_rfl
theorem bld_101 : structB Tryd.prog 101 = some ([(0, 1), (1, 1), (2, 1), (3, 1), (4, 1)], [.int .i64 0, .int .i64 0, .int .i64 0, .bool false, .int .i64 0]) := by kernel_rfl
theorem bld_105 : structB Tryd.prog 105 = some ([(0, 1), (1, 1), (2, 1), (3, 1), (4, 1), (5, 1)], [.int .i64 0, .int .i64 0, .int .i64 0, .slice none 0 0, .slice none 0 0, .slice none 0 0]) := by kernel_rfl
theorem bld_109 : structB Tryd.prog 109 = some ([(0, 1), (1, 1)], [.int .i64 0, .int .i64 0]) := by kernel_rfl
theorem bld_117 : structB Tryd.prog 117 = some ([(0, 1), (1, 1), (2, 1), (3, 1)], [.string ⟨#[]⟩, .bool false, .int .i64 0, .int .i64 0]) := by kernel_rfl
theorem bld_120 : structB Tryd.prog 120 = some ([(0, 1), (1, 1), (2, 1)], [.int .i64 0, .int .i64 0, .int .i64 0]) := by kernel_rfl
theorem bld_123 : structB Tryd.prog 123 = some ([(0, 1), (1, 1), (2, 1), (3, 1), (4, 1)], [.int .i64 0, .int .i64 0, .int .i64 0, .int .i64 0, .int .i64 0]) := by kernel_rfl
theorem bld_181 : structB Tryd.prog 181 = some ([(0, 1), (1, 1), (2, 1), (3, 1)], [.int .i64 0, .int .i64 0, .int .i64 0, .int .i64 0]) := by kernel_rfl
theorem bld_25 : structB Tryd.prog 25 = some ([(0, 1), (1, 1)], [.slice none 0 0, .int .i64 0]) := by kernel_rfl
theorem bld_91 : structB Tryd.prog 91 = some ([(0, 1), (1, 1), (2, 1), (3, 1), (4, 1), (5, 1), (6, 1), (7, 1)], [.int .i64 0, .int .i64 0, .int .i64 0, .int .i64 0, .slice none 0 0, .slice none 0 0, .slice none 0 0, .slice none 0 0]) := by kernel_rfl
theorem bld_98 : structB Tryd.prog 98 = some ([(0, 1), (1, 1), (2, 1), (3, 1), (4, 1), (5, 1)], [.int .i64 0, .int .i64 0, .int .i64 0, .int .i64 0, .int .i64 0, .int .i64 0]) := by kernel_rfl
theorem bldf_101 : fieldsB Tryd.prog 101 = true := by kernel_rfl
theorem bldf_105 : fieldsB Tryd.prog 105 = true := by kernel_rfl
theorem bldf_109 : fieldsB Tryd.prog 109 = true := by kernel_rfl
theorem bldf_117 : fieldsB Tryd.prog 117 = true := by kernel_rfl
theorem bldf_120 : fieldsB Tryd.prog 120 = true := by kernel_rfl
theorem bldf_123 : fieldsB Tryd.prog 123 = true := by kernel_rfl
theorem bldf_181 : fieldsB Tryd.prog 181 = true := by kernel_rfl
theorem bldf_25 : fieldsB Tryd.prog 25 = true := by kernel_rfl
theorem bldf_91 : fieldsB Tryd.prog 91 = true := by kernel_rfl
theorem bldf_98 : fieldsB Tryd.prog 98 = true := by kernel_rfl
theorem call_100 : callB Tryd.prog 100 = true := by kernel_rfl
theorem call_101 : callB Tryd.prog 101 = true := by kernel_rfl
theorem call_13 : callB Tryd.prog 13 = true := by kernel_rfl
theorem call_139 : callB Tryd.prog 139 = true := by kernel_rfl
theorem call_140 : callB Tryd.prog 140 = true := by kernel_rfl
theorem call_141 : callB Tryd.prog 141 = true := by kernel_rfl
theorem call_142 : callB Tryd.prog 142 = true := by kernel_rfl
theorem call_144 : callB Tryd.prog 144 = true := by kernel_rfl
theorem call_146 : callB Tryd.prog 146 = true := by kernel_rfl
theorem call_167 : callB Tryd.prog 167 = true := by kernel_rfl
theorem call_18 : callB Tryd.prog 18 = true := by kernel_rfl
theorem call_189 : callB Tryd.prog 189 = true := by kernel_rfl
theorem call_24 : callB Tryd.prog 24 = true := by kernel_rfl
theorem call_30 : callB Tryd.prog 30 = true := by kernel_rfl
theorem call_33 : callB Tryd.prog 33 = true := by kernel_rfl
theorem call_34 : callB Tryd.prog 34 = true := by kernel_rfl
theorem call_35 : callB Tryd.prog 35 = true := by kernel_rfl
theorem call_36 : callB Tryd.prog 36 = true := by kernel_rfl
theorem call_37 : callB Tryd.prog 37 = true := by kernel_rfl
theorem call_38 : callB Tryd.prog 38 = true := by kernel_rfl
theorem call_39 : callB Tryd.prog 39 = true := by kernel_rfl
theorem call_40 : callB Tryd.prog 40 = true := by kernel_rfl
theorem call_41 : callB Tryd.prog 41 = true := by kernel_rfl
theorem call_42 : callB Tryd.prog 42 = true := by kernel_rfl
theorem call_43 : callB Tryd.prog 43 = true := by kernel_rfl
theorem call_44 : callB Tryd.prog 44 = true := by kernel_rfl
theorem call_45 : callB Tryd.prog 45 = true := by kernel_rfl
theorem call_46 : callB Tryd.prog 46 = true := by kernel_rfl
theorem call_68 : callB Tryd.prog 68 = true := by kernel_rfl
theorem call_71 : callB Tryd.prog 71 = true := by kernel_rfl
theorem call_80 : callB Tryd.prog 80 = true := by kernel_rfl
theorem call_81 : callB Tryd.prog 81 = true := by kernel_rfl
theorem call_84 : callB Tryd.prog 84 = true := by kernel_rfl
theorem call_85 : callB Tryd.prog 85 = true := by kernel_rfl
theorem call_86 : callB Tryd.prog 86 = true := by kernel_rfl
theorem call_87 : callB Tryd.prog 87 = true := by kernel_rfl
theorem call_88 : callB Tryd.prog 88 = true := by kernel_rfl
theorem call_89 : callB Tryd.prog 89 = true := by kernel_rfl
theorem call_90 : callB Tryd.prog 90 = true := by kernel_rfl
theorem call_91 : callB Tryd.prog 91 = true := by kernel_rfl
theorem call_92 : callB Tryd.prog 92 = true := by kernel_rfl
theorem call_93 : callB Tryd.prog 93 = true := by kernel_rfl
theorem call_94 : callB Tryd.prog 94 = true := by kernel_rfl
theorem call_95 : callB Tryd.prog 95 = true := by kernel_rfl
theorem call_96 : callB Tryd.prog 96 = true := by kernel_rfl
theorem call_97 : callB Tryd.prog 97 = true := by kernel_rfl
theorem call_98 : callB Tryd.prog 98 = true := by kernel_rfl
theorem call_99 : callB Tryd.prog 99 = true := by kernel_rfl
theorem eqs_101 : eqStB Tryd.prog 101 [0, 0, 0, 1, 0] = true := by kernel_rfl
theorem eqs_109 : eqStB Tryd.prog 109 [0, 0] = true := by kernel_rfl
theorem eqs_117 : eqStB Tryd.prog 117 [2, 1, 0, 0] = true := by kernel_rfl
theorem eqs_120 : eqStB Tryd.prog 120 [0, 0, 0] = true := by kernel_rfl
theorem eqs_123 : eqStB Tryd.prog 123 [0, 0, 0, 0, 0] = true := by kernel_rfl
theorem eqs_98 : eqStB Tryd.prog 98 [0, 0, 0, 0, 0, 0] = true := by kernel_rfl
theorem fld_101_0 : fieldAtB Tryd.prog 101 0 = some (0, 3) := by kernel_rfl
theorem fld_101_1 : fieldAtB Tryd.prog 101 1 = some (1, 3) := by kernel_rfl
theorem fld_101_2 : fieldAtB Tryd.prog 101 2 = some (2, 3) := by kernel_rfl
theorem fld_101_3 : fieldAtB Tryd.prog 101 3 = some (3, 4) := by kernel_rfl
theorem fld_101_4 : fieldAtB Tryd.prog 101 4 = some (4, 3) := by kernel_rfl
theorem fld_105_0 : fieldAtB Tryd.prog 105 0 = some (0, 3) := by kernel_rfl
theorem fld_105_1 : fieldAtB Tryd.prog 105 1 = some (1, 3) := by kernel_rfl
theorem fld_105_2 : fieldAtB Tryd.prog 105 2 = some (2, 3) := by kernel_rfl
theorem fld_105_3 : fieldAtB Tryd.prog 105 3 = some (3, 102) := by kernel_rfl
theorem fld_105_4 : fieldAtB Tryd.prog 105 4 = some (4, 89) := by kernel_rfl
theorem fld_105_5 : fieldAtB Tryd.prog 105 5 = some (5, 103) := by kernel_rfl
theorem fld_109_0 : fieldAtB Tryd.prog 109 0 = some (0, 3) := by kernel_rfl
theorem fld_109_1 : fieldAtB Tryd.prog 109 1 = some (1, 3) := by kernel_rfl
theorem fld_117_0 : fieldAtB Tryd.prog 117 0 = some (0, 9) := by kernel_rfl
theorem fld_117_1 : fieldAtB Tryd.prog 117 1 = some (1, 4) := by kernel_rfl
theorem fld_117_2 : fieldAtB Tryd.prog 117 2 = some (2, 3) := by kernel_rfl
theorem fld_117_3 : fieldAtB Tryd.prog 117 3 = some (3, 3) := by kernel_rfl
theorem fld_120_0 : fieldAtB Tryd.prog 120 0 = some (0, 3) := by kernel_rfl
theorem fld_120_1 : fieldAtB Tryd.prog 120 1 = some (1, 3) := by kernel_rfl
theorem fld_120_2 : fieldAtB Tryd.prog 120 2 = some (2, 3) := by kernel_rfl
theorem fld_123_0 : fieldAtB Tryd.prog 123 0 = some (0, 3) := by kernel_rfl
theorem fld_123_1 : fieldAtB Tryd.prog 123 1 = some (1, 3) := by kernel_rfl
theorem fld_123_2 : fieldAtB Tryd.prog 123 2 = some (2, 3) := by kernel_rfl
theorem fld_123_3 : fieldAtB Tryd.prog 123 3 = some (3, 3) := by kernel_rfl
theorem fld_123_4 : fieldAtB Tryd.prog 123 4 = some (4, 3) := by kernel_rfl
theorem fld_181_0 : fieldAtB Tryd.prog 181 0 = some (0, 3) := by kernel_rfl
theorem fld_181_1 : fieldAtB Tryd.prog 181 1 = some (1, 3) := by kernel_rfl
theorem fld_181_2 : fieldAtB Tryd.prog 181 2 = some (2, 3) := by kernel_rfl
theorem fld_181_3 : fieldAtB Tryd.prog 181 3 = some (3, 3) := by kernel_rfl
theorem fld_25_0 : fieldAtB Tryd.prog 25 0 = some (0, 22) := by kernel_rfl
theorem fld_25_1 : fieldAtB Tryd.prog 25 1 = some (1, 3) := by kernel_rfl
theorem fld_91_0 : fieldAtB Tryd.prog 91 0 = some (0, 3) := by kernel_rfl
theorem fld_91_1 : fieldAtB Tryd.prog 91 1 = some (1, 3) := by kernel_rfl
theorem fld_91_2 : fieldAtB Tryd.prog 91 2 = some (2, 3) := by kernel_rfl
theorem fld_91_3 : fieldAtB Tryd.prog 91 3 = some (3, 3) := by kernel_rfl
theorem fld_91_4 : fieldAtB Tryd.prog 91 4 = some (4, 86) := by kernel_rfl
theorem fld_91_5 : fieldAtB Tryd.prog 91 5 = some (5, 87) := by kernel_rfl
theorem fld_91_6 : fieldAtB Tryd.prog 91 6 = some (6, 88) := by kernel_rfl
theorem fld_91_7 : fieldAtB Tryd.prog 91 7 = some (7, 89) := by kernel_rfl
theorem fld_98_0 : fieldAtB Tryd.prog 98 0 = some (0, 3) := by kernel_rfl
theorem fld_98_1 : fieldAtB Tryd.prog 98 1 = some (1, 3) := by kernel_rfl
theorem fld_98_2 : fieldAtB Tryd.prog 98 2 = some (2, 3) := by kernel_rfl
theorem fld_98_3 : fieldAtB Tryd.prog 98 3 = some (3, 3) := by kernel_rfl
theorem fld_98_4 : fieldAtB Tryd.prog 98 4 = some (4, 3) := by kernel_rfl
theorem fld_98_5 : fieldAtB Tryd.prog 98 5 = some (5, 3) := by kernel_rfl
theorem mixed : Tryd.prog.follows .mixedOrders = true := by kernel_rfl
theorem one_102 : oneB Tryd.prog 102 = true := by kernel_rfl
theorem one_103 : oneB Tryd.prog 103 = true := by kernel_rfl
theorem one_107 : oneB Tryd.prog 107 = true := by kernel_rfl
theorem one_22 : oneB Tryd.prog 22 = true := by kernel_rfl
theorem one_3 : oneB Tryd.prog 3 = true := by kernel_rfl
theorem one_4 : oneB Tryd.prog 4 = true := by kernel_rfl
theorem one_86 : oneB Tryd.prog 86 = true := by kernel_rfl
theorem one_87 : oneB Tryd.prog 87 = true := by kernel_rfl
theorem one_88 : oneB Tryd.prog 88 = true := by kernel_rfl
theorem one_89 : oneB Tryd.prog 89 = true := by kernel_rfl
theorem one_9 : oneB Tryd.prog 9 = true := by kernel_rfl
theorem sl_102 : sliceB Tryd.prog 102 = some (120, 3, 24) := by kernel_rfl
theorem sl_103 : sliceB Tryd.prog 103 = some (117, 4, 40) := by kernel_rfl
theorem sl_107 : sliceB Tryd.prog 107 = some (109, 2, 16) := by kernel_rfl
theorem sl_22 : sliceB Tryd.prog 22 = some (3, 1, 8) := by kernel_rfl
theorem sl_26 : sliceB Tryd.prog 26 = some (9, 1, 16) := by kernel_rfl
theorem sl_86 : sliceB Tryd.prog 86 = some (98, 6, 48) := by kernel_rfl
theorem sl_87 : sliceB Tryd.prog 87 = some (181, 4, 32) := by kernel_rfl
theorem sl_88 : sliceB Tryd.prog 88 = some (101, 5, 40) := by kernel_rfl
theorem sl_89 : sliceB Tryd.prog 89 = some (123, 5, 40) := by kernel_rfl
theorem ub_4 : Tryd.prog.underlying 4 = some .bool := by kernel_rfl
theorem uif_174 : Tryd.prog.underlying 174 = some (.interface (Tryd.prog.methodsAt 174)) := by kernel_rfl
theorem us_9 : Tryd.prog.underlying 9 = some .string := by kernel_rfl
theorem usl_102 : Tryd.prog.underlying 102 = some (.slice 120) := by kernel_rfl
theorem usl_103 : Tryd.prog.underlying 103 = some (.slice 117) := by kernel_rfl
theorem usl_107 : Tryd.prog.underlying 107 = some (.slice 109) := by kernel_rfl
theorem usl_22 : Tryd.prog.underlying 22 = some (.slice 3) := by kernel_rfl
theorem usl_26 : Tryd.prog.underlying 26 = some (.slice 9) := by kernel_rfl
theorem usl_86 : Tryd.prog.underlying 86 = some (.slice 98) := by kernel_rfl
theorem usl_87 : Tryd.prog.underlying 87 = some (.slice 181) := by kernel_rfl
theorem usl_88 : Tryd.prog.underlying 88 = some (.slice 101) := by kernel_rfl
theorem usl_89 : Tryd.prog.underlying 89 = some (.slice 123) := by kernel_rfl
theorem zero_101 : zeroB Tryd.prog 101 = some [.int .i64 0, .int .i64 0, .int .i64 0, .bool false, .int .i64 0] := by kernel_rfl
theorem zero_105 : zeroB Tryd.prog 105 = some [.int .i64 0, .int .i64 0, .int .i64 0, .slice none 0 0, .slice none 0 0, .slice none 0 0] := by kernel_rfl
theorem zero_107 : zeroB Tryd.prog 107 = some [.slice none 0 0] := by kernel_rfl
theorem zero_109 : zeroB Tryd.prog 109 = some [.int .i64 0, .int .i64 0] := by kernel_rfl
theorem zero_117 : zeroB Tryd.prog 117 = some [.string ⟨#[]⟩, .bool false, .int .i64 0, .int .i64 0] := by kernel_rfl
theorem zero_120 : zeroB Tryd.prog 120 = some [.int .i64 0, .int .i64 0, .int .i64 0] := by kernel_rfl
theorem zero_123 : zeroB Tryd.prog 123 = some [.int .i64 0, .int .i64 0, .int .i64 0, .int .i64 0, .int .i64 0] := by kernel_rfl
theorem zero_171 : zeroB Tryd.prog 171 = some [.pointer none, .slice none 0 0] := by kernel_rfl
theorem zero_181 : zeroB Tryd.prog 181 = some [.int .i64 0, .int .i64 0, .int .i64 0, .int .i64 0] := by kernel_rfl
theorem zero_3 : zeroB Tryd.prog 3 = some [.int .i64 0] := by kernel_rfl
theorem zero_91 : zeroB Tryd.prog 91 = some [.int .i64 0, .int .i64 0, .int .i64 0, .int .i64 0, .slice none 0 0, .slice none 0 0, .slice none 0 0, .slice none 0 0] := by kernel_rfl
theorem zero_98 : zeroB Tryd.prog 98 = some [.int .i64 0, .int .i64 0, .int .i64 0, .int .i64 0, .int .i64 0, .int .i64 0] := by kernel_rfl

end Go.Proofs.YtlolchgeedegdaaDoor.X
