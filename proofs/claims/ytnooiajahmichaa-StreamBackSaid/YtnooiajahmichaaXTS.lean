/- Closed facts on the loaded program's types and functions, each by the kernel. -/
import Derived.Test.YtnooiajahmichaaProg
import Derived.Test.YtnooiajahmichaaYH
namespace Go.Proofs.Ytnooiajahmichaa.X
open Go Go.RowKit
set_option linter.unusedVariables false
set_option linter.unusedSimpArgs false

theorem agg_180 : aggB Try.prog 180 4 = true := by kernel_rfl
theorem agg_181 : aggB Try.prog 181 4 = true := by kernel_rfl
theorem agg_183 : aggB Try.prog 183 10 = true := by kernel_rfl
theorem agg_187 : aggB Try.prog 187 4 = true := by kernel_rfl
theorem agg_81 : aggB Try.prog 81 6 = true := by kernel_rfl
theorem arr_180 : arrB Try.prog 180 = some (4, 1, 3) := by kernel_rfl
theorem arr_181 : arrB Try.prog 181 = some (4, 1, 22) := by kernel_rfl
theorem bld_175 : structB Try.prog 175 = some ([(0, 1), (1, 1)], [.slice none 0 0, .int .i64 0]) := by kernel_rfl
theorem bld_183 : structB Try.prog 183 = some ([(0, 1), (1, 1), (2, 4), (6, 4)], [.int .u16 0, .bool false, .int .i64 0, .int .i64 0, .int .i64 0, .int .i64 0, .slice none 0 0, .slice none 0 0, .slice none 0 0, .slice none 0 0]) := by kernel_rfl
theorem bld_187 : structB Try.prog 187 = some ([(0, 1), (1, 1), (2, 1), (3, 1)], [.int .i64 0, .int .i64 0, .int .i64 0, .int .i64 0]) := by kernel_rfl
theorem bld_191 : structB Try.prog 191 = some ([(0, 1), (1, 1), (2, 1)], [.slice none 0 0, .int .i64 0, .bool false]) := by kernel_rfl
theorem bld_25 : structB Try.prog 25 = some ([(0, 1), (1, 1)], [.slice none 0 0, .int .i64 0]) := by kernel_rfl
theorem bld_257 : structB Try.prog 257 = some ([(0, 6), (6, 1), (7, 1), (8, 1), (9, 1)], [.int .i64 0, .int .i64 0, .int .i64 0, .slice none 0 0, .slice none 0 0, .slice none 0 0, .slice none 0 0, .slice none 0 0, .slice none 0 0, .slice none 0 0]) := by kernel_rfl
theorem bld_81 : structB Try.prog 81 = some ([(0, 1), (1, 1), (2, 1), (3, 1), (4, 1), (5, 1)], [.int .i64 0, .int .i64 0, .int .i64 0, .slice none 0 0, .slice none 0 0, .slice none 0 0]) := by kernel_rfl
theorem bldf_175 : fieldsB Try.prog 175 = true := by kernel_rfl
theorem bldf_183 : fieldsB Try.prog 183 = true := by kernel_rfl
theorem bldf_187 : fieldsB Try.prog 187 = true := by kernel_rfl
theorem bldf_191 : fieldsB Try.prog 191 = true := by kernel_rfl
theorem bldf_25 : fieldsB Try.prog 25 = true := by kernel_rfl
theorem bldf_257 : fieldsB Try.prog 257 = true := by kernel_rfl
theorem bldf_81 : fieldsB Try.prog 81 = true := by kernel_rfl
theorem call_116 : callB Try.prog 116 = true := by kernel_rfl
theorem call_117 : callB Try.prog 117 = true := by kernel_rfl
theorem call_118 : callB Try.prog 118 = true := by kernel_rfl
theorem call_130 : callB Try.prog 130 = true := by kernel_rfl
theorem call_131 : callB Try.prog 131 = true := by kernel_rfl
theorem call_132 : callB Try.prog 132 = true := by kernel_rfl
theorem call_133 : callB Try.prog 133 = true := by kernel_rfl
theorem call_14 : callB Try.prog 14 = true := by kernel_rfl
theorem call_144 : callB Try.prog 144 = true := by kernel_rfl
theorem call_145 : callB Try.prog 145 = true := by kernel_rfl
theorem call_146 : callB Try.prog 146 = true := by kernel_rfl
theorem call_15 : callB Try.prog 15 = true := by kernel_rfl
theorem call_153 : callB Try.prog 153 = true := by kernel_rfl
theorem call_154 : callB Try.prog 154 = true := by kernel_rfl
theorem call_155 : callB Try.prog 155 = true := by kernel_rfl
theorem call_156 : callB Try.prog 156 = true := by kernel_rfl
theorem call_157 : callB Try.prog 157 = true := by kernel_rfl
theorem call_169 : callB Try.prog 169 = true := by kernel_rfl
theorem call_170 : callB Try.prog 170 = true := by kernel_rfl
theorem call_35 : callB Try.prog 35 = true := by kernel_rfl
theorem call_36 : callB Try.prog 36 = true := by kernel_rfl
theorem call_37 : callB Try.prog 37 = true := by kernel_rfl
theorem call_38 : callB Try.prog 38 = true := by kernel_rfl
theorem call_40 : callB Try.prog 40 = true := by kernel_rfl
theorem call_57 : callB Try.prog 57 = true := by kernel_rfl
theorem call_58 : callB Try.prog 58 = true := by kernel_rfl
theorem call_59 : callB Try.prog 59 = true := by kernel_rfl
theorem call_60 : callB Try.prog 60 = true := by kernel_rfl
theorem call_61 : callB Try.prog 61 = true := by kernel_rfl
theorem call_75 : callB Try.prog 75 = true := by kernel_rfl
theorem call_87 : callB Try.prog 87 = true := by kernel_rfl
theorem call_88 : callB Try.prog 88 = true := by kernel_rfl
theorem call_89 : callB Try.prog 89 = true := by kernel_rfl
theorem call_90 : callB Try.prog 90 = true := by kernel_rfl
theorem call_91 : callB Try.prog 91 = true := by kernel_rfl
theorem call_92 : callB Try.prog 92 = true := by kernel_rfl
theorem call_93 : callB Try.prog 93 = true := by kernel_rfl
theorem call_94 : callB Try.prog 94 = true := by kernel_rfl
theorem call_95 : callB Try.prog 95 = true := by kernel_rfl
theorem call_96 : callB Try.prog 96 = true := by kernel_rfl
theorem call_97 : callB Try.prog 97 = true := by kernel_rfl
theorem eqs_187 : eqStB Try.prog 187 [0, 0, 0, 0] = true := by kernel_rfl
theorem fld_175_0 : fieldAtB Try.prog 175 0 = some (0, 75) := by kernel_rfl
theorem fld_175_1 : fieldAtB Try.prog 175 1 = some (1, 3) := by kernel_rfl
theorem fld_183_0 : fieldAtB Try.prog 183 0 = some (0, 179) := by kernel_rfl
theorem fld_183_1 : fieldAtB Try.prog 183 1 = some (1, 4) := by kernel_rfl
theorem fld_183_2 : fieldAtB Try.prog 183 2 = some (2, 180) := by kernel_rfl
theorem fld_183_3 : fieldAtB Try.prog 183 3 = some (6, 181) := by kernel_rfl
theorem fld_187_0 : fieldAtB Try.prog 187 0 = some (0, 3) := by kernel_rfl
theorem fld_187_1 : fieldAtB Try.prog 187 1 = some (1, 3) := by kernel_rfl
theorem fld_187_2 : fieldAtB Try.prog 187 2 = some (2, 3) := by kernel_rfl
theorem fld_187_3 : fieldAtB Try.prog 187 3 = some (3, 3) := by kernel_rfl
theorem fld_191_0 : fieldAtB Try.prog 191 0 = some (0, 75) := by kernel_rfl
theorem fld_191_1 : fieldAtB Try.prog 191 1 = some (1, 3) := by kernel_rfl
theorem fld_191_2 : fieldAtB Try.prog 191 2 = some (2, 4) := by kernel_rfl
theorem fld_257_0 : fieldAtB Try.prog 257 0 = some (0, 81) := by kernel_rfl
theorem fld_257_1 : fieldAtB Try.prog 257 1 = some (6, 22) := by kernel_rfl
theorem fld_257_2 : fieldAtB Try.prog 257 2 = some (7, 124) := by kernel_rfl
theorem fld_257_3 : fieldAtB Try.prog 257 3 = some (8, 124) := by kernel_rfl
theorem fld_257_4 : fieldAtB Try.prog 257 4 = some (9, 124) := by kernel_rfl
theorem fld_25_0 : fieldAtB Try.prog 25 0 = some (0, 22) := by kernel_rfl
theorem fld_25_1 : fieldAtB Try.prog 25 1 = some (1, 3) := by kernel_rfl
theorem fld_81_0 : fieldAtB Try.prog 81 0 = some (0, 3) := by kernel_rfl
theorem fld_81_1 : fieldAtB Try.prog 81 1 = some (1, 3) := by kernel_rfl
theorem fld_81_2 : fieldAtB Try.prog 81 2 = some (2, 3) := by kernel_rfl
theorem fld_81_3 : fieldAtB Try.prog 81 3 = some (3, 78) := by kernel_rfl
theorem fld_81_4 : fieldAtB Try.prog 81 4 = some (4, 79) := by kernel_rfl
theorem fld_81_5 : fieldAtB Try.prog 81 5 = some (5, 79) := by kernel_rfl
theorem ik_179 : intB Try.prog 179 .u16 = true := by kernel_rfl
theorem ik_3 : intB Try.prog 3 .i64 = true := by kernel_rfl
theorem ik_44 : intB Try.prog 44 .u64 = true := by kernel_rfl
theorem ik_5 : intB Try.prog 5 .u8 = true := by kernel_rfl
theorem isz_4 : (Try.prog.info? 4).map (·.size) = some 1 := by kernel_rfl
theorem mixed : Try.prog.follows .mixedOrders = true := by kernel_rfl
theorem one_124 : oneB Try.prog 124 = true := by kernel_rfl
theorem one_147 : oneB Try.prog 147 = true := by kernel_rfl
theorem one_179 : oneB Try.prog 179 = true := by kernel_rfl
theorem one_22 : oneB Try.prog 22 = true := by kernel_rfl
theorem one_3 : oneB Try.prog 3 = true := by kernel_rfl
theorem one_4 : oneB Try.prog 4 = true := by kernel_rfl
theorem one_5 : oneB Try.prog 5 = true := by kernel_rfl
theorem one_75 : oneB Try.prog 75 = true := by kernel_rfl
theorem one_78 : oneB Try.prog 78 = true := by kernel_rfl
theorem one_79 : oneB Try.prog 79 = true := by kernel_rfl
theorem sl_118 : sliceB Try.prog 118 = some (124, 1, 24) := by kernel_rfl
theorem sl_124 : sliceB Try.prog 124 = some (4, 1, 1) := by kernel_rfl
theorem sl_22 : sliceB Try.prog 22 = some (3, 1, 8) := by kernel_rfl
theorem sl_75 : sliceB Try.prog 75 = some (5, 1, 1) := by kernel_rfl
theorem sl_78 : sliceB Try.prog 78 = some (183, 10, 136) := by kernel_rfl
theorem sl_79 : sliceB Try.prog 79 = some (187, 4, 32) := by kernel_rfl
theorem sz_183 : (Try.prog.info? 183).map (·.size) = some 10 := by kernel_rfl
theorem sz_3 : (Try.prog.info? 3).map (·.size) = some 1 := by kernel_rfl
theorem sz_4 : (Try.prog.info? 4).map (·.size) = some 1 := by kernel_rfl
theorem sz_5 : (Try.prog.info? 5).map (·.size) = some 1 := by kernel_rfl
theorem ub_4 : Try.prog.underlying 4 = some .bool := by kernel_rfl
theorem ui_5 : Try.prog.underlying 5 = some (.int .u8) := by kernel_rfl
theorem uk_179 : (Try.prog.underlying 179).isSome = true := by kernel_rfl
theorem uk_3 : (Try.prog.underlying 3).isSome = true := by kernel_rfl
theorem uk_44 : (Try.prog.underlying 44).isSome = true := by kernel_rfl
theorem uk_5 : (Try.prog.underlying 5).isSome = true := by kernel_rfl
theorem usl_118 : Try.prog.underlying 118 = some (.slice 124) := by kernel_rfl
theorem usl_124 : Try.prog.underlying 124 = some (.slice 4) := by kernel_rfl
theorem usl_22 : Try.prog.underlying 22 = some (.slice 3) := by kernel_rfl
theorem usl_75 : Try.prog.underlying 75 = some (.slice 5) := by kernel_rfl
theorem usl_78 : Try.prog.underlying 78 = some (.slice 183) := by kernel_rfl
theorem usl_79 : Try.prog.underlying 79 = some (.slice 187) := by kernel_rfl
theorem zero_124 : zeroB Try.prog 124 = some [.slice none 0 0] := by kernel_rfl
theorem zero_147 : zeroB Try.prog 147 = some [.nilFunc] := by kernel_rfl
theorem zero_183 : zeroB Try.prog 183 = some [.int .u16 0, .bool false, .int .i64 0, .int .i64 0, .int .i64 0, .int .i64 0, .slice none 0 0, .slice none 0 0, .slice none 0 0, .slice none 0 0] := by kernel_rfl
theorem zero_187 : zeroB Try.prog 187 = some [.int .i64 0, .int .i64 0, .int .i64 0, .int .i64 0] := by kernel_rfl
theorem zero_22 : zeroB Try.prog 22 = some [.slice none 0 0] := by kernel_rfl
theorem zero_3 : zeroB Try.prog 3 = some [.int .i64 0] := by kernel_rfl
theorem zero_4 : zeroB Try.prog 4 = some [.bool false] := by kernel_rfl
theorem zero_5 : zeroB Try.prog 5 = some [.int .u8 0] := by kernel_rfl
theorem zero_81 : zeroB Try.prog 81 = some [.int .i64 0, .int .i64 0, .int .i64 0, .slice none 0 0, .slice none 0 0, .slice none 0 0] := by kernel_rfl

end Go.Proofs.Ytnooiajahmichaa.X
