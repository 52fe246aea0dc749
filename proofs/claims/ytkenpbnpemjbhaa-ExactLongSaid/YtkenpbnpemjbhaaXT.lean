/- Closed facts on the loaded program's types and functions, each by the kernel. -/
import Derived.Test.YtkenpbnpemjbhaaProg
import Derived.Test.YtkenpbnpemjbhaaYH
namespace Go.Proofs.Ytkenpbnpemjbhaa.X
open Go Go.RowKit
set_option linter.unusedVariables false
set_option linter.unusedSimpArgs false

theorem agg_79 : aggB Try.prog 79 2 = true := by kernel_rfl
theorem agg_94 : aggB Try.prog 94 4 = true := by kernel_rfl
theorem bld_150 : structB Try.prog 150 = some ([(0, 1), (1, 2), (3, 1), (4, 1)], [.slice none 0 0, .bool false, .slice none 0 0, .bool false, .int .i64 0]) := by kernel_rfl
theorem bld_25 : structB Try.prog 25 = some ([(0, 1), (1, 1)], [.slice none 0 0, .int .i64 0]) := by kernel_rfl
theorem bld_79 : structB Try.prog 79 = some ([(0, 1), (1, 1)], [.bool false, .slice none 0 0]) := by kernel_rfl
theorem bld_94 : structB Try.prog 94 = some ([(0, 2), (2, 2)], [.bool false, .slice none 0 0, .bool false, .slice none 0 0]) := by kernel_rfl
theorem bldf_150 : fieldsB Try.prog 150 = true := by kernel_rfl
theorem bldf_25 : fieldsB Try.prog 25 = true := by kernel_rfl
theorem bldf_79 : fieldsB Try.prog 79 = true := by kernel_rfl
theorem bldf_94 : fieldsB Try.prog 94 = true := by kernel_rfl
theorem call_100 : callB Try.prog 100 = true := by kernel_rfl
theorem call_101 : callB Try.prog 101 = true := by kernel_rfl
theorem call_102 : callB Try.prog 102 = true := by kernel_rfl
theorem call_103 : callB Try.prog 103 = true := by kernel_rfl
theorem call_12 : callB Try.prog 12 = true := by kernel_rfl
theorem call_123 : callB Try.prog 123 = true := by kernel_rfl
theorem call_124 : callB Try.prog 124 = true := by kernel_rfl
theorem call_126 : callB Try.prog 126 = true := by kernel_rfl
theorem call_127 : callB Try.prog 127 = true := by kernel_rfl
theorem call_128 : callB Try.prog 128 = true := by kernel_rfl
theorem call_130 : callB Try.prog 130 = true := by kernel_rfl
theorem call_141 : callB Try.prog 141 = true := by kernel_rfl
theorem call_144 : callB Try.prog 144 = true := by kernel_rfl
theorem call_146 : callB Try.prog 146 = true := by kernel_rfl
theorem call_147 : callB Try.prog 147 = true := by kernel_rfl
theorem call_148 : callB Try.prog 148 = true := by kernel_rfl
theorem call_149 : callB Try.prog 149 = true := by kernel_rfl
theorem call_20 : callB Try.prog 20 = true := by kernel_rfl
theorem call_29 : callB Try.prog 29 = true := by kernel_rfl
theorem call_39 : callB Try.prog 39 = true := by kernel_rfl
theorem call_40 : callB Try.prog 40 = true := by kernel_rfl
theorem call_41 : callB Try.prog 41 = true := by kernel_rfl
theorem call_43 : callB Try.prog 43 = true := by kernel_rfl
theorem call_44 : callB Try.prog 44 = true := by kernel_rfl
theorem call_45 : callB Try.prog 45 = true := by kernel_rfl
theorem call_50 : callB Try.prog 50 = true := by kernel_rfl
theorem call_51 : callB Try.prog 51 = true := by kernel_rfl
theorem call_52 : callB Try.prog 52 = true := by kernel_rfl
theorem call_53 : callB Try.prog 53 = true := by kernel_rfl
theorem call_54 : callB Try.prog 54 = true := by kernel_rfl
theorem call_55 : callB Try.prog 55 = true := by kernel_rfl
theorem call_56 : callB Try.prog 56 = true := by kernel_rfl
theorem call_85 : callB Try.prog 85 = true := by kernel_rfl
theorem call_86 : callB Try.prog 86 = true := by kernel_rfl
theorem call_87 : callB Try.prog 87 = true := by kernel_rfl
theorem call_88 : callB Try.prog 88 = true := by kernel_rfl
theorem call_89 : callB Try.prog 89 = true := by kernel_rfl
theorem call_90 : callB Try.prog 90 = true := by kernel_rfl
theorem call_91 : callB Try.prog 91 = true := by kernel_rfl
theorem call_92 : callB Try.prog 92 = true := by kernel_rfl
theorem call_93 : callB Try.prog 93 = true := by kernel_rfl
theorem call_94 : callB Try.prog 94 = true := by kernel_rfl
theorem call_96 : callB Try.prog 96 = true := by kernel_rfl
theorem call_97 : callB Try.prog 97 = true := by kernel_rfl
theorem call_98 : callB Try.prog 98 = true := by kernel_rfl
theorem call_99 : callB Try.prog 99 = true := by kernel_rfl
theorem fld_150_0 : fieldAtB Try.prog 150 0 = some (0, 148) := by kernel_rfl
theorem fld_150_1 : fieldAtB Try.prog 150 1 = some (1, 79) := by kernel_rfl
theorem fld_150_2 : fieldAtB Try.prog 150 2 = some (3, 4) := by kernel_rfl
theorem fld_150_3 : fieldAtB Try.prog 150 3 = some (4, 3) := by kernel_rfl
theorem fld_25_0 : fieldAtB Try.prog 25 0 = some (0, 22) := by kernel_rfl
theorem fld_25_1 : fieldAtB Try.prog 25 1 = some (1, 3) := by kernel_rfl
theorem fld_79_0 : fieldAtB Try.prog 79 0 = some (0, 4) := by kernel_rfl
theorem fld_79_1 : fieldAtB Try.prog 79 1 = some (1, 77) := by kernel_rfl
theorem fld_94_0 : fieldAtB Try.prog 94 0 = some (0, 79) := by kernel_rfl
theorem ik_158 : intB Try.prog 158 .u64 = true := by kernel_rfl
theorem ik_159 : intB Try.prog 159 .u32 = true := by kernel_rfl
theorem ik_2 : intB Try.prog 2 .i64 = true := by kernel_rfl
theorem ik_3 : intB Try.prog 3 .i64 = true := by kernel_rfl
theorem ik_5 : intB Try.prog 5 .u8 = true := by kernel_rfl
theorem mixed : Try.prog.follows .mixedOrders = true := by kernel_rfl
theorem one_148 : oneB Try.prog 148 = true := by kernel_rfl
theorem one_155 : oneB Try.prog 155 = true := by kernel_rfl
theorem one_159 : oneB Try.prog 159 = true := by kernel_rfl
theorem one_2 : oneB Try.prog 2 = true := by kernel_rfl
theorem one_22 : oneB Try.prog 22 = true := by kernel_rfl
theorem one_23 : oneB Try.prog 23 = true := by kernel_rfl
theorem one_3 : oneB Try.prog 3 = true := by kernel_rfl
theorem one_4 : oneB Try.prog 4 = true := by kernel_rfl
theorem one_77 : oneB Try.prog 77 = true := by kernel_rfl
theorem one_87 : oneB Try.prog 87 = true := by kernel_rfl
theorem sl_148 : sliceB Try.prog 148 = some (155, 1, 24) := by kernel_rfl
theorem sl_155 : sliceB Try.prog 155 = some (79, 2, 32) := by kernel_rfl
theorem sl_165 : sliceB Try.prog 165 = some (5, 1, 1) := by kernel_rfl
theorem sl_22 : sliceB Try.prog 22 = some (3, 1, 8) := by kernel_rfl
theorem sl_75 : sliceB Try.prog 75 = some (87, 1, 24) := by kernel_rfl
theorem sl_77 : sliceB Try.prog 77 = some (159, 1, 4) := by kernel_rfl
theorem sl_87 : sliceB Try.prog 87 = some (2, 1, 8) := by kernel_rfl
theorem sl_90 : sliceB Try.prog 90 = some (94, 4, 64) := by kernel_rfl
theorem sz_155 : (Try.prog.info? 155).map (·.size) = some 1 := by kernel_rfl
theorem sz_159 : (Try.prog.info? 159).map (·.size) = some 1 := by kernel_rfl
theorem sz_79 : (Try.prog.info? 79).map (·.size) = some 2 := by kernel_rfl
theorem ub_4 : Try.prog.underlying 4 = some .bool := by kernel_rfl
theorem ui_5 : Try.prog.underlying 5 = some (.int .u8) := by kernel_rfl
theorem uk_158 : (Try.prog.underlying 158).isSome = true := by kernel_rfl
theorem uk_159 : (Try.prog.underlying 159).isSome = true := by kernel_rfl
theorem uk_2 : (Try.prog.underlying 2).isSome = true := by kernel_rfl
theorem uk_5 : (Try.prog.underlying 5).isSome = true := by kernel_rfl
theorem us_9 : Try.prog.underlying 9 = some .string := by kernel_rfl
theorem usl_148 : Try.prog.underlying 148 = some (.slice 155) := by kernel_rfl
theorem usl_155 : Try.prog.underlying 155 = some (.slice 79) := by kernel_rfl
theorem usl_165 : Try.prog.underlying 165 = some (.slice 5) := by kernel_rfl
theorem usl_22 : Try.prog.underlying 22 = some (.slice 3) := by kernel_rfl
theorem usl_75 : Try.prog.underlying 75 = some (.slice 87) := by kernel_rfl
theorem usl_77 : Try.prog.underlying 77 = some (.slice 159) := by kernel_rfl
theorem usl_87 : Try.prog.underlying 87 = some (.slice 2) := by kernel_rfl
theorem usl_90 : Try.prog.underlying 90 = some (.slice 94) := by kernel_rfl
theorem zero_155 : zeroB Try.prog 155 = some [.slice none 0 0] := by kernel_rfl
theorem zero_159 : zeroB Try.prog 159 = some [.int .u32 0] := by kernel_rfl
theorem zero_167 : zeroB Try.prog 167 = some [.pointer none, .slice none 0 0] := by kernel_rfl
theorem zero_2 : zeroB Try.prog 2 = some [.int .i64 0] := by kernel_rfl
theorem zero_23 : zeroB Try.prog 23 = some [.pointer none] := by kernel_rfl
theorem zero_5 : zeroB Try.prog 5 = some [.int .u8 0] := by kernel_rfl
theorem zero_79 : zeroB Try.prog 79 = some [.bool false, .slice none 0 0] := by kernel_rfl
theorem zero_87 : zeroB Try.prog 87 = some [.slice none 0 0] := by kernel_rfl
theorem zero_94 : zeroB Try.prog 94 = some [.bool false, .slice none 0 0, .bool false, .slice none 0 0] := by kernel_rfl

end Go.Proofs.Ytkenpbnpemjbhaa.X
