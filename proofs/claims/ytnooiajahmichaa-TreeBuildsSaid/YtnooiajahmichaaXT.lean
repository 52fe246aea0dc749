/- Closed facts on the loaded program's types and functions, each by the kernel. -/
import Derived.Test.YtnooiajahmichaaProg
import Derived.Test.YtnooiajahmichaaYH
namespace Go.Proofs.Ytnooiajahmichaa.X
open Go Go.RowKit
set_option linter.unusedVariables false
set_option linter.unusedSimpArgs false

theorem agg_38 : aggB Try.prog 38 3 = true := by kernel_rfl
theorem agg_46 : aggB Try.prog 46 11 = true := by kernel_rfl
theorem agg_48 : aggB Try.prog 48 2 = true := by kernel_rfl
theorem bld_25 : structB Try.prog 25 = some ([(0, 1), (1, 1)], [.slice none 0 0, .int .i64 0]) := by kernel_rfl
theorem bld_38 : structB Try.prog 38 = some ([(0, 1), (1, 1), (2, 1)], [.int .i64 0, .slice none 0 0, .slice none 0 0]) := by kernel_rfl
theorem bld_46 : structB Try.prog 46 = some ([(0, 1), (1, 1), (2, 1), (3, 1), (4, 1), (5, 1), (6, 1), (7, 1), (8, 1), (9, 1), (10, 1)], [.string ⟨#[]⟩, .bool false, .int .i64 0, .int .u64 0, .int .i64 0, .slice none 0 0, .slice none 0 0, .slice none 0 0, .int .i64 0, .int .i64 0, .int .i64 0]) := by kernel_rfl
theorem bld_48 : structB Try.prog 48 = some ([(0, 1), (1, 1)], [.int .i64 0, .int .i64 0]) := by kernel_rfl
theorem bld_89 : structB Try.prog 89 = some ([(0, 1), (1, 1)], [.int .i64 0, .int .i64 0]) := by kernel_rfl
theorem bldf_25 : fieldsB Try.prog 25 = true := by kernel_rfl
theorem bldf_38 : fieldsB Try.prog 38 = true := by kernel_rfl
theorem bldf_46 : fieldsB Try.prog 46 = true := by kernel_rfl
theorem bldf_48 : fieldsB Try.prog 48 = true := by kernel_rfl
theorem bldf_89 : fieldsB Try.prog 89 = true := by kernel_rfl
theorem call_100 : callB Try.prog 100 = true := by kernel_rfl
theorem call_101 : callB Try.prog 101 = true := by kernel_rfl
theorem call_102 : callB Try.prog 102 = true := by kernel_rfl
theorem call_103 : callB Try.prog 103 = true := by kernel_rfl
theorem call_134 : callB Try.prog 134 = true := by kernel_rfl
theorem call_135 : callB Try.prog 135 = true := by kernel_rfl
theorem call_136 : callB Try.prog 136 = true := by kernel_rfl
theorem call_137 : callB Try.prog 137 = true := by kernel_rfl
theorem call_138 : callB Try.prog 138 = true := by kernel_rfl
theorem call_14 : callB Try.prog 14 = true := by kernel_rfl
theorem call_15 : callB Try.prog 15 = true := by kernel_rfl
theorem call_158 : callB Try.prog 158 = true := by kernel_rfl
theorem call_159 : callB Try.prog 159 = true := by kernel_rfl
theorem call_160 : callB Try.prog 160 = true := by kernel_rfl
theorem call_161 : callB Try.prog 161 = true := by kernel_rfl
theorem call_171 : callB Try.prog 171 = true := by kernel_rfl
theorem call_172 : callB Try.prog 172 = true := by kernel_rfl
theorem call_173 : callB Try.prog 173 = true := by kernel_rfl
theorem call_174 : callB Try.prog 174 = true := by kernel_rfl
theorem call_18 : callB Try.prog 18 = true := by kernel_rfl
theorem call_19 : callB Try.prog 19 = true := by kernel_rfl
theorem call_20 : callB Try.prog 20 = true := by kernel_rfl
theorem call_21 : callB Try.prog 21 = true := by kernel_rfl
theorem call_22 : callB Try.prog 22 = true := by kernel_rfl
theorem call_23 : callB Try.prog 23 = true := by kernel_rfl
theorem call_24 : callB Try.prog 24 = true := by kernel_rfl
theorem call_38 : callB Try.prog 38 = true := by kernel_rfl
theorem call_41 : callB Try.prog 41 = true := by kernel_rfl
theorem call_42 : callB Try.prog 42 = true := by kernel_rfl
theorem call_74 : callB Try.prog 74 = true := by kernel_rfl
theorem call_75 : callB Try.prog 75 = true := by kernel_rfl
theorem call_76 : callB Try.prog 76 = true := by kernel_rfl
theorem call_77 : callB Try.prog 77 = true := by kernel_rfl
theorem call_98 : callB Try.prog 98 = true := by kernel_rfl
theorem call_99 : callB Try.prog 99 = true := by kernel_rfl
theorem fld_25_0 : fieldAtB Try.prog 25 0 = some (0, 22) := by kernel_rfl
theorem fld_25_1 : fieldAtB Try.prog 25 1 = some (1, 3) := by kernel_rfl
theorem fld_38_0 : fieldAtB Try.prog 38 0 = some (0, 3) := by kernel_rfl
theorem fld_38_1 : fieldAtB Try.prog 38 1 = some (1, 22) := by kernel_rfl
theorem fld_38_2 : fieldAtB Try.prog 38 2 = some (2, 22) := by kernel_rfl
theorem fld_46_0 : fieldAtB Try.prog 46 0 = some (0, 9) := by kernel_rfl
theorem fld_46_1 : fieldAtB Try.prog 46 1 = some (1, 4) := by kernel_rfl
theorem fld_46_10 : fieldAtB Try.prog 46 10 = some (10, 3) := by kernel_rfl
theorem fld_46_2 : fieldAtB Try.prog 46 2 = some (2, 3) := by kernel_rfl
theorem fld_46_3 : fieldAtB Try.prog 46 3 = some (3, 44) := by kernel_rfl
theorem fld_46_4 : fieldAtB Try.prog 46 4 = some (4, 3) := by kernel_rfl
theorem fld_46_5 : fieldAtB Try.prog 46 5 = some (5, 22) := by kernel_rfl
theorem fld_46_6 : fieldAtB Try.prog 46 6 = some (6, 22) := by kernel_rfl
theorem fld_46_7 : fieldAtB Try.prog 46 7 = some (7, 22) := by kernel_rfl
theorem fld_46_8 : fieldAtB Try.prog 46 8 = some (8, 3) := by kernel_rfl
theorem fld_46_9 : fieldAtB Try.prog 46 9 = some (9, 3) := by kernel_rfl
theorem fld_48_0 : fieldAtB Try.prog 48 0 = some (0, 3) := by kernel_rfl
theorem fld_48_1 : fieldAtB Try.prog 48 1 = some (1, 3) := by kernel_rfl
theorem fld_89_0 : fieldAtB Try.prog 89 0 = some (0, 3) := by kernel_rfl
theorem fld_89_1 : fieldAtB Try.prog 89 1 = some (1, 3) := by kernel_rfl
theorem ik_222 : intB Try.prog 222 .u64 = true := by kernel_rfl
theorem ik_3 : intB Try.prog 3 .i64 = true := by kernel_rfl
theorem mixed : Try.prog.follows .mixedOrders = true := by kernel_rfl
theorem one_142 : oneB Try.prog 142 = true := by kernel_rfl
theorem one_22 : oneB Try.prog 22 = true := by kernel_rfl
theorem one_23 : oneB Try.prog 23 = true := by kernel_rfl
theorem one_3 : oneB Try.prog 3 = true := by kernel_rfl
theorem one_35 : oneB Try.prog 35 = true := by kernel_rfl
theorem one_4 : oneB Try.prog 4 = true := by kernel_rfl
theorem one_44 : oneB Try.prog 44 = true := by kernel_rfl
theorem one_5 : oneB Try.prog 5 = true := by kernel_rfl
theorem one_87 : oneB Try.prog 87 = true := by kernel_rfl
theorem one_9 : oneB Try.prog 9 = true := by kernel_rfl
theorem sl_142 : sliceB Try.prog 142 = some (22, 1, 24) := by kernel_rfl
theorem sl_146 : sliceB Try.prog 146 = some (9, 1, 16) := by kernel_rfl
theorem sl_199 : sliceB Try.prog 199 = some (142, 1, 24) := by kernel_rfl
theorem sl_22 : sliceB Try.prog 22 = some (3, 1, 8) := by kernel_rfl
theorem sl_35 : sliceB Try.prog 35 = some (46, 11, 144) := by kernel_rfl
theorem sl_40 : sliceB Try.prog 40 = some (48, 2, 16) := by kernel_rfl
theorem sl_75 : sliceB Try.prog 75 = some (5, 1, 1) := by kernel_rfl
theorem sl_87 : sliceB Try.prog 87 = some (89, 2, 16) := by kernel_rfl
theorem sz_22 : (Try.prog.info? 22).map (·.size) = some 1 := by kernel_rfl
theorem sz_3 : (Try.prog.info? 3).map (·.size) = some 1 := by kernel_rfl
theorem sz_48 : (Try.prog.info? 48).map (·.size) = some 2 := by kernel_rfl
theorem ub_4 : Try.prog.underlying 4 = some .bool := by kernel_rfl
theorem ui_5 : Try.prog.underlying 5 = some (.int .u8) := by kernel_rfl
theorem uk_222 : (Try.prog.underlying 222).isSome = true := by kernel_rfl
theorem uk_3 : (Try.prog.underlying 3).isSome = true := by kernel_rfl
theorem us_9 : Try.prog.underlying 9 = some .string := by kernel_rfl
theorem usl_142 : Try.prog.underlying 142 = some (.slice 22) := by kernel_rfl
theorem usl_146 : Try.prog.underlying 146 = some (.slice 9) := by kernel_rfl
theorem usl_199 : Try.prog.underlying 199 = some (.slice 142) := by kernel_rfl
theorem usl_22 : Try.prog.underlying 22 = some (.slice 3) := by kernel_rfl
theorem usl_35 : Try.prog.underlying 35 = some (.slice 46) := by kernel_rfl
theorem usl_40 : Try.prog.underlying 40 = some (.slice 48) := by kernel_rfl
theorem usl_75 : Try.prog.underlying 75 = some (.slice 5) := by kernel_rfl
theorem usl_87 : Try.prog.underlying 87 = some (.slice 89) := by kernel_rfl
theorem zero_142 : zeroB Try.prog 142 = some [.slice none 0 0] := by kernel_rfl
theorem zero_22 : zeroB Try.prog 22 = some [.slice none 0 0] := by kernel_rfl
theorem zero_3 : zeroB Try.prog 3 = some [.int .i64 0] := by kernel_rfl
theorem zero_35 : zeroB Try.prog 35 = some [.slice none 0 0] := by kernel_rfl
theorem zero_38 : zeroB Try.prog 38 = some [.int .i64 0, .slice none 0 0, .slice none 0 0] := by kernel_rfl
theorem zero_46 : zeroB Try.prog 46 = some [.string ⟨#[]⟩, .bool false, .int .i64 0, .int .u64 0, .int .i64 0, .slice none 0 0, .slice none 0 0, .slice none 0 0, .int .i64 0, .int .i64 0, .int .i64 0] := by kernel_rfl
theorem zero_48 : zeroB Try.prog 48 = some [.int .i64 0, .int .i64 0] := by kernel_rfl
theorem zero_89 : zeroB Try.prog 89 = some [.int .i64 0, .int .i64 0] := by kernel_rfl
theorem zero_9 : zeroB Try.prog 9 = some [.string ⟨#[]⟩] := by kernel_rfl

end Go.Proofs.Ytnooiajahmichaa.X
