/- Closed facts on the loaded program's types and functions, each by the kernel. -/
import Derived.Test.YtclhfemcinibmaaDoorProg
import Derived.Test.YtclhfemcinibmaaDoorYH
namespace Go.Proofs.YtclhfemcinibmaaDoor.X
open Go Go.RowKit
set_option linter.unusedVariables false
set_option linter.unusedSimpArgs false

theorem agg_149 : aggB Tryd.prog 149 5 = true := by kernel_rfl
theorem agg_158 : aggB Tryd.prog 158 3 = true := by kernel_rfl
theorem agg_160 : aggB Tryd.prog 160 5 = true := by kernel_rfl
theorem agg_30 : aggB Tryd.prog 30 5 = true := by kernel_rfl
theorem agg_38 : aggB Tryd.prog 38 3 = true := by kernel_rfl
theorem agg_55 : aggB Tryd.prog 55 6 = true := by kernel_rfl
theorem agg_61 : aggB Tryd.prog 61 11 = true := by kernel_rfl
theorem agg_64 : aggB Tryd.prog 64 4 = true := by kernel_rfl
theorem bld_149 : structB Tryd.prog 149 = some ([(0, 1), (1, 1), (2, 1), (3, 1), (4, 1)], [.string ⟨#[]⟩, .int .i64 0, .int .i64 0, .int .i64 0, .bool false]) := by kernel_rfl
theorem bld_25 : structB Tryd.prog 25 = some ([(0, 1), (1, 1)], [.slice none 0 0, .int .i64 0]) := by kernel_rfl
theorem bld_38 : structB Tryd.prog 38 = some ([(0, 1), (1, 1), (2, 1)], [.int .i64 0, .int .u64 0, .slice none 0 0]) := by kernel_rfl
theorem bld_55 : structB Tryd.prog 55 = some ([(0, 1), (1, 1), (2, 1), (3, 1), (4, 1), (5, 1)], [.int .i64 0, .int .i64 0, .int .i64 0, .slice none 0 0, .slice none 0 0, .slice none 0 0]) := by kernel_rfl
theorem bld_61 : structB Tryd.prog 61 = some ([(0, 1), (1, 1), (2, 1), (3, 1), (4, 1), (5, 1), (6, 1), (7, 1), (8, 1), (9, 1), (10, 1)], [.string ⟨#[]⟩, .bool false, .int .i64 0, .int .u64 0, .int .i64 0, .slice none 0 0, .slice none 0 0, .slice none 0 0, .int .i64 0, .int .i64 0, .int .i64 0]) := by kernel_rfl
theorem bld_64 : structB Tryd.prog 64 = some ([(0, 1), (1, 1), (2, 1), (3, 1)], [.string ⟨#[]⟩, .bool false, .int .i64 0, .int .i64 0]) := by kernel_rfl
theorem bldf_149 : fieldsB Tryd.prog 149 = true := by kernel_rfl
theorem bldf_25 : fieldsB Tryd.prog 25 = true := by kernel_rfl
theorem bldf_38 : fieldsB Tryd.prog 38 = true := by kernel_rfl
theorem bldf_55 : fieldsB Tryd.prog 55 = true := by kernel_rfl
theorem bldf_61 : fieldsB Tryd.prog 61 = true := by kernel_rfl
theorem bldf_64 : fieldsB Tryd.prog 64 = true := by kernel_rfl
theorem call_119 : callB Tryd.prog 119 = true := by kernel_rfl
theorem call_120 : callB Tryd.prog 120 = true := by kernel_rfl
theorem call_121 : callB Tryd.prog 121 = true := by kernel_rfl
theorem call_13 : callB Tryd.prog 13 = true := by kernel_rfl
theorem call_130 : callB Tryd.prog 130 = true := by kernel_rfl
theorem call_14 : callB Tryd.prog 14 = true := by kernel_rfl
theorem call_173 : callB Tryd.prog 173 = true := by kernel_rfl
theorem call_174 : callB Tryd.prog 174 = true := by kernel_rfl
theorem call_175 : callB Tryd.prog 175 = true := by kernel_rfl
theorem call_176 : callB Tryd.prog 176 = true := by kernel_rfl
theorem call_177 : callB Tryd.prog 177 = true := by kernel_rfl
theorem call_18 : callB Tryd.prog 18 = true := by kernel_rfl
theorem call_19 : callB Tryd.prog 19 = true := by kernel_rfl
theorem call_20 : callB Tryd.prog 20 = true := by kernel_rfl
theorem call_202 : callB Tryd.prog 202 = true := by kernel_rfl
theorem call_203 : callB Tryd.prog 203 = true := by kernel_rfl
theorem call_204 : callB Tryd.prog 204 = true := by kernel_rfl
theorem call_205 : callB Tryd.prog 205 = true := by kernel_rfl
theorem call_206 : callB Tryd.prog 206 = true := by kernel_rfl
theorem call_207 : callB Tryd.prog 207 = true := by kernel_rfl
theorem call_21 : callB Tryd.prog 21 = true := by kernel_rfl
theorem call_22 : callB Tryd.prog 22 = true := by kernel_rfl
theorem call_228 : callB Tryd.prog 228 = true := by kernel_rfl
theorem call_229 : callB Tryd.prog 229 = true := by kernel_rfl
theorem call_23 : callB Tryd.prog 23 = true := by kernel_rfl
theorem call_230 : callB Tryd.prog 230 = true := by kernel_rfl
theorem call_231 : callB Tryd.prog 231 = true := by kernel_rfl
theorem call_24 : callB Tryd.prog 24 = true := by kernel_rfl
theorem call_25 : callB Tryd.prog 25 = true := by kernel_rfl
theorem call_26 : callB Tryd.prog 26 = true := by kernel_rfl
theorem call_35 : callB Tryd.prog 35 = true := by kernel_rfl
theorem call_44 : callB Tryd.prog 44 = true := by kernel_rfl
theorem call_57 : callB Tryd.prog 57 = true := by kernel_rfl
theorem call_65 : callB Tryd.prog 65 = true := by kernel_rfl
theorem call_66 : callB Tryd.prog 66 = true := by kernel_rfl
theorem call_67 : callB Tryd.prog 67 = true := by kernel_rfl
theorem call_68 : callB Tryd.prog 68 = true := by kernel_rfl
theorem call_69 : callB Tryd.prog 69 = true := by kernel_rfl
theorem call_70 : callB Tryd.prog 70 = true := by kernel_rfl
theorem call_71 : callB Tryd.prog 71 = true := by kernel_rfl
theorem call_72 : callB Tryd.prog 72 = true := by kernel_rfl
theorem fld_149_0 : fieldAtB Tryd.prog 149 0 = some (0, 9) := by kernel_rfl
theorem fld_149_1 : fieldAtB Tryd.prog 149 1 = some (1, 3) := by kernel_rfl
theorem fld_149_2 : fieldAtB Tryd.prog 149 2 = some (2, 3) := by kernel_rfl
theorem fld_149_3 : fieldAtB Tryd.prog 149 3 = some (3, 3) := by kernel_rfl
theorem fld_158_0 : fieldAtB Tryd.prog 158 0 = some (0, 3) := by kernel_rfl
theorem fld_158_1 : fieldAtB Tryd.prog 158 1 = some (1, 3) := by kernel_rfl
theorem fld_158_2 : fieldAtB Tryd.prog 158 2 = some (2, 3) := by kernel_rfl
theorem fld_160_0 : fieldAtB Tryd.prog 160 0 = some (0, 3) := by kernel_rfl
theorem fld_160_1 : fieldAtB Tryd.prog 160 1 = some (1, 3) := by kernel_rfl
theorem fld_160_2 : fieldAtB Tryd.prog 160 2 = some (2, 3) := by kernel_rfl
theorem fld_160_3 : fieldAtB Tryd.prog 160 3 = some (3, 3) := by kernel_rfl
theorem fld_160_4 : fieldAtB Tryd.prog 160 4 = some (4, 3) := by kernel_rfl
theorem fld_25_0 : fieldAtB Tryd.prog 25 0 = some (0, 22) := by kernel_rfl
theorem fld_25_1 : fieldAtB Tryd.prog 25 1 = some (1, 3) := by kernel_rfl
theorem fld_30_0 : fieldAtB Tryd.prog 30 0 = some (0, 26) := by kernel_rfl
theorem fld_30_1 : fieldAtB Tryd.prog 30 1 = some (1, 26) := by kernel_rfl
theorem fld_30_2 : fieldAtB Tryd.prog 30 2 = some (2, 27) := by kernel_rfl
theorem fld_30_3 : fieldAtB Tryd.prog 30 3 = some (3, 28) := by kernel_rfl
theorem fld_30_4 : fieldAtB Tryd.prog 30 4 = some (4, 22) := by kernel_rfl
theorem fld_38_0 : fieldAtB Tryd.prog 38 0 = some (0, 3) := by kernel_rfl
theorem fld_38_1 : fieldAtB Tryd.prog 38 1 = some (1, 35) := by kernel_rfl
theorem fld_38_2 : fieldAtB Tryd.prog 38 2 = some (2, 22) := by kernel_rfl
theorem fld_55_0 : fieldAtB Tryd.prog 55 0 = some (0, 3) := by kernel_rfl
theorem fld_55_1 : fieldAtB Tryd.prog 55 1 = some (1, 3) := by kernel_rfl
theorem fld_55_2 : fieldAtB Tryd.prog 55 2 = some (2, 3) := by kernel_rfl
theorem fld_55_3 : fieldAtB Tryd.prog 55 3 = some (3, 51) := by kernel_rfl
theorem fld_55_4 : fieldAtB Tryd.prog 55 4 = some (4, 52) := by kernel_rfl
theorem fld_55_5 : fieldAtB Tryd.prog 55 5 = some (5, 53) := by kernel_rfl
theorem fld_61_0 : fieldAtB Tryd.prog 61 0 = some (0, 9) := by kernel_rfl
theorem fld_61_1 : fieldAtB Tryd.prog 61 1 = some (1, 4) := by kernel_rfl
theorem fld_61_10 : fieldAtB Tryd.prog 61 10 = some (10, 3) := by kernel_rfl
theorem fld_61_2 : fieldAtB Tryd.prog 61 2 = some (2, 3) := by kernel_rfl
theorem fld_61_3 : fieldAtB Tryd.prog 61 3 = some (3, 35) := by kernel_rfl
theorem fld_61_4 : fieldAtB Tryd.prog 61 4 = some (4, 3) := by kernel_rfl
theorem fld_61_5 : fieldAtB Tryd.prog 61 5 = some (5, 22) := by kernel_rfl
theorem fld_61_6 : fieldAtB Tryd.prog 61 6 = some (6, 22) := by kernel_rfl
theorem fld_61_7 : fieldAtB Tryd.prog 61 7 = some (7, 22) := by kernel_rfl
theorem fld_61_8 : fieldAtB Tryd.prog 61 8 = some (8, 3) := by kernel_rfl
theorem fld_61_9 : fieldAtB Tryd.prog 61 9 = some (9, 3) := by kernel_rfl
theorem fld_64_0 : fieldAtB Tryd.prog 64 0 = some (0, 9) := by kernel_rfl
theorem fld_64_1 : fieldAtB Tryd.prog 64 1 = some (1, 4) := by kernel_rfl
theorem fld_64_2 : fieldAtB Tryd.prog 64 2 = some (2, 3) := by kernel_rfl
theorem fld_64_3 : fieldAtB Tryd.prog 64 3 = some (3, 3) := by kernel_rfl
theorem mixed : Tryd.prog.follows .mixedOrders = true := by kernel_rfl
theorem one_22 : oneB Tryd.prog 22 = true := by kernel_rfl
theorem one_23 : oneB Tryd.prog 23 = true := by kernel_rfl
theorem one_26 : oneB Tryd.prog 26 = true := by kernel_rfl
theorem one_27 : oneB Tryd.prog 27 = true := by kernel_rfl
theorem one_28 : oneB Tryd.prog 28 = true := by kernel_rfl
theorem one_3 : oneB Tryd.prog 3 = true := by kernel_rfl
theorem one_31 : oneB Tryd.prog 31 = true := by kernel_rfl
theorem one_35 : oneB Tryd.prog 35 = true := by kernel_rfl
theorem one_4 : oneB Tryd.prog 4 = true := by kernel_rfl
theorem one_5 : oneB Tryd.prog 5 = true := by kernel_rfl
theorem one_51 : oneB Tryd.prog 51 = true := by kernel_rfl
theorem one_52 : oneB Tryd.prog 52 = true := by kernel_rfl
theorem one_53 : oneB Tryd.prog 53 = true := by kernel_rfl
theorem one_9 : oneB Tryd.prog 9 = true := by kernel_rfl
theorem sl_217 : sliceB Tryd.prog 217 = some (5, 1, 1) := by kernel_rfl
theorem sl_22 : sliceB Tryd.prog 22 = some (3, 1, 8) := by kernel_rfl
theorem sl_26 : sliceB Tryd.prog 26 = some (9, 1, 16) := by kernel_rfl
theorem sl_27 : sliceB Tryd.prog 27 = some (149, 5, 48) := by kernel_rfl
theorem sl_28 : sliceB Tryd.prog 28 = some (38, 3, 40) := by kernel_rfl
theorem sl_31 : sliceB Tryd.prog 31 = some (61, 11, 144) := by kernel_rfl
theorem sl_51 : sliceB Tryd.prog 51 = some (158, 3, 24) := by kernel_rfl
theorem sl_52 : sliceB Tryd.prog 52 = some (160, 5, 40) := by kernel_rfl
theorem sl_53 : sliceB Tryd.prog 53 = some (64, 4, 40) := by kernel_rfl
theorem ub_4 : Tryd.prog.underlying 4 = some .bool := by kernel_rfl
theorem ui_5 : Tryd.prog.underlying 5 = some (.int .u8) := by kernel_rfl
theorem um_348 : Tryd.prog.underlying 348 = some (.map 9 3) := by kernel_rfl
theorem us_9 : Tryd.prog.underlying 9 = some .string := by kernel_rfl
theorem usl_217 : Tryd.prog.underlying 217 = some (.slice 5) := by kernel_rfl
theorem usl_22 : Tryd.prog.underlying 22 = some (.slice 3) := by kernel_rfl
theorem usl_26 : Tryd.prog.underlying 26 = some (.slice 9) := by kernel_rfl
theorem usl_27 : Tryd.prog.underlying 27 = some (.slice 149) := by kernel_rfl
theorem usl_28 : Tryd.prog.underlying 28 = some (.slice 38) := by kernel_rfl
theorem usl_31 : Tryd.prog.underlying 31 = some (.slice 61) := by kernel_rfl
theorem usl_51 : Tryd.prog.underlying 51 = some (.slice 158) := by kernel_rfl
theorem usl_52 : Tryd.prog.underlying 52 = some (.slice 160) := by kernel_rfl
theorem usl_53 : Tryd.prog.underlying 53 = some (.slice 64) := by kernel_rfl
theorem zero_149 : zeroB Tryd.prog 149 = some [.string ⟨#[]⟩, .int .i64 0, .int .i64 0, .int .i64 0, .bool false] := by kernel_rfl
theorem zero_158 : zeroB Tryd.prog 158 = some [.int .i64 0, .int .i64 0, .int .i64 0] := by kernel_rfl
theorem zero_160 : zeroB Tryd.prog 160 = some [.int .i64 0, .int .i64 0, .int .i64 0, .int .i64 0, .int .i64 0] := by kernel_rfl
theorem zero_3 : zeroB Tryd.prog 3 = some [.int .i64 0] := by kernel_rfl
theorem zero_30 : zeroB Tryd.prog 30 = some [.slice none 0 0, .slice none 0 0, .slice none 0 0, .slice none 0 0, .slice none 0 0] := by kernel_rfl
theorem zero_31 : zeroB Tryd.prog 31 = some [.slice none 0 0] := by kernel_rfl
theorem zero_38 : zeroB Tryd.prog 38 = some [.int .i64 0, .int .u64 0, .slice none 0 0] := by kernel_rfl
theorem zero_55 : zeroB Tryd.prog 55 = some [.int .i64 0, .int .i64 0, .int .i64 0, .slice none 0 0, .slice none 0 0, .slice none 0 0] := by kernel_rfl
theorem zero_61 : zeroB Tryd.prog 61 = some [.string ⟨#[]⟩, .bool false, .int .i64 0, .int .u64 0, .int .i64 0, .slice none 0 0, .slice none 0 0, .slice none 0 0, .int .i64 0, .int .i64 0, .int .i64 0] := by kernel_rfl
theorem zero_64 : zeroB Tryd.prog 64 = some [.string ⟨#[]⟩, .bool false, .int .i64 0, .int .i64 0] := by kernel_rfl
theorem zero_9 : zeroB Tryd.prog 9 = some [.string ⟨#[]⟩] := by kernel_rfl
theorem zv_3 : ((Tryd.prog.info? 3).bind fun i => i.zero) = some (.int .i64 0) := by kernel_rfl

end Go.Proofs.YtclhfemcinibmaaDoor.X
