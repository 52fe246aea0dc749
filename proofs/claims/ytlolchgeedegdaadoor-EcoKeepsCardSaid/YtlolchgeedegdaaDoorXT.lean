/- Closed facts on the loaded program's types and functions, each by the kernel. -/
import Derived.Test.YtlolchgeedegdaaDoorProg
import Derived.Test.YtlolchgeedegdaaDoorYH
namespace Go.Proofs.YtlolchgeedegdaaDoor.X
open Go Go.RowKit
set_option linter.unusedVariables false
set_option linter.unusedSimpArgs false

theorem agg_135 : aggB Tryd.prog 135 5 = true := by kernel_rfl
theorem agg_206 : aggB Tryd.prog 206 11 = true := by kernel_rfl
theorem agg_30 : aggB Tryd.prog 30 5 = true := by kernel_rfl
theorem agg_38 : aggB Tryd.prog 38 3 = true := by kernel_rfl
theorem agg_43 : aggB Tryd.prog 43 7 = true := by kernel_rfl
theorem bld_135 : structB Tryd.prog 135 = some ([(0, 1), (1, 1), (2, 1), (3, 1), (4, 1)], [.string ⟨#[]⟩, .int .i64 0, .int .i64 0, .int .i64 0, .bool false]) := by kernel_rfl
theorem bld_206 : structB Tryd.prog 206 = some ([(0, 1), (1, 1), (2, 1), (3, 1), (4, 1), (5, 1), (6, 1), (7, 1), (8, 1), (9, 1), (10, 1)], [.string ⟨#[]⟩, .bool false, .int .i64 0, .int .u64 0, .int .i64 0, .slice none 0 0, .slice none 0 0, .slice none 0 0, .int .i64 0, .int .i64 0, .int .i64 0]) := by kernel_rfl
theorem bld_25 : structB Tryd.prog 25 = some ([(0, 1), (1, 1)], [.slice none 0 0, .int .i64 0]) := by kernel_rfl
theorem bld_30 : structB Tryd.prog 30 = some ([(0, 1), (1, 1), (2, 1), (3, 1), (4, 1)], [.slice none 0 0, .slice none 0 0, .slice none 0 0, .slice none 0 0, .slice none 0 0]) := by kernel_rfl
theorem bld_38 : structB Tryd.prog 38 = some ([(0, 1), (1, 1), (2, 1)], [.int .i64 0, .int .u64 0, .slice none 0 0]) := by kernel_rfl
theorem bld_43 : structB Tryd.prog 43 = some ([(0, 1), (1, 3), (4, 1), (5, 1), (6, 1)], [.int .i64 0, .int .i64 0, .int .u64 0, .slice none 0 0, .int .i64 0, .int .i64 0, .int .i64 0]) := by kernel_rfl
theorem bldf_135 : fieldsB Tryd.prog 135 = true := by kernel_rfl
theorem bldf_206 : fieldsB Tryd.prog 206 = true := by kernel_rfl
theorem bldf_25 : fieldsB Tryd.prog 25 = true := by kernel_rfl
theorem bldf_30 : fieldsB Tryd.prog 30 = true := by kernel_rfl
theorem bldf_38 : fieldsB Tryd.prog 38 = true := by kernel_rfl
theorem bldf_43 : fieldsB Tryd.prog 43 = true := by kernel_rfl
theorem call_102 : callB Tryd.prog 102 = true := by kernel_rfl
theorem call_103 : callB Tryd.prog 103 = true := by kernel_rfl
theorem call_104 : callB Tryd.prog 104 = true := by kernel_rfl
theorem call_105 : callB Tryd.prog 105 = true := by kernel_rfl
theorem call_106 : callB Tryd.prog 106 = true := by kernel_rfl
theorem call_107 : callB Tryd.prog 107 = true := by kernel_rfl
theorem call_108 : callB Tryd.prog 108 = true := by kernel_rfl
theorem call_109 : callB Tryd.prog 109 = true := by kernel_rfl
theorem call_11 : callB Tryd.prog 11 = true := by kernel_rfl
theorem call_110 : callB Tryd.prog 110 = true := by kernel_rfl
theorem call_111 : callB Tryd.prog 111 = true := by kernel_rfl
theorem call_112 : callB Tryd.prog 112 = true := by kernel_rfl
theorem call_113 : callB Tryd.prog 113 = true := by kernel_rfl
theorem call_12 : callB Tryd.prog 12 = true := by kernel_rfl
theorem call_13 : callB Tryd.prog 13 = true := by kernel_rfl
theorem call_14 : callB Tryd.prog 14 = true := by kernel_rfl
theorem call_147 : callB Tryd.prog 147 = true := by kernel_rfl
theorem call_148 : callB Tryd.prog 148 = true := by kernel_rfl
theorem call_149 : callB Tryd.prog 149 = true := by kernel_rfl
theorem call_15 : callB Tryd.prog 15 = true := by kernel_rfl
theorem call_150 : callB Tryd.prog 150 = true := by kernel_rfl
theorem call_151 : callB Tryd.prog 151 = true := by kernel_rfl
theorem call_152 : callB Tryd.prog 152 = true := by kernel_rfl
theorem call_16 : callB Tryd.prog 16 = true := by kernel_rfl
theorem call_168 : callB Tryd.prog 168 = true := by kernel_rfl
theorem call_169 : callB Tryd.prog 169 = true := by kernel_rfl
theorem call_170 : callB Tryd.prog 170 = true := by kernel_rfl
theorem call_171 : callB Tryd.prog 171 = true := by kernel_rfl
theorem call_172 : callB Tryd.prog 172 = true := by kernel_rfl
theorem call_173 : callB Tryd.prog 173 = true := by kernel_rfl
theorem call_18 : callB Tryd.prog 18 = true := by kernel_rfl
theorem call_190 : callB Tryd.prog 190 = true := by kernel_rfl
theorem call_191 : callB Tryd.prog 191 = true := by kernel_rfl
theorem call_192 : callB Tryd.prog 192 = true := by kernel_rfl
theorem call_193 : callB Tryd.prog 193 = true := by kernel_rfl
theorem call_22 : callB Tryd.prog 22 = true := by kernel_rfl
theorem call_24 : callB Tryd.prog 24 = true := by kernel_rfl
theorem call_47 : callB Tryd.prog 47 = true := by kernel_rfl
theorem call_48 : callB Tryd.prog 48 = true := by kernel_rfl
theorem call_49 : callB Tryd.prog 49 = true := by kernel_rfl
theorem call_50 : callB Tryd.prog 50 = true := by kernel_rfl
theorem call_51 : callB Tryd.prog 51 = true := by kernel_rfl
theorem call_52 : callB Tryd.prog 52 = true := by kernel_rfl
theorem call_53 : callB Tryd.prog 53 = true := by kernel_rfl
theorem call_54 : callB Tryd.prog 54 = true := by kernel_rfl
theorem call_55 : callB Tryd.prog 55 = true := by kernel_rfl
theorem call_56 : callB Tryd.prog 56 = true := by kernel_rfl
theorem call_71 : callB Tryd.prog 71 = true := by kernel_rfl
theorem call_93 : callB Tryd.prog 93 = true := by kernel_rfl
theorem eqs_135 : eqStB Tryd.prog 135 [2, 0, 0, 0, 1] = true := by kernel_rfl
theorem fld_135_0 : fieldAtB Tryd.prog 135 0 = some (0, 9) := by kernel_rfl
theorem fld_135_1 : fieldAtB Tryd.prog 135 1 = some (1, 3) := by kernel_rfl
theorem fld_135_2 : fieldAtB Tryd.prog 135 2 = some (2, 3) := by kernel_rfl
theorem fld_135_3 : fieldAtB Tryd.prog 135 3 = some (3, 3) := by kernel_rfl
theorem fld_206_0 : fieldAtB Tryd.prog 206 0 = some (0, 9) := by kernel_rfl
theorem fld_206_1 : fieldAtB Tryd.prog 206 1 = some (1, 4) := by kernel_rfl
theorem fld_206_10 : fieldAtB Tryd.prog 206 10 = some (10, 3) := by kernel_rfl
theorem fld_206_2 : fieldAtB Tryd.prog 206 2 = some (2, 3) := by kernel_rfl
theorem fld_206_3 : fieldAtB Tryd.prog 206 3 = some (3, 35) := by kernel_rfl
theorem fld_206_4 : fieldAtB Tryd.prog 206 4 = some (4, 3) := by kernel_rfl
theorem fld_206_5 : fieldAtB Tryd.prog 206 5 = some (5, 22) := by kernel_rfl
theorem fld_206_6 : fieldAtB Tryd.prog 206 6 = some (6, 22) := by kernel_rfl
theorem fld_206_7 : fieldAtB Tryd.prog 206 7 = some (7, 22) := by kernel_rfl
theorem fld_206_8 : fieldAtB Tryd.prog 206 8 = some (8, 3) := by kernel_rfl
theorem fld_206_9 : fieldAtB Tryd.prog 206 9 = some (9, 3) := by kernel_rfl
theorem fld_25_0 : fieldAtB Tryd.prog 25 0 = some (0, 22) := by kernel_rfl
theorem fld_25_1 : fieldAtB Tryd.prog 25 1 = some (1, 3) := by kernel_rfl
theorem fld_30_0 : fieldAtB Tryd.prog 30 0 = some (0, 26) := by kernel_rfl
theorem fld_30_1 : fieldAtB Tryd.prog 30 1 = some (1, 26) := by kernel_rfl
theorem fld_30_2 : fieldAtB Tryd.prog 30 2 = some (2, 27) := by kernel_rfl
theorem fld_30_3 : fieldAtB Tryd.prog 30 3 = some (3, 28) := by kernel_rfl
theorem fld_30_4 : fieldAtB Tryd.prog 30 4 = some (4, 22) := by kernel_rfl
theorem fld_38_0 : fieldAtB Tryd.prog 38 0 = some (0, 3) := by kernel_rfl
theorem fld_38_1 : fieldAtB Tryd.prog 38 1 = some (1, 35) := by kernel_rfl
theorem fld_38_2 : fieldAtB Tryd.prog 38 2 = some (2, 22) := by kernel_rfl
theorem fld_43_0 : fieldAtB Tryd.prog 43 0 = some (0, 3) := by kernel_rfl
theorem fld_43_1 : fieldAtB Tryd.prog 43 1 = some (1, 38) := by kernel_rfl
theorem fld_43_2 : fieldAtB Tryd.prog 43 2 = some (4, 3) := by kernel_rfl
theorem fld_43_3 : fieldAtB Tryd.prog 43 3 = some (5, 3) := by kernel_rfl
theorem fld_43_4 : fieldAtB Tryd.prog 43 4 = some (6, 3) := by kernel_rfl
theorem mixed : Tryd.prog.follows .mixedOrders = true := by kernel_rfl
theorem one_22 : oneB Tryd.prog 22 = true := by kernel_rfl
theorem one_23 : oneB Tryd.prog 23 = true := by kernel_rfl
theorem one_26 : oneB Tryd.prog 26 = true := by kernel_rfl
theorem one_27 : oneB Tryd.prog 27 = true := by kernel_rfl
theorem one_28 : oneB Tryd.prog 28 = true := by kernel_rfl
theorem one_3 : oneB Tryd.prog 3 = true := by kernel_rfl
theorem one_31 : oneB Tryd.prog 31 = true := by kernel_rfl
theorem one_35 : oneB Tryd.prog 35 = true := by kernel_rfl
theorem one_4 : oneB Tryd.prog 4 = true := by kernel_rfl
theorem one_5 : oneB Tryd.prog 5 = true := by kernel_rfl
theorem one_9 : oneB Tryd.prog 9 = true := by kernel_rfl
theorem sl_169 : sliceB Tryd.prog 169 = some (5, 1, 1) := by kernel_rfl
theorem sl_22 : sliceB Tryd.prog 22 = some (3, 1, 8) := by kernel_rfl
theorem sl_26 : sliceB Tryd.prog 26 = some (9, 1, 16) := by kernel_rfl
theorem sl_27 : sliceB Tryd.prog 27 = some (135, 5, 48) := by kernel_rfl
theorem sl_28 : sliceB Tryd.prog 28 = some (38, 3, 40) := by kernel_rfl
theorem sl_31 : sliceB Tryd.prog 31 = some (206, 11, 144) := by kernel_rfl
theorem sl_44 : sliceB Tryd.prog 44 = some (43, 7, 72) := by kernel_rfl
theorem sz_22 : (Tryd.prog.info? 22).map (·.size) = some 1 := by kernel_rfl
theorem sz_3 : (Tryd.prog.info? 3).map (·.size) = some 1 := by kernel_rfl
theorem ui_5 : Tryd.prog.underlying 5 = some (.int .u8) := by kernel_rfl
theorem um_279 : Tryd.prog.underlying 279 = some (.map 9 3) := by kernel_rfl
theorem us_9 : Tryd.prog.underlying 9 = some .string := by kernel_rfl
theorem usl_169 : Tryd.prog.underlying 169 = some (.slice 5) := by kernel_rfl
theorem usl_22 : Tryd.prog.underlying 22 = some (.slice 3) := by kernel_rfl
theorem usl_26 : Tryd.prog.underlying 26 = some (.slice 9) := by kernel_rfl
theorem usl_27 : Tryd.prog.underlying 27 = some (.slice 135) := by kernel_rfl
theorem usl_28 : Tryd.prog.underlying 28 = some (.slice 38) := by kernel_rfl
theorem usl_31 : Tryd.prog.underlying 31 = some (.slice 206) := by kernel_rfl
theorem usl_44 : Tryd.prog.underlying 44 = some (.slice 43) := by kernel_rfl
theorem zero_135 : zeroB Tryd.prog 135 = some [.string ⟨#[]⟩, .int .i64 0, .int .i64 0, .int .i64 0, .bool false] := by kernel_rfl
theorem zero_206 : zeroB Tryd.prog 206 = some [.string ⟨#[]⟩, .bool false, .int .i64 0, .int .u64 0, .int .i64 0, .slice none 0 0, .slice none 0 0, .slice none 0 0, .int .i64 0, .int .i64 0, .int .i64 0] := by kernel_rfl
theorem zero_3 : zeroB Tryd.prog 3 = some [.int .i64 0] := by kernel_rfl
theorem zero_30 : zeroB Tryd.prog 30 = some [.slice none 0 0, .slice none 0 0, .slice none 0 0, .slice none 0 0, .slice none 0 0] := by kernel_rfl
theorem zero_31 : zeroB Tryd.prog 31 = some [.slice none 0 0] := by kernel_rfl
theorem zero_38 : zeroB Tryd.prog 38 = some [.int .i64 0, .int .u64 0, .slice none 0 0] := by kernel_rfl
theorem zero_43 : zeroB Tryd.prog 43 = some [.int .i64 0, .int .i64 0, .int .u64 0, .slice none 0 0, .int .i64 0, .int .i64 0, .int .i64 0] := by kernel_rfl
theorem zero_9 : zeroB Tryd.prog 9 = some [.string ⟨#[]⟩] := by kernel_rfl
theorem zv_3 : ((Tryd.prog.info? 3).bind fun i => i.zero) = some (.int .i64 0) := by kernel_rfl

end Go.Proofs.YtlolchgeedegdaaDoor.X
