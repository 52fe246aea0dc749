/- Closed facts on the loaded program's types and functions, each by the kernel. -/
import Derived.Test.YtlolchgeedegdaaDoorProg
import Derived.Test.YtlolchgeedegdaaDoorYH
namespace Go.Proofs.YtlolchgeedegdaaDoor.X
open Go Go.RowKit
set_option linter.unusedVariables false
set_option linter.unusedSimpArgs false

theorem agg_135 : aggB Tryd.prog 135 5 = true := by kernel_rfl
theorem agg_145 : aggB Tryd.prog 145 3 = true := by kernel_rfl
theorem agg_156 : aggB Tryd.prog 156 3 = true := by kernel_rfl
theorem agg_158 : aggB Tryd.prog 158 2 = true := by kernel_rfl
theorem agg_160 : aggB Tryd.prog 160 3 = true := by kernel_rfl
theorem agg_206 : aggB Tryd.prog 206 11 = true := by kernel_rfl
theorem agg_30 : aggB Tryd.prog 30 5 = true := by kernel_rfl
theorem agg_38 : aggB Tryd.prog 38 3 = true := by kernel_rfl
theorem agg_51 : aggB Tryd.prog 51 5 = true := by kernel_rfl
theorem agg_56 : aggB Tryd.prog 56 4 = true := by kernel_rfl
theorem agg_58 : aggB Tryd.prog 58 15 = true := by kernel_rfl
theorem agg_67 : aggB Tryd.prog 67 8 = true := by kernel_rfl
theorem agg_70 : aggB Tryd.prog 70 2 = true := by kernel_rfl
theorem agg_75 : aggB Tryd.prog 75 2 = true := by kernel_rfl
theorem bld_135 : structB Tryd.prog 135 = some ([(0, 1), (1, 1), (2, 1), (3, 1), (4, 1)], [.string ⟨#[]⟩, .int .i64 0, .int .i64 0, .int .i64 0, .bool false]) := by kernel_rfl
theorem bld_145 : structB Tryd.prog 145 = some ([(0, 1), (1, 1), (2, 1)], [.bool false, .int .i64 0, .int .i64 0]) := by kernel_rfl
theorem bld_156 : structB Tryd.prog 156 = some ([(0, 1), (1, 2)], [.string ⟨#[]⟩, .int .i64 0, .int .i64 0]) := by kernel_rfl
theorem bld_158 : structB Tryd.prog 158 = some ([(0, 1), (1, 1)], [.string ⟨#[]⟩, .int .i64 0]) := by kernel_rfl
theorem bld_160 : structB Tryd.prog 160 = some ([(0, 1), (1, 1), (2, 1)], [.string ⟨#[]⟩, .string ⟨#[]⟩, .int .i64 0]) := by kernel_rfl
theorem bld_206 : structB Tryd.prog 206 = some ([(0, 1), (1, 1), (2, 1), (3, 1), (4, 1), (5, 1), (6, 1), (7, 1), (8, 1), (9, 1), (10, 1)], [.string ⟨#[]⟩, .bool false, .int .i64 0, .int .u64 0, .int .i64 0, .slice none 0 0, .slice none 0 0, .slice none 0 0, .int .i64 0, .int .i64 0, .int .i64 0]) := by kernel_rfl
theorem bld_25 : structB Tryd.prog 25 = some ([(0, 1), (1, 1)], [.slice none 0 0, .int .i64 0]) := by kernel_rfl
theorem bld_30 : structB Tryd.prog 30 = some ([(0, 1), (1, 1), (2, 1), (3, 1), (4, 1)], [.slice none 0 0, .slice none 0 0, .slice none 0 0, .slice none 0 0, .slice none 0 0]) := by kernel_rfl
theorem bld_38 : structB Tryd.prog 38 = some ([(0, 1), (1, 1), (2, 1)], [.int .i64 0, .int .u64 0, .slice none 0 0]) := by kernel_rfl
theorem bld_51 : structB Tryd.prog 51 = some ([(0, 1), (1, 1), (2, 1), (3, 1), (4, 1)], [.slice none 0 0, .slice none 0 0, .slice none 0 0, .slice none 0 0, .slice none 0 0]) := by kernel_rfl
theorem bld_56 : structB Tryd.prog 56 = some ([(0, 1), (1, 1), (2, 1), (3, 1)], [.int .i64 0, .slice none 0 0, .slice none 0 0, .slice none 0 0]) := by kernel_rfl
theorem bld_58 : structB Tryd.prog 58 = some ([(0, 5), (5, 1), (6, 5), (11, 4)], [.slice none 0 0, .slice none 0 0, .slice none 0 0, .slice none 0 0, .slice none 0 0, .slice none 0 0, .slice none 0 0, .slice none 0 0, .slice none 0 0, .slice none 0 0, .slice none 0 0, .int .i64 0, .slice none 0 0, .slice none 0 0, .slice none 0 0]) := by kernel_rfl
theorem bld_65 : structB Tryd.prog 65 = some ([(0, 1), (1, 1), (2, 1)], [.bool false, .int .i64 0, .int .i64 0]) := by kernel_rfl
theorem bld_67 : structB Tryd.prog 67 = some ([(0, 1), (1, 1), (2, 3), (5, 3)], [.int .i64 0, .int .i64 0, .bool false, .int .i64 0, .int .i64 0, .bool false, .int .i64 0, .int .i64 0]) := by kernel_rfl
theorem bld_70 : structB Tryd.prog 70 = some ([(0, 1), (1, 1)], [.int .i64 0, .int .i64 0]) := by kernel_rfl
theorem bld_75 : structB Tryd.prog 75 = some ([(0, 1), (1, 1)], [.int .i64 0, .int .i64 0]) := by kernel_rfl
theorem bldf_135 : fieldsB Tryd.prog 135 = true := by kernel_rfl
theorem bldf_145 : fieldsB Tryd.prog 145 = true := by kernel_rfl
theorem bldf_156 : fieldsB Tryd.prog 156 = true := by kernel_rfl
theorem bldf_158 : fieldsB Tryd.prog 158 = true := by kernel_rfl
theorem bldf_160 : fieldsB Tryd.prog 160 = true := by kernel_rfl
theorem bldf_206 : fieldsB Tryd.prog 206 = true := by kernel_rfl
theorem bldf_25 : fieldsB Tryd.prog 25 = true := by kernel_rfl
theorem bldf_30 : fieldsB Tryd.prog 30 = true := by kernel_rfl
theorem bldf_38 : fieldsB Tryd.prog 38 = true := by kernel_rfl
theorem bldf_51 : fieldsB Tryd.prog 51 = true := by kernel_rfl
theorem bldf_56 : fieldsB Tryd.prog 56 = true := by kernel_rfl
theorem bldf_58 : fieldsB Tryd.prog 58 = true := by kernel_rfl
theorem bldf_65 : fieldsB Tryd.prog 65 = true := by kernel_rfl
theorem bldf_67 : fieldsB Tryd.prog 67 = true := by kernel_rfl
theorem bldf_70 : fieldsB Tryd.prog 70 = true := by kernel_rfl
theorem bldf_75 : fieldsB Tryd.prog 75 = true := by kernel_rfl
theorem call_102 : callB Tryd.prog 102 = true := by kernel_rfl
theorem call_103 : callB Tryd.prog 103 = true := by kernel_rfl
theorem call_105 : callB Tryd.prog 105 = true := by kernel_rfl
theorem call_106 : callB Tryd.prog 106 = true := by kernel_rfl
theorem call_11 : callB Tryd.prog 11 = true := by kernel_rfl
theorem call_113 : callB Tryd.prog 113 = true := by kernel_rfl
theorem call_114 : callB Tryd.prog 114 = true := by kernel_rfl
theorem call_115 : callB Tryd.prog 115 = true := by kernel_rfl
theorem call_116 : callB Tryd.prog 116 = true := by kernel_rfl
theorem call_117 : callB Tryd.prog 117 = true := by kernel_rfl
theorem call_118 : callB Tryd.prog 118 = true := by kernel_rfl
theorem call_119 : callB Tryd.prog 119 = true := by kernel_rfl
theorem call_12 : callB Tryd.prog 12 = true := by kernel_rfl
theorem call_120 : callB Tryd.prog 120 = true := by kernel_rfl
theorem call_121 : callB Tryd.prog 121 = true := by kernel_rfl
theorem call_122 : callB Tryd.prog 122 = true := by kernel_rfl
theorem call_123 : callB Tryd.prog 123 = true := by kernel_rfl
theorem call_124 : callB Tryd.prog 124 = true := by kernel_rfl
theorem call_125 : callB Tryd.prog 125 = true := by kernel_rfl
theorem call_126 : callB Tryd.prog 126 = true := by kernel_rfl
theorem call_127 : callB Tryd.prog 127 = true := by kernel_rfl
theorem call_128 : callB Tryd.prog 128 = true := by kernel_rfl
theorem call_129 : callB Tryd.prog 129 = true := by kernel_rfl
theorem call_13 : callB Tryd.prog 13 = true := by kernel_rfl
theorem call_132 : callB Tryd.prog 132 = true := by kernel_rfl
theorem call_149 : callB Tryd.prog 149 = true := by kernel_rfl
theorem call_150 : callB Tryd.prog 150 = true := by kernel_rfl
theorem call_151 : callB Tryd.prog 151 = true := by kernel_rfl
theorem call_153 : callB Tryd.prog 153 = true := by kernel_rfl
theorem call_154 : callB Tryd.prog 154 = true := by kernel_rfl
theorem call_155 : callB Tryd.prog 155 = true := by kernel_rfl
theorem call_156 : callB Tryd.prog 156 = true := by kernel_rfl
theorem call_17 : callB Tryd.prog 17 = true := by kernel_rfl
theorem call_171 : callB Tryd.prog 171 = true := by kernel_rfl
theorem call_172 : callB Tryd.prog 172 = true := by kernel_rfl
theorem call_173 : callB Tryd.prog 173 = true := by kernel_rfl
theorem call_174 : callB Tryd.prog 174 = true := by kernel_rfl
theorem call_18 : callB Tryd.prog 18 = true := by kernel_rfl
theorem call_19 : callB Tryd.prog 19 = true := by kernel_rfl
theorem call_193 : callB Tryd.prog 193 = true := by kernel_rfl
theorem call_20 : callB Tryd.prog 20 = true := by kernel_rfl
theorem call_21 : callB Tryd.prog 21 = true := by kernel_rfl
theorem call_22 : callB Tryd.prog 22 = true := by kernel_rfl
theorem call_24 : callB Tryd.prog 24 = true := by kernel_rfl
theorem call_25 : callB Tryd.prog 25 = true := by kernel_rfl
theorem call_29 : callB Tryd.prog 29 = true := by kernel_rfl
theorem call_47 : callB Tryd.prog 47 = true := by kernel_rfl
theorem call_48 : callB Tryd.prog 48 = true := by kernel_rfl
theorem call_57 : callB Tryd.prog 57 = true := by kernel_rfl
theorem call_58 : callB Tryd.prog 58 = true := by kernel_rfl
theorem call_59 : callB Tryd.prog 59 = true := by kernel_rfl
theorem call_60 : callB Tryd.prog 60 = true := by kernel_rfl
theorem call_61 : callB Tryd.prog 61 = true := by kernel_rfl
theorem call_62 : callB Tryd.prog 62 = true := by kernel_rfl
theorem call_63 : callB Tryd.prog 63 = true := by kernel_rfl
theorem call_64 : callB Tryd.prog 64 = true := by kernel_rfl
theorem call_65 : callB Tryd.prog 65 = true := by kernel_rfl
theorem call_68 : callB Tryd.prog 68 = true := by kernel_rfl
theorem call_71 : callB Tryd.prog 71 = true := by kernel_rfl
theorem call_72 : callB Tryd.prog 72 = true := by kernel_rfl
theorem call_73 : callB Tryd.prog 73 = true := by kernel_rfl
theorem call_74 : callB Tryd.prog 74 = true := by kernel_rfl
theorem call_76 : callB Tryd.prog 76 = true := by kernel_rfl
theorem call_77 : callB Tryd.prog 77 = true := by kernel_rfl
theorem call_80 : callB Tryd.prog 80 = true := by kernel_rfl
theorem call_81 : callB Tryd.prog 81 = true := by kernel_rfl
theorem call_93 : callB Tryd.prog 93 = true := by kernel_rfl
theorem fld_135_0 : fieldAtB Tryd.prog 135 0 = some (0, 9) := by kernel_rfl
theorem fld_135_1 : fieldAtB Tryd.prog 135 1 = some (1, 3) := by kernel_rfl
theorem fld_135_2 : fieldAtB Tryd.prog 135 2 = some (2, 3) := by kernel_rfl
theorem fld_135_3 : fieldAtB Tryd.prog 135 3 = some (3, 3) := by kernel_rfl
theorem fld_145_0 : fieldAtB Tryd.prog 145 0 = some (0, 4) := by kernel_rfl
theorem fld_145_1 : fieldAtB Tryd.prog 145 1 = some (1, 3) := by kernel_rfl
theorem fld_145_2 : fieldAtB Tryd.prog 145 2 = some (2, 3) := by kernel_rfl
theorem fld_156_0 : fieldAtB Tryd.prog 156 0 = some (0, 9) := by kernel_rfl
theorem fld_156_1 : fieldAtB Tryd.prog 156 1 = some (1, 70) := by kernel_rfl
theorem fld_158_0 : fieldAtB Tryd.prog 158 0 = some (0, 9) := by kernel_rfl
theorem fld_158_1 : fieldAtB Tryd.prog 158 1 = some (1, 3) := by kernel_rfl
theorem fld_160_0 : fieldAtB Tryd.prog 160 0 = some (0, 9) := by kernel_rfl
theorem fld_160_1 : fieldAtB Tryd.prog 160 1 = some (1, 9) := by kernel_rfl
theorem fld_160_2 : fieldAtB Tryd.prog 160 2 = some (2, 3) := by kernel_rfl
theorem fld_206_1 : fieldAtB Tryd.prog 206 1 = some (1, 4) := by kernel_rfl
theorem fld_206_10 : fieldAtB Tryd.prog 206 10 = some (10, 3) := by kernel_rfl
theorem fld_206_2 : fieldAtB Tryd.prog 206 2 = some (2, 3) := by kernel_rfl
theorem fld_206_3 : fieldAtB Tryd.prog 206 3 = some (3, 35) := by kernel_rfl
theorem fld_206_5 : fieldAtB Tryd.prog 206 5 = some (5, 22) := by kernel_rfl
theorem fld_206_6 : fieldAtB Tryd.prog 206 6 = some (6, 22) := by kernel_rfl
theorem fld_206_7 : fieldAtB Tryd.prog 206 7 = some (7, 22) := by kernel_rfl
theorem fld_206_9 : fieldAtB Tryd.prog 206 9 = some (9, 3) := by kernel_rfl
theorem fld_25_0 : fieldAtB Tryd.prog 25 0 = some (0, 22) := by kernel_rfl
theorem fld_25_1 : fieldAtB Tryd.prog 25 1 = some (1, 3) := by kernel_rfl
theorem fld_30_0 : fieldAtB Tryd.prog 30 0 = some (0, 26) := by kernel_rfl
theorem fld_30_1 : fieldAtB Tryd.prog 30 1 = some (1, 26) := by kernel_rfl
theorem fld_30_2 : fieldAtB Tryd.prog 30 2 = some (2, 27) := by kernel_rfl
theorem fld_30_3 : fieldAtB Tryd.prog 30 3 = some (3, 28) := by kernel_rfl
theorem fld_30_4 : fieldAtB Tryd.prog 30 4 = some (4, 22) := by kernel_rfl
theorem fld_38_0 : fieldAtB Tryd.prog 38 0 = some (0, 3) := by kernel_rfl
theorem fld_38_1 : fieldAtB Tryd.prog 38 1 = some (1, 35) := by kernel_rfl
theorem fld_38_2 : fieldAtB Tryd.prog 38 2 = some (2, 22) := by kernel_rfl
theorem fld_51_0 : fieldAtB Tryd.prog 51 0 = some (0, 48) := by kernel_rfl
theorem fld_51_1 : fieldAtB Tryd.prog 51 1 = some (1, 48) := by kernel_rfl
theorem fld_51_2 : fieldAtB Tryd.prog 51 2 = some (2, 49) := by kernel_rfl
theorem fld_51_3 : fieldAtB Tryd.prog 51 3 = some (3, 49) := by kernel_rfl
theorem fld_51_4 : fieldAtB Tryd.prog 51 4 = some (4, 49) := by kernel_rfl
theorem fld_56_0 : fieldAtB Tryd.prog 56 0 = some (0, 3) := by kernel_rfl
theorem fld_56_1 : fieldAtB Tryd.prog 56 1 = some (1, 52) := by kernel_rfl
theorem fld_56_2 : fieldAtB Tryd.prog 56 2 = some (2, 53) := by kernel_rfl
theorem fld_56_3 : fieldAtB Tryd.prog 56 3 = some (3, 54) := by kernel_rfl
theorem fld_58_0 : fieldAtB Tryd.prog 58 0 = some (0, 30) := by kernel_rfl
theorem fld_58_1 : fieldAtB Tryd.prog 58 1 = some (5, 31) := by kernel_rfl
theorem fld_58_2 : fieldAtB Tryd.prog 58 2 = some (6, 51) := by kernel_rfl
theorem fld_58_3 : fieldAtB Tryd.prog 58 3 = some (11, 56) := by kernel_rfl
theorem fld_65_0 : fieldAtB Tryd.prog 65 0 = some (0, 4) := by kernel_rfl
theorem fld_65_1 : fieldAtB Tryd.prog 65 1 = some (1, 3) := by kernel_rfl
theorem fld_65_2 : fieldAtB Tryd.prog 65 2 = some (2, 3) := by kernel_rfl
theorem fld_67_0 : fieldAtB Tryd.prog 67 0 = some (0, 3) := by kernel_rfl
theorem fld_67_1 : fieldAtB Tryd.prog 67 1 = some (1, 3) := by kernel_rfl
theorem fld_67_2 : fieldAtB Tryd.prog 67 2 = some (2, 65) := by kernel_rfl
theorem fld_67_3 : fieldAtB Tryd.prog 67 3 = some (5, 65) := by kernel_rfl
theorem fld_70_0 : fieldAtB Tryd.prog 70 0 = some (0, 3) := by kernel_rfl
theorem fld_70_1 : fieldAtB Tryd.prog 70 1 = some (1, 3) := by kernel_rfl
theorem fld_75_0 : fieldAtB Tryd.prog 75 0 = some (0, 3) := by kernel_rfl
theorem fld_75_1 : fieldAtB Tryd.prog 75 1 = some (1, 3) := by kernel_rfl
theorem mixed : Tryd.prog.follows .mixedOrders = true := by kernel_rfl
theorem one_22 : oneB Tryd.prog 22 = true := by kernel_rfl
theorem one_23 : oneB Tryd.prog 23 = true := by kernel_rfl
theorem one_26 : oneB Tryd.prog 26 = true := by kernel_rfl
theorem one_27 : oneB Tryd.prog 27 = true := by kernel_rfl
theorem one_28 : oneB Tryd.prog 28 = true := by kernel_rfl
theorem one_3 : oneB Tryd.prog 3 = true := by kernel_rfl
theorem one_31 : oneB Tryd.prog 31 = true := by kernel_rfl
theorem one_35 : oneB Tryd.prog 35 = true := by kernel_rfl
theorem one_4 : oneB Tryd.prog 4 = true := by kernel_rfl
theorem one_48 : oneB Tryd.prog 48 = true := by kernel_rfl
theorem one_49 : oneB Tryd.prog 49 = true := by kernel_rfl
theorem one_5 : oneB Tryd.prog 5 = true := by kernel_rfl
theorem one_52 : oneB Tryd.prog 52 = true := by kernel_rfl
theorem one_53 : oneB Tryd.prog 53 = true := by kernel_rfl
theorem one_54 : oneB Tryd.prog 54 = true := by kernel_rfl
theorem one_9 : oneB Tryd.prog 9 = true := by kernel_rfl
theorem sl_140 : sliceB Tryd.prog 140 = some (145, 3, 24) := by kernel_rfl
theorem sl_169 : sliceB Tryd.prog 169 = some (5, 1, 1) := by kernel_rfl
theorem sl_22 : sliceB Tryd.prog 22 = some (3, 1, 8) := by kernel_rfl
theorem sl_26 : sliceB Tryd.prog 26 = some (9, 1, 16) := by kernel_rfl
theorem sl_27 : sliceB Tryd.prog 27 = some (135, 5, 48) := by kernel_rfl
theorem sl_28 : sliceB Tryd.prog 28 = some (38, 3, 40) := by kernel_rfl
theorem sl_31 : sliceB Tryd.prog 31 = some (206, 11, 144) := by kernel_rfl
theorem sl_48 : sliceB Tryd.prog 48 = some (49, 1, 24) := by kernel_rfl
theorem sl_49 : sliceB Tryd.prog 49 = some (70, 2, 16) := by kernel_rfl
theorem sl_52 : sliceB Tryd.prog 52 = some (156, 3, 32) := by kernel_rfl
theorem sl_53 : sliceB Tryd.prog 53 = some (158, 2, 24) := by kernel_rfl
theorem sl_54 : sliceB Tryd.prog 54 = some (160, 3, 40) := by kernel_rfl
theorem sl_61 : sliceB Tryd.prog 61 = some (67, 8, 64) := by kernel_rfl
theorem sl_71 : sliceB Tryd.prog 71 = some (75, 2, 16) := by kernel_rfl
theorem sz_145 : (Tryd.prog.info? 145).map (·.size) = some 3 := by kernel_rfl
theorem sz_65 : (Tryd.prog.info? 65).map (·.size) = some 3 := by kernel_rfl
theorem ui_5 : Tryd.prog.underlying 5 = some (.int .u8) := by kernel_rfl
theorem um_279 : Tryd.prog.underlying 279 = some (.map 9 3) := by kernel_rfl
theorem us_9 : Tryd.prog.underlying 9 = some .string := by kernel_rfl
theorem usl_169 : Tryd.prog.underlying 169 = some (.slice 5) := by kernel_rfl
theorem usl_22 : Tryd.prog.underlying 22 = some (.slice 3) := by kernel_rfl
theorem usl_26 : Tryd.prog.underlying 26 = some (.slice 9) := by kernel_rfl
theorem usl_27 : Tryd.prog.underlying 27 = some (.slice 135) := by kernel_rfl
theorem usl_28 : Tryd.prog.underlying 28 = some (.slice 38) := by kernel_rfl
theorem usl_31 : Tryd.prog.underlying 31 = some (.slice 206) := by kernel_rfl
theorem usl_48 : Tryd.prog.underlying 48 = some (.slice 49) := by kernel_rfl
theorem usl_49 : Tryd.prog.underlying 49 = some (.slice 70) := by kernel_rfl
theorem usl_52 : Tryd.prog.underlying 52 = some (.slice 156) := by kernel_rfl
theorem usl_53 : Tryd.prog.underlying 53 = some (.slice 158) := by kernel_rfl
theorem usl_54 : Tryd.prog.underlying 54 = some (.slice 160) := by kernel_rfl
theorem usl_61 : Tryd.prog.underlying 61 = some (.slice 67) := by kernel_rfl
theorem usl_71 : Tryd.prog.underlying 71 = some (.slice 75) := by kernel_rfl
theorem zero_135 : zeroB Tryd.prog 135 = some [.string ⟨#[]⟩, .int .i64 0, .int .i64 0, .int .i64 0, .bool false] := by kernel_rfl
theorem zero_145 : zeroB Tryd.prog 145 = some [.bool false, .int .i64 0, .int .i64 0] := by kernel_rfl
theorem zero_156 : zeroB Tryd.prog 156 = some [.string ⟨#[]⟩, .int .i64 0, .int .i64 0] := by kernel_rfl
theorem zero_158 : zeroB Tryd.prog 158 = some [.string ⟨#[]⟩, .int .i64 0] := by kernel_rfl
theorem zero_160 : zeroB Tryd.prog 160 = some [.string ⟨#[]⟩, .string ⟨#[]⟩, .int .i64 0] := by kernel_rfl
theorem zero_171 : zeroB Tryd.prog 171 = some [.pointer none, .slice none 0 0] := by kernel_rfl
theorem zero_206 : zeroB Tryd.prog 206 = some [.string ⟨#[]⟩, .bool false, .int .i64 0, .int .u64 0, .int .i64 0, .slice none 0 0, .slice none 0 0, .slice none 0 0, .int .i64 0, .int .i64 0, .int .i64 0] := by kernel_rfl
theorem zero_3 : zeroB Tryd.prog 3 = some [.int .i64 0] := by kernel_rfl
theorem zero_30 : zeroB Tryd.prog 30 = some [.slice none 0 0, .slice none 0 0, .slice none 0 0, .slice none 0 0, .slice none 0 0] := by kernel_rfl
theorem zero_31 : zeroB Tryd.prog 31 = some [.slice none 0 0] := by kernel_rfl
theorem zero_38 : zeroB Tryd.prog 38 = some [.int .i64 0, .int .u64 0, .slice none 0 0] := by kernel_rfl
theorem zero_49 : zeroB Tryd.prog 49 = some [.slice none 0 0] := by kernel_rfl
theorem zero_51 : zeroB Tryd.prog 51 = some [.slice none 0 0, .slice none 0 0, .slice none 0 0, .slice none 0 0, .slice none 0 0] := by kernel_rfl
theorem zero_56 : zeroB Tryd.prog 56 = some [.int .i64 0, .slice none 0 0, .slice none 0 0, .slice none 0 0] := by kernel_rfl
theorem zero_58 : zeroB Tryd.prog 58 = some [.slice none 0 0, .slice none 0 0, .slice none 0 0, .slice none 0 0, .slice none 0 0, .slice none 0 0, .slice none 0 0, .slice none 0 0, .slice none 0 0, .slice none 0 0, .slice none 0 0, .int .i64 0, .slice none 0 0, .slice none 0 0, .slice none 0 0] := by kernel_rfl
theorem zero_67 : zeroB Tryd.prog 67 = some [.int .i64 0, .int .i64 0, .bool false, .int .i64 0, .int .i64 0, .bool false, .int .i64 0, .int .i64 0] := by kernel_rfl
theorem zero_70 : zeroB Tryd.prog 70 = some [.int .i64 0, .int .i64 0] := by kernel_rfl
theorem zero_75 : zeroB Tryd.prog 75 = some [.int .i64 0, .int .i64 0] := by kernel_rfl
theorem zero_9 : zeroB Tryd.prog 9 = some [.string ⟨#[]⟩] := by kernel_rfl
theorem zv_3 : ((Tryd.prog.info? 3).bind fun i => i.zero) = some (.int .i64 0) := by kernel_rfl

end Go.Proofs.YtlolchgeedegdaaDoor.X
