/- Closed facts on the loaded program's types and functions, each by the kernel. -/
import Derived.Test.YtlolchgeedegdaaDoorProg
import Derived.Test.YtlolchgeedegdaaDoorYH
namespace Go.Proofs.YtlolchgeedegdaaDoor.X
open Go Go.RowKit
set_option linter.unusedVariables false
set_option linter.unusedSimpArgs false

theorem agg_135 : aggB Tryd.prog 135 5 = true := by kernel_rfl
theorem agg_156 : aggB Tryd.prog 156 3 = true := by kernel_rfl
theorem agg_158 : aggB Tryd.prog 158 2 = true := by kernel_rfl
theorem agg_160 : aggB Tryd.prog 160 3 = true := by kernel_rfl
theorem agg_30 : aggB Tryd.prog 30 5 = true := by kernel_rfl
theorem agg_38 : aggB Tryd.prog 38 3 = true := by kernel_rfl
theorem agg_56 : aggB Tryd.prog 56 4 = true := by kernel_rfl
theorem agg_70 : aggB Tryd.prog 70 2 = true := by kernel_rfl
theorem bld_135 : structB Tryd.prog 135 = some ([(0, 1), (1, 1), (2, 1), (3, 1), (4, 1)], [.string ⟨#[]⟩, .int .i64 0, .int .i64 0, .int .i64 0, .bool false]) := by kernel_rfl
theorem bld_156 : structB Tryd.prog 156 = some ([(0, 1), (1, 2)], [.string ⟨#[]⟩, .int .i64 0, .int .i64 0]) := by kernel_rfl
theorem bld_158 : structB Tryd.prog 158 = some ([(0, 1), (1, 1)], [.string ⟨#[]⟩, .int .i64 0]) := by kernel_rfl
theorem bld_160 : structB Tryd.prog 160 = some ([(0, 1), (1, 1), (2, 1)], [.string ⟨#[]⟩, .string ⟨#[]⟩, .int .i64 0]) := by kernel_rfl
theorem bld_25 : structB Tryd.prog 25 = some ([(0, 1), (1, 1)], [.slice none 0 0, .int .i64 0]) := by kernel_rfl
theorem bld_30 : structB Tryd.prog 30 = some ([(0, 1), (1, 1), (2, 1), (3, 1), (4, 1)], [.slice none 0 0, .slice none 0 0, .slice none 0 0, .slice none 0 0, .slice none 0 0]) := by kernel_rfl
theorem bld_38 : structB Tryd.prog 38 = some ([(0, 1), (1, 1), (2, 1)], [.int .i64 0, .int .u64 0, .slice none 0 0]) := by kernel_rfl
theorem bld_56 : structB Tryd.prog 56 = some ([(0, 1), (1, 1), (2, 1), (3, 1)], [.int .i64 0, .slice none 0 0, .slice none 0 0, .slice none 0 0]) := by kernel_rfl
theorem bld_70 : structB Tryd.prog 70 = some ([(0, 1), (1, 1)], [.int .i64 0, .int .i64 0]) := by kernel_rfl
theorem bldf_135 : fieldsB Tryd.prog 135 = true := by kernel_rfl
theorem bldf_156 : fieldsB Tryd.prog 156 = true := by kernel_rfl
theorem bldf_158 : fieldsB Tryd.prog 158 = true := by kernel_rfl
theorem bldf_160 : fieldsB Tryd.prog 160 = true := by kernel_rfl
theorem bldf_25 : fieldsB Tryd.prog 25 = true := by kernel_rfl
theorem bldf_30 : fieldsB Tryd.prog 30 = true := by kernel_rfl
theorem bldf_38 : fieldsB Tryd.prog 38 = true := by kernel_rfl
theorem bldf_56 : fieldsB Tryd.prog 56 = true := by kernel_rfl
theorem bldf_70 : fieldsB Tryd.prog 70 = true := by kernel_rfl
theorem call_123 : callB Tryd.prog 123 = true := by kernel_rfl
theorem call_124 : callB Tryd.prog 124 = true := by kernel_rfl
theorem call_125 : callB Tryd.prog 125 = true := by kernel_rfl
theorem call_126 : callB Tryd.prog 126 = true := by kernel_rfl
theorem call_127 : callB Tryd.prog 127 = true := by kernel_rfl
theorem call_128 : callB Tryd.prog 128 = true := by kernel_rfl
theorem call_129 : callB Tryd.prog 129 = true := by kernel_rfl
theorem call_13 : callB Tryd.prog 13 = true := by kernel_rfl
theorem call_130 : callB Tryd.prog 130 = true := by kernel_rfl
theorem call_131 : callB Tryd.prog 131 = true := by kernel_rfl
theorem call_132 : callB Tryd.prog 132 = true := by kernel_rfl
theorem call_141 : callB Tryd.prog 141 = true := by kernel_rfl
theorem call_146 : callB Tryd.prog 146 = true := by kernel_rfl
theorem call_155 : callB Tryd.prog 155 = true := by kernel_rfl
theorem call_156 : callB Tryd.prog 156 = true := by kernel_rfl
theorem call_167 : callB Tryd.prog 167 = true := by kernel_rfl
theorem call_18 : callB Tryd.prog 18 = true := by kernel_rfl
theorem call_189 : callB Tryd.prog 189 = true := by kernel_rfl
theorem call_23 : callB Tryd.prog 23 = true := by kernel_rfl
theorem call_24 : callB Tryd.prog 24 = true := by kernel_rfl
theorem call_25 : callB Tryd.prog 25 = true := by kernel_rfl
theorem call_26 : callB Tryd.prog 26 = true := by kernel_rfl
theorem call_27 : callB Tryd.prog 27 = true := by kernel_rfl
theorem call_28 : callB Tryd.prog 28 = true := by kernel_rfl
theorem call_29 : callB Tryd.prog 29 = true := by kernel_rfl
theorem call_30 : callB Tryd.prog 30 = true := by kernel_rfl
theorem call_66 : callB Tryd.prog 66 = true := by kernel_rfl
theorem call_67 : callB Tryd.prog 67 = true := by kernel_rfl
theorem call_68 : callB Tryd.prog 68 = true := by kernel_rfl
theorem call_69 : callB Tryd.prog 69 = true := by kernel_rfl
theorem call_70 : callB Tryd.prog 70 = true := by kernel_rfl
theorem call_71 : callB Tryd.prog 71 = true := by kernel_rfl
theorem call_72 : callB Tryd.prog 72 = true := by kernel_rfl
theorem call_73 : callB Tryd.prog 73 = true := by kernel_rfl
theorem call_74 : callB Tryd.prog 74 = true := by kernel_rfl
theorem call_75 : callB Tryd.prog 75 = true := by kernel_rfl
theorem call_76 : callB Tryd.prog 76 = true := by kernel_rfl
theorem call_77 : callB Tryd.prog 77 = true := by kernel_rfl
theorem call_80 : callB Tryd.prog 80 = true := by kernel_rfl
theorem call_81 : callB Tryd.prog 81 = true := by kernel_rfl
theorem call_93 : callB Tryd.prog 93 = true := by kernel_rfl
theorem fld_135_0 : fieldAtB Tryd.prog 135 0 = some (0, 9) := by kernel_rfl
theorem fld_135_3 : fieldAtB Tryd.prog 135 3 = some (3, 3) := by kernel_rfl
theorem fld_156_0 : fieldAtB Tryd.prog 156 0 = some (0, 9) := by kernel_rfl
theorem fld_156_1 : fieldAtB Tryd.prog 156 1 = some (1, 70) := by kernel_rfl
theorem fld_158_0 : fieldAtB Tryd.prog 158 0 = some (0, 9) := by kernel_rfl
theorem fld_158_1 : fieldAtB Tryd.prog 158 1 = some (1, 3) := by kernel_rfl
theorem fld_160_0 : fieldAtB Tryd.prog 160 0 = some (0, 9) := by kernel_rfl
theorem fld_160_1 : fieldAtB Tryd.prog 160 1 = some (1, 9) := by kernel_rfl
theorem fld_160_2 : fieldAtB Tryd.prog 160 2 = some (2, 3) := by kernel_rfl
theorem fld_25_0 : fieldAtB Tryd.prog 25 0 = some (0, 22) := by kernel_rfl
theorem fld_25_1 : fieldAtB Tryd.prog 25 1 = some (1, 3) := by kernel_rfl
theorem fld_30_0 : fieldAtB Tryd.prog 30 0 = some (0, 26) := by kernel_rfl
theorem fld_30_1 : fieldAtB Tryd.prog 30 1 = some (1, 26) := by kernel_rfl
theorem fld_30_2 : fieldAtB Tryd.prog 30 2 = some (2, 27) := by kernel_rfl
theorem fld_30_3 : fieldAtB Tryd.prog 30 3 = some (3, 28) := by kernel_rfl
theorem fld_30_4 : fieldAtB Tryd.prog 30 4 = some (4, 22) := by kernel_rfl
theorem fld_38_1 : fieldAtB Tryd.prog 38 1 = some (1, 35) := by kernel_rfl
theorem fld_38_2 : fieldAtB Tryd.prog 38 2 = some (2, 22) := by kernel_rfl
theorem fld_56_0 : fieldAtB Tryd.prog 56 0 = some (0, 3) := by kernel_rfl
theorem fld_56_1 : fieldAtB Tryd.prog 56 1 = some (1, 52) := by kernel_rfl
theorem fld_56_2 : fieldAtB Tryd.prog 56 2 = some (2, 53) := by kernel_rfl
theorem fld_56_3 : fieldAtB Tryd.prog 56 3 = some (3, 54) := by kernel_rfl
theorem fld_70_0 : fieldAtB Tryd.prog 70 0 = some (0, 3) := by kernel_rfl
theorem fld_70_1 : fieldAtB Tryd.prog 70 1 = some (1, 3) := by kernel_rfl
theorem ik_35 : intB Tryd.prog 35 .u64 = true := by kernel_rfl
theorem ik_5 : intB Tryd.prog 5 .u8 = true := by kernel_rfl
theorem mixed : Tryd.prog.follows .mixedOrders = true := by kernel_rfl
theorem one_22 : oneB Tryd.prog 22 = true := by kernel_rfl
theorem one_23 : oneB Tryd.prog 23 = true := by kernel_rfl
theorem one_26 : oneB Tryd.prog 26 = true := by kernel_rfl
theorem one_27 : oneB Tryd.prog 27 = true := by kernel_rfl
theorem one_28 : oneB Tryd.prog 28 = true := by kernel_rfl
theorem one_3 : oneB Tryd.prog 3 = true := by kernel_rfl
theorem one_35 : oneB Tryd.prog 35 = true := by kernel_rfl
theorem one_52 : oneB Tryd.prog 52 = true := by kernel_rfl
theorem one_53 : oneB Tryd.prog 53 = true := by kernel_rfl
theorem one_54 : oneB Tryd.prog 54 = true := by kernel_rfl
theorem one_9 : oneB Tryd.prog 9 = true := by kernel_rfl
theorem sl_169 : sliceB Tryd.prog 169 = some (5, 1, 1) := by kernel_rfl
theorem sl_22 : sliceB Tryd.prog 22 = some (3, 1, 8) := by kernel_rfl
theorem sl_26 : sliceB Tryd.prog 26 = some (9, 1, 16) := by kernel_rfl
theorem sl_27 : sliceB Tryd.prog 27 = some (135, 5, 48) := by kernel_rfl
theorem sl_28 : sliceB Tryd.prog 28 = some (38, 3, 40) := by kernel_rfl
theorem sl_52 : sliceB Tryd.prog 52 = some (156, 3, 32) := by kernel_rfl
theorem sl_53 : sliceB Tryd.prog 53 = some (158, 2, 24) := by kernel_rfl
theorem sl_54 : sliceB Tryd.prog 54 = some (160, 3, 40) := by kernel_rfl
theorem ui_5 : Tryd.prog.underlying 5 = some (.int .u8) := by kernel_rfl
theorem uif_174 : Tryd.prog.underlying 174 = some (.interface (Tryd.prog.methodsAt 174)) := by kernel_rfl
theorem uk_3 : (Tryd.prog.underlying 3).isSome = true := by kernel_rfl
theorem us_9 : Tryd.prog.underlying 9 = some .string := by kernel_rfl
theorem usl_169 : Tryd.prog.underlying 169 = some (.slice 5) := by kernel_rfl
theorem usl_22 : Tryd.prog.underlying 22 = some (.slice 3) := by kernel_rfl
theorem usl_26 : Tryd.prog.underlying 26 = some (.slice 9) := by kernel_rfl
theorem usl_27 : Tryd.prog.underlying 27 = some (.slice 135) := by kernel_rfl
theorem usl_28 : Tryd.prog.underlying 28 = some (.slice 38) := by kernel_rfl
theorem usl_52 : Tryd.prog.underlying 52 = some (.slice 156) := by kernel_rfl
theorem usl_53 : Tryd.prog.underlying 53 = some (.slice 158) := by kernel_rfl
theorem usl_54 : Tryd.prog.underlying 54 = some (.slice 160) := by kernel_rfl
theorem zero_135 : zeroB Tryd.prog 135 = some [.string ⟨#[]⟩, .int .i64 0, .int .i64 0, .int .i64 0, .bool false] := by kernel_rfl
theorem zero_156 : zeroB Tryd.prog 156 = some [.string ⟨#[]⟩, .int .i64 0, .int .i64 0] := by kernel_rfl
theorem zero_158 : zeroB Tryd.prog 158 = some [.string ⟨#[]⟩, .int .i64 0] := by kernel_rfl
theorem zero_160 : zeroB Tryd.prog 160 = some [.string ⟨#[]⟩, .string ⟨#[]⟩, .int .i64 0] := by kernel_rfl
theorem zero_171 : zeroB Tryd.prog 171 = some [.pointer none, .slice none 0 0] := by kernel_rfl
theorem zero_3 : zeroB Tryd.prog 3 = some [.int .i64 0] := by kernel_rfl
theorem zero_30 : zeroB Tryd.prog 30 = some [.slice none 0 0, .slice none 0 0, .slice none 0 0, .slice none 0 0, .slice none 0 0] := by kernel_rfl
theorem zero_38 : zeroB Tryd.prog 38 = some [.int .i64 0, .int .u64 0, .slice none 0 0] := by kernel_rfl
theorem zero_5 : zeroB Tryd.prog 5 = some [.int .u8 0] := by kernel_rfl
theorem zero_56 : zeroB Tryd.prog 56 = some [.int .i64 0, .slice none 0 0, .slice none 0 0, .slice none 0 0] := by kernel_rfl
theorem zero_70 : zeroB Tryd.prog 70 = some [.int .i64 0, .int .i64 0] := by kernel_rfl
theorem zero_9 : zeroB Tryd.prog 9 = some [.string ⟨#[]⟩] := by kernel_rfl

end Go.Proofs.YtlolchgeedegdaaDoor.X
