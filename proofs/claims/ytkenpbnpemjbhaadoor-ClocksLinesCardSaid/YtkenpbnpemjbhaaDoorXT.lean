/- Closed facts on the loaded program's types and functions, each by the kernel. -/
import Derived.Test.YtkenpbnpemjbhaaDoorProg
import Derived.Test.YtkenpbnpemjbhaaDoorYH
namespace Go.Proofs.YtkenpbnpemjbhaaDoor.X
open Go Go.RowKit
set_option linter.unusedVariables false
set_option linter.unusedSimpArgs false

theorem agg_30 : aggB Tryd.prog 30 5 = true := by kernel_rfl
theorem agg_41 : aggB Tryd.prog 41 4 = true := by kernel_rfl
theorem agg_53 : aggB Tryd.prog 53 3 = true := by kernel_rfl
theorem agg_58 : aggB Tryd.prog 58 5 = true := by kernel_rfl
theorem agg_63 : aggB Tryd.prog 63 2 = true := by kernel_rfl
theorem agg_66 : aggB Tryd.prog 66 3 = true := by kernel_rfl
theorem agg_68 : aggB Tryd.prog 68 2 = true := by kernel_rfl
theorem agg_70 : aggB Tryd.prog 70 3 = true := by kernel_rfl
theorem bld_25 : structB Tryd.prog 25 = some ([(0, 1), (1, 1)], [.slice none 0 0, .int .i64 0]) := by kernel_rfl
theorem bld_30 : structB Tryd.prog 30 = some ([(0, 1), (1, 1), (2, 1), (3, 1), (4, 1)], [.slice none 0 0, .slice none 0 0, .slice none 0 0, .slice none 0 0, .slice none 0 0]) := by kernel_rfl
theorem bld_41 : structB Tryd.prog 41 = some ([(0, 1), (1, 1), (2, 1), (3, 1)], [.int .i64 0, .slice none 0 0, .slice none 0 0, .slice none 0 0]) := by kernel_rfl
theorem bld_53 : structB Tryd.prog 53 = some ([(0, 1), (1, 1), (2, 1)], [.int .i64 0, .int .u64 0, .slice none 0 0]) := by kernel_rfl
theorem bld_58 : structB Tryd.prog 58 = some ([(0, 1), (1, 1), (2, 1), (3, 1), (4, 1)], [.string ⟨#[]⟩, .int .i64 0, .int .i64 0, .int .i64 0, .bool false]) := by kernel_rfl
theorem bld_63 : structB Tryd.prog 63 = some ([(0, 1), (1, 1)], [.int .i64 0, .int .i64 0]) := by kernel_rfl
theorem bld_66 : structB Tryd.prog 66 = some ([(0, 1), (1, 2)], [.string ⟨#[]⟩, .int .i64 0, .int .i64 0]) := by kernel_rfl
theorem bld_68 : structB Tryd.prog 68 = some ([(0, 1), (1, 1)], [.string ⟨#[]⟩, .int .i64 0]) := by kernel_rfl
theorem bld_70 : structB Tryd.prog 70 = some ([(0, 1), (1, 1), (2, 1)], [.string ⟨#[]⟩, .string ⟨#[]⟩, .int .i64 0]) := by kernel_rfl
theorem bldf_25 : fieldsB Tryd.prog 25 = true := by kernel_rfl
theorem bldf_30 : fieldsB Tryd.prog 30 = true := by kernel_rfl
theorem bldf_41 : fieldsB Tryd.prog 41 = true := by kernel_rfl
theorem bldf_53 : fieldsB Tryd.prog 53 = true := by kernel_rfl
theorem bldf_58 : fieldsB Tryd.prog 58 = true := by kernel_rfl
theorem bldf_63 : fieldsB Tryd.prog 63 = true := by kernel_rfl
theorem bldf_66 : fieldsB Tryd.prog 66 = true := by kernel_rfl
theorem bldf_68 : fieldsB Tryd.prog 68 = true := by kernel_rfl
theorem bldf_70 : fieldsB Tryd.prog 70 = true := by kernel_rfl
theorem call_10 : callB Tryd.prog 10 = true := by kernel_rfl
theorem call_11 : callB Tryd.prog 11 = true := by kernel_rfl
theorem call_12 : callB Tryd.prog 12 = true := by kernel_rfl
theorem call_13 : callB Tryd.prog 13 = true := by kernel_rfl
theorem call_14 : callB Tryd.prog 14 = true := by kernel_rfl
theorem call_15 : callB Tryd.prog 15 = true := by kernel_rfl
theorem call_16 : callB Tryd.prog 16 = true := by kernel_rfl
theorem call_17 : callB Tryd.prog 17 = true := by kernel_rfl
theorem call_18 : callB Tryd.prog 18 = true := by kernel_rfl
theorem call_19 : callB Tryd.prog 19 = true := by kernel_rfl
theorem call_20 : callB Tryd.prog 20 = true := by kernel_rfl
theorem call_21 : callB Tryd.prog 21 = true := by kernel_rfl
theorem call_22 : callB Tryd.prog 22 = true := by kernel_rfl
theorem call_23 : callB Tryd.prog 23 = true := by kernel_rfl
theorem call_25 : callB Tryd.prog 25 = true := by kernel_rfl
theorem call_26 : callB Tryd.prog 26 = true := by kernel_rfl
theorem call_28 : callB Tryd.prog 28 = true := by kernel_rfl
theorem call_29 : callB Tryd.prog 29 = true := by kernel_rfl
theorem call_32 : callB Tryd.prog 32 = true := by kernel_rfl
theorem call_33 : callB Tryd.prog 33 = true := by kernel_rfl
theorem call_34 : callB Tryd.prog 34 = true := by kernel_rfl
theorem call_35 : callB Tryd.prog 35 = true := by kernel_rfl
theorem call_36 : callB Tryd.prog 36 = true := by kernel_rfl
theorem call_37 : callB Tryd.prog 37 = true := by kernel_rfl
theorem call_38 : callB Tryd.prog 38 = true := by kernel_rfl
theorem call_39 : callB Tryd.prog 39 = true := by kernel_rfl
theorem call_4 : callB Tryd.prog 4 = true := by kernel_rfl
theorem call_43 : callB Tryd.prog 43 = true := by kernel_rfl
theorem call_44 : callB Tryd.prog 44 = true := by kernel_rfl
theorem call_48 : callB Tryd.prog 48 = true := by kernel_rfl
theorem call_49 : callB Tryd.prog 49 = true := by kernel_rfl
theorem call_5 : callB Tryd.prog 5 = true := by kernel_rfl
theorem call_55 : callB Tryd.prog 55 = true := by kernel_rfl
theorem call_56 : callB Tryd.prog 56 = true := by kernel_rfl
theorem call_6 : callB Tryd.prog 6 = true := by kernel_rfl
theorem call_68 : callB Tryd.prog 68 = true := by kernel_rfl
theorem call_7 : callB Tryd.prog 7 = true := by kernel_rfl
theorem call_8 : callB Tryd.prog 8 = true := by kernel_rfl
theorem call_80 : callB Tryd.prog 80 = true := by kernel_rfl
theorem call_9 : callB Tryd.prog 9 = true := by kernel_rfl
theorem fld_25_0 : fieldAtB Tryd.prog 25 0 = some (0, 22) := by kernel_rfl
theorem fld_25_1 : fieldAtB Tryd.prog 25 1 = some (1, 3) := by kernel_rfl
theorem fld_30_0 : fieldAtB Tryd.prog 30 0 = some (0, 26) := by kernel_rfl
theorem fld_30_1 : fieldAtB Tryd.prog 30 1 = some (1, 26) := by kernel_rfl
theorem fld_30_2 : fieldAtB Tryd.prog 30 2 = some (2, 27) := by kernel_rfl
theorem fld_30_3 : fieldAtB Tryd.prog 30 3 = some (3, 28) := by kernel_rfl
theorem fld_30_4 : fieldAtB Tryd.prog 30 4 = some (4, 22) := by kernel_rfl
theorem fld_41_0 : fieldAtB Tryd.prog 41 0 = some (0, 3) := by kernel_rfl
theorem fld_41_1 : fieldAtB Tryd.prog 41 1 = some (1, 37) := by kernel_rfl
theorem fld_41_2 : fieldAtB Tryd.prog 41 2 = some (2, 38) := by kernel_rfl
theorem fld_41_3 : fieldAtB Tryd.prog 41 3 = some (3, 39) := by kernel_rfl
theorem fld_53_1 : fieldAtB Tryd.prog 53 1 = some (1, 51) := by kernel_rfl
theorem fld_53_2 : fieldAtB Tryd.prog 53 2 = some (2, 22) := by kernel_rfl
theorem fld_58_0 : fieldAtB Tryd.prog 58 0 = some (0, 9) := by kernel_rfl
theorem fld_58_3 : fieldAtB Tryd.prog 58 3 = some (3, 3) := by kernel_rfl
theorem fld_63_0 : fieldAtB Tryd.prog 63 0 = some (0, 3) := by kernel_rfl
theorem fld_63_1 : fieldAtB Tryd.prog 63 1 = some (1, 3) := by kernel_rfl
theorem fld_66_0 : fieldAtB Tryd.prog 66 0 = some (0, 9) := by kernel_rfl
theorem fld_66_1 : fieldAtB Tryd.prog 66 1 = some (1, 63) := by kernel_rfl
theorem fld_68_0 : fieldAtB Tryd.prog 68 0 = some (0, 9) := by kernel_rfl
theorem fld_68_1 : fieldAtB Tryd.prog 68 1 = some (1, 3) := by kernel_rfl
theorem fld_70_0 : fieldAtB Tryd.prog 70 0 = some (0, 9) := by kernel_rfl
theorem fld_70_1 : fieldAtB Tryd.prog 70 1 = some (1, 9) := by kernel_rfl
theorem fld_70_2 : fieldAtB Tryd.prog 70 2 = some (2, 3) := by kernel_rfl
theorem ik_5 : intB Tryd.prog 5 .u8 = true := by kernel_rfl
theorem ik_51 : intB Tryd.prog 51 .u64 = true := by kernel_rfl
theorem mixed : Tryd.prog.follows .mixedOrders = true := by kernel_rfl
theorem one_22 : oneB Tryd.prog 22 = true := by kernel_rfl
theorem one_23 : oneB Tryd.prog 23 = true := by kernel_rfl
theorem one_26 : oneB Tryd.prog 26 = true := by kernel_rfl
theorem one_27 : oneB Tryd.prog 27 = true := by kernel_rfl
theorem one_28 : oneB Tryd.prog 28 = true := by kernel_rfl
theorem one_3 : oneB Tryd.prog 3 = true := by kernel_rfl
theorem one_37 : oneB Tryd.prog 37 = true := by kernel_rfl
theorem one_38 : oneB Tryd.prog 38 = true := by kernel_rfl
theorem one_39 : oneB Tryd.prog 39 = true := by kernel_rfl
theorem one_51 : oneB Tryd.prog 51 = true := by kernel_rfl
theorem one_9 : oneB Tryd.prog 9 = true := by kernel_rfl
theorem sl_22 : sliceB Tryd.prog 22 = some (3, 1, 8) := by kernel_rfl
theorem sl_26 : sliceB Tryd.prog 26 = some (9, 1, 16) := by kernel_rfl
theorem sl_27 : sliceB Tryd.prog 27 = some (58, 5, 48) := by kernel_rfl
theorem sl_28 : sliceB Tryd.prog 28 = some (53, 3, 40) := by kernel_rfl
theorem sl_37 : sliceB Tryd.prog 37 = some (66, 3, 32) := by kernel_rfl
theorem sl_38 : sliceB Tryd.prog 38 = some (68, 2, 24) := by kernel_rfl
theorem sl_39 : sliceB Tryd.prog 39 = some (70, 3, 40) := by kernel_rfl
theorem sl_76 : sliceB Tryd.prog 76 = some (5, 1, 1) := by kernel_rfl
theorem ui_5 : Tryd.prog.underlying 5 = some (.int .u8) := by kernel_rfl
theorem uif_81 : Tryd.prog.underlying 81 = some (.interface (Tryd.prog.methodsAt 81)) := by kernel_rfl
theorem uk_3 : (Tryd.prog.underlying 3).isSome = true := by kernel_rfl
theorem us_9 : Tryd.prog.underlying 9 = some .string := by kernel_rfl
theorem usl_22 : Tryd.prog.underlying 22 = some (.slice 3) := by kernel_rfl
theorem usl_26 : Tryd.prog.underlying 26 = some (.slice 9) := by kernel_rfl
theorem usl_27 : Tryd.prog.underlying 27 = some (.slice 58) := by kernel_rfl
theorem usl_28 : Tryd.prog.underlying 28 = some (.slice 53) := by kernel_rfl
theorem usl_37 : Tryd.prog.underlying 37 = some (.slice 66) := by kernel_rfl
theorem usl_38 : Tryd.prog.underlying 38 = some (.slice 68) := by kernel_rfl
theorem usl_39 : Tryd.prog.underlying 39 = some (.slice 70) := by kernel_rfl
theorem usl_76 : Tryd.prog.underlying 76 = some (.slice 5) := by kernel_rfl
theorem zero_3 : zeroB Tryd.prog 3 = some [.int .i64 0] := by kernel_rfl
theorem zero_30 : zeroB Tryd.prog 30 = some [.slice none 0 0, .slice none 0 0, .slice none 0 0, .slice none 0 0, .slice none 0 0] := by kernel_rfl
theorem zero_41 : zeroB Tryd.prog 41 = some [.int .i64 0, .slice none 0 0, .slice none 0 0, .slice none 0 0] := by kernel_rfl
theorem zero_5 : zeroB Tryd.prog 5 = some [.int .u8 0] := by kernel_rfl
theorem zero_53 : zeroB Tryd.prog 53 = some [.int .i64 0, .int .u64 0, .slice none 0 0] := by kernel_rfl
theorem zero_58 : zeroB Tryd.prog 58 = some [.string ⟨#[]⟩, .int .i64 0, .int .i64 0, .int .i64 0, .bool false] := by kernel_rfl
theorem zero_63 : zeroB Tryd.prog 63 = some [.int .i64 0, .int .i64 0] := by kernel_rfl
theorem zero_66 : zeroB Tryd.prog 66 = some [.string ⟨#[]⟩, .int .i64 0, .int .i64 0] := by kernel_rfl
theorem zero_68 : zeroB Tryd.prog 68 = some [.string ⟨#[]⟩, .int .i64 0] := by kernel_rfl
theorem zero_70 : zeroB Tryd.prog 70 = some [.string ⟨#[]⟩, .string ⟨#[]⟩, .int .i64 0] := by kernel_rfl
theorem zero_78 : zeroB Tryd.prog 78 = some [.pointer none, .slice none 0 0] := by kernel_rfl
theorem zero_9 : zeroB Tryd.prog 9 = some [.string ⟨#[]⟩] := by kernel_rfl

end Go.Proofs.YtkenpbnpemjbhaaDoor.X
