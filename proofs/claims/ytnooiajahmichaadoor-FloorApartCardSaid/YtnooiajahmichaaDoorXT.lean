/- Closed facts on the loaded program's types and functions, each by the kernel. -/
import Derived.Test.YtnooiajahmichaaDoorProg
import Derived.Test.YtnooiajahmichaaDoorYH
namespace Go.Proofs.YtnooiajahmichaaDoor.X
open Go Go.RowKit
set_option linter.unusedVariables false
set_option linter.unusedSimpArgs false

theorem agg_30 : aggB Tryd.prog 30 5 = true := by kernel_rfl
theorem agg_38 : aggB Tryd.prog 38 6 = true := by kernel_rfl
theorem agg_40 : aggB Tryd.prog 40 3 = true := by kernel_rfl
theorem agg_43 : aggB Tryd.prog 43 16 = true := by kernel_rfl
theorem agg_49 : aggB Tryd.prog 49 3 = true := by kernel_rfl
theorem agg_51 : aggB Tryd.prog 51 11 = true := by kernel_rfl
theorem agg_53 : aggB Tryd.prog 53 2 = true := by kernel_rfl
theorem agg_56 : aggB Tryd.prog 56 2 = true := by kernel_rfl
theorem agg_64 : aggB Tryd.prog 64 5 = true := by kernel_rfl
theorem agg_66 : aggB Tryd.prog 66 4 = true := by kernel_rfl
theorem agg_78 : aggB Tryd.prog 78 3 = true := by kernel_rfl
theorem agg_80 : aggB Tryd.prog 80 5 = true := by kernel_rfl
theorem bld_25 : structB Tryd.prog 25 = some ([(0, 1), (1, 1)], [.slice none 0 0, .int .i64 0]) := by kernel_rfl
theorem bld_38 : structB Tryd.prog 38 = some ([(0, 1), (1, 1), (2, 1), (3, 1), (4, 1), (5, 1)], [.int .i64 0, .int .i64 0, .int .i64 0, .slice none 0 0, .slice none 0 0, .slice none 0 0]) := by kernel_rfl
theorem bld_40 : structB Tryd.prog 40 = some ([(0, 1), (1, 1), (2, 1)], [.int .i64 0, .slice none 0 0, .slice none 0 0]) := by kernel_rfl
theorem bld_43 : structB Tryd.prog 43 = some ([(0, 5), (5, 1), (6, 6), (12, 3), (15, 1)], [.slice none 0 0, .slice none 0 0, .slice none 0 0, .slice none 0 0, .slice none 0 0, .slice none 0 0, .int .i64 0, .int .i64 0, .int .i64 0, .slice none 0 0, .slice none 0 0, .slice none 0 0, .int .i64 0, .slice none 0 0, .slice none 0 0, .slice none 0 0]) := by kernel_rfl
theorem bld_49 : structB Tryd.prog 49 = some ([(0, 1), (1, 1), (2, 1)], [.int .i64 0, .int .u64 0, .slice none 0 0]) := by kernel_rfl
theorem bld_51 : structB Tryd.prog 51 = some ([(0, 1), (1, 1), (2, 1), (3, 1), (4, 1), (5, 1), (6, 1), (7, 1), (8, 1), (9, 1), (10, 1)], [.string ⟨#[]⟩, .bool false, .int .i64 0, .int .u64 0, .int .i64 0, .slice none 0 0, .slice none 0 0, .slice none 0 0, .int .i64 0, .int .i64 0, .int .i64 0]) := by kernel_rfl
theorem bld_53 : structB Tryd.prog 53 = some ([(0, 1), (1, 1)], [.int .i64 0, .int .i64 0]) := by kernel_rfl
theorem bld_56 : structB Tryd.prog 56 = some ([(0, 1), (1, 1)], [.int .i64 0, .int .i64 0]) := by kernel_rfl
theorem bld_64 : structB Tryd.prog 64 = some ([(0, 1), (1, 1), (2, 1), (3, 1), (4, 1)], [.string ⟨#[]⟩, .int .i64 0, .int .i64 0, .int .i64 0, .bool false]) := by kernel_rfl
theorem bld_66 : structB Tryd.prog 66 = some ([(0, 1), (1, 1), (2, 1), (3, 1)], [.string ⟨#[]⟩, .bool false, .int .i64 0, .int .i64 0]) := by kernel_rfl
theorem bldf_25 : fieldsB Tryd.prog 25 = true := by kernel_rfl
theorem bldf_38 : fieldsB Tryd.prog 38 = true := by kernel_rfl
theorem bldf_40 : fieldsB Tryd.prog 40 = true := by kernel_rfl
theorem bldf_43 : fieldsB Tryd.prog 43 = true := by kernel_rfl
theorem bldf_49 : fieldsB Tryd.prog 49 = true := by kernel_rfl
theorem bldf_51 : fieldsB Tryd.prog 51 = true := by kernel_rfl
theorem bldf_53 : fieldsB Tryd.prog 53 = true := by kernel_rfl
theorem bldf_56 : fieldsB Tryd.prog 56 = true := by kernel_rfl
theorem bldf_64 : fieldsB Tryd.prog 64 = true := by kernel_rfl
theorem bldf_66 : fieldsB Tryd.prog 66 = true := by kernel_rfl
theorem call_10 : callB Tryd.prog 10 = true := by kernel_rfl
theorem call_11 : callB Tryd.prog 11 = true := by kernel_rfl
theorem call_12 : callB Tryd.prog 12 = true := by kernel_rfl
theorem call_13 : callB Tryd.prog 13 = true := by kernel_rfl
theorem call_14 : callB Tryd.prog 14 = true := by kernel_rfl
theorem call_15 : callB Tryd.prog 15 = true := by kernel_rfl
theorem call_16 : callB Tryd.prog 16 = true := by kernel_rfl
theorem call_17 : callB Tryd.prog 17 = true := by kernel_rfl
theorem call_18 : callB Tryd.prog 18 = true := by kernel_rfl
theorem call_19 : callB Tryd.prog 19 = true := by kernel_rfl
theorem call_20 : callB Tryd.prog 20 = true := by kernel_rfl
theorem call_21 : callB Tryd.prog 21 = true := by kernel_rfl
theorem call_22 : callB Tryd.prog 22 = true := by kernel_rfl
theorem call_24 : callB Tryd.prog 24 = true := by kernel_rfl
theorem call_4 : callB Tryd.prog 4 = true := by kernel_rfl
theorem call_5 : callB Tryd.prog 5 = true := by kernel_rfl
theorem call_6 : callB Tryd.prog 6 = true := by kernel_rfl
theorem call_7 : callB Tryd.prog 7 = true := by kernel_rfl
theorem call_8 : callB Tryd.prog 8 = true := by kernel_rfl
theorem call_9 : callB Tryd.prog 9 = true := by kernel_rfl
theorem fld_25_0 : fieldAtB Tryd.prog 25 0 = some (0, 22) := by kernel_rfl
theorem fld_25_1 : fieldAtB Tryd.prog 25 1 = some (1, 3) := by kernel_rfl
theorem fld_30_0 : fieldAtB Tryd.prog 30 0 = some (0, 26) := by kernel_rfl
theorem fld_30_1 : fieldAtB Tryd.prog 30 1 = some (1, 26) := by kernel_rfl
theorem fld_30_2 : fieldAtB Tryd.prog 30 2 = some (2, 27) := by kernel_rfl
theorem fld_30_3 : fieldAtB Tryd.prog 30 3 = some (3, 28) := by kernel_rfl
theorem fld_30_4 : fieldAtB Tryd.prog 30 4 = some (4, 22) := by kernel_rfl
theorem fld_38_0 : fieldAtB Tryd.prog 38 0 = some (0, 3) := by kernel_rfl
theorem fld_38_1 : fieldAtB Tryd.prog 38 1 = some (1, 3) := by kernel_rfl
theorem fld_38_2 : fieldAtB Tryd.prog 38 2 = some (2, 3) := by kernel_rfl
theorem fld_38_3 : fieldAtB Tryd.prog 38 3 = some (3, 34) := by kernel_rfl
theorem fld_38_4 : fieldAtB Tryd.prog 38 4 = some (4, 35) := by kernel_rfl
theorem fld_38_5 : fieldAtB Tryd.prog 38 5 = some (5, 36) := by kernel_rfl
theorem fld_40_0 : fieldAtB Tryd.prog 40 0 = some (0, 3) := by kernel_rfl
theorem fld_40_1 : fieldAtB Tryd.prog 40 1 = some (1, 22) := by kernel_rfl
theorem fld_40_2 : fieldAtB Tryd.prog 40 2 = some (2, 22) := by kernel_rfl
theorem fld_43_2 : fieldAtB Tryd.prog 43 2 = some (6, 38) := by kernel_rfl
theorem fld_43_3 : fieldAtB Tryd.prog 43 3 = some (12, 40) := by kernel_rfl
theorem fld_43_4 : fieldAtB Tryd.prog 43 4 = some (15, 41) := by kernel_rfl
theorem fld_49_0 : fieldAtB Tryd.prog 49 0 = some (0, 3) := by kernel_rfl
theorem fld_49_2 : fieldAtB Tryd.prog 49 2 = some (2, 22) := by kernel_rfl
theorem fld_51_2 : fieldAtB Tryd.prog 51 2 = some (2, 3) := by kernel_rfl
theorem fld_51_3 : fieldAtB Tryd.prog 51 3 = some (3, 47) := by kernel_rfl
theorem fld_51_4 : fieldAtB Tryd.prog 51 4 = some (4, 3) := by kernel_rfl
theorem fld_51_5 : fieldAtB Tryd.prog 51 5 = some (5, 22) := by kernel_rfl
theorem fld_51_6 : fieldAtB Tryd.prog 51 6 = some (6, 22) := by kernel_rfl
theorem fld_51_7 : fieldAtB Tryd.prog 51 7 = some (7, 22) := by kernel_rfl
theorem fld_53_0 : fieldAtB Tryd.prog 53 0 = some (0, 3) := by kernel_rfl
theorem fld_53_1 : fieldAtB Tryd.prog 53 1 = some (1, 3) := by kernel_rfl
theorem fld_56_0 : fieldAtB Tryd.prog 56 0 = some (0, 3) := by kernel_rfl
theorem fld_56_1 : fieldAtB Tryd.prog 56 1 = some (1, 3) := by kernel_rfl
theorem fld_64_1 : fieldAtB Tryd.prog 64 1 = some (1, 3) := by kernel_rfl
theorem fld_64_3 : fieldAtB Tryd.prog 64 3 = some (3, 3) := by kernel_rfl
theorem fld_66_0 : fieldAtB Tryd.prog 66 0 = some (0, 9) := by kernel_rfl
theorem fld_66_1 : fieldAtB Tryd.prog 66 1 = some (1, 4) := by kernel_rfl
theorem fld_66_2 : fieldAtB Tryd.prog 66 2 = some (2, 3) := by kernel_rfl
theorem fld_66_3 : fieldAtB Tryd.prog 66 3 = some (3, 3) := by kernel_rfl
theorem fld_78_0 : fieldAtB Tryd.prog 78 0 = some (0, 3) := by kernel_rfl
theorem fld_78_1 : fieldAtB Tryd.prog 78 1 = some (1, 3) := by kernel_rfl
theorem fld_78_2 : fieldAtB Tryd.prog 78 2 = some (2, 3) := by kernel_rfl
theorem fld_80_0 : fieldAtB Tryd.prog 80 0 = some (0, 3) := by kernel_rfl
theorem fld_80_1 : fieldAtB Tryd.prog 80 1 = some (1, 3) := by kernel_rfl
theorem fld_80_2 : fieldAtB Tryd.prog 80 2 = some (2, 3) := by kernel_rfl
theorem fld_80_3 : fieldAtB Tryd.prog 80 3 = some (3, 3) := by kernel_rfl
theorem fld_80_4 : fieldAtB Tryd.prog 80 4 = some (4, 3) := by kernel_rfl
theorem mixed : Tryd.prog.follows .mixedOrders = true := by kernel_rfl
theorem one_22 : oneB Tryd.prog 22 = true := by kernel_rfl
theorem one_23 : oneB Tryd.prog 23 = true := by kernel_rfl
theorem one_26 : oneB Tryd.prog 26 = true := by kernel_rfl
theorem one_27 : oneB Tryd.prog 27 = true := by kernel_rfl
theorem one_28 : oneB Tryd.prog 28 = true := by kernel_rfl
theorem one_3 : oneB Tryd.prog 3 = true := by kernel_rfl
theorem one_31 : oneB Tryd.prog 31 = true := by kernel_rfl
theorem one_34 : oneB Tryd.prog 34 = true := by kernel_rfl
theorem one_35 : oneB Tryd.prog 35 = true := by kernel_rfl
theorem one_36 : oneB Tryd.prog 36 = true := by kernel_rfl
theorem one_4 : oneB Tryd.prog 4 = true := by kernel_rfl
theorem one_41 : oneB Tryd.prog 41 = true := by kernel_rfl
theorem one_47 : oneB Tryd.prog 47 = true := by kernel_rfl
theorem one_9 : oneB Tryd.prog 9 = true := by kernel_rfl
theorem sl_22 : sliceB Tryd.prog 22 = some (3, 1, 8) := by kernel_rfl
theorem sl_26 : sliceB Tryd.prog 26 = some (9, 1, 16) := by kernel_rfl
theorem sl_27 : sliceB Tryd.prog 27 = some (64, 5, 48) := by kernel_rfl
theorem sl_28 : sliceB Tryd.prog 28 = some (49, 3, 40) := by kernel_rfl
theorem sl_31 : sliceB Tryd.prog 31 = some (51, 11, 144) := by kernel_rfl
theorem sl_34 : sliceB Tryd.prog 34 = some (78, 3, 24) := by kernel_rfl
theorem sl_35 : sliceB Tryd.prog 35 = some (80, 5, 40) := by kernel_rfl
theorem sl_36 : sliceB Tryd.prog 36 = some (66, 4, 40) := by kernel_rfl
theorem sl_41 : sliceB Tryd.prog 41 = some (56, 2, 16) := by kernel_rfl
theorem sl_46 : sliceB Tryd.prog 46 = some (53, 2, 16) := by kernel_rfl
theorem sz_3 : (Tryd.prog.info? 3).map (·.size) = some 1 := by kernel_rfl
theorem ub_4 : Tryd.prog.underlying 4 = some .bool := by kernel_rfl
theorem us_9 : Tryd.prog.underlying 9 = some .string := by kernel_rfl
theorem usl_22 : Tryd.prog.underlying 22 = some (.slice 3) := by kernel_rfl
theorem usl_26 : Tryd.prog.underlying 26 = some (.slice 9) := by kernel_rfl
theorem usl_27 : Tryd.prog.underlying 27 = some (.slice 64) := by kernel_rfl
theorem usl_28 : Tryd.prog.underlying 28 = some (.slice 49) := by kernel_rfl
theorem usl_31 : Tryd.prog.underlying 31 = some (.slice 51) := by kernel_rfl
theorem usl_34 : Tryd.prog.underlying 34 = some (.slice 78) := by kernel_rfl
theorem usl_35 : Tryd.prog.underlying 35 = some (.slice 80) := by kernel_rfl
theorem usl_36 : Tryd.prog.underlying 36 = some (.slice 66) := by kernel_rfl
theorem usl_41 : Tryd.prog.underlying 41 = some (.slice 56) := by kernel_rfl
theorem usl_46 : Tryd.prog.underlying 46 = some (.slice 53) := by kernel_rfl
theorem zero_3 : zeroB Tryd.prog 3 = some [.int .i64 0] := by kernel_rfl
theorem zero_30 : zeroB Tryd.prog 30 = some [.slice none 0 0, .slice none 0 0, .slice none 0 0, .slice none 0 0, .slice none 0 0] := by kernel_rfl
theorem zero_31 : zeroB Tryd.prog 31 = some [.slice none 0 0] := by kernel_rfl
theorem zero_38 : zeroB Tryd.prog 38 = some [.int .i64 0, .int .i64 0, .int .i64 0, .slice none 0 0, .slice none 0 0, .slice none 0 0] := by kernel_rfl
theorem zero_40 : zeroB Tryd.prog 40 = some [.int .i64 0, .slice none 0 0, .slice none 0 0] := by kernel_rfl
theorem zero_43 : zeroB Tryd.prog 43 = some [.slice none 0 0, .slice none 0 0, .slice none 0 0, .slice none 0 0, .slice none 0 0, .slice none 0 0, .int .i64 0, .int .i64 0, .int .i64 0, .slice none 0 0, .slice none 0 0, .slice none 0 0, .int .i64 0, .slice none 0 0, .slice none 0 0, .slice none 0 0] := by kernel_rfl
theorem zero_49 : zeroB Tryd.prog 49 = some [.int .i64 0, .int .u64 0, .slice none 0 0] := by kernel_rfl
theorem zero_51 : zeroB Tryd.prog 51 = some [.string ⟨#[]⟩, .bool false, .int .i64 0, .int .u64 0, .int .i64 0, .slice none 0 0, .slice none 0 0, .slice none 0 0, .int .i64 0, .int .i64 0, .int .i64 0] := by kernel_rfl
theorem zero_53 : zeroB Tryd.prog 53 = some [.int .i64 0, .int .i64 0] := by kernel_rfl
theorem zero_56 : zeroB Tryd.prog 56 = some [.int .i64 0, .int .i64 0] := by kernel_rfl
theorem zero_64 : zeroB Tryd.prog 64 = some [.string ⟨#[]⟩, .int .i64 0, .int .i64 0, .int .i64 0, .bool false] := by kernel_rfl
theorem zero_66 : zeroB Tryd.prog 66 = some [.string ⟨#[]⟩, .bool false, .int .i64 0, .int .i64 0] := by kernel_rfl
theorem zero_78 : zeroB Tryd.prog 78 = some [.int .i64 0, .int .i64 0, .int .i64 0] := by kernel_rfl
theorem zero_80 : zeroB Tryd.prog 80 = some [.int .i64 0, .int .i64 0, .int .i64 0, .int .i64 0, .int .i64 0] := by kernel_rfl
theorem zero_9 : zeroB Tryd.prog 9 = some [.string ⟨#[]⟩] := by kernel_rfl

end Go.Proofs.YtnooiajahmichaaDoor.X
