/- Closed facts on the loaded program's types and functions, each by the kernel. -/
import Derived.Test.YtfkncjfpgflafaaProg
import Derived.Test.YtfkncjfpgflafaaYH
namespace Go.Proofs.Ytfkncjfpgflafaa.X
open Go Go.RowKit
set_option linter.unusedVariables false
set_option linter.unusedSimpArgs false

theorem agg_36 : aggB Try.prog 36 3 = true := by kernel_rfl
theorem agg_38 : aggB Try.prog 38 2 = true := by kernel_rfl
theorem agg_41 : aggB Try.prog 41 2 = true := by kernel_rfl
theorem agg_43 : aggB Try.prog 43 4 = true := by kernel_rfl
theorem agg_45 : aggB Try.prog 45 8 = true := by kernel_rfl
theorem bld_25 : structB Try.prog 25 = some ([(0, 1), (1, 1)], [.slice none 0 0, .int .i64 0]) := by kernel_rfl
theorem bld_36 : structB Try.prog 36 = some ([(0, 1), (1, 1), (2, 1)], [.int .i64 0, .slice none 0 0, .slice none 0 0]) := by kernel_rfl
theorem bld_38 : structB Try.prog 38 = some ([(0, 1), (1, 1)], [.int .i64 0, .int .i64 0]) := by kernel_rfl
theorem bld_41 : structB Try.prog 41 = some ([(0, 1), (1, 1)], [.bool false, .slice none 0 0]) := by kernel_rfl
theorem bld_43 : structB Try.prog 43 = some ([(0, 2), (2, 2)], [.bool false, .slice none 0 0, .bool false, .slice none 0 0]) := by kernel_rfl
theorem bld_45 : structB Try.prog 45 = some ([(0, 4), (4, 4)], [.bool false, .slice none 0 0, .bool false, .slice none 0 0, .bool false, .slice none 0 0, .bool false, .slice none 0 0]) := by kernel_rfl
theorem bld_87 : structB Try.prog 87 = some ([(0, 1), (1, 2), (3, 1), (4, 1)], [.slice none 0 0, .bool false, .slice none 0 0, .bool false, .int .i64 0]) := by kernel_rfl
theorem bldf_25 : fieldsB Try.prog 25 = true := by kernel_rfl
theorem bldf_36 : fieldsB Try.prog 36 = true := by kernel_rfl
theorem bldf_38 : fieldsB Try.prog 38 = true := by kernel_rfl
theorem bldf_41 : fieldsB Try.prog 41 = true := by kernel_rfl
theorem bldf_43 : fieldsB Try.prog 43 = true := by kernel_rfl
theorem bldf_45 : fieldsB Try.prog 45 = true := by kernel_rfl
theorem bldf_87 : fieldsB Try.prog 87 = true := by kernel_rfl
theorem call_10 : callB Try.prog 10 = true := by kernel_rfl
theorem call_11 : callB Try.prog 11 = true := by kernel_rfl
theorem call_12 : callB Try.prog 12 = true := by kernel_rfl
theorem call_13 : callB Try.prog 13 = true := by kernel_rfl
theorem call_14 : callB Try.prog 14 = true := by kernel_rfl
theorem call_15 : callB Try.prog 15 = true := by kernel_rfl
theorem call_16 : callB Try.prog 16 = true := by kernel_rfl
theorem call_17 : callB Try.prog 17 = true := by kernel_rfl
theorem call_18 : callB Try.prog 18 = true := by kernel_rfl
theorem call_19 : callB Try.prog 19 = true := by kernel_rfl
theorem call_20 : callB Try.prog 20 = true := by kernel_rfl
theorem call_21 : callB Try.prog 21 = true := by kernel_rfl
theorem call_22 : callB Try.prog 22 = true := by kernel_rfl
theorem call_23 : callB Try.prog 23 = true := by kernel_rfl
theorem call_24 : callB Try.prog 24 = true := by kernel_rfl
theorem call_25 : callB Try.prog 25 = true := by kernel_rfl
theorem call_26 : callB Try.prog 26 = true := by kernel_rfl
theorem call_27 : callB Try.prog 27 = true := by kernel_rfl
theorem call_28 : callB Try.prog 28 = true := by kernel_rfl
theorem call_29 : callB Try.prog 29 = true := by kernel_rfl
theorem call_30 : callB Try.prog 30 = true := by kernel_rfl
theorem call_31 : callB Try.prog 31 = true := by kernel_rfl
theorem call_32 : callB Try.prog 32 = true := by kernel_rfl
theorem call_33 : callB Try.prog 33 = true := by kernel_rfl
theorem call_34 : callB Try.prog 34 = true := by kernel_rfl
theorem call_35 : callB Try.prog 35 = true := by kernel_rfl
theorem call_36 : callB Try.prog 36 = true := by kernel_rfl
theorem call_37 : callB Try.prog 37 = true := by kernel_rfl
theorem call_38 : callB Try.prog 38 = true := by kernel_rfl
theorem call_39 : callB Try.prog 39 = true := by kernel_rfl
theorem call_40 : callB Try.prog 40 = true := by kernel_rfl
theorem call_41 : callB Try.prog 41 = true := by kernel_rfl
theorem call_42 : callB Try.prog 42 = true := by kernel_rfl
theorem call_43 : callB Try.prog 43 = true := by kernel_rfl
theorem call_44 : callB Try.prog 44 = true := by kernel_rfl
theorem call_45 : callB Try.prog 45 = true := by kernel_rfl
theorem call_46 : callB Try.prog 46 = true := by kernel_rfl
theorem call_47 : callB Try.prog 47 = true := by kernel_rfl
theorem call_48 : callB Try.prog 48 = true := by kernel_rfl
theorem call_49 : callB Try.prog 49 = true := by kernel_rfl
theorem call_50 : callB Try.prog 50 = true := by kernel_rfl
theorem call_51 : callB Try.prog 51 = true := by kernel_rfl
theorem call_52 : callB Try.prog 52 = true := by kernel_rfl
theorem call_53 : callB Try.prog 53 = true := by kernel_rfl
theorem call_54 : callB Try.prog 54 = true := by kernel_rfl
theorem call_56 : callB Try.prog 56 = true := by kernel_rfl
theorem call_57 : callB Try.prog 57 = true := by kernel_rfl
theorem call_58 : callB Try.prog 58 = true := by kernel_rfl
theorem call_6 : callB Try.prog 6 = true := by kernel_rfl
theorem call_60 : callB Try.prog 60 = true := by kernel_rfl
theorem call_61 : callB Try.prog 61 = true := by kernel_rfl
theorem call_62 : callB Try.prog 62 = true := by kernel_rfl
theorem call_63 : callB Try.prog 63 = true := by kernel_rfl
theorem call_7 : callB Try.prog 7 = true := by kernel_rfl
theorem call_8 : callB Try.prog 8 = true := by kernel_rfl
theorem call_9 : callB Try.prog 9 = true := by kernel_rfl
theorem fld_25_0 : fieldAtB Try.prog 25 0 = some (0, 22) := by kernel_rfl
theorem fld_25_1 : fieldAtB Try.prog 25 1 = some (1, 3) := by kernel_rfl
theorem fld_36_0 : fieldAtB Try.prog 36 0 = some (0, 3) := by kernel_rfl
theorem fld_36_1 : fieldAtB Try.prog 36 1 = some (1, 22) := by kernel_rfl
theorem fld_36_2 : fieldAtB Try.prog 36 2 = some (2, 34) := by kernel_rfl
theorem fld_38_0 : fieldAtB Try.prog 38 0 = some (0, 3) := by kernel_rfl
theorem fld_38_1 : fieldAtB Try.prog 38 1 = some (1, 3) := by kernel_rfl
theorem fld_41_0 : fieldAtB Try.prog 41 0 = some (0, 4) := by kernel_rfl
theorem fld_41_1 : fieldAtB Try.prog 41 1 = some (1, 39) := by kernel_rfl
theorem fld_43_0 : fieldAtB Try.prog 43 0 = some (0, 41) := by kernel_rfl
theorem fld_43_1 : fieldAtB Try.prog 43 1 = some (2, 41) := by kernel_rfl
theorem fld_45_0 : fieldAtB Try.prog 45 0 = some (0, 43) := by kernel_rfl
theorem fld_45_1 : fieldAtB Try.prog 45 1 = some (4, 43) := by kernel_rfl
theorem fld_87_0 : fieldAtB Try.prog 87 0 = some (0, 85) := by kernel_rfl
theorem fld_87_1 : fieldAtB Try.prog 87 1 = some (1, 41) := by kernel_rfl
theorem fld_87_2 : fieldAtB Try.prog 87 2 = some (3, 4) := by kernel_rfl
theorem fld_87_3 : fieldAtB Try.prog 87 3 = some (4, 3) := by kernel_rfl
theorem ik_2 : intB Try.prog 2 .i64 = true := by kernel_rfl
theorem ik_3 : intB Try.prog 3 .i64 = true := by kernel_rfl
theorem ik_5 : intB Try.prog 5 .u8 = true := by kernel_rfl
theorem ik_75 : intB Try.prog 75 .u64 = true := by kernel_rfl
theorem ik_77 : intB Try.prog 77 .u32 = true := by kernel_rfl
theorem mixed : Try.prog.follows .mixedOrders = true := by kernel_rfl
theorem one_2 : oneB Try.prog 2 = true := by kernel_rfl
theorem one_22 : oneB Try.prog 22 = true := by kernel_rfl
theorem one_3 : oneB Try.prog 3 = true := by kernel_rfl
theorem one_34 : oneB Try.prog 34 = true := by kernel_rfl
theorem one_39 : oneB Try.prog 39 = true := by kernel_rfl
theorem one_4 : oneB Try.prog 4 = true := by kernel_rfl
theorem one_61 : oneB Try.prog 61 = true := by kernel_rfl
theorem one_64 : oneB Try.prog 64 = true := by kernel_rfl
theorem one_77 : oneB Try.prog 77 = true := by kernel_rfl
theorem one_85 : oneB Try.prog 85 = true := by kernel_rfl
theorem one_88 : oneB Try.prog 88 = true := by kernel_rfl
theorem sl_22 : sliceB Try.prog 22 = some (3, 1, 8) := by kernel_rfl
theorem sl_27 : sliceB Try.prog 27 = some (36, 3, 56) := by kernel_rfl
theorem sl_29 : sliceB Try.prog 29 = some (45, 8, 128) := by kernel_rfl
theorem sl_34 : sliceB Try.prog 34 = some (38, 2, 16) := by kernel_rfl
theorem sl_39 : sliceB Try.prog 39 = some (77, 1, 4) := by kernel_rfl
theorem sl_60 : sliceB Try.prog 60 = some (61, 1, 24) := by kernel_rfl
theorem sl_61 : sliceB Try.prog 61 = some (2, 1, 8) := by kernel_rfl
theorem sl_64 : sliceB Try.prog 64 = some (43, 4, 64) := by kernel_rfl
theorem sl_73 : sliceB Try.prog 73 = some (64, 1, 24) := by kernel_rfl
theorem sl_79 : sliceB Try.prog 79 = some (4, 1, 1) := by kernel_rfl
theorem sl_85 : sliceB Try.prog 85 = some (88, 1, 24) := by kernel_rfl
theorem sl_88 : sliceB Try.prog 88 = some (41, 2, 32) := by kernel_rfl
theorem sl_92 : sliceB Try.prog 92 = some (5, 1, 1) := by kernel_rfl
theorem sz_2 : (Try.prog.info? 2).map (·.size) = some 1 := by kernel_rfl
theorem sz_4 : (Try.prog.info? 4).map (·.size) = some 1 := by kernel_rfl
theorem sz_41 : (Try.prog.info? 41).map (·.size) = some 2 := by kernel_rfl
theorem sz_43 : (Try.prog.info? 43).map (·.size) = some 4 := by kernel_rfl
theorem sz_61 : (Try.prog.info? 61).map (·.size) = some 1 := by kernel_rfl
theorem sz_77 : (Try.prog.info? 77).map (·.size) = some 1 := by kernel_rfl
theorem sz_88 : (Try.prog.info? 88).map (·.size) = some 1 := by kernel_rfl
theorem ub_4 : Try.prog.underlying 4 = some .bool := by kernel_rfl
theorem ui_5 : Try.prog.underlying 5 = some (.int .u8) := by kernel_rfl
theorem uk_2 : (Try.prog.underlying 2).isSome = true := by kernel_rfl
theorem uk_5 : (Try.prog.underlying 5).isSome = true := by kernel_rfl
theorem uk_75 : (Try.prog.underlying 75).isSome = true := by kernel_rfl
theorem uk_77 : (Try.prog.underlying 77).isSome = true := by kernel_rfl
theorem us_9 : Try.prog.underlying 9 = some .string := by kernel_rfl
theorem usl_22 : Try.prog.underlying 22 = some (.slice 3) := by kernel_rfl
theorem usl_27 : Try.prog.underlying 27 = some (.slice 36) := by kernel_rfl
theorem usl_29 : Try.prog.underlying 29 = some (.slice 45) := by kernel_rfl
theorem usl_34 : Try.prog.underlying 34 = some (.slice 38) := by kernel_rfl
theorem usl_39 : Try.prog.underlying 39 = some (.slice 77) := by kernel_rfl
theorem usl_60 : Try.prog.underlying 60 = some (.slice 61) := by kernel_rfl
theorem usl_61 : Try.prog.underlying 61 = some (.slice 2) := by kernel_rfl
theorem usl_64 : Try.prog.underlying 64 = some (.slice 43) := by kernel_rfl
theorem usl_73 : Try.prog.underlying 73 = some (.slice 64) := by kernel_rfl
theorem usl_79 : Try.prog.underlying 79 = some (.slice 4) := by kernel_rfl
theorem usl_85 : Try.prog.underlying 85 = some (.slice 88) := by kernel_rfl
theorem usl_88 : Try.prog.underlying 88 = some (.slice 41) := by kernel_rfl
theorem usl_92 : Try.prog.underlying 92 = some (.slice 5) := by kernel_rfl
theorem zero_2 : zeroB Try.prog 2 = some [.int .i64 0] := by kernel_rfl
theorem zero_3 : zeroB Try.prog 3 = some [.int .i64 0] := by kernel_rfl
theorem zero_36 : zeroB Try.prog 36 = some [.int .i64 0, .slice none 0 0, .slice none 0 0] := by kernel_rfl
theorem zero_38 : zeroB Try.prog 38 = some [.int .i64 0, .int .i64 0] := by kernel_rfl
theorem zero_4 : zeroB Try.prog 4 = some [.bool false] := by kernel_rfl
theorem zero_41 : zeroB Try.prog 41 = some [.bool false, .slice none 0 0] := by kernel_rfl
theorem zero_43 : zeroB Try.prog 43 = some [.bool false, .slice none 0 0, .bool false, .slice none 0 0] := by kernel_rfl
theorem zero_45 : zeroB Try.prog 45 = some [.bool false, .slice none 0 0, .bool false, .slice none 0 0, .bool false, .slice none 0 0, .bool false, .slice none 0 0] := by kernel_rfl
theorem zero_5 : zeroB Try.prog 5 = some [.int .u8 0] := by kernel_rfl
theorem zero_61 : zeroB Try.prog 61 = some [.slice none 0 0] := by kernel_rfl
theorem zero_64 : zeroB Try.prog 64 = some [.slice none 0 0] := by kernel_rfl
theorem zero_77 : zeroB Try.prog 77 = some [.int .u32 0] := by kernel_rfl
theorem zero_88 : zeroB Try.prog 88 = some [.slice none 0 0] := by kernel_rfl
theorem zero_94 : zeroB Try.prog 94 = some [.pointer none, .slice none 0 0] := by kernel_rfl

end Go.Proofs.Ytfkncjfpgflafaa.X
