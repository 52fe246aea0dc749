/- Closed facts on the loaded program's types and functions, each by the kernel. -/
import Derived.Test.YtnooiajahmichaaProg
import Derived.Test.YtnooiajahmichaaXE
namespace Go.Proofs.Ytnooiajahmichaa.X
open Go Go.RowKit
set_option linter.unusedVariables false
set_option linter.unusedSimpArgs false

theorem agg_32 : aggB Try.prog 32 2 = true := by kernel_rfl
theorem bld_25 : structB Try.prog 25 = some ([(0, 1), (1, 1)], [.slice none 0 0, .int .i64 0]) := by kernel_rfl
theorem bld_32 : structB Try.prog 32 = some ([(0, 1), (1, 1)], [.int .i64 0, .int .i64 0]) := by kernel_rfl
theorem bldf_25 : fieldsB Try.prog 25 = true := by kernel_rfl
theorem bldf_32 : fieldsB Try.prog 32 = true := by kernel_rfl
theorem call_14 : callB Try.prog 14 = true := by kernel_rfl
theorem call_15 : callB Try.prog 15 = true := by kernel_rfl
theorem call_16 : callB Try.prog 16 = true := by kernel_rfl
theorem call_17 : callB Try.prog 17 = true := by kernel_rfl
theorem call_34 : callB Try.prog 34 = true := by kernel_rfl
theorem call_38 : callB Try.prog 38 = true := by kernel_rfl
theorem call_72 : callB Try.prog 72 = true := by kernel_rfl
theorem call_73 : callB Try.prog 73 = true := by kernel_rfl
theorem fld_25_0 : fieldAtB Try.prog 25 0 = some (0, 22) := by kernel_rfl
theorem fld_25_1 : fieldAtB Try.prog 25 1 = some (1, 3) := by kernel_rfl
theorem fld_32_0 : fieldAtB Try.prog 32 0 = some (0, 3) := by kernel_rfl
theorem fld_32_1 : fieldAtB Try.prog 32 1 = some (1, 3) := by kernel_rfl
theorem mixed : Try.prog.follows .mixedOrders = true := by kernel_rfl
theorem one_22 : oneB Try.prog 22 = true := by kernel_rfl
theorem one_3 : oneB Try.prog 3 = true := by kernel_rfl
theorem sl_142 : sliceB Try.prog 142 = some (22, 1, 24) := by kernel_rfl
theorem sl_22 : sliceB Try.prog 22 = some (3, 1, 8) := by kernel_rfl
theorem us_22 : Try.prog.underlying 22 = some (.slice 3) := by kernel_rfl
theorem zero_22 : zeroB Try.prog 22 = some [.slice none 0 0] := by kernel_rfl
theorem zero_3 : zeroB Try.prog 3 = some [.int .i64 0] := by kernel_rfl

end Go.Proofs.Ytnooiajahmichaa.X
