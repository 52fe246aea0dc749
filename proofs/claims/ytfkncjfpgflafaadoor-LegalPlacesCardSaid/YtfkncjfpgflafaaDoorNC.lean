/- rows(): package legal works. Plain, closed. -/
import Derived.Test.YtfkncjfpgflafaaDoorYQ
import Derived.Test.YtfkncjfpgflafaaDoorGA
namespace Go.Proofs.YtfkncjfpgflafaaDoor.X
open Go Go.RowKit
theorem rows_ok : Ok P_maskkeep4_rows (fun r => r = true) := ⟨true, by decide +kernel, rfl⟩
end Go.Proofs.YtfkncjfpgflafaaDoor.X
