/- The streams' bits. -/
import Derived.Test.YtfkncjfpgflafaaPZ
namespace Go.Proofs.Ytfkncjfpgflafaa.X
open Go Go.RowKit
theorem Strm.flip {L : List Int} (h : Strm L) {k n : Int} (hk : Few k) (hn : n ≤ 4611686018427387904) : Ok (P_maskmake_Stream_Flip (T_maskmake_Stream.mk L k) n) (fun r => r.2 = k + 1) := by
  unfold P_maskmake_Stream_Flip
  exact ok_bd (h.next hk hn) fun r hr => ok_some hr.2.2.2
end Go.Proofs.Ytfkncjfpgflafaa.X
