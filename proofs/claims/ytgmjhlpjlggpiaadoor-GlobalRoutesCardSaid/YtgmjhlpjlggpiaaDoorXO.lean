/- The tables that the rows list, by their blocks. -/
import Derived.WalkKit
namespace Go.Proofs.YtgmjhlpjlggpiaaDoor.X
open Go
def baseL : List (Nat × Array Value) := [(0, #[.int .u64 1, .int .u64 10, .int .u64 100, .int .u64 1000, .int .u64 10000, .int .u64 100000, .int .u64 1000000, .int .u64 10000000, .int .u64 100000000, .int .u64 1000000000, .int .u64 10000000000, .int .u64 100000000000, .int .u64 1000000000000, .int .u64 10000000000000, .int .u64 100000000000000, .int .u64 1000000000000000, .int .u64 10000000000000000, .int .u64 100000000000000000, .int .u64 1000000000000000000, .int .u64 10000000000000000000])]
def intL : List Nat := []
end Go.Proofs.YtgmjhlpjlggpiaaDoor.X
