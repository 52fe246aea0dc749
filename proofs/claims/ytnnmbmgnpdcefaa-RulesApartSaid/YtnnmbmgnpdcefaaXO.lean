/- The tables that the rows list, by their blocks. -/
import Derived.WalkKit
namespace Go.Proofs.Ytnnmbmgnpdcefaa.X
open Go
def baseL : List (Nat × Array Value) := []
def intL : List Nat := []
end Go.Proofs.Ytnnmbmgnpdcefaa.X
