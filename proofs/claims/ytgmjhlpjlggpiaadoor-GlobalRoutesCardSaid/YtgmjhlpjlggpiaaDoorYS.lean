/- A strings.Builder in memory: its block and its buffer, told as what it holds; its methods, over any program that has them. -/
import Derived.Test.YtgmjhlpjlggpiaaDoorYR
import Derived.Shelf.Strings.Builder1
namespace Go.Proofs.YtgmjhlpjlggpiaaDoor.X
open Go Go.RowKit Go.Shelf
set_option linter.unusedVariables false
section
variable {w0 w : World} {l : List Assn} {T e : TypeId} {b : Nat} {s : ByteArray}

variable {P : Program} {ρ : Ren}
end
end Go.Proofs.YtgmjhlpjlggpiaaDoor.X
