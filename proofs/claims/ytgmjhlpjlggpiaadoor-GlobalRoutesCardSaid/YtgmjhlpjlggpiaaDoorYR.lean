/- copy between two slices of one's own, of one cell an element. -/
import Derived.Test.YtgmjhlpjlggpiaaDoorYJ
import Derived.Laws.IdiomCopy
namespace Go.Proofs.YtgmjhlpjlggpiaaDoor.X
open Go Go.RowKit
set_option linter.unusedVariables false
set_option linter.unusedSimpArgs false
set_option linter.unusedSectionVars false
section
variable {P : Program} {n : Nat} {R : Env → World → Prop} {st : List It} {E : Env} {w w0 : World} {all : Array Oper} {rest : List Oper} {l : List Assn}
variable {t ty : TypeId} {pos : String} {af : Array Edge} {x y : Operand} {α : Type} {Q : Rp α} {ρ : Heap}
end
section
variable {α : Type} [Inhabited α] {Q : Rp α} {ρ : Heap} {w0 w : World} {l : List Assn} {e : TypeId} {A : Option Addr} {n c : Nat} {cs : List Value} {xs : List α}
end
end Go.Proofs.YtgmjhlpjlggpiaaDoor.X
