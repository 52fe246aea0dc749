/- Parts of a slice of one's own that are written in place. -/
import Derived.Test.YtgmjhlpjlggpiaaDoorYR
namespace Go.Proofs.YtgmjhlpjlggpiaaDoor.X
open Go Go.RowKit
set_option linter.unusedVariables false
set_option linter.unusedSectionVars false
section
variable {P : Program} {n : Nat} {R : Env → World → Prop} {st : List It} {E : Env} {w w0 : World} {all : Array Oper} {rest : List Oper} {l : List Assn} {d : Nat} {ty : TypeId} {pos : String} {af : Array Edge} {g : Option (Nat × Bool)}
end
section
variable {P : Program} {n : Nat} {R : Env → World → Prop} {st : List It} {E : Env} {w w0 : World} {all : Array Oper} {rest : List Oper} {l : List Assn} {dd : Option Nat} {ty t e : TypeId} {pos : String} {af : Array Edge} {g : Option (Nat × Bool)} {x y a b : Operand}
variable {α : Type} [Inhabited α] {Q : Rp α} {ρ : Heap} {A : Option Addr} {len cap by_ : Nat} {xs : List α} {cs : List Value} {lo hi m o i : Int} {k kl kh : IntKind}
end
end Go.Proofs.YtgmjhlpjlggpiaaDoor.X
