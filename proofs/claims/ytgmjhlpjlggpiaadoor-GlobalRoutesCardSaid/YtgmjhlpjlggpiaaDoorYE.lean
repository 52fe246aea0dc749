/- The executor: strings: parts, and bytes made of them and into them; structs compared. Lemmas over any program. -/
import Derived.Test.YtgmjhlpjlggpiaaDoorYD
import Derived.Laws.StructEq
namespace Go.Proofs.YtgmjhlpjlggpiaaDoor.X
open Go Go.RowKit
set_option linter.unusedVariables false
set_option linter.unusedSimpArgs false
section
variable {P : Program} {n : Nat} {R : Env → World → Prop} {st : List It} {E : Env} {w w0 : World} {all : Array Oper} {rest : List Oper} {l : List Assn} {T : Env → World → Prop} {C : World → Prop}
variable {d : Nat} {dd : Option Nat} {op : Op} {ty t t' : TypeId} {pos : String} {af : Array Edge} {g : Option (Nat × Bool)} {v : Value} {x y a b : Operand} {lo hi : Int} {kl kh : IntKind} {s z : ByteArray}
end
end Go.Proofs.YtgmjhlpjlggpiaaDoor.X
