/- Arrays (structs with numbered fields), and loops of few rounds, gone through one by one. -/
import Derived.Test.YtlolchgeedegdaaDoorYG
namespace Go.Proofs.YtlolchgeedegdaaDoor.X
open Go Go.RowKit
set_option linter.unusedVariables false
theorem arr1 {α : Type} {a a' : α} (h : a = a') : #[a] = #[a'] := by rw [h]
section
variable {P : Program} {n : Nat} {R : Env → World → Prop} {st : List It} {E : Env} {w : World}
end
section
variable {P : Program} {E : Env} {x y : Operand} {dd : Option Nat} {ty : TypeId} {pos : String} {af : Array Edge} {g : Option (Nat × Bool)} {k : IntKind} {i : Int} {v : Value}
/-! ### == of two structs of numbers, bools and strings -/
end
end Go.Proofs.YtlolchgeedegdaaDoor.X
