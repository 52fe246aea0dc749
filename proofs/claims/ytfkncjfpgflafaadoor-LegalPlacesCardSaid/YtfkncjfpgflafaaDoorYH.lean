/- Arrays (structs with numbered fields), and loops of few rounds, gone through one by one. -/
import Derived.WideLaws
import Derived.Test.YtfkncjfpgflafaaDoorYG
namespace Go.Proofs.YtfkncjfpgflafaaDoor.X
open Go Go.RowKit
set_option linter.unusedVariables false
theorem arr1 {α : Type} {a a' : α} (h : a = a') : #[a] = #[a'] := by rw [h]
theorem arr2 {α : Type} {a a' b b' : α} (h : a = a') (h2 : b = b') : #[a, b] = #[a', b'] := by rw [h, h2]
/-- A function that calls itself, so deep at most. -/
def rcf {α β : Type} (B : (α → Option β) → α → Option β) : Nat → α → Option β
  | 0, _ => none
  | n + 1, a => B (rcf B n) a
section
variable {P : Program} {n : Nat} {R : Env → World → Prop} {st : List It} {E : Env} {w : World}
end
section
variable {P : Program} {E : Env} {x y : Operand} {dd : Option Nat} {ty : TypeId} {pos : String} {af : Array Edge} {g : Option (Nat × Bool)} {k : IntKind} {i : Int} {v : Value}
/-! ### == of two structs of numbers, bools and strings -/
end
end Go.Proofs.YtfkncjfpgflafaaDoor.X
