/- Arrays (structs with numbered fields), and loops of few rounds, gone through one by one. -/
import Derived.WideLaws
import Derived.Test.YtkenpbnpemjbhaaDoorYG
namespace Go.Proofs.YtkenpbnpemjbhaaDoor.X
open Go Go.RowKit
set_option linter.unusedVariables false
theorem arr1 {α : Type} {a a' : α} (h : a = a') : #[a] = #[a'] := by rw [h]
section
variable {P : Program} {n : Nat} {R : Env → World → Prop} {st : List It} {E : Env} {w : World}
end
section
variable {P : Program} {E : Env} {x y : Operand} {dd : Option Nat} {ty : TypeId} {pos : String} {af : Array Edge} {g : Option (Nat × Bool)} {k : IntKind} {i : Int} {v : Value}
/-! ### == of two structs of numbers, bools and strings -/
theorem yneq_nil {t t2 : TypeId} (ht : P.underlying t = some (.interface (P.methodsAt t))) (hx : ev E x = .nilIface) : Yl P E ⟨dd, .binOp .neq t x (.const .nilIface) t2, ty, pos, af, g⟩ (.bool false) := fun w => by
  have h := run_neq_nil_nil (P := P) (w := w) t ht
  have hx' : ev E x = Value.nilIface := hx
  have hy' : ev E (.const .nilIface) = Value.nilIface := rfl
  simp [At, execOp, eqGuard, hx', hy', Sem.run_bind, h, pure, Sem.run]
end
end Go.Proofs.YtkenpbnpemjbhaaDoor.X
