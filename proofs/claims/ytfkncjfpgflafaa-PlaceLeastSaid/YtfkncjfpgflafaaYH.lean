/- Arrays (structs with numbered fields), and loops of few rounds, gone through one by one. -/
import Derived.WideLaws
import Derived.Test.YtfkncjfpgflafaaYG
namespace Go.Proofs.Ytfkncjfpgflafaa.X
open Go Go.RowKit
set_option linter.unusedVariables false
/-- A function that calls itself, so deep at most. -/
def rcf {α β : Type} (B : (α → Option β) → α → Option β) : Nat → α → Option β
 | 0, _ => none
 | n + 1, a => B (rcf B n) a
section
variable {P : Program} {n : Nat} {R : Env → World → Prop} {st : List It} {E : Env} {w : World}
end
section
variable {P : Program} {E : Env} {x y : Operand} {dd : Option Nat} {ty : TypeId} {pos : String} {af : Array Edge} {g : Option (Nat × Bool)} {k : IntKind} {i : Int} {v : Value}
theorem sub_every {ad : Addr} {w : World} {cs c2 : List Value} {o m : Nat} (h : ∀ j v, cs[j]? = some v → w.cell? (ad.add j) = some v) (hc : (cs.drop o).take m = c2) : ∀ j v, c2[j]? = some v → w.cell? ((ad.add o).add j) = some v := by
 subst hc
 intro j v hj
 have e : (ad.add o).add j = ad.add (o + j) := by
  simp only [Addr.add]; by_cases h1 : o = 0 <;> by_cases h2 : j = 0 <;> simp [h1, h2, Nat.add_assoc]
 rw [e]
 simp only [List.getElem?_take] at hj
 split at hj
 ·rw [List.getElem?_drop] at hj; exact h _ _ hj
 ·cases hj
/-! ### == of two structs of numbers, bools and strings -/
end
end Go.Proofs.Ytfkncjfpgflafaa.X
