/- Slices of slices that are one's own: the rows too. -/
import Derived.Test.YtgmjhlpjlggpiaaDoorYH
namespace Go.Proofs.YtgmjhlpjlggpiaaDoor.X
open Go Go.RowKit
set_option linter.unusedVariables false
set_option linter.unusedSimpArgs false
/-- A slice's header. -/
structure Hd where
 A : Option Addr
 n : Nat
 c : Nat
def Hd.v (h : Hd) : Value := .slice h.A h.n h.c
section
variable {α : Type} {R : Rp α} {ei eo : TypeId} {w0 w : World} {l : List Assn} {ρ : Heap}
instance : Inhabited Hd := ⟨⟨none, 0, 0⟩⟩
end
section
variable {P : Program} {n : Nat} {Rr : Env → World → Prop} {st : List It} {E : Env} {w w0 : World} {all : Array Oper} {rest : List Oper} {l : List Assn}
variable {d : Nat} {dd : Option Nat} {ty t : TypeId} {pos : String} {af : Array Edge} {g : Option (Nat × Bool)} {x y : Operand} {k k' : IntKind}
variable {α : Type} {R : Rp α} {ei eo by_ len cap : Nat} {A : Option Addr} {i c : Int} {xss : List (List α)}
end

/-! ### An array of four, indexed by a number -/
section
variable {α : Type} {P : Program} {E : Env} {x y : Operand} {dd : Option Nat} {ty : TypeId} {pos : String} {g : Option (Nat × Bool)}
end
/-! ### A literal row of bytes, turned to its own type -/
section
variable {P : Program} {n : Nat} {R : Env → World → Prop} {st : List It} {E : Env} {w0 w : World} {l : List Assn} {all : Array Oper} {rest : List Oper} {ty : TypeId} {pos : String} {af : Array Edge} {x : Operand} {d : Nat}
end
end Go.Proofs.YtgmjhlpjlggpiaaDoor.X
