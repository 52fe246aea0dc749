/- Maps of maps of one's own. Lemmas over any program. -/
import Derived.Test.YtgmjhlpjlggpiaaDoorYO
namespace Go.Proofs.YtgmjhlpjlggpiaaDoor.X
open Go Go.RowKit Go.Instr
set_option linter.unusedVariables false
set_option linter.unusedSimpArgs false
set_option linter.unusedSectionVars false
section
variable {κ κ₂ β : Type} [DecidableEq κ] [DecidableEq κ₂] {kf : κ → Value} {kf2 : κ₂ → Value} {vf2 : β → Value} {w0 w : World} {l : List Assn} {b : Nat}
/-- The inner maps, one by one. -/
def innA (kf2 : κ₂ → Value) (vf2 : β → Value) : List Nat → List (List (κ₂ × β)) → List Assn
 | b :: bs, e :: es => mapA b kf2 vf2 e :: innA kf2 vf2 bs es
 | _, _ => []
/-- The outer map's entries: the keys, with the inner maps' blocks. -/
abbrev outE (es : List (κ × List (κ₂ × β))) (bs : List Nat) : List (κ × Option Nat) := zipK es (bs.map some)
def mapM (b : Nat) (kf : κ → Value) (kf2 : κ₂ → Value) (vf2 : β → Value) (es : List (κ × List (κ₂ × β))) (bs : List Nat) : Assn :=
 bunA (fun _ : Unit => bs.length = es.length) (fun _ => mapA b kf Value.map (outE es bs) :: innA kf2 vf2 bs (es.map (·.2)))
end
section
variable {P : Program} {n : Nat} {Rr : Env → World → Prop} {st : List It} {E : Env} {w0 w : World} {l : List Assn} {all : Array Oper} {rest : List Oper} {ty t : TypeId} {pos : String} {af : Array Edge} {g : Option (Nat × Bool)} {x y z : Operand} {dd : Option Nat}
variable {κ κ₂ β : Type} [DecidableEq κ] [DecidableEq κ₂] {kf : κ → Value} {kf2 : κ₂ → Value} {vf2 : β → Value} {b : Nat} {es es' : List (κ × List (κ₂ × β))} {bs : List Nat}
variable [Inhabited κ]
end
/-! the numbers that have come, in a range -/
end Go.Proofs.YtgmjhlpjlggpiaaDoor.X
