/- The executor: strings: parts, and bytes made of them and into them; structs compared. Lemmas over any program. -/
import Derived.Test.YtlolchgeedegdaaDoorYD
import Derived.Laws.StructEq
namespace Go.Proofs.YtlolchgeedegdaaDoor.X
open Go Go.RowKit
set_option linter.unusedVariables false
set_option linter.unusedSimpArgs false
section
variable {P : Program} {n : Nat} {R : Env → World → Prop} {st : List It} {E : Env} {w w0 : World} {all : Array Oper} {rest : List Oper} {l : List Assn} {T : Env → World → Prop} {C : World → Prop}
variable {d : Nat} {dd : Option Nat} {op : Op} {ty t t' : TypeId} {pos : String} {af : Array Edge} {g : Option (Nat × Bool)} {v : Value} {x y a b : Operand} {lo hi : Int} {kl kh : IntKind} {s z : ByteArray}
theorem ysub_sh (ht : P.underlying t = some .string) (hx : ev E x = .string s) (hb' : ev E b = .int kh hi) (hb : 0 ≤ (0 : Int) ∧ (0 : Int) ≤ hi ∧ hi ≤ s.size) (hz : z = subS s 0 hi) : Yl P E ⟨dd, .slice t x none (some b) none, ty, pos, af, g⟩ (.string z) := fun w => by
  obtain ⟨h0, h1, h2⟩ := hb
  subst hz
  simp [At, execOp, hx, hb', Instr.sliceAt, Instr.slice, Instr.sliceBounds, Instr.sliceBound, asIntOf, run_underlying ht, pure, Sem.run, h1, h2, subS]
theorem ysub_sl (ht : P.underlying t = some .string) (hx : ev E x = .string s) (ha : ev E a = .int kl lo) (hb : 0 ≤ lo ∧ lo ≤ (s.size : Int) ∧ (s.size : Int) ≤ s.size) (hz : z = subS s lo (s.size : Int)) : Yl P E ⟨dd, .slice t x (some a) none none, ty, pos, af, g⟩ (.string z) := fun w => by
  obtain ⟨h0, h1, h2⟩ := hb
  subst hz
  simp [At, execOp, hx, ha, Instr.sliceAt, Instr.slice, Instr.sliceBounds, Instr.sliceBound, asIntOf, run_underlying ht, pure, Sem.run, h0, h1, subS]
end
end Go.Proofs.YtlolchgeedegdaaDoor.X
