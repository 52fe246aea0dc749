/- More operations: strings, bytes, parts of slices, shifts. Lemmas over any program. -/
import Derived.Test.YtnnmbmgnpdcefaaXR
import Derived.Lib.ConvBytes
import Derived.Laws.Strings
namespace Go.Proofs.Ytnnmbmgnpdcefaa.X
open Go Go.RowKit
set_option linter.unusedVariables false
set_option linter.unusedSimpArgs false
theorem says_lit {v : Value} {c b r : Bool} (h : v = .bool c) (hr : (c == b) = r) : says v b = r := by subst h; rw [← hr]; cases c <;> cases b <;> rfl
section
variable {P : Program} {n : Nat} {R : Env → World → Prop} {st : List It} {E : Env} {w w0 : World} {all : Array Oper} {rest : List Oper} {l : List Assn} {d : Option Nat} {ty t t' : TypeId} {pos : String} {af : Array Edge} {g : Option (Nat × Bool)}
end
/-! ### Rows of structs of numbers alone: told as one list of numbers -/
theorem add_add (a : Addr) (m j : Nat) : (a.add m).add j = a.add (m + j) := by
 unfold Addr.add
 by_cases hm : m = 0
 ·subst hm; simp
 ·by_cases hj : j = 0
  ·subst hj; simp
  ·simp [hm, hj]; omega
section
variable {P : Program} {n : Nat} {R : Env → World → Prop} {st : List It} {E : Env} {w w0 : World} {all : Array Oper} {rest : List Oper} {l : List Assn} {d : Option Nat} {ty t : TypeId} {pos : String} {af : Array Edge}
end
theorem add_off (b o k : Nat) : (⟨b, o, none⟩ : Addr).add k = ⟨b, o + k, none⟩ := by unfold Addr.add; split <;> simp_all
section
variable {P : Program} {n : Nat} {R : Env → World → Prop} {st : List It} {E : Env} {w w0 : World} {all : Array Oper} {rest : List Oper} {l : List Assn} {d : Option Nat} {ty t : TypeId} {pos : String} {af : Array Edge} {g : Option (Nat × Bool)}
theorem yl_fieldN {s : TypeId} {x : Operand} {i off : Nat} {ft : TypeId} {b o : Nat} (hs : fieldAtB P s i = some (off, ft)) (hx : ev E x = .pointer (some ⟨b, o, none⟩)) :
  Yl P E ⟨d, .fieldAddr s x i, ty, pos, af, g⟩ (.pointer (some ⟨b, o + off, none⟩)) := by rw [← add_off]; exact yl_fieldAddr hs hx
end
section
variable {P : Program} {E : Env} {d : Option Nat} {ty t t' : TypeId} {pos : String} {af : Array Edge} {g : Option (Nat × Bool)} {x y : Operand} {a b : Int} {k : IntKind}
theorem yl_min (hx : ev E x = .int k a) (hy : ev E y = .int k b) : Yl P E ⟨d, .call { callee := .builtin .min, args := #[x, y], argTypes := #[t, t'] }, ty, pos, af, g⟩ (.int k (if b < a then b else a)) := fun w => by
 simp only [At, execOp, resolve, invoke, builtin, hx, hy, Builtin.min_, Builtin.min2]
 by_cases h : b < a <;> simp [h, resolve, invoke, builtin, hx, hy, Builtin.min_, Builtin.min2, pure, Sem.run, Int.min_def, Int.max_def] <;> omega
theorem yl_max (hx : ev E x = .int k a) (hy : ev E y = .int k b) : Yl P E ⟨d, .call { callee := .builtin .max, args := #[x, y], argTypes := #[t, t'] }, ty, pos, af, g⟩ (.int k (if a < b then b else a)) := fun w => by
 by_cases h : a < b <;> simp [At, execOp, h, resolve, invoke, builtin, hx, hy, Builtin.max_, Builtin.max2, pure, Sem.run, Int.min_def, Int.max_def] <;> omega
end
end Go.Proofs.Ytnnmbmgnpdcefaa.X
