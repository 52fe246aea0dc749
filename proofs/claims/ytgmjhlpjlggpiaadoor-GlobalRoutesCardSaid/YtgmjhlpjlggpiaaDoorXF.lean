/- More operations: strings, bytes, parts of slices, shifts. Lemmas over any program. -/
import Derived.Test.YtgmjhlpjlggpiaaDoorXR
import Derived.Lib.ConvBytes
import Derived.Laws.Strings
namespace Go.Proofs.YtgmjhlpjlggpiaaDoor.X
open Go Go.RowKit
set_option linter.unusedVariables false
set_option linter.unusedSimpArgs false
def byteAt (s : ByteArray) (i : Int) : Int := ((s.data.getD i.toNat 0).toNat : Int)
theorem says_lit {v : Value} {c b r : Bool} (h : v = .bool c) (hr : (c == b) = r) : says v b = r := by subst h; rw [← hr]; cases c <;> cases b <;> rfl
section
variable {P : Program} {n : Nat} {R : Env → World → Prop} {st : List It} {E : Env} {w w0 : World} {all : Array Oper} {rest : List Oper} {l : List Assn} {d : Option Nat} {ty t t' : TypeId} {pos : String} {af : Array Edge} {g : Option (Nat × Bool)}
theorem yl_index_string {x y : Operand} {s : ByteArray} {k : IntKind} {i : Int} (ht : P.underlying t = some .string) (hx : ev E x = .string s) (hy : ev E y = .int k i) (h0 : 0 ≤ i) (h1 : i < s.size) :
  Yl P E ⟨d, .index t x y, ty, pos, af, g⟩ (.int .u8 (byteAt s i)) := fun w => by
 have h : i.toNat < s.size := by omega
 have hd : i.toNat < s.data.size := h
 simp [At, execOp, Instr.index, hx, hy, asIntOf, run_underlying ht, h0, h, pure, Sem.run, byteAt, Array.getD, hd]
 rfl
theorem yl_eql_string {x y : Operand} {a b : ByteArray} (hx : ev E x = .string a) (hy : ev E y = .string b) : Yl P E ⟨d, .binOp .eql t x y t', ty, pos, af, g⟩ (.bool (decide (a = b))) := fun w => by
 have e : (a.toList == b.toList) = decide (a = b) := by
  rw [Bool.eq_iff_iff, beq_iff_eq, decide_eq_true_eq]
  rw [ByteArray.toList_eq, ByteArray.toList_eq]
  exact ⟨fun h => ByteArray.ext (Array.toList_inj.1 h), fun h => by rw [h]⟩
 simp [At, execOp, eqGuard, hx, hy, binOp, Op.stringOp, pure, Sem.run, e]
theorem yl_slice_to {x y : Operand} {A : Option Addr} {m c e sz by_ : Nat} {k : IntKind} {i : Int} (ht : sliceB P t = some (e, sz, by_)) (hx : ev E x = .slice A m c) (hy : ev E y = .int k i) (h0 : 0 ≤ i) (h1 : i ≤ c) :
  Yl P E ⟨d, .slice t x none (some y) none, ty, pos, af, g⟩ (.slice A i.toNat c) := fun w => by
 obtain ⟨hu, inf, hi, _, _⟩ := sliceB_spec ht
 have hA : (if c = 0 then A else A.map (·.add (0 * inf.size))) = A := by
  have : (fun a : Addr => a.add (0 * inf.size)) = id := by funext a; simp [Addr.add]
  rw [this]; simp
 simp [At, execOp, hx, hy, Instr.sliceAt, Instr.slice, Instr.sliceBounds, Instr.sliceBound, asIntOf, run_underlying hu, h0, h1, sizeOf, typeInfo, hi, pure, Sem.run]
 intro _
 cases A <;> simp [Addr.add]
end
/-! ### Rows of structs of numbers alone: told as one list of numbers -/
theorem add_add (a : Addr) (m j : Nat) : (a.add m).add j = a.add (m + j) := by
 unfold Addr.add
 by_cases hm : m = 0
 ·subst hm; simp
 ·by_cases hj : j = 0
  ·subst hj; simp
  ·simp [hm, hj]; omega
section
variable {P : Program} {n : Nat} {R : Env → World → Prop} {st : List It} {E : Env} {w w0 : World} {all : Array Oper} {rest : List Oper} {l : List Assn} {d : Option Nat} {ty t : TypeId} {pos : String} {af : Array Edge}
end
theorem add_off (b o k : Nat) : (⟨b, o, none⟩ : Addr).add k = ⟨b, o + k, none⟩ := by unfold Addr.add; split <;> simp_all
section
variable {P : Program} {n : Nat} {R : Env → World → Prop} {st : List It} {E : Env} {w w0 : World} {all : Array Oper} {rest : List Oper} {l : List Assn} {d : Option Nat} {ty t : TypeId} {pos : String} {af : Array Edge} {g : Option (Nat × Bool)}
end
section
variable {P : Program} {E : Env} {d : Option Nat} {ty t t' : TypeId} {pos : String} {af : Array Edge} {g : Option (Nat × Bool)} {x y : Operand} {a b : Int} {k : IntKind}
theorem yl_min (hx : ev E x = .int k a) (hy : ev E y = .int k b) : Yl P E ⟨d, .call { callee := .builtin .min, args := #[x, y], argTypes := #[t, t'] }, ty, pos, af, g⟩ (.int k (if b < a then b else a)) := fun w => by
 simp only [At, execOp, resolve, invoke, builtin, hx, hy, Builtin.min_, Builtin.min2]
 by_cases h : b < a <;> simp [h, resolve, invoke, builtin, hx, hy, Builtin.min_, Builtin.min2, pure, Sem.run, Int.min_def, Int.max_def] <;> omega
theorem yl_max (hx : ev E x = .int k a) (hy : ev E y = .int k b) : Yl P E ⟨d, .call { callee := .builtin .max, args := #[x, y], argTypes := #[t, t'] }, ty, pos, af, g⟩ (.int k (if a < b then b else a)) := fun w => by
 by_cases h : a < b <;> simp [At, execOp, h, resolve, invoke, builtin, hx, hy, Builtin.max_, Builtin.max2, pure, Sem.run, Int.min_def, Int.max_def] <;> omega
end
end Go.Proofs.YtgmjhlpjlggpiaaDoor.X
