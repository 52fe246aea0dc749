/- The executor: strings: parts, and bytes made of them and into them; structs compared. Lemmas over any program. -/
import Derived.Test.YtfkncjfpgflafaaYD
import Derived.Laws.StructEq
namespace Go.Proofs.Ytfkncjfpgflafaa.X
open Go Go.RowKit
set_option linter.unusedVariables false
set_option linter.unusedSimpArgs false
section
variable {P : Program} {n : Nat} {R : Env → World → Prop} {st : List It} {E : Env} {w w0 : World} {all : Array Oper} {rest : List Oper} {l : List Assn} {T : Env → World → Prop} {C : World → Prop}
variable {d : Nat} {dd : Option Nat} {op : Op} {ty t t' : TypeId} {pos : String} {af : Array Edge} {g : Option (Nat × Bool)} {v : Value} {x y a b : Operand} {lo hi : Int} {kl kh : IntKind} {s z : ByteArray}
theorem ysub_sh (ht : P.underlying t = some .string) (hx : ev E x = .string s) (hb' : ev E b = .int kh hi) (hb : 0 ≤ (0 : Int) ∧ (0 : Int) ≤ hi ∧ hi ≤ s.size) (hz : z = subS s 0 hi) : Yl P E ⟨dd, .slice t x none (some b) none, ty, pos, af, g⟩ (.string z) := fun w => by
 obtain ⟨h0, h1, h2⟩ := hb
 subst hz
 simp [At, execOp, hx, hb', Instr.sliceAt, Instr.slice, Instr.sliceBounds, Instr.sliceBound, asIntOf, run_underlying ht, pure, Sem.run, h1, h2, subS]
/-- The string of some bytes. -/
def strOf (xs : List Int) : ByteArray := xs.foldl (fun r n => r.push (UInt8.ofNat n.toNat)) ByteArray.empty
theorem loadCells_of {ad : Addr} {vs : List Value} (hc : ∀ j v, vs[j]? = some v → w.cell? (ad.add j) = some v) : (loadCells ad vs.length).run P w = .ok vs.toArray w := run_loadCells_list (P := P) (w := w) ad vs hc
theorem repI_eq {k : IntKind} {ρ : Heap} : ∀ {xs : List Int} {cs : List Value}, RepL (RpI k) ρ xs cs → cs = ints k xs
 | [], cs, h => h
 | x :: xs, cs, ⟨c1, c2, e, h1, h2⟩ => by
  have e1 : c1 = [.int k x] := h1
  rw [e, e1, repI_eq h2]; rfl
theorem at_str {src dst e : TypeId} {A : Option Addr} {len cap : Nat} {xs : List Int} (hs : P.underlying src = some (.slice e)) (he : P.underlying e = some (.int .u8)) (hd : P.underlying dst = some .string) (hx : ev E x = .slice A len cap)
  (hl : len = xs.length) (hc : ∀ j v, (ints .u8 xs)[j]? = some v → ∃ ad, A = some ad ∧ w.cell? (ad.add j) = some v) (hz : z = strOf xs) : At P E ⟨dd, .convert src dst x, ty, pos, af, g⟩ w (.string z) := by
 subst hz; subst hl
 have h1 := run_convert_bytes_string (P := P) w src dst e A xs.length cap hs he hd
 cases A with
 | none =>
  have : xs = [] := by
   cases xs with
   | nil => rfl
   | cons a r => obtain ⟨ad, h, _⟩ := hc 0 _ rfl; cases h
  subst this
  have h2 : (Conv.bytesToString (.slice none ([] : List Int).length cap)).run P w = .ok (.string (strOf [])) w := by
   simp [Conv.bytesToString, strOf, pure, Sem.run]
  simp only [List.length_nil] at h1 h2 hx
  simp [At, execOp, hx, h1, h2, pure, Sem.run]
 | some ad =>
  have h2 := run_bytesToString (P := P) w ad xs.length cap xs (by
   have := loadCells_of (P := P) (w := w) (ad := ad) (vs := ints .u8 xs) (fun j v hj => by obtain ⟨a', ha, h⟩ := hc j v hj; cases ha; exact h)
   rw [ints_length] at this
   exact this)
  simp [At, execOp, hx, h1, h2, pure, Sem.run, strOf]
theorem str_o {ρ : Heap} {e : TypeId} {A : Option Addr} {len cap : Nat} {xs : List Int} {cs : List Value} (hS : St w0 w (vec e (RpI .u8).sz (.slice A len cap) len cs :: l)) (h : RepL (RpI .u8) ρ xs cs) : ∀ j v, (ints .u8 xs)[j]? = some v → ∃ ad, A = some ad ∧ w.cell? (ad.add j) = some v := by
 rw [repI_eq h] at hS
 exact fun j v hj => hS.vec_cell hj
end
end Go.Proofs.Ytfkncjfpgflafaa.X
