/- The executor: slices made, written out, grown, copied. Lemmas over any program. -/
import Derived.Test.YtgmjhlpjlggpiaaDoorXC
namespace Go.Proofs.YtgmjhlpjlggpiaaDoor.X
open Go Go.RowKit
set_option linter.unusedVariables false
set_option linter.unusedSimpArgs false

section
variable {P : Program} {n : Nat} {R : Env → World → Prop} {st : List It} {E : Env} {w : World} {all : Array Oper} {rest : List Oper} {o : Oper}
variable {d : Option Nat} {ty : TypeId} {pos : String} {af : Array Edge} {g : Option (Nat × Bool)} {w0 : World} {l : List Assn}

/-! ### A slice written out -/
theorem foldl_set (f : Array Value → Value × Nat → Array Value) (off : Nat) (hf : ∀ cs p, f cs p = cs.setIfInBounds (off + p.2) p.1) : ∀ (vs : List Value) (k : Nat) (pre zs : List Value), pre.length = off + k → vs.length ≤ zs.length →
  (vs.zipIdx k).foldl f ⟨pre ++ zs⟩ = ⟨pre ++ vs ++ zs.drop vs.length⟩
 | [], k, pre, zs, _, _ => by simp
 | v :: vs, k, pre, zs, hp, hz => by
  cases zs with
  | nil => simp at hz
  | cons z zs =>
   have ih := foldl_set f off hf vs (k + 1) (pre ++ [v]) zs (by simp [hp]; omega) (by simpa using hz)
   simp only [List.zipIdx_cons, List.foldl_cons, hf]
   have e : (Array.setIfInBounds ⟨pre ++ z :: zs⟩ (off + k) v) = ⟨(pre ++ [v]) ++ zs⟩ := by
    rw [← hp]
    simp
   rw [e, ih]
   simp
theorem fill_seq (size : Nat) : ∀ (vs : List Value) (i : Nat) (pre zs : List Value), (∀ v ∈ vs, v.cells.size = size) → pre.length = i * size → zs.length = vs.length * size →
  Instr.fill (fun i => some (i * size, size)) ⟨pre ++ zs⟩ ((vs.zipIdx i).map fun p => (p.2, p.1)) = some ⟨pre ++ vs.flatMap (·.cells.toList)⟩
 | [], i, pre, zs, _, _, hz => by
  have : zs = [] := List.eq_nil_of_length_eq_zero (by simpa using hz)
  subst this
  simp [Instr.fill]
 | v :: vs, i, pre, zs, hv, hp, hz => by
  have hvs := hv v (by simp)
  have hl : size ≤ zs.length := by rw [hz]; simp [Nat.add_mul]
  simp only [List.zipIdx_cons, List.map_cons, Instr.fill]
  rw [if_neg (by simp [hvs, hp]; omega)]
  have hfold := foldl_set (fun cs x => cs.setIfInBounds (i * size + x.2) x.1) (i * size) (fun _ _ => rfl) v.cells.toList 0 pre zs (by simp [hp]) (by simpa [hvs] using hl)
  have e1 : Array.foldl (fun (cs : Array Value) (x : Value × Nat) => cs.setIfInBounds (i * size + x.2) x.1) (⟨pre ++ zs⟩ : Array Value) v.cells.zipIdx = (⟨pre ++ v.cells.toList ++ zs.drop v.cells.toList.length⟩ : Array Value) := by
   rw [← Array.foldl_toList, Array.toList_zipIdx]; exact hfold
  rw [e1]
  have ih := fill_seq size vs (i + 1) (pre ++ v.cells.toList) (zs.drop v.cells.toList.length) (fun u hu => hv u (by simp [hu])) (by simp [hp, hvs, Nat.add_mul]) (by simp [hz, hvs, Nat.add_mul])
  rw [ih]
  simp
theorem o_buildSlice {t e sz by_ : Nat} {m : Nat} {parts : Array (Nat × Operand)} {vs : List Value} {cs z : List Value} (ht : sliceB P t = some (e, sz, by_)) (hz : zeroB P e = some z)
  (hp : (parts.toList.map fun p => (p.1, ev E p.2)) = (vs.zipIdx.map fun p => (p.2, p.1))) (hm : vs.length = m) (hsz : ∀ v ∈ vs, v.cells.size = sz) (hsm : m * sz ≤ 16777216) (hcs : vs.flatMap (·.cells.toList) = cs) (hS : St w0 w l)
  (h : ∀ b w', St w0 w' (cells b e cs :: l) → S P n R (.ops all rest :: st) (E.ins d (.slice (some ⟨b, 0, none⟩) m m)) w') (hd : fits d n = true := by rfl) :
  S P n R (.ops all (⟨d, .buildSlice t m parts, ty, pos, af, none⟩ :: rest) :: st) E w := by
 refine o_val rfl hd (v := .slice (some ⟨w.heap.size, 0, none⟩) m m) (w' := w.alloc (.cells ⟨cs⟩ e)) ?_ (h _ _ (hS.alloc _))
 obtain ⟨hu, inf, hi, rfl, _⟩ := sliceB_spec ht
 obtain ⟨zv, hz1, hz2⟩ := zeroB_spec hz
 have hfill : ∀ zs : Array Value, zs.size = m * inf.size → Instr.fill (fun i => some (i * inf.size, inf.size)) zs (parts.map fun p => (p.1, ev E p.2)).toList = some ⟨cs⟩ := by
  intro zs hzs
  have := fill_seq inf.size vs 0 [] zs.toList hsz (by simp) (by rw [hm]; simpa using hzs)
  rw [show (parts.map fun p => (p.1, ev E p.2)).toList = parts.toList.map fun p => (p.1, ev E p.2) by simp, hp]
  simpa [hcs] using this
 have hn : ¬ (16777216 < m * inf.size) := by omega
 have hparts : (parts.map fun (x : Nat × Operand) => match x with | (i, x) => (i, ev E x)) = parts.map fun p => (p.1, ev E p.2) := rfl
 simp only [execOp]
 rw [hparts]
 by_cases h0 : m * inf.size = 0
 ·have hf := hfill ((Array.range (m * inf.size)).map ((#[] : Array Value)[· % 0]!)) (by simp)
  simp only [Instr.buildSlice, Sem.run_bind, run_underlying hu, Result.andThen_ok, sizeOf, typeInfo, Sem.run_pure]
  simp [hi, hn, h0] at hf ⊢
  simp [hf, run_newRow]
 ·have hf := hfill ((Array.range (m * inf.size)).map (zv.cells[· % zv.cells.size]!)) (by simp)
  simp only [Instr.buildSlice, Sem.run_bind, run_underlying hu, Result.andThen_ok, sizeOf, typeInfo, Sem.run_pure]
  simp [hi, hn, h0, hz1] at hf ⊢
  simp [hf, run_newRow]

/-! ### make -/
/-! ### append -/
theorem zero_of {e : TypeId} {inf : TypeInfo} {z : List Value} (hi : P.info? e = some inf) (hz : zeroB P e = some z) : ∃ zv, inf.zero = some zv ∧ zv.cells.size = z.length := by
 unfold zeroB at hz
 rw [hi] at hz
 simp only [Option.bind_some] at hz
 cases hq : inf.zero with
 | none => rw [hq] at hz; simp at hz
 | some zv => rw [hq] at hz; simp at hz; exact ⟨zv, rfl, by rw [← hz]; simp⟩

end
end Go.Proofs.YtgmjhlpjlggpiaaDoor.X
