/- Arrays (structs with numbered fields), and loops of few rounds, gone through one by one. -/
import Derived.WideLaws
import Derived.Test.YtnnmbmgnpdcefaaYG
namespace Go.Proofs.Ytnnmbmgnpdcefaa.X
open Go Go.RowKit
set_option linter.unusedVariables false
theorem arr1 {α : Type} {a a' : α} (h : a = a') : #[a] = #[a'] := by rw [h]
section
variable {P : Program} {n : Nat} {R : Env → World → Prop} {st : List It} {E : Env} {w : World}
/-- A loop, so many rounds of which are gone through. -/
def Un (P : Program) (n : Nat) (R : Env → World → Prop) (c : Code) (st : List It) : Nat → Env → World → Prop
 | 0, _, _ => False
 | k + 1, E, w => S P n R (.code c :: .inv (Un P n R c st k) :: st) E w
theorem X_inv_mono {I J : Env → World → Prop} (h : ∀ E w, I E w → J E w) {e : Exit} (hX : X P n R (.inv I :: st) e E w) : X P n R (.inv J :: st) e E w := by
 cases e with
 | normal => exact h _ _ hX
 | _ => exact hX
theorem x_unroll (k : Nat) {c : Code} (h : S P n R (.code c :: .inv (Un P n R c st k) :: st) E w) : S P n R (.code (.loop c) :: st) E w := by
 refine x_loop (Un P n R c st) (k + 1) h ?_
 intro k E w hk
 cases k with
 | zero => exact hk.elim
 | succ k =>
  intro a hA
  refine wp_mono (hk a hA) ?_
  rintro e a' w' ⟨E', hA', hX⟩
  exact ⟨E', hA', X_inv_mono (fun E w h => ⟨k, Nat.lt_succ_self k, h⟩) hX⟩
theorem x_un (k : Nat) {c : Code} {s2 : List It} (h : S P n R (.code c :: .inv (Un P n R c st k) :: st) E w) : S P n R (.inv (Un P n R c st (k + 1)) :: s2) E w := h
end
section
variable {P : Program} {E : Env} {x y : Operand} {dd : Option Nat} {ty : TypeId} {pos : String} {af : Array Edge} {g : Option (Nat × Bool)} {k : IntKind} {i : Int} {v : Value}
theorem ylss_l {a b : Int} {t : Bool} {t1 t2 : TypeId} (hx : ev E x = .int k a) (hy : ev E y = .int k b) (h : decide (a < b) = t) : Yl P E ⟨dd, .binOp .lss t1 x y t2, ty, pos, af, g⟩ (.bool t) := h ▸ yl_lss hx hy
/-- An array type: how many, and an element's cells (closed: by kernel_rfl). -/
def arrB (P : Program) (t : TypeId) : Option (Nat × Nat × TypeId) := match P.underlying t with
 | some (.array m e) => match P.info? e with
  | some i => if m ≤ 1 then none else some (m, i.size, e)
  | none => none
 | _ => none
theorem arrB_spec {t m sz e : Nat} (h : arrB P t = some (m, sz, e)) : P.underlying t = some (.array m e) ∧ (∃ i, P.info? e = some i ∧ i.size = sz) ∧ 1 < m := by
 unfold arrB at h
 split at h
 ·rename_i m' e' hu
  split at h
  ·rename_i i hi
   split at h
   ·cases h
   ·simp only [Option.some.injEq, Prod.mk.injEq] at h
    obtain ⟨rfl, rfl, rfl⟩ := h
    exact ⟨hu, ⟨i, hi, rfl⟩, by omega⟩
  ·cases h
 ·cases h
theorem yl_ixa {t m sz e b o : Nat} (ht : arrB P t = some (m, sz, e)) (hx : ev E x = .pointer (some ⟨b, o, none⟩)) (hy : ev E y = .int k i) (h : inb i m) {q : Nat} (hq : o + i.toNat * sz = q) : Yl P E ⟨dd, .indexAddr t x y, ty, pos, af, g⟩ (.pointer (some ⟨b, q, none⟩)) := fun w => by
 subst hq
 obtain ⟨hu, ⟨inf, hi, rfl⟩, hm⟩ := arrB_spec ht
 obtain ⟨h0, h1⟩ := h
 rw [← add_off]
 simp [At, execOp, hx, hy, Instr.indexAt, Instr.sureAddr, asIntOf, run_underlying hu, sizeOf, typeInfo, hi, h0, h1, pure, Sem.run]
/-! ### == of two structs of numbers, bools and strings -/
end
end Go.Proofs.Ytnnmbmgnpdcefaa.X
