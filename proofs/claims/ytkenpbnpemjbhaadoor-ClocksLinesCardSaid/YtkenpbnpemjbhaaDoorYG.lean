/- The executor: elements behind guards, fields, copies, small things. Lemmas over any program. -/
import Derived.Test.YtkenpbnpemjbhaaDoorYF
import Derived.Laws.Cover3
namespace Go.Proofs.YtkenpbnpemjbhaaDoor.X
open Go Go.RowKit
set_option linter.unusedVariables false
set_option linter.unusedSimpArgs false
section
variable {P : Program} {n : Nat} {R : Env → World → Prop} {st : List It} {E : Env} {w w0 : World} {all : Array Oper} {rest : List Oper} {l : List Assn} {T : Env → World → Prop} {C : World → Prop}
variable {d : Nat} {dd : Option Nat} {op : Op} {ty t t' : TypeId} {pos : String} {af : Array Edge} {g : Option (Nat × Bool)} {v : Value} {x y : Operand}
variable {α : Type} [Inhabited α] {Q : Rp α} {ρ ρ' : Heap} {A : Option Addr} {len cap sz e by_ : Nat} {xs : List α} {cs news : List Value} {i : Int} {k : IntKind}
theorem gt_nat (xs : List α) (i : Int) : gt xs i = gt xs (i.toNat : Int) := by simp only [gt, Int.toNat_natCast]
theorem gt_out {xs : List α} {i : Int} (h : ¬ i.toNat < xs.length) : gt xs i = default := by
  simp only [gt, List.getD_eq_getElem?_getD, List.getElem?_eq_none (Nat.le_of_not_lt h), Option.getD_none]
theorem RdS.getD (hd : ∃ cs, ∀ ρ, Q.ok ρ cs default) (h : RdS Q ρ A len cap xs) (i : Int) : ∃ cs, Q.ok ρ cs (gt xs i) ∧ (inb i xs.length → Elt ρ ((adr A).add (i.toNat * Q.sz)) cs) := by
  by_cases hi : i.toNat < xs.length
  · obtain ⟨cs, h1, h2⟩ := h.get (i := (i.toNat : Int)) ⟨by omega, by omega⟩
    exact ⟨cs, by rw [gt_nat]; exact h1, fun _ => by simp only [Int.toNat_natCast] at h2; exact h2⟩
  · obtain ⟨cs, hc⟩ := hd
    exact ⟨cs, by rw [gt_out hi]; exact hc ρ, fun hb => absurd (inb_lt hb) hi⟩
theorem RepL.getD (hd : ∃ cs, ∀ ρ, Q.ok ρ cs default) (h : RepL Q ρ xs cs) (i : Int) : ∃ c, Q.ok ρ c (gt xs i) ∧ (inb i xs.length → EltV cs (i.toNat * Q.sz) c) := by
  by_cases hi : i.toNat < xs.length
  · obtain ⟨c, h1, h2⟩ := h.get (i := (i.toNat : Int)) ⟨by omega, by omega⟩
    exact ⟨c, by rw [gt_nat]; exact h1, fun _ => by simp only [Int.toNat_natCast] at h2; exact h2⟩
  · obtain ⟨c, hc⟩ := hd
    exact ⟨c, by rw [gt_out hi]; exact hc ρ, fun hb => absurd (inb_lt hb) hi⟩
omit [Inhabited α] in
theorem RepL.flat (hf : ∀ {ρ ρ' cs x}, Q.ok ρ cs x → Q.ok ρ' cs x) : ∀ {xs : List α} {cs : List Value}, RepL Q ρ xs cs → RepL Q ρ' xs cs
  | [], _, h => h
  | _ :: _, _, ⟨c1, c2, e, h1, h2⟩ => ⟨c1, c2, e, hf h1, RepL.flat hf h2⟩
end
end Go.Proofs.YtkenpbnpemjbhaaDoor.X
