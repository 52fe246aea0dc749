/- The executor: elements behind guards, fields, copies, small things. Lemmas over any program. -/
import Derived.Test.YtgmjhlpjlggpiaaDoorYF
import Derived.Laws.Cover3
namespace Go.Proofs.YtgmjhlpjlggpiaaDoor.X
open Go Go.RowKit
set_option linter.unusedVariables false
set_option linter.unusedSimpArgs false
section
variable {P : Program} {n : Nat} {R : Env → World → Prop} {st : List It} {E : Env} {w w0 : World} {all : Array Oper} {rest : List Oper} {l : List Assn} {T : Env → World → Prop} {C : World → Prop}
variable {d : Nat} {dd : Option Nat} {op : Op} {ty t t' : TypeId} {pos : String} {af : Array Edge} {g : Option (Nat × Bool)} {v : Value} {x y : Operand}
variable {α : Type} [Inhabited α] {Q : Rp α} {ρ ρ' : Heap} {A : Option Addr} {len cap sz e by_ : Nat} {xs : List α} {cs news : List Value} {i : Int} {k : IntKind}
omit [Inhabited α] in
theorem sl_d : ∃ cs, ∀ ρ, (RpSl Q).ok ρ cs default := ⟨[.slice none 0 0], fun _ => ⟨none, 0, 0, rfl, RdS.nil⟩⟩
theorem gt_nat (xs : List α) (i : Int) : gt xs i = gt xs (i.toNat : Int) := by simp only [gt, Int.toNat_natCast]
theorem gt_out {xs : List α} {i : Int} (h : ¬ i.toNat < xs.length) : gt xs i = default := by
 simp only [gt, List.getD_eq_getElem?_getD, List.getElem?_eq_none (Nat.le_of_not_lt h), Option.getD_none]
theorem RdS.getD (hd : ∃ cs, ∀ ρ, Q.ok ρ cs default) (h : RdS Q ρ A len cap xs) (i : Int) : ∃ cs, Q.ok ρ cs (gt xs i) ∧ (inb i xs.length → Elt ρ ((adr A).add (i.toNat * Q.sz)) cs) := by
 by_cases hi : i.toNat < xs.length
 ·obtain ⟨cs, h1, h2⟩ := h.get (i := (i.toNat : Int)) ⟨by omega, by omega⟩
  exact ⟨cs, by rw [gt_nat]; exact h1, fun _ => by simp only [Int.toNat_natCast] at h2; exact h2⟩
 ·obtain ⟨cs, hc⟩ := hd
  exact ⟨cs, by rw [gt_out hi]; exact hc ρ, fun hb => absurd (inb_lt hb) hi⟩
theorem RepL.getD (hd : ∃ cs, ∀ ρ, Q.ok ρ cs default) (h : RepL Q ρ xs cs) (i : Int) : ∃ c, Q.ok ρ c (gt xs i) ∧ (inb i xs.length → EltV cs (i.toNat * Q.sz) c) := by
 by_cases hi : i.toNat < xs.length
 ·obtain ⟨c, h1, h2⟩ := h.get (i := (i.toNat : Int)) ⟨by omega, by omega⟩
  exact ⟨c, by rw [gt_nat]; exact h1, fun _ => by simp only [Int.toNat_natCast] at h2; exact h2⟩
 ·obtain ⟨c, hc⟩ := hd
  exact ⟨c, by rw [gt_out hi]; exact hc ρ, fun hb => absurd (inb_lt hb) hi⟩
theorem x_join_ops (J : Env → World → Prop) (h : S P n R (.ops all rest :: .inv J :: st) E w) (go : ∀ E w, J E w → S P n R st E w) : S P n R (.ops all rest :: st) E w := by
 intro a hA
 have h1 := h a hA
 have key : ∀ (rest : List Oper) (a : Act) (w : World) {Q Q' : Exit → Act → World → Prop}, (∀ e a w, Q e a w → Q' e a w) → wpList P all Q rest a w → wpList P all Q' rest a w := by
  intro rest
  induction rest with
  | nil => exact fun a w Q Q' hQ h => hQ _ _ _ h
  | cons o rest ih =>
   intro a w Q Q' hQ h
   unfold wpList at h ⊢
   split
   ·rename_i hw
    rw [if_pos hw] at h
    rcases h with h | ⟨h1, a0, w0, h2⟩
    ·refine .inl ?_
     unfold Oper.wp at h ⊢
     generalize (execOp a.eval o).run P w = r at *
     cases r with
     | ok nx w' =>
      cases nx <;> simp only [Oper.upon] at h ⊢
      case value v => exact ih _ _ hQ h
      case skip => exact ih _ _ hQ h
      case defer dd => exact ih _ _ hQ h
      case enter f args => exact h.mono fun e w'' he => by cases e <;> first | exact ih _ _ hQ he | exact hQ _ _ _ he | (obtain ⟨a1, w1, hq⟩ := he; exact ⟨a1, w1, hQ _ _ _ hq⟩)
      case row r args => exact h.mono fun v w'' he => ih _ _ hQ he
     | halt hh w' => cases hh <;> simp only [Oper.upon] at h ⊢; exact hQ _ _ _ h
    ·exact .inr ⟨h1, a0, w0, hQ _ _ _ h2⟩
   ·rename_i hw
    rw [if_neg hw] at h
    exact ih _ _ hQ h
 refine key rest a w ?_ h1
 rintro e a' w' ⟨E', hA', hX⟩
 refine ⟨E', hA', ?_⟩
 cases e with
 | normal => exact go E' w' hX
 | _ => simpa [X] using hX
omit [Inhabited α] in
theorem RepL.flat (hf : ∀ {ρ ρ' cs x}, Q.ok ρ cs x → Q.ok ρ' cs x) : ∀ {xs : List α} {cs : List Value}, RepL Q ρ xs cs → RepL Q ρ' xs cs
 | [], _, h => h
 | _ :: _, _, ⟨c1, c2, e, h1, h2⟩ => ⟨c1, c2, e, hf h1, RepL.flat hf h2⟩
theorem x_split (q : Bool) (ht : q = true → S P n R st E w) (hf : q = false → S P n R st E w) : S P n R st E w := by
 cases q
 ·exact hf rfl
 ·exact ht rfl
end
end Go.Proofs.YtgmjhlpjlggpiaaDoor.X
