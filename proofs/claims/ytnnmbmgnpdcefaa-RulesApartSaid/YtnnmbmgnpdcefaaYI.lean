/- Slices of slices that are one's own: the rows too. -/
import Derived.Test.YtnnmbmgnpdcefaaYH
namespace Go.Proofs.Ytnnmbmgnpdcefaa.X
open Go Go.RowKit
set_option linter.unusedVariables false
set_option linter.unusedSimpArgs false
/-- A slice's header. -/
structure Hd where
 A : Option Addr
 n : Nat
 c : Nat
def Hd.v (h : Hd) : Value := .slice h.A h.n h.c
section
variable {α : Type} {R : Rp α} {ei eo : TypeId} {w0 w : World} {l : List Assn} {ρ : Heap}
/-- A row of one's own. -/
def rowA (ei : TypeId) (R : Rp α) (h : Hd) (xs : List α) : Assn := bunA (fun cs : List Value => ∀ ρ, RepL R ρ xs cs) (fun cs => [vec ei R.sz (.slice h.A h.n h.c) h.n cs])
def rowsA (ei : TypeId) (R : Rp α) : List Hd → List (List α) → List Assn
 | h :: hs, xs :: xss => rowA ei R h xs :: rowsA ei R hs xss
 | _, _ => []
theorem erase_set {β : Type} {x : β} : ∀ (xs : List β) (i : Nat), (xs.set i x).eraseIdx i = xs.eraseIdx i
 | [], _ => rfl
 | _ :: _, 0 => rfl
 | a :: xs, i + 1 => by simp [erase_set xs i]
theorem rows_perm {h : Hd} {xs : List α} : ∀ {hs : List Hd} {xss : List (List α)} {i : Nat}, hs[i]? = some h → xss[i]? = some xs → (rowsA ei R hs xss).Perm (rowA ei R h xs :: rowsA ei R (hs.eraseIdx i) (xss.eraseIdx i))
 | [], _, _, h1, _ => by simp at h1
 | _ :: _, [], _, _, h2 => by simp at h2
 | a :: hs, y :: xss, 0, h1, h2 => by
  simp at h1 h2; subst h1; subst h2; exact List.Perm.refl _
 | a :: hs, y :: xss, i + 1, h1, h2 => by
  have ih := rows_perm (hs := hs) (xss := xss) (i := i) (by simpa using h1) (by simpa using h2)
  exact (List.Perm.cons _ ih).trans (.swap _ _ _)
theorem St.row_in {h : Hd} {xs : List α} (hS : St w0 w (rowA ei R h xs :: l)) : ∃ cs, (∀ ρ, RepL R ρ xs cs) ∧ St w0 w (vec ei R.sz (.slice h.A h.n h.c) h.n cs :: l) := St.unbun hS
instance : Inhabited Hd := ⟨⟨none, 0, 0⟩⟩
theorem perm_in {β : Type} (x y : β) (L l : List β) : (x :: (L ++ (y :: l))).Perm (L ++ (y :: x :: l)) := by
 have := List.perm_middle (l₁ := L ++ [y]) (l₂ := l) (a := x)
 simpa using this.symm
/-- All rows are frozen. -/
theorem St.rows_fz : ∀ {hs : List Hd} {xss : List (List α)} {ρ : Heap} {l : List Assn}, hs.length = xss.length → St w0 w (rowsA ei R hs xss ++ (ro ρ :: l)) → ∃ ρ', Le ρ ρ' ∧ RepL (RpSl R) ρ' xss (hs.map Hd.v) ∧ St w0 w (ro ρ' :: l)
 | [], [], ρ, l, _, h => ⟨ρ, Le.refl _, rfl, h⟩
 | [], _ :: _, _, _, hl, _ => by simp at hl
 | _ :: _, [], _, _, hl, _ => by simp at hl
 | hd :: hs, xs :: xss, ρ, l, hl, h => by
  have h1 : St w0 w (rowsA ei R hs xss ++ (ro ρ :: rowA ei R hd xs :: l)) := h.perm (perm_in _ _ _ _)
  obtain ⟨ρ1, hle1, hr1, h2⟩ := St.rows_fz (by simpa using hl) h1
  obtain ⟨cs, hc, h3⟩ := St.row_in (h2.perm (.swap _ _ _))
  obtain ⟨ρ2, hle2, hr2, h4⟩ := St.vec_fz h3 (hc ρ1)
  exact ⟨ρ2, hle1.trans hle2, ⟨[hd.v], hs.map Hd.v, rfl, ⟨hd.A, hd.n, hd.c, rfl, hr2⟩, hr1.le hle2⟩, h4⟩
end
section
variable {P : Program} {n : Nat} {Rr : Env → World → Prop} {st : List It} {E : Env} {w w0 : World} {all : Array Oper} {rest : List Oper} {l : List Assn}
variable {d : Nat} {dd : Option Nat} {ty t : TypeId} {pos : String} {af : Array Edge} {g : Option (Nat × Bool)} {x y : Operand} {k k' : IntKind}
variable {α : Type} {R : Rp α} {ei eo by_ len cap : Nat} {A : Option Addr} {i c : Int} {xss : List (List α)}
end

/-! ### An array of four, indexed by a number -/
section
variable {α : Type} {P : Program} {E : Env} {x y : Operand} {dd : Option Nat} {ty : TypeId} {pos : String} {g : Option (Nat × Bool)}
end
/-! ### A literal row of bytes, turned to its own type -/
section
variable {P : Program} {n : Nat} {R : Env → World → Prop} {st : List It} {E : Env} {w0 w : World} {l : List Assn} {all : Array Oper} {rest : List Oper} {ty : TypeId} {pos : String} {af : Array Edge} {x : Operand} {d : Nat}
end
end Go.Proofs.Ytnnmbmgnpdcefaa.X
