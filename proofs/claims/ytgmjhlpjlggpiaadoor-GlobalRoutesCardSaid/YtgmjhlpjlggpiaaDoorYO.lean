/- Maps once more: their length; ranges over maps of slices that are never written again; literal slices of functions; the end of a slice of one's own made zero. Lemmas over any program. -/
import Derived.Test.YtgmjhlpjlggpiaaDoorYU
namespace Go.Proofs.YtgmjhlpjlggpiaaDoor.X
open Go Go.RowKit Go.Instr
set_option linter.unusedVariables false
set_option linter.unusedSimpArgs false
set_option linter.unusedSectionVars false
section
variable {w0 w : World} {l : List Assn} {ρ ρ' : Heap}
end
section
variable {P : Program} {n : Nat} {Rr : Env → World → Prop} {st : List It} {E : Env} {w0 w : World} {l : List Assn} {all : Array Oper} {rest : List Oper} {ty t : TypeId} {pos : String} {af : Array Edge} {g : Option (Nat × Bool)} {x y z : Operand} {dd : Option Nat}
variable {κ α : Type} [DecidableEq κ] {kf : κ → Value} {vf : α → Value}
/-- A struct of whole numbers, told by a list one to one: what == needs. -/
structure EqI {σ : Type} (P : Program) (t : TypeId) (fl : σ → List Int) (m : Nat) : Prop where
 B : intsB P 9 t = some (true, m)
 g : P.eqGuardType P.depth t = false
 l : ∀ a, (fl a).length = m
 i : ∀ a b, fl a = fl b → a = b
theorem EqI.eq {σ : Type} [DecidableEq σ] {fl : σ → List Int} {m : Nat} (h : EqI P t fl m) (a b : σ) (w : World) : (Op.equal t (.agg ⟨(fl a).map (Value.int .i64)⟩) (.agg ⟨(fl b).map (Value.int .i64)⟩)).run P w = .ok (decide (a = b)) w := by
 have := equal_ints h.B 9991 (fl a) (fl b) w (h.l a) (h.l b)
 simp only [iv, if_true] at this
 rw [Op.equal, Op.maxDepth, this]
 congr 1
 exact decide_eq_decide.2 ⟨h.i a b, fun h => by rw [h]⟩
variable [Inhabited κ] [Inhabited α] {R : Rp α} {ρ : Heap}
theorem RdM.at {es : List (κ × List α)} {hs : List Hd} (h : RdM R ρ es hs) {i : Nat} (hi : i < es.length) : ∃ A n c, gt hs i = ⟨A, n, c⟩ ∧ RdS R ρ A n c (gt es i).2 := by
 obtain ⟨A, n, c, e, hr⟩ := repSl_at (i := i) (xs := (gt es i).2) h.2 (by rw [gt_nth hi]; simp [hi])
 have hl := h.1
 rw [List.getElem?_eq_getElem (by omega), Option.some.injEq] at e
 exact ⟨A, n, c, by rw [gt_nth (by omega), e], hr⟩
variable {b : Nat} {es : List (κ × List α)} {hs : List Hd}
end
section
variable {P : Program} {n : Nat} {Rr : Env → World → Prop} {st : List It} {E : Env} {w0 w : World} {l : List Assn} {all : Array Oper} {rest : List Oper} {ty t e : TypeId} {pos : String} {af : Array Edge} {x y a : Operand}
variable {α : Type} [Inhabited α] {Q : Rp α} {ρ : Heap} {A : Option Addr} {len cap by_ : Nat} {xs zs : List α} {cs : List Value} {lo : Int}
end
end Go.Proofs.YtgmjhlpjlggpiaaDoor.X
