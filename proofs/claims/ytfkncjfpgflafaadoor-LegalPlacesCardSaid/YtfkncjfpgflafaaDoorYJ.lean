/- Maps of one's own, whose keys are strings or numbers: made, looked up, written. Lemmas over any program. -/
import Derived.Test.YtfkncjfpgflafaaDoorYI
namespace Go.Proofs.YtfkncjfpgflafaaDoor.X
open Go Go.RowKit Go.Instr
set_option linter.unusedVariables false
set_option linter.unusedSimpArgs false
set_option linter.unusedSectionVars false
/-- What a hypothesis tells, told otherwise. -/
theorem emk {a b : Prop} (x : a) (h : a = b := by kernel_rfl) : b := Eq.mp h x
theorem sinj {α : Type} {a b : α} (h : some a = some b) : a = b := Option.some.inj h
section
variable {κ α : Type} [DecidableEq κ] {kf : κ → Value} {vf : α → Value}
/-- A map's entries, in the order of their births. -/
def ents (kf : κ → Value) (vf : α → Value) : List (κ × α) → Nat → List MapEntry
  | [], _ => []
  | (k, v) :: r, n => ⟨kf k, vf v, n⟩ :: ents kf vf r (n + 1)
def mapA (b : Nat) (kf : κ → Value) (vf : α → Value) (es : List (κ × α)) : Assn := blk b (.map ⟨ents kf vf es 0⟩ es.length)
structure KeyP (P : Program) (kt : TypeId) (kf : κ → Value) : Prop where
  now : ∃ d, P.underlying kt = some d ∧ ∀ a b, sameNow d (kf a) (kf b) = some (decide (a = b))
  chk : ∀ e n a w, (checkKey e (n + 1) kt (kf a)).run P w = .ok () w
  bits : ∀ n a, sameBits n (kf a) (kf a) = true
end
section
variable {P : Program} {n : Nat} {R : Env → World → Prop} {st : List It} {E : Env} {w0 w : World} {l : List Assn} {all : Array Oper} {rest : List Oper} {ty : TypeId} {pos : String} {af : Array Edge} {g : Option (Nat × Bool)} {x y z : Operand}
theorem bytes_eq (a b : ByteArray) : (a == b) = decide (a = b) := by
  have h : (a == b) = true ↔ a = b := by
    show (a.data == b.data) = true ↔ a = b
    rw [beq_iff_eq]
    exact ⟨fun h => ByteArray.ext h, fun h => by rw [h]⟩
  by_cases e : a = b
  · rw [decide_eq_true e]; exact h.2 e
  · rw [decide_eq_false e]; exact Bool.eq_false_iff.2 fun h' => e (h.1 h')
theorem KeyP.string {kt : TypeId} (h : P.underlying kt = some .string) : KeyP P kt Value.string :=
  ⟨⟨_, h, fun a b => by simp only [sameNow, bytes_eq]⟩, fun e n a w => by simp [checkKey, run_underlying h, pure, Sem.run], fun n a => by cases n <;> simp [sameBits, bytes_eq]⟩
theorem KeyP.int {kt : TypeId} {k : IntKind} (h : P.underlying kt = some (.int k)) : KeyP P kt (Value.int k) :=
  ⟨⟨_, h, fun a b => by simp only [sameNow, if_true]; rfl⟩, fun e n a w => by simp [checkKey, run_underlying h, pure, Sem.run], fun n a => by cases n <;> simp [sameBits]⟩
variable {κ α : Type} [DecidableEq κ] {kf : κ → Value} {vf : α → Value}
theorem St.map {b : Nat} {es : List (κ × α)} (hS : St w0 w (mapA b kf vf es :: l)) : (getObj b).run P w = .ok (.map ⟨ents kf vf es 0⟩ es.length) w := by
  have hb : w.heap[b]? = some (.map ⟨ents kf vf es 0⟩ es.length) := St.block hS
  simp [getObj, Sem.run, hb]
end
end Go.Proofs.YtfkncjfpgflafaaDoor.X
