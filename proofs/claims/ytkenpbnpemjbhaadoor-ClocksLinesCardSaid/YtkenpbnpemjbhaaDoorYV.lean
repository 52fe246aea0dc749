/- Two plain programs side by side. Rules, one for each word; no program in sight. -/
import Derived.Test.YtkenpbnpemjbhaaDoorYQ
namespace Go.Proofs.YtkenpbnpemjbhaaDoor.X
open Go Go.RowKit
set_option linter.unusedVariables false
section
variable {α β γ δ σ τ : Type}
def Ok2 (m1 : Option α) (m2 : Option β) (Q : α → β → Prop) : Prop := ∃ x y, m1 = some x ∧ m2 = some y ∧ Q x y
theorem Ok2.mono {m1 : Option α} {m2 : Option β} {Q Q' : α → β → Prop} (h : Ok2 m1 m2 Q) (hQ : ∀ x y, Q x y → Q' x y) : Ok2 m1 m2 Q' := by
  obtain ⟨x, y, h1, h2, h3⟩ := h; exact ⟨x, y, h1, h2, hQ x y h3⟩
end
section
variable {α β γ σ : Type}
/-- Whatever it answers, Q holds of it. -/
def Pt (m : Option α) (Q : α → Prop) : Prop := ∀ r, m = some r → Q r
theorem Pt.mono {m : Option α} {Q Q' : α → Prop} (h : Pt m Q) (hQ : ∀ r, Q r → Q' r) : Pt m Q' := fun r e => hQ r (h r e)
theorem Ok.pt {m : Option α} {Q R : α → Prop} (h : Ok m Q) (hp : Pt m R) : Ok m (fun r => Q r ∧ R r) := by
  obtain ⟨r, e, hq⟩ := h; exact ⟨r, e, hq, hp r e⟩
end
end Go.Proofs.YtkenpbnpemjbhaaDoor.X
