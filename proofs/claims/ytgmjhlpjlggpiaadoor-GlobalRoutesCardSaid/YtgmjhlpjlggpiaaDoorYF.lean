/- What lies in memory, for regions that draw their order and act: bundles, what is never written again told in parts. Plain lemmas over worlds. -/
import Derived.Test.YtgmjhlpjlggpiaaDoorYE
namespace Go.Proofs.YtgmjhlpjlggpiaaDoor.X
open Go Go.RowKit
set_option linter.unusedVariables false
set_option linter.unusedSimpArgs false
section
variable {w0 w : World} {l : List Assn} {A B : Assn}
def pureA (p : Prop) (A : Assn) : Assn := ⟨fun h F => p ∧ A.holds h F, fun ⟨hp, h⟩ hs => ⟨hp, A.loc h hs⟩⟩
def sepL : List Assn → Assn
 | [] => emp
 | a :: r => sep a (sepL r)
theorem St.pureI {p : Prop} (hp : p) (h : St w0 w (A :: l)) : St w0 w (pureA p A :: l) := h.tell fun F hF => ⟨hp, hF⟩
theorem St.pureE {p : Prop} (h : St w0 w (pureA p A :: l)) : p ∧ St w0 w (A :: l) := by
 refine ⟨?_, h.tell fun F hF => hF.2⟩
 obtain ⟨F, hF, _⟩ := h.head
 exact hF.1
theorem St.sepI : ∀ {L : List Assn} {l : List Assn}, St w0 w (L ++ l) → St w0 w (sepL L :: l)
 | [], l, h => St.emp h
 | a :: r, l, h => by
  have h1 : St w0 w (r ++ (a :: l)) := h.perm (List.perm_middle).symm
  have h2 : St w0 w (sepL r :: a :: l) := St.sepI h1
  exact (h2.perm (.swap _ _ _)).join
theorem St.sepE : ∀ {L : List Assn} {l : List Assn}, St w0 w (sepL L :: l) → St w0 w (L ++ l)
 | [], l, h => h.drop
 | a :: r, l, h => by
  have h1 : St w0 w (sepL r :: a :: l) := h.part.perm (.swap _ _ _)
  exact (St.sepE h1).perm List.perm_middle
/-- A bundle: some things, facts about them, what lies in memory of them. -/
def bunA {α : Type} (Φ : α → Prop) (L : α → List Assn) : Assn := ex fun x => pureA (Φ x) (sepL (L x))
theorem St.bun {α : Type} {Φ : α → Prop} {L : α → List Assn} (x : α) (hp : Φ x) (h : St w0 w (L x ++ l)) : St w0 w (bunA Φ L :: l) := St.ex x (St.pureI hp (St.sepI h))
theorem St.unbun {α : Type} {Φ : α → Prop} {L : α → List Assn} (h : St w0 w (bunA Φ L :: l)) : ∃ x, Φ x ∧ St w0 w (L x ++ l) := by
 obtain ⟨x, hx⟩ := St.unex h
 obtain ⟨hp, hS⟩ := St.pureE hx
 exact ⟨x, hp, St.sepE hS⟩
end
end Go.Proofs.YtgmjhlpjlggpiaaDoor.X
