/- The executor, regions that draw their order: all operations quiet in a class of worlds; or a quiet head and a tail that comes up in one order alone. Lemmas over any program. -/
import Derived.Test.YtkenpbnpemjbhaaDoorXB
import Derived.StillTail
namespace Go.Proofs.YtkenpbnpemjbhaaDoor.X
open Go Go.RowKit
set_option linter.unusedVariables false
set_option linter.unusedSimpArgs false

section
variable {P : Program} {ops : Array Oper} {md : Region.Mode} {C : World → Prop}

end

/-! ### In the executor -/
/-- The quiet part of a region that draws: behind it, in every world of the class, T. -/
def Qt (P : Program) (n : Nat) (C : World → Prop) (T : Env → World → Prop) (all : Array Oper) (rest : List Oper) (E : Env) : Prop :=
  ∀ a, Is a E n → wpQuiet P all C (fun a' => ∃ E', Is a' E' n ∧ ∀ w', C w' → T E' w') rest a

section
variable {P : Program} {n : Nat} {R : Env → World → Prop} {st : List It} {E : Env} {w : World} {all : Array Oper} {rest : List Oper} {o : Oper} {C : World → Prop} {T : Env → World → Prop} {l : List Oper}

theorem x_quiet {id : Nat} (C : World → Prop) (hm : P.follows .mixedOrders = true) (hB : Region.lexB .any l.toArray = true) (hC : C { w with drawn := w.drawn + 1 })
    (h : Qt P n C (S P n R st) l.toArray l E) : S P n R (.code (.region id l.toArray true) :: st) E w := by
  intro a hA
  refine wp_region_quiet hm hB hC ?_
  have h1 := h a hA
  have mono : ∀ (l : List Oper) (a : Act) {Q Q' : Act → Prop}, (∀ a, Q a → Q' a) → wpQuiet P l.toArray C Q l a → wpQuiet P l.toArray C Q' l a := by
    intro l a Q Q' hQ hh
    suffices ∀ (rest : List Oper) (a : Act), wpQuiet P l.toArray C Q rest a → wpQuiet P l.toArray C Q' rest a from this l a hh
    intro rest
    induction rest with
    | nil => exact fun a h => hQ a h
    | cons o rest ih =>
      intro a h
      unfold wpQuiet at h ⊢
      split
      · rename_i hw; rw [if_pos hw] at h; exact Oper.quiet_mono ih h
      · rename_i hw; rw [if_neg hw] at h; exact ih _ h
  refine mono l a ?_ (by simpa using h1)
  rintro a' ⟨E', hA', hT⟩ w' hw'
  exact ⟨E', hA', hT w' hw'⟩

theorem q_done (h : ∀ w', C w' → T E w') : Qt P n C T all [] E := fun a hA => wpQuiet_nil ⟨E, hA, h⟩
theorem q_at {v : Value} (d : Nat) (hr : ∀ w', C w' → At P E o w' v) (h' : Qt P n C T all rest (E.set d v)) (hg : o.guard = none := by rfl) (hdd : o.dst = some d := by rfl) (hd' : Nat.blt d n = true := by rfl) : Qt P n C T all (o :: rest) E := by
  have hd : fits o.dst n = true := by rw [hdd]; exact hd'
  have h : Qt P n C T all rest (E.ins o.dst v) := by rw [hdd]; exact h'
  intro a hA
  unfold wpQuiet
  rw [if_pos (by simp [Region.wanted, hg])]
  refine ⟨v, fun w' hw' => ?_, h _ (hA.put (fits_spec hd) v)⟩
  have := hr w' hw'
  unfold At at this
  unfold Oper.quietAt
  rw [hA.eval, this]
  exact ⟨rfl, rfl⟩
theorem q_pure {v : Value} (d : Nat) (hr : Yl P E o v) (h : Qt P n C T all rest (E.set d v)) (hg : o.guard = none := by rfl) (hdd : o.dst = some d := by rfl) (hd : Nat.blt d n = true := by rfl) : Qt P n C T all (o :: rest) E :=
  q_at d (fun w' _ => hr w') h hg hdd hd
end
end Go.Proofs.YtkenpbnpemjbhaaDoor.X
