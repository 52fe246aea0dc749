/- Plain programs: rules that carry what follows into the branches. -/
import Derived.Test.YtlolchgeedegdaaDoorYP
namespace Go.Proofs.YtlolchgeedegdaaDoor.X
open Go Go.RowKit
set_option linter.unusedVariables false
section
variable {α β γ δ σ : Type} {Q : β → Prop}
theorem ok_bd_some {a : α} {k : α → Option β} (h : Ok (k a) Q) : Ok (bd (some a) k) Q := h
theorem ok_bd_ar {v : Int} {f : Int → Option α} {k : α → Option β} (hc : I64 v) (h : Ok (bd (f v) k) Q) : Ok (bd (ar v f) k) Q := by unfold ar; rw [if_pos hc]; exact h
theorem ok_bd_ite {c : Prop} [Decidable c] {a b : Option α} {k : α → Option β} (ha : c → Ok (bd a k) Q) (hb : ¬ c → Ok (bd b k) Q) : Ok (bd (if c then a else b) k) Q := by
  by_cases hc : c
  · rw [if_pos hc]; exact ha hc
  · rw [if_neg hc]; exact hb hc
theorem ok_bd_bd {m : Option δ} {f : δ → Option α} {k : α → Option β} (h : Ok (bd m fun x => bd (f x) k) Q) : Ok (bd (bd m f) k) Q := by
  cases m with
  | none => exact h
  | some x => exact h
end
end Go.Proofs.YtlolchgeedegdaaDoor.X
