/- Plain programs: rules that carry what follows into the branches. -/
import Derived.Test.YtnooiajahmichaaYP
namespace Go.Proofs.Ytnooiajahmichaa.X
open Go Go.RowKit
set_option linter.unusedVariables false
section
variable {α β γ δ σ : Type} {Q : β → Prop}
theorem ok_bd_some {a : α} {k : α → Option β} (h : Ok (k a) Q) : Ok (bd (some a) k) Q := h
theorem ok_bd_ck {c : Prop} [Decidable c] {m : Option α} {k : α → Option β} (hc : c) (h : Ok (bd m k) Q) : Ok (bd (ck c m) k) Q := by unfold ck; rw [if_pos hc]; exact h
theorem ok_bd_ar {v : Int} {f : Int → Option α} {k : α → Option β} (hc : I64 v) (h : Ok (bd (f v) k) Q) : Ok (bd (ar v f) k) Q := by unfold ar; rw [if_pos hc]; exact h
theorem ok_bd_lv {v : δ} {f : δ → Option α} {k : α → Option β} (h : Ok (bd (f v) k) Q) : Ok (bd (lv v f) k) Q := h
theorem ok_bd_ite {c : Prop} [Decidable c] {a b : Option α} {k : α → Option β} (ha : c → Ok (bd a k) Q) (hb : ¬ c → Ok (bd b k) Q) : Ok (bd (if c then a else b) k) Q := by
  by_cases hc : c
  · rw [if_pos hc]; exact ha hc
  · rw [if_neg hc]; exact hb hc
theorem ok_bd_bd {m : Option δ} {f : δ → Option α} {k : α → Option β} (h : Ok (bd m fun x => bd (f x) k) Q) : Ok (bd (bd m f) k) Q := by
  cases m with
  | none => exact h
  | some x => exact h
theorem ok_bd_gd [Inhabited α] {q : Bool} {m : Option α} {k : α → Option β} (ht : q = true → Ok (bd m k) Q) (hf : q = false → Ok (k default) Q) : Ok (bd (gd q m) k) Q := by
  cases q with
  | true => exact ht rfl
  | false => exact hf rfl
theorem ok_bs_inl {a : α} {k2 : γ → Option β} {k : α → Option β} (h : Ok (k a) Q) : Ok (bs (some (Sum.inl a)) k2 k) Q := h
theorem ok_bs_inr {a : γ} {k2 : γ → Option β} {k : α → Option β} (h : Ok (k2 a) Q) : Ok (bs (some (Sum.inr a)) k2 k) Q := h
theorem ok_bs_ck {c : Prop} [Decidable c] {m : Option (α ⊕ γ)} {k2 : γ → Option β} {k : α → Option β} (hc : c) (h : Ok (bs m k2 k) Q) : Ok (bs (ck c m) k2 k) Q := by unfold ck; rw [if_pos hc]; exact h
theorem ok_bs_ar {v : Int} {f : Int → Option (α ⊕ γ)} {k2 : γ → Option β} {k : α → Option β} (hc : I64 v) (h : Ok (bs (f v) k2 k) Q) : Ok (bs (ar v f) k2 k) Q := by unfold ar; rw [if_pos hc]; exact h
theorem ok_bs_lv {v : δ} {f : δ → Option (α ⊕ γ)} {k2 : γ → Option β} {k : α → Option β} (h : Ok (bs (f v) k2 k) Q) : Ok (bs (lv v f) k2 k) Q := h
theorem ok_bs_ite {c : Prop} [Decidable c] {a b : Option (α ⊕ γ)} {k2 : γ → Option β} {k : α → Option β} (ha : c → Ok (bs a k2 k) Q) (hb : ¬ c → Ok (bs b k2 k) Q) : Ok (bs (if c then a else b) k2 k) Q := by
  by_cases hc : c
  · rw [if_pos hc]; exact ha hc
  · rw [if_neg hc]; exact hb hc
end
end Go.Proofs.Ytnooiajahmichaa.X
