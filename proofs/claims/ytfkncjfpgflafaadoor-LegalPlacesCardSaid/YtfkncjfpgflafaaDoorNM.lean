/- tight's search: the first room that is wide enough. Plain. -/
import Derived.Test.YtfkncjfpgflafaaDoorNL
namespace Go.Proofs.YtfkncjfpgflafaaDoor.X
open Go Go.RowKit
set_option linter.unusedVariables false
set_option linter.unusedSimpArgs false
theorem first_ok {f : T_floor_Floor} (hf : FlN f) {area : List Int} {free : List T_legal_room} (hr : RoomsOk f free) (hl : free.length ≤ 1000) {c : Int} (c0 : 0 ≤ c) (c1 : c < area.length) :
    Ok (P_slices_IndexFunc_legal_room_legal_room free area c) (fun r => (r = -1 ∧ ∀ k : Int, 0 ≤ k → k < free.length → (gt free k).Span.To - (gt free k).Span.From < gt area c) ∨ (0 ≤ r ∧ r < free.length ∧ gt area c ≤ (gt free r).Span.To - (gt free r).Span.From)) := by
  have b := hf.S
  unfold P_slices_IndexFunc_legal_room_legal_room
  refine ok_bs (R := fun o => (∀ u, o = Sum.inl u → ∀ k : Int, 0 ≤ k → k < free.length → (gt free k).Span.To - (gt free k).Span.From < gt area c) ∧ ∀ r, o = Sum.inr r → 0 ≤ r ∧ r < free.length ∧ gt area c ≤ (gt free r).Span.To - (gt free r).Span.From) ?_ (fun u h => ok_some (Or.inl ⟨rfl, h.1 u rfl⟩)) (fun r h => ok_some (Or.inr (h.2 r rfl)))
  refine ok_lp (fun y => 0 ≤ y ∧ y ≤ free.length ∧ ∀ k : Int, 0 ≤ k → k < y → (gt free k).Span.To - (gt free k).Span.From < gt area c) (fun y => ((free.length : Int) - y).toNat) ⟨by omega, by omega, fun k k0 k1 => by omega⟩ (by omega) ?_
  rintro y ⟨y0, y1, h⟩
  unfold P_slices_IndexFunc_legal_room_legal_room_L2
  refine ok_ite (fun hlt => ?_) fun hge => ok_some ⟨fun u _ k k0 k1 => h k k0 (by omega), fun r e => (by cases e)⟩
  have g := hr.each y y0 hlt
  have g1 := g.lo; have g2 := g.ne; have g3 := g.hi
  refine ok_ck ⟨y0, hlt⟩ (ok_lv (ok_bd (R := fun q => q = decide (gt area c ≤ (gt free y).Span.To - (gt free y).Span.From)) ?_ ?_))
  · unfold P_legal_tight_2
    exact ok_ar (by omega) (ok_ck ⟨c0, c1⟩ (ok_lv (ok_some rfl)))
  rintro _ rfl
  refine ok_ite (fun hq => ok_some ⟨fun u e => (by cases e), fun r e => ?_⟩) fun hq => ok_ar (by omega) (ok_some ⟨⟨by omega, by omega, fun k k0 k1 => ?_⟩, by omega⟩)
  · cases e
    exact ⟨y0, hlt, of_decide_eq_true hq⟩
  · have hq' : ¬ gt area c ≤ (gt free y).Span.To - (gt free y).Span.From := fun e => hq (decide_eq_true e)
    by_cases e : k = y
    · rw [e]; omega
    · exact h k k0 (by omega)
end Go.Proofs.YtfkncjfpgflafaaDoor.X
