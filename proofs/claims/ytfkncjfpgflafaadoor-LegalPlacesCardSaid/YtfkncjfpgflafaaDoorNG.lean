/- legal.rooms of a drawn floor. Plain. -/
import Derived.Test.YtfkncjfpgflafaaDoorNF
namespace Go.Proofs.YtfkncjfpgflafaaDoor.X
open Go Go.RowKit
set_option linter.unusedVariables false
set_option linter.unusedSimpArgs false
/-- A room: a piece of a row that no block meets; it may have been used up. -/
structure RoomOk (f : T_floor_Floor) (r : T_legal_room) : Prop where
  row : 0 ≤ r.frow ∧ r.frow < f.Rows
  lo : 0 ≤ r.Span.From
  ne : r.Span.From ≤ r.Span.To
  hi : r.Span.To ≤ f.Sites
  free : ∀ i : Int, 0 ≤ i → i < f.Blocks.length → (gt f.Blocks i).Row = r.frow → r.Span.To ≤ (gt f.Blocks i).From ∨ (gt f.Blocks i).To ≤ r.Span.From
def Apart (r s : T_legal_room) : Prop := r.frow = s.frow → r.Span.To ≤ s.Span.From ∨ s.Span.To ≤ r.Span.From
structure RoomsOk (f : T_floor_Floor) (l : List T_legal_room) : Prop where
  each : ∀ i : Int, 0 ≤ i → i < l.length → RoomOk f (gt l i)
  apart : ∀ i j : Int, 0 ≤ i → i < j → j < l.length → Apart (gt l i) (gt l j)
theorem rooms_ok {f : T_floor_Floor} (hf : FlN f) (hp : f.Ports = []) : Ok (P_legal_rooms f) (fun r => RoomsOk f r ∧ r.length ≤ 55) := by
  have a := hf.R
  unfold P_legal_rooms
  refine ok_bd (R := fun r => RoomsOk f r ∧ r.length ≤ 55) ?_ fun r hr => ok_some hr
  refine ok_lp (fun s => 0 ≤ s.2 ∧ s.2 ≤ f.Rows ∧ (s.1.length : Int) ≤ 11 * s.2 ∧ RoomsOk f s.1 ∧ ∀ i : Int, 0 ≤ i → i < s.1.length → (gt s.1 i).frow < s.2) (fun s => (f.Rows - s.2).toNat)
    ⟨by simp, by simp only; omega, by simp, ⟨fun i i0 i1 => by simp at i1; omega, fun i j i0 i1 j1 => by simp at j1; omega⟩, fun i i0 i1 => by simp at i1; omega⟩ (by simp only; omega) ?_
  rintro ⟨out, y⟩ ⟨y0, y1, l1, h1, h2⟩
  simp only at y0 y1 l1 h1 h2 ⊢
  unfold P_legal_rooms_L3
  dsimp only
  refine ok_ite (fun hlt => ?_) fun hge => ok_some ⟨h1, by omega⟩
  refine ok_bd (Free_ok hf hp y0 hlt) ?_
  rintro sp ⟨hs, hl⟩
  refine ok_bd (R := fun o => (o.length : Int) ≤ 11 * (y + 1) ∧ RoomsOk f o ∧ ∀ i : Int, 0 ≤ i → i < o.length → (gt o i).frow < y + 1) ?_ ?_
  · refine ok_lp (fun s => 0 ≤ s.2 ∧ s.2 ≤ sp.length ∧ (s.1.length : Int) = out.length + s.2 ∧ RoomsOk f s.1 ∧ ∀ i : Int, 0 ≤ i → i < s.1.length → (gt s.1 i).frow < y ∨ ((gt s.1 i).frow = y ∧ ∀ j : Int, s.2 ≤ j → j < sp.length → (gt s.1 i).Span.To ≤ (gt sp j).From)) (fun s => ((sp.length : Int) - s.2).toNat)
      ⟨by simp, by simp only; omega, by simp, h1, fun i i0 i1 => Or.inl (h2 i i0 i1)⟩ (by simp only; omega) ?_
    rintro ⟨o, z⟩ ⟨z0, z1, l2, h3, h4⟩
    simp only at z0 z1 l2 h3 h4 ⊢
    unfold P_legal_rooms_L6
    dsimp only
    refine ok_ite (fun hz => ?_) fun hz => ok_some ⟨by omega, h3, fun i i0 i1 => by rcases h4 i i0 i1 with q | q <;> omega⟩
    have g := hs.each z z0 hz
    refine ok_ck ⟨z0, hz⟩ (ok_lv (ok_lv (ok_ck (by simp only [apOk, List.length_append, List.length_singleton]; omega) (ok_ar (by omega) (ok_some ⟨⟨by simp only; omega, by simp only; omega, by simp only [List.length_append, List.length_singleton]; omega, ⟨fun i i0 i1 => ?_, fun i j i0 i1 j1 => ?_⟩, fun i i0 i1 => ?_⟩, by simp only; omega⟩)))))
    · simp only [List.length_append, List.length_singleton] at i1
      by_cases e : i = o.length
      · rw [gt_app_1 e]
        exact ⟨⟨y0, hlt⟩, g.lo, Int.le_of_lt g.ne, g.hi, g.free⟩
      · rw [gt_app_l (by omega)]; exact h3.each i i0 (by omega)
    · simp only [List.length_append, List.length_singleton] at j1
      rw [gt_app_l (xs := o) (i := i) (by omega)]
      by_cases e : j = o.length
      · rw [gt_app_1 e]
        intro hr
        simp only at hr ⊢
        rcases h4 i i0 (by omega) with q | ⟨q, q2⟩
        · omega
        · exact Or.inl (q2 z (Int.le_refl _) hz)
      · rw [gt_app_l (by omega)]; exact h3.apart i j i0 i1 (by omega)
    · simp only [List.length_append, List.length_singleton] at i1
      by_cases e : i = o.length
      · rw [gt_app_1 e]
        refine Or.inr ⟨rfl, fun j j0 j1 => ?_⟩
        simp only at j0
        exact hs.sep z j z0 (by omega) j1
      · rw [gt_app_l (by omega)]
        rcases h4 i i0 (by omega) with q | ⟨q, q2⟩
        · exact Or.inl q
        · exact Or.inr ⟨q, fun j j0 j1 => q2 j (by simp only at j0; omega) j1⟩
  rintro o ⟨o1, o2, o3⟩
  exact ok_ar (by omega) (ok_some ⟨⟨by simp only; omega, by simp only; omega, o1, o2, o3⟩, by simp only; omega⟩)
end Go.Proofs.YtfkncjfpgflafaaDoor.X
