/- Rooms that are cut, and the sites cut out of them. Plain. -/
import Derived.Test.YtfkncjfpgflafaaDoorNI
namespace Go.Proofs.YtfkncjfpgflafaaDoor.X
open Go Go.RowKit
set_option linter.unusedVariables false
set_option linter.unusedSimpArgs false
/-- A piece of a room. -/
structure Piece (r s : T_legal_room) : Prop where
  row : r.frow = s.frow
  lo : s.Span.From ≤ r.Span.From
  hi : r.Span.To ≤ s.Span.To
theorem Piece.refl (r : T_legal_room) : Piece r r := ⟨rfl, Int.le_refl _, Int.le_refl _⟩
theorem Apart.piece {r s r' s' : T_legal_room} (h : Apart r s) (a : Piece r' r) (b : Piece s' s) : Apart r' s' := by
  intro e
  have h' := h (by rw [← a.row, ← b.row]; exact e)
  have a1 := a.lo; have a2 := a.hi; have b1 := b.lo; have b2 := b.hi
  omega
theorem Apart.symm {r s : T_legal_room} (h : Apart r s) : Apart s r := fun e => (h e.symm).symm
theorem RoomOk.piece {f : T_floor_Floor} {r s : T_legal_room} (h : RoomOk f s) (p : Piece r s) (ne : r.Span.From ≤ r.Span.To) : RoomOk f r := by
  have a := h.row; have b := h.lo; have c := h.hi; have d := p.lo; have e := p.hi
  refine ⟨by rw [p.row]; exact a, by omega, ne, by omega, fun i i0 i1 hr => ?_⟩
  have := h.free i i0 i1 (by rw [← p.row]; exact hr)
  omega
theorem RoomsOk.apart' {f : T_floor_Floor} {l : List T_legal_room} (h : RoomsOk f l) {i j : Int} (i0 : 0 ≤ i) (i1 : i < l.length) (j0 : 0 ≤ j) (j1 : j < l.length) (hne : i ≠ j) : Apart (gt l i) (gt l j) := by
  by_cases q : i < j
  · exact h.apart i j i0 q j1
  · exact (h.apart j i j0 (by omega) i1).symm
/-- The sites that the first y cells of an order have, apart from all rooms. -/
structure Cut (f : T_floor_Floor) (area ord : List Int) (y : Int) (free : List T_legal_room) (out : List T_floor_Site) : Prop where
  each : ∀ j : Int, 0 ≤ j → j < y → SiteOk f (gt area (gt ord j)) (gt out (gt ord j))
  apart : ∀ i j : Int, 0 ≤ i → i < j → j < y → (gt out (gt ord i)).Row = (gt out (gt ord j)).Row → (gt out (gt ord i)).At + gt area (gt ord i) ≤ (gt out (gt ord j)).At ∨ (gt out (gt ord j)).At + gt area (gt ord j) ≤ (gt out (gt ord i)).At
  rooms : ∀ j k : Int, 0 ≤ j → j < y → 0 ≤ k → k < free.length → (gt free k).frow = (gt out (gt ord j)).Row → (gt out (gt ord j)).At + gt area (gt ord j) ≤ (gt free k).Span.From ∨ (gt free k).Span.To ≤ (gt out (gt ord j)).At
/-- One more cell: it lies in a room, and what is left of the rooms are pieces of rooms apart from it. -/
theorem Cut.step {f : T_floor_Floor} {area ord : List Int} {n : Nat} (ho : Ord n ord) {y : Int} (y0 : 0 ≤ y) (y1 : y < n) {free free' : List T_legal_room} {out : List T_floor_Site} (hl : out.length = n) (h : Cut f area ord y free out) (hr : RoomsOk f free) {b at_ : Int} (b0 : 0 ≤ b) (b1 : b < free.length)
    (ha : 1 ≤ gt area (gt ord y) ∧ gt area (gt ord y) ≤ 40) (h0 : (gt free b).Span.From ≤ at_) (h1 : at_ + gt area (gt ord y) ≤ (gt free b).Span.To)
    (hp : ∀ k : Int, 0 ≤ k → k < free'.length → (∃ o : Int, 0 ≤ o ∧ o < free.length ∧ o ≠ b ∧ Piece (gt free' k) (gt free o)) ∨ (Piece (gt free' k) (gt free b) ∧ (at_ + gt area (gt ord y) ≤ (gt free' k).Span.From ∨ (gt free' k).Span.To ≤ at_))) :
    Cut f area ord (y + 1) free' (stt out (gt ord y) ⟨(gt free b).frow, at_⟩) := by
  have oy := ho.rng y y0 y1
  have hb := hr.each b b0 b1
  have e : ∀ j : Int, 0 ≤ j → j < y + 1 → gt (stt out (gt ord y) ⟨(gt free b).frow, at_⟩) (gt ord j) = if j = y then ⟨(gt free b).frow, at_⟩ else gt out (gt ord j) := fun j j0 j1 => by
    have oj := ho.rng j j0 (by omega)
    rw [gt_stt _ _ ⟨oy.1, by omega⟩ oj.1]
    by_cases q : j = y
    · rw [if_pos q, if_pos (by rw [q])]
    · rw [if_neg q, if_neg fun e => q (ho.inj j y j0 (by omega) y0 y1 e)]
  have g1 := hb.lo; have g2 := hb.hi
  refine ⟨fun j j0 j1 => ?_, fun i j i0 ij j1 hrow => ?_, fun j k j0 j1 k0 k1 hrow => ?_⟩
  · rw [e j j0 j1]
    by_cases q : j = y
    · rw [if_pos q, q]
      refine ⟨ha, hb.row, by simp only; omega, by simp only; omega, fun i i0 i1 hr => ?_⟩
      have := hb.free i i0 i1 hr
      simp only
      omega
    · rw [if_neg q]; exact h.each j j0 (by omega)
  · rw [e i i0 (by omega), e j (by omega) j1] at hrow ⊢
    rw [if_neg (by omega)] at hrow ⊢
    by_cases q : j = y
    · rw [if_pos q] at hrow ⊢
      rw [q]
      simp only at hrow ⊢
      have := h.rooms i b i0 (by omega) b0 b1 hrow.symm
      omega
    · rw [if_neg q] at hrow ⊢
      exact h.apart i j i0 ij (by omega) hrow
  · rw [e j j0 j1] at hrow ⊢
    by_cases q : j = y
    · rw [if_pos q] at hrow ⊢
      rw [q]
      simp only at hrow ⊢
      rcases hp k k0 k1 with ⟨o, o0, o1, on, p⟩ | ⟨p, d⟩
      · have := hr.apart' o0 o1 b0 b1 on (by rw [← p.row]; exact hrow)
        have := p.lo; have := p.hi
        omega
      · exact d
    · rw [if_neg q] at hrow ⊢
      have : ∃ o : Int, 0 ≤ o ∧ o < free.length ∧ Piece (gt free' k) (gt free o) := by
        rcases hp k k0 k1 with ⟨o, o0, o1, -, p⟩ | ⟨p, -⟩
        · exact ⟨o, o0, o1, p⟩
        · exact ⟨b, b0, b1, p⟩
      obtain ⟨o, o0, o1, p⟩ := this
      have r := h.rooms j o j0 (by omega) o0 o1 (by rw [← p.row]; exact hrow)
      have := p.lo; have := p.hi
      omega
end Go.Proofs.YtfkncjfpgflafaaDoor.X
