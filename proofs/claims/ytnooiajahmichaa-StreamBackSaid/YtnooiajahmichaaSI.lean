/- stream.Encode, whole. Plain. -/
import Derived.Test.YtnooiajahmichaaSH
namespace Go.Proofs.Ytnooiajahmichaa.X
open Go Go.RowKit
set_option linter.unusedVariables false
/-- How many bytes of data a column has. -/
def colB (R T : Nat) : Nat := (R * (33 + 12 * T) + 7) / 8
def padBits (nI nO : Nat) : Nat := 8 + 13 * nI + (8 + 13 * nO)
def padB (nI nO : Nat) : Nat := (padBits nI nO + 7) / 8
/-- A header, and so many columns behind it. -/
structure Head (b : List Int) (R C T : Nat) : Prop where
  bytes : Bytes b
  len : 8 ≤ b.length
  part : PartAt b 0 0 6
  magic : rdB b 0 16 = 19799
  version : rdB b 16 8 = 1
  rows : rdB b 24 8 = R
  cols : rdB b 32 8 = C
  tracks : rdB b 40 8 = T
structure Col (b : List Int) (R T : Nat) (num : Int) (o : Nat) : Prop where
  part : PartAt b num o (o + colB R T : Nat)
  zero : ∀ q, 8 * o + R * (33 + 12 * T) ≤ q → q < 8 * (o + colB R T) → bitN b q = 0
theorem sameApp (b z : List Int) : Same b (b ++ z) (8 * b.length) := fun p hp => bitN_appL hp
theorem Head.app {b z : List Int} {R C T : Nat} (h : Head b R C T) (hz : Bytes z) : Head (b ++ z) R C T := by
  have hl := h.len
  have hs := sameApp b z
  exact ⟨h.bytes.app hz, by simp only [List.length_append]; omega, h.part.app (by omega) (by omega) (by omega), by rw [rdB_same hs (by omega)]; exact h.magic, by rw [rdB_same hs (by omega)]; exact h.version,
    by rw [rdB_same hs (by omega)]; exact h.rows, by rw [rdB_same hs (by omega)]; exact h.cols, by rw [rdB_same hs (by omega)]; exact h.tracks⟩
theorem Col.app {b z : List Int} {R T : Nat} {num : Int} {o : Nat} (h : Col b R T num o) (hl : o + colB R T + 2 ≤ b.length) : Col (b ++ z) R T num o :=
  ⟨h.part.app (by omega) (by omega) (by omega), fun q h0 h1 => by rw [bitN_appL (by omega)]; exact h.zero q h0 h1⟩
/-- What Encode returns. -/
structure Layout (b : List Int) (R C T nI nO : Nat) : Prop where
  head : Head b R C T
  len : b.length = 8 + C * (colB R T + 2) + (padB nI nO + 2)
  col : ∀ y, y < C → Col b R T (1 + y) (8 + y * (colB R T + 2))
  pad : PartAt b (1 + C) (8 + C * (colB R T + 2) : Nat) (8 + C * (colB R T + 2) + padB nI nO : Nat)
  padz : ∀ q, 8 * (8 + C * (colB R T + 2)) + padBits nI nO ≤ q → q < 8 * (8 + C * (colB R T + 2) + padB nI nO) → bitN b q = 0
  cI : rdB b (8 * (8 + C * (colB R T + 2))) 8 = nI
  cO : rdB b (8 * (8 + C * (colB R T + 2)) + (8 + 13 * nI)) 8 = nO
theorem Wr.len {b : List Int} {left : Int} {L : Nat} (h : Wr b left L) : b.length = (L + 7) / 8 := by
  have h1 := h.eq
  have h2 := h.lo
  have h3 := h.hi
  omega
end Go.Proofs.Ytnooiajahmichaa.X
