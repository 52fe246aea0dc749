/- Orders: lists that hold each number below n once; exchanges keep them. Sorting makes exchanges alone. Plain. -/
import Derived.Test.YtfkncjfpgflafaaDoorYQ
import Derived.Test.YtfkncjfpgflafaaDoorGA
namespace Go.Proofs.YtfkncjfpgflafaaDoor.X
open Go Go.RowKit
set_option linter.unusedVariables false
set_option linter.unusedSimpArgs false
/-- Each number below n stands once in d. -/
structure Ord (n : Nat) (d : List Int) : Prop where
  len : d.length = n
  rng : ∀ i : Int, 0 ≤ i → i < n → 0 ≤ gt d i ∧ gt d i < n
  inj : ∀ i j : Int, 0 ≤ i → i < n → 0 ≤ j → j < n → gt d i = gt d j → i = j
  sur : ∀ c : Int, 0 ≤ c → c < n → ∃ i : Int, 0 ≤ i ∧ i < n ∧ gt d i = c
theorem gt_swap {n : Nat} {d : List Int} (hl : d.length = n) {i j : Int} (i0 : 0 ≤ i) (i1 : i < n) (j0 : 0 ≤ j) (j1 : j < n) {k : Int} (k0 : 0 ≤ k) : gt (stt (stt d i (gt d j)) j (gt d i)) k = if k = j then gt d i else if k = i then gt d j else gt d k := by
  rw [gt_stt _ _ ⟨j0, by rw [stt_length]; omega⟩ k0, gt_stt _ _ ⟨i0, by omega⟩ k0]
theorem Ord.swap {n : Nat} {d : List Int} (h : Ord n d) {i j : Int} (i0 : 0 ≤ i) (i1 : i < n) (j0 : 0 ≤ j) (j1 : j < n) : Ord n (stt (stt d i (gt d j)) j (gt d i)) where
  len := by rw [stt_length, stt_length]; exact h.len
  rng k k0 k1 := by
    rw [gt_swap h.len i0 i1 j0 j1 k0]
    split
    · exact h.rng i i0 i1
    · split
      · exact h.rng j j0 j1
      · exact h.rng k k0 k1
  inj a b a0 a1 b0 b1 e := by
    rw [gt_swap h.len i0 i1 j0 j1 a0, gt_swap h.len i0 i1 j0 j1 b0] at e
    split at e <;> split at e <;> (try split at e) <;> (try split at e) <;> (try omega)
    all_goals first
      | (have := h.inj _ _ i0 i1 j0 j1 e; omega)
      | (have := h.inj _ _ j0 j1 i0 i1 e; omega)
      | (have := h.inj _ _ i0 i1 b0 b1 e; omega)
      | (have := h.inj _ _ j0 j1 b0 b1 e; omega)
      | (have := h.inj _ _ a0 a1 i0 i1 e; omega)
      | (have := h.inj _ _ a0 a1 j0 j1 e; omega)
      | (have := h.inj _ _ a0 a1 b0 b1 e; omega)
  sur c c0 c1 := by
    obtain ⟨k, k0, k1, e⟩ := h.sur c c0 c1
    by_cases q : k = i
    · exact ⟨j, j0, j1, by rw [gt_swap h.len i0 i1 j0 j1 j0, if_pos rfl, ← q]; exact e⟩
    · by_cases r : k = j
      · refine ⟨i, i0, i1, ?_⟩
        rw [gt_swap h.len i0 i1 j0 j1 i0]
        by_cases s : i = j
        · omega
        · rw [if_neg s, if_pos rfl, ← r]; exact e
      · exact ⟨k, k0, k1, by rw [gt_swap h.len i0 i1 j0 j1 k0, if_neg r, if_neg q]; exact e⟩
end Go.Proofs.YtfkncjfpgflafaaDoor.X
