/- The sizes of chunks. Plain. -/
import Derived.Test.YtnooiajahmichaaPK
namespace Go.Proofs.Ytnooiajahmichaa.X
open Go Go.RowKit
set_option linter.unusedVariables false
theorem chunk_succ (n m y : Nat) (i : Int) : chunk n m (y + 1) i = chunk n m y i ++ (if (y : Int) * m / n = i then [(y : Int)] else []) := by
  unfold chunk
  rw [upto_succ, List.filter_append]
  congr 1
  by_cases hyi : (y : Int) * m / n = i
  · rw [if_pos hyi]; simp [hyi]
  · rw [if_neg hyi]; simp [hyi]
/-- When a number falls to chunk b. -/
theorem falls {n m y : Nat} {b : Int} (hn : 1 ≤ n) : (y : Int) * m / n = b ↔ b * n ≤ (y : Int) * m ∧ (y : Int) * m < b * n + n := by
  have hp : (0 : Int) < n := by omega
  constructor
  · rintro rfl
    have h1 := Int.ediv_mul_le ((y : Int) * m) (b := n) (by omega)
    have h2 := Int.lt_ediv_add_one_mul_self ((y : Int) * m) hp
    rw [Int.add_mul, Int.one_mul] at h2
    exact ⟨h1, h2⟩
  · rintro ⟨h1, h2⟩
    have a1 : b ≤ (y : Int) * m / n := (Int.le_ediv_iff_mul_le hp).2 h1
    have a2 : (y : Int) * m / n < b + 1 := Int.ediv_lt_of_lt_mul hp (by rw [Int.add_mul, Int.one_mul]; exact h2)
    omega
/-- A chunk holds one to eight numbers. -/
theorem chunk_size {n m b : Nat} (hn : 1 ≤ n) (hm : 1 ≤ m) (hmn : m ≤ n) (h8 : n ≤ 8 * m) (hb : b < m) : 1 ≤ (chunk n m n b).length ∧ (chunk n m n b).length ≤ 8 := by
  -- lo: the least number of the chunk
  obtain ⟨lo, hlo1, hlo2⟩ : ∃ lo : Nat, (b : Int) * n ≤ (lo : Int) * m ∧ (lo : Int) * m < b * n + m := by
    refine ⟨(b * n + m - 1) / m, ?_, ?_⟩
    · have := Nat.lt_div_mul_add (a := b * n + m - 1) (b := m) hm
      have h2 : b * n ≤ (b * n + m - 1) / m * m := by omega
      exact_mod_cast h2
    · have := Nat.div_mul_le_self (b * n + m - 1) m
      have h2 : (b * n + m - 1) / m * m < b * n + m := by omega
      exact_mod_cast h2
  have hbn : (b : Int) * n + n ≤ m * n := by
    have : ((b : Int) + 1) * n ≤ m * n := Int.mul_le_mul_of_nonneg_right (by omega) (by omega)
    rw [Int.add_mul, Int.one_mul] at this; exact this
  have hlon : lo < n := by
    have h1 : (lo : Int) * m < n * m := by rw [Int.mul_comm (n : Int)]; omega
    have := Int.lt_of_mul_lt_mul_right h1 (by omega)
    omega
  have key : ∀ y : Nat, (y ≤ lo → (chunk n m y b).length = 0) ∧ (lo < y → 1 ≤ (chunk n m y b).length) ∧ (lo ≤ y → (chunk n m y b).length ≤ y - lo) ∧ (chunk n m y b).length ≤ 8 := by
    intro y
    induction y with
    | zero => exact ⟨fun _ => rfl, fun h => by omega, fun _ => by simp [chunk, upto], by simp [chunk, upto]⟩
    | succ y ih =>
      obtain ⟨i1, i2, i3, i4⟩ := ih
      rw [chunk_succ, List.length_append]
      by_cases hf : (y : Int) * m / n = b
      · rw [if_pos hf, List.length_singleton]
        have hf := (falls hn).1 hf
        have hy : lo ≤ y := by
          apply Decidable.byContradiction
          intro hlt
          have : ((y : Int) + 1) * m ≤ lo * m := Int.mul_le_mul_of_nonneg_right (by omega) (by omega)
          rw [Int.add_mul, Int.one_mul] at this
          omega
        have hy8 : y < lo + 8 := by
          apply Decidable.byContradiction
          intro hge
          have : ((lo : Int) + 8) * m ≤ y * m := Int.mul_le_mul_of_nonneg_right (by omega) (by omega)
          rw [Int.add_mul] at this
          omega
        exact ⟨fun h => by omega, fun _ => by omega, fun _ => by have := i3 hy; omega, by have := i3 hy; omega⟩
      · rw [if_neg hf, List.length_nil]
        refine ⟨fun h => by have := i1 (by omega); omega, fun h => ?_, fun h => ?_, by omega⟩
        · by_cases e : y = lo
          · subst e; exact absurd ((falls hn).2 ⟨hlo1, by omega⟩) hf
          · have := i2 (by omega); omega
        · by_cases e : lo ≤ y
          · have := i3 e; omega
          · have := i1 (by omega); omega
  exact ⟨(key n).2.1 hlon, (key n).2.2.2⟩
end Go.Proofs.Ytnooiajahmichaa.X
