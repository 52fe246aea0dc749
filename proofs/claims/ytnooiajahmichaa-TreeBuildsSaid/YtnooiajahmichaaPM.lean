/- How many things a buffer drives: counts. Plain. -/
import Derived.Test.YtnooiajahmichaaPL
import Derived.Test.YtnooiajahmichaaPD
namespace Go.Proofs.Ytnooiajahmichaa.X
open Go Go.RowKit
set_option linter.unusedVariables false
/-- How often b stands in xs. -/
def many (xs : List Int) (b : Int) : Nat := (xs.filter fun x => decide (x = b)).length
theorem many_app (xs ys : List Int) (b : Int) : many (xs ++ ys) b = many xs b + many ys b := by simp [many]
theorem many_rep (k : Nat) (x b : Int) : many (List.replicate k x) b = if x = b then k else 0 := by
  unfold many
  by_cases h : x = b
  · rw [if_pos h]; subst h; simp
  · rw [if_neg h]; simp [h]
theorem many_perm {xs ys : List Int} (h : xs.Perm ys) (b : Int) : many xs b = many ys b := (h.filter _).length_eq
theorem many_chunk {n m : Nat} (f b : Int) : many ((upto n).map fun x => f + x * m / n) b = (chunk n m n (b - f)).length := by
  unfold many chunk
  rw [List.filter_map, List.length_map]
  congr 2
  funext x
  simp only [Function.comp]
  rw [decide_eq_decide]; omega
theorem chunk_none {n m : Nat} (hn : 1 ≤ n) (hm1 : 1 ≤ m) {b : Int} (h : b < 0 ∨ m ≤ b) : chunk n m n b = [] := by
  unfold chunk
  rw [List.filter_eq_nil_iff]
  intro x hx
  have hm := upto_mem hx
  obtain ⟨y, rfl⟩ := Int.eq_ofNat_of_zero_le hm.1
  simp only [decide_eq_true_eq]
  intro hf
  have hf := (falls hn).1 hf
  have h0 : 0 ≤ (y : Int) * m := Int.mul_nonneg (by omega) (by omega)
  rcases h with h | h
  · have : (b + 1) * n ≤ 0 * n := Int.mul_le_mul_of_nonneg_right (by omega) (by omega)
    rw [Int.add_mul] at this; omega
  · have h1 : (m : Int) * n ≤ b * n := Int.mul_le_mul_of_nonneg_right h (by omega)
    have h2 : (y : Int) * m < n * m := Int.mul_lt_mul_of_pos_right hm.2 (by omega)
    rw [Int.mul_comm (n : Int)] at h2
    omega
theorem upto_gt {k : Nat} {x : Int} (h : inb x k) : gt (upto k) x = x := by
  obtain ⟨y, rfl⟩ := Int.eq_ofNat_of_zero_le h.1
  have : y < k := by have := h.2; omega
  simp [gt, upto, this]
/-- A list, told by its elements. -/
theorem list_upto (xs : List Int) : xs = (upto xs.length).map (gt xs) := by
  refine ext_gt (by simp [upto_length]) fun j j0 j1 => ?_
  obtain ⟨y, rfl⟩ := Int.eq_ofNat_of_zero_le j0
  have hy : y < xs.length := by omega
  simp [gt, upto, hy]
theorem kids_many (xs : List Int) (b : Int) : (kids xs b xs.length).length = many xs b := by
  have h : ∀ k, (kids xs b k).length = many ((upto k).map (gt xs)) b := by
    intro k
    induction k with
    | zero => rfl
    | succ k ih =>
      simp only [kids, upto_succ, List.map_append, many_app, List.map_cons, List.map_nil]
      split
      · rename_i hq; simp [ih, many, hq]
      · rename_i hq; simp [ih, many, hq]
  rw [h, ← list_upto]
/-- A list that is told along a permutation. -/
theorem along {o L : List Int} {n : Nat} (ho : o.Perm (upto n)) (hl : L.length = n) {f : Int → Int} (h : ∀ x, inb x n → gt L (gt o x) = f x) : L.Perm ((upto n).map f) := by
  have hol : o.length = n := by rw [ho.length_eq, upto_length]
  have e1 : o.map (gt L) = (upto n).map f := by
    refine ext_gt (by simp [hol, upto_length]) fun j j0 j1 => ?_
    obtain ⟨y, rfl⟩ := Int.eq_ofNat_of_zero_le j0
    have hy : y < n := by simp [hol] at j1; omega
    have hy2 : y < o.length := by omega
    have e := h y ⟨by omega, by omega⟩
    simp only [gt, Int.toNat_natCast] at e ⊢
    simp only [List.getD_eq_getElem?_getD, List.getElem?_map] at e ⊢
    simp [hy2, upto, hy] at e ⊢
    exact e
  have e2 : L = (upto n).map (gt L) := by have := list_upto L; rwa [hl] at this
  rw [← e1]
  conv => lhs; rw [e2]
  exact (ho.map (gt L)).symm
end Go.Proofs.Ytnooiajahmichaa.X
