/- The matrices of a stream. Plain. -/
import Derived.Test.YtkenpbnpemjbhaaBI
namespace Go.Proofs.Ytkenpbnpemjbhaa.X
open Go Go.RowKit
set_option linter.unusedVariables false
set_option linter.unusedSimpArgs false
set_option linter.unusedSectionVars false
theorem exacts_ok : Ok P_maskkeep4_exacts (fun r => r = true) := ⟨true, by decide +kernel, rfl⟩
theorem pick_ok {L : List Int} (hL : Strm L) {k : Int} (hk : Few k) : Ok (P_maskmake_Stream_Pick (T_maskmake_Stream.mk L k) ([2, 9, 1000] : List Int)) (fun r => (2 ≤ r.1 ∧ r.1 ≤ 1000) ∧ r.2 = k + 1) := by
  unfold P_maskmake_Stream_Pick
  refine ok_bd (hL.next hk (by simp)) ?_
  rintro ⟨a, q⟩ ⟨a0, a1, -, rfl⟩
  have a1 := a1 (by simp)
  simp only [List.length_cons, List.length_nil] at a0 a1
  refine ok_ck ⟨a0, by simp only [List.length_cons, List.length_nil]; omega⟩ (ok_lv (ok_some ⟨?_, rfl⟩))
  have : a = 0 ∨ a = 1 ∨ a = 2 := by omega
  rcases this with rfl | rfl | rfl
  · exact ⟨show (2 : Int) ≤ 2 by decide, show (2 : Int) ≤ 1000 by decide⟩
  · exact ⟨show (2 : Int) ≤ 9 by decide, show (9 : Int) ≤ 1000 by decide⟩
  · exact ⟨show (2 : Int) ≤ 1000 by decide, show (1000 : Int) ≤ 1000 by decide⟩
theorem matrix_ok {L : List Int} (hL : Strm L) {k : Int} {n : Nat} (hk : Few (k + 1000)) (hk0 : 0 ≤ k) (hn : n ≤ 16) : Ok (P_maskkeep4_matrix (T_maskmake_Stream.mk L k) (n : Int)) (fun r => Sq r.1 n 1000 ∧ k ≤ r.2 ∧ r.2 ≤ k + 640) := by
  unfold P_maskkeep4_matrix
  refine ok_bd (R := fun r => Sq r.1 n 1000 ∧ k ≤ r.2 ∧ r.2 ≤ k + 640) ?_ fun r hr => ok_some hr
  refine ok_lp (fun s => ∃ m : Nat, s.2.1 = (m : Int) ∧ m ≤ n ∧ s.1.length = m ∧ (∀ i : Nat, i < m → (gt s.1 (i : Int)).length = n ∧ ∀ j : Nat, j < n → (mat s.1 i j).natAbs ≤ 1000) ∧ k ≤ s.2.2 ∧ s.2.2 ≤ k + 40 * m) (fun s => ((n : Int) - s.2.1).toNat)
    ⟨0, rfl, Nat.zero_le _, rfl, fun i hi => by omega, by simp only; omega, by simp only; omega⟩ (by simp only; omega) ?_
  rintro ⟨out, y, q⟩ ⟨m, rfl, hm, l1, e1, q0, q1⟩
  simp only at l1 e1 q0 q1 ⊢
  unfold P_maskkeep4_matrix_L3
  dsimp only
  refine ok_ite (fun hlt => ?_) fun hge => ok_some ⟨⟨by simp only; omega, fun i hi => (e1 i (by omega)).1, fun i j hi hj => (e1 i (by omega)).2 j hj⟩, q0, by simp only; omega⟩
  refine ok_bd (R := fun s => s.1.length = n ∧ (∀ j : Nat, j < n → (gt s.1 (j : Int)).natAbs ≤ 1000) ∧ q ≤ s.2 ∧ s.2 ≤ q + 32) ?_ ?_
  · refine ok_lp (fun s => ∃ j : Nat, s.2.1 = (j : Int) ∧ j ≤ n ∧ s.1.length = j ∧ (∀ i : Nat, i < j → (gt s.1 (i : Int)).natAbs ≤ 1000) ∧ q ≤ s.2.2 ∧ s.2.2 ≤ q + 2 * j) (fun s => ((n : Int) - s.2.1).toNat) ⟨0, rfl, Nat.zero_le _, rfl, fun i hi => by omega, by simp only; omega, by simp only; omega⟩ (by simp only; omega) ?_
    rintro ⟨row, y, p⟩ ⟨j, rfl, hj, l2, e2, p0, p1⟩
    simp only at l2 e2 p0 p1 ⊢
    unfold P_maskkeep4_matrix_L6
    dsimp only
    refine ok_ite (fun h => ?_) fun h => ok_some ⟨by simp only; omega, fun i hi => e2 i (by omega), p0, by simp only; omega⟩
    refine ok_bd (pick_ok hL (by omega)) ?_
    rintro ⟨v, p2⟩ ⟨⟨v0, v1⟩, rfl⟩
    simp only at v0 v1
    refine ok_ar (by simp only; omega) (ok_bd (hL.range (by simp only; omega) (by simp only; omega) (by omega) (by simp only; omega)) ?_)
    rintro ⟨x, p3⟩ ⟨x0, x1, rfl⟩
    simp only at x0 x1
    refine ok_lv (ok_ck (by simp only [apOk, List.length_append, List.length_singleton]; omega) (ok_ar (by omega) (ok_some ⟨⟨j + 1, by simp only; omega, by omega, by simp only [List.length_append, List.length_singleton]; omega, fun i hi => ?_, by simp only; omega, by simp only; omega⟩, by simp only; omega⟩)))
    simp only
    by_cases e : i = j
    · subst e; rw [gt_app_1 (by omega)]; omega
    · rw [gt_app_l (by omega)]; exact e2 i (by omega)
  rintro ⟨row, p⟩ ⟨l2, e2, p0, p1⟩
  simp only at l2 e2 p0 p1
  refine ok_lv (ok_ck (by simp only [apOk, List.length_append, List.length_singleton]; omega) (ok_ar (by omega) (ok_some ⟨⟨m + 1, by simp only; omega, by omega, by simp only [List.length_append, List.length_singleton]; omega, fun i hi => ?_, by simp only; omega, by simp only; omega⟩, by simp only; omega⟩)))
  simp only
  by_cases e : i = m
  · subst e
    refine ⟨by rw [gt_app_1 (by omega)]; exact l2, fun j hj => ?_⟩
    unfold mat
    rw [gt_app_1 (by omega)]; exact e2 j hj
  · refine ⟨by rw [gt_app_l (by omega)]; exact (e1 i (by omega)).1, fun j hj => ?_⟩
    unfold mat
    rw [gt_app_l (by omega)]; exact (e1 i (by omega)).2 j hj
theorem pow_small {n : Nat} (hn : n ≤ 16) : (n * 1000) ^ n < 4294967296 ^ 7 := by
  have h1 : (n * 1000) ^ n ≤ (16 * 1000) ^ n := Nat.pow_le_pow_left (by omega) _
  have h2 : (16 * 1000) ^ n ≤ (16 * 1000) ^ 16 := Nat.pow_le_pow_right (by decide) hn
  have h3 : (16 * 1000) ^ 16 < 4294967296 ^ 7 := by decide +kernel
  exact Nat.lt_of_le_of_lt (Nat.le_trans h1 h2) h3
end Go.Proofs.Ytkenpbnpemjbhaa.X
