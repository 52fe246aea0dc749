/- A matrix without inverse sends some vector to 0. Plain. -/
import Derived.Test.YtfkncjfpgflafaaDC
namespace Go.Proofs.Ytfkncjfpgflafaa.X
set_option linter.unusedVariables false
set_option linter.unusedSimpArgs false
/-- v is not 0, and M sends it to 0. -/
def Ker (n : Nat) (M : Mat) (v : Nat → Int) : Prop := (∃ i, i < n ∧ v i ≠ 0) ∧ ∀ r, r < n → sm n (fun j => M r j * v j) = 0
theorem ker_step {n k : Nat} (A : Mat) (hk : k < n) (hd : det k A ≠ 0) (h : ∀ i, k ≤ i → i < n → det (k + 1) (brd k i k A) = 0) : ∃ v, Ker n A v := by
  have hd' : det k (trp A) ≠ 0 := by rw [det_tr]; exact hd
  have hz : ∀ r, r < n → clr k (trp A) (trp A k) r = 0 := by
    intro r hr
    by_cases q : r < k
    · exact clr_low _ _ q
    · rw [← det_brd (a := k) (b := r) (trp A) hd']
      have e : brd k k r (trp A) = trp (brd k r k A) := by funext x y; rfl
      rw [e, det_tr]
      exact h r (by omega) hr
  refine ⟨fun j => if j < k then det k (upd (trp A) j (trp A k)) else if j = k then - det k (trp A) else 0, ⟨k, hk, ?_⟩, fun r hr => ?_⟩
  · simp only [Nat.lt_irrefl, if_false, if_true]; omega
  · have h1 := hz r hr
    unfold clr at h1
    obtain ⟨m, rfl⟩ : ∃ m, n = k + (m + 1) := ⟨n - k - 1, by omega⟩
    rw [sm_split, sm_left]
    have e1 : sm k (fun j => A r j * (if j < k then det k (upd (trp A) j (trp A k)) else if j = k then - det k (trp A) else 0)) = sm k (fun i => det k (upd (trp A) i (trp A k)) * trp A i r) := sm_congr fun j hj => by
      rw [if_pos hj]; exact Int.mul_comm _ _
    have e2 : sm m (fun i => A r (k + (i + 1)) * (if k + (i + 1) < k then det k (upd (trp A) (k + (i + 1)) (trp A k)) else if k + (i + 1) = k then - det k (trp A) else 0)) = 0 := sm_zero fun j hj => by
      rw [if_neg (by omega), if_neg (by omega)]; simp
    rw [e1, e2, Nat.add_zero]
    show _ + (A r k * (if k < k then det k (upd (trp A) k (trp A k)) else if k = k then - det k (trp A) else 0) + 0) = 0
    rw [if_neg (Nat.lt_irrefl k), if_pos rfl]
    have e3 : A r k = trp A k r := rfl
    rw [e3]
    grind
theorem det_ker {n : Nat} (M : Mat) (h : det n M = 0) : ∃ v, Ker n M v := by
  have key : ∀ k, k ≤ n → (∃ v, Ker n M v) ∨ ∃ A : Mat, det k A ≠ 0 ∧ (∀ r, r < n → ∃ r', r' < n ∧ M r = A r') ∧ (det n A = 0 → det n M = 0) ∧ (det n M = 0 → det n A = 0) := by
    intro k
    induction k with
    | zero => intro _; exact .inr ⟨M, (by show (1 : Int) ≠ 0; decide), fun r hr => ⟨r, hr, rfl⟩, id, id⟩
    | succ k ih =>
      intro hk
      rcases ih (by omega) with q | ⟨A, h1, h2, h3, h4⟩
      · exact .inl q
      by_cases q : ∃ i, k ≤ i ∧ i < n ∧ det (k + 1) (brd k i k A) ≠ 0
      · obtain ⟨i, i1, i2, i3⟩ := q
        refine .inr ⟨swapR A i k, ?_, fun r hr => ?_, ?_, ?_⟩
        · have e : det (k + 1) (swapR A i k) = det (k + 1) (brd k i k A) := det_congr fun r hr c hc => by
            unfold swapR brd
            have ec : (if c < k then c else k) = c := by split <;> omega
            rw [ec]
            by_cases p : r < k
            · rw [if_neg (by omega), if_neg (by omega), if_pos p]
            · rw [if_pos (by omega), if_neg p]
          rw [e]; exact i3
        · obtain ⟨r', a, b⟩ := h2 r hr
          refine ⟨if r' = k then i else if r' = i then k else r', ?_, ?_⟩
          · split
            · exact i2
            · split <;> omega
          · rw [b]
            unfold swapR
            by_cases p : r' = k
            · rw [if_pos p]
              by_cases p2 : i = k
              · rw [if_pos p2, p2, p]
              · rw [if_neg p2, if_pos rfl, p]
            · by_cases p2 : r' = i
              · rw [if_neg p, if_pos p2, if_pos rfl, p2]
              · rw [if_neg p, if_neg p2, if_neg p, if_neg p2]
        · intro p
          refine h3 ?_
          by_cases e : i = k
          · subst e; rwa [swapR_self] at p
          · rw [det_swapR A i2 (by omega) e] at p; omega
        · intro p
          by_cases e : i = k
          · subst e; rw [swapR_self]; exact h4 p
          · rw [det_swapR A i2 (by omega) e, h4 p]; rfl
      · obtain ⟨v, v1, v2⟩ := ker_step A (by omega) h1 fun i a b => Decidable.byContradiction fun p => q ⟨i, a, b, p⟩
        refine .inl ⟨v, v1, fun r hr => ?_⟩
        obtain ⟨r', a, b⟩ := h2 r hr
        rw [b]; exact v2 r' a
  rcases key n (Nat.le_refl n) with q | ⟨A, h1, -, -, h4⟩
  · exact q
  · exact absurd (h4 h) h1
end Go.Proofs.Ytfkncjfpgflafaa.X
