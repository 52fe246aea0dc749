/- Elimination without fractions: what stands in the table. Plain. -/
import Derived.Test.YtfkncjfpgflafaaDB
namespace Go.Proofs.Ytfkncjfpgflafaa.X
set_option linter.unusedVariables false
set_option linter.unusedSimpArgs false
/-- The minor of the pivots, bordered by row i and column j. -/
def mnr (A : Mat) (γ : Nat → Nat) (k i j : Nat) : Int := det (k + 1) fun r c => A (if r < k then r else i) (if c < k then γ c else j)
/-- The minor of the pivots, column i replaced by column j. -/
def gjm (A : Mat) (γ : Nat → Nat) (k i j : Nat) : Int := det k fun r c => A r (if c = i then j else γ c)
/-- The minor of the pivots. -/
def pdm (A : Mat) (γ : Nat → Nat) (k : Nat) : Int := det k fun r c => A r (γ c)
def setγ (γ : Nat → Nat) (k c : Nat) : Nat → Nat := fun x => if x = k then c else γ x
theorem pdm_succ (A : Mat) (γ : Nat → Nat) (k c : Nat) : pdm A (setγ γ k c) (k + 1) = mnr A γ k k c := by
  unfold pdm mnr
  refine det_congr fun r hr x hx => ?_
  unfold setγ
  have e1 : (if r < k then r else k) = r := by split <;> omega
  have e2 : (if x = k then c else γ x) = (if x < k then γ x else c) := by
    by_cases h : x = k
    · rw [if_pos h, if_neg (by omega)]
    · rw [if_neg h, if_pos (by omega)]
  rw [e1, e2]
/-- Sylvester's matrix: the pivots, row k and a further row; column c and column j. -/
def sylM (A : Mat) (γ : Nat → Nat) (k c j : Nat) (z : Nat → Int) : Mat := fun r x => if r < k + 1 then A r (if x < k then γ x else if x = k then c else j) else z x
theorem syl_pd (A : Mat) (γ : Nat → Nat) (k c j : Nat) (z : Nat → Int) : det k (sylM A γ k c j z) = pdm A γ k := det_congr fun r hr x hx => by
  unfold sylM; rw [if_pos (by omega), if_pos hx]
theorem syl_kk (A : Mat) (γ : Nat → Nat) (k c j : Nat) (z : Nat → Int) : det (k + 1) (brd k k k (sylM A γ k c j z)) = mnr A γ k k c := by
  unfold mnr
  refine det_congr fun r hr x hx => ?_
  unfold brd sylM
  have e1 : (if r < k then r else k) < k + 1 := by split <;> omega
  rw [if_pos e1]
  congr 1
  by_cases h : x < k
  · rw [if_pos h, if_pos h, if_pos h]
  · rw [if_neg h, if_neg (by omega), if_pos rfl, if_neg h]
theorem syl_kj (A : Mat) (γ : Nat → Nat) (k c j : Nat) (z : Nat → Int) : det (k + 1) (brd k k (k + 1) (sylM A γ k c j z)) = mnr A γ k k j := by
  unfold mnr
  refine det_congr fun r hr x hx => ?_
  unfold brd sylM
  have e1 : (if r < k then r else k) < k + 1 := by split <;> omega
  rw [if_pos e1]
  congr 1
  by_cases h : x < k
  · rw [if_pos h, if_pos h, if_pos h]
  · rw [if_neg h, if_neg (by omega), if_neg (by omega), if_neg h]
/-- A row below the pivots. -/
theorem syl_row {A : Mat} {γ : Nat → Nat} {k c j i : Nat} (hd : pdm A γ k ≠ 0) (hi : k < i) :
    mnr A γ k k c * mnr A γ k i j - mnr A γ k i c * mnr A γ k k j = pdm A γ k * mnr A (setγ γ k c) (k + 1) i j := by
  have h := sylvester k (sylM A γ k c j (fun x => A i (if x < k then γ x else if x = k then c else j))) (by rw [syl_pd]; exact hd)
  rw [syl_pd, syl_kk, syl_kj] at h
  have e1 : det (k + 1) (brd k (k + 1) (k + 1) (sylM A γ k c j (fun x => A i (if x < k then γ x else if x = k then c else j)))) = mnr A γ k i j := by
    unfold mnr
    refine det_congr fun r hr x hx => ?_
    unfold brd sylM
    have e2 : (if (if x < k then x else k + 1) < k then γ (if x < k then x else k + 1) else if (if x < k then x else k + 1) = k then c else j) = (if x < k then γ x else j) := by
      by_cases q : x < k
      · rw [if_pos q, if_pos q, if_pos q]
      · rw [if_neg q, if_neg (by omega), if_neg (by omega), if_neg q]
    by_cases p : r < k
    · rw [if_pos p, if_pos (by omega), if_pos p, e2]
    · rw [if_neg p, if_neg (by omega), if_neg p]
      exact congrArg (A i) e2
  have e2 : det (k + 1) (brd k (k + 1) k (sylM A γ k c j (fun x => A i (if x < k then γ x else if x = k then c else j)))) = mnr A γ k i c := by
    unfold mnr
    refine det_congr fun r hr x hx => ?_
    unfold brd sylM
    have e2 : (if (if x < k then x else k) < k then γ (if x < k then x else k) else if (if x < k then x else k) = k then c else j) = (if x < k then γ x else c) := by
      by_cases q : x < k
      · rw [if_pos q, if_pos q, if_pos q]
      · rw [if_neg q, if_neg (by omega), if_pos rfl, if_neg q]
    by_cases p : r < k
    · rw [if_pos p, if_pos (by omega), if_pos p, e2]
    · rw [if_neg p, if_neg (by omega), if_neg p]
      exact congrArg (A i) e2
  have e3 : det (k + 2) (sylM A γ k c j (fun x => A i (if x < k then γ x else if x = k then c else j))) = mnr A (setγ γ k c) (k + 1) i j := by
    unfold mnr
    refine det_congr fun r hr x hx => ?_
    unfold sylM setγ
    have e4 : (if x < k then γ x else if x = k then c else j) = (if x < k + 1 then (if x = k then c else γ x) else j) := by
      by_cases q : x < k
      · rw [if_pos q, if_pos (by omega), if_neg (by omega)]
      · by_cases q2 : x = k
        · rw [if_neg q, if_pos q2, if_pos (by omega), if_pos q2]
        · rw [if_neg q, if_neg q2, if_neg (by omega)]
    by_cases p : r < k + 1
    · rw [if_pos p, if_pos p, e4]
    · rw [if_neg p, if_neg p]
      exact congrArg (A i) e4
  rw [e1, e2, e3] at h
  exact h.symm
/-- A last row that is 1 at place i alone. -/
theorem unit_row {n i : Nat} (M : Mat) (hi : i < n) (h : ∀ c, c < n + 1 → M n c = if c = i then 1 else 0) : det (n + 1) M = - det n (fun r c => if c = i then M r n else M r c) := by
  have h1 := det_col_swap (n := n + 1) M (k := i) (l := n) (by omega) (by omega) (by omega) (fun r => M r i) (fun r => M r n)
  have e1 : ucol (ucol M i (fun r => M r i)) n (fun r => M r n) = M := by
    funext r c; unfold ucol
    by_cases q : c = n
    · rw [if_pos q, q]
    · rw [if_neg q]
      by_cases q2 : c = i
      · rw [if_pos q2, q2]
      · rw [if_neg q2]
  rw [e1] at h1
  rw [h1]
  congr 1
  rw [det_block n 1 _ fun r c hc hr => ?_, det_one]
  · have e2 : ucol (ucol M i (fun r => M r n)) n (fun r => M r i) (n + 0) (n + 0) = 1 := by
      unfold ucol
      rw [Nat.add_zero, if_pos rfl]
      show M n i = 1
      rw [h i (by omega), if_pos rfl]
    rw [e2, Int.mul_one]
    refine det_congr fun r hr c hc => ?_
    unfold ucol
    rw [if_neg (by omega)]
  · have hr0 : r = 0 := by omega
    subst hr0
    unfold ucol
    rw [if_neg (by omega)]
    show (if c = i then M n n else M n c) = 0
    by_cases q : c = i
    · rw [if_pos q, h n (by omega), if_neg (by omega)]
    · rw [if_neg q, h c (by omega), if_neg q]
/-- A row of the pivots. -/
theorem syl_top {A : Mat} {γ : Nat → Nat} {k c j i : Nat} (hd : pdm A γ k ≠ 0) (hi : i < k) :
    mnr A γ k k c * gjm A γ k i j - gjm A γ k i c * mnr A γ k k j = pdm A γ k * gjm A (setγ γ k c) (k + 1) i j := by
  have h := sylvester k (sylM A γ k c j (fun x => if x = i then 1 else 0)) (by rw [syl_pd]; exact hd)
  rw [syl_pd, syl_kk, syl_kj] at h
  have brdrow : ∀ b : Nat, (b = k ∨ b = k + 1) → ∀ x, x < k + 1 → brd k (k + 1) b (sylM A γ k c j (fun x => if x = i then 1 else 0)) k x = if x = i then 1 else 0 := by
    intro b hb x hx
    unfold brd sylM
    rw [if_neg (Nat.lt_irrefl k), if_neg (Nat.lt_irrefl (k + 1))]
    by_cases q : x < k
    · rw [if_pos q]
    · rw [if_neg q]
      show (if b = i then (1 : Int) else 0) = if x = i then 1 else 0
      rw [if_neg (by omega), if_neg (by omega)]
  have e1 : det (k + 1) (brd k (k + 1) (k + 1) (sylM A γ k c j (fun x => if x = i then 1 else 0))) = - gjm A γ k i j := by
    rw [unit_row _ hi (brdrow (k + 1) (.inr rfl))]
    congr 1
    unfold gjm
    refine det_congr fun r hr x hx => ?_
    by_cases q : x = i
    · rw [if_pos q, if_pos q]
      unfold brd sylM
      rw [if_pos hr, if_pos (show r < k + 1 by omega), if_neg (Nat.lt_irrefl k), if_neg (show ¬ k + 1 < k by omega), if_neg (show ¬ k + 1 = k by omega)]
    · rw [if_neg q, if_neg q]
      unfold brd sylM
      rw [if_pos hr, if_pos (show r < k + 1 by omega), if_pos hx, if_pos hx]
  have e2 : det (k + 1) (brd k (k + 1) k (sylM A γ k c j (fun x => if x = i then 1 else 0))) = - gjm A γ k i c := by
    rw [unit_row _ hi (brdrow k (.inl rfl))]
    congr 1
    unfold gjm
    refine det_congr fun r hr x hx => ?_
    by_cases q : x = i
    · rw [if_pos q, if_pos q]
      unfold brd sylM
      rw [if_pos hr, if_pos (show r < k + 1 by omega), if_neg (Nat.lt_irrefl k), if_neg (Nat.lt_irrefl k), if_pos rfl]
    · rw [if_neg q, if_neg q]
      unfold brd sylM
      rw [if_pos hr, if_pos (show r < k + 1 by omega), if_pos hx, if_pos hx]
  have e3 : det (k + 2) (sylM A γ k c j (fun x => if x = i then 1 else 0)) = - gjm A (setγ γ k c) (k + 1) i j := by
    rw [unit_row (n := k + 1) (i := i) _ (by omega) fun x hx => by unfold sylM; rw [if_neg (by omega)]]
    congr 1
    unfold gjm
    refine det_congr fun r hr x hx => ?_
    by_cases q : x = i
    · rw [if_pos q, if_pos q]
      unfold sylM
      rw [if_pos hr, if_neg (show ¬ k + 1 < k by omega), if_neg (show ¬ k + 1 = k by omega)]
    · rw [if_neg q, if_neg q]
      unfold sylM setγ
      rw [if_pos hr]
      by_cases q2 : x = k
      · rw [if_neg (show ¬ x < k by omega), if_pos q2, if_pos q2]
      · rw [if_pos (show x < k by omega), if_neg q2]
  rw [e1, e2, e3] at h
  grind
/-- The new pivot's own row. -/
theorem gjm_new (A : Mat) (γ : Nat → Nat) (k c j : Nat) : gjm A (setγ γ k c) (k + 1) k j = mnr A γ k k j := by
  unfold gjm mnr
  refine det_congr fun r hr x hx => ?_
  unfold setγ
  have e1 : (if r < k then r else k) = r := by split <;> omega
  rw [e1]
  by_cases q : x = k
  · rw [if_pos q, if_neg (by omega)]
  · rw [if_neg q, if_neg q, if_pos (by omega)]
/-- Two rows change places. -/
def swapR (A : Mat) (s k : Nat) : Mat := fun r => A (if r = k then s else if r = s then k else r)
theorem swapR_self (A : Mat) (k : Nat) : swapR A k k = A := by
  funext r; unfold swapR
  by_cases h : r = k
  · rw [if_pos h, h]
  · rw [if_neg h, if_neg h]
theorem swapR_low (A : Mat) {s k r : Nat} (hs : k ≤ s) (hr : r < k) : swapR A s k r = A r := by unfold swapR; rw [if_neg (by omega), if_neg (by omega)]
theorem pdm_swap (A : Mat) (γ : Nat → Nat) {k s : Nat} (hs : k ≤ s) : pdm (swapR A s k) γ k = pdm A γ k := det_congr fun r hr c hc => by rw [swapR_low A hs hr]
theorem gjm_swap (A : Mat) (γ : Nat → Nat) {k s : Nat} (hs : k ≤ s) (i j : Nat) : gjm (swapR A s k) γ k i j = gjm A γ k i j := det_congr fun r hr c hc => by rw [swapR_low A hs hr]
theorem mnr_swap (A : Mat) (γ : Nat → Nat) {k s i : Nat} (hs : k ≤ s) (hi : k ≤ i) (j : Nat) : mnr (swapR A s k) γ k i j = mnr A γ k (if i = k then s else if i = s then k else i) j := by
  unfold mnr
  refine det_congr fun r hr c hc => ?_
  by_cases h : r < k
  · rw [if_pos h, swapR_low A hs h, if_pos h]
  · rw [if_neg h, if_neg h]; rfl
theorem det_swapR {n s k : Nat} (A : Mat) (hs : s < n) (hk : k < n) (h : s ≠ k) : det n (swapR A s k) = - det n A := by
  have h1 := (altf_det n).swap A (k := k) (l := s) (A s) (A k) hk hs (Ne.symm h)
  have e1 : swapR A s k = upd (upd A k (A s)) s (A k) := by
    funext r; unfold swapR upd
    by_cases q : r = k
    · rw [if_pos q, if_neg (by omega), if_pos q]
    · rw [if_neg q, if_neg q]
      by_cases q2 : r = s
      · rw [if_pos q2, if_pos q2]
      · rw [if_neg q2, if_neg q2]
  have e2 : upd (upd A k (A k)) s (A s) = A := by rw [upd_self, upd_self]
  rw [e1, h1, e2]
/-- No pivot in the next column: the determinant is 0. -/
theorem det_nopivot {n k : Nat} (A : Mat) (hk : k < n) (hd : det k A ≠ 0) (h : ∀ i, k ≤ i → i < n → det (k + 1) (brd k i k A) = 0) : det n A = 0 := by
  have hd' : det k (trp A) ≠ 0 := by rw [det_tr]; exact hd
  have h1 := (altf_det n).clr (k := k) (j := k) (Nat.le_refl k) hk (trp A) (fun i => det k (upd (trp A) i (trp A k))) k (Nat.le_refl k)
  have h2 : det n (upd (trp A) k (clr k (trp A) (trp A k))) = det k (trp A) * det n (trp A) := h1
  have h3 : det n (upd (trp A) k (clr k (trp A) (trp A k))) = 0 := by
    refine (altf_det n).zero _ hk fun c hc => ?_
    rw [upd_at]
    by_cases q : c < k
    · exact clr_low _ _ q
    · rw [← det_brd (a := k) (b := c) (trp A) hd']
      have e : brd k k c (trp A) = trp (brd k c k A) := by funext x y; rfl
      rw [e, det_tr]
      exact h c (by omega) hc
  rw [h3, det_tr, det_tr] at h2
  rcases Int.mul_eq_zero.1 h2.symm with q | q
  · exact absurd q hd
  · exact q
end Go.Proofs.Ytfkncjfpgflafaa.X
