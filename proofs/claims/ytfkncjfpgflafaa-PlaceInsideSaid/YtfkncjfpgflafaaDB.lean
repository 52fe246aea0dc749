/- Determinants: columns, Cramer's rule, blocks, bordered minors, bounds. Plain. -/
import Derived.Test.YtfkncjfpgflafaaDA
namespace Go.Proofs.Ytfkncjfpgflafaa.X
set_option linter.unusedVariables false
set_option linter.unusedSimpArgs false
def trp (A : Mat) : Mat := fun r c => A c r
theorem skip_zero (r : Nat) : skip 0 r = r + 1 := by unfold skip; rw [if_neg (by omega)]
theorem skip_succ (i r : Nat) : skip (i + 1) (r + 1) = skip i r + 1 := by unfold skip; split <;> split <;> omega
theorem det_one (A : Mat) : det 1 A = A 0 0 := by simp [det, sm, sgn]
theorem det_trp : ∀ (n : Nat) (A : Mat), det n (trp A) = det n A ∧ det (n + 1) (trp A) = det (n + 1) A := by
  intro n
  induction n with
  | zero => intro A; exact ⟨rfl, by rw [det_one, det_one]; rfl⟩
  | succ n ih =>
    intro A
    refine ⟨(ih A).2, ?_⟩
    have ex : ∀ B : Mat, det (n + 2) B = B 0 0 * det (n + 1) (minor B 0) + sm (n + 1) (fun i => sm (n + 1) (fun j => - (sgn i * sgn j * (B (i + 1) 0 * (B 0 (j + 1) * det n (fun r c => B (skip i r + 1) (skip j c + 1))))))) := by
      intro B
      rw [det_succ, sm_left]
      congr 1
      · simp [sgn]
      refine sm_congr fun i hi => ?_
      rw [← (ih (minor B (i + 1))).2, det_succ, ← sm_mul, ← sm_mul]
      refine sm_congr fun j hj => ?_
      have e1 : trp (minor B (i + 1)) j 0 = B 0 (j + 1) := by
        unfold trp minor skip; rw [if_pos (by omega)]
      have e2 : det n (minor (trp (minor B (i + 1))) j) = det n (fun r c => B (skip i r + 1) (skip j c + 1)) := by
        rw [← (ih (fun r c => B (skip i r + 1) (skip j c + 1))).1]
        congr 1
        funext r c
        show B (skip (i + 1) (c + 1)) (skip j r + 1) = B (skip i c + 1) (skip j r + 1)
        rw [skip_succ]
      rw [e1, e2, sgn_succ]
      grind
    rw [ex, ex, sm_comm]
    congr 1
    · congr 1
      have e : minor (trp A) 0 = trp (minor A 0) := by
        funext r c
        show A (c + 1) (skip 0 r) = A (skip 0 c) (r + 1)
        rw [skip_zero, skip_zero]
      rw [e, (ih (minor A 0)).2]
    · refine sm_congr fun i hi => sm_congr fun j hj => ?_
      have e : det n (fun r c => trp A (skip j r + 1) (skip i c + 1)) = det n (fun r c => A (skip i r + 1) (skip j c + 1)) := by
        rw [← (ih (fun r c => A (skip i r + 1) (skip j c + 1))).1]; rfl
      rw [e]
      unfold trp
      grind
theorem det_tr (n : Nat) (A : Mat) : det n (trp A) = det n A := (det_trp n A).1
/-- A column is set. -/
def ucol (A : Mat) (k : Nat) (u : Nat → Int) : Mat := fun r c => if c = k then u r else A r c
theorem ucol_tr (A : Mat) (k : Nat) (u : Nat → Int) : ucol A k u = trp (upd (trp A) k u) := by
  funext r c; unfold ucol trp upd; split <;> rfl
/-- Two equal columns. -/
theorem det_col_eq {n : Nat} (A : Mat) {k l : Nat} (hk : k < n) (hl : l < n) (h : k ≠ l) (hA : ∀ r, r < n → A r k = A r l) : det n A = 0 := by
  rw [← det_tr]
  exact (altf_det n).alt' (trp A) hk hl h fun c hc => hA c hc
/-- Two columns change places. -/
theorem det_col_swap {n : Nat} (A : Mat) {k l : Nat} (hk : k < n) (hl : l < n) (h : k ≠ l) (u v : Nat → Int) : det n (ucol (ucol A k u) l v) = - det n (ucol (ucol A k v) l u) := by
  have e : ∀ u v : Nat → Int, ucol (ucol A k u) l v = trp (upd (upd (trp A) k u) l v) := by
    intro u v; funext r c; unfold ucol trp upd
    by_cases q : c = l
    · rw [if_pos q, if_pos q]
    · rw [if_neg q, if_neg q]
      by_cases q2 : c = k
      · rw [if_pos q2, if_pos q2]
      · rw [if_neg q2, if_neg q2]
  rw [e, e, det_tr, det_tr]
  exact (altf_det n).swap _ u v hk hl h
/-- Cramer's rule for rows: a row b is told by the rows of A. -/
theorem cramer_row {n : Nat} (A : Mat) (b : Nat → Int) {c : Nat} (hc : c < n) : det n A * b c = sm n (fun i => det n (upd A i b) * A i c) := by
  have h := det_col_eq (n := n + 1) (fun r k => if r = 0 then b (if k = 0 then c else k - 1) else A (r - 1) (if k = 0 then c else k - 1)) (k := 0) (l := c + 1) (by omega) (by omega) (by omega) (fun r hr => by simp)
  rw [det_succ, sm_left] at h
  have e0 : det n (minor (fun r k => if r = 0 then b (if k = 0 then c else k - 1) else A (r - 1) (if k = 0 then c else k - 1)) 0) = det n A := by
    refine det_congr fun r hr k hk => ?_
    unfold minor
    rw [skip_zero]
    simp
  have e1 : sm n (fun i => sgn (i + 1) * ((if i + 1 = 0 then b (if 0 = 0 then c else 0 - 1) else A (i + 1 - 1) (if 0 = 0 then c else 0 - 1)) * det n (minor (fun r k => if r = 0 then b (if k = 0 then c else k - 1) else A (r - 1) (if k = 0 then c else k - 1)) (i + 1)))) = - sm n (fun i => det n (upd A i b) * A i c) := by
    rw [← Int.neg_one_mul, ← sm_mul]
    refine sm_congr fun i hi => ?_
    have e2 : det n (minor (fun r k => if r = 0 then b (if k = 0 then c else k - 1) else A (r - 1) (if k = 0 then c else k - 1)) (i + 1)) = det n (fun r => if r = 0 then b else A (skip i (r - 1))) := by
      refine det_congr fun r hr k hk => ?_
      unfold minor
      cases r with
      | zero => simp [skip]
      | succ r =>
        show (if skip (i + 1) (r + 1) = 0 then b (if k + 1 = 0 then c else k + 1 - 1) else A (skip (i + 1) (r + 1) - 1) (if k + 1 = 0 then c else k + 1 - 1)) = (if r + 1 = 0 then b else A (skip i (r + 1 - 1))) k
        rw [skip_succ, if_neg (show ¬ skip i r + 1 = 0 by omega), if_neg (show ¬ k + 1 = 0 by omega), if_neg (show ¬ r + 1 = 0 by omega)]
        rfl
    have e3 := (altf_det n).rot i A b hi
    rw [e2, if_neg (by omega), if_pos rfl, sgn_succ, e3, show i + 1 - 1 = i by omega]
    have := sgn_sq i
    grind
  rw [e0, e1, if_pos rfl, if_pos rfl, show sgn 0 = 1 from rfl] at h
  grind
/-- Cramer's rule: what solves a system. -/
theorem cramer {n : Nat} (A : Mat) (b : Nat → Int) {r : Nat} (hr : r < n) : sm n (fun i => A r i * det n (ucol A i b)) = det n A * b r := by
  have h := cramer_row (trp A) b hr
  rw [det_tr] at h
  rw [h]
  refine sm_congr fun i hi => ?_
  rw [ucol_tr, det_tr, Int.mul_comm]; rfl
/-- A block of zeros below. -/
theorem det_block : ∀ (k m : Nat) (B : Mat), (∀ r c, c < k → r < m → B (k + r) c = 0) → det (k + m) B = det k B * det m (fun r c => B (k + r) (k + c)) := by
  intro k
  induction k with
  | zero =>
    intro m B _
    rw [det, Int.one_mul, Nat.zero_add]
    congr 1
    funext r c; rw [Nat.zero_add, Nat.zero_add]
  | succ k ih =>
    intro m B h
    rw [show k + 1 + m = k + m + 1 by omega, det_succ, show k + m + 1 = k + 1 + m by omega, sm_split, sm_zero (n := m) fun i hi => by rw [h i 0 (by omega) hi]; simp]
    rw [Int.add_zero, det_succ, Int.mul_comm, ← sm_mul]
    refine sm_congr fun i hi => ?_
    rw [ih m (minor B i) fun r c hc hr => ?_]
    · have e : det m (fun r c => minor B i (k + r) (k + c)) = det m (fun r c => B (k + 1 + r) (k + 1 + c)) := by
        congr 1
        funext r c
        unfold minor skip
        rw [if_neg (by omega), show k + r + 1 = k + 1 + r by omega, show k + c + 1 = k + 1 + c by omega]
      rw [e]
      grind
    · unfold minor skip
      rw [if_neg (by omega), show k + r + 1 = k + 1 + r by omega]
      exact h r (c + 1) (by omega) hr
theorem det_two (A : Mat) : det 2 A = A 0 0 * A 1 1 - A 1 0 * A 0 1 := by
  rw [det_succ, sm, sm, sm, det_one, det_one]
  unfold minor
  simp [sgn, skip]
  grind
/-- What is left of row a when the first k rows have cleared the first k columns, times the determinant of the corner. -/
def clr (k : Nat) (A : Mat) (a : Nat → Int) : Nat → Int := fun c => det k A * a c - sm k (fun i => det k (upd A i a) * A i c)
theorem clr_low {k : Nat} (A : Mat) (a : Nat → Int) {c : Nat} (hc : c < k) : clr k A a c = 0 := by
  unfold clr; rw [cramer_row A a hc]; omega
section
variable {n : Nat} {F : Mat → Int} {d : Nat} (hF : AltF n d F)
include hF
/-- A row is cleared. -/
theorem AltF.clr {k j : Nat} (hk : k ≤ j) (hj : j < n) (A : Mat) : ∀ w : Nat → Int, ∀ m, m ≤ k → F (upd A j (fun c => det k A * A j c - sm m (fun i => w i * A i c))) = det k A * F A := by
  intro w m
  induction m with
  | zero =>
    intro _
    rw [hF.row (upd A j (fun c => det k A * A j c - sm 0 (fun i => w i * A i c))) (k := j) hj (A j) (A j) (det k A) 0 (fun c hc => by rw [upd_at]; simp [sm]), upd_upd, upd_self]
    omega
  | succ m im =>
    intro hm
    rw [hF.row (upd A j (fun c => det k A * A j c - sm (m + 1) (fun i => w i * A i c))) (k := j) hj (fun c => det k A * A j c - sm m (fun i => w i * A i c)) (A m) 1 (- w m) (fun c hc => by rw [upd_at]; simp only [sm]; grind), upd_upd, upd_upd, im (by omega),
      hF.alt' (upd A j (A m)) (k := m) (l := j) (by omega) hj (by omega) fun c hc => by rw [upd_at, upd_ne _ _ (by omega)]]
    omega
end
/-- A bordered minor, by the cleared row. -/
theorem det_border (k : Nat) (A : Mat) (hd : det k A ≠ 0) : det (k + 1) A = clr k A (A k) k := by
  have h := (altf_det (k + 1)).clr (k := k) (j := k) (Nat.le_refl k) (by omega) A (fun i => det k (upd A i (A k))) k (Nat.le_refl k)
  have hb := det_block k 1 (upd A k (clr k A (A k))) fun r c hc hr => by
    rw [show k + r = k by omega, upd_at]; exact clr_low A _ hc
  rw [det_one] at hb
  have e1 : det k (upd A k (clr k A (A k))) = det k A := det_congr fun r hr c hc => by rw [upd_ne _ _ (by omega)]
  rw [e1, show k + 0 = k from rfl, upd_at] at hb
  have h2 : det (k + 1) (upd A k (clr k A (A k))) = det k A * det (k + 1) A := h
  rw [h2] at hb
  exact Int.eq_of_mul_eq_mul_left hd hb
/-- Rows and columns of a bordered minor: those below k, and one more of each. -/
def brd (k a b : Nat) (A : Mat) : Mat := fun r c => A (if r < k then r else a) (if c < k then c else b)
theorem det_brd {k a b : Nat} (A : Mat) (hd : det k A ≠ 0) : det (k + 1) (brd k a b A) = clr k A (A a) b := by
  have e : det k (brd k a b A) = det k A := det_congr fun r hr c hc => by unfold brd; rw [if_pos hr, if_pos hc]
  rw [det_border k _ (by rw [e]; exact hd)]
  unfold clr
  have e1 : brd k a b A k k = A a b := by unfold brd; rw [if_neg (by omega), if_neg (by omega)]
  rw [e, e1]
  congr 1
  refine sm_congr fun i hi => ?_
  have e2 : det k (upd (brd k a b A) i (brd k a b A k)) = det k (upd A i (A a)) := det_congr fun r hr c hc => by
    unfold upd brd
    by_cases q : r = i
    · rw [if_pos q, if_pos q, if_neg (by omega), if_pos hc]
    · rw [if_neg q, if_neg q, if_pos hr, if_pos hc]
  have e3 : brd k a b A i k = A i b := by unfold brd; rw [if_pos hi, if_neg (by omega)]
  rw [e2, e3]
/-- Sylvester's identity for two rows and columns. -/
theorem sylvester (k : Nat) (A : Mat) (hd : det k A ≠ 0) :
    det k A * det (k + 2) A = det (k + 1) (brd k k k A) * det (k + 1) (brd k (k + 1) (k + 1) A) - det (k + 1) (brd k (k + 1) k A) * det (k + 1) (brd k k (k + 1) A) := by
  rw [det_brd A hd, det_brd A hd, det_brd A hd, det_brd A hd]
  have h1 := (altf_det (k + 2)).clr (k := k) (j := k) (Nat.le_refl k) (by omega) A (fun i => det k (upd A i (A k))) k (Nat.le_refl k)
  have h1' : det (k + 2) (upd A k (clr k A (A k))) = det k A * det (k + 2) A := h1
  have ek : det k (upd A k (clr k A (A k))) = det k A := det_congr fun r hr c hc => by rw [upd_ne _ _ (by omega)]
  have h2 := (altf_det (k + 2)).clr (k := k) (j := k + 1) (by omega) (by omega) (upd A k (clr k A (A k))) (fun i => det k (upd A i (A (k + 1)))) k (Nat.le_refl k)
  rw [ek, h1'] at h2
  have e2 : (fun c => det k A * upd A k (clr k A (A k)) (k + 1) c - sm k (fun i => det k (upd A i (A (k + 1))) * upd A k (clr k A (A k)) i c)) = clr k A (A (k + 1)) := by
    funext c
    unfold clr
    rw [upd_ne _ _ (by omega)]
    congr 1
    exact sm_congr fun i hi => by rw [upd_ne _ _ (by omega)]
  rw [e2] at h2
  have hb := det_block k 2 (upd (upd A k (clr k A (A k))) (k + 1) (clr k A (A (k + 1)))) fun r c hc hr => by
    rcases Nat.lt_or_ge r 1 with q | q
    · rw [show k + r = k by omega, upd_ne _ _ (by omega), upd_at]; exact clr_low A _ hc
    · rw [show k + r = k + 1 by omega, upd_at]; exact clr_low A _ hc
  rw [h2, det_two] at hb
  have e3 : det k (upd (upd A k (clr k A (A k))) (k + 1) (clr k A (A (k + 1)))) = det k A := det_congr fun r hr c hc => by rw [upd_ne _ _ (by omega), upd_ne _ _ (by omega)]
  rw [e3] at hb
  simp only [Nat.add_zero, upd_at, upd_ne _ _ (show k ≠ k + 1 by omega)] at hb
  have h4 := Int.eq_of_mul_eq_mul_left hd hb
  rw [h4]
/-- The size of a determinant. -/
theorem det_bound {B : Nat} : ∀ (n : Nat) (A : Mat), (∀ r, r < n → ∀ c, c < n → (A r c).natAbs ≤ B) → (det n A).natAbs ≤ (n * B) ^ n := by
  have sb : ∀ (n : Nat) (f : Nat → Int) (b : Nat), (∀ i, i < n → (f i).natAbs ≤ b) → (sm n f).natAbs ≤ n * b := by
    intro n f b
    induction n with
    | zero => intro _; simp [sm]
    | succ n ih =>
      intro h
      have h1 := ih fun i hi => h i (by omega)
      have h2 := h n (by omega)
      have h3 := Int.natAbs_add_le (sm n f) (f n)
      rw [sm, Nat.add_mul]
      omega
  intro n
  induction n with
  | zero => intro A _; simp [det]
  | succ n ih =>
    intro A h
    rw [det_succ]
    refine Nat.le_trans (sb _ _ (B * (n * B) ^ n) fun i hi => ?_) ?_
    · rw [Int.natAbs_mul, Int.natAbs_mul]
      have s1 : (sgn i).natAbs = 1 := by unfold sgn; split <;> rfl
      rw [s1, Nat.one_mul]
      exact Nat.mul_le_mul (h i hi 0 (by omega)) (ih _ fun r hr c hc => h _ (skip_lt hr) _ (by omega))
    · rw [Nat.pow_succ, Nat.mul_comm (((n + 1) * B) ^ n), Nat.mul_assoc (n + 1)]
      refine Nat.mul_le_mul_left _ (Nat.mul_le_mul_left _ (Nat.pow_le_pow_left (Nat.mul_le_mul_right _ (by omega)) _))
end Go.Proofs.Ytfkncjfpgflafaa.X
