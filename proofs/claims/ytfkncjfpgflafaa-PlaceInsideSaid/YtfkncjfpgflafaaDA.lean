/- Determinants of whole numbers. Plain. -/
import Derived.Test.YtfkncjfpgflafaaYQ
namespace Go.Proofs.Ytfkncjfpgflafaa.X
set_option linter.unusedVariables false
set_option linter.unusedSimpArgs false
/-- (-1)^i. -/
def sgn (i : Nat) : Int := if i % 2 = 0 then 1 else -1
theorem sgn_succ (i : Nat) : sgn (i + 1) = - sgn i := by
  unfold sgn
  by_cases h : i % 2 = 0
  · rw [if_pos h, if_neg (by omega)]
  · rw [if_neg h, if_pos (by omega)]; rfl
theorem sgn_sq (i : Nat) : sgn i * sgn i = 1 := by unfold sgn; split <;> rfl
/-- The numbers but i. -/
def skip (i k : Nat) : Nat := if k < i then k else k + 1
theorem skip_ne (i k : Nat) : skip i k ≠ i := by unfold skip; split <;> omega
theorem skip_lt {i k n : Nat} (h : k < n) : skip i k < n + 1 := by unfold skip; split <;> omega
theorem skip_hit {i k n : Nat} (hk : k < n + 1) (hi : i < n + 1) (h : k ≠ i) : ∃ j, j < n ∧ ∀ r, skip i r = k ↔ r = j := by
  refine ⟨if k < i then k else k - 1, by split <;> omega, fun r => ?_⟩
  unfold skip
  split <;> split <;> omega
def sm : Nat → (Nat → Int) → Int
  | 0, _ => 0
  | n + 1, f => sm n f + f n
theorem sm_congr {n : Nat} {f g : Nat → Int} (h : ∀ i, i < n → f i = g i) : sm n f = sm n g := by
  induction n with
  | zero => rfl
  | succ n ih => simp only [sm]; rw [ih fun i hi => h i (by omega), h n (by omega)]
theorem sm_add (n : Nat) (f g : Nat → Int) : sm n (fun i => f i + g i) = sm n f + sm n g := by
  induction n with
  | zero => rfl
  | succ n ih => simp only [sm]; rw [ih]; omega
theorem sm_mul (n : Nat) (x : Int) (f : Nat → Int) : sm n (fun i => x * f i) = x * sm n f := by
  induction n with
  | zero => simp [sm]
  | succ n ih => simp only [sm]; rw [ih, Int.mul_add]
theorem sm_zero {n : Nat} {f : Nat → Int} (h : ∀ i, i < n → f i = 0) : sm n f = 0 := by
  induction n with
  | zero => rfl
  | succ n ih => simp only [sm]; rw [ih fun i hi => h i (by omega), h n (by omega)]; rfl
theorem sm_left (n : Nat) (f : Nat → Int) : sm (n + 1) f = f 0 + sm n (fun i => f (i + 1)) := by
  induction n with
  | zero => simp [sm]
  | succ n ih => rw [sm, ih, sm]; omega
theorem sm_split (a b : Nat) (f : Nat → Int) : sm (a + b) f = sm a f + sm b (fun i => f (a + i)) := by
  induction b with
  | zero => simp [sm]
  | succ b ih => rw [← Nat.add_assoc, sm, ih, sm]; omega
theorem sm_comm (n m : Nat) (f : Nat → Nat → Int) : sm n (fun i => sm m (fun j => f i j)) = sm m (fun j => sm n fun i => f i j) := by
  induction n with
  | zero => simp only [sm]; exact (sm_zero fun _ _ => rfl).symm
  | succ n ih => simp only [sm]; rw [ih, sm_add]
theorem sm_one {n k : Nat} {f : Nat → Int} (hk : k < n) (h : ∀ i, i < n → i ≠ k → f i = 0) : sm n f = f k := by
  induction n with
  | zero => omega
  | succ n ih =>
    simp only [sm]
    by_cases e : k = n
    · subst e
      rw [sm_zero fun i hi => h i (by omega) (by omega)]; omega
    · rw [ih (by omega) fun i hi => h i (by omega), h n (by omega) (by omega)]; omega
theorem sm_two {n k : Nat} {f : Nat → Int} (hk : k + 1 < n) (h : ∀ i, i < n → i ≠ k → i ≠ k + 1 → f i = 0) (h2 : f k + f (k + 1) = 0) : sm n f = 0 := by
  induction n with
  | zero => omega
  | succ n ih =>
    simp only [sm]
    by_cases e : k + 1 = n
    · subst e
      rw [sm_one (k := k) (by omega) fun i hi hn => h i (by omega) hn (by omega)]; exact h2
    · rw [ih (by omega) fun i hi => h i (by omega), h n (by omega) (by omega) (by omega)]; rfl
abbrev Mat := Nat → Nat → Int
def upd (A : Mat) (k : Nat) (u : Nat → Int) : Mat := fun r => if r = k then u else A r
theorem upd_at (A : Mat) (k : Nat) (u : Nat → Int) : upd A k u k = u := if_pos rfl
theorem upd_ne (A : Mat) {k r : Nat} (u : Nat → Int) (h : r ≠ k) : upd A k u r = A r := if_neg h
theorem upd_self (A : Mat) (k : Nat) : upd A k (A k) = A := by
  funext r; unfold upd; split
  · rename_i e; rw [e]
  · rfl
theorem upd_upd (A : Mat) (k : Nat) (u v : Nat → Int) : upd (upd A k u) k v = upd A k v := by
  funext r; unfold upd; split <;> rfl
theorem upd_comm (A : Mat) {k l : Nat} (u v : Nat → Int) (h : k ≠ l) : upd (upd A k u) l v = upd (upd A l v) k u := by
  funext r; unfold upd; split
  · rename_i e; rw [if_neg (by omega)]
  · rfl
/-- Without row i and the first column. -/
def minor (A : Mat) (i : Nat) : Mat := fun r c => A (skip i r) (c + 1)
def det : Nat → Mat → Int
  | 0, _ => 1
  | n + 1, A => sm (n + 1) fun i => sgn i * (A i 0 * det n (minor A i))
theorem det_succ (n : Nat) (A : Mat) : det (n + 1) A = sm (n + 1) fun i => sgn i * (A i 0 * det n (minor A i)) := rfl
theorem det_congr {n : Nat} : ∀ {A B : Mat}, (∀ r, r < n → ∀ c, c < n → A r c = B r c) → det n A = det n B := by
  induction n with
  | zero => intros; rfl
  | succ n ih =>
    intro A B h
    rw [det_succ, det_succ]
    refine sm_congr fun i hi => ?_
    rw [h i hi 0 (by omega), ih (A := minor A i) (B := minor B i) fun r hr c hc => h _ (skip_lt hr) _ (by omega)]
theorem minor_upd_at (A : Mat) (k : Nat) (u : Nat → Int) : minor (upd A k u) k = minor A k := by
  funext r c; unfold minor; rw [upd_ne _ _ (skip_ne k r)]
theorem minor_upd_ne {A : Mat} {i j k : Nat} (u : Nat → Int) (h : ∀ r, skip i r = k ↔ r = j) : minor (upd A k u) i = upd (minor A i) j (fun c => u (c + 1)) := by
  funext r c; unfold minor upd
  by_cases e : r = j
  · rw [if_pos ((h r).2 e), if_pos e]
  · rw [if_neg (fun q => e ((h r).1 q)), if_neg e]
theorem det_lin {n : Nat} : ∀ (A : Mat) {k : Nat} (u v : Nat → Int) (x y : Int), k < n → det n (upd A k (fun c => x * u c + y * v c)) = x * det n (upd A k u) + y * det n (upd A k v) := by
  induction n with
  | zero => intro A k u v x y h; omega
  | succ n ih =>
    intro A k u v x y hk
    rw [det_succ, det_succ, det_succ, ← sm_mul, ← sm_mul, ← sm_add]
    refine sm_congr fun i hi => ?_
    by_cases e : k = i
    · subst e
      rw [minor_upd_at, minor_upd_at, minor_upd_at, upd_at, upd_at, upd_at]
      grind
    · obtain ⟨j, hj, hr⟩ := skip_hit hk hi e
      rw [minor_upd_ne _ hr, minor_upd_ne _ hr, minor_upd_ne _ hr, ih (minor A i) (fun c => u (c + 1)) (fun c => v (c + 1)) x y hj, upd_ne _ _ (Ne.symm e), upd_ne _ _ (Ne.symm e), upd_ne _ _ (Ne.symm e)]
      grind
theorem det_adj {n : Nat} : ∀ (A : Mat) {k : Nat}, k + 1 < n → (∀ c, c < n → A k c = A (k + 1) c) → det n A = 0 := by
  induction n with
  | zero => intro A k h; omega
  | succ n ih =>
    intro A k hk h
    rw [det_succ]
    refine sm_two hk (fun i hi h1 h2 => ?_) ?_
    · by_cases e : i < k
      · rw [ih (minor A i) (k := k - 1) (by omega) fun c hc => ?_]; · simp
        have s1 : skip i (k - 1) = k := by unfold skip; split <;> omega
        have s2 : skip i (k - 1 + 1) = k + 1 := by unfold skip; split <;> omega
        unfold minor; rw [s1, s2]; exact h _ (by omega)
      · rw [ih (minor A i) (k := k) (by omega) fun c hc => ?_]; · simp
        have s1 : skip i k = k := by unfold skip; split <;> omega
        have s2 : skip i (k + 1) = k + 1 := by unfold skip; split <;> omega
        unfold minor; rw [s1, s2]; exact h _ (by omega)
    · have hm : det n (minor A k) = det n (minor A (k + 1)) := det_congr fun r hr c hc => by
        unfold minor
        by_cases e : r = k
        · have s1 : skip k r = k + 1 := by unfold skip; split <;> omega
          have s2 : skip (k + 1) r = k := by unfold skip; split <;> omega
          rw [s1, s2, h _ (by omega)]
        · have s1 : skip k r = skip (k + 1) r := by unfold skip; split <;> split <;> omega
          rw [s1]
      rw [hm, h 0 (by omega), sgn_succ]
      grind
/-- A function of n rows of d numbers: linear in each row, and 0 where two rows are equal. -/
structure AltF (n d : Nat) (F : Mat → Int) : Prop where
  congr : ∀ A B : Mat, (∀ r, r < n → ∀ c, c < d → A r c = B r c) → F A = F B
  lin : ∀ (A : Mat) (k : Nat) (u v : Nat → Int) (x y : Int), k < n → F (upd A k (fun c => x * u c + y * v c)) = x * F (upd A k u) + y * F (upd A k v)
  alt : ∀ (A : Mat) (k l : Nat), k < l → l < n → (∀ c, c < d → A k c = A l c) → F A = 0
/-- Two rows change places. -/
theorem swap_of {n d : Nat} {F : Mat → Int} (lin : ∀ (A : Mat) (k : Nat) (u v : Nat → Int) (x y : Int), k < n → F (upd A k (fun c => x * u c + y * v c)) = x * F (upd A k u) + y * F (upd A k v)) {k l : Nat} (hk : k < n) (hl : l < n) (hne : k ≠ l) (alt : ∀ A : Mat, (∀ c, c < d → A k c = A l c) → F A = 0)
    (A : Mat) (u v : Nat → Int) : F (upd (upd A k u) l v) = - F (upd (upd A k v) l u) := by
  have z : ∀ w : Nat → Int, F (upd (upd A k w) l w) = 0 := fun w => alt _ fun c _ => by rw [upd_at, upd_ne _ _ hne, upd_at]
  have h := z (fun c => 1 * u c + 1 * v c)
  rw [lin _ _ _ _ _ _ hl, upd_comm _ _ _ hne, upd_comm _ _ _ hne, lin _ _ _ _ _ _ hk, lin _ _ _ _ _ _ hk, upd_comm _ u u hne.symm, upd_comm _ v u hne.symm, upd_comm _ u v hne.symm, upd_comm _ v v hne.symm, z u, z v] at h
  rw [upd_comm _ u v hne, upd_comm _ v u hne]
  rw [upd_comm _ u v hne, upd_comm _ v u hne] at h
  omega
theorem det_alt {n : Nat} : ∀ (m : Nat) (A : Mat) (k : Nat), k + 1 + m < n → (∀ c, c < n → A k c = A (k + 1 + m) c) → det n A = 0 := by
  intro m
  induction m with
  | zero => intro A k h1 h2; exact det_adj A h1 h2
  | succ m ih =>
    intro A k h1 h2
    have hs := swap_of (n := n) (d := n) (F := det n) (fun A k u v x y h => det_lin A u v x y h) (k := k + 1 + m) (l := k + 1 + m + 1) (by omega) (by omega) (by omega) (fun A h => det_adj A (by omega) h) A (A (k + 1 + m)) (A (k + 1 + m + 1))
    have e1 : upd (upd A (k + 1 + m) (A (k + 1 + m))) (k + 1 + m + 1) (A (k + 1 + m + 1)) = A := by rw [upd_self, upd_self]
    rw [e1] at hs
    rw [hs, ih _ k (by omega) fun c hc => ?_]; · rfl
    rw [upd_ne _ _ (by omega), upd_ne _ _ (by omega), upd_ne _ _ (by omega), upd_at]
    exact h2 c hc
theorem altf_det (n : Nat) : AltF n n (det n) where
  congr A B h := det_congr h
  lin A k u v x y h := det_lin A u v x y h
  alt A k l h1 h2 h3 := by
    obtain ⟨m, rfl⟩ : ∃ m, l = k + 1 + m := ⟨l - (k + 1), by omega⟩
    exact det_alt m A k h2 h3
section
variable {n d : Nat} {F : Mat → Int} (hF : AltF n d F)
include hF
theorem AltF.swap (A : Mat) {k l : Nat} (u v : Nat → Int) (hk : k < n) (hl : l < n) (h : k ≠ l) : F (upd (upd A k u) l v) = - F (upd (upd A k v) l u) :=
  swap_of (d := d) hF.lin hk hl h (fun A hA => by
    rcases Nat.lt_or_gt_of_ne h with q | q
    · exact hF.alt A k l q hl hA
    · exact hF.alt A l k q hk fun c hc => (hA c hc).symm) A u v
theorem AltF.alt' (A : Mat) {k l : Nat} (hk : k < n) (hl : l < n) (h : k ≠ l) (hA : ∀ c, c < d → A k c = A l c) : F A = 0 := by
  rcases Nat.lt_or_gt_of_ne h with q | q
  · exact hF.alt A k l q hl hA
  · exact hF.alt A l k q hk fun c hc => (hA c hc).symm
theorem AltF.zero (A : Mat) {k : Nat} (hk : k < n) (h : ∀ c, c < d → A k c = 0) : F A = 0 := by
  have e : F A = F (upd A k (fun c => 0 * A k c + 0 * A k c)) := hF.congr _ _ fun r hr c hc => by
    unfold upd
    by_cases q : r = k
    · rw [if_pos q, q, h c hc]; simp
    · rw [if_neg q]
  rw [e, hF.lin _ _ _ _ _ _ hk]; simp
/-- A row is told as a sum. -/
theorem AltF.row (A : Mat) {k : Nat} (hk : k < n) (u v : Nat → Int) (x y : Int) (h : ∀ c, c < d → A k c = x * u c + y * v c) : F A = x * F (upd A k u) + y * F (upd A k v) := by
  rw [← hF.lin _ _ _ _ _ _ hk]
  refine hF.congr _ _ fun r hr c hc => ?_
  unfold upd
  by_cases q : r = k
  · rw [if_pos q, q, h c hc]
  · rw [if_neg q]
/-- A row goes to the top. -/
theorem AltF.rot : ∀ (i : Nat) (A : Mat) (v : Nat → Int), i < n → F (upd A i v) = sgn i * F (fun r => if r = 0 then v else A (skip i (r - 1))) := by
  intro i
  induction i with
  | zero =>
    intro A v hi
    rw [show sgn 0 = 1 from rfl, Int.one_mul]
    congr 1
    funext r
    unfold upd skip
    by_cases e : r = 0
    · rw [if_pos e, if_pos e]
    · rw [if_neg e, if_neg e, if_neg (by omega), show r - 1 + 1 = r by omega]
  | succ i ih =>
    intro A v hi
    have h1 := hF.swap A (k := i) (l := i + 1) (A i) v (by omega) hi (by omega)
    rw [upd_self] at h1
    rw [h1, upd_comm _ _ _ (by omega), ih _ _ (by omega), sgn_succ, Int.neg_mul]
    congr 3
    funext r
    by_cases e : r = 0
    · rw [if_pos e, if_pos e]
    · rw [if_neg e, if_neg e]
      unfold upd skip
      by_cases q : r - 1 < i
      · rw [if_pos q, if_neg (by omega), if_pos (by omega)]
      · by_cases q2 : r - 1 = i
        · rw [if_neg q, if_pos (by omega), if_pos (by omega), q2]
        · rw [if_neg q, if_neg (by omega), if_neg (by omega)]
/-- All rows are told as sums with one row v. -/
theorem AltF.rows (A B : Mat) (a : Nat → Int) (v : Nat → Int) (h : ∀ r, r < n → ∀ c, c < d → A r c = a r * v c + B r c) : F A = F B + sm n (fun i => a i * F (upd B i v)) := by
  have key : ∀ k, k ≤ n → F (fun r => if r < k then A r else B r) = F B + sm k (fun i => a i * F (upd B i v)) := by
    intro k
    induction k with
    | zero => intro _; simp [sm]
    | succ k ih =>
      intro hk
      rw [hF.row (fun r => if r < k + 1 then A r else B r) (k := k) (by omega) v (B k) (a k) 1 (fun c hc => by rw [if_pos (by omega), h k (by omega) c hc]; omega)]
      have e1 : upd (fun r => if r < k + 1 then A r else B r) k (B k) = fun r => if r < k then A r else B r := by
        funext r; unfold upd
        by_cases q : r = k
        · rw [if_pos q, if_neg (by omega), q]
        · rw [if_neg q]
          dsimp only
          by_cases q2 : r < k
          · rw [if_pos (by omega), if_pos q2]
          · rw [if_neg (by omega), if_neg q2]
      have e2 : ∀ m, m ≤ k → F (upd (fun r => if r < m then A r else B r) k v) = F (upd B k v) := by
        intro m
        induction m with
        | zero => intro _; simp
        | succ m im =>
          intro hm
          rw [hF.row (upd (fun r => if r < m + 1 then A r else B r) k v) (k := m) (by omega) v (B m) (a m) 1 (fun c hc => by rw [upd_ne _ _ (by omega), if_pos (by omega), h m (by omega) c hc]; omega)]
          rw [hF.alt' (upd (upd (fun r => if r < m + 1 then A r else B r) k v) m v) (k := m) (l := k) (by omega) (by omega) (by omega) (fun c hc => by rw [upd_at, upd_ne _ _ (by omega), upd_at])]
          have e3 : upd (upd (fun r => if r < m + 1 then A r else B r) k v) m (B m) = upd (fun r => if r < m then A r else B r) k v := by
            rw [upd_comm _ _ _ (by omega)]
            congr 1
            funext r; unfold upd
            by_cases q : r = m
            · rw [if_pos q, if_neg (by omega), q]
            · rw [if_neg q]
              dsimp only
              by_cases q2 : r < m
              · rw [if_pos (by omega), if_pos q2]
              · rw [if_neg (by omega), if_neg q2]
          rw [e3, im (by omega)]; omega
      have e4 : upd (fun r => if r < k + 1 then A r else B r) k v = upd (fun r => if r < k then A r else B r) k v := by
        funext r; unfold upd
        by_cases q : r = k
        · rw [if_pos q, if_pos q]
        · rw [if_neg q, if_neg q]
          dsimp only
          by_cases q2 : r < k
          · rw [if_pos (by omega), if_pos q2]
          · rw [if_neg (by omega), if_neg q2]
      rw [e1, e4, e2 k (by omega), ih (by omega), sm]
      omega
  rw [← key n (by omega)]
  exact hF.congr _ _ fun r hr c hc => by rw [if_pos hr]
end
end Go.Proofs.Ytfkncjfpgflafaa.X
