/- Determinants of whole numbers. Plain. -/
/- Determinants: columns, Cramer's rule, blocks, bordered minors, bounds. Plain. -/
/- Elimination without fractions: what stands in the table. Plain. -/
/- A matrix without inverse sends some vector to 0. Plain. -/
/- Sums of fractions over lists; the energy of pulls. Plain. -/
/- Systems of pulls over fractions: forms of tables, the only solution, where it lies, what is least. Plain. -/
import Derived.Test.YtfkncjfpgflafaaYQ
namespace Go.Proofs.Ytfkncjfpgflafaa.X
set_option linter.unusedVariables false
set_option linter.unusedSimpArgs false
/-- (-1)^i. -/
def sgn (i : Nat) : Int := if i % 2 = 0 then 1 else -1
theorem sgn_succ (i : Nat) : sgn (i + 1) = - sgn i := by
 unfold sgn
 by_cases h : i % 2 = 0
 ·rw [if_pos h, if_neg (by omega)]
 ·rw [if_neg h, if_pos (by omega)]; rfl
theorem sgn_sq (i : Nat) : sgn i * sgn i = 1 := by unfold sgn; split <;> rfl
/-- The numbers but i. -/
def skip (i k : Nat) : Nat := if k < i then k else k + 1
theorem skip_ne (i k : Nat) : skip i k ≠ i := by unfold skip; split <;> omega
theorem skip_lt {i k n : Nat} (h : k < n) : skip i k < n + 1 := by unfold skip; split <;> omega
theorem skip_hit {i k n : Nat} (hk : k < n + 1) (hi : i < n + 1) (h : k ≠ i) : ∃ j, j < n ∧ ∀ r, skip i r = k ↔ r = j := by
 refine ⟨if k < i then k else k - 1, by split <;> omega, fun r => ?_⟩
 unfold skip
 split <;> split <;> omega
def sm : Nat → (Nat → Int) → Int
 | 0, _ => 0
 | n + 1, f => sm n f + f n
theorem sm_congr {n : Nat} {f g : Nat → Int} (h : ∀ i, i < n → f i = g i) : sm n f = sm n g := by
 induction n with
 | zero => rfl
 | succ n ih => simp only [sm]; rw [ih fun i hi => h i (by omega), h n (by omega)]
theorem sm_add (n : Nat) (f g : Nat → Int) : sm n (fun i => f i + g i) = sm n f + sm n g := by
 induction n with
 | zero => rfl
 | succ n ih => simp only [sm]; rw [ih]; omega
theorem sm_mul (n : Nat) (x : Int) (f : Nat → Int) : sm n (fun i => x * f i) = x * sm n f := by
 induction n with
 | zero => simp [sm]
 | succ n ih => simp only [sm]; rw [ih, Int.mul_add]
theorem sm_zero {n : Nat} {f : Nat → Int} (h : ∀ i, i < n → f i = 0) : sm n f = 0 := by
 induction n with
 | zero => rfl
 | succ n ih => simp only [sm]; rw [ih fun i hi => h i (by omega), h n (by omega)]; rfl
theorem sm_left (n : Nat) (f : Nat → Int) : sm (n + 1) f = f 0 + sm n (fun i => f (i + 1)) := by
 induction n with
 | zero => simp [sm]
 | succ n ih => rw [sm, ih, sm]; omega
theorem sm_split (a b : Nat) (f : Nat → Int) : sm (a + b) f = sm a f + sm b (fun i => f (a + i)) := by
 induction b with
 | zero => simp [sm]
 | succ b ih => rw [← Nat.add_assoc, sm, ih, sm]; omega
theorem sm_comm (n m : Nat) (f : Nat → Nat → Int) : sm n (fun i => sm m (fun j => f i j)) = sm m (fun j => sm n fun i => f i j) := by
 induction n with
 | zero => simp only [sm]; exact (sm_zero fun _ _ => rfl).symm
 | succ n ih => simp only [sm]; rw [ih, sm_add]
theorem sm_one {n k : Nat} {f : Nat → Int} (hk : k < n) (h : ∀ i, i < n → i ≠ k → f i = 0) : sm n f = f k := by
 induction n with
 | zero => omega
 | succ n ih =>
  simp only [sm]
  by_cases e : k = n
  ·subst e
   rw [sm_zero fun i hi => h i (by omega) (by omega)]; omega
  ·rw [ih (by omega) fun i hi => h i (by omega), h n (by omega) (by omega)]; omega
theorem sm_two {n k : Nat} {f : Nat → Int} (hk : k + 1 < n) (h : ∀ i, i < n → i ≠ k → i ≠ k + 1 → f i = 0) (h2 : f k + f (k + 1) = 0) : sm n f = 0 := by
 induction n with
 | zero => omega
 | succ n ih =>
  simp only [sm]
  by_cases e : k + 1 = n
  ·subst e
   rw [sm_one (k := k) (by omega) fun i hi hn => h i (by omega) hn (by omega)]; exact h2
  ·rw [ih (by omega) fun i hi => h i (by omega), h n (by omega) (by omega) (by omega)]; rfl
abbrev Mat := Nat → Nat → Int
def upd (A : Mat) (k : Nat) (u : Nat → Int) : Mat := fun r => if r = k then u else A r
theorem upd_at (A : Mat) (k : Nat) (u : Nat → Int) : upd A k u k = u := if_pos rfl
theorem upd_ne (A : Mat) {k r : Nat} (u : Nat → Int) (h : r ≠ k) : upd A k u r = A r := if_neg h
theorem upd_self (A : Mat) (k : Nat) : upd A k (A k) = A := by
 funext r; unfold upd; split
 ·rename_i e; rw [e]
 ·rfl
theorem upd_upd (A : Mat) (k : Nat) (u v : Nat → Int) : upd (upd A k u) k v = upd A k v := by
 funext r; unfold upd; split <;> rfl
theorem upd_comm (A : Mat) {k l : Nat} (u v : Nat → Int) (h : k ≠ l) : upd (upd A k u) l v = upd (upd A l v) k u := by
 funext r; unfold upd; split
 ·rename_i e; rw [if_neg (by omega)]
 ·rfl
/-- Without row i and the first column. -/
def minor (A : Mat) (i : Nat) : Mat := fun r c => A (skip i r) (c + 1)
def det : Nat → Mat → Int
 | 0, _ => 1
 | n + 1, A => sm (n + 1) fun i => sgn i * (A i 0 * det n (minor A i))
theorem det_succ (n : Nat) (A : Mat) : det (n + 1) A = sm (n + 1) fun i => sgn i * (A i 0 * det n (minor A i)) := rfl
theorem det_congr {n : Nat} : ∀ {A B : Mat}, (∀ r, r < n → ∀ c, c < n → A r c = B r c) → det n A = det n B := by
 induction n with
 | zero => intros; rfl
 | succ n ih =>
  intro A B h
  rw [det_succ, det_succ]
  refine sm_congr fun i hi => ?_
  rw [h i hi 0 (by omega), ih (A := minor A i) (B := minor B i) fun r hr c hc => h _ (skip_lt hr) _ (by omega)]
theorem minor_upd_at (A : Mat) (k : Nat) (u : Nat → Int) : minor (upd A k u) k = minor A k := by
 funext r c; unfold minor; rw [upd_ne _ _ (skip_ne k r)]
theorem minor_upd_ne {A : Mat} {i j k : Nat} (u : Nat → Int) (h : ∀ r, skip i r = k ↔ r = j) : minor (upd A k u) i = upd (minor A i) j (fun c => u (c + 1)) := by
 funext r c; unfold minor upd
 by_cases e : r = j
 ·rw [if_pos ((h r).2 e), if_pos e]
 ·rw [if_neg (fun q => e ((h r).1 q)), if_neg e]
theorem det_lin {n : Nat} : ∀ (A : Mat) {k : Nat} (u v : Nat → Int) (x y : Int), k < n → det n (upd A k (fun c => x * u c + y * v c)) = x * det n (upd A k u) + y * det n (upd A k v) := by
 induction n with
 | zero => intro A k u v x y h; omega
 | succ n ih =>
  intro A k u v x y hk
  rw [det_succ, det_succ, det_succ, ← sm_mul, ← sm_mul, ← sm_add]
  refine sm_congr fun i hi => ?_
  by_cases e : k = i
  ·subst e
   rw [minor_upd_at, minor_upd_at, minor_upd_at, upd_at, upd_at, upd_at]
   grind
  ·obtain ⟨j, hj, hr⟩ := skip_hit hk hi e
   rw [minor_upd_ne _ hr, minor_upd_ne _ hr, minor_upd_ne _ hr, ih (minor A i) (fun c => u (c + 1)) (fun c => v (c + 1)) x y hj, upd_ne _ _ (Ne.symm e), upd_ne _ _ (Ne.symm e), upd_ne _ _ (Ne.symm e)]
   grind
theorem det_adj {n : Nat} : ∀ (A : Mat) {k : Nat}, k + 1 < n → (∀ c, c < n → A k c = A (k + 1) c) → det n A = 0 := by
 induction n with
 | zero => intro A k h; omega
 | succ n ih =>
  intro A k hk h
  rw [det_succ]
  refine sm_two hk (fun i hi h1 h2 => ?_) ?_
  ·by_cases e : i < k
   ·rw [ih (minor A i) (k := k - 1) (by omega) fun c hc => ?_]; · simp
    have s1 : skip i (k - 1) = k := by unfold skip; split <;> omega
    have s2 : skip i (k - 1 + 1) = k + 1 := by unfold skip; split <;> omega
    unfold minor; rw [s1, s2]; exact h _ (by omega)
   ·rw [ih (minor A i) (k := k) (by omega) fun c hc => ?_]; · simp
    have s1 : skip i k = k := by unfold skip; split <;> omega
    have s2 : skip i (k + 1) = k + 1 := by unfold skip; split <;> omega
    unfold minor; rw [s1, s2]; exact h _ (by omega)
  ·have hm : det n (minor A k) = det n (minor A (k + 1)) := det_congr fun r hr c hc => by
    unfold minor
    by_cases e : r = k
    ·have s1 : skip k r = k + 1 := by unfold skip; split <;> omega
     have s2 : skip (k + 1) r = k := by unfold skip; split <;> omega
     rw [s1, s2, h _ (by omega)]
    ·have s1 : skip k r = skip (k + 1) r := by unfold skip; split <;> split <;> omega
     rw [s1]
   rw [hm, h 0 (by omega), sgn_succ]
   grind
/-- A function of n rows of d numbers: linear in each row, and 0 where two rows are equal. -/
structure AltF (n d : Nat) (F : Mat → Int) : Prop where
 congr : ∀ A B : Mat, (∀ r, r < n → ∀ c, c < d → A r c = B r c) → F A = F B
 lin : ∀ (A : Mat) (k : Nat) (u v : Nat → Int) (x y : Int), k < n → F (upd A k (fun c => x * u c + y * v c)) = x * F (upd A k u) + y * F (upd A k v)
 alt : ∀ (A : Mat) (k l : Nat), k < l → l < n → (∀ c, c < d → A k c = A l c) → F A = 0
/-- Two rows change places. -/
theorem swap_of {n d : Nat} {F : Mat → Int} (lin : ∀ (A : Mat) (k : Nat) (u v : Nat → Int) (x y : Int), k < n → F (upd A k (fun c => x * u c + y * v c)) = x * F (upd A k u) + y * F (upd A k v)) {k l : Nat} (hk : k < n) (hl : l < n) (hne : k ≠ l) (alt : ∀ A : Mat, (∀ c, c < d → A k c = A l c) → F A = 0)
  (A : Mat) (u v : Nat → Int) : F (upd (upd A k u) l v) = - F (upd (upd A k v) l u) := by
 have z : ∀ w : Nat → Int, F (upd (upd A k w) l w) = 0 := fun w => alt _ fun c _ => by rw [upd_at, upd_ne _ _ hne, upd_at]
 have h := z (fun c => 1 * u c + 1 * v c)
 rw [lin _ _ _ _ _ _ hl, upd_comm _ _ _ hne, upd_comm _ _ _ hne, lin _ _ _ _ _ _ hk, lin _ _ _ _ _ _ hk, upd_comm _ u u hne.symm, upd_comm _ v u hne.symm, upd_comm _ u v hne.symm, upd_comm _ v v hne.symm, z u, z v] at h
 rw [upd_comm _ u v hne, upd_comm _ v u hne]
 rw [upd_comm _ u v hne, upd_comm _ v u hne] at h
 omega
theorem det_alt {n : Nat} : ∀ (m : Nat) (A : Mat) (k : Nat), k + 1 + m < n → (∀ c, c < n → A k c = A (k + 1 + m) c) → det n A = 0 := by
 intro m
 induction m with
 | zero => intro A k h1 h2; exact det_adj A h1 h2
 | succ m ih =>
  intro A k h1 h2
  have hs := swap_of (n := n) (d := n) (F := det n) (fun A k u v x y h => det_lin A u v x y h) (k := k + 1 + m) (l := k + 1 + m + 1) (by omega) (by omega) (by omega) (fun A h => det_adj A (by omega) h) A (A (k + 1 + m)) (A (k + 1 + m + 1))
  have e1 : upd (upd A (k + 1 + m) (A (k + 1 + m))) (k + 1 + m + 1) (A (k + 1 + m + 1)) = A := by rw [upd_self, upd_self]
  rw [e1] at hs
  rw [hs, ih _ k (by omega) fun c hc => ?_]; · rfl
  rw [upd_ne _ _ (by omega), upd_ne _ _ (by omega), upd_ne _ _ (by omega), upd_at]
  exact h2 c hc
theorem altf_det (n : Nat) : AltF n n (det n) where
 congr A B h := det_congr h
 lin A k u v x y h := det_lin A u v x y h
 alt A k l h1 h2 h3 := by
  obtain ⟨m, rfl⟩ : ∃ m, l = k + 1 + m := ⟨l - (k + 1), by omega⟩
  exact det_alt m A k h2 h3
section
variable {n d : Nat} {F : Mat → Int} (hF : AltF n d F)
include hF
theorem AltF.swap (A : Mat) {k l : Nat} (u v : Nat → Int) (hk : k < n) (hl : l < n) (h : k ≠ l) : F (upd (upd A k u) l v) = - F (upd (upd A k v) l u) :=
 swap_of (d := d) hF.lin hk hl h (fun A hA => by
  rcases Nat.lt_or_gt_of_ne h with q | q
  ·exact hF.alt A k l q hl hA
  ·exact hF.alt A l k q hk fun c hc => (hA c hc).symm) A u v
theorem AltF.alt' (A : Mat) {k l : Nat} (hk : k < n) (hl : l < n) (h : k ≠ l) (hA : ∀ c, c < d → A k c = A l c) : F A = 0 := by
 rcases Nat.lt_or_gt_of_ne h with q | q
 ·exact hF.alt A k l q hl hA
 ·exact hF.alt A l k q hk fun c hc => (hA c hc).symm
theorem AltF.zero (A : Mat) {k : Nat} (hk : k < n) (h : ∀ c, c < d → A k c = 0) : F A = 0 := by
 have e : F A = F (upd A k (fun c => 0 * A k c + 0 * A k c)) := hF.congr _ _ fun r hr c hc => by
  unfold upd
  by_cases q : r = k
  ·rw [if_pos q, q, h c hc]; simp
  ·rw [if_neg q]
 rw [e, hF.lin _ _ _ _ _ _ hk]; simp
/-- A row is told as a sum. -/
theorem AltF.row (A : Mat) {k : Nat} (hk : k < n) (u v : Nat → Int) (x y : Int) (h : ∀ c, c < d → A k c = x * u c + y * v c) : F A = x * F (upd A k u) + y * F (upd A k v) := by
 rw [← hF.lin _ _ _ _ _ _ hk]
 refine hF.congr _ _ fun r hr c hc => ?_
 unfold upd
 by_cases q : r = k
 ·rw [if_pos q, q, h c hc]
 ·rw [if_neg q]
/-- A row goes to the top. -/
theorem AltF.rot : ∀ (i : Nat) (A : Mat) (v : Nat → Int), i < n → F (upd A i v) = sgn i * F (fun r => if r = 0 then v else A (skip i (r - 1))) := by
 intro i
 induction i with
 | zero =>
  intro A v hi
  rw [show sgn 0 = 1 from rfl, Int.one_mul]
  congr 1
  funext r
  unfold upd skip
  by_cases e : r = 0
  ·rw [if_pos e, if_pos e]
  ·rw [if_neg e, if_neg e, if_neg (by omega), show r - 1 + 1 = r by omega]
 | succ i ih =>
  intro A v hi
  have h1 := hF.swap A (k := i) (l := i + 1) (A i) v (by omega) hi (by omega)
  rw [upd_self] at h1
  rw [h1, upd_comm _ _ _ (by omega), ih _ _ (by omega), sgn_succ, Int.neg_mul]
  congr 3
  funext r
  by_cases e : r = 0
  ·rw [if_pos e, if_pos e]
  ·rw [if_neg e, if_neg e]
   unfold upd skip
   by_cases q : r - 1 < i
   ·rw [if_pos q, if_neg (by omega), if_pos (by omega)]
   ·by_cases q2 : r - 1 = i
    ·rw [if_neg q, if_pos (by omega), if_pos (by omega), q2]
    ·rw [if_neg q, if_neg (by omega), if_neg (by omega)]
/-- All rows are told as sums with one row v. -/
theorem AltF.rows (A B : Mat) (a : Nat → Int) (v : Nat → Int) (h : ∀ r, r < n → ∀ c, c < d → A r c = a r * v c + B r c) : F A = F B + sm n (fun i => a i * F (upd B i v)) := by
 have key : ∀ k, k ≤ n → F (fun r => if r < k then A r else B r) = F B + sm k (fun i => a i * F (upd B i v)) := by
  intro k
  induction k with
  | zero => intro _; simp [sm]
  | succ k ih =>
   intro hk
   rw [hF.row (fun r => if r < k + 1 then A r else B r) (k := k) (by omega) v (B k) (a k) 1 (fun c hc => by rw [if_pos (by omega), h k (by omega) c hc]; omega)]
   have e1 : upd (fun r => if r < k + 1 then A r else B r) k (B k) = fun r => if r < k then A r else B r := by
    funext r; unfold upd
    by_cases q : r = k
    ·rw [if_pos q, if_neg (by omega), q]
    ·rw [if_neg q]
     dsimp only
     by_cases q2 : r < k
     ·rw [if_pos (by omega), if_pos q2]
     ·rw [if_neg (by omega), if_neg q2]
   have e2 : ∀ m, m ≤ k → F (upd (fun r => if r < m then A r else B r) k v) = F (upd B k v) := by
    intro m
    induction m with
    | zero => intro _; simp
    | succ m im =>
     intro hm
     rw [hF.row (upd (fun r => if r < m + 1 then A r else B r) k v) (k := m) (by omega) v (B m) (a m) 1 (fun c hc => by rw [upd_ne _ _ (by omega), if_pos (by omega), h m (by omega) c hc]; omega)]
     rw [hF.alt' (upd (upd (fun r => if r < m + 1 then A r else B r) k v) m v) (k := m) (l := k) (by omega) (by omega) (by omega) (fun c hc => by rw [upd_at, upd_ne _ _ (by omega), upd_at])]
     have e3 : upd (upd (fun r => if r < m + 1 then A r else B r) k v) m (B m) = upd (fun r => if r < m then A r else B r) k v := by
      rw [upd_comm _ _ _ (by omega)]
      congr 1
      funext r; unfold upd
      by_cases q : r = m
      ·rw [if_pos q, if_neg (by omega), q]
      ·rw [if_neg q]
       dsimp only
       by_cases q2 : r < m
       ·rw [if_pos (by omega), if_pos q2]
       ·rw [if_neg (by omega), if_neg q2]
     rw [e3, im (by omega)]; omega
   have e4 : upd (fun r => if r < k + 1 then A r else B r) k v = upd (fun r => if r < k then A r else B r) k v := by
    funext r; unfold upd
    by_cases q : r = k
    ·rw [if_pos q, if_pos q]
    ·rw [if_neg q, if_neg q]
     dsimp only
     by_cases q2 : r < k
     ·rw [if_pos (by omega), if_pos q2]
     ·rw [if_neg (by omega), if_neg q2]
   rw [e1, e4, e2 k (by omega), ih (by omega), sm]
   omega
 rw [← key n (by omega)]
 exact hF.congr _ _ fun r hr c hc => by rw [if_pos hr]
end
end Go.Proofs.Ytfkncjfpgflafaa.X
namespace Go.Proofs.Ytfkncjfpgflafaa.X
set_option linter.unusedVariables false
set_option linter.unusedSimpArgs false
def trp (A : Mat) : Mat := fun r c => A c r
theorem skip_zero (r : Nat) : skip 0 r = r + 1 := by unfold skip; rw [if_neg (by omega)]
theorem skip_succ (i r : Nat) : skip (i + 1) (r + 1) = skip i r + 1 := by unfold skip; split <;> split <;> omega
theorem det_one (A : Mat) : det 1 A = A 0 0 := by simp [det, sm, sgn]
theorem det_trp : ∀ (n : Nat) (A : Mat), det n (trp A) = det n A ∧ det (n + 1) (trp A) = det (n + 1) A := by
 intro n
 induction n with
 | zero => intro A; exact ⟨rfl, by rw [det_one, det_one]; rfl⟩
 | succ n ih =>
  intro A
  refine ⟨(ih A).2, ?_⟩
  have ex : ∀ B : Mat, det (n + 2) B = B 0 0 * det (n + 1) (minor B 0) + sm (n + 1) (fun i => sm (n + 1) (fun j => - (sgn i * sgn j * (B (i + 1) 0 * (B 0 (j + 1) * det n (fun r c => B (skip i r + 1) (skip j c + 1))))))) := by
   intro B
   rw [det_succ, sm_left]
   congr 1
   ·simp [sgn]
   refine sm_congr fun i hi => ?_
   rw [← (ih (minor B (i + 1))).2, det_succ, ← sm_mul, ← sm_mul]
   refine sm_congr fun j hj => ?_
   have e1 : trp (minor B (i + 1)) j 0 = B 0 (j + 1) := by
    unfold trp minor skip; rw [if_pos (by omega)]
   have e2 : det n (minor (trp (minor B (i + 1))) j) = det n (fun r c => B (skip i r + 1) (skip j c + 1)) := by
    rw [← (ih (fun r c => B (skip i r + 1) (skip j c + 1))).1]
    congr 1
    funext r c
    show B (skip (i + 1) (c + 1)) (skip j r + 1) = B (skip i c + 1) (skip j r + 1)
    rw [skip_succ]
   rw [e1, e2, sgn_succ]
   grind
  rw [ex, ex, sm_comm]
  congr 1
  ·congr 1
   have e : minor (trp A) 0 = trp (minor A 0) := by
    funext r c
    show A (c + 1) (skip 0 r) = A (skip 0 c) (r + 1)
    rw [skip_zero, skip_zero]
   rw [e, (ih (minor A 0)).2]
  ·refine sm_congr fun i hi => sm_congr fun j hj => ?_
   have e : det n (fun r c => trp A (skip j r + 1) (skip i c + 1)) = det n (fun r c => A (skip i r + 1) (skip j c + 1)) := by
    rw [← (ih (fun r c => A (skip i r + 1) (skip j c + 1))).1]; rfl
   rw [e]
   unfold trp
   grind
theorem det_tr (n : Nat) (A : Mat) : det n (trp A) = det n A := (det_trp n A).1
/-- A column is set. -/
def ucol (A : Mat) (k : Nat) (u : Nat → Int) : Mat := fun r c => if c = k then u r else A r c
theorem ucol_tr (A : Mat) (k : Nat) (u : Nat → Int) : ucol A k u = trp (upd (trp A) k u) := by
 funext r c; unfold ucol trp upd; split <;> rfl
/-- Two equal columns. -/
theorem det_col_eq {n : Nat} (A : Mat) {k l : Nat} (hk : k < n) (hl : l < n) (h : k ≠ l) (hA : ∀ r, r < n → A r k = A r l) : det n A = 0 := by
 rw [← det_tr]
 exact (altf_det n).alt' (trp A) hk hl h fun c hc => hA c hc
/-- Two columns change places. -/
theorem det_col_swap {n : Nat} (A : Mat) {k l : Nat} (hk : k < n) (hl : l < n) (h : k ≠ l) (u v : Nat → Int) : det n (ucol (ucol A k u) l v) = - det n (ucol (ucol A k v) l u) := by
 have e : ∀ u v : Nat → Int, ucol (ucol A k u) l v = trp (upd (upd (trp A) k u) l v) := by
  intro u v; funext r c; unfold ucol trp upd
  by_cases q : c = l
  ·rw [if_pos q, if_pos q]
  ·rw [if_neg q, if_neg q]
   by_cases q2 : c = k
   ·rw [if_pos q2, if_pos q2]
   ·rw [if_neg q2, if_neg q2]
 rw [e, e, det_tr, det_tr]
 exact (altf_det n).swap _ u v hk hl h
/-- Cramer's rule for rows: a row b is told by the rows of A. -/
theorem cramer_row {n : Nat} (A : Mat) (b : Nat → Int) {c : Nat} (hc : c < n) : det n A * b c = sm n (fun i => det n (upd A i b) * A i c) := by
 have h := det_col_eq (n := n + 1) (fun r k => if r = 0 then b (if k = 0 then c else k - 1) else A (r - 1) (if k = 0 then c else k - 1)) (k := 0) (l := c + 1) (by omega) (by omega) (by omega) (fun r hr => by simp)
 rw [det_succ, sm_left] at h
 have e0 : det n (minor (fun r k => if r = 0 then b (if k = 0 then c else k - 1) else A (r - 1) (if k = 0 then c else k - 1)) 0) = det n A := by
  refine det_congr fun r hr k hk => ?_
  unfold minor
  rw [skip_zero]
  simp
 have e1 : sm n (fun i => sgn (i + 1) * ((if i + 1 = 0 then b (if 0 = 0 then c else 0 - 1) else A (i + 1 - 1) (if 0 = 0 then c else 0 - 1)) * det n (minor (fun r k => if r = 0 then b (if k = 0 then c else k - 1) else A (r - 1) (if k = 0 then c else k - 1)) (i + 1)))) = - sm n (fun i => det n (upd A i b) * A i c) := by
  rw [← Int.neg_one_mul, ← sm_mul]
  refine sm_congr fun i hi => ?_
  have e2 : det n (minor (fun r k => if r = 0 then b (if k = 0 then c else k - 1) else A (r - 1) (if k = 0 then c else k - 1)) (i + 1)) = det n (fun r => if r = 0 then b else A (skip i (r - 1))) := by
   refine det_congr fun r hr k hk => ?_
   unfold minor
   cases r with
   | zero => simp [skip]
   | succ r =>
    show (if skip (i + 1) (r + 1) = 0 then b (if k + 1 = 0 then c else k + 1 - 1) else A (skip (i + 1) (r + 1) - 1) (if k + 1 = 0 then c else k + 1 - 1)) = (if r + 1 = 0 then b else A (skip i (r + 1 - 1))) k
    rw [skip_succ, if_neg (show ¬ skip i r + 1 = 0 by omega), if_neg (show ¬ k + 1 = 0 by omega), if_neg (show ¬ r + 1 = 0 by omega)]
    rfl
  have e3 := (altf_det n).rot i A b hi
  rw [e2, if_neg (by omega), if_pos rfl, sgn_succ, e3, show i + 1 - 1 = i by omega]
  have := sgn_sq i
  grind
 rw [e0, e1, if_pos rfl, if_pos rfl, show sgn 0 = 1 from rfl] at h
 grind
/-- Cramer's rule: what solves a system. -/
theorem cramer {n : Nat} (A : Mat) (b : Nat → Int) {r : Nat} (hr : r < n) : sm n (fun i => A r i * det n (ucol A i b)) = det n A * b r := by
 have h := cramer_row (trp A) b hr
 rw [det_tr] at h
 rw [h]
 refine sm_congr fun i hi => ?_
 rw [ucol_tr, det_tr, Int.mul_comm]; rfl
/-- A block of zeros below. -/
theorem det_block : ∀ (k m : Nat) (B : Mat), (∀ r c, c < k → r < m → B (k + r) c = 0) → det (k + m) B = det k B * det m (fun r c => B (k + r) (k + c)) := by
 intro k
 induction k with
 | zero =>
  intro m B _
  rw [det, Int.one_mul, Nat.zero_add]
  congr 1
  funext r c; rw [Nat.zero_add, Nat.zero_add]
 | succ k ih =>
  intro m B h
  rw [show k + 1 + m = k + m + 1 by omega, det_succ, show k + m + 1 = k + 1 + m by omega, sm_split, sm_zero (n := m) fun i hi => by rw [h i 0 (by omega) hi]; simp]
  rw [Int.add_zero, det_succ, Int.mul_comm, ← sm_mul]
  refine sm_congr fun i hi => ?_
  rw [ih m (minor B i) fun r c hc hr => ?_]
  ·have e : det m (fun r c => minor B i (k + r) (k + c)) = det m (fun r c => B (k + 1 + r) (k + 1 + c)) := by
    congr 1
    funext r c
    unfold minor skip
    rw [if_neg (by omega), show k + r + 1 = k + 1 + r by omega, show k + c + 1 = k + 1 + c by omega]
   rw [e]
   grind
  ·unfold minor skip
   rw [if_neg (by omega), show k + r + 1 = k + 1 + r by omega]
   exact h r (c + 1) (by omega) hr
theorem det_two (A : Mat) : det 2 A = A 0 0 * A 1 1 - A 1 0 * A 0 1 := by
 rw [det_succ, sm, sm, sm, det_one, det_one]
 unfold minor
 simp [sgn, skip]
 grind
/-- What is left of row a when the first k rows have cleared the first k columns, times the determinant of the corner. -/
def clr (k : Nat) (A : Mat) (a : Nat → Int) : Nat → Int := fun c => det k A * a c - sm k (fun i => det k (upd A i a) * A i c)
theorem clr_low {k : Nat} (A : Mat) (a : Nat → Int) {c : Nat} (hc : c < k) : clr k A a c = 0 := by
 unfold clr; rw [cramer_row A a hc]; omega
section
variable {n : Nat} {F : Mat → Int} {d : Nat} (hF : AltF n d F)
include hF
/-- A row is cleared. -/
theorem AltF.clr {k j : Nat} (hk : k ≤ j) (hj : j < n) (A : Mat) : ∀ w : Nat → Int, ∀ m, m ≤ k → F (upd A j (fun c => det k A * A j c - sm m (fun i => w i * A i c))) = det k A * F A := by
 intro w m
 induction m with
 | zero =>
  intro _
  rw [hF.row (upd A j (fun c => det k A * A j c - sm 0 (fun i => w i * A i c))) (k := j) hj (A j) (A j) (det k A) 0 (fun c hc => by rw [upd_at]; simp [sm]), upd_upd, upd_self]
  omega
 | succ m im =>
  intro hm
  rw [hF.row (upd A j (fun c => det k A * A j c - sm (m + 1) (fun i => w i * A i c))) (k := j) hj (fun c => det k A * A j c - sm m (fun i => w i * A i c)) (A m) 1 (- w m) (fun c hc => by rw [upd_at]; simp only [sm]; grind), upd_upd, upd_upd, im (by omega),
   hF.alt' (upd A j (A m)) (k := m) (l := j) (by omega) hj (by omega) fun c hc => by rw [upd_at, upd_ne _ _ (by omega)]]
  omega
end
/-- A bordered minor, by the cleared row. -/
theorem det_border (k : Nat) (A : Mat) (hd : det k A ≠ 0) : det (k + 1) A = clr k A (A k) k := by
 have h := (altf_det (k + 1)).clr (k := k) (j := k) (Nat.le_refl k) (by omega) A (fun i => det k (upd A i (A k))) k (Nat.le_refl k)
 have hb := det_block k 1 (upd A k (clr k A (A k))) fun r c hc hr => by
  rw [show k + r = k by omega, upd_at]; exact clr_low A _ hc
 rw [det_one] at hb
 have e1 : det k (upd A k (clr k A (A k))) = det k A := det_congr fun r hr c hc => by rw [upd_ne _ _ (by omega)]
 rw [e1, show k + 0 = k from rfl, upd_at] at hb
 have h2 : det (k + 1) (upd A k (clr k A (A k))) = det k A * det (k + 1) A := h
 rw [h2] at hb
 exact Int.eq_of_mul_eq_mul_left hd hb
/-- Rows and columns of a bordered minor: those below k, and one more of each. -/
def brd (k a b : Nat) (A : Mat) : Mat := fun r c => A (if r < k then r else a) (if c < k then c else b)
theorem det_brd {k a b : Nat} (A : Mat) (hd : det k A ≠ 0) : det (k + 1) (brd k a b A) = clr k A (A a) b := by
 have e : det k (brd k a b A) = det k A := det_congr fun r hr c hc => by unfold brd; rw [if_pos hr, if_pos hc]
 rw [det_border k _ (by rw [e]; exact hd)]
 unfold clr
 have e1 : brd k a b A k k = A a b := by unfold brd; rw [if_neg (by omega), if_neg (by omega)]
 rw [e, e1]
 congr 1
 refine sm_congr fun i hi => ?_
 have e2 : det k (upd (brd k a b A) i (brd k a b A k)) = det k (upd A i (A a)) := det_congr fun r hr c hc => by
  unfold upd brd
  by_cases q : r = i
  ·rw [if_pos q, if_pos q, if_neg (by omega), if_pos hc]
  ·rw [if_neg q, if_neg q, if_pos hr, if_pos hc]
 have e3 : brd k a b A i k = A i b := by unfold brd; rw [if_pos hi, if_neg (by omega)]
 rw [e2, e3]
/-- Sylvester's identity for two rows and columns. -/
theorem sylvester (k : Nat) (A : Mat) (hd : det k A ≠ 0) :
  det k A * det (k + 2) A = det (k + 1) (brd k k k A) * det (k + 1) (brd k (k + 1) (k + 1) A) - det (k + 1) (brd k (k + 1) k A) * det (k + 1) (brd k k (k + 1) A) := by
 rw [det_brd A hd, det_brd A hd, det_brd A hd, det_brd A hd]
 have h1 := (altf_det (k + 2)).clr (k := k) (j := k) (Nat.le_refl k) (by omega) A (fun i => det k (upd A i (A k))) k (Nat.le_refl k)
 have h1' : det (k + 2) (upd A k (clr k A (A k))) = det k A * det (k + 2) A := h1
 have ek : det k (upd A k (clr k A (A k))) = det k A := det_congr fun r hr c hc => by rw [upd_ne _ _ (by omega)]
 have h2 := (altf_det (k + 2)).clr (k := k) (j := k + 1) (by omega) (by omega) (upd A k (clr k A (A k))) (fun i => det k (upd A i (A (k + 1)))) k (Nat.le_refl k)
 rw [ek, h1'] at h2
 have e2 : (fun c => det k A * upd A k (clr k A (A k)) (k + 1) c - sm k (fun i => det k (upd A i (A (k + 1))) * upd A k (clr k A (A k)) i c)) = clr k A (A (k + 1)) := by
  funext c
  unfold clr
  rw [upd_ne _ _ (by omega)]
  congr 1
  exact sm_congr fun i hi => by rw [upd_ne _ _ (by omega)]
 rw [e2] at h2
 have hb := det_block k 2 (upd (upd A k (clr k A (A k))) (k + 1) (clr k A (A (k + 1)))) fun r c hc hr => by
  rcases Nat.lt_or_ge r 1 with q | q
  ·rw [show k + r = k by omega, upd_ne _ _ (by omega), upd_at]; exact clr_low A _ hc
  ·rw [show k + r = k + 1 by omega, upd_at]; exact clr_low A _ hc
 rw [h2, det_two] at hb
 have e3 : det k (upd (upd A k (clr k A (A k))) (k + 1) (clr k A (A (k + 1)))) = det k A := det_congr fun r hr c hc => by rw [upd_ne _ _ (by omega), upd_ne _ _ (by omega)]
 rw [e3] at hb
 simp only [Nat.add_zero, upd_at, upd_ne _ _ (show k ≠ k + 1 by omega)] at hb
 have h4 := Int.eq_of_mul_eq_mul_left hd hb
 rw [h4]
/-- The size of a determinant. -/
theorem det_bound {B : Nat} : ∀ (n : Nat) (A : Mat), (∀ r, r < n → ∀ c, c < n → (A r c).natAbs ≤ B) → (det n A).natAbs ≤ (n * B) ^ n := by
 have sb : ∀ (n : Nat) (f : Nat → Int) (b : Nat), (∀ i, i < n → (f i).natAbs ≤ b) → (sm n f).natAbs ≤ n * b := by
  intro n f b
  induction n with
  | zero => intro _; simp [sm]
  | succ n ih =>
   intro h
   have h1 := ih fun i hi => h i (by omega)
   have h2 := h n (by omega)
   have h3 := Int.natAbs_add_le (sm n f) (f n)
   rw [sm, Nat.add_mul]
   omega
 intro n
 induction n with
 | zero => intro A _; simp [det]
 | succ n ih =>
  intro A h
  rw [det_succ]
  refine Nat.le_trans (sb _ _ (B * (n * B) ^ n) fun i hi => ?_) ?_
  ·rw [Int.natAbs_mul, Int.natAbs_mul]
   have s1 : (sgn i).natAbs = 1 := by unfold sgn; split <;> rfl
   rw [s1, Nat.one_mul]
   exact Nat.mul_le_mul (h i hi 0 (by omega)) (ih _ fun r hr c hc => h _ (skip_lt hr) _ (by omega))
  ·rw [Nat.pow_succ, Nat.mul_comm (((n + 1) * B) ^ n), Nat.mul_assoc (n + 1)]
   refine Nat.mul_le_mul_left _ (Nat.mul_le_mul_left _ (Nat.pow_le_pow_left (Nat.mul_le_mul_right _ (by omega)) _))
end Go.Proofs.Ytfkncjfpgflafaa.X
namespace Go.Proofs.Ytfkncjfpgflafaa.X
set_option linter.unusedVariables false
set_option linter.unusedSimpArgs false
/-- The minor of the pivots, bordered by row i and column j. -/
def mnr (A : Mat) (γ : Nat → Nat) (k i j : Nat) : Int := det (k + 1) fun r c => A (if r < k then r else i) (if c < k then γ c else j)
/-- The minor of the pivots, column i replaced by column j. -/
def gjm (A : Mat) (γ : Nat → Nat) (k i j : Nat) : Int := det k fun r c => A r (if c = i then j else γ c)
/-- The minor of the pivots. -/
def pdm (A : Mat) (γ : Nat → Nat) (k : Nat) : Int := det k fun r c => A r (γ c)
def setγ (γ : Nat → Nat) (k c : Nat) : Nat → Nat := fun x => if x = k then c else γ x
theorem pdm_succ (A : Mat) (γ : Nat → Nat) (k c : Nat) : pdm A (setγ γ k c) (k + 1) = mnr A γ k k c := by
 unfold pdm mnr
 refine det_congr fun r hr x hx => ?_
 unfold setγ
 have e1 : (if r < k then r else k) = r := by split <;> omega
 have e2 : (if x = k then c else γ x) = (if x < k then γ x else c) := by
  by_cases h : x = k
  ·rw [if_pos h, if_neg (by omega)]
  ·rw [if_neg h, if_pos (by omega)]
 rw [e1, e2]
/-- Sylvester's matrix: the pivots, row k and a further row; column c and column j. -/
def sylM (A : Mat) (γ : Nat → Nat) (k c j : Nat) (z : Nat → Int) : Mat := fun r x => if r < k + 1 then A r (if x < k then γ x else if x = k then c else j) else z x
theorem syl_pd (A : Mat) (γ : Nat → Nat) (k c j : Nat) (z : Nat → Int) : det k (sylM A γ k c j z) = pdm A γ k := det_congr fun r hr x hx => by
 unfold sylM; rw [if_pos (by omega), if_pos hx]
theorem syl_kk (A : Mat) (γ : Nat → Nat) (k c j : Nat) (z : Nat → Int) : det (k + 1) (brd k k k (sylM A γ k c j z)) = mnr A γ k k c := by
 unfold mnr
 refine det_congr fun r hr x hx => ?_
 unfold brd sylM
 have e1 : (if r < k then r else k) < k + 1 := by split <;> omega
 rw [if_pos e1]
 congr 1
 by_cases h : x < k
 ·rw [if_pos h, if_pos h, if_pos h]
 ·rw [if_neg h, if_neg (by omega), if_pos rfl, if_neg h]
theorem syl_kj (A : Mat) (γ : Nat → Nat) (k c j : Nat) (z : Nat → Int) : det (k + 1) (brd k k (k + 1) (sylM A γ k c j z)) = mnr A γ k k j := by
 unfold mnr
 refine det_congr fun r hr x hx => ?_
 unfold brd sylM
 have e1 : (if r < k then r else k) < k + 1 := by split <;> omega
 rw [if_pos e1]
 congr 1
 by_cases h : x < k
 ·rw [if_pos h, if_pos h, if_pos h]
 ·rw [if_neg h, if_neg (by omega), if_neg (by omega), if_neg h]
/-- A row below the pivots. -/
theorem syl_row {A : Mat} {γ : Nat → Nat} {k c j i : Nat} (hd : pdm A γ k ≠ 0) (hi : k < i) :
  mnr A γ k k c * mnr A γ k i j - mnr A γ k i c * mnr A γ k k j = pdm A γ k * mnr A (setγ γ k c) (k + 1) i j := by
 have h := sylvester k (sylM A γ k c j (fun x => A i (if x < k then γ x else if x = k then c else j))) (by rw [syl_pd]; exact hd)
 rw [syl_pd, syl_kk, syl_kj] at h
 have e1 : det (k + 1) (brd k (k + 1) (k + 1) (sylM A γ k c j (fun x => A i (if x < k then γ x else if x = k then c else j)))) = mnr A γ k i j := by
  unfold mnr
  refine det_congr fun r hr x hx => ?_
  unfold brd sylM
  have e2 : (if (if x < k then x else k + 1) < k then γ (if x < k then x else k + 1) else if (if x < k then x else k + 1) = k then c else j) = (if x < k then γ x else j) := by
   by_cases q : x < k
   ·rw [if_pos q, if_pos q, if_pos q]
   ·rw [if_neg q, if_neg (by omega), if_neg (by omega), if_neg q]
  by_cases p : r < k
  ·rw [if_pos p, if_pos (by omega), if_pos p, e2]
  ·rw [if_neg p, if_neg (by omega), if_neg p]
   exact congrArg (A i) e2
 have e2 : det (k + 1) (brd k (k + 1) k (sylM A γ k c j (fun x => A i (if x < k then γ x else if x = k then c else j)))) = mnr A γ k i c := by
  unfold mnr
  refine det_congr fun r hr x hx => ?_
  unfold brd sylM
  have e2 : (if (if x < k then x else k) < k then γ (if x < k then x else k) else if (if x < k then x else k) = k then c else j) = (if x < k then γ x else c) := by
   by_cases q : x < k
   ·rw [if_pos q, if_pos q, if_pos q]
   ·rw [if_neg q, if_neg (by omega), if_pos rfl, if_neg q]
  by_cases p : r < k
  ·rw [if_pos p, if_pos (by omega), if_pos p, e2]
  ·rw [if_neg p, if_neg (by omega), if_neg p]
   exact congrArg (A i) e2
 have e3 : det (k + 2) (sylM A γ k c j (fun x => A i (if x < k then γ x else if x = k then c else j))) = mnr A (setγ γ k c) (k + 1) i j := by
  unfold mnr
  refine det_congr fun r hr x hx => ?_
  unfold sylM setγ
  have e4 : (if x < k then γ x else if x = k then c else j) = (if x < k + 1 then (if x = k then c else γ x) else j) := by
   by_cases q : x < k
   ·rw [if_pos q, if_pos (by omega), if_neg (by omega)]
   ·by_cases q2 : x = k
    ·rw [if_neg q, if_pos q2, if_pos (by omega), if_pos q2]
    ·rw [if_neg q, if_neg q2, if_neg (by omega)]
  by_cases p : r < k + 1
  ·rw [if_pos p, if_pos p, e4]
  ·rw [if_neg p, if_neg p]
   exact congrArg (A i) e4
 rw [e1, e2, e3] at h
 exact h.symm
/-- A last row that is 1 at place i alone. -/
theorem unit_row {n i : Nat} (M : Mat) (hi : i < n) (h : ∀ c, c < n + 1 → M n c = if c = i then 1 else 0) : det (n + 1) M = - det n (fun r c => if c = i then M r n else M r c) := by
 have h1 := det_col_swap (n := n + 1) M (k := i) (l := n) (by omega) (by omega) (by omega) (fun r => M r i) (fun r => M r n)
 have e1 : ucol (ucol M i (fun r => M r i)) n (fun r => M r n) = M := by
  funext r c; unfold ucol
  by_cases q : c = n
  ·rw [if_pos q, q]
  ·rw [if_neg q]
   by_cases q2 : c = i
   ·rw [if_pos q2, q2]
   ·rw [if_neg q2]
 rw [e1] at h1
 rw [h1]
 congr 1
 rw [det_block n 1 _ fun r c hc hr => ?_, det_one]
 ·have e2 : ucol (ucol M i (fun r => M r n)) n (fun r => M r i) (n + 0) (n + 0) = 1 := by
   unfold ucol
   rw [Nat.add_zero, if_pos rfl]
   show M n i = 1
   rw [h i (by omega), if_pos rfl]
  rw [e2, Int.mul_one]
  refine det_congr fun r hr c hc => ?_
  unfold ucol
  rw [if_neg (by omega)]
 ·have hr0 : r = 0 := by omega
  subst hr0
  unfold ucol
  rw [if_neg (by omega)]
  show (if c = i then M n n else M n c) = 0
  by_cases q : c = i
  ·rw [if_pos q, h n (by omega), if_neg (by omega)]
  ·rw [if_neg q, h c (by omega), if_neg q]
/-- A row of the pivots. -/
theorem syl_top {A : Mat} {γ : Nat → Nat} {k c j i : Nat} (hd : pdm A γ k ≠ 0) (hi : i < k) :
  mnr A γ k k c * gjm A γ k i j - gjm A γ k i c * mnr A γ k k j = pdm A γ k * gjm A (setγ γ k c) (k + 1) i j := by
 have h := sylvester k (sylM A γ k c j (fun x => if x = i then 1 else 0)) (by rw [syl_pd]; exact hd)
 rw [syl_pd, syl_kk, syl_kj] at h
 have brdrow : ∀ b : Nat, (b = k ∨ b = k + 1) → ∀ x, x < k + 1 → brd k (k + 1) b (sylM A γ k c j (fun x => if x = i then 1 else 0)) k x = if x = i then 1 else 0 := by
  intro b hb x hx
  unfold brd sylM
  rw [if_neg (Nat.lt_irrefl k), if_neg (Nat.lt_irrefl (k + 1))]
  by_cases q : x < k
  ·rw [if_pos q]
  ·rw [if_neg q]
   show (if b = i then (1 : Int) else 0) = if x = i then 1 else 0
   rw [if_neg (by omega), if_neg (by omega)]
 have e1 : det (k + 1) (brd k (k + 1) (k + 1) (sylM A γ k c j (fun x => if x = i then 1 else 0))) = - gjm A γ k i j := by
  rw [unit_row _ hi (brdrow (k + 1) (.inr rfl))]
  congr 1
  unfold gjm
  refine det_congr fun r hr x hx => ?_
  by_cases q : x = i
  ·rw [if_pos q, if_pos q]
   unfold brd sylM
   rw [if_pos hr, if_pos (show r < k + 1 by omega), if_neg (Nat.lt_irrefl k), if_neg (show ¬ k + 1 < k by omega), if_neg (show ¬ k + 1 = k by omega)]
  ·rw [if_neg q, if_neg q]
   unfold brd sylM
   rw [if_pos hr, if_pos (show r < k + 1 by omega), if_pos hx, if_pos hx]
 have e2 : det (k + 1) (brd k (k + 1) k (sylM A γ k c j (fun x => if x = i then 1 else 0))) = - gjm A γ k i c := by
  rw [unit_row _ hi (brdrow k (.inl rfl))]
  congr 1
  unfold gjm
  refine det_congr fun r hr x hx => ?_
  by_cases q : x = i
  ·rw [if_pos q, if_pos q]
   unfold brd sylM
   rw [if_pos hr, if_pos (show r < k + 1 by omega), if_neg (Nat.lt_irrefl k), if_neg (Nat.lt_irrefl k), if_pos rfl]
  ·rw [if_neg q, if_neg q]
   unfold brd sylM
   rw [if_pos hr, if_pos (show r < k + 1 by omega), if_pos hx, if_pos hx]
 have e3 : det (k + 2) (sylM A γ k c j (fun x => if x = i then 1 else 0)) = - gjm A (setγ γ k c) (k + 1) i j := by
  rw [unit_row (n := k + 1) (i := i) _ (by omega) fun x hx => by unfold sylM; rw [if_neg (by omega)]]
  congr 1
  unfold gjm
  refine det_congr fun r hr x hx => ?_
  by_cases q : x = i
  ·rw [if_pos q, if_pos q]
   unfold sylM
   rw [if_pos hr, if_neg (show ¬ k + 1 < k by omega), if_neg (show ¬ k + 1 = k by omega)]
  ·rw [if_neg q, if_neg q]
   unfold sylM setγ
   rw [if_pos hr]
   by_cases q2 : x = k
   ·rw [if_neg (show ¬ x < k by omega), if_pos q2, if_pos q2]
   ·rw [if_pos (show x < k by omega), if_neg q2]
 rw [e1, e2, e3] at h
 grind
/-- The new pivot's own row. -/
theorem gjm_new (A : Mat) (γ : Nat → Nat) (k c j : Nat) : gjm A (setγ γ k c) (k + 1) k j = mnr A γ k k j := by
 unfold gjm mnr
 refine det_congr fun r hr x hx => ?_
 unfold setγ
 have e1 : (if r < k then r else k) = r := by split <;> omega
 rw [e1]
 by_cases q : x = k
 ·rw [if_pos q, if_neg (by omega)]
 ·rw [if_neg q, if_neg q, if_pos (by omega)]
/-- Two rows change places. -/
def swapR (A : Mat) (s k : Nat) : Mat := fun r => A (if r = k then s else if r = s then k else r)
theorem swapR_self (A : Mat) (k : Nat) : swapR A k k = A := by
 funext r; unfold swapR
 by_cases h : r = k
 ·rw [if_pos h, h]
 ·rw [if_neg h, if_neg h]
theorem swapR_low (A : Mat) {s k r : Nat} (hs : k ≤ s) (hr : r < k) : swapR A s k r = A r := by unfold swapR; rw [if_neg (by omega), if_neg (by omega)]
theorem pdm_swap (A : Mat) (γ : Nat → Nat) {k s : Nat} (hs : k ≤ s) : pdm (swapR A s k) γ k = pdm A γ k := det_congr fun r hr c hc => by rw [swapR_low A hs hr]
theorem gjm_swap (A : Mat) (γ : Nat → Nat) {k s : Nat} (hs : k ≤ s) (i j : Nat) : gjm (swapR A s k) γ k i j = gjm A γ k i j := det_congr fun r hr c hc => by rw [swapR_low A hs hr]
theorem mnr_swap (A : Mat) (γ : Nat → Nat) {k s i : Nat} (hs : k ≤ s) (hi : k ≤ i) (j : Nat) : mnr (swapR A s k) γ k i j = mnr A γ k (if i = k then s else if i = s then k else i) j := by
 unfold mnr
 refine det_congr fun r hr c hc => ?_
 by_cases h : r < k
 ·rw [if_pos h, swapR_low A hs h, if_pos h]
 ·rw [if_neg h, if_neg h]; rfl
theorem det_swapR {n s k : Nat} (A : Mat) (hs : s < n) (hk : k < n) (h : s ≠ k) : det n (swapR A s k) = - det n A := by
 have h1 := (altf_det n).swap A (k := k) (l := s) (A s) (A k) hk hs (Ne.symm h)
 have e1 : swapR A s k = upd (upd A k (A s)) s (A k) := by
  funext r; unfold swapR upd
  by_cases q : r = k
  ·rw [if_pos q, if_neg (by omega), if_pos q]
  ·rw [if_neg q, if_neg q]
   by_cases q2 : r = s
   ·rw [if_pos q2, if_pos q2]
   ·rw [if_neg q2, if_neg q2]
 have e2 : upd (upd A k (A k)) s (A s) = A := by rw [upd_self, upd_self]
 rw [e1, h1, e2]
/-- No pivot in the next column: the determinant is 0. -/
theorem det_nopivot {n k : Nat} (A : Mat) (hk : k < n) (hd : det k A ≠ 0) (h : ∀ i, k ≤ i → i < n → det (k + 1) (brd k i k A) = 0) : det n A = 0 := by
 have hd' : det k (trp A) ≠ 0 := by rw [det_tr]; exact hd
 have h1 := (altf_det n).clr (k := k) (j := k) (Nat.le_refl k) hk (trp A) (fun i => det k (upd (trp A) i (trp A k))) k (Nat.le_refl k)
 have h2 : det n (upd (trp A) k (clr k (trp A) (trp A k))) = det k (trp A) * det n (trp A) := h1
 have h3 : det n (upd (trp A) k (clr k (trp A) (trp A k))) = 0 := by
  refine (altf_det n).zero _ hk fun c hc => ?_
  rw [upd_at]
  by_cases q : c < k
  ·exact clr_low _ _ q
  ·rw [← det_brd (a := k) (b := c) (trp A) hd']
   have e : brd k k c (trp A) = trp (brd k c k A) := by funext x y; rfl
   rw [e, det_tr]
   exact h c (by omega) hc
 rw [h3, det_tr, det_tr] at h2
 rcases Int.mul_eq_zero.1 h2.symm with q | q
 ·exact absurd q hd
 ·exact q
end Go.Proofs.Ytfkncjfpgflafaa.X
namespace Go.Proofs.Ytfkncjfpgflafaa.X
set_option linter.unusedVariables false
set_option linter.unusedSimpArgs false
/-- v is not 0, and M sends it to 0. -/
def Ker (n : Nat) (M : Mat) (v : Nat → Int) : Prop := (∃ i, i < n ∧ v i ≠ 0) ∧ ∀ r, r < n → sm n (fun j => M r j * v j) = 0
theorem ker_step {n k : Nat} (A : Mat) (hk : k < n) (hd : det k A ≠ 0) (h : ∀ i, k ≤ i → i < n → det (k + 1) (brd k i k A) = 0) : ∃ v, Ker n A v := by
 have hd' : det k (trp A) ≠ 0 := by rw [det_tr]; exact hd
 have hz : ∀ r, r < n → clr k (trp A) (trp A k) r = 0 := by
  intro r hr
  by_cases q : r < k
  ·exact clr_low _ _ q
  ·rw [← det_brd (a := k) (b := r) (trp A) hd']
   have e : brd k k r (trp A) = trp (brd k r k A) := by funext x y; rfl
   rw [e, det_tr]
   exact h r (by omega) hr
 refine ⟨fun j => if j < k then det k (upd (trp A) j (trp A k)) else if j = k then - det k (trp A) else 0, ⟨k, hk, ?_⟩, fun r hr => ?_⟩
 ·simp only [Nat.lt_irrefl, if_false, if_true]; omega
 ·have h1 := hz r hr
  unfold clr at h1
  obtain ⟨m, rfl⟩ : ∃ m, n = k + (m + 1) := ⟨n - k - 1, by omega⟩
  rw [sm_split, sm_left]
  have e1 : sm k (fun j => A r j * (if j < k then det k (upd (trp A) j (trp A k)) else if j = k then - det k (trp A) else 0)) = sm k (fun i => det k (upd (trp A) i (trp A k)) * trp A i r) := sm_congr fun j hj => by
   rw [if_pos hj]; exact Int.mul_comm _ _
  have e2 : sm m (fun i => A r (k + (i + 1)) * (if k + (i + 1) < k then det k (upd (trp A) (k + (i + 1)) (trp A k)) else if k + (i + 1) = k then - det k (trp A) else 0)) = 0 := sm_zero fun j hj => by
   rw [if_neg (by omega), if_neg (by omega)]; simp
  rw [e1, e2, Nat.add_zero]
  show _ + (A r k * (if k < k then det k (upd (trp A) k (trp A k)) else if k = k then - det k (trp A) else 0) + 0) = 0
  rw [if_neg (Nat.lt_irrefl k), if_pos rfl]
  have e3 : A r k = trp A k r := rfl
  rw [e3]
  grind
theorem det_ker {n : Nat} (M : Mat) (h : det n M = 0) : ∃ v, Ker n M v := by
 have key : ∀ k, k ≤ n → (∃ v, Ker n M v) ∨ ∃ A : Mat, det k A ≠ 0 ∧ (∀ r, r < n → ∃ r', r' < n ∧ M r = A r') ∧ (det n A = 0 → det n M = 0) ∧ (det n M = 0 → det n A = 0) := by
  intro k
  induction k with
  | zero => intro _; exact .inr ⟨M, (by show (1 : Int) ≠ 0; decide), fun r hr => ⟨r, hr, rfl⟩, id, id⟩
  | succ k ih =>
   intro hk
   rcases ih (by omega) with q | ⟨A, h1, h2, h3, h4⟩
   ·exact .inl q
   by_cases q : ∃ i, k ≤ i ∧ i < n ∧ det (k + 1) (brd k i k A) ≠ 0
   ·obtain ⟨i, i1, i2, i3⟩ := q
    refine .inr ⟨swapR A i k, ?_, fun r hr => ?_, ?_, ?_⟩
    ·have e : det (k + 1) (swapR A i k) = det (k + 1) (brd k i k A) := det_congr fun r hr c hc => by
      unfold swapR brd
      have ec : (if c < k then c else k) = c := by split <;> omega
      rw [ec]
      by_cases p : r < k
      ·rw [if_neg (by omega), if_neg (by omega), if_pos p]
      ·rw [if_pos (by omega), if_neg p]
     rw [e]; exact i3
    ·obtain ⟨r', a, b⟩ := h2 r hr
     refine ⟨if r' = k then i else if r' = i then k else r', ?_, ?_⟩
     ·split
      ·exact i2
      ·split <;> omega
     ·rw [b]
      unfold swapR
      by_cases p : r' = k
      ·rw [if_pos p]
       by_cases p2 : i = k
       ·rw [if_pos p2, p2, p]
       ·rw [if_neg p2, if_pos rfl, p]
      ·by_cases p2 : r' = i
       ·rw [if_neg p, if_pos p2, if_pos rfl, p2]
       ·rw [if_neg p, if_neg p2, if_neg p, if_neg p2]
    ·intro p
     refine h3 ?_
     by_cases e : i = k
     ·subst e; rwa [swapR_self] at p
     ·rw [det_swapR A i2 (by omega) e] at p; omega
    ·intro p
     by_cases e : i = k
     ·subst e; rw [swapR_self]; exact h4 p
     ·rw [det_swapR A i2 (by omega) e, h4 p]; rfl
   ·obtain ⟨v, v1, v2⟩ := ker_step A (by omega) h1 fun i a b => Decidable.byContradiction fun p => q ⟨i, a, b, p⟩
    refine .inl ⟨v, v1, fun r hr => ?_⟩
    obtain ⟨r', a, b⟩ := h2 r hr
    rw [b]; exact v2 r' a
 rcases key n (Nat.le_refl n) with q | ⟨A, h1, -, -, h4⟩
 ·exact q
 ·exact absurd (h4 h) h1
end Go.Proofs.Ytfkncjfpgflafaa.X
namespace Go.Proofs.Ytfkncjfpgflafaa.X
set_option linter.unusedVariables false
set_option linter.unusedSimpArgs false
section
variable {α β : Type}
def qs (l : List α) (g : α → Rat) : Rat := l.foldr (fun x s => g x + s) 0
theorem qs_nil (g : α → Rat) : qs [] g = 0 := rfl
theorem qs_cons (x : α) (l : List α) (g : α → Rat) : qs (x :: l) g = g x + qs l g := rfl
theorem qs_congr {l : List α} {g h : α → Rat} (e : ∀ x ∈ l, g x = h x) : qs l g = qs l h := by
 induction l with
 | nil => rfl
 | cons x l ih => rw [qs_cons, qs_cons, e x (by simp), ih fun y hy => e y (by simp [hy])]
theorem qs_add (l : List α) (g h : α → Rat) : qs l (fun x => g x + h x) = qs l g + qs l h := by
 induction l with
 | nil => rw [qs_nil, qs_nil, qs_nil]; grind
 | cons x l ih => rw [qs_cons, qs_cons, qs_cons, ih]; grind
theorem qs_sub (l : List α) (g h : α → Rat) : qs l (fun x => g x - h x) = qs l g - qs l h := by
 induction l with
 | nil => rw [qs_nil, qs_nil, qs_nil]; grind
 | cons x l ih => rw [qs_cons, qs_cons, qs_cons, ih]; grind
theorem qs_mul (l : List α) (c : Rat) (g : α → Rat) : qs l (fun x => c * g x) = c * qs l g := by
 induction l with
 | nil => rw [qs_nil, qs_nil]; grind
 | cons x l ih => rw [qs_cons, qs_cons, ih]; grind
theorem qs_mul_r (l : List α) (c : Rat) (g : α → Rat) : qs l (fun x => g x * c) = qs l g * c := by
 induction l with
 | nil => rw [qs_nil, qs_nil]; grind
 | cons x l ih => rw [qs_cons, qs_cons, ih]; grind
theorem qs_zero {l : List α} {g : α → Rat} (e : ∀ x ∈ l, g x = 0) : qs l g = 0 := by
 induction l with
 | nil => rfl
 | cons x l ih => rw [qs_cons, e x (by simp), ih fun y hy => e y (by simp [hy])]; grind
theorem qs_app (l m : List α) (g : α → Rat) : qs (l ++ m) g = qs l g + qs m g := by
 induction l with
 | nil => rw [List.nil_append, qs_nil]; grind
 | cons x l ih => rw [List.cons_append, qs_cons, qs_cons, ih]; grind
theorem qs_const (l : List α) (c : Rat) : qs l (fun _ => c) = (l.length : Rat) * c := by
 induction l with
 | nil => rw [qs_nil, List.length_nil]; grind
 | cons x l ih =>
  rw [qs_cons, ih, List.length_cons]
  have : ((l.length + 1 : Nat) : Rat) = (l.length : Rat) + 1 := by simp
  rw [this]; grind
theorem qs_nonneg {l : List α} {g : α → Rat} (h : ∀ x ∈ l, 0 ≤ g x) : 0 ≤ qs l g := by
 induction l with
 | nil => rw [qs_nil]; grind
 | cons x l ih =>
  have h1 := h x (by simp)
  have h2 := ih fun y hy => h y (by simp [hy])
  rw [qs_cons]; grind
/-- A sum of what is not negative is 0 just if all are. -/
theorem qs_all_zero {l : List α} {g : α → Rat} (h : ∀ x ∈ l, 0 ≤ g x) (h0 : qs l g = 0) : ∀ x ∈ l, g x = 0 := by
 induction l with
 | nil => intro x hx; simp at hx
 | cons y l ih =>
  have h1 := h y (by simp)
  have h2 := qs_nonneg fun x (hx : x ∈ l) => h x (by simp [hx])
  rw [qs_cons] at h0
  have e1 : g y = 0 := by grind
  have e2 : qs l g = 0 := by grind
  intro x hx
  rcases List.mem_cons.1 hx with rfl | q
  ·exact e1
  ·exact ih (fun x hx => h x (by simp [hx])) e2 x q
theorem qs_le {l : List α} {g h : α → Rat} (e : ∀ x ∈ l, g x ≤ h x) : qs l g ≤ qs l h := by
 induction l with
 | nil => rw [qs_nil, qs_nil]; grind
 | cons x l ih =>
  have h1 := e x (by simp)
  have h2 := ih fun y hy => e y (by simp [hy])
  rw [qs_cons, qs_cons]; grind
/-- The energy of pairs, of two functions. -/
def bil (l : List α) (x f : α → Rat) : Rat := (l.length : Rat) * qs l (fun c => x c * f c) - qs l x * qs l f
theorem len_cons (y : α) (l : List α) : ((y :: l).length : Rat) = (l.length : Rat) + 1 := by rw [List.length_cons]; simp
theorem bil_cons (y : α) (l : List α) (x f : α → Rat) : bil (y :: l) x f = bil l x f + qs l (fun d => (x y - x d) * (f y - f d)) := by
 have e : qs l (fun d => (x y - x d) * (f y - f d)) = (l.length : Rat) * (x y * f y) - x y * qs l f - qs l x * f y + qs l (fun c => x c * f c) := by
  rw [← qs_const l (x y * f y), ← qs_mul, ← qs_mul_r, ← qs_sub, ← qs_sub, ← qs_add]
  exact qs_congr fun d _ => by grind
 unfold bil
 rw [e, len_cons, qs_cons, qs_cons, qs_cons]
 grind
theorem bil_le {l : List α} {x f : α → Rat} (h : ∀ c ∈ l, ∀ d ∈ l, (f c - f d) * (f c - f d) ≤ (x c - x d) * (f c - f d)) : bil l f f ≤ bil l x f := by
 induction l with
 | nil => unfold bil; rw [qs_nil, qs_nil, qs_nil]; grind
 | cons y l ih =>
  rw [bil_cons, bil_cons]
  have h1 := ih fun c hc d hd => h c (by simp [hc]) d (by simp [hd])
  have h2 : qs l (fun d => (f y - f d) * (f y - f d)) ≤ qs l (fun d => (x y - x d) * (f y - f d)) := qs_le fun d hd => h y (by simp) d (by simp [hd])
  grind
theorem sq_nonneg (a : Rat) : 0 ≤ a * a := by
 rcases Rat.le_total (a := 0) (b := a) with h | h
 ·exact Rat.mul_nonneg h h
 ·have : 0 ≤ (-a) * (-a) := Rat.mul_nonneg (by grind) (by grind)
  grind
theorem sq_zero {a : Rat} (h : a * a = 0) : a = 0 := by grind
theorem bil_nonneg (l : List α) (f : α → Rat) : 0 ≤ bil l f f := by
 induction l with
 | nil => unfold bil; rw [qs_nil, qs_nil]; grind
 | cons y l ih =>
  rw [bil_cons]
  have := qs_nonneg (l := l) (g := fun d => (f y - f d) * (f y - f d)) fun d _ => sq_nonneg _
  grind
theorem bil_zero {l : List α} {f : α → Rat} (h : bil l f f = 0) : ∀ c ∈ l, ∀ d ∈ l, f c = f d := by
 induction l with
 | nil => intro c hc; simp at hc
 | cons y l ih =>
  rw [bil_cons] at h
  have h1 := bil_nonneg l f
  have h2 := qs_nonneg (l := l) (g := fun d => (f y - f d) * (f y - f d)) fun d _ => sq_nonneg _
  have h3 : bil l f f = 0 := by grind
  have h4 : qs l (fun d => (f y - f d) * (f y - f d)) = 0 := by grind
  have h5 := qs_all_zero (l := l) (fun d _ => sq_nonneg (f y - f d)) h4
  have h6 : ∀ d ∈ l, f y = f d := fun d hd => by have := sq_zero (h5 d hd); grind
  have h7 := ih h3
  intro c hc d hd
  rcases List.mem_cons.1 hc with rfl | p
  ·rcases List.mem_cons.1 hd with rfl | q
   ·rfl
   ·exact h6 d q
  ·rcases List.mem_cons.1 hd with rfl | q
   ·exact (h6 c p).symm
   ·exact h7 c p d q
end
/-- A net: a weight, cells, fixed numbers. -/
structure Net where
 w : Rat
 cs : List Int
 as : List Rat
/-- What a net says of a cell of it: so many times its place, less the sum of all places. -/
def Net.g (p : Net) (x : Int → Rat) (c : Int) : Rat := ((p.cs.length : Rat) + (p.as.length : Rat)) * x c - qs p.cs x - qs p.as (fun a => a)
/-- All nets together, tested by f. -/
def work (ps : List Net) (x f : Int → Rat) : Rat := qs ps fun p => p.w * qs p.cs fun c => f c * p.g x c
theorem work_eq (ps : List Net) (x f : Int → Rat) : work ps x f = qs ps fun p => p.w * (bil p.cs x f + qs p.cs fun c => qs p.as fun a => f c * (x c - a)) := by
 unfold work
 refine qs_congr fun p _ => ?_
 congr 1
 have e : ∀ c, qs p.as (fun a => f c * (x c - a)) = (p.as.length : Rat) * (x c * f c) - f c * qs p.as (fun a => a) := by
  intro c
  rw [← qs_const p.as (x c * f c), ← qs_mul, ← qs_sub]
  exact qs_congr fun a _ => by grind
 have e2 : qs p.cs (fun c => qs p.as fun a => f c * (x c - a)) = (p.as.length : Rat) * qs p.cs (fun c => x c * f c) - qs p.cs f * qs p.as (fun a => a) := by
  rw [← qs_mul, ← qs_mul_r, ← qs_sub]
  exact qs_congr fun c _ => by rw [e]
 have e3 : qs p.cs (fun c => f c * p.g x c) = ((p.cs.length : Rat) + (p.as.length : Rat)) * qs p.cs (fun c => x c * f c) - qs p.cs f * qs p.cs x - qs p.cs f * qs p.as (fun a => a) := by
  rw [← qs_mul, ← qs_mul_r, ← qs_mul_r, ← qs_sub, ← qs_sub]
  exact qs_congr fun c _ => by unfold Net.g; grind
 rw [e2, e3]
 unfold bil
 grind
/-- What vanishes on fixed numbers' nets and is equal within each net, vanishes on all cells. -/
def HeldN (n : Int) (ps : List Net) : Prop := ∀ f : Int → Rat, (∀ p ∈ ps, (∀ c ∈ p.cs, ∀ d ∈ p.cs, f c = f d) ∧ (p.as ≠ [] → ∀ c ∈ p.cs, f c = 0)) → ∀ c, 0 ≤ c → c < n → f c = 0
section
variable {n : Int} {ps : List Net} (hw : ∀ p ∈ ps, 0 < p.w) (hh : HeldN n ps)
include hw hh
/-- The test: where all work is 0 and no net's is negative, the function vanishes. -/
theorem held_test {x f : Int → Rat} (h0 : work ps x f = 0) (h1 : ∀ p ∈ ps, ∀ c ∈ p.cs, ∀ d ∈ p.cs, (f c - f d) * (f c - f d) ≤ (x c - x d) * (f c - f d)) (h2 : ∀ p ∈ ps, ∀ c ∈ p.cs, ∀ a ∈ p.as, f c * f c ≤ f c * (x c - a)) : ∀ c, 0 ≤ c → c < n → f c = 0 := by
 rw [work_eq] at h0
 have nn : ∀ p ∈ ps, 0 ≤ bil p.cs x f ∧ 0 ≤ qs p.cs (fun c => qs p.as fun a => f c * (x c - a)) := by
  intro p hp
  have a1 := bil_le (h1 p hp)
  have a2 := bil_nonneg p.cs f
  refine ⟨by grind, qs_nonneg fun c hc => qs_nonneg fun a ha => ?_⟩
  have a3 := h2 p hp c hc a ha
  have a4 := sq_nonneg (f c)
  grind
 have z := qs_all_zero (l := ps) (g := fun p => p.w * (bil p.cs x f + qs p.cs fun c => qs p.as fun a => f c * (x c - a))) (fun p hp => by
  obtain ⟨b1, b2⟩ := nn p hp
  have b3 := hw p hp
  exact Rat.mul_nonneg (by grind) (by grind)) h0
 refine hh f fun p hp => ?_
 have b3 := hw p hp
 have b4 := z p hp
 obtain ⟨b1, b2⟩ := nn p hp
 have b5 : bil p.cs x f + qs p.cs (fun c => qs p.as fun a => f c * (x c - a)) = 0 := by
  rcases Rat.mul_eq_zero.1 b4 with q | q
  ·grind
  ·exact q
 have b6 : bil p.cs x f = 0 := by grind
 have b7 : qs p.cs (fun c => qs p.as fun a => f c * (x c - a)) = 0 := by grind
 refine ⟨bil_zero ?_, fun ha c hc => ?_⟩
 ·have a1 := bil_le (h1 p hp)
  have a2 := bil_nonneg p.cs f
  grind
 ·have c1 := qs_all_zero (l := p.cs) (fun c hc => qs_nonneg (l := p.as) (g := fun a => f c * (x c - a)) fun a ha => by
   have a3 := h2 p hp c hc a ha
   have a4 := sq_nonneg (f c)
   grind) b7 c hc
  obtain ⟨a, ha'⟩ := List.exists_mem_of_ne_nil _ ha
  have c2 := qs_all_zero (l := p.as) (g := fun a => f c * (x c - a)) (fun a ha => by
   have a3 := h2 p hp c hc a ha
   have a4 := sq_nonneg (f c)
   grind) c1 a ha'
  have a3 := h2 p hp c hc a ha'
  have a4 := sq_nonneg (f c)
  exact sq_zero (by grind)
end
end Go.Proofs.Ytfkncjfpgflafaa.X
namespace Go.Proofs.Ytfkncjfpgflafaa.X
set_option linter.unusedVariables false
set_option linter.unusedSimpArgs false
theorem qs_point {n c : Nat} (hc : c < n) {g g' : Nat → Rat} {t : Rat} (h1 : g' c = g c + t) (h2 : ∀ i, i < n → i ≠ c → g' i = g i) : qs (List.range n) g' = qs (List.range n) g + t := by
 induction n with
 | zero => omega
 | succ n ih =>
  rw [List.range_succ, qs_app, qs_app]
  by_cases q : c = n
  ·subst q
   rw [qs_congr (l := List.range c) (g := g') (h := g) fun i hi => h2 i (by have := List.mem_range.1 hi; omega) (by have := List.mem_range.1 hi; omega), qs_cons, qs_nil, qs_cons, qs_nil, h1]
   grind
  ·rw [ih (by omega) fun i hi hne => h2 i (by omega) hne, qs_cons, qs_nil, qs_cons, qs_nil, h2 n (by omega) (by omega)]
   grind
theorem qs_sm (n : Nat) (g : Nat → Int) : qs (List.range n) (fun i => ((g i : Int) : Rat)) = ((sm n g : Int) : Rat) := by
 induction n with
 | zero => rfl
 | succ n ih =>
  rw [List.range_succ, qs_app, ih, qs_cons, qs_nil]
  show _ = ((sm n g + g n : Int) : Rat)
  rw [Rat.intCast_add]; grind
/-- The form of a table. -/
def form (A : Mat) (n : Nat) (f x : Int → Rat) : Rat := qs (List.range n) fun i => f (i : Int) * qs (List.range n) fun j => ((A i j : Int) : Rat) * x (j : Int)
/-- The form of a column. -/
def lin (b : Nat → Int) (n : Nat) (f : Int → Rat) : Rat := qs (List.range n) fun i => f (i : Int) * ((b i : Int) : Rat)
theorem form_upd {A A' : Mat} {n c d : Nat} (hc : c < n) (hd : d < n) (v : Int) (h1 : A' c d = A c d + v) (h2 : ∀ i j, i < n → j < n → ¬(i = c ∧ j = d) → A' i j = A i j) (f x : Int → Rat) : form A' n f x = form A n f x + f (c : Int) * ((v : Rat) * x (d : Int)) := by
 unfold form
 refine qs_point hc ?_ fun i hi hne => ?_
 ·rw [qs_point (n := n) (c := d) hd (g := fun j => ((A c j : Int) : Rat) * x (j : Int)) (t := (v : Rat) * x (d : Int)) (by rw [h1, Rat.intCast_add]; grind) fun j hj hne => by rw [h2 c j hc hj (by omega)]]
  grind
 ·congr 1
  exact qs_congr fun j hj => by rw [h2 i j hi (List.mem_range.1 hj) (by omega)]
theorem lin_upd {b b' : Nat → Int} {n c : Nat} (hc : c < n) (v : Int) (h1 : b' c = b c + v) (h2 : ∀ i, i < n → i ≠ c → b' i = b i) (f : Int → Rat) : lin b' n f = lin b n f + f (c : Int) * (v : Rat) := by
 unfold lin
 exact qs_point hc (by rw [h1, Rat.intCast_add]; grind) fun i hi hne => by rw [h2 i hi hne]
theorem form_zero {A : Mat} {n : Nat} (h : ∀ i j, i < n → j < n → A i j = 0) (f x : Int → Rat) : form A n f x = 0 := by
 unfold form
 refine qs_zero fun i hi => ?_
 rw [qs_zero fun j hj => by rw [h i j (List.mem_range.1 hi) (List.mem_range.1 hj)]; grind]
 grind
theorem lin_zero {b : Nat → Int} {n : Nat} (h : ∀ i, i < n → b i = 0) (f : Int → Rat) : lin b n f = 0 := by
 unfold lin
 exact qs_zero fun i hi => by rw [h i (List.mem_range.1 hi)]; grind
/-- The fractions that whole numbers over a common divisor are. -/
def frac (X : Nat → Int) (D : Int) : Int → Rat := fun c => Rat.divInt (X c.toNat) D
theorem form_sol {A : Mat} {b : Nat → Int} {n : Nat} {D : Int} {X : Nat → Int} (hD : D ≠ 0) (h : ∀ i, i < n → sm n (fun j => A i j * X j) = D * b i) (f : Int → Rat) : form A n f (frac X D) = lin b n f := by
 have hD' : (D : Rat) ≠ 0 := fun e => hD (Rat.intCast_inj.1 e)
 unfold form lin
 refine qs_congr fun i hi => ?_
 have e : qs (List.range n) (fun j => ((A i j : Int) : Rat) * frac X D (j : Int)) = qs (List.range n) (fun j => ((A i j * X j : Int) : Rat)) * (D : Rat)⁻¹ := by
  rw [← qs_mul_r]
  refine qs_congr fun j _ => ?_
  unfold frac
  rw [Int.toNat_natCast, Rat.divInt_eq_div, Rat.div_def, Rat.intCast_mul]
  grind
 rw [e, qs_sm, h i (List.mem_range.1 hi), Rat.intCast_mul]
 congr 1
 grind
theorem form_ker {A : Mat} {n : Nat} {v : Nat → Int} (h : ∀ i, i < n → sm n (fun j => A i j * v j) = 0) (f : Int → Rat) : form A n f (fun c => ((v c.toNat : Int) : Rat)) = 0 := by
 unfold form
 refine qs_zero fun i hi => ?_
 have e : qs (List.range n) (fun j => ((A i j : Int) : Rat) * ((v (j : Int).toNat : Int) : Rat)) = qs (List.range n) (fun j => ((A i j * v j : Int) : Rat)) := qs_congr fun j _ => by
  rw [Int.toNat_natCast, Rat.intCast_mul]
 rw [e, qs_sm, h i (List.mem_range.1 hi)]
 grind
/-- A net whose fixed numbers are all 0. -/
def Net.z (p : Net) : Net := ⟨p.w, p.cs, p.as.map fun _ => 0⟩
theorem qs_map {α β : Type} (l : List α) (h : α → β) (g : β → Rat) : qs (l.map h) g = qs l fun x => g (h x) := by
 induction l with
 | nil => rfl
 | cons x l ih => rw [List.map_cons, qs_cons, qs_cons, ih]
theorem z_g (p : Net) (x : Int → Rat) (c : Int) : p.z.g x c = ((p.cs.length : Rat) + (p.as.length : Rat)) * x c - qs p.cs x := by
 unfold Net.g Net.z
 simp only
 rw [List.length_map, qs_map, qs_zero fun _ _ => rfl]
 grind
theorem work_sub (ps : List Net) (x y f : Int → Rat) : work (ps.map Net.z) (fun c => x c - y c) f = work ps x f - work ps y f := by
 unfold work
 rw [qs_map, ← qs_sub]
 refine qs_congr fun p _ => ?_
 have e : qs p.z.cs (fun c => f c * p.z.g (fun c => x c - y c) c) = qs p.cs (fun c => f c * p.g x c) - qs p.cs (fun c => f c * p.g y c) := by
  rw [← qs_sub]
  refine qs_congr fun c _ => ?_
  rw [z_g, qs_sub]
  unfold Net.g
  grind
 rw [e]
 show p.w * _ = _
 grind
theorem z_w {ps : List Net} (hw : ∀ p ∈ ps, 0 < p.w) : ∀ p ∈ ps.map Net.z, 0 < p.w := by
 intro p hp
 obtain ⟨q, hq, rfl⟩ := List.mem_map.1 hp
 exact hw q hq
theorem z_held {n : Int} {ps : List Net} (hh : HeldN n ps) : HeldN n (ps.map Net.z) := by
 intro f h
 refine hh f fun p hp => ?_
 obtain ⟨h1, h2⟩ := h p.z (List.mem_map_of_mem hp)
 refine ⟨h1, fun ha => h2 fun e => ha ?_⟩
 have e' : (p.as.map fun _ => (0 : Rat)) = [] := e
 simpa using e'
section
variable {n : Int} {ps : List Net} (hw : ∀ p ∈ ps, 0 < p.w) (hh : HeldN n ps)
include hw hh
theorem z_kernel {v : Int → Rat} (h : work (ps.map Net.z) v v = 0) : ∀ c, 0 ≤ c → c < n → v c = 0 := by
 refine held_test (z_w hw) (z_held hh) h (fun p hp c hc d hd => by grind) fun p hp c hc a ha => ?_
 obtain ⟨q, hq, rfl⟩ := List.mem_map.1 hp
 have e : a = 0 := by
  obtain ⟨b, hb, rfl⟩ := List.mem_map.1 ha
  rfl
 rw [e]; grind
theorem held_det {A : Mat} {b : Nat → Int} {m : Nat} (hm : n = (m : Int)) (h : ∀ f x, form A m f x = lin b m f + work ps x f) : det m A ≠ 0 := by
 intro e
 obtain ⟨v, ⟨i, hi, hv⟩, hk⟩ := det_ker A e
 have h0 : ∀ f, form A m f (fun _ => 0) = 0 := fun f => by
  unfold form
  refine qs_zero fun i _ => ?_
  rw [qs_zero fun j _ => by grind]; grind
 have h1 : ∀ f, work ps (fun c => ((v c.toNat : Int) : Rat)) f = work ps (fun _ => 0) f := fun f => by
  have a1 := h f (fun c => ((v c.toNat : Int) : Rat))
  have a2 := h f (fun _ => 0)
  rw [form_ker hk] at a1
  rw [h0] at a2
  grind
 have h2 := z_kernel hw hh (v := fun c => ((v c.toNat : Int) : Rat) - (fun _ => (0 : Rat)) c) (by rw [work_sub, h1]; grind) (i : Int) (by omega) (by omega)
 simp only [Int.toNat_natCast] at h2
 apply hv
 have : ((v i : Int) : Rat) = ((0 : Int) : Rat) := by grind
 exact Rat.intCast_inj.1 this
end
/-- All turned about 0. -/
def Net.neg (p : Net) : Net := ⟨p.w, p.cs, p.as.map fun a => -a⟩
/-- The squares of all distances of numbers. -/
def en (l : List Rat) : Rat := (l.length : Rat) * qs l (fun z => z * z) - qs l (fun z => z) * qs l (fun z => z)
/-- The length of nets along an axis. -/
def tot (ps : List Net) (x : Int → Rat) : Rat := qs ps fun p => p.w * en (p.cs.map x ++ p.as)
theorem en_places (p : Net) (x : Int → Rat) : en (p.cs.map x ++ p.as) = ((p.cs.length : Rat) + (p.as.length : Rat)) * (qs p.cs (fun c => x c * x c) + qs p.as (fun a => a * a)) - (qs p.cs x + qs p.as (fun a => a)) * (qs p.cs x + qs p.as (fun a => a)) := by
 unfold en
 rw [qs_app, qs_app, qs_map, qs_map, List.length_append, List.length_map]
 have : ((p.cs.length + p.as.length : Nat) : Rat) = (p.cs.length : Rat) + (p.as.length : Rat) := by simp
 rw [this]
theorem tot_add (ps : List Net) (x d : Int → Rat) : tot ps (fun c => x c + d c) = tot ps x + 2 * work ps x d + work (ps.map Net.z) d d := by
 unfold tot work
 rw [qs_map, ← qs_mul, ← qs_add, ← qs_add]
 refine qs_congr fun p _ => ?_
 rw [en_places, en_places]
 have e1 : qs p.cs (fun c => (x c + d c) * (x c + d c)) = qs p.cs (fun c => x c * x c) + (2 * qs p.cs (fun c => x c * d c) + qs p.cs (fun c => d c * d c)) := by
  rw [← qs_mul, ← qs_add, ← qs_add]
  exact qs_congr fun c _ => by grind
 have e2 : qs p.cs (fun c => x c + d c) = qs p.cs x + qs p.cs d := qs_add _ _ _
 have e3 : qs p.cs (fun c => d c * p.g x c) = ((p.cs.length : Rat) + (p.as.length : Rat)) * qs p.cs (fun c => x c * d c) - qs p.cs d * qs p.cs x - qs p.cs d * qs p.as (fun a => a) := by
  rw [← qs_mul, ← qs_mul_r, ← qs_mul_r, ← qs_sub, ← qs_sub]
  exact qs_congr fun c _ => by unfold Net.g; grind
 have e4 : qs p.z.cs (fun c => d c * p.z.g d c) = ((p.cs.length : Rat) + (p.as.length : Rat)) * qs p.cs (fun c => d c * d c) - qs p.cs d * qs p.cs d := by
  rw [← qs_mul, ← qs_mul_r, ← qs_sub]
  exact qs_congr fun c _ => by rw [z_g]; grind
 rw [e1, e2, e3, e4]
 show _ = _ + p.w * _
 grind
theorem z_nonneg {ps : List Net} (hw : ∀ p ∈ ps, 0 < p.w) (d : Int → Rat) : 0 ≤ work (ps.map Net.z) d d := by
 rw [work_eq]
 refine qs_nonneg fun p hp => ?_
 obtain ⟨q, hq, rfl⟩ := List.mem_map.1 hp
 have b3 := hw q hq
 refine Rat.mul_nonneg (show (0 : Rat) ≤ q.w by grind) ?_
 have a2 := bil_nonneg q.z.cs d
 have a3 : 0 ≤ qs q.z.cs (fun c => qs q.z.as fun a => d c * (d c - a)) := qs_nonneg fun c _ => qs_nonneg fun a ha => by
  obtain ⟨b, hb, rfl⟩ := List.mem_map.1 ha
  have := sq_nonneg (d c)
  grind
 grind
end Go.Proofs.Ytfkncjfpgflafaa.X
