/- Determinants of whole numbers. Plain. -/
import Derived.Test.YtkenpbnpemjbhaaYQ
namespace Go.Proofs.Ytkenpbnpemjbhaa.X
set_option linter.unusedVariables false
set_option linter.unusedSimpArgs false
/-- The numbers but i. -/
def skip (i k : Nat) : Nat := if k < i then k else k + 1
def sm : Nat → (Nat → Int) → Int
  | 0, _ => 0
  | n + 1, f => sm n f + f n
theorem sm_congr {n : Nat} {f g : Nat → Int} (h : ∀ i, i < n → f i = g i) : sm n f = sm n g := by
  induction n with
  | zero => rfl
  | succ n ih => simp only [sm]; rw [ih fun i hi => h i (by omega), h n (by omega)]
theorem sm_mul (n : Nat) (x : Int) (f : Nat → Int) : sm n (fun i => x * f i) = x * sm n f := by
  induction n with
  | zero => simp [sm]
  | succ n ih => simp only [sm]; rw [ih, Int.mul_add]
theorem sm_zero {n : Nat} {f : Nat → Int} (h : ∀ i, i < n → f i = 0) : sm n f = 0 := by
  induction n with
  | zero => rfl
  | succ n ih => simp only [sm]; rw [ih fun i hi => h i (by omega), h n (by omega)]; rfl
theorem sm_left (n : Nat) (f : Nat → Int) : sm (n + 1) f = f 0 + sm n (fun i => f (i + 1)) := by
  induction n with
  | zero => simp [sm]
  | succ n ih => rw [sm, ih, sm]; omega
abbrev Mat := Nat → Nat → Int
def upd (A : Mat) (k : Nat) (u : Nat → Int) : Mat := fun r => if r = k then u else A r
theorem upd_at (A : Mat) (k : Nat) (u : Nat → Int) : upd A k u k = u := if_pos rfl
theorem upd_ne (A : Mat) {k r : Nat} (u : Nat → Int) (h : r ≠ k) : upd A k u r = A r := if_neg h
theorem upd_comm (A : Mat) {k l : Nat} (u v : Nat → Int) (h : k ≠ l) : upd (upd A k u) l v = upd (upd A l v) k u := by
  funext r; unfold upd; split
  · rename_i e; rw [if_neg (by omega)]
  · rfl
/-- A function of n rows of d numbers: linear in each row, and 0 where two rows are equal. -/
structure AltF (n d : Nat) (F : Mat → Int) : Prop where
  congr : ∀ A B : Mat, (∀ r, r < n → ∀ c, c < d → A r c = B r c) → F A = F B
  lin : ∀ (A : Mat) (k : Nat) (u v : Nat → Int) (x y : Int), k < n → F (upd A k (fun c => x * u c + y * v c)) = x * F (upd A k u) + y * F (upd A k v)
  alt : ∀ (A : Mat) (k l : Nat), k < l → l < n → (∀ c, c < d → A k c = A l c) → F A = 0
/-- Two rows change places. -/
theorem swap_of {n d : Nat} {F : Mat → Int} (lin : ∀ (A : Mat) (k : Nat) (u v : Nat → Int) (x y : Int), k < n → F (upd A k (fun c => x * u c + y * v c)) = x * F (upd A k u) + y * F (upd A k v)) {k l : Nat} (hk : k < n) (hl : l < n) (hne : k ≠ l) (alt : ∀ A : Mat, (∀ c, c < d → A k c = A l c) → F A = 0)
    (A : Mat) (u v : Nat → Int) : F (upd (upd A k u) l v) = - F (upd (upd A k v) l u) := by
  have z : ∀ w : Nat → Int, F (upd (upd A k w) l w) = 0 := fun w => alt _ fun c _ => by rw [upd_at, upd_ne _ _ hne, upd_at]
  have h := z (fun c => 1 * u c + 1 * v c)
  rw [lin _ _ _ _ _ _ hl, upd_comm _ _ _ hne, upd_comm _ _ _ hne, lin _ _ _ _ _ _ hk, lin _ _ _ _ _ _ hk, upd_comm _ u u hne.symm, upd_comm _ v u hne.symm, upd_comm _ u v hne.symm, upd_comm _ v v hne.symm, z u, z v] at h
  rw [upd_comm _ u v hne, upd_comm _ v u hne]
  rw [upd_comm _ u v hne, upd_comm _ v u hne] at h
  omega
section
variable {n d : Nat} {F : Mat → Int} (hF : AltF n d F)
include hF
theorem AltF.swap (A : Mat) {k l : Nat} (u v : Nat → Int) (hk : k < n) (hl : l < n) (h : k ≠ l) : F (upd (upd A k u) l v) = - F (upd (upd A k v) l u) :=
  swap_of (d := d) hF.lin hk hl h (fun A hA => by
    rcases Nat.lt_or_gt_of_ne h with q | q
    · exact hF.alt A k l q hl hA
    · exact hF.alt A l k q hk fun c hc => (hA c hc).symm) A u v
theorem AltF.alt' (A : Mat) {k l : Nat} (hk : k < n) (hl : l < n) (h : k ≠ l) (hA : ∀ c, c < d → A k c = A l c) : F A = 0 := by
  rcases Nat.lt_or_gt_of_ne h with q | q
  · exact hF.alt A k l q hl hA
  · exact hF.alt A l k q hk fun c hc => (hA c hc).symm
theorem AltF.zero (A : Mat) {k : Nat} (hk : k < n) (h : ∀ c, c < d → A k c = 0) : F A = 0 := by
  have e : F A = F (upd A k (fun c => 0 * A k c + 0 * A k c)) := hF.congr _ _ fun r hr c hc => by
    unfold upd
    by_cases q : r = k
    · rw [if_pos q, q, h c hc]; simp
    · rw [if_neg q]
  rw [e, hF.lin _ _ _ _ _ _ hk]; simp
/-- A row is told as a sum. -/
theorem AltF.row (A : Mat) {k : Nat} (hk : k < n) (u v : Nat → Int) (x y : Int) (h : ∀ c, c < d → A k c = x * u c + y * v c) : F A = x * F (upd A k u) + y * F (upd A k v) := by
  rw [← hF.lin _ _ _ _ _ _ hk]
  refine hF.congr _ _ fun r hr c hc => ?_
  unfold upd
  by_cases q : r = k
  · rw [if_pos q, q, h c hc]
  · rw [if_neg q]
/-- All rows are told as sums with one row v. -/
theorem AltF.rows (A B : Mat) (a : Nat → Int) (v : Nat → Int) (h : ∀ r, r < n → ∀ c, c < d → A r c = a r * v c + B r c) : F A = F B + sm n (fun i => a i * F (upd B i v)) := by
  have key : ∀ k, k ≤ n → F (fun r => if r < k then A r else B r) = F B + sm k (fun i => a i * F (upd B i v)) := by
    intro k
    induction k with
    | zero => intro _; simp [sm]
    | succ k ih =>
      intro hk
      rw [hF.row (fun r => if r < k + 1 then A r else B r) (k := k) (by omega) v (B k) (a k) 1 (fun c hc => by rw [if_pos (by omega), h k (by omega) c hc]; omega)]
      have e1 : upd (fun r => if r < k + 1 then A r else B r) k (B k) = fun r => if r < k then A r else B r := by
        funext r; unfold upd
        by_cases q : r = k
        · rw [if_pos q, if_neg (by omega), q]
        · rw [if_neg q]
          dsimp only
          by_cases q2 : r < k
          · rw [if_pos (by omega), if_pos q2]
          · rw [if_neg (by omega), if_neg q2]
      have e2 : ∀ m, m ≤ k → F (upd (fun r => if r < m then A r else B r) k v) = F (upd B k v) := by
        intro m
        induction m with
        | zero => intro _; simp
        | succ m im =>
          intro hm
          rw [hF.row (upd (fun r => if r < m + 1 then A r else B r) k v) (k := m) (by omega) v (B m) (a m) 1 (fun c hc => by rw [upd_ne _ _ (by omega), if_pos (by omega), h m (by omega) c hc]; omega)]
          rw [hF.alt' (upd (upd (fun r => if r < m + 1 then A r else B r) k v) m v) (k := m) (l := k) (by omega) (by omega) (by omega) (fun c hc => by rw [upd_at, upd_ne _ _ (by omega), upd_at])]
          have e3 : upd (upd (fun r => if r < m + 1 then A r else B r) k v) m (B m) = upd (fun r => if r < m then A r else B r) k v := by
            rw [upd_comm _ _ _ (by omega)]
            congr 1
            funext r; unfold upd
            by_cases q : r = m
            · rw [if_pos q, if_neg (by omega), q]
            · rw [if_neg q]
              dsimp only
              by_cases q2 : r < m
              · rw [if_pos (by omega), if_pos q2]
              · rw [if_neg (by omega), if_neg q2]
          rw [e3, im (by omega)]; omega
      have e4 : upd (fun r => if r < k + 1 then A r else B r) k v = upd (fun r => if r < k then A r else B r) k v := by
        funext r; unfold upd
        by_cases q : r = k
        · rw [if_pos q, if_pos q]
        · rw [if_neg q, if_neg q]
          dsimp only
          by_cases q2 : r < k
          · rw [if_pos (by omega), if_pos q2]
          · rw [if_neg (by omega), if_neg q2]
      rw [e1, e4, e2 k (by omega), ih (by omega), sm]
      omega
  rw [← key n (by omega)]
  exact hF.congr _ _ fun r hr c hc => by rw [if_pos hr]
end
end Go.Proofs.Ytkenpbnpemjbhaa.X
