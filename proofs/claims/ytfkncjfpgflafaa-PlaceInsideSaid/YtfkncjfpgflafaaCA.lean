/- Sums of fractions over lists; the energy of pulls. Plain. -/
import Derived.Test.YtfkncjfpgflafaaYQ
namespace Go.Proofs.Ytfkncjfpgflafaa.X
set_option linter.unusedVariables false
set_option linter.unusedSimpArgs false
section
variable {α β : Type}
def qs (l : List α) (g : α → Rat) : Rat := l.foldr (fun x s => g x + s) 0
theorem qs_nil (g : α → Rat) : qs [] g = 0 := rfl
theorem qs_cons (x : α) (l : List α) (g : α → Rat) : qs (x :: l) g = g x + qs l g := rfl
theorem qs_congr {l : List α} {g h : α → Rat} (e : ∀ x ∈ l, g x = h x) : qs l g = qs l h := by
  induction l with
  | nil => rfl
  | cons x l ih => rw [qs_cons, qs_cons, e x (by simp), ih fun y hy => e y (by simp [hy])]
theorem qs_add (l : List α) (g h : α → Rat) : qs l (fun x => g x + h x) = qs l g + qs l h := by
  induction l with
  | nil => rw [qs_nil, qs_nil, qs_nil]; grind
  | cons x l ih => rw [qs_cons, qs_cons, qs_cons, ih]; grind
theorem qs_sub (l : List α) (g h : α → Rat) : qs l (fun x => g x - h x) = qs l g - qs l h := by
  induction l with
  | nil => rw [qs_nil, qs_nil, qs_nil]; grind
  | cons x l ih => rw [qs_cons, qs_cons, qs_cons, ih]; grind
theorem qs_mul (l : List α) (c : Rat) (g : α → Rat) : qs l (fun x => c * g x) = c * qs l g := by
  induction l with
  | nil => rw [qs_nil, qs_nil]; grind
  | cons x l ih => rw [qs_cons, qs_cons, ih]; grind
theorem qs_mul_r (l : List α) (c : Rat) (g : α → Rat) : qs l (fun x => g x * c) = qs l g * c := by
  induction l with
  | nil => rw [qs_nil, qs_nil]; grind
  | cons x l ih => rw [qs_cons, qs_cons, ih]; grind
theorem qs_zero {l : List α} {g : α → Rat} (e : ∀ x ∈ l, g x = 0) : qs l g = 0 := by
  induction l with
  | nil => rfl
  | cons x l ih => rw [qs_cons, e x (by simp), ih fun y hy => e y (by simp [hy])]; grind
theorem qs_app (l m : List α) (g : α → Rat) : qs (l ++ m) g = qs l g + qs m g := by
  induction l with
  | nil => rw [List.nil_append, qs_nil]; grind
  | cons x l ih => rw [List.cons_append, qs_cons, qs_cons, ih]; grind
theorem qs_const (l : List α) (c : Rat) : qs l (fun _ => c) = (l.length : Rat) * c := by
  induction l with
  | nil => rw [qs_nil, List.length_nil]; grind
  | cons x l ih =>
    rw [qs_cons, ih, List.length_cons]
    have : ((l.length + 1 : Nat) : Rat) = (l.length : Rat) + 1 := by simp
    rw [this]; grind
theorem qs_nonneg {l : List α} {g : α → Rat} (h : ∀ x ∈ l, 0 ≤ g x) : 0 ≤ qs l g := by
  induction l with
  | nil => rw [qs_nil]; grind
  | cons x l ih =>
    have h1 := h x (by simp)
    have h2 := ih fun y hy => h y (by simp [hy])
    rw [qs_cons]; grind
/-- A sum of what is not negative is 0 just if all are. -/
theorem qs_all_zero {l : List α} {g : α → Rat} (h : ∀ x ∈ l, 0 ≤ g x) (h0 : qs l g = 0) : ∀ x ∈ l, g x = 0 := by
  induction l with
  | nil => intro x hx; simp at hx
  | cons y l ih =>
    have h1 := h y (by simp)
    have h2 := qs_nonneg fun x (hx : x ∈ l) => h x (by simp [hx])
    rw [qs_cons] at h0
    have e1 : g y = 0 := by grind
    have e2 : qs l g = 0 := by grind
    intro x hx
    rcases List.mem_cons.1 hx with rfl | q
    · exact e1
    · exact ih (fun x hx => h x (by simp [hx])) e2 x q
theorem qs_le {l : List α} {g h : α → Rat} (e : ∀ x ∈ l, g x ≤ h x) : qs l g ≤ qs l h := by
  induction l with
  | nil => rw [qs_nil, qs_nil]; grind
  | cons x l ih =>
    have h1 := e x (by simp)
    have h2 := ih fun y hy => e y (by simp [hy])
    rw [qs_cons, qs_cons]; grind
/-- The energy of pairs, of two functions. -/
def bil (l : List α) (x f : α → Rat) : Rat := (l.length : Rat) * qs l (fun c => x c * f c) - qs l x * qs l f
theorem len_cons (y : α) (l : List α) : ((y :: l).length : Rat) = (l.length : Rat) + 1 := by rw [List.length_cons]; simp
theorem bil_cons (y : α) (l : List α) (x f : α → Rat) : bil (y :: l) x f = bil l x f + qs l (fun d => (x y - x d) * (f y - f d)) := by
  have e : qs l (fun d => (x y - x d) * (f y - f d)) = (l.length : Rat) * (x y * f y) - x y * qs l f - qs l x * f y + qs l (fun c => x c * f c) := by
    rw [← qs_const l (x y * f y), ← qs_mul, ← qs_mul_r, ← qs_sub, ← qs_sub, ← qs_add]
    exact qs_congr fun d _ => by grind
  unfold bil
  rw [e, len_cons, qs_cons, qs_cons, qs_cons]
  grind
theorem bil_le {l : List α} {x f : α → Rat} (h : ∀ c ∈ l, ∀ d ∈ l, (f c - f d) * (f c - f d) ≤ (x c - x d) * (f c - f d)) : bil l f f ≤ bil l x f := by
  induction l with
  | nil => unfold bil; rw [qs_nil, qs_nil, qs_nil]; grind
  | cons y l ih =>
    rw [bil_cons, bil_cons]
    have h1 := ih fun c hc d hd => h c (by simp [hc]) d (by simp [hd])
    have h2 : qs l (fun d => (f y - f d) * (f y - f d)) ≤ qs l (fun d => (x y - x d) * (f y - f d)) := qs_le fun d hd => h y (by simp) d (by simp [hd])
    grind
theorem sq_nonneg (a : Rat) : 0 ≤ a * a := by
  rcases Rat.le_total (a := 0) (b := a) with h | h
  · exact Rat.mul_nonneg h h
  · have : 0 ≤ (-a) * (-a) := Rat.mul_nonneg (by grind) (by grind)
    grind
theorem sq_zero {a : Rat} (h : a * a = 0) : a = 0 := by grind
theorem bil_nonneg (l : List α) (f : α → Rat) : 0 ≤ bil l f f := by
  induction l with
  | nil => unfold bil; rw [qs_nil, qs_nil]; grind
  | cons y l ih =>
    rw [bil_cons]
    have := qs_nonneg (l := l) (g := fun d => (f y - f d) * (f y - f d)) fun d _ => sq_nonneg _
    grind
theorem bil_zero {l : List α} {f : α → Rat} (h : bil l f f = 0) : ∀ c ∈ l, ∀ d ∈ l, f c = f d := by
  induction l with
  | nil => intro c hc; simp at hc
  | cons y l ih =>
    rw [bil_cons] at h
    have h1 := bil_nonneg l f
    have h2 := qs_nonneg (l := l) (g := fun d => (f y - f d) * (f y - f d)) fun d _ => sq_nonneg _
    have h3 : bil l f f = 0 := by grind
    have h4 : qs l (fun d => (f y - f d) * (f y - f d)) = 0 := by grind
    have h5 := qs_all_zero (l := l) (fun d _ => sq_nonneg (f y - f d)) h4
    have h6 : ∀ d ∈ l, f y = f d := fun d hd => by have := sq_zero (h5 d hd); grind
    have h7 := ih h3
    intro c hc d hd
    rcases List.mem_cons.1 hc with rfl | p
    · rcases List.mem_cons.1 hd with rfl | q
      · rfl
      · exact h6 d q
    · rcases List.mem_cons.1 hd with rfl | q
      · exact (h6 c p).symm
      · exact h7 c p d q
end
/-- A net: a weight, cells, fixed numbers. -/
structure Net where
  w : Rat
  cs : List Int
  as : List Rat
/-- What a net says of a cell of it: so many times its place, less the sum of all places. -/
def Net.g (p : Net) (x : Int → Rat) (c : Int) : Rat := ((p.cs.length : Rat) + (p.as.length : Rat)) * x c - qs p.cs x - qs p.as (fun a => a)
/-- All nets together, tested by f. -/
def work (ps : List Net) (x f : Int → Rat) : Rat := qs ps fun p => p.w * qs p.cs fun c => f c * p.g x c
theorem work_eq (ps : List Net) (x f : Int → Rat) : work ps x f = qs ps fun p => p.w * (bil p.cs x f + qs p.cs fun c => qs p.as fun a => f c * (x c - a)) := by
  unfold work
  refine qs_congr fun p _ => ?_
  congr 1
  have e : ∀ c, qs p.as (fun a => f c * (x c - a)) = (p.as.length : Rat) * (x c * f c) - f c * qs p.as (fun a => a) := by
    intro c
    rw [← qs_const p.as (x c * f c), ← qs_mul, ← qs_sub]
    exact qs_congr fun a _ => by grind
  have e2 : qs p.cs (fun c => qs p.as fun a => f c * (x c - a)) = (p.as.length : Rat) * qs p.cs (fun c => x c * f c) - qs p.cs f * qs p.as (fun a => a) := by
    rw [← qs_mul, ← qs_mul_r, ← qs_sub]
    exact qs_congr fun c _ => by rw [e]
  have e3 : qs p.cs (fun c => f c * p.g x c) = ((p.cs.length : Rat) + (p.as.length : Rat)) * qs p.cs (fun c => x c * f c) - qs p.cs f * qs p.cs x - qs p.cs f * qs p.as (fun a => a) := by
    rw [← qs_mul, ← qs_mul_r, ← qs_mul_r, ← qs_sub, ← qs_sub]
    exact qs_congr fun c _ => by unfold Net.g; grind
  rw [e2, e3]
  unfold bil
  grind
/-- What vanishes on fixed numbers' nets and is equal within each net, vanishes on all cells. -/
def HeldN (n : Int) (ps : List Net) : Prop := ∀ f : Int → Rat, (∀ p ∈ ps, (∀ c ∈ p.cs, ∀ d ∈ p.cs, f c = f d) ∧ (p.as ≠ [] → ∀ c ∈ p.cs, f c = 0)) → ∀ c, 0 ≤ c → c < n → f c = 0
section
variable {n : Int} {ps : List Net} (hw : ∀ p ∈ ps, 0 < p.w) (hh : HeldN n ps)
include hw hh
/-- The test: where all work is 0 and no net's is negative, the function vanishes. -/
theorem held_test {x f : Int → Rat} (h0 : work ps x f = 0) (h1 : ∀ p ∈ ps, ∀ c ∈ p.cs, ∀ d ∈ p.cs, (f c - f d) * (f c - f d) ≤ (x c - x d) * (f c - f d)) (h2 : ∀ p ∈ ps, ∀ c ∈ p.cs, ∀ a ∈ p.as, f c * f c ≤ f c * (x c - a)) : ∀ c, 0 ≤ c → c < n → f c = 0 := by
  rw [work_eq] at h0
  have nn : ∀ p ∈ ps, 0 ≤ bil p.cs x f ∧ 0 ≤ qs p.cs (fun c => qs p.as fun a => f c * (x c - a)) := by
    intro p hp
    have a1 := bil_le (h1 p hp)
    have a2 := bil_nonneg p.cs f
    refine ⟨by grind, qs_nonneg fun c hc => qs_nonneg fun a ha => ?_⟩
    have a3 := h2 p hp c hc a ha
    have a4 := sq_nonneg (f c)
    grind
  have z := qs_all_zero (l := ps) (g := fun p => p.w * (bil p.cs x f + qs p.cs fun c => qs p.as fun a => f c * (x c - a))) (fun p hp => by
    obtain ⟨b1, b2⟩ := nn p hp
    have b3 := hw p hp
    exact Rat.mul_nonneg (by grind) (by grind)) h0
  refine hh f fun p hp => ?_
  have b3 := hw p hp
  have b4 := z p hp
  obtain ⟨b1, b2⟩ := nn p hp
  have b5 : bil p.cs x f + qs p.cs (fun c => qs p.as fun a => f c * (x c - a)) = 0 := by
    rcases Rat.mul_eq_zero.1 b4 with q | q
    · grind
    · exact q
  have b6 : bil p.cs x f = 0 := by grind
  have b7 : qs p.cs (fun c => qs p.as fun a => f c * (x c - a)) = 0 := by grind
  refine ⟨bil_zero ?_, fun ha c hc => ?_⟩
  · have a1 := bil_le (h1 p hp)
    have a2 := bil_nonneg p.cs f
    grind
  · have c1 := qs_all_zero (l := p.cs) (fun c hc => qs_nonneg (l := p.as) (g := fun a => f c * (x c - a)) fun a ha => by
      have a3 := h2 p hp c hc a ha
      have a4 := sq_nonneg (f c)
      grind) b7 c hc
    obtain ⟨a, ha'⟩ := List.exists_mem_of_ne_nil _ ha
    have c2 := qs_all_zero (l := p.as) (g := fun a => f c * (x c - a)) (fun a ha => by
      have a3 := h2 p hp c hc a ha
      have a4 := sq_nonneg (f c)
      grind) c1 a ha'
    have a3 := h2 p hp c hc a ha'
    have a4 := sq_nonneg (f c)
    exact sq_zero (by grind)
end
end Go.Proofs.Ytfkncjfpgflafaa.X
