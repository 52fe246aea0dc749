/- Systems of pulls over fractions: forms of tables, the only solution, where it lies, what is least. Plain. -/
import Derived.Test.YtfkncjfpgflafaaCA
import Derived.Test.YtfkncjfpgflafaaDD
namespace Go.Proofs.Ytfkncjfpgflafaa.X
set_option linter.unusedVariables false
set_option linter.unusedSimpArgs false
theorem qs_point {n c : Nat} (hc : c < n) {g g' : Nat → Rat} {t : Rat} (h1 : g' c = g c + t) (h2 : ∀ i, i < n → i ≠ c → g' i = g i) : qs (List.range n) g' = qs (List.range n) g + t := by
  induction n with
  | zero => omega
  | succ n ih =>
    rw [List.range_succ, qs_app, qs_app]
    by_cases q : c = n
    · subst q
      rw [qs_congr (l := List.range c) (g := g') (h := g) fun i hi => h2 i (by have := List.mem_range.1 hi; omega) (by have := List.mem_range.1 hi; omega), qs_cons, qs_nil, qs_cons, qs_nil, h1]
      grind
    · rw [ih (by omega) fun i hi hne => h2 i (by omega) hne, qs_cons, qs_nil, qs_cons, qs_nil, h2 n (by omega) (by omega)]
      grind
theorem qs_sm (n : Nat) (g : Nat → Int) : qs (List.range n) (fun i => ((g i : Int) : Rat)) = ((sm n g : Int) : Rat) := by
  induction n with
  | zero => rfl
  | succ n ih =>
    rw [List.range_succ, qs_app, ih, qs_cons, qs_nil]
    show _ = ((sm n g + g n : Int) : Rat)
    rw [Rat.intCast_add]; grind
/-- The form of a table. -/
def form (A : Mat) (n : Nat) (f x : Int → Rat) : Rat := qs (List.range n) fun i => f (i : Int) * qs (List.range n) fun j => ((A i j : Int) : Rat) * x (j : Int)
/-- The form of a column. -/
def lin (b : Nat → Int) (n : Nat) (f : Int → Rat) : Rat := qs (List.range n) fun i => f (i : Int) * ((b i : Int) : Rat)
theorem form_upd {A A' : Mat} {n c d : Nat} (hc : c < n) (hd : d < n) (v : Int) (h1 : A' c d = A c d + v) (h2 : ∀ i j, i < n → j < n → ¬(i = c ∧ j = d) → A' i j = A i j) (f x : Int → Rat) : form A' n f x = form A n f x + f (c : Int) * ((v : Rat) * x (d : Int)) := by
  unfold form
  refine qs_point hc ?_ fun i hi hne => ?_
  · rw [qs_point (n := n) (c := d) hd (g := fun j => ((A c j : Int) : Rat) * x (j : Int)) (t := (v : Rat) * x (d : Int)) (by rw [h1, Rat.intCast_add]; grind) fun j hj hne => by rw [h2 c j hc hj (by omega)]]
    grind
  · congr 1
    exact qs_congr fun j hj => by rw [h2 i j hi (List.mem_range.1 hj) (by omega)]
theorem lin_upd {b b' : Nat → Int} {n c : Nat} (hc : c < n) (v : Int) (h1 : b' c = b c + v) (h2 : ∀ i, i < n → i ≠ c → b' i = b i) (f : Int → Rat) : lin b' n f = lin b n f + f (c : Int) * (v : Rat) := by
  unfold lin
  exact qs_point hc (by rw [h1, Rat.intCast_add]; grind) fun i hi hne => by rw [h2 i hi hne]
theorem form_zero {A : Mat} {n : Nat} (h : ∀ i j, i < n → j < n → A i j = 0) (f x : Int → Rat) : form A n f x = 0 := by
  unfold form
  refine qs_zero fun i hi => ?_
  rw [qs_zero fun j hj => by rw [h i j (List.mem_range.1 hi) (List.mem_range.1 hj)]; grind]
  grind
theorem lin_zero {b : Nat → Int} {n : Nat} (h : ∀ i, i < n → b i = 0) (f : Int → Rat) : lin b n f = 0 := by
  unfold lin
  exact qs_zero fun i hi => by rw [h i (List.mem_range.1 hi)]; grind
/-- The fractions that whole numbers over a common divisor are. -/
def frac (X : Nat → Int) (D : Int) : Int → Rat := fun c => Rat.divInt (X c.toNat) D
theorem form_sol {A : Mat} {b : Nat → Int} {n : Nat} {D : Int} {X : Nat → Int} (hD : D ≠ 0) (h : ∀ i, i < n → sm n (fun j => A i j * X j) = D * b i) (f : Int → Rat) : form A n f (frac X D) = lin b n f := by
  have hD' : (D : Rat) ≠ 0 := fun e => hD (Rat.intCast_inj.1 e)
  unfold form lin
  refine qs_congr fun i hi => ?_
  have e : qs (List.range n) (fun j => ((A i j : Int) : Rat) * frac X D (j : Int)) = qs (List.range n) (fun j => ((A i j * X j : Int) : Rat)) * (D : Rat)⁻¹ := by
    rw [← qs_mul_r]
    refine qs_congr fun j _ => ?_
    unfold frac
    rw [Int.toNat_natCast, Rat.divInt_eq_div, Rat.div_def, Rat.intCast_mul]
    grind
  rw [e, qs_sm, h i (List.mem_range.1 hi), Rat.intCast_mul]
  congr 1
  grind
theorem form_ker {A : Mat} {n : Nat} {v : Nat → Int} (h : ∀ i, i < n → sm n (fun j => A i j * v j) = 0) (f : Int → Rat) : form A n f (fun c => ((v c.toNat : Int) : Rat)) = 0 := by
  unfold form
  refine qs_zero fun i hi => ?_
  have e : qs (List.range n) (fun j => ((A i j : Int) : Rat) * ((v (j : Int).toNat : Int) : Rat)) = qs (List.range n) (fun j => ((A i j * v j : Int) : Rat)) := qs_congr fun j _ => by
    rw [Int.toNat_natCast, Rat.intCast_mul]
  rw [e, qs_sm, h i (List.mem_range.1 hi)]
  grind
/-- A net whose fixed numbers are all 0. -/
def Net.z (p : Net) : Net := ⟨p.w, p.cs, p.as.map fun _ => 0⟩
theorem qs_map {α β : Type} (l : List α) (h : α → β) (g : β → Rat) : qs (l.map h) g = qs l fun x => g (h x) := by
  induction l with
  | nil => rfl
  | cons x l ih => rw [List.map_cons, qs_cons, qs_cons, ih]
theorem z_g (p : Net) (x : Int → Rat) (c : Int) : p.z.g x c = ((p.cs.length : Rat) + (p.as.length : Rat)) * x c - qs p.cs x := by
  unfold Net.g Net.z
  simp only
  rw [List.length_map, qs_map, qs_zero fun _ _ => rfl]
  grind
theorem work_sub (ps : List Net) (x y f : Int → Rat) : work (ps.map Net.z) (fun c => x c - y c) f = work ps x f - work ps y f := by
  unfold work
  rw [qs_map, ← qs_sub]
  refine qs_congr fun p _ => ?_
  have e : qs p.z.cs (fun c => f c * p.z.g (fun c => x c - y c) c) = qs p.cs (fun c => f c * p.g x c) - qs p.cs (fun c => f c * p.g y c) := by
    rw [← qs_sub]
    refine qs_congr fun c _ => ?_
    rw [z_g, qs_sub]
    unfold Net.g
    grind
  rw [e]
  show p.w * _ = _
  grind
theorem z_w {ps : List Net} (hw : ∀ p ∈ ps, 0 < p.w) : ∀ p ∈ ps.map Net.z, 0 < p.w := by
  intro p hp
  obtain ⟨q, hq, rfl⟩ := List.mem_map.1 hp
  exact hw q hq
theorem z_held {n : Int} {ps : List Net} (hh : HeldN n ps) : HeldN n (ps.map Net.z) := by
  intro f h
  refine hh f fun p hp => ?_
  obtain ⟨h1, h2⟩ := h p.z (List.mem_map_of_mem hp)
  refine ⟨h1, fun ha => h2 fun e => ha ?_⟩
  have e' : (p.as.map fun _ => (0 : Rat)) = [] := e
  simpa using e'
section
variable {n : Int} {ps : List Net} (hw : ∀ p ∈ ps, 0 < p.w) (hh : HeldN n ps)
include hw hh
theorem z_kernel {v : Int → Rat} (h : work (ps.map Net.z) v v = 0) : ∀ c, 0 ≤ c → c < n → v c = 0 := by
  refine held_test (z_w hw) (z_held hh) h (fun p hp c hc d hd => by grind) fun p hp c hc a ha => ?_
  obtain ⟨q, hq, rfl⟩ := List.mem_map.1 hp
  have e : a = 0 := by
    obtain ⟨b, hb, rfl⟩ := List.mem_map.1 ha
    rfl
  rw [e]; grind
theorem held_det {A : Mat} {b : Nat → Int} {m : Nat} (hm : n = (m : Int)) (h : ∀ f x, form A m f x = lin b m f + work ps x f) : det m A ≠ 0 := by
  intro e
  obtain ⟨v, ⟨i, hi, hv⟩, hk⟩ := det_ker A e
  have h0 : ∀ f, form A m f (fun _ => 0) = 0 := fun f => by
    unfold form
    refine qs_zero fun i _ => ?_
    rw [qs_zero fun j _ => by grind]; grind
  have h1 : ∀ f, work ps (fun c => ((v c.toNat : Int) : Rat)) f = work ps (fun _ => 0) f := fun f => by
    have a1 := h f (fun c => ((v c.toNat : Int) : Rat))
    have a2 := h f (fun _ => 0)
    rw [form_ker hk] at a1
    rw [h0] at a2
    grind
  have h2 := z_kernel hw hh (v := fun c => ((v c.toNat : Int) : Rat) - (fun _ => (0 : Rat)) c) (by rw [work_sub, h1]; grind) (i : Int) (by omega) (by omega)
  simp only [Int.toNat_natCast] at h2
  apply hv
  have : ((v i : Int) : Rat) = ((0 : Int) : Rat) := by grind
  exact Rat.intCast_inj.1 this
theorem work_hi {x : Int → Rat} (hx : ∀ f, work ps x f = 0) {t : Rat} (ha : ∀ p ∈ ps, p.cs ≠ [] → ∀ a ∈ p.as, a ≤ t) : ∀ c, 0 ≤ c → c < n → x c ≤ t := by
  intro c h0 h1
  have h := held_test hw hh (x := x) (f := fun c => if x c ≤ t then 0 else x c - t) (hx _) (fun p hp c hc d hd => by
    split <;> split
    · grind
    · rename_i q r
      have : (x d - t) * (x c - t) ≤ 0 := by
        have := Rat.mul_nonneg (a := x d - t) (b := t - x c) (by grind) (by grind)
        grind
      grind
    · rename_i q r
      have : (x c - t) * (x d - t) ≤ 0 := by
        have := Rat.mul_nonneg (a := x c - t) (b := t - x d) (by grind) (by grind)
        grind
      grind
    · grind) (fun p hp c hc a ha' => by
    have hle := ha p hp (fun e => by rw [e] at hc; simp at hc) a ha'
    split
    · grind
    · have := Rat.mul_nonneg (a := x c - t) (b := t - a) (by grind) (by grind)
      grind) c h0 h1
  split at h
  · assumption
  · grind
end
/-- All turned about 0. -/
def Net.neg (p : Net) : Net := ⟨p.w, p.cs, p.as.map fun a => -a⟩
theorem qs_neg {α : Type} (l : List α) (g : α → Rat) : qs l (fun x => -g x) = -qs l g := by
  have := qs_mul l (-1) g
  have e : qs l (fun x => -g x) = qs l (fun x => -1 * g x) := qs_congr fun _ _ => by grind
  rw [e, this]; grind
theorem work_neg (ps : List Net) (x f : Int → Rat) : work (ps.map Net.neg) (fun c => -x c) f = -work ps x f := by
  unfold work
  rw [qs_map, ← qs_neg]
  refine qs_congr fun p _ => ?_
  have e : qs p.neg.cs (fun c => f c * p.neg.g (fun c => -x c) c) = -qs p.cs (fun c => f c * p.g x c) := by
    rw [← qs_neg]
    refine qs_congr fun c _ => ?_
    unfold Net.g Net.neg
    simp only
    rw [List.length_map, qs_map, qs_neg, qs_neg]
    grind
  rw [e]
  show p.w * _ = _
  grind
theorem neg_w {ps : List Net} (hw : ∀ p ∈ ps, 0 < p.w) : ∀ p ∈ ps.map Net.neg, 0 < p.w := by
  intro p hp
  obtain ⟨q, hq, rfl⟩ := List.mem_map.1 hp
  exact hw q hq
theorem neg_held {n : Int} {ps : List Net} (hh : HeldN n ps) : HeldN n (ps.map Net.neg) := by
  intro f h
  refine hh f fun p hp => ?_
  obtain ⟨h1, h2⟩ := h p.neg (List.mem_map_of_mem hp)
  refine ⟨h1, fun ha => h2 fun e => ha ?_⟩
  have e' : (p.as.map fun a => -a) = [] := e
  simpa using e'
theorem work_lo {n : Int} {ps : List Net} (hw : ∀ p ∈ ps, 0 < p.w) (hh : HeldN n ps) {x : Int → Rat} (hx : ∀ f, work ps x f = 0) {t : Rat} (ha : ∀ p ∈ ps, p.cs ≠ [] → ∀ a ∈ p.as, t ≤ a) : ∀ c, 0 ≤ c → c < n → t ≤ x c := by
  intro c h0 h1
  have h := work_hi (neg_w hw) (neg_held hh) (x := fun c => -x c) (t := -t) (fun f => by rw [work_neg, hx]; grind) (fun p hp hc a ha' => by
    obtain ⟨q, hq, rfl⟩ := List.mem_map.1 hp
    obtain ⟨b, hb, rfl⟩ := List.mem_map.1 ha'
    have := ha q hq hc b hb
    grind) c h0 h1
  grind
/-- The squares of all distances of numbers. -/
def en (l : List Rat) : Rat := (l.length : Rat) * qs l (fun z => z * z) - qs l (fun z => z) * qs l (fun z => z)
end Go.Proofs.Ytfkncjfpgflafaa.X
