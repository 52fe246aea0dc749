/- Plain law of 'legal': the table of least sums of a row of cells, the places that are read off it, and that no cell can move by one site without making the sum greater. No program in sight. -/
import Derived.Test.YtnooiajahmichaaXE
namespace Go.Proofs.Ytnooiajahmichaa.X
open Go Go.RowKit
set_option linter.unusedVariables false

theorem rd_mem {xs : List Int} {i : Int} (h0 : 0 ≤ i) (h1 : i < xs.length) : rd xs i ∈ xs := by
  have : i.toNat < xs.length := by omega
  rw [rd_lt xs this]; exact List.getElem_mem _
theorem rd_set {xs : List Int} {i j v : Int} (hi : 0 ≤ i) (hj : 0 ≤ j) (hl : i < xs.length) : rd (xs.set i.toNat v) j = if j = i then v else rd xs j := by
  by_cases h : j = i
  · subst h
    have : j.toNat < xs.length := by omega
    simp [rd, this]
  · have : i.toNat ≠ j.toNat := by omega
    simp only [rd, List.getD_eq_getElem?_getD, List.getElem?_set_ne this, h, if_false]
theorem ext_rd {xs ys : List Int} (hl : xs.length = ys.length) (h : ∀ i : Int, 0 ≤ i → i < xs.length → rd xs i = rd ys i) : xs = ys := by
  apply List.ext_getElem hl
  intro i h1 h2
  have := h i (by omega) (by omega)
  simpa [rd, h1, h2] using this
theorem rd_replicate (n : Nat) (v i : Int) (h0 : 0 ≤ i) (h1 : i < n) : rd (List.replicate n v) i = v := by
  have : i.toNat < n := by omega
  simp [rd, this]

/-- The least sum if a cell begins at a site; false: that is impossible. -/
def costF (wt wd at_ f : Int) (b : List Int) : Int × Bool :=
  if (b.length : Int) ≤ at_ + wd - f ∨ rd b (at_ + wd - f) < 0 then (0, false) else ((at_ - wt) * (at_ - wt) + rd b (at_ + wd - f), true)
def comb (c : Int × Bool) (m : Int) : Int := if c.2 = true ∧ (m < 0 ∨ c.1 ≤ m) then c.1 else m
/-- The least sum over the last d sites of a row of 'size'; -1: none. -/
def least (b : List Int) (wt wd f : Int) (size : Nat) : Nat → Int
  | 0 => -1
  | d + 1 => comb (costF wt wd (f + (size - (d + 1 : Nat))) f b) (least b wt wd f size d)
def rowF (b : List Int) (wt wd f : Int) (size : Nat) : List Int := (List.range size).map fun j => least b wt wd f size (size - j)
def rowsF (f : Int) (size : Nat) : List (Int × Int) → List Int
  | [] => List.replicate size 0
  | p :: r => rowF (rowsF f size r) p.1 p.2 f size
/-- How many sites are left where the least sum over the last d is first reached. -/
def seek (b : List Int) (wt wd f : Int) (size : Nat) : Nat → Nat
  | 0 => 0
  | d + 1 => if (costF wt wd (f + (size - (d + 1 : Nat))) f b).2 = true ∧ (costF wt wd (f + (size - (d + 1 : Nat))) f b).1 = least b wt wd f size (d + 1) then d + 1 else seek b wt wd f size d
def placeF (f : Int) (size : Nat) : List (Int × Int) → Int → List Int
  | [], _ => []
  | p :: r, at_ => (f + ((size : Int) - seek (rowsF f size r) p.1 p.2 f size (size - at_).toNat)) :: placeF f size r ((size : Int) - seek (rowsF f size r) p.1 p.2 f size (size - at_).toNat + p.2)

theorem rowsF_length (f : Int) (size : Nat) : ∀ ps, (rowsF f size ps).length = size
  | [] => by simp [rowsF]
  | p :: r => by simp [rowsF, rowF]
theorem rowsF_rd (f : Int) (size : Nat) (p : Int × Int) (r : List (Int × Int)) {k : Int} (h0 : 0 ≤ k) (h1 : k < size) : rd (rowsF f size (p :: r)) k = least (rowsF f size r) p.1 p.2 f size (size - k).toNat := by
  have h : k.toNat < size := by omega
  simp only [rowsF, rowF, rd, List.getD_eq_getElem?_getD]
  rw [List.getElem?_map, List.getElem?_range h]
  simp only [Option.map_some, Option.getD_some]
  congr 1
  omega

theorem sq_nonneg (a : Int) : 0 ≤ a * a := by
  rcases Int.le_total 0 a with h | h
  · exact Int.mul_nonneg h h
  · exact Int.mul_nonneg_of_nonpos_of_nonpos h h
theorem costF_nonneg {wt wd at_ f : Int} {b : List Int} (h : (costF wt wd at_ f b).2 = true) : 0 ≤ (costF wt wd at_ f b).1 := by
  unfold costF at *
  split at h
  · cases h
  · rename_i hc
    rw [if_neg hc]
    have := sq_nonneg (at_ - wt)
    simp only [not_or] at hc
    show 0 ≤ (at_ - wt) * (at_ - wt) + rd b (at_ + wd - f)
    omega
theorem costF_ok {wt wd at_ f : Int} {b : List Int} (h1 : at_ + wd - f < b.length) (h2 : 0 ≤ rd b (at_ + wd - f)) : costF wt wd at_ f b = ((at_ - wt) * (at_ - wt) + rd b (at_ + wd - f), true) := by
  unfold costF
  rw [if_neg (by omega)]
theorem costF_spec {wt wd at_ f : Int} {b : List Int} (h : (costF wt wd at_ f b).2 = true) : at_ + wd - f < b.length ∧ 0 ≤ rd b (at_ + wd - f) ∧ (costF wt wd at_ f b).1 = (at_ - wt) * (at_ - wt) + rd b (at_ + wd - f) := by
  unfold costF at *
  split at h
  · cases h
  · rename_i hc
    rw [if_neg hc]
    simp only [not_or] at hc
    exact ⟨by omega, by omega, rfl⟩

section
variable (b : List Int) (wt wd f : Int) (size : Nat)
theorem least_ge : ∀ d, -1 ≤ least b wt wd f size d
  | 0 => by simp [least]
  | d + 1 => by
    have ih := least_ge d
    simp only [least, comb]
    split
    · rename_i h; have := costF_nonneg h.1; omega
    · exact ih
theorem least_step (d : Nat) (h : 0 ≤ least b wt wd f size d) : 0 ≤ least b wt wd f size (d + 1) ∧ least b wt wd f size (d + 1) ≤ least b wt wd f size d := by
  simp only [least, comb]
  split
  · rename_i hc; have := costF_nonneg hc.1; omega
  · omega
theorem least_le {d : Nat} : ∀ {d' : Nat}, d ≤ d' → 0 ≤ least b wt wd f size d → 0 ≤ least b wt wd f size d' ∧ least b wt wd f size d' ≤ least b wt wd f size d
  | d', hle, h => by
    induction d' with
    | zero => obtain rfl : d = 0 := by omega
              exact ⟨h, Int.le_refl _⟩
    | succ d' ih =>
      rcases Nat.lt_or_ge d' d with h1 | h1
      · obtain rfl : d = d' + 1 := by omega
        exact ⟨h, Int.le_refl _⟩
      · have h2 := ih h1
        have h3 := least_step b wt wd f size d' h2.1
        omega
/-- No later site has a smaller sum. -/
theorem least_cost {d e : Nat} (he : 1 ≤ e) (hed : e ≤ d) (h : (costF wt wd (f + ((size : Int) - (e : Nat))) f b).2 = true) : 0 ≤ least b wt wd f size d ∧ least b wt wd f size d ≤ (costF wt wd (f + ((size : Int) - (e : Nat))) f b).1 := by
  obtain ⟨e, rfl⟩ : ∃ m, e = m + 1 := ⟨e - 1, by omega⟩
  have h1 : 0 ≤ least b wt wd f size (e + 1) ∧ least b wt wd f size (e + 1) ≤ (costF wt wd (f + ((size : Int) - (e + 1 : Nat))) f b).1 := by
    have hn := costF_nonneg h
    have hg := least_ge b wt wd f size e
    simp only [least, comb]
    split
    · exact ⟨hn, Int.le_refl _⟩
    · rename_i hc
      have : ¬ (least b wt wd f size e < 0 ∨ (costF wt wd (f + ((size : Int) - (e + 1 : Nat))) f b).1 ≤ least b wt wd f size e) := fun h' => hc ⟨h, h'⟩
      omega
  have h2 := least_le b wt wd f size hed h1.1
  omega
/-- Where the search ends. -/
theorem seek_spec : ∀ d, 0 ≤ least b wt wd f size d → 1 ≤ seek b wt wd f size d ∧ seek b wt wd f size d ≤ d ∧
    (costF wt wd (f + ((size : Int) - (seek b wt wd f size d : Nat))) f b).2 = true ∧ (costF wt wd (f + ((size : Int) - (seek b wt wd f size d : Nat))) f b).1 = least b wt wd f size d ∧
    least b wt wd f size (seek b wt wd f size d) = least b wt wd f size d
  | 0, h => by simp [least] at h
  | d + 1, h => by
    by_cases hc : (costF wt wd (f + (size - (d + 1 : Nat))) f b).2 = true ∧ (costF wt wd (f + (size - (d + 1 : Nat))) f b).1 = least b wt wd f size (d + 1)
    · have e : seek b wt wd f size (d + 1) = d + 1 := by simp only [seek]; rw [if_pos hc]
      rw [e]
      exact ⟨by omega, by omega, hc.1, hc.2, rfl⟩
    · have e : seek b wt wd f size (d + 1) = seek b wt wd f size d := by simp only [seek]; rw [if_neg hc]
      have hm : least b wt wd f size (d + 1) = least b wt wd f size d := by
        simp only [least, comb] at hc ⊢
        split
        · rename_i h1; rw [if_pos h1] at hc; exact absurd ⟨h1.1, rfl⟩ hc
        · rfl
      rw [hm] at h
      obtain ⟨h1, h2, h3, h4, h5⟩ := seek_spec d h
      rw [e, hm]
      exact ⟨h1, by omega, h3, h4, h5⟩
/-- Between the start and where the search ends the least sum is the same. -/
theorem least_const {d e : Nat} (h : 0 ≤ least b wt wd f size d) (h1 : seek b wt wd f size d ≤ e) (h2 : e ≤ d) : least b wt wd f size e = least b wt wd f size d := by
  obtain ⟨g1, g2, g3, g4, g5⟩ := seek_spec b wt wd f size d h
  have h3 : 0 ≤ least b wt wd f size (seek b wt wd f size d) := by rw [g5]; exact h
  have h4 := least_le b wt wd f size h1 h3
  have h5 := least_le b wt wd f size h2 h4.1
  omega
end

/-- A row of cells that fit. -/
theorem rowsF_fits (f : Int) (size : Nat) : ∀ (ps : List (Int × Int)) (k : Int), (∀ p ∈ ps, 1 ≤ p.2) → 0 ≤ k → k + (ps.map (·.2)).sum < size → 0 ≤ rd (rowsF f size ps) k
  | [], k, _, h0, h1 => by simp [rowsF]; rw [rd_replicate _ _ _ h0 (by simpa using h1)]; omega
  | p :: r, k, hp, h0, h1 => by
    simp only [List.map_cons, List.sum_cons] at h1
    have hs : ∀ (r : List (Int × Int)), (∀ p ∈ r, 1 ≤ p.2) → 0 ≤ (r.map (·.2)).sum := by
      intro r hr
      induction r with
      | nil => simp
      | cons q r ih => simp only [List.map_cons, List.sum_cons]; have := hr q (by simp); have := ih (fun p hp => hr p (by simp [hp])); omega
    have hr := hs r (fun q hq => hp q (by simp [hq]))
    have hp1 := hp p (by simp)
    rw [rowsF_rd f size p r h0 (by omega)]
    have ih := rowsF_fits f size r (k + p.2) (fun q hq => hp q (by simp [hq])) (by omega) (by omega)
    have hc : costF p.1 p.2 (f + ((size : Int) - ((size - k).toNat : Nat))) f (rowsF f size r) = _ := costF_ok (by rw [rowsF_length]; omega) (by rw [show f + ((size : Int) - ((size - k).toNat : Nat)) + p.2 - f = k + p.2 by omega]; exact ih)
    exact (least_cost (rowsF f size r) p.1 p.2 f size (d := (size - k).toNat) (e := (size - k).toNat) (by omega) (Nat.le_refl _) (by rw [hc])).1

def headOr (t : Int) : List Int → Int
  | [] => t
  | y :: _ => y
/-- What the law asks of the places x of cells that want to be at want, from site 'low' on, before site t. -/
def Fine (t : Int) : List (Int × Int) → Int → List Int → Prop
  | [], _, xs => xs = []
  | p :: r, low, xs => ∃ x xs', xs = x :: xs' ∧ low ≤ x ∧ x ≤ headOr t xs' - p.2 ∧
      ¬ (x < headOr t xs' - p.2 ∧ (x - p.1 + 1) * (x - p.1 + 1) < (x - p.1) * (x - p.1)) ∧
      ¬ (low < x ∧ (x - p.1 - 1) * (x - p.1 - 1) ≤ (x - p.1) * (x - p.1)) ∧ Fine t r (x + p.2) xs'

theorem sq_up (d : Int) : (d + 1) * (d + 1) = d * d + 2 * d + 1 := by
  have : (d + 1) * (d + 1) = d * d + (2 * d + 1) := by rw [Int.add_mul, Int.mul_add]; omega
  omega
theorem sq_down (d : Int) : (d - 1) * (d - 1) = d * d - 2 * d + 1 := by
  have := sq_up (d - 1)
  rw [show d - 1 + 1 = d by omega] at this
  omega

theorem place_fine (f : Int) (size : Nat) : ∀ (ps : List (Int × Int)) (k : Int), (∀ p ∈ ps, 1 ≤ p.2) → 0 ≤ k → k < size → 0 ≤ rd (rowsF f size ps) k →
    Fine (f + size - 1) ps (f + k) (placeF f size ps k) ∧ (match placeF f size ps k with | [] => True | y :: _ => f + k ≤ y ∧ y < f + size ∧ ∀ j : Int, k ≤ j → f + j ≤ y → rd (rowsF f size ps) j = rd (rowsF f size ps) k)
  | [], k, _, _, _, _ => by simp [placeF, Fine]
  | p :: r, k, hp, h0, h1, h2 => by
    rw [rowsF_rd f size p r h0 h1] at h2
    obtain ⟨g1, g2, g3, g4, g5⟩ := seek_spec (rowsF f size r) p.1 p.2 f size _ h2
    have hp1 := hp p (by simp)
    generalize hb : rowsF f size r = b at *
    generalize hd : (size - k).toNat = d at *
    generalize he : seek b p.1 p.2 f size d = e at *
    have hd' : (d : Int) = size - k := by omega
    have hblen : b.length = size := by rw [← hb]; exact rowsF_length f size r
    obtain ⟨c1, c2, c3⟩ := costF_spec g3
    have hq : f + ((size : Int) - (e : Nat)) + p.2 - f = (size : Int) - e + p.2 := by omega
    rw [hq] at c1 c2 c3
    have ih := place_fine f size r ((size : Int) - e + p.2) (fun q hq => hp q (by simp [hq])) (by omega) (by omega) (by rw [hb]; exact c2)
    rw [hb] at ih
    have hpl : placeF f size (p :: r) k = (f + ((size : Int) - e)) :: placeF f size r ((size : Int) - e + p.2) := by
      simp only [placeF, hb, hd, he]
    rw [hpl]
    have key1 : ∀ hi : Int, (∀ j : Int, (size : Int) - e + p.2 ≤ j → f + j ≤ hi → j < size → rd b j = rd b ((size : Int) - e + p.2)) → hi ≤ f + size - 1 →
        ¬ (f + ((size : Int) - e) < hi - p.2 ∧ (f + ((size : Int) - e) - p.1 + 1) * (f + ((size : Int) - e) - p.1 + 1) < (f + ((size : Int) - e) - p.1) * (f + ((size : Int) - e) - p.1)) := by
      rintro hi hc hlt ⟨ha, hs⟩
      have he2 : 2 ≤ e := by omega
      have hb1 : rd b ((size : Int) - e + p.2 + 1) = rd b ((size : Int) - e + p.2) := hc _ (by omega) (by omega) (by omega)
      have hpos : f + ((size : Int) - ((e - 1 : Nat) : Int)) + p.2 - f = (size : Int) - e + p.2 + 1 := by omega
      have hcost : costF p.1 p.2 (f + ((size : Int) - ((e - 1 : Nat) : Int))) f b = _ := costF_ok (by rw [hpos, hblen]; omega) (by rw [hpos, hb1]; exact c2)
      have hle := least_cost b p.1 p.2 f size (d := d) (e := e - 1) (by omega) (by omega) (by rw [hcost])
      rw [hcost, hpos, hb1, show f + ((size : Int) - ((e - 1 : Nat) : Int)) - p.1 = f + ((size : Int) - e) - p.1 + 1 by omega] at hle
      have := hle.2
      rw [← g4, c3] at this
      simp only at this
      omega
    have key2 : ¬ (f + k < f + ((size : Int) - e) ∧ (f + ((size : Int) - e) - p.1 - 1) * (f + ((size : Int) - e) - p.1 - 1) ≤ (f + ((size : Int) - e) - p.1) * (f + ((size : Int) - e) - p.1)) := by
      rintro ⟨ha, hs⟩
      have hs' : (f + ((size : Int) - e) - p.1 - 1) * (f + ((size : Int) - e) - p.1 - 1) < (f + ((size : Int) - e) - p.1) * (f + ((size : Int) - e) - p.1) := by
        have := sq_down (f + ((size : Int) - e) - p.1); omega
      have hpos : f + ((size : Int) - ((e + 1 : Nat) : Int)) + p.2 - f = (size : Int) - e + p.2 - 1 := by omega
      have hb1 : 0 ≤ rd b ((size : Int) - e + p.2 - 1) ∧ rd b ((size : Int) - e + p.2 - 1) ≤ rd b ((size : Int) - e + p.2) := by
        cases r with
        | nil =>
          rw [← hb] at c2 ⊢
          simp only [rowsF] at c2 ⊢
          rw [rd_replicate _ _ _ (by omega) (by omega), rd_replicate _ _ _ (by omega) (by omega)]
          omega
        | cons q r =>
          rw [← hb, rowsF_rd f size q r (by omega) (by omega)] at c2
          rw [← hb, rowsF_rd f size q r (by omega) (by omega), rowsF_rd f size q r (by omega) (by omega)]
          exact least_le _ _ _ _ _ (by omega) c2
      have hcost : costF p.1 p.2 (f + ((size : Int) - ((e + 1 : Nat) : Int))) f b = _ := costF_ok (by rw [hpos, hblen]; omega) (by rw [hpos]; exact hb1.1)
      have hle := least_cost b p.1 p.2 f size (d := d) (e := e + 1) (by omega) (by omega) (by rw [hcost])
      rw [hcost, hpos, show f + ((size : Int) - ((e + 1 : Nat) : Int)) - p.1 = f + ((size : Int) - e) - p.1 - 1 by omega] at hle
      have := hle.2
      rw [← g4, c3] at this
      simp only at this
      omega
    refine ⟨⟨_, _, rfl, by omega, ?_, ?_, key2, ?_⟩, by omega, by omega, ?_⟩
    · cases hx : placeF f size r ((size : Int) - e + p.2) with
      | nil => simp only [headOr]; omega
      | cons y ys => rw [hx] at ih; simp only [headOr] at ih ⊢; omega
    · cases hx : placeF f size r ((size : Int) - e + p.2) with
      | nil =>
        simp only [headOr]
        refine key1 _ ?_ (Int.le_refl _)
        intro j h3 h4 h5
        cases r with
        | nil => rw [← hb]; simp only [rowsF]; rw [rd_replicate _ _ _ (by omega) (by omega), rd_replicate _ _ _ (by omega) (by omega)]
        | cons q r => simp [placeF] at hx
      | cons y ys =>
        rw [hx] at ih
        simp only [headOr] at ih ⊢
        exact key1 y (fun j h3 h4 h5 => ih.2.2.2 j h3 h4) (by omega)
    · have := ih.1
      rwa [show f + ((size : Int) - e + p.2) = f + ((size : Int) - e) + p.2 by omega] at this
    · intro j h3 h4
      rw [rowsF_rd f size p r (by omega) (by omega), rowsF_rd f size p r h0 h1, hb, hd]
      exact least_const b p.1 p.2 f size h2 (by rw [he]; omega) (by omega)
theorem Fine.get {t : Int} : ∀ (ps : List (Int × Int)) (low : Int) (xs : List Int), Fine t ps low xs → ∀ i : Nat, i < ps.length → ∀ lw hg : Int, (lw = if i = 0 then low else rd xs ((i : Int) - 1) + (ps.getD (i - 1) (0, 0)).2) →
    (hg = (if i + 1 < ps.length then rd xs ((i : Int) + 1) else t) - (ps.getD i (0, 0)).2) →
    lw ≤ rd xs i ∧ rd xs i ≤ hg ∧ ¬ (rd xs i < hg ∧ (rd xs i - (ps.getD i (0, 0)).1 + 1) * (rd xs i - (ps.getD i (0, 0)).1 + 1) < (rd xs i - (ps.getD i (0, 0)).1) * (rd xs i - (ps.getD i (0, 0)).1)) ∧
    ¬ (lw < rd xs i ∧ (rd xs i - (ps.getD i (0, 0)).1 - 1) * (rd xs i - (ps.getD i (0, 0)).1 - 1) ≤ (rd xs i - (ps.getD i (0, 0)).1) * (rd xs i - (ps.getD i (0, 0)).1))
  | [], _, _, _, i, hi, _, _, _, _ => by simp at hi
  | p :: r, low, xs, h, i, hi, lw, hg, hlw, hhg => by
    obtain ⟨x, xs', rfl, h1, h2, h3, h4, h5⟩ := h
    cases i with
    | zero =>
      have hh : hg = headOr t xs' - p.2 := by
        rw [hhg]
        cases r with
        | nil => simp only [Fine] at h5; subst h5; simp [headOr]
        | cons q r => obtain ⟨y, ys, rfl, _⟩ := h5; simp [rd, headOr]
      have hl : lw = low := by simpa using hlw
      rw [hh, hl]
      exact ⟨h1, h2, h3, h4⟩
    | succ i =>
      have e : ∀ j : Nat, rd (x :: xs') (((j + 1 : Nat) : Int)) = rd xs' j := by intro j; simp [rd]
      have ih := Fine.get r (x + p.2) xs' h5 i (by simpa using hi) lw hg
        (by
          rw [hlw, if_neg (by omega)]
          cases i with
          | zero => simp [rd]
          | succ i =>
            rw [if_neg (by omega), show (((i + 1 + 1 : Nat) : Int) - 1) = ((i + 1 : Nat) : Int) by omega, e, show (((i + 1 : Nat) : Int) - 1) = (i : Int) by omega]
            simp)
        (by
          rw [hhg]
          have e2 : rd (x :: xs') (((i + 1 : Nat) : Int) + 1) = rd xs' ((i : Int) + 1) := by
            rw [show ((i + 1 : Nat) : Int) + 1 = ((i + 1 + 1 : Nat) : Int) by omega, e]; rfl
          rw [e2]
          simp)
      rw [e]
      simpa using ih
theorem Fine.bounds {t : Int} : ∀ (ps : List (Int × Int)) (low : Int) (xs : List Int), (∀ p ∈ ps, 1 ≤ p.2) → Fine t ps low xs → headOr t xs ≤ t ∧ ∀ x ∈ xs, low ≤ x ∧ x ≤ t
  | [], _, _, _, h => by simp only [Fine] at h; subst h; simp [headOr]
  | p :: r, low, _, hp, ⟨x, xs', rfl, h1, h2, _, _, h5⟩ => by
    have ih := Fine.bounds r (x + p.2) xs' (fun q hq => hp q (by simp [hq])) h5
    have hp1 := hp p (by simp)
    refine ⟨by simp only [headOr]; omega, fun y hy => ?_⟩
    rcases List.mem_cons.1 hy with rfl | hy
    · omega
    · have := ih.2 y hy; omega
theorem rd_bounds {xs : List Int} {a b : Int} (h : ∀ x ∈ xs, a ≤ x ∧ x ≤ b) (ha : a ≤ 0) (hb : 0 ≤ b) (j : Int) : a ≤ rd xs j ∧ rd xs j ≤ b := by
  by_cases hj : j.toNat < xs.length
  · rw [rd_lt xs hj]; exact h _ (List.getElem_mem _)
  · simp only [rd, List.getD_eq_getElem?_getD]
    rw [List.getElem?_eq_none (by omega)]
    exact ⟨ha, hb⟩
theorem zip_getD {want wide : List Int} {i : Nat} (h : i < want.length) (hl : wide.length = want.length) : (want.zip wide).getD i (0, 0) = (rd want i, rd wide i) := by
  have h2 : i < wide.length := by omega
  have h3 : i < (want.zip wide).length := by simp; omega
  rw [List.getD_eq_getElem?_getD, List.getElem?_eq_getElem h3]
  simp [rd, h, h2]
theorem sq_small {a : Int} (h0 : -1000000 ≤ a) (h1 : a ≤ 1000000) : -9223372036854775808 ≤ a * a ∧ a * a ≤ 9223372036854775807 := by
  have h2 := sq_nonneg a
  have h6 : a.natAbs * a.natAbs ≤ 1000000 * 1000000 := Nat.mul_le_mul (by omega) (by omega)
  have h7 : ((a.natAbs * a.natAbs : Nat) : Int) = a * a := Int.natAbs_mul_self
  omega
theorem place_length (f : Int) (size : Nat) : ∀ (ps : List (Int × Int)) (k : Int), (placeF f size ps k).length = ps.length
  | [], _ => rfl
  | p :: r, k => by simp [placeF, place_length f size r]
end Go.Proofs.Ytnooiajahmichaa.X
