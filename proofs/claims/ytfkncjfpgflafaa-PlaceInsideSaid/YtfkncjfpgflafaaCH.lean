/- PlaceInside: the places lie in the rectangle of the fixed points. Plain. -/
import Derived.Test.YtfkncjfpgflafaaCF
namespace Go.Proofs.Ytfkncjfpgflafaa.X
open Go Go.RowKit
set_option linter.unusedVariables false
set_option linter.unusedSimpArgs false
theorem places_ok : Ok P_maskkeep4_places (fun r => r = true) := ⟨true, by decide +kernel, rfl⟩
theorem cmp_ge {p q : Rat} (h : q ≤ p) : ¬ (p.num * q.den - q.num * p.den).sign < 0 := by
  rw [(cmp_sign p q).2]; exact Rat.not_lt.2 h
theorem cmp_le {p q : Rat} (h : p ≤ q) : ¬ 0 < (p.num * q.den - q.num * p.den).sign := by
  have h1 := cmp_sign p q
  intro h0
  have a1 : ¬ p = q := by rw [← h1.1]; omega
  have a2 : ¬ p < q := by rw [← h1.2]; omega
  exact a1 (Rat.le_antisymm h (Rat.not_lt.1 a2))
def InBox (q : T_floor_Point) (b : Int × Int × Int × Int) : Prop := b.1 ≤ q.X ∧ b.2.1 ≤ q.Y ∧ q.X ≤ b.2.2.1 ∧ q.Y ≤ b.2.2.2
def SmallBox (b : Int × Int × Int × Int) : Prop := (-60 ≤ b.1 ∧ b.1 ≤ 60) ∧ (-60 ≤ b.2.1 ∧ b.2.1 ≤ 60) ∧ (-60 ≤ b.2.2.1 ∧ b.2.2.1 ≤ 60) ∧ (-60 ≤ b.2.2.2 ∧ b.2.2.2 ≤ 60)
theorem mem_gt' {α : Type} [Inhabited α] {l : List α} {x : α} (h : x ∈ l) : ∃ i : Int, 0 ≤ i ∧ i < l.length ∧ gt l i = x := by
  obtain ⟨i, hi, e⟩ := mem_gt h
  exact ⟨i, hi.1, by have := hi.2; omega, e⟩
section
variable {n : Nat} {l : List T_place_Pull} (h : PullsOk n l)
include h
theorem box_ok (k : Int) : Ok (lp (P_maskkeep4_PlaceInside_L9 (l, k)) fuel (60, 60, 0, 0, 0)) (fun b => SmallBox b ∧ ∀ p ∈ l, p.Cells ≠ [] → ∀ q ∈ p.At, InBox q b) := by
  have hlen := h.len
  refine ok_lp (fun s => 0 ≤ s.2.2.2.2 ∧ s.2.2.2.2 ≤ l.length ∧ SmallBox (s.1, s.2.1, s.2.2.1, s.2.2.2.1) ∧ ∀ i : Int, 0 ≤ i → i < s.2.2.2.2 → (gt l i).Cells ≠ [] → ∀ q ∈ (gt l i).At, InBox q (s.1, s.2.1, s.2.2.1, s.2.2.2.1)) (fun s => ((l.length : Int) - s.2.2.2.2).toNat)
    ⟨by simp only; omega, by simp only; omega, by unfold SmallBox; simp only; omega, fun i i0 i1 => by simp only at i1; omega⟩ (by simp only; omega) ?_
  rintro ⟨x0, y0, x1, y1, y⟩ ⟨z0, z1, sb, hb⟩
  simp only at z0 z1 sb hb ⊢
  unfold P_maskkeep4_PlaceInside_L9
  dsimp only
  refine ok_ite (fun hlt => ?_) fun hge => ok_some ⟨sb, fun p hp hc q hq => ?_⟩
  · have hp := h.all _ (gt_mem (i := y) (xs := l) ⟨z0, hlt⟩)
    have ey : ∀ i : Int, i = y → gt l i = gt l y := fun i e => by rw [e]
    refine ok_bd (R := fun b => SmallBox b ∧ (b.1 ≤ x0 ∧ b.2.1 ≤ y0 ∧ x1 ≤ b.2.2.1 ∧ y1 ≤ b.2.2.2) ∧ ((gt l y).Cells ≠ [] → ∀ q ∈ (gt l y).At, InBox q b)) ?_ ?_
    · refine ok_ck ⟨z0, hlt⟩ (ok_lv ?_)
      generalize gt l y = p at hp
      have hal := hp.al
      refine ok_ite (fun he => ok_some ⟨sb, by simp only; omega, fun hc => ?_⟩) fun he => ?_
      · exact absurd (List.length_eq_zero_iff.1 (by omega)) hc
      refine ok_bd (R := fun b => SmallBox b ∧ (b.1 ≤ x0 ∧ b.2.1 ≤ y0 ∧ x1 ≤ b.2.2.1 ∧ y1 ≤ b.2.2.2) ∧ ∀ q ∈ p.At, InBox q b) ?_ ?_
      · refine ok_lp (fun s => 0 ≤ s.2.2.2.2 ∧ s.2.2.2.2 ≤ p.At.length ∧ SmallBox (s.1, s.2.1, s.2.2.1, s.2.2.2.1) ∧ (s.1 ≤ x0 ∧ s.2.1 ≤ y0 ∧ x1 ≤ s.2.2.1 ∧ y1 ≤ s.2.2.2.1) ∧ ∀ i : Int, 0 ≤ i → i < s.2.2.2.2 → InBox (gt p.At i) (s.1, s.2.1, s.2.2.1, s.2.2.2.1)) (fun s => ((p.At.length : Int) - s.2.2.2.2).toNat)
          ⟨by simp only; omega, by simp only; omega, sb, by simp only; omega, fun i i0 i1 => by simp only at i1; omega⟩ (by simp only; omega) ?_
        rintro ⟨u0, v0, u1, v1, z⟩ ⟨w0, w1, su, hu, hbu⟩
        simp only at w0 w1 su hu hbu ⊢
        unfold P_maskkeep4_PlaceInside_L13
        dsimp only
        refine ok_ite (fun hz => ?_) fun hz => ok_some ⟨su, hu, fun q hq => ?_⟩
        · have hq := hp.pt _ (gt_mem (i := z) (xs := p.At) ⟨w0, hz⟩)
          have ez : ∀ i : Int, i = z → gt p.At i = gt p.At z := fun i e => by rw [e]
          refine ok_ck ⟨w0, hz⟩ (ok_lv (ok_lv (ok_lv (ok_lv (ok_lv (ok_ar (by omega) (ok_some ⟨⟨by simp only; omega, by simp only; omega, ?_, ?_, fun i i0 i1 => ?_⟩, by simp only; omega⟩)))))))
          · unfold SmallBox at su ⊢
            simp only at su ⊢
            omega
          · simp only; omega
          · simp only at i1 ⊢
            by_cases e : i = z
            · rw [ez i e]; unfold InBox; simp only; omega
            · have := hbu i i0 (by omega)
              unfold InBox at this ⊢
              simp only at this ⊢
              omega
        · obtain ⟨i, i0, i1, rfl⟩ := mem_gt' hq
          exact hbu i i0 (by omega)
      rintro ⟨u0, v0, u1, v1⟩ ⟨q1, q2, q3⟩
      exact ok_some ⟨q1, q2, fun _ => q3⟩
    rintro ⟨u0, v0, u1, v1⟩ ⟨q1, q2, q3⟩
    simp only at q2
    refine ok_ar (by omega) (ok_some ⟨⟨by simp only; omega, by simp only; omega, q1, fun i i0 i1 hc q hq => ?_⟩, by simp only; omega⟩)
    simp only at i1 ⊢
    by_cases e : i = y
    · rw [ey i e] at hc hq; exact q3 hc q hq
    · have := hb i i0 (by omega) hc q hq
      unfold InBox at this ⊢
      simp only at this ⊢
      omega
  · obtain ⟨i, i0, i1, rfl⟩ := mem_gt' hp
    exact hb i i0 (by omega) hc q hq
end
theorem box_hi {l : List T_place_Pull} {g : T_floor_Point → Int} {t : Int} (h : ∀ p ∈ l, p.Cells ≠ [] → ∀ q ∈ p.At, g q ≤ t) : ∀ p ∈ nets g l, p.cs ≠ [] → ∀ a ∈ p.as, a ≤ (t : Rat) := by
  intro p hp hc a ha
  obtain ⟨q, hq, rfl⟩ := List.mem_map.1 hp
  obtain ⟨b, hb, rfl⟩ := List.mem_map.1 ha
  have := h q hq hc b hb
  exact_mod_cast this
theorem box_lo {l : List T_place_Pull} {g : T_floor_Point → Int} {t : Int} (h : ∀ p ∈ l, p.Cells ≠ [] → ∀ q ∈ p.At, t ≤ g q) : ∀ p ∈ nets g l, p.cs ≠ [] → ∀ a ∈ p.as, (t : Rat) ≤ a := by
  intro p hp hc a ha
  obtain ⟨q, hq, rfl⟩ := List.mem_map.1 hp
  obtain ⟨b, hb, rfl⟩ := List.mem_map.1 ha
  have := h q hq hc b hb
  exact_mod_cast this
theorem rsz_small {t : Int} (h0 : -60 ≤ t) (h1 : t ≤ 60) : rsz (t : Rat) ≤ 1 := by
  have h := rsz_int t
  have h2 : dlen t ≤ 1 := dlen_le (by rw [Nat.pow_one]; omega)
  omega
theorem PlaceInside_ok {L : List Int} (hL : Strm L) : Ok (P_maskkeep4_PlaceInside L) (fun r => r = true) := by
  unfold P_maskkeep4_PlaceInside
  refine ok_bd (hL.range (by omega) (by omega) (by omega) (by omega)) ?_
  rintro ⟨n, q⟩ ⟨n0, n1, rfl⟩
  simp only at n0 n1 ⊢
  obtain ⟨n, rfl⟩ := Int.eq_ofNat_of_zero_le (show 0 ≤ n by omega)
  refine ok_bd (pulls_ok hL (by omega) (by omega) (by omega)) ?_
  rintro ⟨l, k⟩ ⟨hl, -, -, -⟩
  simp only at hl ⊢
  refine ok_bd (PSolve_ok hl (by omega) (by omega)) ?_
  rintro ⟨at_, e⟩ ⟨e0, X, Y, D, G, hs, w1, w2⟩
  simp only at e0 hs ⊢
  subst e0
  refine ok_bd places_ok ?_
  rintro _ rfl
  have a1 := hs.len
  refine ok_lv (ok_lv (ok_f ?_ ?_))
  · simp only [Bool.or_eq_true, decide_eq_true_eq, Bool.not_eq_true', ne_eq, not_true_eq_false, or_false, false_or]
    rw [a1]
    simp
  refine ok_bd (box_ok hl k) ?_
  rintro ⟨x0, y0, x1, y1⟩ ⟨sb, hb⟩
  unfold SmallBox at sb
  unfold InBox at hb
  simp only at sb hb ⊢
  have bx1 := work_hi (nets_w hl (·.X)) (nets_held hl (·.X)) w1 (box_hi (t := x1) fun p hp hc q hq => (hb p hp hc q hq).2.2.1)
  have bx0 := work_lo (nets_w hl (·.X)) (nets_held hl (·.X)) w1 (box_lo (t := x0) fun p hp hc q hq => (hb p hp hc q hq).1)
  have by1 := work_hi (nets_w hl (·.Y)) (nets_held hl (·.Y)) w2 (box_hi (t := y1) fun p hp hc q hq => (hb p hp hc q hq).2.2.2)
  have by0 := work_lo (nets_w hl (·.Y)) (nets_held hl (·.Y)) w2 (box_lo (t := y0) fun p hp hc q hq => (hb p hp hc q hq).2.1)
  have r1 := rsz_small sb.1.1 sb.1.2
  have r2 := rsz_small sb.2.1.1 sb.2.1.2
  have r3 := rsz_small sb.2.2.1.1 sb.2.2.1.2
  have r4 := rsz_small sb.2.2.2.1 sb.2.2.2.2
  refine ok_bs1 (R := fun _ => True) ?_ fun _ _ => ok_some rfl
  refine ok_lp (fun y => 0 ≤ y ∧ y ≤ n) (fun y => ((n : Int) - y).toNat) ⟨by omega, by omega⟩ (by omega) ?_
  rintro y ⟨z0, z1⟩
  obtain ⟨i, rfl⟩ := Int.eq_ofNat_of_zero_le z0
  unfold P_maskkeep4_PlaceInside_L19
  rw [a1]
  refine ok_ite (fun hlt => ?_) fun hge => ok_some ⟨(), rfl, trivial⟩
  have hi : i < n := by omega
  have s1 := hs.szX hi
  have s2 := hs.szY hi
  refine ok_ck ⟨by omega, by omega⟩ (ok_lv ?_)
  rw [hs.out i hi]
  simp only [rt_eta]
  refine ok_bd (Whole_ok (by omega)) ?_
  rintro _ rfl
  refine ok_bd (Compare_ok (by omega) (by omega)) ?_
  rintro c1 hc1
  have c1' : ¬ c1 < 0 := by rw [hc1]; exact cmp_ge (bx0 i (by omega) (by omega))
  clear hc1
  refine ok_bd (R := fun r => r = rt (x1 : Rat)) (ok_gd (fun _ => Whole_ok (by omega)) fun hq => by simp [c1'] at hq) ?_
  rintro _ rfl
  refine ok_bd (R := fun r => ¬ 0 < r) (ok_gd (fun _ => (Compare_ok (by omega) (by omega)).mono fun r hr => ?_) fun hq => by simp [c1'] at hq) ?_
  · rw [hr]; exact cmp_le (bx1 i (by omega) (by omega))
  intro c2 hc2
  refine ok_lv ?_
  have g1 : (decide (c1 < 0) || decide (0 < c2)) = false := by simp only [Bool.or_eq_false_iff, decide_eq_false_iff_not]; exact ⟨c1', hc2⟩
  rw [g1]
  refine ok_bd (R := fun r => r = rt (y0 : Rat)) (ok_gd (fun _ => Whole_ok (by omega)) fun hq => by simp at hq) ?_
  rintro _ rfl
  refine ok_bd (R := fun r => ¬ r < 0) (ok_gd (fun _ => (Compare_ok (by omega) (by omega)).mono fun r hr => ?_) fun hq => by simp at hq) ?_
  · rw [hr]; exact cmp_ge (by0 i (by omega) (by omega))
  intro c3 hc3
  refine ok_lv ?_
  have g2 : (false || decide (c3 < 0)) = false := by simp only [Bool.false_or, decide_eq_false_iff_not]; exact hc3
  rw [g2]
  refine ok_bd (R := fun r => r = rt (y1 : Rat)) (ok_gd (fun _ => Whole_ok (by omega)) fun hq => by simp at hq) ?_
  rintro _ rfl
  refine ok_bd (R := fun r => ¬ 0 < r) (ok_gd (fun _ => (Compare_ok (by omega) (by omega)).mono fun r hr => ?_) fun hq => by simp at hq) ?_
  · rw [hr]; exact cmp_le (by1 i (by omega) (by omega))
  intro c4 hc4
  refine ok_lv (ok_f (by simp only [Bool.false_or, decide_eq_true_eq]; exact hc4) (ok_ar (by omega) (ok_some ⟨⟨by omega, by omega⟩, by omega⟩)))
end Go.Proofs.Ytfkncjfpgflafaa.X
