/- Long numbers: quotients, divisors, fractions. Plain. -/
import Derived.Test.YtkenpbnpemjbhaaBE
namespace Go.Proofs.Ytkenpbnpemjbhaa.X
open Go Go.RowKit
set_option linter.unusedVariables false
set_option linter.unusedSimpArgs false
set_option linter.unusedSectionVars false
theorem ediv_of {a b q r : Int} (hb : b ≠ 0) (h : a = b * q + r) (r0 : 0 ≤ r) (r1 : r < b.natAbs) : a / b = q ∧ a % b = r := by
  rcases Int.lt_or_le 0 b with p | p
  · exact (Int.ediv_emod_unique p).2 ⟨by omega, r0, by omega⟩
  · have hp : 0 < -b := by omega
    have h1 := (Int.ediv_emod_unique (a := a) (b := -b) (r := r) (q := -q) hp).2 ⟨by rw [Int.neg_mul_neg]; omega, r0, by omega⟩
    refine ⟨?_, ?_⟩
    · have := h1.1; rw [Int.ediv_neg] at this; omega
    · have := h1.2; rwa [Int.emod_neg] at this
theorem split_ok {a b : Int} (hb : b ≠ 0) (la : dlen a ≤ 900000000) (lb : dlen b ≤ 900000000) : Ok (P_exact_split (big a) (big b)) (fun r => r = (big (a / b), big (a % b))) := by
  have hbl : (big b).fmag ≠ [] := fun e => hb (big_len0.1 (by rw [e]; rfl))
  unfold P_exact_split
  refine ok_bd (divMag_ok (big_Dg a) (big_Dg b) (big_Nz a) (big_Nz b) hbl (by rw [big_len]; omega) (by rw [big_len]; omega)) ?_
  rintro ⟨x, y⟩ ⟨dx, dy, e, hlt, lx, ly⟩
  simp only at dx dy e hlt lx ly
  dsimp only
  rw [big_val, big_val] at e
  rw [big_val] at hlt
  have x0 := (val_bound dx).1
  have y0 := (val_bound dy).1
  refine ok_bd (made_ok dx (by omega)) ?_
  rintro _ rfl
  refine ok_bd (made_ok dy (by omega)) ?_
  rintro _ rfl
  generalize hX : val x = X at *
  generalize hY : val y = Y at *
  have hq : dlen X ≤ dlen a := by
    refine dlen_mono ?_
    have h1 : (1 : Int) * X ≤ (b.natAbs : Int) * X := Int.mul_le_mul_of_nonneg_right (by omega) x0
    omega
  have hr : dlen Y ≤ dlen b := dlen_mono (by omega)
  have A : (big a).fneg = true ↔ a < 0 := by rw [big_neg, decide_eq_true_eq]
  have B : (big b).fneg = true ↔ b < 0 := by rw [big_neg, decide_eq_true_eq]
  have hab : dlen (b.natAbs : Int) = dlen b := by unfold dlen; rw [Int.natAbs_natCast]
  have d1 : dlen 1 ≤ 1 := dlen_le (by decide)
  have dm : dlen (-1) ≤ 1 := dlen_le (by decide)
  generalize (big a).fneg = na at *
  generalize (big b).fneg = nb at *
  refine ok_ite (fun hc => ?_) fun hc => ?_
  · have ha : na = true ∧ 0 < Y := by
      cases na with
      | true => simp only [if_true, big_neg, decide_eq_true_eq] at hc; exact ⟨rfl, by omega⟩
      | false => simp only [Bool.false_eq_true, if_false, big_neg, decide_eq_true_eq] at hc; omega
    obtain ⟨rfl, hY0⟩ := ha
    have ha := A.1 rfl
    rw [if_pos rfl]
    refine ok_bd (Abs_ok (by omega)) ?_
    rintro _ rfl
    refine ok_bd (plus_ok (by rw [dlen_neg]; omega) (by rw [hab]; omega)) ?_
    rintro _ rfl
    have e2 : a = -((b.natAbs : Int) * X + Y) := by omega
    refine ok_ite (fun hbn => ok_bd (Of_ok (by omega)) ?_) fun hbn => ok_bd (Of_ok (by omega)) ?_
    · rintro _ rfl
      subst hbn
      have hb0 := B.1 rfl
      simp only [BEq.rfl, Bool.not_true, Bool.false_eq_true, if_false]
      refine ok_bd (plus_ok (by omega) (by omega)) ?_
      rintro _ rfl
      obtain ⟨h1, h2⟩ := ediv_of (a := a) (b := b) (q := X + 1) (r := -Y + (b.natAbs : Int)) hb (by
        have : (b.natAbs : Int) = -b := by omega
        rw [this] at e2 ⊢; grind) (by omega) (by omega)
      rw [h1, h2]
      exact ok_some rfl
    · rintro _ rfl
      have hb0 : ¬ b < 0 := fun q => hbn (B.2 q)
      obtain rfl : nb = false := by cases nb with | true => exact absurd rfl hbn | false => rfl
      simp only [show (true == false) = false from rfl, Bool.not_false, if_true]
      refine ok_bd (plus_ok (by rw [dlen_neg]; omega) (by omega)) ?_
      rintro _ rfl
      obtain ⟨h1, h2⟩ := ediv_of (a := a) (b := b) (q := -X + -1) (r := -Y + (b.natAbs : Int)) hb (by
        have : (b.natAbs : Int) = b := by omega
        rw [this] at e2 ⊢; grind) (by omega) (by omega)
      rw [h1, h2]
      exact ok_some rfl
  · refine ok_some ?_
    cases na with
    | true =>
      have ha := A.1 rfl
      simp only [if_true, big_neg, decide_eq_true_eq] at hc
      have hY0 : Y = 0 := by omega
      subst hY0
      cases nb with
      | true =>
        have hb0 := B.1 rfl
        simp only [BEq.rfl, Bool.not_true, Bool.false_eq_true, if_false, if_true]
        obtain ⟨h1, h2⟩ := ediv_of (a := a) (b := b) (q := X) (r := 0) hb (by
          have : (b.natAbs : Int) = -b := by omega
          rw [this, Int.neg_mul] at e; omega) (by omega) (by omega)
        rw [h1, h2]; rfl
      | false =>
        have hb0 : ¬ b < 0 := fun q => by have := B.2 q; cases this
        simp only [show (true == false) = false from rfl, Bool.not_false, if_true]
        obtain ⟨h1, h2⟩ := ediv_of (a := a) (b := b) (q := -X) (r := 0) hb (by
          have : (b.natAbs : Int) = b := by omega
          rw [this] at e; rw [Int.mul_neg]; omega) (by omega) (by omega)
        rw [h1, h2]; rfl
    | false =>
      have ha : ¬ a < 0 := fun q => by have := A.2 q; cases this
      cases nb with
      | true =>
        have hb0 := B.1 rfl
        simp only [show (false == true) = false from rfl, Bool.not_false, if_true, Bool.false_eq_true, if_false]
        obtain ⟨h1, h2⟩ := ediv_of (a := a) (b := b) (q := -X) (r := Y) hb (by
          have : (b.natAbs : Int) = -b := by omega
          rw [this, Int.neg_mul] at e; rw [Int.mul_neg]; omega) y0 hlt
        rw [h1, h2]
      | false =>
        have hb0 : ¬ b < 0 := fun q => by have := B.2 q; cases this
        simp only [BEq.rfl, Bool.not_true, Bool.false_eq_true, if_false]
        obtain ⟨h1, h2⟩ := ediv_of (a := a) (b := b) (q := X) (r := Y) hb (by
          have : (b.natAbs : Int) = b := by omega
          rw [this] at e; omega) y0 hlt
        rw [h1, h2]
/-! ### The greatest common divisor -/
/-! ### Fractions -/
end Go.Proofs.Ytkenpbnpemjbhaa.X
