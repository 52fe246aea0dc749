/- Long numbers: quotients, divisors, fractions. Plain. -/
import Derived.Test.YtfkncjfpgflafaaBE
namespace Go.Proofs.Ytfkncjfpgflafaa.X
open Go Go.RowKit
set_option linter.unusedVariables false
set_option linter.unusedSimpArgs false
set_option linter.unusedSectionVars false
theorem ediv_of {a b q r : Int} (hb : b ≠ 0) (h : a = b * q + r) (r0 : 0 ≤ r) (r1 : r < b.natAbs) : a / b = q ∧ a % b = r := by
  rcases Int.lt_or_le 0 b with p | p
  · exact (Int.ediv_emod_unique p).2 ⟨by omega, r0, by omega⟩
  · have hp : 0 < -b := by omega
    have h1 := (Int.ediv_emod_unique (a := a) (b := -b) (r := r) (q := -q) hp).2 ⟨by rw [Int.neg_mul_neg]; omega, r0, by omega⟩
    refine ⟨?_, ?_⟩
    · have := h1.1; rw [Int.ediv_neg] at this; omega
    · have := h1.2; rwa [Int.emod_neg] at this
theorem split_ok {a b : Int} (hb : b ≠ 0) (la : dlen a ≤ 900000000) (lb : dlen b ≤ 900000000) : Ok (P_exact_split (big a) (big b)) (fun r => r = (big (a / b), big (a % b))) := by
  have hbl : (big b).fmag ≠ [] := fun e => hb (big_len0.1 (by rw [e]; rfl))
  unfold P_exact_split
  refine ok_bd (divMag_ok (big_Dg a) (big_Dg b) (big_Nz a) (big_Nz b) hbl (by rw [big_len]; omega) (by rw [big_len]; omega)) ?_
  rintro ⟨x, y⟩ ⟨dx, dy, e, hlt, lx, ly⟩
  simp only at dx dy e hlt lx ly
  dsimp only
  rw [big_val, big_val] at e
  rw [big_val] at hlt
  have x0 := (val_bound dx).1
  have y0 := (val_bound dy).1
  refine ok_bd (made_ok dx (by omega)) ?_
  rintro _ rfl
  refine ok_bd (made_ok dy (by omega)) ?_
  rintro _ rfl
  generalize hX : val x = X at *
  generalize hY : val y = Y at *
  have hq : dlen X ≤ dlen a := by
    refine dlen_mono ?_
    have h1 : (1 : Int) * X ≤ (b.natAbs : Int) * X := Int.mul_le_mul_of_nonneg_right (by omega) x0
    omega
  have hr : dlen Y ≤ dlen b := dlen_mono (by omega)
  have A : (big a).fneg = true ↔ a < 0 := by rw [big_neg, decide_eq_true_eq]
  have B : (big b).fneg = true ↔ b < 0 := by rw [big_neg, decide_eq_true_eq]
  have hab : dlen (b.natAbs : Int) = dlen b := by unfold dlen; rw [Int.natAbs_natCast]
  have d1 : dlen 1 ≤ 1 := dlen_le (by decide)
  have dm : dlen (-1) ≤ 1 := dlen_le (by decide)
  generalize (big a).fneg = na at *
  generalize (big b).fneg = nb at *
  refine ok_ite (fun hc => ?_) fun hc => ?_
  · have ha : na = true ∧ 0 < Y := by
      cases na with
      | true => simp only [if_true, big_neg, decide_eq_true_eq] at hc; exact ⟨rfl, by omega⟩
      | false => simp only [Bool.false_eq_true, if_false, big_neg, decide_eq_true_eq] at hc; omega
    obtain ⟨rfl, hY0⟩ := ha
    have ha := A.1 rfl
    rw [if_pos rfl]
    refine ok_bd (Abs_ok (by omega)) ?_
    rintro _ rfl
    refine ok_bd (plus_ok (by rw [dlen_neg]; omega) (by rw [hab]; omega)) ?_
    rintro _ rfl
    have e2 : a = -((b.natAbs : Int) * X + Y) := by omega
    refine ok_ite (fun hbn => ok_bd (Of_ok (by omega)) ?_) fun hbn => ok_bd (Of_ok (by omega)) ?_
    · rintro _ rfl
      subst hbn
      have hb0 := B.1 rfl
      simp only [BEq.rfl, Bool.not_true, Bool.false_eq_true, if_false]
      refine ok_bd (plus_ok (by omega) (by omega)) ?_
      rintro _ rfl
      obtain ⟨h1, h2⟩ := ediv_of (a := a) (b := b) (q := X + 1) (r := -Y + (b.natAbs : Int)) hb (by
        have : (b.natAbs : Int) = -b := by omega
        rw [this] at e2 ⊢; grind) (by omega) (by omega)
      rw [h1, h2]
      exact ok_some rfl
    · rintro _ rfl
      have hb0 : ¬ b < 0 := fun q => hbn (B.2 q)
      obtain rfl : nb = false := by cases nb with | true => exact absurd rfl hbn | false => rfl
      simp only [show (true == false) = false from rfl, Bool.not_false, if_true]
      refine ok_bd (plus_ok (by rw [dlen_neg]; omega) (by omega)) ?_
      rintro _ rfl
      obtain ⟨h1, h2⟩ := ediv_of (a := a) (b := b) (q := -X + -1) (r := -Y + (b.natAbs : Int)) hb (by
        have : (b.natAbs : Int) = b := by omega
        rw [this] at e2 ⊢; grind) (by omega) (by omega)
      rw [h1, h2]
      exact ok_some rfl
  · refine ok_some ?_
    cases na with
    | true =>
      have ha := A.1 rfl
      simp only [if_true, big_neg, decide_eq_true_eq] at hc
      have hY0 : Y = 0 := by omega
      subst hY0
      cases nb with
      | true =>
        have hb0 := B.1 rfl
        simp only [BEq.rfl, Bool.not_true, Bool.false_eq_true, if_false, if_true]
        obtain ⟨h1, h2⟩ := ediv_of (a := a) (b := b) (q := X) (r := 0) hb (by
          have : (b.natAbs : Int) = -b := by omega
          rw [this, Int.neg_mul] at e; omega) (by omega) (by omega)
        rw [h1, h2]; rfl
      | false =>
        have hb0 : ¬ b < 0 := fun q => by have := B.2 q; cases this
        simp only [show (true == false) = false from rfl, Bool.not_false, if_true]
        obtain ⟨h1, h2⟩ := ediv_of (a := a) (b := b) (q := -X) (r := 0) hb (by
          have : (b.natAbs : Int) = b := by omega
          rw [this] at e; rw [Int.mul_neg]; omega) (by omega) (by omega)
        rw [h1, h2]; rfl
    | false =>
      have ha : ¬ a < 0 := fun q => by have := A.2 q; cases this
      cases nb with
      | true =>
        have hb0 := B.1 rfl
        simp only [show (false == true) = false from rfl, Bool.not_false, if_true, Bool.false_eq_true, if_false]
        obtain ⟨h1, h2⟩ := ediv_of (a := a) (b := b) (q := -X) (r := Y) hb (by
          have : (b.natAbs : Int) = -b := by omega
          rw [this, Int.neg_mul] at e; rw [Int.mul_neg]; omega) y0 hlt
        rw [h1, h2]
      | false =>
        have hb0 : ¬ b < 0 := fun q => by have := B.2 q; cases this
        simp only [BEq.rfl, Bool.not_true, Bool.false_eq_true, if_false]
        obtain ⟨h1, h2⟩ := ediv_of (a := a) (b := b) (q := X) (r := Y) hb (by
          have : (b.natAbs : Int) = b := by omega
          rw [this] at e; omega) y0 hlt
        rw [h1, h2]
/-! ### The greatest common divisor -/
def gmu (X Y : Nat) : Nat := if Y = 0 then 0 else 2 * (X * Y).log2 + 2 + (if X < Y then 1 else 0)
theorem gmu_lt {X Y : Nat} (hY : Y ≠ 0) : gmu Y (X % Y) < gmu X Y := by
  unfold gmu
  rw [if_neg hY]
  have hm := Nat.mod_lt X (show 0 < Y by omega)
  by_cases h0 : X % Y = 0
  · rw [if_pos h0]; omega
  rw [if_neg h0]
  by_cases h1 : X < Y
  · rw [Nat.mod_eq_of_lt h1, if_pos h1, if_neg (by omega), Nat.mul_comm Y X]; omega
  · rw [if_neg h1, if_neg (by omega)]
    have h2 : 2 * (Y * (X % Y)) ≤ X * Y := by
      have h3 : 2 * (X % Y) ≤ X := by
        have := Nat.div_add_mod X Y
        have h4 : Y * 1 ≤ Y * (X / Y) := Nat.mul_le_mul_left _ (Nat.div_pos (by omega) (by omega))
        omega
      have := Nat.mul_le_mul_right Y h3
      rw [Nat.mul_comm Y (X % Y), ← Nat.mul_assoc]
      exact this
    have hYZ : Y * (X % Y) ≠ 0 := Nat.mul_ne_zero hY h0
    have h5 : (Y * (X % Y)).log2 + 1 ≤ (X * Y).log2 := by
      rw [Nat.le_log2 (by omega), Nat.pow_succ]
      have := (Nat.le_log2 hYZ (k := (Y * (X % Y)).log2)).1 (Nat.le_refl _)
      omega
    omega
theorem log2_big {n m : Nat} (h : n < 4294967296 ^ m) : n.log2 ≤ 32 * m := by
  by_cases h0 : n = 0
  · rw [h0]; simp [Nat.log2_zero]
  · have : (4294967296 : Nat) ^ m = 2 ^ (32 * m) := by rw [Nat.pow_mul]
    rw [this] at h
    exact Nat.le_of_lt ((Nat.log2_lt h0).2 h)
theorem Gcd_ok {a b : Int} (la : dlen a ≤ 900000000) (lb : dlen b ≤ 900000000) : Ok (P_exact_Gcd (big a) (big b)) (fun r => r = big (Int.gcd a b : Int)) := by
  have hab : ∀ x : Int, dlen (x.natAbs : Int) = dlen x := fun x => by unfold dlen; rw [Int.natAbs_natCast]
  unfold P_exact_Gcd
  refine ok_bd (Abs_ok (by omega)) ?_
  rintro _ rfl
  refine ok_bd (Abs_ok (by omega)) ?_
  rintro _ rfl
  refine ok_bd (R := fun s => s = ((big (Int.gcd a b : Int)).fneg, (big (Int.gcd a b : Int)).fmag)) ?_ ?_
  · refine ok_lp (fun s => ∃ x y : Nat, s = ((big (x : Int)).fneg, (big (x : Int)).fmag, (big (y : Int)).fneg, (big (y : Int)).fmag) ∧ Nat.gcd x y = Int.gcd a b ∧ dlen (x : Int) ≤ 900000000 ∧ dlen (y : Int) ≤ 900000000)
      (fun s => gmu (val s.2.1).toNat (val s.2.2.2).toNat) ⟨a.natAbs, b.natAbs, rfl, rfl, by rw [hab]; exact la, by rw [hab]; exact lb⟩ ?_ ?_
    · simp only
      rw [big_val, big_val]
      simp only [Int.natAbs_natCast, Int.toNat_natCast]
      have h1 := dlen_lt a
      have h2 := dlen_lt b
      have h3 := log2_big (n := a.natAbs * b.natAbs) (m := dlen a + dlen b) (by rw [Nat.pow_add]; exact Nat.mul_lt_mul'' h1 h2)
      unfold gmu
      split
      · omega
      · split <;> omega
    rintro _ ⟨x, y, rfl, hg, lx, ly⟩
    unfold P_exact_Gcd_L2
    dsimp only
    rw [big_eta, big_eta]
    refine ok_bd Sign_ok ?_
    rintro _ rfl
    refine ok_ite (fun h => ?_) fun h => ok_some ?_
    · have hy : (y : Int) ≠ 0 := fun e => h (by rw [e]; rfl)
      refine ok_bd (split_ok hy lx ly) ?_
      rintro _ rfl
      refine ok_some ⟨⟨y, x % y, ?_, ?_, ly, ?_⟩, ?_⟩
      · simp only [Int.natCast_emod]
      · rw [← hg, Nat.gcd_comm, ← Nat.gcd_rec, Nat.gcd_comm]
      · have h1 : dlen ((x % y : Nat) : Int) ≤ dlen (y : Int) := dlen_mono (by
          rw [Int.natAbs_natCast, Int.natAbs_natCast]; exact Nat.le_of_lt (Nat.mod_lt _ (by omega)))
        omega
      · simp only
        rw [big_val, big_val, big_val, ← Int.natCast_emod]
        simp only [Int.natAbs_natCast, Int.toNat_natCast]
        exact gmu_lt (by omega)
    · have hy : (y : Int) = 0 := by
        by_cases e : (y : Int) = 0
        · exact e
        · exfalso; exact h (by rw [Int.sign_eq_one_of_pos (by omega)]; decide)
      have hy' : y = 0 := by omega
      subst hy'
      rw [Nat.gcd_zero_right] at hg
      rw [hg]
  rintro _ rfl
  exact ok_some rfl
/-! ### Fractions -/
/-- The fraction q, as the program keeps it. -/
def rt (q : Rat) : T_exact_Ratio := ⟨big q.num, big (q.den : Int)⟩
/-- How long a fraction is. -/
def rsz (q : Rat) : Nat := max (dlen q.num) (dlen (q.den : Int))
theorem rsz_num (q : Rat) : dlen q.num ≤ rsz q := Nat.le_max_left _ _
theorem rsz_den (q : Rat) : dlen (q.den : Int) ≤ rsz q := Nat.le_max_right _ _
theorem divInt_le {n d : Int} (hd : d ≠ 0) : (Rat.divInt n d).num.natAbs ≤ n.natAbs ∧ (Rat.divInt n d).den ≤ d.natAbs := by
  rw [Rat.num_divInt, Rat.den_divInt, if_neg hd]
  refine ⟨?_, Nat.div_le_self _ _⟩
  have h1 : (d.sign * n).natAbs = n.natAbs := by rw [Int.natAbs_mul, Int.natAbs_sign_of_ne_zero hd, Nat.one_mul]
  have h2 : (d.sign * n / (d.gcd n : Int)).natAbs ≤ (d.sign * n).natAbs := Int.natAbs_ediv_le_natAbs _ _
  omega
theorem rsz_divInt {n d : Int} (hd : d ≠ 0) : rsz (Rat.divInt n d) ≤ max (dlen n) (dlen d) := by
  obtain ⟨h1, h2⟩ := divInt_le (n := n) hd
  have h3 := dlen_mono h1
  have h4 : dlen ((Rat.divInt n d).den : Int) ≤ dlen d := dlen_mono (by rw [Int.natAbs_natCast]; exact h2)
  unfold rsz
  omega
theorem reduced_ok {n d : Int} (hd : d ≠ 0) (ln : dlen n ≤ 900000000) (ld : dlen d ≤ 900000000) (hs : rsz (Rat.divInt n d) ≤ 2048) : Ok (P_exact_reduced (big n) (big d)) (fun r => r = (rt (Rat.divInt n d), 0)) := by
  have hg : ∀ x y : Int, dlen (Int.gcd x y : Int) ≤ max (dlen x) (dlen y) := by
    intro x y
    by_cases hx : x = 0
    · subst hx
      rw [Int.gcd_zero_left]
      have : dlen ((y.natAbs : Nat) : Int) = dlen y := by unfold dlen; rw [Int.natAbs_natCast]
      omega
    · have := dlen_mono (u := (Int.gcd x y : Int)) (v := x) (by rw [Int.natAbs_natCast]; exact Int.gcd_le_natAbs_left y hx)
      omega
  have hnum := Rat.num_divInt n d
  have hden := Rat.den_divInt n d
  rw [if_neg hd] at hden
  have r1 := rsz_num (Rat.divInt n d)
  have r2 := rsz_den (Rat.divInt n d)
  unfold P_exact_reduced
  refine ok_bd Sign_ok ?_
  rintro _ rfl
  refine ok_bd (R := fun s => s = ((big (d.sign * n)).fneg, (big (d.sign * n)).fmag, (big (d.natAbs : Int)).fneg, (big (d.natAbs : Int)).fmag)) (ok_ite (fun h => ?_) fun h => ok_some ?_) ?_
  · have hneg : d < 0 := by
      rcases Int.lt_trichotomy d 0 with q | q | q
      · exact q
      · exact absurd q hd
      · rw [Int.sign_eq_one_of_pos q] at h; omega
    refine ok_bd (Neg_ok (by omega)) ?_
    rintro _ rfl
    refine ok_bd (Neg_ok (by omega)) ?_
    rintro _ rfl
    refine ok_some ?_
    rw [Int.sign_eq_neg_one_of_neg hneg, show (d.natAbs : Int) = -d by omega, show (-1 : Int) * n = -n by omega]
  · have hpos : 0 < d := by
      rcases Int.lt_trichotomy d 0 with q | q | q
      · rw [Int.sign_eq_neg_one_of_neg q] at h; omega
      · exact absurd q hd
      · exact q
    rw [Int.sign_eq_one_of_pos hpos, show (d.natAbs : Int) = d by omega, Int.one_mul]
  rintro _ rfl
  dsimp only
  rw [big_eta, big_eta]
  have l1 : dlen (d.sign * n) = dlen n := by unfold dlen; rw [Int.natAbs_mul, Int.natAbs_sign_of_ne_zero hd, Nat.one_mul]
  have l2 : dlen (d.natAbs : Int) = dlen d := by unfold dlen; rw [Int.natAbs_natCast]
  have eg : Int.gcd (d.sign * n) (d.natAbs : Int) = d.gcd n := by
    unfold Int.gcd
    rw [Int.natAbs_mul, Int.natAbs_sign_of_ne_zero hd, Nat.one_mul, Int.natAbs_natCast, Nat.gcd_comm]
  refine ok_bd (Gcd_ok (by omega) (by omega)) ?_
  rintro _ rfl
  rw [eg]
  have g0 : ((d.gcd n : Nat) : Int) ≠ 0 := by
    have := Int.gcd_pos_of_ne_zero_left n hd
    omega
  have lg := hg d n
  refine ok_bd (split_ok g0 (by omega) (by omega)) ?_
  rintro _ rfl
  refine ok_bd (split_ok g0 (by omega) (by omega)) ?_
  rintro _ rfl
  dsimp only
  have e2 : (d.natAbs : Int) / ((d.gcd n : Nat) : Int) = ((Rat.divInt n d).den : Int) := by rw [hden]; simp
  rw [← hnum, e2]
  refine ok_bd (Bits_ok (by omega)) ?_
  rintro b1 ⟨b10, b11⟩
  refine ok_bd (R := fun r => 0 ≤ r ∧ r ≤ 65536) (ok_gd (fun _ => (Bits_ok (by omega)).mono fun r hr => ⟨hr.1, by omega⟩) fun _ => by show (0 : Int) ≤ 0 ∧ (0 : Int) ≤ 65536; omega) ?_
  rintro b2 ⟨b20, b21⟩
  refine ok_lv (ok_f ?_ (ok_some rfl))
  simp only [Bool.or_eq_true, decide_eq_true_eq]
  omega
end Go.Proofs.Ytfkncjfpgflafaa.X
