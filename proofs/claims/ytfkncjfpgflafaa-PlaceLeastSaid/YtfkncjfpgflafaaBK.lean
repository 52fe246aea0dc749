/- Fractions: products, sums, comparison. Plain. -/
import Derived.Test.YtfkncjfpgflafaaBI
namespace Go.Proofs.Ytfkncjfpgflafaa.X
open Go Go.RowKit
set_option linter.unusedVariables false
set_option linter.unusedSimpArgs false
set_option linter.unusedSectionVars false
theorem rt_num (q : Rat) : (rt q).Num = big q.num := rfl
theorem rt_den (q : Rat) : (rt q).Den = big (q.den : Int) := rfl
theorem rt_eta (q : Rat) : T_exact_Ratio.mk (T_exact_Int.mk (rt q).Num.fneg (rt q).Num.fmag) (T_exact_Int.mk (rt q).Den.fneg (rt q).Den.fmag) = rt q := rfl
theorem Whole_ok {n : Int} (hn : I64 n) : Ok (P_exact_Whole n) (fun r => r = rt (n : Rat)) := by
 unfold P_exact_Whole
 refine ok_bd (Of_ok hn) ?_
 rintro _ rfl
 refine ok_bd (Of_ok (by omega)) ?_
 rintro _ rfl
 refine ok_some ?_
 unfold rt
 rw [Rat.num_intCast, Rat.den_intCast]
 rfl
theorem RCheck_ok {q : Rat} (h : rsz q ≤ 2048) : Ok (P_exact_Check (rt q)) (fun r => r = 0) := by
 have h1 := rsz_num q
 have h2 := rsz_den q
 unfold P_exact_Check
 rw [rt_num, rt_den, big_eta, big_eta]
 refine ok_bd (Bits_ok (by omega)) ?_
 rintro b1 ⟨b10, b11⟩
 refine ok_bd (R := fun r => 0 ≤ r ∧ r ≤ 65536) (ok_gd (fun _ => (Bits_ok (by omega)).mono fun r hr => ⟨hr.1, by omega⟩) fun _ => by show (0 : Int) ≤ 0 ∧ (0 : Int) ≤ 65536; omega) ?_
 rintro b2 ⟨b20, b21⟩
 refine ok_lv (ok_f ?_ (ok_bd Sign_ok ?_))
 ·simp only [Bool.or_eq_true, decide_eq_true_eq]
  omega
 rintro _ rfl
 have hd := q.den_pos
 refine ok_f (by rw [Int.sign_eq_one_of_pos (by omega)]; omega) (ok_bd (Gcd_ok (by omega) (by omega)) ?_)
 rintro _ rfl
 have hg : Int.gcd q.num (q.den : Int) = 1 := q.reduced
 have d1 : dlen 1 ≤ 1 := dlen_le (by decide)
 rw [hg]
 refine ok_bd (Of_ok (by omega)) ?_
 rintro _ rfl
 refine ok_bd (Cmp_ok (a := ((1 : Nat) : Int)) (b := 1) (by show dlen 1 ≤ _; omega) (by omega)) ?_
 rintro _ rfl
 exact ok_f (by decide) (ok_some rfl)
theorem both_ok {p q : Rat} (hp : rsz p ≤ 2048) (hq : rsz q ≤ 2048) : Ok (P_exact_both (rt p) (rt q)) (fun r => r = 0) := by
 unfold P_exact_both
 refine ok_bd (RCheck_ok hp) ?_
 rintro _ rfl
 refine ok_f (by simp) (ok_bd (RCheck_ok hq) ?_)
 rintro _ rfl
 exact ok_some rfl
theorem Prod_ok {p q : Rat} (hp : rsz p ≤ 2048) (hq : rsz q ≤ 2048) (h : rsz (p * q) ≤ 2048) : Ok (P_exact_Prod (rt p) (rt q)) (fun r => r = (rt (p * q), 0)) := by
 have h1 := rsz_num p; have h2 := rsz_den p; have h3 := rsz_num q; have h4 := rsz_den q
 have m1 := dlen_mul p.num q.num; have m2 := dlen_mul (p.den : Int) q.den
 unfold P_exact_Prod
 refine ok_bd (both_ok hp hq) ?_
 rintro _ rfl
 rw [rt_num, rt_den, rt_num, rt_den]
 simp only [big_eta]
 refine ok_f (by simp) (ok_bd (times_ok (by omega) (by omega)) ?_)
 rintro _ rfl
 refine ok_bd (times_ok (by omega) (by omega)) ?_
 rintro _ rfl
 refine ok_bd (reduced_ok (dens_ne p q) (by omega) (by omega) (by rw [← mul_divInt]; exact h)) ?_
 rintro _ rfl
 exact ok_some (by rw [← mul_divInt])
theorem Sum_ok {p q : Rat} (hp : rsz p ≤ 2048) (hq : rsz q ≤ 2048) (h : rsz (p + q) ≤ 2048) : Ok (P_exact_Sum (rt p) (rt q)) (fun r => r = (rt (p + q), 0)) := by
 have h1 := rsz_num p; have h2 := rsz_den p; have h3 := rsz_num q; have h4 := rsz_den q
 have m1 := dlen_mul p.num (q.den : Int); have m2 := dlen_mul (p.den : Int) q.den; have m3 := dlen_mul q.num (p.den : Int)
 have m4 := dlen_add (p.num * q.den) (q.num * p.den)
 unfold P_exact_Sum
 refine ok_bd (both_ok hp hq) ?_
 rintro _ rfl
 rw [rt_num, rt_den, rt_num, rt_den]
 simp only [big_eta]
 refine ok_f (by simp) (ok_bd (times_ok (by omega) (by omega)) ?_)
 rintro _ rfl
 refine ok_bd (times_ok (by omega) (by omega)) ?_
 rintro _ rfl
 refine ok_bd (plus_ok (by omega) (by omega)) ?_
 rintro _ rfl
 refine ok_bd (times_ok (by omega) (by omega)) ?_
 rintro _ rfl
 refine ok_bd (reduced_ok (dens_ne p q) (by omega) (by omega) (by rw [← add_divInt]; exact h)) ?_
 rintro _ rfl
 exact ok_some (by rw [← add_divInt])
theorem Compare_ok {p q : Rat} (hp : rsz p ≤ 2048) (hq : rsz q ≤ 2048) : Ok (P_exact_Compare (rt p) (rt q)) (fun r => r = (p.num * q.den - q.num * p.den).sign) := by
 have h1 := rsz_num p; have h2 := rsz_den p; have h3 := rsz_num q; have h4 := rsz_den q
 have m1 := dlen_mul p.num (q.den : Int); have m3 := dlen_mul q.num (p.den : Int)
 unfold P_exact_Compare
 refine ok_bd (both_ok hp hq) ?_
 rintro _ rfl
 rw [rt_num, rt_den, rt_num, rt_den]
 simp only [big_eta]
 refine ok_f (by simp) (ok_bd (times_ok (by omega) (by omega)) ?_)
 rintro _ rfl
 refine ok_bd (times_ok (by omega) (by omega)) ?_
 rintro _ rfl
 refine ok_bd (Cmp_ok (by omega) (by omega)) ?_
 rintro _ rfl
 exact ok_some rfl
theorem int_mul_divInt (a n d : Int) (hd : d ≠ 0) : (a : Rat) * Rat.divInt n d = Rat.divInt (a * n) d := by
 rw [Rat.divInt_eq_div, Rat.divInt_eq_div, Rat.intCast_mul]
 grind
theorem divInt_add (a n d : Int) (hd : d ≠ 0) : Rat.divInt a d + Rat.divInt n d = Rat.divInt (a + n) d := by
 rw [Rat.divInt_eq_div, Rat.divInt_eq_div, Rat.divInt_eq_div, Rat.intCast_add]
 grind
theorem rsz_int (n : Int) : rsz (n : Rat) ≤ max (dlen n) 1 := by
 unfold rsz
 rw [Rat.num_intCast, Rat.den_intCast]
 have : dlen ((1 : Nat) : Int) ≤ 1 := dlen_le (by decide)
 omega
end Go.Proofs.Ytfkncjfpgflafaa.X
