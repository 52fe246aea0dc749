/- Long numbers: long division. Plain. -/
import Derived.Test.YtfkncjfpgflafaaBC
namespace Go.Proofs.Ytfkncjfpgflafaa.X
open Go Go.RowKit
set_option linter.unusedVariables false
set_option linter.unusedSimpArgs false
set_option linter.unusedSectionVars false
/-- A small number has no high digits. -/
theorem gt_high {xs : List Int} (h : Dg xs) {m : Nat} (hv : val xs < 4294967296 ^ m) {k : Int} (hk : (m : Int) ≤ k) : gt xs k = 0 := by
  obtain ⟨k, rfl⟩ := Int.eq_ofNat_of_zero_le (show 0 ≤ k by omega)
  have hd := (h (k : Int)).1
  by_cases e : gt xs (k : Int) = 0
  · exact e
  exfalso
  have h1 := V_mono h (n := k + 1) (m := max (k + 1) xs.length) (Nat.le_max_left _ _)
  rw [V_ge (Nat.le_max_right _ _), V_succ] at h1
  have h2 := (V_bound h k).1
  have h3 := powB_le (show m ≤ k by omega)
  have h4 := Int.mul_le_mul_of_nonneg_right (show (1 : Int) ≤ gt xs (k : Int) by omega) (Int.le_of_lt (powB k))
  omega
theorem val_small {xs : List Int} (h : Dg xs) {m : Nat} (hz : ∀ k : Int, (m : Int) ≤ k → gt xs k = 0) : val xs = V xs m ∧ val xs < 4294967296 ^ m := by
  have e : val xs = V xs m := by
    rcases Nat.lt_or_ge xs.length m with q | q
    · exact (V_ge (by omega)).symm
    · obtain ⟨d, hd⟩ : ∃ d, xs.length = m + d := ⟨xs.length - m, by omega⟩
      unfold val
      rw [hd]
      clear hd
      induction d with
      | zero => rfl
      | succ d ih => rw [← Nat.add_assoc, V_succ, ih, hz _ (by omega)]; simp
  rw [e]
  exact ⟨rfl, (V_bound h m).2⟩
section
variable {u v : List Int} {o m g : Int} {n : Nat} (hu : Dg u) (hv : Dg v) (ho : 0 ≤ o) (hm : m.toNat = n + 1) (hn : v.length = n) (hl : o + n + 1 ≤ u.length) (hL : u.length ≤ 100000000000)
include hu hv ho hm hn hl hL
theorem take_ok (hg : 0 ≤ g ∧ g < 4294967296) : Ok (P_exact_take u o m v g) (fun r => r.2.length = u.length ∧ Dg r.2 ∧ (∀ k : Int, o + n < k → gt r.2 k = gt u k) ∧ ∃ w : Int, (w = 0 ∨ w = -1) ∧ r.1 = decide (w < 0) ∧ val r.2 = val u - g * val v * 4294967296 ^ o.toNat - w * 4294967296 ^ (o + n + 1).toNat) := by
  unfold P_exact_take
  refine ok_bd (R := fun s => s.2.length = u.length ∧ Dg s.2 ∧ (∀ k : Int, o + n < k → gt s.2 k = gt u k) ∧ (s.1 = 0 ∨ s.1 = -1) ∧ val s.2 = val u - g * val v * 4294967296 ^ o.toNat - s.1 * 4294967296 ^ (o + n + 1).toNat) ?_ ?_
  · refine ok_lp (fun s => (0 ≤ s.2.2.1 ∧ s.2.2.1 ≤ n + 1) ∧ s.2.2.2.length = u.length ∧ Dg s.2.2.2 ∧ ((0 ≤ s.1 ∧ s.1 < 4294967296) ∧ (s.2.2.1 = n + 1 → s.1 = 0)) ∧ (s.2.1 = 0 ∨ s.2.1 = -1) ∧
        val s.2.2.2 = val u - g * V v s.2.2.1.toNat * 4294967296 ^ o.toNat + s.1 * 4294967296 ^ (o + s.2.2.1).toNat - s.2.1 * 4294967296 ^ (o + s.2.2.1).toNat ∧ ∀ k : Int, o + s.2.2.1 ≤ k → gt s.2.2.2 k = gt u k)
      (fun s => ((n : Int) + 1 - s.2.2.1).toNat) ⟨⟨by simp, by simp only; omega⟩, rfl, hu, by simp only; omega, .inl rfl, by simp [V_zero], fun k _ => rfl⟩ (by simp only; omega) ?_
    rintro ⟨c, b, i, z⟩ ⟨⟨i0, i1⟩, l1, d1, ⟨⟨c0, c1⟩, c2⟩, hb, e1, z1⟩
    simp only at i0 i1 l1 d1 c0 c1 c2 hb e1 z1
    unfold P_exact_take_L4
    dsimp only
    refine ok_ite (fun hlt => ?_) fun hge => ok_some ⟨l1, d1, fun k hk => z1 k (by omega), hb, ?_⟩
    · have gv := hv i
      obtain ⟨p0, p1⟩ := mul_dig hg gv
      refine ok_bd (R := fun r => r = c + g * gt v i) (ok_ite (fun h => ok_ck ⟨i0, h⟩ (ok_lv (ok_lv (ok_lv (ok_lv (ok_some ?_)))))) fun h => ok_some ?_) ?_
      · rw [show gt v i % 18446744073709551616 = gt v i by omega]; omega
      · rw [gt_past (xs := v) i0 (by omega)]; simp
      rintro _ rfl
      have hz : inb (o + i) z.length := ⟨by omega, by omega⟩
      have gz := d1 (o + i)
      refine ok_ck ⟨ho, i0, by omega⟩ (ok_ck hz (ok_lv (ok_ar (by omega) (ok_lv (ok_ar (by omega) (ok_ar (by omega) (ok_ar (by omega) (ok_lv (ok_ck ⟨ho, i0, by omega⟩ (ok_ck hz (ok_lv (ok_ck (by omega) (ok_lv (ok_ck (by omega) (ok_lv ?_)))))))))))))))
      rw [shr_i64_32, shr_u64_32]
      generalize ht : c + g * gt v i = t
      generalize hd : gt z (o + i) - t % 4294967296 + b = d
      have q1 : t % 4294967296 + 4294967296 * (t / 4294967296) = t := by omega
      have q2 : d % 4294967296 + 4294967296 * (d / 4294967296) = d := by omega
      refine ok_ar (by omega) (ok_some ⟨⟨⟨by simp only; omega, by simp only; omega⟩, by simp only; rw [stt_length]; exact l1, Dg_stt d1 hz (by omega), ⟨⟨by simp only; omega, by simp only; omega⟩, fun h => ?_⟩, by simp only; omega, ?_, fun k hk => ?_⟩, by simp only; omega⟩)
      · simp only at h ⊢
        have hin : i = (n : Int) := by omega
        rw [gt_past (xs := v) i0 (by omega), Int.mul_zero] at ht
        omega
      · simp only
        rw [val_stt hz, V_cut v i0, show o + (i + 1) = (o + i) + 1 by omega, show ((o + i) + 1).toNat = (o + i).toNat + 1 by omega, powB_succ, pow_two o i ho i0]
        rw [pow_two o i ho i0] at e1
        grind
      · simp only at hk ⊢
        rw [gt_stt z _ hz (by omega), if_neg (by omega)]
        exact z1 k (by omega)
    · simp only
      have hi : i = (n : Int) + 1 := by omega
      have hc := c2 hi
      rw [hc, hi, show o + ((n : Int) + 1) = o + n + 1 by omega, V_ge (by omega)] at e1
      rw [e1]; omega
  rintro ⟨b, z⟩ ⟨l1, d1, z1, hb, e1⟩
  exact ok_some ⟨l1, d1, z1, b, hb, rfl, e1⟩
theorem give_ok : Ok (P_exact_give u o m v) (fun r => r.length = u.length ∧ Dg r ∧ (∀ k : Int, o + n < k → gt r k = gt u k) ∧ ∃ c : Int, (c = 0 ∨ c = 1) ∧ val r = val u + val v * 4294967296 ^ o.toNat - c * 4294967296 ^ (o + n + 1).toNat) := by
  unfold P_exact_give
  refine ok_bd (R := fun r => r.length = u.length ∧ Dg r ∧ (∀ k : Int, o + n < k → gt r k = gt u k) ∧ ∃ c : Int, (c = 0 ∨ c = 1) ∧ val r = val u + val v * 4294967296 ^ o.toNat - c * 4294967296 ^ (o + n + 1).toNat) ?_ fun r hr => ok_some hr
  refine ok_lp (fun s => (0 ≤ s.2.1 ∧ s.2.1 ≤ n + 1) ∧ s.2.2.length = u.length ∧ Dg s.2.2 ∧ (s.1 = 0 ∨ s.1 = 1) ∧ val s.2.2 = val u + V v s.2.1.toNat * 4294967296 ^ o.toNat - s.1 * 4294967296 ^ (o + s.2.1).toNat ∧ ∀ k : Int, o + s.2.1 ≤ k → gt s.2.2 k = gt u k)
    (fun s => ((n : Int) + 1 - s.2.1).toNat) ⟨⟨by simp, by simp only; omega⟩, rfl, hu, .inl rfl, by simp [V_zero], fun k _ => rfl⟩ (by simp only; omega) ?_
  rintro ⟨c, i, z⟩ ⟨⟨i0, i1⟩, l1, d1, hc, e1, z1⟩
  simp only at i0 i1 l1 d1 hc e1 z1
  unfold P_exact_give_L2
  dsimp only
  refine ok_ite (fun hlt => ?_) fun hge => ok_some ⟨l1, d1, fun k hk => z1 k (by omega), c, hc, ?_⟩
  · have gv := hv i
    have hz : inb (o + i) z.length := ⟨by omega, by omega⟩
    have gz := d1 (o + i)
    refine ok_ck ⟨ho, i0, by omega⟩ (ok_ck hz (ok_lv (ok_lv (ok_lv (ok_bd (R := fun r => r = c + gt z (o + i) + gt v i) (ok_ite (fun h => ok_ck ⟨i0, h⟩ (ok_lv (ok_lv (ok_lv (ok_some (by omega)))))) fun h => ok_some ?_) ?_)))))
    · rw [gt_past (xs := v) i0 (by omega)]; omega
    rintro _ rfl
    refine ok_lv (ok_ck ⟨ho, i0, by omega⟩ (ok_ck hz (ok_lv (ok_ck (by omega) (ok_lv ?_)))))
    rw [shr_u64_32]
    generalize ht : c + gt z (o + i) + gt v i = t
    have q1 : t % 4294967296 + 4294967296 * (t / 4294967296) = t := by omega
    refine ok_ar (by omega) (ok_some ⟨⟨⟨by simp only; omega, by simp only; omega⟩, by simp only; rw [stt_length]; exact l1, Dg_stt d1 hz (by omega), by simp only; omega, ?_, fun k hk => ?_⟩, by simp only; omega⟩)
    · simp only
      rw [val_stt hz, V_cut v i0, show o + (i + 1) = (o + i) + 1 by omega, show ((o + i) + 1).toNat = (o + i).toNat + 1 by omega, powB_succ, pow_two o i ho i0]
      rw [pow_two o i ho i0] at e1
      grind
    · simp only at hk ⊢
      rw [gt_stt z _ hz (by omega), if_neg (by omega)]
      exact z1 k (by omega)
  · have hi : i = (n : Int) + 1 := by omega
    rw [hi, show o + ((n : Int) + 1) = o + n + 1 by omega, V_ge (by omega)] at e1
    exact e1
end
/-! ### A digit of the quotient -/
section
variable {u v : List Int} {j U W P u0 u1 u2 v1 v2 : Int} {n : Nat} (hu : Dg u) (hv : Dg v) (hn : v.length = n) (hn2 : 2 ≤ n) (hj : 0 ≤ j) (hl : j + n + 1 ≤ u.length) (hL : u.length ≤ 100000000000) (hL2 : n ≤ 100000000000)
  (g0 : gt u (j + n) = u0) (g1 : gt u (j + n - 1) = u1) (g2 : gt u (j + n - 2) = u2) (f1 : gt v ((n : Int) - 1) = v1) (f2 : gt v ((n : Int) - 2) = v2) (hv1 : 2147483648 ≤ v1)
  (hP : 0 < P) (hU1 : P * ((u0 * 4294967296 + u1) * 4294967296 + u2) ≤ U) (hU2 : U < P * ((u0 * 4294967296 + u1) * 4294967296 + u2 + 1)) (hW1 : P * (v1 * 4294967296 + v2) ≤ W) (hW2 : W < P * (v1 * 4294967296 + v2 + 1)) (hUW : U < W * 4294967296)
include hu hv hn hn2 hj hl hL hL2 g0 g1 g2 f1 f2 hv1 hP hU1 hU2 hW1 hW2 hUW
theorem guess_ok : Ok (lp (P_exact_divMag_L15 v u j) fuel ((u0 * 4294967296 + u1) / v1, (u0 * 4294967296 + u1) % v1)) (fun g => (0 ≤ g ∧ g < 4294967296) ∧ g * (v1 * 4294967296 + v2) ≤ (u0 * 4294967296 + u1) * 4294967296 + u2 ∧ U < (g + 1) * W) := by
  have a0 := hu (j + n); have a1 := hu (j + n - 1); have a2 := hu (j + n - 2)
  have b1 := hv ((n : Int) - 1); have b2 := hv ((n : Int) - 2)
  rw [g0] at a0; rw [g1] at a1; rw [g2] at a2; rw [f1] at b1; rw [f2] at b2
  generalize hT : u0 * 4294967296 + u1 = T at *
  have hT0 : 0 ≤ T := by omega
  have hW0 : 0 ≤ W := Int.le_trans (Int.mul_nonneg (Int.le_of_lt hP) (by omega)) hW1
  have hTv : T ≤ v1 * 4294967296 + v2 := by
    have h1 : P * (T * 4294967296) ≤ P * (T * 4294967296 + u2) := Int.mul_le_mul_of_nonneg_left (by omega) (Int.le_of_lt hP)
    have h2 : P * (T * 4294967296) < P * ((v1 * 4294967296 + v2 + 1) * 4294967296) := by rw [← Int.mul_assoc P (v1 * 4294967296 + v2 + 1)]; omega
    have := Int.lt_of_mul_lt_mul_left h2 (Int.le_of_lt hP)
    omega
  have q0 : 0 ≤ T / v1 := Int.ediv_nonneg hT0 (by omega)
  have q1 : T / v1 < 4294967298 := Int.ediv_lt_of_lt_mul (by omega) (by omega)
  have r0 := Int.emod_nonneg T (show v1 ≠ 0 by omega)
  have r1 := Int.emod_lt_of_pos T (show 0 < v1 by omega)
  have qr := Int.mul_ediv_add_emod T v1
  have start : U < (T / v1 + 1) * W := by
    have h1 : T + 1 ≤ (T / v1 + 1) * v1 := by rw [Int.add_mul, Int.mul_comm (T / v1)]; omega
    have h2 : T * 4294967296 + u2 + 1 ≤ (T / v1 + 1) * (v1 * 4294967296 + v2) := by
      have h3 : 0 ≤ (T / v1 + 1) * v2 := Int.mul_nonneg (by omega) b2.1
      rw [Int.mul_add, ← Int.mul_assoc]; omega
    have h4 := Int.mul_le_mul_of_nonneg_left h2 (Int.le_of_lt hP)
    have h5 := Int.mul_le_mul_of_nonneg_left hW1 (show 0 ≤ T / v1 + 1 by omega)
    rw [Int.mul_left_comm] at h5
    omega
  refine ok_lp (fun s => (0 ≤ s.1 ∧ s.1 < 4294967298) ∧ (0 ≤ s.2 ∧ s.2 < 4294967296) ∧ s.2 = T - s.1 * v1 ∧ U < (s.1 + 1) * W) (fun s => s.1.toNat) ⟨⟨q0, q1⟩, ⟨r0, by simp only; omega⟩, by simp only; rw [Int.mul_comm]; omega, start⟩ (by simp only; omega) ?_
  rintro ⟨g, c⟩ ⟨⟨g0', g1'⟩, ⟨c0, c1⟩, ec, hg⟩
  simp only at g0' g1' c0 c1 ec hg
  unfold P_exact_divMag_L15
  dsimp only
  refine ok_ck (by omega) (ok_lv ?_)
  rw [shr_u64_32]
  refine ok_ck (fun _ => by omega) (ok_lv (ok_ck (fun _ => ⟨by omega, by omega⟩) (ok_lv (ok_lv (ok_lv (ok_ck (fun _ => by omega) (ok_lv (ok_ck (fun _ => by omega) (ok_lv (ok_ck (fun _ => by omega) (ok_lv (ok_ck (fun _ => ⟨by omega, by omega⟩) (ok_lv (ok_lv ?_))))))))))))))
  rw [hn, f2, g2, show v2 % 18446744073709551616 = v2 by omega, show u2 % 18446744073709551616 = u2 by omega, or_hi ⟨c0, c1⟩ a2]
  refine ok_lv (ok_lv (ok_ite (fun ht => ?_) fun ht => ok_some ?_))
  · simp only [Bool.or_eq_true, decide_eq_true_eq] at ht
    have hgW : U < g * W := by
      by_cases hB : 4294967296 ≤ g
      · have := Int.mul_le_mul_of_nonneg_right hB hW0
        rw [Int.mul_comm 4294967296] at this; omega
      · have hp := mul_dig (x := g) (y := v2) ⟨g0', by omega⟩ b2
        have h1 : c * 4294967296 + u2 < g * v2 := by
          rcases ht with q | q
          · omega
          · omega
        have h2 : T * 4294967296 + u2 + 1 ≤ g * (v1 * 4294967296 + v2) := by
          rw [Int.mul_add, ← Int.mul_assoc]; omega
        have h4 := Int.mul_le_mul_of_nonneg_left h2 (Int.le_of_lt hP)
        have h5 := Int.mul_le_mul_of_nonneg_left hW1 g0'
        rw [Int.mul_left_comm] at h5
        omega
    have hg1 : 1 ≤ g := by
      rcases Int.lt_or_le 0 g with q | q
      · exact q
      · have e : g = 0 := by omega
        subst e
        exfalso
        have hU0 : 0 ≤ U := Int.le_trans (Int.mul_nonneg (Int.le_of_lt hP) (by omega)) hU1
        omega
    refine ok_lv (ok_ar (by omega) (ok_ck ⟨by omega, by omega⟩ (ok_lv ?_)))
    rw [f1, show v1 % 18446744073709551616 = v1 by omega]
    refine ok_lv (ok_lv (ok_ck (by omega) (ok_lv ?_)))
    rw [shr_u64_32, show (c + v1) % 18446744073709551616 = c + v1 by omega, show (g - 1) % 18446744073709551616 = g - 1 by omega]
    have e2 : c + v1 = T - (g - 1) * v1 := by rw [Int.sub_mul]; omega
    have hgW' : U < (g - 1 + 1) * W := by rw [show g - 1 + 1 = g by omega]; exact hgW
    refine ok_ite (fun hov => ok_some ⟨⟨by omega, ?_⟩, ?_, hgW'⟩) fun hov => ok_some ⟨⟨⟨by simp only; omega, by simp only; omega⟩, ⟨by simp only; omega, by simp only; omega⟩, e2, hgW'⟩, by simp only; omega⟩
    · rcases Int.lt_or_le (g - 1) 4294967296 with q | q
      · exact q
      · exfalso
        have := Int.mul_le_mul_of_nonneg_right q (show 0 ≤ v1 by omega)
        omega
    · have hb : g - 1 < 4294967296 := by
        rcases Int.lt_or_le (g - 1) 4294967296 with q | q
        · exact q
        · exfalso
          have := Int.mul_le_mul_of_nonneg_right q (show 0 ≤ v1 by omega)
          omega
      have hp := mul_dig (x := g - 1) (y := v2) ⟨by omega, hb⟩ b2
      rw [Int.mul_add, ← Int.mul_assoc]
      omega
  · simp only [Bool.or_eq_true, decide_eq_true_eq, not_or] at ht
    obtain ⟨t1, t2⟩ := ht
    have hb : g < 4294967296 := by omega
    have hp := mul_dig (x := g) (y := v2) ⟨g0', hb⟩ b2
    refine ⟨⟨g0', hb⟩, ?_, hg⟩
    rw [Int.mul_add, ← Int.mul_assoc]
    omega
end
end Go.Proofs.Ytfkncjfpgflafaa.X
