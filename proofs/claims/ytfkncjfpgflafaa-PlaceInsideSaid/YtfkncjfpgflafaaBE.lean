/- Long numbers: long division, its loops. Plain. -/
import Derived.Test.YtfkncjfpgflafaaBD
namespace Go.Proofs.Ytfkncjfpgflafaa.X
open Go Go.RowKit
set_option linter.unusedVariables false
set_option linter.unusedSimpArgs false
set_option linter.unusedSectionVars false
theorem V_two (xs : List Int) {n : Nat} (h : 2 ≤ n) : V xs n = V xs (n - 2) + 4294967296 ^ (n - 2) * (gt xs ((n : Int) - 1) * 4294967296 + gt xs ((n : Int) - 2)) := by
  obtain ⟨m, rfl⟩ : ∃ m, n = m + 2 := ⟨n - 2, by omega⟩
  rw [show m + 2 = m + 1 + 1 from rfl, V_succ, V_succ, powB_succ, show m + 1 + 1 - 2 = m by omega, show ((m + 1 + 1 : Nat) : Int) - 1 = ((m + 1 : Nat) : Int) by omega, show ((m + 1 + 1 : Nat) : Int) - 2 = (m : Int) by omega]
  grind
/-- One digit of the quotient. -/
theorem digit_ok {v : List Int} {n : Nat} (hv : Dg v) (hn : v.length = n) (hn2 : 2 ≤ n) (hL2 : n ≤ 10000000000) (hv1 : 2147483648 ≤ gt v ((n : Int) - 1)) {u q : List Int} {j : Int} (hu : Dg u) (hq : Dg q) (hj : 0 ≤ j) (hl : j + n + 1 ≤ u.length) (hL : u.length ≤ 100000000000) (hjq : j < q.length)
    (hz : ∀ k : Int, 0 ≤ k → k ≤ j → gt q k = 0) (hlt : val u < val v * 4294967296 ^ (j + 1).toNat) :
    Ok (P_exact_divMag_L11 v (u, q, j)) (fun o => ∃ u' q', o = Sum.inl (u', q', j - 1) ∧ u'.length = u.length ∧ q'.length = q.length ∧ Dg u' ∧ Dg q' ∧ val u' + val v * val q' = val u + val v * val q ∧ val u' < val v * 4294967296 ^ j.toNat ∧ ∀ k : Int, 0 ≤ k → k ≤ j - 1 → gt q' k = 0) := by
  have hp := powB j.toNat
  have hvn : val v < 4294967296 ^ n := by have := (val_bound hv).2; rwa [hn] at this
  have hv0 := (val_bound hv).1
  have hu0 := (val_bound hu).1
  have ejn : (4294967296 : Int) ^ (j + n + 1).toNat = 4294967296 ^ n * 4294967296 ^ (j + 1).toNat := by rw [← powB_add]; congr 1; omega
  have ej1 : (4294967296 : Int) ^ (j + 1).toNat = 4294967296 ^ j.toNat * 4294967296 := by rw [← powB_succ]; congr 1; omega
  have hub : val u < 4294967296 ^ (j + n + 1).toNat := by
    have := Int.mul_le_mul_of_nonneg_right (Int.le_of_lt hvn) (Int.le_of_lt (powB (j + 1).toNat))
    rw [ejn]; omega
  have htop : ∀ k : Int, j + n < k → gt u k = 0 := fun k hk => gt_high hu hub (by omega)
  have uV : val u = V u (j + n + 1).toNat := (val_small hu (m := (j + n + 1).toNat) fun k hk => htop k (by omega)).1
  have uS : val u = V u (j + n).toNat + gt u (j + n) * 4294967296 ^ (j + n).toNat := by rw [uV, V_cut u (show 0 ≤ j + n by omega)]
  have uT := V_two u (n := (j + n).toNat) (by omega)
  rw [show (((j + n).toNat : Nat) : Int) - 1 = j + n - 1 by omega, show (((j + n).toNat : Nat) : Int) - 2 = j + n - 2 by omega] at uT
  have vT : val v = V v (n - 2) + 4294967296 ^ (n - 2) * (gt v ((n : Int) - 1) * 4294967296 + gt v ((n : Int) - 2)) := by
    have := V_two v hn2
    rw [← this]; unfold val; rw [hn]
  have LU := V_bound hu ((j + n).toNat - 2)
  have LV := V_bound hv (n - 2)
  have ePP : (4294967296 : Int) ^ ((j + n).toNat - 2) = 4294967296 ^ (n - 2) * 4294967296 ^ j.toNat := by rw [← powB_add]; congr 1; omega
  have ePn : (4294967296 : Int) ^ (j + n).toNat = 4294967296 ^ ((j + n).toNat - 2) * 18446744073709551616 := by
    rw [show (j + n).toNat = (j + n).toNat - 2 + 1 + 1 by omega, powB_succ, powB_succ, Int.mul_assoc, show (j + n).toNat - 2 + 1 + 1 - 2 = (j + n).toNat - 2 by omega]; rfl
  have hP := powB ((j + n).toNat - 2)
  have a0 := hu (j + n)
  have a1 := hu (j + n - 1)
  have a2 := hu (j + n - 2)
  have b1 := hv ((n : Int) - 1)
  have b2 := hv ((n : Int) - 2)
  have G := guess_ok (u := u) (v := v) (j := j) (U := val u) (W := val v * 4294967296 ^ j.toNat) (P := 4294967296 ^ ((j + n).toNat - 2)) hu hv hn hn2 hj hl hL (by omega) rfl rfl rfl rfl rfl hv1 hP
    (by rw [uS, uT, ePn]; grind)
    (by rw [uS, uT, ePn]; grind)
    (by
      rw [vT, ePP]
      have := Int.mul_nonneg LV.1 (Int.le_of_lt hp)
      grind)
    (by
      rw [vT, ePP]
      have := Int.mul_lt_mul_of_pos_right LV.2 hp
      grind)
    (by rw [Int.mul_assoc, ← ej1]; exact hlt)
  have hT0 : 0 ≤ gt u (j + n) * 4294967296 + gt u (j + n - 1) := by omega
  have hT1 : gt u (j + n) * 4294967296 + gt u (j + n - 1) < 18446744073709551616 := by omega
  unfold P_exact_divMag_L11
  dsimp only
  rw [hn]
  refine ok_t hj (ok_ar (by omega) (ok_ck ⟨by omega, by omega⟩ (ok_lv (ok_lv (ok_ck (by omega) (ok_lv (ok_ar (by omega) (ok_ar (by omega) (ok_ck ⟨by omega, by omega⟩ (ok_lv (ok_lv ?_)))))))))))
  rw [show gt u (j + n) % 18446744073709551616 = gt u (j + n) by omega, show gt u (j + n - 1) % 18446744073709551616 = gt u (j + n - 1) by omega, or_hi a0 a1]
  refine ok_lv (ok_ar (by omega) (ok_ck ⟨by omega, by omega⟩ (ok_lv (ok_lv ?_))))
  rw [show gt v ((n : Int) - 1) % 18446744073709551616 = gt v ((n : Int) - 1) by omega]
  refine ok_ck (by omega) (ok_lv ?_)
  rw [Int.tdiv_eq_ediv_of_nonneg hT0, show ((gt u (j + n) * 4294967296 + gt u (j + n - 1)) / gt v ((n : Int) - 1)) % 18446744073709551616 = (gt u (j + n) * 4294967296 + gt u (j + n - 1)) / gt v ((n : Int) - 1) from
    Int.emod_eq_of_lt (Int.ediv_nonneg hT0 (by omega)) (Int.lt_of_le_of_lt (Int.ediv_le_self _ hT0) hT1)]
  refine ok_ar (by omega) (ok_ck ⟨by omega, by omega⟩ (ok_lv (ok_lv ?_)))
  rw [show gt v ((n : Int) - 1) % 18446744073709551616 = gt v ((n : Int) - 1) by omega]
  refine ok_ck (by omega) (ok_lv ?_)
  rw [Int.tmod_eq_emod_of_nonneg hT0]
  refine ok_bd G ?_
  rintro g ⟨⟨g0, g1⟩, gT, gU⟩
  have gL : (g - 1) * (val v * 4294967296 ^ j.toNat) ≤ val u := by
    by_cases h0 : g = 0
    · subst h0
      have := Int.mul_nonneg hv0 (Int.le_of_lt hp)
      omega
    · have hW2 : val v * 4294967296 ^ j.toNat ≤ 4294967296 ^ ((j + n).toNat - 2) * (gt v ((n : Int) - 1) * 4294967296 + gt v ((n : Int) - 2) + 1) := by
        rw [vT, ePP]
        have := Int.mul_lt_mul_of_pos_right LV.2 hp
        grind
      have h1 := Int.mul_le_mul_of_nonneg_left hW2 (show 0 ≤ g - 1 by omega)
      have h2 : (g - 1) * (gt v ((n : Int) - 1) * 4294967296 + gt v ((n : Int) - 2) + 1) ≤ (gt u (j + n) * 4294967296 + gt u (j + n - 1)) * 4294967296 + gt u (j + n - 2) := by
        rw [Int.sub_mul, Int.mul_add]; omega
      have h3 := Int.mul_le_mul_of_nonneg_left h2 (Int.le_of_lt hP)
      rw [Int.mul_left_comm] at h3
      have h4 : (4294967296 : Int) ^ ((j + n).toNat - 2) * ((gt u (j + n) * 4294967296 + gt u (j + n - 1)) * 4294967296 + gt u (j + n - 2)) ≤ val u := by
        rw [uS, uT, ePn]; grind
      omega
  refine ok_ar (by omega) (ok_ar (by omega) (ok_ck ⟨⟨hj, by omega⟩, by omega, by omega⟩ (ok_lv ?_)))
  refine ok_bd (take_ok (n := n) hu hv hj (by omega) hn hl hL ⟨g0, g1⟩) ?_
  rintro ⟨t, u1⟩ ⟨l1, d1, z1, w, hw, ht, e1⟩
  simp only at l1 d1 z1 ht e1
  dsimp only
  have s1 := (val_small d1 (m := (j + n + 1).toNat) fun k hk => by rw [z1 k (by omega), htop k (by omega)]).2
  have v1' := (val_bound d1).1
  generalize hWW : val v * 4294967296 ^ j.toNat = W at *
  rw [Int.mul_assoc, hWW] at e1
  refine ok_bd (R := fun p => p.1.length = u.length ∧ Dg p.1 ∧ (0 ≤ p.2 ∧ p.2 < 4294967296) ∧ val p.1 = val u - p.2 * W ∧ val p.1 < W) (ok_ite (fun hc => ?_) fun hc => ok_some ?_) ?_
  · rw [ht, decide_eq_true_eq] at hc
    have hw1 : w = -1 := by omega
    subst hw1
    have hlt2 : val u < g * W := by omega
    have hg1 : 1 ≤ g := by
      rcases Int.lt_or_le 0 g with q | q
      · exact q
      · exfalso
        have h00 : g = 0 := by omega
        rw [h00] at hlt2; omega
    refine ok_lv (ok_ar (by omega) (ok_ar (by omega) (ok_ck ⟨⟨hj, by omega⟩, by omega, by omega⟩ (ok_lv ?_))))
    refine ok_bd (give_ok (n := n) d1 hv hj (by omega) hn (by omega) (by omega)) ?_
    rintro u2 ⟨l2, d2, z2, c, hc2, e2⟩
    have s2 := (val_small d2 (m := (j + n + 1).toNat) fun k hk => by rw [z2 k (by omega), z1 k (by omega), htop k (by omega)]).2
    have v2' := (val_bound d2).1
    rw [hWW] at e2
    have eg : (g - 1) * W = g * W - W := by rw [Int.sub_mul]; omega
    have hc1 : c = 1 := by
      rcases hc2 with h | h
      · exfalso
        subst h
        rw [e2, e1] at s2
        omega
      · exact h
    subst hc1
    refine ok_some ⟨by simp only; omega, d2, ?_, ?_, ?_⟩
    · simp only; omega
    · simp only; rw [show (g - 1) % 18446744073709551616 = g - 1 by omega, e2, e1]; omega
    · simp only; rw [e2, e1]; omega
  · have hw0 : w = 0 := by
      rcases hw with h | h
      · exact h
      · exfalso; rw [ht, h] at hc; exact hc (by decide)
    subst hw0
    have eg : (g + 1) * W = g * W + W := by rw [Int.add_mul]; omega
    refine ⟨by simp only; omega, d1, ⟨g0, g1⟩, ?_, ?_⟩
    · simp only; rw [e1]; omega
    · simp only; rw [e1]; omega
  rintro ⟨u2, h⟩ ⟨l2, d2, ⟨h0, h1⟩, e2, s2⟩
  simp only at l2 d2 h0 h1 e2 s2
  have hjq' : inb j q.length := ⟨hj, hjq⟩
  refine ok_lv (ok_ck hjq' (ok_lv (ok_ar (by omega) (ok_some ⟨_, _, rfl, l2, stt_length _ _ _, d2, Dg_stt hq hjq' (by omega), ?_, s2, fun k hk hk2 => ?_⟩))))
  · rw [val_stt hjq', hz j hj (Int.le_refl _), show h % 4294967296 = h by omega, e2, ← hWW]
    grind
  · rw [gt_stt q _ hjq' hk, if_neg (by omega)]
    exact hz k hk (by omega)
/-- A number whose lowest bits are its lowest digit's. -/
theorem V_mod (xs : List Int) (n : Nat) : ∃ c, V xs (n + 1) = gt xs 0 + 4294967296 * c := by
  induction n with
  | zero => exact ⟨0, by rw [V_succ, V_zero]; simp⟩
  | succ n ih =>
    obtain ⟨c, e⟩ := ih
    exact ⟨c + gt xs ((n + 1 : Nat) : Int) * 4294967296 ^ n, by rw [V_succ, e, powB_succ]; grind⟩
/-- The rest is shifted back. -/
theorem unshift_ok {u v : List Int} {k n : Nat} {r : Int} (hu : Dg u) (hn : v.length = n) (hk : k ≤ 31) (hn1 : 1 ≤ n) (hl : n + 1 ≤ u.length) (hL : u.length ≤ 100000000000) (hr : val u = r * 2 ^ k) (hub : val u < 4294967296 ^ n) :
    Ok (lp (P_exact_divMag_L24 (k : Int) v) fuel (u, 0)) (fun z => z.length = u.length ∧ Dg z ∧ V z n = r) := by
  have hMK : (2 : Int) ^ (32 - k) * 2 ^ k = 4294967296 := by rw [← Int.pow_add, show 32 - k + k = 32 by omega]; rfl
  have pM : (0 : Int) < 2 ^ (32 - k) := Int.pow_pos (by decide)
  have pK : (0 : Int) < 2 ^ k := Int.pow_pos (by decide)
  have lo0 : gt u 0 % 2 ^ k = 0 := by
    obtain ⟨c, e⟩ := V_mod u (u.length - 1)
    rw [show u.length - 1 + 1 = u.length by omega, show V u u.length = val u from rfl, hr, ← hMK] at e
    have e2 : gt u 0 = (r - 2 ^ (32 - k) * c) * 2 ^ k := by grind
    rw [e2]; exact Int.mul_emod_left _ _
  have hpos : 0 ≤ val u := (val_bound hu).1
  refine ok_lp (fun s => (0 ≤ s.2 ∧ s.2 ≤ n) ∧ s.1.length = u.length ∧ Dg s.1 ∧ 2 ^ k * V s.1 s.2.toNat = V u s.2.toNat + (gt u s.2 % 2 ^ k) * 4294967296 ^ s.2.toNat ∧ ∀ i : Int, s.2 ≤ i → gt s.1 i = gt u i)
    (fun s => ((n : Int) - s.2).toNat) ⟨⟨by simp, by simp only; omega⟩, rfl, hu, by simp [V_zero, lo0], fun i _ => rfl⟩ (by simp only; omega) ?_
  rintro ⟨z, i⟩ ⟨⟨i0, i1⟩, l1, d1, e1, z1⟩
  simp only at i0 i1 l1 d1 e1 z1
  unfold P_exact_divMag_L24
  dsimp only
  rw [hn]
  refine ok_ite (fun hlt => ?_) fun hge => ok_some ⟨l1, d1, ?_⟩
  · have hi : inb i z.length := ⟨i0, by omega⟩
    have hi1 : inb (i + 1) z.length := ⟨by omega, by omega⟩
    have ga := hu i
    have gb := hu (i + 1)
    refine ok_ck hi (ok_lv (ok_ck (by omega) (ok_lv (ok_ar (by omega) (ok_ck hi1 (ok_lv (ok_lv (ok_ck (by omega) (ok_lv (ok_ck (by omega) (ok_lv (ok_lv ?_))))))))))))
    rw [z1 i (Int.le_refl _), z1 (i + 1) (by omega)]
    generalize hx : gt u i = x at *
    generalize hy : gt u (i + 1) = y at *
    have s1 := shr_u32_k (x := x) (k := k) (by omega)
    have s2 : shl .u64 (y % 18446744073709551616) 32 = y * 4294967296 := by rw [shl_u64_32, show y % 18446744073709551616 = y by omega]; omega
    have s3 := shr_u64_k (x := y * 4294967296) (k := k) (by omega)
    rw [s1, s2, s3]
    generalize hM : (2 : Int) ^ (32 - k) = M at *
    generalize hK : (2 : Int) ^ k = K at *
    have y1 := Int.mul_ediv_add_emod y K
    have y2 := Int.emod_nonneg y (show K ≠ 0 by omega)
    have y3 := Int.emod_lt_of_pos y pK
    have x1 := Int.mul_ediv_add_emod x K
    have x2 := Int.emod_nonneg x (show K ≠ 0 by omega)
    have x3 := Int.emod_lt_of_pos x pK
    have x4 : 0 ≤ x / K := Int.ediv_nonneg ga.1 (by omega)
    have x5 : x / K < M := Int.ediv_lt_of_lt_mul pK (by rw [hMK]; exact ga.2)
    have e3 : y * 4294967296 / K = y * M := by
      rw [← hMK, ← Int.mul_assoc]; exact Int.mul_ediv_cancel _ (by omega)
    have e4 : y * M % 4294967296 = (y % K) * M := by
      have h1 : y * M = 4294967296 * (y / K) + (y % K) * M := by rw [← hMK]; grind
      have h2 : 0 ≤ (y % K) * M := Int.mul_nonneg y2 (by omega)
      have h3 : (y % K) * M < 4294967296 := by
        have := Int.mul_lt_mul_of_pos_right y3 pM
        rw [Int.mul_comm K, hMK] at this; exact this
      rw [h1]; omega
    have h5 : 0 ≤ (y % K) * M := Int.mul_nonneg y2 (by omega)
    have h6 : (y % K) * M + M ≤ 4294967296 := by
      have := Int.mul_le_mul_of_nonneg_right (show y % K + 1 ≤ K by omega) (Int.le_of_lt pM)
      rw [Int.add_mul, Int.mul_comm K, hMK] at this; omega
    have e5 : bOr .u32 (x / K) ((y % K) * M) = (y % K) * M + x / K := by
      rw [← hM]
      exact or_lo ⟨x4, by rw [hM]; exact x5⟩ y2 (by rw [hM]; omega)
    rw [e3, e4, e5]
    refine ok_lv (ok_ck hi (ok_lv (ok_ar (by omega) (ok_some ⟨⟨⟨by simp only; omega, by simp only; omega⟩, by simp only; rw [stt_length]; exact l1, Dg_stt d1 hi (by omega), ?_, fun m hm => ?_⟩, by simp only; omega⟩))))
    · simp only
      rw [hy, V_put hi, V_cut u i0, hx, show (i + 1).toNat = i.toNat + 1 by omega, powB_succ]
      have e6 : K * ((y % K) * M) = (y % K) * 4294967296 := by rw [← hMK]; grind
      grind
    · simp only at hm ⊢
      rw [gt_stt z _ hi (by omega), if_neg (by omega)]
      exact z1 m (by omega)
  · have hin : i = (n : Int) := by omega
    subst hin
    have ht := gt_high hu hub (Int.le_refl (n : Int))
    have hs := (val_small hu (m := n) fun k hk => gt_high hu hub hk).1
    rw [ht, Int.toNat_natCast, ← hs, hr] at e1
    rw [show (0 : Int) % 2 ^ k = 0 from Int.zero_emod _, Int.zero_mul, Int.add_zero, Int.mul_comm] at e1
    exact Int.eq_of_mul_eq_mul_right (by omega) e1
theorem divMag_ok {a b : List Int} (ha : Dg a) (hb : Dg b) (na : Nz a) (nb : Nz b) (hb0 : b ≠ []) (la : a.length ≤ 1000000000) (lb : b.length ≤ 1000000000) :
    Ok (P_exact_divMag a b) (fun r => Dg r.1 ∧ Dg r.2 ∧ val a = val b * val r.1 + val r.2 ∧ val r.2 < val b ∧ r.1.length ≤ 10000000000 ∧ r.2.length ≤ 10000000000) := by
  have hbl : 0 < b.length := List.length_pos_iff.2 hb0
  unfold P_exact_divMag
  refine ok_bd (cmpMag_ok ha hb na nb (by omega) (by omega)) ?_
  rintro _ rfl
  refine ok_ite (fun hc => ok_some ⟨Dg_nil, ha, ?_, ?_, by simp, by simp only; omega⟩) fun hc => ?_
  · simp [show val [] = 0 from rfl]
  · simp only
    rcases Int.lt_or_le (val a) (val b) with q | q
    · exact q
    · exfalso
      rcases Int.lt_or_le 0 (val a - val b) with p | p
      · rw [Int.sign_eq_one_of_pos p] at hc; omega
      · rw [show val a - val b = 0 by omega] at hc; exact absurd hc (by decide)
  have hab : val b ≤ val a := by
    rcases Int.lt_or_le (val a) (val b) with q | q
    · exact absurd (by rw [Int.sign_eq_neg_one_of_neg (by omega)]; omega) hc
    · exact q
  have tb := hb ((b.length : Int) - 1)
  have tb1 : 1 ≤ gt b ((b.length : Int) - 1) := by have := nb hb0; omega
  refine ok_ite (fun h1 => ?_) fun h1 => ?_
  · have h1' : b.length = 1 := by omega
    have e0 : val b = gt b 0 := by
      unfold val; rw [h1', V_succ, V_zero]; simp
    have tb' : 1 ≤ gt b 0 := by rw [h1'] at tb1; exact tb1
    refine ok_ck ⟨by omega, by omega⟩ (ok_lv (ok_bd (divSmall_ok ha ⟨tb', (hb 0).2⟩ (by omega)) ?_))
    rintro ⟨q, r⟩ ⟨d, l, e, r0, r1⟩
    simp only at d l e r0 r1
    have hv : val [r] = r := by rw [val_cons, show val [] = 0 from rfl]; omega
    exact ok_some ⟨d, Dg_cons ⟨r0, by have := (hb 0).2; omega⟩ Dg_nil, by simp only; rw [hv, e0, e], by simp only; rw [hv, e0]; exact r1, by simp only; omega, by simp⟩
  · refine ok_ar (by omega) (ok_ck ⟨by omega, by omega⟩ (ok_lv (ok_bd (LZ_ok tb1 tb.2) ?_)))
    rintro _ ⟨k, rfl, hk, k1, k2⟩
    have hMK : (2 : Int) ^ (32 - k) * 2 ^ k = 4294967296 := by rw [← Int.pow_add, show 32 - k + k = 32 by omega]; rfl
    have pK : (0 : Int) < 2 ^ k := Int.pow_pos (by decide)
    have kB : (2 : Int) ^ k ≤ 2147483648 := by
      have := Nat.pow_le_pow_right (n := 2) (by decide) hk
      rw [pow_cast]; omega
    refine ok_bd (shifted_ok ha hk (by omega)) ?_
    rintro u ⟨du, lu, eu⟩
    refine ok_bd (shifted_ok hb hk (by omega)) ?_
    rintro s ⟨ds, ls, es⟩
    generalize hn : b.length = n at *
    have hn2 : 2 ≤ n := by omega
    have vb : val b = V b (n - 1) + gt b ((n : Int) - 1) * 4294967296 ^ (n - 1) := by
      have := V_succ b (n - 1)
      rw [show n - 1 + 1 = n by omega, show ((n - 1 : Nat) : Int) = (n : Int) - 1 by omega] at this
      rw [← this]; unfold val; rw [hn]
    have Lb := V_bound hb (n - 1)
    have eBn : (4294967296 : Int) ^ n = 4294967296 ^ (n - 1) * 4294967296 := by rw [← powB_succ]; congr 1; omega
    have pB := powB (n - 1)
    -- the divisor, shifted
    have sub1 : val s < 4294967296 ^ n := by
      have h1 : (gt b ((n : Int) - 1) + 1) * 2 ^ k ≤ 4294967296 := by
        rw [← hMK]
        refine Int.mul_le_mul_of_nonneg_right ?_ (Int.le_of_lt pK)
        rw [← hMK] at k2
        have := Int.lt_of_mul_lt_mul_right k2 (Int.le_of_lt pK)
        omega
      have h2 : val b < (gt b ((n : Int) - 1) + 1) * 4294967296 ^ (n - 1) := by rw [vb, Int.add_mul]; omega
      have h3 := Int.mul_lt_mul_of_pos_right h2 pK
      have h4 := Int.mul_le_mul_of_nonneg_left h1 (Int.le_of_lt pB)
      rw [es, eBn]
      rw [show (gt b ((n : Int) - 1) + 1) * 4294967296 ^ (n - 1) * 2 ^ k = 4294967296 ^ (n - 1) * ((gt b ((n : Int) - 1) + 1) * 2 ^ k) by grind] at h3
      omega
    have sV : val s = V s n := (val_small ds (m := n) fun i hi => gt_high ds sub1 hi).1
    have lv := sub0_len (xs := s) (b := (n : Int)) (by omega) (by omega)
    have dv := Dg_sub0 ds (n : Int)
    have ev : val (X.sub s 0 (n : Int)) = val b * 2 ^ k := by rw [val_sub0 (by omega) (by omega), Int.toNat_natCast, ← sV, es]
    refine ok_ck ⟨by omega, by omega, by omega⟩ (ok_lv ?_)
    generalize hv : X.sub s 0 (n : Int) = v at *
    have lv' : v.length = n := by omega
    have top : 2147483648 ≤ gt v ((n : Int) - 1) := by
      have h1 : val v = V v (n - 1) + gt v ((n : Int) - 1) * 4294967296 ^ (n - 1) := by
        have := V_succ v (n - 1)
        rw [show n - 1 + 1 = n by omega, show ((n - 1 : Nat) : Int) = (n : Int) - 1 by omega] at this
        rw [← this]; unfold val; rw [lv']
      have h2 := (V_bound dv (n - 1)).2
      have h3 : 2147483648 * 4294967296 ^ (n - 1) ≤ val v := by
        have h4 := Int.mul_le_mul_of_nonneg_right k1 (Int.le_of_lt pB)
        have h5 : gt b ((n : Int) - 1) * 2 ^ k * 4294967296 ^ (n - 1) ≤ val b * 2 ^ k := by
          rw [vb]
          have := Int.mul_nonneg Lb.1 (Int.le_of_lt pK)
          grind
        omega
      have h6 : 2147483648 * 4294967296 ^ (n - 1) < (gt v ((n : Int) - 1) + 1) * 4294967296 ^ (n - 1) := by rw [Int.add_mul]; omega
      have := Int.lt_of_mul_lt_mul_right h6 (Int.le_of_lt pB)
      omega
    have hlen : n ≤ a.length := by
      have h1 := (val_bound ha).2
      have h2 := Nz_low hb nb hb0
      rw [hn] at h2
      have := powB_lt (show (4294967296 : Int) ^ (n - 1) < 4294967296 ^ a.length by omega)
      omega
    have hvb : val b = val b := rfl
    have vv1 : val v < 4294967296 ^ n := by rw [ev, ← es]; exact sub1
    refine ok_ar (by omega) (ok_ck (by simp only [mkOk]; omega) (ok_lv (ok_ar (by simp only [List.length_replicate]; omega) ?_)))
    have hlr : (List.replicate ((u.length : Int) - (v.length : Int)).toNat (0 : Int)).length = a.length + 1 - n := by rw [List.length_replicate]; omega
    generalize hq0 : List.replicate ((u.length : Int) - (v.length : Int)).toNat (0 : Int) = q0 at *
    have dq0 : Dg q0 := by rw [← hq0]; exact Dg_rep _
    have vq0 : val q0 = 0 := by rw [← hq0]; exact val_rep _
    have zq0 : ∀ k, gt q0 k = 0 := fun k => by rw [← hq0]; exact gt_replicate _ _
    refine ok_bd (R := fun s => s.1.length = a.length + 1 ∧ Dg s.1 ∧ Dg s.2 ∧ s.2.length = a.length + 1 - n ∧ val s.1 + val v * val s.2 = val u ∧ val s.1 < val v) ?_ ?_
    · refine ok_lp (fun s => (-1 ≤ s.2.2 ∧ s.2.2 ≤ (a.length : Int) - n) ∧ s.1.length = a.length + 1 ∧ Dg s.1 ∧ Dg s.2.1 ∧ s.2.1.length = a.length + 1 - n ∧ val s.1 + val v * val s.2.1 = val u ∧ val s.1 < val v * 4294967296 ^ (s.2.2 + 1).toNat ∧ ∀ k : Int, 0 ≤ k → k ≤ s.2.2 → gt s.2.1 k = 0)
        (fun s => (s.2.2 + 1).toNat) ⟨⟨by simp only; omega, by simp only; omega⟩, lu, du, dq0, hlr, by simp only; rw [vq0]; simp, ?_, fun k _ _ => zq0 k⟩ (by simp only; omega) ?_
      · simp only
        rw [eu, show ((q0.length : Int) - 1 + 1).toNat = a.length + 1 - n by omega]
        have h1 := (val_bound ha).2
        have h2 : 2147483648 * 4294967296 ^ (n - 1) ≤ val v := by
          have h1 : val v = V v (n - 1) + gt v ((n : Int) - 1) * 4294967296 ^ (n - 1) := by
            have := V_succ v (n - 1)
            rw [show n - 1 + 1 = n by omega, show ((n - 1 : Nat) : Int) = (n : Int) - 1 by omega] at this
            rw [← this]; unfold val; rw [lv']
          have h2 := (V_bound dv (n - 1)).1
          have := Int.mul_le_mul_of_nonneg_right top (Int.le_of_lt pB)
          omega
        have h3 := Int.mul_le_mul_of_nonneg_right h2 (Int.le_of_lt (powB (a.length + 1 - n)))
        rw [Int.mul_assoc, ← powB_add, show n - 1 + (a.length + 1 - n) = a.length by omega] at h3
        have h4 := Int.mul_lt_mul_of_pos_right h1 pK
        have h5 := Int.mul_le_mul_of_nonneg_left kB (Int.le_of_lt (powB a.length))
        rw [Int.mul_comm _ 2147483648] at h5
        omega
      rintro ⟨w, q, j⟩ ⟨⟨j0, j1⟩, l1, d1, d2, l2, e1, s1, z1⟩
      simp only at j0 j1 l1 d1 d2 l2 e1 s1 z1
      by_cases hj : 0 ≤ j
      · refine (digit_ok dv lv' hn2 (by omega) top d1 d2 hj (by omega) (by omega) (by omega) z1 s1).mono ?_
        rintro _ ⟨w', q', rfl, l3, l4, d3, d4, e3, s3, z3⟩
        exact ⟨⟨⟨by simp only; omega, by simp only; omega⟩, by simp only; omega, d3, d4, by simp only; omega, by simp only; omega, by simp only; rw [show j - 1 + 1 = j by omega]; exact s3, z3⟩, by simp only; omega⟩
      · unfold P_exact_divMag_L11
        dsimp only
        refine ok_f hj (ok_some ⟨l1, d1, d2, l2, e1, ?_⟩)
        rw [show (j + 1).toNat = 0 by omega, Int.pow_zero, Int.mul_one] at s1
        exact s1
    rintro ⟨w, q⟩ ⟨l1, d1, d2, l2, e1, s1⟩
    simp only at l1 d1 d2 l2 e1 s1
    have er : val w = (val a - val b * val q) * 2 ^ k := by
      rw [eu, ev] at e1
      grind
    refine ok_bd (unshift_ok (r := val a - val b * val q) d1 lv' hk (by omega) (by omega) (by omega) er (by omega)) ?_
    rintro z ⟨l3, d3, e3⟩
    have hs0 := sub0_len (xs := z) (b := (n : Int)) (by omega) (by omega)
    refine ok_ck ⟨by omega, by omega, by omega⟩ (ok_lv (ok_some ⟨d2, Dg_sub0 d3 _, ?_, ?_, by simp only; omega, ?_⟩))
    · simp only
      rw [lv', val_sub0 (by omega) (by omega), Int.toNat_natCast, e3]; omega
    · simp only
      rw [lv', val_sub0 (by omega) (by omega), Int.toNat_natCast, e3]
      rw [er, ev] at s1
      exact Int.lt_of_mul_lt_mul_right s1 (Int.le_of_lt pK)
    · simp only
      rw [lv']; omega
end Go.Proofs.Ytfkncjfpgflafaa.X
