/- Long numbers: products, division by a digit, bits, shifts. Plain. -/
import Derived.Test.YtfkncjfpgflafaaBB
namespace Go.Proofs.Ytfkncjfpgflafaa.X
open Go Go.RowKit
set_option linter.unusedVariables false
set_option linter.unusedSimpArgs false
set_option linter.unusedSectionVars false
theorem mul_dig {x y : Int} (hx : 0 ≤ x ∧ x < 4294967296) (hy : 0 ≤ y ∧ y < 4294967296) : 0 ≤ x * y ∧ x * y ≤ 18446744065119617025 := by
  refine ⟨Int.mul_nonneg hx.1 hy.1, ?_⟩
  have := Int.mul_le_mul (show x ≤ 4294967295 by omega) (show y ≤ 4294967295 by omega) hy.1 (by decide)
  omega
theorem pow_two (i j : Int) (hi : 0 ≤ i) (hj : 0 ≤ j) : (4294967296 : Int) ^ (i + j).toNat = 4294967296 ^ i.toNat * 4294967296 ^ j.toNat := by
  rw [← powB_add]; congr 1; omega
theorem times_in {b : T_exact_Int} {x i S : Int} {la : Nat} {out : List Int} (hb : Dg b.fmag) (hx : 0 ≤ x ∧ x < 4294967296) (hi : 0 ≤ i ∧ i < la) (hl : out.length = la + b.fmag.length) (hs : la + b.fmag.length ≤ 10000000000) (hd : Dg out) (hv : val out = S) (hz : ∀ k : Int, i + b.fmag.length ≤ k → gt out k = 0) :
    Ok (lp (P_exact_times_L7 b x i) fuel (out, 0, 0)) (fun s => s.1.length = la + b.fmag.length ∧ Dg s.1 ∧ (0 ≤ s.2 ∧ s.2 < 4294967296) ∧ val s.1 + s.2 * 4294967296 ^ (i + b.fmag.length).toNat = S + x * 4294967296 ^ i.toNat * val b.fmag ∧ ∀ k : Int, i + b.fmag.length ≤ k → gt s.1 k = 0) := by
  refine ok_lp (fun s => (0 ≤ s.2.2 ∧ s.2.2 ≤ b.fmag.length) ∧ s.1.length = la + b.fmag.length ∧ Dg s.1 ∧ (0 ≤ s.2.1 ∧ s.2.1 < 4294967296) ∧ val s.1 + s.2.1 * 4294967296 ^ (i + s.2.2).toNat = S + x * 4294967296 ^ i.toNat * V b.fmag s.2.2.toNat ∧ ∀ k : Int, i + b.fmag.length ≤ k → gt s.1 k = 0)
    (fun s => ((b.fmag.length : Int) - s.2.2).toNat) ⟨⟨by simp, by simp only; omega⟩, hl, hd, by simp only; omega, by simp [V_zero, hv], hz⟩ (by simp only; omega) ?_
  rintro ⟨o, c, j⟩ ⟨⟨j0, j1⟩, l1, d1, ⟨c0, c1⟩, e1, z1⟩
  simp only at j0 j1 l1 d1 c0 c1 e1 z1
  unfold P_exact_times_L7
  dsimp only
  refine ok_ite (fun hlt => ?_) fun hge => ok_some ⟨l1, d1, ⟨c0, c1⟩, ?_, z1⟩
  · have hij : inb (i + j) o.length := ⟨by omega, by omega⟩
    have gb := hb j
    have go := d1 (i + j)
    obtain ⟨p0, p1⟩ := mul_dig hx gb
    refine ok_ck ⟨j0, hlt⟩ (ok_lv (ok_ar (by omega) (ok_ck hij (ok_lv (ok_lv (ok_lv (ok_lv ?_)))))))
    rw [show gt o (i + j) % 18446744073709551616 = gt o (i + j) by omega, show x % 18446744073709551616 = x by omega, show gt b.fmag j % 18446744073709551616 = gt b.fmag j by omega]
    refine ok_lv (ok_lv (ok_lv ?_))
    rw [show x * gt b.fmag j % 18446744073709551616 = x * gt b.fmag j by omega, show (gt o (i + j) + x * gt b.fmag j) % 18446744073709551616 = gt o (i + j) + x * gt b.fmag j by omega, show (c + (gt o (i + j) + x * gt b.fmag j)) % 18446744073709551616 = c + (gt o (i + j) + x * gt b.fmag j) by omega]
    refine ok_ar (by omega) (ok_lv (ok_ck hij (ok_lv (ok_ck (by omega) (ok_lv ?_)))))
    rw [shr_u64_32]
    generalize ht : c + (gt o (i + j) + x * gt b.fmag j) = t
    have hq : t % 4294967296 + 4294967296 * (t / 4294967296) = t := by omega
    refine ok_ar (by omega) (ok_some ⟨⟨⟨by simp only; omega, by simp only; omega⟩, by simp only; rw [stt_length]; exact l1, Dg_stt d1 hij (by omega), ⟨by simp only; omega, by simp only; omega⟩, ?_, fun k hk => ?_⟩, by simp only; omega⟩)
    · simp only
      rw [val_stt hij, V_cut b.fmag j0, show i + (j + 1) = (i + j) + 1 by omega, show ((i + j) + 1).toNat = (i + j).toNat + 1 by omega, powB_succ, pow_two i j hi.1 j0]
      rw [pow_two i j hi.1 j0] at e1
      grind
    · simp only at hk ⊢
      rw [gt_stt o _ hij (by omega), if_neg (by omega)]
      exact z1 k hk
  · simp only
    rw [show j = (b.fmag.length : Int) by omega, Int.toNat_natCast] at e1
    exact e1
section
variable {a b : Int}
theorem times_ok (la : dlen a ≤ 1000000000) (lb : dlen b ≤ 1000000000) : Ok (P_exact_times (big a) (big b)) (fun r => r = big (a * b)) := by
  have va := big_val a
  have vb := big_val b
  have ha := big_len a
  have hb := big_len b
  unfold P_exact_times
  refine ok_ar (by omega) (ok_ck (by simp only [mkOk]; omega) (ok_lv ?_))
  refine ok_bd (R := fun s => Dg s ∧ val s = val (big a).fmag * val (big b).fmag ∧ s.length = (big a).fmag.length + (big b).fmag.length) ?_ ?_
  · refine ok_lp (fun s => (0 ≤ s.2 ∧ s.2 ≤ (big a).fmag.length) ∧ s.1.length = (big a).fmag.length + (big b).fmag.length ∧ Dg s.1 ∧ val s.1 = V (big a).fmag s.2.toNat * val (big b).fmag ∧ ∀ k : Int, s.2 + (big b).fmag.length ≤ k → gt s.1 k = 0)
      (fun s => (((big a).fmag.length : Int) - s.2).toNat) ⟨⟨by simp, by simp only; omega⟩, by simp only [List.length_replicate]; omega, Dg_rep _, by simp [V_zero, val_rep], fun k _ => gt_replicate _ _⟩ (by simp only; omega) ?_
    rintro ⟨o, i⟩ ⟨⟨i0, i1⟩, l1, d1, e1, z1⟩
    simp only at i0 i1 l1 d1 e1 z1
    unfold P_exact_times_L3
    dsimp only
    refine ok_ite (fun hlt => ?_) fun hge => ok_some ⟨d1, ?_, l1⟩
    · refine ok_ck ⟨i0, hlt⟩ (ok_lv (ok_bd (times_in (big_Dg b) (big_Dg a i) ⟨i0, hlt⟩ l1 (by omega) d1 rfl z1) ?_))
      rintro ⟨o2, c⟩ ⟨l2, d2, ⟨c0, c1⟩, e2, z2⟩
      simp only at l2 d2 c0 c1 e2 z2
      have ho : inb (i + ((big b).fmag.length : Int)) o2.length := ⟨by omega, by omega⟩
      refine ok_ar (by omega) (ok_lv (ok_ck ho (ok_lv (ok_ar (by omega) (ok_some ⟨⟨⟨by simp only; omega, by simp only; omega⟩, by simp only; rw [stt_length]; exact l2, Dg_stt d2 ho (by omega), ?_, fun k hk => ?_⟩, by simp only; omega⟩)))))
      · simp only
        rw [val_stt ho, z2 _ (Int.le_refl _), V_cut _ i0, show c % 4294967296 = c by omega, Int.sub_zero, e2, e1]
        grind
      · simp only at hk ⊢
        rw [gt_stt o2 _ ho (by omega), if_neg (by omega)]
        exact z2 k (by omega)
    · rw [e1, show i = ((big a).fmag.length : Int) by omega, Int.toNat_natCast]; rfl
  rintro s ⟨d, v, l⟩
  refine ok_bd (made_ok d (by omega)) ?_
  rintro _ rfl
  refine ok_some ?_
  congr 1
  rw [v, va, vb, big_neg, big_neg]
  have e : ((a.natAbs : Int) * (b.natAbs : Int)) = ((a * b).natAbs : Int) := by rw [Int.natAbs_mul]; simp
  rw [e]
  by_cases p : a < 0
  · by_cases q : b < 0
    · have := Int.mul_pos_of_neg_of_neg p q
      rw [decide_eq_true p, decide_eq_true q]; simp only [BEq.rfl, Bool.not_true, Bool.false_eq_true, if_false]; omega
    · have := Int.mul_nonpos_of_nonpos_of_nonneg (show a ≤ 0 by omega) (show 0 ≤ b by omega)
      rw [decide_eq_true p, decide_eq_false q]; simp only [show (true == false) = false from rfl, Bool.not_false, if_true]; omega
  · by_cases q : b < 0
    · have := Int.mul_nonpos_of_nonneg_of_nonpos (show 0 ≤ a by omega) (show b ≤ 0 by omega)
      rw [decide_eq_false p, decide_eq_true q]; simp only [show (false == true) = false from rfl, Bool.not_false, if_true]; omega
    · have := Int.mul_nonneg (show 0 ≤ a by omega) (show 0 ≤ b by omega)
      rw [decide_eq_false p, decide_eq_false q]; simp only [BEq.rfl, Bool.not_true, Bool.false_eq_true, if_false]; omega
end
theorem divSmall_ok {a : List Int} {d : Int} (ha : Dg a) (hd : 1 ≤ d ∧ d < 4294967296) (la : a.length ≤ 10000000000) : Ok (P_exact_divSmall a d) (fun r => Dg r.1 ∧ r.1.length = a.length ∧ val a = d * val r.1 + r.2 ∧ 0 ≤ r.2 ∧ r.2 < d) := by
  unfold P_exact_divSmall
  refine ok_ck (by simp only [mkOk]; omega) (ok_lv (ok_ar (by omega) ?_))
  refine ok_bd (R := fun s => Dg s.1 ∧ s.1.length = a.length ∧ val a = d * val s.1 + s.2 ∧ 0 ≤ s.2 ∧ s.2 < d) ?_ ?_
  · refine ok_lp (fun s => (-1 ≤ s.2.2 ∧ s.2.2 < a.length) ∧ s.1.length = a.length ∧ Dg s.1 ∧ (0 ≤ s.2.1 ∧ s.2.1 < d) ∧ val a - V a (s.2.2 + 1).toNat = d * val s.1 + s.2.1 * 4294967296 ^ (s.2.2 + 1).toNat ∧ ∀ k : Int, 0 ≤ k → k ≤ s.2.2 → gt s.1 k = 0)
      (fun s => (s.2.2 + 1).toNat) ⟨⟨by simp only; omega, by simp only; omega⟩, by simp, Dg_rep _, by simp only; omega, ?_, fun k _ _ => gt_replicate _ _⟩ (by simp only; omega) ?_
    · simp only
      rw [show ((a.length : Int) - 1 + 1).toNat = a.length by omega, V_ge (Nat.le_refl _), Int.toNat_natCast, val_rep]; simp
    rintro ⟨o, c, i⟩ ⟨⟨i0, i1⟩, l1, d1, ⟨c0, c1⟩, e1, z1⟩
    simp only at i0 i1 l1 d1 c0 c1 e1 z1
    unfold P_exact_divSmall_L4
    dsimp only
    refine ok_ite (fun hge => ?_) fun hlt => ok_some ⟨d1, l1, ?_, c0, c1⟩
    · have ga := ha i
      refine ok_ck (by omega) (ok_lv (ok_ck ⟨hge, i1⟩ (ok_lv (ok_lv (ok_lv (ok_lv ?_))))))
      rw [show gt a i % 18446744073709551616 = gt a i by omega, or_hi ⟨c0, by omega⟩ ga, show d % 18446744073709551616 = d by omega]
      generalize ht : c * 4294967296 + gt a i = t
      have t0 : 0 ≤ t := by omega
      have q0 : 0 ≤ t / d := Int.ediv_nonneg t0 (by omega)
      have q1 : t / d < 4294967296 := Int.ediv_lt_of_lt_mul (by omega) (by omega)
      have r0 := Int.emod_nonneg t (show d ≠ 0 by omega)
      have r1 := Int.emod_lt_of_pos t (show 0 < d by omega)
      have qr := Int.mul_ediv_add_emod t d
      refine ok_ck (by omega) (ok_lv (ok_lv ?_))
      rw [Int.tdiv_eq_ediv_of_nonneg t0, show t / d % 18446744073709551616 = t / d by omega, show t / d % 4294967296 = t / d by omega]
      have ho : inb i o.length := ⟨hge, by omega⟩
      refine ok_ck ho (ok_lv (ok_lv (ok_ck (by omega) (ok_lv ?_))))
      rw [Int.tmod_eq_emod_of_nonneg t0]
      refine ok_ar (by omega) (ok_some ⟨⟨⟨by simp only; omega, by simp only; omega⟩, by simp only; rw [stt_length]; exact l1, Dg_stt d1 ho ⟨q0, q1⟩, ⟨r0, r1⟩, ?_, fun k hk hk2 => ?_⟩, by simp only; omega⟩)
      · simp only
        rw [val_stt ho, z1 i hge (Int.le_refl _), show i - 1 + 1 = i by omega]
        rw [V_cut a hge, show (i + 1).toNat = i.toNat + 1 by omega, powB_succ] at e1
        generalize t / d = q at *
        generalize t % d = r at *
        grind
      · simp only at hk2 ⊢
        rw [gt_stt o _ ho (by omega), if_neg (by omega)]
        exact z1 k hk (by omega)
    · simp only
      rw [show (i + 1).toNat = 0 by omega, V_zero, Int.pow_zero] at e1
      omega
  rintro ⟨o, c⟩ ⟨d1, l1, e1, c0, c1⟩
  simp only at d1 l1 e1 c0 c1
  refine ok_lv (ok_some ⟨d1, l1, ?_, ?_⟩)
  · simp only; rw [show c % 4294967296 = c by omega]; exact e1
  · simp only; omega
/-! ### Bits -/
theorem len8_size : ks_633d862b.size = 256 := by decide +kernel
theorem len8_dec : ((List.range 256).all fun y => decide (0 ≤ byteAt ks_633d862b (y : Int) ∧ byteAt ks_633d862b (y : Int) ≤ 8) && decide ((y : Int) < 2 ^ (byteAt ks_633d862b (y : Int)).toNat) && (decide (y = 0) || decide ((2 : Int) ^ (byteAt ks_633d862b (y : Int)).toNat ≤ 2 * (y : Int)))) = true := by decide +kernel
theorem len8 {y : Int} (h0 : 0 ≤ y) (h1 : y < 256) : ∃ m : Nat, byteAt ks_633d862b y = (m : Int) ∧ m ≤ 8 ∧ y < 2 ^ m ∧ (1 ≤ y → (2 : Int) ^ m ≤ 2 * y) := by
  obtain ⟨k, rfl⟩ := Int.eq_ofNat_of_zero_le h0
  have := List.all_eq_true.1 len8_dec k (List.mem_range.2 (by omega))
  simp only [Bool.and_eq_true, Bool.or_eq_true, decide_eq_true_eq] at this
  obtain ⟨⟨⟨a, b⟩, c⟩, d⟩ := this
  exact ⟨(byteAt ks_633d862b (k : Int)).toNat, by omega, by omega, c, fun h => d.resolve_left (by omega)⟩
theorem Len32_ok {x : Int} (h0 : 0 ≤ x) (h1 : x < 4294967296) : Ok (P_math_bits_Len32 x) (fun r => ∃ n : Nat, r = (n : Int) ∧ n ≤ 32 ∧ x < 2 ^ n ∧ (1 ≤ x → (2 : Int) ^ n ≤ 2 * x)) := by
  unfold P_math_bits_Len32
  refine ok_bd (R := fun p => (p.2 = 0 ∧ p.1 = x ∧ x < 65536) ∨ (p.2 = 16 ∧ p.1 = x / 65536 ∧ 65536 ≤ x)) (ok_ite (fun h => ok_ck (by omega) (ok_lv (ok_some (.inr ⟨rfl, shr_u32_k (k := 16) (by omega), h⟩)))) fun h => ok_some (.inl ⟨rfl, rfl, by omega⟩)) ?_
  rintro ⟨y, n⟩ hy
  simp only at hy
  have hs : shr .u32 y 8 = y / 256 := shr_u32_k (k := 8) (by omega)
  refine ok_bd (R := fun p => (0 ≤ p.1 ∧ p.1 < 256) ∧ ((p.2 = 0 ∧ p.1 = x) ∨ (p.2 = 8 ∧ p.1 = x / 256 ∧ 256 ≤ x) ∨ (p.2 = 16 ∧ p.1 = x / 65536 ∧ 65536 ≤ x) ∨ (p.2 = 24 ∧ p.1 = x / 16777216 ∧ 16777216 ≤ x)))
    (ok_ite (fun h => ok_ck (by omega) (ok_lv (ok_ar (by omega) (ok_some ?_)))) fun h => ok_some ?_) ?_
  · simp only
    rw [hs]; omega
  · simp only; omega
  rintro ⟨z, k⟩ ⟨⟨z0, z1⟩, hz⟩
  simp only at z0 z1 hz
  dsimp only
  rw [show z % 256 = z by omega]
  obtain ⟨m, em, hm, m1, m2⟩ := len8 z0 z1
  refine ok_lv (ok_ck ⟨z0, by rw [len8_size]; omega⟩ (ok_lv ?_))
  rw [em]
  refine ok_ar (by omega) (ok_ar (by omega) (ok_some ?_))
  rcases hz with ⟨rfl, rfl⟩ | ⟨rfl, rfl, q⟩ | ⟨rfl, rfl, q⟩ | ⟨rfl, rfl, q⟩
  · exact ⟨m, by omega, by omega, m1, m2⟩
  · have m2 := m2 (by omega)
    have e : (2 : Int) ^ (8 + m) = 256 * 2 ^ m := by rw [Int.pow_add]; rfl
    exact ⟨8 + m, by omega, by omega, by rw [e]; omega, fun _ => by rw [e]; omega⟩
  · have m2 := m2 (by omega)
    have e : (2 : Int) ^ (16 + m) = 65536 * 2 ^ m := by rw [Int.pow_add]; rfl
    exact ⟨16 + m, by omega, by omega, by rw [e]; omega, fun _ => by rw [e]; omega⟩
  · have m2 := m2 (by omega)
    have e : (2 : Int) ^ (24 + m) = 16777216 * 2 ^ m := by rw [Int.pow_add]; rfl
    exact ⟨24 + m, by omega, by omega, by rw [e]; omega, fun _ => by rw [e]; omega⟩
theorem LZ_ok {x : Int} (h0 : 1 ≤ x) (h1 : x < 4294967296) : Ok (P_math_bits_LeadingZeros32 x) (fun r => ∃ k : Nat, r = (k : Int) ∧ k ≤ 31 ∧ 2147483648 ≤ x * 2 ^ k ∧ x * 2 ^ k < 4294967296) := by
  unfold P_math_bits_LeadingZeros32
  refine ok_bd (Len32_ok (by omega) h1) ?_
  rintro _ ⟨n, rfl, hn, a, b⟩
  have b := b h0
  refine ok_ar (by omega) (ok_some ⟨32 - n, by omega, ?_, ?_, ?_⟩)
  · cases n with
    | zero => rw [Int.pow_zero] at a; omega
    | succ n => omega
  · have e : (2 : Int) ^ n * 2 ^ (32 - n) = 4294967296 := by rw [← Int.pow_add, show n + (32 - n) = 32 by omega]; rfl
    have p : (0 : Int) < 2 ^ (32 - n) := Int.pow_pos (by decide)
    have := Int.mul_le_mul_of_nonneg_right b (Int.le_of_lt p)
    rw [e, Int.mul_assoc] at this
    omega
  · have e : (2 : Int) ^ n * 2 ^ (32 - n) = 4294967296 := by rw [← Int.pow_add, show n + (32 - n) = 32 by omega]; rfl
    have p : (0 : Int) < 2 ^ (32 - n) := Int.pow_pos (by decide)
    have := Int.mul_lt_mul_of_pos_right a p
    rw [e] at this
    exact this
theorem Bits_ok {v : Int} (l : dlen v ≤ 1000000000) : Ok (P_exact_Bits (big v)) (fun r => 0 ≤ r ∧ r ≤ 32 * dlen v) := by
  have hl := big_len v
  unfold P_exact_Bits
  refine ok_ite (fun h => ok_some (by omega)) fun h => ok_ar (by omega) (ok_ar (by omega) (ok_ar (by omega) (ok_ck (by omega) (ok_lv ?_))))
  have g := big_Dg v (((big v).fmag.length : Int) - 1)
  refine ok_bd (Len32_ok g.1 g.2) ?_
  rintro _ ⟨n, rfl, hn, -, -⟩
  exact ok_ar (by omega) (ok_some (by omega))
theorem shifted_ok {a : List Int} {k : Nat} (ha : Dg a) (hk : k ≤ 31) (la : a.length ≤ 10000000000) : Ok (P_exact_shifted a (k : Int)) (fun r => Dg r ∧ r.length = a.length + 1 ∧ val r = val a * 2 ^ k) := by
  have hMK : (2 : Int) ^ (32 - k) * 2 ^ k = 4294967296 := by rw [← Int.pow_add, show 32 - k + k = 32 by omega]; rfl
  have pM : (0 : Int) < 2 ^ (32 - k) := Int.pow_pos (by decide)
  have pK : (0 : Int) < 2 ^ k := Int.pow_pos (by decide)
  have kB : (2 : Int) ^ k ≤ 2147483648 := by
    have := Nat.pow_le_pow_right (n := 2) (by decide) hk
    rw [pow_cast]; omega
  unfold P_exact_shifted
  refine ok_ar (by omega) (ok_ck (by simp only [mkOk]; omega) (ok_lv ?_))
  refine ok_bd (R := fun s => Dg s ∧ s.length = a.length + 1 ∧ val s = val a * 2 ^ k) ?_ fun s hs => ok_some hs
  refine ok_lp (fun s => (0 ≤ s.2 ∧ s.2 ≤ a.length) ∧ s.1.length = a.length + 1 ∧ Dg s.1 ∧ V s.1 (s.2 + 1).toNat = V a s.2.toNat * 2 ^ k ∧ gt s.1 s.2 < 2 ^ k ∧ ∀ j : Int, s.2 < j → gt s.1 j = 0)
    (fun s => ((a.length : Int) - s.2).toNat) ⟨⟨by simp, by simp only; omega⟩, by simp only [List.length_replicate]; omega, Dg_rep _, by simp [V_rep, V_zero], by simp only; rw [gt_replicate]; exact pK, fun j _ => gt_replicate _ _⟩ (by simp only; omega) ?_
  rintro ⟨o, i⟩ ⟨⟨i0, i1⟩, l1, d1, e1, g1, z1⟩
  simp only at i0 i1 l1 d1 e1 g1 z1
  unfold P_exact_shifted_L3
  dsimp only
  refine ok_ite (fun hlt => ?_) fun hge => ok_some ⟨d1, l1, ?_⟩
  · have ga := ha i
    have go := d1 i
    have ho : inb i o.length := ⟨i0, by omega⟩
    generalize hM : (2 : Int) ^ (32 - k) = M at *
    generalize hK : (2 : Int) ^ k = K at *
    have s1 := shl_u32_k (x := gt a i) (k := k) (by omega)
    have s2 := shl_u64_k (x := gt a i) (k := k) (by omega)
    rw [hK] at s1 s2
    generalize hx : gt a i = x at *
    have hl0 : 0 ≤ x / M := Int.ediv_nonneg ga.1 (by omega)
    have hl1 : x / M < K := Int.ediv_lt_of_lt_mul pM (by rw [Int.mul_comm, hMK]; exact ga.2)
    have hh0 := Int.emod_nonneg x (show M ≠ 0 by omega)
    have hh1 := Int.emod_lt_of_pos x pM
    have hx2 := Int.mul_ediv_add_emod x M
    generalize x / M = lo at *
    generalize x % M = hi at *
    have e2 : x * K = lo * 4294967296 + hi * K := by rw [← hx2, ← hMK]; grind
    have b1 : 0 ≤ hi * K := Int.mul_nonneg hh0 (by omega)
    have b2 : hi * K + K ≤ 4294967296 := by
      have := Int.mul_le_mul_of_nonneg_right (show hi + 1 ≤ M by omega) (Int.le_of_lt pK)
      rw [Int.add_mul, hMK] at this; omega
    refine ok_ck ⟨i0, hlt⟩ (ok_lv (ok_ck ho (ok_lv (ok_ck (by omega) (ok_lv ?_)))))
    rw [s1, e2, show (lo * 4294967296 + hi * K) % 4294967296 = hi * K by omega]
    have e3 : bOr .u32 (gt o i) (hi * K) = hi * K + gt o i := by
      rw [← hK]
      exact or_lo ⟨go.1, by rw [hK]; exact g1⟩ hh0 (by rw [hK]; omega)
    rw [e3]
    have l2 : (stt o i (hi * K + gt o i)).length = o.length := stt_length _ _ _
    have ho2 : inb (i + 1) (stt o i (hi * K + gt o i)).length := ⟨by omega, by omega⟩
    refine ok_lv (ok_ck ho (ok_lv (ok_ar (by omega) (ok_lv (ok_ck (by omega) (ok_lv ?_))))))
    rw [show x % 18446744073709551616 = x by omega, s2, e2, show (lo * 4294967296 + hi * K) % 18446744073709551616 = lo * 4294967296 + hi * K by omega]
    refine ok_ck (by omega) (ok_lv ?_)
    rw [shr_u64_32, show (lo * 4294967296 + hi * K) / 4294967296 = lo by omega]
    refine ok_lv (ok_ck ho2 (ok_lv ?_))
    rw [show lo % 4294967296 = lo by omega]
    have d2 := Dg_stt d1 ho (x := hi * K + gt o i) (by omega)
    refine ok_ar (by omega) (ok_some ⟨⟨⟨by simp only; omega, by simp only; omega⟩, by simp only; rw [stt_length, stt_length]; exact l1, Dg_stt d2 ho2 (by omega), ?_, ?_, fun j hj => ?_⟩, by simp only; omega⟩)
    · simp only
      rw [V_put ho2, V_put ho, V_cut a i0, hx, show (i + 1).toNat = i.toNat + 1 by omega, powB_succ]
      rw [V_cut o i0] at e1
      grind
    · simp only
      rw [gt_stt _ _ ho2 (by omega), if_pos rfl]; exact hl1
    · simp only at hj ⊢
      rw [gt_stt _ _ ho2 (by omega), if_neg (by omega), gt_stt _ _ ho (by omega), if_neg (by omega)]
      exact z1 j (by omega)
  · rw [show i = (a.length : Int) by omega, show ((a.length : Int) + 1).toNat = o.length by omega, Int.toNat_natCast] at e1
    exact e1
end Go.Proofs.Ytfkncjfpgflafaa.X
