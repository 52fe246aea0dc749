/- ExactLong: long numbers obey the laws of arithmetic. Plain. -/
import Derived.Test.YtkenpbnpemjbhaaBM
import Derived.Test.YtkenpbnpemjbhaaPZ
namespace Go.Proofs.Ytkenpbnpemjbhaa.X
open Go Go.RowKit
set_option linter.unusedVariables false
set_option linter.unusedSimpArgs false
set_option linter.unusedSectionVars false
theorem exacts_ok : Ok P_maskkeep4_exacts (fun r => r = true) := ⟨true, by decide +kernel, rfl⟩
theorem cut_data (s t : ByteArray) : subS (s ++ t) 0 (s.size : Int) = s := ba_ext (by
  simp only [subS, Int.toNat_natCast]
  rw [Go.Lib.extract_data, ByteArray.data_append, Array.toList_append, show (0 : Int).toNat = 0 from rfl, List.drop_zero, Nat.sub_zero, Go.Lib.size_eq s, List.take_left])
theorem cut_data2 (s t : ByteArray) : subS (s ++ t) (s.size : Int) ((s ++ t).size : Int) = t := ba_ext (by
  have h1 := Go.Lib.size_eq s
  have h2 := Go.Lib.size_eq t
  have h3 : (s ++ t).size = s.size + t.size := ByteArray.size_append
  simp only [subS, Int.toNat_natCast]
  rw [Go.Lib.extract_data, ByteArray.data_append, Array.toList_append, h3, h1, List.drop_left]
  exact List.take_of_length_le (by omega))
theorem minus_size : (⟨#[45]⟩ : ByteArray).size = 1 := rfl
theorem trim_minus (t : ByteArray) : Ok (P_strings_TrimPrefix ((⟨#[45]⟩ : ByteArray) ++ t) (⟨#[45]⟩ : ByteArray)) (fun r => r = t) := by
  have hz : ((⟨#[45]⟩ : ByteArray) ++ t).size = 1 + t.size := by rw [ByteArray.size_append, minus_size]
  have c1 := cut_data (⟨#[45]⟩ : ByteArray) t
  have c2 := cut_data2 (⟨#[45]⟩ : ByteArray) t
  unfold P_strings_TrimPrefix
  refine ok_bd (R := fun r => r = t) ?_ (by rintro _ rfl; exact ok_some rfl)
  unfold P_internal_stringslite_TrimPrefix
  refine ok_bd (R := fun r => r = true) ?_ ?_
  · unfold P_internal_stringslite_HasPrefix
    refine ok_ck (fun _ => ⟨by omega, by omega, by rw [hz, minus_size]; omega⟩) (ok_lv (ok_lv (ok_some ?_)))
    rw [c1, decide_eq_true (rfl : (⟨#[45]⟩ : ByteArray) = ⟨#[45]⟩), Bool.and_true, decide_eq_true_eq, hz, minus_size]
    omega
  rintro _ rfl
  refine ok_t rfl (ok_ck ⟨by omega, by rw [hz, minus_size]; omega, by omega⟩ (ok_lv (ok_some ?_)))
  exact c2
theorem trim_none {ds : List Int} (hd : Dec ds) (h1 : 1 ≤ ds.length) : Ok (P_strings_TrimPrefix (dstr ds) (⟨#[45]⟩ : ByteArray)) (fun r => r = dstr ds) := by
  have hz := dstr_size ds
  unfold P_strings_TrimPrefix
  refine ok_bd (R := fun r => r = dstr ds) ?_ (by rintro _ rfl; exact ok_some rfl)
  unfold P_internal_stringslite_TrimPrefix
  refine ok_bd (R := fun r => r = false) ?_ ?_
  · unfold P_internal_stringslite_HasPrefix
    refine ok_ck (fun _ => ⟨by omega, by omega, by rw [minus_size]; omega⟩) (ok_lv (ok_lv (ok_some ?_)))
    have hne : subS (dstr ds) 0 ((⟨#[45]⟩ : ByteArray).size : Int) ≠ (⟨#[45]⟩ : ByteArray) := by
      intro e
      have hb := dstr_byte hd (i := 0) ⟨by omega, by omega⟩
      have hg := hd.get (i := 0) ⟨by omega, by omega⟩
      obtain ⟨x, xs, rfl⟩ : ∃ x xs, ds = x :: xs := by cases ds with | nil => simp at h1 | cons x xs => exact ⟨x, xs, rfl⟩
      have e2 : dstr (x :: xs) = dstr [x] ++ dstr xs := dstr_app [x] xs
      have e3 := cut_data (dstr [x]) (dstr xs)
      rw [show (dstr [x]).size = 1 from dstr_size [x]] at e3
      rw [e2, show ((⟨#[45]⟩ : ByteArray).size : Int) = ((1 : Nat) : Int) from rfl, e3] at e
      have hb2 := dstr_byte (ds := [x]) (fun y hy => hd y (by rw [List.mem_singleton.1 hy]; simp)) (i := 0) ⟨by omega, by simp⟩
      rw [e] at hb2
      have : byteAt (⟨#[45]⟩ : ByteArray) 0 = 45 := rfl
      rw [this] at hb2
      have hx := hd x (by simp)
      have : gt [x] 0 = x := rfl
      omega
    rw [decide_eq_false hne, Bool.and_false]
  rintro _ rfl
  exact ok_f (by simp) (ok_some rfl)
/-! ### Read -/
theorem take_val {ds : List Int} {i : Int} (hi : inb i ds.length) : dval (ds.take (i + 1).toNat) = 10 * dval (ds.take i.toNat) + gt ds i := by
  obtain ⟨k, rfl⟩ := Int.eq_ofNat_of_zero_le hi.1
  have hk : k < ds.length := by have := hi.2; omega
  rw [show ((k : Int) + 1).toNat = k + 1 by omega, Int.toNat_natCast, List.take_succ_eq_append_getElem hk, dval_app, dval_one]
  have e : (10 : Int) ^ [ds[k]].length = 10 := by simp
  rw [e]
  have : gt ds (k : Int) = ds[k] := by simp [gt, List.getD_eq_getElem?_getD, hk]
  omega
theorem Dec.take {ds : List Int} (h : Dec ds) (n : Nat) : Dec (ds.take n) := fun x hx => h x (List.mem_of_mem_take hx)
theorem take_mono {ds : List Int} (h : Dec ds) (n : Nat) : dval (ds.take n) ≤ dval ds ∧ 0 ≤ dval (ds.take n) := by
  have h1 := dval_app (ds.take n) (ds.drop n)
  rw [List.take_append_drop] at h1
  have h2 := dval_bound (h.take n)
  have h3 := dval_bound (ds := ds.drop n) fun x hx => h x (List.mem_of_mem_drop hx)
  have h4 := Int.mul_le_mul_of_nonneg_left (show (1 : Int) ≤ 10 ^ (ds.drop n).length from Int.add_one_le_of_lt (Int.pow_pos (by decide))) h2.1
  omega
theorem Read_ok {v : Int} {s : ByteArray} {k : Nat} (h : Spelt v s k) (hk : k ≤ 10000) (hv : dlen v ≤ 2000) : Ok (P_exact_Read s) (fun r => r = (big v, 0)) := by
  obtain ⟨ds, hs, hd, hval, h1, hl, h0, hne⟩ := h.ex
  have hz := dstr_size ds
  have hss : s.size = (if v < 0 then 1 else 0) + ds.length := by
    rw [hs, ByteArray.size_append, hz]
    split
    · rfl
    · rfl
  have hcut : Ok (P_strings_TrimPrefix s (⟨#[45]⟩ : ByteArray)) (fun r => r = dstr ds) := by
    by_cases q : v < 0
    · rw [hs, if_pos q]; exact trim_minus _
    · rw [hs, if_neg q, empty_app]; exact trim_none hd h1
  have hsl : s.size ≤ 10001 := by rw [hss]; split <;> omega
  have hnonempty : dstr ds ≠ (⟨#[]⟩ : ByteArray) := fun e => by
    rw [e] at hz
    have : (⟨#[]⟩ : ByteArray).size = 0 := rfl
    omega
  have hb0 := dstr_byte hd (i := 0) ⟨by omega, by omega⟩
  unfold P_exact_Read
  refine ok_f (by omega) (ok_bd hcut ?_)
  rintro _ rfl
  refine ok_ck (fun _ => ⟨by omega, by omega⟩) (ok_lv (ok_lv (ok_lv (ok_f ?_ ?_))))
  · rw [hb0]
    simp only [Bool.or_eq_true, Bool.and_eq_true, decide_eq_true_eq, not_or, not_and, Decidable.not_not]
    refine ⟨hnonempty, fun q => ?_⟩
    by_cases e : v = 0
    · rw [hs, h0 e, e, if_neg (by omega), empty_app]; decide
    · have := hne e; omega
  refine ok_bs1 (R := fun _ => True) ?_ fun _ _ => ?_
  · refine ok_lp (fun y => 0 ≤ y ∧ y ≤ ds.length) (fun y => ((ds.length : Int) - y).toNat) ⟨by omega, by omega⟩ (by omega) ?_
    rintro y ⟨y0, y1⟩
    unfold P_exact_Read_L7
    rw [hz]
    refine ok_ite (fun hlt => ?_) fun hge => ok_some ⟨(), rfl, trivial⟩
    have hy : inb y ds.length := ⟨y0, hlt⟩
    have hg := hd.get hy
    have hb := dstr_byte hd hy
    refine ok_ck hy (ok_lv (ok_ck (fun _ => hy) (ok_lv (ok_lv (ok_f ?_ (ok_ar (by omega) (ok_some ⟨⟨by omega, by omega⟩, by omega⟩)))))))
    rw [hb]
    simp only [Bool.or_eq_true, decide_eq_true_eq]
    omega
  have hdl : ∀ n : Nat, dlen (dval (ds.take n)) ≤ 2000 := fun n => by
    have := take_mono hd n
    have h2 := dlen_mono (u := dval (ds.take n)) (v := v) (by omega)
    omega
  refine ok_bd (R := fun p => p = ((big (v.natAbs : Int)).fneg, (big (v.natAbs : Int)).fmag)) ?_ ?_
  · refine ok_lp (fun p => ∃ i : Int, p = (i, (big (dval (ds.take i.toNat))).fneg, (big (dval (ds.take i.toNat))).fmag) ∧ (0 ≤ i ∧ i ≤ ds.length) ∧ (i = 0 ∨ ∃ q : Int, (ds.length : Int) - i = 9 * q)) (fun p => ((ds.length : Int) - p.1).toNat) ⟨0, rfl, ⟨by omega, by omega⟩, .inl rfl⟩ (by simp only; omega) ?_
    rintro _ ⟨i, rfl, ⟨i0, i1⟩, hc⟩
    unfold P_exact_Read_L14
    dsimp only
    rw [hz]
    refine ok_ite (fun hlt => ?_) fun hge => ok_some ?_
    · refine ok_ar (by omega) (ok_ck (fun _ => by omega) (ok_lv (ok_lv ?_)))
      rw [Int.tmod_eq_emod_of_nonneg (show (0 : Int) ≤ (ds.length : Int) by omega)]
      refine ok_bd (R := fun e => (i < e ∧ e ≤ ds.length ∧ e ≤ i + 9) ∧ (∃ q : Int, (ds.length : Int) - e = 9 * q) ∧ (i = 0 ∨ e = i + 9)) (ok_ite (fun hx => ok_ck (by omega) (ok_lv (ok_some ?_))) fun hx => ok_some ?_) ?_
      · simp only [Bool.and_eq_true, decide_eq_true_eq] at hx
        exact ⟨by omega, ⟨(ds.length : Int) / 9, by omega⟩, .inl hx.1⟩
      · simp only [Bool.and_eq_true, decide_eq_true_eq] at hx
        have hq : ∃ q : Int, (ds.length : Int) - i = 9 * q := by
          rcases hc with e | e
          · exact ⟨(ds.length : Int) / 9, by omega⟩
          · exact e
        obtain ⟨q, hq⟩ := hq
        exact ⟨by omega, ⟨q - 1, by omega⟩, .inr rfl⟩
      rintro e ⟨⟨e0, e1, e2⟩, hq, he⟩
      refine ok_bd (R := fun p => p.1 = e ∧ p.2 = dval (ds.take e.toNat) - dval (ds.take i.toNat) * 10 ^ (e - i).toNat ∧ 0 ≤ p.2 ∧ p.2 < 1000000000) ?_ ?_
      · refine ok_lp (fun p => (i ≤ p.1 ∧ p.1 ≤ e) ∧ p.2 = dval (ds.take p.1.toNat) - dval (ds.take i.toNat) * 10 ^ (p.1 - i).toNat ∧ 0 ≤ p.2 ∧ p.2 < 10 ^ (p.1 - i).toNat) (fun p => (e - p.1).toNat) ⟨⟨by simp only; omega, by simp only; omega⟩, by simp, by simp only; omega, by simp⟩ (by simp only; omega) ?_
        rintro ⟨j, n⟩ ⟨⟨j0, j1⟩, hn, n0, n1⟩
        simp only at j0 j1 hn n0 n1
        unfold P_exact_Read_L18
        dsimp only
        refine ok_ite (fun hlt2 => ?_) fun hge => ok_some ⟨by simp only; omega, ?_, n0, ?_⟩
        · have hj : inb j ds.length := ⟨by omega, by omega⟩
          have hg := hd.get hj
          have hp : (10 : Int) ^ (j - i).toNat ≤ 100000000 := by
            have h3 : (10 : Nat) ^ (j - i).toNat ≤ 10 ^ 8 := Nat.pow_le_pow_right (by decide) (by omega)
            have h4 : ((10 : Int) ^ (j - i).toNat) = ((10 ^ (j - i).toNat : Nat) : Int) := by simp
            rw [h4]; omega
          refine ok_lv (ok_ck ⟨by omega, by omega⟩ (ok_lv ?_))
          rw [dstr_byte hd hj]
          refine ok_lv (ok_lv (ok_lv (ok_ar (by omega) (ok_some ⟨⟨⟨by simp only; omega, by simp only; omega⟩, ?_, ?_, ?_⟩, by simp only; omega⟩))))
          · simp only
            rw [show 10 * n % 4294967296 = 10 * n by omega, show (48 + gt ds j - 48) % 256 % 4294967296 = gt ds j by omega, show (10 * n + gt ds j) % 4294967296 = 10 * n + gt ds j by omega, take_val hj, show (j + 1 - i).toNat = (j - i).toNat + 1 by omega, Int.pow_succ, hn]
            grind
          · simp only; omega
          · simp only
            rw [show 10 * n % 4294967296 = 10 * n by omega, show (48 + gt ds j - 48) % 256 % 4294967296 = gt ds j by omega, show (10 * n + gt ds j) % 4294967296 = 10 * n + gt ds j by omega, show (j + 1 - i).toNat = (j - i).toNat + 1 by omega, Int.pow_succ]
            omega
        · have : j = e := by omega
          subst this; exact hn
        · have h3 : (10 : Nat) ^ (j - i).toNat ≤ 10 ^ 9 := Nat.pow_le_pow_right (by decide) (by omega)
          have h4 : ((10 : Int) ^ (j - i).toNat) = ((10 ^ (j - i).toNat : Nat) : Int) := by simp
          rw [h4] at n1
          simp only; omega
      rintro ⟨j, n⟩ ⟨rfl, hn, n0, n1⟩
      simp only at hn n0 n1 e0 e1 e2 hq he ⊢
      refine ok_bd (Of_ok (by omega)) ?_
      rintro _ rfl
      rw [big_eta]
      have t1 := hdl i.toNat
      have d9 : dlen 1000000000 ≤ 1 := dlen_le (by decide)
      have t2 := dlen_mul (dval (ds.take i.toNat)) 1000000000
      have tn : dlen n ≤ 1 := dlen_le (by rw [Nat.pow_one]; omega)
      refine ok_bd (times_ok (by omega) (by omega)) ?_
      rintro _ rfl
      refine ok_ar (by omega) (ok_bd (Of_ok (by omega)) ?_)
      rintro _ rfl
      refine ok_bd (plus_ok (by omega) (by omega)) ?_
      rintro _ rfl
      have ev : dval (ds.take i.toNat) * 1000000000 + n = dval (ds.take j.toNat) := by
        rcases he with e | e
        · rw [hn, e]
          simp [dval]
        · rw [hn, show (j - i).toNat = 9 by omega]
          have : (10 : Int) ^ 9 = 1000000000 := by decide
          omega
      rw [ev]
      exact ok_some ⟨⟨j, rfl, ⟨by omega, e1⟩, .inr hq⟩, by simp only; omega⟩
    · have e : i = (ds.length : Int) := by omega
      rw [e, Int.toNat_natCast, List.take_length, hval]
  rintro _ rfl
  dsimp only
  have hla : dlen ((v.natAbs : Nat) : Int) = dlen v := by unfold dlen; rw [Int.natAbs_natCast]
  refine ok_bd (made_ok (big_Dg _) (by rw [big_len]; omega)) ?_
  rintro _ rfl
  rw [big_val, Int.natAbs_natCast]
  have ev : (if decide (((dstr ds).size : Int) < (s.size : Int)) = true then -(v.natAbs : Int) else (v.natAbs : Int)) = v := by
    by_cases q : v < 0
    · rw [if_pos (by rw [decide_eq_true_eq, hss, if_pos q, hz]; omega)]; omega
    · rw [if_neg (by rw [decide_eq_true_eq, hss, if_neg q, hz]; omega)]; omega
  rw [ev]
  refine ok_bd (fit_ok (by omega)) ?_
  rintro _ rfl
  exact ok_some rfl
theorem Add_ok {a b : Int} (la : dlen a ≤ 1000000000) (lb : dlen b ≤ 1000000000) (l : dlen (a + b) ≤ 2048) : Ok (P_exact_Add (big a) (big b)) (fun r => r = (big (a + b), 0)) := by
  unfold P_exact_Add
  refine ok_bd (plus_ok la lb) ?_
  rintro _ rfl
  refine ok_bd (fit_ok l) ?_
  rintro _ rfl
  exact ok_some rfl
theorem DivMod_ok {a b : Int} (hb : b ≠ 0) (la : dlen a ≤ 900000000) (lb : dlen b ≤ 900000000) : Ok (P_exact_DivMod (big a) (big b)) (fun r => r = (big (a / b), big (a % b), 0)) := by
  unfold P_exact_DivMod
  refine ok_bd Sign_ok ?_
  rintro _ rfl
  refine ok_f (fun e => hb (Int.sign_eq_zero_iff_zero.1 e)) (ok_bd (split_ok hb la lb) ?_)
  rintro _ rfl
  exact ok_some rfl
theorem long_ok {L : List Int} (hL : Strm L) {k : Int} (hk : Few (k + 1000)) (hk0 : 0 ≤ k) : Ok (P_maskkeep4_ExactLong_1 (T_maskmake_Stream.mk L k)) (fun r => (∃ v, r.1 = big v ∧ dlen v ≤ 90) ∧ k ≤ r.2 ∧ r.2 ≤ k + 100) := by
  have d1 : ∀ x : Int, x.natAbs ≤ 1073741824 → dlen x ≤ 1 := fun x hx => dlen_le (by rw [Nat.pow_one]; omega)
  unfold P_maskkeep4_ExactLong_1
  refine ok_bd (hL.range (by omega) (by omega) (by omega) (by omega)) ?_
  rintro ⟨x, k1⟩ ⟨x0, x1, rfl⟩
  simp only at x0 x1
  refine ok_bd (Of_ok (by simp only; omega)) ?_
  rintro _ rfl
  dsimp only
  refine ok_bd (hL.next (by omega) (by omega)) ?_
  rintro ⟨m, k2⟩ ⟨m0, m1, -, rfl⟩
  have m1 := m1 (by omega)
  simp only at m0 m1
  refine ok_bd (R := fun s => (∃ v, s.1 = (big v).fneg ∧ s.2.1 = (big v).fmag ∧ dlen v ≤ 90) ∧ k ≤ s.2.2 ∧ s.2.2 ≤ k + 100) ?_ ?_
  · refine ok_lp (fun s => ∃ v : Int, s.2.1 = (big v).fneg ∧ s.2.2.1 = (big v).fmag ∧ (0 ≤ s.1 ∧ s.1 ≤ m) ∧ (dlen v : Int) ≤ 1 + 2 * s.1 ∧ k + 2 ≤ s.2.2.2 ∧ s.2.2.2 ≤ k + 2 + 2 * s.1) (fun s => (m - s.1).toNat) ⟨x, rfl, rfl, ⟨by simp, by simp only; omega⟩, by have := d1 x (by omega); simp only; omega, by simp only; omega, by simp only; omega⟩ (by simp only; omega) ?_
    rintro ⟨y, ng, mg, p⟩ ⟨v, rfl, rfl, ⟨y0, y1⟩, hv, p0, p1⟩
    simp only at y0 y1 hv p0 p1 ⊢
    unfold P_maskkeep4_ExactLong_1_L3
    dsimp only
    rw [big_eta]
    refine ok_ite (fun hlt => ?_) fun hge => ok_some ⟨⟨v, rfl, rfl, by omega⟩, by simp only; omega, by simp only; omega⟩
    refine ok_bd (hL.range (by omega) (by omega) (by omega) (by omega)) ?_
    rintro ⟨c, p2⟩ ⟨c0, c1, rfl⟩
    simp only at c0 c1
    dsimp only
    refine ok_bd (Of_ok (by omega)) ?_
    rintro _ rfl
    have e1 := d1 c (by omega)
    have e2 := dlen_mul v c
    refine ok_bd (Mul_ok (by omega) (by omega) (by omega)) ?_
    rintro _ rfl
    dsimp only
    refine ok_bd (hL.range (by omega) (by omega) (by omega) (by omega)) ?_
    rintro ⟨d, p3⟩ ⟨d0, d1', rfl⟩
    simp only at d0 d1'
    dsimp only
    refine ok_bd (Of_ok (by omega)) ?_
    rintro _ rfl
    have e3 := d1 d (by omega)
    have e4 := dlen_add (v * c) d
    have e5 : dlen (v * c + d) ≤ dlen v + 2 := by omega
    refine ok_bd (Add_ok (by omega) (by omega) (by omega)) ?_
    rintro _ rfl
    exact ok_ar (by omega) (ok_some ⟨⟨v * c + d, rfl, rfl, ⟨by simp only; omega, by simp only; omega⟩, by simp only; omega, by simp only; omega, by simp only; omega⟩, by simp only; omega⟩)
  rintro ⟨ng, mg, p⟩ ⟨⟨v, rfl, rfl, hv⟩, p0, p1⟩
  exact ok_some ⟨⟨v, rfl, hv⟩, p0, p1⟩
theorem ExactLong_ok {L : List Int} (hL : Strm L) : Ok (P_maskkeep4_ExactLong L) (fun r => r = true) := by
  unfold P_maskkeep4_ExactLong
  refine ok_bd (long_ok hL (by omega) (by omega)) ?_
  rintro ⟨_, k1⟩ ⟨⟨a, rfl, la⟩, q0, q1⟩
  simp only at q0 q1
  refine ok_bd (long_ok hL (by omega) (by omega)) ?_
  rintro ⟨_, k2⟩ ⟨⟨b, rfl, lb⟩, q2, q3⟩
  simp only at q2 q3
  refine ok_bd (long_ok hL (by omega) (by omega)) ?_
  rintro ⟨_, k3⟩ ⟨⟨c, rfl, lc⟩, q4, q5⟩
  simp only at q4 q5
  dsimp only
  have e1 := dlen_add b c
  have e2 := dlen_mul a (b + c)
  have e3 := dlen_mul a b
  have e4 := dlen_mul a c
  have e5 := dlen_add (a * b) (a * c)
  have ed : a * b + a * c = a * (b + c) := by rw [Int.mul_add]
  refine ok_bd (Add_ok (by omega) (by omega) (by omega)) ?_
  rintro _ rfl
  refine ok_bd (Mul_ok (by omega) (by omega) (by omega)) ?_
  rintro _ rfl
  refine ok_bd (Mul_ok (by omega) (by omega) (by omega)) ?_
  rintro _ rfl
  refine ok_bd (Mul_ok (by omega) (by omega) (by omega)) ?_
  rintro _ rfl
  refine ok_bd (Add_ok (by omega) (by omega) (by omega)) ?_
  rintro _ rfl
  dsimp only
  refine ok_bd (Text_ok (L := 400) (by omega) (by omega)) ?_
  rintro s hs
  refine ok_bd (Read_ok hs (by omega) (by omega)) ?_
  rintro _ rfl
  refine ok_bd exacts_ok ?_
  rintro _ rfl
  rw [ed]
  refine ok_lv (ok_lv (ok_lv (ok_bd (R := fun r => r = 0) (ok_gd (fun _ => (Cmp_ok (by omega) (by omega)).mono fun r hr => by rw [hr, Int.sub_self]; rfl) fun hq => by simp at hq) ?_)))
  rintro _ rfl
  refine ok_lv (ok_bd (R := fun r => r = 0) (ok_gd (fun _ => (Cmp_ok (by omega) (by omega)).mono fun r hr => by rw [hr, Int.sub_self]; rfl) fun hq => by simp at hq) ?_)
  rintro _ rfl
  refine ok_lv (ok_f (by simp) (ok_bd Sign_ok ?_))
  rintro _ rfl
  refine ok_ite (fun _ => ok_some rfl) fun hb => ?_
  have hb0 : b ≠ 0 := fun e => hb (by rw [e]; rfl)
  have r0 := Int.emod_nonneg a hb0
  have r1 := Int.emod_lt a hb0
  have r2 := Int.mul_ediv_add_emod a b
  have lq : dlen (a / b) ≤ dlen a := dlen_mono (Int.natAbs_ediv_le_natAbs a b)
  have lr : dlen (a % b) ≤ dlen b := dlen_mono (by omega)
  have lm := dlen_mul (a / b) b
  have es : a / b * b + a % b = a := by rw [Int.mul_comm]; exact r2
  refine ok_bd (DivMod_ok hb0 (by omega) (by omega)) ?_
  rintro _ rfl
  dsimp only
  refine ok_bd (Mul_ok (by omega) (by omega) (by omega)) ?_
  rintro _ rfl
  dsimp only
  refine ok_bd (Add_ok (by omega) (by omega) (by rw [es]; omega)) ?_
  rintro _ rfl
  dsimp only
  rw [es]
  refine ok_bd (R := fun r => r = 0) (ok_gd (fun _ => (Cmp_ok (by omega) (by omega)).mono fun r hr => by rw [hr, Int.sub_self]; rfl) fun hq => by simp at hq) ?_
  rintro _ rfl
  refine ok_lv (ok_bd (R := fun r => r = (a % b).sign) (ok_gd (fun _ => Sign_ok) fun hq => by simp at hq) ?_)
  rintro _ rfl
  have hs0 : 0 ≤ (a % b).sign := by
    rcases Int.lt_or_le 0 (a % b) with p | p
    · rw [Int.sign_eq_one_of_pos p]; omega
    · rw [show a % b = 0 by omega]; decide
  have e7 : (decide ((0 : Int) = 0) && decide ((0 : Int) = 0) && decide (0 ≤ (a % b).sign)) = true := by simp [hs0]
  have lab : dlen (b.natAbs : Int) = dlen b := by unfold dlen; rw [Int.natAbs_natCast]
  refine ok_lv ?_
  rw [e7]
  refine ok_bd (R := fun r => r = big (b.natAbs : Int)) (ok_gd (fun _ => Abs_ok (by omega)) fun hq => by cases hq) ?_
  rintro _ rfl
  refine ok_bd (R := fun r => r = -1) (ok_gd (fun _ => (Cmp_ok (by omega) (by omega)).mono fun r hr => ?_) fun hq => by cases hq) ?_
  · rw [hr, Int.sign_eq_neg_one_of_neg (by omega)]
  rintro _ rfl
  exact ok_lv (ok_some (by decide))
end Go.Proofs.Ytkenpbnpemjbhaa.X
