/- Bits that are written are read again. Plain. -/
import Derived.Test.YtnooiajahmichaaSA
namespace Go.Proofs.Ytnooiajahmichaa.X
open Go Go.RowKit
set_option linter.unusedVariables false
/-- Bit p of a row of bytes, the highest of a byte first; 0 beyond the end. -/
def bitN (b : List Int) (p : Nat) : Nat := (gt b (p / 8 : Nat)).toNat / 2 ^ (7 - p % 8) % 2
theorem bitN_lt (b : List Int) (p : Nat) : bitN b p < 2 := Nat.mod_lt _ (by omega)
theorem gtOut0 {xs : List Int} {i : Nat} (h : xs.length ≤ i) : gt xs (i : Int) = 0 := by
  simp [gt, List.getD_eq_getElem?_getD, List.getElem?_eq_none h]
theorem bitN_out {b : List Int} {p : Nat} (h : 8 * b.length ≤ p) : bitN b p = 0 := by
  unfold bitN
  rw [gtOut0 (by omega)]; simp
/-- The number that k bits from p on tell. -/
def rdB (b : List Int) (p : Nat) : Nat → Nat
  | 0 => 0
  | k + 1 => 2 * rdB b p k + bitN b (p + k)
theorem rdB_lt (b : List Int) (p : Nat) : ∀ k, rdB b p k < 2 ^ k
  | 0 => by simp [rdB]
  | k + 1 => by have := rdB_lt b p k; have := bitN_lt b (p + k); rw [rdB, Nat.pow_succ]; omega
theorem rd_congr {b b' : List Int} {p p' : Nat} : ∀ {k : Nat}, (∀ i, i < k → bitN b (p + i) = bitN b' (p' + i)) → rdB b p k = rdB b' p' k
  | 0, _ => rfl
  | k + 1, h => by rw [rdB, rdB, rd_congr (k := k) fun i hi => h i (by omega), h k (by omega)]
theorem rd_num {b : List Int} {p n m : Nat} (h : ∀ i, i < m → bitN b (p + i) = n / 2 ^ (m - 1 - i) % 2) : ∀ k, k ≤ m → rdB b p k = n / 2 ^ (m - k) % 2 ^ k
  | 0, _ => by simp [rdB, Nat.mod_one]
  | k + 1, hk => by
    rw [rdB, rd_num h k (by omega), h k (by omega)]
    have e1 : m - k = (m - (k + 1)) + 1 := by omega
    have e2 : m - 1 - k = m - (k + 1) := by omega
    rw [e1, e2, Nat.pow_succ, ← Nat.div_div_eq_div_mul]
    generalize n / 2 ^ (m - (k + 1)) = q
    rw [Nat.pow_succ, Nat.mul_comm (2 ^ k) 2, Nat.mod_mul]
    omega
theorem rd_whole {b : List Int} {p n m : Nat} (h : ∀ i, i < m → bitN b (p + i) = n / 2 ^ (m - 1 - i) % 2) (hn : n < 2 ^ m) : rdB b p m = n := by
  have := rd_num h m (Nat.le_refl _)
  rwa [Nat.sub_self, Nat.pow_zero, Nat.div_one, Nat.mod_eq_of_lt hn] at this
theorem Bytes.gt {b : List Int} (h : Bytes b) (i : Int) (h0 : 0 ≤ i) : 0 ≤ gt b i ∧ gt b i < 256 := by
  by_cases e : i < b.length
  · exact h _ (gt_mem ⟨h0, e⟩)
  · obtain ⟨k, rfl⟩ := Int.eq_ofNat_of_zero_le h0
    rw [gtOut0 (by omega)]; omega
theorem rbits_ok {b : List Int} (hb : Bytes b) {p m : Nat} {ov : Bool} (hp : p ≤ 100000000) (hm : m ≤ 32) (hl : b.length ≤ 1000000) : Ok (P_stream_reader_bits (T_stream_reader.mk b p ov) m) (fun r => r.1 = rdB b p m ∧ r.2.1 = (p + m : Nat)) := by
  unfold P_stream_reader_bits
  refine ok_bd (R := fun r => r.1 = rdB b p m ∧ r.2.1 = (p + m : Nat)) ?_ fun r hr => ok_some hr
  refine ok_lp (fun s => ∃ y : Nat, s.2.1 = y ∧ y ≤ m ∧ s.1 = rdB b p y ∧ s.2.2.1 = (p + y : Nat)) (fun s => ((m : Int) - s.2.1).toNat) ⟨0, rfl, by omega, rfl, rfl⟩ (by simp only; omega) ?_
  rintro ⟨_, _, _, o⟩ ⟨y, rfl, hy, rfl, rfl⟩
  unfold P_stream_reader_bits_L3
  dsimp only
  refine ok_ite (fun hlt => ?_) fun hge => ok_some (by rw [show y = m by omega]; exact ⟨rfl, rfl⟩)
  have hd : Int.tdiv ((p + y : Nat) : Int) 8 = ((p + y) / 8 : Nat) := by rw [Int.tdiv_eq_ediv_of_nonneg (by omega)]; omega
  have hmd : Int.tmod ((p + y : Nat) : Int) 8 = ((p + y) % 8 : Nat) := by rw [Int.tmod_eq_emod_of_nonneg (by omega)]; omega
  have hy32 : rdB b p y < 4294967296 := by
    have h1 := rdB_lt b p y
    have h2 := Nat.pow_le_pow_right (n := 2) (by omega) (show y ≤ 32 by omega)
    omega
  rw [hd, hmd]
  refine ok_ck (by omega) (ok_ar (by omega) (ok_bd (R := fun r => r.1 = bitN b (p + y)) ?_ ?_))
  · refine ok_ite (fun hin => ?_) fun hout => ok_some ?_
    · refine ok_ck (by omega) (ok_ar (by omega) (ok_ck ⟨by omega, hin⟩ (ok_lv' fun x31 e31 => ?_)))
      have hx := hb.gt ((p + y) / 8 : Nat) (by omega)
      rw [← e31] at hx
      obtain ⟨x, rfl⟩ := Int.eq_ofNat_of_zero_le hx.1
      refine ok_ar (by omega) (ok_ck (by omega) (ok_lv (ok_ar' (by omega) fun x38 e38 => ?_)))
      have e38 : x38 = ((7 - (p + y) % 8 : Nat) : Int) := by omega
      subst e38
      rw [shr_nat (by have : IntKind.i64.bits = 64 := rfl; omega)]
      refine ok_ck (by omega) (ok_lv (ok_lv (ok_some ?_)))
      have hle : x / 2 ^ (7 - (p + y) % 8) ≤ x := Nat.div_le_self _ _
      rw [bAnd1_i64 (by omega)]
      unfold bitN
      rw [← e31, Int.toNat_natCast]
    · rw [bitN_out (by omega)]; rfl
  · rintro ⟨bit, o2⟩ hbit
    simp only at hbit
    have hb2 := bitN_lt b (p + y)
    refine ok_ck (by omega) (ok_lv (ok_lv (ok_ar (by omega) (ok_ar (by omega) (ok_some ⟨⟨y + 1, by simp only; omega, by omega, ?_, by simp only; omega⟩, by simp only; omega⟩)))))
    simp only
    rw [shl1_i64 (by omega), hbit, bOr2 (by omega) hb2]; rfl
/-! ### The writer -/
/-- A writer that holds L bits. -/
structure Wr (b : List Int) (left : Int) (L : Nat) : Prop where
  bytes : Bytes b
  eq : left = 8 * b.length - L
  lo : 0 ≤ left
  hi : left < 8
  zero : ∀ p, L ≤ p → bitN b p = 0
theorem Wr.nil : Wr [] 0 0 := ⟨fun x hx => by simp at hx, rfl, by omega, by omega, fun p _ => bitN_out (by simp)⟩
theorem low_zero {x k : Nat} (h : ∀ j, j ≤ k → x / 2 ^ j % 2 = 0) : ∀ j, j ≤ k + 1 → x % 2 ^ j = 0
  | 0, _ => Nat.mod_one x
  | j + 1, hj => by
    have h1 := low_zero h j (by omega)
    have h2 := h j (by omega)
    rw [Nat.pow_succ, Nat.mod_mul, h1, h2]; simp
/-- The last byte, with one bit more. -/
theorem bit_set {x k q bit : Nat} (hx : x = 2 ^ (k + 1) * q) (hk : k < 8) (hb : bit < 2) (j : Nat) : (x + bit * 2 ^ k) / 2 ^ j % 2 = if j = k then bit else x / 2 ^ j % 2 := by
  subst hx
  by_cases h1 : j = k
  · subst h1
    rw [if_pos rfl, Nat.pow_succ, Nat.mul_assoc, Nat.mul_comm bit, ← Nat.mul_add, Nat.mul_div_cancel_left _ (Nat.two_pow_pos j)]
    omega
  · rw [if_neg h1]
    by_cases h2 : j < k
    · obtain ⟨d, rfl⟩ : ∃ d, k = j + 1 + d := ⟨k - j - 1, by omega⟩
      have e1 : 2 ^ (j + 1 + d + 1) * q + bit * 2 ^ (j + 1 + d) = 2 ^ j * (2 * (2 ^ (d + 1) * q + bit * 2 ^ d)) := by
        rw [show j + 1 + d + 1 = j + 1 + (d + 1) by omega, Nat.pow_add 2 (j + 1) (d + 1), Nat.pow_add 2 (j + 1) d, Nat.pow_succ 2 j]
        rw [Nat.mul_add, Nat.mul_add]
        congr 1
        · simp only [Nat.mul_assoc]
        · rw [Nat.mul_comm bit]; simp only [Nat.mul_assoc, Nat.mul_comm bit]
      have e2 : 2 ^ (j + 1 + d + 1) * q = 2 ^ j * (2 * (2 ^ (d + 1) * q)) := by
        rw [show j + 1 + d + 1 = j + 1 + (d + 1) by omega, Nat.pow_add 2 (j + 1) (d + 1), Nat.pow_succ 2 j]; simp only [Nat.mul_assoc]
      rw [e1, e2, Nat.mul_div_cancel_left _ (Nat.two_pow_pos j), Nat.mul_div_cancel_left _ (Nat.two_pow_pos j)]
      omega
    · obtain ⟨d, rfl⟩ : ∃ d, j = k + 1 + d := ⟨j - k - 1, by omega⟩
      have hlt : bit * 2 ^ k < 2 ^ (k + 1) := by
        have h3 : bit * 2 ^ k ≤ 1 * 2 ^ k := Nat.mul_le_mul_right _ (by omega)
        have := Nat.two_pow_pos k
        rw [Nat.pow_succ]; omega
      rw [Nat.pow_add 2 (k + 1) d, ← Nat.div_div_eq_div_mul, ← Nat.div_div_eq_div_mul, Nat.mul_add_div (Nat.two_pow_pos _), Nat.div_eq_of_lt hlt, Nat.mul_div_cancel_left _ (Nat.two_pow_pos _), Nat.add_zero]
theorem Wr.step {b : List Int} {left : Int} {L bit : Nat} (hby : Bytes b) (hleft : left = 8 * b.length - L) (lo : 1 ≤ left) (hi : left ≤ 8) (hz : ∀ p, L ≤ p → bitN b p = 0) (hb : bit < 2) :
    ∃ q : Nat, gt b ((b.length : Int) - 1) = ((2 ^ ((left - 1).toNat + 1) * q : Nat) : Int) ∧ 2 ^ ((left - 1).toNat + 1) * q < 256 ∧
    Wr (stt b ((b.length : Int) - 1) ((2 ^ ((left - 1).toNat + 1) * q + bit * 2 ^ (left - 1).toNat : Nat) : Int)) (left - 1) (L + 1) ∧
    bitN (stt b ((b.length : Int) - 1) ((2 ^ ((left - 1).toNat + 1) * q + bit * 2 ^ (left - 1).toNat : Nat) : Int)) L = bit ∧
    ∀ p, p ≠ L → bitN (stt b ((b.length : Int) - 1) ((2 ^ ((left - 1).toNat + 1) * q + bit * 2 ^ (left - 1).toNat : Nat) : Int)) p = bitN b p := by
  obtain ⟨k, hk⟩ : ∃ k : Nat, left = k + 1 := ⟨(left - 1).toNat, by omega⟩
  have hkt : (left - 1).toNat = k := by omega
  rw [hkt]
  have hlen : 1 ≤ b.length := by omega
  obtain ⟨m, hm⟩ : ∃ m, b.length = m + 1 := ⟨b.length - 1, by omega⟩
  have hidx : ((b.length : Int) - 1) = (m : Int) := by omega
  rw [hidx]
  have hx := hby.gt (m : Int) (by omega)
  obtain ⟨x, ex⟩ := Int.eq_ofNat_of_zero_le hx.1
  rw [ex] at hx ⊢
  have hlow : ∀ j, j ≤ k → x / 2 ^ j % 2 = 0 := by
    intro j hj
    have h1 := hz (8 * m + (7 - j)) (by omega)
    unfold bitN at h1
    rw [show (8 * m + (7 - j)) / 8 = m by omega, show 7 - (8 * m + (7 - j)) % 8 = j by omega, ex, Int.toNat_natCast] at h1
    exact h1
  have hmod := low_zero hlow (k + 1) (Nat.le_refl _)
  have hq : x = 2 ^ (k + 1) * (x / 2 ^ (k + 1)) := by
    have := Nat.div_add_mod x (2 ^ (k + 1)); omega
  generalize x / 2 ^ (k + 1) = q at hq
  refine ⟨q, by rw [← hq], by omega, ?_⟩
  rw [← hq]
  have hnew : ∀ p, bitN (stt b (m : Int) ((x + bit * 2 ^ k : Nat) : Int)) p = if p = L then bit else bitN b p := by
    intro p
    by_cases hp : p / 8 = m
    · unfold bitN
      rw [hp, gt_stt _ _ ⟨by omega, by omega⟩ (by omega), if_pos rfl, Int.toNat_natCast, bit_set hq (by omega) hb, ex, Int.toNat_natCast]
      by_cases e : p = L
      · rw [if_pos e, if_pos (by omega)]
      · rw [if_neg e, if_neg (by omega)]
    · unfold bitN
      rw [gt_stt _ _ ⟨by omega, by omega⟩ (by omega), if_neg (by omega), if_neg (by omega)]
  refine ⟨⟨?_, by rw [stt_length]; omega, by omega, by omega, fun p hp => ?_⟩, by rw [hnew, if_pos rfl], fun p hp => by rw [hnew, if_neg hp]⟩
  · intro y hy
    unfold stt at hy
    rcases List.mem_or_eq_of_mem_set hy with h | h
    · exact hby y h
    · subst h
      have hle : bit * 2 ^ k < 2 ^ (k + 1) := by
        have h3 : bit * 2 ^ k ≤ 1 * 2 ^ k := Nat.mul_le_mul_right _ (by omega)
        have := Nat.two_pow_pos k
        rw [Nat.pow_succ]; omega
      have hsum : 2 ^ (k + 1) * (q + 1) ≤ 256 := by
        have hd : 256 = 2 ^ (k + 1) * 2 ^ (7 - k) := by rw [← Nat.pow_add, show k + 1 + (7 - k) = 8 by omega]
        have hx256 : 2 ^ (k + 1) * q < 256 := by omega
        rw [hd] at hx256 ⊢
        exact Nat.mul_le_mul_left _ (Nat.lt_of_mul_lt_mul_left hx256)
      rw [Nat.mul_add, Nat.mul_one] at hsum
      omega
  · rw [hnew, if_neg (by omega)]; exact hz p (by omega)
theorem bitN_app0 (b : List Int) (p : Nat) : bitN (b ++ [0]) p = bitN b p := by
  unfold bitN
  by_cases h : p / 8 < b.length
  · rw [gt_app_l (by omega)]
  · rw [gtOut0 (xs := b) (by omega)]
    by_cases h2 : p / 8 = b.length
    · rw [gt_app_1 (by omega)]
    · rw [gtOut0 (by simp; omega)]
/-- What a number adds to a row of bits. -/
structure Put (b b' : List Int) (L : Nat) (n m : Nat) : Prop where
  old : ∀ p, p < L → bitN b' p = bitN b p
  new : ∀ i, i < m → bitN b' (L + i) = n / 2 ^ (m - 1 - i) % 2
theorem wbits_ok {b : List Int} {left : Int} {L n m : Nat} (h : Wr b left L) (hn : n < 18446744073709551616) (hm : m ≤ 64) (hl : L ≤ 1000000) :
    Ok (P_stream_writer_bits_2 (T_stream_writer.mk b left) n m) (fun r => Wr r.1 r.2 (L + m) ∧ Put b r.1 L n m) := by
  unfold P_stream_writer_bits_2
  refine ok_ar (by omega) (ok_bd (R := fun r => Wr r.1 r.2 (L + m) ∧ Put b r.1 L n m) ?_ fun r hr => ok_some hr)
  refine ok_lp (fun s => ∃ y : Nat, y ≤ m ∧ s.1 = (m : Int) - 1 - y ∧ Wr s.2.1 s.2.2 (L + y) ∧ (∀ p, p < L → bitN s.2.1 p = bitN b p) ∧ ∀ i, i < y → bitN s.2.1 (L + i) = n / 2 ^ (m - 1 - i) % 2) (fun s => (s.1 + 1).toNat)
    ⟨0, by omega, by simp only; omega, h, fun p _ => rfl, fun i hi => by omega⟩ (by simp only; omega) ?_
  rintro ⟨i, b1, l1⟩ ⟨y, hy, hi, hw, h1, h2⟩
  simp only at hi hw h1 h2
  unfold P_stream_writer_bits_2_L1
  dsimp only
  refine ok_ite (fun hlt => ?_) fun hge => ok_some (by rw [show m = y by omega]; exact ⟨hw, ⟨h1, by rw [show y = m by omega] at h2 ⊢; exact h2⟩⟩)
  have hbl : b1.length ≤ 200000 := by have := hw.eq; have := hw.hi; omega
  refine ok_bd (R := fun r => Bytes r.1 ∧ r.2 = 8 * r.1.length - (L + y : Nat) ∧ 1 ≤ r.2 ∧ r.2 ≤ 8 ∧ r.1.length ≤ 200001 ∧ ∀ p, bitN r.1 p = bitN b1 p) ?_ ?_
  · have hlf := hw.eq
    have hlo := hw.lo
    have hhi := hw.hi
    refine ok_ite (fun h0 => ok_lv (ok_ck ?_ (ok_some ⟨?_, ?_, by simp, by simp, ?_, bitN_app0 b1⟩))) fun h0 => ok_some ⟨hw.bytes, hw.eq, by simp only; omega, by simp only; omega, by simp only; omega, fun p => rfl⟩
    · simp only [List.length_append, List.length_singleton]; omega
    · intro x hx
      rcases List.mem_append.1 hx with hx | hx
      · exact hw.bytes x hx
      · simp only [List.mem_singleton] at hx; omega
    · simp only [List.length_append, List.length_singleton]; omega
    · simp only [List.length_append, List.length_singleton]; omega
  rintro ⟨b2, l2⟩ ⟨c1, c2, c3, c4, c5, c6⟩
  simp only at c1 c2 c3 c4 c5 c6
  obtain ⟨bit, hbit⟩ : ∃ bit, bit = n / 2 ^ (m - 1 - y) % 2 := ⟨_, rfl⟩
  have hb2 : bit < 2 := by rw [hbit]; exact Nat.mod_lt _ (by omega)
  obtain ⟨q, g1, g2, g3, g4, g5⟩ := Wr.step (L := L + y) (bit := bit) c1 c2 c3 c4 (fun p hp => by rw [c6]; exact hw.zero p hp) hb2
  have hk8 : (l2 - 1).toNat < 8 := by omega
  have ei : i = ((m - 1 - y : Nat) : Int) := by omega
  dsimp only
  refine ok_ar' (by omega) fun x34 e34 => ok_ar' (by omega) fun x46 e46 => ok_ck ⟨by omega, by omega⟩ (ok_lv' fun x48 e48 => ok_ck hlt (ok_lv' fun x51 e51 => ok_lv' fun x52 e52 => ok_lv' fun x53 e53 => ok_ck (by omega) (ok_lv' fun x58 e58 => ok_lv' fun x59 e59 => ok_ck ⟨by omega, by omega⟩ (ok_lv' fun z ez => ok_ar' (by omega) fun x12 e12 => ok_some ?_))))
  have hle : n / 2 ^ (m - 1 - y) ≤ n := Nat.div_le_self _ _
  rw [ei, shr_nat (by have : IntKind.u64.bits = 64 := rfl; omega)] at e51
  rw [e51, bAnd1_u64 (by omega), ← hbit] at e52
  have e53' : x53 = (bit : Int) := by omega
  have e34' : x34 = (((l2 - 1).toNat : Nat) : Int) := by omega
  rw [e53', e34', shl_u8 hb2 hk8] at e58
  rw [e46, g1] at e48
  rw [e48, e58, bOr_u8 hk8 g2 hb2] at e59
  rw [e46, e59] at ez
  rw [← ez] at g3 g4 g5
  refine ⟨⟨y + 1, by omega, by simp only; omega, ?_, fun p hp => ?_, fun j hj => ?_⟩, by simp only; omega⟩
  · rw [e34]; exact g3
  · simp only; rw [g5 p (by omega), c6]; exact h1 p hp
  · simp only
    by_cases e : j = y
    · subst e; rw [g4, hbit]
    · rw [g5 _ (by omega), c6]; exact h2 j (by omega)
end Go.Proofs.Ytnooiajahmichaa.X
