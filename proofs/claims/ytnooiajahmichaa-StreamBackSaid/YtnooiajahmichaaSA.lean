/- Bits of bytes, and the checksum: numbers alone. -/
import Derived.Test.YtnooiajahmichaaYQ
import Derived.Test.YtnooiajahmichaaGS
namespace Go.Proofs.Ytnooiajahmichaa.X
open Go Go.RowKit
set_option linter.unusedVariables false
set_option linter.unusedSimpArgs false
set_option linter.unnecessarySimpa false
/-! ### Go's operations on bits, at numbers that fit -/
theorem ofInt_nat (w m : Nat) : BitVec.ofInt w (m : Int) = BitVec.ofNat w m := by
  apply BitVec.eq_of_toNat_eq; simp [BitVec.toNat_ofNat]
theorem wrap_u8 {m : Nat} (h : m < 256) : IntKind.u8.wrap (m : Int) = m := by rw [show IntKind.u8.wrap (m : Int) = (m : Int) % 256 from wm_u8 _]; omega
theorem wrap_u16 {m : Nat} (h : m < 65536) : IntKind.u16.wrap (m : Int) = m := by rw [show IntKind.u16.wrap (m : Int) = (m : Int) % 65536 from wm_u16 _]; omega
theorem wrap_u64 {m : Nat} (h : m < 18446744073709551616) : IntKind.u64.wrap (m : Int) = m := by rw [show IntKind.u64.wrap (m : Int) = (m : Int) % 18446744073709551616 from wm_u64 _]; omega
theorem bAnd1_i64 {m : Nat} (h : m < 9223372036854775808) : bAnd .i64 (m : Int) 1 = (m % 2 : Nat) := by
  unfold bAnd
  rw [ofInt_nat, show (1 : Int) = ((1 : Nat) : Int) from rfl, ofInt_nat]
  rw [show IntKind.i64.bits = 64 from rfl, BitVec.toNat_and, BitVec.toNat_ofNat, BitVec.toNat_ofNat, Nat.mod_eq_of_lt (by omega), show (1 : Nat) % 2 ^ 64 = 1 from rfl, Nat.and_one_is_mod]
  exact wrap_i64 ⟨by omega, by omega⟩
theorem bAnd1_u64 {m : Nat} (h : m < 18446744073709551616) : bAnd .u64 (m : Int) 1 = (m % 2 : Nat) := by
  unfold bAnd
  rw [ofInt_nat, show (1 : Int) = ((1 : Nat) : Int) from rfl, ofInt_nat]
  rw [show IntKind.u64.bits = 64 from rfl, BitVec.toNat_and, BitVec.toNat_ofNat, BitVec.toNat_ofNat, Nat.mod_eq_of_lt (by omega), show (1 : Nat) % 2 ^ 64 = 1 from rfl, Nat.and_one_is_mod]
  exact wrap_u64 (by omega)
theorem bAnd1_u8 {m : Nat} (h : m < 256) : bAnd .u8 (m : Int) 1 = (m % 2 : Nat) := by
  unfold bAnd
  rw [ofInt_nat, show (1 : Int) = ((1 : Nat) : Int) from rfl, ofInt_nat]
  rw [show IntKind.u8.bits = 8 from rfl, BitVec.toNat_and, BitVec.toNat_ofNat, BitVec.toNat_ofNat, Nat.mod_eq_of_lt (by omega), show (1 : Nat) % 2 ^ 8 = 1 from rfl, Nat.and_one_is_mod]
  exact wrap_u8 (by omega)
theorem bOr2 {a b : Nat} (ha : a < 2305843009213693952) (hb : b < 2) : bOr .i64 (2 * a : Nat) (b : Int) = (2 * a + b : Nat) := by
  unfold bOr
  rw [ofInt_nat, ofInt_nat]
  rw [show IntKind.i64.bits = 64 from rfl, BitVec.toNat_or, BitVec.toNat_ofNat, BitVec.toNat_ofNat, Nat.mod_eq_of_lt (by omega), Nat.mod_eq_of_lt (by omega)]
  have := Nat.two_pow_add_eq_or_of_lt (i := 1) (b := b) (by omega) a
  rw [show 2 ^ 1 * a = 2 * a from rfl] at this
  rw [← this]
  exact wrap_i64 ⟨by omega, by omega⟩
theorem bOr_u8 {k q b : Nat} (hk : k < 8) (hq : 2 ^ (k + 1) * q < 256) (hb : b < 2) : bOr .u8 (2 ^ (k + 1) * q : Nat) (b * 2 ^ k : Nat) = (2 ^ (k + 1) * q + b * 2 ^ k : Nat) := by
  have hlt : b * 2 ^ k < 2 ^ (k + 1) := by
    have : b * 2 ^ k ≤ 1 * 2 ^ k := Nat.mul_le_mul_right _ (by omega)
    have h2 : 0 < 2 ^ k := Nat.two_pow_pos k
    rw [Nat.pow_succ]; omega
  have hle : 2 ^ (k + 1) ≤ 256 := by
    have := Nat.pow_le_pow_right (n := 2) (by omega) (show k + 1 ≤ 8 by omega); omega
  have hsum : 2 ^ (k + 1) * q + b * 2 ^ k < 256 := by
    have h1 : 2 ^ (k + 1) * (q + 1) ≤ 256 := by
      have hd : 256 = 2 ^ (k + 1) * 2 ^ (7 - k) := by rw [← Nat.pow_add, show k + 1 + (7 - k) = 8 by omega]
      rw [hd] at hq ⊢
      have := Nat.lt_of_mul_lt_mul_left hq
      exact Nat.mul_le_mul_left _ this
    rw [Nat.mul_add, Nat.mul_one] at h1; omega
  unfold bOr
  rw [ofInt_nat, ofInt_nat]
  rw [show IntKind.u8.bits = 8 from rfl, BitVec.toNat_or, BitVec.toNat_ofNat, BitVec.toNat_ofNat, Nat.mod_eq_of_lt (by omega), Nat.mod_eq_of_lt (by omega)]
  rw [← Nat.two_pow_add_eq_or_of_lt (i := k + 1) hlt q]
  exact wrap_u8 hsum
theorem shr_nat {k : IntKind} {m j : Nat} (hj : j ≤ k.bits) : shr k (m : Int) (j : Int) = (m / 2 ^ j : Nat) := by
  unfold shr
  rw [Int.toNat_natCast, Nat.min_eq_left hj, show ((2 : Int) ^ j) = ((2 ^ j : Nat) : Int) by simp]
  rw [Int.fdiv_eq_ediv_of_nonneg _ (Int.natCast_nonneg _)]; rfl
theorem shl1_i64 {m : Nat} (h : m < 2305843009213693952) : shl .i64 (m : Int) 1 = (2 * m : Nat) := by
  unfold shl
  rw [show (min (1 : Int).toNat IntKind.i64.bits) = 1 from rfl, Int.pow_succ, Int.pow_zero]
  rw [show (m : Int) * (1 * 2) = ((2 * m : Nat) : Int) by omega]
  exact wrap_i64 ⟨by omega, by omega⟩
theorem shl_u8 {b k : Nat} (hb : b < 2) (hk : k < 8) : shl .u8 (b : Int) (k : Int) = (b * 2 ^ k : Nat) := by
  unfold shl
  rw [Int.toNat_natCast, Nat.min_eq_left (by have : IntKind.u8.bits = 8 := rfl; omega), show (b : Int) * 2 ^ k = ((b * 2 ^ k : Nat) : Int) by simp]
  refine wrap_u8 ?_
  have : b * 2 ^ k ≤ 1 * 2 ^ 7 := Nat.mul_le_mul (by omega) (Nat.pow_le_pow_right (by omega) (by omega))
  omega
/-! ### The checksum -/
def sh1 (m : Nat) : Nat := if m < 32768 then 2 * m else (2 * (m - 32768)) ^^^ 4129
theorem sh1_lt {m : Nat} (h : m < 65536) : sh1 m < 65536 := by
  unfold sh1
  split
  · omega
  · exact Nat.xor_lt_two_pow (n := 16) (by omega) (by omega)
theorem xor_odd (a : Nat) : ((2 * a) ^^^ 4129) % 2 = 1 := by
  have : ((2 * a) ^^^ 4129).testBit 0 = true := by rw [Nat.testBit_xor]; simp [Nat.testBit_zero]
  rw [Nat.testBit_zero] at this
  simpa using this
theorem xor_inj {a b c : Nat} (h : a ^^^ c = b ^^^ c) : a = b := by
  have : (a ^^^ c) ^^^ c = (b ^^^ c) ^^^ c := by rw [h]
  simpa [Nat.xor_assoc] using this
theorem sh1_inj {a b : Nat} (ha : a < 65536) (hb : b < 65536) (h : sh1 a = sh1 b) : a = b := by
  unfold sh1 at h
  split at h <;> split at h
  · omega
  · have := xor_odd (b - 32768); omega
  · have := xor_odd (a - 32768); omega
  · have := xor_inj h; omega
def shN : Nat → Nat → Nat
  | 0, m => m
  | k + 1, m => shN k (sh1 m)
theorem shN_lt : ∀ (k : Nat) {m : Nat}, m < 65536 → shN k m < 65536
  | 0, _, h => h
  | k + 1, _, h => shN_lt k (sh1_lt h)
theorem shN_inj : ∀ (k : Nat) {a b : Nat}, a < 65536 → b < 65536 → shN k a = shN k b → a = b
  | 0, _, _, _, _, h => h
  | k + 1, _, _, ha, hb, h => sh1_inj ha hb (shN_inj k (sh1_lt ha) (sh1_lt hb) h)
def crcB (r x : Nat) : Nat := shN 8 (r ^^^ (256 * x))
theorem crcB_lt {r x : Nat} (hr : r < 65536) (hx : x < 256) : crcB r x < 65536 := shN_lt 8 (Nat.xor_lt_two_pow (n := 16) (by omega) (by omega))
theorem crcB_inj {r s x : Nat} (hr : r < 65536) (hs : s < 65536) (hx : x < 256) (h : crcB r x = crcB s x) : r = s :=
  xor_inj (shN_inj 8 (Nat.xor_lt_two_pow (n := 16) (by omega) (by omega)) (Nat.xor_lt_two_pow (n := 16) (by omega) (by omega)) h)
theorem crcB_inj2 {r x y : Nat} (hr : r < 65536) (hx : x < 256) (hy : y < 256) (h : crcB r x = crcB r y) : x = y := by
  have := shN_inj 8 (Nat.xor_lt_two_pow (n := 16) (by omega) (by omega)) (Nat.xor_lt_two_pow (n := 16) (by omega) (by omega)) h
  rw [Nat.xor_comm r, Nat.xor_comm r] at this
  have := xor_inj this; omega
/-- Bytes. -/
def Bytes (xs : List Int) : Prop := ∀ x ∈ xs, 0 ≤ x ∧ x < 256
def crcF (r : Nat) (xs : List Int) : Nat := xs.foldl (fun r x => crcB r x.toNat) r
def crc (xs : List Int) : Nat := crcF 65535 xs
attribute [irreducible] crcB
theorem crcF_cons (r : Nat) (x : Int) (xs : List Int) : crcF r (x :: xs) = crcF (crcB r x.toNat) xs := by unfold crcF; rw [List.foldl_cons]
theorem crcF_lt {xs : List Int} {r : Nat} (hb : Bytes xs) (h : r < 65536) : crcF r xs < 65536 := by
  induction xs generalizing r with
  | nil => unfold crcF; exact h
  | cons x xs ih =>
    have hx := hb x List.mem_cons_self
    rw [crcF_cons]
    exact ih (fun y hy => hb y (List.mem_cons_of_mem _ hy)) (crcB_lt h (by omega))
theorem crc_lt {xs : List Int} (h : Bytes xs) : crc xs < 65536 := crcF_lt h (by omega)
theorem crcF_inj {xs : List Int} {r s : Nat} (hb : Bytes xs) (hr : r < 65536) (hs : s < 65536) (h : crcF r xs = crcF s xs) : r = s := by
  induction xs generalizing r s with
  | nil => unfold crcF at h; exact h
  | cons x xs ih =>
    have hx := hb x List.mem_cons_self
    rw [crcF_cons, crcF_cons] at h
    exact crcB_inj hr hs (by omega) (ih (fun y hy => hb y (List.mem_cons_of_mem _ hy)) (crcB_lt hr (by omega)) (crcB_lt hs (by omega)) h)
/-- One byte that is changed is noticed. -/
theorem crc_notice {pre post : List Int} {x y : Int} (h1 : Bytes pre) (h2 : Bytes post) (hx : 0 ≤ x ∧ x < 256) (hy : 0 ≤ y ∧ y < 256) (h : crc (pre ++ x :: post) = crc (pre ++ y :: post)) : x = y := by
  unfold crc crcF at h
  rw [List.foldl_append, List.foldl_append, List.foldl_cons, List.foldl_cons] at h
  have hp : crcF 65535 pre < 65536 := crcF_lt h1 (by omega)
  have := crcF_inj h2 (crcB_lt hp (by omega)) (crcB_lt hp (by omega)) h
  have := crcB_inj2 hp (by omega) (by omega) this
  omega
theorem and_high : ((List.range 65536).all fun m => Nat.beq (m &&& 32768) (if m < 32768 then 0 else 32768)) = true := by decide +kernel
theorem bAnd_u16 {m : Nat} (h : m < 65536) : bAnd .u16 (m : Int) 32768 = if m < 32768 then 0 else 32768 := by
  unfold bAnd
  rw [ofInt_nat, show (32768 : Int) = ((32768 : Nat) : Int) from rfl, ofInt_nat]
  rw [show IntKind.u16.bits = 16 from rfl, BitVec.toNat_and, BitVec.toNat_ofNat, BitVec.toNat_ofNat, Nat.mod_eq_of_lt (by omega), show (32768 : Nat) % 2 ^ 16 = 32768 from rfl]
  have := List.all_eq_true.1 and_high m (List.mem_range.2 h)
  rw [Nat.eq_of_beq_eq_true this]
  split
  · rfl
  · rfl
theorem shl1_u16 {m : Nat} (h : m < 65536) : shl .u16 (m : Int) 1 = (if m < 32768 then 2 * m else 2 * (m - 32768) : Nat) := by
  unfold shl
  rw [show (min (1 : Int).toNat IntKind.u16.bits) = 1 from rfl, Int.pow_succ, Int.pow_zero, show IntKind.u16.wrap ((m : Int) * (1 * 2)) = ((m : Int) * (1 * 2)) % 65536 from wm_u16 _]
  split <;> omega
theorem bXor_u16 {a b : Nat} (ha : a < 65536) (hb : b < 65536) : bXor .u16 (a : Int) (b : Int) = (a ^^^ b : Nat) := by
  unfold bXor
  rw [ofInt_nat, ofInt_nat]
  rw [show IntKind.u16.bits = 16 from rfl, BitVec.toNat_xor, BitVec.toNat_ofNat, BitVec.toNat_ofNat, Nat.mod_eq_of_lt (by omega), Nat.mod_eq_of_lt (by omega)]
  exact wrap_u16 (Nat.xor_lt_two_pow (n := 16) (by omega) (by omega))
theorem bXor_u8 {a b : Nat} (ha : a < 256) (hb : b < 256) : bXor .u8 (a : Int) (b : Int) = (a ^^^ b : Nat) := by
  unfold bXor
  rw [ofInt_nat, ofInt_nat]
  rw [show IntKind.u8.bits = 8 from rfl, BitVec.toNat_xor, BitVec.toNat_ofNat, BitVec.toNat_ofNat, Nat.mod_eq_of_lt (by omega), Nat.mod_eq_of_lt (by omega)]
  exact wrap_u8 (Nat.xor_lt_two_pow (n := 8) (by omega) (by omega))
theorem shl8_u16 {m : Nat} (h : m < 256) : shl .u16 (m : Int) 8 = (256 * m : Nat) := by
  unfold shl
  rw [show (min (8 : Int).toNat IntKind.u16.bits) = 8 from rfl, show ((2 : Int) ^ 8) = 256 from rfl, show IntKind.u16.wrap ((m : Int) * 256) = ((m : Int) * 256) % 65536 from wm_u16 _]
  omega
theorem Sum_ok {xs : List Int} (hb : Bytes xs) (hl : xs.length ≤ 1000000) : Ok (P_stream_Sum xs) (fun r => r = crc xs) := by
  unfold P_stream_Sum
  refine ok_bd (R := fun r => r = crc xs) ?_ fun r hr => ok_some hr
  refine ok_lp (fun s => ∃ y r : Nat, s.2 = y ∧ s.1 = r ∧ y ≤ xs.length ∧ r = crcF 65535 (xs.take y)) (fun s => ((xs.length : Int) - s.2).toNat) ⟨0, 65535, rfl, rfl, by omega, rfl⟩ (by simp only; omega) ?_
  rintro ⟨_, _⟩ ⟨y, r, rfl, rfl, hy, hr⟩
  unfold P_stream_Sum_L3
  dsimp only
  have htk : Bytes (xs.take y) := fun x hx => hb x (List.mem_of_mem_take hx)
  have hr16 : r < 65536 := by rw [hr]; exact crcF_lt htk (by omega)
  refine ok_ite (fun hlt => ok_ck ⟨by omega, hlt⟩ (ok_lv' fun x11 e11 => ?_)) fun hge => ok_some (by rw [hr, show y = xs.length by omega, List.take_length]; rfl)
  have hx := hb x11 (by rw [e11]; exact gt_mem ⟨by omega, hlt⟩)
  obtain ⟨x, rfl⟩ := Int.eq_ofNat_of_zero_le hx.1
  have hx2 : x < 256 := by omega
  have em : (x : Int) % 65536 = x := by omega
  refine ok_lv' fun x14 e14 => ok_ck (by omega) (ok_lv' fun x15 e15 => ok_lv' fun x16 e16 => ?_)
  rw [e14, em, shl8_u16 hx2] at e15
  rw [e15, bXor_u16 hr16 (by omega)] at e16
  have hx16 : r ^^^ (256 * x) < 65536 := Nat.xor_lt_two_pow (n := 16) (by omega) (by omega)
  refine ok_bd (R := fun o => o = ((shN 8 (r ^^^ (256 * x)) : Nat) : Int)) ?_ ?_
  · rw [e16]
    generalize r ^^^ (256 * x) = m0 at hx16
    refine ok_lp (fun s => ∃ y m : Nat, s.2 = y ∧ s.1 = m ∧ y ≤ 8 ∧ m < 65536 ∧ shN (8 - y) m = shN 8 m0) (fun s => (8 - s.2).toNat) ⟨0, m0, rfl, rfl, by omega, hx16, rfl⟩ (by simp only; omega) ?_
    rintro ⟨_, _⟩ ⟨y, m, rfl, rfl, hy, hm, he⟩
    unfold P_stream_Sum_L7
    dsimp only
    rw [bAnd_u16 hm]
    refine ok_ite (fun hlt => ok_lv' fun x20 e20 => ok_bd (R := fun o => o = ((sh1 m : Nat) : Int)) ?_ ?_) fun hge => ok_some (by rw [show 8 - y = 0 by omega] at he; rw [← he]; rfl)
    · rw [shl1_u16 hm]
      unfold sh1
      by_cases h32 : m < 32768
      · rw [if_pos h32] at e20
        rw [if_pos h32, if_pos h32]
        exact ok_f (by omega) (ok_ck (by omega) (ok_lv (ok_some rfl)))
      · rw [if_neg h32] at e20
        rw [if_neg h32, if_neg h32]
        refine ok_t (by omega) (ok_ck (by omega) (ok_lv (ok_lv (ok_some ?_))))
        exact bXor_u16 (b := 4129) (by omega) (by omega)
    · rintro _ rfl
      refine ok_ar' (by omega) fun z ez => ok_some ⟨⟨y + 1, sh1 m, by simp only; omega, rfl, by omega, sh1_lt hm, ?_⟩, by simp only; omega⟩
      rw [← he, show 8 - y = (8 - (y + 1)) + 1 by omega]; rfl
  · rintro _ rfl
    refine ok_ar' (by omega) fun z ez => ok_some ⟨⟨y + 1, _, by simp only; omega, rfl, by omega, ?_⟩, by simp only; omega⟩
    have hy1 : y < xs.length := by omega
    rw [List.take_add_one, List.getElem?_eq_getElem hy1]
    unfold crcF
    rw [List.foldl_append]
    simp only [Option.toList_some, List.foldl_cons, List.foldl_nil]
    have hg : gt xs (y : Int) = xs[y] := by rw [gt_get ⟨by omega, hlt⟩]; rfl
    rw [← hg, ← e11, Int.toNat_natCast]
    have : List.foldl (fun r x => crcB r x.toNat) 65535 (List.take y xs) = r := hr.symm
    rw [this]; unfold crcB; rfl
end Go.Proofs.Ytnooiajahmichaa.X
