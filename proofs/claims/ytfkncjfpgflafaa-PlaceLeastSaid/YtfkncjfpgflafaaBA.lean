/- Long numbers: digits and their values; shifts and ors of words. Plain. -/
/- Long numbers: sums, differences, comparison. Plain. -/
/- Long numbers: products, division by a digit, bits, shifts. Plain. -/
/- Long numbers: long division. Plain. -/
/- Long numbers: long division, its loops. Plain. -/
/- Long numbers: quotients, divisors, fractions. Plain. -/
import Derived.Test.YtfkncjfpgflafaaYQ
import Derived.Test.YtfkncjfpgflafaaYJ
import Derived.Test.YtfkncjfpgflafaaDA
import Derived.Test.YtfkncjfpgflafaaPZ
namespace Go.Proofs.Ytfkncjfpgflafaa.X
open Go Go.RowKit
set_option linter.unusedVariables false
set_option linter.unusedSimpArgs false
/-! ### Words -/
theorem wrapU64 {n : Int} : IntKind.u64.wrap n = n % 18446744073709551616 := by simp [IntKind.wrap, IntKind.signed, IntKind.bits]
theorem wrapU32 {n : Int} : IntKind.u32.wrap n = n % 4294967296 := by simp [IntKind.wrap, IntKind.signed, IntKind.bits]
theorem shr_u64_32 (x : Int) : shr .u64 x 32 = x / 4294967296 := by
 show x.fdiv (2 ^ 32) = _
 rw [Int.fdiv_eq_ediv_of_nonneg _ (by decide)]; rfl
theorem shr_i64_32 (x : Int) : shr .i64 x 32 = x / 4294967296 := by
 show x.fdiv (2 ^ 32) = _
 rw [Int.fdiv_eq_ediv_of_nonneg _ (by decide)]; rfl
theorem pow_cast (k : Nat) : ((2 : Int) ^ k) = ((2 ^ k : Nat) : Int) := by simp
theorem shr_u32_k {x : Int} {k : Nat} (hk : k ≤ 32) : shr .u32 x (k : Int) = x / 2 ^ k := by
 unfold shr
 rw [Int.toNat_natCast, Nat.min_eq_left (show k ≤ IntKind.u32.bits from hk), Int.fdiv_eq_ediv_of_nonneg _ (by rw [pow_cast]; exact Int.natCast_nonneg _)]
theorem shr_u64_k {x : Int} {k : Nat} (hk : k ≤ 64) : shr .u64 x (k : Int) = x / 2 ^ k := by
 unfold shr
 rw [Int.toNat_natCast, Nat.min_eq_left (show k ≤ IntKind.u64.bits from hk), Int.fdiv_eq_ediv_of_nonneg _ (by rw [pow_cast]; exact Int.natCast_nonneg _)]
theorem shl_u64_32 (x : Int) : shl .u64 x 32 = (x * 4294967296) % 18446744073709551616 := by
 show IntKind.u64.wrap (x * 2 ^ 32) = _
 rw [wrapU64]; rfl
theorem shl_u32_k {x : Int} {k : Nat} (hk : k ≤ 32) : shl .u32 x (k : Int) = (x * 2 ^ k) % 4294967296 := by
 unfold shl
 rw [Int.toNat_natCast, Nat.min_eq_left (show k ≤ IntKind.u32.bits from hk), wrapU32]
theorem shl_u64_k {x : Int} {k : Nat} (hk : k ≤ 64) : shl .u64 x (k : Int) = (x * 2 ^ k) % 18446744073709551616 := by
 unfold shl
 rw [Int.toNat_natCast, Nat.min_eq_left (show k ≤ IntKind.u64.bits from hk), wrapU64]
theorem ofInt_cast (w m : Nat) : BitVec.ofInt w (m : Int) = BitVec.ofNat w m := by
 apply BitVec.eq_of_toNat_eq
 simp
theorem bOr_u64 {a b m : Nat} (hb : b < 2 ^ m) (hs : 2 ^ m * a + b < 18446744073709551616) : bOr .u64 ((2 ^ m * a : Nat) : Int) (b : Int) = ((2 ^ m * a + b : Nat) : Int) := by
 unfold bOr
 rw [ofInt_cast, ofInt_cast, show IntKind.u64.bits = 64 from rfl, BitVec.toNat_or, BitVec.toNat_ofNat, BitVec.toNat_ofNat, Nat.mod_eq_of_lt (by omega), Nat.mod_eq_of_lt (by omega), ← Nat.two_pow_add_eq_or_of_lt hb a, wrapU64]
 omega
theorem bOr_u32 {a b m : Nat} (hb : b < 2 ^ m) (hs : 2 ^ m * a + b < 4294967296) : bOr .u32 (b : Int) ((2 ^ m * a : Nat) : Int) = ((2 ^ m * a + b : Nat) : Int) := by
 unfold bOr
 rw [ofInt_cast, ofInt_cast, show IntKind.u32.bits = 32 from rfl, BitVec.toNat_or, BitVec.toNat_ofNat, BitVec.toNat_ofNat, Nat.mod_eq_of_lt (by omega), Nat.mod_eq_of_lt (by omega), Nat.or_comm, ← Nat.two_pow_add_eq_or_of_lt hb a, wrapU32]
 omega
/-- Two digits in a word. -/
theorem or_hi {a b : Int} (ha : 0 ≤ a ∧ a < 4294967296) (hb : 0 ≤ b ∧ b < 4294967296) : bOr .u64 (shl .u64 a 32) b = a * 4294967296 + b := by
 rw [shl_u64_32, Int.emod_eq_of_lt (by omega) (by omega)]
 obtain ⟨a, rfl⟩ := Int.eq_ofNat_of_zero_le ha.1
 obtain ⟨b, rfl⟩ := Int.eq_ofNat_of_zero_le hb.1
 have h := bOr_u64 (a := a) (b := b) (m := 32) (by omega) (by omega)
 rw [show ((a : Int) * 4294967296) = ((2 ^ 32 * a : Nat) : Int) by omega, h]; omega
/-- The low bits and the high bits of a digit. -/
theorem or_lo {a b : Int} {m : Nat} (hb : 0 ≤ b ∧ b < 2 ^ m) (ha : 0 ≤ a) (hs : a * 2 ^ m + b < 4294967296) : bOr .u32 b (a * 2 ^ m) = a * 2 ^ m + b := by
 obtain ⟨a, rfl⟩ := Int.eq_ofNat_of_zero_le ha
 obtain ⟨b, rfl⟩ := Int.eq_ofNat_of_zero_le hb.1
 rw [pow_cast] at hb hs ⊢
 have e : (a : Int) * ((2 ^ m : Nat) : Int) = ((2 ^ m * a : Nat) : Int) := by rw [Int.natCast_mul, Int.mul_comm]
 rw [e] at hs ⊢
 have h := bOr_u32 (a := a) (b := b) (m := m) (by omega) (by omega)
 rw [h]; omega
/-! ### Digits -/
/-- All places hold digits. -/
def Dg (xs : List Int) : Prop := ∀ i : Int, 0 ≤ gt xs i ∧ gt xs i < 4294967296
/-- The value of the first n places. -/
def V (xs : List Int) (n : Nat) : Int := sm n fun j => gt xs (j : Int) * 4294967296 ^ j
def val (xs : List Int) : Int := V xs xs.length
theorem V_zero (xs : List Int) : V xs 0 = 0 := rfl
theorem V_succ (xs : List Int) (n : Nat) : V xs (n + 1) = V xs n + gt xs (n : Int) * 4294967296 ^ n := rfl
theorem V_cut (xs : List Int) {i : Int} (h0 : 0 ≤ i) : V xs (i + 1).toNat = V xs i.toNat + gt xs i * 4294967296 ^ i.toNat := by
 obtain ⟨k, rfl⟩ := Int.eq_ofNat_of_zero_le h0
 rw [show ((k : Int) + 1).toNat = k + 1 by omega, Int.toNat_natCast, V_succ]
theorem gt_past {xs : List Int} {i : Int} (h0 : 0 ≤ i) (h : (xs.length : Int) ≤ i) : gt xs i = 0 := by
 unfold gt
 rw [List.getD_eq_getElem?_getD, List.getElem?_eq_none (by omega)]; rfl
theorem V_ge {xs : List Int} {n : Nat} (h : xs.length ≤ n) : V xs n = val xs := by
 obtain ⟨d, rfl⟩ : ∃ d, n = xs.length + d := ⟨n - xs.length, by omega⟩
 induction d with
 | zero => rfl
 | succ d ih => rw [← Nat.add_assoc, V_succ, ih (by omega), gt_past (by omega) (by omega)]; omega
theorem V_congr {xs ys : List Int} {n : Nat} (h : ∀ j : Nat, j < n → gt xs (j : Int) = gt ys (j : Int)) : V xs n = V ys n := sm_congr fun j hj => by rw [h j hj]
theorem powB (n : Nat) : (0 : Int) < 4294967296 ^ n := Int.pow_pos (by decide)
theorem powB_succ (n : Nat) : (4294967296 : Int) ^ (n + 1) = 4294967296 ^ n * 4294967296 := Int.pow_succ _ _
theorem powB_add (n m : Nat) : (4294967296 : Int) ^ (n + m) = 4294967296 ^ n * 4294967296 ^ m := Int.pow_add _ _ _
theorem V_bound {xs : List Int} (h : Dg xs) (n : Nat) : 0 ≤ V xs n ∧ V xs n < 4294967296 ^ n := by
 induction n with
 | zero => rw [V_zero]; exact ⟨Int.le_refl _, by decide⟩
 | succ n ih =>
  obtain ⟨a, b⟩ := h (n : Int)
  have p := powB n
  rw [V_succ, powB_succ]
  have h1 : 0 ≤ gt xs (n : Int) * 4294967296 ^ n := Int.mul_nonneg a (by omega)
  have h2 : gt xs (n : Int) * 4294967296 ^ n ≤ 4294967295 * 4294967296 ^ n := Int.mul_le_mul_of_nonneg_right (by omega) (by omega)
  have h3 : (4294967296 : Int) ^ n * 4294967296 = 4294967295 * 4294967296 ^ n + 4294967296 ^ n := by grind
  omega
theorem val_bound {xs : List Int} (h : Dg xs) : 0 ≤ val xs ∧ val xs < 4294967296 ^ xs.length := V_bound h _
theorem V_mono {xs : List Int} (h : Dg xs) {n m : Nat} (hnm : n ≤ m) : V xs n ≤ V xs m := by
 obtain ⟨d, rfl⟩ : ∃ d, m = n + d := ⟨m - n, by omega⟩
 clear hnm
 induction d with
 | zero => exact Int.le_refl _
 | succ d ih =>
  have h1 : 0 ≤ gt xs ((n + d : Nat) : Int) * 4294967296 ^ (n + d) := Int.mul_nonneg (h _).1 (Int.le_of_lt (powB _))
  rw [← Nat.add_assoc, V_succ]; omega
theorem Dg_stt {xs : List Int} (h : Dg xs) {i x : Int} (hi : inb i xs.length) (hx : 0 ≤ x ∧ x < 4294967296) : Dg (stt xs i x) := by
 intro j
 by_cases hj : 0 ≤ j
 ·rw [gt_stt xs x hi hj]
  split
  ·exact hx
  ·exact h j
 ·have e : gt (stt xs i x) j = gt (stt xs i x) 0 := by unfold gt; rw [show j.toNat = 0 by omega]; rfl
  rw [e, gt_stt xs x hi (Int.le_refl 0)]
  split
  ·exact hx
  ·exact h 0
theorem V_stt {xs : List Int} {i x : Int} (hi : inb i xs.length) (n : Nat) : V (stt xs i x) n = V xs n + (if i.toNat < n then (x - gt xs i) * 4294967296 ^ i.toNat else 0) := by
 have h0 := hi.1
 induction n with
 | zero => simp [V_zero]
 | succ n ih =>
  rw [V_succ, V_succ, ih, gt_stt xs x hi (by omega)]
  by_cases h1 : i.toNat < n
  ·rw [if_pos h1, if_neg (by omega), if_pos (by omega)]; omega
  ·by_cases h2 : i.toNat = n
   ·rw [if_neg h1, if_pos (by omega), if_pos (by omega)]
    have e : i = (n : Int) := by omega
    subst e
    rw [Int.toNat_natCast]
    grind
   ·rw [if_neg h1, if_neg (by omega), if_neg (by omega)]; omega
theorem val_stt {xs : List Int} {i x : Int} (hi : inb i xs.length) : val (stt xs i x) = val xs + (x - gt xs i) * 4294967296 ^ i.toNat := by
 have h0 := hi.2
 unfold val
 rw [stt_length, V_stt hi, if_pos (by have := hi.1; omega)]
theorem gt_replicate (n : Nat) (i : Int) : gt (List.replicate n (0 : Int)) i = 0 := by
 unfold gt
 rw [List.getD_eq_getElem?_getD]
 by_cases h : i.toNat < n
 ·rw [List.getElem?_eq_getElem (by simpa using h)]; simp
 ·rw [List.getElem?_eq_none (by simpa using h)]; rfl
theorem Dg_rep (n : Nat) : Dg (List.replicate n (0 : Int)) := fun i => by rw [gt_replicate]; omega
theorem V_rep (n m : Nat) : V (List.replicate n (0 : Int)) m = 0 := sm_zero fun j _ => by rw [gt_replicate]; simp
theorem val_rep (n : Nat) : val (List.replicate n (0 : Int)) = 0 := V_rep _ _
theorem Dg_nil : Dg [] := fun i => by rw [show gt ([] : List Int) i = 0 from rfl]; omega
/-- The first n places. -/
theorem gt_sub00 (xs : List Int) {b i : Int} (h0 : 0 ≤ i) : gt (X.sub xs 0 b) i = if i < b then gt xs i else 0 := by
 unfold gt X.sub
 rw [List.getD_eq_getElem?_getD, List.getD_eq_getElem?_getD, show (0 : Int).toNat = 0 from rfl, List.drop_zero, Nat.sub_zero, List.getElem?_take]
 by_cases h : i < b
 ·rw [if_pos h, if_pos (by omega)]
 ·rw [if_neg h, if_neg (by omega)]; rfl
theorem sub0_len {xs : List Int} {b : Int} (h0 : 0 ≤ b) (h1 : b ≤ xs.length) : ((X.sub xs 0 b).length : Int) = b := by
 unfold X.sub
 simp; omega
theorem Dg_sub0 {xs : List Int} (h : Dg xs) (b : Int) : Dg (X.sub xs 0 b) := by
 intro i
 by_cases hi : 0 ≤ i
 ·rw [gt_sub00 _ hi]
  split
  ·exact h i
  ·omega
 ·have e : gt (X.sub xs 0 b) i = gt (X.sub xs 0 b) 0 := by unfold gt; rw [show i.toNat = 0 by omega]; rfl
  rw [e, gt_sub00 _ (Int.le_refl 0)]
  split
  ·exact h 0
  ·omega
theorem val_sub0 {xs : List Int} {b : Int} (h0 : 0 ≤ b) (h1 : b ≤ xs.length) : val (X.sub xs 0 b) = V xs b.toNat := by
 have hl := sub0_len h0 h1
 unfold val
 rw [show (X.sub xs 0 b).length = b.toNat by omega]
 exact V_congr fun j hj => by rw [gt_sub00 _ (by omega), if_pos (by omega)]
/-- Two numbers of the same digits. -/
theorem V_inj {xs ys : List Int} (hx : Dg xs) (hy : Dg ys) : ∀ n, V xs n = V ys n → ∀ j : Nat, j < n → gt xs (j : Int) = gt ys (j : Int) := by
 intro n
 induction n with
 | zero => intro _ j hj; omega
 | succ n ih =>
  intro h j hj
  rw [V_succ, V_succ] at h
  obtain ⟨a0, a1⟩ := V_bound hx n
  obtain ⟨b0, b1⟩ := V_bound hy n
  have p := powB n
  have e : gt xs (n : Int) = gt ys (n : Int) := by
   rcases Int.lt_trichotomy (gt xs (n : Int)) (gt ys (n : Int)) with q | q | q
   ·have := Int.mul_le_mul_of_nonneg_right (show gt xs (n : Int) + 1 ≤ gt ys (n : Int) by omega) (show (0 : Int) ≤ 4294967296 ^ n by omega)
    rw [Int.add_mul] at this; omega
   ·exact q
   ·have := Int.mul_le_mul_of_nonneg_right (show gt ys (n : Int) + 1 ≤ gt xs (n : Int) by omega) (show (0 : Int) ≤ 4294967296 ^ n by omega)
    rw [Int.add_mul] at this; omega
  by_cases hjn : j = n
  ·rw [hjn]; exact e
  ·rw [e] at h
   exact ih (by omega) j (by omega)
/-- Without zeros at the end. -/
def Nz (xs : List Int) : Prop := xs ≠ [] → gt xs ((xs.length : Int) - 1) ≠ 0
theorem Nz_low {xs : List Int} (hd : Dg xs) (hn : Nz xs) (h : xs ≠ []) : (4294967296 : Int) ^ (xs.length - 1) ≤ val xs := by
 have hl : 0 < xs.length := List.length_pos_iff.2 h
 have e := V_succ xs (xs.length - 1)
 rw [show xs.length - 1 + 1 = xs.length by omega] at e
 have h1 := (V_bound hd (xs.length - 1)).1
 have h2 := hn h
 rw [show (xs.length : Int) - 1 = ((xs.length - 1 : Nat) : Int) by omega] at h2
 have h3 := (hd ((xs.length - 1 : Nat) : Int)).1
 have h4 := Int.mul_le_mul_of_nonneg_right (show (1 : Int) ≤ gt xs ((xs.length - 1 : Nat) : Int) by omega) (Int.le_of_lt (powB (xs.length - 1)))
 unfold val
 omega
theorem powB_le {n m : Nat} (h : n ≤ m) : (4294967296 : Int) ^ n ≤ 4294967296 ^ m := by
 obtain ⟨d, rfl⟩ : ∃ d, m = n + d := ⟨m - n, by omega⟩
 have h1 := powB d
 have h2 := Int.mul_le_mul_of_nonneg_left (show (1 : Int) ≤ 4294967296 ^ d by omega) (Int.le_of_lt (powB n))
 rw [powB_add]; omega
theorem powB_lt {n m : Nat} (h : (4294967296 : Int) ^ n < 4294967296 ^ m) : n < m := by
 rcases Nat.lt_or_ge n m with q | q
 ·exact q
 ·have := powB_le q
  omega
/-- The length is told by the value. -/
theorem Nz_len {xs : List Int} (hd : Dg xs) (hn : Nz xs) {k : Nat} (h : val xs < 4294967296 ^ k) : xs.length ≤ k := by
 by_cases e : xs = []
 ·simp [e]
 ·have h1 := Nz_low hd hn e
  have := powB_lt (Int.lt_of_le_of_lt h1 h)
  omega
theorem Nz_eq {xs ys : List Int} (hx : Dg xs) (hy : Dg ys) (nx : Nz xs) (ny : Nz ys) (h : val xs = val ys) : xs = ys := by
 have l1 := Nz_len hx nx (k := ys.length) (by rw [h]; exact (val_bound hy).2)
 have l2 := Nz_len hy ny (k := xs.length) (by rw [← h]; exact (val_bound hx).2)
 have hl : xs.length = ys.length := by omega
 refine ext_gt hl fun j h0 h1 => ?_
 obtain ⟨k, rfl⟩ := Int.eq_ofNat_of_zero_le h0
 unfold val at h
 rw [← hl] at h
 exact V_inj hx hy _ h k (by omega)
/-- The digits of a number. -/
def dig : Nat → Nat → List Int
 | 0, _ => []
 | k + 1, n => if n = 0 then [] else ((n % 4294967296 : Nat) : Int) :: dig k (n / 4294967296)
theorem gt_cons0 (x : Int) (xs : List Int) : gt (x :: xs) 0 = x := rfl
theorem gt_consS (x : Int) (xs : List Int) (j : Nat) : gt (x :: xs) ((j + 1 : Nat) : Int) = gt xs (j : Int) := by
 unfold gt; rw [Int.toNat_natCast, Int.toNat_natCast]; rfl
theorem Dg_cons {x : Int} {xs : List Int} (hx : 0 ≤ x ∧ x < 4294967296) (h : Dg xs) : Dg (x :: xs) := by
 intro i
 by_cases hi : 0 < i
 ·obtain ⟨k, rfl⟩ := Int.eq_ofNat_of_zero_le (show 0 ≤ i by omega)
  obtain ⟨j, rfl⟩ : ∃ j, k = j + 1 := ⟨k - 1, by omega⟩
  rw [gt_consS]; exact h _
 ·have e : gt (x :: xs) i = x := by unfold gt; rw [show i.toNat = 0 by omega]; rfl
  rw [e]; exact hx
theorem V_cons (x : Int) (xs : List Int) (n : Nat) : V (x :: xs) (n + 1) = x + 4294967296 * V xs n := by
 unfold V
 rw [sm_left, ← sm_mul]
 congr 1
 ·show gt (x :: xs) 0 * _ = _
  rw [gt_cons0]; simp
 ·refine sm_congr fun j hj => ?_
  rw [gt_consS, powB_succ]; grind
theorem val_cons (x : Int) (xs : List Int) : val (x :: xs) = x + 4294967296 * val xs := V_cons x xs xs.length
theorem dig_ok : ∀ (k n : Nat), n ≤ k → Dg (dig k n) ∧ Nz (dig k n) ∧ val (dig k n) = (n : Int) := by
 intro k
 induction k with
 | zero =>
  intro n hn
  obtain rfl : n = 0 := by omega
  exact ⟨Dg_nil, fun h => absurd rfl h, rfl⟩
 | succ k ih =>
  intro n hn
  unfold dig
  by_cases h0 : n = 0
  ·rw [if_pos h0, h0]; exact ⟨Dg_nil, fun h => absurd rfl h, rfl⟩
  rw [if_neg h0]
  obtain ⟨a, b, c⟩ := ih (n / 4294967296) (by omega)
  refine ⟨Dg_cons (by omega) a, fun _ => ?_, by rw [val_cons, c]; omega⟩
  by_cases e : dig k (n / 4294967296) = []
  ·rw [e]
   have hz : n / 4294967296 = 0 := by
    rw [e] at c
    have : val [] = 0 := rfl
    omega
   show ((n % 4294967296 : Nat) : Int) ≠ 0
   omega
  ·have hl : 0 < (dig k (n / 4294967296)).length := List.length_pos_iff.2 e
   have h2 := b e
   rw [show (((((n % 4294967296 : Nat) : Int) :: dig k (n / 4294967296)).length : Int) - 1) = (((dig k (n / 4294967296)).length - 1 + 1 : Nat) : Int) by simp only [List.length_cons]; omega, gt_consS]
   rwa [show ((dig k (n / 4294967296)).length : Int) - 1 = (((dig k (n / 4294967296)).length - 1 : Nat) : Int) by omega] at h2
def digs (n : Nat) : List Int := dig n n
theorem digs_ok (n : Nat) : Dg (digs n) ∧ Nz (digs n) ∧ val (digs n) = (n : Int) := dig_ok n n (Nat.le_refl n)
theorem digs_of {xs : List Int} (hd : Dg xs) (hn : Nz xs) : xs = digs (val xs).toNat := by
 obtain ⟨a, b, c⟩ := digs_ok (val xs).toNat
 have := (val_bound hd).1
 exact Nz_eq hd a hn b (by rw [c]; omega)
/-- How many digits a number has. -/
def dlen (v : Int) : Nat := (digs v.natAbs).length
theorem dlen_le {v : Int} {k : Nat} (h : v.natAbs < 4294967296 ^ k) : dlen v ≤ k := by
 obtain ⟨a, b, c⟩ := digs_ok v.natAbs
 refine Nz_len a b ?_
 rw [c]
 have : ((v.natAbs : Nat) : Int) < ((4294967296 ^ k : Nat) : Int) := by omega
 simpa using this
theorem dlen_lt (v : Int) : v.natAbs < 4294967296 ^ dlen v := by
 obtain ⟨a, b, c⟩ := digs_ok v.natAbs
 have h := (val_bound a).2
 rw [c] at h
 have : ((v.natAbs : Nat) : Int) < ((4294967296 ^ dlen v : Nat) : Int) := by simpa [dlen] using h
 omega
theorem dlen_mono {u v : Int} (h : u.natAbs ≤ v.natAbs) : dlen u ≤ dlen v := dlen_le (Nat.lt_of_le_of_lt h (dlen_lt v))
theorem dlen_add (u v : Int) : dlen (u + v) ≤ max (dlen u) (dlen v) + 1 := by
 refine dlen_le ?_
 have h1 := dlen_lt u
 have h2 := dlen_lt v
 have h3 := Nat.pow_le_pow_right (n := 4294967296) (by decide) (Nat.le_max_left (dlen u) (dlen v))
 have h4 := Nat.pow_le_pow_right (n := 4294967296) (by decide) (Nat.le_max_right (dlen u) (dlen v))
 have h5 := Int.natAbs_add_le u v
 rw [Nat.pow_succ]
 omega
theorem dlen_mul (u v : Int) : dlen (u * v) ≤ dlen u + dlen v := by
 refine dlen_le ?_
 have h1 := dlen_lt u
 have h2 := dlen_lt v
 rw [Int.natAbs_mul, Nat.pow_add]
 exact Nat.mul_lt_mul'' h1 h2
theorem dlen_neg (u : Int) : dlen (-u) = dlen u := by unfold dlen; rw [Int.natAbs_neg]
theorem dlen_zero : dlen 0 = 0 := rfl
end Go.Proofs.Ytfkncjfpgflafaa.X
namespace Go.Proofs.Ytfkncjfpgflafaa.X
open Go Go.RowKit
set_option linter.unusedVariables false
set_option linter.unusedSimpArgs false
set_option linter.unusedSectionVars false
/-- The number v, as the program keeps it. -/
def big (v : Int) : T_exact_Int := ⟨decide (v < 0), digs v.natAbs⟩
theorem big_neg (v : Int) : (big v).fneg = decide (v < 0) := rfl
theorem big_len (v : Int) : (big v).fmag.length = dlen v := rfl
theorem big_Dg (v : Int) : Dg (big v).fmag := (digs_ok _).1
theorem big_Nz (v : Int) : Nz (big v).fmag := (digs_ok _).2.1
theorem big_val (v : Int) : val (big v).fmag = (v.natAbs : Int) := (digs_ok _).2.2
theorem big_eta (v : Int) : T_exact_Int.mk (big v).fneg (big v).fmag = big v := rfl
theorem digs_nil {n : Nat} (h : digs n = []) : n = 0 := by
 have := (digs_ok n).2.2
 rw [h, show val [] = 0 from rfl] at this
 omega
theorem big_len0 {v : Int} : (big v).fmag.length = 0 ↔ v = 0 := by
 constructor
 ·intro h
  have := digs_nil (List.length_eq_zero_iff.1 h)
  omega
 ·rintro rfl; rfl
theorem made_ok {neg : Bool} {mag : List Int} (hd : Dg mag) (hl : mag.length ≤ 1000000000000) : Ok (P_exact_made neg mag) (fun r => r = big (if neg then - val mag else val mag)) := by
 unfold P_exact_made
 refine ok_bd (R := fun s => Dg s ∧ Nz s ∧ val s = val mag) ?_ ?_
 ·refine ok_lp (fun s => Dg s ∧ val s = val mag ∧ s.length ≤ mag.length) (fun s => s.length) ⟨hd, rfl, Nat.le_refl _⟩ (by omega) ?_
  rintro s ⟨h1, h2, h3⟩
  unfold P_exact_made_L1
  refine ok_ck (fun _ => by omega) (ok_lv (ok_ck (fun h => ?_) (ok_lv (ok_lv (ok_ite (fun h => ?_) fun h => ok_some ⟨h1, ?_, h2⟩)))))
  ·simp only [decide_eq_true_eq] at h; omega
  ·simp only [Bool.and_eq_true, decide_eq_true_eq] at h
   obtain ⟨p, q⟩ := h
   refine ok_ar (by omega) (ok_ck (by omega) (ok_lv (ok_some ⟨⟨Dg_sub0 h1 _, ?_, ?_⟩, ?_⟩)))
   ·rw [val_sub0 (by omega) (by omega), ← h2]
    have e := V_succ s (s.length - 1)
    rw [show s.length - 1 + 1 = s.length by omega, show ((s.length - 1 : Nat) : Int) = (s.length : Int) - 1 by omega, q] at e
    unfold val
    rw [e, show ((s.length : Int) - 1).toNat = s.length - 1 by omega]; simp
   ·have := sub0_len (xs := s) (b := (s.length : Int) - 1) (by omega) (by omega); omega
   ·have := sub0_len (xs := s) (b := (s.length : Int) - 1) (by omega) (by omega); omega
  ·intro hne hz
   have : 0 < s.length := List.length_pos_iff.2 hne
   simp only [Bool.and_eq_true, decide_eq_true_eq] at h
   exact h ⟨by omega, hz⟩
 rintro s ⟨h1, h2, h3⟩
 refine ok_lv (ok_some ?_)
 have h4 := (val_bound h1).1
 have h5 := digs_of h1 h2
 have h6 : (val s = 0 ↔ s = []) := by
  constructor
  ·intro e; rw [h5, e]; rfl
  ·rintro rfl; rfl
 have h7 : 0 < s.length ↔ val s ≠ 0 := by
  rw [List.length_pos_iff]
  exact ⟨fun h e => h (h6.1 e), fun h e => h (h6.2 e)⟩
 unfold big
 rw [← h3]
 cases neg with
 | false =>
  simp only [Bool.false_and, Bool.false_eq_true, if_false]
  rw [show decide (val s < 0) = false from decide_eq_false (by omega), show (val s).natAbs = (val s).toNat by omega, ← h5]
 | true =>
  simp only [Bool.true_and, if_true]
  rw [show (- val s).natAbs = (val s).toNat by omega, ← h5]
  congr 1
  by_cases e : val s = 0
  ·rw [e, decide_eq_false (by rw [Int.natCast_pos, h7]; omega)]; rfl
  ·rw [decide_eq_true (by rw [Int.natCast_pos, h7]; omega), decide_eq_true (by omega)]
theorem Of_ok {x : Int} (hx : I64 x) : Ok (P_exact_Of x) (fun r => r = big x) := by
 unfold P_exact_Of
 refine ok_lv (ok_bd (R := fun r => r = (x.natAbs : Int)) (ok_ite (fun h => ok_lv (ok_some (by omega))) fun h => ok_some (by omega)) ?_)
 rintro _ rfl
 refine ok_lv (ok_ck (by omega) (ok_lv ?_))
 rw [shr_u64_32]
 refine ok_lv (ok_bd (made_ok (Dg_cons (by omega) (Dg_cons (by omega) Dg_nil)) (by simp)) ?_)
 rintro _ rfl
 refine ok_some ?_
 congr 1
 rw [val_cons, val_cons, show val [] = 0 from rfl]
 by_cases h : x < 0
 ·rw [decide_eq_true h, if_pos rfl]; omega
 ·rw [decide_eq_false h]; simp only [Bool.false_eq_true, if_false]; omega
theorem V_put {xs : List Int} {i x : Int} (hi : inb i xs.length) : V (stt xs i x) (i + 1).toNat = V xs i.toNat + x * 4294967296 ^ i.toNat := by
 have h0 := hi.1
 rw [V_stt hi, if_pos (by omega), V_cut xs h0]
 grind
theorem addMag_ok {a b : List Int} (ha : Dg a) (hb : Dg b) (la : a.length ≤ 1000000000) (lb : b.length ≤ 1000000000) : Ok (P_exact_addMag a b) (fun r => Dg r ∧ val r = val a + val b ∧ r.length ≤ 1000000001) := by
 unfold P_exact_addMag
 refine ok_bd (R := fun p => Dg p.1 ∧ Dg p.2 ∧ val p.1 + val p.2 = val a + val b ∧ p.2.length ≤ p.1.length ∧ p.1.length ≤ 1000000000) (ok_ite (fun h => ok_some ⟨hb, ha, Int.add_comm _ _, by simp only; omega, lb⟩) fun h => ok_some ⟨ha, hb, rfl, by simp only; omega, la⟩) ?_
 rintro ⟨u, v⟩ ⟨hu, hv, hs, hl, lu⟩
 simp only at hu hv hs hl lu
 refine ok_ar (by omega) (ok_ck (by simp only [mkOk]; omega) (ok_lv ?_))
 refine ok_bd (R := fun s => s.1.length = u.length + 1 ∧ Dg s.1 ∧ (0 ≤ s.2 ∧ s.2 ≤ 1) ∧ V s.1 u.length + s.2 * 4294967296 ^ u.length = V u u.length + V v u.length) ?_ ?_
 ·refine ok_lp (fun s => (0 ≤ s.2.2 ∧ s.2.2 ≤ u.length) ∧ s.1.length = u.length + 1 ∧ Dg s.1 ∧ (0 ≤ s.2.1 ∧ s.2.1 ≤ 1) ∧ V s.1 s.2.2.toNat + s.2.1 * 4294967296 ^ s.2.2.toNat = V u s.2.2.toNat + V v s.2.2.toNat) (fun s => ((u.length : Int) - s.2.2).toNat)
   ⟨⟨by simp, by simp only; omega⟩, by simp only [List.length_replicate]; omega, Dg_rep _, by simp only; omega, by simp [V_zero]⟩ (by simp only; omega) ?_
  rintro ⟨out, c, i⟩ ⟨⟨i0, i1⟩, l1, d1, ⟨c0, c1⟩, e1⟩
  simp only at i0 i1 l1 d1 c0 c1 e1
  unfold P_exact_addMag_L6
  dsimp only
  refine ok_ite (fun hlt => ?_) fun hge => ok_some ⟨l1, d1, ⟨c0, c1⟩, by rw [show i.toNat = u.length by omega] at e1; exact e1⟩
  have hi : inb i u.length := ⟨i0, hlt⟩
  have gu := hu i
  have gv := hv i
  refine ok_ck hi (ok_lv (ok_lv (ok_lv (ok_bd (R := fun r => r = c + gt u i + gt v i) (ok_ite (fun h => ok_ck ⟨i0, h⟩ (ok_lv (ok_lv (ok_lv (ok_some (by omega)))))) fun h => ok_some ?_) ?_))))
  ·rw [gt_past (xs := v) i0 (by omega)]; omega
  rintro _ rfl
  refine ok_lv (ok_ck ⟨i0, by omega⟩ (ok_lv (ok_ck (by omega) (ok_lv ?_))))
  rw [shr_u64_32]
  have ho : inb i out.length := ⟨i0, by omega⟩
  refine ok_ar (by omega) (ok_some ⟨⟨⟨by simp only; omega, by simp only; omega⟩, by simp only; rw [stt_length]; exact l1, Dg_stt d1 ho (by omega), ⟨by simp only; omega, by simp only; omega⟩, ?_⟩, by simp only; omega⟩)
  simp only
  rw [V_put ho, V_cut u i0, V_cut v i0, show (i + 1).toNat = i.toNat + 1 by omega, powB_succ]
  have hc : (c + gt u i + gt v i) % 4294967296 + 4294967296 * ((c + gt u i + gt v i) / 4294967296) = c + gt u i + gt v i := by omega
  grind
 rintro ⟨out, c⟩ ⟨l1, d1, ⟨c0, c1⟩, e1⟩
 simp only at l1 d1 c0 c1 e1
 have ho : inb (u.length : Int) out.length := ⟨by omega, by omega⟩
 refine ok_lv (ok_ck ho (ok_lv (ok_some ⟨Dg_stt d1 ho (by omega), ?_, by rw [stt_length]; omega⟩)))
 have e2 := V_put (x := c % 4294967296) ho
 rw [show ((u.length : Int) + 1).toNat = out.length by omega, Int.toNat_natCast] at e2
 unfold val
 rw [stt_length, e2, show c % 4294967296 = c by omega, e1, V_ge (Nat.le_refl _), V_ge hl]
 exact hs
theorem subMag_ok {a b : List Int} (ha : Dg a) (hb : Dg b) (hab : val b ≤ val a) (hl : b.length ≤ a.length) (la : a.length ≤ 1000000000) : Ok (P_exact_subMag a b) (fun r => Dg r ∧ val r = val a - val b ∧ r.length = a.length) := by
 unfold P_exact_subMag
 refine ok_ck (by simp only [mkOk]; omega) (ok_lv ?_)
 refine ok_bd (R := fun s => s.length = a.length ∧ Dg s ∧ ∃ w : Int, (w = 0 ∨ w = -1) ∧ V s a.length + w * 4294967296 ^ a.length = V a a.length - V b a.length) ?_ ?_
 ·refine ok_lp (fun s => (0 ≤ s.2.2 ∧ s.2.2 ≤ a.length) ∧ s.1.length = a.length ∧ Dg s.1 ∧ (s.2.1 = 0 ∨ s.2.1 = -1) ∧ V s.1 s.2.2.toNat + s.2.1 * 4294967296 ^ s.2.2.toNat = V a s.2.2.toNat - V b s.2.2.toNat) (fun s => ((a.length : Int) - s.2.2).toNat)
   ⟨⟨by simp, by simp only; omega⟩, by simp, Dg_rep _, .inl rfl, by simp [V_zero]⟩ (by simp only; omega) ?_
  rintro ⟨out, c, i⟩ ⟨⟨i0, i1⟩, l1, d1, hc, e1⟩
  simp only at i0 i1 l1 d1 hc e1
  unfold P_exact_subMag_L4
  dsimp only
  refine ok_ite (fun hlt => ?_) fun hge => ok_some ⟨l1, d1, c, hc, by rw [show i.toNat = a.length by omega] at e1; exact e1⟩
  have hi : inb i a.length := ⟨i0, hlt⟩
  have ga := ha i
  have gb := hb i
  refine ok_ck hi (ok_lv (ok_ar (by omega) (ok_ar (by omega) (ok_bd (R := fun r => r = gt a i + c - gt b i) (ok_ite (fun h => ok_ck ⟨i0, h⟩ (ok_lv (ok_ar (by omega) (ok_ar (by omega) (ok_some rfl))))) fun h => ok_some ?_) ?_))))
  ·rw [gt_past (xs := b) i0 (by omega)]; omega
  rintro _ rfl
  refine ok_lv (ok_ck ⟨i0, by omega⟩ (ok_lv (ok_ck (by omega) (ok_lv ?_))))
  rw [shr_i64_32]
  have ho : inb i out.length := ⟨i0, by omega⟩
  refine ok_ar (by omega) (ok_some ⟨⟨⟨by simp only; omega, by simp only; omega⟩, by simp only; rw [stt_length]; exact l1, Dg_stt d1 ho (by omega), by simp only; omega, ?_⟩, by simp only; omega⟩)
  simp only
  rw [V_put ho, V_cut a i0, V_cut b i0, show (i + 1).toNat = i.toNat + 1 by omega, powB_succ]
  have hq : (gt a i + c - gt b i) % 4294967296 + 4294967296 * ((gt a i + c - gt b i) / 4294967296) = gt a i + c - gt b i := by omega
  grind
 rintro out ⟨l1, d1, w, hw, e1⟩
 refine ok_some ⟨d1, ?_, l1⟩
 have e2 : V b a.length = val b := V_ge hl
 have e3 : V a a.length = val a := rfl
 have h1 := V_bound d1 a.length
 rw [e2, e3] at e1
 have e4 : val out = V out a.length := by unfold val; rw [l1]
 rw [e4]
 rcases hw with rfl | rfl
 ·omega
 ·exfalso
  have := powB a.length
  omega
theorem sign_ok (x : Int) : Ok (P_exact_sign x) (fun r => r = x.sign) := by
 unfold P_exact_sign
 refine ok_lv (ok_lv (ok_some ?_))
 rcases Int.lt_trichotomy x 0 with h | h | h
 ·rw [Int.sign_eq_neg_one_of_neg h]; omega
 ·subst h; rfl
 ·rw [Int.sign_eq_one_of_pos h]; omega
theorem sign_of {x y : Int} (h1 : 0 < x → 0 < y) (h2 : x < 0 → y < 0) (h3 : x = 0 → y = 0) : x.sign = y.sign := by
 rcases Int.lt_trichotomy x 0 with h | h | h
 ·rw [Int.sign_eq_neg_one_of_neg h, Int.sign_eq_neg_one_of_neg (h2 h)]
 ·rw [h, h3 h]
 ·rw [Int.sign_eq_one_of_pos h, Int.sign_eq_one_of_pos (h1 h)]
/-- The highest place that differs decides. -/
theorem V_lt_of {a b : List Int} (ha : Dg a) (hb : Dg b) {n : Nat} (h : gt a (n : Int) < gt b (n : Int)) : V a (n + 1) < V b (n + 1) := by
 have h1 := V_bound ha n
 have h2 := V_bound hb n
 rw [V_succ, V_succ]
 have := Int.mul_le_mul_of_nonneg_right (show gt a (n : Int) + 1 ≤ gt b (n : Int) by omega) (Int.le_of_lt (powB n))
 rw [Int.add_mul] at this
 omega
theorem cmpMag_ok {a b : List Int} (ha : Dg a) (hb : Dg b) (na : Nz a) (nb : Nz b) (la : a.length ≤ 1000000000000) (lb : b.length ≤ 1000000000000) : Ok (P_exact_cmpMag a b) (fun r => r = (val a - val b).sign) := by
 have key : ∀ {x y : List Int}, Dg x → Dg y → Nz y → x.length < y.length → val x < val y := by
  intro x y hx hy ny h
  have h1 := (val_bound hx).2
  have h2 := Nz_low hy ny (by intro e; rw [e] at h; simp at h)
  have h3 := powB_le (show x.length ≤ y.length - 1 by omega)
  omega
 unfold P_exact_cmpMag
 refine ok_ite (fun h => ok_ar (by omega) (ok_bd (sign_ok _) ?_)) fun h => ok_ar (by omega) ?_
 ·rintro _ rfl
  refine ok_some (sign_of (fun q => ?_) (fun q => ?_) fun q => by omega)
  ·have := key hb ha na (by omega); omega
  ·have := key ha hb nb (by omega); omega
 have hl : a.length = b.length := by omega
 refine ok_bs (R := fun o => (∀ u, o = Sum.inl u → val a = val b) ∧ ∀ z, o = Sum.inr z → z = (val a - val b).sign) ?_ (fun x hx => ok_some ?_) fun y hy => ok_some (hy.2 y rfl)
 ·refine ok_lp (fun i => (-1 ≤ i ∧ i < a.length) ∧ val a - V a (i + 1).toNat = val b - V b (i + 1).toNat) (fun i => (i + 1).toNat) ⟨by omega, ?_⟩ (by omega) ?_
  ·rw [show ((a.length : Int) - 1 + 1).toNat = a.length by omega, V_ge (Nat.le_refl _), V_ge (by omega)]; omega
  rintro i ⟨⟨i0, i1⟩, e⟩
  unfold P_exact_cmpMag_L4
  refine ok_ite (fun hge => ?_) fun hlt => ok_some ⟨fun u _ => ?_, fun z q => by cases q⟩
  ·refine ok_ck ⟨hge, i1⟩ (ok_lv (ok_ck ⟨hge, by omega⟩ (ok_lv (ok_ite (fun hne => ?_) fun heq => ?_))))
   ·have ga := ha i
    have gb := hb i
    refine ok_ck ⟨hge, i1⟩ (ok_lv (ok_ar (by omega) (ok_ck ⟨hge, by omega⟩ (ok_lv (ok_ar (by omega) (ok_ar (by omega) (ok_bd (sign_ok _) ?_)))))))
    rintro _ rfl
    refine ok_some ⟨fun u q => (by cases q), fun z q => ?_⟩
    cases q
    obtain ⟨k, rfl⟩ := Int.eq_ofNat_of_zero_le hge
    rw [show ((k : Int) + 1).toNat = k + 1 by omega] at e
    refine sign_of (fun q => ?_) (fun q => ?_) fun q => absurd q (by omega)
    ·have := V_lt_of hb ha (n := k) (by omega); omega
    ·have := V_lt_of ha hb (n := k) (by omega); omega
   ·have heq : gt a i = gt b i := Decidable.not_not.1 heq
    rw [V_cut a hge, V_cut b hge, heq] at e
    exact ok_ar (by omega) (ok_some ⟨⟨by omega, by rw [show i - 1 + 1 = i by omega]; omega⟩, by omega⟩)
  ·rw [show (i + 1).toNat = 0 by omega, V_zero, V_zero] at e; omega
 ·rw [hx.1 x rfl, Int.sub_self]; rfl
section
variable {a b : Int}
theorem plus_ok (la : dlen a ≤ 1000000000) (lb : dlen b ≤ 1000000000) : Ok (P_exact_plus (big a) (big b)) (fun r => r = big (a + b)) := by
 have va := big_val a
 have vb := big_val b
 unfold P_exact_plus
 refine ok_ite (fun h => ok_bd (addMag_ok (big_Dg a) (big_Dg b) la lb) ?_) fun h => ok_bd (cmpMag_ok (big_Dg a) (big_Dg b) (big_Nz a) (big_Nz b) (by rw [big_len]; omega) (by rw [big_len]; omega)) ?_
 ·rintro s ⟨d, v, l⟩
  refine ok_bd (made_ok d (by omega)) ?_
  rintro _ rfl
  refine ok_some ?_
  congr 1
  rw [v, va, vb, big_neg]
  rw [big_neg, big_neg, beq_iff_eq, decide_eq_decide] at h
  by_cases q : a < 0
  ·rw [decide_eq_true q, if_pos rfl]; omega
  ·rw [decide_eq_false q]; simp only [Bool.false_eq_true, if_false]; omega
 ·rintro _ rfl
  rw [va, vb]
  rw [big_neg, big_neg, beq_iff_eq, decide_eq_decide] at h
  have hlen : ∀ {x y : Int}, y.natAbs ≤ x.natAbs → (big y).fmag.length ≤ (big x).fmag.length := fun q => dlen_mono q
  refine ok_ite (fun hc => ?_) fun hc => ?_
  ·have hle : b.natAbs ≤ a.natAbs := by
    rcases Nat.lt_or_ge a.natAbs b.natAbs with q | q
    ·rw [Int.sign_eq_neg_one_of_neg (by omega)] at hc; omega
    ·exact q
   refine ok_bd (subMag_ok (big_Dg a) (big_Dg b) (by rw [va, vb]; omega) (hlen hle) la) ?_
   rintro s ⟨d, v, l⟩
   refine ok_bd (made_ok d (by rw [l, big_len]; omega)) ?_
   rintro _ rfl
   refine ok_some ?_
   congr 1
   rw [v, va, vb, big_neg]
   by_cases q : a < 0
   ·rw [decide_eq_true q, if_pos rfl]; omega
   ·rw [decide_eq_false q]; simp only [Bool.false_eq_true, if_false]; omega
  ·have hle : a.natAbs < b.natAbs := by
    rcases Nat.lt_or_ge a.natAbs b.natAbs with q | q
    ·exact q
    ·exfalso
     rcases Int.lt_or_le 0 ((a.natAbs : Int) - b.natAbs) with p | p
     ·rw [Int.sign_eq_one_of_pos p] at hc; omega
     ·rw [show (a.natAbs : Int) - b.natAbs = 0 by omega] at hc; exact hc (by decide)
   refine ok_bd (subMag_ok (big_Dg b) (big_Dg a) (by rw [va, vb]; omega) (hlen (by omega)) lb) ?_
   rintro s ⟨d, v, l⟩
   refine ok_bd (made_ok d (by rw [l, big_len]; omega)) ?_
   rintro _ rfl
   refine ok_some ?_
   congr 1
   rw [v, va, vb, big_neg]
   by_cases q : b < 0
   ·rw [decide_eq_true q, if_pos rfl]; omega
   ·rw [decide_eq_false q]; simp only [Bool.false_eq_true, if_false]; omega
theorem Neg_ok (la : dlen a ≤ 1000000000) : Ok (P_exact_Neg (big a)) (fun r => r = big (-a)) := by
 unfold P_exact_Neg
 refine ok_bd (made_ok (big_Dg a) (by rw [big_len]; omega)) ?_
 rintro _ rfl
 refine ok_some ?_
 congr 1
 rw [big_val, big_neg]
 by_cases q : a < 0
 ·rw [decide_eq_true q]; simp only [Bool.not_true, Bool.false_eq_true, if_false]; omega
 ·rw [decide_eq_false q]; simp only [Bool.not_false, if_true]; omega
theorem Abs_ok (la : dlen a ≤ 1000000000) : Ok (P_exact_Abs (big a)) (fun r => r = big (a.natAbs : Int)) := by
 unfold P_exact_Abs
 refine ok_bd (made_ok (big_Dg a) (by rw [big_len]; omega)) ?_
 rintro _ rfl
 refine ok_some ?_
 congr 1
 rw [big_val]; rfl
theorem Sign_ok : Ok (P_exact_Sign (big a)) (fun r => r = a.sign) := by
 unfold P_exact_Sign
 refine ok_ite (fun h => ok_some ?_) fun h => ok_ite (fun q => ok_some ?_) fun q => ok_some ?_
 ·have := big_len0.1 (show (big a).fmag.length = 0 by omega)
  rw [this]; rfl
 ·rw [big_neg, decide_eq_true_eq] at q
  rw [Int.sign_eq_neg_one_of_neg q]
 ·rw [big_neg, decide_eq_true_eq] at q
  have h0 : a ≠ 0 := fun e => h (by rw [big_len0.2 e]; rfl)
  rw [Int.sign_eq_one_of_pos (by omega)]
theorem Cmp_ok (la : dlen a ≤ 1000000000) (lb : dlen b ≤ 1000000000) : Ok (P_exact_Cmp (big a) (big b)) (fun r => r = (a - b).sign) := by
 unfold P_exact_Cmp
 refine ok_bd Sign_ok ?_
 rintro _ rfl
 refine ok_bd Sign_ok ?_
 rintro _ rfl
 have sa : a.sign = -1 ∨ a.sign = 0 ∨ a.sign = 1 := by
  rcases Int.lt_trichotomy a 0 with h | h | h
  ·exact .inl (Int.sign_eq_neg_one_of_neg h)
  ·exact .inr (.inl (by rw [h]; rfl))
  ·exact .inr (.inr (Int.sign_eq_one_of_pos h))
 have pa : ∀ x : Int, (x.sign = -1 ↔ x < 0) ∧ (x.sign = 0 ↔ x = 0) ∧ (x.sign = 1 ↔ 0 < x) := by
  intro x
  rcases Int.lt_trichotomy x 0 with h | h | h
  ·rw [Int.sign_eq_neg_one_of_neg h]; omega
  ·rw [h, show (0 : Int).sign = 0 from rfl]; omega
  ·rw [Int.sign_eq_one_of_pos h]; omega
 obtain ⟨a1, a2, a3⟩ := pa a
 obtain ⟨b1, b2, b3⟩ := pa b
 have sb : b.sign = -1 ∨ b.sign = 0 ∨ b.sign = 1 := by
  rcases Int.lt_trichotomy b 0 with h | h | h
  ·exact .inl (Int.sign_eq_neg_one_of_neg h)
  ·exact .inr (.inl (by rw [h]; rfl))
  ·exact .inr (.inr (Int.sign_eq_one_of_pos h))
 refine ok_ite (fun h => ?_) fun h => ?_
 ·refine ok_bd Sign_ok ?_
  rintro _ rfl
  refine ok_bd Sign_ok ?_
  rintro _ rfl
  refine ok_ar (by omega) (ok_bd (sign_ok _) ?_)
  rintro _ rfl
  exact ok_some (sign_of (fun q => by omega) (fun q => by omega) fun q => by omega)
 ·refine ok_ite (fun q => ok_bd (cmpMag_ok (big_Dg b) (big_Dg a) (big_Nz b) (big_Nz a) (by rw [big_len]; omega) (by rw [big_len]; omega)) ?_) fun q => ok_bd (cmpMag_ok (big_Dg a) (big_Dg b) (big_Nz a) (big_Nz b) (by rw [big_len]; omega) (by rw [big_len]; omega)) ?_
  ·rintro _ rfl
   rw [big_neg, decide_eq_true_eq] at q
   rw [big_val, big_val]
   exact ok_some (sign_of (fun q => by omega) (fun q => by omega) fun q => by omega)
  ·rintro _ rfl
   rw [big_neg, decide_eq_true_eq] at q
   rw [big_val, big_val]
   exact ok_some (sign_of (fun q => by omega) (fun q => by omega) fun q => by omega)
end
end Go.Proofs.Ytfkncjfpgflafaa.X
namespace Go.Proofs.Ytfkncjfpgflafaa.X
open Go Go.RowKit
set_option linter.unusedVariables false
set_option linter.unusedSimpArgs false
set_option linter.unusedSectionVars false
theorem mul_dig {x y : Int} (hx : 0 ≤ x ∧ x < 4294967296) (hy : 0 ≤ y ∧ y < 4294967296) : 0 ≤ x * y ∧ x * y ≤ 18446744065119617025 := by
 refine ⟨Int.mul_nonneg hx.1 hy.1, ?_⟩
 have := Int.mul_le_mul (show x ≤ 4294967295 by omega) (show y ≤ 4294967295 by omega) hy.1 (by decide)
 omega
theorem pow_two (i j : Int) (hi : 0 ≤ i) (hj : 0 ≤ j) : (4294967296 : Int) ^ (i + j).toNat = 4294967296 ^ i.toNat * 4294967296 ^ j.toNat := by
 rw [← powB_add]; congr 1; omega
theorem times_in {b : T_exact_Int} {x i S : Int} {la : Nat} {out : List Int} (hb : Dg b.fmag) (hx : 0 ≤ x ∧ x < 4294967296) (hi : 0 ≤ i ∧ i < la) (hl : out.length = la + b.fmag.length) (hs : la + b.fmag.length ≤ 10000000000) (hd : Dg out) (hv : val out = S) (hz : ∀ k : Int, i + b.fmag.length ≤ k → gt out k = 0) :
  Ok (lp (P_exact_times_L7 b x i) fuel (out, 0, 0)) (fun s => s.1.length = la + b.fmag.length ∧ Dg s.1 ∧ (0 ≤ s.2 ∧ s.2 < 4294967296) ∧ val s.1 + s.2 * 4294967296 ^ (i + b.fmag.length).toNat = S + x * 4294967296 ^ i.toNat * val b.fmag ∧ ∀ k : Int, i + b.fmag.length ≤ k → gt s.1 k = 0) := by
 refine ok_lp (fun s => (0 ≤ s.2.2 ∧ s.2.2 ≤ b.fmag.length) ∧ s.1.length = la + b.fmag.length ∧ Dg s.1 ∧ (0 ≤ s.2.1 ∧ s.2.1 < 4294967296) ∧ val s.1 + s.2.1 * 4294967296 ^ (i + s.2.2).toNat = S + x * 4294967296 ^ i.toNat * V b.fmag s.2.2.toNat ∧ ∀ k : Int, i + b.fmag.length ≤ k → gt s.1 k = 0)
  (fun s => ((b.fmag.length : Int) - s.2.2).toNat) ⟨⟨by simp, by simp only; omega⟩, hl, hd, by simp only; omega, by simp [V_zero, hv], hz⟩ (by simp only; omega) ?_
 rintro ⟨o, c, j⟩ ⟨⟨j0, j1⟩, l1, d1, ⟨c0, c1⟩, e1, z1⟩
 simp only at j0 j1 l1 d1 c0 c1 e1 z1
 unfold P_exact_times_L7
 dsimp only
 refine ok_ite (fun hlt => ?_) fun hge => ok_some ⟨l1, d1, ⟨c0, c1⟩, ?_, z1⟩
 ·have hij : inb (i + j) o.length := ⟨by omega, by omega⟩
  have gb := hb j
  have go := d1 (i + j)
  obtain ⟨p0, p1⟩ := mul_dig hx gb
  refine ok_ck ⟨j0, hlt⟩ (ok_lv (ok_ar (by omega) (ok_ck hij (ok_lv (ok_lv (ok_lv (ok_lv ?_)))))))
  rw [show gt o (i + j) % 18446744073709551616 = gt o (i + j) by omega, show x % 18446744073709551616 = x by omega, show gt b.fmag j % 18446744073709551616 = gt b.fmag j by omega]
  refine ok_lv (ok_lv (ok_lv ?_))
  rw [show x * gt b.fmag j % 18446744073709551616 = x * gt b.fmag j by omega, show (gt o (i + j) + x * gt b.fmag j) % 18446744073709551616 = gt o (i + j) + x * gt b.fmag j by omega, show (c + (gt o (i + j) + x * gt b.fmag j)) % 18446744073709551616 = c + (gt o (i + j) + x * gt b.fmag j) by omega]
  refine ok_ar (by omega) (ok_lv (ok_ck hij (ok_lv (ok_ck (by omega) (ok_lv ?_)))))
  rw [shr_u64_32]
  generalize ht : c + (gt o (i + j) + x * gt b.fmag j) = t
  have hq : t % 4294967296 + 4294967296 * (t / 4294967296) = t := by omega
  refine ok_ar (by omega) (ok_some ⟨⟨⟨by simp only; omega, by simp only; omega⟩, by simp only; rw [stt_length]; exact l1, Dg_stt d1 hij (by omega), ⟨by simp only; omega, by simp only; omega⟩, ?_, fun k hk => ?_⟩, by simp only; omega⟩)
  ·simp only
   rw [val_stt hij, V_cut b.fmag j0, show i + (j + 1) = (i + j) + 1 by omega, show ((i + j) + 1).toNat = (i + j).toNat + 1 by omega, powB_succ, pow_two i j hi.1 j0]
   rw [pow_two i j hi.1 j0] at e1
   grind
  ·simp only at hk ⊢
   rw [gt_stt o _ hij (by omega), if_neg (by omega)]
   exact z1 k hk
 ·simp only
  rw [show j = (b.fmag.length : Int) by omega, Int.toNat_natCast] at e1
  exact e1
section
variable {a b : Int}
theorem times_ok (la : dlen a ≤ 1000000000) (lb : dlen b ≤ 1000000000) : Ok (P_exact_times (big a) (big b)) (fun r => r = big (a * b)) := by
 have va := big_val a
 have vb := big_val b
 have ha := big_len a
 have hb := big_len b
 unfold P_exact_times
 refine ok_ar (by omega) (ok_ck (by simp only [mkOk]; omega) (ok_lv ?_))
 refine ok_bd (R := fun s => Dg s ∧ val s = val (big a).fmag * val (big b).fmag ∧ s.length = (big a).fmag.length + (big b).fmag.length) ?_ ?_
 ·refine ok_lp (fun s => (0 ≤ s.2 ∧ s.2 ≤ (big a).fmag.length) ∧ s.1.length = (big a).fmag.length + (big b).fmag.length ∧ Dg s.1 ∧ val s.1 = V (big a).fmag s.2.toNat * val (big b).fmag ∧ ∀ k : Int, s.2 + (big b).fmag.length ≤ k → gt s.1 k = 0)
   (fun s => (((big a).fmag.length : Int) - s.2).toNat) ⟨⟨by simp, by simp only; omega⟩, by simp only [List.length_replicate]; omega, Dg_rep _, by simp [V_zero, val_rep], fun k _ => gt_replicate _ _⟩ (by simp only; omega) ?_
  rintro ⟨o, i⟩ ⟨⟨i0, i1⟩, l1, d1, e1, z1⟩
  simp only at i0 i1 l1 d1 e1 z1
  unfold P_exact_times_L3
  dsimp only
  refine ok_ite (fun hlt => ?_) fun hge => ok_some ⟨d1, ?_, l1⟩
  ·refine ok_ck ⟨i0, hlt⟩ (ok_lv (ok_bd (times_in (big_Dg b) (big_Dg a i) ⟨i0, hlt⟩ l1 (by omega) d1 rfl z1) ?_))
   rintro ⟨o2, c⟩ ⟨l2, d2, ⟨c0, c1⟩, e2, z2⟩
   simp only at l2 d2 c0 c1 e2 z2
   have ho : inb (i + ((big b).fmag.length : Int)) o2.length := ⟨by omega, by omega⟩
   refine ok_ar (by omega) (ok_lv (ok_ck ho (ok_lv (ok_ar (by omega) (ok_some ⟨⟨⟨by simp only; omega, by simp only; omega⟩, by simp only; rw [stt_length]; exact l2, Dg_stt d2 ho (by omega), ?_, fun k hk => ?_⟩, by simp only; omega⟩)))))
   ·simp only
    rw [val_stt ho, z2 _ (Int.le_refl _), V_cut _ i0, show c % 4294967296 = c by omega, Int.sub_zero, e2, e1]
    grind
   ·simp only at hk ⊢
    rw [gt_stt o2 _ ho (by omega), if_neg (by omega)]
    exact z2 k (by omega)
  ·rw [e1, show i = ((big a).fmag.length : Int) by omega, Int.toNat_natCast]; rfl
 rintro s ⟨d, v, l⟩
 refine ok_bd (made_ok d (by omega)) ?_
 rintro _ rfl
 refine ok_some ?_
 congr 1
 rw [v, va, vb, big_neg, big_neg]
 have e : ((a.natAbs : Int) * (b.natAbs : Int)) = ((a * b).natAbs : Int) := by rw [Int.natAbs_mul]; simp
 rw [e]
 by_cases p : a < 0
 ·by_cases q : b < 0
  ·have := Int.mul_pos_of_neg_of_neg p q
   rw [decide_eq_true p, decide_eq_true q]; simp only [BEq.rfl, Bool.not_true, Bool.false_eq_true, if_false]; omega
  ·have := Int.mul_nonpos_of_nonpos_of_nonneg (show a ≤ 0 by omega) (show 0 ≤ b by omega)
   rw [decide_eq_true p, decide_eq_false q]; simp only [show (true == false) = false from rfl, Bool.not_false, if_true]; omega
 ·by_cases q : b < 0
  ·have := Int.mul_nonpos_of_nonneg_of_nonpos (show 0 ≤ a by omega) (show b ≤ 0 by omega)
   rw [decide_eq_false p, decide_eq_true q]; simp only [show (false == true) = false from rfl, Bool.not_false, if_true]; omega
  ·have := Int.mul_nonneg (show 0 ≤ a by omega) (show 0 ≤ b by omega)
   rw [decide_eq_false p, decide_eq_false q]; simp only [BEq.rfl, Bool.not_true, Bool.false_eq_true, if_false]; omega
end
theorem divSmall_ok {a : List Int} {d : Int} (ha : Dg a) (hd : 1 ≤ d ∧ d < 4294967296) (la : a.length ≤ 10000000000) : Ok (P_exact_divSmall a d) (fun r => Dg r.1 ∧ r.1.length = a.length ∧ val a = d * val r.1 + r.2 ∧ 0 ≤ r.2 ∧ r.2 < d) := by
 unfold P_exact_divSmall
 refine ok_ck (by simp only [mkOk]; omega) (ok_lv (ok_ar (by omega) ?_))
 refine ok_bd (R := fun s => Dg s.1 ∧ s.1.length = a.length ∧ val a = d * val s.1 + s.2 ∧ 0 ≤ s.2 ∧ s.2 < d) ?_ ?_
 ·refine ok_lp (fun s => (-1 ≤ s.2.2 ∧ s.2.2 < a.length) ∧ s.1.length = a.length ∧ Dg s.1 ∧ (0 ≤ s.2.1 ∧ s.2.1 < d) ∧ val a - V a (s.2.2 + 1).toNat = d * val s.1 + s.2.1 * 4294967296 ^ (s.2.2 + 1).toNat ∧ ∀ k : Int, 0 ≤ k → k ≤ s.2.2 → gt s.1 k = 0)
   (fun s => (s.2.2 + 1).toNat) ⟨⟨by simp only; omega, by simp only; omega⟩, by simp, Dg_rep _, by simp only; omega, ?_, fun k _ _ => gt_replicate _ _⟩ (by simp only; omega) ?_
  ·simp only
   rw [show ((a.length : Int) - 1 + 1).toNat = a.length by omega, V_ge (Nat.le_refl _), Int.toNat_natCast, val_rep]; simp
  rintro ⟨o, c, i⟩ ⟨⟨i0, i1⟩, l1, d1, ⟨c0, c1⟩, e1, z1⟩
  simp only at i0 i1 l1 d1 c0 c1 e1 z1
  unfold P_exact_divSmall_L4
  dsimp only
  refine ok_ite (fun hge => ?_) fun hlt => ok_some ⟨d1, l1, ?_, c0, c1⟩
  ·have ga := ha i
   refine ok_ck (by omega) (ok_lv (ok_ck ⟨hge, i1⟩ (ok_lv (ok_lv (ok_lv (ok_lv ?_))))))
   rw [show gt a i % 18446744073709551616 = gt a i by omega, or_hi ⟨c0, by omega⟩ ga, show d % 18446744073709551616 = d by omega]
   generalize ht : c * 4294967296 + gt a i = t
   have t0 : 0 ≤ t := by omega
   have q0 : 0 ≤ t / d := Int.ediv_nonneg t0 (by omega)
   have q1 : t / d < 4294967296 := Int.ediv_lt_of_lt_mul (by omega) (by omega)
   have r0 := Int.emod_nonneg t (show d ≠ 0 by omega)
   have r1 := Int.emod_lt_of_pos t (show 0 < d by omega)
   have qr := Int.mul_ediv_add_emod t d
   refine ok_ck (by omega) (ok_lv (ok_lv ?_))
   rw [Int.tdiv_eq_ediv_of_nonneg t0, show t / d % 18446744073709551616 = t / d by omega, show t / d % 4294967296 = t / d by omega]
   have ho : inb i o.length := ⟨hge, by omega⟩
   refine ok_ck ho (ok_lv (ok_lv (ok_ck (by omega) (ok_lv ?_))))
   rw [Int.tmod_eq_emod_of_nonneg t0]
   refine ok_ar (by omega) (ok_some ⟨⟨⟨by simp only; omega, by simp only; omega⟩, by simp only; rw [stt_length]; exact l1, Dg_stt d1 ho ⟨q0, q1⟩, ⟨r0, r1⟩, ?_, fun k hk hk2 => ?_⟩, by simp only; omega⟩)
   ·simp only
    rw [val_stt ho, z1 i hge (Int.le_refl _), show i - 1 + 1 = i by omega]
    rw [V_cut a hge, show (i + 1).toNat = i.toNat + 1 by omega, powB_succ] at e1
    generalize t / d = q at *
    generalize t % d = r at *
    grind
   ·simp only at hk2 ⊢
    rw [gt_stt o _ ho (by omega), if_neg (by omega)]
    exact z1 k hk (by omega)
  ·simp only
   rw [show (i + 1).toNat = 0 by omega, V_zero, Int.pow_zero] at e1
   omega
 rintro ⟨o, c⟩ ⟨d1, l1, e1, c0, c1⟩
 simp only at d1 l1 e1 c0 c1
 refine ok_lv (ok_some ⟨d1, l1, ?_, ?_⟩)
 ·simp only; rw [show c % 4294967296 = c by omega]; exact e1
 ·simp only; omega
/-! ### Bits -/
theorem len8_size : ks_633d862b.size = 256 := by decide +kernel
theorem len8_dec : ((List.range 256).all fun y => decide (0 ≤ byteAt ks_633d862b (y : Int) ∧ byteAt ks_633d862b (y : Int) ≤ 8) && decide ((y : Int) < 2 ^ (byteAt ks_633d862b (y : Int)).toNat) && (decide (y = 0) || decide ((2 : Int) ^ (byteAt ks_633d862b (y : Int)).toNat ≤ 2 * (y : Int)))) = true := by decide +kernel
theorem len8 {y : Int} (h0 : 0 ≤ y) (h1 : y < 256) : ∃ m : Nat, byteAt ks_633d862b y = (m : Int) ∧ m ≤ 8 ∧ y < 2 ^ m ∧ (1 ≤ y → (2 : Int) ^ m ≤ 2 * y) := by
 obtain ⟨k, rfl⟩ := Int.eq_ofNat_of_zero_le h0
 have := List.all_eq_true.1 len8_dec k (List.mem_range.2 (by omega))
 simp only [Bool.and_eq_true, Bool.or_eq_true, decide_eq_true_eq] at this
 obtain ⟨⟨⟨a, b⟩, c⟩, d⟩ := this
 exact ⟨(byteAt ks_633d862b (k : Int)).toNat, by omega, by omega, c, fun h => d.resolve_left (by omega)⟩
theorem Len32_ok {x : Int} (h0 : 0 ≤ x) (h1 : x < 4294967296) : Ok (P_math_bits_Len32 x) (fun r => ∃ n : Nat, r = (n : Int) ∧ n ≤ 32 ∧ x < 2 ^ n ∧ (1 ≤ x → (2 : Int) ^ n ≤ 2 * x)) := by
 unfold P_math_bits_Len32
 refine ok_bd (R := fun p => (p.2 = 0 ∧ p.1 = x ∧ x < 65536) ∨ (p.2 = 16 ∧ p.1 = x / 65536 ∧ 65536 ≤ x)) (ok_ite (fun h => ok_ck (by omega) (ok_lv (ok_some (.inr ⟨rfl, shr_u32_k (k := 16) (by omega), h⟩)))) fun h => ok_some (.inl ⟨rfl, rfl, by omega⟩)) ?_
 rintro ⟨y, n⟩ hy
 simp only at hy
 have hs : shr .u32 y 8 = y / 256 := shr_u32_k (k := 8) (by omega)
 refine ok_bd (R := fun p => (0 ≤ p.1 ∧ p.1 < 256) ∧ ((p.2 = 0 ∧ p.1 = x) ∨ (p.2 = 8 ∧ p.1 = x / 256 ∧ 256 ≤ x) ∨ (p.2 = 16 ∧ p.1 = x / 65536 ∧ 65536 ≤ x) ∨ (p.2 = 24 ∧ p.1 = x / 16777216 ∧ 16777216 ≤ x)))
  (ok_ite (fun h => ok_ck (by omega) (ok_lv (ok_ar (by omega) (ok_some ?_)))) fun h => ok_some ?_) ?_
 ·simp only
  rw [hs]; omega
 ·simp only; omega
 rintro ⟨z, k⟩ ⟨⟨z0, z1⟩, hz⟩
 simp only at z0 z1 hz
 dsimp only
 rw [show z % 256 = z by omega]
 obtain ⟨m, em, hm, m1, m2⟩ := len8 z0 z1
 refine ok_lv (ok_ck ⟨z0, by rw [len8_size]; omega⟩ (ok_lv ?_))
 rw [em]
 refine ok_ar (by omega) (ok_ar (by omega) (ok_some ?_))
 rcases hz with ⟨rfl, rfl⟩ | ⟨rfl, rfl, q⟩ | ⟨rfl, rfl, q⟩ | ⟨rfl, rfl, q⟩
 ·exact ⟨m, by omega, by omega, m1, m2⟩
 ·have m2 := m2 (by omega)
  have e : (2 : Int) ^ (8 + m) = 256 * 2 ^ m := by rw [Int.pow_add]; rfl
  exact ⟨8 + m, by omega, by omega, by rw [e]; omega, fun _ => by rw [e]; omega⟩
 ·have m2 := m2 (by omega)
  have e : (2 : Int) ^ (16 + m) = 65536 * 2 ^ m := by rw [Int.pow_add]; rfl
  exact ⟨16 + m, by omega, by omega, by rw [e]; omega, fun _ => by rw [e]; omega⟩
 ·have m2 := m2 (by omega)
  have e : (2 : Int) ^ (24 + m) = 16777216 * 2 ^ m := by rw [Int.pow_add]; rfl
  exact ⟨24 + m, by omega, by omega, by rw [e]; omega, fun _ => by rw [e]; omega⟩
theorem LZ_ok {x : Int} (h0 : 1 ≤ x) (h1 : x < 4294967296) : Ok (P_math_bits_LeadingZeros32 x) (fun r => ∃ k : Nat, r = (k : Int) ∧ k ≤ 31 ∧ 2147483648 ≤ x * 2 ^ k ∧ x * 2 ^ k < 4294967296) := by
 unfold P_math_bits_LeadingZeros32
 refine ok_bd (Len32_ok (by omega) h1) ?_
 rintro _ ⟨n, rfl, hn, a, b⟩
 have b := b h0
 refine ok_ar (by omega) (ok_some ⟨32 - n, by omega, ?_, ?_, ?_⟩)
 ·cases n with
  | zero => rw [Int.pow_zero] at a; omega
  | succ n => omega
 ·have e : (2 : Int) ^ n * 2 ^ (32 - n) = 4294967296 := by rw [← Int.pow_add, show n + (32 - n) = 32 by omega]; rfl
  have p : (0 : Int) < 2 ^ (32 - n) := Int.pow_pos (by decide)
  have := Int.mul_le_mul_of_nonneg_right b (Int.le_of_lt p)
  rw [e, Int.mul_assoc] at this
  omega
 ·have e : (2 : Int) ^ n * 2 ^ (32 - n) = 4294967296 := by rw [← Int.pow_add, show n + (32 - n) = 32 by omega]; rfl
  have p : (0 : Int) < 2 ^ (32 - n) := Int.pow_pos (by decide)
  have := Int.mul_lt_mul_of_pos_right a p
  rw [e] at this
  exact this
theorem Bits_ok {v : Int} (l : dlen v ≤ 1000000000) : Ok (P_exact_Bits (big v)) (fun r => 0 ≤ r ∧ r ≤ 32 * dlen v) := by
 have hl := big_len v
 unfold P_exact_Bits
 refine ok_ite (fun h => ok_some (by omega)) fun h => ok_ar (by omega) (ok_ar (by omega) (ok_ar (by omega) (ok_ck (by omega) (ok_lv ?_))))
 have g := big_Dg v (((big v).fmag.length : Int) - 1)
 refine ok_bd (Len32_ok g.1 g.2) ?_
 rintro _ ⟨n, rfl, hn, -, -⟩
 exact ok_ar (by omega) (ok_some (by omega))
theorem shifted_ok {a : List Int} {k : Nat} (ha : Dg a) (hk : k ≤ 31) (la : a.length ≤ 10000000000) : Ok (P_exact_shifted a (k : Int)) (fun r => Dg r ∧ r.length = a.length + 1 ∧ val r = val a * 2 ^ k) := by
 have hMK : (2 : Int) ^ (32 - k) * 2 ^ k = 4294967296 := by rw [← Int.pow_add, show 32 - k + k = 32 by omega]; rfl
 have pM : (0 : Int) < 2 ^ (32 - k) := Int.pow_pos (by decide)
 have pK : (0 : Int) < 2 ^ k := Int.pow_pos (by decide)
 have kB : (2 : Int) ^ k ≤ 2147483648 := by
  have := Nat.pow_le_pow_right (n := 2) (by decide) hk
  rw [pow_cast]; omega
 unfold P_exact_shifted
 refine ok_ar (by omega) (ok_ck (by simp only [mkOk]; omega) (ok_lv ?_))
 refine ok_bd (R := fun s => Dg s ∧ s.length = a.length + 1 ∧ val s = val a * 2 ^ k) ?_ fun s hs => ok_some hs
 refine ok_lp (fun s => (0 ≤ s.2 ∧ s.2 ≤ a.length) ∧ s.1.length = a.length + 1 ∧ Dg s.1 ∧ V s.1 (s.2 + 1).toNat = V a s.2.toNat * 2 ^ k ∧ gt s.1 s.2 < 2 ^ k ∧ ∀ j : Int, s.2 < j → gt s.1 j = 0)
  (fun s => ((a.length : Int) - s.2).toNat) ⟨⟨by simp, by simp only; omega⟩, by simp only [List.length_replicate]; omega, Dg_rep _, by simp [V_rep, V_zero], by simp only; rw [gt_replicate]; exact pK, fun j _ => gt_replicate _ _⟩ (by simp only; omega) ?_
 rintro ⟨o, i⟩ ⟨⟨i0, i1⟩, l1, d1, e1, g1, z1⟩
 simp only at i0 i1 l1 d1 e1 g1 z1
 unfold P_exact_shifted_L3
 dsimp only
 refine ok_ite (fun hlt => ?_) fun hge => ok_some ⟨d1, l1, ?_⟩
 ·have ga := ha i
  have go := d1 i
  have ho : inb i o.length := ⟨i0, by omega⟩
  generalize hM : (2 : Int) ^ (32 - k) = M at *
  generalize hK : (2 : Int) ^ k = K at *
  have s1 := shl_u32_k (x := gt a i) (k := k) (by omega)
  have s2 := shl_u64_k (x := gt a i) (k := k) (by omega)
  rw [hK] at s1 s2
  generalize hx : gt a i = x at *
  have hl0 : 0 ≤ x / M := Int.ediv_nonneg ga.1 (by omega)
  have hl1 : x / M < K := Int.ediv_lt_of_lt_mul pM (by rw [Int.mul_comm, hMK]; exact ga.2)
  have hh0 := Int.emod_nonneg x (show M ≠ 0 by omega)
  have hh1 := Int.emod_lt_of_pos x pM
  have hx2 := Int.mul_ediv_add_emod x M
  generalize x / M = lo at *
  generalize x % M = hi at *
  have e2 : x * K = lo * 4294967296 + hi * K := by rw [← hx2, ← hMK]; grind
  have b1 : 0 ≤ hi * K := Int.mul_nonneg hh0 (by omega)
  have b2 : hi * K + K ≤ 4294967296 := by
   have := Int.mul_le_mul_of_nonneg_right (show hi + 1 ≤ M by omega) (Int.le_of_lt pK)
   rw [Int.add_mul, hMK] at this; omega
  refine ok_ck ⟨i0, hlt⟩ (ok_lv (ok_ck ho (ok_lv (ok_ck (by omega) (ok_lv ?_)))))
  rw [s1, e2, show (lo * 4294967296 + hi * K) % 4294967296 = hi * K by omega]
  have e3 : bOr .u32 (gt o i) (hi * K) = hi * K + gt o i := by
   rw [← hK]
   exact or_lo ⟨go.1, by rw [hK]; exact g1⟩ hh0 (by rw [hK]; omega)
  rw [e3]
  have l2 : (stt o i (hi * K + gt o i)).length = o.length := stt_length _ _ _
  have ho2 : inb (i + 1) (stt o i (hi * K + gt o i)).length := ⟨by omega, by omega⟩
  refine ok_lv (ok_ck ho (ok_lv (ok_ar (by omega) (ok_lv (ok_ck (by omega) (ok_lv ?_))))))
  rw [show x % 18446744073709551616 = x by omega, s2, e2, show (lo * 4294967296 + hi * K) % 18446744073709551616 = lo * 4294967296 + hi * K by omega]
  refine ok_ck (by omega) (ok_lv ?_)
  rw [shr_u64_32, show (lo * 4294967296 + hi * K) / 4294967296 = lo by omega]
  refine ok_lv (ok_ck ho2 (ok_lv ?_))
  rw [show lo % 4294967296 = lo by omega]
  have d2 := Dg_stt d1 ho (x := hi * K + gt o i) (by omega)
  refine ok_ar (by omega) (ok_some ⟨⟨⟨by simp only; omega, by simp only; omega⟩, by simp only; rw [stt_length, stt_length]; exact l1, Dg_stt d2 ho2 (by omega), ?_, ?_, fun j hj => ?_⟩, by simp only; omega⟩)
  ·simp only
   rw [V_put ho2, V_put ho, V_cut a i0, hx, show (i + 1).toNat = i.toNat + 1 by omega, powB_succ]
   rw [V_cut o i0] at e1
   grind
  ·simp only
   rw [gt_stt _ _ ho2 (by omega), if_pos rfl]; exact hl1
  ·simp only at hj ⊢
   rw [gt_stt _ _ ho2 (by omega), if_neg (by omega), gt_stt _ _ ho (by omega), if_neg (by omega)]
   exact z1 j (by omega)
 ·rw [show i = (a.length : Int) by omega, show ((a.length : Int) + 1).toNat = o.length by omega, Int.toNat_natCast] at e1
  exact e1
end Go.Proofs.Ytfkncjfpgflafaa.X
namespace Go.Proofs.Ytfkncjfpgflafaa.X
open Go Go.RowKit
set_option linter.unusedVariables false
set_option linter.unusedSimpArgs false
set_option linter.unusedSectionVars false
/-- A small number has no high digits. -/
theorem gt_high {xs : List Int} (h : Dg xs) {m : Nat} (hv : val xs < 4294967296 ^ m) {k : Int} (hk : (m : Int) ≤ k) : gt xs k = 0 := by
 obtain ⟨k, rfl⟩ := Int.eq_ofNat_of_zero_le (show 0 ≤ k by omega)
 have hd := (h (k : Int)).1
 by_cases e : gt xs (k : Int) = 0
 ·exact e
 exfalso
 have h1 := V_mono h (n := k + 1) (m := max (k + 1) xs.length) (Nat.le_max_left _ _)
 rw [V_ge (Nat.le_max_right _ _), V_succ] at h1
 have h2 := (V_bound h k).1
 have h3 := powB_le (show m ≤ k by omega)
 have h4 := Int.mul_le_mul_of_nonneg_right (show (1 : Int) ≤ gt xs (k : Int) by omega) (Int.le_of_lt (powB k))
 omega
theorem val_small {xs : List Int} (h : Dg xs) {m : Nat} (hz : ∀ k : Int, (m : Int) ≤ k → gt xs k = 0) : val xs = V xs m ∧ val xs < 4294967296 ^ m := by
 have e : val xs = V xs m := by
  rcases Nat.lt_or_ge xs.length m with q | q
  ·exact (V_ge (by omega)).symm
  ·obtain ⟨d, hd⟩ : ∃ d, xs.length = m + d := ⟨xs.length - m, by omega⟩
   unfold val
   rw [hd]
   clear hd
   induction d with
   | zero => rfl
   | succ d ih => rw [← Nat.add_assoc, V_succ, ih, hz _ (by omega)]; simp
 rw [e]
 exact ⟨rfl, (V_bound h m).2⟩
section
variable {u v : List Int} {o m g : Int} {n : Nat} (hu : Dg u) (hv : Dg v) (ho : 0 ≤ o) (hm : m.toNat = n + 1) (hn : v.length = n) (hl : o + n + 1 ≤ u.length) (hL : u.length ≤ 100000000000)
include hu hv ho hm hn hl hL
theorem take_ok (hg : 0 ≤ g ∧ g < 4294967296) : Ok (P_exact_take u o m v g) (fun r => r.2.length = u.length ∧ Dg r.2 ∧ (∀ k : Int, o + n < k → gt r.2 k = gt u k) ∧ ∃ w : Int, (w = 0 ∨ w = -1) ∧ r.1 = decide (w < 0) ∧ val r.2 = val u - g * val v * 4294967296 ^ o.toNat - w * 4294967296 ^ (o + n + 1).toNat) := by
 unfold P_exact_take
 refine ok_bd (R := fun s => s.2.length = u.length ∧ Dg s.2 ∧ (∀ k : Int, o + n < k → gt s.2 k = gt u k) ∧ (s.1 = 0 ∨ s.1 = -1) ∧ val s.2 = val u - g * val v * 4294967296 ^ o.toNat - s.1 * 4294967296 ^ (o + n + 1).toNat) ?_ ?_
 ·refine ok_lp (fun s => (0 ≤ s.2.2.1 ∧ s.2.2.1 ≤ n + 1) ∧ s.2.2.2.length = u.length ∧ Dg s.2.2.2 ∧ ((0 ≤ s.1 ∧ s.1 < 4294967296) ∧ (s.2.2.1 = n + 1 → s.1 = 0)) ∧ (s.2.1 = 0 ∨ s.2.1 = -1) ∧
    val s.2.2.2 = val u - g * V v s.2.2.1.toNat * 4294967296 ^ o.toNat + s.1 * 4294967296 ^ (o + s.2.2.1).toNat - s.2.1 * 4294967296 ^ (o + s.2.2.1).toNat ∧ ∀ k : Int, o + s.2.2.1 ≤ k → gt s.2.2.2 k = gt u k)
   (fun s => ((n : Int) + 1 - s.2.2.1).toNat) ⟨⟨by simp, by simp only; omega⟩, rfl, hu, by simp only; omega, .inl rfl, by simp [V_zero], fun k _ => rfl⟩ (by simp only; omega) ?_
  rintro ⟨c, b, i, z⟩ ⟨⟨i0, i1⟩, l1, d1, ⟨⟨c0, c1⟩, c2⟩, hb, e1, z1⟩
  simp only at i0 i1 l1 d1 c0 c1 c2 hb e1 z1
  unfold P_exact_take_L4
  dsimp only
  refine ok_ite (fun hlt => ?_) fun hge => ok_some ⟨l1, d1, fun k hk => z1 k (by omega), hb, ?_⟩
  ·have gv := hv i
   obtain ⟨p0, p1⟩ := mul_dig hg gv
   refine ok_bd (R := fun r => r = c + g * gt v i) (ok_ite (fun h => ok_ck ⟨i0, h⟩ (ok_lv (ok_lv (ok_lv (ok_lv (ok_some ?_)))))) fun h => ok_some ?_) ?_
   ·rw [show gt v i % 18446744073709551616 = gt v i by omega]; omega
   ·rw [gt_past (xs := v) i0 (by omega)]; simp
   rintro _ rfl
   have hz : inb (o + i) z.length := ⟨by omega, by omega⟩
   have gz := d1 (o + i)
   refine ok_ck ⟨ho, i0, by omega⟩ (ok_ck hz (ok_lv (ok_ar (by omega) (ok_lv (ok_ar (by omega) (ok_ar (by omega) (ok_ar (by omega) (ok_lv (ok_ck ⟨ho, i0, by omega⟩ (ok_ck hz (ok_lv (ok_ck (by omega) (ok_lv (ok_ck (by omega) (ok_lv ?_)))))))))))))))
   rw [shr_i64_32, shr_u64_32]
   generalize ht : c + g * gt v i = t
   generalize hd : gt z (o + i) - t % 4294967296 + b = d
   have q1 : t % 4294967296 + 4294967296 * (t / 4294967296) = t := by omega
   have q2 : d % 4294967296 + 4294967296 * (d / 4294967296) = d := by omega
   refine ok_ar (by omega) (ok_some ⟨⟨⟨by simp only; omega, by simp only; omega⟩, by simp only; rw [stt_length]; exact l1, Dg_stt d1 hz (by omega), ⟨⟨by simp only; omega, by simp only; omega⟩, fun h => ?_⟩, by simp only; omega, ?_, fun k hk => ?_⟩, by simp only; omega⟩)
   ·simp only at h ⊢
    have hin : i = (n : Int) := by omega
    rw [gt_past (xs := v) i0 (by omega), Int.mul_zero] at ht
    omega
   ·simp only
    rw [val_stt hz, V_cut v i0, show o + (i + 1) = (o + i) + 1 by omega, show ((o + i) + 1).toNat = (o + i).toNat + 1 by omega, powB_succ, pow_two o i ho i0]
    rw [pow_two o i ho i0] at e1
    grind
   ·simp only at hk ⊢
    rw [gt_stt z _ hz (by omega), if_neg (by omega)]
    exact z1 k (by omega)
  ·simp only
   have hi : i = (n : Int) + 1 := by omega
   have hc := c2 hi
   rw [hc, hi, show o + ((n : Int) + 1) = o + n + 1 by omega, V_ge (by omega)] at e1
   rw [e1]; omega
 rintro ⟨b, z⟩ ⟨l1, d1, z1, hb, e1⟩
 exact ok_some ⟨l1, d1, z1, b, hb, rfl, e1⟩
theorem give_ok : Ok (P_exact_give u o m v) (fun r => r.length = u.length ∧ Dg r ∧ (∀ k : Int, o + n < k → gt r k = gt u k) ∧ ∃ c : Int, (c = 0 ∨ c = 1) ∧ val r = val u + val v * 4294967296 ^ o.toNat - c * 4294967296 ^ (o + n + 1).toNat) := by
 unfold P_exact_give
 refine ok_bd (R := fun r => r.length = u.length ∧ Dg r ∧ (∀ k : Int, o + n < k → gt r k = gt u k) ∧ ∃ c : Int, (c = 0 ∨ c = 1) ∧ val r = val u + val v * 4294967296 ^ o.toNat - c * 4294967296 ^ (o + n + 1).toNat) ?_ fun r hr => ok_some hr
 refine ok_lp (fun s => (0 ≤ s.2.1 ∧ s.2.1 ≤ n + 1) ∧ s.2.2.length = u.length ∧ Dg s.2.2 ∧ (s.1 = 0 ∨ s.1 = 1) ∧ val s.2.2 = val u + V v s.2.1.toNat * 4294967296 ^ o.toNat - s.1 * 4294967296 ^ (o + s.2.1).toNat ∧ ∀ k : Int, o + s.2.1 ≤ k → gt s.2.2 k = gt u k)
  (fun s => ((n : Int) + 1 - s.2.1).toNat) ⟨⟨by simp, by simp only; omega⟩, rfl, hu, .inl rfl, by simp [V_zero], fun k _ => rfl⟩ (by simp only; omega) ?_
 rintro ⟨c, i, z⟩ ⟨⟨i0, i1⟩, l1, d1, hc, e1, z1⟩
 simp only at i0 i1 l1 d1 hc e1 z1
 unfold P_exact_give_L2
 dsimp only
 refine ok_ite (fun hlt => ?_) fun hge => ok_some ⟨l1, d1, fun k hk => z1 k (by omega), c, hc, ?_⟩
 ·have gv := hv i
  have hz : inb (o + i) z.length := ⟨by omega, by omega⟩
  have gz := d1 (o + i)
  refine ok_ck ⟨ho, i0, by omega⟩ (ok_ck hz (ok_lv (ok_lv (ok_lv (ok_bd (R := fun r => r = c + gt z (o + i) + gt v i) (ok_ite (fun h => ok_ck ⟨i0, h⟩ (ok_lv (ok_lv (ok_lv (ok_some (by omega)))))) fun h => ok_some ?_) ?_)))))
  ·rw [gt_past (xs := v) i0 (by omega)]; omega
  rintro _ rfl
  refine ok_lv (ok_ck ⟨ho, i0, by omega⟩ (ok_ck hz (ok_lv (ok_ck (by omega) (ok_lv ?_)))))
  rw [shr_u64_32]
  generalize ht : c + gt z (o + i) + gt v i = t
  have q1 : t % 4294967296 + 4294967296 * (t / 4294967296) = t := by omega
  refine ok_ar (by omega) (ok_some ⟨⟨⟨by simp only; omega, by simp only; omega⟩, by simp only; rw [stt_length]; exact l1, Dg_stt d1 hz (by omega), by simp only; omega, ?_, fun k hk => ?_⟩, by simp only; omega⟩)
  ·simp only
   rw [val_stt hz, V_cut v i0, show o + (i + 1) = (o + i) + 1 by omega, show ((o + i) + 1).toNat = (o + i).toNat + 1 by omega, powB_succ, pow_two o i ho i0]
   rw [pow_two o i ho i0] at e1
   grind
  ·simp only at hk ⊢
   rw [gt_stt z _ hz (by omega), if_neg (by omega)]
   exact z1 k (by omega)
 ·have hi : i = (n : Int) + 1 := by omega
  rw [hi, show o + ((n : Int) + 1) = o + n + 1 by omega, V_ge (by omega)] at e1
  exact e1
end
/-! ### A digit of the quotient -/
section
variable {u v : List Int} {j U W P u0 u1 u2 v1 v2 : Int} {n : Nat} (hu : Dg u) (hv : Dg v) (hn : v.length = n) (hn2 : 2 ≤ n) (hj : 0 ≤ j) (hl : j + n + 1 ≤ u.length) (hL : u.length ≤ 100000000000) (hL2 : n ≤ 100000000000)
 (g0 : gt u (j + n) = u0) (g1 : gt u (j + n - 1) = u1) (g2 : gt u (j + n - 2) = u2) (f1 : gt v ((n : Int) - 1) = v1) (f2 : gt v ((n : Int) - 2) = v2) (hv1 : 2147483648 ≤ v1)
 (hP : 0 < P) (hU1 : P * ((u0 * 4294967296 + u1) * 4294967296 + u2) ≤ U) (hU2 : U < P * ((u0 * 4294967296 + u1) * 4294967296 + u2 + 1)) (hW1 : P * (v1 * 4294967296 + v2) ≤ W) (hW2 : W < P * (v1 * 4294967296 + v2 + 1)) (hUW : U < W * 4294967296)
include hu hv hn hn2 hj hl hL hL2 g0 g1 g2 f1 f2 hv1 hP hU1 hU2 hW1 hW2 hUW
theorem guess_ok : Ok (lp (P_exact_divMag_L15 v u j) fuel ((u0 * 4294967296 + u1) / v1, (u0 * 4294967296 + u1) % v1)) (fun g => (0 ≤ g ∧ g < 4294967296) ∧ g * (v1 * 4294967296 + v2) ≤ (u0 * 4294967296 + u1) * 4294967296 + u2 ∧ U < (g + 1) * W) := by
 have a0 := hu (j + n); have a1 := hu (j + n - 1); have a2 := hu (j + n - 2)
 have b1 := hv ((n : Int) - 1); have b2 := hv ((n : Int) - 2)
 rw [g0] at a0; rw [g1] at a1; rw [g2] at a2; rw [f1] at b1; rw [f2] at b2
 generalize hT : u0 * 4294967296 + u1 = T at *
 have hT0 : 0 ≤ T := by omega
 have hW0 : 0 ≤ W := Int.le_trans (Int.mul_nonneg (Int.le_of_lt hP) (by omega)) hW1
 have hTv : T ≤ v1 * 4294967296 + v2 := by
  have h1 : P * (T * 4294967296) ≤ P * (T * 4294967296 + u2) := Int.mul_le_mul_of_nonneg_left (by omega) (Int.le_of_lt hP)
  have h2 : P * (T * 4294967296) < P * ((v1 * 4294967296 + v2 + 1) * 4294967296) := by rw [← Int.mul_assoc P (v1 * 4294967296 + v2 + 1)]; omega
  have := Int.lt_of_mul_lt_mul_left h2 (Int.le_of_lt hP)
  omega
 have q0 : 0 ≤ T / v1 := Int.ediv_nonneg hT0 (by omega)
 have q1 : T / v1 < 4294967298 := Int.ediv_lt_of_lt_mul (by omega) (by omega)
 have r0 := Int.emod_nonneg T (show v1 ≠ 0 by omega)
 have r1 := Int.emod_lt_of_pos T (show 0 < v1 by omega)
 have qr := Int.mul_ediv_add_emod T v1
 have start : U < (T / v1 + 1) * W := by
  have h1 : T + 1 ≤ (T / v1 + 1) * v1 := by rw [Int.add_mul, Int.mul_comm (T / v1)]; omega
  have h2 : T * 4294967296 + u2 + 1 ≤ (T / v1 + 1) * (v1 * 4294967296 + v2) := by
   have h3 : 0 ≤ (T / v1 + 1) * v2 := Int.mul_nonneg (by omega) b2.1
   rw [Int.mul_add, ← Int.mul_assoc]; omega
  have h4 := Int.mul_le_mul_of_nonneg_left h2 (Int.le_of_lt hP)
  have h5 := Int.mul_le_mul_of_nonneg_left hW1 (show 0 ≤ T / v1 + 1 by omega)
  rw [Int.mul_left_comm] at h5
  omega
 refine ok_lp (fun s => (0 ≤ s.1 ∧ s.1 < 4294967298) ∧ (0 ≤ s.2 ∧ s.2 < 4294967296) ∧ s.2 = T - s.1 * v1 ∧ U < (s.1 + 1) * W) (fun s => s.1.toNat) ⟨⟨q0, q1⟩, ⟨r0, by simp only; omega⟩, by simp only; rw [Int.mul_comm]; omega, start⟩ (by simp only; omega) ?_
 rintro ⟨g, c⟩ ⟨⟨g0', g1'⟩, ⟨c0, c1⟩, ec, hg⟩
 simp only at g0' g1' c0 c1 ec hg
 unfold P_exact_divMag_L15
 dsimp only
 refine ok_ck (by omega) (ok_lv ?_)
 rw [shr_u64_32]
 refine ok_ck (fun _ => by omega) (ok_lv (ok_ck (fun _ => ⟨by omega, by omega⟩) (ok_lv (ok_lv (ok_lv (ok_ck (fun _ => by omega) (ok_lv (ok_ck (fun _ => by omega) (ok_lv (ok_ck (fun _ => by omega) (ok_lv (ok_ck (fun _ => ⟨by omega, by omega⟩) (ok_lv (ok_lv ?_))))))))))))))
 rw [hn, f2, g2, show v2 % 18446744073709551616 = v2 by omega, show u2 % 18446744073709551616 = u2 by omega, or_hi ⟨c0, c1⟩ a2]
 refine ok_lv (ok_lv (ok_ite (fun ht => ?_) fun ht => ok_some ?_))
 ·simp only [Bool.or_eq_true, decide_eq_true_eq] at ht
  have hgW : U < g * W := by
   by_cases hB : 4294967296 ≤ g
   ·have := Int.mul_le_mul_of_nonneg_right hB hW0
    rw [Int.mul_comm 4294967296] at this; omega
   ·have hp := mul_dig (x := g) (y := v2) ⟨g0', by omega⟩ b2
    have h1 : c * 4294967296 + u2 < g * v2 := by
     rcases ht with q | q
     ·omega
     ·omega
    have h2 : T * 4294967296 + u2 + 1 ≤ g * (v1 * 4294967296 + v2) := by
     rw [Int.mul_add, ← Int.mul_assoc]; omega
    have h4 := Int.mul_le_mul_of_nonneg_left h2 (Int.le_of_lt hP)
    have h5 := Int.mul_le_mul_of_nonneg_left hW1 g0'
    rw [Int.mul_left_comm] at h5
    omega
  have hg1 : 1 ≤ g := by
   rcases Int.lt_or_le 0 g with q | q
   ·exact q
   ·have e : g = 0 := by omega
    subst e
    exfalso
    have hU0 : 0 ≤ U := Int.le_trans (Int.mul_nonneg (Int.le_of_lt hP) (by omega)) hU1
    omega
  refine ok_lv (ok_ar (by omega) (ok_ck ⟨by omega, by omega⟩ (ok_lv ?_)))
  rw [f1, show v1 % 18446744073709551616 = v1 by omega]
  refine ok_lv (ok_lv (ok_ck (by omega) (ok_lv ?_)))
  rw [shr_u64_32, show (c + v1) % 18446744073709551616 = c + v1 by omega, show (g - 1) % 18446744073709551616 = g - 1 by omega]
  have e2 : c + v1 = T - (g - 1) * v1 := by rw [Int.sub_mul]; omega
  have hgW' : U < (g - 1 + 1) * W := by rw [show g - 1 + 1 = g by omega]; exact hgW
  refine ok_ite (fun hov => ok_some ⟨⟨by omega, ?_⟩, ?_, hgW'⟩) fun hov => ok_some ⟨⟨⟨by simp only; omega, by simp only; omega⟩, ⟨by simp only; omega, by simp only; omega⟩, e2, hgW'⟩, by simp only; omega⟩
  ·rcases Int.lt_or_le (g - 1) 4294967296 with q | q
   ·exact q
   ·exfalso
    have := Int.mul_le_mul_of_nonneg_right q (show 0 ≤ v1 by omega)
    omega
  ·have hb : g - 1 < 4294967296 := by
    rcases Int.lt_or_le (g - 1) 4294967296 with q | q
    ·exact q
    ·exfalso
     have := Int.mul_le_mul_of_nonneg_right q (show 0 ≤ v1 by omega)
     omega
   have hp := mul_dig (x := g - 1) (y := v2) ⟨by omega, hb⟩ b2
   rw [Int.mul_add, ← Int.mul_assoc]
   omega
 ·simp only [Bool.or_eq_true, decide_eq_true_eq, not_or] at ht
  obtain ⟨t1, t2⟩ := ht
  have hb : g < 4294967296 := by omega
  have hp := mul_dig (x := g) (y := v2) ⟨g0', hb⟩ b2
  refine ⟨⟨g0', hb⟩, ?_, hg⟩
  rw [Int.mul_add, ← Int.mul_assoc]
  omega
end
end Go.Proofs.Ytfkncjfpgflafaa.X
namespace Go.Proofs.Ytfkncjfpgflafaa.X
open Go Go.RowKit
set_option linter.unusedVariables false
set_option linter.unusedSimpArgs false
set_option linter.unusedSectionVars false
theorem V_two (xs : List Int) {n : Nat} (h : 2 ≤ n) : V xs n = V xs (n - 2) + 4294967296 ^ (n - 2) * (gt xs ((n : Int) - 1) * 4294967296 + gt xs ((n : Int) - 2)) := by
 obtain ⟨m, rfl⟩ : ∃ m, n = m + 2 := ⟨n - 2, by omega⟩
 rw [show m + 2 = m + 1 + 1 from rfl, V_succ, V_succ, powB_succ, show m + 1 + 1 - 2 = m by omega, show ((m + 1 + 1 : Nat) : Int) - 1 = ((m + 1 : Nat) : Int) by omega, show ((m + 1 + 1 : Nat) : Int) - 2 = (m : Int) by omega]
 grind
/-- One digit of the quotient. -/
theorem digit_ok {v : List Int} {n : Nat} (hv : Dg v) (hn : v.length = n) (hn2 : 2 ≤ n) (hL2 : n ≤ 10000000000) (hv1 : 2147483648 ≤ gt v ((n : Int) - 1)) {u q : List Int} {j : Int} (hu : Dg u) (hq : Dg q) (hj : 0 ≤ j) (hl : j + n + 1 ≤ u.length) (hL : u.length ≤ 100000000000) (hjq : j < q.length)
  (hz : ∀ k : Int, 0 ≤ k → k ≤ j → gt q k = 0) (hlt : val u < val v * 4294967296 ^ (j + 1).toNat) :
  Ok (P_exact_divMag_L11 v (u, q, j)) (fun o => ∃ u' q', o = Sum.inl (u', q', j - 1) ∧ u'.length = u.length ∧ q'.length = q.length ∧ Dg u' ∧ Dg q' ∧ val u' + val v * val q' = val u + val v * val q ∧ val u' < val v * 4294967296 ^ j.toNat ∧ ∀ k : Int, 0 ≤ k → k ≤ j - 1 → gt q' k = 0) := by
 have hp := powB j.toNat
 have hvn : val v < 4294967296 ^ n := by have := (val_bound hv).2; rwa [hn] at this
 have hv0 := (val_bound hv).1
 have hu0 := (val_bound hu).1
 have ejn : (4294967296 : Int) ^ (j + n + 1).toNat = 4294967296 ^ n * 4294967296 ^ (j + 1).toNat := by rw [← powB_add]; congr 1; omega
 have ej1 : (4294967296 : Int) ^ (j + 1).toNat = 4294967296 ^ j.toNat * 4294967296 := by rw [← powB_succ]; congr 1; omega
 have hub : val u < 4294967296 ^ (j + n + 1).toNat := by
  have := Int.mul_le_mul_of_nonneg_right (Int.le_of_lt hvn) (Int.le_of_lt (powB (j + 1).toNat))
  rw [ejn]; omega
 have htop : ∀ k : Int, j + n < k → gt u k = 0 := fun k hk => gt_high hu hub (by omega)
 have uV : val u = V u (j + n + 1).toNat := (val_small hu (m := (j + n + 1).toNat) fun k hk => htop k (by omega)).1
 have uS : val u = V u (j + n).toNat + gt u (j + n) * 4294967296 ^ (j + n).toNat := by rw [uV, V_cut u (show 0 ≤ j + n by omega)]
 have uT := V_two u (n := (j + n).toNat) (by omega)
 rw [show (((j + n).toNat : Nat) : Int) - 1 = j + n - 1 by omega, show (((j + n).toNat : Nat) : Int) - 2 = j + n - 2 by omega] at uT
 have vT : val v = V v (n - 2) + 4294967296 ^ (n - 2) * (gt v ((n : Int) - 1) * 4294967296 + gt v ((n : Int) - 2)) := by
  have := V_two v hn2
  rw [← this]; unfold val; rw [hn]
 have LU := V_bound hu ((j + n).toNat - 2)
 have LV := V_bound hv (n - 2)
 have ePP : (4294967296 : Int) ^ ((j + n).toNat - 2) = 4294967296 ^ (n - 2) * 4294967296 ^ j.toNat := by rw [← powB_add]; congr 1; omega
 have ePn : (4294967296 : Int) ^ (j + n).toNat = 4294967296 ^ ((j + n).toNat - 2) * 18446744073709551616 := by
  rw [show (j + n).toNat = (j + n).toNat - 2 + 1 + 1 by omega, powB_succ, powB_succ, Int.mul_assoc, show (j + n).toNat - 2 + 1 + 1 - 2 = (j + n).toNat - 2 by omega]; rfl
 have hP := powB ((j + n).toNat - 2)
 have a0 := hu (j + n)
 have a1 := hu (j + n - 1)
 have a2 := hu (j + n - 2)
 have b1 := hv ((n : Int) - 1)
 have b2 := hv ((n : Int) - 2)
 have G := guess_ok (u := u) (v := v) (j := j) (U := val u) (W := val v * 4294967296 ^ j.toNat) (P := 4294967296 ^ ((j + n).toNat - 2)) hu hv hn hn2 hj hl hL (by omega) rfl rfl rfl rfl rfl hv1 hP
  (by rw [uS, uT, ePn]; grind)
  (by rw [uS, uT, ePn]; grind)
  (by
   rw [vT, ePP]
   have := Int.mul_nonneg LV.1 (Int.le_of_lt hp)
   grind)
  (by
   rw [vT, ePP]
   have := Int.mul_lt_mul_of_pos_right LV.2 hp
   grind)
  (by rw [Int.mul_assoc, ← ej1]; exact hlt)
 have hT0 : 0 ≤ gt u (j + n) * 4294967296 + gt u (j + n - 1) := by omega
 have hT1 : gt u (j + n) * 4294967296 + gt u (j + n - 1) < 18446744073709551616 := by omega
 unfold P_exact_divMag_L11
 dsimp only
 rw [hn]
 refine ok_t hj (ok_ar (by omega) (ok_ck ⟨by omega, by omega⟩ (ok_lv (ok_lv (ok_ck (by omega) (ok_lv (ok_ar (by omega) (ok_ar (by omega) (ok_ck ⟨by omega, by omega⟩ (ok_lv (ok_lv ?_)))))))))))
 rw [show gt u (j + n) % 18446744073709551616 = gt u (j + n) by omega, show gt u (j + n - 1) % 18446744073709551616 = gt u (j + n - 1) by omega, or_hi a0 a1]
 refine ok_lv (ok_ar (by omega) (ok_ck ⟨by omega, by omega⟩ (ok_lv (ok_lv ?_))))
 rw [show gt v ((n : Int) - 1) % 18446744073709551616 = gt v ((n : Int) - 1) by omega]
 refine ok_ck (by omega) (ok_lv ?_)
 rw [Int.tdiv_eq_ediv_of_nonneg hT0, show ((gt u (j + n) * 4294967296 + gt u (j + n - 1)) / gt v ((n : Int) - 1)) % 18446744073709551616 = (gt u (j + n) * 4294967296 + gt u (j + n - 1)) / gt v ((n : Int) - 1) from
  Int.emod_eq_of_lt (Int.ediv_nonneg hT0 (by omega)) (Int.lt_of_le_of_lt (Int.ediv_le_self _ hT0) hT1)]
 refine ok_ar (by omega) (ok_ck ⟨by omega, by omega⟩ (ok_lv (ok_lv ?_)))
 rw [show gt v ((n : Int) - 1) % 18446744073709551616 = gt v ((n : Int) - 1) by omega]
 refine ok_ck (by omega) (ok_lv ?_)
 rw [Int.tmod_eq_emod_of_nonneg hT0]
 refine ok_bd G ?_
 rintro g ⟨⟨g0, g1⟩, gT, gU⟩
 have gL : (g - 1) * (val v * 4294967296 ^ j.toNat) ≤ val u := by
  by_cases h0 : g = 0
  ·subst h0
   have := Int.mul_nonneg hv0 (Int.le_of_lt hp)
   omega
  ·have hW2 : val v * 4294967296 ^ j.toNat ≤ 4294967296 ^ ((j + n).toNat - 2) * (gt v ((n : Int) - 1) * 4294967296 + gt v ((n : Int) - 2) + 1) := by
    rw [vT, ePP]
    have := Int.mul_lt_mul_of_pos_right LV.2 hp
    grind
   have h1 := Int.mul_le_mul_of_nonneg_left hW2 (show 0 ≤ g - 1 by omega)
   have h2 : (g - 1) * (gt v ((n : Int) - 1) * 4294967296 + gt v ((n : Int) - 2) + 1) ≤ (gt u (j + n) * 4294967296 + gt u (j + n - 1)) * 4294967296 + gt u (j + n - 2) := by
    rw [Int.sub_mul, Int.mul_add]; omega
   have h3 := Int.mul_le_mul_of_nonneg_left h2 (Int.le_of_lt hP)
   rw [Int.mul_left_comm] at h3
   have h4 : (4294967296 : Int) ^ ((j + n).toNat - 2) * ((gt u (j + n) * 4294967296 + gt u (j + n - 1)) * 4294967296 + gt u (j + n - 2)) ≤ val u := by
    rw [uS, uT, ePn]; grind
   omega
 refine ok_ar (by omega) (ok_ar (by omega) (ok_ck ⟨⟨hj, by omega⟩, by omega, by omega⟩ (ok_lv ?_)))
 refine ok_bd (take_ok (n := n) hu hv hj (by omega) hn hl hL ⟨g0, g1⟩) ?_
 rintro ⟨t, u1⟩ ⟨l1, d1, z1, w, hw, ht, e1⟩
 simp only at l1 d1 z1 ht e1
 dsimp only
 have s1 := (val_small d1 (m := (j + n + 1).toNat) fun k hk => by rw [z1 k (by omega), htop k (by omega)]).2
 have v1' := (val_bound d1).1
 generalize hWW : val v * 4294967296 ^ j.toNat = W at *
 rw [Int.mul_assoc, hWW] at e1
 refine ok_bd (R := fun p => p.1.length = u.length ∧ Dg p.1 ∧ (0 ≤ p.2 ∧ p.2 < 4294967296) ∧ val p.1 = val u - p.2 * W ∧ val p.1 < W) (ok_ite (fun hc => ?_) fun hc => ok_some ?_) ?_
 ·rw [ht, decide_eq_true_eq] at hc
  have hw1 : w = -1 := by omega
  subst hw1
  have hlt2 : val u < g * W := by omega
  have hg1 : 1 ≤ g := by
   rcases Int.lt_or_le 0 g with q | q
   ·exact q
   ·exfalso
    have h00 : g = 0 := by omega
    rw [h00] at hlt2; omega
  refine ok_lv (ok_ar (by omega) (ok_ar (by omega) (ok_ck ⟨⟨hj, by omega⟩, by omega, by omega⟩ (ok_lv ?_))))
  refine ok_bd (give_ok (n := n) d1 hv hj (by omega) hn (by omega) (by omega)) ?_
  rintro u2 ⟨l2, d2, z2, c, hc2, e2⟩
  have s2 := (val_small d2 (m := (j + n + 1).toNat) fun k hk => by rw [z2 k (by omega), z1 k (by omega), htop k (by omega)]).2
  have v2' := (val_bound d2).1
  rw [hWW] at e2
  have eg : (g - 1) * W = g * W - W := by rw [Int.sub_mul]; omega
  have hc1 : c = 1 := by
   rcases hc2 with h | h
   ·exfalso
    subst h
    rw [e2, e1] at s2
    omega
   ·exact h
  subst hc1
  refine ok_some ⟨by simp only; omega, d2, ?_, ?_, ?_⟩
  ·simp only; omega
  ·simp only; rw [show (g - 1) % 18446744073709551616 = g - 1 by omega, e2, e1]; omega
  ·simp only; rw [e2, e1]; omega
 ·have hw0 : w = 0 := by
   rcases hw with h | h
   ·exact h
   ·exfalso; rw [ht, h] at hc; exact hc (by decide)
  subst hw0
  have eg : (g + 1) * W = g * W + W := by rw [Int.add_mul]; omega
  refine ⟨by simp only; omega, d1, ⟨g0, g1⟩, ?_, ?_⟩
  ·simp only; rw [e1]; omega
  ·simp only; rw [e1]; omega
 rintro ⟨u2, h⟩ ⟨l2, d2, ⟨h0, h1⟩, e2, s2⟩
 simp only at l2 d2 h0 h1 e2 s2
 have hjq' : inb j q.length := ⟨hj, hjq⟩
 refine ok_lv (ok_ck hjq' (ok_lv (ok_ar (by omega) (ok_some ⟨_, _, rfl, l2, stt_length _ _ _, d2, Dg_stt hq hjq' (by omega), ?_, s2, fun k hk hk2 => ?_⟩))))
 ·rw [val_stt hjq', hz j hj (Int.le_refl _), show h % 4294967296 = h by omega, e2, ← hWW]
  grind
 ·rw [gt_stt q _ hjq' hk, if_neg (by omega)]
  exact hz k hk (by omega)
/-- A number whose lowest bits are its lowest digit's. -/
theorem V_mod (xs : List Int) (n : Nat) : ∃ c, V xs (n + 1) = gt xs 0 + 4294967296 * c := by
 induction n with
 | zero => exact ⟨0, by rw [V_succ, V_zero]; simp⟩
 | succ n ih =>
  obtain ⟨c, e⟩ := ih
  exact ⟨c + gt xs ((n + 1 : Nat) : Int) * 4294967296 ^ n, by rw [V_succ, e, powB_succ]; grind⟩
/-- The rest is shifted back. -/
theorem unshift_ok {u v : List Int} {k n : Nat} {r : Int} (hu : Dg u) (hn : v.length = n) (hk : k ≤ 31) (hn1 : 1 ≤ n) (hl : n + 1 ≤ u.length) (hL : u.length ≤ 100000000000) (hr : val u = r * 2 ^ k) (hub : val u < 4294967296 ^ n) :
  Ok (lp (P_exact_divMag_L24 (k : Int) v) fuel (u, 0)) (fun z => z.length = u.length ∧ Dg z ∧ V z n = r) := by
 have hMK : (2 : Int) ^ (32 - k) * 2 ^ k = 4294967296 := by rw [← Int.pow_add, show 32 - k + k = 32 by omega]; rfl
 have pM : (0 : Int) < 2 ^ (32 - k) := Int.pow_pos (by decide)
 have pK : (0 : Int) < 2 ^ k := Int.pow_pos (by decide)
 have lo0 : gt u 0 % 2 ^ k = 0 := by
  obtain ⟨c, e⟩ := V_mod u (u.length - 1)
  rw [show u.length - 1 + 1 = u.length by omega, show V u u.length = val u from rfl, hr, ← hMK] at e
  have e2 : gt u 0 = (r - 2 ^ (32 - k) * c) * 2 ^ k := by grind
  rw [e2]; exact Int.mul_emod_left _ _
 have hpos : 0 ≤ val u := (val_bound hu).1
 refine ok_lp (fun s => (0 ≤ s.2 ∧ s.2 ≤ n) ∧ s.1.length = u.length ∧ Dg s.1 ∧ 2 ^ k * V s.1 s.2.toNat = V u s.2.toNat + (gt u s.2 % 2 ^ k) * 4294967296 ^ s.2.toNat ∧ ∀ i : Int, s.2 ≤ i → gt s.1 i = gt u i)
  (fun s => ((n : Int) - s.2).toNat) ⟨⟨by simp, by simp only; omega⟩, rfl, hu, by simp [V_zero, lo0], fun i _ => rfl⟩ (by simp only; omega) ?_
 rintro ⟨z, i⟩ ⟨⟨i0, i1⟩, l1, d1, e1, z1⟩
 simp only at i0 i1 l1 d1 e1 z1
 unfold P_exact_divMag_L24
 dsimp only
 rw [hn]
 refine ok_ite (fun hlt => ?_) fun hge => ok_some ⟨l1, d1, ?_⟩
 ·have hi : inb i z.length := ⟨i0, by omega⟩
  have hi1 : inb (i + 1) z.length := ⟨by omega, by omega⟩
  have ga := hu i
  have gb := hu (i + 1)
  refine ok_ck hi (ok_lv (ok_ck (by omega) (ok_lv (ok_ar (by omega) (ok_ck hi1 (ok_lv (ok_lv (ok_ck (by omega) (ok_lv (ok_ck (by omega) (ok_lv (ok_lv ?_))))))))))))
  rw [z1 i (Int.le_refl _), z1 (i + 1) (by omega)]
  generalize hx : gt u i = x at *
  generalize hy : gt u (i + 1) = y at *
  have s1 := shr_u32_k (x := x) (k := k) (by omega)
  have s2 : shl .u64 (y % 18446744073709551616) 32 = y * 4294967296 := by rw [shl_u64_32, show y % 18446744073709551616 = y by omega]; omega
  have s3 := shr_u64_k (x := y * 4294967296) (k := k) (by omega)
  rw [s1, s2, s3]
  generalize hM : (2 : Int) ^ (32 - k) = M at *
  generalize hK : (2 : Int) ^ k = K at *
  have y1 := Int.mul_ediv_add_emod y K
  have y2 := Int.emod_nonneg y (show K ≠ 0 by omega)
  have y3 := Int.emod_lt_of_pos y pK
  have x1 := Int.mul_ediv_add_emod x K
  have x2 := Int.emod_nonneg x (show K ≠ 0 by omega)
  have x3 := Int.emod_lt_of_pos x pK
  have x4 : 0 ≤ x / K := Int.ediv_nonneg ga.1 (by omega)
  have x5 : x / K < M := Int.ediv_lt_of_lt_mul pK (by rw [hMK]; exact ga.2)
  have e3 : y * 4294967296 / K = y * M := by
   rw [← hMK, ← Int.mul_assoc]; exact Int.mul_ediv_cancel _ (by omega)
  have e4 : y * M % 4294967296 = (y % K) * M := by
   have h1 : y * M = 4294967296 * (y / K) + (y % K) * M := by rw [← hMK]; grind
   have h2 : 0 ≤ (y % K) * M := Int.mul_nonneg y2 (by omega)
   have h3 : (y % K) * M < 4294967296 := by
    have := Int.mul_lt_mul_of_pos_right y3 pM
    rw [Int.mul_comm K, hMK] at this; exact this
   rw [h1]; omega
  have h5 : 0 ≤ (y % K) * M := Int.mul_nonneg y2 (by omega)
  have h6 : (y % K) * M + M ≤ 4294967296 := by
   have := Int.mul_le_mul_of_nonneg_right (show y % K + 1 ≤ K by omega) (Int.le_of_lt pM)
   rw [Int.add_mul, Int.mul_comm K, hMK] at this; omega
  have e5 : bOr .u32 (x / K) ((y % K) * M) = (y % K) * M + x / K := by
   rw [← hM]
   exact or_lo ⟨x4, by rw [hM]; exact x5⟩ y2 (by rw [hM]; omega)
  rw [e3, e4, e5]
  refine ok_lv (ok_ck hi (ok_lv (ok_ar (by omega) (ok_some ⟨⟨⟨by simp only; omega, by simp only; omega⟩, by simp only; rw [stt_length]; exact l1, Dg_stt d1 hi (by omega), ?_, fun m hm => ?_⟩, by simp only; omega⟩))))
  ·simp only
   rw [hy, V_put hi, V_cut u i0, hx, show (i + 1).toNat = i.toNat + 1 by omega, powB_succ]
   have e6 : K * ((y % K) * M) = (y % K) * 4294967296 := by rw [← hMK]; grind
   grind
  ·simp only at hm ⊢
   rw [gt_stt z _ hi (by omega), if_neg (by omega)]
   exact z1 m (by omega)
 ·have hin : i = (n : Int) := by omega
  subst hin
  have ht := gt_high hu hub (Int.le_refl (n : Int))
  have hs := (val_small hu (m := n) fun k hk => gt_high hu hub hk).1
  rw [ht, Int.toNat_natCast, ← hs, hr] at e1
  rw [show (0 : Int) % 2 ^ k = 0 from Int.zero_emod _, Int.zero_mul, Int.add_zero, Int.mul_comm] at e1
  exact Int.eq_of_mul_eq_mul_right (by omega) e1
theorem divMag_ok {a b : List Int} (ha : Dg a) (hb : Dg b) (na : Nz a) (nb : Nz b) (hb0 : b ≠ []) (la : a.length ≤ 1000000000) (lb : b.length ≤ 1000000000) :
  Ok (P_exact_divMag a b) (fun r => Dg r.1 ∧ Dg r.2 ∧ val a = val b * val r.1 + val r.2 ∧ val r.2 < val b ∧ r.1.length ≤ 10000000000 ∧ r.2.length ≤ 10000000000) := by
 have hbl : 0 < b.length := List.length_pos_iff.2 hb0
 unfold P_exact_divMag
 refine ok_bd (cmpMag_ok ha hb na nb (by omega) (by omega)) ?_
 rintro _ rfl
 refine ok_ite (fun hc => ok_some ⟨Dg_nil, ha, ?_, ?_, by simp, by simp only; omega⟩) fun hc => ?_
 ·simp [show val [] = 0 from rfl]
 ·simp only
  rcases Int.lt_or_le (val a) (val b) with q | q
  ·exact q
  ·exfalso
   rcases Int.lt_or_le 0 (val a - val b) with p | p
   ·rw [Int.sign_eq_one_of_pos p] at hc; omega
   ·rw [show val a - val b = 0 by omega] at hc; exact absurd hc (by decide)
 have hab : val b ≤ val a := by
  rcases Int.lt_or_le (val a) (val b) with q | q
  ·exact absurd (by rw [Int.sign_eq_neg_one_of_neg (by omega)]; omega) hc
  ·exact q
 have tb := hb ((b.length : Int) - 1)
 have tb1 : 1 ≤ gt b ((b.length : Int) - 1) := by have := nb hb0; omega
 refine ok_ite (fun h1 => ?_) fun h1 => ?_
 ·have h1' : b.length = 1 := by omega
  have e0 : val b = gt b 0 := by
   unfold val; rw [h1', V_succ, V_zero]; simp
  have tb' : 1 ≤ gt b 0 := by rw [h1'] at tb1; exact tb1
  refine ok_ck ⟨by omega, by omega⟩ (ok_lv (ok_bd (divSmall_ok ha ⟨tb', (hb 0).2⟩ (by omega)) ?_))
  rintro ⟨q, r⟩ ⟨d, l, e, r0, r1⟩
  simp only at d l e r0 r1
  have hv : val [r] = r := by rw [val_cons, show val [] = 0 from rfl]; omega
  exact ok_some ⟨d, Dg_cons ⟨r0, by have := (hb 0).2; omega⟩ Dg_nil, by simp only; rw [hv, e0, e], by simp only; rw [hv, e0]; exact r1, by simp only; omega, by simp⟩
 ·refine ok_ar (by omega) (ok_ck ⟨by omega, by omega⟩ (ok_lv (ok_bd (LZ_ok tb1 tb.2) ?_)))
  rintro _ ⟨k, rfl, hk, k1, k2⟩
  have hMK : (2 : Int) ^ (32 - k) * 2 ^ k = 4294967296 := by rw [← Int.pow_add, show 32 - k + k = 32 by omega]; rfl
  have pK : (0 : Int) < 2 ^ k := Int.pow_pos (by decide)
  have kB : (2 : Int) ^ k ≤ 2147483648 := by
   have := Nat.pow_le_pow_right (n := 2) (by decide) hk
   rw [pow_cast]; omega
  refine ok_bd (shifted_ok ha hk (by omega)) ?_
  rintro u ⟨du, lu, eu⟩
  refine ok_bd (shifted_ok hb hk (by omega)) ?_
  rintro s ⟨ds, ls, es⟩
  generalize hn : b.length = n at *
  have hn2 : 2 ≤ n := by omega
  have vb : val b = V b (n - 1) + gt b ((n : Int) - 1) * 4294967296 ^ (n - 1) := by
   have := V_succ b (n - 1)
   rw [show n - 1 + 1 = n by omega, show ((n - 1 : Nat) : Int) = (n : Int) - 1 by omega] at this
   rw [← this]; unfold val; rw [hn]
  have Lb := V_bound hb (n - 1)
  have eBn : (4294967296 : Int) ^ n = 4294967296 ^ (n - 1) * 4294967296 := by rw [← powB_succ]; congr 1; omega
  have pB := powB (n - 1)
  -- the divisor, shifted
  have sub1 : val s < 4294967296 ^ n := by
   have h1 : (gt b ((n : Int) - 1) + 1) * 2 ^ k ≤ 4294967296 := by
    rw [← hMK]
    refine Int.mul_le_mul_of_nonneg_right ?_ (Int.le_of_lt pK)
    rw [← hMK] at k2
    have := Int.lt_of_mul_lt_mul_right k2 (Int.le_of_lt pK)
    omega
   have h2 : val b < (gt b ((n : Int) - 1) + 1) * 4294967296 ^ (n - 1) := by rw [vb, Int.add_mul]; omega
   have h3 := Int.mul_lt_mul_of_pos_right h2 pK
   have h4 := Int.mul_le_mul_of_nonneg_left h1 (Int.le_of_lt pB)
   rw [es, eBn]
   rw [show (gt b ((n : Int) - 1) + 1) * 4294967296 ^ (n - 1) * 2 ^ k = 4294967296 ^ (n - 1) * ((gt b ((n : Int) - 1) + 1) * 2 ^ k) by grind] at h3
   omega
  have sV : val s = V s n := (val_small ds (m := n) fun i hi => gt_high ds sub1 hi).1
  have lv := sub0_len (xs := s) (b := (n : Int)) (by omega) (by omega)
  have dv := Dg_sub0 ds (n : Int)
  have ev : val (X.sub s 0 (n : Int)) = val b * 2 ^ k := by rw [val_sub0 (by omega) (by omega), Int.toNat_natCast, ← sV, es]
  refine ok_ck ⟨by omega, by omega, by omega⟩ (ok_lv ?_)
  generalize hv : X.sub s 0 (n : Int) = v at *
  have lv' : v.length = n := by omega
  have top : 2147483648 ≤ gt v ((n : Int) - 1) := by
   have h1 : val v = V v (n - 1) + gt v ((n : Int) - 1) * 4294967296 ^ (n - 1) := by
    have := V_succ v (n - 1)
    rw [show n - 1 + 1 = n by omega, show ((n - 1 : Nat) : Int) = (n : Int) - 1 by omega] at this
    rw [← this]; unfold val; rw [lv']
   have h2 := (V_bound dv (n - 1)).2
   have h3 : 2147483648 * 4294967296 ^ (n - 1) ≤ val v := by
    have h4 := Int.mul_le_mul_of_nonneg_right k1 (Int.le_of_lt pB)
    have h5 : gt b ((n : Int) - 1) * 2 ^ k * 4294967296 ^ (n - 1) ≤ val b * 2 ^ k := by
     rw [vb]
     have := Int.mul_nonneg Lb.1 (Int.le_of_lt pK)
     grind
    omega
   have h6 : 2147483648 * 4294967296 ^ (n - 1) < (gt v ((n : Int) - 1) + 1) * 4294967296 ^ (n - 1) := by rw [Int.add_mul]; omega
   have := Int.lt_of_mul_lt_mul_right h6 (Int.le_of_lt pB)
   omega
  have hlen : n ≤ a.length := by
   have h1 := (val_bound ha).2
   have h2 := Nz_low hb nb hb0
   rw [hn] at h2
   have := powB_lt (show (4294967296 : Int) ^ (n - 1) < 4294967296 ^ a.length by omega)
   omega
  have hvb : val b = val b := rfl
  have vv1 : val v < 4294967296 ^ n := by rw [ev, ← es]; exact sub1
  refine ok_ar (by omega) (ok_ck (by simp only [mkOk]; omega) (ok_lv (ok_ar (by simp only [List.length_replicate]; omega) ?_)))
  have hlr : (List.replicate ((u.length : Int) - (v.length : Int)).toNat (0 : Int)).length = a.length + 1 - n := by rw [List.length_replicate]; omega
  generalize hq0 : List.replicate ((u.length : Int) - (v.length : Int)).toNat (0 : Int) = q0 at *
  have dq0 : Dg q0 := by rw [← hq0]; exact Dg_rep _
  have vq0 : val q0 = 0 := by rw [← hq0]; exact val_rep _
  have zq0 : ∀ k, gt q0 k = 0 := fun k => by rw [← hq0]; exact gt_replicate _ _
  refine ok_bd (R := fun s => s.1.length = a.length + 1 ∧ Dg s.1 ∧ Dg s.2 ∧ s.2.length = a.length + 1 - n ∧ val s.1 + val v * val s.2 = val u ∧ val s.1 < val v) ?_ ?_
  ·refine ok_lp (fun s => (-1 ≤ s.2.2 ∧ s.2.2 ≤ (a.length : Int) - n) ∧ s.1.length = a.length + 1 ∧ Dg s.1 ∧ Dg s.2.1 ∧ s.2.1.length = a.length + 1 - n ∧ val s.1 + val v * val s.2.1 = val u ∧ val s.1 < val v * 4294967296 ^ (s.2.2 + 1).toNat ∧ ∀ k : Int, 0 ≤ k → k ≤ s.2.2 → gt s.2.1 k = 0)
    (fun s => (s.2.2 + 1).toNat) ⟨⟨by simp only; omega, by simp only; omega⟩, lu, du, dq0, hlr, by simp only; rw [vq0]; simp, ?_, fun k _ _ => zq0 k⟩ (by simp only; omega) ?_
   ·simp only
    rw [eu, show ((q0.length : Int) - 1 + 1).toNat = a.length + 1 - n by omega]
    have h1 := (val_bound ha).2
    have h2 : 2147483648 * 4294967296 ^ (n - 1) ≤ val v := by
     have h1 : val v = V v (n - 1) + gt v ((n : Int) - 1) * 4294967296 ^ (n - 1) := by
      have := V_succ v (n - 1)
      rw [show n - 1 + 1 = n by omega, show ((n - 1 : Nat) : Int) = (n : Int) - 1 by omega] at this
      rw [← this]; unfold val; rw [lv']
     have h2 := (V_bound dv (n - 1)).1
     have := Int.mul_le_mul_of_nonneg_right top (Int.le_of_lt pB)
     omega
    have h3 := Int.mul_le_mul_of_nonneg_right h2 (Int.le_of_lt (powB (a.length + 1 - n)))
    rw [Int.mul_assoc, ← powB_add, show n - 1 + (a.length + 1 - n) = a.length by omega] at h3
    have h4 := Int.mul_lt_mul_of_pos_right h1 pK
    have h5 := Int.mul_le_mul_of_nonneg_left kB (Int.le_of_lt (powB a.length))
    rw [Int.mul_comm _ 2147483648] at h5
    omega
   rintro ⟨w, q, j⟩ ⟨⟨j0, j1⟩, l1, d1, d2, l2, e1, s1, z1⟩
   simp only at j0 j1 l1 d1 d2 l2 e1 s1 z1
   by_cases hj : 0 ≤ j
   ·refine (digit_ok dv lv' hn2 (by omega) top d1 d2 hj (by omega) (by omega) (by omega) z1 s1).mono ?_
    rintro _ ⟨w', q', rfl, l3, l4, d3, d4, e3, s3, z3⟩
    exact ⟨⟨⟨by simp only; omega, by simp only; omega⟩, by simp only; omega, d3, d4, by simp only; omega, by simp only; omega, by simp only; rw [show j - 1 + 1 = j by omega]; exact s3, z3⟩, by simp only; omega⟩
   ·unfold P_exact_divMag_L11
    dsimp only
    refine ok_f hj (ok_some ⟨l1, d1, d2, l2, e1, ?_⟩)
    rw [show (j + 1).toNat = 0 by omega, Int.pow_zero, Int.mul_one] at s1
    exact s1
  rintro ⟨w, q⟩ ⟨l1, d1, d2, l2, e1, s1⟩
  simp only at l1 d1 d2 l2 e1 s1
  have er : val w = (val a - val b * val q) * 2 ^ k := by
   rw [eu, ev] at e1
   grind
  refine ok_bd (unshift_ok (r := val a - val b * val q) d1 lv' hk (by omega) (by omega) (by omega) er (by omega)) ?_
  rintro z ⟨l3, d3, e3⟩
  have hs0 := sub0_len (xs := z) (b := (n : Int)) (by omega) (by omega)
  refine ok_ck ⟨by omega, by omega, by omega⟩ (ok_lv (ok_some ⟨d2, Dg_sub0 d3 _, ?_, ?_, by simp only; omega, ?_⟩))
  ·simp only
   rw [lv', val_sub0 (by omega) (by omega), Int.toNat_natCast, e3]; omega
  ·simp only
   rw [lv', val_sub0 (by omega) (by omega), Int.toNat_natCast, e3]
   rw [er, ev] at s1
   exact Int.lt_of_mul_lt_mul_right s1 (Int.le_of_lt pK)
  ·simp only
   rw [lv']; omega
end Go.Proofs.Ytfkncjfpgflafaa.X
namespace Go.Proofs.Ytfkncjfpgflafaa.X
open Go Go.RowKit
set_option linter.unusedVariables false
set_option linter.unusedSimpArgs false
set_option linter.unusedSectionVars false
theorem ediv_of {a b q r : Int} (hb : b ≠ 0) (h : a = b * q + r) (r0 : 0 ≤ r) (r1 : r < b.natAbs) : a / b = q ∧ a % b = r := by
 rcases Int.lt_or_le 0 b with p | p
 ·exact (Int.ediv_emod_unique p).2 ⟨by omega, r0, by omega⟩
 ·have hp : 0 < -b := by omega
  have h1 := (Int.ediv_emod_unique (a := a) (b := -b) (r := r) (q := -q) hp).2 ⟨by rw [Int.neg_mul_neg]; omega, r0, by omega⟩
  refine ⟨?_, ?_⟩
  ·have := h1.1; rw [Int.ediv_neg] at this; omega
  ·have := h1.2; rwa [Int.emod_neg] at this
theorem split_ok {a b : Int} (hb : b ≠ 0) (la : dlen a ≤ 900000000) (lb : dlen b ≤ 900000000) : Ok (P_exact_split (big a) (big b)) (fun r => r = (big (a / b), big (a % b))) := by
 have hbl : (big b).fmag ≠ [] := fun e => hb (big_len0.1 (by rw [e]; rfl))
 unfold P_exact_split
 refine ok_bd (divMag_ok (big_Dg a) (big_Dg b) (big_Nz a) (big_Nz b) hbl (by rw [big_len]; omega) (by rw [big_len]; omega)) ?_
 rintro ⟨x, y⟩ ⟨dx, dy, e, hlt, lx, ly⟩
 simp only at dx dy e hlt lx ly
 dsimp only
 rw [big_val, big_val] at e
 rw [big_val] at hlt
 have x0 := (val_bound dx).1
 have y0 := (val_bound dy).1
 refine ok_bd (made_ok dx (by omega)) ?_
 rintro _ rfl
 refine ok_bd (made_ok dy (by omega)) ?_
 rintro _ rfl
 generalize hX : val x = X at *
 generalize hY : val y = Y at *
 have hq : dlen X ≤ dlen a := by
  refine dlen_mono ?_
  have h1 : (1 : Int) * X ≤ (b.natAbs : Int) * X := Int.mul_le_mul_of_nonneg_right (by omega) x0
  omega
 have hr : dlen Y ≤ dlen b := dlen_mono (by omega)
 have A : (big a).fneg = true ↔ a < 0 := by rw [big_neg, decide_eq_true_eq]
 have B : (big b).fneg = true ↔ b < 0 := by rw [big_neg, decide_eq_true_eq]
 have hab : dlen (b.natAbs : Int) = dlen b := by unfold dlen; rw [Int.natAbs_natCast]
 have d1 : dlen 1 ≤ 1 := dlen_le (by decide)
 have dm : dlen (-1) ≤ 1 := dlen_le (by decide)
 generalize (big a).fneg = na at *
 generalize (big b).fneg = nb at *
 refine ok_ite (fun hc => ?_) fun hc => ?_
 ·have ha : na = true ∧ 0 < Y := by
   cases na with
   | true => simp only [if_true, big_neg, decide_eq_true_eq] at hc; exact ⟨rfl, by omega⟩
   | false => simp only [Bool.false_eq_true, if_false, big_neg, decide_eq_true_eq] at hc; omega
  obtain ⟨rfl, hY0⟩ := ha
  have ha := A.1 rfl
  rw [if_pos rfl]
  refine ok_bd (Abs_ok (by omega)) ?_
  rintro _ rfl
  refine ok_bd (plus_ok (by rw [dlen_neg]; omega) (by rw [hab]; omega)) ?_
  rintro _ rfl
  have e2 : a = -((b.natAbs : Int) * X + Y) := by omega
  refine ok_ite (fun hbn => ok_bd (Of_ok (by omega)) ?_) fun hbn => ok_bd (Of_ok (by omega)) ?_
  ·rintro _ rfl
   subst hbn
   have hb0 := B.1 rfl
   simp only [BEq.rfl, Bool.not_true, Bool.false_eq_true, if_false]
   refine ok_bd (plus_ok (by omega) (by omega)) ?_
   rintro _ rfl
   obtain ⟨h1, h2⟩ := ediv_of (a := a) (b := b) (q := X + 1) (r := -Y + (b.natAbs : Int)) hb (by
    have : (b.natAbs : Int) = -b := by omega
    rw [this] at e2 ⊢; grind) (by omega) (by omega)
   rw [h1, h2]
   exact ok_some rfl
  ·rintro _ rfl
   have hb0 : ¬ b < 0 := fun q => hbn (B.2 q)
   obtain rfl : nb = false := by cases nb with | true => exact absurd rfl hbn | false => rfl
   simp only [show (true == false) = false from rfl, Bool.not_false, if_true]
   refine ok_bd (plus_ok (by rw [dlen_neg]; omega) (by omega)) ?_
   rintro _ rfl
   obtain ⟨h1, h2⟩ := ediv_of (a := a) (b := b) (q := -X + -1) (r := -Y + (b.natAbs : Int)) hb (by
    have : (b.natAbs : Int) = b := by omega
    rw [this] at e2 ⊢; grind) (by omega) (by omega)
   rw [h1, h2]
   exact ok_some rfl
 ·refine ok_some ?_
  cases na with
  | true =>
   have ha := A.1 rfl
   simp only [if_true, big_neg, decide_eq_true_eq] at hc
   have hY0 : Y = 0 := by omega
   subst hY0
   cases nb with
   | true =>
    have hb0 := B.1 rfl
    simp only [BEq.rfl, Bool.not_true, Bool.false_eq_true, if_false, if_true]
    obtain ⟨h1, h2⟩ := ediv_of (a := a) (b := b) (q := X) (r := 0) hb (by
     have : (b.natAbs : Int) = -b := by omega
     rw [this, Int.neg_mul] at e; omega) (by omega) (by omega)
    rw [h1, h2]; rfl
   | false =>
    have hb0 : ¬ b < 0 := fun q => by have := B.2 q; cases this
    simp only [show (true == false) = false from rfl, Bool.not_false, if_true]
    obtain ⟨h1, h2⟩ := ediv_of (a := a) (b := b) (q := -X) (r := 0) hb (by
     have : (b.natAbs : Int) = b := by omega
     rw [this] at e; rw [Int.mul_neg]; omega) (by omega) (by omega)
    rw [h1, h2]; rfl
  | false =>
   have ha : ¬ a < 0 := fun q => by have := A.2 q; cases this
   cases nb with
   | true =>
    have hb0 := B.1 rfl
    simp only [show (false == true) = false from rfl, Bool.not_false, if_true, Bool.false_eq_true, if_false]
    obtain ⟨h1, h2⟩ := ediv_of (a := a) (b := b) (q := -X) (r := Y) hb (by
     have : (b.natAbs : Int) = -b := by omega
     rw [this, Int.neg_mul] at e; rw [Int.mul_neg]; omega) y0 hlt
    rw [h1, h2]
   | false =>
    have hb0 : ¬ b < 0 := fun q => by have := B.2 q; cases this
    simp only [BEq.rfl, Bool.not_true, Bool.false_eq_true, if_false]
    obtain ⟨h1, h2⟩ := ediv_of (a := a) (b := b) (q := X) (r := Y) hb (by
     have : (b.natAbs : Int) = b := by omega
     rw [this] at e; omega) y0 hlt
    rw [h1, h2]
/-! ### The greatest common divisor -/
def gmu (X Y : Nat) : Nat := if Y = 0 then 0 else 2 * (X * Y).log2 + 2 + (if X < Y then 1 else 0)
theorem gmu_lt {X Y : Nat} (hY : Y ≠ 0) : gmu Y (X % Y) < gmu X Y := by
 unfold gmu
 rw [if_neg hY]
 have hm := Nat.mod_lt X (show 0 < Y by omega)
 by_cases h0 : X % Y = 0
 ·rw [if_pos h0]; omega
 rw [if_neg h0]
 by_cases h1 : X < Y
 ·rw [Nat.mod_eq_of_lt h1, if_pos h1, if_neg (by omega), Nat.mul_comm Y X]; omega
 ·rw [if_neg h1, if_neg (by omega)]
  have h2 : 2 * (Y * (X % Y)) ≤ X * Y := by
   have h3 : 2 * (X % Y) ≤ X := by
    have := Nat.div_add_mod X Y
    have h4 : Y * 1 ≤ Y * (X / Y) := Nat.mul_le_mul_left _ (Nat.div_pos (by omega) (by omega))
    omega
   have := Nat.mul_le_mul_right Y h3
   rw [Nat.mul_comm Y (X % Y), ← Nat.mul_assoc]
   exact this
  have hYZ : Y * (X % Y) ≠ 0 := Nat.mul_ne_zero hY h0
  have h5 : (Y * (X % Y)).log2 + 1 ≤ (X * Y).log2 := by
   rw [Nat.le_log2 (by omega), Nat.pow_succ]
   have := (Nat.le_log2 hYZ (k := (Y * (X % Y)).log2)).1 (Nat.le_refl _)
   omega
  omega
theorem log2_big {n m : Nat} (h : n < 4294967296 ^ m) : n.log2 ≤ 32 * m := by
 by_cases h0 : n = 0
 ·rw [h0]; simp [Nat.log2_zero]
 ·have : (4294967296 : Nat) ^ m = 2 ^ (32 * m) := by rw [Nat.pow_mul]
  rw [this] at h
  exact Nat.le_of_lt ((Nat.log2_lt h0).2 h)
theorem Gcd_ok {a b : Int} (la : dlen a ≤ 900000000) (lb : dlen b ≤ 900000000) : Ok (P_exact_Gcd (big a) (big b)) (fun r => r = big (Int.gcd a b : Int)) := by
 have hab : ∀ x : Int, dlen (x.natAbs : Int) = dlen x := fun x => by unfold dlen; rw [Int.natAbs_natCast]
 unfold P_exact_Gcd
 refine ok_bd (Abs_ok (by omega)) ?_
 rintro _ rfl
 refine ok_bd (Abs_ok (by omega)) ?_
 rintro _ rfl
 refine ok_bd (R := fun s => s = ((big (Int.gcd a b : Int)).fneg, (big (Int.gcd a b : Int)).fmag)) ?_ ?_
 ·refine ok_lp (fun s => ∃ x y : Nat, s = ((big (x : Int)).fneg, (big (x : Int)).fmag, (big (y : Int)).fneg, (big (y : Int)).fmag) ∧ Nat.gcd x y = Int.gcd a b ∧ dlen (x : Int) ≤ 900000000 ∧ dlen (y : Int) ≤ 900000000)
   (fun s => gmu (val s.2.1).toNat (val s.2.2.2).toNat) ⟨a.natAbs, b.natAbs, rfl, rfl, by rw [hab]; exact la, by rw [hab]; exact lb⟩ ?_ ?_
  ·simp only
   rw [big_val, big_val]
   simp only [Int.natAbs_natCast, Int.toNat_natCast]
   have h1 := dlen_lt a
   have h2 := dlen_lt b
   have h3 := log2_big (n := a.natAbs * b.natAbs) (m := dlen a + dlen b) (by rw [Nat.pow_add]; exact Nat.mul_lt_mul'' h1 h2)
   unfold gmu
   split
   ·omega
   ·split <;> omega
  rintro _ ⟨x, y, rfl, hg, lx, ly⟩
  unfold P_exact_Gcd_L2
  dsimp only
  rw [big_eta, big_eta]
  refine ok_bd Sign_ok ?_
  rintro _ rfl
  refine ok_ite (fun h => ?_) fun h => ok_some ?_
  ·have hy : (y : Int) ≠ 0 := fun e => h (by rw [e]; rfl)
   refine ok_bd (split_ok hy lx ly) ?_
   rintro _ rfl
   refine ok_some ⟨⟨y, x % y, ?_, ?_, ly, ?_⟩, ?_⟩
   ·simp only [Int.natCast_emod]
   ·rw [← hg, Nat.gcd_comm, ← Nat.gcd_rec, Nat.gcd_comm]
   ·have h1 : dlen ((x % y : Nat) : Int) ≤ dlen (y : Int) := dlen_mono (by
     rw [Int.natAbs_natCast, Int.natAbs_natCast]; exact Nat.le_of_lt (Nat.mod_lt _ (by omega)))
    omega
   ·simp only
    rw [big_val, big_val, big_val, ← Int.natCast_emod]
    simp only [Int.natAbs_natCast, Int.toNat_natCast]
    exact gmu_lt (by omega)
  ·have hy : (y : Int) = 0 := by
    by_cases e : (y : Int) = 0
    ·exact e
    ·exfalso; exact h (by rw [Int.sign_eq_one_of_pos (by omega)]; decide)
   have hy' : y = 0 := by omega
   subst hy'
   rw [Nat.gcd_zero_right] at hg
   rw [hg]
 rintro _ rfl
 exact ok_some rfl
/-! ### Fractions -/
/-- The fraction q, as the program keeps it. -/
def rt (q : Rat) : T_exact_Ratio := ⟨big q.num, big (q.den : Int)⟩
/-- How long a fraction is. -/
def rsz (q : Rat) : Nat := max (dlen q.num) (dlen (q.den : Int))
theorem rsz_num (q : Rat) : dlen q.num ≤ rsz q := Nat.le_max_left _ _
theorem rsz_den (q : Rat) : dlen (q.den : Int) ≤ rsz q := Nat.le_max_right _ _
theorem divInt_le {n d : Int} (hd : d ≠ 0) : (Rat.divInt n d).num.natAbs ≤ n.natAbs ∧ (Rat.divInt n d).den ≤ d.natAbs := by
 rw [Rat.num_divInt, Rat.den_divInt, if_neg hd]
 refine ⟨?_, Nat.div_le_self _ _⟩
 have h1 : (d.sign * n).natAbs = n.natAbs := by rw [Int.natAbs_mul, Int.natAbs_sign_of_ne_zero hd, Nat.one_mul]
 have h2 : (d.sign * n / (d.gcd n : Int)).natAbs ≤ (d.sign * n).natAbs := Int.natAbs_ediv_le_natAbs _ _
 omega
theorem rsz_divInt {n d : Int} (hd : d ≠ 0) : rsz (Rat.divInt n d) ≤ max (dlen n) (dlen d) := by
 obtain ⟨h1, h2⟩ := divInt_le (n := n) hd
 have h3 := dlen_mono h1
 have h4 : dlen ((Rat.divInt n d).den : Int) ≤ dlen d := dlen_mono (by rw [Int.natAbs_natCast]; exact h2)
 unfold rsz
 omega
theorem den_ne (q : Rat) : (q.den : Int) ≠ 0 := by have := q.den_pos; omega
theorem mul_divInt (p q : Rat) : p * q = Rat.divInt (p.num * q.num) (p.den * q.den) := by
 have := Rat.divInt_mul_divInt p.num q.num (d₁ := p.den) (d₂ := q.den)
 rwa [Rat.num_divInt_den, Rat.num_divInt_den] at this
theorem add_divInt (p q : Rat) : p + q = Rat.divInt (p.num * q.den + q.num * p.den) (p.den * q.den) := by
 have := Rat.divInt_add_divInt p.num q.num (den_ne p) (den_ne q)
 rwa [Rat.num_divInt_den, Rat.num_divInt_den] at this
theorem dens_ne (p q : Rat) : (p.den : Int) * q.den ≠ 0 := Int.mul_ne_zero (den_ne p) (den_ne q)
theorem reduced_ok {n d : Int} (hd : d ≠ 0) (ln : dlen n ≤ 900000000) (ld : dlen d ≤ 900000000) (hs : rsz (Rat.divInt n d) ≤ 2048) : Ok (P_exact_reduced (big n) (big d)) (fun r => r = (rt (Rat.divInt n d), 0)) := by
 have hg : ∀ x y : Int, dlen (Int.gcd x y : Int) ≤ max (dlen x) (dlen y) := by
  intro x y
  by_cases hx : x = 0
  ·subst hx
   rw [Int.gcd_zero_left]
   have : dlen ((y.natAbs : Nat) : Int) = dlen y := by unfold dlen; rw [Int.natAbs_natCast]
   omega
  ·have := dlen_mono (u := (Int.gcd x y : Int)) (v := x) (by rw [Int.natAbs_natCast]; exact Int.gcd_le_natAbs_left y hx)
   omega
 have hnum := Rat.num_divInt n d
 have hden := Rat.den_divInt n d
 rw [if_neg hd] at hden
 have r1 := rsz_num (Rat.divInt n d)
 have r2 := rsz_den (Rat.divInt n d)
 unfold P_exact_reduced
 refine ok_bd Sign_ok ?_
 rintro _ rfl
 refine ok_bd (R := fun s => s = ((big (d.sign * n)).fneg, (big (d.sign * n)).fmag, (big (d.natAbs : Int)).fneg, (big (d.natAbs : Int)).fmag)) (ok_ite (fun h => ?_) fun h => ok_some ?_) ?_
 ·have hneg : d < 0 := by
   rcases Int.lt_trichotomy d 0 with q | q | q
   ·exact q
   ·exact absurd q hd
   ·rw [Int.sign_eq_one_of_pos q] at h; omega
  refine ok_bd (Neg_ok (by omega)) ?_
  rintro _ rfl
  refine ok_bd (Neg_ok (by omega)) ?_
  rintro _ rfl
  refine ok_some ?_
  rw [Int.sign_eq_neg_one_of_neg hneg, show (d.natAbs : Int) = -d by omega, show (-1 : Int) * n = -n by omega]
 ·have hpos : 0 < d := by
   rcases Int.lt_trichotomy d 0 with q | q | q
   ·rw [Int.sign_eq_neg_one_of_neg q] at h; omega
   ·exact absurd q hd
   ·exact q
  rw [Int.sign_eq_one_of_pos hpos, show (d.natAbs : Int) = d by omega, Int.one_mul]
 rintro _ rfl
 dsimp only
 rw [big_eta, big_eta]
 have l1 : dlen (d.sign * n) = dlen n := by unfold dlen; rw [Int.natAbs_mul, Int.natAbs_sign_of_ne_zero hd, Nat.one_mul]
 have l2 : dlen (d.natAbs : Int) = dlen d := by unfold dlen; rw [Int.natAbs_natCast]
 have eg : Int.gcd (d.sign * n) (d.natAbs : Int) = d.gcd n := by
  unfold Int.gcd
  rw [Int.natAbs_mul, Int.natAbs_sign_of_ne_zero hd, Nat.one_mul, Int.natAbs_natCast, Nat.gcd_comm]
 refine ok_bd (Gcd_ok (by omega) (by omega)) ?_
 rintro _ rfl
 rw [eg]
 have g0 : ((d.gcd n : Nat) : Int) ≠ 0 := by
  have := Int.gcd_pos_of_ne_zero_left n hd
  omega
 have lg := hg d n
 refine ok_bd (split_ok g0 (by omega) (by omega)) ?_
 rintro _ rfl
 refine ok_bd (split_ok g0 (by omega) (by omega)) ?_
 rintro _ rfl
 dsimp only
 have e2 : (d.natAbs : Int) / ((d.gcd n : Nat) : Int) = ((Rat.divInt n d).den : Int) := by rw [hden]; simp
 rw [← hnum, e2]
 refine ok_bd (Bits_ok (by omega)) ?_
 rintro b1 ⟨b10, b11⟩
 refine ok_bd (R := fun r => 0 ≤ r ∧ r ≤ 65536) (ok_gd (fun _ => (Bits_ok (by omega)).mono fun r hr => ⟨hr.1, by omega⟩) fun _ => by show (0 : Int) ≤ 0 ∧ (0 : Int) ≤ 65536; omega) ?_
 rintro b2 ⟨b20, b21⟩
 refine ok_lv (ok_f ?_ (ok_some rfl))
 simp only [Bool.or_eq_true, decide_eq_true_eq]
 omega
end Go.Proofs.Ytfkncjfpgflafaa.X
