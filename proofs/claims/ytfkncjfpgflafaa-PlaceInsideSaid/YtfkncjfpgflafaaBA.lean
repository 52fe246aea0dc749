/- Long numbers: digits and their values; shifts and ors of words. Plain. -/
import Derived.Test.YtfkncjfpgflafaaYQ
import Derived.Test.YtfkncjfpgflafaaYJ
import Derived.Test.YtfkncjfpgflafaaDA
namespace Go.Proofs.Ytfkncjfpgflafaa.X
open Go Go.RowKit
set_option linter.unusedVariables false
set_option linter.unusedSimpArgs false
/-! ### Words -/
theorem wrapU64 {n : Int} : IntKind.u64.wrap n = n % 18446744073709551616 := by simp [IntKind.wrap, IntKind.signed, IntKind.bits]
theorem wrapU32 {n : Int} : IntKind.u32.wrap n = n % 4294967296 := by simp [IntKind.wrap, IntKind.signed, IntKind.bits]
theorem shr_u64_32 (x : Int) : shr .u64 x 32 = x / 4294967296 := by
  show x.fdiv (2 ^ 32) = _
  rw [Int.fdiv_eq_ediv_of_nonneg _ (by decide)]; rfl
theorem shr_i64_32 (x : Int) : shr .i64 x 32 = x / 4294967296 := by
  show x.fdiv (2 ^ 32) = _
  rw [Int.fdiv_eq_ediv_of_nonneg _ (by decide)]; rfl
theorem pow_cast (k : Nat) : ((2 : Int) ^ k) = ((2 ^ k : Nat) : Int) := by simp
theorem shr_u32_k {x : Int} {k : Nat} (hk : k ≤ 32) : shr .u32 x (k : Int) = x / 2 ^ k := by
  unfold shr
  rw [Int.toNat_natCast, Nat.min_eq_left (show k ≤ IntKind.u32.bits from hk), Int.fdiv_eq_ediv_of_nonneg _ (by rw [pow_cast]; exact Int.natCast_nonneg _)]
theorem shr_u64_k {x : Int} {k : Nat} (hk : k ≤ 64) : shr .u64 x (k : Int) = x / 2 ^ k := by
  unfold shr
  rw [Int.toNat_natCast, Nat.min_eq_left (show k ≤ IntKind.u64.bits from hk), Int.fdiv_eq_ediv_of_nonneg _ (by rw [pow_cast]; exact Int.natCast_nonneg _)]
theorem shl_u64_32 (x : Int) : shl .u64 x 32 = (x * 4294967296) % 18446744073709551616 := by
  show IntKind.u64.wrap (x * 2 ^ 32) = _
  rw [wrapU64]; rfl
theorem shl_u32_k {x : Int} {k : Nat} (hk : k ≤ 32) : shl .u32 x (k : Int) = (x * 2 ^ k) % 4294967296 := by
  unfold shl
  rw [Int.toNat_natCast, Nat.min_eq_left (show k ≤ IntKind.u32.bits from hk), wrapU32]
theorem shl_u64_k {x : Int} {k : Nat} (hk : k ≤ 64) : shl .u64 x (k : Int) = (x * 2 ^ k) % 18446744073709551616 := by
  unfold shl
  rw [Int.toNat_natCast, Nat.min_eq_left (show k ≤ IntKind.u64.bits from hk), wrapU64]
theorem ofInt_cast (w m : Nat) : BitVec.ofInt w (m : Int) = BitVec.ofNat w m := by
  apply BitVec.eq_of_toNat_eq
  simp
theorem bOr_u64 {a b m : Nat} (hb : b < 2 ^ m) (hs : 2 ^ m * a + b < 18446744073709551616) : bOr .u64 ((2 ^ m * a : Nat) : Int) (b : Int) = ((2 ^ m * a + b : Nat) : Int) := by
  unfold bOr
  rw [ofInt_cast, ofInt_cast, show IntKind.u64.bits = 64 from rfl, BitVec.toNat_or, BitVec.toNat_ofNat, BitVec.toNat_ofNat, Nat.mod_eq_of_lt (by omega), Nat.mod_eq_of_lt (by omega), ← Nat.two_pow_add_eq_or_of_lt hb a, wrapU64]
  omega
theorem bOr_u32 {a b m : Nat} (hb : b < 2 ^ m) (hs : 2 ^ m * a + b < 4294967296) : bOr .u32 (b : Int) ((2 ^ m * a : Nat) : Int) = ((2 ^ m * a + b : Nat) : Int) := by
  unfold bOr
  rw [ofInt_cast, ofInt_cast, show IntKind.u32.bits = 32 from rfl, BitVec.toNat_or, BitVec.toNat_ofNat, BitVec.toNat_ofNat, Nat.mod_eq_of_lt (by omega), Nat.mod_eq_of_lt (by omega), Nat.or_comm, ← Nat.two_pow_add_eq_or_of_lt hb a, wrapU32]
  omega
/-- Two digits in a word. -/
theorem or_hi {a b : Int} (ha : 0 ≤ a ∧ a < 4294967296) (hb : 0 ≤ b ∧ b < 4294967296) : bOr .u64 (shl .u64 a 32) b = a * 4294967296 + b := by
  rw [shl_u64_32, Int.emod_eq_of_lt (by omega) (by omega)]
  obtain ⟨a, rfl⟩ := Int.eq_ofNat_of_zero_le ha.1
  obtain ⟨b, rfl⟩ := Int.eq_ofNat_of_zero_le hb.1
  have h := bOr_u64 (a := a) (b := b) (m := 32) (by omega) (by omega)
  rw [show ((a : Int) * 4294967296) = ((2 ^ 32 * a : Nat) : Int) by omega, h]; omega
/-- The low bits and the high bits of a digit. -/
theorem or_lo {a b : Int} {m : Nat} (hb : 0 ≤ b ∧ b < 2 ^ m) (ha : 0 ≤ a) (hs : a * 2 ^ m + b < 4294967296) : bOr .u32 b (a * 2 ^ m) = a * 2 ^ m + b := by
  obtain ⟨a, rfl⟩ := Int.eq_ofNat_of_zero_le ha
  obtain ⟨b, rfl⟩ := Int.eq_ofNat_of_zero_le hb.1
  rw [pow_cast] at hb hs ⊢
  have e : (a : Int) * ((2 ^ m : Nat) : Int) = ((2 ^ m * a : Nat) : Int) := by rw [Int.natCast_mul, Int.mul_comm]
  rw [e] at hs ⊢
  have h := bOr_u32 (a := a) (b := b) (m := m) (by omega) (by omega)
  rw [h]; omega
/-! ### Digits -/
/-- All places hold digits. -/
def Dg (xs : List Int) : Prop := ∀ i : Int, 0 ≤ gt xs i ∧ gt xs i < 4294967296
/-- The value of the first n places. -/
def V (xs : List Int) (n : Nat) : Int := sm n fun j => gt xs (j : Int) * 4294967296 ^ j
def val (xs : List Int) : Int := V xs xs.length
theorem V_zero (xs : List Int) : V xs 0 = 0 := rfl
theorem V_succ (xs : List Int) (n : Nat) : V xs (n + 1) = V xs n + gt xs (n : Int) * 4294967296 ^ n := rfl
theorem V_cut (xs : List Int) {i : Int} (h0 : 0 ≤ i) : V xs (i + 1).toNat = V xs i.toNat + gt xs i * 4294967296 ^ i.toNat := by
  obtain ⟨k, rfl⟩ := Int.eq_ofNat_of_zero_le h0
  rw [show ((k : Int) + 1).toNat = k + 1 by omega, Int.toNat_natCast, V_succ]
theorem gt_past {xs : List Int} {i : Int} (h0 : 0 ≤ i) (h : (xs.length : Int) ≤ i) : gt xs i = 0 := by
  unfold gt
  rw [List.getD_eq_getElem?_getD, List.getElem?_eq_none (by omega)]; rfl
theorem V_ge {xs : List Int} {n : Nat} (h : xs.length ≤ n) : V xs n = val xs := by
  obtain ⟨d, rfl⟩ : ∃ d, n = xs.length + d := ⟨n - xs.length, by omega⟩
  induction d with
  | zero => rfl
  | succ d ih => rw [← Nat.add_assoc, V_succ, ih (by omega), gt_past (by omega) (by omega)]; omega
theorem V_congr {xs ys : List Int} {n : Nat} (h : ∀ j : Nat, j < n → gt xs (j : Int) = gt ys (j : Int)) : V xs n = V ys n := sm_congr fun j hj => by rw [h j hj]
theorem powB (n : Nat) : (0 : Int) < 4294967296 ^ n := Int.pow_pos (by decide)
theorem powB_succ (n : Nat) : (4294967296 : Int) ^ (n + 1) = 4294967296 ^ n * 4294967296 := Int.pow_succ _ _
theorem powB_add (n m : Nat) : (4294967296 : Int) ^ (n + m) = 4294967296 ^ n * 4294967296 ^ m := Int.pow_add _ _ _
theorem V_bound {xs : List Int} (h : Dg xs) (n : Nat) : 0 ≤ V xs n ∧ V xs n < 4294967296 ^ n := by
  induction n with
  | zero => rw [V_zero]; exact ⟨Int.le_refl _, by decide⟩
  | succ n ih =>
    obtain ⟨a, b⟩ := h (n : Int)
    have p := powB n
    rw [V_succ, powB_succ]
    have h1 : 0 ≤ gt xs (n : Int) * 4294967296 ^ n := Int.mul_nonneg a (by omega)
    have h2 : gt xs (n : Int) * 4294967296 ^ n ≤ 4294967295 * 4294967296 ^ n := Int.mul_le_mul_of_nonneg_right (by omega) (by omega)
    have h3 : (4294967296 : Int) ^ n * 4294967296 = 4294967295 * 4294967296 ^ n + 4294967296 ^ n := by grind
    omega
theorem val_bound {xs : List Int} (h : Dg xs) : 0 ≤ val xs ∧ val xs < 4294967296 ^ xs.length := V_bound h _
theorem V_mono {xs : List Int} (h : Dg xs) {n m : Nat} (hnm : n ≤ m) : V xs n ≤ V xs m := by
  obtain ⟨d, rfl⟩ : ∃ d, m = n + d := ⟨m - n, by omega⟩
  clear hnm
  induction d with
  | zero => exact Int.le_refl _
  | succ d ih =>
    have h1 : 0 ≤ gt xs ((n + d : Nat) : Int) * 4294967296 ^ (n + d) := Int.mul_nonneg (h _).1 (Int.le_of_lt (powB _))
    rw [← Nat.add_assoc, V_succ]; omega
theorem Dg_stt {xs : List Int} (h : Dg xs) {i x : Int} (hi : inb i xs.length) (hx : 0 ≤ x ∧ x < 4294967296) : Dg (stt xs i x) := by
  intro j
  by_cases hj : 0 ≤ j
  · rw [gt_stt xs x hi hj]
    split
    · exact hx
    · exact h j
  · have e : gt (stt xs i x) j = gt (stt xs i x) 0 := by unfold gt; rw [show j.toNat = 0 by omega]; rfl
    rw [e, gt_stt xs x hi (Int.le_refl 0)]
    split
    · exact hx
    · exact h 0
theorem V_stt {xs : List Int} {i x : Int} (hi : inb i xs.length) (n : Nat) : V (stt xs i x) n = V xs n + (if i.toNat < n then (x - gt xs i) * 4294967296 ^ i.toNat else 0) := by
  have h0 := hi.1
  induction n with
  | zero => simp [V_zero]
  | succ n ih =>
    rw [V_succ, V_succ, ih, gt_stt xs x hi (by omega)]
    by_cases h1 : i.toNat < n
    · rw [if_pos h1, if_neg (by omega), if_pos (by omega)]; omega
    · by_cases h2 : i.toNat = n
      · rw [if_neg h1, if_pos (by omega), if_pos (by omega)]
        have e : i = (n : Int) := by omega
        subst e
        rw [Int.toNat_natCast]
        grind
      · rw [if_neg h1, if_neg (by omega), if_neg (by omega)]; omega
theorem val_stt {xs : List Int} {i x : Int} (hi : inb i xs.length) : val (stt xs i x) = val xs + (x - gt xs i) * 4294967296 ^ i.toNat := by
  have h0 := hi.2
  unfold val
  rw [stt_length, V_stt hi, if_pos (by have := hi.1; omega)]
theorem gt_replicate (n : Nat) (i : Int) : gt (List.replicate n (0 : Int)) i = 0 := by
  unfold gt
  rw [List.getD_eq_getElem?_getD]
  by_cases h : i.toNat < n
  · rw [List.getElem?_eq_getElem (by simpa using h)]; simp
  · rw [List.getElem?_eq_none (by simpa using h)]; rfl
theorem Dg_rep (n : Nat) : Dg (List.replicate n (0 : Int)) := fun i => by rw [gt_replicate]; omega
theorem V_rep (n m : Nat) : V (List.replicate n (0 : Int)) m = 0 := sm_zero fun j _ => by rw [gt_replicate]; simp
theorem val_rep (n : Nat) : val (List.replicate n (0 : Int)) = 0 := V_rep _ _
theorem Dg_nil : Dg [] := fun i => by rw [show gt ([] : List Int) i = 0 from rfl]; omega
/-- The first n places. -/
theorem gt_sub00 (xs : List Int) {b i : Int} (h0 : 0 ≤ i) : gt (X.sub xs 0 b) i = if i < b then gt xs i else 0 := by
  unfold gt X.sub
  rw [List.getD_eq_getElem?_getD, List.getD_eq_getElem?_getD, show (0 : Int).toNat = 0 from rfl, List.drop_zero, Nat.sub_zero, List.getElem?_take]
  by_cases h : i < b
  · rw [if_pos h, if_pos (by omega)]
  · rw [if_neg h, if_neg (by omega)]; rfl
theorem sub0_len {xs : List Int} {b : Int} (h0 : 0 ≤ b) (h1 : b ≤ xs.length) : ((X.sub xs 0 b).length : Int) = b := by
  unfold X.sub
  simp; omega
theorem Dg_sub0 {xs : List Int} (h : Dg xs) (b : Int) : Dg (X.sub xs 0 b) := by
  intro i
  by_cases hi : 0 ≤ i
  · rw [gt_sub00 _ hi]
    split
    · exact h i
    · omega
  · have e : gt (X.sub xs 0 b) i = gt (X.sub xs 0 b) 0 := by unfold gt; rw [show i.toNat = 0 by omega]; rfl
    rw [e, gt_sub00 _ (Int.le_refl 0)]
    split
    · exact h 0
    · omega
theorem val_sub0 {xs : List Int} {b : Int} (h0 : 0 ≤ b) (h1 : b ≤ xs.length) : val (X.sub xs 0 b) = V xs b.toNat := by
  have hl := sub0_len h0 h1
  unfold val
  rw [show (X.sub xs 0 b).length = b.toNat by omega]
  exact V_congr fun j hj => by rw [gt_sub00 _ (by omega), if_pos (by omega)]
/-- Two numbers of the same digits. -/
theorem V_inj {xs ys : List Int} (hx : Dg xs) (hy : Dg ys) : ∀ n, V xs n = V ys n → ∀ j : Nat, j < n → gt xs (j : Int) = gt ys (j : Int) := by
  intro n
  induction n with
  | zero => intro _ j hj; omega
  | succ n ih =>
    intro h j hj
    rw [V_succ, V_succ] at h
    obtain ⟨a0, a1⟩ := V_bound hx n
    obtain ⟨b0, b1⟩ := V_bound hy n
    have p := powB n
    have e : gt xs (n : Int) = gt ys (n : Int) := by
      rcases Int.lt_trichotomy (gt xs (n : Int)) (gt ys (n : Int)) with q | q | q
      · have := Int.mul_le_mul_of_nonneg_right (show gt xs (n : Int) + 1 ≤ gt ys (n : Int) by omega) (show (0 : Int) ≤ 4294967296 ^ n by omega)
        rw [Int.add_mul] at this; omega
      · exact q
      · have := Int.mul_le_mul_of_nonneg_right (show gt ys (n : Int) + 1 ≤ gt xs (n : Int) by omega) (show (0 : Int) ≤ 4294967296 ^ n by omega)
        rw [Int.add_mul] at this; omega
    by_cases hjn : j = n
    · rw [hjn]; exact e
    · rw [e] at h
      exact ih (by omega) j (by omega)
/-- Without zeros at the end. -/
def Nz (xs : List Int) : Prop := xs ≠ [] → gt xs ((xs.length : Int) - 1) ≠ 0
theorem Nz_low {xs : List Int} (hd : Dg xs) (hn : Nz xs) (h : xs ≠ []) : (4294967296 : Int) ^ (xs.length - 1) ≤ val xs := by
  have hl : 0 < xs.length := List.length_pos_iff.2 h
  have e := V_succ xs (xs.length - 1)
  rw [show xs.length - 1 + 1 = xs.length by omega] at e
  have h1 := (V_bound hd (xs.length - 1)).1
  have h2 := hn h
  rw [show (xs.length : Int) - 1 = ((xs.length - 1 : Nat) : Int) by omega] at h2
  have h3 := (hd ((xs.length - 1 : Nat) : Int)).1
  have h4 := Int.mul_le_mul_of_nonneg_right (show (1 : Int) ≤ gt xs ((xs.length - 1 : Nat) : Int) by omega) (Int.le_of_lt (powB (xs.length - 1)))
  unfold val
  omega
theorem powB_le {n m : Nat} (h : n ≤ m) : (4294967296 : Int) ^ n ≤ 4294967296 ^ m := by
  obtain ⟨d, rfl⟩ : ∃ d, m = n + d := ⟨m - n, by omega⟩
  have h1 := powB d
  have h2 := Int.mul_le_mul_of_nonneg_left (show (1 : Int) ≤ 4294967296 ^ d by omega) (Int.le_of_lt (powB n))
  rw [powB_add]; omega
theorem powB_lt {n m : Nat} (h : (4294967296 : Int) ^ n < 4294967296 ^ m) : n < m := by
  rcases Nat.lt_or_ge n m with q | q
  · exact q
  · have := powB_le q
    omega
/-- The length is told by the value. -/
theorem Nz_len {xs : List Int} (hd : Dg xs) (hn : Nz xs) {k : Nat} (h : val xs < 4294967296 ^ k) : xs.length ≤ k := by
  by_cases e : xs = []
  · simp [e]
  · have h1 := Nz_low hd hn e
    have := powB_lt (Int.lt_of_le_of_lt h1 h)
    omega
theorem Nz_eq {xs ys : List Int} (hx : Dg xs) (hy : Dg ys) (nx : Nz xs) (ny : Nz ys) (h : val xs = val ys) : xs = ys := by
  have l1 := Nz_len hx nx (k := ys.length) (by rw [h]; exact (val_bound hy).2)
  have l2 := Nz_len hy ny (k := xs.length) (by rw [← h]; exact (val_bound hx).2)
  have hl : xs.length = ys.length := by omega
  refine ext_gt hl fun j h0 h1 => ?_
  obtain ⟨k, rfl⟩ := Int.eq_ofNat_of_zero_le h0
  unfold val at h
  rw [← hl] at h
  exact V_inj hx hy _ h k (by omega)
/-- The digits of a number. -/
def dig : Nat → Nat → List Int
  | 0, _ => []
  | k + 1, n => if n = 0 then [] else ((n % 4294967296 : Nat) : Int) :: dig k (n / 4294967296)
theorem gt_cons0 (x : Int) (xs : List Int) : gt (x :: xs) 0 = x := rfl
theorem gt_consS (x : Int) (xs : List Int) (j : Nat) : gt (x :: xs) ((j + 1 : Nat) : Int) = gt xs (j : Int) := by
  unfold gt; rw [Int.toNat_natCast, Int.toNat_natCast]; rfl
theorem Dg_cons {x : Int} {xs : List Int} (hx : 0 ≤ x ∧ x < 4294967296) (h : Dg xs) : Dg (x :: xs) := by
  intro i
  by_cases hi : 0 < i
  · obtain ⟨k, rfl⟩ := Int.eq_ofNat_of_zero_le (show 0 ≤ i by omega)
    obtain ⟨j, rfl⟩ : ∃ j, k = j + 1 := ⟨k - 1, by omega⟩
    rw [gt_consS]; exact h _
  · have e : gt (x :: xs) i = x := by unfold gt; rw [show i.toNat = 0 by omega]; rfl
    rw [e]; exact hx
theorem V_cons (x : Int) (xs : List Int) (n : Nat) : V (x :: xs) (n + 1) = x + 4294967296 * V xs n := by
  unfold V
  rw [sm_left, ← sm_mul]
  congr 1
  · show gt (x :: xs) 0 * _ = _
    rw [gt_cons0]; simp
  · refine sm_congr fun j hj => ?_
    rw [gt_consS, powB_succ]; grind
theorem val_cons (x : Int) (xs : List Int) : val (x :: xs) = x + 4294967296 * val xs := V_cons x xs xs.length
theorem dig_ok : ∀ (k n : Nat), n ≤ k → Dg (dig k n) ∧ Nz (dig k n) ∧ val (dig k n) = (n : Int) := by
  intro k
  induction k with
  | zero =>
    intro n hn
    obtain rfl : n = 0 := by omega
    exact ⟨Dg_nil, fun h => absurd rfl h, rfl⟩
  | succ k ih =>
    intro n hn
    unfold dig
    by_cases h0 : n = 0
    · rw [if_pos h0, h0]; exact ⟨Dg_nil, fun h => absurd rfl h, rfl⟩
    rw [if_neg h0]
    obtain ⟨a, b, c⟩ := ih (n / 4294967296) (by omega)
    refine ⟨Dg_cons (by omega) a, fun _ => ?_, by rw [val_cons, c]; omega⟩
    by_cases e : dig k (n / 4294967296) = []
    · rw [e]
      have hz : n / 4294967296 = 0 := by
        rw [e] at c
        have : val [] = 0 := rfl
        omega
      show ((n % 4294967296 : Nat) : Int) ≠ 0
      omega
    · have hl : 0 < (dig k (n / 4294967296)).length := List.length_pos_iff.2 e
      have h2 := b e
      rw [show (((((n % 4294967296 : Nat) : Int) :: dig k (n / 4294967296)).length : Int) - 1) = (((dig k (n / 4294967296)).length - 1 + 1 : Nat) : Int) by simp only [List.length_cons]; omega, gt_consS]
      rwa [show ((dig k (n / 4294967296)).length : Int) - 1 = (((dig k (n / 4294967296)).length - 1 : Nat) : Int) by omega] at h2
def digs (n : Nat) : List Int := dig n n
theorem digs_ok (n : Nat) : Dg (digs n) ∧ Nz (digs n) ∧ val (digs n) = (n : Int) := dig_ok n n (Nat.le_refl n)
theorem digs_of {xs : List Int} (hd : Dg xs) (hn : Nz xs) : xs = digs (val xs).toNat := by
  obtain ⟨a, b, c⟩ := digs_ok (val xs).toNat
  have := (val_bound hd).1
  exact Nz_eq hd a hn b (by rw [c]; omega)
/-- How many digits a number has. -/
def dlen (v : Int) : Nat := (digs v.natAbs).length
theorem dlen_le {v : Int} {k : Nat} (h : v.natAbs < 4294967296 ^ k) : dlen v ≤ k := by
  obtain ⟨a, b, c⟩ := digs_ok v.natAbs
  refine Nz_len a b ?_
  rw [c]
  have : ((v.natAbs : Nat) : Int) < ((4294967296 ^ k : Nat) : Int) := by omega
  simpa using this
theorem dlen_lt (v : Int) : v.natAbs < 4294967296 ^ dlen v := by
  obtain ⟨a, b, c⟩ := digs_ok v.natAbs
  have h := (val_bound a).2
  rw [c] at h
  have : ((v.natAbs : Nat) : Int) < ((4294967296 ^ dlen v : Nat) : Int) := by simpa [dlen] using h
  omega
theorem dlen_mono {u v : Int} (h : u.natAbs ≤ v.natAbs) : dlen u ≤ dlen v := dlen_le (Nat.lt_of_le_of_lt h (dlen_lt v))
theorem dlen_add (u v : Int) : dlen (u + v) ≤ max (dlen u) (dlen v) + 1 := by
  refine dlen_le ?_
  have h1 := dlen_lt u
  have h2 := dlen_lt v
  have h3 := Nat.pow_le_pow_right (n := 4294967296) (by decide) (Nat.le_max_left (dlen u) (dlen v))
  have h4 := Nat.pow_le_pow_right (n := 4294967296) (by decide) (Nat.le_max_right (dlen u) (dlen v))
  have h5 := Int.natAbs_add_le u v
  rw [Nat.pow_succ]
  omega
theorem dlen_mul (u v : Int) : dlen (u * v) ≤ dlen u + dlen v := by
  refine dlen_le ?_
  have h1 := dlen_lt u
  have h2 := dlen_lt v
  rw [Int.natAbs_mul, Nat.pow_add]
  exact Nat.mul_lt_mul'' h1 h2
theorem dlen_neg (u : Int) : dlen (-u) = dlen u := by unfold dlen; rw [Int.natAbs_neg]
end Go.Proofs.Ytfkncjfpgflafaa.X
