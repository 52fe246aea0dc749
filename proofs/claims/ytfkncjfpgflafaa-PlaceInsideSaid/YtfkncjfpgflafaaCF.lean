/- Solve of drawn pulls. Plain. -/
import Derived.Test.YtfkncjfpgflafaaCE
import Derived.Test.YtfkncjfpgflafaaBK
namespace Go.Proofs.Ytfkncjfpgflafaa.X
open Go Go.RowKit
set_option linter.unusedVariables false
set_option linter.unusedSimpArgs false
theorem pow_pulls {n : Nat} (hn : n ≤ 8) : (n * 67200) ^ n < 4294967296 ^ 5 := by
  have h1 : (n * 67200) ^ n ≤ (8 * 67200) ^ n := Nat.pow_le_pow_left (by omega) _
  have h2 : (8 * 67200) ^ n ≤ (8 * 67200) ^ 8 := Nat.pow_le_pow_right (by decide) hn
  have h3 : (8 * 67200) ^ 8 < 4294967296 ^ 5 := by decide +kernel
  exact Nat.lt_of_le_of_lt (Nat.le_trans h1 h2) h3
/-- Places that are fractions over two common divisors. -/
structure Spots (n : Nat) (out : List T_place_Spot) (X Y : Nat → Int) (D G : Int) : Prop where
  len : out.length = n
  D0 : D ≠ 0
  G0 : G ≠ 0
  DL : dlen D ≤ 5
  GL : dlen G ≤ 5
  XL : ∀ i, i < n → dlen (X i) ≤ 5
  YL : ∀ i, i < n → dlen (Y i) ≤ 5
  out : ∀ i : Nat, i < n → gt out (i : Int) = ⟨rt (frac X D (i : Int)), rt (frac Y G (i : Int))⟩
theorem frac_nat (X : Nat → Int) (D : Int) (i : Nat) : frac X D (i : Int) = Rat.divInt (X i) D := by unfold frac; rw [Int.toNat_natCast]
theorem Spots.szX {n : Nat} {out : List T_place_Spot} {X Y : Nat → Int} {D G : Int} (h : Spots n out X Y D G) {i : Nat} (hi : i < n) : rsz (frac X D (i : Int)) ≤ 5 := by
  rw [frac_nat]
  have h1 := rsz_divInt (n := X i) h.D0
  have h2 := h.XL i hi
  have h3 := h.DL
  omega
theorem Spots.szY {n : Nat} {out : List T_place_Spot} {X Y : Nat → Int} {D G : Int} (h : Spots n out X Y D G) {i : Nat} (hi : i < n) : rsz (frac Y G (i : Int)) ≤ 5 := by
  rw [frac_nat]
  have h1 := rsz_divInt (n := Y i) h.G0
  have h2 := h.YL i hi
  have h3 := h.GL
  omega
section
variable {n : Nat} {l : List T_place_Pull} (h : PullsOk n l) (hn : n ≤ 8) (hn1 : 1 ≤ n)
include h
theorem nets_w (g : T_floor_Point → Int) : ∀ p ∈ nets g l, 0 < p.w := by
  intro p hp
  obtain ⟨q, hq, rfl⟩ := List.mem_map.1 hp
  have := (h.all q hq).w1
  have w : (0 : Int) < q.Weight := by omega
  show (0 : Rat) < (q.Weight : Rat)
  exact_mod_cast w
theorem nets_held (g : T_floor_Point → Int) : HeldN (n : Int) (nets g l) := held_nets h g
include hn hn1
theorem PSolve_ok : Ok (P_place_Solve (n : Int) l) (fun r => r.2 = 0 ∧ ∃ X Y D G, Spots n r.1 X Y D G ∧ (∀ f, work (nets (·.X) l) (frac X D) f = 0) ∧ ∀ f, work (nets (·.Y) l) (frac Y G) f = 0) := by
  unfold P_place_Solve
  refine ok_bd (PCheck_ok h hn) ?_
  rintro _ rfl
  refine ok_f (by simp) (ok_bd (held_ok h hn) ?_)
  rintro _ rfl
  refine ok_f (by simp) (ok_bd (system_ok h hn) ?_)
  rintro ⟨a, xs, ys⟩ ⟨hb, e1, e2⟩
  simp only at hb e1 e2 ⊢
  have hd : det n (mat a) ≠ 0 := held_det (nets_w h (·.X)) (nets_held h (·.X)) rfl e1
  refine ok_bd (Solve_ok hb.sq (by omega) hn1 (by omega) (by omega) (pow_pulls hn) (by omega) hb.lx hb.bx) ?_
  rintro ⟨o1, c1⟩ ⟨-, s1⟩
  obtain ⟨s1, D, X, s2⟩ := s1 hd
  simp only at s1 s2 ⊢
  subst s1
  refine ok_f (by simp) (ok_bd (Solve_ok hb.sq (by omega) hn1 (by omega) (by omega) (pow_pulls hn) (by omega) hb.ly hb.by_) ?_)
  rintro ⟨o2, c2⟩ ⟨-, t1⟩
  obtain ⟨t1, G, Y, t2⟩ := t1 hd
  simp only at t1 t2 ⊢
  subst t1
  refine ok_f (by simp) (ok_bd (R := fun o => Spots n o X Y D G) ?_ ?_)
  · have l1 := s2.len
    have l2 := t2.len
    refine ok_lp (fun s => ∃ j : Nat, s.2 = (j : Int) ∧ j ≤ n ∧ s.1.length = j ∧ ∀ i : Nat, i < j → gt s.1 (i : Int) = ⟨rt (frac X D (i : Int)), rt (frac Y G (i : Int))⟩) (fun s => ((n : Int) - s.2).toNat)
      ⟨0, rfl, Nat.zero_le _, rfl, fun i hi => by omega⟩ (by simp only; omega) ?_
    rintro ⟨out, y⟩ ⟨j, rfl, hj, l3, e3⟩
    simp only at l3 e3 ⊢
    unfold P_place_Solve_L15
    dsimp only
    refine ok_ite (fun hlt => ?_) fun hge => ok_some ⟨by omega, s2.D0, t2.D0, s2.DL, t2.DL, s2.XL, t2.XL, fun i hi => e3 i (by omega)⟩
    refine ok_ck ⟨by omega, by omega⟩ (ok_lv (ok_ck ⟨by omega, by omega⟩ (ok_lv (ok_lv (ok_ck (by simp only [apOk, List.length_append, List.length_singleton]; omega) (ok_ar (by omega) (ok_some ⟨⟨j + 1, by simp only; omega, by omega, by simp only [List.length_append, List.length_singleton]; omega, fun i hi => ?_⟩, by simp only; omega⟩)))))))
    simp only
    by_cases q : i = j
    · subst q
      rw [gt_app_1 (by omega), s2.out i (by omega), t2.out i (by omega), frac_nat, frac_nat]
    · rw [gt_app_l (by omega)]; exact e3 i (by omega)
  rintro o ho
  refine ok_some ⟨rfl, X, Y, D, G, ho, fun f => ?_, fun f => ?_⟩
  · have := form_sol s2.D0 s2.eqn f
    have := e1 f (frac X D)
    grind
  · have := form_sol t2.D0 t2.eqn f
    have := e2 f (frac Y G)
    grind
end
/-- What Compare tells. -/
theorem cmp_sign (p q : Rat) : ((p.num * q.den - q.num * p.den).sign = 0 ↔ p = q) ∧ ((p.num * q.den - q.num * p.den).sign < 0 ↔ p < q) := by
  have e : p < q ↔ p.num * q.den < q.num * p.den := Rat.lt_iff p q
  have e0 : p = q ↔ p.num * q.den = q.num * p.den := by
    constructor
    · rintro rfl; rfl
    · intro h
      have a1 : ¬ p < q := by rw [Rat.lt_iff]; omega
      have a2 : ¬ q < p := by rw [Rat.lt_iff]; omega
      exact Rat.le_antisymm (Rat.not_lt.1 a2) (Rat.not_lt.1 a1)
  generalize p.num * q.den = u at e e0 ⊢
  generalize q.num * p.den = v at e e0 ⊢
  rw [e, e0]
  rcases Int.lt_trichotomy (u - v) 0 with s | s | s
  · rw [Int.sign_eq_neg_one_of_neg s]; omega
  · rw [s, Int.sign_zero]; omega
  · rw [Int.sign_eq_one_of_pos s]; omega
end Go.Proofs.Ytfkncjfpgflafaa.X
