/- ExactHolds: what Solve returns fulfils all equations. Plain. -/
import Derived.Test.YtkenpbnpemjbhaaBK
namespace Go.Proofs.Ytkenpbnpemjbhaa.X
open Go Go.RowKit
set_option linter.unusedVariables false
set_option linter.unusedSimpArgs false
set_option linter.unusedSectionVars false
theorem dlen_small {x : Int} (h : x.natAbs ≤ 1000) : dlen x ≤ 1 := dlen_le (by rw [Nat.pow_one]; omega)
theorem ExactHolds_ok {L : List Int} (hL : Strm L) : Ok (P_maskkeep4_ExactHolds L) (fun r => r = true) := by
  unfold P_maskkeep4_ExactHolds
  refine ok_bd (hL.range (by omega) (by omega) (by omega) (by omega)) ?_
  rintro ⟨n', k1⟩ ⟨i0, i1, rfl⟩
  simp only at i0 i1
  obtain ⟨n, rfl⟩ := Int.eq_ofNat_of_zero_le (show 0 ≤ n' by omega)
  have hn : n ≤ 16 := by omega
  have hn1 : 1 ≤ n := by omega
  dsimp only
  refine ok_bd (matrix_ok hL (by omega) (by omega) hn) ?_
  rintro ⟨a, k2⟩ ⟨hS, q0, q1⟩
  simp only at hS q0 q1
  refine ok_bd (R := fun b => b.length = n ∧ ∀ i : Nat, i < n → (gt b (i : Int)).natAbs ≤ 1000) ?_ ?_
  · refine ok_lp (fun s => ∃ m : Nat, s.2.1 = (m : Int) ∧ m ≤ n ∧ s.1.length = m ∧ (∀ i : Nat, i < m → (gt s.1 (i : Int)).natAbs ≤ 1000) ∧ 0 ≤ s.2.2 ∧ s.2.2 ≤ 10000 + m) (fun s => ((n : Int) - s.2.1).toNat) ⟨0, rfl, Nat.zero_le _, rfl, fun i hi => by omega, by simp only; omega, by simp only; omega⟩ (by simp only; omega) ?_
    rintro ⟨b, y, p⟩ ⟨m, rfl, hm, l1, e1, p0, p1⟩
    simp only at l1 e1 p0 p1 ⊢
    unfold P_maskkeep4_ExactHolds_L6
    dsimp only
    refine ok_ite (fun h => ?_) fun h => ok_some ⟨by omega, fun i hi => e1 i (by omega)⟩
    refine ok_bd (hL.range (by omega) (by omega) (by omega) (by omega)) ?_
    rintro ⟨x, p3⟩ ⟨x0, x1, rfl⟩
    simp only at x0 x1
    refine ok_lv (ok_ck (by simp only [apOk, List.length_append, List.length_singleton]; omega) (ok_ar (by omega) (ok_some ⟨⟨m + 1, by simp only; omega, by omega, by simp only [List.length_append, List.length_singleton]; omega, fun i hi => ?_, by simp only; omega, by simp only; omega⟩, by simp only; omega⟩)))
    simp only
    by_cases e : i = m
    · subst e; rw [gt_app_1 (by omega)]; omega
    · rw [gt_app_l (by omega)]; exact e1 i (by omega)
  rintro b ⟨lb, eb⟩
  have hla := hS.len
  refine ok_bd (Solve_ok hS (by omega) hn1 (by decide) (by decide) (pow_small hn) (by decide) lb eb) ?_
  rintro ⟨out, e⟩ ⟨hs0, hs1⟩
  simp only at hs0 hs1
  refine ok_bd (Det_ok hS (by omega) hn1 (by decide) (by decide) (pow_small hn) (by decide)) ?_
  rintro _ rfl
  refine ok_bd exacts_ok ?_
  rintro _ rfl
  refine ok_lv (ok_bd (R := fun r => r = (det n (mat a)).sign) (ok_gd (fun _ => Sign_ok) fun hq => by simp at hq) ?_)
  rintro _ rfl
  dsimp only
  by_cases hd : det n (mat a) = 0
  · have h1 := hs0 hd
    cases h1
    rw [hd]
    refine ok_lv (ok_f (by simp) (ok_t (by decide) (ok_lv (ok_some ?_))))
    simp
  · obtain ⟨rfl, D, X, hX⟩ := hs1 hd
    have hsg : (det n (mat a)).sign ≠ 0 := fun e => hd (Int.sign_eq_zero_iff_zero.1 e)
    refine ok_lv (ok_f (by simp [hsg]) (ok_f (by simp) (ok_bs1 (R := fun _ => True) ?_ fun _ _ => ok_some ?_)))
    · refine ok_lp (fun y => 0 ≤ y ∧ y ≤ n) (fun y => ((n : Int) - y).toNat) ⟨by omega, by omega⟩ (by omega) ?_
      rintro z ⟨z0, z1⟩
      obtain ⟨i, rfl⟩ := Int.eq_ofNat_of_zero_le z0
      unfold P_maskkeep4_ExactHolds_L16
      dsimp only
      rw [hla]
      refine ok_ite (fun hlt => ?_) fun hge => ok_some ⟨(), rfl, trivial⟩
      have hi : i < n := by omega
      have hrow := hS.row i hi
      refine ok_ck ⟨by omega, by omega⟩ (ok_lv (ok_bd (Whole_ok (by omega)) ?_))
      rintro _ rfl
      have key : ∀ m, m ≤ n → rsz (Rat.divInt (sm m (fun j => mat a i j * X j)) D) ≤ 100 := by
        intro m hm
        have h1 := rsz_divInt (n := sm m (fun j => mat a i j * X j)) hX.D0
        have h2 := hX.DL
        have h3 : dlen (sm m (fun j => mat a i j * X j)) ≤ 8 + m := by
          have h4 : sm m (fun j => mat a i j * X j) = sm m (fun j => if j < n then mat a i j * X j else 0) := sm_congr fun j hj => by rw [if_pos (by omega)]
          rw [h4]
          refine dlen_sm (K := 8) (fun j => ?_) m
          split
          · rename_i hj
            have h5 := dlen_mul (mat a i j) (X j)
            have h6 := dlen_small (hS.ent i j hi hj)
            have h7 := hX.XL j hj
            omega
          · rw [dlen_zero]; omega
        omega
      refine ok_bs1 (R := fun s => s = ((rt ((gt b (i : Int) : Int) : Rat)).Num.fneg, (rt ((gt b (i : Int) : Int) : Rat)).Num.fmag, (rt ((gt b (i : Int) : Int) : Rat)).Den.fneg, (rt ((gt b (i : Int) : Int) : Rat)).Den.fmag)) ?_ ?_
      · refine ok_lp (fun s => ∃ m : Nat, m ≤ n ∧ s = ((m : Int), (rt (Rat.divInt (sm m (fun j => mat a i j * X j)) D)).Num.fneg, (rt (Rat.divInt (sm m (fun j => mat a i j * X j)) D)).Num.fmag, (rt (Rat.divInt (sm m (fun j => mat a i j * X j)) D)).Den.fneg, (rt (Rat.divInt (sm m (fun j => mat a i j * X j)) D)).Den.fmag))
          (fun s => ((n : Int) - s.1).toNat) ⟨0, Nat.zero_le _, ?_⟩ (by simp only; omega) ?_
        · have e0 : Rat.divInt (sm 0 (fun j => mat a i j * X j)) D = ((0 : Int) : Rat) := by
            rw [show sm 0 (fun j => mat a i j * X j) = 0 from rfl, Rat.divInt_eq_div]; grind
          rw [e0]; rfl
        rintro _ ⟨m, hm, rfl⟩
        unfold P_maskkeep4_ExactHolds_L20
        dsimp only
        rw [hrow, hX.len, rt_eta]
        refine ok_ite (fun h => ?_) fun h => ok_some ⟨_, rfl, ?_⟩
        · have hm' : m < n := by omega
          have hent := hS.ent i m hi hm'
          unfold mat at hent
          refine ok_ck ⟨by omega, by omega⟩ (ok_lv (ok_f (by omega) (ok_bd (Whole_ok (by omega)) ?_)))
          rintro _ rfl
          refine ok_ck ⟨by omega, by omega⟩ (ok_lv ?_)
          rw [hX.out m hm']
          have s1 := rsz_int (gt (gt a (i : Int)) (m : Int))
          have s2 := dlen_small hent
          have s3 := rsz_divInt (n := X m) hX.D0
          have s4 := hX.XL m hm'
          have s5 := hX.DL
          have s6 := rsz_mul ((gt (gt a (i : Int)) (m : Int) : Int) : Rat) (Rat.divInt (X m) D)
          refine ok_bd (Prod_ok (by omega) (by omega) (by omega)) ?_
          rintro _ rfl
          dsimp only
          have es : Rat.divInt (sm m (fun j => mat a i j * X j)) D + ((gt (gt a (i : Int)) (m : Int) : Int) : Rat) * Rat.divInt (X m) D = Rat.divInt (sm (m + 1) (fun j => mat a i j * X j)) D := by
            rw [int_mul_divInt _ _ _ hX.D0, divInt_add _ _ _ hX.D0]; rfl
          have t1 := key m hm
          have t2 := key (m + 1) hm'
          refine ok_bd (R := fun s => s = ((0 : Int), (rt (Rat.divInt (sm (m + 1) (fun j => mat a i j * X j)) D)).Num.fneg, (rt (Rat.divInt (sm (m + 1) (fun j => mat a i j * X j)) D)).Num.fmag, (rt (Rat.divInt (sm (m + 1) (fun j => mat a i j * X j)) D)).Den.fneg, (rt (Rat.divInt (sm (m + 1) (fun j => mat a i j * X j)) D)).Den.fmag)) (ok_t rfl (ok_bd (Sum_ok (by omega) (by omega) (by rw [es]; omega)) ?_)) ?_
          · rintro _ rfl
            rw [es]
            exact ok_some rfl
          rintro _ rfl
          exact ok_f (by simp) (ok_ar (by omega) (ok_some ⟨⟨m + 1, hm', rfl⟩, by simp only; omega⟩))
        · have e : m = n := by omega
          subst e
          rw [hX.eqn i hi, divInt_self_mul _ _ hX.D0]
      rintro _ rfl
      dsimp only
      rw [rt_eta]
      refine ok_ck ⟨by omega, by omega⟩ (ok_lv (ok_bd (Whole_ok (by have := eb i hi; omega)) ?_))
      rintro _ rfl
      have s1 := rsz_int (gt b (i : Int))
      have s2 := dlen_small (eb i hi)
      refine ok_bd (Compare_ok (by omega) (by omega)) ?_
      rintro _ rfl
      refine ok_f (by rw [Int.sub_self]; simp) (ok_ar (by omega) (ok_some ⟨⟨by omega, by omega⟩, by omega⟩))
    · rw [hX.len]; simp
end Go.Proofs.Ytkenpbnpemjbhaa.X
