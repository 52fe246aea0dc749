/- The law LegalOrder, walked. -/
import Derived.Test.YtnooiajahmichaaML
namespace Go.Proofs.Ytnooiajahmichaa.X
open Go Go.RowKit
set_option linter.unusedVariables false
set_option linter.unusedSimpArgs false

theorem Equal_spec {w0 w : World} {l : List Assn} {ρ : Heap} {A B : Option Addr} {ca cb : Nat} {xs ys : List Int} (hA : RI ρ .i64 A xs) (hB : RI ρ .i64 B ys) (hl : xs.length ≤ 4611686018427387904) (hS : St w0 w (ro ρ :: l)) :
    Calls Try.prog 34 #[.slice A xs.length ca, .slice B ys.length cb] w fun e w' => e = .returned (.bool (decide (xs = ys))) ∧ St w0 w' (ro ρ :: l) := by
  refine enter Try.func34 rfl 26 rfl (by simp) ?_
  refine x_seq ?_
  refine x_region ?_
  refine o_pure (v := .bool false) 4 (yl_assign rfl) ?_
  refine x_done ?_
  refine x_seq ?_
  refine x_seq ?_
  refine x_region ?_
  refine o_pure (v := .slice A xs.length ca) 6 (yl_move rfl) ?_
  refine o_pure (v := .int .i64 (xs.length : Int)) 7 (yl_len_slice us_22 rfl) ?_
  refine o_pure (v := .slice B ys.length cb) 8 (yl_move rfl) ?_
  refine o_pure (v := .int .i64 (ys.length : Int)) 9 (yl_len_slice us_22 rfl) ?_
  refine o_pure (v := .bool (decide ((xs.length : Int) ≠ (ys.length : Int)))) 10 (yl_neq rfl rfl) ?_
  refine x_done ?_
  refine x_cond_p ((xs.length : Int) ≠ (ys.length : Int)) rfl (fun hn => ?_) (fun hn => ?_)
  · skip
    refine x_seq ?_
    refine x_region ?_
    refine o_pure (v := .bool false) 4 (yl_assign rfl) ?_
    refine x_done ?_
    refine x_return ?_
    refine ⟨.bool false, rfl, ?_⟩
    refine ⟨?_, hS⟩
    congr 2
    symm
    first
      | (rw [decide_eq_true_eq]; refine ext_rd (by omega) fun j h3 h4 => hs j h3 (by omega))
      | (rw [decide_eq_false_iff_not]; rintro rfl; omega)
  · skip
    refine x_skip ?_
    refine x_seq ?_
    refine x_seq ?_
    refine x_region ?_
    refine o_pure (v := .slice A xs.length ca) 11 (yl_move rfl) ?_
    refine o_pure (v := .int .i64 (xs.length : Int)) 12 (yl_len_slice us_22 rfl) ?_
    refine o_pure (v := .int .i64 0) 13 (yl_move rfl) ?_
    refine x_done ?_
    refine x_block ?_
    refine x_loop (fun k_ E w => ∃ (i : Nat), E 13 = .int .i64 (i : Int) ∧ E 0 = .slice A xs.length ca ∧ E 1 = .slice B ys.length cb ∧ E 12 = .int .i64 (xs.length : Int) ∧ i ≤ xs.length ∧ (∀ j : Int, 0 ≤ j → j < i → rd xs j = rd ys j) ∧ k_ = xs.length - i ∧ St w0 w (ro ρ :: l)) xs.length ⟨0, Eq.trans (b := Value.int .i64 0) rfl (congrArg (Value.int .i64) (by omega)), rfl, rfl, rfl, by omega, by intro j h3 h4; omega, by omega, hS⟩ ?_
    rintro k_ E w ⟨i, e13, e0, e1, e12, hi, hs, hk, hS⟩
    refine x_seq ?_
    refine x_region ?_
    refine o_pure (v := .bool (decide ((i : Int) < (xs.length : Int)))) 14 (yl_lss e13 e12) ?_
    refine x_done ?_
    refine x_seq ?_
    refine x_cond_p ((i : Int) < (xs.length : Int)) rfl (fun hlt => ?_) (fun hlt => ?_)
    · skip
      refine x_skip ?_
      refine x_seq ?_
      refine x_block ?_
      refine x_seq ?_
      refine x_region ?_
      refine o_pure (v := .int .i64 (i : Int)) 15 (yl_move e13) ?_
      refine o_pure (v := .int .i64 (i : Int)) 5 (yl_assign rfl) ?_
      refine x_done ?_
      refine x_seq ?_
      refine x_quiet (fun w' => St w0 w' (ro ρ :: l)) mixed (by kernel_rfl) (hS.drawn _) ?_
      refine q_pure (v := .slice A xs.length ca) 16 (yl_move e0) ?_
      refine q_pure (v := .int .i64 (i : Int)) 17 (yl_move rfl) ?_
      refine q_pure (v := .pointer (some ((adr A).add ((i : Int).toNat * 1)))) 18 (yl_index_r sl_22 rfl rfl (hA.some (i := (i : Int)) (by omega) (by omega)) (by omega) (by omega)) ?_
      refine q_at (v := .int .i64 (rd xs (i : Int))) 19 (fun w' hS => at_load one_3 rfl (hA.cell hS (by omega) (by omega))) ?_
      refine q_pure (v := .slice B ys.length cb) 20 (yl_move e1) ?_
      refine q_pure (v := .int .i64 (i : Int)) 21 (yl_move rfl) ?_
      refine q_pure (v := .pointer (some ((adr B).add ((i : Int).toNat * 1)))) 22 (yl_index_r sl_22 rfl rfl (hB.some (i := (i : Int)) (by omega) (by omega)) (by omega) (by omega)) ?_
      refine q_at (v := .int .i64 (rd ys (i : Int))) 23 (fun w' hS => at_load one_3 rfl (hB.cell hS (by omega) (by omega))) ?_
      refine q_pure (v := .bool (decide ((rd xs (i : Int)) ≠ (rd ys (i : Int))))) 24 (yl_neq rfl rfl) ?_
      refine q_done fun w' hS => ?_
      refine x_cond_p ((rd xs (i : Int)) ≠ (rd ys (i : Int))) rfl (fun hne => ?_) (fun hne => ?_)
      · skip
        refine x_seq ?_
        refine x_region ?_
        refine o_pure (v := .bool false) 4 (yl_assign rfl) ?_
        refine x_done ?_
        refine x_return ?_
        refine ⟨.bool false, rfl, ?_⟩
        refine ⟨?_, hS⟩
        congr 2
        symm
        first
          | (rw [decide_eq_true_eq]; refine ext_rd (by omega) fun j h3 h4 => hs j h3 (by omega))
          | (rw [decide_eq_false_iff_not]; rintro rfl; omega)
      · skip
        refine x_skip ?_
        refine x_blk ?_
        refine x_region ?_
        refine o_pure (v := .int .i64 ((i : Int) + 1)) 25 (yl_add (a := (i : Int)) (b := 1) e13 rfl (wrap_i64 (by omega))) ?_
        refine o_pure (v := .int .i64 ((i : Int) + 1)) 13 (yl_move rfl) ?_
        refine x_done ?_
        refine x_inv ⟨xs.length - (i + 1), by omega, i + 1, Eq.trans (b := Value.int .i64 ((i : Int) + 1)) rfl (congrArg (Value.int .i64) (by omega)), e0, e1, e12, by omega, by
          intro j h3 h4
          by_cases e : j = (i : Int)
          · subst e; omega
          · exact hs j h3 (by omega), by omega, hS⟩
    · skip
      refine x_exitTo _ rfl ?_
      refine x_seq ?_
      refine x_region ?_
      refine o_pure (v := .bool true) 4 (yl_assign rfl) ?_
      refine x_done ?_
      refine x_return ?_
      refine ⟨.bool true, rfl, ?_⟩
      refine ⟨?_, hS⟩
      congr 2
      symm
      first
        | (rw [decide_eq_true_eq]; refine ext_rd (by omega) fun j h3 h4 => hs j h3 (by omega))
        | (rw [decide_eq_false_iff_not]; rintro rfl; omega)

theorem rows_spec {w0 w : World} {l : List Assn} {ρ : Heap} (hS : St w0 w (ro ρ :: l)) :
    Calls Try.prog 17 #[] w fun e w' => e = .returned (.bool true) ∧ St w0 w' (ro ρ :: l) := by
  refine enter Try.func17 rfl 17 rfl (by simp) ?_
  refine x_seq ?_
  refine x_region ?_
  refine o_pure (v := .bool false) 0 (yl_assign rfl) ?_
  refine x_done ?_
  refine x_seq ?_
  refine x_region ?_
  refine o_buildSlice (vs := [.int .i64 2, .int .i64 2]) (cs := [.int .i64 2, .int .i64 2]) sl_22 zero_3 rfl rfl (by intro v hv; simp only [List.mem_cons, List.not_mem_nil, or_false] at hv; (first | (subst hv; rfl) | (rcases hv with rfl | rfl <;> rfl))) (by decide) rfl hS (fun b1 w' hS => ?_)
  refine o_buildSlice (vs := [.int .i64 2, .int .i64 2]) (cs := [.int .i64 2, .int .i64 2]) sl_22 zero_3 rfl rfl (by intro v hv; simp only [List.mem_cons, List.not_mem_nil, or_false] at hv; (first | (subst hv; rfl) | (rcases hv with rfl | rfl <;> rfl))) (by decide) rfl hS (fun b2 w' hS => ?_)
  refine o_pure (v := .agg #[.int .i64 0, .int .i64 10]) 6 (yl_build bld_32 bldf_32 (ps := [(0, .int .i64 0), (1, .int .i64 10)]) rfl rfl) ?_
  obtain ⟨ρ3, hleq4, hbq4, hS⟩ := St.keep ((hS.pull 2).pull 2)
  have hb1_ : RI ρ3 .i64 (some ⟨b1, 0, none⟩) [2, 2] := RI.of_block hbq4
  obtain ⟨ρ5, hleq6, hbq6, hS⟩ := St.keep (hS.pull 1)
  have hb2_ : RI ρ5 .i64 (some ⟨b2, 0, none⟩) [2, 2] := RI.of_block hbq6
  have hb1_ := hb1_.le hleq6
  refine o_call (vs := [.slice (some ⟨b1, 0, none⟩) 2 2, .slice (some ⟨b2, 0, none⟩) 2 2, .agg #[.int .i64 0, .int .i64 10]]) call_16 rfl (Calls.mono (Row_spec (want := [2, 2]) (wide := [2, 2]) (f := 0) (t := 10) hb1_ hb2_ rfl (by decide) (by decide) (by decide) (by decide) (by decide) (by decide) (by decide) hS) ?_)
  rintro e w' ⟨ρr, A_, c_, hler, rfl, hcr, hr, hS⟩
  refine ⟨_, rfl, ?_⟩
  have hv : placeF 0 ((10 - 0) + 1 : Int).toNat ([2, 2].zip [2, 2]) 0 = [1, 3] := by decide +kernel
  rw [hv] at hr
  have hb1_ := hb1_.le hler
  have hb2_ := hb2_.le hler
  refine o_pure (v := .tuple #[.slice A_ 2 c_, .int .i64 0]) 3 (yl_move rfl) ?_
  refine o_pure (v := .slice A_ 2 c_) 8 (yl_extract rfl rfl) ?_
  refine o_pure (v := .int .i64 0) 9 (yl_extract rfl rfl) ?_
  refine o_pure (v := .slice A_ 2 c_) 1 (yl_assign rfl) ?_
  refine o_pure (v := .int .i64 0) 2 (yl_assign rfl) ?_
  refine x_done ?_
  refine x_seq ?_
  refine x_region ?_
  refine o_pure (v := .int .i64 0) 10 (yl_move rfl) ?_
  refine o_pure (v := .bool (decide ((0 : Int) = 0))) 11 (yl_eql rfl rfl) ?_
  refine o_pure (v := .bool (decide ((0 : Int) = 0))) 12 (yl_move rfl) ?_
  refine o_strip 12 true ((says_t _).trans (decide_eq_true rfl)) ?_
  refine o_pure (v := .slice A_ 2 c_) 13 (yl_move rfl) ?_
  refine o_strip 12 true ((says_t _).trans (decide_eq_true rfl)) ?_
  refine o_buildSlice (vs := [.int .i64 1, .int .i64 3]) (cs := [.int .i64 1, .int .i64 3]) sl_22 zero_3 rfl rfl (by intro v hv; simp only [List.mem_cons, List.not_mem_nil, or_false] at hv; (first | (subst hv; rfl) | (rcases hv with rfl | rfl <;> rfl))) (by decide) rfl hS (fun b7 w' hS => ?_)
  refine o_strip 12 true ((says_t _).trans (decide_eq_true rfl)) ?_
  obtain ⟨ρ8, hleq9, hbq9, hS⟩ := St.keep ((hS.pull 1).pull 1)
  have hb3_ : RI ρ8 .i64 (some ⟨b7, 0, none⟩) [1, 3] := RI.of_block hbq9
  have hb1_ := hb1_.le hleq9
  have hb2_ := hb2_.le hleq9
  have hr := hr.le hleq9
  refine o_call (vs := [.slice A_ 2 c_, .slice (some ⟨b7, 0, none⟩) 2 2]) call_34 rfl (Calls.mono (Equal_spec (xs := [1, 3]) (ys := [1, 3]) hr hb3_ (by decide) hS) ?_)
  rintro e w' ⟨rfl, hS⟩
  refine ⟨_, rfl, ?_⟩
  refine o_pure (v := .bool ((decide ((0 : Int) = 0)) && (decide (([1, 3] : List Int) = [1, 3])))) 16 (yl_and rfl (fun hc => rfl) rfl) ?_
  refine o_pure (v := .bool ((decide ((0 : Int) = 0)) && (decide (([1, 3] : List Int) = [1, 3])))) 0 (yl_assign rfl) ?_
  refine x_done ?_
  refine x_return ?_
  refine ⟨.bool ((decide ((0 : Int) = 0)) && (decide (([1, 3] : List Int) = [1, 3]))), rfl, ?_⟩
  exact ⟨by simp, St.ro_back (Le.trans (Le.trans (Le.trans hleq4 hleq6) hler) hleq9) hS⟩

set_option maxHeartbeats 1000000 in
set_option maxRecDepth 100000 in
theorem LegalOrder_spec {w : World} {A : Option Addr} {c : Nat} {L : List Int} {ρ : Heap} (hA : RI ρ .i64 A L) {w0 : World} {l : List Assn} (hS : St w0 w (ro ρ :: l)) :
    Calls Try.prog 3 #[.slice A L.length c] w fun e w' => ∃ ρ' : Heap, e = .returned (.bool true) ∧ Le ρ ρ' ∧ St w0 w' (ro ρ' :: l) := by
  refine enter Try.func3 rfl 173 rfl (by simp) ?_
  refine x_seq ?_
  refine x_region ?_
  refine o_pure (v := .bool false) 2 (yl_assign rfl) ?_
  refine x_done ?_
  refine x_seq ?_
  refine x_region ?_
  refine o_pure (v := .slice A L.length c) 14 (yl_move rfl) ?_
  refine o_pure (v := .agg #[.slice A L.length c, .int .i64 0]) 15 (yl_build bld_25 bldf_25 (ps := [(0, .slice A L.length c)]) rfl rfl) ?_
  refine o_box (cs := [.slice A L.length c, .int .i64 0]) rfl rfl hS (fun b1 w' hS => ?_)
  refine o_pure (v := .pointer (some ⟨b1, 0, none⟩)) 3 (yl_assign rfl) ?_
  refine x_done ?_
  refine x_seq ?_
  replace hS := St.strm_shut (m := 0) (at_ := 0) (by omega) (by omega) hS
  refine x_region ?_
  refine o_pure (v := .slice none 0 0) 4 (yl_assign rfl) ?_
  refine o_pure (v := .slice none 0 0) 5 (yl_assign rfl) ?_
  refine x_done ?_
  refine x_seq ?_
  refine x_region ?_
  refine o_pure (v := .int .i64 0) 6 (yl_assign rfl) ?_
  refine x_done ?_
  refine x_seq ?_
  refine x_seq ?_
  refine x_region ?_
  refine o_pure (v := .pointer (some ⟨b1, 0, none⟩)) 17 (yl_move rfl) ?_
  refine o_call (vs := [.pointer (some ⟨b1, 0, none⟩), .int .i64 1, .int .i64 12]) call_14 rfl (Calls.mono (Range_spec hA (by omega) (lo := 1) (hi := 12) (by omega) (by omega) (by omega) (by omega) ((hS.pull 1).pull 1)) ?_)
  rintro e w' ⟨r2, rfl, ⟨r2a, r2b, r2c⟩, hS⟩
  refine ⟨_, rfl, ?_⟩
  refine o_pure (v := .int .i64 0) 19 (yl_move rfl) ?_
  refine x_done ?_
  refine x_block ?_
  refine x_loop (fun k_ E w => ∃ (i : Nat) (v1 : Value) (v2 : Value) (want : List Int) (wide : List Int), E 4 = v1 ∧ E 5 = v2 ∧ E 6 = .int .i64 wide.sum ∧ E 19 = .int .i64 (i : Int) ∧ E 3 = .pointer (some ⟨b1, 0, none⟩) ∧ E 18 = .int .i64 r2 ∧ (i : Int) ≤ r2 ∧ want.length = i ∧ wide.length = i ∧ (∀ x ∈ want, -5 ≤ x ∧ x ≤ 45) ∧ (∀ x ∈ wide, 1 ≤ x ∧ x ≤ 3) ∧ (0 ≤ wide.sum ∧ wide.sum ≤ 3 * i) ∧ k_ = r2.toNat - i ∧ St w0 w (strm b1 A c L (1 + 2 * (i : Int)) :: ro ρ :: vec 3 1 v1 i (ints .i64 want) :: vec 3 1 v2 i (ints .i64 wide) :: l)) r2.toNat ⟨0, .slice none 0 0, .slice none 0 0, [], [], rfl, rfl, Eq.trans (b := Value.int .i64 0) rfl (congrArg (Value.int .i64) (by simp)), Eq.trans (b := Value.int .i64 0) rfl (congrArg (Value.int .i64) (by omega)), rfl, rfl, by omega, rfl, rfl, by simp, by simp, by simp, by omega, (St.strm_more (by omega) ((((St.vec_nil (St.vec_nil ((hS.pull 1).pull 1) 3 1) 3 1).pull 2).pull 3).pull 1))⟩ ?_
  rintro k_ E w ⟨i, v1, v2, want, wide, e4, e5, e6, e19, e3, e18, hi, hwl, hvl, hwr, hvr, hsm, hk, hS⟩
  refine x_seq ?_
  refine x_region ?_
  refine o_pure (v := .bool (decide ((i : Int) < r2))) 20 (yl_lss e19 e18) ?_
  refine x_done ?_
  refine x_seq ?_
  refine x_cond_p ((i : Int) < r2) rfl (fun hlt => ?_) (fun hlt => ?_)
  · skip
    refine x_skip ?_
    refine x_seq ?_
    refine x_block ?_
    refine x_seq ?_
    refine x_region ?_
    refine o_pure (v := v1) 21 (yl_move e4) ?_
    refine o_pure (v := .pointer (some ⟨b1, 0, none⟩)) 22 (yl_move e3) ?_
    refine o_call (vs := [.pointer (some ⟨b1, 0, none⟩), .int .i64 (-5), .int .i64 45]) call_14 rfl (Calls.mono (Range_spec hA (by omega) (lo := (-5)) (hi := 45) (by omega) (by omega) (by omega) (by omega) ((hS.pull 1).pull 1)) ?_)
    rintro e w' ⟨r3, rfl, ⟨r3a, r3b, r3c⟩, hS⟩
    refine ⟨_, rfl, ?_⟩
    refine o_buildSlice (vs := [.int .i64 r3]) (cs := [.int .i64 r3]) sl_22 zero_3 rfl rfl (by intro v hv; simp only [List.mem_cons, List.not_mem_nil, or_false] at hv; (first | (subst hv; rfl) | (rcases hv with rfl <;> rfl))) (by decide) rfl hS (fun b4 w' hS => ?_)
    refine o_append1 (xs := ints .i64 want) (news := [.int .i64 r3]) sl_22 zero_3 rfl (by decide) rfl rfl ((hS.pull 3).pull 1) rfl (by intro u hu; simp only [List.mem_cons, List.not_mem_nil, or_false] at hu; first | (subst hu; rfl) | (rcases hu with rfl <;> rfl)) (by unfold maxLen; omega) (by omega) (fun v5 w' hS => ?_)
    replace hS : St w0 w' (vec 3 1 v5 (i + 1) (ints .i64 (want ++ [r3])) :: strm b1 A c L (1 + 2 * (i : Int) + 1) :: ro ρ :: vec 3 1 v2 i (ints .i64 wide) :: l) := by simpa [ints] using hS
    refine o_pure (v := v2) 26 (yl_move e5) ?_
    refine o_pure (v := .pointer (some ⟨b1, 0, none⟩)) 27 (yl_move e3) ?_
    refine o_call (vs := [.pointer (some ⟨b1, 0, none⟩), .int .i64 1, .int .i64 3]) call_14 rfl (Calls.mono (Range_spec hA (by omega) (lo := 1) (hi := 3) (by omega) (by omega) (by omega) (by omega) ((hS.pull 2).pull 2)) ?_)
    rintro e w' ⟨r6, rfl, ⟨r6a, r6b, r6c⟩, hS⟩
    refine ⟨_, rfl, ?_⟩
    refine o_buildSlice (vs := [.int .i64 r6]) (cs := [.int .i64 r6]) sl_22 zero_3 rfl rfl (by intro v hv; simp only [List.mem_cons, List.not_mem_nil, or_false] at hv; (first | (subst hv; rfl) | (rcases hv with rfl <;> rfl))) (by decide) rfl hS (fun b7 w' hS => ?_)
    refine o_append1 (xs := ints .i64 wide) (news := [.int .i64 r6]) sl_22 zero_3 rfl (by decide) rfl rfl ((hS.pull 4).pull 1) rfl (by intro u hu; simp only [List.mem_cons, List.not_mem_nil, or_false] at hu; first | (subst hu; rfl) | (rcases hu with rfl <;> rfl)) (by unfold maxLen; omega) (by omega) (fun v8 w' hS => ?_)
    replace hS : St w0 w' (vec 3 1 v8 (i + 1) (ints .i64 (wide ++ [r6])) :: strm b1 A c L (1 + 2 * (i : Int) + 1 + 1) :: ro ρ :: vec 3 1 v5 (i + 1) (ints .i64 (want ++ [r3])) :: l) := by simpa [ints] using hS
    refine o_pure (v := v5) 4 (yl_assign rfl) ?_
    refine o_pure (v := v8) 5 (yl_assign rfl) ?_
    refine x_done ?_
    obtain ⟨hl_v8, A9, c10, rfl, hc_v8⟩ := St.vec_slice hS
    have hlw : rd (wide ++ [r6]) (((i : Int) + 1) - 1) = r6 := by rw [show ((i : Int) + 1) - 1 = (i : Int) by omega]; simp [rd, hvl]
    have hl0 : (wide ++ [r6]).length = i + 1 := by simp; omega
    refine x_region ?_
    refine o_pure (v := .int .i64 wide.sum) 31 (yl_move e6) ?_
    refine o_pure (v := .slice A9 (i + 1) c10) 32 (yl_move rfl) ?_
    refine o_pure (v := .slice A9 (i + 1) c10) 33 (yl_move rfl) ?_
    refine o_pure (v := .int .i64 (i + 1 : Int)) 34 (yl_len_slice us_22 rfl) ?_
    refine o_pure (v := .int .i64 ((i + 1 : Int) - 1)) 35 (yl_sub (a := (i + 1 : Int)) (b := 1) rfl rfl (wrap_i64 (by omega))) ?_
    refine o_pure (v := .pointer (some ((adr A9).add (((i + 1 : Int) - 1).toNat * 1)))) 36 (yl_index_r sl_22 rfl rfl (St.vecI_cell hS (i := (i + 1 : Int) - 1) (by omega) (by first | omega | (simp only [List.length_set, List.length_append, List.length_replicate, List.length_cons, List.length_nil]; omega))).1 (by omega) (by omega)) ?_
    refine o_at (v := .int .i64 (rd (wide ++ [r6]) ((i + 1 : Int) - 1))) 37 (at_load one_3 rfl (St.vecI_cell hS (i := (i + 1 : Int) - 1) (by omega) (by first | omega | (simp only [List.length_set, List.length_append, List.length_replicate, List.length_cons, List.length_nil]; omega))).2) ?_
    refine o_pure (v := .int .i64 (wide.sum + (rd (wide ++ [r6]) ((i + 1 : Int) - 1)))) 38 (yl_add (a := wide.sum) (b := rd (wide ++ [r6]) ((i + 1 : Int) - 1)) rfl rfl (wrap_i64 (by omega))) ?_
    refine o_pure (v := .int .i64 (wide.sum + (rd (wide ++ [r6]) ((i + 1 : Int) - 1)))) 6 (yl_assign rfl) ?_
    refine x_done ?_
    refine x_blk ?_
    refine x_region ?_
    refine o_pure (v := .int .i64 ((i : Int) + 1)) 39 (yl_add (a := (i : Int)) (b := 1) e19 rfl (wrap_i64 (by omega))) ?_
    refine o_pure (v := .int .i64 ((i : Int) + 1)) 19 (yl_move rfl) ?_
    refine x_done ?_
    refine x_inv ⟨r2.toNat - (i + 1), by omega, i + 1, v5, .slice A9 (i + 1) c10, want ++ [r3], wide ++ [r6], rfl, rfl, Eq.trans (b := Value.int .i64 (wide.sum + (rd (wide ++ [r6]) ((i + 1 : Int) - 1)))) rfl (congrArg (Value.int .i64) (by rw [hlw]; simp)), Eq.trans (b := Value.int .i64 ((i : Int) + 1)) rfl (congrArg (Value.int .i64) (by omega)), e3, e18, by omega, by simp; omega, by simp; omega, by intro x hx; simp only [List.mem_append, List.mem_singleton] at hx; rcases hx with hx | rfl; exact hwr x hx; omega, by intro x hx; simp only [List.mem_append, List.mem_singleton] at hx; rcases hx with hx | rfl; exact hvr x hx; omega, by simp; omega, by omega, (St.strm_more (by omega) (((hS.pull 3).pull 3).pull 3))⟩
  · skip
    refine x_exitTo _ rfl ?_
    refine x_seq ?_
    obtain ⟨ρ11, A12, c13, hle_v1, rfl, hc_v1, hWa, hl_v1, hS⟩ := St.vec_keep ((hS.pull 1).pull 2)
    have hA := hA.le hle_v1
    simp only [ints_length, Nat.mul_one] at hl_v1
    have hWa : RI ρ11 .i64 A12 want := hWa
    obtain ⟨ρ14, A15, c16, hle_v2, rfl, hc_v2, hWb, hl_v2, hS⟩ := St.vec_keep (hS.pull 2)
    have hA := hA.le hle_v2
    have hWa := hWa.le hle_v2
    simp only [ints_length, Nat.mul_one] at hl_v2
    have hWb : RI ρ14 .i64 A15 wide := hWb
    rw [← hwl] at e4
    rw [← hvl] at e5
    refine x_region ?_
    refine o_pure (v := .pointer (some ⟨b1, 0, none⟩)) 40 (yl_move e3) ?_
    refine o_call (vs := [.pointer (some ⟨b1, 0, none⟩), .int .i64 3]) call_15 rfl (Calls.mono (Next_spec hA (by omega) (n := 3) (by omega) (hS.pull 1)) ?_)
    rintro e w' ⟨r17, rfl, ⟨r17a, r17b, r17c⟩, hS⟩
    refine ⟨_, rfl, ?_⟩
    refine o_pure (v := .int .i64 r17) 7 (yl_assign rfl) ?_
    refine x_done ?_
    refine x_seq ?_
    by_cases hsum : wide.sum ≤ 40 - r17
    · skip
      refine x_region ?_
      refine o_pure (v := .slice A12 want.length c13) 43 (yl_move e4) ?_
      refine o_pure (v := .slice A15 wide.length c16) 44 (yl_move e5) ?_
      refine o_pure (v := .int .i64 r17) 45 (yl_move rfl) ?_
      refine o_pure (v := .agg #[.int .i64 r17, .int .i64 40]) 46 (yl_build bld_32 bldf_32 (ps := [(0, .int .i64 r17), (1, .int .i64 40)]) rfl rfl) ?_
      refine o_call (vs := [.slice A12 want.length c13, .slice A15 wide.length c16, .agg #[.int .i64 r17, .int .i64 40]]) call_16 rfl (Calls.mono (Row_spec (want := want) (wide := wide) (f := r17) (t := 40) hWa hWb (by omega) (by omega) (by omega) (by omega) (by omega) (fun x hx => by have := hwr x hx; omega) (fun x hx => by have := hvr x hx; omega) hsum (hS.pull 1)) ?_)
      rintro e w' ⟨ρr, A_, c_, hler, rfl, hcr, hr, hS⟩
      refine ⟨_, rfl, ?_⟩
      have hA := hA.le hler
      have hWa := hWa.le hler
      have hWb := hWb.le hler
      obtain ⟨xs_, hxs⟩ : ∃ xs, placeF r17 ((40 - r17) + 1).toNat (want.zip wide) 0 = xs := ⟨_, rfl⟩
      rw [hxs] at hr
      have hzl : (want.zip wide).length = want.length := by simp; omega
      have hxl : xs_.length = want.length := by rw [← hxs, place_length]; exact hzl
      have hfine : Fine 40 (want.zip wide) r17 xs_ := by
        have h1 := rowsF_fits r17 ((40 - r17) + 1).toNat (want.zip wide) 0 (fun p hp => (hvr p.2 (List.of_mem_zip hp).2).1) (Int.le_refl _) (by rw [List.map_snd_zip (by omega)]; omega)
        have h2 := (place_fine r17 ((40 - r17) + 1).toNat (want.zip wide) 0 (fun p hp => (hvr p.2 (List.of_mem_zip hp).2).1) (Int.le_refl _) (by omega) h1).1
        rw [hxs, show r17 + ((((40 - r17) + 1).toNat : Nat) : Int) - 1 = 40 by omega, Int.add_zero] at h2
        exact h2
      refine o_pure (v := .tuple #[.slice A_ want.length c_, .int .i64 0]) 42 (yl_move rfl) ?_
      refine o_pure (v := .slice A_ want.length c_) 48 (yl_extract rfl rfl) ?_
      refine o_pure (v := .int .i64 0) 49 (yl_extract rfl rfl) ?_
      refine o_pure (v := .slice A_ want.length c_) 8 (yl_assign rfl) ?_
      refine o_pure (v := .int .i64 0) 9 (yl_assign rfl) ?_
      refine x_done ?_
      refine x_seq ?_
      refine x_seq ?_
      refine x_region ?_
      have hcall_ : Calls Try.prog 17 ⟨[]⟩ _ (fun e w' => e = .returned (.bool true) ∧ St w0 w' (ro ρr :: strm b1 A c L (1 + 2 * (i : Int) + 1) :: l)) := (rows_spec hS).mono fun e w' h => ⟨h.1, h.2⟩
      refine o_call (vs := []) call_17 rfl (Calls.mono hcall_ ?_)
      rintro e w' ⟨rfl, hS⟩
      refine ⟨_, rfl, ?_⟩
      refine o_pure (v := .bool (!true)) 51 (yl_not rfl) ?_
      refine o_pure (v := .bool (!true)) 52 (yl_move rfl) ?_
      refine o_if (v := .int .i64 0) 53 52 false (!(!true)) (says_f _) (fun hq => by
          have hq' := hq
          try simp only [Bool.and_eq_true, Bool.or_eq_true, Bool.not_eq_true', Bool.not_eq_false', decide_eq_true_eq, decide_eq_false_iff_not] at hq'
          exact Yl.at (yl_move rfl)) ?_
      refine o_if (v := .bool (decide ((0 : Int) ≠ 0))) 54 52 false (!(!true)) (says_f _) (fun hq => by
          have hq' := hq
          try simp only [Bool.and_eq_true, Bool.or_eq_true, Bool.not_eq_true', Bool.not_eq_false', decide_eq_true_eq, decide_eq_false_iff_not] at hq'
          exact Yl.at (yl_neq (cv (v := .int .i64 0) hq) rfl)) ?_
      refine o_pure (v := .bool ((!true) || (decide ((0 : Int) ≠ 0)))) 55 (yl_or rfl rfl (fun hc => (cv (v := .bool (decide ((0 : Int) ≠ 0))) (t_not hc)))) ?_
      refine o_pure (v := .bool ((!true) || (decide ((0 : Int) ≠ 0)))) 56 (yl_move rfl) ?_
      refine o_if (v := .slice A_ want.length c_) 57 56 false (!((!true) || (decide ((0 : Int) ≠ 0)))) (says_f _) (fun hq => by
          have hq' := hq
          try simp only [Bool.and_eq_true, Bool.or_eq_true, Bool.not_eq_true', Bool.not_eq_false', decide_eq_true_eq, decide_eq_false_iff_not] at hq'
          exact Yl.at (yl_move rfl)) ?_
      refine o_if (v := .int .i64 (want.length : Int)) 58 56 false (!((!true) || (decide ((0 : Int) ≠ 0)))) (says_f _) (fun hq => by
          have hq' := hq
          try simp only [Bool.and_eq_true, Bool.or_eq_true, Bool.not_eq_true', Bool.not_eq_false', decide_eq_true_eq, decide_eq_false_iff_not] at hq'
          exact Yl.at (yl_len_slice us_22 (cv (v := .slice A_ want.length c_) hq))) ?_
      refine o_if (v := .slice A12 want.length c13) 59 56 false (!((!true) || (decide ((0 : Int) ≠ 0)))) (says_f _) (fun hq => by
          have hq' := hq
          try simp only [Bool.and_eq_true, Bool.or_eq_true, Bool.not_eq_true', Bool.not_eq_false', decide_eq_true_eq, decide_eq_false_iff_not] at hq'
          exact Yl.at (yl_move e4)) ?_
      refine o_if (v := .int .i64 (want.length : Int)) 60 56 false (!((!true) || (decide ((0 : Int) ≠ 0)))) (says_f _) (fun hq => by
          have hq' := hq
          try simp only [Bool.and_eq_true, Bool.or_eq_true, Bool.not_eq_true', Bool.not_eq_false', decide_eq_true_eq, decide_eq_false_iff_not] at hq'
          exact Yl.at (yl_len_slice us_22 (cv (v := .slice A12 want.length c13) hq))) ?_
      refine o_if (v := .bool (decide ((want.length : Int) ≠ (want.length : Int)))) 61 56 false (!((!true) || (decide ((0 : Int) ≠ 0)))) (says_f _) (fun hq => by
          have hq' := hq
          try simp only [Bool.and_eq_true, Bool.or_eq_true, Bool.not_eq_true', Bool.not_eq_false', decide_eq_true_eq, decide_eq_false_iff_not] at hq'
          exact Yl.at (yl_neq (cv (v := .int .i64 (want.length : Int)) hq) (cv (v := .int .i64 (want.length : Int)) hq))) ?_
      refine o_pure (v := .bool (((!true) || (decide ((0 : Int) ≠ 0))) || (decide ((want.length : Int) ≠ (want.length : Int))))) 62 (yl_or rfl rfl (fun hc => (cv (v := .bool (decide ((want.length : Int) ≠ (want.length : Int)))) (t_not hc)))) ?_
      refine o_pure (v := .bool (((!true) || (decide ((0 : Int) ≠ 0))) || (decide ((want.length : Int) ≠ (want.length : Int))))) 63 (yl_move rfl) ?_
      refine o_if (v := .int .i64 wide.sum) 64 63 false (!(((!true) || (decide ((0 : Int) ≠ 0))) || (decide ((want.length : Int) ≠ (want.length : Int))))) (says_f _) (fun hq => by
          have hq' := hq
          try simp only [Bool.and_eq_true, Bool.or_eq_true, Bool.not_eq_true', Bool.not_eq_false', decide_eq_true_eq, decide_eq_false_iff_not] at hq'
          exact Yl.at (yl_move e6)) ?_
      refine o_if (v := .bool (decide (37 < wide.sum))) 65 63 false (!(((!true) || (decide ((0 : Int) ≠ 0))) || (decide ((want.length : Int) ≠ (want.length : Int))))) (says_f _) (fun hq => by
          have hq' := hq
          try simp only [Bool.and_eq_true, Bool.or_eq_true, Bool.not_eq_true', Bool.not_eq_false', decide_eq_true_eq, decide_eq_false_iff_not] at hq'
          exact Yl.at (yl_gtr (cv (v := .int .i64 wide.sum) hq) rfl)) ?_
      refine o_pure (v := .bool ((((!true) || (decide ((0 : Int) ≠ 0))) || (decide ((want.length : Int) ≠ (want.length : Int)))) || (decide (37 < wide.sum)))) 66 (yl_or rfl rfl (fun hc => (cv (v := .bool (decide (37 < wide.sum))) (t_not hc)))) ?_
      refine x_done ?_
      refine x_cond (t := (((!true) || (decide ((0 : Int) ≠ 0))) || (decide ((want.length : Int) ≠ (want.length : Int)))) || (decide (37 < wide.sum))) rfl (fun hc1 => ?_) (fun hc1 => ?_)
      · skip
        simp only [Bool.and_eq_true, Bool.or_eq_true, Bool.and_eq_false_iff, Bool.or_eq_false_iff, Bool.not_eq_true', Bool.not_eq_false', decide_eq_true_eq, decide_eq_false_iff_not] at hc1
        simp at hc1
        refine x_seq ?_
        refine x_region ?_
        have hcall_ : Calls Try.prog 17 ⟨[]⟩ _ (fun e w' => e = .returned (.bool true) ∧ St w0 w' (ro ρr :: strm b1 A c L (1 + 2 * (i : Int) + 1) :: l)) := (rows_spec hS).mono fun e w' h => ⟨h.1, h.2⟩
        refine o_call (vs := []) call_17 rfl (Calls.mono hcall_ ?_)
        rintro e w' ⟨rfl, hS⟩
        refine ⟨_, rfl, ?_⟩
        refine o_pure (v := .bool true) 68 (yl_move rfl) ?_
        refine o_if (v := .int .i64 wide.sum) 69 68 true (true) (says_t _) (fun hq => by
            have hq' := hq
            try simp only [Bool.and_eq_true, Bool.or_eq_true, Bool.not_eq_true', Bool.not_eq_false', decide_eq_true_eq, decide_eq_false_iff_not] at hq'
            exact Yl.at (yl_move e6)) ?_
        refine o_if (v := .bool (decide (37 < wide.sum))) 70 68 true (true) (says_t _) (fun hq => by
            have hq' := hq
            try simp only [Bool.and_eq_true, Bool.or_eq_true, Bool.not_eq_true', Bool.not_eq_false', decide_eq_true_eq, decide_eq_false_iff_not] at hq'
            exact Yl.at (yl_gtr (cv (v := .int .i64 wide.sum) hq) rfl)) ?_
        refine o_pure (v := .bool (true && (decide (37 < wide.sum)))) 71 (yl_and rfl (fun hc => (cv (v := .bool (decide (37 < wide.sum))) hc)) rfl) ?_
        refine o_pure (v := .bool (true && (decide (37 < wide.sum)))) 2 (yl_assign rfl) ?_
        refine x_done ?_
        refine x_return ?_
        refine ⟨.bool (true && (decide (37 < wide.sum))), rfl, ?_⟩
        exact ⟨_, by first | rfl | (simp; done) | (simp; omega), (Le.trans (Le.trans hle_v1 hle_v2) hler), (hS.pull 1).drop⟩
      · skip
        simp only [Bool.and_eq_true, Bool.or_eq_true, Bool.and_eq_false_iff, Bool.or_eq_false_iff, Bool.not_eq_true', Bool.not_eq_false', decide_eq_true_eq, decide_eq_false_iff_not] at hc1
        refine x_skip ?_
        refine x_seq ?_
        refine x_seq ?_
        refine x_region ?_
        refine o_pure (v := .slice A_ want.length c_) 72 (yl_move rfl) ?_
        refine o_pure (v := .int .i64 (want.length : Int)) 73 (yl_len_slice us_22 rfl) ?_
        refine o_pure (v := .int .i64 0) 74 (yl_move rfl) ?_
        refine x_done ?_
        refine x_block ?_
        refine x_loop (fun k_ E w => ∃ (q_ : Nat), E 74 = .int .i64 (q_ : Int) ∧ E 4 = .slice A12 want.length c13 ∧ E 5 = .slice A15 wide.length c16 ∧ E 7 = .int .i64 r17 ∧ E 8 = .slice A_ want.length c_ ∧ E 73 = .int .i64 (want.length : Int) ∧ q_ ≤ want.length ∧ k_ = want.length - q_ ∧ St w0 w (ro ρr :: strm b1 A c L (1 + 2 * (i : Int) + 1) :: l)) want.length ⟨0, Eq.trans (b := Value.int .i64 0) rfl (congrArg (Value.int .i64) (by omega)), e4, e5, rfl, rfl, rfl, by omega, by omega, hS⟩ ?_
        rintro k_ E w ⟨q_, e74, e4, e5, e7, e8, e73, hi2, hk, hS⟩
        refine x_seq ?_
        refine x_region ?_
        refine o_pure (v := .bool (decide ((q_ : Int) < (want.length : Int)))) 75 (yl_lss e74 e73) ?_
        refine x_done ?_
        refine x_seq ?_
        refine x_cond_p ((q_ : Int) < (want.length : Int)) rfl (fun hlt2 => ?_) (fun hlt2 => ?_)
        · skip
          refine x_skip ?_
          refine x_seq ?_
          refine x_block ?_
          refine x_seq ?_
          refine x_region ?_
          refine o_pure (v := .int .i64 (q_ : Int)) 76 (yl_move e74) ?_
          refine o_pure (v := .int .i64 (q_ : Int)) 10 (yl_assign rfl) ?_
          refine x_done ?_
          refine x_seq ?_
          have hg := Fine.get _ _ _ hfine q_ (by omega) _ _ rfl rfl
          rw [hzl] at hg
          have hgz := zip_getD (want := want) (wide := wide) (i := q_) (by omega) (by omega)
          rw [hgz] at hg
          obtain ⟨g1, g2, g3, g4⟩ := hg
          have hxb := rd_bounds (a := 0) (b := 40) (fun x hx => by have := (Fine.bounds _ _ _ (fun p hp => (hvr p.2 (List.of_mem_zip hp).2).1) hfine).2 x hx; omega) (by omega) (by omega)
          have hxb0 := hxb (q_ : Int)
          have hxb1 := hxb ((q_ : Int) + 1)
          have hxb2 := hxb ((q_ : Int) - 1)
          have hwb2 := rd_bounds (a := 0) (b := 3) (fun x hx => by have := hvr x hx; omega) (by omega) (by omega) ((q_ : Int) - 1)
          have hwi := hwr _ (rd_mem (i := (q_ : Int)) (by omega) (by omega))
          have hvi := hvr _ (rd_mem (i := (q_ : Int)) (by omega) (by omega))
          refine x_quiet (fun w' => St w0 w' (ro ρr :: strm b1 A c L (1 + 2 * (i : Int) + 1) :: l)) mixed (by kernel_rfl) (hS.drawn _) ?_
          refine q_pure (v := .int .i64 r17) 77 (yl_move e7) ?_
          refine q_pure (v := .slice A15 wide.length c16) 78 (yl_move e5) ?_
          refine q_pure (v := .int .i64 (q_ : Int)) 79 (yl_move rfl) ?_
          refine q_pure (v := .pointer (some ((adr A15).add ((q_ : Int).toNat * 1)))) 80 (yl_index_r sl_22 rfl rfl (hWb.some (i := (q_ : Int)) (by omega) (by omega)) (by omega) (by omega)) ?_
          refine q_at (v := .int .i64 (rd wide (q_ : Int))) 81 (fun w' hS => at_load one_3 rfl (hWb.cell hS (by omega) (by omega))) ?_
          refine q_pure (v := .int .i64 (40 - (rd wide (q_ : Int)))) 82 (yl_sub (a := 40) (b := rd wide (q_ : Int)) rfl rfl (wrap_i64 (by omega))) ?_
          refine q_pure (v := .int .i64 r17) 11 (yl_assign rfl) ?_
          refine q_pure (v := .int .i64 (40 - (rd wide (q_ : Int)))) 12 (yl_assign rfl) ?_
          refine q_done fun w' hS => ?_
          refine x_seq ?_
          refine x_seq ?_
          refine x_region ?_
          refine o_pure (v := .int .i64 (q_ : Int)) 83 (yl_move rfl) ?_
          refine o_pure (v := .bool (decide (0 < (q_ : Int)))) 84 (yl_gtr rfl rfl) ?_
          refine x_done ?_
          refine x_cond_p (0 < (q_ : Int)) rfl (fun hi0 => ?_) (fun hi0 => ?_)
          · skip
            have hz0 : ¬ (q_ = 0) := by omega
            rw [if_neg hz0] at g1 g4
            have hgp : ((want.zip wide).getD (q_ - 1) (0, 0)).2 = rd wide ((q_ : Int) - 1) := by rw [zip_getD (by omega) (by omega)]; simp only [rd]; congr 1; omega
            rw [hgp] at g1 g4
            refine x_quiet (fun w' => St w0 w' (ro ρr :: strm b1 A c L (1 + 2 * (i : Int) + 1) :: l)) mixed (by kernel_rfl) (hS.drawn _) ?_
            refine q_pure (v := .slice A_ want.length c_) 85 (yl_move e8) ?_
            refine q_pure (v := .int .i64 (q_ : Int)) 86 (yl_move rfl) ?_
            refine q_pure (v := .int .i64 ((q_ : Int) - 1)) 87 (yl_sub (a := (q_ : Int)) (b := 1) rfl rfl (wrap_i64 (by omega))) ?_
            refine q_pure (v := .pointer (some ((adr A_).add (((q_ : Int) - 1).toNat * 1)))) 88 (yl_index_r sl_22 rfl rfl (hr.some (i := (q_ : Int) - 1) (by omega) (by omega)) (by omega) (by omega)) ?_
            refine q_at (v := .int .i64 (rd xs_ ((q_ : Int) - 1))) 89 (fun w' hS => at_load one_3 rfl (hr.cell hS (by omega) (by omega))) ?_
            refine q_pure (v := .slice A15 wide.length c16) 90 (yl_move e5) ?_
            refine q_pure (v := .int .i64 (q_ : Int)) 91 (yl_move rfl) ?_
            refine q_pure (v := .int .i64 ((q_ : Int) - 1)) 92 (yl_sub (a := (q_ : Int)) (b := 1) rfl rfl (wrap_i64 (by omega))) ?_
            refine q_pure (v := .pointer (some ((adr A15).add (((q_ : Int) - 1).toNat * 1)))) 93 (yl_index_r sl_22 rfl rfl (hWb.some (i := (q_ : Int) - 1) (by omega) (by omega)) (by omega) (by omega)) ?_
            refine q_at (v := .int .i64 (rd wide ((q_ : Int) - 1))) 94 (fun w' hS => at_load one_3 rfl (hWb.cell hS (by omega) (by omega))) ?_
            refine q_pure (v := .int .i64 ((rd xs_ ((q_ : Int) - 1)) + (rd wide ((q_ : Int) - 1)))) 95 (yl_add (a := rd xs_ ((q_ : Int) - 1)) (b := rd wide ((q_ : Int) - 1)) rfl rfl (wrap_i64 (by omega))) ?_
            refine q_pure (v := .int .i64 ((rd xs_ ((q_ : Int) - 1)) + (rd wide ((q_ : Int) - 1)))) 11 (yl_assign rfl) ?_
            refine q_done fun w' hS => ?_
            refine x_seq ?_
            refine x_seq ?_
            refine x_region ?_
            refine o_pure (v := .int .i64 (q_ : Int)) 96 (yl_move rfl) ?_
            refine o_pure (v := .int .i64 ((q_ : Int) + 1)) 97 (yl_add (a := (q_ : Int)) (b := 1) rfl rfl (wrap_i64 (by omega))) ?_
            refine o_pure (v := .slice A_ want.length c_) 98 (yl_move e8) ?_
            refine o_pure (v := .int .i64 (want.length : Int)) 99 (yl_len_slice us_22 rfl) ?_
            refine o_pure (v := .bool (decide (((q_ : Int) + 1) < (want.length : Int)))) 100 (yl_lss rfl rfl) ?_
            refine x_done ?_
            refine x_cond_p (((q_ : Int) + 1) < (want.length : Int)) rfl (fun hj0 => ?_) (fun hj0 => ?_)
            · skip
              rw [if_pos (by omega)] at g2 g3
              have hx1 := g2
              refine x_quiet (fun w' => St w0 w' (ro ρr :: strm b1 A c L (1 + 2 * (i : Int) + 1) :: l)) mixed (by kernel_rfl) (hS.drawn _) ?_
              refine q_pure (v := .slice A_ want.length c_) 101 (yl_move e8) ?_
              refine q_pure (v := .int .i64 (q_ : Int)) 102 (yl_move rfl) ?_
              refine q_pure (v := .int .i64 ((q_ : Int) + 1)) 103 (yl_add (a := (q_ : Int)) (b := 1) rfl rfl (wrap_i64 (by omega))) ?_
              refine q_pure (v := .pointer (some ((adr A_).add (((q_ : Int) + 1).toNat * 1)))) 104 (yl_index_r sl_22 rfl rfl (hr.some (i := (q_ : Int) + 1) (by omega) (by omega)) (by omega) (by omega)) ?_
              refine q_at (v := .int .i64 (rd xs_ ((q_ : Int) + 1))) 105 (fun w' hS => at_load one_3 rfl (hr.cell hS (by omega) (by omega))) ?_
              refine q_pure (v := .slice A15 wide.length c16) 106 (yl_move e5) ?_
              refine q_pure (v := .int .i64 (q_ : Int)) 107 (yl_move rfl) ?_
              refine q_pure (v := .pointer (some ((adr A15).add ((q_ : Int).toNat * 1)))) 108 (yl_index_r sl_22 rfl rfl (hWb.some (i := (q_ : Int)) (by omega) (by omega)) (by omega) (by omega)) ?_
              refine q_at (v := .int .i64 (rd wide (q_ : Int))) 109 (fun w' hS => at_load one_3 rfl (hWb.cell hS (by omega) (by omega))) ?_
              refine q_pure (v := .int .i64 ((rd xs_ ((q_ : Int) + 1)) - (rd wide (q_ : Int)))) 110 (yl_sub (a := rd xs_ ((q_ : Int) + 1)) (b := rd wide (q_ : Int)) rfl rfl (wrap_i64 (by omega))) ?_
              refine q_pure (v := .int .i64 ((rd xs_ ((q_ : Int) + 1)) - (rd wide (q_ : Int)))) 12 (yl_assign rfl) ?_
              refine q_done fun w' hS => ?_
              refine x_seq ?_
              refine x_quiet (fun w' => St w0 w' (ro ρr :: strm b1 A c L (1 + 2 * (i : Int) + 1) :: l)) mixed (by kernel_rfl) (hS.drawn _) ?_
              refine q_pure (v := .slice A_ want.length c_) 111 (yl_move e8) ?_
              refine q_pure (v := .int .i64 (q_ : Int)) 112 (yl_move rfl) ?_
              refine q_pure (v := .pointer (some ((adr A_).add ((q_ : Int).toNat * 1)))) 113 (yl_index_r sl_22 rfl rfl (hr.some (i := (q_ : Int)) (by omega) (by omega)) (by omega) (by omega)) ?_
              refine q_at (v := .int .i64 (rd xs_ (q_ : Int))) 114 (fun w' hS => at_load one_3 rfl (hr.cell hS (by omega) (by omega))) ?_
              refine q_pure (v := .slice A12 want.length c13) 115 (yl_move e4) ?_
              refine q_pure (v := .int .i64 (q_ : Int)) 116 (yl_move rfl) ?_
              refine q_pure (v := .pointer (some ((adr A12).add ((q_ : Int).toNat * 1)))) 117 (yl_index_r sl_22 rfl rfl (hWa.some (i := (q_ : Int)) (by omega) (by omega)) (by omega) (by omega)) ?_
              refine q_at (v := .int .i64 (rd want (q_ : Int))) 118 (fun w' hS => at_load one_3 rfl (hWa.cell hS (by omega) (by omega))) ?_
              refine q_pure (v := .int .i64 ((rd xs_ (q_ : Int)) - (rd want (q_ : Int)))) 119 (yl_sub (a := rd xs_ (q_ : Int)) (b := rd want (q_ : Int)) rfl rfl (wrap_i64 (by omega))) ?_
              refine q_pure (v := .int .i64 ((rd xs_ (q_ : Int)) - (rd want (q_ : Int)))) 13 (yl_assign rfl) ?_
              refine q_done fun w' hS => ?_
              refine x_seq ?_
              refine x_region ?_
              refine o_pure (v := .slice A_ want.length c_) 120 (yl_move e8) ?_
              refine o_pure (v := .int .i64 (q_ : Int)) 121 (yl_move rfl) ?_
              refine o_pure (v := .pointer (some ((adr A_).add ((q_ : Int).toNat * 1)))) 122 (yl_index_r sl_22 rfl rfl (hr.some (i := (q_ : Int)) (by omega) (by omega)) (by omega) (by omega)) ?_
              refine o_at (v := .int .i64 (rd xs_ (q_ : Int))) 123 (at_load one_3 rfl (hr.cell hS (by omega) (by omega))) ?_
              refine o_pure (v := .int .i64 ((rd xs_ ((q_ : Int) - 1)) + (rd wide ((q_ : Int) - 1)))) 124 (yl_move rfl) ?_
              refine o_pure (v := .bool (decide ((rd xs_ (q_ : Int)) < ((rd xs_ ((q_ : Int) - 1)) + (rd wide ((q_ : Int) - 1)))))) 125 (yl_lss rfl rfl) ?_
              refine o_pure (v := .bool (decide ((rd xs_ (q_ : Int)) < ((rd xs_ ((q_ : Int) - 1)) + (rd wide ((q_ : Int) - 1)))))) 126 (yl_move rfl) ?_
              refine o_if (v := .slice A_ want.length c_) 127 126 false (!(decide ((rd xs_ (q_ : Int)) < ((rd xs_ ((q_ : Int) - 1)) + (rd wide ((q_ : Int) - 1)))))) (says_f _) (fun hq => by
                  have hq' := hq
                  try simp only [Bool.and_eq_true, Bool.or_eq_true, Bool.not_eq_true', Bool.not_eq_false', decide_eq_true_eq, decide_eq_false_iff_not] at hq'
                  exact Yl.at (yl_move e8)) ?_
              refine o_if (v := .int .i64 (q_ : Int)) 128 126 false (!(decide ((rd xs_ (q_ : Int)) < ((rd xs_ ((q_ : Int) - 1)) + (rd wide ((q_ : Int) - 1)))))) (says_f _) (fun hq => by
                  have hq' := hq
                  try simp only [Bool.and_eq_true, Bool.or_eq_true, Bool.not_eq_true', Bool.not_eq_false', decide_eq_true_eq, decide_eq_false_iff_not] at hq'
                  exact Yl.at (yl_move rfl)) ?_
              refine o_if (v := .pointer (some ((adr A_).add ((q_ : Int).toNat * 1)))) 129 126 false (!(decide ((rd xs_ (q_ : Int)) < ((rd xs_ ((q_ : Int) - 1)) + (rd wide ((q_ : Int) - 1)))))) (says_f _) (fun hq => by
                  have hq' := hq
                  try simp only [Bool.and_eq_true, Bool.or_eq_true, Bool.not_eq_true', Bool.not_eq_false', decide_eq_true_eq, decide_eq_false_iff_not] at hq'
                  exact Yl.at (yl_index_r sl_22 (cv (v := .slice A_ want.length c_) hq) (cv (v := .int .i64 (q_ : Int)) hq) (hr.some (i := (q_ : Int)) (by omega) (by omega)) (by omega) (by omega))) ?_
              refine o_if (v := .int .i64 (rd xs_ (q_ : Int))) 130 126 false (!(decide ((rd xs_ (q_ : Int)) < ((rd xs_ ((q_ : Int) - 1)) + (rd wide ((q_ : Int) - 1)))))) (says_f _) (fun hq => by
                  have hq' := hq
                  try simp only [Bool.and_eq_true, Bool.or_eq_true, Bool.not_eq_true', Bool.not_eq_false', decide_eq_true_eq, decide_eq_false_iff_not] at hq'
                  exact at_load one_3 (cv (v := .pointer (some ((adr A_).add ((q_ : Int).toNat * 1)))) hq) (hr.cell hS (by omega) (by omega))) ?_
              refine o_if (v := .int .i64 ((rd xs_ ((q_ : Int) + 1)) - (rd wide (q_ : Int)))) 131 126 false (!(decide ((rd xs_ (q_ : Int)) < ((rd xs_ ((q_ : Int) - 1)) + (rd wide ((q_ : Int) - 1)))))) (says_f _) (fun hq => by
                  have hq' := hq
                  try simp only [Bool.and_eq_true, Bool.or_eq_true, Bool.not_eq_true', Bool.not_eq_false', decide_eq_true_eq, decide_eq_false_iff_not] at hq'
                  exact Yl.at (yl_move rfl)) ?_
              refine o_if (v := .bool (decide (((rd xs_ ((q_ : Int) + 1)) - (rd wide (q_ : Int))) < (rd xs_ (q_ : Int))))) 132 126 false (!(decide ((rd xs_ (q_ : Int)) < ((rd xs_ ((q_ : Int) - 1)) + (rd wide ((q_ : Int) - 1)))))) (says_f _) (fun hq => by
                  have hq' := hq
                  try simp only [Bool.and_eq_true, Bool.or_eq_true, Bool.not_eq_true', Bool.not_eq_false', decide_eq_true_eq, decide_eq_false_iff_not] at hq'
                  exact Yl.at (yl_gtr (cv (v := .int .i64 (rd xs_ (q_ : Int))) hq) (cv (v := .int .i64 ((rd xs_ ((q_ : Int) + 1)) - (rd wide (q_ : Int)))) hq))) ?_
              refine o_pure (v := .bool ((decide ((rd xs_ (q_ : Int)) < ((rd xs_ ((q_ : Int) - 1)) + (rd wide ((q_ : Int) - 1))))) || (decide (((rd xs_ ((q_ : Int) + 1)) - (rd wide (q_ : Int))) < (rd xs_ (q_ : Int)))))) 133 (yl_or rfl rfl (fun hc => (cv (v := .bool (decide (((rd xs_ ((q_ : Int) + 1)) - (rd wide (q_ : Int))) < (rd xs_ (q_ : Int))))) (t_not hc)))) ?_
              refine o_pure (v := .bool ((decide ((rd xs_ (q_ : Int)) < ((rd xs_ ((q_ : Int) - 1)) + (rd wide ((q_ : Int) - 1))))) || (decide (((rd xs_ ((q_ : Int) + 1)) - (rd wide (q_ : Int))) < (rd xs_ (q_ : Int)))))) 134 (yl_move rfl) ?_
              refine o_if (v := .slice A_ want.length c_) 135 134 false (!((decide ((rd xs_ (q_ : Int)) < ((rd xs_ ((q_ : Int) - 1)) + (rd wide ((q_ : Int) - 1))))) || (decide (((rd xs_ ((q_ : Int) + 1)) - (rd wide (q_ : Int))) < (rd xs_ (q_ : Int)))))) (says_f _) (fun hq => by
                  have hq' := hq
                  try simp only [Bool.and_eq_true, Bool.or_eq_true, Bool.not_eq_true', Bool.not_eq_false', decide_eq_true_eq, decide_eq_false_iff_not] at hq'
                  exact Yl.at (yl_move e8)) ?_
              refine o_if (v := .int .i64 (q_ : Int)) 136 134 false (!((decide ((rd xs_ (q_ : Int)) < ((rd xs_ ((q_ : Int) - 1)) + (rd wide ((q_ : Int) - 1))))) || (decide (((rd xs_ ((q_ : Int) + 1)) - (rd wide (q_ : Int))) < (rd xs_ (q_ : Int)))))) (says_f _) (fun hq => by
                  have hq' := hq
                  try simp only [Bool.and_eq_true, Bool.or_eq_true, Bool.not_eq_true', Bool.not_eq_false', decide_eq_true_eq, decide_eq_false_iff_not] at hq'
                  exact Yl.at (yl_move rfl)) ?_
              refine o_if (v := .pointer (some ((adr A_).add ((q_ : Int).toNat * 1)))) 137 134 false (!((decide ((rd xs_ (q_ : Int)) < ((rd xs_ ((q_ : Int) - 1)) + (rd wide ((q_ : Int) - 1))))) || (decide (((rd xs_ ((q_ : Int) + 1)) - (rd wide (q_ : Int))) < (rd xs_ (q_ : Int)))))) (says_f _) (fun hq => by
                  have hq' := hq
                  try simp only [Bool.and_eq_true, Bool.or_eq_true, Bool.not_eq_true', Bool.not_eq_false', decide_eq_true_eq, decide_eq_false_iff_not] at hq'
                  exact Yl.at (yl_index_r sl_22 (cv (v := .slice A_ want.length c_) hq) (cv (v := .int .i64 (q_ : Int)) hq) (hr.some (i := (q_ : Int)) (by omega) (by omega)) (by omega) (by omega))) ?_
              refine o_if (v := .int .i64 (rd xs_ (q_ : Int))) 138 134 false (!((decide ((rd xs_ (q_ : Int)) < ((rd xs_ ((q_ : Int) - 1)) + (rd wide ((q_ : Int) - 1))))) || (decide (((rd xs_ ((q_ : Int) + 1)) - (rd wide (q_ : Int))) < (rd xs_ (q_ : Int)))))) (says_f _) (fun hq => by
                  have hq' := hq
                  try simp only [Bool.and_eq_true, Bool.or_eq_true, Bool.not_eq_true', Bool.not_eq_false', decide_eq_true_eq, decide_eq_false_iff_not] at hq'
                  exact at_load one_3 (cv (v := .pointer (some ((adr A_).add ((q_ : Int).toNat * 1)))) hq) (hr.cell hS (by omega) (by omega))) ?_
              refine o_if (v := .int .i64 ((rd xs_ ((q_ : Int) + 1)) - (rd wide (q_ : Int)))) 139 134 false (!((decide ((rd xs_ (q_ : Int)) < ((rd xs_ ((q_ : Int) - 1)) + (rd wide ((q_ : Int) - 1))))) || (decide (((rd xs_ ((q_ : Int) + 1)) - (rd wide (q_ : Int))) < (rd xs_ (q_ : Int)))))) (says_f _) (fun hq => by
                  have hq' := hq
                  try simp only [Bool.and_eq_true, Bool.or_eq_true, Bool.not_eq_true', Bool.not_eq_false', decide_eq_true_eq, decide_eq_false_iff_not] at hq'
                  exact Yl.at (yl_move rfl)) ?_
              refine o_if (v := .bool (decide ((rd xs_ (q_ : Int)) < ((rd xs_ ((q_ : Int) + 1)) - (rd wide (q_ : Int)))))) 140 134 false (!((decide ((rd xs_ (q_ : Int)) < ((rd xs_ ((q_ : Int) - 1)) + (rd wide ((q_ : Int) - 1))))) || (decide (((rd xs_ ((q_ : Int) + 1)) - (rd wide (q_ : Int))) < (rd xs_ (q_ : Int)))))) (says_f _) (fun hq => by
                  have hq' := hq
                  try simp only [Bool.and_eq_true, Bool.or_eq_true, Bool.not_eq_true', Bool.not_eq_false', decide_eq_true_eq, decide_eq_false_iff_not] at hq'
                  exact Yl.at (yl_lss (cv (v := .int .i64 (rd xs_ (q_ : Int))) hq) (cv (v := .int .i64 ((rd xs_ ((q_ : Int) + 1)) - (rd wide (q_ : Int)))) hq))) ?_
              refine o_if (v := .bool (decide ((rd xs_ (q_ : Int)) < ((rd xs_ ((q_ : Int) + 1)) - (rd wide (q_ : Int)))))) 141 134 false (!((decide ((rd xs_ (q_ : Int)) < ((rd xs_ ((q_ : Int) - 1)) + (rd wide ((q_ : Int) - 1))))) || (decide (((rd xs_ ((q_ : Int) + 1)) - (rd wide (q_ : Int))) < (rd xs_ (q_ : Int)))))) (says_f _) (fun hq => by
                  have hq' := hq
                  try simp only [Bool.and_eq_true, Bool.or_eq_true, Bool.not_eq_true', Bool.not_eq_false', decide_eq_true_eq, decide_eq_false_iff_not] at hq'
                  exact Yl.at (yl_move (cv (v := .bool (decide ((rd xs_ (q_ : Int)) < ((rd xs_ ((q_ : Int) + 1)) - (rd wide (q_ : Int)))))) hq))) ?_
              refine o_if (v := .int .i64 ((rd xs_ (q_ : Int)) - (rd want (q_ : Int)))) 142 141 true ((!((decide ((rd xs_ (q_ : Int)) < ((rd xs_ ((q_ : Int) - 1)) + (rd wide ((q_ : Int) - 1))))) || (decide (((rd xs_ ((q_ : Int) + 1)) - (rd wide (q_ : Int))) < (rd xs_ (q_ : Int)))))) && (decide ((rd xs_ (q_ : Int)) < ((rd xs_ ((q_ : Int) + 1)) - (rd wide (q_ : Int)))))) (says_ift _ _) (fun hq => by
                  have hq' := hq
                  try simp only [Bool.and_eq_true, Bool.or_eq_true, Bool.not_eq_true', Bool.not_eq_false', decide_eq_true_eq, decide_eq_false_iff_not] at hq'
                  exact Yl.at (yl_move rfl)) ?_
              refine o_if (v := .int .i64 (((rd xs_ (q_ : Int)) - (rd want (q_ : Int))) + 1)) 143 141 true ((!((decide ((rd xs_ (q_ : Int)) < ((rd xs_ ((q_ : Int) - 1)) + (rd wide ((q_ : Int) - 1))))) || (decide (((rd xs_ ((q_ : Int) + 1)) - (rd wide (q_ : Int))) < (rd xs_ (q_ : Int)))))) && (decide ((rd xs_ (q_ : Int)) < ((rd xs_ ((q_ : Int) + 1)) - (rd wide (q_ : Int)))))) (says_ift _ _) (fun hq => by
                  have hq' := hq
                  try simp only [Bool.and_eq_true, Bool.or_eq_true, Bool.not_eq_true', Bool.not_eq_false', decide_eq_true_eq, decide_eq_false_iff_not] at hq'
                  exact Yl.at (yl_add (a := (rd xs_ (q_ : Int)) - (rd want (q_ : Int))) (b := 1) (cv (v := .int .i64 ((rd xs_ (q_ : Int)) - (rd want (q_ : Int)))) hq) rfl (wrap_i64 (by omega)))) ?_
              refine o_if (v := .int .i64 ((rd xs_ (q_ : Int)) - (rd want (q_ : Int)))) 144 141 true ((!((decide ((rd xs_ (q_ : Int)) < ((rd xs_ ((q_ : Int) - 1)) + (rd wide ((q_ : Int) - 1))))) || (decide (((rd xs_ ((q_ : Int) + 1)) - (rd wide (q_ : Int))) < (rd xs_ (q_ : Int)))))) && (decide ((rd xs_ (q_ : Int)) < ((rd xs_ ((q_ : Int) + 1)) - (rd wide (q_ : Int)))))) (says_ift _ _) (fun hq => by
                  have hq' := hq
                  try simp only [Bool.and_eq_true, Bool.or_eq_true, Bool.not_eq_true', Bool.not_eq_false', decide_eq_true_eq, decide_eq_false_iff_not] at hq'
                  exact Yl.at (yl_move rfl)) ?_
              refine o_if (v := .int .i64 (((rd xs_ (q_ : Int)) - (rd want (q_ : Int))) + 1)) 145 141 true ((!((decide ((rd xs_ (q_ : Int)) < ((rd xs_ ((q_ : Int) - 1)) + (rd wide ((q_ : Int) - 1))))) || (decide (((rd xs_ ((q_ : Int) + 1)) - (rd wide (q_ : Int))) < (rd xs_ (q_ : Int)))))) && (decide ((rd xs_ (q_ : Int)) < ((rd xs_ ((q_ : Int) + 1)) - (rd wide (q_ : Int)))))) (says_ift _ _) (fun hq => by
                  have hq' := hq
                  try simp only [Bool.and_eq_true, Bool.or_eq_true, Bool.not_eq_true', Bool.not_eq_false', decide_eq_true_eq, decide_eq_false_iff_not] at hq'
                  exact Yl.at (yl_add (a := (rd xs_ (q_ : Int)) - (rd want (q_ : Int))) (b := 1) (cv (v := .int .i64 ((rd xs_ (q_ : Int)) - (rd want (q_ : Int)))) hq) rfl (wrap_i64 (by omega)))) ?_
              refine o_if (v := .int .i64 ((((rd xs_ (q_ : Int)) - (rd want (q_ : Int))) + 1) * (((rd xs_ (q_ : Int)) - (rd want (q_ : Int))) + 1))) 146 141 true ((!((decide ((rd xs_ (q_ : Int)) < ((rd xs_ ((q_ : Int) - 1)) + (rd wide ((q_ : Int) - 1))))) || (decide (((rd xs_ ((q_ : Int) + 1)) - (rd wide (q_ : Int))) < (rd xs_ (q_ : Int)))))) && (decide ((rd xs_ (q_ : Int)) < ((rd xs_ ((q_ : Int) + 1)) - (rd wide (q_ : Int)))))) (says_ift _ _) (fun hq => by
                  have hq' := hq
                  try simp only [Bool.and_eq_true, Bool.or_eq_true, Bool.not_eq_true', Bool.not_eq_false', decide_eq_true_eq, decide_eq_false_iff_not] at hq'
                  exact Yl.at (yl_mul (a := ((rd xs_ (q_ : Int)) - (rd want (q_ : Int))) + 1) (b := ((rd xs_ (q_ : Int)) - (rd want (q_ : Int))) + 1) (cv (v := .int .i64 (((rd xs_ (q_ : Int)) - (rd want (q_ : Int))) + 1)) hq) (cv (v := .int .i64 (((rd xs_ (q_ : Int)) - (rd want (q_ : Int))) + 1)) hq) (wrap_i64 (sq_small (by omega) (by omega))))) ?_
              refine o_if (v := .int .i64 ((rd xs_ (q_ : Int)) - (rd want (q_ : Int)))) 147 141 true ((!((decide ((rd xs_ (q_ : Int)) < ((rd xs_ ((q_ : Int) - 1)) + (rd wide ((q_ : Int) - 1))))) || (decide (((rd xs_ ((q_ : Int) + 1)) - (rd wide (q_ : Int))) < (rd xs_ (q_ : Int)))))) && (decide ((rd xs_ (q_ : Int)) < ((rd xs_ ((q_ : Int) + 1)) - (rd wide (q_ : Int)))))) (says_ift _ _) (fun hq => by
                  have hq' := hq
                  try simp only [Bool.and_eq_true, Bool.or_eq_true, Bool.not_eq_true', Bool.not_eq_false', decide_eq_true_eq, decide_eq_false_iff_not] at hq'
                  exact Yl.at (yl_move rfl)) ?_
              refine o_if (v := .int .i64 ((rd xs_ (q_ : Int)) - (rd want (q_ : Int)))) 148 141 true ((!((decide ((rd xs_ (q_ : Int)) < ((rd xs_ ((q_ : Int) - 1)) + (rd wide ((q_ : Int) - 1))))) || (decide (((rd xs_ ((q_ : Int) + 1)) - (rd wide (q_ : Int))) < (rd xs_ (q_ : Int)))))) && (decide ((rd xs_ (q_ : Int)) < ((rd xs_ ((q_ : Int) + 1)) - (rd wide (q_ : Int)))))) (says_ift _ _) (fun hq => by
                  have hq' := hq
                  try simp only [Bool.and_eq_true, Bool.or_eq_true, Bool.not_eq_true', Bool.not_eq_false', decide_eq_true_eq, decide_eq_false_iff_not] at hq'
                  exact Yl.at (yl_move rfl)) ?_
              refine o_if (v := .int .i64 (((rd xs_ (q_ : Int)) - (rd want (q_ : Int))) * ((rd xs_ (q_ : Int)) - (rd want (q_ : Int))))) 149 141 true ((!((decide ((rd xs_ (q_ : Int)) < ((rd xs_ ((q_ : Int) - 1)) + (rd wide ((q_ : Int) - 1))))) || (decide (((rd xs_ ((q_ : Int) + 1)) - (rd wide (q_ : Int))) < (rd xs_ (q_ : Int)))))) && (decide ((rd xs_ (q_ : Int)) < ((rd xs_ ((q_ : Int) + 1)) - (rd wide (q_ : Int)))))) (says_ift _ _) (fun hq => by
                  have hq' := hq
                  try simp only [Bool.and_eq_true, Bool.or_eq_true, Bool.not_eq_true', Bool.not_eq_false', decide_eq_true_eq, decide_eq_false_iff_not] at hq'
                  exact Yl.at (yl_mul (a := (rd xs_ (q_ : Int)) - (rd want (q_ : Int))) (b := (rd xs_ (q_ : Int)) - (rd want (q_ : Int))) (cv (v := .int .i64 ((rd xs_ (q_ : Int)) - (rd want (q_ : Int)))) hq) (cv (v := .int .i64 ((rd xs_ (q_ : Int)) - (rd want (q_ : Int)))) hq) (wrap_i64 (sq_small (by omega) (by omega))))) ?_
              refine o_if (v := .bool (decide (((((rd xs_ (q_ : Int)) - (rd want (q_ : Int))) + 1) * (((rd xs_ (q_ : Int)) - (rd want (q_ : Int))) + 1)) < (((rd xs_ (q_ : Int)) - (rd want (q_ : Int))) * ((rd xs_ (q_ : Int)) - (rd want (q_ : Int))))))) 150 141 true ((!((decide ((rd xs_ (q_ : Int)) < ((rd xs_ ((q_ : Int) - 1)) + (rd wide ((q_ : Int) - 1))))) || (decide (((rd xs_ ((q_ : Int) + 1)) - (rd wide (q_ : Int))) < (rd xs_ (q_ : Int)))))) && (decide ((rd xs_ (q_ : Int)) < ((rd xs_ ((q_ : Int) + 1)) - (rd wide (q_ : Int)))))) (says_ift _ _) (fun hq => by
                  have hq' := hq
                  try simp only [Bool.and_eq_true, Bool.or_eq_true, Bool.not_eq_true', Bool.not_eq_false', decide_eq_true_eq, decide_eq_false_iff_not] at hq'
                  exact Yl.at (yl_lss (cv (v := .int .i64 ((((rd xs_ (q_ : Int)) - (rd want (q_ : Int))) + 1) * (((rd xs_ (q_ : Int)) - (rd want (q_ : Int))) + 1))) hq) (cv (v := .int .i64 (((rd xs_ (q_ : Int)) - (rd want (q_ : Int))) * ((rd xs_ (q_ : Int)) - (rd want (q_ : Int))))) hq))) ?_
              refine o_if (v := .bool ((decide ((rd xs_ (q_ : Int)) < ((rd xs_ ((q_ : Int) + 1)) - (rd wide (q_ : Int))))) && (decide (((((rd xs_ (q_ : Int)) - (rd want (q_ : Int))) + 1) * (((rd xs_ (q_ : Int)) - (rd want (q_ : Int))) + 1)) < (((rd xs_ (q_ : Int)) - (rd want (q_ : Int))) * ((rd xs_ (q_ : Int)) - (rd want (q_ : Int)))))))) 151 134 false (!((decide ((rd xs_ (q_ : Int)) < ((rd xs_ ((q_ : Int) - 1)) + (rd wide ((q_ : Int) - 1))))) || (decide (((rd xs_ ((q_ : Int) + 1)) - (rd wide (q_ : Int))) < (rd xs_ (q_ : Int)))))) (says_f _) (fun hq => by
                  have hq' := hq
                  try simp only [Bool.and_eq_true, Bool.or_eq_true, Bool.not_eq_true', Bool.not_eq_false', decide_eq_true_eq, decide_eq_false_iff_not] at hq'
                  exact Yl.at (yl_and (cv (v := .bool (decide ((rd xs_ (q_ : Int)) < ((rd xs_ ((q_ : Int) + 1)) - (rd wide (q_ : Int)))))) hq) (fun hc => (cv (v := .bool (decide (((((rd xs_ (q_ : Int)) - (rd want (q_ : Int))) + 1) * (((rd xs_ (q_ : Int)) - (rd want (q_ : Int))) + 1)) < (((rd xs_ (q_ : Int)) - (rd want (q_ : Int))) * ((rd xs_ (q_ : Int)) - (rd want (q_ : Int))))))) (and_i hq hc))) rfl)) ?_
              refine o_pure (v := .bool (((decide ((rd xs_ (q_ : Int)) < ((rd xs_ ((q_ : Int) - 1)) + (rd wide ((q_ : Int) - 1))))) || (decide (((rd xs_ ((q_ : Int) + 1)) - (rd wide (q_ : Int))) < (rd xs_ (q_ : Int))))) || ((decide ((rd xs_ (q_ : Int)) < ((rd xs_ ((q_ : Int) + 1)) - (rd wide (q_ : Int))))) && (decide (((((rd xs_ (q_ : Int)) - (rd want (q_ : Int))) + 1) * (((rd xs_ (q_ : Int)) - (rd want (q_ : Int))) + 1)) < (((rd xs_ (q_ : Int)) - (rd want (q_ : Int))) * ((rd xs_ (q_ : Int)) - (rd want (q_ : Int))))))))) 152 (yl_or rfl rfl (fun hc => (cv (v := .bool ((decide ((rd xs_ (q_ : Int)) < ((rd xs_ ((q_ : Int) + 1)) - (rd wide (q_ : Int))))) && (decide (((((rd xs_ (q_ : Int)) - (rd want (q_ : Int))) + 1) * (((rd xs_ (q_ : Int)) - (rd want (q_ : Int))) + 1)) < (((rd xs_ (q_ : Int)) - (rd want (q_ : Int))) * ((rd xs_ (q_ : Int)) - (rd want (q_ : Int)))))))) (t_not hc)))) ?_
              refine o_pure (v := .bool (((decide ((rd xs_ (q_ : Int)) < ((rd xs_ ((q_ : Int) - 1)) + (rd wide ((q_ : Int) - 1))))) || (decide (((rd xs_ ((q_ : Int) + 1)) - (rd wide (q_ : Int))) < (rd xs_ (q_ : Int))))) || ((decide ((rd xs_ (q_ : Int)) < ((rd xs_ ((q_ : Int) + 1)) - (rd wide (q_ : Int))))) && (decide (((((rd xs_ (q_ : Int)) - (rd want (q_ : Int))) + 1) * (((rd xs_ (q_ : Int)) - (rd want (q_ : Int))) + 1)) < (((rd xs_ (q_ : Int)) - (rd want (q_ : Int))) * ((rd xs_ (q_ : Int)) - (rd want (q_ : Int))))))))) 153 (yl_move rfl) ?_
              refine o_if (v := .slice A_ want.length c_) 154 153 false (!(((decide ((rd xs_ (q_ : Int)) < ((rd xs_ ((q_ : Int) - 1)) + (rd wide ((q_ : Int) - 1))))) || (decide (((rd xs_ ((q_ : Int) + 1)) - (rd wide (q_ : Int))) < (rd xs_ (q_ : Int))))) || ((decide ((rd xs_ (q_ : Int)) < ((rd xs_ ((q_ : Int) + 1)) - (rd wide (q_ : Int))))) && (decide (((((rd xs_ (q_ : Int)) - (rd want (q_ : Int))) + 1) * (((rd xs_ (q_ : Int)) - (rd want (q_ : Int))) + 1)) < (((rd xs_ (q_ : Int)) - (rd want (q_ : Int))) * ((rd xs_ (q_ : Int)) - (rd want (q_ : Int))))))))) (says_f _) (fun hq => by
                  have hq' := hq
                  try simp only [Bool.and_eq_true, Bool.or_eq_true, Bool.not_eq_true', Bool.not_eq_false', decide_eq_true_eq, decide_eq_false_iff_not] at hq'
                  exact Yl.at (yl_move e8)) ?_
              refine o_if (v := .int .i64 (q_ : Int)) 155 153 false (!(((decide ((rd xs_ (q_ : Int)) < ((rd xs_ ((q_ : Int) - 1)) + (rd wide ((q_ : Int) - 1))))) || (decide (((rd xs_ ((q_ : Int) + 1)) - (rd wide (q_ : Int))) < (rd xs_ (q_ : Int))))) || ((decide ((rd xs_ (q_ : Int)) < ((rd xs_ ((q_ : Int) + 1)) - (rd wide (q_ : Int))))) && (decide (((((rd xs_ (q_ : Int)) - (rd want (q_ : Int))) + 1) * (((rd xs_ (q_ : Int)) - (rd want (q_ : Int))) + 1)) < (((rd xs_ (q_ : Int)) - (rd want (q_ : Int))) * ((rd xs_ (q_ : Int)) - (rd want (q_ : Int))))))))) (says_f _) (fun hq => by
                  have hq' := hq
                  try simp only [Bool.and_eq_true, Bool.or_eq_true, Bool.not_eq_true', Bool.not_eq_false', decide_eq_true_eq, decide_eq_false_iff_not] at hq'
                  exact Yl.at (yl_move rfl)) ?_
              refine o_if (v := .pointer (some ((adr A_).add ((q_ : Int).toNat * 1)))) 156 153 false (!(((decide ((rd xs_ (q_ : Int)) < ((rd xs_ ((q_ : Int) - 1)) + (rd wide ((q_ : Int) - 1))))) || (decide (((rd xs_ ((q_ : Int) + 1)) - (rd wide (q_ : Int))) < (rd xs_ (q_ : Int))))) || ((decide ((rd xs_ (q_ : Int)) < ((rd xs_ ((q_ : Int) + 1)) - (rd wide (q_ : Int))))) && (decide (((((rd xs_ (q_ : Int)) - (rd want (q_ : Int))) + 1) * (((rd xs_ (q_ : Int)) - (rd want (q_ : Int))) + 1)) < (((rd xs_ (q_ : Int)) - (rd want (q_ : Int))) * ((rd xs_ (q_ : Int)) - (rd want (q_ : Int))))))))) (says_f _) (fun hq => by
                  have hq' := hq
                  try simp only [Bool.and_eq_true, Bool.or_eq_true, Bool.not_eq_true', Bool.not_eq_false', decide_eq_true_eq, decide_eq_false_iff_not] at hq'
                  exact Yl.at (yl_index_r sl_22 (cv (v := .slice A_ want.length c_) hq) (cv (v := .int .i64 (q_ : Int)) hq) (hr.some (i := (q_ : Int)) (by omega) (by omega)) (by omega) (by omega))) ?_
              refine o_if (v := .int .i64 (rd xs_ (q_ : Int))) 157 153 false (!(((decide ((rd xs_ (q_ : Int)) < ((rd xs_ ((q_ : Int) - 1)) + (rd wide ((q_ : Int) - 1))))) || (decide (((rd xs_ ((q_ : Int) + 1)) - (rd wide (q_ : Int))) < (rd xs_ (q_ : Int))))) || ((decide ((rd xs_ (q_ : Int)) < ((rd xs_ ((q_ : Int) + 1)) - (rd wide (q_ : Int))))) && (decide (((((rd xs_ (q_ : Int)) - (rd want (q_ : Int))) + 1) * (((rd xs_ (q_ : Int)) - (rd want (q_ : Int))) + 1)) < (((rd xs_ (q_ : Int)) - (rd want (q_ : Int))) * ((rd xs_ (q_ : Int)) - (rd want (q_ : Int))))))))) (says_f _) (fun hq => by
                  have hq' := hq
                  try simp only [Bool.and_eq_true, Bool.or_eq_true, Bool.not_eq_true', Bool.not_eq_false', decide_eq_true_eq, decide_eq_false_iff_not] at hq'
                  exact at_load one_3 (cv (v := .pointer (some ((adr A_).add ((q_ : Int).toNat * 1)))) hq) (hr.cell hS (by omega) (by omega))) ?_
              refine o_if (v := .int .i64 ((rd xs_ ((q_ : Int) - 1)) + (rd wide ((q_ : Int) - 1)))) 158 153 false (!(((decide ((rd xs_ (q_ : Int)) < ((rd xs_ ((q_ : Int) - 1)) + (rd wide ((q_ : Int) - 1))))) || (decide (((rd xs_ ((q_ : Int) + 1)) - (rd wide (q_ : Int))) < (rd xs_ (q_ : Int))))) || ((decide ((rd xs_ (q_ : Int)) < ((rd xs_ ((q_ : Int) + 1)) - (rd wide (q_ : Int))))) && (decide (((((rd xs_ (q_ : Int)) - (rd want (q_ : Int))) + 1) * (((rd xs_ (q_ : Int)) - (rd want (q_ : Int))) + 1)) < (((rd xs_ (q_ : Int)) - (rd want (q_ : Int))) * ((rd xs_ (q_ : Int)) - (rd want (q_ : Int))))))))) (says_f _) (fun hq => by
                  have hq' := hq
                  try simp only [Bool.and_eq_true, Bool.or_eq_true, Bool.not_eq_true', Bool.not_eq_false', decide_eq_true_eq, decide_eq_false_iff_not] at hq'
                  exact Yl.at (yl_move rfl)) ?_
              refine o_if (v := .bool (decide (((rd xs_ ((q_ : Int) - 1)) + (rd wide ((q_ : Int) - 1))) < (rd xs_ (q_ : Int))))) 159 153 false (!(((decide ((rd xs_ (q_ : Int)) < ((rd xs_ ((q_ : Int) - 1)) + (rd wide ((q_ : Int) - 1))))) || (decide (((rd xs_ ((q_ : Int) + 1)) - (rd wide (q_ : Int))) < (rd xs_ (q_ : Int))))) || ((decide ((rd xs_ (q_ : Int)) < ((rd xs_ ((q_ : Int) + 1)) - (rd wide (q_ : Int))))) && (decide (((((rd xs_ (q_ : Int)) - (rd want (q_ : Int))) + 1) * (((rd xs_ (q_ : Int)) - (rd want (q_ : Int))) + 1)) < (((rd xs_ (q_ : Int)) - (rd want (q_ : Int))) * ((rd xs_ (q_ : Int)) - (rd want (q_ : Int))))))))) (says_f _) (fun hq => by
                  have hq' := hq
                  try simp only [Bool.and_eq_true, Bool.or_eq_true, Bool.not_eq_true', Bool.not_eq_false', decide_eq_true_eq, decide_eq_false_iff_not] at hq'
                  exact Yl.at (yl_gtr (cv (v := .int .i64 (rd xs_ (q_ : Int))) hq) (cv (v := .int .i64 ((rd xs_ ((q_ : Int) - 1)) + (rd wide ((q_ : Int) - 1)))) hq))) ?_
              refine o_if (v := .bool (decide (((rd xs_ ((q_ : Int) - 1)) + (rd wide ((q_ : Int) - 1))) < (rd xs_ (q_ : Int))))) 160 153 false (!(((decide ((rd xs_ (q_ : Int)) < ((rd xs_ ((q_ : Int) - 1)) + (rd wide ((q_ : Int) - 1))))) || (decide (((rd xs_ ((q_ : Int) + 1)) - (rd wide (q_ : Int))) < (rd xs_ (q_ : Int))))) || ((decide ((rd xs_ (q_ : Int)) < ((rd xs_ ((q_ : Int) + 1)) - (rd wide (q_ : Int))))) && (decide (((((rd xs_ (q_ : Int)) - (rd want (q_ : Int))) + 1) * (((rd xs_ (q_ : Int)) - (rd want (q_ : Int))) + 1)) < (((rd xs_ (q_ : Int)) - (rd want (q_ : Int))) * ((rd xs_ (q_ : Int)) - (rd want (q_ : Int))))))))) (says_f _) (fun hq => by
                  have hq' := hq
                  try simp only [Bool.and_eq_true, Bool.or_eq_true, Bool.not_eq_true', Bool.not_eq_false', decide_eq_true_eq, decide_eq_false_iff_not] at hq'
                  exact Yl.at (yl_move (cv (v := .bool (decide (((rd xs_ ((q_ : Int) - 1)) + (rd wide ((q_ : Int) - 1))) < (rd xs_ (q_ : Int))))) hq))) ?_
              refine o_if (v := .int .i64 ((rd xs_ (q_ : Int)) - (rd want (q_ : Int)))) 161 160 true ((!(((decide ((rd xs_ (q_ : Int)) < ((rd xs_ ((q_ : Int) - 1)) + (rd wide ((q_ : Int) - 1))))) || (decide (((rd xs_ ((q_ : Int) + 1)) - (rd wide (q_ : Int))) < (rd xs_ (q_ : Int))))) || ((decide ((rd xs_ (q_ : Int)) < ((rd xs_ ((q_ : Int) + 1)) - (rd wide (q_ : Int))))) && (decide (((((rd xs_ (q_ : Int)) - (rd want (q_ : Int))) + 1) * (((rd xs_ (q_ : Int)) - (rd want (q_ : Int))) + 1)) < (((rd xs_ (q_ : Int)) - (rd want (q_ : Int))) * ((rd xs_ (q_ : Int)) - (rd want (q_ : Int))))))))) && (decide (((rd xs_ ((q_ : Int) - 1)) + (rd wide ((q_ : Int) - 1))) < (rd xs_ (q_ : Int))))) (says_ift _ _) (fun hq => by
                  have hq' := hq
                  try simp only [Bool.and_eq_true, Bool.or_eq_true, Bool.not_eq_true', Bool.not_eq_false', decide_eq_true_eq, decide_eq_false_iff_not] at hq'
                  exact Yl.at (yl_move rfl)) ?_
              refine o_if (v := .int .i64 (((rd xs_ (q_ : Int)) - (rd want (q_ : Int))) - 1)) 162 160 true ((!(((decide ((rd xs_ (q_ : Int)) < ((rd xs_ ((q_ : Int) - 1)) + (rd wide ((q_ : Int) - 1))))) || (decide (((rd xs_ ((q_ : Int) + 1)) - (rd wide (q_ : Int))) < (rd xs_ (q_ : Int))))) || ((decide ((rd xs_ (q_ : Int)) < ((rd xs_ ((q_ : Int) + 1)) - (rd wide (q_ : Int))))) && (decide (((((rd xs_ (q_ : Int)) - (rd want (q_ : Int))) + 1) * (((rd xs_ (q_ : Int)) - (rd want (q_ : Int))) + 1)) < (((rd xs_ (q_ : Int)) - (rd want (q_ : Int))) * ((rd xs_ (q_ : Int)) - (rd want (q_ : Int))))))))) && (decide (((rd xs_ ((q_ : Int) - 1)) + (rd wide ((q_ : Int) - 1))) < (rd xs_ (q_ : Int))))) (says_ift _ _) (fun hq => by
                  have hq' := hq
                  try simp only [Bool.and_eq_true, Bool.or_eq_true, Bool.not_eq_true', Bool.not_eq_false', decide_eq_true_eq, decide_eq_false_iff_not] at hq'
                  exact Yl.at (yl_sub (a := (rd xs_ (q_ : Int)) - (rd want (q_ : Int))) (b := 1) (cv (v := .int .i64 ((rd xs_ (q_ : Int)) - (rd want (q_ : Int)))) hq) rfl (wrap_i64 (by omega)))) ?_
              refine o_if (v := .int .i64 ((rd xs_ (q_ : Int)) - (rd want (q_ : Int)))) 163 160 true ((!(((decide ((rd xs_ (q_ : Int)) < ((rd xs_ ((q_ : Int) - 1)) + (rd wide ((q_ : Int) - 1))))) || (decide (((rd xs_ ((q_ : Int) + 1)) - (rd wide (q_ : Int))) < (rd xs_ (q_ : Int))))) || ((decide ((rd xs_ (q_ : Int)) < ((rd xs_ ((q_ : Int) + 1)) - (rd wide (q_ : Int))))) && (decide (((((rd xs_ (q_ : Int)) - (rd want (q_ : Int))) + 1) * (((rd xs_ (q_ : Int)) - (rd want (q_ : Int))) + 1)) < (((rd xs_ (q_ : Int)) - (rd want (q_ : Int))) * ((rd xs_ (q_ : Int)) - (rd want (q_ : Int))))))))) && (decide (((rd xs_ ((q_ : Int) - 1)) + (rd wide ((q_ : Int) - 1))) < (rd xs_ (q_ : Int))))) (says_ift _ _) (fun hq => by
                  have hq' := hq
                  try simp only [Bool.and_eq_true, Bool.or_eq_true, Bool.not_eq_true', Bool.not_eq_false', decide_eq_true_eq, decide_eq_false_iff_not] at hq'
                  exact Yl.at (yl_move rfl)) ?_
              refine o_if (v := .int .i64 (((rd xs_ (q_ : Int)) - (rd want (q_ : Int))) - 1)) 164 160 true ((!(((decide ((rd xs_ (q_ : Int)) < ((rd xs_ ((q_ : Int) - 1)) + (rd wide ((q_ : Int) - 1))))) || (decide (((rd xs_ ((q_ : Int) + 1)) - (rd wide (q_ : Int))) < (rd xs_ (q_ : Int))))) || ((decide ((rd xs_ (q_ : Int)) < ((rd xs_ ((q_ : Int) + 1)) - (rd wide (q_ : Int))))) && (decide (((((rd xs_ (q_ : Int)) - (rd want (q_ : Int))) + 1) * (((rd xs_ (q_ : Int)) - (rd want (q_ : Int))) + 1)) < (((rd xs_ (q_ : Int)) - (rd want (q_ : Int))) * ((rd xs_ (q_ : Int)) - (rd want (q_ : Int))))))))) && (decide (((rd xs_ ((q_ : Int) - 1)) + (rd wide ((q_ : Int) - 1))) < (rd xs_ (q_ : Int))))) (says_ift _ _) (fun hq => by
                  have hq' := hq
                  try simp only [Bool.and_eq_true, Bool.or_eq_true, Bool.not_eq_true', Bool.not_eq_false', decide_eq_true_eq, decide_eq_false_iff_not] at hq'
                  exact Yl.at (yl_sub (a := (rd xs_ (q_ : Int)) - (rd want (q_ : Int))) (b := 1) (cv (v := .int .i64 ((rd xs_ (q_ : Int)) - (rd want (q_ : Int)))) hq) rfl (wrap_i64 (by omega)))) ?_
              refine o_if (v := .int .i64 ((((rd xs_ (q_ : Int)) - (rd want (q_ : Int))) - 1) * (((rd xs_ (q_ : Int)) - (rd want (q_ : Int))) - 1))) 165 160 true ((!(((decide ((rd xs_ (q_ : Int)) < ((rd xs_ ((q_ : Int) - 1)) + (rd wide ((q_ : Int) - 1))))) || (decide (((rd xs_ ((q_ : Int) + 1)) - (rd wide (q_ : Int))) < (rd xs_ (q_ : Int))))) || ((decide ((rd xs_ (q_ : Int)) < ((rd xs_ ((q_ : Int) + 1)) - (rd wide (q_ : Int))))) && (decide (((((rd xs_ (q_ : Int)) - (rd want (q_ : Int))) + 1) * (((rd xs_ (q_ : Int)) - (rd want (q_ : Int))) + 1)) < (((rd xs_ (q_ : Int)) - (rd want (q_ : Int))) * ((rd xs_ (q_ : Int)) - (rd want (q_ : Int))))))))) && (decide (((rd xs_ ((q_ : Int) - 1)) + (rd wide ((q_ : Int) - 1))) < (rd xs_ (q_ : Int))))) (says_ift _ _) (fun hq => by
                  have hq' := hq
                  try simp only [Bool.and_eq_true, Bool.or_eq_true, Bool.not_eq_true', Bool.not_eq_false', decide_eq_true_eq, decide_eq_false_iff_not] at hq'
                  exact Yl.at (yl_mul (a := ((rd xs_ (q_ : Int)) - (rd want (q_ : Int))) - 1) (b := ((rd xs_ (q_ : Int)) - (rd want (q_ : Int))) - 1) (cv (v := .int .i64 (((rd xs_ (q_ : Int)) - (rd want (q_ : Int))) - 1)) hq) (cv (v := .int .i64 (((rd xs_ (q_ : Int)) - (rd want (q_ : Int))) - 1)) hq) (wrap_i64 (sq_small (by omega) (by omega))))) ?_
              refine o_if (v := .int .i64 ((rd xs_ (q_ : Int)) - (rd want (q_ : Int)))) 166 160 true ((!(((decide ((rd xs_ (q_ : Int)) < ((rd xs_ ((q_ : Int) - 1)) + (rd wide ((q_ : Int) - 1))))) || (decide (((rd xs_ ((q_ : Int) + 1)) - (rd wide (q_ : Int))) < (rd xs_ (q_ : Int))))) || ((decide ((rd xs_ (q_ : Int)) < ((rd xs_ ((q_ : Int) + 1)) - (rd wide (q_ : Int))))) && (decide (((((rd xs_ (q_ : Int)) - (rd want (q_ : Int))) + 1) * (((rd xs_ (q_ : Int)) - (rd want (q_ : Int))) + 1)) < (((rd xs_ (q_ : Int)) - (rd want (q_ : Int))) * ((rd xs_ (q_ : Int)) - (rd want (q_ : Int))))))))) && (decide (((rd xs_ ((q_ : Int) - 1)) + (rd wide ((q_ : Int) - 1))) < (rd xs_ (q_ : Int))))) (says_ift _ _) (fun hq => by
                  have hq' := hq
                  try simp only [Bool.and_eq_true, Bool.or_eq_true, Bool.not_eq_true', Bool.not_eq_false', decide_eq_true_eq, decide_eq_false_iff_not] at hq'
                  exact Yl.at (yl_move rfl)) ?_
              refine o_if (v := .int .i64 ((rd xs_ (q_ : Int)) - (rd want (q_ : Int)))) 167 160 true ((!(((decide ((rd xs_ (q_ : Int)) < ((rd xs_ ((q_ : Int) - 1)) + (rd wide ((q_ : Int) - 1))))) || (decide (((rd xs_ ((q_ : Int) + 1)) - (rd wide (q_ : Int))) < (rd xs_ (q_ : Int))))) || ((decide ((rd xs_ (q_ : Int)) < ((rd xs_ ((q_ : Int) + 1)) - (rd wide (q_ : Int))))) && (decide (((((rd xs_ (q_ : Int)) - (rd want (q_ : Int))) + 1) * (((rd xs_ (q_ : Int)) - (rd want (q_ : Int))) + 1)) < (((rd xs_ (q_ : Int)) - (rd want (q_ : Int))) * ((rd xs_ (q_ : Int)) - (rd want (q_ : Int))))))))) && (decide (((rd xs_ ((q_ : Int) - 1)) + (rd wide ((q_ : Int) - 1))) < (rd xs_ (q_ : Int))))) (says_ift _ _) (fun hq => by
                  have hq' := hq
                  try simp only [Bool.and_eq_true, Bool.or_eq_true, Bool.not_eq_true', Bool.not_eq_false', decide_eq_true_eq, decide_eq_false_iff_not] at hq'
                  exact Yl.at (yl_move rfl)) ?_
              refine o_if (v := .int .i64 (((rd xs_ (q_ : Int)) - (rd want (q_ : Int))) * ((rd xs_ (q_ : Int)) - (rd want (q_ : Int))))) 168 160 true ((!(((decide ((rd xs_ (q_ : Int)) < ((rd xs_ ((q_ : Int) - 1)) + (rd wide ((q_ : Int) - 1))))) || (decide (((rd xs_ ((q_ : Int) + 1)) - (rd wide (q_ : Int))) < (rd xs_ (q_ : Int))))) || ((decide ((rd xs_ (q_ : Int)) < ((rd xs_ ((q_ : Int) + 1)) - (rd wide (q_ : Int))))) && (decide (((((rd xs_ (q_ : Int)) - (rd want (q_ : Int))) + 1) * (((rd xs_ (q_ : Int)) - (rd want (q_ : Int))) + 1)) < (((rd xs_ (q_ : Int)) - (rd want (q_ : Int))) * ((rd xs_ (q_ : Int)) - (rd want (q_ : Int))))))))) && (decide (((rd xs_ ((q_ : Int) - 1)) + (rd wide ((q_ : Int) - 1))) < (rd xs_ (q_ : Int))))) (says_ift _ _) (fun hq => by
                  have hq' := hq
                  try simp only [Bool.and_eq_true, Bool.or_eq_true, Bool.not_eq_true', Bool.not_eq_false', decide_eq_true_eq, decide_eq_false_iff_not] at hq'
                  exact Yl.at (yl_mul (a := (rd xs_ (q_ : Int)) - (rd want (q_ : Int))) (b := (rd xs_ (q_ : Int)) - (rd want (q_ : Int))) (cv (v := .int .i64 ((rd xs_ (q_ : Int)) - (rd want (q_ : Int)))) hq) (cv (v := .int .i64 ((rd xs_ (q_ : Int)) - (rd want (q_ : Int)))) hq) (wrap_i64 (sq_small (by omega) (by omega))))) ?_
              refine o_if (v := .bool (decide (((((rd xs_ (q_ : Int)) - (rd want (q_ : Int))) - 1) * (((rd xs_ (q_ : Int)) - (rd want (q_ : Int))) - 1)) ≤ (((rd xs_ (q_ : Int)) - (rd want (q_ : Int))) * ((rd xs_ (q_ : Int)) - (rd want (q_ : Int))))))) 169 160 true ((!(((decide ((rd xs_ (q_ : Int)) < ((rd xs_ ((q_ : Int) - 1)) + (rd wide ((q_ : Int) - 1))))) || (decide (((rd xs_ ((q_ : Int) + 1)) - (rd wide (q_ : Int))) < (rd xs_ (q_ : Int))))) || ((decide ((rd xs_ (q_ : Int)) < ((rd xs_ ((q_ : Int) + 1)) - (rd wide (q_ : Int))))) && (decide (((((rd xs_ (q_ : Int)) - (rd want (q_ : Int))) + 1) * (((rd xs_ (q_ : Int)) - (rd want (q_ : Int))) + 1)) < (((rd xs_ (q_ : Int)) - (rd want (q_ : Int))) * ((rd xs_ (q_ : Int)) - (rd want (q_ : Int))))))))) && (decide (((rd xs_ ((q_ : Int) - 1)) + (rd wide ((q_ : Int) - 1))) < (rd xs_ (q_ : Int))))) (says_ift _ _) (fun hq => by
                  have hq' := hq
                  try simp only [Bool.and_eq_true, Bool.or_eq_true, Bool.not_eq_true', Bool.not_eq_false', decide_eq_true_eq, decide_eq_false_iff_not] at hq'
                  exact Yl.at (yl_leq (cv (v := .int .i64 ((((rd xs_ (q_ : Int)) - (rd want (q_ : Int))) - 1) * (((rd xs_ (q_ : Int)) - (rd want (q_ : Int))) - 1))) hq) (cv (v := .int .i64 (((rd xs_ (q_ : Int)) - (rd want (q_ : Int))) * ((rd xs_ (q_ : Int)) - (rd want (q_ : Int))))) hq))) ?_
              refine o_if (v := .bool ((decide (((rd xs_ ((q_ : Int) - 1)) + (rd wide ((q_ : Int) - 1))) < (rd xs_ (q_ : Int)))) && (decide (((((rd xs_ (q_ : Int)) - (rd want (q_ : Int))) - 1) * (((rd xs_ (q_ : Int)) - (rd want (q_ : Int))) - 1)) ≤ (((rd xs_ (q_ : Int)) - (rd want (q_ : Int))) * ((rd xs_ (q_ : Int)) - (rd want (q_ : Int)))))))) 170 153 false (!(((decide ((rd xs_ (q_ : Int)) < ((rd xs_ ((q_ : Int) - 1)) + (rd wide ((q_ : Int) - 1))))) || (decide (((rd xs_ ((q_ : Int) + 1)) - (rd wide (q_ : Int))) < (rd xs_ (q_ : Int))))) || ((decide ((rd xs_ (q_ : Int)) < ((rd xs_ ((q_ : Int) + 1)) - (rd wide (q_ : Int))))) && (decide (((((rd xs_ (q_ : Int)) - (rd want (q_ : Int))) + 1) * (((rd xs_ (q_ : Int)) - (rd want (q_ : Int))) + 1)) < (((rd xs_ (q_ : Int)) - (rd want (q_ : Int))) * ((rd xs_ (q_ : Int)) - (rd want (q_ : Int))))))))) (says_f _) (fun hq => by
                  have hq' := hq
                  try simp only [Bool.and_eq_true, Bool.or_eq_true, Bool.not_eq_true', Bool.not_eq_false', decide_eq_true_eq, decide_eq_false_iff_not] at hq'
                  exact Yl.at (yl_and (cv (v := .bool (decide (((rd xs_ ((q_ : Int) - 1)) + (rd wide ((q_ : Int) - 1))) < (rd xs_ (q_ : Int))))) hq) (fun hc => (cv (v := .bool (decide (((((rd xs_ (q_ : Int)) - (rd want (q_ : Int))) - 1) * (((rd xs_ (q_ : Int)) - (rd want (q_ : Int))) - 1)) ≤ (((rd xs_ (q_ : Int)) - (rd want (q_ : Int))) * ((rd xs_ (q_ : Int)) - (rd want (q_ : Int))))))) (and_i hq hc))) rfl)) ?_
              refine o_pure (v := .bool ((((decide ((rd xs_ (q_ : Int)) < ((rd xs_ ((q_ : Int) - 1)) + (rd wide ((q_ : Int) - 1))))) || (decide (((rd xs_ ((q_ : Int) + 1)) - (rd wide (q_ : Int))) < (rd xs_ (q_ : Int))))) || ((decide ((rd xs_ (q_ : Int)) < ((rd xs_ ((q_ : Int) + 1)) - (rd wide (q_ : Int))))) && (decide (((((rd xs_ (q_ : Int)) - (rd want (q_ : Int))) + 1) * (((rd xs_ (q_ : Int)) - (rd want (q_ : Int))) + 1)) < (((rd xs_ (q_ : Int)) - (rd want (q_ : Int))) * ((rd xs_ (q_ : Int)) - (rd want (q_ : Int)))))))) || ((decide (((rd xs_ ((q_ : Int) - 1)) + (rd wide ((q_ : Int) - 1))) < (rd xs_ (q_ : Int)))) && (decide (((((rd xs_ (q_ : Int)) - (rd want (q_ : Int))) - 1) * (((rd xs_ (q_ : Int)) - (rd want (q_ : Int))) - 1)) ≤ (((rd xs_ (q_ : Int)) - (rd want (q_ : Int))) * ((rd xs_ (q_ : Int)) - (rd want (q_ : Int))))))))) 171 (yl_or rfl rfl (fun hc => (cv (v := .bool ((decide (((rd xs_ ((q_ : Int) - 1)) + (rd wide ((q_ : Int) - 1))) < (rd xs_ (q_ : Int)))) && (decide (((((rd xs_ (q_ : Int)) - (rd want (q_ : Int))) - 1) * (((rd xs_ (q_ : Int)) - (rd want (q_ : Int))) - 1)) ≤ (((rd xs_ (q_ : Int)) - (rd want (q_ : Int))) * ((rd xs_ (q_ : Int)) - (rd want (q_ : Int)))))))) (t_not hc)))) ?_
              refine x_done ?_
              refine x_cond (t := (((decide ((rd xs_ (q_ : Int)) < ((rd xs_ ((q_ : Int) - 1)) + (rd wide ((q_ : Int) - 1))))) || (decide (((rd xs_ ((q_ : Int) + 1)) - (rd wide (q_ : Int))) < (rd xs_ (q_ : Int))))) || ((decide ((rd xs_ (q_ : Int)) < ((rd xs_ ((q_ : Int) + 1)) - (rd wide (q_ : Int))))) && (decide (((((rd xs_ (q_ : Int)) - (rd want (q_ : Int))) + 1) * (((rd xs_ (q_ : Int)) - (rd want (q_ : Int))) + 1)) < (((rd xs_ (q_ : Int)) - (rd want (q_ : Int))) * ((rd xs_ (q_ : Int)) - (rd want (q_ : Int)))))))) || ((decide (((rd xs_ ((q_ : Int) - 1)) + (rd wide ((q_ : Int) - 1))) < (rd xs_ (q_ : Int)))) && (decide (((((rd xs_ (q_ : Int)) - (rd want (q_ : Int))) - 1) * (((rd xs_ (q_ : Int)) - (rd want (q_ : Int))) - 1)) ≤ (((rd xs_ (q_ : Int)) - (rd want (q_ : Int))) * ((rd xs_ (q_ : Int)) - (rd want (q_ : Int)))))))) rfl (fun hbig => ?_) (fun hbig => ?_)
              · skip
                simp only [Bool.and_eq_true, Bool.or_eq_true, Bool.and_eq_false_iff, Bool.or_eq_false_iff, Bool.not_eq_true', Bool.not_eq_false', decide_eq_true_eq, decide_eq_false_iff_not] at hbig
                exfalso
                rcases hbig with (((h | h) | ⟨h, h'⟩) | ⟨h, h'⟩)
                · omega
                · omega
                · exact g3 ⟨h, h'⟩
                · exact g4 ⟨h, h'⟩
              · skip
                simp only [Bool.and_eq_true, Bool.or_eq_true, Bool.and_eq_false_iff, Bool.or_eq_false_iff, Bool.not_eq_true', Bool.not_eq_false', decide_eq_true_eq, decide_eq_false_iff_not] at hbig
                refine x_skip ?_
                refine x_blk ?_
                refine x_region ?_
                refine o_pure (v := .int .i64 ((q_ : Int) + 1)) 172 (yl_add (a := (q_ : Int)) (b := 1) e74 rfl (wrap_i64 (by omega))) ?_
                refine o_pure (v := .int .i64 ((q_ : Int) + 1)) 74 (yl_move rfl) ?_
                refine x_done ?_
                refine x_inv ⟨want.length - (q_ + 1), by omega, q_ + 1, Eq.trans (b := Value.int .i64 ((q_ : Int) + 1)) rfl (congrArg (Value.int .i64) (by omega)), e4, e5, e7, e8, e73, by omega, by omega, hS⟩
            · skip
              rw [if_neg (by omega)] at g2 g3
              refine x_skip ?_
              refine x_seq ?_
              refine x_quiet (fun w' => St w0 w' (ro ρr :: strm b1 A c L (1 + 2 * (i : Int) + 1) :: l)) mixed (by kernel_rfl) (hS.drawn _) ?_
              refine q_pure (v := .slice A_ want.length c_) 111 (yl_move e8) ?_
              refine q_pure (v := .int .i64 (q_ : Int)) 112 (yl_move rfl) ?_
              refine q_pure (v := .pointer (some ((adr A_).add ((q_ : Int).toNat * 1)))) 113 (yl_index_r sl_22 rfl rfl (hr.some (i := (q_ : Int)) (by omega) (by omega)) (by omega) (by omega)) ?_
              refine q_at (v := .int .i64 (rd xs_ (q_ : Int))) 114 (fun w' hS => at_load one_3 rfl (hr.cell hS (by omega) (by omega))) ?_
              refine q_pure (v := .slice A12 want.length c13) 115 (yl_move e4) ?_
              refine q_pure (v := .int .i64 (q_ : Int)) 116 (yl_move rfl) ?_
              refine q_pure (v := .pointer (some ((adr A12).add ((q_ : Int).toNat * 1)))) 117 (yl_index_r sl_22 rfl rfl (hWa.some (i := (q_ : Int)) (by omega) (by omega)) (by omega) (by omega)) ?_
              refine q_at (v := .int .i64 (rd want (q_ : Int))) 118 (fun w' hS => at_load one_3 rfl (hWa.cell hS (by omega) (by omega))) ?_
              refine q_pure (v := .int .i64 ((rd xs_ (q_ : Int)) - (rd want (q_ : Int)))) 119 (yl_sub (a := rd xs_ (q_ : Int)) (b := rd want (q_ : Int)) rfl rfl (wrap_i64 (by omega))) ?_
              refine q_pure (v := .int .i64 ((rd xs_ (q_ : Int)) - (rd want (q_ : Int)))) 13 (yl_assign rfl) ?_
              refine q_done fun w' hS => ?_
              refine x_seq ?_
              refine x_region ?_
              refine o_pure (v := .slice A_ want.length c_) 120 (yl_move e8) ?_
              refine o_pure (v := .int .i64 (q_ : Int)) 121 (yl_move rfl) ?_
              refine o_pure (v := .pointer (some ((adr A_).add ((q_ : Int).toNat * 1)))) 122 (yl_index_r sl_22 rfl rfl (hr.some (i := (q_ : Int)) (by omega) (by omega)) (by omega) (by omega)) ?_
              refine o_at (v := .int .i64 (rd xs_ (q_ : Int))) 123 (at_load one_3 rfl (hr.cell hS (by omega) (by omega))) ?_
              refine o_pure (v := .int .i64 ((rd xs_ ((q_ : Int) - 1)) + (rd wide ((q_ : Int) - 1)))) 124 (yl_move rfl) ?_
              refine o_pure (v := .bool (decide ((rd xs_ (q_ : Int)) < ((rd xs_ ((q_ : Int) - 1)) + (rd wide ((q_ : Int) - 1)))))) 125 (yl_lss rfl rfl) ?_
              refine o_pure (v := .bool (decide ((rd xs_ (q_ : Int)) < ((rd xs_ ((q_ : Int) - 1)) + (rd wide ((q_ : Int) - 1)))))) 126 (yl_move rfl) ?_
              refine o_if (v := .slice A_ want.length c_) 127 126 false (!(decide ((rd xs_ (q_ : Int)) < ((rd xs_ ((q_ : Int) - 1)) + (rd wide ((q_ : Int) - 1)))))) (says_f _) (fun hq => by
                  have hq' := hq
                  try simp only [Bool.and_eq_true, Bool.or_eq_true, Bool.not_eq_true', Bool.not_eq_false', decide_eq_true_eq, decide_eq_false_iff_not] at hq'
                  exact Yl.at (yl_move e8)) ?_
              refine o_if (v := .int .i64 (q_ : Int)) 128 126 false (!(decide ((rd xs_ (q_ : Int)) < ((rd xs_ ((q_ : Int) - 1)) + (rd wide ((q_ : Int) - 1)))))) (says_f _) (fun hq => by
                  have hq' := hq
                  try simp only [Bool.and_eq_true, Bool.or_eq_true, Bool.not_eq_true', Bool.not_eq_false', decide_eq_true_eq, decide_eq_false_iff_not] at hq'
                  exact Yl.at (yl_move rfl)) ?_
              refine o_if (v := .pointer (some ((adr A_).add ((q_ : Int).toNat * 1)))) 129 126 false (!(decide ((rd xs_ (q_ : Int)) < ((rd xs_ ((q_ : Int) - 1)) + (rd wide ((q_ : Int) - 1)))))) (says_f _) (fun hq => by
                  have hq' := hq
                  try simp only [Bool.and_eq_true, Bool.or_eq_true, Bool.not_eq_true', Bool.not_eq_false', decide_eq_true_eq, decide_eq_false_iff_not] at hq'
                  exact Yl.at (yl_index_r sl_22 (cv (v := .slice A_ want.length c_) hq) (cv (v := .int .i64 (q_ : Int)) hq) (hr.some (i := (q_ : Int)) (by omega) (by omega)) (by omega) (by omega))) ?_
              refine o_if (v := .int .i64 (rd xs_ (q_ : Int))) 130 126 false (!(decide ((rd xs_ (q_ : Int)) < ((rd xs_ ((q_ : Int) - 1)) + (rd wide ((q_ : Int) - 1)))))) (says_f _) (fun hq => by
                  have hq' := hq
                  try simp only [Bool.and_eq_true, Bool.or_eq_true, Bool.not_eq_true', Bool.not_eq_false', decide_eq_true_eq, decide_eq_false_iff_not] at hq'
                  exact at_load one_3 (cv (v := .pointer (some ((adr A_).add ((q_ : Int).toNat * 1)))) hq) (hr.cell hS (by omega) (by omega))) ?_
              refine o_if (v := .int .i64 (40 - (rd wide (q_ : Int)))) 131 126 false (!(decide ((rd xs_ (q_ : Int)) < ((rd xs_ ((q_ : Int) - 1)) + (rd wide ((q_ : Int) - 1)))))) (says_f _) (fun hq => by
                  have hq' := hq
                  try simp only [Bool.and_eq_true, Bool.or_eq_true, Bool.not_eq_true', Bool.not_eq_false', decide_eq_true_eq, decide_eq_false_iff_not] at hq'
                  exact Yl.at (yl_move rfl)) ?_
              refine o_if (v := .bool (decide ((40 - (rd wide (q_ : Int))) < (rd xs_ (q_ : Int))))) 132 126 false (!(decide ((rd xs_ (q_ : Int)) < ((rd xs_ ((q_ : Int) - 1)) + (rd wide ((q_ : Int) - 1)))))) (says_f _) (fun hq => by
                  have hq' := hq
                  try simp only [Bool.and_eq_true, Bool.or_eq_true, Bool.not_eq_true', Bool.not_eq_false', decide_eq_true_eq, decide_eq_false_iff_not] at hq'
                  exact Yl.at (yl_gtr (cv (v := .int .i64 (rd xs_ (q_ : Int))) hq) (cv (v := .int .i64 (40 - (rd wide (q_ : Int)))) hq))) ?_
              refine o_pure (v := .bool ((decide ((rd xs_ (q_ : Int)) < ((rd xs_ ((q_ : Int) - 1)) + (rd wide ((q_ : Int) - 1))))) || (decide ((40 - (rd wide (q_ : Int))) < (rd xs_ (q_ : Int)))))) 133 (yl_or rfl rfl (fun hc => (cv (v := .bool (decide ((40 - (rd wide (q_ : Int))) < (rd xs_ (q_ : Int))))) (t_not hc)))) ?_
              refine o_pure (v := .bool ((decide ((rd xs_ (q_ : Int)) < ((rd xs_ ((q_ : Int) - 1)) + (rd wide ((q_ : Int) - 1))))) || (decide ((40 - (rd wide (q_ : Int))) < (rd xs_ (q_ : Int)))))) 134 (yl_move rfl) ?_
              refine o_if (v := .slice A_ want.length c_) 135 134 false (!((decide ((rd xs_ (q_ : Int)) < ((rd xs_ ((q_ : Int) - 1)) + (rd wide ((q_ : Int) - 1))))) || (decide ((40 - (rd wide (q_ : Int))) < (rd xs_ (q_ : Int)))))) (says_f _) (fun hq => by
                  have hq' := hq
                  try simp only [Bool.and_eq_true, Bool.or_eq_true, Bool.not_eq_true', Bool.not_eq_false', decide_eq_true_eq, decide_eq_false_iff_not] at hq'
                  exact Yl.at (yl_move e8)) ?_
              refine o_if (v := .int .i64 (q_ : Int)) 136 134 false (!((decide ((rd xs_ (q_ : Int)) < ((rd xs_ ((q_ : Int) - 1)) + (rd wide ((q_ : Int) - 1))))) || (decide ((40 - (rd wide (q_ : Int))) < (rd xs_ (q_ : Int)))))) (says_f _) (fun hq => by
                  have hq' := hq
                  try simp only [Bool.and_eq_true, Bool.or_eq_true, Bool.not_eq_true', Bool.not_eq_false', decide_eq_true_eq, decide_eq_false_iff_not] at hq'
                  exact Yl.at (yl_move rfl)) ?_
              refine o_if (v := .pointer (some ((adr A_).add ((q_ : Int).toNat * 1)))) 137 134 false (!((decide ((rd xs_ (q_ : Int)) < ((rd xs_ ((q_ : Int) - 1)) + (rd wide ((q_ : Int) - 1))))) || (decide ((40 - (rd wide (q_ : Int))) < (rd xs_ (q_ : Int)))))) (says_f _) (fun hq => by
                  have hq' := hq
                  try simp only [Bool.and_eq_true, Bool.or_eq_true, Bool.not_eq_true', Bool.not_eq_false', decide_eq_true_eq, decide_eq_false_iff_not] at hq'
                  exact Yl.at (yl_index_r sl_22 (cv (v := .slice A_ want.length c_) hq) (cv (v := .int .i64 (q_ : Int)) hq) (hr.some (i := (q_ : Int)) (by omega) (by omega)) (by omega) (by omega))) ?_
              refine o_if (v := .int .i64 (rd xs_ (q_ : Int))) 138 134 false (!((decide ((rd xs_ (q_ : Int)) < ((rd xs_ ((q_ : Int) - 1)) + (rd wide ((q_ : Int) - 1))))) || (decide ((40 - (rd wide (q_ : Int))) < (rd xs_ (q_ : Int)))))) (says_f _) (fun hq => by
                  have hq' := hq
                  try simp only [Bool.and_eq_true, Bool.or_eq_true, Bool.not_eq_true', Bool.not_eq_false', decide_eq_true_eq, decide_eq_false_iff_not] at hq'
                  exact at_load one_3 (cv (v := .pointer (some ((adr A_).add ((q_ : Int).toNat * 1)))) hq) (hr.cell hS (by omega) (by omega))) ?_
              refine o_if (v := .int .i64 (40 - (rd wide (q_ : Int)))) 139 134 false (!((decide ((rd xs_ (q_ : Int)) < ((rd xs_ ((q_ : Int) - 1)) + (rd wide ((q_ : Int) - 1))))) || (decide ((40 - (rd wide (q_ : Int))) < (rd xs_ (q_ : Int)))))) (says_f _) (fun hq => by
                  have hq' := hq
                  try simp only [Bool.and_eq_true, Bool.or_eq_true, Bool.not_eq_true', Bool.not_eq_false', decide_eq_true_eq, decide_eq_false_iff_not] at hq'
                  exact Yl.at (yl_move rfl)) ?_
              refine o_if (v := .bool (decide ((rd xs_ (q_ : Int)) < (40 - (rd wide (q_ : Int)))))) 140 134 false (!((decide ((rd xs_ (q_ : Int)) < ((rd xs_ ((q_ : Int) - 1)) + (rd wide ((q_ : Int) - 1))))) || (decide ((40 - (rd wide (q_ : Int))) < (rd xs_ (q_ : Int)))))) (says_f _) (fun hq => by
                  have hq' := hq
                  try simp only [Bool.and_eq_true, Bool.or_eq_true, Bool.not_eq_true', Bool.not_eq_false', decide_eq_true_eq, decide_eq_false_iff_not] at hq'
                  exact Yl.at (yl_lss (cv (v := .int .i64 (rd xs_ (q_ : Int))) hq) (cv (v := .int .i64 (40 - (rd wide (q_ : Int)))) hq))) ?_
              refine o_if (v := .bool (decide ((rd xs_ (q_ : Int)) < (40 - (rd wide (q_ : Int)))))) 141 134 false (!((decide ((rd xs_ (q_ : Int)) < ((rd xs_ ((q_ : Int) - 1)) + (rd wide ((q_ : Int) - 1))))) || (decide ((40 - (rd wide (q_ : Int))) < (rd xs_ (q_ : Int)))))) (says_f _) (fun hq => by
                  have hq' := hq
                  try simp only [Bool.and_eq_true, Bool.or_eq_true, Bool.not_eq_true', Bool.not_eq_false', decide_eq_true_eq, decide_eq_false_iff_not] at hq'
                  exact Yl.at (yl_move (cv (v := .bool (decide ((rd xs_ (q_ : Int)) < (40 - (rd wide (q_ : Int)))))) hq))) ?_
              refine o_if (v := .int .i64 ((rd xs_ (q_ : Int)) - (rd want (q_ : Int)))) 142 141 true ((!((decide ((rd xs_ (q_ : Int)) < ((rd xs_ ((q_ : Int) - 1)) + (rd wide ((q_ : Int) - 1))))) || (decide ((40 - (rd wide (q_ : Int))) < (rd xs_ (q_ : Int)))))) && (decide ((rd xs_ (q_ : Int)) < (40 - (rd wide (q_ : Int)))))) (says_ift _ _) (fun hq => by
                  have hq' := hq
                  try simp only [Bool.and_eq_true, Bool.or_eq_true, Bool.not_eq_true', Bool.not_eq_false', decide_eq_true_eq, decide_eq_false_iff_not] at hq'
                  exact Yl.at (yl_move rfl)) ?_
              refine o_if (v := .int .i64 (((rd xs_ (q_ : Int)) - (rd want (q_ : Int))) + 1)) 143 141 true ((!((decide ((rd xs_ (q_ : Int)) < ((rd xs_ ((q_ : Int) - 1)) + (rd wide ((q_ : Int) - 1))))) || (decide ((40 - (rd wide (q_ : Int))) < (rd xs_ (q_ : Int)))))) && (decide ((rd xs_ (q_ : Int)) < (40 - (rd wide (q_ : Int)))))) (says_ift _ _) (fun hq => by
                  have hq' := hq
                  try simp only [Bool.and_eq_true, Bool.or_eq_true, Bool.not_eq_true', Bool.not_eq_false', decide_eq_true_eq, decide_eq_false_iff_not] at hq'
                  exact Yl.at (yl_add (a := (rd xs_ (q_ : Int)) - (rd want (q_ : Int))) (b := 1) (cv (v := .int .i64 ((rd xs_ (q_ : Int)) - (rd want (q_ : Int)))) hq) rfl (wrap_i64 (by omega)))) ?_
              refine o_if (v := .int .i64 ((rd xs_ (q_ : Int)) - (rd want (q_ : Int)))) 144 141 true ((!((decide ((rd xs_ (q_ : Int)) < ((rd xs_ ((q_ : Int) - 1)) + (rd wide ((q_ : Int) - 1))))) || (decide ((40 - (rd wide (q_ : Int))) < (rd xs_ (q_ : Int)))))) && (decide ((rd xs_ (q_ : Int)) < (40 - (rd wide (q_ : Int)))))) (says_ift _ _) (fun hq => by
                  have hq' := hq
                  try simp only [Bool.and_eq_true, Bool.or_eq_true, Bool.not_eq_true', Bool.not_eq_false', decide_eq_true_eq, decide_eq_false_iff_not] at hq'
                  exact Yl.at (yl_move rfl)) ?_
              refine o_if (v := .int .i64 (((rd xs_ (q_ : Int)) - (rd want (q_ : Int))) + 1)) 145 141 true ((!((decide ((rd xs_ (q_ : Int)) < ((rd xs_ ((q_ : Int) - 1)) + (rd wide ((q_ : Int) - 1))))) || (decide ((40 - (rd wide (q_ : Int))) < (rd xs_ (q_ : Int)))))) && (decide ((rd xs_ (q_ : Int)) < (40 - (rd wide (q_ : Int)))))) (says_ift _ _) (fun hq => by
                  have hq' := hq
                  try simp only [Bool.and_eq_true, Bool.or_eq_true, Bool.not_eq_true', Bool.not_eq_false', decide_eq_true_eq, decide_eq_false_iff_not] at hq'
                  exact Yl.at (yl_add (a := (rd xs_ (q_ : Int)) - (rd want (q_ : Int))) (b := 1) (cv (v := .int .i64 ((rd xs_ (q_ : Int)) - (rd want (q_ : Int)))) hq) rfl (wrap_i64 (by omega)))) ?_
              refine o_if (v := .int .i64 ((((rd xs_ (q_ : Int)) - (rd want (q_ : Int))) + 1) * (((rd xs_ (q_ : Int)) - (rd want (q_ : Int))) + 1))) 146 141 true ((!((decide ((rd xs_ (q_ : Int)) < ((rd xs_ ((q_ : Int) - 1)) + (rd wide ((q_ : Int) - 1))))) || (decide ((40 - (rd wide (q_ : Int))) < (rd xs_ (q_ : Int)))))) && (decide ((rd xs_ (q_ : Int)) < (40 - (rd wide (q_ : Int)))))) (says_ift _ _) (fun hq => by
                  have hq' := hq
                  try simp only [Bool.and_eq_true, Bool.or_eq_true, Bool.not_eq_true', Bool.not_eq_false', decide_eq_true_eq, decide_eq_false_iff_not] at hq'
                  exact Yl.at (yl_mul (a := ((rd xs_ (q_ : Int)) - (rd want (q_ : Int))) + 1) (b := ((rd xs_ (q_ : Int)) - (rd want (q_ : Int))) + 1) (cv (v := .int .i64 (((rd xs_ (q_ : Int)) - (rd want (q_ : Int))) + 1)) hq) (cv (v := .int .i64 (((rd xs_ (q_ : Int)) - (rd want (q_ : Int))) + 1)) hq) (wrap_i64 (sq_small (by omega) (by omega))))) ?_
              refine o_if (v := .int .i64 ((rd xs_ (q_ : Int)) - (rd want (q_ : Int)))) 147 141 true ((!((decide ((rd xs_ (q_ : Int)) < ((rd xs_ ((q_ : Int) - 1)) + (rd wide ((q_ : Int) - 1))))) || (decide ((40 - (rd wide (q_ : Int))) < (rd xs_ (q_ : Int)))))) && (decide ((rd xs_ (q_ : Int)) < (40 - (rd wide (q_ : Int)))))) (says_ift _ _) (fun hq => by
                  have hq' := hq
                  try simp only [Bool.and_eq_true, Bool.or_eq_true, Bool.not_eq_true', Bool.not_eq_false', decide_eq_true_eq, decide_eq_false_iff_not] at hq'
                  exact Yl.at (yl_move rfl)) ?_
              refine o_if (v := .int .i64 ((rd xs_ (q_ : Int)) - (rd want (q_ : Int)))) 148 141 true ((!((decide ((rd xs_ (q_ : Int)) < ((rd xs_ ((q_ : Int) - 1)) + (rd wide ((q_ : Int) - 1))))) || (decide ((40 - (rd wide (q_ : Int))) < (rd xs_ (q_ : Int)))))) && (decide ((rd xs_ (q_ : Int)) < (40 - (rd wide (q_ : Int)))))) (says_ift _ _) (fun hq => by
                  have hq' := hq
                  try simp only [Bool.and_eq_true, Bool.or_eq_true, Bool.not_eq_true', Bool.not_eq_false', decide_eq_true_eq, decide_eq_false_iff_not] at hq'
                  exact Yl.at (yl_move rfl)) ?_
              refine o_if (v := .int .i64 (((rd xs_ (q_ : Int)) - (rd want (q_ : Int))) * ((rd xs_ (q_ : Int)) - (rd want (q_ : Int))))) 149 141 true ((!((decide ((rd xs_ (q_ : Int)) < ((rd xs_ ((q_ : Int) - 1)) + (rd wide ((q_ : Int) - 1))))) || (decide ((40 - (rd wide (q_ : Int))) < (rd xs_ (q_ : Int)))))) && (decide ((rd xs_ (q_ : Int)) < (40 - (rd wide (q_ : Int)))))) (says_ift _ _) (fun hq => by
                  have hq' := hq
                  try simp only [Bool.and_eq_true, Bool.or_eq_true, Bool.not_eq_true', Bool.not_eq_false', decide_eq_true_eq, decide_eq_false_iff_not] at hq'
                  exact Yl.at (yl_mul (a := (rd xs_ (q_ : Int)) - (rd want (q_ : Int))) (b := (rd xs_ (q_ : Int)) - (rd want (q_ : Int))) (cv (v := .int .i64 ((rd xs_ (q_ : Int)) - (rd want (q_ : Int)))) hq) (cv (v := .int .i64 ((rd xs_ (q_ : Int)) - (rd want (q_ : Int)))) hq) (wrap_i64 (sq_small (by omega) (by omega))))) ?_
              refine o_if (v := .bool (decide (((((rd xs_ (q_ : Int)) - (rd want (q_ : Int))) + 1) * (((rd xs_ (q_ : Int)) - (rd want (q_ : Int))) + 1)) < (((rd xs_ (q_ : Int)) - (rd want (q_ : Int))) * ((rd xs_ (q_ : Int)) - (rd want (q_ : Int))))))) 150 141 true ((!((decide ((rd xs_ (q_ : Int)) < ((rd xs_ ((q_ : Int) - 1)) + (rd wide ((q_ : Int) - 1))))) || (decide ((40 - (rd wide (q_ : Int))) < (rd xs_ (q_ : Int)))))) && (decide ((rd xs_ (q_ : Int)) < (40 - (rd wide (q_ : Int)))))) (says_ift _ _) (fun hq => by
                  have hq' := hq
                  try simp only [Bool.and_eq_true, Bool.or_eq_true, Bool.not_eq_true', Bool.not_eq_false', decide_eq_true_eq, decide_eq_false_iff_not] at hq'
                  exact Yl.at (yl_lss (cv (v := .int .i64 ((((rd xs_ (q_ : Int)) - (rd want (q_ : Int))) + 1) * (((rd xs_ (q_ : Int)) - (rd want (q_ : Int))) + 1))) hq) (cv (v := .int .i64 (((rd xs_ (q_ : Int)) - (rd want (q_ : Int))) * ((rd xs_ (q_ : Int)) - (rd want (q_ : Int))))) hq))) ?_
              refine o_if (v := .bool ((decide ((rd xs_ (q_ : Int)) < (40 - (rd wide (q_ : Int))))) && (decide (((((rd xs_ (q_ : Int)) - (rd want (q_ : Int))) + 1) * (((rd xs_ (q_ : Int)) - (rd want (q_ : Int))) + 1)) < (((rd xs_ (q_ : Int)) - (rd want (q_ : Int))) * ((rd xs_ (q_ : Int)) - (rd want (q_ : Int)))))))) 151 134 false (!((decide ((rd xs_ (q_ : Int)) < ((rd xs_ ((q_ : Int) - 1)) + (rd wide ((q_ : Int) - 1))))) || (decide ((40 - (rd wide (q_ : Int))) < (rd xs_ (q_ : Int)))))) (says_f _) (fun hq => by
                  have hq' := hq
                  try simp only [Bool.and_eq_true, Bool.or_eq_true, Bool.not_eq_true', Bool.not_eq_false', decide_eq_true_eq, decide_eq_false_iff_not] at hq'
                  exact Yl.at (yl_and (cv (v := .bool (decide ((rd xs_ (q_ : Int)) < (40 - (rd wide (q_ : Int)))))) hq) (fun hc => (cv (v := .bool (decide (((((rd xs_ (q_ : Int)) - (rd want (q_ : Int))) + 1) * (((rd xs_ (q_ : Int)) - (rd want (q_ : Int))) + 1)) < (((rd xs_ (q_ : Int)) - (rd want (q_ : Int))) * ((rd xs_ (q_ : Int)) - (rd want (q_ : Int))))))) (and_i hq hc))) rfl)) ?_
              refine o_pure (v := .bool (((decide ((rd xs_ (q_ : Int)) < ((rd xs_ ((q_ : Int) - 1)) + (rd wide ((q_ : Int) - 1))))) || (decide ((40 - (rd wide (q_ : Int))) < (rd xs_ (q_ : Int))))) || ((decide ((rd xs_ (q_ : Int)) < (40 - (rd wide (q_ : Int))))) && (decide (((((rd xs_ (q_ : Int)) - (rd want (q_ : Int))) + 1) * (((rd xs_ (q_ : Int)) - (rd want (q_ : Int))) + 1)) < (((rd xs_ (q_ : Int)) - (rd want (q_ : Int))) * ((rd xs_ (q_ : Int)) - (rd want (q_ : Int))))))))) 152 (yl_or rfl rfl (fun hc => (cv (v := .bool ((decide ((rd xs_ (q_ : Int)) < (40 - (rd wide (q_ : Int))))) && (decide (((((rd xs_ (q_ : Int)) - (rd want (q_ : Int))) + 1) * (((rd xs_ (q_ : Int)) - (rd want (q_ : Int))) + 1)) < (((rd xs_ (q_ : Int)) - (rd want (q_ : Int))) * ((rd xs_ (q_ : Int)) - (rd want (q_ : Int)))))))) (t_not hc)))) ?_
              refine o_pure (v := .bool (((decide ((rd xs_ (q_ : Int)) < ((rd xs_ ((q_ : Int) - 1)) + (rd wide ((q_ : Int) - 1))))) || (decide ((40 - (rd wide (q_ : Int))) < (rd xs_ (q_ : Int))))) || ((decide ((rd xs_ (q_ : Int)) < (40 - (rd wide (q_ : Int))))) && (decide (((((rd xs_ (q_ : Int)) - (rd want (q_ : Int))) + 1) * (((rd xs_ (q_ : Int)) - (rd want (q_ : Int))) + 1)) < (((rd xs_ (q_ : Int)) - (rd want (q_ : Int))) * ((rd xs_ (q_ : Int)) - (rd want (q_ : Int))))))))) 153 (yl_move rfl) ?_
              refine o_if (v := .slice A_ want.length c_) 154 153 false (!(((decide ((rd xs_ (q_ : Int)) < ((rd xs_ ((q_ : Int) - 1)) + (rd wide ((q_ : Int) - 1))))) || (decide ((40 - (rd wide (q_ : Int))) < (rd xs_ (q_ : Int))))) || ((decide ((rd xs_ (q_ : Int)) < (40 - (rd wide (q_ : Int))))) && (decide (((((rd xs_ (q_ : Int)) - (rd want (q_ : Int))) + 1) * (((rd xs_ (q_ : Int)) - (rd want (q_ : Int))) + 1)) < (((rd xs_ (q_ : Int)) - (rd want (q_ : Int))) * ((rd xs_ (q_ : Int)) - (rd want (q_ : Int))))))))) (says_f _) (fun hq => by
                  have hq' := hq
                  try simp only [Bool.and_eq_true, Bool.or_eq_true, Bool.not_eq_true', Bool.not_eq_false', decide_eq_true_eq, decide_eq_false_iff_not] at hq'
                  exact Yl.at (yl_move e8)) ?_
              refine o_if (v := .int .i64 (q_ : Int)) 155 153 false (!(((decide ((rd xs_ (q_ : Int)) < ((rd xs_ ((q_ : Int) - 1)) + (rd wide ((q_ : Int) - 1))))) || (decide ((40 - (rd wide (q_ : Int))) < (rd xs_ (q_ : Int))))) || ((decide ((rd xs_ (q_ : Int)) < (40 - (rd wide (q_ : Int))))) && (decide (((((rd xs_ (q_ : Int)) - (rd want (q_ : Int))) + 1) * (((rd xs_ (q_ : Int)) - (rd want (q_ : Int))) + 1)) < (((rd xs_ (q_ : Int)) - (rd want (q_ : Int))) * ((rd xs_ (q_ : Int)) - (rd want (q_ : Int))))))))) (says_f _) (fun hq => by
                  have hq' := hq
                  try simp only [Bool.and_eq_true, Bool.or_eq_true, Bool.not_eq_true', Bool.not_eq_false', decide_eq_true_eq, decide_eq_false_iff_not] at hq'
                  exact Yl.at (yl_move rfl)) ?_
              refine o_if (v := .pointer (some ((adr A_).add ((q_ : Int).toNat * 1)))) 156 153 false (!(((decide ((rd xs_ (q_ : Int)) < ((rd xs_ ((q_ : Int) - 1)) + (rd wide ((q_ : Int) - 1))))) || (decide ((40 - (rd wide (q_ : Int))) < (rd xs_ (q_ : Int))))) || ((decide ((rd xs_ (q_ : Int)) < (40 - (rd wide (q_ : Int))))) && (decide (((((rd xs_ (q_ : Int)) - (rd want (q_ : Int))) + 1) * (((rd xs_ (q_ : Int)) - (rd want (q_ : Int))) + 1)) < (((rd xs_ (q_ : Int)) - (rd want (q_ : Int))) * ((rd xs_ (q_ : Int)) - (rd want (q_ : Int))))))))) (says_f _) (fun hq => by
                  have hq' := hq
                  try simp only [Bool.and_eq_true, Bool.or_eq_true, Bool.not_eq_true', Bool.not_eq_false', decide_eq_true_eq, decide_eq_false_iff_not] at hq'
                  exact Yl.at (yl_index_r sl_22 (cv (v := .slice A_ want.length c_) hq) (cv (v := .int .i64 (q_ : Int)) hq) (hr.some (i := (q_ : Int)) (by omega) (by omega)) (by omega) (by omega))) ?_
              refine o_if (v := .int .i64 (rd xs_ (q_ : Int))) 157 153 false (!(((decide ((rd xs_ (q_ : Int)) < ((rd xs_ ((q_ : Int) - 1)) + (rd wide ((q_ : Int) - 1))))) || (decide ((40 - (rd wide (q_ : Int))) < (rd xs_ (q_ : Int))))) || ((decide ((rd xs_ (q_ : Int)) < (40 - (rd wide (q_ : Int))))) && (decide (((((rd xs_ (q_ : Int)) - (rd want (q_ : Int))) + 1) * (((rd xs_ (q_ : Int)) - (rd want (q_ : Int))) + 1)) < (((rd xs_ (q_ : Int)) - (rd want (q_ : Int))) * ((rd xs_ (q_ : Int)) - (rd want (q_ : Int))))))))) (says_f _) (fun hq => by
                  have hq' := hq
                  try simp only [Bool.and_eq_true, Bool.or_eq_true, Bool.not_eq_true', Bool.not_eq_false', decide_eq_true_eq, decide_eq_false_iff_not] at hq'
                  exact at_load one_3 (cv (v := .pointer (some ((adr A_).add ((q_ : Int).toNat * 1)))) hq) (hr.cell hS (by omega) (by omega))) ?_
              refine o_if (v := .int .i64 ((rd xs_ ((q_ : Int) - 1)) + (rd wide ((q_ : Int) - 1)))) 158 153 false (!(((decide ((rd xs_ (q_ : Int)) < ((rd xs_ ((q_ : Int) - 1)) + (rd wide ((q_ : Int) - 1))))) || (decide ((40 - (rd wide (q_ : Int))) < (rd xs_ (q_ : Int))))) || ((decide ((rd xs_ (q_ : Int)) < (40 - (rd wide (q_ : Int))))) && (decide (((((rd xs_ (q_ : Int)) - (rd want (q_ : Int))) + 1) * (((rd xs_ (q_ : Int)) - (rd want (q_ : Int))) + 1)) < (((rd xs_ (q_ : Int)) - (rd want (q_ : Int))) * ((rd xs_ (q_ : Int)) - (rd want (q_ : Int))))))))) (says_f _) (fun hq => by
                  have hq' := hq
                  try simp only [Bool.and_eq_true, Bool.or_eq_true, Bool.not_eq_true', Bool.not_eq_false', decide_eq_true_eq, decide_eq_false_iff_not] at hq'
                  exact Yl.at (yl_move rfl)) ?_
              refine o_if (v := .bool (decide (((rd xs_ ((q_ : Int) - 1)) + (rd wide ((q_ : Int) - 1))) < (rd xs_ (q_ : Int))))) 159 153 false (!(((decide ((rd xs_ (q_ : Int)) < ((rd xs_ ((q_ : Int) - 1)) + (rd wide ((q_ : Int) - 1))))) || (decide ((40 - (rd wide (q_ : Int))) < (rd xs_ (q_ : Int))))) || ((decide ((rd xs_ (q_ : Int)) < (40 - (rd wide (q_ : Int))))) && (decide (((((rd xs_ (q_ : Int)) - (rd want (q_ : Int))) + 1) * (((rd xs_ (q_ : Int)) - (rd want (q_ : Int))) + 1)) < (((rd xs_ (q_ : Int)) - (rd want (q_ : Int))) * ((rd xs_ (q_ : Int)) - (rd want (q_ : Int))))))))) (says_f _) (fun hq => by
                  have hq' := hq
                  try simp only [Bool.and_eq_true, Bool.or_eq_true, Bool.not_eq_true', Bool.not_eq_false', decide_eq_true_eq, decide_eq_false_iff_not] at hq'
                  exact Yl.at (yl_gtr (cv (v := .int .i64 (rd xs_ (q_ : Int))) hq) (cv (v := .int .i64 ((rd xs_ ((q_ : Int) - 1)) + (rd wide ((q_ : Int) - 1)))) hq))) ?_
              refine o_if (v := .bool (decide (((rd xs_ ((q_ : Int) - 1)) + (rd wide ((q_ : Int) - 1))) < (rd xs_ (q_ : Int))))) 160 153 false (!(((decide ((rd xs_ (q_ : Int)) < ((rd xs_ ((q_ : Int) - 1)) + (rd wide ((q_ : Int) - 1))))) || (decide ((40 - (rd wide (q_ : Int))) < (rd xs_ (q_ : Int))))) || ((decide ((rd xs_ (q_ : Int)) < (40 - (rd wide (q_ : Int))))) && (decide (((((rd xs_ (q_ : Int)) - (rd want (q_ : Int))) + 1) * (((rd xs_ (q_ : Int)) - (rd want (q_ : Int))) + 1)) < (((rd xs_ (q_ : Int)) - (rd want (q_ : Int))) * ((rd xs_ (q_ : Int)) - (rd want (q_ : Int))))))))) (says_f _) (fun hq => by
                  have hq' := hq
                  try simp only [Bool.and_eq_true, Bool.or_eq_true, Bool.not_eq_true', Bool.not_eq_false', decide_eq_true_eq, decide_eq_false_iff_not] at hq'
                  exact Yl.at (yl_move (cv (v := .bool (decide (((rd xs_ ((q_ : Int) - 1)) + (rd wide ((q_ : Int) - 1))) < (rd xs_ (q_ : Int))))) hq))) ?_
              refine o_if (v := .int .i64 ((rd xs_ (q_ : Int)) - (rd want (q_ : Int)))) 161 160 true ((!(((decide ((rd xs_ (q_ : Int)) < ((rd xs_ ((q_ : Int) - 1)) + (rd wide ((q_ : Int) - 1))))) || (decide ((40 - (rd wide (q_ : Int))) < (rd xs_ (q_ : Int))))) || ((decide ((rd xs_ (q_ : Int)) < (40 - (rd wide (q_ : Int))))) && (decide (((((rd xs_ (q_ : Int)) - (rd want (q_ : Int))) + 1) * (((rd xs_ (q_ : Int)) - (rd want (q_ : Int))) + 1)) < (((rd xs_ (q_ : Int)) - (rd want (q_ : Int))) * ((rd xs_ (q_ : Int)) - (rd want (q_ : Int))))))))) && (decide (((rd xs_ ((q_ : Int) - 1)) + (rd wide ((q_ : Int) - 1))) < (rd xs_ (q_ : Int))))) (says_ift _ _) (fun hq => by
                  have hq' := hq
                  try simp only [Bool.and_eq_true, Bool.or_eq_true, Bool.not_eq_true', Bool.not_eq_false', decide_eq_true_eq, decide_eq_false_iff_not] at hq'
                  exact Yl.at (yl_move rfl)) ?_
              refine o_if (v := .int .i64 (((rd xs_ (q_ : Int)) - (rd want (q_ : Int))) - 1)) 162 160 true ((!(((decide ((rd xs_ (q_ : Int)) < ((rd xs_ ((q_ : Int) - 1)) + (rd wide ((q_ : Int) - 1))))) || (decide ((40 - (rd wide (q_ : Int))) < (rd xs_ (q_ : Int))))) || ((decide ((rd xs_ (q_ : Int)) < (40 - (rd wide (q_ : Int))))) && (decide (((((rd xs_ (q_ : Int)) - (rd want (q_ : Int))) + 1) * (((rd xs_ (q_ : Int)) - (rd want (q_ : Int))) + 1)) < (((rd xs_ (q_ : Int)) - (rd want (q_ : Int))) * ((rd xs_ (q_ : Int)) - (rd want (q_ : Int))))))))) && (decide (((rd xs_ ((q_ : Int) - 1)) + (rd wide ((q_ : Int) - 1))) < (rd xs_ (q_ : Int))))) (says_ift _ _) (fun hq => by
                  have hq' := hq
                  try simp only [Bool.and_eq_true, Bool.or_eq_true, Bool.not_eq_true', Bool.not_eq_false', decide_eq_true_eq, decide_eq_false_iff_not] at hq'
                  exact Yl.at (yl_sub (a := (rd xs_ (q_ : Int)) - (rd want (q_ : Int))) (b := 1) (cv (v := .int .i64 ((rd xs_ (q_ : Int)) - (rd want (q_ : Int)))) hq) rfl (wrap_i64 (by omega)))) ?_
              refine o_if (v := .int .i64 ((rd xs_ (q_ : Int)) - (rd want (q_ : Int)))) 163 160 true ((!(((decide ((rd xs_ (q_ : Int)) < ((rd xs_ ((q_ : Int) - 1)) + (rd wide ((q_ : Int) - 1))))) || (decide ((40 - (rd wide (q_ : Int))) < (rd xs_ (q_ : Int))))) || ((decide ((rd xs_ (q_ : Int)) < (40 - (rd wide (q_ : Int))))) && (decide (((((rd xs_ (q_ : Int)) - (rd want (q_ : Int))) + 1) * (((rd xs_ (q_ : Int)) - (rd want (q_ : Int))) + 1)) < (((rd xs_ (q_ : Int)) - (rd want (q_ : Int))) * ((rd xs_ (q_ : Int)) - (rd want (q_ : Int))))))))) && (decide (((rd xs_ ((q_ : Int) - 1)) + (rd wide ((q_ : Int) - 1))) < (rd xs_ (q_ : Int))))) (says_ift _ _) (fun hq => by
                  have hq' := hq
                  try simp only [Bool.and_eq_true, Bool.or_eq_true, Bool.not_eq_true', Bool.not_eq_false', decide_eq_true_eq, decide_eq_false_iff_not] at hq'
                  exact Yl.at (yl_move rfl)) ?_
              refine o_if (v := .int .i64 (((rd xs_ (q_ : Int)) - (rd want (q_ : Int))) - 1)) 164 160 true ((!(((decide ((rd xs_ (q_ : Int)) < ((rd xs_ ((q_ : Int) - 1)) + (rd wide ((q_ : Int) - 1))))) || (decide ((40 - (rd wide (q_ : Int))) < (rd xs_ (q_ : Int))))) || ((decide ((rd xs_ (q_ : Int)) < (40 - (rd wide (q_ : Int))))) && (decide (((((rd xs_ (q_ : Int)) - (rd want (q_ : Int))) + 1) * (((rd xs_ (q_ : Int)) - (rd want (q_ : Int))) + 1)) < (((rd xs_ (q_ : Int)) - (rd want (q_ : Int))) * ((rd xs_ (q_ : Int)) - (rd want (q_ : Int))))))))) && (decide (((rd xs_ ((q_ : Int) - 1)) + (rd wide ((q_ : Int) - 1))) < (rd xs_ (q_ : Int))))) (says_ift _ _) (fun hq => by
                  have hq' := hq
                  try simp only [Bool.and_eq_true, Bool.or_eq_true, Bool.not_eq_true', Bool.not_eq_false', decide_eq_true_eq, decide_eq_false_iff_not] at hq'
                  exact Yl.at (yl_sub (a := (rd xs_ (q_ : Int)) - (rd want (q_ : Int))) (b := 1) (cv (v := .int .i64 ((rd xs_ (q_ : Int)) - (rd want (q_ : Int)))) hq) rfl (wrap_i64 (by omega)))) ?_
              refine o_if (v := .int .i64 ((((rd xs_ (q_ : Int)) - (rd want (q_ : Int))) - 1) * (((rd xs_ (q_ : Int)) - (rd want (q_ : Int))) - 1))) 165 160 true ((!(((decide ((rd xs_ (q_ : Int)) < ((rd xs_ ((q_ : Int) - 1)) + (rd wide ((q_ : Int) - 1))))) || (decide ((40 - (rd wide (q_ : Int))) < (rd xs_ (q_ : Int))))) || ((decide ((rd xs_ (q_ : Int)) < (40 - (rd wide (q_ : Int))))) && (decide (((((rd xs_ (q_ : Int)) - (rd want (q_ : Int))) + 1) * (((rd xs_ (q_ : Int)) - (rd want (q_ : Int))) + 1)) < (((rd xs_ (q_ : Int)) - (rd want (q_ : Int))) * ((rd xs_ (q_ : Int)) - (rd want (q_ : Int))))))))) && (decide (((rd xs_ ((q_ : Int) - 1)) + (rd wide ((q_ : Int) - 1))) < (rd xs_ (q_ : Int))))) (says_ift _ _) (fun hq => by
                  have hq' := hq
                  try simp only [Bool.and_eq_true, Bool.or_eq_true, Bool.not_eq_true', Bool.not_eq_false', decide_eq_true_eq, decide_eq_false_iff_not] at hq'
                  exact Yl.at (yl_mul (a := ((rd xs_ (q_ : Int)) - (rd want (q_ : Int))) - 1) (b := ((rd xs_ (q_ : Int)) - (rd want (q_ : Int))) - 1) (cv (v := .int .i64 (((rd xs_ (q_ : Int)) - (rd want (q_ : Int))) - 1)) hq) (cv (v := .int .i64 (((rd xs_ (q_ : Int)) - (rd want (q_ : Int))) - 1)) hq) (wrap_i64 (sq_small (by omega) (by omega))))) ?_
              refine o_if (v := .int .i64 ((rd xs_ (q_ : Int)) - (rd want (q_ : Int)))) 166 160 true ((!(((decide ((rd xs_ (q_ : Int)) < ((rd xs_ ((q_ : Int) - 1)) + (rd wide ((q_ : Int) - 1))))) || (decide ((40 - (rd wide (q_ : Int))) < (rd xs_ (q_ : Int))))) || ((decide ((rd xs_ (q_ : Int)) < (40 - (rd wide (q_ : Int))))) && (decide (((((rd xs_ (q_ : Int)) - (rd want (q_ : Int))) + 1) * (((rd xs_ (q_ : Int)) - (rd want (q_ : Int))) + 1)) < (((rd xs_ (q_ : Int)) - (rd want (q_ : Int))) * ((rd xs_ (q_ : Int)) - (rd want (q_ : Int))))))))) && (decide (((rd xs_ ((q_ : Int) - 1)) + (rd wide ((q_ : Int) - 1))) < (rd xs_ (q_ : Int))))) (says_ift _ _) (fun hq => by
                  have hq' := hq
                  try simp only [Bool.and_eq_true, Bool.or_eq_true, Bool.not_eq_true', Bool.not_eq_false', decide_eq_true_eq, decide_eq_false_iff_not] at hq'
                  exact Yl.at (yl_move rfl)) ?_
              refine o_if (v := .int .i64 ((rd xs_ (q_ : Int)) - (rd want (q_ : Int)))) 167 160 true ((!(((decide ((rd xs_ (q_ : Int)) < ((rd xs_ ((q_ : Int) - 1)) + (rd wide ((q_ : Int) - 1))))) || (decide ((40 - (rd wide (q_ : Int))) < (rd xs_ (q_ : Int))))) || ((decide ((rd xs_ (q_ : Int)) < (40 - (rd wide (q_ : Int))))) && (decide (((((rd xs_ (q_ : Int)) - (rd want (q_ : Int))) + 1) * (((rd xs_ (q_ : Int)) - (rd want (q_ : Int))) + 1)) < (((rd xs_ (q_ : Int)) - (rd want (q_ : Int))) * ((rd xs_ (q_ : Int)) - (rd want (q_ : Int))))))))) && (decide (((rd xs_ ((q_ : Int) - 1)) + (rd wide ((q_ : Int) - 1))) < (rd xs_ (q_ : Int))))) (says_ift _ _) (fun hq => by
                  have hq' := hq
                  try simp only [Bool.and_eq_true, Bool.or_eq_true, Bool.not_eq_true', Bool.not_eq_false', decide_eq_true_eq, decide_eq_false_iff_not] at hq'
                  exact Yl.at (yl_move rfl)) ?_
              refine o_if (v := .int .i64 (((rd xs_ (q_ : Int)) - (rd want (q_ : Int))) * ((rd xs_ (q_ : Int)) - (rd want (q_ : Int))))) 168 160 true ((!(((decide ((rd xs_ (q_ : Int)) < ((rd xs_ ((q_ : Int) - 1)) + (rd wide ((q_ : Int) - 1))))) || (decide ((40 - (rd wide (q_ : Int))) < (rd xs_ (q_ : Int))))) || ((decide ((rd xs_ (q_ : Int)) < (40 - (rd wide (q_ : Int))))) && (decide (((((rd xs_ (q_ : Int)) - (rd want (q_ : Int))) + 1) * (((rd xs_ (q_ : Int)) - (rd want (q_ : Int))) + 1)) < (((rd xs_ (q_ : Int)) - (rd want (q_ : Int))) * ((rd xs_ (q_ : Int)) - (rd want (q_ : Int))))))))) && (decide (((rd xs_ ((q_ : Int) - 1)) + (rd wide ((q_ : Int) - 1))) < (rd xs_ (q_ : Int))))) (says_ift _ _) (fun hq => by
                  have hq' := hq
                  try simp only [Bool.and_eq_true, Bool.or_eq_true, Bool.not_eq_true', Bool.not_eq_false', decide_eq_true_eq, decide_eq_false_iff_not] at hq'
                  exact Yl.at (yl_mul (a := (rd xs_ (q_ : Int)) - (rd want (q_ : Int))) (b := (rd xs_ (q_ : Int)) - (rd want (q_ : Int))) (cv (v := .int .i64 ((rd xs_ (q_ : Int)) - (rd want (q_ : Int)))) hq) (cv (v := .int .i64 ((rd xs_ (q_ : Int)) - (rd want (q_ : Int)))) hq) (wrap_i64 (sq_small (by omega) (by omega))))) ?_
              refine o_if (v := .bool (decide (((((rd xs_ (q_ : Int)) - (rd want (q_ : Int))) - 1) * (((rd xs_ (q_ : Int)) - (rd want (q_ : Int))) - 1)) ≤ (((rd xs_ (q_ : Int)) - (rd want (q_ : Int))) * ((rd xs_ (q_ : Int)) - (rd want (q_ : Int))))))) 169 160 true ((!(((decide ((rd xs_ (q_ : Int)) < ((rd xs_ ((q_ : Int) - 1)) + (rd wide ((q_ : Int) - 1))))) || (decide ((40 - (rd wide (q_ : Int))) < (rd xs_ (q_ : Int))))) || ((decide ((rd xs_ (q_ : Int)) < (40 - (rd wide (q_ : Int))))) && (decide (((((rd xs_ (q_ : Int)) - (rd want (q_ : Int))) + 1) * (((rd xs_ (q_ : Int)) - (rd want (q_ : Int))) + 1)) < (((rd xs_ (q_ : Int)) - (rd want (q_ : Int))) * ((rd xs_ (q_ : Int)) - (rd want (q_ : Int))))))))) && (decide (((rd xs_ ((q_ : Int) - 1)) + (rd wide ((q_ : Int) - 1))) < (rd xs_ (q_ : Int))))) (says_ift _ _) (fun hq => by
                  have hq' := hq
                  try simp only [Bool.and_eq_true, Bool.or_eq_true, Bool.not_eq_true', Bool.not_eq_false', decide_eq_true_eq, decide_eq_false_iff_not] at hq'
                  exact Yl.at (yl_leq (cv (v := .int .i64 ((((rd xs_ (q_ : Int)) - (rd want (q_ : Int))) - 1) * (((rd xs_ (q_ : Int)) - (rd want (q_ : Int))) - 1))) hq) (cv (v := .int .i64 (((rd xs_ (q_ : Int)) - (rd want (q_ : Int))) * ((rd xs_ (q_ : Int)) - (rd want (q_ : Int))))) hq))) ?_
              refine o_if (v := .bool ((decide (((rd xs_ ((q_ : Int) - 1)) + (rd wide ((q_ : Int) - 1))) < (rd xs_ (q_ : Int)))) && (decide (((((rd xs_ (q_ : Int)) - (rd want (q_ : Int))) - 1) * (((rd xs_ (q_ : Int)) - (rd want (q_ : Int))) - 1)) ≤ (((rd xs_ (q_ : Int)) - (rd want (q_ : Int))) * ((rd xs_ (q_ : Int)) - (rd want (q_ : Int)))))))) 170 153 false (!(((decide ((rd xs_ (q_ : Int)) < ((rd xs_ ((q_ : Int) - 1)) + (rd wide ((q_ : Int) - 1))))) || (decide ((40 - (rd wide (q_ : Int))) < (rd xs_ (q_ : Int))))) || ((decide ((rd xs_ (q_ : Int)) < (40 - (rd wide (q_ : Int))))) && (decide (((((rd xs_ (q_ : Int)) - (rd want (q_ : Int))) + 1) * (((rd xs_ (q_ : Int)) - (rd want (q_ : Int))) + 1)) < (((rd xs_ (q_ : Int)) - (rd want (q_ : Int))) * ((rd xs_ (q_ : Int)) - (rd want (q_ : Int))))))))) (says_f _) (fun hq => by
                  have hq' := hq
                  try simp only [Bool.and_eq_true, Bool.or_eq_true, Bool.not_eq_true', Bool.not_eq_false', decide_eq_true_eq, decide_eq_false_iff_not] at hq'
                  exact Yl.at (yl_and (cv (v := .bool (decide (((rd xs_ ((q_ : Int) - 1)) + (rd wide ((q_ : Int) - 1))) < (rd xs_ (q_ : Int))))) hq) (fun hc => (cv (v := .bool (decide (((((rd xs_ (q_ : Int)) - (rd want (q_ : Int))) - 1) * (((rd xs_ (q_ : Int)) - (rd want (q_ : Int))) - 1)) ≤ (((rd xs_ (q_ : Int)) - (rd want (q_ : Int))) * ((rd xs_ (q_ : Int)) - (rd want (q_ : Int))))))) (and_i hq hc))) rfl)) ?_
              refine o_pure (v := .bool ((((decide ((rd xs_ (q_ : Int)) < ((rd xs_ ((q_ : Int) - 1)) + (rd wide ((q_ : Int) - 1))))) || (decide ((40 - (rd wide (q_ : Int))) < (rd xs_ (q_ : Int))))) || ((decide ((rd xs_ (q_ : Int)) < (40 - (rd wide (q_ : Int))))) && (decide (((((rd xs_ (q_ : Int)) - (rd want (q_ : Int))) + 1) * (((rd xs_ (q_ : Int)) - (rd want (q_ : Int))) + 1)) < (((rd xs_ (q_ : Int)) - (rd want (q_ : Int))) * ((rd xs_ (q_ : Int)) - (rd want (q_ : Int)))))))) || ((decide (((rd xs_ ((q_ : Int) - 1)) + (rd wide ((q_ : Int) - 1))) < (rd xs_ (q_ : Int)))) && (decide (((((rd xs_ (q_ : Int)) - (rd want (q_ : Int))) - 1) * (((rd xs_ (q_ : Int)) - (rd want (q_ : Int))) - 1)) ≤ (((rd xs_ (q_ : Int)) - (rd want (q_ : Int))) * ((rd xs_ (q_ : Int)) - (rd want (q_ : Int))))))))) 171 (yl_or rfl rfl (fun hc => (cv (v := .bool ((decide (((rd xs_ ((q_ : Int) - 1)) + (rd wide ((q_ : Int) - 1))) < (rd xs_ (q_ : Int)))) && (decide (((((rd xs_ (q_ : Int)) - (rd want (q_ : Int))) - 1) * (((rd xs_ (q_ : Int)) - (rd want (q_ : Int))) - 1)) ≤ (((rd xs_ (q_ : Int)) - (rd want (q_ : Int))) * ((rd xs_ (q_ : Int)) - (rd want (q_ : Int)))))))) (t_not hc)))) ?_
              refine x_done ?_
              refine x_cond (t := (((decide ((rd xs_ (q_ : Int)) < ((rd xs_ ((q_ : Int) - 1)) + (rd wide ((q_ : Int) - 1))))) || (decide ((40 - (rd wide (q_ : Int))) < (rd xs_ (q_ : Int))))) || ((decide ((rd xs_ (q_ : Int)) < (40 - (rd wide (q_ : Int))))) && (decide (((((rd xs_ (q_ : Int)) - (rd want (q_ : Int))) + 1) * (((rd xs_ (q_ : Int)) - (rd want (q_ : Int))) + 1)) < (((rd xs_ (q_ : Int)) - (rd want (q_ : Int))) * ((rd xs_ (q_ : Int)) - (rd want (q_ : Int)))))))) || ((decide (((rd xs_ ((q_ : Int) - 1)) + (rd wide ((q_ : Int) - 1))) < (rd xs_ (q_ : Int)))) && (decide (((((rd xs_ (q_ : Int)) - (rd want (q_ : Int))) - 1) * (((rd xs_ (q_ : Int)) - (rd want (q_ : Int))) - 1)) ≤ (((rd xs_ (q_ : Int)) - (rd want (q_ : Int))) * ((rd xs_ (q_ : Int)) - (rd want (q_ : Int)))))))) rfl (fun hbig => ?_) (fun hbig => ?_)
              · skip
                simp only [Bool.and_eq_true, Bool.or_eq_true, Bool.and_eq_false_iff, Bool.or_eq_false_iff, Bool.not_eq_true', Bool.not_eq_false', decide_eq_true_eq, decide_eq_false_iff_not] at hbig
                exfalso
                rcases hbig with (((h | h) | ⟨h, h'⟩) | ⟨h, h'⟩)
                · omega
                · omega
                · exact g3 ⟨h, h'⟩
                · exact g4 ⟨h, h'⟩
              · skip
                simp only [Bool.and_eq_true, Bool.or_eq_true, Bool.and_eq_false_iff, Bool.or_eq_false_iff, Bool.not_eq_true', Bool.not_eq_false', decide_eq_true_eq, decide_eq_false_iff_not] at hbig
                refine x_skip ?_
                refine x_blk ?_
                refine x_region ?_
                refine o_pure (v := .int .i64 ((q_ : Int) + 1)) 172 (yl_add (a := (q_ : Int)) (b := 1) e74 rfl (wrap_i64 (by omega))) ?_
                refine o_pure (v := .int .i64 ((q_ : Int) + 1)) 74 (yl_move rfl) ?_
                refine x_done ?_
                refine x_inv ⟨want.length - (q_ + 1), by omega, q_ + 1, Eq.trans (b := Value.int .i64 ((q_ : Int) + 1)) rfl (congrArg (Value.int .i64) (by omega)), e4, e5, e7, e8, e73, by omega, by omega, hS⟩
          · skip
            have hz0 : q_ = 0 := by omega
            rw [if_pos hz0] at g1 g4
            refine x_skip ?_
            refine x_seq ?_
            refine x_seq ?_
            refine x_region ?_
            refine o_pure (v := .int .i64 (q_ : Int)) 96 (yl_move rfl) ?_
            refine o_pure (v := .int .i64 ((q_ : Int) + 1)) 97 (yl_add (a := (q_ : Int)) (b := 1) rfl rfl (wrap_i64 (by omega))) ?_
            refine o_pure (v := .slice A_ want.length c_) 98 (yl_move e8) ?_
            refine o_pure (v := .int .i64 (want.length : Int)) 99 (yl_len_slice us_22 rfl) ?_
            refine o_pure (v := .bool (decide (((q_ : Int) + 1) < (want.length : Int)))) 100 (yl_lss rfl rfl) ?_
            refine x_done ?_
            refine x_cond_p (((q_ : Int) + 1) < (want.length : Int)) rfl (fun hj0 => ?_) (fun hj0 => ?_)
            · skip
              rw [if_pos (by omega)] at g2 g3
              have hx1 := g2
              refine x_quiet (fun w' => St w0 w' (ro ρr :: strm b1 A c L (1 + 2 * (i : Int) + 1) :: l)) mixed (by kernel_rfl) (hS.drawn _) ?_
              refine q_pure (v := .slice A_ want.length c_) 101 (yl_move e8) ?_
              refine q_pure (v := .int .i64 (q_ : Int)) 102 (yl_move rfl) ?_
              refine q_pure (v := .int .i64 ((q_ : Int) + 1)) 103 (yl_add (a := (q_ : Int)) (b := 1) rfl rfl (wrap_i64 (by omega))) ?_
              refine q_pure (v := .pointer (some ((adr A_).add (((q_ : Int) + 1).toNat * 1)))) 104 (yl_index_r sl_22 rfl rfl (hr.some (i := (q_ : Int) + 1) (by omega) (by omega)) (by omega) (by omega)) ?_
              refine q_at (v := .int .i64 (rd xs_ ((q_ : Int) + 1))) 105 (fun w' hS => at_load one_3 rfl (hr.cell hS (by omega) (by omega))) ?_
              refine q_pure (v := .slice A15 wide.length c16) 106 (yl_move e5) ?_
              refine q_pure (v := .int .i64 (q_ : Int)) 107 (yl_move rfl) ?_
              refine q_pure (v := .pointer (some ((adr A15).add ((q_ : Int).toNat * 1)))) 108 (yl_index_r sl_22 rfl rfl (hWb.some (i := (q_ : Int)) (by omega) (by omega)) (by omega) (by omega)) ?_
              refine q_at (v := .int .i64 (rd wide (q_ : Int))) 109 (fun w' hS => at_load one_3 rfl (hWb.cell hS (by omega) (by omega))) ?_
              refine q_pure (v := .int .i64 ((rd xs_ ((q_ : Int) + 1)) - (rd wide (q_ : Int)))) 110 (yl_sub (a := rd xs_ ((q_ : Int) + 1)) (b := rd wide (q_ : Int)) rfl rfl (wrap_i64 (by omega))) ?_
              refine q_pure (v := .int .i64 ((rd xs_ ((q_ : Int) + 1)) - (rd wide (q_ : Int)))) 12 (yl_assign rfl) ?_
              refine q_done fun w' hS => ?_
              refine x_seq ?_
              refine x_quiet (fun w' => St w0 w' (ro ρr :: strm b1 A c L (1 + 2 * (i : Int) + 1) :: l)) mixed (by kernel_rfl) (hS.drawn _) ?_
              refine q_pure (v := .slice A_ want.length c_) 111 (yl_move e8) ?_
              refine q_pure (v := .int .i64 (q_ : Int)) 112 (yl_move rfl) ?_
              refine q_pure (v := .pointer (some ((adr A_).add ((q_ : Int).toNat * 1)))) 113 (yl_index_r sl_22 rfl rfl (hr.some (i := (q_ : Int)) (by omega) (by omega)) (by omega) (by omega)) ?_
              refine q_at (v := .int .i64 (rd xs_ (q_ : Int))) 114 (fun w' hS => at_load one_3 rfl (hr.cell hS (by omega) (by omega))) ?_
              refine q_pure (v := .slice A12 want.length c13) 115 (yl_move e4) ?_
              refine q_pure (v := .int .i64 (q_ : Int)) 116 (yl_move rfl) ?_
              refine q_pure (v := .pointer (some ((adr A12).add ((q_ : Int).toNat * 1)))) 117 (yl_index_r sl_22 rfl rfl (hWa.some (i := (q_ : Int)) (by omega) (by omega)) (by omega) (by omega)) ?_
              refine q_at (v := .int .i64 (rd want (q_ : Int))) 118 (fun w' hS => at_load one_3 rfl (hWa.cell hS (by omega) (by omega))) ?_
              refine q_pure (v := .int .i64 ((rd xs_ (q_ : Int)) - (rd want (q_ : Int)))) 119 (yl_sub (a := rd xs_ (q_ : Int)) (b := rd want (q_ : Int)) rfl rfl (wrap_i64 (by omega))) ?_
              refine q_pure (v := .int .i64 ((rd xs_ (q_ : Int)) - (rd want (q_ : Int)))) 13 (yl_assign rfl) ?_
              refine q_done fun w' hS => ?_
              refine x_seq ?_
              refine x_region ?_
              refine o_pure (v := .slice A_ want.length c_) 120 (yl_move e8) ?_
              refine o_pure (v := .int .i64 (q_ : Int)) 121 (yl_move rfl) ?_
              refine o_pure (v := .pointer (some ((adr A_).add ((q_ : Int).toNat * 1)))) 122 (yl_index_r sl_22 rfl rfl (hr.some (i := (q_ : Int)) (by omega) (by omega)) (by omega) (by omega)) ?_
              refine o_at (v := .int .i64 (rd xs_ (q_ : Int))) 123 (at_load one_3 rfl (hr.cell hS (by omega) (by omega))) ?_
              refine o_pure (v := .int .i64 r17) 124 (yl_move rfl) ?_
              refine o_pure (v := .bool (decide ((rd xs_ (q_ : Int)) < r17))) 125 (yl_lss rfl rfl) ?_
              refine o_pure (v := .bool (decide ((rd xs_ (q_ : Int)) < r17))) 126 (yl_move rfl) ?_
              refine o_if (v := .slice A_ want.length c_) 127 126 false (!(decide ((rd xs_ (q_ : Int)) < r17))) (says_f _) (fun hq => by
                  have hq' := hq
                  try simp only [Bool.and_eq_true, Bool.or_eq_true, Bool.not_eq_true', Bool.not_eq_false', decide_eq_true_eq, decide_eq_false_iff_not] at hq'
                  exact Yl.at (yl_move e8)) ?_
              refine o_if (v := .int .i64 (q_ : Int)) 128 126 false (!(decide ((rd xs_ (q_ : Int)) < r17))) (says_f _) (fun hq => by
                  have hq' := hq
                  try simp only [Bool.and_eq_true, Bool.or_eq_true, Bool.not_eq_true', Bool.not_eq_false', decide_eq_true_eq, decide_eq_false_iff_not] at hq'
                  exact Yl.at (yl_move rfl)) ?_
              refine o_if (v := .pointer (some ((adr A_).add ((q_ : Int).toNat * 1)))) 129 126 false (!(decide ((rd xs_ (q_ : Int)) < r17))) (says_f _) (fun hq => by
                  have hq' := hq
                  try simp only [Bool.and_eq_true, Bool.or_eq_true, Bool.not_eq_true', Bool.not_eq_false', decide_eq_true_eq, decide_eq_false_iff_not] at hq'
                  exact Yl.at (yl_index_r sl_22 (cv (v := .slice A_ want.length c_) hq) (cv (v := .int .i64 (q_ : Int)) hq) (hr.some (i := (q_ : Int)) (by omega) (by omega)) (by omega) (by omega))) ?_
              refine o_if (v := .int .i64 (rd xs_ (q_ : Int))) 130 126 false (!(decide ((rd xs_ (q_ : Int)) < r17))) (says_f _) (fun hq => by
                  have hq' := hq
                  try simp only [Bool.and_eq_true, Bool.or_eq_true, Bool.not_eq_true', Bool.not_eq_false', decide_eq_true_eq, decide_eq_false_iff_not] at hq'
                  exact at_load one_3 (cv (v := .pointer (some ((adr A_).add ((q_ : Int).toNat * 1)))) hq) (hr.cell hS (by omega) (by omega))) ?_
              refine o_if (v := .int .i64 ((rd xs_ ((q_ : Int) + 1)) - (rd wide (q_ : Int)))) 131 126 false (!(decide ((rd xs_ (q_ : Int)) < r17))) (says_f _) (fun hq => by
                  have hq' := hq
                  try simp only [Bool.and_eq_true, Bool.or_eq_true, Bool.not_eq_true', Bool.not_eq_false', decide_eq_true_eq, decide_eq_false_iff_not] at hq'
                  exact Yl.at (yl_move rfl)) ?_
              refine o_if (v := .bool (decide (((rd xs_ ((q_ : Int) + 1)) - (rd wide (q_ : Int))) < (rd xs_ (q_ : Int))))) 132 126 false (!(decide ((rd xs_ (q_ : Int)) < r17))) (says_f _) (fun hq => by
                  have hq' := hq
                  try simp only [Bool.and_eq_true, Bool.or_eq_true, Bool.not_eq_true', Bool.not_eq_false', decide_eq_true_eq, decide_eq_false_iff_not] at hq'
                  exact Yl.at (yl_gtr (cv (v := .int .i64 (rd xs_ (q_ : Int))) hq) (cv (v := .int .i64 ((rd xs_ ((q_ : Int) + 1)) - (rd wide (q_ : Int)))) hq))) ?_
              refine o_pure (v := .bool ((decide ((rd xs_ (q_ : Int)) < r17)) || (decide (((rd xs_ ((q_ : Int) + 1)) - (rd wide (q_ : Int))) < (rd xs_ (q_ : Int)))))) 133 (yl_or rfl rfl (fun hc => (cv (v := .bool (decide (((rd xs_ ((q_ : Int) + 1)) - (rd wide (q_ : Int))) < (rd xs_ (q_ : Int))))) (t_not hc)))) ?_
              refine o_pure (v := .bool ((decide ((rd xs_ (q_ : Int)) < r17)) || (decide (((rd xs_ ((q_ : Int) + 1)) - (rd wide (q_ : Int))) < (rd xs_ (q_ : Int)))))) 134 (yl_move rfl) ?_
              refine o_if (v := .slice A_ want.length c_) 135 134 false (!((decide ((rd xs_ (q_ : Int)) < r17)) || (decide (((rd xs_ ((q_ : Int) + 1)) - (rd wide (q_ : Int))) < (rd xs_ (q_ : Int)))))) (says_f _) (fun hq => by
                  have hq' := hq
                  try simp only [Bool.and_eq_true, Bool.or_eq_true, Bool.not_eq_true', Bool.not_eq_false', decide_eq_true_eq, decide_eq_false_iff_not] at hq'
                  exact Yl.at (yl_move e8)) ?_
              refine o_if (v := .int .i64 (q_ : Int)) 136 134 false (!((decide ((rd xs_ (q_ : Int)) < r17)) || (decide (((rd xs_ ((q_ : Int) + 1)) - (rd wide (q_ : Int))) < (rd xs_ (q_ : Int)))))) (says_f _) (fun hq => by
                  have hq' := hq
                  try simp only [Bool.and_eq_true, Bool.or_eq_true, Bool.not_eq_true', Bool.not_eq_false', decide_eq_true_eq, decide_eq_false_iff_not] at hq'
                  exact Yl.at (yl_move rfl)) ?_
              refine o_if (v := .pointer (some ((adr A_).add ((q_ : Int).toNat * 1)))) 137 134 false (!((decide ((rd xs_ (q_ : Int)) < r17)) || (decide (((rd xs_ ((q_ : Int) + 1)) - (rd wide (q_ : Int))) < (rd xs_ (q_ : Int)))))) (says_f _) (fun hq => by
                  have hq' := hq
                  try simp only [Bool.and_eq_true, Bool.or_eq_true, Bool.not_eq_true', Bool.not_eq_false', decide_eq_true_eq, decide_eq_false_iff_not] at hq'
                  exact Yl.at (yl_index_r sl_22 (cv (v := .slice A_ want.length c_) hq) (cv (v := .int .i64 (q_ : Int)) hq) (hr.some (i := (q_ : Int)) (by omega) (by omega)) (by omega) (by omega))) ?_
              refine o_if (v := .int .i64 (rd xs_ (q_ : Int))) 138 134 false (!((decide ((rd xs_ (q_ : Int)) < r17)) || (decide (((rd xs_ ((q_ : Int) + 1)) - (rd wide (q_ : Int))) < (rd xs_ (q_ : Int)))))) (says_f _) (fun hq => by
                  have hq' := hq
                  try simp only [Bool.and_eq_true, Bool.or_eq_true, Bool.not_eq_true', Bool.not_eq_false', decide_eq_true_eq, decide_eq_false_iff_not] at hq'
                  exact at_load one_3 (cv (v := .pointer (some ((adr A_).add ((q_ : Int).toNat * 1)))) hq) (hr.cell hS (by omega) (by omega))) ?_
              refine o_if (v := .int .i64 ((rd xs_ ((q_ : Int) + 1)) - (rd wide (q_ : Int)))) 139 134 false (!((decide ((rd xs_ (q_ : Int)) < r17)) || (decide (((rd xs_ ((q_ : Int) + 1)) - (rd wide (q_ : Int))) < (rd xs_ (q_ : Int)))))) (says_f _) (fun hq => by
                  have hq' := hq
                  try simp only [Bool.and_eq_true, Bool.or_eq_true, Bool.not_eq_true', Bool.not_eq_false', decide_eq_true_eq, decide_eq_false_iff_not] at hq'
                  exact Yl.at (yl_move rfl)) ?_
              refine o_if (v := .bool (decide ((rd xs_ (q_ : Int)) < ((rd xs_ ((q_ : Int) + 1)) - (rd wide (q_ : Int)))))) 140 134 false (!((decide ((rd xs_ (q_ : Int)) < r17)) || (decide (((rd xs_ ((q_ : Int) + 1)) - (rd wide (q_ : Int))) < (rd xs_ (q_ : Int)))))) (says_f _) (fun hq => by
                  have hq' := hq
                  try simp only [Bool.and_eq_true, Bool.or_eq_true, Bool.not_eq_true', Bool.not_eq_false', decide_eq_true_eq, decide_eq_false_iff_not] at hq'
                  exact Yl.at (yl_lss (cv (v := .int .i64 (rd xs_ (q_ : Int))) hq) (cv (v := .int .i64 ((rd xs_ ((q_ : Int) + 1)) - (rd wide (q_ : Int)))) hq))) ?_
              refine o_if (v := .bool (decide ((rd xs_ (q_ : Int)) < ((rd xs_ ((q_ : Int) + 1)) - (rd wide (q_ : Int)))))) 141 134 false (!((decide ((rd xs_ (q_ : Int)) < r17)) || (decide (((rd xs_ ((q_ : Int) + 1)) - (rd wide (q_ : Int))) < (rd xs_ (q_ : Int)))))) (says_f _) (fun hq => by
                  have hq' := hq
                  try simp only [Bool.and_eq_true, Bool.or_eq_true, Bool.not_eq_true', Bool.not_eq_false', decide_eq_true_eq, decide_eq_false_iff_not] at hq'
                  exact Yl.at (yl_move (cv (v := .bool (decide ((rd xs_ (q_ : Int)) < ((rd xs_ ((q_ : Int) + 1)) - (rd wide (q_ : Int)))))) hq))) ?_
              refine o_if (v := .int .i64 ((rd xs_ (q_ : Int)) - (rd want (q_ : Int)))) 142 141 true ((!((decide ((rd xs_ (q_ : Int)) < r17)) || (decide (((rd xs_ ((q_ : Int) + 1)) - (rd wide (q_ : Int))) < (rd xs_ (q_ : Int)))))) && (decide ((rd xs_ (q_ : Int)) < ((rd xs_ ((q_ : Int) + 1)) - (rd wide (q_ : Int)))))) (says_ift _ _) (fun hq => by
                  have hq' := hq
                  try simp only [Bool.and_eq_true, Bool.or_eq_true, Bool.not_eq_true', Bool.not_eq_false', decide_eq_true_eq, decide_eq_false_iff_not] at hq'
                  exact Yl.at (yl_move rfl)) ?_
              refine o_if (v := .int .i64 (((rd xs_ (q_ : Int)) - (rd want (q_ : Int))) + 1)) 143 141 true ((!((decide ((rd xs_ (q_ : Int)) < r17)) || (decide (((rd xs_ ((q_ : Int) + 1)) - (rd wide (q_ : Int))) < (rd xs_ (q_ : Int)))))) && (decide ((rd xs_ (q_ : Int)) < ((rd xs_ ((q_ : Int) + 1)) - (rd wide (q_ : Int)))))) (says_ift _ _) (fun hq => by
                  have hq' := hq
                  try simp only [Bool.and_eq_true, Bool.or_eq_true, Bool.not_eq_true', Bool.not_eq_false', decide_eq_true_eq, decide_eq_false_iff_not] at hq'
                  exact Yl.at (yl_add (a := (rd xs_ (q_ : Int)) - (rd want (q_ : Int))) (b := 1) (cv (v := .int .i64 ((rd xs_ (q_ : Int)) - (rd want (q_ : Int)))) hq) rfl (wrap_i64 (by omega)))) ?_
              refine o_if (v := .int .i64 ((rd xs_ (q_ : Int)) - (rd want (q_ : Int)))) 144 141 true ((!((decide ((rd xs_ (q_ : Int)) < r17)) || (decide (((rd xs_ ((q_ : Int) + 1)) - (rd wide (q_ : Int))) < (rd xs_ (q_ : Int)))))) && (decide ((rd xs_ (q_ : Int)) < ((rd xs_ ((q_ : Int) + 1)) - (rd wide (q_ : Int)))))) (says_ift _ _) (fun hq => by
                  have hq' := hq
                  try simp only [Bool.and_eq_true, Bool.or_eq_true, Bool.not_eq_true', Bool.not_eq_false', decide_eq_true_eq, decide_eq_false_iff_not] at hq'
                  exact Yl.at (yl_move rfl)) ?_
              refine o_if (v := .int .i64 (((rd xs_ (q_ : Int)) - (rd want (q_ : Int))) + 1)) 145 141 true ((!((decide ((rd xs_ (q_ : Int)) < r17)) || (decide (((rd xs_ ((q_ : Int) + 1)) - (rd wide (q_ : Int))) < (rd xs_ (q_ : Int)))))) && (decide ((rd xs_ (q_ : Int)) < ((rd xs_ ((q_ : Int) + 1)) - (rd wide (q_ : Int)))))) (says_ift _ _) (fun hq => by
                  have hq' := hq
                  try simp only [Bool.and_eq_true, Bool.or_eq_true, Bool.not_eq_true', Bool.not_eq_false', decide_eq_true_eq, decide_eq_false_iff_not] at hq'
                  exact Yl.at (yl_add (a := (rd xs_ (q_ : Int)) - (rd want (q_ : Int))) (b := 1) (cv (v := .int .i64 ((rd xs_ (q_ : Int)) - (rd want (q_ : Int)))) hq) rfl (wrap_i64 (by omega)))) ?_
              refine o_if (v := .int .i64 ((((rd xs_ (q_ : Int)) - (rd want (q_ : Int))) + 1) * (((rd xs_ (q_ : Int)) - (rd want (q_ : Int))) + 1))) 146 141 true ((!((decide ((rd xs_ (q_ : Int)) < r17)) || (decide (((rd xs_ ((q_ : Int) + 1)) - (rd wide (q_ : Int))) < (rd xs_ (q_ : Int)))))) && (decide ((rd xs_ (q_ : Int)) < ((rd xs_ ((q_ : Int) + 1)) - (rd wide (q_ : Int)))))) (says_ift _ _) (fun hq => by
                  have hq' := hq
                  try simp only [Bool.and_eq_true, Bool.or_eq_true, Bool.not_eq_true', Bool.not_eq_false', decide_eq_true_eq, decide_eq_false_iff_not] at hq'
                  exact Yl.at (yl_mul (a := ((rd xs_ (q_ : Int)) - (rd want (q_ : Int))) + 1) (b := ((rd xs_ (q_ : Int)) - (rd want (q_ : Int))) + 1) (cv (v := .int .i64 (((rd xs_ (q_ : Int)) - (rd want (q_ : Int))) + 1)) hq) (cv (v := .int .i64 (((rd xs_ (q_ : Int)) - (rd want (q_ : Int))) + 1)) hq) (wrap_i64 (sq_small (by omega) (by omega))))) ?_
              refine o_if (v := .int .i64 ((rd xs_ (q_ : Int)) - (rd want (q_ : Int)))) 147 141 true ((!((decide ((rd xs_ (q_ : Int)) < r17)) || (decide (((rd xs_ ((q_ : Int) + 1)) - (rd wide (q_ : Int))) < (rd xs_ (q_ : Int)))))) && (decide ((rd xs_ (q_ : Int)) < ((rd xs_ ((q_ : Int) + 1)) - (rd wide (q_ : Int)))))) (says_ift _ _) (fun hq => by
                  have hq' := hq
                  try simp only [Bool.and_eq_true, Bool.or_eq_true, Bool.not_eq_true', Bool.not_eq_false', decide_eq_true_eq, decide_eq_false_iff_not] at hq'
                  exact Yl.at (yl_move rfl)) ?_
              refine o_if (v := .int .i64 ((rd xs_ (q_ : Int)) - (rd want (q_ : Int)))) 148 141 true ((!((decide ((rd xs_ (q_ : Int)) < r17)) || (decide (((rd xs_ ((q_ : Int) + 1)) - (rd wide (q_ : Int))) < (rd xs_ (q_ : Int)))))) && (decide ((rd xs_ (q_ : Int)) < ((rd xs_ ((q_ : Int) + 1)) - (rd wide (q_ : Int)))))) (says_ift _ _) (fun hq => by
                  have hq' := hq
                  try simp only [Bool.and_eq_true, Bool.or_eq_true, Bool.not_eq_true', Bool.not_eq_false', decide_eq_true_eq, decide_eq_false_iff_not] at hq'
                  exact Yl.at (yl_move rfl)) ?_
              refine o_if (v := .int .i64 (((rd xs_ (q_ : Int)) - (rd want (q_ : Int))) * ((rd xs_ (q_ : Int)) - (rd want (q_ : Int))))) 149 141 true ((!((decide ((rd xs_ (q_ : Int)) < r17)) || (decide (((rd xs_ ((q_ : Int) + 1)) - (rd wide (q_ : Int))) < (rd xs_ (q_ : Int)))))) && (decide ((rd xs_ (q_ : Int)) < ((rd xs_ ((q_ : Int) + 1)) - (rd wide (q_ : Int)))))) (says_ift _ _) (fun hq => by
                  have hq' := hq
                  try simp only [Bool.and_eq_true, Bool.or_eq_true, Bool.not_eq_true', Bool.not_eq_false', decide_eq_true_eq, decide_eq_false_iff_not] at hq'
                  exact Yl.at (yl_mul (a := (rd xs_ (q_ : Int)) - (rd want (q_ : Int))) (b := (rd xs_ (q_ : Int)) - (rd want (q_ : Int))) (cv (v := .int .i64 ((rd xs_ (q_ : Int)) - (rd want (q_ : Int)))) hq) (cv (v := .int .i64 ((rd xs_ (q_ : Int)) - (rd want (q_ : Int)))) hq) (wrap_i64 (sq_small (by omega) (by omega))))) ?_
              refine o_if (v := .bool (decide (((((rd xs_ (q_ : Int)) - (rd want (q_ : Int))) + 1) * (((rd xs_ (q_ : Int)) - (rd want (q_ : Int))) + 1)) < (((rd xs_ (q_ : Int)) - (rd want (q_ : Int))) * ((rd xs_ (q_ : Int)) - (rd want (q_ : Int))))))) 150 141 true ((!((decide ((rd xs_ (q_ : Int)) < r17)) || (decide (((rd xs_ ((q_ : Int) + 1)) - (rd wide (q_ : Int))) < (rd xs_ (q_ : Int)))))) && (decide ((rd xs_ (q_ : Int)) < ((rd xs_ ((q_ : Int) + 1)) - (rd wide (q_ : Int)))))) (says_ift _ _) (fun hq => by
                  have hq' := hq
                  try simp only [Bool.and_eq_true, Bool.or_eq_true, Bool.not_eq_true', Bool.not_eq_false', decide_eq_true_eq, decide_eq_false_iff_not] at hq'
                  exact Yl.at (yl_lss (cv (v := .int .i64 ((((rd xs_ (q_ : Int)) - (rd want (q_ : Int))) + 1) * (((rd xs_ (q_ : Int)) - (rd want (q_ : Int))) + 1))) hq) (cv (v := .int .i64 (((rd xs_ (q_ : Int)) - (rd want (q_ : Int))) * ((rd xs_ (q_ : Int)) - (rd want (q_ : Int))))) hq))) ?_
              refine o_if (v := .bool ((decide ((rd xs_ (q_ : Int)) < ((rd xs_ ((q_ : Int) + 1)) - (rd wide (q_ : Int))))) && (decide (((((rd xs_ (q_ : Int)) - (rd want (q_ : Int))) + 1) * (((rd xs_ (q_ : Int)) - (rd want (q_ : Int))) + 1)) < (((rd xs_ (q_ : Int)) - (rd want (q_ : Int))) * ((rd xs_ (q_ : Int)) - (rd want (q_ : Int)))))))) 151 134 false (!((decide ((rd xs_ (q_ : Int)) < r17)) || (decide (((rd xs_ ((q_ : Int) + 1)) - (rd wide (q_ : Int))) < (rd xs_ (q_ : Int)))))) (says_f _) (fun hq => by
                  have hq' := hq
                  try simp only [Bool.and_eq_true, Bool.or_eq_true, Bool.not_eq_true', Bool.not_eq_false', decide_eq_true_eq, decide_eq_false_iff_not] at hq'
                  exact Yl.at (yl_and (cv (v := .bool (decide ((rd xs_ (q_ : Int)) < ((rd xs_ ((q_ : Int) + 1)) - (rd wide (q_ : Int)))))) hq) (fun hc => (cv (v := .bool (decide (((((rd xs_ (q_ : Int)) - (rd want (q_ : Int))) + 1) * (((rd xs_ (q_ : Int)) - (rd want (q_ : Int))) + 1)) < (((rd xs_ (q_ : Int)) - (rd want (q_ : Int))) * ((rd xs_ (q_ : Int)) - (rd want (q_ : Int))))))) (and_i hq hc))) rfl)) ?_
              refine o_pure (v := .bool (((decide ((rd xs_ (q_ : Int)) < r17)) || (decide (((rd xs_ ((q_ : Int) + 1)) - (rd wide (q_ : Int))) < (rd xs_ (q_ : Int))))) || ((decide ((rd xs_ (q_ : Int)) < ((rd xs_ ((q_ : Int) + 1)) - (rd wide (q_ : Int))))) && (decide (((((rd xs_ (q_ : Int)) - (rd want (q_ : Int))) + 1) * (((rd xs_ (q_ : Int)) - (rd want (q_ : Int))) + 1)) < (((rd xs_ (q_ : Int)) - (rd want (q_ : Int))) * ((rd xs_ (q_ : Int)) - (rd want (q_ : Int))))))))) 152 (yl_or rfl rfl (fun hc => (cv (v := .bool ((decide ((rd xs_ (q_ : Int)) < ((rd xs_ ((q_ : Int) + 1)) - (rd wide (q_ : Int))))) && (decide (((((rd xs_ (q_ : Int)) - (rd want (q_ : Int))) + 1) * (((rd xs_ (q_ : Int)) - (rd want (q_ : Int))) + 1)) < (((rd xs_ (q_ : Int)) - (rd want (q_ : Int))) * ((rd xs_ (q_ : Int)) - (rd want (q_ : Int)))))))) (t_not hc)))) ?_
              refine o_pure (v := .bool (((decide ((rd xs_ (q_ : Int)) < r17)) || (decide (((rd xs_ ((q_ : Int) + 1)) - (rd wide (q_ : Int))) < (rd xs_ (q_ : Int))))) || ((decide ((rd xs_ (q_ : Int)) < ((rd xs_ ((q_ : Int) + 1)) - (rd wide (q_ : Int))))) && (decide (((((rd xs_ (q_ : Int)) - (rd want (q_ : Int))) + 1) * (((rd xs_ (q_ : Int)) - (rd want (q_ : Int))) + 1)) < (((rd xs_ (q_ : Int)) - (rd want (q_ : Int))) * ((rd xs_ (q_ : Int)) - (rd want (q_ : Int))))))))) 153 (yl_move rfl) ?_
              refine o_if (v := .slice A_ want.length c_) 154 153 false (!(((decide ((rd xs_ (q_ : Int)) < r17)) || (decide (((rd xs_ ((q_ : Int) + 1)) - (rd wide (q_ : Int))) < (rd xs_ (q_ : Int))))) || ((decide ((rd xs_ (q_ : Int)) < ((rd xs_ ((q_ : Int) + 1)) - (rd wide (q_ : Int))))) && (decide (((((rd xs_ (q_ : Int)) - (rd want (q_ : Int))) + 1) * (((rd xs_ (q_ : Int)) - (rd want (q_ : Int))) + 1)) < (((rd xs_ (q_ : Int)) - (rd want (q_ : Int))) * ((rd xs_ (q_ : Int)) - (rd want (q_ : Int))))))))) (says_f _) (fun hq => by
                  have hq' := hq
                  try simp only [Bool.and_eq_true, Bool.or_eq_true, Bool.not_eq_true', Bool.not_eq_false', decide_eq_true_eq, decide_eq_false_iff_not] at hq'
                  exact Yl.at (yl_move e8)) ?_
              refine o_if (v := .int .i64 (q_ : Int)) 155 153 false (!(((decide ((rd xs_ (q_ : Int)) < r17)) || (decide (((rd xs_ ((q_ : Int) + 1)) - (rd wide (q_ : Int))) < (rd xs_ (q_ : Int))))) || ((decide ((rd xs_ (q_ : Int)) < ((rd xs_ ((q_ : Int) + 1)) - (rd wide (q_ : Int))))) && (decide (((((rd xs_ (q_ : Int)) - (rd want (q_ : Int))) + 1) * (((rd xs_ (q_ : Int)) - (rd want (q_ : Int))) + 1)) < (((rd xs_ (q_ : Int)) - (rd want (q_ : Int))) * ((rd xs_ (q_ : Int)) - (rd want (q_ : Int))))))))) (says_f _) (fun hq => by
                  have hq' := hq
                  try simp only [Bool.and_eq_true, Bool.or_eq_true, Bool.not_eq_true', Bool.not_eq_false', decide_eq_true_eq, decide_eq_false_iff_not] at hq'
                  exact Yl.at (yl_move rfl)) ?_
              refine o_if (v := .pointer (some ((adr A_).add ((q_ : Int).toNat * 1)))) 156 153 false (!(((decide ((rd xs_ (q_ : Int)) < r17)) || (decide (((rd xs_ ((q_ : Int) + 1)) - (rd wide (q_ : Int))) < (rd xs_ (q_ : Int))))) || ((decide ((rd xs_ (q_ : Int)) < ((rd xs_ ((q_ : Int) + 1)) - (rd wide (q_ : Int))))) && (decide (((((rd xs_ (q_ : Int)) - (rd want (q_ : Int))) + 1) * (((rd xs_ (q_ : Int)) - (rd want (q_ : Int))) + 1)) < (((rd xs_ (q_ : Int)) - (rd want (q_ : Int))) * ((rd xs_ (q_ : Int)) - (rd want (q_ : Int))))))))) (says_f _) (fun hq => by
                  have hq' := hq
                  try simp only [Bool.and_eq_true, Bool.or_eq_true, Bool.not_eq_true', Bool.not_eq_false', decide_eq_true_eq, decide_eq_false_iff_not] at hq'
                  exact Yl.at (yl_index_r sl_22 (cv (v := .slice A_ want.length c_) hq) (cv (v := .int .i64 (q_ : Int)) hq) (hr.some (i := (q_ : Int)) (by omega) (by omega)) (by omega) (by omega))) ?_
              refine o_if (v := .int .i64 (rd xs_ (q_ : Int))) 157 153 false (!(((decide ((rd xs_ (q_ : Int)) < r17)) || (decide (((rd xs_ ((q_ : Int) + 1)) - (rd wide (q_ : Int))) < (rd xs_ (q_ : Int))))) || ((decide ((rd xs_ (q_ : Int)) < ((rd xs_ ((q_ : Int) + 1)) - (rd wide (q_ : Int))))) && (decide (((((rd xs_ (q_ : Int)) - (rd want (q_ : Int))) + 1) * (((rd xs_ (q_ : Int)) - (rd want (q_ : Int))) + 1)) < (((rd xs_ (q_ : Int)) - (rd want (q_ : Int))) * ((rd xs_ (q_ : Int)) - (rd want (q_ : Int))))))))) (says_f _) (fun hq => by
                  have hq' := hq
                  try simp only [Bool.and_eq_true, Bool.or_eq_true, Bool.not_eq_true', Bool.not_eq_false', decide_eq_true_eq, decide_eq_false_iff_not] at hq'
                  exact at_load one_3 (cv (v := .pointer (some ((adr A_).add ((q_ : Int).toNat * 1)))) hq) (hr.cell hS (by omega) (by omega))) ?_
              refine o_if (v := .int .i64 r17) 158 153 false (!(((decide ((rd xs_ (q_ : Int)) < r17)) || (decide (((rd xs_ ((q_ : Int) + 1)) - (rd wide (q_ : Int))) < (rd xs_ (q_ : Int))))) || ((decide ((rd xs_ (q_ : Int)) < ((rd xs_ ((q_ : Int) + 1)) - (rd wide (q_ : Int))))) && (decide (((((rd xs_ (q_ : Int)) - (rd want (q_ : Int))) + 1) * (((rd xs_ (q_ : Int)) - (rd want (q_ : Int))) + 1)) < (((rd xs_ (q_ : Int)) - (rd want (q_ : Int))) * ((rd xs_ (q_ : Int)) - (rd want (q_ : Int))))))))) (says_f _) (fun hq => by
                  have hq' := hq
                  try simp only [Bool.and_eq_true, Bool.or_eq_true, Bool.not_eq_true', Bool.not_eq_false', decide_eq_true_eq, decide_eq_false_iff_not] at hq'
                  exact Yl.at (yl_move rfl)) ?_
              refine o_if (v := .bool (decide (r17 < (rd xs_ (q_ : Int))))) 159 153 false (!(((decide ((rd xs_ (q_ : Int)) < r17)) || (decide (((rd xs_ ((q_ : Int) + 1)) - (rd wide (q_ : Int))) < (rd xs_ (q_ : Int))))) || ((decide ((rd xs_ (q_ : Int)) < ((rd xs_ ((q_ : Int) + 1)) - (rd wide (q_ : Int))))) && (decide (((((rd xs_ (q_ : Int)) - (rd want (q_ : Int))) + 1) * (((rd xs_ (q_ : Int)) - (rd want (q_ : Int))) + 1)) < (((rd xs_ (q_ : Int)) - (rd want (q_ : Int))) * ((rd xs_ (q_ : Int)) - (rd want (q_ : Int))))))))) (says_f _) (fun hq => by
                  have hq' := hq
                  try simp only [Bool.and_eq_true, Bool.or_eq_true, Bool.not_eq_true', Bool.not_eq_false', decide_eq_true_eq, decide_eq_false_iff_not] at hq'
                  exact Yl.at (yl_gtr (cv (v := .int .i64 (rd xs_ (q_ : Int))) hq) (cv (v := .int .i64 r17) hq))) ?_
              refine o_if (v := .bool (decide (r17 < (rd xs_ (q_ : Int))))) 160 153 false (!(((decide ((rd xs_ (q_ : Int)) < r17)) || (decide (((rd xs_ ((q_ : Int) + 1)) - (rd wide (q_ : Int))) < (rd xs_ (q_ : Int))))) || ((decide ((rd xs_ (q_ : Int)) < ((rd xs_ ((q_ : Int) + 1)) - (rd wide (q_ : Int))))) && (decide (((((rd xs_ (q_ : Int)) - (rd want (q_ : Int))) + 1) * (((rd xs_ (q_ : Int)) - (rd want (q_ : Int))) + 1)) < (((rd xs_ (q_ : Int)) - (rd want (q_ : Int))) * ((rd xs_ (q_ : Int)) - (rd want (q_ : Int))))))))) (says_f _) (fun hq => by
                  have hq' := hq
                  try simp only [Bool.and_eq_true, Bool.or_eq_true, Bool.not_eq_true', Bool.not_eq_false', decide_eq_true_eq, decide_eq_false_iff_not] at hq'
                  exact Yl.at (yl_move (cv (v := .bool (decide (r17 < (rd xs_ (q_ : Int))))) hq))) ?_
              refine o_if (v := .int .i64 ((rd xs_ (q_ : Int)) - (rd want (q_ : Int)))) 161 160 true ((!(((decide ((rd xs_ (q_ : Int)) < r17)) || (decide (((rd xs_ ((q_ : Int) + 1)) - (rd wide (q_ : Int))) < (rd xs_ (q_ : Int))))) || ((decide ((rd xs_ (q_ : Int)) < ((rd xs_ ((q_ : Int) + 1)) - (rd wide (q_ : Int))))) && (decide (((((rd xs_ (q_ : Int)) - (rd want (q_ : Int))) + 1) * (((rd xs_ (q_ : Int)) - (rd want (q_ : Int))) + 1)) < (((rd xs_ (q_ : Int)) - (rd want (q_ : Int))) * ((rd xs_ (q_ : Int)) - (rd want (q_ : Int))))))))) && (decide (r17 < (rd xs_ (q_ : Int))))) (says_ift _ _) (fun hq => by
                  have hq' := hq
                  try simp only [Bool.and_eq_true, Bool.or_eq_true, Bool.not_eq_true', Bool.not_eq_false', decide_eq_true_eq, decide_eq_false_iff_not] at hq'
                  exact Yl.at (yl_move rfl)) ?_
              refine o_if (v := .int .i64 (((rd xs_ (q_ : Int)) - (rd want (q_ : Int))) - 1)) 162 160 true ((!(((decide ((rd xs_ (q_ : Int)) < r17)) || (decide (((rd xs_ ((q_ : Int) + 1)) - (rd wide (q_ : Int))) < (rd xs_ (q_ : Int))))) || ((decide ((rd xs_ (q_ : Int)) < ((rd xs_ ((q_ : Int) + 1)) - (rd wide (q_ : Int))))) && (decide (((((rd xs_ (q_ : Int)) - (rd want (q_ : Int))) + 1) * (((rd xs_ (q_ : Int)) - (rd want (q_ : Int))) + 1)) < (((rd xs_ (q_ : Int)) - (rd want (q_ : Int))) * ((rd xs_ (q_ : Int)) - (rd want (q_ : Int))))))))) && (decide (r17 < (rd xs_ (q_ : Int))))) (says_ift _ _) (fun hq => by
                  have hq' := hq
                  try simp only [Bool.and_eq_true, Bool.or_eq_true, Bool.not_eq_true', Bool.not_eq_false', decide_eq_true_eq, decide_eq_false_iff_not] at hq'
                  exact Yl.at (yl_sub (a := (rd xs_ (q_ : Int)) - (rd want (q_ : Int))) (b := 1) (cv (v := .int .i64 ((rd xs_ (q_ : Int)) - (rd want (q_ : Int)))) hq) rfl (wrap_i64 (by omega)))) ?_
              refine o_if (v := .int .i64 ((rd xs_ (q_ : Int)) - (rd want (q_ : Int)))) 163 160 true ((!(((decide ((rd xs_ (q_ : Int)) < r17)) || (decide (((rd xs_ ((q_ : Int) + 1)) - (rd wide (q_ : Int))) < (rd xs_ (q_ : Int))))) || ((decide ((rd xs_ (q_ : Int)) < ((rd xs_ ((q_ : Int) + 1)) - (rd wide (q_ : Int))))) && (decide (((((rd xs_ (q_ : Int)) - (rd want (q_ : Int))) + 1) * (((rd xs_ (q_ : Int)) - (rd want (q_ : Int))) + 1)) < (((rd xs_ (q_ : Int)) - (rd want (q_ : Int))) * ((rd xs_ (q_ : Int)) - (rd want (q_ : Int))))))))) && (decide (r17 < (rd xs_ (q_ : Int))))) (says_ift _ _) (fun hq => by
                  have hq' := hq
                  try simp only [Bool.and_eq_true, Bool.or_eq_true, Bool.not_eq_true', Bool.not_eq_false', decide_eq_true_eq, decide_eq_false_iff_not] at hq'
                  exact Yl.at (yl_move rfl)) ?_
              refine o_if (v := .int .i64 (((rd xs_ (q_ : Int)) - (rd want (q_ : Int))) - 1)) 164 160 true ((!(((decide ((rd xs_ (q_ : Int)) < r17)) || (decide (((rd xs_ ((q_ : Int) + 1)) - (rd wide (q_ : Int))) < (rd xs_ (q_ : Int))))) || ((decide ((rd xs_ (q_ : Int)) < ((rd xs_ ((q_ : Int) + 1)) - (rd wide (q_ : Int))))) && (decide (((((rd xs_ (q_ : Int)) - (rd want (q_ : Int))) + 1) * (((rd xs_ (q_ : Int)) - (rd want (q_ : Int))) + 1)) < (((rd xs_ (q_ : Int)) - (rd want (q_ : Int))) * ((rd xs_ (q_ : Int)) - (rd want (q_ : Int))))))))) && (decide (r17 < (rd xs_ (q_ : Int))))) (says_ift _ _) (fun hq => by
                  have hq' := hq
                  try simp only [Bool.and_eq_true, Bool.or_eq_true, Bool.not_eq_true', Bool.not_eq_false', decide_eq_true_eq, decide_eq_false_iff_not] at hq'
                  exact Yl.at (yl_sub (a := (rd xs_ (q_ : Int)) - (rd want (q_ : Int))) (b := 1) (cv (v := .int .i64 ((rd xs_ (q_ : Int)) - (rd want (q_ : Int)))) hq) rfl (wrap_i64 (by omega)))) ?_
              refine o_if (v := .int .i64 ((((rd xs_ (q_ : Int)) - (rd want (q_ : Int))) - 1) * (((rd xs_ (q_ : Int)) - (rd want (q_ : Int))) - 1))) 165 160 true ((!(((decide ((rd xs_ (q_ : Int)) < r17)) || (decide (((rd xs_ ((q_ : Int) + 1)) - (rd wide (q_ : Int))) < (rd xs_ (q_ : Int))))) || ((decide ((rd xs_ (q_ : Int)) < ((rd xs_ ((q_ : Int) + 1)) - (rd wide (q_ : Int))))) && (decide (((((rd xs_ (q_ : Int)) - (rd want (q_ : Int))) + 1) * (((rd xs_ (q_ : Int)) - (rd want (q_ : Int))) + 1)) < (((rd xs_ (q_ : Int)) - (rd want (q_ : Int))) * ((rd xs_ (q_ : Int)) - (rd want (q_ : Int))))))))) && (decide (r17 < (rd xs_ (q_ : Int))))) (says_ift _ _) (fun hq => by
                  have hq' := hq
                  try simp only [Bool.and_eq_true, Bool.or_eq_true, Bool.not_eq_true', Bool.not_eq_false', decide_eq_true_eq, decide_eq_false_iff_not] at hq'
                  exact Yl.at (yl_mul (a := ((rd xs_ (q_ : Int)) - (rd want (q_ : Int))) - 1) (b := ((rd xs_ (q_ : Int)) - (rd want (q_ : Int))) - 1) (cv (v := .int .i64 (((rd xs_ (q_ : Int)) - (rd want (q_ : Int))) - 1)) hq) (cv (v := .int .i64 (((rd xs_ (q_ : Int)) - (rd want (q_ : Int))) - 1)) hq) (wrap_i64 (sq_small (by omega) (by omega))))) ?_
              refine o_if (v := .int .i64 ((rd xs_ (q_ : Int)) - (rd want (q_ : Int)))) 166 160 true ((!(((decide ((rd xs_ (q_ : Int)) < r17)) || (decide (((rd xs_ ((q_ : Int) + 1)) - (rd wide (q_ : Int))) < (rd xs_ (q_ : Int))))) || ((decide ((rd xs_ (q_ : Int)) < ((rd xs_ ((q_ : Int) + 1)) - (rd wide (q_ : Int))))) && (decide (((((rd xs_ (q_ : Int)) - (rd want (q_ : Int))) + 1) * (((rd xs_ (q_ : Int)) - (rd want (q_ : Int))) + 1)) < (((rd xs_ (q_ : Int)) - (rd want (q_ : Int))) * ((rd xs_ (q_ : Int)) - (rd want (q_ : Int))))))))) && (decide (r17 < (rd xs_ (q_ : Int))))) (says_ift _ _) (fun hq => by
                  have hq' := hq
                  try simp only [Bool.and_eq_true, Bool.or_eq_true, Bool.not_eq_true', Bool.not_eq_false', decide_eq_true_eq, decide_eq_false_iff_not] at hq'
                  exact Yl.at (yl_move rfl)) ?_
              refine o_if (v := .int .i64 ((rd xs_ (q_ : Int)) - (rd want (q_ : Int)))) 167 160 true ((!(((decide ((rd xs_ (q_ : Int)) < r17)) || (decide (((rd xs_ ((q_ : Int) + 1)) - (rd wide (q_ : Int))) < (rd xs_ (q_ : Int))))) || ((decide ((rd xs_ (q_ : Int)) < ((rd xs_ ((q_ : Int) + 1)) - (rd wide (q_ : Int))))) && (decide (((((rd xs_ (q_ : Int)) - (rd want (q_ : Int))) + 1) * (((rd xs_ (q_ : Int)) - (rd want (q_ : Int))) + 1)) < (((rd xs_ (q_ : Int)) - (rd want (q_ : Int))) * ((rd xs_ (q_ : Int)) - (rd want (q_ : Int))))))))) && (decide (r17 < (rd xs_ (q_ : Int))))) (says_ift _ _) (fun hq => by
                  have hq' := hq
                  try simp only [Bool.and_eq_true, Bool.or_eq_true, Bool.not_eq_true', Bool.not_eq_false', decide_eq_true_eq, decide_eq_false_iff_not] at hq'
                  exact Yl.at (yl_move rfl)) ?_
              refine o_if (v := .int .i64 (((rd xs_ (q_ : Int)) - (rd want (q_ : Int))) * ((rd xs_ (q_ : Int)) - (rd want (q_ : Int))))) 168 160 true ((!(((decide ((rd xs_ (q_ : Int)) < r17)) || (decide (((rd xs_ ((q_ : Int) + 1)) - (rd wide (q_ : Int))) < (rd xs_ (q_ : Int))))) || ((decide ((rd xs_ (q_ : Int)) < ((rd xs_ ((q_ : Int) + 1)) - (rd wide (q_ : Int))))) && (decide (((((rd xs_ (q_ : Int)) - (rd want (q_ : Int))) + 1) * (((rd xs_ (q_ : Int)) - (rd want (q_ : Int))) + 1)) < (((rd xs_ (q_ : Int)) - (rd want (q_ : Int))) * ((rd xs_ (q_ : Int)) - (rd want (q_ : Int))))))))) && (decide (r17 < (rd xs_ (q_ : Int))))) (says_ift _ _) (fun hq => by
                  have hq' := hq
                  try simp only [Bool.and_eq_true, Bool.or_eq_true, Bool.not_eq_true', Bool.not_eq_false', decide_eq_true_eq, decide_eq_false_iff_not] at hq'
                  exact Yl.at (yl_mul (a := (rd xs_ (q_ : Int)) - (rd want (q_ : Int))) (b := (rd xs_ (q_ : Int)) - (rd want (q_ : Int))) (cv (v := .int .i64 ((rd xs_ (q_ : Int)) - (rd want (q_ : Int)))) hq) (cv (v := .int .i64 ((rd xs_ (q_ : Int)) - (rd want (q_ : Int)))) hq) (wrap_i64 (sq_small (by omega) (by omega))))) ?_
              refine o_if (v := .bool (decide (((((rd xs_ (q_ : Int)) - (rd want (q_ : Int))) - 1) * (((rd xs_ (q_ : Int)) - (rd want (q_ : Int))) - 1)) ≤ (((rd xs_ (q_ : Int)) - (rd want (q_ : Int))) * ((rd xs_ (q_ : Int)) - (rd want (q_ : Int))))))) 169 160 true ((!(((decide ((rd xs_ (q_ : Int)) < r17)) || (decide (((rd xs_ ((q_ : Int) + 1)) - (rd wide (q_ : Int))) < (rd xs_ (q_ : Int))))) || ((decide ((rd xs_ (q_ : Int)) < ((rd xs_ ((q_ : Int) + 1)) - (rd wide (q_ : Int))))) && (decide (((((rd xs_ (q_ : Int)) - (rd want (q_ : Int))) + 1) * (((rd xs_ (q_ : Int)) - (rd want (q_ : Int))) + 1)) < (((rd xs_ (q_ : Int)) - (rd want (q_ : Int))) * ((rd xs_ (q_ : Int)) - (rd want (q_ : Int))))))))) && (decide (r17 < (rd xs_ (q_ : Int))))) (says_ift _ _) (fun hq => by
                  have hq' := hq
                  try simp only [Bool.and_eq_true, Bool.or_eq_true, Bool.not_eq_true', Bool.not_eq_false', decide_eq_true_eq, decide_eq_false_iff_not] at hq'
                  exact Yl.at (yl_leq (cv (v := .int .i64 ((((rd xs_ (q_ : Int)) - (rd want (q_ : Int))) - 1) * (((rd xs_ (q_ : Int)) - (rd want (q_ : Int))) - 1))) hq) (cv (v := .int .i64 (((rd xs_ (q_ : Int)) - (rd want (q_ : Int))) * ((rd xs_ (q_ : Int)) - (rd want (q_ : Int))))) hq))) ?_
              refine o_if (v := .bool ((decide (r17 < (rd xs_ (q_ : Int)))) && (decide (((((rd xs_ (q_ : Int)) - (rd want (q_ : Int))) - 1) * (((rd xs_ (q_ : Int)) - (rd want (q_ : Int))) - 1)) ≤ (((rd xs_ (q_ : Int)) - (rd want (q_ : Int))) * ((rd xs_ (q_ : Int)) - (rd want (q_ : Int)))))))) 170 153 false (!(((decide ((rd xs_ (q_ : Int)) < r17)) || (decide (((rd xs_ ((q_ : Int) + 1)) - (rd wide (q_ : Int))) < (rd xs_ (q_ : Int))))) || ((decide ((rd xs_ (q_ : Int)) < ((rd xs_ ((q_ : Int) + 1)) - (rd wide (q_ : Int))))) && (decide (((((rd xs_ (q_ : Int)) - (rd want (q_ : Int))) + 1) * (((rd xs_ (q_ : Int)) - (rd want (q_ : Int))) + 1)) < (((rd xs_ (q_ : Int)) - (rd want (q_ : Int))) * ((rd xs_ (q_ : Int)) - (rd want (q_ : Int))))))))) (says_f _) (fun hq => by
                  have hq' := hq
                  try simp only [Bool.and_eq_true, Bool.or_eq_true, Bool.not_eq_true', Bool.not_eq_false', decide_eq_true_eq, decide_eq_false_iff_not] at hq'
                  exact Yl.at (yl_and (cv (v := .bool (decide (r17 < (rd xs_ (q_ : Int))))) hq) (fun hc => (cv (v := .bool (decide (((((rd xs_ (q_ : Int)) - (rd want (q_ : Int))) - 1) * (((rd xs_ (q_ : Int)) - (rd want (q_ : Int))) - 1)) ≤ (((rd xs_ (q_ : Int)) - (rd want (q_ : Int))) * ((rd xs_ (q_ : Int)) - (rd want (q_ : Int))))))) (and_i hq hc))) rfl)) ?_
              refine o_pure (v := .bool ((((decide ((rd xs_ (q_ : Int)) < r17)) || (decide (((rd xs_ ((q_ : Int) + 1)) - (rd wide (q_ : Int))) < (rd xs_ (q_ : Int))))) || ((decide ((rd xs_ (q_ : Int)) < ((rd xs_ ((q_ : Int) + 1)) - (rd wide (q_ : Int))))) && (decide (((((rd xs_ (q_ : Int)) - (rd want (q_ : Int))) + 1) * (((rd xs_ (q_ : Int)) - (rd want (q_ : Int))) + 1)) < (((rd xs_ (q_ : Int)) - (rd want (q_ : Int))) * ((rd xs_ (q_ : Int)) - (rd want (q_ : Int)))))))) || ((decide (r17 < (rd xs_ (q_ : Int)))) && (decide (((((rd xs_ (q_ : Int)) - (rd want (q_ : Int))) - 1) * (((rd xs_ (q_ : Int)) - (rd want (q_ : Int))) - 1)) ≤ (((rd xs_ (q_ : Int)) - (rd want (q_ : Int))) * ((rd xs_ (q_ : Int)) - (rd want (q_ : Int))))))))) 171 (yl_or rfl rfl (fun hc => (cv (v := .bool ((decide (r17 < (rd xs_ (q_ : Int)))) && (decide (((((rd xs_ (q_ : Int)) - (rd want (q_ : Int))) - 1) * (((rd xs_ (q_ : Int)) - (rd want (q_ : Int))) - 1)) ≤ (((rd xs_ (q_ : Int)) - (rd want (q_ : Int))) * ((rd xs_ (q_ : Int)) - (rd want (q_ : Int)))))))) (t_not hc)))) ?_
              refine x_done ?_
              refine x_cond (t := (((decide ((rd xs_ (q_ : Int)) < r17)) || (decide (((rd xs_ ((q_ : Int) + 1)) - (rd wide (q_ : Int))) < (rd xs_ (q_ : Int))))) || ((decide ((rd xs_ (q_ : Int)) < ((rd xs_ ((q_ : Int) + 1)) - (rd wide (q_ : Int))))) && (decide (((((rd xs_ (q_ : Int)) - (rd want (q_ : Int))) + 1) * (((rd xs_ (q_ : Int)) - (rd want (q_ : Int))) + 1)) < (((rd xs_ (q_ : Int)) - (rd want (q_ : Int))) * ((rd xs_ (q_ : Int)) - (rd want (q_ : Int)))))))) || ((decide (r17 < (rd xs_ (q_ : Int)))) && (decide (((((rd xs_ (q_ : Int)) - (rd want (q_ : Int))) - 1) * (((rd xs_ (q_ : Int)) - (rd want (q_ : Int))) - 1)) ≤ (((rd xs_ (q_ : Int)) - (rd want (q_ : Int))) * ((rd xs_ (q_ : Int)) - (rd want (q_ : Int)))))))) rfl (fun hbig => ?_) (fun hbig => ?_)
              · skip
                simp only [Bool.and_eq_true, Bool.or_eq_true, Bool.and_eq_false_iff, Bool.or_eq_false_iff, Bool.not_eq_true', Bool.not_eq_false', decide_eq_true_eq, decide_eq_false_iff_not] at hbig
                exfalso
                rcases hbig with (((h | h) | ⟨h, h'⟩) | ⟨h, h'⟩)
                · omega
                · omega
                · exact g3 ⟨h, h'⟩
                · exact g4 ⟨h, h'⟩
              · skip
                simp only [Bool.and_eq_true, Bool.or_eq_true, Bool.and_eq_false_iff, Bool.or_eq_false_iff, Bool.not_eq_true', Bool.not_eq_false', decide_eq_true_eq, decide_eq_false_iff_not] at hbig
                refine x_skip ?_
                refine x_blk ?_
                refine x_region ?_
                refine o_pure (v := .int .i64 ((q_ : Int) + 1)) 172 (yl_add (a := (q_ : Int)) (b := 1) e74 rfl (wrap_i64 (by omega))) ?_
                refine o_pure (v := .int .i64 ((q_ : Int) + 1)) 74 (yl_move rfl) ?_
                refine x_done ?_
                refine x_inv ⟨want.length - (q_ + 1), by omega, q_ + 1, Eq.trans (b := Value.int .i64 ((q_ : Int) + 1)) rfl (congrArg (Value.int .i64) (by omega)), e4, e5, e7, e8, e73, by omega, by omega, hS⟩
            · skip
              rw [if_neg (by omega)] at g2 g3
              refine x_skip ?_
              refine x_seq ?_
              refine x_quiet (fun w' => St w0 w' (ro ρr :: strm b1 A c L (1 + 2 * (i : Int) + 1) :: l)) mixed (by kernel_rfl) (hS.drawn _) ?_
              refine q_pure (v := .slice A_ want.length c_) 111 (yl_move e8) ?_
              refine q_pure (v := .int .i64 (q_ : Int)) 112 (yl_move rfl) ?_
              refine q_pure (v := .pointer (some ((adr A_).add ((q_ : Int).toNat * 1)))) 113 (yl_index_r sl_22 rfl rfl (hr.some (i := (q_ : Int)) (by omega) (by omega)) (by omega) (by omega)) ?_
              refine q_at (v := .int .i64 (rd xs_ (q_ : Int))) 114 (fun w' hS => at_load one_3 rfl (hr.cell hS (by omega) (by omega))) ?_
              refine q_pure (v := .slice A12 want.length c13) 115 (yl_move e4) ?_
              refine q_pure (v := .int .i64 (q_ : Int)) 116 (yl_move rfl) ?_
              refine q_pure (v := .pointer (some ((adr A12).add ((q_ : Int).toNat * 1)))) 117 (yl_index_r sl_22 rfl rfl (hWa.some (i := (q_ : Int)) (by omega) (by omega)) (by omega) (by omega)) ?_
              refine q_at (v := .int .i64 (rd want (q_ : Int))) 118 (fun w' hS => at_load one_3 rfl (hWa.cell hS (by omega) (by omega))) ?_
              refine q_pure (v := .int .i64 ((rd xs_ (q_ : Int)) - (rd want (q_ : Int)))) 119 (yl_sub (a := rd xs_ (q_ : Int)) (b := rd want (q_ : Int)) rfl rfl (wrap_i64 (by omega))) ?_
              refine q_pure (v := .int .i64 ((rd xs_ (q_ : Int)) - (rd want (q_ : Int)))) 13 (yl_assign rfl) ?_
              refine q_done fun w' hS => ?_
              refine x_seq ?_
              refine x_region ?_
              refine o_pure (v := .slice A_ want.length c_) 120 (yl_move e8) ?_
              refine o_pure (v := .int .i64 (q_ : Int)) 121 (yl_move rfl) ?_
              refine o_pure (v := .pointer (some ((adr A_).add ((q_ : Int).toNat * 1)))) 122 (yl_index_r sl_22 rfl rfl (hr.some (i := (q_ : Int)) (by omega) (by omega)) (by omega) (by omega)) ?_
              refine o_at (v := .int .i64 (rd xs_ (q_ : Int))) 123 (at_load one_3 rfl (hr.cell hS (by omega) (by omega))) ?_
              refine o_pure (v := .int .i64 r17) 124 (yl_move rfl) ?_
              refine o_pure (v := .bool (decide ((rd xs_ (q_ : Int)) < r17))) 125 (yl_lss rfl rfl) ?_
              refine o_pure (v := .bool (decide ((rd xs_ (q_ : Int)) < r17))) 126 (yl_move rfl) ?_
              refine o_if (v := .slice A_ want.length c_) 127 126 false (!(decide ((rd xs_ (q_ : Int)) < r17))) (says_f _) (fun hq => by
                  have hq' := hq
                  try simp only [Bool.and_eq_true, Bool.or_eq_true, Bool.not_eq_true', Bool.not_eq_false', decide_eq_true_eq, decide_eq_false_iff_not] at hq'
                  exact Yl.at (yl_move e8)) ?_
              refine o_if (v := .int .i64 (q_ : Int)) 128 126 false (!(decide ((rd xs_ (q_ : Int)) < r17))) (says_f _) (fun hq => by
                  have hq' := hq
                  try simp only [Bool.and_eq_true, Bool.or_eq_true, Bool.not_eq_true', Bool.not_eq_false', decide_eq_true_eq, decide_eq_false_iff_not] at hq'
                  exact Yl.at (yl_move rfl)) ?_
              refine o_if (v := .pointer (some ((adr A_).add ((q_ : Int).toNat * 1)))) 129 126 false (!(decide ((rd xs_ (q_ : Int)) < r17))) (says_f _) (fun hq => by
                  have hq' := hq
                  try simp only [Bool.and_eq_true, Bool.or_eq_true, Bool.not_eq_true', Bool.not_eq_false', decide_eq_true_eq, decide_eq_false_iff_not] at hq'
                  exact Yl.at (yl_index_r sl_22 (cv (v := .slice A_ want.length c_) hq) (cv (v := .int .i64 (q_ : Int)) hq) (hr.some (i := (q_ : Int)) (by omega) (by omega)) (by omega) (by omega))) ?_
              refine o_if (v := .int .i64 (rd xs_ (q_ : Int))) 130 126 false (!(decide ((rd xs_ (q_ : Int)) < r17))) (says_f _) (fun hq => by
                  have hq' := hq
                  try simp only [Bool.and_eq_true, Bool.or_eq_true, Bool.not_eq_true', Bool.not_eq_false', decide_eq_true_eq, decide_eq_false_iff_not] at hq'
                  exact at_load one_3 (cv (v := .pointer (some ((adr A_).add ((q_ : Int).toNat * 1)))) hq) (hr.cell hS (by omega) (by omega))) ?_
              refine o_if (v := .int .i64 (40 - (rd wide (q_ : Int)))) 131 126 false (!(decide ((rd xs_ (q_ : Int)) < r17))) (says_f _) (fun hq => by
                  have hq' := hq
                  try simp only [Bool.and_eq_true, Bool.or_eq_true, Bool.not_eq_true', Bool.not_eq_false', decide_eq_true_eq, decide_eq_false_iff_not] at hq'
                  exact Yl.at (yl_move rfl)) ?_
              refine o_if (v := .bool (decide ((40 - (rd wide (q_ : Int))) < (rd xs_ (q_ : Int))))) 132 126 false (!(decide ((rd xs_ (q_ : Int)) < r17))) (says_f _) (fun hq => by
                  have hq' := hq
                  try simp only [Bool.and_eq_true, Bool.or_eq_true, Bool.not_eq_true', Bool.not_eq_false', decide_eq_true_eq, decide_eq_false_iff_not] at hq'
                  exact Yl.at (yl_gtr (cv (v := .int .i64 (rd xs_ (q_ : Int))) hq) (cv (v := .int .i64 (40 - (rd wide (q_ : Int)))) hq))) ?_
              refine o_pure (v := .bool ((decide ((rd xs_ (q_ : Int)) < r17)) || (decide ((40 - (rd wide (q_ : Int))) < (rd xs_ (q_ : Int)))))) 133 (yl_or rfl rfl (fun hc => (cv (v := .bool (decide ((40 - (rd wide (q_ : Int))) < (rd xs_ (q_ : Int))))) (t_not hc)))) ?_
              refine o_pure (v := .bool ((decide ((rd xs_ (q_ : Int)) < r17)) || (decide ((40 - (rd wide (q_ : Int))) < (rd xs_ (q_ : Int)))))) 134 (yl_move rfl) ?_
              refine o_if (v := .slice A_ want.length c_) 135 134 false (!((decide ((rd xs_ (q_ : Int)) < r17)) || (decide ((40 - (rd wide (q_ : Int))) < (rd xs_ (q_ : Int)))))) (says_f _) (fun hq => by
                  have hq' := hq
                  try simp only [Bool.and_eq_true, Bool.or_eq_true, Bool.not_eq_true', Bool.not_eq_false', decide_eq_true_eq, decide_eq_false_iff_not] at hq'
                  exact Yl.at (yl_move e8)) ?_
              refine o_if (v := .int .i64 (q_ : Int)) 136 134 false (!((decide ((rd xs_ (q_ : Int)) < r17)) || (decide ((40 - (rd wide (q_ : Int))) < (rd xs_ (q_ : Int)))))) (says_f _) (fun hq => by
                  have hq' := hq
                  try simp only [Bool.and_eq_true, Bool.or_eq_true, Bool.not_eq_true', Bool.not_eq_false', decide_eq_true_eq, decide_eq_false_iff_not] at hq'
                  exact Yl.at (yl_move rfl)) ?_
              refine o_if (v := .pointer (some ((adr A_).add ((q_ : Int).toNat * 1)))) 137 134 false (!((decide ((rd xs_ (q_ : Int)) < r17)) || (decide ((40 - (rd wide (q_ : Int))) < (rd xs_ (q_ : Int)))))) (says_f _) (fun hq => by
                  have hq' := hq
                  try simp only [Bool.and_eq_true, Bool.or_eq_true, Bool.not_eq_true', Bool.not_eq_false', decide_eq_true_eq, decide_eq_false_iff_not] at hq'
                  exact Yl.at (yl_index_r sl_22 (cv (v := .slice A_ want.length c_) hq) (cv (v := .int .i64 (q_ : Int)) hq) (hr.some (i := (q_ : Int)) (by omega) (by omega)) (by omega) (by omega))) ?_
              refine o_if (v := .int .i64 (rd xs_ (q_ : Int))) 138 134 false (!((decide ((rd xs_ (q_ : Int)) < r17)) || (decide ((40 - (rd wide (q_ : Int))) < (rd xs_ (q_ : Int)))))) (says_f _) (fun hq => by
                  have hq' := hq
                  try simp only [Bool.and_eq_true, Bool.or_eq_true, Bool.not_eq_true', Bool.not_eq_false', decide_eq_true_eq, decide_eq_false_iff_not] at hq'
                  exact at_load one_3 (cv (v := .pointer (some ((adr A_).add ((q_ : Int).toNat * 1)))) hq) (hr.cell hS (by omega) (by omega))) ?_
              refine o_if (v := .int .i64 (40 - (rd wide (q_ : Int)))) 139 134 false (!((decide ((rd xs_ (q_ : Int)) < r17)) || (decide ((40 - (rd wide (q_ : Int))) < (rd xs_ (q_ : Int)))))) (says_f _) (fun hq => by
                  have hq' := hq
                  try simp only [Bool.and_eq_true, Bool.or_eq_true, Bool.not_eq_true', Bool.not_eq_false', decide_eq_true_eq, decide_eq_false_iff_not] at hq'
                  exact Yl.at (yl_move rfl)) ?_
              refine o_if (v := .bool (decide ((rd xs_ (q_ : Int)) < (40 - (rd wide (q_ : Int)))))) 140 134 false (!((decide ((rd xs_ (q_ : Int)) < r17)) || (decide ((40 - (rd wide (q_ : Int))) < (rd xs_ (q_ : Int)))))) (says_f _) (fun hq => by
                  have hq' := hq
                  try simp only [Bool.and_eq_true, Bool.or_eq_true, Bool.not_eq_true', Bool.not_eq_false', decide_eq_true_eq, decide_eq_false_iff_not] at hq'
                  exact Yl.at (yl_lss (cv (v := .int .i64 (rd xs_ (q_ : Int))) hq) (cv (v := .int .i64 (40 - (rd wide (q_ : Int)))) hq))) ?_
              refine o_if (v := .bool (decide ((rd xs_ (q_ : Int)) < (40 - (rd wide (q_ : Int)))))) 141 134 false (!((decide ((rd xs_ (q_ : Int)) < r17)) || (decide ((40 - (rd wide (q_ : Int))) < (rd xs_ (q_ : Int)))))) (says_f _) (fun hq => by
                  have hq' := hq
                  try simp only [Bool.and_eq_true, Bool.or_eq_true, Bool.not_eq_true', Bool.not_eq_false', decide_eq_true_eq, decide_eq_false_iff_not] at hq'
                  exact Yl.at (yl_move (cv (v := .bool (decide ((rd xs_ (q_ : Int)) < (40 - (rd wide (q_ : Int)))))) hq))) ?_
              refine o_if (v := .int .i64 ((rd xs_ (q_ : Int)) - (rd want (q_ : Int)))) 142 141 true ((!((decide ((rd xs_ (q_ : Int)) < r17)) || (decide ((40 - (rd wide (q_ : Int))) < (rd xs_ (q_ : Int)))))) && (decide ((rd xs_ (q_ : Int)) < (40 - (rd wide (q_ : Int)))))) (says_ift _ _) (fun hq => by
                  have hq' := hq
                  try simp only [Bool.and_eq_true, Bool.or_eq_true, Bool.not_eq_true', Bool.not_eq_false', decide_eq_true_eq, decide_eq_false_iff_not] at hq'
                  exact Yl.at (yl_move rfl)) ?_
              refine o_if (v := .int .i64 (((rd xs_ (q_ : Int)) - (rd want (q_ : Int))) + 1)) 143 141 true ((!((decide ((rd xs_ (q_ : Int)) < r17)) || (decide ((40 - (rd wide (q_ : Int))) < (rd xs_ (q_ : Int)))))) && (decide ((rd xs_ (q_ : Int)) < (40 - (rd wide (q_ : Int)))))) (says_ift _ _) (fun hq => by
                  have hq' := hq
                  try simp only [Bool.and_eq_true, Bool.or_eq_true, Bool.not_eq_true', Bool.not_eq_false', decide_eq_true_eq, decide_eq_false_iff_not] at hq'
                  exact Yl.at (yl_add (a := (rd xs_ (q_ : Int)) - (rd want (q_ : Int))) (b := 1) (cv (v := .int .i64 ((rd xs_ (q_ : Int)) - (rd want (q_ : Int)))) hq) rfl (wrap_i64 (by omega)))) ?_
              refine o_if (v := .int .i64 ((rd xs_ (q_ : Int)) - (rd want (q_ : Int)))) 144 141 true ((!((decide ((rd xs_ (q_ : Int)) < r17)) || (decide ((40 - (rd wide (q_ : Int))) < (rd xs_ (q_ : Int)))))) && (decide ((rd xs_ (q_ : Int)) < (40 - (rd wide (q_ : Int)))))) (says_ift _ _) (fun hq => by
                  have hq' := hq
                  try simp only [Bool.and_eq_true, Bool.or_eq_true, Bool.not_eq_true', Bool.not_eq_false', decide_eq_true_eq, decide_eq_false_iff_not] at hq'
                  exact Yl.at (yl_move rfl)) ?_
              refine o_if (v := .int .i64 (((rd xs_ (q_ : Int)) - (rd want (q_ : Int))) + 1)) 145 141 true ((!((decide ((rd xs_ (q_ : Int)) < r17)) || (decide ((40 - (rd wide (q_ : Int))) < (rd xs_ (q_ : Int)))))) && (decide ((rd xs_ (q_ : Int)) < (40 - (rd wide (q_ : Int)))))) (says_ift _ _) (fun hq => by
                  have hq' := hq
                  try simp only [Bool.and_eq_true, Bool.or_eq_true, Bool.not_eq_true', Bool.not_eq_false', decide_eq_true_eq, decide_eq_false_iff_not] at hq'
                  exact Yl.at (yl_add (a := (rd xs_ (q_ : Int)) - (rd want (q_ : Int))) (b := 1) (cv (v := .int .i64 ((rd xs_ (q_ : Int)) - (rd want (q_ : Int)))) hq) rfl (wrap_i64 (by omega)))) ?_
              refine o_if (v := .int .i64 ((((rd xs_ (q_ : Int)) - (rd want (q_ : Int))) + 1) * (((rd xs_ (q_ : Int)) - (rd want (q_ : Int))) + 1))) 146 141 true ((!((decide ((rd xs_ (q_ : Int)) < r17)) || (decide ((40 - (rd wide (q_ : Int))) < (rd xs_ (q_ : Int)))))) && (decide ((rd xs_ (q_ : Int)) < (40 - (rd wide (q_ : Int)))))) (says_ift _ _) (fun hq => by
                  have hq' := hq
                  try simp only [Bool.and_eq_true, Bool.or_eq_true, Bool.not_eq_true', Bool.not_eq_false', decide_eq_true_eq, decide_eq_false_iff_not] at hq'
                  exact Yl.at (yl_mul (a := ((rd xs_ (q_ : Int)) - (rd want (q_ : Int))) + 1) (b := ((rd xs_ (q_ : Int)) - (rd want (q_ : Int))) + 1) (cv (v := .int .i64 (((rd xs_ (q_ : Int)) - (rd want (q_ : Int))) + 1)) hq) (cv (v := .int .i64 (((rd xs_ (q_ : Int)) - (rd want (q_ : Int))) + 1)) hq) (wrap_i64 (sq_small (by omega) (by omega))))) ?_
              refine o_if (v := .int .i64 ((rd xs_ (q_ : Int)) - (rd want (q_ : Int)))) 147 141 true ((!((decide ((rd xs_ (q_ : Int)) < r17)) || (decide ((40 - (rd wide (q_ : Int))) < (rd xs_ (q_ : Int)))))) && (decide ((rd xs_ (q_ : Int)) < (40 - (rd wide (q_ : Int)))))) (says_ift _ _) (fun hq => by
                  have hq' := hq
                  try simp only [Bool.and_eq_true, Bool.or_eq_true, Bool.not_eq_true', Bool.not_eq_false', decide_eq_true_eq, decide_eq_false_iff_not] at hq'
                  exact Yl.at (yl_move rfl)) ?_
              refine o_if (v := .int .i64 ((rd xs_ (q_ : Int)) - (rd want (q_ : Int)))) 148 141 true ((!((decide ((rd xs_ (q_ : Int)) < r17)) || (decide ((40 - (rd wide (q_ : Int))) < (rd xs_ (q_ : Int)))))) && (decide ((rd xs_ (q_ : Int)) < (40 - (rd wide (q_ : Int)))))) (says_ift _ _) (fun hq => by
                  have hq' := hq
                  try simp only [Bool.and_eq_true, Bool.or_eq_true, Bool.not_eq_true', Bool.not_eq_false', decide_eq_true_eq, decide_eq_false_iff_not] at hq'
                  exact Yl.at (yl_move rfl)) ?_
              refine o_if (v := .int .i64 (((rd xs_ (q_ : Int)) - (rd want (q_ : Int))) * ((rd xs_ (q_ : Int)) - (rd want (q_ : Int))))) 149 141 true ((!((decide ((rd xs_ (q_ : Int)) < r17)) || (decide ((40 - (rd wide (q_ : Int))) < (rd xs_ (q_ : Int)))))) && (decide ((rd xs_ (q_ : Int)) < (40 - (rd wide (q_ : Int)))))) (says_ift _ _) (fun hq => by
                  have hq' := hq
                  try simp only [Bool.and_eq_true, Bool.or_eq_true, Bool.not_eq_true', Bool.not_eq_false', decide_eq_true_eq, decide_eq_false_iff_not] at hq'
                  exact Yl.at (yl_mul (a := (rd xs_ (q_ : Int)) - (rd want (q_ : Int))) (b := (rd xs_ (q_ : Int)) - (rd want (q_ : Int))) (cv (v := .int .i64 ((rd xs_ (q_ : Int)) - (rd want (q_ : Int)))) hq) (cv (v := .int .i64 ((rd xs_ (q_ : Int)) - (rd want (q_ : Int)))) hq) (wrap_i64 (sq_small (by omega) (by omega))))) ?_
              refine o_if (v := .bool (decide (((((rd xs_ (q_ : Int)) - (rd want (q_ : Int))) + 1) * (((rd xs_ (q_ : Int)) - (rd want (q_ : Int))) + 1)) < (((rd xs_ (q_ : Int)) - (rd want (q_ : Int))) * ((rd xs_ (q_ : Int)) - (rd want (q_ : Int))))))) 150 141 true ((!((decide ((rd xs_ (q_ : Int)) < r17)) || (decide ((40 - (rd wide (q_ : Int))) < (rd xs_ (q_ : Int)))))) && (decide ((rd xs_ (q_ : Int)) < (40 - (rd wide (q_ : Int)))))) (says_ift _ _) (fun hq => by
                  have hq' := hq
                  try simp only [Bool.and_eq_true, Bool.or_eq_true, Bool.not_eq_true', Bool.not_eq_false', decide_eq_true_eq, decide_eq_false_iff_not] at hq'
                  exact Yl.at (yl_lss (cv (v := .int .i64 ((((rd xs_ (q_ : Int)) - (rd want (q_ : Int))) + 1) * (((rd xs_ (q_ : Int)) - (rd want (q_ : Int))) + 1))) hq) (cv (v := .int .i64 (((rd xs_ (q_ : Int)) - (rd want (q_ : Int))) * ((rd xs_ (q_ : Int)) - (rd want (q_ : Int))))) hq))) ?_
              refine o_if (v := .bool ((decide ((rd xs_ (q_ : Int)) < (40 - (rd wide (q_ : Int))))) && (decide (((((rd xs_ (q_ : Int)) - (rd want (q_ : Int))) + 1) * (((rd xs_ (q_ : Int)) - (rd want (q_ : Int))) + 1)) < (((rd xs_ (q_ : Int)) - (rd want (q_ : Int))) * ((rd xs_ (q_ : Int)) - (rd want (q_ : Int)))))))) 151 134 false (!((decide ((rd xs_ (q_ : Int)) < r17)) || (decide ((40 - (rd wide (q_ : Int))) < (rd xs_ (q_ : Int)))))) (says_f _) (fun hq => by
                  have hq' := hq
                  try simp only [Bool.and_eq_true, Bool.or_eq_true, Bool.not_eq_true', Bool.not_eq_false', decide_eq_true_eq, decide_eq_false_iff_not] at hq'
                  exact Yl.at (yl_and (cv (v := .bool (decide ((rd xs_ (q_ : Int)) < (40 - (rd wide (q_ : Int)))))) hq) (fun hc => (cv (v := .bool (decide (((((rd xs_ (q_ : Int)) - (rd want (q_ : Int))) + 1) * (((rd xs_ (q_ : Int)) - (rd want (q_ : Int))) + 1)) < (((rd xs_ (q_ : Int)) - (rd want (q_ : Int))) * ((rd xs_ (q_ : Int)) - (rd want (q_ : Int))))))) (and_i hq hc))) rfl)) ?_
              refine o_pure (v := .bool (((decide ((rd xs_ (q_ : Int)) < r17)) || (decide ((40 - (rd wide (q_ : Int))) < (rd xs_ (q_ : Int))))) || ((decide ((rd xs_ (q_ : Int)) < (40 - (rd wide (q_ : Int))))) && (decide (((((rd xs_ (q_ : Int)) - (rd want (q_ : Int))) + 1) * (((rd xs_ (q_ : Int)) - (rd want (q_ : Int))) + 1)) < (((rd xs_ (q_ : Int)) - (rd want (q_ : Int))) * ((rd xs_ (q_ : Int)) - (rd want (q_ : Int))))))))) 152 (yl_or rfl rfl (fun hc => (cv (v := .bool ((decide ((rd xs_ (q_ : Int)) < (40 - (rd wide (q_ : Int))))) && (decide (((((rd xs_ (q_ : Int)) - (rd want (q_ : Int))) + 1) * (((rd xs_ (q_ : Int)) - (rd want (q_ : Int))) + 1)) < (((rd xs_ (q_ : Int)) - (rd want (q_ : Int))) * ((rd xs_ (q_ : Int)) - (rd want (q_ : Int)))))))) (t_not hc)))) ?_
              refine o_pure (v := .bool (((decide ((rd xs_ (q_ : Int)) < r17)) || (decide ((40 - (rd wide (q_ : Int))) < (rd xs_ (q_ : Int))))) || ((decide ((rd xs_ (q_ : Int)) < (40 - (rd wide (q_ : Int))))) && (decide (((((rd xs_ (q_ : Int)) - (rd want (q_ : Int))) + 1) * (((rd xs_ (q_ : Int)) - (rd want (q_ : Int))) + 1)) < (((rd xs_ (q_ : Int)) - (rd want (q_ : Int))) * ((rd xs_ (q_ : Int)) - (rd want (q_ : Int))))))))) 153 (yl_move rfl) ?_
              refine o_if (v := .slice A_ want.length c_) 154 153 false (!(((decide ((rd xs_ (q_ : Int)) < r17)) || (decide ((40 - (rd wide (q_ : Int))) < (rd xs_ (q_ : Int))))) || ((decide ((rd xs_ (q_ : Int)) < (40 - (rd wide (q_ : Int))))) && (decide (((((rd xs_ (q_ : Int)) - (rd want (q_ : Int))) + 1) * (((rd xs_ (q_ : Int)) - (rd want (q_ : Int))) + 1)) < (((rd xs_ (q_ : Int)) - (rd want (q_ : Int))) * ((rd xs_ (q_ : Int)) - (rd want (q_ : Int))))))))) (says_f _) (fun hq => by
                  have hq' := hq
                  try simp only [Bool.and_eq_true, Bool.or_eq_true, Bool.not_eq_true', Bool.not_eq_false', decide_eq_true_eq, decide_eq_false_iff_not] at hq'
                  exact Yl.at (yl_move e8)) ?_
              refine o_if (v := .int .i64 (q_ : Int)) 155 153 false (!(((decide ((rd xs_ (q_ : Int)) < r17)) || (decide ((40 - (rd wide (q_ : Int))) < (rd xs_ (q_ : Int))))) || ((decide ((rd xs_ (q_ : Int)) < (40 - (rd wide (q_ : Int))))) && (decide (((((rd xs_ (q_ : Int)) - (rd want (q_ : Int))) + 1) * (((rd xs_ (q_ : Int)) - (rd want (q_ : Int))) + 1)) < (((rd xs_ (q_ : Int)) - (rd want (q_ : Int))) * ((rd xs_ (q_ : Int)) - (rd want (q_ : Int))))))))) (says_f _) (fun hq => by
                  have hq' := hq
                  try simp only [Bool.and_eq_true, Bool.or_eq_true, Bool.not_eq_true', Bool.not_eq_false', decide_eq_true_eq, decide_eq_false_iff_not] at hq'
                  exact Yl.at (yl_move rfl)) ?_
              refine o_if (v := .pointer (some ((adr A_).add ((q_ : Int).toNat * 1)))) 156 153 false (!(((decide ((rd xs_ (q_ : Int)) < r17)) || (decide ((40 - (rd wide (q_ : Int))) < (rd xs_ (q_ : Int))))) || ((decide ((rd xs_ (q_ : Int)) < (40 - (rd wide (q_ : Int))))) && (decide (((((rd xs_ (q_ : Int)) - (rd want (q_ : Int))) + 1) * (((rd xs_ (q_ : Int)) - (rd want (q_ : Int))) + 1)) < (((rd xs_ (q_ : Int)) - (rd want (q_ : Int))) * ((rd xs_ (q_ : Int)) - (rd want (q_ : Int))))))))) (says_f _) (fun hq => by
                  have hq' := hq
                  try simp only [Bool.and_eq_true, Bool.or_eq_true, Bool.not_eq_true', Bool.not_eq_false', decide_eq_true_eq, decide_eq_false_iff_not] at hq'
                  exact Yl.at (yl_index_r sl_22 (cv (v := .slice A_ want.length c_) hq) (cv (v := .int .i64 (q_ : Int)) hq) (hr.some (i := (q_ : Int)) (by omega) (by omega)) (by omega) (by omega))) ?_
              refine o_if (v := .int .i64 (rd xs_ (q_ : Int))) 157 153 false (!(((decide ((rd xs_ (q_ : Int)) < r17)) || (decide ((40 - (rd wide (q_ : Int))) < (rd xs_ (q_ : Int))))) || ((decide ((rd xs_ (q_ : Int)) < (40 - (rd wide (q_ : Int))))) && (decide (((((rd xs_ (q_ : Int)) - (rd want (q_ : Int))) + 1) * (((rd xs_ (q_ : Int)) - (rd want (q_ : Int))) + 1)) < (((rd xs_ (q_ : Int)) - (rd want (q_ : Int))) * ((rd xs_ (q_ : Int)) - (rd want (q_ : Int))))))))) (says_f _) (fun hq => by
                  have hq' := hq
                  try simp only [Bool.and_eq_true, Bool.or_eq_true, Bool.not_eq_true', Bool.not_eq_false', decide_eq_true_eq, decide_eq_false_iff_not] at hq'
                  exact at_load one_3 (cv (v := .pointer (some ((adr A_).add ((q_ : Int).toNat * 1)))) hq) (hr.cell hS (by omega) (by omega))) ?_
              refine o_if (v := .int .i64 r17) 158 153 false (!(((decide ((rd xs_ (q_ : Int)) < r17)) || (decide ((40 - (rd wide (q_ : Int))) < (rd xs_ (q_ : Int))))) || ((decide ((rd xs_ (q_ : Int)) < (40 - (rd wide (q_ : Int))))) && (decide (((((rd xs_ (q_ : Int)) - (rd want (q_ : Int))) + 1) * (((rd xs_ (q_ : Int)) - (rd want (q_ : Int))) + 1)) < (((rd xs_ (q_ : Int)) - (rd want (q_ : Int))) * ((rd xs_ (q_ : Int)) - (rd want (q_ : Int))))))))) (says_f _) (fun hq => by
                  have hq' := hq
                  try simp only [Bool.and_eq_true, Bool.or_eq_true, Bool.not_eq_true', Bool.not_eq_false', decide_eq_true_eq, decide_eq_false_iff_not] at hq'
                  exact Yl.at (yl_move rfl)) ?_
              refine o_if (v := .bool (decide (r17 < (rd xs_ (q_ : Int))))) 159 153 false (!(((decide ((rd xs_ (q_ : Int)) < r17)) || (decide ((40 - (rd wide (q_ : Int))) < (rd xs_ (q_ : Int))))) || ((decide ((rd xs_ (q_ : Int)) < (40 - (rd wide (q_ : Int))))) && (decide (((((rd xs_ (q_ : Int)) - (rd want (q_ : Int))) + 1) * (((rd xs_ (q_ : Int)) - (rd want (q_ : Int))) + 1)) < (((rd xs_ (q_ : Int)) - (rd want (q_ : Int))) * ((rd xs_ (q_ : Int)) - (rd want (q_ : Int))))))))) (says_f _) (fun hq => by
                  have hq' := hq
                  try simp only [Bool.and_eq_true, Bool.or_eq_true, Bool.not_eq_true', Bool.not_eq_false', decide_eq_true_eq, decide_eq_false_iff_not] at hq'
                  exact Yl.at (yl_gtr (cv (v := .int .i64 (rd xs_ (q_ : Int))) hq) (cv (v := .int .i64 r17) hq))) ?_
              refine o_if (v := .bool (decide (r17 < (rd xs_ (q_ : Int))))) 160 153 false (!(((decide ((rd xs_ (q_ : Int)) < r17)) || (decide ((40 - (rd wide (q_ : Int))) < (rd xs_ (q_ : Int))))) || ((decide ((rd xs_ (q_ : Int)) < (40 - (rd wide (q_ : Int))))) && (decide (((((rd xs_ (q_ : Int)) - (rd want (q_ : Int))) + 1) * (((rd xs_ (q_ : Int)) - (rd want (q_ : Int))) + 1)) < (((rd xs_ (q_ : Int)) - (rd want (q_ : Int))) * ((rd xs_ (q_ : Int)) - (rd want (q_ : Int))))))))) (says_f _) (fun hq => by
                  have hq' := hq
                  try simp only [Bool.and_eq_true, Bool.or_eq_true, Bool.not_eq_true', Bool.not_eq_false', decide_eq_true_eq, decide_eq_false_iff_not] at hq'
                  exact Yl.at (yl_move (cv (v := .bool (decide (r17 < (rd xs_ (q_ : Int))))) hq))) ?_
              refine o_if (v := .int .i64 ((rd xs_ (q_ : Int)) - (rd want (q_ : Int)))) 161 160 true ((!(((decide ((rd xs_ (q_ : Int)) < r17)) || (decide ((40 - (rd wide (q_ : Int))) < (rd xs_ (q_ : Int))))) || ((decide ((rd xs_ (q_ : Int)) < (40 - (rd wide (q_ : Int))))) && (decide (((((rd xs_ (q_ : Int)) - (rd want (q_ : Int))) + 1) * (((rd xs_ (q_ : Int)) - (rd want (q_ : Int))) + 1)) < (((rd xs_ (q_ : Int)) - (rd want (q_ : Int))) * ((rd xs_ (q_ : Int)) - (rd want (q_ : Int))))))))) && (decide (r17 < (rd xs_ (q_ : Int))))) (says_ift _ _) (fun hq => by
                  have hq' := hq
                  try simp only [Bool.and_eq_true, Bool.or_eq_true, Bool.not_eq_true', Bool.not_eq_false', decide_eq_true_eq, decide_eq_false_iff_not] at hq'
                  exact Yl.at (yl_move rfl)) ?_
              refine o_if (v := .int .i64 (((rd xs_ (q_ : Int)) - (rd want (q_ : Int))) - 1)) 162 160 true ((!(((decide ((rd xs_ (q_ : Int)) < r17)) || (decide ((40 - (rd wide (q_ : Int))) < (rd xs_ (q_ : Int))))) || ((decide ((rd xs_ (q_ : Int)) < (40 - (rd wide (q_ : Int))))) && (decide (((((rd xs_ (q_ : Int)) - (rd want (q_ : Int))) + 1) * (((rd xs_ (q_ : Int)) - (rd want (q_ : Int))) + 1)) < (((rd xs_ (q_ : Int)) - (rd want (q_ : Int))) * ((rd xs_ (q_ : Int)) - (rd want (q_ : Int))))))))) && (decide (r17 < (rd xs_ (q_ : Int))))) (says_ift _ _) (fun hq => by
                  have hq' := hq
                  try simp only [Bool.and_eq_true, Bool.or_eq_true, Bool.not_eq_true', Bool.not_eq_false', decide_eq_true_eq, decide_eq_false_iff_not] at hq'
                  exact Yl.at (yl_sub (a := (rd xs_ (q_ : Int)) - (rd want (q_ : Int))) (b := 1) (cv (v := .int .i64 ((rd xs_ (q_ : Int)) - (rd want (q_ : Int)))) hq) rfl (wrap_i64 (by omega)))) ?_
              refine o_if (v := .int .i64 ((rd xs_ (q_ : Int)) - (rd want (q_ : Int)))) 163 160 true ((!(((decide ((rd xs_ (q_ : Int)) < r17)) || (decide ((40 - (rd wide (q_ : Int))) < (rd xs_ (q_ : Int))))) || ((decide ((rd xs_ (q_ : Int)) < (40 - (rd wide (q_ : Int))))) && (decide (((((rd xs_ (q_ : Int)) - (rd want (q_ : Int))) + 1) * (((rd xs_ (q_ : Int)) - (rd want (q_ : Int))) + 1)) < (((rd xs_ (q_ : Int)) - (rd want (q_ : Int))) * ((rd xs_ (q_ : Int)) - (rd want (q_ : Int))))))))) && (decide (r17 < (rd xs_ (q_ : Int))))) (says_ift _ _) (fun hq => by
                  have hq' := hq
                  try simp only [Bool.and_eq_true, Bool.or_eq_true, Bool.not_eq_true', Bool.not_eq_false', decide_eq_true_eq, decide_eq_false_iff_not] at hq'
                  exact Yl.at (yl_move rfl)) ?_
              refine o_if (v := .int .i64 (((rd xs_ (q_ : Int)) - (rd want (q_ : Int))) - 1)) 164 160 true ((!(((decide ((rd xs_ (q_ : Int)) < r17)) || (decide ((40 - (rd wide (q_ : Int))) < (rd xs_ (q_ : Int))))) || ((decide ((rd xs_ (q_ : Int)) < (40 - (rd wide (q_ : Int))))) && (decide (((((rd xs_ (q_ : Int)) - (rd want (q_ : Int))) + 1) * (((rd xs_ (q_ : Int)) - (rd want (q_ : Int))) + 1)) < (((rd xs_ (q_ : Int)) - (rd want (q_ : Int))) * ((rd xs_ (q_ : Int)) - (rd want (q_ : Int))))))))) && (decide (r17 < (rd xs_ (q_ : Int))))) (says_ift _ _) (fun hq => by
                  have hq' := hq
                  try simp only [Bool.and_eq_true, Bool.or_eq_true, Bool.not_eq_true', Bool.not_eq_false', decide_eq_true_eq, decide_eq_false_iff_not] at hq'
                  exact Yl.at (yl_sub (a := (rd xs_ (q_ : Int)) - (rd want (q_ : Int))) (b := 1) (cv (v := .int .i64 ((rd xs_ (q_ : Int)) - (rd want (q_ : Int)))) hq) rfl (wrap_i64 (by omega)))) ?_
              refine o_if (v := .int .i64 ((((rd xs_ (q_ : Int)) - (rd want (q_ : Int))) - 1) * (((rd xs_ (q_ : Int)) - (rd want (q_ : Int))) - 1))) 165 160 true ((!(((decide ((rd xs_ (q_ : Int)) < r17)) || (decide ((40 - (rd wide (q_ : Int))) < (rd xs_ (q_ : Int))))) || ((decide ((rd xs_ (q_ : Int)) < (40 - (rd wide (q_ : Int))))) && (decide (((((rd xs_ (q_ : Int)) - (rd want (q_ : Int))) + 1) * (((rd xs_ (q_ : Int)) - (rd want (q_ : Int))) + 1)) < (((rd xs_ (q_ : Int)) - (rd want (q_ : Int))) * ((rd xs_ (q_ : Int)) - (rd want (q_ : Int))))))))) && (decide (r17 < (rd xs_ (q_ : Int))))) (says_ift _ _) (fun hq => by
                  have hq' := hq
                  try simp only [Bool.and_eq_true, Bool.or_eq_true, Bool.not_eq_true', Bool.not_eq_false', decide_eq_true_eq, decide_eq_false_iff_not] at hq'
                  exact Yl.at (yl_mul (a := ((rd xs_ (q_ : Int)) - (rd want (q_ : Int))) - 1) (b := ((rd xs_ (q_ : Int)) - (rd want (q_ : Int))) - 1) (cv (v := .int .i64 (((rd xs_ (q_ : Int)) - (rd want (q_ : Int))) - 1)) hq) (cv (v := .int .i64 (((rd xs_ (q_ : Int)) - (rd want (q_ : Int))) - 1)) hq) (wrap_i64 (sq_small (by omega) (by omega))))) ?_
              refine o_if (v := .int .i64 ((rd xs_ (q_ : Int)) - (rd want (q_ : Int)))) 166 160 true ((!(((decide ((rd xs_ (q_ : Int)) < r17)) || (decide ((40 - (rd wide (q_ : Int))) < (rd xs_ (q_ : Int))))) || ((decide ((rd xs_ (q_ : Int)) < (40 - (rd wide (q_ : Int))))) && (decide (((((rd xs_ (q_ : Int)) - (rd want (q_ : Int))) + 1) * (((rd xs_ (q_ : Int)) - (rd want (q_ : Int))) + 1)) < (((rd xs_ (q_ : Int)) - (rd want (q_ : Int))) * ((rd xs_ (q_ : Int)) - (rd want (q_ : Int))))))))) && (decide (r17 < (rd xs_ (q_ : Int))))) (says_ift _ _) (fun hq => by
                  have hq' := hq
                  try simp only [Bool.and_eq_true, Bool.or_eq_true, Bool.not_eq_true', Bool.not_eq_false', decide_eq_true_eq, decide_eq_false_iff_not] at hq'
                  exact Yl.at (yl_move rfl)) ?_
              refine o_if (v := .int .i64 ((rd xs_ (q_ : Int)) - (rd want (q_ : Int)))) 167 160 true ((!(((decide ((rd xs_ (q_ : Int)) < r17)) || (decide ((40 - (rd wide (q_ : Int))) < (rd xs_ (q_ : Int))))) || ((decide ((rd xs_ (q_ : Int)) < (40 - (rd wide (q_ : Int))))) && (decide (((((rd xs_ (q_ : Int)) - (rd want (q_ : Int))) + 1) * (((rd xs_ (q_ : Int)) - (rd want (q_ : Int))) + 1)) < (((rd xs_ (q_ : Int)) - (rd want (q_ : Int))) * ((rd xs_ (q_ : Int)) - (rd want (q_ : Int))))))))) && (decide (r17 < (rd xs_ (q_ : Int))))) (says_ift _ _) (fun hq => by
                  have hq' := hq
                  try simp only [Bool.and_eq_true, Bool.or_eq_true, Bool.not_eq_true', Bool.not_eq_false', decide_eq_true_eq, decide_eq_false_iff_not] at hq'
                  exact Yl.at (yl_move rfl)) ?_
              refine o_if (v := .int .i64 (((rd xs_ (q_ : Int)) - (rd want (q_ : Int))) * ((rd xs_ (q_ : Int)) - (rd want (q_ : Int))))) 168 160 true ((!(((decide ((rd xs_ (q_ : Int)) < r17)) || (decide ((40 - (rd wide (q_ : Int))) < (rd xs_ (q_ : Int))))) || ((decide ((rd xs_ (q_ : Int)) < (40 - (rd wide (q_ : Int))))) && (decide (((((rd xs_ (q_ : Int)) - (rd want (q_ : Int))) + 1) * (((rd xs_ (q_ : Int)) - (rd want (q_ : Int))) + 1)) < (((rd xs_ (q_ : Int)) - (rd want (q_ : Int))) * ((rd xs_ (q_ : Int)) - (rd want (q_ : Int))))))))) && (decide (r17 < (rd xs_ (q_ : Int))))) (says_ift _ _) (fun hq => by
                  have hq' := hq
                  try simp only [Bool.and_eq_true, Bool.or_eq_true, Bool.not_eq_true', Bool.not_eq_false', decide_eq_true_eq, decide_eq_false_iff_not] at hq'
                  exact Yl.at (yl_mul (a := (rd xs_ (q_ : Int)) - (rd want (q_ : Int))) (b := (rd xs_ (q_ : Int)) - (rd want (q_ : Int))) (cv (v := .int .i64 ((rd xs_ (q_ : Int)) - (rd want (q_ : Int)))) hq) (cv (v := .int .i64 ((rd xs_ (q_ : Int)) - (rd want (q_ : Int)))) hq) (wrap_i64 (sq_small (by omega) (by omega))))) ?_
              refine o_if (v := .bool (decide (((((rd xs_ (q_ : Int)) - (rd want (q_ : Int))) - 1) * (((rd xs_ (q_ : Int)) - (rd want (q_ : Int))) - 1)) ≤ (((rd xs_ (q_ : Int)) - (rd want (q_ : Int))) * ((rd xs_ (q_ : Int)) - (rd want (q_ : Int))))))) 169 160 true ((!(((decide ((rd xs_ (q_ : Int)) < r17)) || (decide ((40 - (rd wide (q_ : Int))) < (rd xs_ (q_ : Int))))) || ((decide ((rd xs_ (q_ : Int)) < (40 - (rd wide (q_ : Int))))) && (decide (((((rd xs_ (q_ : Int)) - (rd want (q_ : Int))) + 1) * (((rd xs_ (q_ : Int)) - (rd want (q_ : Int))) + 1)) < (((rd xs_ (q_ : Int)) - (rd want (q_ : Int))) * ((rd xs_ (q_ : Int)) - (rd want (q_ : Int))))))))) && (decide (r17 < (rd xs_ (q_ : Int))))) (says_ift _ _) (fun hq => by
                  have hq' := hq
                  try simp only [Bool.and_eq_true, Bool.or_eq_true, Bool.not_eq_true', Bool.not_eq_false', decide_eq_true_eq, decide_eq_false_iff_not] at hq'
                  exact Yl.at (yl_leq (cv (v := .int .i64 ((((rd xs_ (q_ : Int)) - (rd want (q_ : Int))) - 1) * (((rd xs_ (q_ : Int)) - (rd want (q_ : Int))) - 1))) hq) (cv (v := .int .i64 (((rd xs_ (q_ : Int)) - (rd want (q_ : Int))) * ((rd xs_ (q_ : Int)) - (rd want (q_ : Int))))) hq))) ?_
              refine o_if (v := .bool ((decide (r17 < (rd xs_ (q_ : Int)))) && (decide (((((rd xs_ (q_ : Int)) - (rd want (q_ : Int))) - 1) * (((rd xs_ (q_ : Int)) - (rd want (q_ : Int))) - 1)) ≤ (((rd xs_ (q_ : Int)) - (rd want (q_ : Int))) * ((rd xs_ (q_ : Int)) - (rd want (q_ : Int)))))))) 170 153 false (!(((decide ((rd xs_ (q_ : Int)) < r17)) || (decide ((40 - (rd wide (q_ : Int))) < (rd xs_ (q_ : Int))))) || ((decide ((rd xs_ (q_ : Int)) < (40 - (rd wide (q_ : Int))))) && (decide (((((rd xs_ (q_ : Int)) - (rd want (q_ : Int))) + 1) * (((rd xs_ (q_ : Int)) - (rd want (q_ : Int))) + 1)) < (((rd xs_ (q_ : Int)) - (rd want (q_ : Int))) * ((rd xs_ (q_ : Int)) - (rd want (q_ : Int))))))))) (says_f _) (fun hq => by
                  have hq' := hq
                  try simp only [Bool.and_eq_true, Bool.or_eq_true, Bool.not_eq_true', Bool.not_eq_false', decide_eq_true_eq, decide_eq_false_iff_not] at hq'
                  exact Yl.at (yl_and (cv (v := .bool (decide (r17 < (rd xs_ (q_ : Int))))) hq) (fun hc => (cv (v := .bool (decide (((((rd xs_ (q_ : Int)) - (rd want (q_ : Int))) - 1) * (((rd xs_ (q_ : Int)) - (rd want (q_ : Int))) - 1)) ≤ (((rd xs_ (q_ : Int)) - (rd want (q_ : Int))) * ((rd xs_ (q_ : Int)) - (rd want (q_ : Int))))))) (and_i hq hc))) rfl)) ?_
              refine o_pure (v := .bool ((((decide ((rd xs_ (q_ : Int)) < r17)) || (decide ((40 - (rd wide (q_ : Int))) < (rd xs_ (q_ : Int))))) || ((decide ((rd xs_ (q_ : Int)) < (40 - (rd wide (q_ : Int))))) && (decide (((((rd xs_ (q_ : Int)) - (rd want (q_ : Int))) + 1) * (((rd xs_ (q_ : Int)) - (rd want (q_ : Int))) + 1)) < (((rd xs_ (q_ : Int)) - (rd want (q_ : Int))) * ((rd xs_ (q_ : Int)) - (rd want (q_ : Int)))))))) || ((decide (r17 < (rd xs_ (q_ : Int)))) && (decide (((((rd xs_ (q_ : Int)) - (rd want (q_ : Int))) - 1) * (((rd xs_ (q_ : Int)) - (rd want (q_ : Int))) - 1)) ≤ (((rd xs_ (q_ : Int)) - (rd want (q_ : Int))) * ((rd xs_ (q_ : Int)) - (rd want (q_ : Int))))))))) 171 (yl_or rfl rfl (fun hc => (cv (v := .bool ((decide (r17 < (rd xs_ (q_ : Int)))) && (decide (((((rd xs_ (q_ : Int)) - (rd want (q_ : Int))) - 1) * (((rd xs_ (q_ : Int)) - (rd want (q_ : Int))) - 1)) ≤ (((rd xs_ (q_ : Int)) - (rd want (q_ : Int))) * ((rd xs_ (q_ : Int)) - (rd want (q_ : Int)))))))) (t_not hc)))) ?_
              refine x_done ?_
              refine x_cond (t := (((decide ((rd xs_ (q_ : Int)) < r17)) || (decide ((40 - (rd wide (q_ : Int))) < (rd xs_ (q_ : Int))))) || ((decide ((rd xs_ (q_ : Int)) < (40 - (rd wide (q_ : Int))))) && (decide (((((rd xs_ (q_ : Int)) - (rd want (q_ : Int))) + 1) * (((rd xs_ (q_ : Int)) - (rd want (q_ : Int))) + 1)) < (((rd xs_ (q_ : Int)) - (rd want (q_ : Int))) * ((rd xs_ (q_ : Int)) - (rd want (q_ : Int)))))))) || ((decide (r17 < (rd xs_ (q_ : Int)))) && (decide (((((rd xs_ (q_ : Int)) - (rd want (q_ : Int))) - 1) * (((rd xs_ (q_ : Int)) - (rd want (q_ : Int))) - 1)) ≤ (((rd xs_ (q_ : Int)) - (rd want (q_ : Int))) * ((rd xs_ (q_ : Int)) - (rd want (q_ : Int)))))))) rfl (fun hbig => ?_) (fun hbig => ?_)
              · skip
                simp only [Bool.and_eq_true, Bool.or_eq_true, Bool.and_eq_false_iff, Bool.or_eq_false_iff, Bool.not_eq_true', Bool.not_eq_false', decide_eq_true_eq, decide_eq_false_iff_not] at hbig
                exfalso
                rcases hbig with (((h | h) | ⟨h, h'⟩) | ⟨h, h'⟩)
                · omega
                · omega
                · exact g3 ⟨h, h'⟩
                · exact g4 ⟨h, h'⟩
              · skip
                simp only [Bool.and_eq_true, Bool.or_eq_true, Bool.and_eq_false_iff, Bool.or_eq_false_iff, Bool.not_eq_true', Bool.not_eq_false', decide_eq_true_eq, decide_eq_false_iff_not] at hbig
                refine x_skip ?_
                refine x_blk ?_
                refine x_region ?_
                refine o_pure (v := .int .i64 ((q_ : Int) + 1)) 172 (yl_add (a := (q_ : Int)) (b := 1) e74 rfl (wrap_i64 (by omega))) ?_
                refine o_pure (v := .int .i64 ((q_ : Int) + 1)) 74 (yl_move rfl) ?_
                refine x_done ?_
                refine x_inv ⟨want.length - (q_ + 1), by omega, q_ + 1, Eq.trans (b := Value.int .i64 ((q_ : Int) + 1)) rfl (congrArg (Value.int .i64) (by omega)), e4, e5, e7, e8, e73, by omega, by omega, hS⟩
        · skip
          refine x_exitTo _ rfl ?_
          refine x_seq ?_
          refine x_region ?_
          refine o_pure (v := .bool true) 2 (yl_assign rfl) ?_
          refine x_done ?_
          refine x_return ?_
          refine ⟨.bool true, rfl, ?_⟩
          exact ⟨_, by first | rfl | (simp; done) | (simp; omega), (Le.trans (Le.trans hle_v1 hle_v2) hler), (hS.pull 1).drop⟩
    · skip
      refine x_region ?_
      refine o_pure (v := .slice A12 want.length c13) 43 (yl_move e4) ?_
      refine o_pure (v := .slice A15 wide.length c16) 44 (yl_move e5) ?_
      refine o_pure (v := .int .i64 r17) 45 (yl_move rfl) ?_
      refine o_pure (v := .agg #[.int .i64 r17, .int .i64 40]) 46 (yl_build bld_32 bldf_32 (ps := [(0, .int .i64 r17), (1, .int .i64 40)]) rfl rfl) ?_
      refine o_call (vs := [.slice A12 want.length c13, .slice A15 wide.length c16, .agg #[.int .i64 r17, .int .i64 40]]) call_16 rfl (Calls.mono (Row_full (want := want) (wide := wide) (f := r17) (t := 40) hWa hWb (by omega) (by omega) (by omega) (by omega) (by omega) (fun x hx => by have := hwr x hx; omega) (fun x hx => by have := hvr x hx; omega) (by omega) (hS.pull 1)) ?_)
      rintro e w' ⟨rfl, hS⟩
      refine ⟨_, rfl, ?_⟩
      refine o_pure (v := .tuple #[.slice none 0 0, .int .i64 14]) 42 (yl_move rfl) ?_
      refine o_pure (v := .slice none 0 0) 48 (yl_extract rfl rfl) ?_
      refine o_pure (v := .int .i64 14) 49 (yl_extract rfl rfl) ?_
      refine o_pure (v := .slice none 0 0) 8 (yl_assign rfl) ?_
      refine o_pure (v := .int .i64 14) 9 (yl_assign rfl) ?_
      refine x_done ?_
      refine x_seq ?_
      refine x_seq ?_
      refine x_region ?_
      have hcall_ : Calls Try.prog 17 ⟨[]⟩ _ (fun e w' => e = .returned (.bool true) ∧ St w0 w' (ro ρ14 :: strm b1 A c L (1 + 2 * (i : Int) + 1) :: l)) := (rows_spec hS).mono fun e w' h => ⟨h.1, h.2⟩
      refine o_call (vs := []) call_17 rfl (Calls.mono hcall_ ?_)
      rintro e w' ⟨rfl, hS⟩
      refine ⟨_, rfl, ?_⟩
      refine o_pure (v := .bool (!true)) 51 (yl_not rfl) ?_
      refine o_pure (v := .bool (!true)) 52 (yl_move rfl) ?_
      refine o_if (v := .int .i64 14) 53 52 false (!(!true)) (says_f _) (fun hq => by
          have hq' := hq
          try simp only [Bool.and_eq_true, Bool.or_eq_true, Bool.not_eq_true', Bool.not_eq_false', decide_eq_true_eq, decide_eq_false_iff_not] at hq'
          exact Yl.at (yl_move rfl)) ?_
      refine o_if (v := .bool (decide ((14 : Int) ≠ 0))) 54 52 false (!(!true)) (says_f _) (fun hq => by
          have hq' := hq
          try simp only [Bool.and_eq_true, Bool.or_eq_true, Bool.not_eq_true', Bool.not_eq_false', decide_eq_true_eq, decide_eq_false_iff_not] at hq'
          exact Yl.at (yl_neq (cv (v := .int .i64 14) hq) rfl)) ?_
      refine o_pure (v := .bool ((!true) || (decide ((14 : Int) ≠ 0)))) 55 (yl_or rfl rfl (fun hc => (cv (v := .bool (decide ((14 : Int) ≠ 0))) (t_not hc)))) ?_
      refine o_pure (v := .bool ((!true) || (decide ((14 : Int) ≠ 0)))) 56 (yl_move rfl) ?_
      refine o_if (v := .slice none 0 0) 57 56 false (!((!true) || (decide ((14 : Int) ≠ 0)))) (says_f _) (fun hq => by
          have hq' := hq
          try simp only [Bool.and_eq_true, Bool.or_eq_true, Bool.not_eq_true', Bool.not_eq_false', decide_eq_true_eq, decide_eq_false_iff_not] at hq'
          exact Yl.at (yl_move rfl)) ?_
      refine o_if (v := .int .i64 0) 58 56 false (!((!true) || (decide ((14 : Int) ≠ 0)))) (says_f _) (fun hq => by
          have hq' := hq
          try simp only [Bool.and_eq_true, Bool.or_eq_true, Bool.not_eq_true', Bool.not_eq_false', decide_eq_true_eq, decide_eq_false_iff_not] at hq'
          exact Yl.at (yl_len_slice us_22 (cv (v := .slice none 0 0) hq))) ?_
      refine o_if (v := .slice A12 want.length c13) 59 56 false (!((!true) || (decide ((14 : Int) ≠ 0)))) (says_f _) (fun hq => by
          have hq' := hq
          try simp only [Bool.and_eq_true, Bool.or_eq_true, Bool.not_eq_true', Bool.not_eq_false', decide_eq_true_eq, decide_eq_false_iff_not] at hq'
          exact Yl.at (yl_move e4)) ?_
      refine o_if (v := .int .i64 (want.length : Int)) 60 56 false (!((!true) || (decide ((14 : Int) ≠ 0)))) (says_f _) (fun hq => by
          have hq' := hq
          try simp only [Bool.and_eq_true, Bool.or_eq_true, Bool.not_eq_true', Bool.not_eq_false', decide_eq_true_eq, decide_eq_false_iff_not] at hq'
          exact Yl.at (yl_len_slice us_22 (cv (v := .slice A12 want.length c13) hq))) ?_
      refine o_if (v := .bool (decide (0 ≠ (want.length : Int)))) 61 56 false (!((!true) || (decide ((14 : Int) ≠ 0)))) (says_f _) (fun hq => by
          have hq' := hq
          try simp only [Bool.and_eq_true, Bool.or_eq_true, Bool.not_eq_true', Bool.not_eq_false', decide_eq_true_eq, decide_eq_false_iff_not] at hq'
          exact Yl.at (yl_neq (cv (v := .int .i64 0) hq) (cv (v := .int .i64 (want.length : Int)) hq))) ?_
      refine o_pure (v := .bool (((!true) || (decide ((14 : Int) ≠ 0))) || (decide (0 ≠ (want.length : Int))))) 62 (yl_or rfl rfl (fun hc => (cv (v := .bool (decide (0 ≠ (want.length : Int)))) (t_not hc)))) ?_
      refine o_pure (v := .bool (((!true) || (decide ((14 : Int) ≠ 0))) || (decide (0 ≠ (want.length : Int))))) 63 (yl_move rfl) ?_
      refine o_if (v := .int .i64 wide.sum) 64 63 false (!(((!true) || (decide ((14 : Int) ≠ 0))) || (decide (0 ≠ (want.length : Int))))) (says_f _) (fun hq => by
          have hq' := hq
          try simp only [Bool.and_eq_true, Bool.or_eq_true, Bool.not_eq_true', Bool.not_eq_false', decide_eq_true_eq, decide_eq_false_iff_not] at hq'
          exact Yl.at (yl_move e6)) ?_
      refine o_if (v := .bool (decide (37 < wide.sum))) 65 63 false (!(((!true) || (decide ((14 : Int) ≠ 0))) || (decide (0 ≠ (want.length : Int))))) (says_f _) (fun hq => by
          have hq' := hq
          try simp only [Bool.and_eq_true, Bool.or_eq_true, Bool.not_eq_true', Bool.not_eq_false', decide_eq_true_eq, decide_eq_false_iff_not] at hq'
          exact Yl.at (yl_gtr (cv (v := .int .i64 wide.sum) hq) rfl)) ?_
      refine o_pure (v := .bool ((((!true) || (decide ((14 : Int) ≠ 0))) || (decide (0 ≠ (want.length : Int)))) || (decide (37 < wide.sum)))) 66 (yl_or rfl rfl (fun hc => (cv (v := .bool (decide (37 < wide.sum))) (t_not hc)))) ?_
      refine x_done ?_
      refine x_cond (t := (((!true) || (decide ((14 : Int) ≠ 0))) || (decide (0 ≠ (want.length : Int)))) || (decide (37 < wide.sum))) rfl (fun hc1 => ?_) (fun hc1 => ?_)
      · skip
        simp only [Bool.and_eq_true, Bool.or_eq_true, Bool.and_eq_false_iff, Bool.or_eq_false_iff, Bool.not_eq_true', Bool.not_eq_false', decide_eq_true_eq, decide_eq_false_iff_not] at hc1
        refine x_seq ?_
        refine x_region ?_
        have hcall_ : Calls Try.prog 17 ⟨[]⟩ _ (fun e w' => e = .returned (.bool true) ∧ St w0 w' (ro ρ14 :: strm b1 A c L (1 + 2 * (i : Int) + 1) :: l)) := (rows_spec hS).mono fun e w' h => ⟨h.1, h.2⟩
        refine o_call (vs := []) call_17 rfl (Calls.mono hcall_ ?_)
        rintro e w' ⟨rfl, hS⟩
        refine ⟨_, rfl, ?_⟩
        refine o_pure (v := .bool true) 68 (yl_move rfl) ?_
        refine o_if (v := .int .i64 wide.sum) 69 68 true (true) (says_t _) (fun hq => by
            have hq' := hq
            try simp only [Bool.and_eq_true, Bool.or_eq_true, Bool.not_eq_true', Bool.not_eq_false', decide_eq_true_eq, decide_eq_false_iff_not] at hq'
            exact Yl.at (yl_move e6)) ?_
        refine o_if (v := .bool (decide (37 < wide.sum))) 70 68 true (true) (says_t _) (fun hq => by
            have hq' := hq
            try simp only [Bool.and_eq_true, Bool.or_eq_true, Bool.not_eq_true', Bool.not_eq_false', decide_eq_true_eq, decide_eq_false_iff_not] at hq'
            exact Yl.at (yl_gtr (cv (v := .int .i64 wide.sum) hq) rfl)) ?_
        refine o_pure (v := .bool (true && (decide (37 < wide.sum)))) 71 (yl_and rfl (fun hc => (cv (v := .bool (decide (37 < wide.sum))) hc)) rfl) ?_
        refine o_pure (v := .bool (true && (decide (37 < wide.sum)))) 2 (yl_assign rfl) ?_
        refine x_done ?_
        refine x_return ?_
        refine ⟨.bool (true && (decide (37 < wide.sum))), rfl, ?_⟩
        exact ⟨_, by first | rfl | (simp; done) | (simp; omega), (Le.trans hle_v1 hle_v2), (hS.pull 1).drop⟩
      · skip
        simp only [Bool.and_eq_true, Bool.or_eq_true, Bool.and_eq_false_iff, Bool.or_eq_false_iff, Bool.not_eq_true', Bool.not_eq_false', decide_eq_true_eq, decide_eq_false_iff_not] at hc1
        exfalso
        simp at hc1

end Go.Proofs.Ytnooiajahmichaa.X
