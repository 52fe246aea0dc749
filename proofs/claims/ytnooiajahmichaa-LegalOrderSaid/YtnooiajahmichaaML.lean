/- legal.Row: what it returns. -/
import Derived.Test.YtnooiajahmichaaLG
import Derived.Test.YtnooiajahmichaaMA
namespace Go.Proofs.Ytnooiajahmichaa.X
open Go Go.RowKit
set_option linter.unusedVariables false
set_option linter.unusedSimpArgs false

theorem cost_spec {w0 w : World} {l : List Assn} {ρ : Heap} {B : Option Addr} {cb : Nat} {b : List Int} {bn : Nat} {wt wd at_ f t : Int} (hbn : b.length = bn) (hB : RI ρ .i64 B b) (h1 : -100000 ≤ wt ∧ wt ≤ 100000) (h2 : 0 ≤ wd ∧ wd ≤ 100000) (h3 : 0 ≤ at_ ∧ at_ ≤ 100000) (h4 : 0 ≤ f) (h5 : f ≤ at_) (hb : ∀ i : Int, 0 ≤ i → i < b.length → rd b i ≤ 1000000000000000) (hS : St w0 w (ro ρ :: l)) :
    Calls Try.prog 73 #[.int .i64 wt, .int .i64 wd, .int .i64 at_, .slice B bn cb, .agg #[.int .i64 f, .int .i64 t]] w fun e w' => e = .returned (.tuple #[.int .i64 (costF wt wd at_ f b).1, .bool (costF wt wd at_ f b).2]) ∧ St w0 w' (ro ρ :: l) := by
  refine enter Try.func73 rfl 42 rfl (by simp) ?_
  refine x_seq ?_
  refine x_region ?_
  refine o_box (cs := [.int .i64 f, .int .i64 t]) rfl rfl hS (fun b1 w' hS => ?_)
  refine o_pure (v := .int .i64 0) 10 (yl_assign rfl) ?_
  refine o_pure (v := .bool false) 11 (yl_assign rfl) ?_
  refine x_done ?_
  refine x_seq ?_
  refine x_region ?_
  refine o_pure (v := .int .i64 at_) 13 (yl_move rfl) ?_
  refine o_pure (v := .int .i64 wd) 14 (yl_move rfl) ?_
  refine o_pure (v := .int .i64 (at_ + wd)) 15 (yl_add (a := at_) (b := wd) rfl rfl (wrap_i64 (by omega))) ?_
  refine o_pure (v := .pointer (some ⟨b1, 0, none⟩)) 16 (yl_field0 fld_32_0 rfl) ?_
  refine o_at (v := .int .i64 f) 17 (at_load one_3 rfl (hS.cell rfl)) ?_
  refine o_pure (v := .int .i64 ((at_ + wd) - f)) 18 (yl_sub (a := at_ + wd) (b := f) rfl rfl (wrap_i64 (by omega))) ?_
  refine o_pure (v := .int .i64 ((at_ + wd) - f)) 12 (yl_assign rfl) ?_
  refine x_done ?_
  refine x_seq ?_
  refine x_seq ?_
  refine x_region ?_
  refine o_pure (v := .int .i64 ((at_ + wd) - f)) 19 (yl_move rfl) ?_
  refine o_pure (v := .slice B bn cb) 20 (yl_move rfl) ?_
  refine o_pure (v := .int .i64 (bn : Int)) 21 (yl_len_slice us_22 rfl) ?_
  refine o_pure (v := .bool (decide ((bn : Int) ≤ ((at_ + wd) - f)))) 22 (yl_geq rfl rfl) ?_
  refine o_pure (v := .bool (decide ((bn : Int) ≤ ((at_ + wd) - f)))) 23 (yl_move rfl) ?_
  refine o_if (v := .slice B bn cb) 24 23 false (!(decide ((bn : Int) ≤ ((at_ + wd) - f)))) (says_f _) (fun hq => by
      have hq' := hq
      try simp only [Bool.and_eq_true, Bool.or_eq_true, Bool.not_eq_true', Bool.not_eq_false', decide_eq_true_eq, decide_eq_false_iff_not] at hq'
      exact Yl.at (yl_move rfl)) ?_
  refine o_if (v := .int .i64 ((at_ + wd) - f)) 25 23 false (!(decide ((bn : Int) ≤ ((at_ + wd) - f)))) (says_f _) (fun hq => by
      have hq' := hq
      try simp only [Bool.and_eq_true, Bool.or_eq_true, Bool.not_eq_true', Bool.not_eq_false', decide_eq_true_eq, decide_eq_false_iff_not] at hq'
      exact Yl.at (yl_move rfl)) ?_
  refine o_if (v := .pointer (some ((adr B).add (((at_ + wd) - f).toNat * 1)))) 26 23 false (!(decide ((bn : Int) ≤ ((at_ + wd) - f)))) (says_f _) (fun hq => by
      have hq' := hq
      try simp only [Bool.and_eq_true, Bool.or_eq_true, Bool.not_eq_true', Bool.not_eq_false', decide_eq_true_eq, decide_eq_false_iff_not] at hq'
      exact Yl.at (yl_index_r sl_22 (cv (v := .slice B bn cb) hq) (cv (v := .int .i64 ((at_ + wd) - f)) hq) (hB.some (i := (at_ + wd) - f) (by omega) (by omega)) (by omega) (by omega))) ?_
  refine o_if (v := .int .i64 (rd b ((at_ + wd) - f))) 27 23 false (!(decide ((bn : Int) ≤ ((at_ + wd) - f)))) (says_f _) (fun hq => by
      have hq' := hq
      try simp only [Bool.and_eq_true, Bool.or_eq_true, Bool.not_eq_true', Bool.not_eq_false', decide_eq_true_eq, decide_eq_false_iff_not] at hq'
      exact at_load one_3 (cv (v := .pointer (some ((adr B).add (((at_ + wd) - f).toNat * 1)))) hq) (hB.cell (hS.pull 1) (by omega) (by omega))) ?_
  refine o_if (v := .bool (decide ((rd b ((at_ + wd) - f)) < 0))) 28 23 false (!(decide ((bn : Int) ≤ ((at_ + wd) - f)))) (says_f _) (fun hq => by
      have hq' := hq
      try simp only [Bool.and_eq_true, Bool.or_eq_true, Bool.not_eq_true', Bool.not_eq_false', decide_eq_true_eq, decide_eq_false_iff_not] at hq'
      exact Yl.at (yl_lss (cv (v := .int .i64 (rd b ((at_ + wd) - f))) hq) rfl)) ?_
  refine o_pure (v := .bool ((decide ((bn : Int) ≤ ((at_ + wd) - f))) || (decide ((rd b ((at_ + wd) - f)) < 0)))) 29 (yl_or rfl rfl (fun hc => (cv (v := .bool (decide ((rd b ((at_ + wd) - f)) < 0))) (t_not hc)))) ?_
  refine x_done ?_
  refine x_cond (t := (decide ((bn : Int) ≤ ((at_ + wd) - f))) || (decide ((rd b ((at_ + wd) - f)) < 0))) rfl (fun hc => ?_) (fun hc => ?_)
  · skip
    simp only [Bool.and_eq_true, Bool.or_eq_true, Bool.and_eq_false_iff, Bool.or_eq_false_iff, Bool.not_eq_true', Bool.not_eq_false', decide_eq_true_eq, decide_eq_false_iff_not] at hc
    refine x_seq ?_
    refine x_region ?_
    refine o_pure (v := .int .i64 0) 10 (yl_assign rfl) ?_
    refine o_pure (v := .bool false) 11 (yl_assign rfl) ?_
    refine x_done ?_
    refine x_return ?_
    refine ⟨.tuple #[.int .i64 0, .bool false], rfl, ?_⟩
    refine ⟨?_, hS.drop⟩
    unfold costF
    first | (rw [if_pos (by omega)]) | (rw [if_neg (by omega)])
  · skip
    simp only [Bool.and_eq_true, Bool.or_eq_true, Bool.and_eq_false_iff, Bool.or_eq_false_iff, Bool.not_eq_true', Bool.not_eq_false', decide_eq_true_eq, decide_eq_false_iff_not] at hc
    refine x_skip ?_
    refine x_seq ?_
    have hb1 := hb (at_ + wd - f) (by omega) (by omega)
    have hq0 := sq_nonneg (at_ - wt)
    have hq1 : (at_ - wt) * (at_ - wt) ≤ 200000 * 200000 := by
      have h6 : (at_ - wt).natAbs * (at_ - wt).natAbs ≤ 200000 * 200000 := Nat.mul_le_mul (by omega) (by omega)
      have h7 : (((at_ - wt).natAbs * (at_ - wt).natAbs : Nat) : Int) = (at_ - wt) * (at_ - wt) := Int.natAbs_mul_self
      omega
    refine x_region ?_
    refine o_pure (v := .int .i64 at_) 30 (yl_move rfl) ?_
    refine o_pure (v := .int .i64 wt) 31 (yl_move rfl) ?_
    refine o_pure (v := .int .i64 (at_ - wt)) 32 (yl_sub (a := at_) (b := wt) rfl rfl (wrap_i64 (by omega))) ?_
    refine o_pure (v := .int .i64 at_) 33 (yl_move rfl) ?_
    refine o_pure (v := .int .i64 wt) 34 (yl_move rfl) ?_
    refine o_pure (v := .int .i64 (at_ - wt)) 35 (yl_sub (a := at_) (b := wt) rfl rfl (wrap_i64 (by omega))) ?_
    refine o_pure (v := .int .i64 ((at_ - wt) * (at_ - wt))) 36 (yl_mul (a := at_ - wt) (b := at_ - wt) rfl rfl (wrap_i64 (by omega))) ?_
    refine o_pure (v := .slice B bn cb) 37 (yl_move rfl) ?_
    refine o_pure (v := .int .i64 ((at_ + wd) - f)) 38 (yl_move rfl) ?_
    refine o_pure (v := .pointer (some ((adr B).add (((at_ + wd) - f).toNat * 1)))) 39 (yl_index_r sl_22 rfl rfl (hB.some (i := (at_ + wd) - f) (by omega) (by omega)) (by omega) (by omega)) ?_
    refine o_at (v := .int .i64 (rd b ((at_ + wd) - f))) 40 (at_load one_3 rfl (hB.cell (hS.pull 1) (by omega) (by omega))) ?_
    refine o_pure (v := .int .i64 (((at_ - wt) * (at_ - wt)) + (rd b ((at_ + wd) - f)))) 41 (yl_add (a := (at_ - wt) * (at_ - wt)) (b := rd b ((at_ + wd) - f)) rfl rfl (wrap_i64 (by omega))) ?_
    refine o_pure (v := .int .i64 (((at_ - wt) * (at_ - wt)) + (rd b ((at_ + wd) - f)))) 10 (yl_assign rfl) ?_
    refine o_pure (v := .bool true) 11 (yl_assign rfl) ?_
    refine x_done ?_
    refine x_return ?_
    refine ⟨.tuple #[.int .i64 (((at_ - wt) * (at_ - wt)) + (rd b ((at_ + wd) - f))), .bool true], rfl, ?_⟩
    refine ⟨?_, hS.drop⟩
    unfold costF
    first | (rw [if_pos (by omega)]) | (rw [if_neg (by omega)])

theorem sum_take_succ (xs : List Int) (i : Nat) (h : i < xs.length) : (xs.take (i + 1)).sum = (xs.take i).sum + rd xs i := by
  rw [List.take_succ_eq_append_getElem h, List.sum_append, rd_lt xs (by simpa using h)]; simp

theorem checkRow_spec {w0 w : World} {l : List Assn} {ρ : Heap} {A0 A1 : Option Addr} {c0 c1 : Nat} {want wide : List Int} {f t : Int} (h0 : RI ρ .i64 A0 want) (h1 : RI ρ .i64 A1 wide) (hl : wide.length = want.length) (hn : want.length ≤ 40) (hf : 0 ≤ f) (ft : f ≤ t) (ht : t ≤ 40) (hw : ∀ x ∈ want, -1000 ≤ x ∧ x ≤ 1000) (hd : ∀ x ∈ wide, 1 ≤ x ∧ x ≤ 40) (hS : St w0 w (ro ρ :: l)) :
    Calls Try.prog 72 #[.slice A0 want.length c0, .slice A1 wide.length c1, .agg #[.int .i64 f, .int .i64 t]] w fun e w' => e = .returned (.int .i64 (if wide.sum ≤ t - f then 0 else 14)) ∧ St w0 w' (ro ρ :: l) := by
  refine enter Try.func72 rfl 71 rfl (by simp) ?_
  refine x_seq ?_
  refine x_region ?_
  refine o_box (cs := [.int .i64 f, .int .i64 t]) rfl rfl hS (fun b1 w' hS => ?_)
  refine o_pure (v := .int .i64 0) 6 (yl_assign rfl) ?_
  refine x_done ?_
  refine x_seq ?_
  refine x_seq ?_
  refine x_region ?_
  refine o_pure (v := .slice A0 want.length c0) 10 (yl_move rfl) ?_
  refine o_pure (v := .int .i64 (want.length : Int)) 11 (yl_len_slice us_22 rfl) ?_
  refine o_pure (v := .slice A1 wide.length c1) 12 (yl_move rfl) ?_
  refine o_pure (v := .int .i64 (wide.length : Int)) 13 (yl_len_slice us_22 rfl) ?_
  refine o_pure (v := .bool (decide ((want.length : Int) ≠ (wide.length : Int)))) 14 (yl_neq rfl rfl) ?_
  refine x_done ?_
  refine x_cond_f (show ev _ _ = .bool false from congrArg Value.bool (decide_eq_false (by omega))) ?_
  refine x_skip ?_
  refine x_seq ?_
  refine x_seq ?_
  refine x_region ?_
  refine o_pure (v := .pointer (some ⟨b1, 0, none⟩)) 15 (yl_field0 fld_32_0 rfl) ?_
  refine o_at (v := .int .i64 f) 16 (at_load one_3 rfl (hS.cell rfl)) ?_
  refine o_pure (v := .bool (decide (f < 0))) 17 (yl_lss rfl rfl) ?_
  refine o_pure (v := .bool (decide (f < 0))) 18 (yl_move rfl) ?_
  refine o_if (v := .pointer (some ⟨b1, 1, none⟩)) 19 18 false (!(decide (f < 0))) (says_f _) (fun hq => by
      have hq' := hq
      try simp only [Bool.and_eq_true, Bool.or_eq_true, Bool.not_eq_true', Bool.not_eq_false', decide_eq_true_eq, decide_eq_false_iff_not] at hq'
      exact Yl.at (yl_field0 fld_32_1 rfl)) ?_
  refine o_if (v := .int .i64 t) 20 18 false (!(decide (f < 0))) (says_f _) (fun hq => by
      have hq' := hq
      try simp only [Bool.and_eq_true, Bool.or_eq_true, Bool.not_eq_true', Bool.not_eq_false', decide_eq_true_eq, decide_eq_false_iff_not] at hq'
      exact at_load one_3 (cv (v := .pointer (some ⟨b1, 1, none⟩)) hq) (hS.cell rfl)) ?_
  refine o_if (v := .pointer (some ⟨b1, 0, none⟩)) 21 18 false (!(decide (f < 0))) (says_f _) (fun hq => by
      have hq' := hq
      try simp only [Bool.and_eq_true, Bool.or_eq_true, Bool.not_eq_true', Bool.not_eq_false', decide_eq_true_eq, decide_eq_false_iff_not] at hq'
      exact Yl.at (yl_field0 fld_32_0 rfl)) ?_
  refine o_if (v := .int .i64 f) 22 18 false (!(decide (f < 0))) (says_f _) (fun hq => by
      have hq' := hq
      try simp only [Bool.and_eq_true, Bool.or_eq_true, Bool.not_eq_true', Bool.not_eq_false', decide_eq_true_eq, decide_eq_false_iff_not] at hq'
      exact at_load one_3 (cv (v := .pointer (some ⟨b1, 0, none⟩)) hq) (hS.cell rfl)) ?_
  refine o_if (v := .bool (decide (t < f))) 23 18 false (!(decide (f < 0))) (says_f _) (fun hq => by
      have hq' := hq
      try simp only [Bool.and_eq_true, Bool.or_eq_true, Bool.not_eq_true', Bool.not_eq_false', decide_eq_true_eq, decide_eq_false_iff_not] at hq'
      exact Yl.at (yl_lss (cv (v := .int .i64 t) hq) (cv (v := .int .i64 f) hq))) ?_
  refine o_pure (v := .bool ((decide (f < 0)) || (decide (t < f)))) 24 (yl_or rfl rfl (fun hc => (cv (v := .bool (decide (t < f))) (t_not hc)))) ?_
  refine o_pure (v := .bool ((decide (f < 0)) || (decide (t < f)))) 25 (yl_move rfl) ?_
  refine o_if (v := .pointer (some ⟨b1, 1, none⟩)) 26 25 false (!((decide (f < 0)) || (decide (t < f)))) (says_f _) (fun hq => by
      have hq' := hq
      try simp only [Bool.and_eq_true, Bool.or_eq_true, Bool.not_eq_true', Bool.not_eq_false', decide_eq_true_eq, decide_eq_false_iff_not] at hq'
      exact Yl.at (yl_field0 fld_32_1 rfl)) ?_
  refine o_if (v := .int .i64 t) 27 25 false (!((decide (f < 0)) || (decide (t < f)))) (says_f _) (fun hq => by
      have hq' := hq
      try simp only [Bool.and_eq_true, Bool.or_eq_true, Bool.not_eq_true', Bool.not_eq_false', decide_eq_true_eq, decide_eq_false_iff_not] at hq'
      exact at_load one_3 (cv (v := .pointer (some ⟨b1, 1, none⟩)) hq) (hS.cell rfl)) ?_
  refine o_if (v := .bool (decide (40 < t))) 28 25 false (!((decide (f < 0)) || (decide (t < f)))) (says_f _) (fun hq => by
      have hq' := hq
      try simp only [Bool.and_eq_true, Bool.or_eq_true, Bool.not_eq_true', Bool.not_eq_false', decide_eq_true_eq, decide_eq_false_iff_not] at hq'
      exact Yl.at (yl_gtr (cv (v := .int .i64 t) hq) rfl)) ?_
  refine o_pure (v := .bool (((decide (f < 0)) || (decide (t < f))) || (decide (40 < t)))) 29 (yl_or rfl rfl (fun hc => (cv (v := .bool (decide (40 < t))) (t_not hc)))) ?_
  refine x_done ?_
  refine x_cond_f (show ev _ _ = .bool false from congrArg Value.bool (by simp only [Bool.or_eq_false_iff, decide_eq_false_iff_not]; omega)) ?_
  refine x_skip ?_
  refine x_seq ?_
  refine x_seq ?_
  refine x_region ?_
  refine o_pure (v := .slice A0 want.length c0) 30 (yl_move rfl) ?_
  refine o_pure (v := .int .i64 (want.length : Int)) 31 (yl_len_slice us_22 rfl) ?_
  refine o_pure (v := .bool (decide (40 < (want.length : Int)))) 32 (yl_gtr rfl rfl) ?_
  refine x_done ?_
  refine x_cond_f (show ev _ _ = .bool false from congrArg Value.bool (decide_eq_false (by omega))) ?_
  refine x_skip ?_
  refine x_seq ?_
  refine x_region ?_
  refine o_pure (v := .int .i64 0) 7 (yl_assign rfl) ?_
  refine x_done ?_
  refine x_seq ?_
  refine x_seq ?_
  refine x_region ?_
  refine o_pure (v := .slice A1 wide.length c1) 33 (yl_move rfl) ?_
  refine o_pure (v := .int .i64 (wide.length : Int)) 34 (yl_len_slice us_22 rfl) ?_
  refine o_pure (v := .int .i64 0) 35 (yl_move rfl) ?_
  refine x_done ?_
  refine x_block ?_
  refine x_loop (fun k_ E w => ∃ (i : Nat), E 7 = .int .i64 ((wide.take i).sum) ∧ E 35 = .int .i64 (i : Int) ∧ E 0 = .slice A0 want.length c0 ∧ E 5 = .pointer (some ⟨b1, 0, none⟩) ∧ E 33 = .slice A1 wide.length c1 ∧ E 34 = .int .i64 (wide.length : Int) ∧ i ≤ wide.length ∧ (0 ≤ (wide.take i).sum ∧ (wide.take i).sum ≤ 40 * i) ∧ k_ = wide.length - i ∧ St w0 w (cells b1 32 [.int .i64 f, .int .i64 t] :: ro ρ :: l)) wide.length ⟨0, Eq.trans (b := Value.int .i64 0) rfl (congrArg (Value.int .i64) (by simp)), Eq.trans (b := Value.int .i64 0) rfl (congrArg (Value.int .i64) (by omega)), rfl, rfl, rfl, rfl, by simp, by simp, by omega, hS⟩ ?_
  rintro k_ E w ⟨i, e7, e35, e0, e5, e33, e34, hi, hs, hk, hS⟩
  refine x_seq ?_
  refine x_region ?_
  refine o_pure (v := .bool (decide ((i : Int) < (wide.length : Int)))) 36 (yl_lss e35 e34) ?_
  refine x_done ?_
  refine x_seq ?_
  refine x_cond_p ((i : Int) < (wide.length : Int)) rfl (fun hlt => ?_) (fun hlt => ?_)
  · skip
    refine x_skip ?_
    refine x_seq ?_
    refine x_block ?_
    refine x_seq ?_
    have hdi := hd _ (rd_mem (i := (i : Int)) (by omega) (by omega))
    have hwi := hw _ (rd_mem (i := (i : Int)) (by omega) (by omega))
    have htk := sum_take_succ wide i (by omega)
    refine x_region ?_
    refine o_pure (v := .int .i64 (i : Int)) 37 (yl_move e35) ?_
    refine o_pure (v := .pointer (some ((adr A1).add ((i : Int).toNat * 1)))) 38 (yl_index_r sl_22 e33 e35 (h1.some (i := (i : Int)) (by omega) (by omega)) (by omega) (by omega)) ?_
    refine o_at (v := .int .i64 (rd wide (i : Int))) 39 (at_load one_3 rfl (h1.cell (hS.pull 1) (by omega) (by omega))) ?_
    refine o_pure (v := .int .i64 (i : Int)) 8 (yl_assign rfl) ?_
    refine o_pure (v := .int .i64 (rd wide (i : Int))) 9 (yl_assign rfl) ?_
    refine x_done ?_
    refine x_seq ?_
    refine x_seq ?_
    refine x_region ?_
    refine o_pure (v := .int .i64 (rd wide (i : Int))) 40 (yl_move rfl) ?_
    refine o_pure (v := .bool (decide ((rd wide (i : Int)) < 1))) 41 (yl_lss rfl rfl) ?_
    refine o_pure (v := .bool (decide ((rd wide (i : Int)) < 1))) 42 (yl_move rfl) ?_
    refine o_if (v := .int .i64 (rd wide (i : Int))) 43 42 false (!(decide ((rd wide (i : Int)) < 1))) (says_f _) (fun hq => by
        have hq' := hq
        try simp only [Bool.and_eq_true, Bool.or_eq_true, Bool.not_eq_true', Bool.not_eq_false', decide_eq_true_eq, decide_eq_false_iff_not] at hq'
        exact Yl.at (yl_move rfl)) ?_
    refine o_if (v := .bool (decide (40 < (rd wide (i : Int))))) 44 42 false (!(decide ((rd wide (i : Int)) < 1))) (says_f _) (fun hq => by
        have hq' := hq
        try simp only [Bool.and_eq_true, Bool.or_eq_true, Bool.not_eq_true', Bool.not_eq_false', decide_eq_true_eq, decide_eq_false_iff_not] at hq'
        exact Yl.at (yl_gtr (cv (v := .int .i64 (rd wide (i : Int))) hq) rfl)) ?_
    refine o_pure (v := .bool ((decide ((rd wide (i : Int)) < 1)) || (decide (40 < (rd wide (i : Int)))))) 45 (yl_or rfl rfl (fun hc => (cv (v := .bool (decide (40 < (rd wide (i : Int))))) (t_not hc)))) ?_
    refine o_pure (v := .bool ((decide ((rd wide (i : Int)) < 1)) || (decide (40 < (rd wide (i : Int)))))) 46 (yl_move rfl) ?_
    refine o_if (v := .slice A0 want.length c0) 47 46 false (!((decide ((rd wide (i : Int)) < 1)) || (decide (40 < (rd wide (i : Int)))))) (says_f _) (fun hq => by
        have hq' := hq
        try simp only [Bool.and_eq_true, Bool.or_eq_true, Bool.not_eq_true', Bool.not_eq_false', decide_eq_true_eq, decide_eq_false_iff_not] at hq'
        exact Yl.at (yl_move e0)) ?_
    refine o_if (v := .int .i64 (i : Int)) 48 46 false (!((decide ((rd wide (i : Int)) < 1)) || (decide (40 < (rd wide (i : Int)))))) (says_f _) (fun hq => by
        have hq' := hq
        try simp only [Bool.and_eq_true, Bool.or_eq_true, Bool.not_eq_true', Bool.not_eq_false', decide_eq_true_eq, decide_eq_false_iff_not] at hq'
        exact Yl.at (yl_move rfl)) ?_
    refine o_if (v := .pointer (some ((adr A0).add ((i : Int).toNat * 1)))) 49 46 false (!((decide ((rd wide (i : Int)) < 1)) || (decide (40 < (rd wide (i : Int)))))) (says_f _) (fun hq => by
        have hq' := hq
        try simp only [Bool.and_eq_true, Bool.or_eq_true, Bool.not_eq_true', Bool.not_eq_false', decide_eq_true_eq, decide_eq_false_iff_not] at hq'
        exact Yl.at (yl_index_r sl_22 (cv (v := .slice A0 want.length c0) hq) (cv (v := .int .i64 (i : Int)) hq) (h0.some (i := (i : Int)) (by omega) (by omega)) (by omega) (by omega))) ?_
    refine o_if (v := .int .i64 (rd want (i : Int))) 50 46 false (!((decide ((rd wide (i : Int)) < 1)) || (decide (40 < (rd wide (i : Int)))))) (says_f _) (fun hq => by
        have hq' := hq
        try simp only [Bool.and_eq_true, Bool.or_eq_true, Bool.not_eq_true', Bool.not_eq_false', decide_eq_true_eq, decide_eq_false_iff_not] at hq'
        exact at_load one_3 (cv (v := .pointer (some ((adr A0).add ((i : Int).toNat * 1)))) hq) (h0.cell (hS.pull 1) (by omega) (by omega))) ?_
    refine o_if (v := .bool (decide ((rd want (i : Int)) < (-1000)))) 51 46 false (!((decide ((rd wide (i : Int)) < 1)) || (decide (40 < (rd wide (i : Int)))))) (says_f _) (fun hq => by
        have hq' := hq
        try simp only [Bool.and_eq_true, Bool.or_eq_true, Bool.not_eq_true', Bool.not_eq_false', decide_eq_true_eq, decide_eq_false_iff_not] at hq'
        exact Yl.at (yl_lss (cv (v := .int .i64 (rd want (i : Int))) hq) rfl)) ?_
    refine o_pure (v := .bool (((decide ((rd wide (i : Int)) < 1)) || (decide (40 < (rd wide (i : Int))))) || (decide ((rd want (i : Int)) < (-1000))))) 52 (yl_or rfl rfl (fun hc => (cv (v := .bool (decide ((rd want (i : Int)) < (-1000)))) (t_not hc)))) ?_
    refine o_pure (v := .bool (((decide ((rd wide (i : Int)) < 1)) || (decide (40 < (rd wide (i : Int))))) || (decide ((rd want (i : Int)) < (-1000))))) 53 (yl_move rfl) ?_
    refine o_if (v := .slice A0 want.length c0) 54 53 false (!(((decide ((rd wide (i : Int)) < 1)) || (decide (40 < (rd wide (i : Int))))) || (decide ((rd want (i : Int)) < (-1000))))) (says_f _) (fun hq => by
        have hq' := hq
        try simp only [Bool.and_eq_true, Bool.or_eq_true, Bool.not_eq_true', Bool.not_eq_false', decide_eq_true_eq, decide_eq_false_iff_not] at hq'
        exact Yl.at (yl_move e0)) ?_
    refine o_if (v := .int .i64 (i : Int)) 55 53 false (!(((decide ((rd wide (i : Int)) < 1)) || (decide (40 < (rd wide (i : Int))))) || (decide ((rd want (i : Int)) < (-1000))))) (says_f _) (fun hq => by
        have hq' := hq
        try simp only [Bool.and_eq_true, Bool.or_eq_true, Bool.not_eq_true', Bool.not_eq_false', decide_eq_true_eq, decide_eq_false_iff_not] at hq'
        exact Yl.at (yl_move rfl)) ?_
    refine o_if (v := .pointer (some ((adr A0).add ((i : Int).toNat * 1)))) 56 53 false (!(((decide ((rd wide (i : Int)) < 1)) || (decide (40 < (rd wide (i : Int))))) || (decide ((rd want (i : Int)) < (-1000))))) (says_f _) (fun hq => by
        have hq' := hq
        try simp only [Bool.and_eq_true, Bool.or_eq_true, Bool.not_eq_true', Bool.not_eq_false', decide_eq_true_eq, decide_eq_false_iff_not] at hq'
        exact Yl.at (yl_index_r sl_22 (cv (v := .slice A0 want.length c0) hq) (cv (v := .int .i64 (i : Int)) hq) (h0.some (i := (i : Int)) (by omega) (by omega)) (by omega) (by omega))) ?_
    refine o_if (v := .int .i64 (rd want (i : Int))) 57 53 false (!(((decide ((rd wide (i : Int)) < 1)) || (decide (40 < (rd wide (i : Int))))) || (decide ((rd want (i : Int)) < (-1000))))) (says_f _) (fun hq => by
        have hq' := hq
        try simp only [Bool.and_eq_true, Bool.or_eq_true, Bool.not_eq_true', Bool.not_eq_false', decide_eq_true_eq, decide_eq_false_iff_not] at hq'
        exact at_load one_3 (cv (v := .pointer (some ((adr A0).add ((i : Int).toNat * 1)))) hq) (h0.cell (hS.pull 1) (by omega) (by omega))) ?_
    refine o_if (v := .bool (decide (1000 < (rd want (i : Int))))) 58 53 false (!(((decide ((rd wide (i : Int)) < 1)) || (decide (40 < (rd wide (i : Int))))) || (decide ((rd want (i : Int)) < (-1000))))) (says_f _) (fun hq => by
        have hq' := hq
        try simp only [Bool.and_eq_true, Bool.or_eq_true, Bool.not_eq_true', Bool.not_eq_false', decide_eq_true_eq, decide_eq_false_iff_not] at hq'
        exact Yl.at (yl_gtr (cv (v := .int .i64 (rd want (i : Int))) hq) rfl)) ?_
    refine o_pure (v := .bool ((((decide ((rd wide (i : Int)) < 1)) || (decide (40 < (rd wide (i : Int))))) || (decide ((rd want (i : Int)) < (-1000)))) || (decide (1000 < (rd want (i : Int)))))) 59 (yl_or rfl rfl (fun hc => (cv (v := .bool (decide (1000 < (rd want (i : Int))))) (t_not hc)))) ?_
    refine x_done ?_
    refine x_cond_f (show ev _ _ = .bool false from congrArg Value.bool (by simp only [Bool.or_eq_false_iff, decide_eq_false_iff_not]; omega)) ?_
    refine x_skip ?_
    refine x_region ?_
    refine o_pure (v := .int .i64 ((wide.take i).sum)) 60 (yl_move e7) ?_
    refine o_pure (v := .int .i64 (rd wide (i : Int))) 61 (yl_move rfl) ?_
    refine o_pure (v := .int .i64 (((wide.take i).sum) + (rd wide (i : Int)))) 62 (yl_add (a := (wide.take i).sum) (b := rd wide (i : Int)) rfl rfl (wrap_i64 (by omega))) ?_
    refine o_pure (v := .int .i64 (((wide.take i).sum) + (rd wide (i : Int)))) 7 (yl_assign rfl) ?_
    refine x_done ?_
    refine x_blk ?_
    refine x_region ?_
    refine o_pure (v := .int .i64 ((i : Int) + 1)) 63 (yl_add (a := (i : Int)) (b := 1) e35 rfl (wrap_i64 (by omega))) ?_
    refine o_pure (v := .int .i64 ((i : Int) + 1)) 35 (yl_move rfl) ?_
    refine x_done ?_
    refine x_inv ⟨wide.length - (i + 1), by omega, i + 1, Eq.trans (b := Value.int .i64 (((wide.take i).sum) + (rd wide (i : Int)))) rfl (congrArg (Value.int .i64) (htk.symm)), Eq.trans (b := Value.int .i64 ((i : Int) + 1)) rfl (congrArg (Value.int .i64) (by omega)), e0, e5, e33, e34, by omega, by rw [htk]; omega, by omega, hS⟩
  · skip
    have hti : wide.take i = wide := List.take_of_length_le (by omega)
    rw [hti] at e7 hs
    refine x_exitTo _ rfl ?_
    refine x_seq ?_
    refine x_seq ?_
    refine x_region ?_
    refine o_pure (v := .int .i64 wide.sum) 64 (yl_move e7) ?_
    refine o_pure (v := .pointer (some ⟨b1, 1, none⟩)) 65 (yl_field0 fld_32_1 e5) ?_
    refine o_at (v := .int .i64 t) 66 (at_load one_3 rfl (hS.cell rfl)) ?_
    refine o_pure (v := .pointer (some ⟨b1, 0, none⟩)) 67 (yl_field0 fld_32_0 e5) ?_
    refine o_at (v := .int .i64 f) 68 (at_load one_3 rfl (hS.cell rfl)) ?_
    refine o_pure (v := .int .i64 (t - f)) 69 (yl_sub (a := t) (b := f) rfl rfl (wrap_i64 (by omega))) ?_
    refine o_pure (v := .bool (decide ((t - f) < wide.sum))) 70 (yl_gtr rfl rfl) ?_
    refine x_done ?_
    refine x_cond_p ((t - f) < wide.sum) rfl (fun hc => ?_) (fun hc => ?_)
    · skip
      refine x_seq ?_
      refine x_region ?_
      refine o_pure (v := .int .i64 14) 6 (yl_assign rfl) ?_
      refine x_done ?_
      refine x_return ?_
      refine ⟨.int .i64 14, rfl, ?_⟩
      refine ⟨?_, hS.drop⟩
      first | (rw [if_pos (by omega)]) | (rw [if_neg (by omega)])
    · skip
      refine x_skip ?_
      refine x_seq ?_
      refine x_region ?_
      refine o_pure (v := .int .i64 0) 6 (yl_assign rfl) ?_
      refine x_done ?_
      refine x_return ?_
      refine ⟨.int .i64 0, rfl, ?_⟩
      refine ⟨?_, hS.drop⟩
      first | (rw [if_pos (by omega)]) | (rw [if_neg (by omega)])

theorem rd_take_zip {want wide : List Int} {i : Nat} (h : i < want.length) (hl : wide.length = want.length) : (want.zip wide).drop i = (rd want i, rd wide i) :: (want.zip wide).drop (i + 1) := by
  have h2 : i < wide.length := by omega
  rw [List.drop_eq_getElem_cons (by simp; omega)]
  simp [rd, h, h2]
/-- The rows of the table from number i on, as they lie. -/
def Rows_ (ρ : Heap) (f : Int) (size : Nat) (ps : List (Int × Int)) (gs : List Value) (i : Int) : Prop :=
  ∀ j : Nat, i ≤ j → j ≤ ps.length → ∃ b : Nat, gs[j]? = some (.slice (some ⟨b, 0, none⟩) size size) ∧ RI ρ .i64 (some ⟨b, 0, none⟩) (rowsF f size (ps.drop j))
theorem Rows_.le {ρ ρ' : Heap} {f : Int} {size : Nat} {ps : List (Int × Int)} {gs : List Value} {i : Int} (h : Rows_ ρ f size ps gs i) (hle : Le ρ ρ') : Rows_ ρ' f size ps gs i := fun j h1 h2 => by
  obtain ⟨b, hb, hr⟩ := h j h1 h2
  exact ⟨b, hb, hr.le hle⟩
theorem least_hi {B : Int} (b : List Int) (wt wd f : Int) (size : Nat) (hb : ∀ i : Int, 0 ≤ i → i < b.length → rd b i ≤ B) (hw : -1000 ≤ wt ∧ wt ≤ 1000) (hf : 0 ≤ f ∧ f ≤ 40) (hs : size ≤ 41) (hB : 0 ≤ B) : ∀ d, d ≤ size → least b wt wd f size d ≤ B + 4000000
  | 0, _ => by simp only [least]; omega
  | d + 1, hd => by
    have ih := least_hi b wt wd f size hb hw hf hs hB d (by omega)
    simp only [least, comb]
    split
    · rename_i h
      obtain ⟨h1, h2, h3⟩ := costF_spec h.1
      rw [h3]
      by_cases h0 : 0 ≤ f + ((size : Int) - (d + 1 : Nat)) + wd - f
      · have h4 := hb _ h0 h1
        have h6 : (f + ((size : Int) - (d + 1 : Nat)) - wt).natAbs * (f + ((size : Int) - (d + 1 : Nat)) - wt).natAbs ≤ 2000 * 2000 := Nat.mul_le_mul (by omega) (by omega)
        have h7 : (((f + ((size : Int) - (d + 1 : Nat)) - wt).natAbs * (f + ((size : Int) - (d + 1 : Nat)) - wt).natAbs : Nat) : Int) = (f + ((size : Int) - (d + 1 : Nat)) - wt) * (f + ((size : Int) - (d + 1 : Nat)) - wt) := Int.natAbs_mul_self
        omega
      · have h6 : (f + ((size : Int) - (d + 1 : Nat)) - wt).natAbs * (f + ((size : Int) - (d + 1 : Nat)) - wt).natAbs ≤ 2000 * 2000 := Nat.mul_le_mul (by omega) (by omega)
        have h7 : (((f + ((size : Int) - (d + 1 : Nat)) - wt).natAbs * (f + ((size : Int) - (d + 1 : Nat)) - wt).natAbs : Nat) : Int) = (f + ((size : Int) - (d + 1 : Nat)) - wt) * (f + ((size : Int) - (d + 1 : Nat)) - wt) := Int.natAbs_mul_self
        have h8 : rd b (f + ((size : Int) - (d + 1 : Nat)) + wd - f) = rd b 0 := by simp only [rd]; rw [show (f + ((size : Int) - (d + 1 : Nat)) + wd - f).toNat = (0 : Int).toNat by omega]
        rw [h8]
        have h9 : rd b 0 ≤ B := by
          by_cases hl : 0 < b.length
          · exact hb 0 (Int.le_refl _) (by omega)
          · have : b = [] := List.eq_nil_of_length_eq_zero (by omega)
            subst this
            simpa [rd] using hB
        omega
    · omega
theorem rowsF_hi (f : Int) (size : Nat) (hf : 0 ≤ f ∧ f ≤ 40) (hs : size ≤ 41) : ∀ (ps : List (Int × Int)), (∀ p ∈ ps, -1000 ≤ p.1 ∧ p.1 ≤ 1000) → ∀ i : Int, 0 ≤ i → i < (rowsF f size ps).length → rd (rowsF f size ps) i ≤ 4000000 * ps.length
  | [], _, i, h0, h1 => by rw [rowsF_length] at h1; simp only [rowsF]; rw [rd_replicate _ _ _ h0 h1]; omega
  | p :: r, hp, i, h0, h1 => by
    rw [rowsF_length] at h1
    rw [rowsF_rd f size p r h0 h1]
    have ih := rowsF_hi f size hf hs r (fun q hq => hp q (by simp [hq]))
    have := least_hi (B := 4000000 * r.length) (rowsF f size r) p.1 p.2 f size ih (hp p (by simp)) hf hs (by omega) (size - i).toNat (by omega)
    simp only [List.length_cons]
    omega

theorem Rows_.step {ρ ρ' : Heap} {f : Int} {size : Nat} {ps : List (Int × Int)} {gs : List Value} {i : Int} (h : Rows_ ρ f size ps gs (i + 1)) (hle : Le ρ ρ') (h0 : 0 ≤ i) (h1 : i < gs.length) {b : Nat} (hr : RI ρ' .i64 (some ⟨b, 0, none⟩) (rowsF f size (ps.drop i.toNat))) :
    Rows_ ρ' f size ps (gs.set i.toNat (.slice (some ⟨b, 0, none⟩) size size)) (i - 1 + 1) := fun j h2 h3 => by
  by_cases e : j = i.toNat
  · subst e
    exact ⟨b, List.getElem?_set_self (by omega), hr⟩
  · obtain ⟨b', hb', hr'⟩ := h j (by omega) h3
    exact ⟨b', by rw [List.getElem?_set_ne (by omega)]; exact hb', hr'.le hle⟩
section
variable {b cs : List Int} {wt wd f n k : Int}
theorem fill_a (hl : cs.length = n.toNat) (H : ∀ j : Int, k < j → j < n → rd cs j = least b wt wd f n.toNat (n - j).toNat) (h0 : 0 ≤ k) (h1 : k + 1 < n) :
    ((cs.set k.toNat (-1)).set k.toNat (rd (cs.set k.toNat (-1)) (k + 1))).length = n.toNat ∧
    (∀ j : Int, k < j → j < n → rd ((cs.set k.toNat (-1)).set k.toNat (rd (cs.set k.toNat (-1)) (k + 1))) j = least b wt wd f n.toNat (n - j).toNat) ∧
    rd ((cs.set k.toNat (-1)).set k.toNat (rd (cs.set k.toNat (-1)) (k + 1))) k = least b wt wd f n.toNat (n - (k + 1)).toNat := by
  refine ⟨by simp [hl], fun j h2 h3 => ?_, ?_⟩
  · rw [rd_set h0 (by omega) (by simp; omega), if_neg (by omega), rd_set h0 (by omega) (by omega), if_neg (by omega)]
    exact H j h2 h3
  · rw [rd_set h0 h0 (by simp; omega), if_pos rfl, rd_set h0 (by omega) (by omega), if_neg (by omega)]
    exact H _ (by omega) h1
theorem fill_b (hl : cs.length = n.toNat) (H : ∀ j : Int, k < j → j < n → rd cs j = least b wt wd f n.toNat (n - j).toNat) (h0 : 0 ≤ k) (h1 : k < n) (h2 : ¬ k + 1 < n) :
    (cs.set k.toNat (-1)).length = n.toNat ∧ (∀ j : Int, k < j → j < n → rd (cs.set k.toNat (-1)) j = least b wt wd f n.toNat (n - j).toNat) ∧ rd (cs.set k.toNat (-1)) k = least b wt wd f n.toNat (n - (k + 1)).toNat := by
  refine ⟨by simp [hl], fun j h3 h4 => by omega, ?_⟩
  rw [rd_set h0 h0 (by omega), if_pos rfl, show (n - (k + 1)).toNat = 0 by omega]
  rfl
theorem least_at (h0 : 0 ≤ k) (h1 : k < n) : least b wt wd f n.toNat (n - k).toNat = comb (costF wt wd (f + k) f b) (least b wt wd f n.toNat (n - (k + 1)).toNat) := by
  obtain ⟨d, hd⟩ : ∃ d, (n - k).toNat = d + 1 := ⟨(n - k).toNat - 1, by omega⟩
  rw [hd, show (n - (k + 1)).toNat = d by omega]
  simp only [least]
  rw [show f + ((n.toNat : Int) - ((d + 1 : Nat) : Int)) = f + k by omega]
theorem fill_c (hl : cs.length = n.toNat) (H : ∀ j : Int, k < j → j < n → rd cs j = least b wt wd f n.toNat (n - j).toNat) (h0 : 0 ≤ k) (h1 : k < n) (h2 : rd cs k = least b wt wd f n.toNat (n - (k + 1)).toNat)
    (hc : (costF wt wd (f + k) f b).2 = true ∧ (rd cs k < 0 ∨ (costF wt wd (f + k) f b).1 ≤ rd cs k)) :
    (cs.set k.toNat (costF wt wd (f + k) f b).1).length = n.toNat ∧ ∀ j : Int, k - 1 < j → j < n → rd (cs.set k.toNat (costF wt wd (f + k) f b).1) j = least b wt wd f n.toNat (n - j).toNat := by
  refine ⟨by simp [hl], fun j h3 h4 => ?_⟩
  rw [rd_set h0 (by omega) (by omega)]
  split
  · rename_i e; subst e; rw [least_at h0 h1, ← h2, comb, if_pos hc]
  · exact H j (by omega) h4
theorem fill_d (hl : cs.length = n.toNat) (H : ∀ j : Int, k < j → j < n → rd cs j = least b wt wd f n.toNat (n - j).toNat) (h0 : 0 ≤ k) (h1 : k < n) (h2 : rd cs k = least b wt wd f n.toNat (n - (k + 1)).toNat)
    (hc : ¬ ((costF wt wd (f + k) f b).2 = true ∧ (rd cs k < 0 ∨ (costF wt wd (f + k) f b).1 ≤ rd cs k))) :
    ∀ j : Int, k - 1 < j → j < n → rd cs j = least b wt wd f n.toNat (n - j).toNat := fun j h3 h4 => by
  by_cases e : j = k
  · subst e; rw [least_at h0 h1, ← h2, comb, if_neg hc]
  · exact H j (by omega) h4
theorem seek_hit (h0 : 0 ≤ k) (h1 : k < n) (hc : (costF wt wd (f + k) f b).2 = true ∧ (costF wt wd (f + k) f b).1 = least b wt wd f n.toNat (n - k).toNat) : seek b wt wd f n.toNat (n - k).toNat = (n - k).toNat := by
  obtain ⟨d, hd⟩ : ∃ d, (n - k).toNat = d + 1 := ⟨(n - k).toNat - 1, by omega⟩
  rw [hd] at hc ⊢
  simp only [seek]
  rw [show f + ((n.toNat : Int) - ((d + 1 : Nat) : Int)) = f + k by omega, if_pos hc]
theorem seek_miss (h0 : 0 ≤ k) (h1 : k < n) (hp : 0 ≤ least b wt wd f n.toNat (n - k).toNat) (hc : ¬ ((costF wt wd (f + k) f b).2 = true ∧ (costF wt wd (f + k) f b).1 = least b wt wd f n.toNat (n - k).toNat)) :
    k + 1 < n ∧ seek b wt wd f n.toNat (n - (k + 1)).toNat = seek b wt wd f n.toNat (n - k).toNat ∧ 0 ≤ least b wt wd f n.toNat (n - (k + 1)).toNat := by
  have hs : seek b wt wd f n.toNat (n - k).toNat = seek b wt wd f n.toNat (n - (k + 1)).toNat := by
    obtain ⟨d, hd⟩ : ∃ d, (n - k).toNat = d + 1 := ⟨(n - k).toNat - 1, by omega⟩
    rw [hd] at hc ⊢
    rw [show (n - (k + 1)).toNat = d by omega]
    simp only [seek]
    rw [show f + ((n.toNat : Int) - ((d + 1 : Nat) : Int)) = f + k by omega, if_neg hc]
  have hm : least b wt wd f n.toNat (n - k).toNat = least b wt wd f n.toNat (n - (k + 1)).toNat := by
    rw [least_at h0 h1] at hc ⊢
    unfold comb at hc ⊢
    split
    · rename_i h; rw [if_pos h] at hc; exact absurd ⟨h.1, rfl⟩ hc
    · rfl
  rw [hm] at hp
  refine ⟨?_, hs.symm, hp⟩
  rcases Int.lt_or_le (k + 1) n with h | h
  · exact h
  · rw [show (n - (k + 1)).toNat = 0 by omega] at hp; simp [least] at hp
end

theorem checkRow_ok {w0 w : World} {l : List Assn} {ρ : Heap} {A0 A1 : Option Addr} {c0 c1 : Nat} {want wide : List Int} {f t : Int} (h0 : RI ρ .i64 A0 want) (h1 : RI ρ .i64 A1 wide) (hl : wide.length = want.length) (hn : want.length ≤ 40) (hf : 0 ≤ f) (ft : f ≤ t) (ht : t ≤ 40) (hw : ∀ x ∈ want, -1000 ≤ x ∧ x ≤ 1000) (hd : ∀ x ∈ wide, 1 ≤ x ∧ x ≤ 40) (hsum : wide.sum ≤ t - f) (hS : St w0 w (ro ρ :: l)) :
    Calls Try.prog 72 #[.slice A0 want.length c0, .slice A1 wide.length c1, .agg #[.int .i64 f, .int .i64 t]] w fun e w' => e = .returned (.int .i64 0) ∧ St w0 w' (ro ρ :: l) := by
  have := checkRow_spec (c0 := c0) (c1 := c1) h0 h1 hl hn hf ft ht hw hd hS
  rwa [if_pos hsum] at this
theorem checkRow_full {w0 w : World} {l : List Assn} {ρ : Heap} {A0 A1 : Option Addr} {c0 c1 : Nat} {want wide : List Int} {f t : Int} (h0 : RI ρ .i64 A0 want) (h1 : RI ρ .i64 A1 wide) (hl : wide.length = want.length) (hn : want.length ≤ 40) (hf : 0 ≤ f) (ft : f ≤ t) (ht : t ≤ 40) (hw : ∀ x ∈ want, -1000 ≤ x ∧ x ≤ 1000) (hd : ∀ x ∈ wide, 1 ≤ x ∧ x ≤ 40) (hsum : t - f < wide.sum) (hS : St w0 w (ro ρ :: l)) :
    Calls Try.prog 72 #[.slice A0 want.length c0, .slice A1 wide.length c1, .agg #[.int .i64 f, .int .i64 t]] w fun e w' => e = .returned (.int .i64 14) ∧ St w0 w' (ro ρ :: l) := by
  have := checkRow_spec (c0 := c0) (c1 := c1) h0 h1 hl hn hf ft ht hw hd hS
  rwa [if_neg (by omega)] at this

theorem Row_full {w0 w : World} {l : List Assn} {ρ : Heap} {A0 A1 : Option Addr} {c0 c1 : Nat} {want wide : List Int} {f t : Int} (h0 : RI ρ .i64 A0 want) (h1 : RI ρ .i64 A1 wide) (hl : wide.length = want.length) (hn : want.length ≤ 40) (hf : 0 ≤ f) (ft : f ≤ t) (ht : t ≤ 40) (hw : ∀ x ∈ want, -1000 ≤ x ∧ x ≤ 1000) (hd : ∀ x ∈ wide, 1 ≤ x ∧ x ≤ 40) (hsum : t - f < wide.sum) (hS : St w0 w (ro ρ :: l)) :
    Calls Try.prog 16 #[.slice A0 want.length c0, .slice A1 wide.length c1, .agg #[.int .i64 f, .int .i64 t]] w fun e w' => e = .returned (.tuple #[.slice none 0 0, .int .i64 14]) ∧ St w0 w' (ro ρ :: l) := by
  refine enter Try.func16 rfl 192 rfl (by simp) ?_
  refine x_seq ?_
  refine x_region ?_
  refine o_box (cs := [.int .i64 f, .int .i64 t]) rfl rfl hS (fun b1 w' hS => ?_)
  refine o_pure (v := .slice none 0 0) 6 (yl_assign rfl) ?_
  refine o_pure (v := .int .i64 0) 7 (yl_assign rfl) ?_
  refine x_done ?_
  refine x_seq ?_
  refine x_seq ?_
  refine x_region ?_
  refine o_pure (v := .slice A0 want.length c0) 21 (yl_move rfl) ?_
  refine o_pure (v := .slice A1 wide.length c1) 22 (yl_move rfl) ?_
  refine o_at (v := .agg #[.int .i64 f, .int .i64 t]) 23 (at_loadAgg (cs := [.int .i64 f, .int .i64 t]) agg_32 rfl rfl (fun j v hj => by rw [add0]; exact hS.cell hj)) ?_
  refine o_call (vs := [.slice A0 want.length c0, .slice A1 wide.length c1, .agg #[.int .i64 f, .int .i64 t]]) call_72 rfl (Calls.mono (checkRow_full h0 h1 hl hn hf ft ht hw hd hsum (hS.pull 1)) ?_)
  rintro e w' ⟨rfl, hS⟩
  refine ⟨_, rfl, ?_⟩
  refine o_pure (v := .int .i64 14) 8 (yl_assign rfl) ?_
  refine x_done ?_
  refine x_seq ?_
  refine x_region ?_
  refine o_pure (v := .int .i64 14) 25 (yl_move rfl) ?_
  refine o_pure (v := .bool (decide ((14 : Int) ≠ 0))) 26 (yl_neq rfl rfl) ?_
  refine x_done ?_
  refine x_cond_t (show ev _ _ = .bool true from congrArg Value.bool (decide_eq_true (by omega))) ?_
  refine x_seq ?_
  refine x_region ?_
  refine o_pure (v := .int .i64 14) 27 (yl_move rfl) ?_
  refine o_pure (v := .slice none 0 0) 6 (yl_assign rfl) ?_
  refine o_pure (v := .int .i64 14) 7 (yl_assign rfl) ?_
  refine x_done ?_
  refine x_return ?_
  refine ⟨.tuple #[.slice none 0 0, .int .i64 14], rfl, ?_⟩
  exact ⟨rfl, ((hS.pull 1)).drop⟩

set_option maxHeartbeats 2000000 in
theorem Row_spec {w0 w : World} {l : List Assn} {ρ : Heap} {A0 A1 : Option Addr} {c0 c1 : Nat} {want wide : List Int} {f t : Int} (h0 : RI ρ .i64 A0 want) (h1 : RI ρ .i64 A1 wide) (hl : wide.length = want.length) (hn : want.length ≤ 40) (hf : 0 ≤ f) (ft : f ≤ t) (ht : t ≤ 40) (hw : ∀ x ∈ want, -1000 ≤ x ∧ x ≤ 1000) (hd : ∀ x ∈ wide, 1 ≤ x ∧ x ≤ 40) (hsum : wide.sum ≤ t - f) (hS : St w0 w (ro ρ :: l)) :
    Calls Try.prog 16 #[.slice A0 want.length c0, .slice A1 wide.length c1, .agg #[.int .i64 f, .int .i64 t]] w fun e w' => ∃ (ρ' : Heap) (A : Option Addr) (c : Nat), Le ρ ρ' ∧ e = .returned (.tuple #[.slice A want.length c, .int .i64 0]) ∧ want.length ≤ c ∧ RI ρ' .i64 A (placeF f ((t - f) + 1).toNat (want.zip wide) 0) ∧ St w0 w' (ro ρ' :: l) := by
  have hzl : (want.zip wide).length = want.length := by simp; omega
  have hhi : ∀ j : Nat, ∀ i : Int, 0 ≤ i → i < (rowsF f ((t - f) + 1).toNat ((want.zip wide).drop j)).length → rd (rowsF f ((t - f) + 1).toNat ((want.zip wide).drop j)) i ≤ 1000000000000000 := by
    intro j i h0 h1
    have := rowsF_hi f ((t - f) + 1).toNat ⟨by omega, by omega⟩ (by omega) ((want.zip wide).drop j) (fun p hp => hw p.1 (List.of_mem_zip (List.mem_of_mem_drop hp)).1) i h0 h1
    have h2 : ((want.zip wide).drop j).length ≤ 40 := by simp; omega
    omega
  have hrl := rowsF_length f ((t - f) + 1).toNat
  refine enter Try.func16 rfl 192 rfl (by simp) ?_
  refine x_seq ?_
  refine x_region ?_
  refine o_box (cs := [.int .i64 f, .int .i64 t]) rfl rfl hS (fun b1 w' hS => ?_)
  refine o_pure (v := .slice none 0 0) 6 (yl_assign rfl) ?_
  refine o_pure (v := .int .i64 0) 7 (yl_assign rfl) ?_
  refine x_done ?_
  refine x_seq ?_
  refine x_seq ?_
  refine x_region ?_
  refine o_pure (v := .slice A0 want.length c0) 21 (yl_move rfl) ?_
  refine o_pure (v := .slice A1 wide.length c1) 22 (yl_move rfl) ?_
  refine o_at (v := .agg #[.int .i64 f, .int .i64 t]) 23 (at_loadAgg (cs := [.int .i64 f, .int .i64 t]) agg_32 rfl rfl (fun j v hj => by rw [add0]; exact hS.cell hj)) ?_
  refine o_call (vs := [.slice A0 want.length c0, .slice A1 wide.length c1, .agg #[.int .i64 f, .int .i64 t]]) call_72 rfl (Calls.mono (checkRow_ok h0 h1 hl hn hf ft ht hw hd hsum (hS.pull 1)) ?_)
  rintro e w' ⟨rfl, hS⟩
  refine ⟨_, rfl, ?_⟩
  refine o_pure (v := .int .i64 0) 8 (yl_assign rfl) ?_
  refine x_done ?_
  refine x_seq ?_
  refine x_region ?_
  refine o_pure (v := .int .i64 0) 25 (yl_move rfl) ?_
  refine o_pure (v := .bool (decide ((0 : Int) ≠ 0))) 26 (yl_neq rfl rfl) ?_
  refine x_done ?_
  refine x_cond_f (show ev _ _ = .bool false from congrArg Value.bool (decide_eq_false (by omega))) ?_
  refine x_skip ?_
  refine x_seq ?_
  refine x_region ?_
  refine o_pure (v := .slice A0 want.length c0) 28 (yl_move rfl) ?_
  refine o_pure (v := .int .i64 (want.length : Int)) 29 (yl_len_slice us_22 rfl) ?_
  refine o_pure (v := .int .i64 (want.length : Int)) 9 (yl_assign rfl) ?_
  refine x_done ?_
  refine x_seq ?_
  refine x_region ?_
  refine o_pure (v := .int .i64 (want.length : Int)) 30 (yl_move rfl) ?_
  refine o_pure (v := .int .i64 ((want.length : Int) + 1)) 31 (yl_add (a := (want.length : Int)) (b := 1) rfl rfl (wrap_i64 (by omega))) ?_
  refine o_make1 (c := (want.length : Int) + 1) sl_142 zero_22 rfl rfl (by omega) (by omega) (by decide) hS (fun b2 w' hS => ?_)
  refine o_pure (v := .slice (some ⟨b2, 0, none⟩) (((want.length : Int) + 1).toNat) (((want.length : Int) + 1).toNat)) 10 (yl_assign rfl) ?_
  refine x_done ?_
  refine x_seq ?_
  refine x_region ?_
  refine o_pure (v := .pointer (some ⟨b1, 1, none⟩)) 33 (yl_field0 fld_32_1 rfl) ?_
  refine o_at (v := .int .i64 t) 34 (at_load one_3 rfl ((hS.pull 2).cell rfl)) ?_
  refine o_pure (v := .pointer (some ⟨b1, 0, none⟩)) 35 (yl_field0 fld_32_0 rfl) ?_
  refine o_at (v := .int .i64 f) 36 (at_load one_3 rfl ((hS.pull 2).cell rfl)) ?_
  refine o_pure (v := .int .i64 (t - f)) 37 (yl_sub (a := t) (b := f) rfl rfl (wrap_i64 (by omega))) ?_
  refine o_pure (v := .int .i64 ((t - f) + 1)) 38 (yl_add (a := t - f) (b := 1) rfl rfl (wrap_i64 (by omega))) ?_
  refine o_pure (v := .int .i64 ((t - f) + 1)) 11 (yl_assign rfl) ?_
  refine x_done ?_
  refine x_seq ?_
  refine x_region ?_
  refine o_pure (v := .slice (some ⟨b2, 0, none⟩) (((want.length : Int) + 1).toNat) (((want.length : Int) + 1).toNat)) 39 (yl_move rfl) ?_
  refine o_pure (v := .int .i64 (want.length : Int)) 40 (yl_move rfl) ?_
  refine o_pure (v := .int .i64 ((t - f) + 1)) 41 (yl_move rfl) ?_
  refine o_make1 (c := (t - f) + 1) sl_22 zero_3 rfl rfl (by omega) (by omega) (by decide) hS (fun b3 w' hS => ?_)
  rw [ints_replicate] at hS
  refine o_pure (v := .pointer (some ⟨b2, (want.length : Int).toNat, none⟩)) 43 (yl_index_b sl_142 rfl rfl (by omega) (by omega)) ?_
  refine o_store one_22 rfl rfl rfl (by simp) (hS.pull 1) (fun w' hS => ?_)
  refine x_done ?_
  refine x_seq ?_
  refine x_seq ?_
  obtain ⟨ρ2, hle2, hb2, hS⟩ := St.keep ((hS.pull 2).pull 2)
  refine x_region ?_
  refine o_pure (v := .int .i64 (want.length : Int)) 44 (yl_move rfl) ?_
  refine o_pure (v := .int .i64 ((want.length : Int) - 1)) 45 (yl_sub (a := (want.length : Int)) (b := 1) rfl rfl (wrap_i64 (by omega))) ?_
  refine o_pure (v := .int .i64 ((want.length : Int) - 1)) 12 (yl_assign rfl) ?_
  refine x_done ?_
  refine x_block ?_
  have hrow0 : Rows_ ρ2 f ((t - f) + 1).toNat (want.zip wide) ((List.replicate ((want.length : Int) + 1).toNat (.slice none 0 0)).set ((want.length : Int).toNat) (.slice (some ⟨b3, 0, none⟩) (((t - f) + 1).toNat) (((t - f) + 1).toNat))) ((want.length : Int) - 1 + 1) := by
    intro j h3 h4
    obtain rfl : j = want.length := by omega
    refine ⟨b3, List.getElem?_set_self (by simp), ?_⟩
    rw [List.drop_of_length_le (by omega)]
    exact RI.of_block hb2
  refine x_loop (fun k_ E w => ∃ (ρ' : Heap) (i : Int) (gs : List Value), E 12 = .int .i64 i ∧ E 0 = .slice A0 want.length c0 ∧ E 1 = .slice A1 wide.length c1 ∧ E 5 = .pointer (some ⟨b1, 0, none⟩) ∧ E 10 = .slice (some ⟨b2, 0, none⟩) (((want.length : Int) + 1).toNat) (((want.length : Int) + 1).toNat) ∧ E 11 = .int .i64 ((t - f) + 1) ∧ Le ρ ρ' ∧ (-1 ≤ i ∧ i < want.length) ∧ gs.length = want.length + 1 ∧ Rows_ ρ' f ((t - f) + 1).toNat (want.zip wide) gs (i + 1) ∧ k_ = (i + 1).toNat ∧ St w0 w (ro ρ' :: cells b1 32 [.int .i64 f, .int .i64 t] :: cells b2 22 gs :: l)) want.length ⟨ρ2, (want.length : Int) - 1, ((List.replicate ((want.length : Int) + 1).toNat (.slice none 0 0)).set ((want.length : Int).toNat) (.slice (some ⟨b3, 0, none⟩) (((t - f) + 1).toNat) (((t - f) + 1).toNat))), Eq.trans (b := Value.int .i64 ((want.length : Int) - 1)) rfl (congrArg (Value.int .i64) (by omega)), rfl, rfl, rfl, rfl, rfl, hle2, by omega, by simp, hrow0, by omega, (((hS.pull 1).pull 2).pull 2)⟩ ?_
  rintro k_ E w ⟨ρ', i, gs, e12, e0, e1, e5, e10, e11, hle, hi, hgl, hrow, hk, hS⟩
  have g0 := h0.le hle
  have g1 := h1.le hle
  refine x_seq ?_
  refine x_seq ?_
  refine x_region ?_
  refine o_pure (v := .int .i64 i) 46 (yl_move e12) ?_
  refine o_pure (v := .bool (decide (0 ≤ i))) 47 (yl_geq rfl rfl) ?_
  refine x_done ?_
  refine x_cond_p (0 ≤ i) rfl (fun hc => ?_) (fun hc => ?_)
  · skip
    refine x_skip ?_
    refine x_seq ?_
    refine x_block ?_
    refine x_seq ?_
    refine x_region ?_
    refine o_pure (v := .slice (some ⟨b2, 0, none⟩) (((want.length : Int) + 1).toNat) (((want.length : Int) + 1).toNat)) 50 (yl_move e10) ?_
    refine o_pure (v := .int .i64 i) 51 (yl_move e12) ?_
    refine o_pure (v := .int .i64 ((t - f) + 1)) 52 (yl_move e11) ?_
    refine o_make1 (c := (t - f) + 1) sl_22 zero_3 rfl rfl (by omega) (by omega) (by decide) hS (fun b4 w' hS => ?_)
    rw [ints_replicate] at hS
    refine o_pure (v := .pointer (some ⟨b2, i.toNat, none⟩)) 54 (yl_index_b sl_142 rfl rfl (by omega) (by omega)) ?_
    refine o_store one_22 rfl rfl rfl (by omega) (hS.pull 3) (fun w' hS => ?_)
    refine x_done ?_
    refine x_seq ?_
    obtain ⟨b1_, hb1_, hr1⟩ := hrow (i + 1).toNat (by omega) (by omega)
    have hwi := hw _ (rd_mem (i := i) (by omega) (by omega))
    have hdi := hd _ (rd_mem (i := i) (by omega) (by omega))
    refine x_region ?_
    refine o_pure (v := .int .i64 ((t - f) + 1)) 55 (yl_move e11) ?_
    refine o_pure (v := .int .i64 (((t - f) + 1) - 1)) 56 (yl_sub (a := (t - f) + 1) (b := 1) rfl rfl (wrap_i64 (by omega))) ?_
    refine o_pure (v := .int .i64 (((t - f) + 1) - 1)) 13 (yl_assign rfl) ?_
    refine x_done ?_
    refine x_block ?_
    refine x_loop (fun k_ E w => ∃ (k : Int) (cs : List Int), E 13 = .int .i64 k ∧ E 0 = .slice A0 want.length c0 ∧ E 1 = .slice A1 wide.length c1 ∧ E 5 = .pointer (some ⟨b1, 0, none⟩) ∧ E 10 = .slice (some ⟨b2, 0, none⟩) (((want.length : Int) + 1).toNat) (((want.length : Int) + 1).toNat) ∧ E 11 = .int .i64 ((t - f) + 1) ∧ E 12 = .int .i64 i ∧ (-1 ≤ k ∧ k < (t - f) + 1) ∧ cs.length = ((t - f) + 1).toNat ∧ (∀ j : Int, k < j → j < (t - f) + 1 → rd cs j = least (rowsF f ((t - f) + 1).toNat ((want.zip wide).drop (i + 1).toNat)) (rd want i) (rd wide i) f ((t - f) + 1).toNat ((t - f) + 1 - j).toNat) ∧ k_ = (k + 1).toNat ∧ St w0 w (cells b4 3 (ints .i64 cs) :: cells b2 22 (gs.set i.toNat (.slice (some ⟨b4, 0, none⟩) (((t - f) + 1).toNat) (((t - f) + 1).toNat))) :: ro ρ' :: cells b1 32 [.int .i64 f, .int .i64 t] :: l)) (((t - f) + 1).toNat) ⟨(t - f) + 1 - 1, List.replicate ((t - f) + 1).toNat 0, Eq.trans (b := Value.int .i64 (((t - f) + 1) - 1)) rfl (congrArg (Value.int .i64) (by omega)), e0, e1, e5, e10, e11, e12, by omega, by simp, by intro j _ _; omega, by omega, ((((hS.pull 3).pull 3).pull 2).pull 3)⟩ ?_
    rintro k_ E w ⟨k, cs, e13, e0, e1, e5, e10, e11, e12, hkk, hcl, hcs, hk, hS⟩
    refine x_seq ?_
    refine x_seq ?_
    refine x_region ?_
    refine o_pure (v := .int .i64 k) 57 (yl_move e13) ?_
    refine o_pure (v := .bool (decide (0 ≤ k))) 58 (yl_geq rfl rfl) ?_
    refine x_done ?_
    refine x_cond_p (0 ≤ k) rfl (fun hc => ?_) (fun hc => ?_)
    · skip
      refine x_skip ?_
      refine x_seq ?_
      refine x_block ?_
      refine x_seq ?_
      refine x_region ?_
      refine o_pure (v := .slice (some ⟨b2, 0, none⟩) (((want.length : Int) + 1).toNat) (((want.length : Int) + 1).toNat)) 61 (yl_move e10) ?_
      refine o_pure (v := .int .i64 i) 62 (yl_move e12) ?_
      refine o_pure (v := .pointer (some ⟨b2, i.toNat, none⟩)) 63 (yl_index_b sl_142 rfl rfl (by omega) (by omega)) ?_
      refine o_at (v := .slice (some ⟨b4, 0, none⟩) (((t - f) + 1).toNat) (((t - f) + 1).toNat)) 64 (at_load one_22 rfl ((hS.pull 1).cell (List.getElem?_set_self (by omega)))) ?_
      refine o_pure (v := .int .i64 k) 65 (yl_move e13) ?_
      refine o_pure (v := .pointer (some ⟨b4, k.toNat, none⟩)) 66 (yl_index_b sl_22 rfl rfl (by omega) (by omega)) ?_
      refine o_storeI one_3 rfl rfl (by omega) (by first | omega | (simp only [List.length_set, List.length_append, List.length_replicate, List.length_cons, List.length_nil]; omega)) hS (fun w' hS => ?_)
      refine x_done ?_
      refine x_seq ?_
      refine x_seq ?_
      refine x_region ?_
      refine o_pure (v := .int .i64 k) 67 (yl_move e13) ?_
      refine o_pure (v := .int .i64 (k + 1)) 68 (yl_add (a := k) (b := 1) rfl rfl (wrap_i64 (by omega))) ?_
      refine o_pure (v := .int .i64 ((t - f) + 1)) 69 (yl_move e11) ?_
      refine o_pure (v := .bool (decide ((k + 1) < ((t - f) + 1)))) 70 (yl_lss rfl rfl) ?_
      refine x_done ?_
      refine x_join (fun E w => ∃ (cs2 : List Int), E 0 = .slice A0 want.length c0 ∧ E 1 = .slice A1 wide.length c1 ∧ E 5 = .pointer (some ⟨b1, 0, none⟩) ∧ E 10 = .slice (some ⟨b2, 0, none⟩) (((want.length : Int) + 1).toNat) (((want.length : Int) + 1).toNat) ∧ E 11 = .int .i64 ((t - f) + 1) ∧ E 12 = .int .i64 i ∧ E 13 = .int .i64 k ∧ cs2.length = ((t - f) + 1).toNat ∧ (∀ j : Int, k < j → j < (t - f) + 1 → rd cs2 j = least (rowsF f ((t - f) + 1).toNat ((want.zip wide).drop (i + 1).toNat)) (rd want i) (rd wide i) f ((t - f) + 1).toNat ((t - f) + 1 - j).toNat) ∧ rd cs2 k = least (rowsF f ((t - f) + 1).toNat ((want.zip wide).drop (i + 1).toNat)) (rd want i) (rd wide i) f ((t - f) + 1).toNat ((t - f) + 1 - (k + 1)).toNat ∧ St w0 w (cells b4 3 (ints .i64 cs2) :: cells b2 22 (gs.set i.toNat (.slice (some ⟨b4, 0, none⟩) (((t - f) + 1).toNat) (((t - f) + 1).toNat))) :: ro ρ' :: cells b1 32 [.int .i64 f, .int .i64 t] :: l)) ?_ ?_
      · -- both ways
        refine x_cond_p ((k + 1) < ((t - f) + 1)) rfl (fun hc7 => ?_) (fun hc7 => ?_)
        · skip
          refine x_tail (fun w' => St w0 w' (cells b4 3 (ints .i64 (cs.set k.toNat (-1))) :: cells b2 22 (gs.set i.toNat (.slice (some ⟨b4, 0, none⟩) (((t - f) + 1).toNat) (((t - f) + 1).toNat))) :: ro ρ' :: cells b1 32 [.int .i64 f, .int .i64 t] :: l)) 14 mixed (by kernel_rfl) (hS.drawn _) _ _ rfl rfl ?_
          refine q_pure (v := .slice (some ⟨b2, 0, none⟩) (((want.length : Int) + 1).toNat) (((want.length : Int) + 1).toNat)) 71 (yl_move e10) ?_
          refine q_pure (v := .int .i64 i) 72 (yl_move e12) ?_
          refine q_pure (v := .pointer (some ⟨b2, i.toNat, none⟩)) 73 (yl_index_b sl_142 rfl rfl (by omega) (by omega)) ?_
          refine q_at (v := .slice (some ⟨b4, 0, none⟩) (((t - f) + 1).toNat) (((t - f) + 1).toNat)) 74 (fun w' hS => at_load one_22 rfl ((hS.pull 1).cell (List.getElem?_set_self (by omega)))) ?_
          refine q_pure (v := .int .i64 k) 75 (yl_move e13) ?_
          refine q_pure (v := .slice (some ⟨b2, 0, none⟩) (((want.length : Int) + 1).toNat) (((want.length : Int) + 1).toNat)) 76 (yl_move e10) ?_
          refine q_pure (v := .int .i64 i) 77 (yl_move e12) ?_
          refine q_pure (v := .pointer (some ⟨b2, i.toNat, none⟩)) 78 (yl_index_b sl_142 rfl rfl (by omega) (by omega)) ?_
          refine q_at (v := .slice (some ⟨b4, 0, none⟩) (((t - f) + 1).toNat) (((t - f) + 1).toNat)) 79 (fun w' hS => at_load one_22 rfl ((hS.pull 1).cell (List.getElem?_set_self (by omega)))) ?_
          refine q_pure (v := .int .i64 k) 80 (yl_move e13) ?_
          refine q_pure (v := .int .i64 (k + 1)) 81 (yl_add (a := k) (b := 1) rfl rfl (wrap_i64 (by omega))) ?_
          refine q_pure (v := .pointer (some ⟨b4, (k + 1).toNat, none⟩)) 82 (yl_index_b sl_22 rfl rfl (by omega) (by omega)) ?_
          refine q_at (v := .int .i64 (rd (cs.set k.toNat (-1)) (k + 1))) 83 (fun w' hS => at_load one_3 rfl (hS.int_cell (by omega) (by first | omega | (simp only [List.length_set, List.length_append, List.length_replicate, List.length_cons, List.length_nil]; omega)))) ?_
          refine q_pure (v := .pointer (some ⟨b4, k.toNat, none⟩)) 84 (yl_index_b sl_22 rfl rfl (by omega) (by omega)) ?_
          refine q_done fun w' hS => ?_
          refine o_storeI one_3 rfl rfl (by omega) (by first | omega | (simp only [List.length_set, List.length_append, List.length_replicate, List.length_cons, List.length_nil]; omega)) hS (fun w' hS => ?_)
          refine x_done ?_
          obtain ⟨q1, q2, q3⟩ := fill_a hcl hcs (by omega) (by omega)
          exact x_inv ⟨(cs.set k.toNat (-1)).set k.toNat (rd (cs.set k.toNat (-1)) (k + 1)), e0, e1, e5, e10, e11, e12, e13, q1, q2, q3, ((((hS.pull 3).pull 3).pull 3).pull 3)⟩
        · skip
          refine x_skip ?_
          obtain ⟨q1, q2, q3⟩ := fill_b hcl hcs (by omega) (by omega) (by omega)
          exact x_inv ⟨cs.set k.toNat (-1), e0, e1, e5, e10, e11, e12, e13, q1, q2, q3, ((((hS.pull 3).pull 3).pull 3).pull 3)⟩
      rintro E w ⟨cs2, e0, e1, e5, e10, e11, e12, e13, hcl, hcs, hck, hS⟩
      refine x_seq ?_
      refine x_quiet (fun w' => St w0 w' (cells b4 3 (ints .i64 cs2) :: cells b2 22 (gs.set i.toNat (.slice (some ⟨b4, 0, none⟩) (((t - f) + 1).toNat) (((t - f) + 1).toNat))) :: ro ρ' :: cells b1 32 [.int .i64 f, .int .i64 t] :: l)) mixed (by kernel_rfl) (hS.drawn _) ?_
      refine q_pure (v := .slice A0 want.length c0) 86 (yl_move e0) ?_
      refine q_pure (v := .int .i64 i) 87 (yl_move e12) ?_
      refine q_pure (v := .pointer (some ((adr A0).add (i.toNat * 1)))) 88 (yl_index_r sl_22 rfl rfl (g0.some (i := i) (by omega) (by omega)) (by omega) (by omega)) ?_
      refine q_at (v := .int .i64 (rd want i)) 89 (fun w' hS => at_load one_3 rfl (g0.cell (hS.pull 2) (by omega) (by omega))) ?_
      refine q_pure (v := .slice A1 wide.length c1) 90 (yl_move e1) ?_
      refine q_pure (v := .int .i64 i) 91 (yl_move e12) ?_
      refine q_pure (v := .pointer (some ((adr A1).add (i.toNat * 1)))) 92 (yl_index_r sl_22 rfl rfl (g1.some (i := i) (by omega) (by omega)) (by omega) (by omega)) ?_
      refine q_at (v := .int .i64 (rd wide i)) 93 (fun w' hS => at_load one_3 rfl (g1.cell (hS.pull 2) (by omega) (by omega))) ?_
      refine q_pure (v := .pointer (some ⟨b1, 0, none⟩)) 94 (yl_field0 fld_32_0 e5) ?_
      refine q_at (v := .int .i64 f) 95 (fun w' hS => at_load one_3 rfl ((hS.pull 3).cell rfl)) ?_
      refine q_pure (v := .int .i64 k) 96 (yl_move e13) ?_
      refine q_pure (v := .int .i64 (f + k)) 97 (yl_add (a := f) (b := k) rfl rfl (wrap_i64 (by omega))) ?_
      refine q_pure (v := .slice (some ⟨b2, 0, none⟩) (((want.length : Int) + 1).toNat) (((want.length : Int) + 1).toNat)) 98 (yl_move e10) ?_
      refine q_pure (v := .int .i64 i) 99 (yl_move e12) ?_
      refine q_pure (v := .int .i64 (i + 1)) 100 (yl_add (a := i) (b := 1) rfl rfl (wrap_i64 (by omega))) ?_
      refine q_pure (v := .pointer (some ⟨b2, (i + 1).toNat, none⟩)) 101 (yl_index_b sl_142 rfl rfl (by omega) (by omega)) ?_
      refine q_at (v := .slice (some ⟨b1_, 0, none⟩) (((t - f) + 1).toNat) (((t - f) + 1).toNat)) 102 (fun w' hS => at_load one_22 rfl ((hS.pull 1).cell (by rw [List.getElem?_set_ne (by omega)]; exact hb1_))) ?_
      refine q_at (v := .agg #[.int .i64 f, .int .i64 t]) 103 (fun w' hS => at_loadAgg (cs := [.int .i64 f, .int .i64 t]) agg_32 e5 rfl (fun j v hj => by rw [add0]; exact (hS.pull 3).cell hj)) ?_
      refine q_call (v := .tuple #[.int .i64 ((costF (rd want i) (rd wide i) (f + k) f (rowsF f ((t - f) + 1).toNat ((want.zip wide).drop (i + 1).toNat))).1), .bool ((costF (rd want i) (rd wide i) (f + k) f (rowsF f ((t - f) + 1).toNat ((want.zip wide).drop (i + 1).toNat))).2)]) 104 (fun w' _ => run_call (vs := [.int .i64 (rd want i), .int .i64 (rd wide i), .int .i64 (f + k), .slice (some ⟨b1_, 0, none⟩) (((t - f) + 1).toNat) (((t - f) + 1).toNat), .agg #[.int .i64 f, .int .i64 t]]) call_73 rfl) (fun w' hS => (cost_spec (b := (rowsF f ((t - f) + 1).toNat ((want.zip wide).drop (i + 1).toNat))) (bn := ((t - f) + 1).toNat) (hrl _) hr1 (by omega) (by omega) (by omega) (by omega) (by omega) (hhi _) (hS.pull 2)).mono fun e w' h => ⟨h.1, h.2.push 2⟩) ?_
      refine q_pure (v := .tuple #[.int .i64 ((costF (rd want i) (rd wide i) (f + k) f (rowsF f ((t - f) + 1).toNat ((want.zip wide).drop (i + 1).toNat))).1), .bool ((costF (rd want i) (rd wide i) (f + k) f (rowsF f ((t - f) + 1).toNat ((want.zip wide).drop (i + 1).toNat))).2)]) 85 (yl_move rfl) ?_
      refine q_pure (v := .int .i64 ((costF (rd want i) (rd wide i) (f + k) f (rowsF f ((t - f) + 1).toNat ((want.zip wide).drop (i + 1).toNat))).1)) 105 (yl_extract rfl rfl) ?_
      refine q_pure (v := .bool ((costF (rd want i) (rd wide i) (f + k) f (rowsF f ((t - f) + 1).toNat ((want.zip wide).drop (i + 1).toNat))).2)) 106 (yl_extract rfl rfl) ?_
      refine q_pure (v := .int .i64 ((costF (rd want i) (rd wide i) (f + k) f (rowsF f ((t - f) + 1).toNat ((want.zip wide).drop (i + 1).toNat))).1)) 14 (yl_assign rfl) ?_
      refine q_pure (v := .bool ((costF (rd want i) (rd wide i) (f + k) f (rowsF f ((t - f) + 1).toNat ((want.zip wide).drop (i + 1).toNat))).2)) 15 (yl_assign rfl) ?_
      refine q_done fun w' hS => ?_
      refine x_seq ?_
      refine x_region ?_
      refine o_pure (v := .bool ((costF (rd want i) (rd wide i) (f + k) f (rowsF f ((t - f) + 1).toNat ((want.zip wide).drop (i + 1).toNat))).2)) 107 (yl_move rfl) ?_
      refine o_pure (v := .bool ((costF (rd want i) (rd wide i) (f + k) f (rowsF f ((t - f) + 1).toNat ((want.zip wide).drop (i + 1).toNat))).2)) 108 (yl_move rfl) ?_
      refine o_if (v := .slice (some ⟨b2, 0, none⟩) (((want.length : Int) + 1).toNat) (((want.length : Int) + 1).toNat)) 109 108 true ((costF (rd want i) (rd wide i) (f + k) f (rowsF f ((t - f) + 1).toNat ((want.zip wide).drop (i + 1).toNat))).2) (says_t _) (fun hq => by
          have hq' := hq
          try simp only [Bool.and_eq_true, Bool.or_eq_true, Bool.not_eq_true', Bool.not_eq_false', decide_eq_true_eq, decide_eq_false_iff_not] at hq'
          exact Yl.at (yl_move e10)) ?_
      refine o_if (v := .int .i64 i) 110 108 true ((costF (rd want i) (rd wide i) (f + k) f (rowsF f ((t - f) + 1).toNat ((want.zip wide).drop (i + 1).toNat))).2) (says_t _) (fun hq => by
          have hq' := hq
          try simp only [Bool.and_eq_true, Bool.or_eq_true, Bool.not_eq_true', Bool.not_eq_false', decide_eq_true_eq, decide_eq_false_iff_not] at hq'
          exact Yl.at (yl_move e12)) ?_
      refine o_if (v := .pointer (some ⟨b2, i.toNat, none⟩)) 111 108 true ((costF (rd want i) (rd wide i) (f + k) f (rowsF f ((t - f) + 1).toNat ((want.zip wide).drop (i + 1).toNat))).2) (says_t _) (fun hq => by
          have hq' := hq
          try simp only [Bool.and_eq_true, Bool.or_eq_true, Bool.not_eq_true', Bool.not_eq_false', decide_eq_true_eq, decide_eq_false_iff_not] at hq'
          exact Yl.at (yl_index_b sl_142 (cv (v := .slice (some ⟨b2, 0, none⟩) (((want.length : Int) + 1).toNat) (((want.length : Int) + 1).toNat)) hq) (cv (v := .int .i64 i) hq) (by omega) (by omega))) ?_
      refine o_if (v := .slice (some ⟨b4, 0, none⟩) (((t - f) + 1).toNat) (((t - f) + 1).toNat)) 112 108 true ((costF (rd want i) (rd wide i) (f + k) f (rowsF f ((t - f) + 1).toNat ((want.zip wide).drop (i + 1).toNat))).2) (says_t _) (fun hq => by
          have hq' := hq
          try simp only [Bool.and_eq_true, Bool.or_eq_true, Bool.not_eq_true', Bool.not_eq_false', decide_eq_true_eq, decide_eq_false_iff_not] at hq'
          exact at_load one_22 (cv (v := .pointer (some ⟨b2, i.toNat, none⟩)) hq) ((hS.pull 1).cell (List.getElem?_set_self (by omega)))) ?_
      refine o_if (v := .int .i64 k) 113 108 true ((costF (rd want i) (rd wide i) (f + k) f (rowsF f ((t - f) + 1).toNat ((want.zip wide).drop (i + 1).toNat))).2) (says_t _) (fun hq => by
          have hq' := hq
          try simp only [Bool.and_eq_true, Bool.or_eq_true, Bool.not_eq_true', Bool.not_eq_false', decide_eq_true_eq, decide_eq_false_iff_not] at hq'
          exact Yl.at (yl_move e13)) ?_
      refine o_if (v := .pointer (some ⟨b4, k.toNat, none⟩)) 114 108 true ((costF (rd want i) (rd wide i) (f + k) f (rowsF f ((t - f) + 1).toNat ((want.zip wide).drop (i + 1).toNat))).2) (says_t _) (fun hq => by
          have hq' := hq
          try simp only [Bool.and_eq_true, Bool.or_eq_true, Bool.not_eq_true', Bool.not_eq_false', decide_eq_true_eq, decide_eq_false_iff_not] at hq'
          exact Yl.at (yl_index_b sl_22 (cv (v := .slice (some ⟨b4, 0, none⟩) (((t - f) + 1).toNat) (((t - f) + 1).toNat)) hq) (cv (v := .int .i64 k) hq) (by omega) (by omega))) ?_
      refine o_if (v := .int .i64 (rd cs2 k)) 115 108 true ((costF (rd want i) (rd wide i) (f + k) f (rowsF f ((t - f) + 1).toNat ((want.zip wide).drop (i + 1).toNat))).2) (says_t _) (fun hq => by
          have hq' := hq
          try simp only [Bool.and_eq_true, Bool.or_eq_true, Bool.not_eq_true', Bool.not_eq_false', decide_eq_true_eq, decide_eq_false_iff_not] at hq'
          exact at_load one_3 (cv (v := .pointer (some ⟨b4, k.toNat, none⟩)) hq) (hS.int_cell (by omega) (by first | omega | (simp only [List.length_set, List.length_append, List.length_replicate, List.length_cons, List.length_nil]; omega)))) ?_
      refine o_if (v := .bool (decide ((rd cs2 k) < 0))) 116 108 true ((costF (rd want i) (rd wide i) (f + k) f (rowsF f ((t - f) + 1).toNat ((want.zip wide).drop (i + 1).toNat))).2) (says_t _) (fun hq => by
          have hq' := hq
          try simp only [Bool.and_eq_true, Bool.or_eq_true, Bool.not_eq_true', Bool.not_eq_false', decide_eq_true_eq, decide_eq_false_iff_not] at hq'
          exact Yl.at (yl_lss (cv (v := .int .i64 (rd cs2 k)) hq) rfl)) ?_
      refine o_if (v := .bool (decide ((rd cs2 k) < 0))) 117 108 true ((costF (rd want i) (rd wide i) (f + k) f (rowsF f ((t - f) + 1).toNat ((want.zip wide).drop (i + 1).toNat))).2) (says_t _) (fun hq => by
          have hq' := hq
          try simp only [Bool.and_eq_true, Bool.or_eq_true, Bool.not_eq_true', Bool.not_eq_false', decide_eq_true_eq, decide_eq_false_iff_not] at hq'
          exact Yl.at (yl_move (cv (v := .bool (decide ((rd cs2 k) < 0))) hq))) ?_
      refine o_if (v := .int .i64 ((costF (rd want i) (rd wide i) (f + k) f (rowsF f ((t - f) + 1).toNat ((want.zip wide).drop (i + 1).toNat))).1)) 118 117 false (((costF (rd want i) (rd wide i) (f + k) f (rowsF f ((t - f) + 1).toNat ((want.zip wide).drop (i + 1).toNat))).2) && !(decide ((rd cs2 k) < 0))) (says_iff _ _) (fun hq => by
          have hq' := hq
          try simp only [Bool.and_eq_true, Bool.or_eq_true, Bool.not_eq_true', Bool.not_eq_false', decide_eq_true_eq, decide_eq_false_iff_not] at hq'
          exact Yl.at (yl_move rfl)) ?_
      refine o_if (v := .slice (some ⟨b2, 0, none⟩) (((want.length : Int) + 1).toNat) (((want.length : Int) + 1).toNat)) 119 117 false (((costF (rd want i) (rd wide i) (f + k) f (rowsF f ((t - f) + 1).toNat ((want.zip wide).drop (i + 1).toNat))).2) && !(decide ((rd cs2 k) < 0))) (says_iff _ _) (fun hq => by
          have hq' := hq
          try simp only [Bool.and_eq_true, Bool.or_eq_true, Bool.not_eq_true', Bool.not_eq_false', decide_eq_true_eq, decide_eq_false_iff_not] at hq'
          exact Yl.at (yl_move e10)) ?_
      refine o_if (v := .int .i64 i) 120 117 false (((costF (rd want i) (rd wide i) (f + k) f (rowsF f ((t - f) + 1).toNat ((want.zip wide).drop (i + 1).toNat))).2) && !(decide ((rd cs2 k) < 0))) (says_iff _ _) (fun hq => by
          have hq' := hq
          try simp only [Bool.and_eq_true, Bool.or_eq_true, Bool.not_eq_true', Bool.not_eq_false', decide_eq_true_eq, decide_eq_false_iff_not] at hq'
          exact Yl.at (yl_move e12)) ?_
      refine o_if (v := .pointer (some ⟨b2, i.toNat, none⟩)) 121 117 false (((costF (rd want i) (rd wide i) (f + k) f (rowsF f ((t - f) + 1).toNat ((want.zip wide).drop (i + 1).toNat))).2) && !(decide ((rd cs2 k) < 0))) (says_iff _ _) (fun hq => by
          have hq' := hq
          try simp only [Bool.and_eq_true, Bool.or_eq_true, Bool.not_eq_true', Bool.not_eq_false', decide_eq_true_eq, decide_eq_false_iff_not] at hq'
          exact Yl.at (yl_index_b sl_142 (cv (v := .slice (some ⟨b2, 0, none⟩) (((want.length : Int) + 1).toNat) (((want.length : Int) + 1).toNat)) hq) (cv (v := .int .i64 i) hq) (by omega) (by omega))) ?_
      refine o_if (v := .slice (some ⟨b4, 0, none⟩) (((t - f) + 1).toNat) (((t - f) + 1).toNat)) 122 117 false (((costF (rd want i) (rd wide i) (f + k) f (rowsF f ((t - f) + 1).toNat ((want.zip wide).drop (i + 1).toNat))).2) && !(decide ((rd cs2 k) < 0))) (says_iff _ _) (fun hq => by
          have hq' := hq
          try simp only [Bool.and_eq_true, Bool.or_eq_true, Bool.not_eq_true', Bool.not_eq_false', decide_eq_true_eq, decide_eq_false_iff_not] at hq'
          exact at_load one_22 (cv (v := .pointer (some ⟨b2, i.toNat, none⟩)) hq) ((hS.pull 1).cell (List.getElem?_set_self (by omega)))) ?_
      refine o_if (v := .int .i64 k) 123 117 false (((costF (rd want i) (rd wide i) (f + k) f (rowsF f ((t - f) + 1).toNat ((want.zip wide).drop (i + 1).toNat))).2) && !(decide ((rd cs2 k) < 0))) (says_iff _ _) (fun hq => by
          have hq' := hq
          try simp only [Bool.and_eq_true, Bool.or_eq_true, Bool.not_eq_true', Bool.not_eq_false', decide_eq_true_eq, decide_eq_false_iff_not] at hq'
          exact Yl.at (yl_move e13)) ?_
      refine o_if (v := .pointer (some ⟨b4, k.toNat, none⟩)) 124 117 false (((costF (rd want i) (rd wide i) (f + k) f (rowsF f ((t - f) + 1).toNat ((want.zip wide).drop (i + 1).toNat))).2) && !(decide ((rd cs2 k) < 0))) (says_iff _ _) (fun hq => by
          have hq' := hq
          try simp only [Bool.and_eq_true, Bool.or_eq_true, Bool.not_eq_true', Bool.not_eq_false', decide_eq_true_eq, decide_eq_false_iff_not] at hq'
          exact Yl.at (yl_index_b sl_22 (cv (v := .slice (some ⟨b4, 0, none⟩) (((t - f) + 1).toNat) (((t - f) + 1).toNat)) hq) (cv (v := .int .i64 k) hq) (by omega) (by omega))) ?_
      refine o_if (v := .int .i64 (rd cs2 k)) 125 117 false (((costF (rd want i) (rd wide i) (f + k) f (rowsF f ((t - f) + 1).toNat ((want.zip wide).drop (i + 1).toNat))).2) && !(decide ((rd cs2 k) < 0))) (says_iff _ _) (fun hq => by
          have hq' := hq
          try simp only [Bool.and_eq_true, Bool.or_eq_true, Bool.not_eq_true', Bool.not_eq_false', decide_eq_true_eq, decide_eq_false_iff_not] at hq'
          exact at_load one_3 (cv (v := .pointer (some ⟨b4, k.toNat, none⟩)) hq) (hS.int_cell (by omega) (by first | omega | (simp only [List.length_set, List.length_append, List.length_replicate, List.length_cons, List.length_nil]; omega)))) ?_
      refine o_if (v := .bool (decide (((costF (rd want i) (rd wide i) (f + k) f (rowsF f ((t - f) + 1).toNat ((want.zip wide).drop (i + 1).toNat))).1) ≤ (rd cs2 k)))) 126 117 false (((costF (rd want i) (rd wide i) (f + k) f (rowsF f ((t - f) + 1).toNat ((want.zip wide).drop (i + 1).toNat))).2) && !(decide ((rd cs2 k) < 0))) (says_iff _ _) (fun hq => by
          have hq' := hq
          try simp only [Bool.and_eq_true, Bool.or_eq_true, Bool.not_eq_true', Bool.not_eq_false', decide_eq_true_eq, decide_eq_false_iff_not] at hq'
          exact Yl.at (yl_leq (cv (v := .int .i64 ((costF (rd want i) (rd wide i) (f + k) f (rowsF f ((t - f) + 1).toNat ((want.zip wide).drop (i + 1).toNat))).1)) hq) (cv (v := .int .i64 (rd cs2 k)) hq))) ?_
      refine o_if (v := .bool ((decide ((rd cs2 k) < 0)) || (decide (((costF (rd want i) (rd wide i) (f + k) f (rowsF f ((t - f) + 1).toNat ((want.zip wide).drop (i + 1).toNat))).1) ≤ (rd cs2 k))))) 127 108 true ((costF (rd want i) (rd wide i) (f + k) f (rowsF f ((t - f) + 1).toNat ((want.zip wide).drop (i + 1).toNat))).2) (says_t _) (fun hq => by
          have hq' := hq
          try simp only [Bool.and_eq_true, Bool.or_eq_true, Bool.not_eq_true', Bool.not_eq_false', decide_eq_true_eq, decide_eq_false_iff_not] at hq'
          exact Yl.at (yl_or (cv (v := .bool (decide ((rd cs2 k) < 0))) hq) rfl (fun hc => (cv (v := .bool (decide (((costF (rd want i) (rd wide i) (f + k) f (rowsF f ((t - f) + 1).toNat ((want.zip wide).drop (i + 1).toNat))).1) ≤ (rd cs2 k)))) (and_i hq (t_not hc)))))) ?_
      refine o_pure (v := .bool (((costF (rd want i) (rd wide i) (f + k) f (rowsF f ((t - f) + 1).toNat ((want.zip wide).drop (i + 1).toNat))).2) && ((decide ((rd cs2 k) < 0)) || (decide (((costF (rd want i) (rd wide i) (f + k) f (rowsF f ((t - f) + 1).toNat ((want.zip wide).drop (i + 1).toNat))).1) ≤ (rd cs2 k)))))) 128 (yl_and rfl (fun hc => (cv (v := .bool ((decide ((rd cs2 k) < 0)) || (decide (((costF (rd want i) (rd wide i) (f + k) f (rowsF f ((t - f) + 1).toNat ((want.zip wide).drop (i + 1).toNat))).1) ≤ (rd cs2 k))))) hc)) rfl) ?_
      refine x_done ?_
      refine x_cond (t := ((costF (rd want i) (rd wide i) (f + k) f (rowsF f ((t - f) + 1).toNat ((want.zip wide).drop (i + 1).toNat))).2) && ((decide ((rd cs2 k) < 0)) || (decide (((costF (rd want i) (rd wide i) (f + k) f (rowsF f ((t - f) + 1).toNat ((want.zip wide).drop (i + 1).toNat))).1) ≤ (rd cs2 k))))) rfl (fun hcc => ?_) (fun hcc => ?_)
      · skip
        simp only [Bool.and_eq_true, Bool.or_eq_true, Bool.and_eq_false_iff, Bool.or_eq_false_iff, Bool.not_eq_true', Bool.not_eq_false', decide_eq_true_eq, decide_eq_false_iff_not] at hcc
        refine x_region ?_
        refine o_pure (v := .slice (some ⟨b2, 0, none⟩) (((want.length : Int) + 1).toNat) (((want.length : Int) + 1).toNat)) 129 (yl_move e10) ?_
        refine o_pure (v := .int .i64 i) 130 (yl_move e12) ?_
        refine o_pure (v := .pointer (some ⟨b2, i.toNat, none⟩)) 131 (yl_index_b sl_142 rfl rfl (by omega) (by omega)) ?_
        refine o_at (v := .slice (some ⟨b4, 0, none⟩) (((t - f) + 1).toNat) (((t - f) + 1).toNat)) 132 (at_load one_22 rfl ((hS.pull 1).cell (List.getElem?_set_self (by omega)))) ?_
        refine o_pure (v := .int .i64 k) 133 (yl_move e13) ?_
        refine o_pure (v := .int .i64 ((costF (rd want i) (rd wide i) (f + k) f (rowsF f ((t - f) + 1).toNat ((want.zip wide).drop (i + 1).toNat))).1)) 134 (yl_move rfl) ?_
        refine o_pure (v := .pointer (some ⟨b4, k.toNat, none⟩)) 135 (yl_index_b sl_22 rfl rfl (by omega) (by omega)) ?_
        refine o_storeI one_3 rfl rfl (by omega) (by first | omega | (simp only [List.length_set, List.length_append, List.length_replicate, List.length_cons, List.length_nil]; omega)) hS (fun w' hS => ?_)
        refine x_done ?_
        refine x_blk ?_
        refine x_region ?_
        refine o_pure (v := .int .i64 k) 59 (yl_move e13) ?_
        refine o_pure (v := .int .i64 (k - 1)) 60 (yl_sub (a := k) (b := 1) rfl rfl (wrap_i64 (by omega))) ?_
        refine o_pure (v := .int .i64 (k - 1)) 13 (yl_assign rfl) ?_
        refine x_done ?_
        obtain ⟨hcl3, hcs3⟩ := fill_c hcl hcs (by omega) (by omega) hck hcc
        refine x_inv ⟨k.toNat, by omega, k - 1, cs2.set k.toNat ((costF (rd want i) (rd wide i) (f + k) f (rowsF f ((t - f) + 1).toNat ((want.zip wide).drop (i + 1).toNat))).1), Eq.trans (b := Value.int .i64 (k - 1)) rfl (congrArg (Value.int .i64) (by omega)), e0, e1, e5, e10, e11, e12, by omega, hcl3, hcs3, by omega, ((((hS.pull 3).pull 3).pull 3).pull 3)⟩
      · skip
        simp only [Bool.and_eq_true, Bool.or_eq_true, Bool.and_eq_false_iff, Bool.or_eq_false_iff, Bool.not_eq_true', Bool.not_eq_false', decide_eq_true_eq, decide_eq_false_iff_not] at hcc
        refine x_skip ?_
        refine x_blk ?_
        refine x_region ?_
        refine o_pure (v := .int .i64 k) 59 (yl_move e13) ?_
        refine o_pure (v := .int .i64 (k - 1)) 60 (yl_sub (a := k) (b := 1) rfl rfl (wrap_i64 (by omega))) ?_
        refine o_pure (v := .int .i64 (k - 1)) 13 (yl_assign rfl) ?_
        refine x_done ?_
        have hcs3 := fill_d hcl hcs (by omega) (by omega) hck (by rintro ⟨q1, q3⟩; rcases hcc with q2 | q2; exact absurd (q1.symm.trans q2) (by simp); omega)
        refine x_inv ⟨k.toNat, by omega, k - 1, cs2, Eq.trans (b := Value.int .i64 (k - 1)) rfl (congrArg (Value.int .i64) (by omega)), e0, e1, e5, e10, e11, e12, by omega, hcl, hcs3, by omega, ((((hS.pull 3).pull 3).pull 3).pull 3)⟩
    · skip
      refine x_exitTo _ rfl ?_
      refine x_blk ?_
      obtain ⟨ρ2, hle2, hb2, hS⟩ := St.keep ((hS.pull 2).pull 1)
      have hcont : RI ρ2 .i64 (some ⟨b4, 0, none⟩) (rowsF f ((t - f) + 1).toNat ((want.zip wide).drop i.toNat)) := by
        have e : cs = rowsF f ((t - f) + 1).toNat ((want.zip wide).drop i.toNat) := by
          refine ext_rd (by rw [rowsF_length]; omega) fun j h3 h4 => ?_
          rw [rd_take_zip (by omega) hl, rowsF_rd _ _ _ _ h3 (by omega), hcs j (by omega) (by omega)]
          simp only [show ((i.toNat : Nat) : Int) = i by omega, show i.toNat + 1 = (i + 1).toNat by omega]
          rw [show ((t - f) + 1 - j).toNat = (((((t - f) + 1).toNat : Nat) : Int) - j).toNat by omega]
        rw [← e]
        exact RI.of_block hb2
      refine x_region ?_
      refine o_pure (v := .int .i64 i) 48 (yl_move e12) ?_
      refine o_pure (v := .int .i64 (i - 1)) 49 (yl_sub (a := i) (b := 1) rfl rfl (wrap_i64 (by omega))) ?_
      refine o_pure (v := .int .i64 (i - 1)) 12 (yl_assign rfl) ?_
      refine x_done ?_
      have hrow2 := hrow.step hle2 (by omega) (by omega) hcont
      refine x_inv ⟨i.toNat, by omega, ρ2, i - 1, gs.set i.toNat (.slice (some ⟨b4, 0, none⟩) (((t - f) + 1).toNat) (((t - f) + 1).toNat)), Eq.trans (b := Value.int .i64 (i - 1)) rfl (congrArg (Value.int .i64) (by omega)), e0, e1, e5, e10, e11, hle.trans hle2, by omega, by simp; omega, hrow2, by omega, (((hS.pull 1).pull 2).pull 2)⟩
  · skip
    refine x_exitTo _ rfl ?_
    refine x_seq ?_
    refine x_region ?_
    refine o_pure (v := .slice none 0 0) 16 (yl_assign rfl) ?_
    refine x_done ?_
    refine x_seq ?_
    refine x_region ?_
    refine o_pure (v := .int .i64 0) 17 (yl_assign rfl) ?_
    refine x_done ?_
    refine x_seq ?_
    refine x_seq ?_
    refine x_region ?_
    refine o_pure (v := .slice A0 want.length c0) 136 (yl_move e0) ?_
    refine o_pure (v := .int .i64 (want.length : Int)) 137 (yl_len_slice us_22 rfl) ?_
    refine o_pure (v := .int .i64 0) 138 (yl_move rfl) ?_
    refine x_done ?_
    refine x_block ?_
    have i0_ : i = -1 := by omega
    subst i0_
    have hfit := rowsF_fits f ((t - f) + 1).toNat (want.zip wide) 0 (fun p hp => (hd p.2 (List.of_mem_zip hp).2).1) (Int.le_refl _) (by rw [List.map_snd_zip (by omega)]; omega)
    refine x_loop (fun k_ E w => ∃ (i : Nat) (at_ : Int) (v : Value) (os : List Int), E 16 = v ∧ E 17 = .int .i64 at_ ∧ E 138 = .int .i64 (i : Int) ∧ E 0 = .slice A0 want.length c0 ∧ E 1 = .slice A1 wide.length c1 ∧ E 5 = .pointer (some ⟨b1, 0, none⟩) ∧ E 10 = .slice (some ⟨b2, 0, none⟩) (((want.length : Int) + 1).toNat) (((want.length : Int) + 1).toNat) ∧ E 137 = .int .i64 (want.length : Int) ∧ i ≤ want.length ∧ (0 ≤ at_ ∧ at_ < (t - f) + 1) ∧ 0 ≤ rd (rowsF f ((t - f) + 1).toNat ((want.zip wide).drop i)) at_ ∧ placeF f ((t - f) + 1).toNat (want.zip wide) 0 = os ++ placeF f ((t - f) + 1).toNat ((want.zip wide).drop i) at_ ∧ os.length = i ∧ k_ = want.length - i ∧ St w0 w (vec 3 1 v i (ints .i64 os) :: ro ρ' :: cells b1 32 [.int .i64 f, .int .i64 t] :: cells b2 22 gs :: l)) want.length ⟨0, 0, .slice none 0 0, [], rfl, Eq.trans (b := Value.int .i64 0) rfl (congrArg (Value.int .i64) (by omega)), Eq.trans (b := Value.int .i64 0) rfl (congrArg (Value.int .i64) (by omega)), e0, e1, e5, e10, rfl, by omega, by omega, by rw [List.drop_zero]; exact hfit, by rw [List.drop_zero]; rfl, rfl, by omega, St.vec_nil (((hS.pull 2).pull 2).pull 2) 3 1⟩ ?_
    rintro k_ E w ⟨i, at_, v, os, e16, e17, e138, e0, e1, e5, e10, e137, hi2, hat, hfe, hpl, hos, hk, hS⟩
    refine x_seq ?_
    refine x_region ?_
    refine o_pure (v := .bool (decide ((i : Int) < (want.length : Int)))) 139 (yl_lss e138 e137) ?_
    refine x_done ?_
    refine x_seq ?_
    refine x_cond_p ((i : Int) < (want.length : Int)) rfl (fun hc => ?_) (fun hc => ?_)
    · skip
      refine x_skip ?_
      refine x_seq ?_
      refine x_block ?_
      refine x_seq ?_
      obtain ⟨b1_, hb1_, hr1⟩ := hrow (((i : Int) + 1)).toNat (by omega) (by omega)
      obtain ⟨b0_, hb0_, hr0⟩ := hrow i (by omega) (by omega)
      have hwi := hw _ (rd_mem (i := (i : Int)) (by omega) (by omega))
      have hdi := hd _ (rd_mem (i := (i : Int)) (by omega) (by omega))
      have hri : ∀ j : Int, 0 ≤ j → j < (t - f) + 1 → rd (rowsF f ((t - f) + 1).toNat ((want.zip wide).drop i)) j = least (rowsF f ((t - f) + 1).toNat ((want.zip wide).drop ((i : Int) + 1).toNat)) (rd want (i : Int)) (rd wide (i : Int)) f ((t - f) + 1).toNat (((t - f) + 1) - j).toNat := by
        intro j h3 h4
        rw [rd_take_zip (by omega) hl, rowsF_rd _ _ _ _ h3 (by omega), show ((i : Int) + 1).toNat = i + 1 by omega, show ((t - f) + 1 - j).toNat = (((((t - f) + 1).toNat : Nat) : Int) - j).toNat by omega]
      have hlr0 := hrl ((want.zip wide).drop i)
      refine x_region ?_
      refine o_pure (v := .int .i64 (i : Int)) 140 (yl_move e138) ?_
      refine o_pure (v := .int .i64 (i : Int)) 18 (yl_assign rfl) ?_
      refine x_done ?_
      refine x_seq ?_
      refine x_block ?_
      have hfe2 := hfe
      rw [hri at_ (by omega) (by omega)] at hfe2
      refine x_loop (fun k_ E w => ∃ (at2 : Int), E 17 = .int .i64 at2 ∧ E 0 = .slice A0 want.length c0 ∧ E 1 = .slice A1 wide.length c1 ∧ E 5 = .pointer (some ⟨b1, 0, none⟩) ∧ E 10 = .slice (some ⟨b2, 0, none⟩) (((want.length : Int) + 1).toNat) (((want.length : Int) + 1).toNat) ∧ E 16 = v ∧ E 18 = .int .i64 (i : Int) ∧ E 137 = .int .i64 (want.length : Int) ∧ E 138 = .int .i64 (i : Int) ∧ (at_ ≤ at2 ∧ at2 < (t - f) + 1) ∧ seek (rowsF f ((t - f) + 1).toNat ((want.zip wide).drop ((i : Int) + 1).toNat)) (rd want (i : Int)) (rd wide (i : Int)) f ((t - f) + 1).toNat ((t - f) + 1 - at2).toNat = seek (rowsF f ((t - f) + 1).toNat ((want.zip wide).drop ((i : Int) + 1).toNat)) (rd want (i : Int)) (rd wide (i : Int)) f ((t - f) + 1).toNat ((t - f) + 1 - at_).toNat ∧ 0 ≤ least (rowsF f ((t - f) + 1).toNat ((want.zip wide).drop ((i : Int) + 1).toNat)) (rd want (i : Int)) (rd wide (i : Int)) f ((t - f) + 1).toNat ((t - f) + 1 - at2).toNat ∧ k_ = ((t - f) + 1 - at2).toNat ∧ St w0 w (vec 3 1 v i (ints .i64 os) :: ro ρ' :: cells b1 32 [.int .i64 f, .int .i64 t] :: cells b2 22 gs :: l)) (((t - f) + 1 - at_).toNat) ⟨at_, Eq.trans (b := Value.int .i64 at_) e17 (congrArg (Value.int .i64) (by omega)), e0, e1, e5, e10, e16, rfl, e137, e138, by omega, rfl, hfe2, by omega, hS⟩ ?_
      rintro k_ E w ⟨at2, e17, e0, e1, e5, e10, e16, e18, e137, e138, ha2, hs2, hl2, hk, hS⟩
      refine x_block ?_
      refine x_seq ?_
      refine x_seq ?_
      refine x_quiet (fun w' => St w0 w' (vec 3 1 v i (ints .i64 os) :: ro ρ' :: cells b1 32 [.int .i64 f, .int .i64 t] :: cells b2 22 gs :: l)) mixed (by kernel_rfl) (hS.drawn _) ?_
      refine q_pure (v := .slice A0 want.length c0) 142 (yl_move e0) ?_
      refine q_pure (v := .int .i64 (i : Int)) 143 (yl_move e18) ?_
      refine q_pure (v := .pointer (some ((adr A0).add ((i : Int).toNat * 1)))) 144 (yl_index_r sl_22 rfl rfl (g0.some (i := (i : Int)) (by omega) (by omega)) (by omega) (by omega)) ?_
      refine q_at (v := .int .i64 (rd want (i : Int))) 145 (fun w' hS => at_load one_3 rfl (g0.cell (hS.pull 1) (by omega) (by omega))) ?_
      refine q_pure (v := .slice A1 wide.length c1) 146 (yl_move e1) ?_
      refine q_pure (v := .int .i64 (i : Int)) 147 (yl_move e18) ?_
      refine q_pure (v := .pointer (some ((adr A1).add ((i : Int).toNat * 1)))) 148 (yl_index_r sl_22 rfl rfl (g1.some (i := (i : Int)) (by omega) (by omega)) (by omega) (by omega)) ?_
      refine q_at (v := .int .i64 (rd wide (i : Int))) 149 (fun w' hS => at_load one_3 rfl (g1.cell (hS.pull 1) (by omega) (by omega))) ?_
      refine q_pure (v := .pointer (some ⟨b1, 0, none⟩)) 150 (yl_field0 fld_32_0 e5) ?_
      refine q_at (v := .int .i64 f) 151 (fun w' hS => at_load one_3 rfl ((hS.pull 2).cell rfl)) ?_
      refine q_pure (v := .int .i64 at2) 152 (yl_move e17) ?_
      refine q_pure (v := .int .i64 (f + at2)) 153 (yl_add (a := f) (b := at2) rfl rfl (wrap_i64 (by omega))) ?_
      refine q_pure (v := .slice (some ⟨b2, 0, none⟩) (((want.length : Int) + 1).toNat) (((want.length : Int) + 1).toNat)) 154 (yl_move e10) ?_
      refine q_pure (v := .int .i64 (i : Int)) 155 (yl_move e18) ?_
      refine q_pure (v := .int .i64 ((i : Int) + 1)) 156 (yl_add (a := (i : Int)) (b := 1) rfl rfl (wrap_i64 (by omega))) ?_
      refine q_pure (v := .pointer (some ⟨b2, ((i : Int) + 1).toNat, none⟩)) 157 (yl_index_b sl_142 rfl rfl (by omega) (by omega)) ?_
      refine q_at (v := .slice (some ⟨b1_, 0, none⟩) (((t - f) + 1).toNat) (((t - f) + 1).toNat)) 158 (fun w' hS => at_load one_22 rfl ((hS.pull 3).cell hb1_)) ?_
      refine q_at (v := .agg #[.int .i64 f, .int .i64 t]) 159 (fun w' hS => at_loadAgg (cs := [.int .i64 f, .int .i64 t]) agg_32 e5 rfl (fun j v hj => by rw [add0]; exact (hS.pull 2).cell hj)) ?_
      refine q_call (v := .tuple #[.int .i64 ((costF (rd want (i : Int)) (rd wide (i : Int)) (f + at2) f (rowsF f ((t - f) + 1).toNat ((want.zip wide).drop ((i : Int) + 1).toNat))).1), .bool ((costF (rd want (i : Int)) (rd wide (i : Int)) (f + at2) f (rowsF f ((t - f) + 1).toNat ((want.zip wide).drop ((i : Int) + 1).toNat))).2)]) 160 (fun w' _ => run_call (vs := [.int .i64 (rd want (i : Int)), .int .i64 (rd wide (i : Int)), .int .i64 (f + at2), .slice (some ⟨b1_, 0, none⟩) (((t - f) + 1).toNat) (((t - f) + 1).toNat), .agg #[.int .i64 f, .int .i64 t]]) call_73 rfl) (fun w' hS => (cost_spec (b := (rowsF f ((t - f) + 1).toNat ((want.zip wide).drop ((i : Int) + 1).toNat))) (bn := ((t - f) + 1).toNat) (hrl _) hr1 (by omega) (by omega) (by omega) (by omega) (by omega) (hhi _) (hS.pull 1)).mono fun e w' h => ⟨h.1, h.2.push 1⟩) ?_
      refine q_pure (v := .tuple #[.int .i64 ((costF (rd want (i : Int)) (rd wide (i : Int)) (f + at2) f (rowsF f ((t - f) + 1).toNat ((want.zip wide).drop ((i : Int) + 1).toNat))).1), .bool ((costF (rd want (i : Int)) (rd wide (i : Int)) (f + at2) f (rowsF f ((t - f) + 1).toNat ((want.zip wide).drop ((i : Int) + 1).toNat))).2)]) 141 (yl_move rfl) ?_
      refine q_pure (v := .int .i64 ((costF (rd want (i : Int)) (rd wide (i : Int)) (f + at2) f (rowsF f ((t - f) + 1).toNat ((want.zip wide).drop ((i : Int) + 1).toNat))).1)) 161 (yl_extract rfl rfl) ?_
      refine q_pure (v := .bool ((costF (rd want (i : Int)) (rd wide (i : Int)) (f + at2) f (rowsF f ((t - f) + 1).toNat ((want.zip wide).drop ((i : Int) + 1).toNat))).2)) 162 (yl_extract rfl rfl) ?_
      refine q_pure (v := .int .i64 ((costF (rd want (i : Int)) (rd wide (i : Int)) (f + at2) f (rowsF f ((t - f) + 1).toNat ((want.zip wide).drop ((i : Int) + 1).toNat))).1)) 19 (yl_assign rfl) ?_
      refine q_pure (v := .bool ((costF (rd want (i : Int)) (rd wide (i : Int)) (f + at2) f (rowsF f ((t - f) + 1).toNat ((want.zip wide).drop ((i : Int) + 1).toNat))).2)) 20 (yl_assign rfl) ?_
      refine q_done fun w' hS => ?_
      refine x_seq ?_
      refine x_region ?_
      refine o_pure (v := .bool ((costF (rd want (i : Int)) (rd wide (i : Int)) (f + at2) f (rowsF f ((t - f) + 1).toNat ((want.zip wide).drop ((i : Int) + 1).toNat))).2)) 163 (yl_move rfl) ?_
      refine o_pure (v := .bool ((costF (rd want (i : Int)) (rd wide (i : Int)) (f + at2) f (rowsF f ((t - f) + 1).toNat ((want.zip wide).drop ((i : Int) + 1).toNat))).2)) 164 (yl_move rfl) ?_
      refine o_if (v := .int .i64 ((costF (rd want (i : Int)) (rd wide (i : Int)) (f + at2) f (rowsF f ((t - f) + 1).toNat ((want.zip wide).drop ((i : Int) + 1).toNat))).1)) 165 164 true ((costF (rd want (i : Int)) (rd wide (i : Int)) (f + at2) f (rowsF f ((t - f) + 1).toNat ((want.zip wide).drop ((i : Int) + 1).toNat))).2) (says_t _) (fun hq => by
          have hq' := hq
          try simp only [Bool.and_eq_true, Bool.or_eq_true, Bool.not_eq_true', Bool.not_eq_false', decide_eq_true_eq, decide_eq_false_iff_not] at hq'
          exact Yl.at (yl_move rfl)) ?_
      refine o_if (v := .slice (some ⟨b2, 0, none⟩) (((want.length : Int) + 1).toNat) (((want.length : Int) + 1).toNat)) 166 164 true ((costF (rd want (i : Int)) (rd wide (i : Int)) (f + at2) f (rowsF f ((t - f) + 1).toNat ((want.zip wide).drop ((i : Int) + 1).toNat))).2) (says_t _) (fun hq => by
          have hq' := hq
          try simp only [Bool.and_eq_true, Bool.or_eq_true, Bool.not_eq_true', Bool.not_eq_false', decide_eq_true_eq, decide_eq_false_iff_not] at hq'
          exact Yl.at (yl_move e10)) ?_
      refine o_if (v := .int .i64 (i : Int)) 167 164 true ((costF (rd want (i : Int)) (rd wide (i : Int)) (f + at2) f (rowsF f ((t - f) + 1).toNat ((want.zip wide).drop ((i : Int) + 1).toNat))).2) (says_t _) (fun hq => by
          have hq' := hq
          try simp only [Bool.and_eq_true, Bool.or_eq_true, Bool.not_eq_true', Bool.not_eq_false', decide_eq_true_eq, decide_eq_false_iff_not] at hq'
          exact Yl.at (yl_move e18)) ?_
      refine o_if (v := .pointer (some ⟨b2, (i : Int).toNat, none⟩)) 168 164 true ((costF (rd want (i : Int)) (rd wide (i : Int)) (f + at2) f (rowsF f ((t - f) + 1).toNat ((want.zip wide).drop ((i : Int) + 1).toNat))).2) (says_t _) (fun hq => by
          have hq' := hq
          try simp only [Bool.and_eq_true, Bool.or_eq_true, Bool.not_eq_true', Bool.not_eq_false', decide_eq_true_eq, decide_eq_false_iff_not] at hq'
          exact Yl.at (yl_index_b sl_142 (cv (v := .slice (some ⟨b2, 0, none⟩) (((want.length : Int) + 1).toNat) (((want.length : Int) + 1).toNat)) hq) (cv (v := .int .i64 (i : Int)) hq) (by omega) (by omega))) ?_
      refine o_if (v := .slice (some ⟨b0_, 0, none⟩) (((t - f) + 1).toNat) (((t - f) + 1).toNat)) 169 164 true ((costF (rd want (i : Int)) (rd wide (i : Int)) (f + at2) f (rowsF f ((t - f) + 1).toNat ((want.zip wide).drop ((i : Int) + 1).toNat))).2) (says_t _) (fun hq => by
          have hq' := hq
          try simp only [Bool.and_eq_true, Bool.or_eq_true, Bool.not_eq_true', Bool.not_eq_false', decide_eq_true_eq, decide_eq_false_iff_not] at hq'
          exact at_load one_22 (cv (v := .pointer (some ⟨b2, (i : Int).toNat, none⟩)) hq) ((hS.pull 3).cell (by simpa using hb0_))) ?_
      refine o_if (v := .int .i64 at2) 170 164 true ((costF (rd want (i : Int)) (rd wide (i : Int)) (f + at2) f (rowsF f ((t - f) + 1).toNat ((want.zip wide).drop ((i : Int) + 1).toNat))).2) (says_t _) (fun hq => by
          have hq' := hq
          try simp only [Bool.and_eq_true, Bool.or_eq_true, Bool.not_eq_true', Bool.not_eq_false', decide_eq_true_eq, decide_eq_false_iff_not] at hq'
          exact Yl.at (yl_move e17)) ?_
      refine o_if (v := .pointer (some ((adr (some ⟨b0_, 0, none⟩)).add (at2.toNat * 1)))) 171 164 true ((costF (rd want (i : Int)) (rd wide (i : Int)) (f + at2) f (rowsF f ((t - f) + 1).toNat ((want.zip wide).drop ((i : Int) + 1).toNat))).2) (says_t _) (fun hq => by
          have hq' := hq
          try simp only [Bool.and_eq_true, Bool.or_eq_true, Bool.not_eq_true', Bool.not_eq_false', decide_eq_true_eq, decide_eq_false_iff_not] at hq'
          exact Yl.at (yl_index_r sl_22 (cv (v := .slice (some ⟨b0_, 0, none⟩) (((t - f) + 1).toNat) (((t - f) + 1).toNat)) hq) (cv (v := .int .i64 at2) hq) (hr0.some (i := at2) (by omega) (by omega)) (by omega) (by omega))) ?_
      refine o_if (v := .int .i64 (rd (rowsF f ((t - f) + 1).toNat ((want.zip wide).drop i)) at2)) 172 164 true ((costF (rd want (i : Int)) (rd wide (i : Int)) (f + at2) f (rowsF f ((t - f) + 1).toNat ((want.zip wide).drop ((i : Int) + 1).toNat))).2) (says_t _) (fun hq => by
          have hq' := hq
          try simp only [Bool.and_eq_true, Bool.or_eq_true, Bool.not_eq_true', Bool.not_eq_false', decide_eq_true_eq, decide_eq_false_iff_not] at hq'
          exact at_load one_3 (cv (v := .pointer (some ((adr (some ⟨b0_, 0, none⟩)).add (at2.toNat * 1)))) hq) (hr0.cell (hS.pull 1) (by omega) (by omega))) ?_
      refine o_if (v := .bool (decide (((costF (rd want (i : Int)) (rd wide (i : Int)) (f + at2) f (rowsF f ((t - f) + 1).toNat ((want.zip wide).drop ((i : Int) + 1).toNat))).1) = (rd (rowsF f ((t - f) + 1).toNat ((want.zip wide).drop i)) at2)))) 173 164 true ((costF (rd want (i : Int)) (rd wide (i : Int)) (f + at2) f (rowsF f ((t - f) + 1).toNat ((want.zip wide).drop ((i : Int) + 1).toNat))).2) (says_t _) (fun hq => by
          have hq' := hq
          try simp only [Bool.and_eq_true, Bool.or_eq_true, Bool.not_eq_true', Bool.not_eq_false', decide_eq_true_eq, decide_eq_false_iff_not] at hq'
          exact Yl.at (yl_eql (cv (v := .int .i64 ((costF (rd want (i : Int)) (rd wide (i : Int)) (f + at2) f (rowsF f ((t - f) + 1).toNat ((want.zip wide).drop ((i : Int) + 1).toNat))).1)) hq) (cv (v := .int .i64 (rd (rowsF f ((t - f) + 1).toNat ((want.zip wide).drop i)) at2)) hq))) ?_
      refine o_pure (v := .bool (((costF (rd want (i : Int)) (rd wide (i : Int)) (f + at2) f (rowsF f ((t - f) + 1).toNat ((want.zip wide).drop ((i : Int) + 1).toNat))).2) && (decide (((costF (rd want (i : Int)) (rd wide (i : Int)) (f + at2) f (rowsF f ((t - f) + 1).toNat ((want.zip wide).drop ((i : Int) + 1).toNat))).1) = (rd (rowsF f ((t - f) + 1).toNat ((want.zip wide).drop i)) at2))))) 174 (yl_and rfl (fun hc => (cv (v := .bool (decide (((costF (rd want (i : Int)) (rd wide (i : Int)) (f + at2) f (rowsF f ((t - f) + 1).toNat ((want.zip wide).drop ((i : Int) + 1).toNat))).1) = (rd (rowsF f ((t - f) + 1).toNat ((want.zip wide).drop i)) at2)))) hc)) rfl) ?_
      refine x_done ?_
      refine x_cond (t := ((costF (rd want (i : Int)) (rd wide (i : Int)) (f + at2) f (rowsF f ((t - f) + 1).toNat ((want.zip wide).drop ((i : Int) + 1).toNat))).2) && (decide (((costF (rd want (i : Int)) (rd wide (i : Int)) (f + at2) f (rowsF f ((t - f) + 1).toNat ((want.zip wide).drop ((i : Int) + 1).toNat))).1) = (rd (rowsF f ((t - f) + 1).toNat ((want.zip wide).drop i)) at2)))) rfl (fun hcc => ?_) (fun hcc => ?_)
      · skip
        simp only [Bool.and_eq_true, Bool.or_eq_true, Bool.and_eq_false_iff, Bool.or_eq_false_iff, Bool.not_eq_true', Bool.not_eq_false', decide_eq_true_eq, decide_eq_false_iff_not] at hcc
        refine x_exitTo _ rfl ?_
        refine x_seq ?_
        have hh := seek_hit (by omega) (by omega) ⟨hcc.1, hcc.2.trans (hri at2 (by omega) (by omega))⟩
        rw [hs2] at hh
        obtain ⟨q1, q2, _⟩ := costF_spec hcc.1
        rw [hrl] at q1
        rw [show f + at2 + rd wide ↑i - f = at2 + rd wide ↑i by omega, show ((i : Int) + 1).toNat = i + 1 by omega] at q2
        have hq3 := q2
        have hq4 : placeF f ((t - f) + 1).toNat (want.zip wide) 0 = (os ++ [f + at2]) ++ placeF f ((t - f) + 1).toNat ((want.zip wide).drop (i + 1)) (at2 + rd wide ↑i) := by
          rw [hpl, rd_take_zip (by omega) hl]
          simp only [placeF]
          rw [show ((((((t - f) + 1).toNat : Nat) : Int) - at_).toNat) = ((t - f) + 1 - at_).toNat by omega, show i + 1 = ((i : Int) + 1).toNat by omega, hh, show (((((t - f) + 1).toNat : Nat) : Int) - ((((t - f) + 1 - at2).toNat : Nat) : Int)) = at2 by omega]
          simp
        refine x_region ?_
        refine o_pure (v := v) 177 (yl_move e16) ?_
        refine o_pure (v := .pointer (some ⟨b1, 0, none⟩)) 178 (yl_field0 fld_32_0 e5) ?_
        refine o_at (v := .int .i64 f) 179 (at_load one_3 rfl ((hS.pull 2).cell rfl)) ?_
        refine o_pure (v := .int .i64 at2) 180 (yl_move e17) ?_
        refine o_pure (v := .int .i64 (f + at2)) 181 (yl_add (a := f) (b := at2) rfl rfl (wrap_i64 (by omega))) ?_
        refine o_buildSlice (vs := [.int .i64 (f + at2)]) (cs := [.int .i64 (f + at2)]) sl_22 zero_3 rfl rfl (by intro v hv; simp only [List.mem_cons, List.not_mem_nil, or_false] at hv; (first | (subst hv; rfl) | (rcases hv with rfl <;> rfl))) (by decide) rfl hS (fun b5 w' hS => ?_)
        refine o_append1 (xs := ints .i64 os) (news := [.int .i64 (f + at2)]) sl_22 zero_3 rfl (by decide) rfl rfl ((hS.pull 1).pull 1) rfl (by intro u hu; simp only [List.mem_cons, List.not_mem_nil, or_false] at hu; first | (subst hu; rfl) | (rcases hu with rfl <;> rfl)) (by unfold maxLen; omega) (by omega) (fun v6 w' hS => ?_)
        replace hS : St w0 w' (vec 3 1 v6 (i + 1) (ints .i64 (os ++ [f + at2])) :: ro ρ' :: cells b1 32 [.int .i64 f, .int .i64 t] :: cells b2 22 gs :: l) := by simpa [ints] using hS
        refine o_pure (v := v6) 16 (yl_assign rfl) ?_
        refine x_done ?_
        refine x_region ?_
        refine o_pure (v := .int .i64 at2) 184 (yl_move e17) ?_
        refine o_pure (v := .slice A1 wide.length c1) 185 (yl_move e1) ?_
        refine o_pure (v := .int .i64 (i : Int)) 186 (yl_move e18) ?_
        refine o_pure (v := .pointer (some ((adr A1).add ((i : Int).toNat * 1)))) 187 (yl_index_r sl_22 rfl rfl (g1.some (i := (i : Int)) (by omega) (by omega)) (by omega) (by omega)) ?_
        refine o_at (v := .int .i64 (rd wide (i : Int))) 188 (at_load one_3 rfl (g1.cell (hS.pull 1) (by omega) (by omega))) ?_
        refine o_pure (v := .int .i64 (at2 + (rd wide (i : Int)))) 189 (yl_add (a := at2) (b := rd wide (i : Int)) rfl rfl (wrap_i64 (by omega))) ?_
        refine o_pure (v := .int .i64 (at2 + (rd wide (i : Int)))) 17 (yl_assign rfl) ?_
        refine x_done ?_
        refine x_blk ?_
        refine x_region ?_
        refine o_pure (v := .int .i64 ((i : Int) + 1)) 190 (yl_add (a := (i : Int)) (b := 1) e138 rfl (wrap_i64 (by omega))) ?_
        refine o_pure (v := .int .i64 ((i : Int) + 1)) 138 (yl_move rfl) ?_
        refine x_done ?_
        refine x_inv ⟨want.length - (i + 1), by omega, i + 1, at2 + rd wide ↑i, v6, os ++ [f + at2], rfl, Eq.trans (b := Value.int .i64 (at2 + (rd wide (i : Int)))) rfl (congrArg (Value.int .i64) (by omega)), Eq.trans (b := Value.int .i64 ((i : Int) + 1)) rfl (congrArg (Value.int .i64) (by omega)), e0, e1, e5, e10, e137, by omega, ⟨by omega, by omega⟩, hq3, hq4, by simp [hos], by omega, ((((hS.pull 3).pull 3).pull 3).pull 3)⟩
      · skip
        simp only [Bool.and_eq_true, Bool.or_eq_true, Bool.and_eq_false_iff, Bool.or_eq_false_iff, Bool.not_eq_true', Bool.not_eq_false', decide_eq_true_eq, decide_eq_false_iff_not] at hcc
        refine x_skip ?_
        refine x_region ?_
        refine o_pure (v := .int .i64 at2) 175 (yl_move e17) ?_
        refine o_pure (v := .int .i64 (at2 + 1)) 176 (yl_add (a := at2) (b := 1) rfl rfl (wrap_i64 (by omega))) ?_
        refine o_pure (v := .int .i64 (at2 + 1)) 17 (yl_assign rfl) ?_
        refine x_done ?_
        refine x_blk ?_
        obtain ⟨q1, q2, q3⟩ := seek_miss (by omega) (by omega) hl2 (by rintro ⟨q1, q3⟩; rcases hcc with q2 | q2; exact absurd (q1.symm.trans q2) (by simp); exact q2 (q3.trans (hri at2 (by omega) (by omega)).symm))
        refine x_inv ⟨((t - f) + 1 - (at2 + 1)).toNat, by omega, at2 + 1, Eq.trans (b := Value.int .i64 (at2 + 1)) rfl (congrArg (Value.int .i64) (by omega)), e0, e1, e5, e10, e16, e18, e137, e138, by omega, q2.trans hs2, q3, by omega, hS⟩
    · skip
      refine x_exitTo _ rfl ?_
      refine x_seq ?_
      obtain rfl : i = want.length := by omega
      obtain ⟨ρ3, A_, c_, hle3, rfl, hcc_, hrd, hlen, hS⟩ := St.vec_keep ((hS.pull 1).pull 1)
      refine x_region ?_
      refine o_pure (v := .slice A_ want.length c_) 191 (yl_move e16) ?_
      refine o_pure (v := .slice A_ want.length c_) 6 (yl_assign rfl) ?_
      refine o_pure (v := .int .i64 0) 7 (yl_assign rfl) ?_
      refine x_done ?_
      refine x_return ?_
      refine ⟨.tuple #[.slice A_ want.length c_, .int .i64 0], rfl, ?_⟩
      have hfin : placeF f ((t - f) + 1).toNat (want.zip wide) 0 = os := by rw [hpl, List.drop_of_length_le (by omega)]; simp [placeF]
      exact ⟨ρ3, A_, c_, hle.trans hle3, rfl, hcc_, by rw [hfin]; exact hrd, ((hS.pull 1).drop.pull 1).drop⟩

end Go.Proofs.Ytnooiajahmichaa.X
