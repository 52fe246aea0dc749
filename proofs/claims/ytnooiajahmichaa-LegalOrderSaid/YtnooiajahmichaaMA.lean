/- The stream of raw numbers: what its methods hand out lies in the range that was asked for. -/
import Derived.Test.YtnooiajahmichaaXT
namespace Go.Proofs.Ytnooiajahmichaa.X
open Go Go.RowKit
set_option linter.unusedVariables false
set_option linter.unusedSimpArgs false

/-- A stream in block g over the numbers L, of which at most m have been handed out. -/
def strm (g : Nat) (A : Option Addr) (c : Nat) (L : List Int) (m : Int) : Assn := ex fun at_ : {i : Int // 0 ≤ i ∧ i ≤ m} => cells g 25 [.slice A L.length c, .int .i64 at_.1]
theorem St.strm_open {w0 w : World} {l : List Assn} {g : Nat} {A : Option Addr} {c : Nat} {L : List Int} {m : Int} (h : St w0 w (strm g A c L m :: l)) : ∃ at_ : Int, 0 ≤ at_ ∧ at_ ≤ m ∧ St w0 w (cells g 25 [.slice A L.length c, .int .i64 at_] :: l) := by
  obtain ⟨⟨i, h0, h1⟩, h2⟩ := h.unex
  exact ⟨i, h0, h1, h2⟩
theorem St.strm_shut {w0 w : World} {l : List Assn} {g : Nat} {A : Option Addr} {c : Nat} {L : List Int} {m at_ : Int} (h0 : 0 ≤ at_) (h1 : at_ ≤ m) (h : St w0 w (cells g 25 [.slice A L.length c, .int .i64 at_] :: l)) : St w0 w (strm g A c L m :: l) := h.ex ⟨at_, h0, h1⟩

theorem Below_spec {w0 w : World} {l : List Assn} (hS : St w0 w l) (a n : Int) (hn : n ≤ 4611686018427387904) :
    Calls Try.prog 38 #[.int .i64 a, .int .i64 n] w fun e w' => ∃ r : Int, e = .returned (.int .i64 r) ∧ (0 ≤ r ∧ (1 ≤ n → r < n) ∧ (n < 1 → r = 0)) ∧ St w0 w' l := by
  refine enter Try.func38 rfl 16 rfl (by simp) ?_
  refine x_seq ?_
  refine x_region ?_
  refine o_pure (v := .int .i64 0) 4 (yl_assign rfl) ?_
  refine x_done ?_
  refine x_seq ?_
  refine x_seq ?_
  refine x_region ?_
  refine o_pure (v := .int .i64 n) 5 (yl_move rfl) ?_
  refine o_pure (v := .bool (decide (n < 1))) 6 (yl_lss rfl rfl) ?_
  refine x_done ?_
  refine x_cond_p (n < 1) rfl (fun hc => ?_) (fun hc => ?_)
  · skip
    refine x_seq ?_
    refine x_region ?_
    refine o_pure (v := .int .i64 0) 4 (yl_assign rfl) ?_
    refine x_done ?_
    refine x_return ?_
    refine ⟨.int .i64 0, rfl, ?_⟩
    exact ⟨_, rfl, ⟨by omega, by omega, by omega⟩, hS⟩
  · skip
    refine x_skip ?_
    refine x_seq ?_
    have t1 := Int.tmod_lt_of_pos a (show 0 < n by omega)
    have t2 : -n < Int.tmod a n := by have := Int.lt_tmod_of_pos a (show 0 < n by omega); omega
    refine x_region ?_
    refine o_pure (v := .int .i64 a) 7 (yl_move rfl) ?_
    refine o_pure (v := .int .i64 n) 8 (yl_move rfl) ?_
    refine o_pure (v := .int .i64 (Int.tmod a n)) 9 (yl_rem (a := a) (b := n) rfl rfl (by omega) rfl) ?_
    refine o_pure (v := .int .i64 (Int.tmod a n)) 0 (yl_assign rfl) ?_
    refine x_done ?_
    refine x_seq ?_
    refine x_seq ?_
    refine x_region ?_
    refine o_pure (v := .int .i64 (Int.tmod a n)) 10 (yl_move rfl) ?_
    refine o_pure (v := .bool (decide ((Int.tmod a n) < 0))) 11 (yl_lss rfl rfl) ?_
    refine x_done ?_
    refine x_cond_p ((Int.tmod a n) < 0) rfl (fun hc => ?_) (fun hc => ?_)
    · skip
      refine x_region ?_
      refine o_pure (v := .int .i64 (Int.tmod a n)) 12 (yl_move rfl) ?_
      refine o_pure (v := .int .i64 n) 13 (yl_move rfl) ?_
      refine o_pure (v := .int .i64 ((Int.tmod a n) + n)) 14 (yl_add (a := Int.tmod a n) (b := n) rfl rfl (wrap_i64 (by omega))) ?_
      refine o_pure (v := .int .i64 ((Int.tmod a n) + n)) 0 (yl_assign rfl) ?_
      refine x_done ?_
      refine x_seq ?_
      refine x_region ?_
      refine o_pure (v := .int .i64 ((Int.tmod a n) + n)) 15 (yl_move rfl) ?_
      refine o_pure (v := .int .i64 ((Int.tmod a n) + n)) 4 (yl_assign rfl) ?_
      refine x_done ?_
      refine x_return ?_
      refine ⟨.int .i64 ((Int.tmod a n) + n), rfl, ?_⟩
      exact ⟨_, rfl, ⟨by omega, by omega, by omega⟩, hS⟩
    · skip
      refine x_skip ?_
      refine x_seq ?_
      refine x_region ?_
      refine o_pure (v := .int .i64 (Int.tmod a n)) 15 (yl_move rfl) ?_
      refine o_pure (v := .int .i64 (Int.tmod a n)) 4 (yl_assign rfl) ?_
      refine x_done ?_
      refine x_return ?_
      refine ⟨.int .i64 (Int.tmod a n), rfl, ?_⟩
      exact ⟨_, rfl, ⟨by omega, by omega, by omega⟩, hS⟩

theorem Next_cells {w0 w : World} {l : List Assn} {ρ : Heap} {g c : Nat} {A : Option Addr} {L : List Int} {at_ n : Int} (hA : RI ρ .i64 A L) (h0 : 0 ≤ at_) (h1 : at_ ≤ 1099511627776) (hn : n ≤ 4611686018427387904) (hS : St w0 w (cells g 25 [.slice A L.length c, .int .i64 at_] :: ro ρ :: l)) :
    Calls Try.prog 15 #[.pointer (some ⟨g, 0, none⟩), .int .i64 n] w fun e w' => ∃ r : Int, e = .returned (.int .i64 r) ∧ (0 ≤ r ∧ (1 ≤ n → r < n) ∧ (n < 1 → r = 0)) ∧ St w0 w' (cells g 25 [.slice A L.length c, .int .i64 (at_ + 1)] :: ro ρ :: l) := by
  refine enter Try.func15 rfl 64 rfl (by simp) ?_
  refine x_seq ?_
  refine x_region ?_
  refine o_pure (v := .int .i64 0) 4 (yl_assign rfl) ?_
  refine x_done ?_
  refine x_seq ?_
  refine x_region ?_
  refine o_pure (v := .pointer (some ⟨g, 0, none⟩)) 7 (yl_move rfl) ?_
  refine o_pure (v := .pointer (some ⟨g, 0, none⟩)) 8 (yl_nilCheck rfl) ?_
  refine o_pure (v := .pointer (some ⟨g, 1, none⟩)) 9 (yl_field0 fld_25_1 rfl) ?_
  refine o_at (v := .int .i64 at_) 10 (at_load one_3 rfl (hS.cell rfl)) ?_
  refine o_pure (v := .int .i64 (at_ + 1)) 11 (yl_add (a := at_) (b := 1) rfl rfl (wrap_i64 (by omega))) ?_
  refine o_pure (v := .pointer (some ⟨g, 0, none⟩)) 12 (yl_nilCheck rfl) ?_
  refine o_pure (v := .pointer (some ⟨g, 1, none⟩)) 13 (yl_field0 fld_25_1 rfl) ?_
  refine o_store one_3 rfl rfl rfl (by simp) hS (fun w' hS => ?_)
  replace hS : St w0 w' (cells g 25 [.slice A L.length c, .int .i64 (at_ + 1)] :: ro ρ :: l) := hS
  refine x_done ?_
  refine x_seq ?_
  refine x_seq ?_
  refine x_region ?_
  refine o_pure (v := .pointer (some ⟨g, 0, none⟩)) 14 (yl_move rfl) ?_
  refine o_pure (v := .pointer (some ⟨g, 0, none⟩)) 15 (yl_nilCheck rfl) ?_
  refine o_pure (v := .pointer (some ⟨g, 0, none⟩)) 16 (yl_field0 fld_25_0 rfl) ?_
  refine o_at (v := .slice A L.length c) 17 (at_load one_22 rfl (hS.cell rfl)) ?_
  refine o_pure (v := .int .i64 (L.length : Int)) 18 (yl_len_slice us_22 rfl) ?_
  refine o_pure (v := .bool (decide ((L.length : Int) = 0))) 19 (yl_eql rfl rfl) ?_
  refine x_done ?_
  refine x_cond_p ((L.length : Int) = 0) rfl (fun hc => ?_) (fun hc => ?_)
  · skip
    refine x_seq ?_
    refine x_region ?_
    refine o_pure (v := .pointer (some ⟨g, 0, none⟩)) 20 (yl_move rfl) ?_
    refine o_pure (v := .pointer (some ⟨g, 0, none⟩)) 21 (yl_nilCheck rfl) ?_
    refine o_pure (v := .pointer (some ⟨g, 1, none⟩)) 22 (yl_field0 fld_25_1 rfl) ?_
    refine o_at (v := .int .i64 (at_ + 1)) 23 (at_load one_3 rfl (hS.cell rfl)) ?_
    refine o_pure (v := .int .i64 (IntKind.i64.wrap ((at_ + 1) * 7919))) 24 (yl_mul (a := at_ + 1) (b := 7919) rfl rfl rfl) ?_
    refine o_pure (v := .int .i64 n) 25 (yl_move rfl) ?_
    refine o_call (vs := [.int .i64 (IntKind.i64.wrap ((at_ + 1) * 7919)), .int .i64 n]) call_38 rfl (Calls.mono (Below_spec hS (IntKind.i64.wrap ((at_ + 1) * 7919)) n (by omega)) ?_)
    rintro e w' ⟨r1, rfl, ⟨r1a, r1b, r1c⟩, hS⟩
    refine ⟨_, rfl, ?_⟩
    refine o_pure (v := .int .i64 r1) 4 (yl_assign rfl) ?_
    refine x_done ?_
    refine x_return ?_
    refine ⟨.int .i64 r1, rfl, ?_⟩
    exact ⟨_, rfl, by first | exact ⟨by assumption, by assumption, by assumption⟩ | exact ⟨by omega, by omega, by omega⟩, hS⟩
  · skip
    refine x_skip ?_
    refine x_seq ?_
    refine x_quiet (fun w' => St w0 w' (cells g 25 [.slice A L.length c, .int .i64 (at_ + 1)] :: ro ρ :: l)) mixed (by kernel_rfl) (hS.drawn _) ?_
    refine q_pure (v := .pointer (some ⟨g, 0, none⟩)) 27 (yl_move rfl) ?_
    refine q_pure (v := .pointer (some ⟨g, 0, none⟩)) 28 (yl_nilCheck rfl) ?_
    refine q_pure (v := .pointer (some ⟨g, 1, none⟩)) 29 (yl_field0 fld_25_1 rfl) ?_
    refine q_at (v := .int .i64 (at_ + 1)) 30 (fun w' hS => at_load one_3 rfl (hS.cell rfl)) ?_
    refine q_pure (v := .int .i64 at_) 31 (yl_sub (a := at_ + 1) (b := 1) rfl rfl ((wrap_i64 (by omega)).trans (by omega))) ?_
    refine q_pure (v := .pointer (some ⟨g, 0, none⟩)) 32 (yl_move rfl) ?_
    refine q_pure (v := .pointer (some ⟨g, 0, none⟩)) 33 (yl_nilCheck rfl) ?_
    refine q_pure (v := .pointer (some ⟨g, 0, none⟩)) 34 (yl_field0 fld_25_0 rfl) ?_
    refine q_at (v := .slice A L.length c) 35 (fun w' hS => at_load one_22 rfl (hS.cell rfl)) ?_
    refine q_pure (v := .int .i64 (L.length : Int)) 36 (yl_len_slice us_22 rfl) ?_
    refine q_pure (v := .int .i64 (Int.tmod at_ (L.length : Int))) 37 (yl_rem (a := at_) (b := (L.length : Int)) rfl rfl (by omega) rfl) ?_
    refine q_pure (v := .int .i64 (Int.tmod at_ (L.length : Int))) 5 (yl_assign rfl) ?_
    refine q_done fun w' hS => ?_
    refine x_seq ?_
    refine x_quiet (fun w' => St w0 w' (cells g 25 [.slice A L.length c, .int .i64 (at_ + 1)] :: ro ρ :: l)) mixed (by kernel_rfl) (hS.drawn _) ?_
    refine q_pure (v := .pointer (some ⟨g, 0, none⟩)) 38 (yl_move rfl) ?_
    refine q_pure (v := .pointer (some ⟨g, 0, none⟩)) 39 (yl_nilCheck rfl) ?_
    refine q_pure (v := .pointer (some ⟨g, 1, none⟩)) 40 (yl_field0 fld_25_1 rfl) ?_
    refine q_at (v := .int .i64 (at_ + 1)) 41 (fun w' hS => at_load one_3 rfl (hS.cell rfl)) ?_
    refine q_pure (v := .int .i64 at_) 42 (yl_sub (a := at_ + 1) (b := 1) rfl rfl ((wrap_i64 (by omega)).trans (by omega))) ?_
    refine q_pure (v := .pointer (some ⟨g, 0, none⟩)) 43 (yl_move rfl) ?_
    refine q_pure (v := .pointer (some ⟨g, 0, none⟩)) 44 (yl_nilCheck rfl) ?_
    refine q_pure (v := .pointer (some ⟨g, 0, none⟩)) 45 (yl_field0 fld_25_0 rfl) ?_
    refine q_at (v := .slice A L.length c) 46 (fun w' hS => at_load one_22 rfl (hS.cell rfl)) ?_
    refine q_pure (v := .int .i64 (L.length : Int)) 47 (yl_len_slice us_22 rfl) ?_
    refine q_pure (v := .int .i64 (IntKind.i64.wrap (Int.tdiv at_ (L.length : Int)))) 48 (yl_quo (a := at_) (b := (L.length : Int)) rfl rfl (by omega) rfl) ?_
    refine q_pure (v := .int .i64 (IntKind.i64.wrap (Int.tdiv at_ (L.length : Int)))) 6 (yl_assign rfl) ?_
    refine q_done fun w' hS => ?_
    refine x_seq ?_
    have t1 := Int.tmod_lt_of_pos at_ (show (0 : Int) < L.length by omega)
    have t2 := Int.tmod_nonneg (L.length : Int) h0
    refine x_region ?_
    refine o_pure (v := .pointer (some ⟨g, 0, none⟩)) 49 (yl_move rfl) ?_
    refine o_pure (v := .pointer (some ⟨g, 0, none⟩)) 50 (yl_nilCheck rfl) ?_
    refine o_pure (v := .pointer (some ⟨g, 0, none⟩)) 51 (yl_field0 fld_25_0 rfl) ?_
    refine o_at (v := .slice A L.length c) 52 (at_load one_22 rfl (hS.cell rfl)) ?_
    refine o_pure (v := .int .i64 (Int.tmod at_ (L.length : Int))) 53 (yl_move rfl) ?_
    refine o_pure (v := .pointer (some ((adr A).add ((Int.tmod at_ (L.length : Int)).toNat * 1)))) 54 (yl_index_r sl_22 rfl rfl (hA.some (i := Int.tmod at_ (L.length : Int)) (by omega) (by omega)) (by omega) (by omega)) ?_
    refine o_at (v := .int .i64 (rd L (Int.tmod at_ (L.length : Int)))) 55 (at_load one_3 rfl (hA.cell (hS.pull 1) (by omega) (by omega))) ?_
    refine o_call (vs := [.int .i64 (rd L (Int.tmod at_ (L.length : Int))), .int .i64 1073741824]) call_38 rfl (Calls.mono (Below_spec hS (rd L (Int.tmod at_ (L.length : Int))) 1073741824 (by omega)) ?_)
    rintro e w' ⟨r2, rfl, ⟨r2a, r2b, r2c⟩, hS⟩
    refine ⟨_, rfl, ?_⟩
    refine o_pure (v := .int .i64 (IntKind.i64.wrap (Int.tdiv at_ (L.length : Int)))) 57 (yl_move rfl) ?_
    refine o_pure (v := .int .i64 (Int.tmod at_ (L.length : Int))) 58 (yl_move rfl) ?_
    refine o_pure (v := .int .i64 (IntKind.i64.wrap (7919 + (Int.tmod at_ (L.length : Int))))) 59 (yl_add (a := 7919) (b := Int.tmod at_ (L.length : Int)) rfl rfl rfl) ?_
    refine o_pure (v := .int .i64 (IntKind.i64.wrap ((IntKind.i64.wrap (Int.tdiv at_ (L.length : Int))) * (IntKind.i64.wrap (7919 + (Int.tmod at_ (L.length : Int))))))) 60 (yl_mul (a := IntKind.i64.wrap (Int.tdiv at_ (L.length : Int))) (b := IntKind.i64.wrap (7919 + (Int.tmod at_ (L.length : Int)))) rfl rfl rfl) ?_
    refine o_pure (v := .int .i64 (IntKind.i64.wrap (r2 + (IntKind.i64.wrap ((IntKind.i64.wrap (Int.tdiv at_ (L.length : Int))) * (IntKind.i64.wrap (7919 + (Int.tmod at_ (L.length : Int))))))))) 61 (yl_add (a := r2) (b := IntKind.i64.wrap ((IntKind.i64.wrap (Int.tdiv at_ (L.length : Int))) * (IntKind.i64.wrap (7919 + (Int.tmod at_ (L.length : Int)))))) rfl rfl rfl) ?_
    refine o_pure (v := .int .i64 n) 62 (yl_move rfl) ?_
    refine o_call (vs := [.int .i64 (IntKind.i64.wrap (r2 + (IntKind.i64.wrap ((IntKind.i64.wrap (Int.tdiv at_ (L.length : Int))) * (IntKind.i64.wrap (7919 + (Int.tmod at_ (L.length : Int)))))))), .int .i64 n]) call_38 rfl (Calls.mono (Below_spec hS (IntKind.i64.wrap (r2 + (IntKind.i64.wrap ((IntKind.i64.wrap (Int.tdiv at_ (L.length : Int))) * (IntKind.i64.wrap (7919 + (Int.tmod at_ (L.length : Int)))))))) n (by omega)) ?_)
    rintro e w' ⟨r3, rfl, ⟨r3a, r3b, r3c⟩, hS⟩
    refine ⟨_, rfl, ?_⟩
    refine o_pure (v := .int .i64 r3) 4 (yl_assign rfl) ?_
    refine x_done ?_
    refine x_return ?_
    refine ⟨.int .i64 r3, rfl, ?_⟩
    exact ⟨_, rfl, by first | exact ⟨by assumption, by assumption, by assumption⟩ | exact ⟨by omega, by omega, by omega⟩, hS⟩

theorem Next_spec {w0 w : World} {l : List Assn} {ρ : Heap} {g c : Nat} {A : Option Addr} {L : List Int} {m : Int} (hA : RI ρ .i64 A L) (hm : m ≤ 1099511627776) {n : Int} (hn : n ≤ 4611686018427387904) (hS : St w0 w (strm g A c L m :: ro ρ :: l)) :
    Calls Try.prog 15 #[.pointer (some ⟨g, 0, none⟩), .int .i64 n] w fun e w' => ∃ r : Int, e = .returned (.int .i64 r) ∧ (0 ≤ r ∧ (1 ≤ n → r < n) ∧ (n < 1 → r = 0)) ∧ St w0 w' (strm g A c L (m + 1) :: ro ρ :: l) := by
  obtain ⟨at_, h0, h1, hS⟩ := hS.strm_open
  refine (Next_cells hA h0 (by omega) hn hS).mono ?_
  rintro e w' ⟨r, rfl, hr, hS⟩
  exact ⟨r, rfl, hr, hS.strm_shut (by omega) (by omega)⟩
theorem St.strm_more {w0 w : World} {l : List Assn} {g : Nat} {A : Option Addr} {c : Nat} {L : List Int} {m m' : Int} (hm : m ≤ m') (h : St w0 w (strm g A c L m :: l)) : St w0 w (strm g A c L m' :: l) := by
  obtain ⟨i, h0, h1, h2⟩ := h.strm_open
  exact h2.strm_shut h0 (by omega)

theorem Range_spec {w0 w : World} {l : List Assn} {ρ : Heap} {g c : Nat} {A : Option Addr} {L : List Int} {m : Int} (hA : RI ρ .i64 A L) (hm : m ≤ 1099511627776) {lo hi : Int} (h0 : -1152921504606846976 ≤ lo) (h1 : lo ≤ 1152921504606846976) (h2 : -1152921504606846976 ≤ hi) (h3 : hi ≤ 1152921504606846976) (hS : St w0 w (strm g A c L m :: ro ρ :: l)) :
    Calls Try.prog 14 #[.pointer (some ⟨g, 0, none⟩), .int .i64 lo, .int .i64 hi] w fun e w' => ∃ r : Int, e = .returned (.int .i64 r) ∧ (lo ≤ r ∧ (lo ≤ hi → r ≤ hi) ∧ (hi < lo → r = lo)) ∧ St w0 w' (strm g A c L (m + 1) :: ro ρ :: l) := by
  refine enter Try.func14 rfl 19 rfl (by simp) ?_
  refine x_seq ?_
  refine x_region ?_
  refine o_pure (v := .int .i64 0) 6 (yl_assign rfl) ?_
  refine x_done ?_
  refine x_seq ?_
  refine x_seq ?_
  refine x_region ?_
  refine o_pure (v := .int .i64 hi) 7 (yl_move rfl) ?_
  refine o_pure (v := .int .i64 lo) 8 (yl_move rfl) ?_
  refine o_pure (v := .bool (decide (hi < lo))) 9 (yl_lss rfl rfl) ?_
  refine x_done ?_
  refine x_cond_p (hi < lo) rfl (fun hc => ?_) (fun hc => ?_)
  · skip
    refine x_seq ?_
    refine x_region ?_
    refine o_pure (v := .int .i64 lo) 10 (yl_move rfl) ?_
    refine o_pure (v := .int .i64 lo) 6 (yl_assign rfl) ?_
    refine x_done ?_
    refine x_return ?_
    refine ⟨.int .i64 lo, rfl, ?_⟩
    exact ⟨_, rfl, ⟨by omega, by omega, by omega⟩, by first | exact hS | exact hS.strm_more (by omega)⟩
  · skip
    refine x_skip ?_
    refine x_seq ?_
    refine x_region ?_
    refine o_pure (v := .int .i64 lo) 11 (yl_move rfl) ?_
    refine o_pure (v := .pointer (some ⟨g, 0, none⟩)) 12 (yl_move rfl) ?_
    refine o_pure (v := .int .i64 hi) 13 (yl_move rfl) ?_
    refine o_pure (v := .int .i64 lo) 14 (yl_move rfl) ?_
    refine o_pure (v := .int .i64 (hi - lo)) 15 (yl_sub (a := hi) (b := lo) rfl rfl (wrap_i64 (by omega))) ?_
    refine o_pure (v := .int .i64 ((hi - lo) + 1)) 16 (yl_add (a := hi - lo) (b := 1) rfl rfl (wrap_i64 (by omega))) ?_
    refine o_call (vs := [.pointer (some ⟨g, 0, none⟩), .int .i64 ((hi - lo) + 1)]) call_15 rfl (Calls.mono (Next_spec hA (by omega) (n := (hi - lo) + 1) (by omega) ((hS.pull 1).pull 1)) ?_)
    rintro e w' ⟨r1, rfl, ⟨r1a, r1b, r1c⟩, hS⟩
    refine ⟨_, rfl, ?_⟩
    refine o_pure (v := .int .i64 (lo + r1)) 18 (yl_add (a := lo) (b := r1) rfl rfl (wrap_i64 (by omega))) ?_
    refine o_pure (v := .int .i64 (lo + r1)) 6 (yl_assign rfl) ?_
    refine x_done ?_
    refine x_return ?_
    refine ⟨.int .i64 (lo + r1), rfl, ?_⟩
    exact ⟨_, rfl, ⟨by omega, by omega, by omega⟩, by first | exact hS | exact hS.strm_more (by omega)⟩

theorem Flip_spec {w0 w : World} {l : List Assn} {ρ : Heap} {g c : Nat} {A : Option Addr} {L : List Int} {m : Int} (hA : RI ρ .i64 A L) (hm : m ≤ 1099511627776) {n : Int} (hn : n ≤ 4611686018427387904) (hS : St w0 w (strm g A c L m :: ro ρ :: l)) :
    Calls Try.prog 75 #[.pointer (some ⟨g, 0, none⟩), .int .i64 n] w fun e w' => ∃ r : Bool, e = .returned (.bool r) ∧ St w0 w' (strm g A c L (m + 1) :: ro ρ :: l) := by
  refine enter Try.func75 rfl 9 rfl (by simp) ?_
  refine x_seq ?_
  refine x_region ?_
  refine o_pure (v := .bool false) 4 (yl_assign rfl) ?_
  refine x_done ?_
  refine x_seq ?_
  refine x_region ?_
  refine o_pure (v := .pointer (some ⟨g, 0, none⟩)) 5 (yl_move rfl) ?_
  refine o_pure (v := .int .i64 n) 6 (yl_move rfl) ?_
  refine o_call (vs := [.pointer (some ⟨g, 0, none⟩), .int .i64 n]) call_15 rfl (Calls.mono (Next_spec hA (by omega) (n := n) (by omega) ((hS.pull 1).pull 1)) ?_)
  rintro e w' ⟨r1, rfl, ⟨r1a, r1b, r1c⟩, hS⟩
  refine ⟨_, rfl, ?_⟩
  refine o_pure (v := .bool (decide (r1 = 0))) 8 (yl_eql rfl rfl) ?_
  refine o_pure (v := .bool (decide (r1 = 0))) 4 (yl_assign rfl) ?_
  refine x_done ?_
  refine x_return ?_
  refine ⟨.bool (decide (r1 = 0)), rfl, ?_⟩
  exact ⟨_, rfl, hS⟩

end Go.Proofs.Ytnooiajahmichaa.X
