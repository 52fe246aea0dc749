/- Printed by gen.py: plain functions, and that the Go code computes them. -/
import Derived.Test.YtfkncjfpgflafaaXI
import Derived.Test.YtfkncjfpgflafaaYW
import Derived.Test.YtfkncjfpgflafaaXT
import Derived.Test.YtfkncjfpgflafaaGAp0
import Derived.Test.YtfkncjfpgflafaaGAp1
namespace Go.Proofs.Ytfkncjfpgflafaa.X
set_option maxHeartbeats 4000000
set_option maxRecDepth 100000
open Go Go.RowKit
set_option linter.unusedVariables false
set_option linter.unusedSimpArgs false

def P_exact_table_pivot_L2 (t0 : T_exact_table) (c1 : Int) : Int → Option (Int ⊕ Int) := fun q2 =>
 ck ((decide (q2 < (t0.frows.length : Int))) = true → inb q2 t0.frows.length) <|
 lv (gt t0.frows q2) fun q3 =>
 ck ((decide (q2 < (t0.frows.length : Int))) = true → inb c1 q3.length) <|
 lv (gt q3 c1) fun q4 =>
 bd (gd (decide (q2 < (t0.frows.length : Int))) (P_exact_Sign q4)) fun q5 =>
 lv ((decide (q2 < (t0.frows.length : Int))) && (decide (q5 = 0))) fun x38 =>
 if x38 = true then
  ar (q2 + 1) fun x40 =>
  some (Sum.inl x40)
 else
  some (Sum.inr q2)
def P_exact_table_pivot_L15 (t0 : T_exact_table) (c1 : Int) (q5 : List T_exact_Int) (q4 : List T_exact_Int) : (List T_exact_Int × Int) → Option ((List T_exact_Int × Int) ⊕ List T_exact_Int) := fun (q3, q2) =>
 if q2 < (q4.length : Int) then
  ck (inb c1 q5.length) <|
  lv (gt q5 c1) fun q0c =>
  ck (inb q2 q4.length) <|
  lv (gt q4 q2) fun q0d =>
  bd (P_exact_times q0c q0d) fun q0e =>
  ck (inb c1 q4.length) <|
  lv (gt q4 c1) fun q6 =>
  ck (inb q2 q5.length) <|
  lv (gt q5 q2) fun q7 =>
  bd (P_exact_times q6 q7) fun q8 =>
  bd (P_exact_Neg q8) fun q9 =>
  bd (P_exact_plus q0e q9) fun q0a =>
  bd (P_exact_split q0a (T_exact_Int.mk t0.flast.fneg t0.flast.fmag)) fun q0f =>
  ck (inb q2 q3.length) <|
  lv (stt q3 q2 q0f.1) fun q0b =>
  ar (q2 + 1) fun x172 =>
  some (Sum.inl (q0b, x172))
 else
  some (Sum.inr q3)
def P_exact_table_pivot_L10 (t0 : T_exact_table) (c1 : Int) (all2 : Bool) (q9 : List T_exact_Int) : (List (List T_exact_Int) × Int) → Option ((List (List T_exact_Int) × Int) ⊕ List (List T_exact_Int)) := fun (q3, q2) =>
 if q2 < (t0.frows.length : Int) then
  bd (
   ck (inb q2 q3.length) <|
   lv (gt q3 q2) fun q4 =>
   lv ((decide (q2 < t0.frank)) && (!all2)) fun x130 =>
   lv ((decide (q2 = t0.frank)) || x130) fun x131 =>
   if x131 = true then
    some q3
   else
    ck (mkOk 32 (q4.length : Int)) <|
    lv ((List.replicate ((q4.length : Int) : Int).toNat (T_exact_Int.mk false []) : List T_exact_Int)) fun q7 =>
    bd (
     lp (P_exact_table_pivot_L15 t0 c1 q9 q4) fuel (q7, 0)) fun q5 =>
    ck (inb q2 q3.length) <|
    lv (stt q3 q2 q5) fun q8 =>
    some q8) fun q6 =>
  ar (q2 + 1) fun x180 =>
  some (Sum.inl (q6, x180))
 else
  some (Sum.inr q3)
def P_exact_table_pivot (t0 : T_exact_table) (c1 : Int) (all2 : Bool) : Option (Bool × List (List T_exact_Int) × Bool × List Int × Bool × Int) :=
 bd (
  lp (P_exact_table_pivot_L2 t0 c1) fuel t0.frank) fun q3 =>
 if q3 = (t0.frows.length : Int) then
  some (false, t0.frows, t0.flast.fneg, t0.flast.fmag, t0.fodd, t0.frank)
 else
  bd (
   if q3 ≠ t0.frank then
    ck (inb t0.frank t0.frows.length) <|
    lv (gt t0.frows t0.frank) fun q9 =>
    ck (inb q3 t0.frows.length) <|
    lv (gt t0.frows q3) fun q0a =>
    ck (inb q3 t0.frows.length) <|
    lv (stt t0.frows q3 q9) fun q7 =>
    ck (inb t0.frank q7.length) <|
    lv (stt q7 t0.frank q0a) fun q0b =>
    some (q0b, !t0.fodd)
   else
    some (t0.frows, t0.fodd)) fun (q2, q4) =>
  ck (inb t0.frank q2.length) <|
  lv (gt q2 t0.frank) fun q6 =>
  bd (
   lp (P_exact_table_pivot_L10 t0 c1 all2 q6) fuel (q2, 0)) fun q5 =>
  ck (inb c1 q6.length) <|
  lv (gt q6 c1) fun q8 =>
  ar (t0.frank + 1) fun x192 =>
  some (true, q5, q8.fneg, q8.fmag, q4, x192)
theorem c_exact_table_pivot {w0 w : World} {l : List Assn} {ρ : Heap} {q3 : Nat} {q2 : Option Addr} {q23 : Nat} {c_t0_0 : Nat} {q0t : List Value} {q0c : Option Addr} {q66 : Nat} {c_t0_2 : Nat} {t0 : T_exact_table} {c1 : Int} {all2 : Bool} {r : (Bool × List (List T_exact_Int) × Bool × List Int × Bool × Int)} (hF : P_exact_table_pivot t0 c1 all2 = some r) (q16 : RepL (RpSl R_exact_Int) ρ t0.frows q0t) (q5d : RdS (RpI .u32) ρ q0c q66 c_t0_2 t0.flast.fmag) (hS : St w0 w (cells q3 87 [.slice q2 q23 c_t0_0, .bool t0.flast.fneg, .slice q0c q66 c_t0_2, .bool t0.fodd, .int .i64 t0.frank] :: vec 88 (RpSl R_exact_Int).sz (.slice q2 q23 c_t0_0) q23 q0t :: ro ρ :: l)) :
  Calls Try.prog 41 #[.pointer (some ⟨q3, 0, none⟩), .int .i64 c1, .bool all2] w fun e w' => ∃ (ρ' : Heap) (q2l : List Value) (q2m : Option Addr) (q2n : Nat) (c_b_t0_2_ret : Nat), e = .returned (.bool r.1) ∧ Le ρ ρ' ∧ RepL (RpSl R_exact_Int) ρ' r.2.1 q2l ∧ RdS (RpI .u32) ρ' q2m q2n c_b_t0_2_ret r.2.2.2.1 ∧ St w0 w' (cells q3 87 [.slice q2 q23 c_t0_0, .bool r.2.2.1, .slice q2m q2n c_b_t0_2_ret, .bool r.2.2.2.2.1, .int .i64 r.2.2.2.2.2] :: vec 88 (RpSl R_exact_Int).sz (.slice q2 q23 c_t0_0) q23 q2l :: ro ρ' :: l) := by
 have e_ := St.vec_n (hS.pull 1) q16; subst e_
 have e_ := q5d.n; subst e_
 refine enterC Try.func41 rfl 195 rfl (by simp) ?_
 refine x_seq <| x_region <| p (yl_assign rfl) <| x_done <|
  x_seq <| x_region <| p (yl_move rfl) <| p (yl_nilCheck rfl) <|
  p (yl_field0 fld_87_3 rfl) <| pa (at_load one_3 rfl (hS.cell rfl)) <| p (yl_assign rfl) <| x_done <|
  x_seq <| ?_
 replace hF := bd_s hF; obtain ⟨oL2, hLL2, hF⟩ := hF
 refine x_join (fun E w => ∃ (q0w : Int), q0w = oL2 ∧ E 0 = .pointer (some ⟨q3, 0, none⟩) ∧ E 1 = .int .i64 c1 ∧ E 2 = .bool all2 ∧ E 7 = .int .i64 q0w ∧ St w0 w (cells q3 87 [.slice q2 t0.frows.length c_t0_0, .bool t0.flast.fneg, .slice q0c t0.flast.fmag.length c_t0_2, .bool t0.fodd, .int .i64 t0.frank] :: vec 88 (RpSl R_exact_Int).sz (.slice q2 t0.frows.length c_t0_0) t0.frows.length q0t :: ro ρ :: l)) ?_ ?_
 ·refine x_block ?_
  refine x_loop (fun k_ E w => ∃ (q0l : Int), lp (P_exact_table_pivot_L2 t0 c1) k_ q0l = some oL2 ∧ E 0 = .pointer (some ⟨q3, 0, none⟩) ∧ E 1 = .int .i64 c1 ∧ E 2 = .bool all2 ∧ E 7 = .int .i64 q0l ∧ St w0 w (cells q3 87 [.slice q2 t0.frows.length c_t0_0, .bool t0.flast.fneg, .slice q0c t0.flast.fmag.length c_t0_2, .bool t0.fodd, .int .i64 t0.frank] :: vec 88 (RpSl R_exact_Int).sz (.slice q2 t0.frows.length c_t0_0) t0.frows.length q0t :: ro ρ :: l)) fuel ⟨t0.frank, hLL2, rfl, rfl, rfl, rfl, (((hS.pull 2).pull 2).pull 2)⟩ ?_
  rintro kL2 E w ⟨q0l, hLL2, q49, q5e, q67, q4a, hS⟩
  replace hLL2 := lp_s hLL2; obtain ⟨kL2, obL2, rfl, hFL2, hLL2⟩ := hLL2
  replace hFL2 := ck_s hFL2; obtain ⟨q68, hFL2⟩ := hFL2
  replace hFL2 := lv_s hFL2; obtain ⟨q9b, q88, hFL2⟩ := hFL2
  have q_ := RepL.getD sl_d q16 q0l; obtain ⟨q9w, q69, q89⟩ := q_
  rw [← q88] at q69
  obtain ⟨q7e, qa4, q9c, rfl, q65⟩ := q69
  have e_ := q65.n; subst e_
  replace hFL2 := ck_s hFL2; obtain ⟨q6a, hFL2⟩ := hFL2
  replace hFL2 := lv_s hFL2; obtain ⟨q7f, q8a, hFL2⟩ := hFL2
  have q_ := RdS.getD R_exact_Int_d q65 c1; obtain ⟨q9x, q6b, q8b⟩ := q_
  rw [← q8a] at q6b
  obtain ⟨q7o, q9q, q7p, rfl, q5q⟩ := q6b
  have e_ := q5q.n; subst e_
  replace hFL2 := bd_s hFL2; obtain ⟨q7g, q8c, hFL2⟩ := hFL2
  refine x_seq <| x_seq <| x_region <| p (yl_move q4a) <|
   p (yl_move q49) <| p (yl_nilCheck rfl) <| p (yl_field0 fld_87_0 rfl) <| pa (at_load one_85 rfl (hS.cell rfl)) <|
   p (yl_len_slice usl_85 rfl) <| p (yl_lss rfl rfl) <| p (yl_move rfl) <| pg (v := .pointer (some ⟨q3, 0, none⟩)) 25 (c := decide (q0l < (t0.frows.length : Int))) (says_t _) (fun hq => Yl.at (yl_move q49)) <|
   pg (v := .pointer (some ⟨q3, 0, none⟩)) 25 (c := decide (q0l < (t0.frows.length : Int))) (says_t _) (fun hq => Yl.at (yl_nilCheck (cv hq))) <| pg (v := .pointer (some ⟨q3, 0, none⟩)) 25 (c := decide (q0l < (t0.frows.length : Int))) (says_t _) (fun hq => Yl.at (yl_field0 fld_87_0 (cv hq))) <| pg (v := .slice q2 t0.frows.length c_t0_0) 25 (c := decide (q0l < (t0.frows.length : Int))) (says_t _) (fun hq => at_load one_85 (cv hq) (hS.cell rfl)) <| pg (v := .int .i64 q0l) 25 (c := decide (q0l < (t0.frows.length : Int))) (says_t _) (fun hq => Yl.at (yl_move q4a)) <|
   pg (v := .pointer (some ((adr q2).add (q0l.toNat * (RpSl R_exact_Int).sz)))) 25 (c := decide (q0l < (t0.frows.length : Int))) (says_t _) (fun hq => Yl.at (yix_o sl_85 (cv hq) (cv hq) (hS.pull 1) q16 (q68 hq))) <| pg (v := .slice q7e q9b.length q9c) 25 (c := decide (q0l < (t0.frows.length : Int))) (says_t _) (fun hq => at_load one_88 (cv hq) (EltV.ld (m := 0) (q89 (q68 hq)) (hS.pull 1) rfl)) <| pg (v := .int .i64 c1) 25 (c := decide (q0l < (t0.frows.length : Int))) (says_t _) (fun hq => Yl.at (yl_move q5e)) <| pg (v := .pointer (some ((adr q7e).add (c1.toNat * R_exact_Int.sz)))) 25 (c := decide (q0l < (t0.frows.length : Int))) (says_t _) (fun hq => Yl.at (yix_f sl_88 (cv hq) (cv hq) q65 (q6a hq))) <|
   pg (v := .agg #[.bool q7f.fneg, .slice q7o q7f.fmag.length q7p]) 25 (c := decide (q0l < (t0.frows.length : Int))) (says_t _) (fun hq => at_loadAgg agg_41 (cv hq) rfl (Elt.every (q8b (q6a hq)) (hS.pull 2))) <|
   pccg (v := .int .i64 q7g) 25 (c := decide (q0l < (t0.frows.length : Int))) (says_t _) call_19 (fun hq => (args1 (cv hq))) hS (fun hq => by
    have hcall := c_exact_Sign (gd_t q8c hq) q5q (hS.pull 2)
    exact (Calls.mono hcall (fun e w'' h => And.intro h.1 ((h.2.pull 2).pull 2)))) (fun w' hS => ?_)
  replace hFL2 := lv_s hFL2; obtain ⟨x38, hx38, hFL2⟩ := hFL2
  refine pg (v := .bool (decide (q7g = 0))) 25 (c := decide (q0l < (t0.frows.length : Int))) (says_t _) (fun hq => Yl.at (yl_eql (cv hq) rfl)) <| p (yand' rfl (fun hc => (cv hc)) rfl hx38) <| x_done <|
   x_cond (t := x38) rfl (fun hc38 => ?_) (fun hc38 => ?_)
  ·replace hFL2 := it_t hc38 hFL2
   replace hFL2 := ar_s hFL2; obtain ⟨x40, hx40, hFL2⟩ := hFL2
   refine x_skip <| x_block <| x_region <| p (yl_move q4a) <|
    p (yadd rfl rfl hx40) <| p (yl_assign rfl) <| x_done <| x_blk <| ?_
   have e_ := sinj hFL2; subst e_
   exact x_inv ⟨kL2, Nat.lt_succ_self _, x40, hLL2, q49, q5e, q67, rfl, (((hS.pull 2).pull 2).pull 2)⟩
  ·replace hFL2 := it_bf hc38 hFL2
   refine x_exitTo _ rfl <| ?_
   have e_ := sinj hFL2; subst e_
   exact x_inv ⟨q0l, hLL2, q49, q5e, q67, q4a, (((hS.pull 2).pull 2).pull 2)⟩
 rintro E w ⟨q0w, rfl, q19, q7h, q7i, q5a, hS⟩
 refine x_seq <| x_seq <| x_region <| p (yl_move q5a) <|
  p (yl_move q19) <| p (yl_nilCheck rfl) <| p (yl_field0 fld_87_0 rfl) <| pa (at_load one_85 rfl (hS.cell rfl)) <|
  p (yl_len_slice usl_85 rfl) <| p (yl_eql rfl rfl) <| x_done <|
  x_cond_p (q0w = (t0.frows.length : Int)) rfl (fun hc47 => ?_) (fun hc47 => ?_)
 ·replace hF := it_t hc47 hF
  refine x_seq <| x_region <| p (yl_assign rfl) <| x_done <| ?_
  have e_ := sinj hF; subst e_
  exact x_return ⟨_, ⟨_, _, rfl, rfl, rfl⟩, ρ, q0t, q0c, t0.flast.fmag.length, c_t0_2, rfl, (Le.refl _), q16, q5d, (((hS.pull 2).pull 2).pull 2)⟩
 ·replace hF := it_f hc47 hF
  refine x_skip <| x_seq <| x_seq <| x_region <|
   p (yl_move q5a) <| p (yl_move q19) <| p (yl_nilCheck rfl) <| p (yl_field0 fld_87_3 rfl) <|
   pa (at_load one_3 rfl (hS.cell rfl)) <| p (yl_neq rfl rfl) <| x_done <| ?_
  replace hF := bd_s hF; obtain ⟨oc53, hFc53, hF⟩ := hF
  refine x_join (fun E w => ∃ (q1a : List Value) (q1r : List (List T_exact_Int)) (q0i : Bool), (q1r, q0i) = oc53 ∧ E 0 = .pointer (some ⟨q3, 0, none⟩) ∧ E 1 = .int .i64 c1 ∧ E 2 = .bool all2 ∧ RepL (RpSl R_exact_Int) ρ q1r q1a ∧ St w0 w (cells q3 87 [.slice q2 t0.frows.length c_t0_0, .bool t0.flast.fneg, .slice q0c t0.flast.fmag.length c_t0_2, .bool q0i, .int .i64 t0.frank] :: vec 88 (RpSl R_exact_Int).sz (.slice q2 t0.frows.length c_t0_0) t0.frows.length q1a :: ro ρ :: l)) ?_ ?_
  ·refine x_cond_p (q0w ≠ t0.frank) rfl (fun hc53 => ?_) (fun hc53 => ?_)
   ·replace hFc53 := it_t hc53 hFc53
    replace hFc53 := ck_s hFc53; obtain ⟨q6c, hFc53⟩ := hFc53
    replace hFc53 := lv_s hFc53; obtain ⟨q1b, q8d, hFc53⟩ := hFc53
    replace hFc53 := ck_s hFc53; obtain ⟨q6d, hFc53⟩ := hFc53
    replace hFc53 := lv_s hFc53; obtain ⟨q1c, q8e, hFc53⟩ := hFc53
    replace hFc53 := ck_s hFc53; obtain ⟨q6e, hFc53⟩ := hFc53
    replace hFc53 := lv_s hFc53; obtain ⟨q4b, q8f, hFc53⟩ := hFc53
    replace hFc53 := ck_s hFc53; obtain ⟨q6f, hFc53⟩ := hFc53
    replace hFc53 := lv_s hFc53; obtain ⟨q5b, q8g, hFc53⟩ := hFc53
    refine x_par (w0 := w0) [⟨[], [], [54], [], [], []⟩, ⟨[0], [0], [55], [], [], []⟩, ⟨[0, 1], [1], [56], [], [], []⟩, ⟨[0, 1, 2], [2], [57], [0], [], []⟩, ⟨[], [], [58], [], [], []⟩, ⟨[], [], [59], [], [], []⟩, ⟨[5], [5], [60], [], [], []⟩, ⟨[5, 6], [6], [61], [], [], []⟩, ⟨[5, 6, 7], [7], [62], [0], [], []⟩, ⟨[], [], [63], [], [], []⟩, ⟨[9], [9], [64], [], [], []⟩, ⟨[9, 10], [10], [65], [], [], []⟩, ⟨[9, 10, 11], [11], [66], [0], [], []⟩, ⟨[], [], [67], [], [], []⟩, ⟨[], [], [68], [], [], []⟩, ⟨[14], [14], [69], [], [], []⟩, ⟨[14, 15], [15], [70], [], [], []⟩, ⟨[14, 15, 16], [16], [71], [0], [], []⟩, ⟨[], [], [72], [], [], []⟩, ⟨[18], [18], [73], [], [], []⟩, ⟨[18, 19], [19], [74], [], [], []⟩, ⟨[18, 19, 20], [20], [75], [0], [], []⟩, ⟨[14, 15, 16, 17, 18, 19, 20, 21], [17, 21], [76], [1], [], []⟩, ⟨[14, 15, 16, 17, 18, 19, 20, 21, 22], [22], [77], [1], [], []⟩, ⟨[], [], [78], [], [], []⟩, ⟨[24], [24], [79], [], [], []⟩, ⟨[24, 25], [25], [80], [], [], []⟩, ⟨[24, 25, 26], [26], [81], [0], [], []⟩, ⟨[], [], [82], [], [], []⟩, ⟨[24, 25, 26, 27, 28], [27, 28], [83], [1], [], []⟩, ⟨[24, 25, 26, 27, 28, 29], [29], [84], [1], [], []⟩, ⟨[], [], [85], [], [], []⟩, ⟨[31], [31], [86], [], [], []⟩, ⟨[31, 32], [32], [87], [], [], []⟩, ⟨[31, 32, 33], [33], [88], [0], [], []⟩, ⟨[31, 32, 33, 34], [34], [89], [], [], []⟩, ⟨[0, 1, 2, 3, 4, 5, 6, 7, 8, 9, 10, 11, 12, 14, 15, 16, 17, 18, 19, 20, 21, 22, 23, 24, 25, 26, 27, 28, 29, 30, 31, 32, 33, 34], [3, 4], [90], [1], [], []⟩, ⟨[0, 1, 2, 3, 4, 5, 6, 7, 8, 9, 10, 11, 12, 14, 15, 16, 17, 18, 19, 20, 21, 22, 23, 24, 25, 26, 27, 28, 29, 30, 31, 32, 33, 34, 36], [23, 36], [], [2], [1], [3]⟩, ⟨[0, 1, 2, 3, 4, 5, 6, 7, 8, 9, 10, 11, 12, 14, 15, 16, 17, 18, 19, 20, 21, 22, 23, 24, 25, 26, 27, 28, 29, 30, 31, 32, 33, 34, 36, 37], [8, 12], [91], [2, 3], [], []⟩, ⟨[0, 1, 2, 3, 4, 5, 6, 7, 8, 9, 10, 11, 12, 14, 15, 16, 17, 18, 19, 20, 21, 22, 23, 24, 25, 26, 27, 28, 29, 30, 31, 32, 33, 34, 36, 37, 38], [30, 38], [], [2], [3], [4]⟩, ⟨[0, 1, 2, 3, 4, 5, 6, 7, 8, 9, 10, 11, 12, 13, 14, 15, 16, 17, 18, 19, 20, 21, 22, 23, 24, 25, 26, 27, 28, 29, 30, 31, 32, 33, 34, 35, 36, 37, 38, 39], [13], [92], [], [], []⟩, ⟨[0, 1, 2, 3, 4, 5, 6, 7, 8, 9, 10, 11, 12, 13, 14, 15, 16, 17, 18, 19, 20, 21, 22, 23, 24, 25, 26, 27, 28, 29, 30, 31, 32, 33, 34, 35, 36, 37, 38, 39, 40], [40], [93], [], [], []⟩, ⟨[0, 1, 2, 3, 4, 5, 6, 7, 8, 9, 10, 11, 12, 13, 14, 15, 16, 17, 18, 19, 20, 21, 22, 23, 24, 25, 26, 27, 28, 29, 30, 31, 32, 33, 34, 35, 36, 37, 38, 39, 40, 41], [35, 41], [], [], [0], [5]⟩] [⟨none, (some 42), []⟩, ⟨none, (some 37), []⟩, ⟨none, none, []⟩, ⟨(some 37), (some 39), []⟩, ⟨(some 39), none, []⟩, ⟨(some 42), none, []⟩] [54, 55, 56, 57, 58, 59, 60, 61, 62, 63, 64, 65, 66, 67, 68, 69, 70, 71, 72, 73, 74, 75, 76, 77, 78, 79, 80, 81, 82, 83, 84, 85, 86, 87, 88, 89, 90, 91, 92, 93] [0, 1, 2] [2, 4, 5] [0, 1, 2, 3, 4, 5, 6, 7, 8, 9, 10, 11, 12, 13, 14, 15, 16, 17, 18, 19, 20, 21, 22, 23, 24, 25, 26, 27, 28, 29, 30, 31, 32, 33, 34, 35, 36, 38, 40, 41] [fun Ep7 => Ep7 54 = .pointer (some ⟨q3, 0, none⟩), fun Ep7 => Ep7 55 = .pointer (some ⟨q3, 0, none⟩), fun Ep7 => Ep7 56 = .pointer (some ⟨q3, 0, none⟩), fun Ep7 => Ep7 57 = .slice q2 t0.frows.length c_t0_0, fun Ep7 => Ep7 58 = .int .i64 q0w, fun Ep7 => Ep7 59 = .pointer (some ⟨q3, 0, none⟩), fun Ep7 => Ep7 60 = .pointer (some ⟨q3, 0, none⟩), fun Ep7 => Ep7 61 = .pointer (some ⟨q3, 0, none⟩), fun Ep7 => Ep7 62 = .slice q2 t0.frows.length c_t0_0, fun Ep7 => Ep7 63 = .pointer (some ⟨q3, 0, none⟩), fun Ep7 => Ep7 64 = .pointer (some ⟨q3, 0, none⟩), fun Ep7 => Ep7 65 = .pointer (some ⟨q3, 4, none⟩), fun Ep7 => Ep7 66 = .int .i64 t0.frank, fun Ep7 => Ep7 67 = .pointer (some ⟨q3, 0, none⟩), fun Ep7 => Ep7 68 = .pointer (some ⟨q3, 0, none⟩), fun Ep7 => Ep7 69 = .pointer (some ⟨q3, 0, none⟩), fun Ep7 => Ep7 70 = .pointer (some ⟨q3, 0, none⟩), fun Ep7 => Ep7 71 = .slice q2 t0.frows.length c_t0_0, fun Ep7 => Ep7 72 = .pointer (some ⟨q3, 0, none⟩), fun Ep7 => Ep7 73 = .pointer (some ⟨q3, 0, none⟩), fun Ep7 => Ep7 74 = .pointer (some ⟨q3, 4, none⟩), fun Ep7 => Ep7 75 = .int .i64 t0.frank, fun Ep7 => Ep7 76 = .pointer (some ((adr q2).add (t0.frank.toNat * (RpSl R_exact_Int).sz))), fun Ep7 => Ep7 77 = .slice (adOf (Ep7 77)) q1b.length (capOf (Ep7 77)) ∧ RdS R_exact_Int ρ (adOf (Ep7 77)) q1b.length (capOf (Ep7 77)) q1b, fun Ep7 => Ep7 78 = .pointer (some ⟨q3, 0, none⟩), fun Ep7 => Ep7 79 = .pointer (some ⟨q3, 0, none⟩), fun Ep7 => Ep7 80 = .pointer (some ⟨q3, 0, none⟩), fun Ep7 => Ep7 81 = .slice q2 t0.frows.length c_t0_0, fun Ep7 => Ep7 82 = .int .i64 q0w, fun Ep7 => Ep7 83 = .pointer (some ((adr q2).add (q0w.toNat * (RpSl R_exact_Int).sz))), fun Ep7 => Ep7 84 = .slice (adOf (Ep7 84)) q1c.length (capOf (Ep7 84)) ∧ RdS R_exact_Int ρ (adOf (Ep7 84)) q1c.length (capOf (Ep7 84)) q1c, fun Ep7 => Ep7 85 = .pointer (some ⟨q3, 0, none⟩), fun Ep7 => Ep7 86 = .pointer (some ⟨q3, 0, none⟩), fun Ep7 => Ep7 87 = .pointer (some ⟨q3, 3, none⟩), fun Ep7 => Ep7 88 = .bool t0.fodd, fun Ep7 => Ep7 89 = .bool (!t0.fodd), fun Ep7 => Ep7 90 = .pointer (some ((adr q2).add (q0w.toNat * (RpSl R_exact_Int).sz))), fun Ep7 => True, fun Ep7 => Ep7 91 = .pointer (some ((adr q2).add (t0.frank.toNat * (RpSl R_exact_Int).sz))), fun Ep7 => True, fun Ep7 => Ep7 92 = .pointer (some ⟨q3, 0, none⟩), fun Ep7 => Ep7 93 = .pointer (some ⟨q3, 3, none⟩), fun Ep7 => True] [fun Ep7 => cells q3 87 [.slice q2 t0.frows.length c_t0_0, .bool t0.flast.fneg, .slice q0c t0.flast.fmag.length c_t0_2, .bool t0.fodd, .int .i64 t0.frank], fun Ep7 => vec 88 (RpSl R_exact_Int).sz (.slice q2 t0.frows.length c_t0_0) t0.frows.length q0t, fun Ep7 => ro ρ, fun Ep7 => bunA (fun (q0f : List Value) => RepL (RpSl R_exact_Int) ρ q4b q0f) (fun (q0f : List Value) => [vec 88 (RpSl R_exact_Int).sz (.slice q2 t0.frows.length c_t0_0) t0.frows.length q0f]), fun Ep7 => bunA (fun (q0u : List Value) => RepL (RpSl R_exact_Int) ρ q5b q0u) (fun (q0u : List Value) => [vec 88 (RpSl R_exact_Int).sz (.slice q2 t0.frows.length c_t0_0) t0.frows.length q0u]), fun Ep7 => cells q3 87 [.slice q2 t0.frows.length c_t0_0, .bool t0.flast.fneg, .slice q0c t0.flast.fmag.length c_t0_2, .bool (!t0.fodd), .int .i64 t0.frank]] mixed (by kernel_rfl) (((hS.pull 2).pull 2).pull 2) ?_ ?_
    ·refine ⟨?_, ?_, ?_, ?_, ?_, ?_, ?_, ?_, ?_, ?_, ?_, ?_, ?_, ?_, ?_, ?_, ?_, ?_, ?_, ?_, ?_, ?_, ?_, ?_, ?_, ?_, ?_, ?_, ?_, ?_, ?_, ?_, ?_, ?_, ?_, ?_, ?_, ?_, ?_, ?_, ?_, ?_, ?_, trivial⟩
     ·intro Ep7 w l' hE7 hO7 hF_ hS
      refine p (yl_move ((hE7 0 rfl).trans q19)) <| x_done <| ?_
      refine x_fin ⟨⟨_, rfl⟩, rfl, ?_⟩
      exact emk hS
     ·intro Ep7 w l' hE7 hO7 hF_ hS
      obtain ⟨q4n, -⟩ := hF_
      replace q4n : Ep7 54 = .pointer (some ⟨q3, 0, none⟩) := emk q4n
      refine p (yl_nilCheck q4n) <| x_done <| ?_
      refine x_fin ⟨⟨_, rfl⟩, rfl, ?_⟩
      exact emk hS
     ·intro Ep7 w l' hE7 hO7 hF_ hS
      obtain ⟨q4o, -⟩ := hF_
      replace q4o : Ep7 55 = .pointer (some ⟨q3, 0, none⟩) := emk q4o
      refine p (yl_field0 fld_87_0 q4o) <| x_done <| ?_
      refine x_fin ⟨⟨_, rfl⟩, rfl, ?_⟩
      exact emk hS
     ·intro Ep7 w l' hE7 hO7 hF_ hS
      obtain ⟨q4p, -⟩ := hF_
      replace q4p : Ep7 56 = .pointer (some ⟨q3, 0, none⟩) := emk q4p
      replace hS : St w0 w (cells q3 87 [.slice q2 t0.frows.length c_t0_0, .bool t0.flast.fneg, .slice q0c t0.flast.fmag.length c_t0_2, .bool t0.fodd, .int .i64 t0.frank] :: l') := emk hS
      refine pa (at_load one_85 q4p (hS.cell rfl)) <| x_done <| ?_
      refine x_fin ⟨⟨_, rfl⟩, rfl, ?_⟩
      exact emk hS
     ·intro Ep7 w l' hE7 hO7 hF_ hS
      refine p (yl_move ((hE7 7 rfl).trans q5a)) <| x_done <| ?_
      refine x_fin ⟨⟨_, rfl⟩, rfl, ?_⟩
      exact emk hS
     ·intro Ep7 w l' hE7 hO7 hF_ hS
      refine p (yl_move ((hE7 0 rfl).trans q19)) <| x_done <| ?_
      refine x_fin ⟨⟨_, rfl⟩, rfl, ?_⟩
      exact emk hS
     ·intro Ep7 w l' hE7 hO7 hF_ hS
      obtain ⟨q4q, -⟩ := hF_
      replace q4q : Ep7 59 = .pointer (some ⟨q3, 0, none⟩) := emk q4q
      refine p (yl_nilCheck q4q) <| x_done <| ?_
      refine x_fin ⟨⟨_, rfl⟩, rfl, ?_⟩
      exact emk hS
     ·intro Ep7 w l' hE7 hO7 hF_ hS
      obtain ⟨q4r, -⟩ := hF_
      replace q4r : Ep7 60 = .pointer (some ⟨q3, 0, none⟩) := emk q4r
      refine p (yl_field0 fld_87_0 q4r) <| x_done <| ?_
      refine x_fin ⟨⟨_, rfl⟩, rfl, ?_⟩
      exact emk hS
     ·intro Ep7 w l' hE7 hO7 hF_ hS
      obtain ⟨q4s, -⟩ := hF_
      replace q4s : Ep7 61 = .pointer (some ⟨q3, 0, none⟩) := emk q4s
      replace hS : St w0 w (cells q3 87 [.slice q2 t0.frows.length c_t0_0, .bool t0.flast.fneg, .slice q0c t0.flast.fmag.length c_t0_2, .bool t0.fodd, .int .i64 t0.frank] :: l') := emk hS
      refine pa (at_load one_85 q4s (hS.cell rfl)) <| x_done <| ?_
      refine x_fin ⟨⟨_, rfl⟩, rfl, ?_⟩
      exact emk hS
     ·intro Ep7 w l' hE7 hO7 hF_ hS
      refine p (yl_move ((hE7 0 rfl).trans q19)) <| x_done <| ?_
      refine x_fin ⟨⟨_, rfl⟩, rfl, ?_⟩
      exact emk hS
     ·intro Ep7 w l' hE7 hO7 hF_ hS
      obtain ⟨q4t, -⟩ := hF_
      replace q4t : Ep7 63 = .pointer (some ⟨q3, 0, none⟩) := emk q4t
      refine p (yl_nilCheck q4t) <| x_done <| ?_
      refine x_fin ⟨⟨_, rfl⟩, rfl, ?_⟩
      exact emk hS
     ·intro Ep7 w l' hE7 hO7 hF_ hS
      obtain ⟨q2r, -⟩ := hF_
      replace q2r : Ep7 64 = .pointer (some ⟨q3, 0, none⟩) := emk q2r
      refine p (yl_field0 fld_87_3 q2r) <| x_done <| ?_
      refine x_fin ⟨⟨_, rfl⟩, rfl, ?_⟩
      exact emk hS
     ·intro Ep7 w l' hE7 hO7 hF_ hS
      obtain ⟨q2s, -⟩ := hF_
      replace q2s : Ep7 65 = .pointer (some ⟨q3, 4, none⟩) := emk q2s
      replace hS : St w0 w (cells q3 87 [.slice q2 t0.frows.length c_t0_0, .bool t0.flast.fneg, .slice q0c t0.flast.fmag.length c_t0_2, .bool t0.fodd, .int .i64 t0.frank] :: l') := emk hS
      refine pa (at_load one_3 q2s (hS.cell rfl)) <| x_done <| ?_
      refine x_fin ⟨⟨_, rfl⟩, rfl, ?_⟩
      exact emk hS
     ·intro Ep7 w l' hE7 hO7 hF_ hS
      refine p (yl_move ((hE7 0 rfl).trans q19)) <| x_done <| ?_
      refine x_fin ⟨⟨_, rfl⟩, rfl, ?_⟩
      exact emk hS
     ·intro Ep7 w l' hE7 hO7 hF_ hS
      refine p (yl_move ((hE7 0 rfl).trans q19)) <| x_done <| ?_
      refine x_fin ⟨⟨_, rfl⟩, rfl, ?_⟩
      exact emk hS
     ·intro Ep7 w l' hE7 hO7 hF_ hS
      obtain ⟨q2t, -⟩ := hF_
      replace q2t : Ep7 68 = .pointer (some ⟨q3, 0, none⟩) := emk q2t
      refine p (yl_nilCheck q2t) <| x_done <| ?_
      refine x_fin ⟨⟨_, rfl⟩, rfl, ?_⟩
      exact emk hS
     ·intro Ep7 w l' hE7 hO7 hF_ hS
      obtain ⟨q2u, -⟩ := hF_
      replace q2u : Ep7 69 = .pointer (some ⟨q3, 0, none⟩) := emk q2u
      refine p (yl_field0 fld_87_0 q2u) <| x_done <| ?_
      refine x_fin ⟨⟨_, rfl⟩, rfl, ?_⟩
      exact emk hS
     ·intro Ep7 w l' hE7 hO7 hF_ hS
      obtain ⟨q2v, -⟩ := hF_
      replace q2v : Ep7 70 = .pointer (some ⟨q3, 0, none⟩) := emk q2v
      replace hS : St w0 w (cells q3 87 [.slice q2 t0.frows.length c_t0_0, .bool t0.flast.fneg, .slice q0c t0.flast.fmag.length c_t0_2, .bool t0.fodd, .int .i64 t0.frank] :: l') := emk hS
      refine pa (at_load one_85 q2v (hS.cell rfl)) <| x_done <| ?_
      refine x_fin ⟨⟨_, rfl⟩, rfl, ?_⟩
      exact emk hS
     ·intro Ep7 w l' hE7 hO7 hF_ hS
      refine p (yl_move ((hE7 0 rfl).trans q19)) <| x_done <| ?_
      refine x_fin ⟨⟨_, rfl⟩, rfl, ?_⟩
      exact emk hS
     ·intro Ep7 w l' hE7 hO7 hF_ hS
      obtain ⟨q2w, -⟩ := hF_
      replace q2w : Ep7 72 = .pointer (some ⟨q3, 0, none⟩) := emk q2w
      refine p (yl_nilCheck q2w) <| x_done <| ?_
      refine x_fin ⟨⟨_, rfl⟩, rfl, ?_⟩
      exact emk hS
     ·intro Ep7 w l' hE7 hO7 hF_ hS
      obtain ⟨q2x, -⟩ := hF_
      replace q2x : Ep7 73 = .pointer (some ⟨q3, 0, none⟩) := emk q2x
      refine p (yl_field0 fld_87_3 q2x) <| x_done <| ?_
      refine x_fin ⟨⟨_, rfl⟩, rfl, ?_⟩
      exact emk hS
     ·intro Ep7 w l' hE7 hO7 hF_ hS
      obtain ⟨q2y, -⟩ := hF_
      replace q2y : Ep7 74 = .pointer (some ⟨q3, 4, none⟩) := emk q2y
      replace hS : St w0 w (cells q3 87 [.slice q2 t0.frows.length c_t0_0, .bool t0.flast.fneg, .slice q0c t0.flast.fmag.length c_t0_2, .bool t0.fodd, .int .i64 t0.frank] :: l') := emk hS
      refine pa (at_load one_3 q2y (hS.cell rfl)) <| x_done <| ?_
      refine x_fin ⟨⟨_, rfl⟩, rfl, ?_⟩
      exact emk hS
     ·intro Ep7 w l' hE7 hO7 hF_ hS
      obtain ⟨q2z, q30, -⟩ := hF_
      replace q2z : Ep7 71 = .slice q2 t0.frows.length c_t0_0 := emk q2z
      replace q30 : Ep7 75 = .int .i64 t0.frank := emk q30
      replace hS : St w0 w (vec 88 (RpSl R_exact_Int).sz (.slice q2 t0.frows.length c_t0_0) t0.frows.length q0t :: l') := emk hS
      refine p (yix_o sl_85 q2z q30 hS q16 q6c) <| x_done <| ?_
      refine x_fin ⟨⟨_, rfl⟩, rfl, ?_⟩
      exact emk hS
     ·intro Ep7 w l' hE7 hO7 hF_ hS
      obtain ⟨q31, -⟩ := hF_
      replace q31 : Ep7 76 = .pointer (some ((adr q2).add (t0.frank.toNat * (RpSl R_exact_Int).sz))) := emk q31
      replace hS : St w0 w (vec 88 (RpSl R_exact_Int).sz (.slice q2 t0.frows.length c_t0_0) t0.frows.length q0t :: l') := emk hS
      have q_ := q16.get q6c; obtain ⟨q9y, q6g, q8h⟩ := q_
      rw [← q8d] at q6g
      obtain ⟨qa5, qa6, qa7, rfl, q1e⟩ := q6g
      have e_ := q1e.n; subst e_
      refine pa (at_load one_88 q31 (EltV.ld (m := 0) q8h hS rfl)) <| x_done <| ?_
      refine x_fin ⟨⟨_, rfl⟩, ⟨rfl, q1e⟩, ?_⟩
      exact emk hS
     ·intro Ep7 w l' hE7 hO7 hF_ hS
      refine p (yl_move ((hE7 0 rfl).trans q19)) <| x_done <| ?_
      refine x_fin ⟨⟨_, rfl⟩, rfl, ?_⟩
      exact emk hS
     ·intro Ep7 w l' hE7 hO7 hF_ hS
      obtain ⟨q32, -⟩ := hF_
      replace q32 : Ep7 78 = .pointer (some ⟨q3, 0, none⟩) := emk q32
      refine p (yl_nilCheck q32) <| x_done <| ?_
      refine x_fin ⟨⟨_, rfl⟩, rfl, ?_⟩
      exact emk hS
     ·intro Ep7 w l' hE7 hO7 hF_ hS
      obtain ⟨q33, -⟩ := hF_
      replace q33 : Ep7 79 = .pointer (some ⟨q3, 0, none⟩) := emk q33
      refine p (yl_field0 fld_87_0 q33) <| x_done <| ?_
      refine x_fin ⟨⟨_, rfl⟩, rfl, ?_⟩
      exact emk hS
     ·intro Ep7 w l' hE7 hO7 hF_ hS
      obtain ⟨q34, -⟩ := hF_
      replace q34 : Ep7 80 = .pointer (some ⟨q3, 0, none⟩) := emk q34
      replace hS : St w0 w (cells q3 87 [.slice q2 t0.frows.length c_t0_0, .bool t0.flast.fneg, .slice q0c t0.flast.fmag.length c_t0_2, .bool t0.fodd, .int .i64 t0.frank] :: l') := emk hS
      refine pa (at_load one_85 q34 (hS.cell rfl)) <| x_done <| ?_
      refine x_fin ⟨⟨_, rfl⟩, rfl, ?_⟩
      exact emk hS
     ·intro Ep7 w l' hE7 hO7 hF_ hS
      refine p (yl_move ((hE7 7 rfl).trans q5a)) <| x_done <| ?_
      refine x_fin ⟨⟨_, rfl⟩, rfl, ?_⟩
      exact emk hS
     ·intro Ep7 w l' hE7 hO7 hF_ hS
      obtain ⟨q35, q36, -⟩ := hF_
      replace q35 : Ep7 81 = .slice q2 t0.frows.length c_t0_0 := emk q35
      replace q36 : Ep7 82 = .int .i64 q0w := emk q36
      replace hS : St w0 w (vec 88 (RpSl R_exact_Int).sz (.slice q2 t0.frows.length c_t0_0) t0.frows.length q0t :: l') := emk hS
      refine p (yix_o sl_85 q35 q36 hS q16 q6d) <| x_done <| ?_
      refine x_fin ⟨⟨_, rfl⟩, rfl, ?_⟩
      exact emk hS
     ·intro Ep7 w l' hE7 hO7 hF_ hS
      obtain ⟨q37, -⟩ := hF_
      replace q37 : Ep7 83 = .pointer (some ((adr q2).add (q0w.toNat * (RpSl R_exact_Int).sz))) := emk q37
      replace hS : St w0 w (vec 88 (RpSl R_exact_Int).sz (.slice q2 t0.frows.length c_t0_0) t0.frows.length q0t :: l') := emk hS
      have q_ := q16.get q6d; obtain ⟨q9z, q6h, q8i⟩ := q_
      rw [← q8e] at q6h
      obtain ⟨qa8, qa9, qaa, rfl, q1f⟩ := q6h
      have e_ := q1f.n; subst e_
      refine pa (at_load one_88 q37 (EltV.ld (m := 0) q8i hS rfl)) <| x_done <| ?_
      refine x_fin ⟨⟨_, rfl⟩, ⟨rfl, q1f⟩, ?_⟩
      exact emk hS
     ·intro Ep7 w l' hE7 hO7 hF_ hS
      refine p (yl_move ((hE7 0 rfl).trans q19)) <| x_done <| ?_
      refine x_fin ⟨⟨_, rfl⟩, rfl, ?_⟩
      exact emk hS
     ·intro Ep7 w l' hE7 hO7 hF_ hS
      obtain ⟨q38, -⟩ := hF_
      replace q38 : Ep7 85 = .pointer (some ⟨q3, 0, none⟩) := emk q38
      refine p (yl_nilCheck q38) <| x_done <| ?_
      refine x_fin ⟨⟨_, rfl⟩, rfl, ?_⟩
      exact emk hS
     ·intro Ep7 w l' hE7 hO7 hF_ hS
      obtain ⟨q39, -⟩ := hF_
      replace q39 : Ep7 86 = .pointer (some ⟨q3, 0, none⟩) := emk q39
      refine p (yl_field0 fld_87_2 q39) <| x_done <| ?_
      refine x_fin ⟨⟨_, rfl⟩, rfl, ?_⟩
      exact emk hS
     ·intro Ep7 w l' hE7 hO7 hF_ hS
      obtain ⟨q3a, -⟩ := hF_
      replace q3a : Ep7 87 = .pointer (some ⟨q3, 3, none⟩) := emk q3a
      replace hS : St w0 w (cells q3 87 [.slice q2 t0.frows.length c_t0_0, .bool t0.flast.fneg, .slice q0c t0.flast.fmag.length c_t0_2, .bool t0.fodd, .int .i64 t0.frank] :: l') := emk hS
      refine pa (at_load one_4 q3a (hS.cell rfl)) <| x_done <| ?_
      refine x_fin ⟨⟨_, rfl⟩, rfl, ?_⟩
      exact emk hS
     ·intro Ep7 w l' hE7 hO7 hF_ hS
      obtain ⟨q3b, -⟩ := hF_
      replace q3b : Ep7 88 = .bool t0.fodd := emk q3b
      refine p (yl_not q3b) <| x_done <| ?_
      refine x_fin ⟨⟨_, rfl⟩, rfl, ?_⟩
      exact emk hS
     ·intro Ep7 w l' hE7 hO7 hF_ hS
      obtain ⟨q4u, q4v, -⟩ := hF_
      replace q4u : Ep7 57 = .slice q2 t0.frows.length c_t0_0 := emk q4u
      replace q4v : Ep7 58 = .int .i64 q0w := emk q4v
      replace hS : St w0 w (vec 88 (RpSl R_exact_Int).sz (.slice q2 t0.frows.length c_t0_0) t0.frows.length q0t :: l') := emk hS
      refine p (yix_o sl_85 q4u q4v hS q16 q6e) <| x_done <| ?_
      refine x_fin ⟨⟨_, rfl⟩, rfl, ?_⟩
      exact emk hS
     ·intro Ep7 w l' hE7 hO7 hF_ hS
      obtain ⟨q1e, q3c, -⟩ := hF_
      replace q1e : Ep7 77 = .slice (adOf (Ep7 77)) q1b.length (capOf (Ep7 77)) ∧ RdS R_exact_Int ρ (adOf (Ep7 77)) q1b.length (capOf (Ep7 77)) q1b := emk q1e
      have q_ := id q1e; obtain ⟨-, q6i⟩ := q_
      replace q3c : Ep7 90 = .pointer (some ((adr q2).add (q0w.toNat * (RpSl R_exact_Int).sz))) := emk q3c
      replace hS : St w0 w (ro ρ :: vec 88 (RpSl R_exact_Int).sz (.slice q2 t0.frows.length c_t0_0) t0.frows.length q0t :: l') := emk hS
      refine o_put' (news := [.slice (adOf (Ep7 77)) q1b.length (capOf (Ep7 77))]) sz_88 q3c q1e.1 rfl rfl (o := 0) rfl q6e rfl (hS.pull 1) q16 (Le.refl _) (fun c hc => ok_all hc (show (RpSl R_exact_Int).ok ρ [.slice (adOf (Ep7 77)) q1b.length (capOf (Ep7 77))] q1b from ⟨_, _, _, rfl, q6i⟩)) q8f (fun q0f w' q24 hS => ?_)
      refine x_done <| ?_
      refine x_fin ⟨⟨undef, rfl⟩, trivial, ?_⟩
      replace hS := St.bun (Φ := (fun (q0f : List Value) => RepL (RpSl R_exact_Int) ρ q4b q0f)) (L := (fun (q0f : List Value) => [vec 88 (RpSl R_exact_Int).sz (.slice q2 t0.frows.length c_t0_0) t0.frows.length q0f])) q0f q24 hS
      exact emk (hS.pull 1)
     ·intro Ep7 w l' hE7 hO7 hF_ hS
      obtain ⟨q4w, q3d, -⟩ := hF_
      replace q4w : Ep7 62 = .slice q2 t0.frows.length c_t0_0 := emk q4w
      replace q3d : Ep7 66 = .int .i64 t0.frank := emk q3d
      replace hS : St w0 w (ro ρ :: bunA (fun (q0f : List Value) => RepL (RpSl R_exact_Int) ρ q4b q0f) (fun (q0f : List Value) => [vec 88 (RpSl R_exact_Int).sz (.slice q2 t0.frows.length c_t0_0) t0.frows.length q0f]) :: l') := emk hS
      have q_ := St.unbun (hS.pull 1); obtain ⟨q0f, q24, hS⟩ := q_
      refine p (yix_o sl_85 q4w q3d hS q24 q6f) <| x_done <| ?_
      refine x_fin ⟨⟨_, rfl⟩, rfl, ?_⟩
      replace hS := St.bun (Φ := (fun (q0f : List Value) => RepL (RpSl R_exact_Int) ρ q4b q0f)) (L := (fun (q0f : List Value) => [vec 88 (RpSl R_exact_Int).sz (.slice q2 t0.frows.length c_t0_0) t0.frows.length q0f])) q0f q24 hS
      exact emk (hS.pull 1)
     ·intro Ep7 w l' hE7 hO7 hF_ hS
      obtain ⟨q1f, q3e, -⟩ := hF_
      replace q1f : Ep7 84 = .slice (adOf (Ep7 84)) q1c.length (capOf (Ep7 84)) ∧ RdS R_exact_Int ρ (adOf (Ep7 84)) q1c.length (capOf (Ep7 84)) q1c := emk q1f
      have q_ := id q1f; obtain ⟨-, q6j⟩ := q_
      replace q3e : Ep7 91 = .pointer (some ((adr q2).add (t0.frank.toNat * (RpSl R_exact_Int).sz))) := emk q3e
      replace hS : St w0 w (ro ρ :: bunA (fun (q0f : List Value) => RepL (RpSl R_exact_Int) ρ q4b q0f) (fun (q0f : List Value) => [vec 88 (RpSl R_exact_Int).sz (.slice q2 t0.frows.length c_t0_0) t0.frows.length q0f]) :: l') := emk hS
      have q_ := St.unbun (hS.pull 1); obtain ⟨q0f, q24, hS⟩ := q_
      refine o_put' (news := [.slice (adOf (Ep7 84)) q1c.length (capOf (Ep7 84))]) sz_88 q3e q1f.1 rfl rfl (o := 0) rfl q6f rfl hS q24 (Le.refl _) (fun c hc => ok_all hc (show (RpSl R_exact_Int).ok ρ [.slice (adOf (Ep7 84)) q1c.length (capOf (Ep7 84))] q1c from ⟨_, _, _, rfl, q6j⟩)) q8g (fun q0u w' q5f hS => ?_)
      refine x_done <| ?_
      refine x_fin ⟨⟨undef, rfl⟩, trivial, ?_⟩
      replace hS := St.bun (Φ := (fun (q0u : List Value) => RepL (RpSl R_exact_Int) ρ q5b q0u)) (L := (fun (q0u : List Value) => [vec 88 (RpSl R_exact_Int).sz (.slice q2 t0.frows.length c_t0_0) t0.frows.length q0u])) q0u q5f hS
      exact emk (hS.pull 1)
     ·intro Ep7 w l' hE7 hO7 hF_ hS
      obtain ⟨q3f, -⟩ := hF_
      replace q3f : Ep7 67 = .pointer (some ⟨q3, 0, none⟩) := emk q3f
      refine p (yl_nilCheck q3f) <| x_done <| ?_
      refine x_fin ⟨⟨_, rfl⟩, rfl, ?_⟩
      exact emk hS
     ·intro Ep7 w l' hE7 hO7 hF_ hS
      obtain ⟨q3g, -⟩ := hF_
      replace q3g : Ep7 92 = .pointer (some ⟨q3, 0, none⟩) := emk q3g
      refine p (yl_field0 fld_87_2 q3g) <| x_done <| ?_
      refine x_fin ⟨⟨_, rfl⟩, rfl, ?_⟩
      exact emk hS
     ·intro Ep7 w l' hE7 hO7 hF_ hS
      obtain ⟨q3h, q3i, -⟩ := hF_
      replace q3h : Ep7 89 = .bool (!t0.fodd) := emk q3h
      replace q3i : Ep7 93 = .pointer (some ⟨q3, 3, none⟩) := emk q3i
      replace hS : St w0 w (cells q3 87 [.slice q2 t0.frows.length c_t0_0, .bool t0.flast.fneg, .slice q0c t0.flast.fmag.length c_t0_2, .bool t0.fodd, .int .i64 t0.frank] :: l') := emk hS
      refine o_store1 (v := .bool (!t0.fodd)) one_4 q3i q3h rfl rfl hS (fun w' hS => ?_)
      refine x_done <| ?_
      refine x_fin ⟨⟨undef, rfl⟩, trivial, ?_⟩
      exact emk hS
    intro Ep7 w' hE7 hF_ hS
    obtain ⟨q4n, q4o, q4p, q4u, q4v, q4q, q4r, q4s, q4w, q4t, q2r, q2s, q3d, q3f, q2t, q2u, q2v, q2z, q2w, q2x, q2y, q30, q31, q1e, q32, q33, q34, q35, q36, q37, q1f, q38, q39, q3a, q3b, q3h, q3c, q3e, q3g, q3i, -⟩ := hF_
    replace q4n : Ep7 54 = .pointer (some ⟨q3, 0, none⟩) := emk q4n
    replace q4o : Ep7 55 = .pointer (some ⟨q3, 0, none⟩) := emk q4o
    replace q4p : Ep7 56 = .pointer (some ⟨q3, 0, none⟩) := emk q4p
    replace q4u : Ep7 57 = .slice q2 t0.frows.length c_t0_0 := emk q4u
    replace q4v : Ep7 58 = .int .i64 q0w := emk q4v
    replace q4q : Ep7 59 = .pointer (some ⟨q3, 0, none⟩) := emk q4q
    replace q4r : Ep7 60 = .pointer (some ⟨q3, 0, none⟩) := emk q4r
    replace q4s : Ep7 61 = .pointer (some ⟨q3, 0, none⟩) := emk q4s
    replace q4w : Ep7 62 = .slice q2 t0.frows.length c_t0_0 := emk q4w
    replace q4t : Ep7 63 = .pointer (some ⟨q3, 0, none⟩) := emk q4t
    replace q2r : Ep7 64 = .pointer (some ⟨q3, 0, none⟩) := emk q2r
    replace q2s : Ep7 65 = .pointer (some ⟨q3, 4, none⟩) := emk q2s
    replace q3d : Ep7 66 = .int .i64 t0.frank := emk q3d
    replace q3f : Ep7 67 = .pointer (some ⟨q3, 0, none⟩) := emk q3f
    replace q2t : Ep7 68 = .pointer (some ⟨q3, 0, none⟩) := emk q2t
    replace q2u : Ep7 69 = .pointer (some ⟨q3, 0, none⟩) := emk q2u
    replace q2v : Ep7 70 = .pointer (some ⟨q3, 0, none⟩) := emk q2v
    replace q2z : Ep7 71 = .slice q2 t0.frows.length c_t0_0 := emk q2z
    replace q2w : Ep7 72 = .pointer (some ⟨q3, 0, none⟩) := emk q2w
    replace q2x : Ep7 73 = .pointer (some ⟨q3, 0, none⟩) := emk q2x
    replace q2y : Ep7 74 = .pointer (some ⟨q3, 4, none⟩) := emk q2y
    replace q30 : Ep7 75 = .int .i64 t0.frank := emk q30
    replace q31 : Ep7 76 = .pointer (some ((adr q2).add (t0.frank.toNat * (RpSl R_exact_Int).sz))) := emk q31
    replace q1e : Ep7 77 = .slice (adOf (Ep7 77)) q1b.length (capOf (Ep7 77)) ∧ RdS R_exact_Int ρ (adOf (Ep7 77)) q1b.length (capOf (Ep7 77)) q1b := emk q1e
    have q_ := id q1e; obtain ⟨-, q6i⟩ := q_
    replace q32 : Ep7 78 = .pointer (some ⟨q3, 0, none⟩) := emk q32
    replace q33 : Ep7 79 = .pointer (some ⟨q3, 0, none⟩) := emk q33
    replace q34 : Ep7 80 = .pointer (some ⟨q3, 0, none⟩) := emk q34
    replace q35 : Ep7 81 = .slice q2 t0.frows.length c_t0_0 := emk q35
    replace q36 : Ep7 82 = .int .i64 q0w := emk q36
    replace q37 : Ep7 83 = .pointer (some ((adr q2).add (q0w.toNat * (RpSl R_exact_Int).sz))) := emk q37
    replace q1f : Ep7 84 = .slice (adOf (Ep7 84)) q1c.length (capOf (Ep7 84)) ∧ RdS R_exact_Int ρ (adOf (Ep7 84)) q1c.length (capOf (Ep7 84)) q1c := emk q1f
    have q_ := id q1f; obtain ⟨-, q6j⟩ := q_
    replace q38 : Ep7 85 = .pointer (some ⟨q3, 0, none⟩) := emk q38
    replace q39 : Ep7 86 = .pointer (some ⟨q3, 0, none⟩) := emk q39
    replace q3a : Ep7 87 = .pointer (some ⟨q3, 3, none⟩) := emk q3a
    replace q3b : Ep7 88 = .bool t0.fodd := emk q3b
    replace q3h : Ep7 89 = .bool (!t0.fodd) := emk q3h
    replace q3c : Ep7 90 = .pointer (some ((adr q2).add (q0w.toNat * (RpSl R_exact_Int).sz))) := emk q3c
    replace q3e : Ep7 91 = .pointer (some ((adr q2).add (t0.frank.toNat * (RpSl R_exact_Int).sz))) := emk q3e
    replace q3g : Ep7 92 = .pointer (some ⟨q3, 0, none⟩) := emk q3g
    replace q3i : Ep7 93 = .pointer (some ⟨q3, 3, none⟩) := emk q3i
    replace hS : St w0 w' (ro ρ :: bunA (fun (q0u : List Value) => RepL (RpSl R_exact_Int) ρ q5b q0u) (fun (q0u : List Value) => [vec 88 (RpSl R_exact_Int).sz (.slice q2 t0.frows.length c_t0_0) t0.frows.length q0u]) :: cells q3 87 [.slice q2 t0.frows.length c_t0_0, .bool t0.flast.fneg, .slice q0c t0.flast.fmag.length c_t0_2, .bool (!t0.fodd), .int .i64 t0.frank] :: (l)) := emk hS
    have q_ := St.unbun (hS.pull 1); obtain ⟨q0u, q5f, hS⟩ := q_
    exact x_inv ⟨q0u, q5b, !t0.fodd, (sinj hFc53), ((hE7 0 rfl).trans q19), ((hE7 1 rfl).trans q7h), ((hE7 2 rfl).trans q7i), q5f, (((hS.pull 1).pull 1).pull 2)⟩
   ·replace hFc53 := it_f hc53 hFc53
    refine x_skip <| ?_
    exact x_inv ⟨q0t, t0.frows, t0.fodd, (sinj hFc53), q19, q7h, q7i, q16, (((hS.pull 2).pull 2).pull 2)⟩
  rintro E w ⟨q1a, q1r, q0i, rfl, q4c, q8j, q8k, q1v, hS⟩
  replace hF := ck_s hF; obtain ⟨q7j, hF⟩ := hF
  replace hF := lv_s hF; obtain ⟨q1h, q9d, hF⟩ := hF
  have q_ := q1v.get q7j; obtain ⟨qab, q7k, q9e⟩ := q_
  rw [← q9d] at q7k
  obtain ⟨q17, qad, q1w, rfl, q42⟩ := q7k
  have e_ := q42.n; subst e_
  refine x_seq <| x_still mixed (by kernel_rfl) hS <| q (yl_move q4c) <| q (yl_nilCheck rfl) <|
   q (yl_field0 fld_87_0 rfl) <| qa (fun w' hS => at_load one_85 rfl (hS.cell rfl)) <| q (yl_move q4c) <| q (yl_nilCheck rfl) <|
   q (yl_field0 fld_87_3 rfl) <| qa (fun w' hS => at_load one_3 rfl (hS.cell rfl)) <| q (yix_o sl_85 rfl rfl (hS.pull 1) q1v q7j) <| qa (fun w' hS => at_load one_88 rfl (EltV.ld (m := 0) q9e (hS.pull 1) rfl)) <|
   q (yl_assign rfl) <|
   q_done fun w' hS => ?_
  refine x_seq <| x_seq <| x_region <| p (yl_move q4c) <|
   p (yl_nilCheck rfl) <| p (yl_field0 fld_87_0 rfl) <| pa (at_load one_85 rfl (hS.cell rfl)) <| p (yl_len_slice usl_85 rfl) <|
   p (yl_move rfl) <| x_done <| ?_
  replace hF := bd_s hF; obtain ⟨oL10, hLL10, hF⟩ := hF
  refine x_join (fun E w => ∃ (q4d : Heap) (q1d : List Value) (q2e : List (List T_exact_Int)), q2e = oL10 ∧ Le ρ q4d ∧ E 0 = .pointer (some ⟨q3, 0, none⟩) ∧ E 1 = .int .i64 c1 ∧ E 8 = .slice q17 q1h.length q1w ∧ RepL (RpSl R_exact_Int) q4d q2e q1d ∧ St w0 w (cells q3 87 [.slice q2 t0.frows.length c_t0_0, .bool t0.flast.fneg, .slice q0c t0.flast.fmag.length c_t0_2, .bool q0i, .int .i64 t0.frank] :: vec 88 (RpSl R_exact_Int).sz (.slice q2 t0.frows.length c_t0_0) t0.frows.length q1d :: ro q4d :: l)) ?_ ?_
  ·refine x_block ?_
   refine x_loop (fun k_ E w => ∃ (q0q : Heap) (q0m : List Value) (q1l : List (List T_exact_Int)) (q7 : Int), lp (P_exact_table_pivot_L10 t0 c1 all2 q1h) k_ (q1l, q7) = some oL10 ∧ Le ρ q0q ∧ E 0 = .pointer (some ⟨q3, 0, none⟩) ∧ E 1 = .int .i64 c1 ∧ E 2 = .bool all2 ∧ E 8 = .slice q17 q1h.length q1w ∧ E 107 = .slice q2 t0.frows.length c_t0_0 ∧ E 108 = .int .i64 (t0.frows.length : Int) ∧ E 109 = .int .i64 q7 ∧ RepL (RpSl R_exact_Int) q0q q1l q0m ∧ St w0 w (cells q3 87 [.slice q2 t0.frows.length c_t0_0, .bool t0.flast.fneg, .slice q0c t0.flast.fmag.length c_t0_2, .bool q0i, .int .i64 t0.frank] :: vec 88 (RpSl R_exact_Int).sz (.slice q2 t0.frows.length c_t0_0) t0.frows.length q0m :: ro q0q :: l)) fuel ⟨ρ, q1a, q1r, 0, hLL10, (Le.refl _), q4c, q8j, q8k, rfl, rfl, rfl, rfl, q1v, (((hS.pull 2).pull 2).pull 2)⟩ ?_
   rintro kL10 E w ⟨q0q, q0m, q1l, q7, hLL10, q0x, q25, q4x, q4y, q4z, q2o, q2p, q1m, q13, hS⟩
   replace hLL10 := lp_s hLL10; obtain ⟨kL10, obL10, rfl, hFL10, hLL10⟩ := hLL10
   refine x_seq <| x_region <| p (yl_lss q1m q2p) <| x_done <|
    x_seq <|
    x_cond_p (q7 < (t0.frows.length : Int)) rfl (fun hc110 => ?_) (fun hc110 => ?_)
   ·replace hFL10 := it_t hc110 hFL10
    refine x_skip <| x_seq <| ?_
    replace hFL10 := bd_s hFL10; obtain ⟨ob3, hFb3, hFL10⟩ := hFL10
    refine x_join (fun E w => ∃ (q5g : Heap) (q1s : List Value) (q3j : List (List T_exact_Int)), q3j = ob3 ∧ Le q0q q5g ∧ E 0 = .pointer (some ⟨q3, 0, none⟩) ∧ E 1 = .int .i64 c1 ∧ E 2 = .bool all2 ∧ E 8 = .slice q17 q1h.length q1w ∧ E 107 = .slice q2 t0.frows.length c_t0_0 ∧ E 108 = .int .i64 (t0.frows.length : Int) ∧ E 109 = .int .i64 q7 ∧ RepL (RpSl R_exact_Int) q5g q3j q1s ∧ St w0 w (cells q3 87 [.slice q2 t0.frows.length c_t0_0, .bool t0.flast.fneg, .slice q0c t0.flast.fmag.length c_t0_2, .bool q0i, .int .i64 t0.frank] :: vec 88 (RpSl R_exact_Int).sz (.slice q2 t0.frows.length c_t0_0) t0.frows.length q1s :: ro q5g :: l)) ?_ ?_
    ·replace hFb3 := ck_s hFb3; obtain ⟨q6k, hFb3⟩ := hFb3
     replace hFb3 := lv_s hFb3; obtain ⟨q1i, q8l, hFb3⟩ := hFb3
     have q_ := q13.get q6k; obtain ⟨qa0, q6l, q8m⟩ := q_
     rw [← q8l] at q6l
     obtain ⟨q18, qac, q2f, rfl, q4e⟩ := q6l
     have e_ := q4e.n; subst e_
     replace hFb3 := lv_s hFb3; obtain ⟨x130, hx130, hFb3⟩ := hFb3
     replace hFb3 := lv_s hFb3; obtain ⟨x131, hx131, hFb3⟩ := hFb3
     refine x_block <| x_seq <| x_region <| p (yl_move q1m) <|
      p (yix_o sl_85 q2o q1m (hS.pull 1) q13 q6k) <| pa (at_load one_88 rfl (EltV.ld (m := 0) q8m (hS.pull 1) rfl)) <| p (yl_assign rfl) <| p (yl_assign rfl) <|
      x_done <| x_seq <| x_seq <| x_region <|
      p (yl_move rfl) <| p (yl_move q25) <| p (yl_nilCheck rfl) <| p (yl_field0 fld_87_3 rfl) <|
      pa (at_load one_3 rfl (hS.cell rfl)) <| p (yl_eql rfl rfl) <| p (yl_move rfl) <| pg (v := .int .i64 q7) 120 (c := !(decide (q7 = t0.frank))) (says_f _) (fun hq => Yl.at (yl_move rfl)) <|
      pg (v := .pointer (some ⟨q3, 0, none⟩)) 120 (c := !(decide (q7 = t0.frank))) (says_f _) (fun hq => Yl.at (yl_move q25)) <| pg (v := .pointer (some ⟨q3, 0, none⟩)) 120 (c := !(decide (q7 = t0.frank))) (says_f _) (fun hq => Yl.at (yl_nilCheck (cv hq))) <| pg (v := .pointer (some ⟨q3, 4, none⟩)) 120 (c := !(decide (q7 = t0.frank))) (says_f _) (fun hq => Yl.at (yl_field0 fld_87_3 (cv hq))) <| pg (v := .int .i64 t0.frank) 120 (c := !(decide (q7 = t0.frank))) (says_f _) (fun hq => at_load one_3 (cv hq) (hS.cell rfl)) <|
      pg (v := .bool (decide (q7 < t0.frank))) 120 (c := !(decide (q7 = t0.frank))) (says_f _) (fun hq => Yl.at (yl_lss (cv hq) (cv hq))) <| pg (v := .bool (decide (q7 < t0.frank))) 120 (c := !(decide (q7 = t0.frank))) (says_f _) (fun hq => Yl.at (yl_move (cv hq))) <| pg (v := .bool all2) 127 (c := (!(decide (q7 = t0.frank))) && (decide (q7 < t0.frank))) (says_ift _ _) (fun hq => Yl.at (yl_move q4y)) <| pg (v := .bool (!all2)) 127 (c := (!(decide (q7 = t0.frank))) && (decide (q7 < t0.frank))) (says_ift _ _) (fun hq => Yl.at (yl_not (cv hq))) <|
      pg (v := .bool x130) 120 (c := !(decide (q7 = t0.frank))) (says_f _) (fun hq => Yl.at (yand' (cv hq) (fun hc => (cv (and_i hq hc))) rfl hx130)) <| p (yor' rfl rfl (fun hc => (cv (t_not hc))) hx131) <| x_done <|
      x_cond (t := x131) rfl (fun hc131 => ?_) (fun hc131 => ?_)
     ·replace hFb3 := it_t hc131 hFb3
      refine x_exitTo _ rfl <| ?_
      exact x_inv ⟨q0q, q0m, q1l, (sinj hFb3), (Le.refl _), q25, q4x, q4y, q4z, q2o, q2p, q1m, q13, (((hS.pull 2).pull 2).pull 2)⟩
     ·replace hFb3 := it_bf hc131 hFb3
      refine x_skip <| x_seq <| x_region <| p (yl_move rfl) <|
       p (yl_len_slice usl_88 rfl) <| ?_
      replace hFb3 := ck_s hFb3; obtain ⟨q8n, hFb3⟩ := hFb3
      replace hFb3 := lv_s hFb3; obtain ⟨q9, q8o, hFb3⟩ := hFb3
      refine o_mk sl_88 zero_41 (show R_exact_Int.ok q0q _ (T_exact_Int.mk false []) from ⟨_, _, _, rfl, (RdS.nil (A := none) (c := 0))⟩) rfl rfl q8n (by decide) q8o hS (fun A134 cs134 w' hr134 hS => ?_)
      refine p (yl_assign rfl) <| x_done <| x_seq <| x_seq <|
       x_region <| p (yl_move rfl) <| p (yl_len_slice usl_88 rfl) <| p (yl_move rfl) <|
       x_done <| ?_
      replace hFb3 := bd_s hFb3; obtain ⟨oL15, hLL15, hFb3⟩ := hFb3
      refine x_join (fun E w => ∃ (q5c : Heap) (q1p : List Value) (q1t : List T_exact_Int), q1t = oL15 ∧ Le q0q q5c ∧ E 0 = .pointer (some ⟨q3, 0, none⟩) ∧ E 1 = .int .i64 c1 ∧ E 2 = .bool all2 ∧ E 8 = .slice q17 q1h.length q1w ∧ E 9 = .int .i64 q7 ∧ E 11 = .slice A134 q9.length q9.length ∧ E 107 = .slice q2 t0.frows.length c_t0_0 ∧ E 108 = .int .i64 (t0.frows.length : Int) ∧ E 109 = .int .i64 q7 ∧ RepL R_exact_Int q5c q1t q1p ∧ St w0 w (cells q3 87 [.slice q2 t0.frows.length c_t0_0, .bool t0.flast.fneg, .slice q0c t0.flast.fmag.length c_t0_2, .bool q0i, .int .i64 t0.frank] :: vec 41 R_exact_Int.sz (.slice A134 q9.length q9.length) q9.length q1p :: vec 88 (RpSl R_exact_Int).sz (.slice q2 t0.frows.length c_t0_0) t0.frows.length q0m :: ro q5c :: l)) ?_ ?_
      ·refine x_block ?_
       refine x_loop (fun k_ E w => ∃ (q6 : Heap) (q0j : List Value) (q1j : List T_exact_Int) (q0a : Int), lp (P_exact_table_pivot_L15 t0 c1 q1h q1i) k_ (q1j, q0a) = some oL15 ∧ Le q0q q6 ∧ E 0 = .pointer (some ⟨q3, 0, none⟩) ∧ E 1 = .int .i64 c1 ∧ E 2 = .bool all2 ∧ E 8 = .slice q17 q1h.length q1w ∧ E 9 = .int .i64 q7 ∧ E 10 = .slice q18 q1i.length q2f ∧ E 11 = .slice A134 q9.length q9.length ∧ E 107 = .slice q2 t0.frows.length c_t0_0 ∧ E 108 = .int .i64 (t0.frows.length : Int) ∧ E 109 = .int .i64 q7 ∧ E 136 = .int .i64 (q1i.length : Int) ∧ E 137 = .int .i64 q0a ∧ RepL R_exact_Int q6 q1j q0j ∧ St w0 w (cells q3 87 [.slice q2 t0.frows.length c_t0_0, .bool t0.flast.fneg, .slice q0c t0.flast.fmag.length c_t0_2, .bool q0i, .int .i64 t0.frank] :: vec 41 R_exact_Int.sz (.slice A134 q9.length q9.length) q9.length q0j :: vec 88 (RpSl R_exact_Int).sz (.slice q2 t0.frows.length c_t0_0) t0.frows.length q0m :: ro q6 :: l)) fuel ⟨q0q, cs134, q9, 0, hLL15, (Le.refl _), q25, q4x, q4y, q4z, rfl, rfl, rfl, q2o, q2p, q1m, rfl, rfl, hr134, ((((hS.pull 3).pull 3).pull 2).pull 3)⟩ ?_
       rintro kL15 E w ⟨q6, q0j, q1j, q0a, hLL15, q0g, q50, q3k, q5r, q3l, q5s, q43, q44, q55, q56, q57, q58, q2q, q1q, hS⟩
       replace hLL15 := lp_s hLL15; obtain ⟨kL15, obL15, rfl, hFL15, hLL15⟩ := hLL15
       refine x_seq <| x_region <| p (yl_lss q2q q58) <| x_done <|
        x_seq <|
        x_cond_p (q0a < (q1i.length : Int)) rfl (fun hc138 => ?_) (fun hc138 => ?_)
       ·replace hFL15 := it_t hc138 hFL15
        refine x_skip <| x_seq <| x_block <| x_seq <|
         x_region <| p (yl_move q2q) <| p (yl_assign rfl) <| x_done <|
         x_seq <| ?_
        replace hFL15 := ck_s hFL15; obtain ⟨q6m, hFL15⟩ := hFL15
        replace hFL15 := lv_s hFL15; obtain ⟨q14, q8p, hFL15⟩ := hFL15
        replace hFL15 := ck_s hFL15; obtain ⟨q6n, hFL15⟩ := hFL15
        replace hFL15 := lv_s hFL15; obtain ⟨q15, q8q, hFL15⟩ := hFL15
        replace hFL15 := bd_s hFL15; obtain ⟨q0v, q8r, hFL15⟩ := hFL15
        replace hFL15 := ck_s hFL15; obtain ⟨q5t, hFL15⟩ := hFL15
        replace hFL15 := lv_s hFL15; obtain ⟨q0y, q7q, hFL15⟩ := hFL15
        replace hFL15 := ck_s hFL15; obtain ⟨q5u, hFL15⟩ := hFL15
        replace hFL15 := lv_s hFL15; obtain ⟨q0z, q7r, hFL15⟩ := hFL15
        replace hFL15 := bd_s hFL15; obtain ⟨q0d, q7s, hFL15⟩ := hFL15
        replace hFL15 := bd_s hFL15; obtain ⟨q0o, q7t, hFL15⟩ := hFL15
        replace hFL15 := bd_s hFL15; obtain ⟨q0b, q7u, hFL15⟩ := hFL15
        refine x_par (w0 := w0) [⟨[], [], [140], [], [], []⟩, ⟨[], [], [141], [], [], []⟩, ⟨[0, 1], [0, 1], [142], [0], [], []⟩, ⟨[0, 1, 2], [2], [143], [0], [], []⟩, ⟨[], [], [144], [], [], []⟩, ⟨[], [], [145], [], [], []⟩, ⟨[4, 5], [4, 5], [146], [0], [], []⟩, ⟨[4, 5, 6], [6], [147], [0], [], []⟩, ⟨[0, 1, 2, 3, 4, 5, 6, 7], [3, 7], [148], [0], [], [1]⟩, ⟨[], [], [149], [], [], []⟩, ⟨[], [], [150], [], [], []⟩, ⟨[9, 10], [9, 10], [151], [0], [], []⟩, ⟨[9, 10, 11], [11], [152], [0], [], []⟩, ⟨[], [], [153], [], [], []⟩, ⟨[], [], [154], [], [], []⟩, ⟨[13, 14], [13, 14], [155], [0], [], []⟩, ⟨[13, 14, 15], [15], [156], [0], [], []⟩, ⟨[0, 1, 2, 3, 4, 5, 6, 7, 8, 9, 10, 11, 12, 13, 14, 15, 16], [12, 16], [157], [0], [], [2]⟩, ⟨[0, 1, 2, 3, 4, 5, 6, 7, 8, 9, 10, 11, 12, 13, 14, 15, 16, 17], [17], [158], [0], [2], [3]⟩, ⟨[0, 1, 2, 3, 4, 5, 6, 7, 8, 9, 10, 11, 12, 13, 14, 15, 16, 17, 18], [8, 17, 18], [159], [0], [1, 3], [4]⟩, ⟨[], [], [13], [], [], [5]⟩, ⟨[0, 1, 2, 3, 4, 5, 6, 7, 8, 9, 10, 11, 12, 13, 14, 15, 16, 17, 18, 19, 20], [19, 20], [], [], [5], [6]⟩] [⟨none, none, []⟩, ⟨(some 8), (some 19), [148]⟩, ⟨(some 17), (some 18), [157]⟩, ⟨(some 18), (some 19), [157, 158]⟩, ⟨(some 19), none, [148, 157, 158, 159]⟩, ⟨(some 20), (some 21), [13]⟩, ⟨(some 21), none, [13, 159]⟩] [13, 140, 141, 142, 143, 144, 145, 146, 147, 148, 149, 150, 151, 152, 153, 154, 155, 156, 157, 158, 159] [0] [0, 4, 6] [0, 1, 2, 3, 4, 5, 6, 7, 8, 9, 10, 11, 12, 13, 14, 15, 16, 17, 18, 19, 20] [fun Ep17 => Ep17 140 = .slice q17 q1h.length q1w, fun Ep17 => Ep17 141 = .int .i64 c1, fun Ep17 => Ep17 142 = .pointer (some ((adr q17).add (c1.toNat * R_exact_Int.sz))), fun Ep17 => Ep17 143 = .agg #[.bool q14.fneg, .slice (adOf (partOf 1 (Ep17 143))) q14.fmag.length (capOf (partOf 1 (Ep17 143)))] ∧ RdS (RpI .u32) ρ (adOf (partOf 1 (Ep17 143))) q14.fmag.length (capOf (partOf 1 (Ep17 143))) q14.fmag, fun Ep17 => Ep17 144 = .slice q18 q1i.length q2f, fun Ep17 => Ep17 145 = .int .i64 q0a, fun Ep17 => Ep17 146 = .pointer (some ((adr q18).add (q0a.toNat * R_exact_Int.sz))), fun Ep17 => Ep17 147 = .agg #[.bool q15.fneg, .slice (adOf (partOf 1 (Ep17 147))) q15.fmag.length (capOf (partOf 1 (Ep17 147)))] ∧ RdS (RpI .u32) q0q (adOf (partOf 1 (Ep17 147))) q15.fmag.length (capOf (partOf 1 (Ep17 147))) q15.fmag, fun Ep17 => Ep17 148 = .agg #[.bool q0v.fneg, .slice (adOf (partOf 1 (Ep17 148))) q0v.fmag.length (capOf (partOf 1 (Ep17 148)))], fun Ep17 => Ep17 149 = .slice q18 q1i.length q2f, fun Ep17 => Ep17 150 = .int .i64 c1, fun Ep17 => Ep17 151 = .pointer (some ((adr q18).add (c1.toNat * R_exact_Int.sz))), fun Ep17 => Ep17 152 = .agg #[.bool q0y.fneg, .slice (adOf (partOf 1 (Ep17 152))) q0y.fmag.length (capOf (partOf 1 (Ep17 152)))] ∧ RdS (RpI .u32) q0q (adOf (partOf 1 (Ep17 152))) q0y.fmag.length (capOf (partOf 1 (Ep17 152))) q0y.fmag, fun Ep17 => Ep17 153 = .slice q17 q1h.length q1w, fun Ep17 => Ep17 154 = .int .i64 q0a, fun Ep17 => Ep17 155 = .pointer (some ((adr q17).add (q0a.toNat * R_exact_Int.sz))), fun Ep17 => Ep17 156 = .agg #[.bool q0z.fneg, .slice (adOf (partOf 1 (Ep17 156))) q0z.fmag.length (capOf (partOf 1 (Ep17 156)))] ∧ RdS (RpI .u32) ρ (adOf (partOf 1 (Ep17 156))) q0z.fmag.length (capOf (partOf 1 (Ep17 156))) q0z.fmag, fun Ep17 => Ep17 157 = .agg #[.bool q0d.fneg, .slice (adOf (partOf 1 (Ep17 157))) q0d.fmag.length (capOf (partOf 1 (Ep17 157)))], fun Ep17 => Ep17 158 = .agg #[.bool q0o.fneg, .slice (adOf (partOf 1 (Ep17 158))) q0o.fmag.length (capOf (partOf 1 (Ep17 158)))], fun Ep17 => Ep17 159 = .agg #[.bool q0b.fneg, .slice (adOf (partOf 1 (Ep17 159))) q0b.fmag.length (capOf (partOf 1 (Ep17 159)))], fun Ep17 => Ep17 13 = .pointer (some ⟨(blkOf (Ep17 13)), 0, none⟩), fun Ep17 => True] [fun Ep17 => ro q6, fun Ep17 => bunA (fun (q0k : Heap) => Le q6 q0k ∧ RdS (RpI .u32) q0k (adOf (partOf 1 (Ep17 148))) q0v.fmag.length (capOf (partOf 1 (Ep17 148))) q0v.fmag) (fun (q0k : Heap) => [roD q6 q0k]), fun Ep17 => bunA (fun (q5 : Heap) => Le q6 q5 ∧ RdS (RpI .u32) q5 (adOf (partOf 1 (Ep17 157))) q0d.fmag.length (capOf (partOf 1 (Ep17 157))) q0d.fmag) (fun (q5 : Heap) => [roD q6 q5]), fun Ep17 => bunA (fun (q5 : Heap) => Le q6 q5 ∧ RdS (RpI .u32) q5 (adOf (partOf 1 (Ep17 157))) q0d.fmag.length (capOf (partOf 1 (Ep17 157))) q0d.fmag ∧ RdS (RpI .u32) q5 (adOf (partOf 1 (Ep17 158))) q0o.fmag.length (capOf (partOf 1 (Ep17 158))) q0o.fmag) (fun (q5 : Heap) => [roD q6 q5]), fun Ep17 => bunA (fun (q8 : Heap) => Le q6 q8 ∧ RdS (RpI .u32) q8 (adOf (partOf 1 (Ep17 148))) q0v.fmag.length (capOf (partOf 1 (Ep17 148))) q0v.fmag ∧ RdS (RpI .u32) q8 (adOf (partOf 1 (Ep17 157))) q0d.fmag.length (capOf (partOf 1 (Ep17 157))) q0d.fmag ∧ RdS (RpI .u32) q8 (adOf (partOf 1 (Ep17 158))) q0o.fmag.length (capOf (partOf 1 (Ep17 158))) q0o.fmag ∧ RdS (RpI .u32) q8 (adOf (partOf 1 (Ep17 159))) q0b.fmag.length (capOf (partOf 1 (Ep17 159))) q0b.fmag) (fun (q8 : Heap) => [roD q6 q8]), fun Ep17 => cells (blkOf (Ep17 13)) 41 [.bool false, .slice none 0 0], fun Ep17 => cells (blkOf (Ep17 13)) 41 [.bool q0b.fneg, .slice (adOf (partOf 1 (Ep17 159))) q0b.fmag.length (capOf (partOf 1 (Ep17 159)))]] mixed (by kernel_rfl) (hS.pull 3) ?_ ?_
        ·refine ⟨?_, ?_, ?_, ?_, ?_, ?_, ?_, ?_, ?_, ?_, ?_, ?_, ?_, ?_, ?_, ?_, ?_, ?_, ?_, ?_, ?_, ?_, trivial⟩
         ·intro Ep17 w l' hE17 hO17 hF_ hS
          refine p (yl_move ((hE17 8 rfl).trans q3l)) <| x_done <| ?_
          refine x_fin ⟨⟨_, rfl⟩, rfl, ?_⟩
          exact emk hS
         ·intro Ep17 w l' hE17 hO17 hF_ hS
          refine p (yl_move ((hE17 1 rfl).trans q3k)) <| x_done <| ?_
          refine x_fin ⟨⟨_, rfl⟩, rfl, ?_⟩
          exact emk hS
         ·intro Ep17 w l' hE17 hO17 hF_ hS
          obtain ⟨q3m, q3n, -⟩ := hF_
          replace q3m : Ep17 140 = .slice q17 q1h.length q1w := emk q3m
          replace q3n : Ep17 141 = .int .i64 c1 := emk q3n
          replace hS : St w0 w (ro q6 :: l') := emk hS
          refine p (yix_f sl_88 q3m q3n (q42.le (q0x.trans q0g)) q6m) <| x_done <| ?_
          refine x_fin ⟨⟨_, rfl⟩, rfl, ?_⟩
          exact emk hS
         ·intro Ep17 w l' hE17 hO17 hF_ hS
          obtain ⟨q3o, -⟩ := hF_
          replace q3o : Ep17 142 = .pointer (some ((adr q17).add (c1.toNat * R_exact_Int.sz))) := emk q3o
          replace hS : St w0 w (ro q6 :: l') := emk hS
          have q_ := q42.get q6m; obtain ⟨qa1, q6o, q8s⟩ := q_
          rw [← q8p] at q6o
          obtain ⟨q7v, q9r, q7w, rfl, q5v⟩ := q6o
          have e_ := q5v.n; subst e_
          refine pa (v := .agg #[.bool q14.fneg, .slice q7v q14.fmag.length q7w]) (at_loadAgg agg_41 q3o rfl (Elt.every (Elt.le q8s (q0x.trans q0g)) hS)) <| x_done <| ?_
          refine x_fin ⟨⟨_, rfl⟩, ⟨rfl, q5v⟩, ?_⟩
          exact emk hS
         ·intro Ep17 w l' hE17 hO17 hF_ hS
          refine p (yl_move ((hE17 10 rfl).trans q43)) <| x_done <| ?_
          refine x_fin ⟨⟨_, rfl⟩, rfl, ?_⟩
          exact emk hS
         ·intro Ep17 w l' hE17 hO17 hF_ hS
          refine p (yl_move (hE17 12 rfl)) <| x_done <| ?_
          refine x_fin ⟨⟨_, rfl⟩, rfl, ?_⟩
          exact emk hS
         ·intro Ep17 w l' hE17 hO17 hF_ hS
          obtain ⟨q3p, q3q, -⟩ := hF_
          replace q3p : Ep17 144 = .slice q18 q1i.length q2f := emk q3p
          replace q3q : Ep17 145 = .int .i64 q0a := emk q3q
          replace hS : St w0 w (ro q6 :: l') := emk hS
          refine p (yix_f sl_88 q3p q3q (q4e.le q0g) q6n) <| x_done <| ?_
          refine x_fin ⟨⟨_, rfl⟩, rfl, ?_⟩
          exact emk hS
         ·intro Ep17 w l' hE17 hO17 hF_ hS
          obtain ⟨q3r, -⟩ := hF_
          replace q3r : Ep17 146 = .pointer (some ((adr q18).add (q0a.toNat * R_exact_Int.sz))) := emk q3r
          replace hS : St w0 w (ro q6 :: l') := emk hS
          have q_ := q4e.get q6n; obtain ⟨qa2, q6p, q8t⟩ := q_
          rw [← q8q] at q6p
          obtain ⟨q7x, q9s, q7y, rfl, q5w⟩ := q6p
          have e_ := q5w.n; subst e_
          refine pa (v := .agg #[.bool q15.fneg, .slice q7x q15.fmag.length q7y]) (at_loadAgg agg_41 q3r rfl (Elt.every (Elt.le q8t q0g) hS)) <| x_done <| ?_
          refine x_fin ⟨⟨_, rfl⟩, ⟨rfl, q5w⟩, ?_⟩
          exact emk hS
         ·intro Ep17 w l' hE17 hO17 hF_ hS
          obtain ⟨q20, q21, -⟩ := hF_
          replace q20 : Ep17 143 = .agg #[.bool q14.fneg, .slice (adOf (partOf 1 (Ep17 143))) q14.fmag.length (capOf (partOf 1 (Ep17 143)))] ∧ RdS (RpI .u32) ρ (adOf (partOf 1 (Ep17 143))) q14.fmag.length (capOf (partOf 1 (Ep17 143))) q14.fmag := emk q20
          have q_ := id q20; obtain ⟨-, q6q⟩ := q_
          replace q21 : Ep17 147 = .agg #[.bool q15.fneg, .slice (adOf (partOf 1 (Ep17 147))) q15.fmag.length (capOf (partOf 1 (Ep17 147)))] ∧ RdS (RpI .u32) q0q (adOf (partOf 1 (Ep17 147))) q15.fmag.length (capOf (partOf 1 (Ep17 147))) q15.fmag := emk q21
          have q_ := id q21; obtain ⟨-, q6r⟩ := q_
          replace hS : St w0 w (ro q6 :: l') := emk hS
          have hcall := c_exact_times q8r (q6q.le (q0x.trans q0g)) (q6r.le q0g) hS
          refine o_cc call_29 (args2 q20.1 q21.1) hcall ?_
          rintro e w' ⟨q0k, q4f, q7l, c_y0_ret_1_17_8, rfl, q5x, q0r, hS⟩
          refine ⟨_, rfl, ?_⟩
          have e_ := q0r.n; subst e_
          refine x_done <| ?_
          refine x_fin ⟨⟨_, rfl⟩, rfl, ?_⟩
          replace hS := St.ro_split q5x hS
          replace hS := St.bun (Φ := (fun (q0k : Heap) => Le q6 q0k ∧ RdS (RpI .u32) q0k q4f q0v.fmag.length c_y0_ret_1_17_8 q0v.fmag)) (L := (fun (q0k : Heap) => [roD q6 q0k])) q0k ⟨q5x, q0r⟩ (hS.pull 1)
          exact emk (hS.pull 1)
         ·intro Ep17 w l' hE17 hO17 hF_ hS
          refine p (yl_move ((hE17 10 rfl).trans q43)) <| x_done <| ?_
          refine x_fin ⟨⟨_, rfl⟩, rfl, ?_⟩
          exact emk hS
         ·intro Ep17 w l' hE17 hO17 hF_ hS
          refine p (yl_move ((hE17 1 rfl).trans q3k)) <| x_done <| ?_
          refine x_fin ⟨⟨_, rfl⟩, rfl, ?_⟩
          exact emk hS
         ·intro Ep17 w l' hE17 hO17 hF_ hS
          obtain ⟨q3s, q26, -⟩ := hF_
          replace q3s : Ep17 149 = .slice q18 q1i.length q2f := emk q3s
          replace q26 : Ep17 150 = .int .i64 c1 := emk q26
          replace hS : St w0 w (ro q6 :: l') := emk hS
          refine p (yix_f sl_88 q3s q26 (q4e.le q0g) q5t) <| x_done <| ?_
          refine x_fin ⟨⟨_, rfl⟩, rfl, ?_⟩
          exact emk hS
         ·intro Ep17 w l' hE17 hO17 hF_ hS
          obtain ⟨q27, -⟩ := hF_
          replace q27 : Ep17 151 = .pointer (some ((adr q18).add (c1.toNat * R_exact_Int.sz))) := emk q27
          replace hS : St w0 w (ro q6 :: l') := emk hS
          have q_ := q4e.get q5t; obtain ⟨q9t, q5y, q7z⟩ := q_
          rw [← q7q] at q5y
          obtain ⟨q71, q9o, q72, rfl, q5h⟩ := q5y
          have e_ := q5h.n; subst e_
          refine pa (v := .agg #[.bool q0y.fneg, .slice q71 q0y.fmag.length q72]) (at_loadAgg agg_41 q27 rfl (Elt.every (Elt.le q7z q0g) hS)) <| x_done <| ?_
          refine x_fin ⟨⟨_, rfl⟩, ⟨rfl, q5h⟩, ?_⟩
          exact emk hS
         ·intro Ep17 w l' hE17 hO17 hF_ hS
          refine p (yl_move ((hE17 8 rfl).trans q3l)) <| x_done <| ?_
          refine x_fin ⟨⟨_, rfl⟩, rfl, ?_⟩
          exact emk hS
         ·intro Ep17 w l' hE17 hO17 hF_ hS
          refine p (yl_move (hE17 12 rfl)) <| x_done <| ?_
          refine x_fin ⟨⟨_, rfl⟩, rfl, ?_⟩
          exact emk hS
         ·intro Ep17 w l' hE17 hO17 hF_ hS
          obtain ⟨q28, q29, -⟩ := hF_
          replace q28 : Ep17 153 = .slice q17 q1h.length q1w := emk q28
          replace q29 : Ep17 154 = .int .i64 q0a := emk q29
          replace hS : St w0 w (ro q6 :: l') := emk hS
          refine p (yix_f sl_88 q28 q29 (q42.le (q0x.trans q0g)) q5u) <| x_done <| ?_
          refine x_fin ⟨⟨_, rfl⟩, rfl, ?_⟩
          exact emk hS
         ·intro Ep17 w l' hE17 hO17 hF_ hS
          obtain ⟨q2a, -⟩ := hF_
          replace q2a : Ep17 155 = .pointer (some ((adr q17).add (q0a.toNat * R_exact_Int.sz))) := emk q2a
          replace hS : St w0 w (ro q6 :: l') := emk hS
          have q_ := q42.get q5u; obtain ⟨q9u, q5z, q80⟩ := q_
          rw [← q7r] at q5z
          obtain ⟨q73, q9p, q74, rfl, q5i⟩ := q5z
          have e_ := q5i.n; subst e_
          refine pa (v := .agg #[.bool q0z.fneg, .slice q73 q0z.fmag.length q74]) (at_loadAgg agg_41 q2a rfl (Elt.every (Elt.le q80 (q0x.trans q0g)) hS)) <| x_done <| ?_
          refine x_fin ⟨⟨_, rfl⟩, ⟨rfl, q5i⟩, ?_⟩
          exact emk hS
         ·intro Ep17 w l' hE17 hO17 hF_ hS
          obtain ⟨q1n, q1o, -⟩ := hF_
          replace q1n : Ep17 152 = .agg #[.bool q0y.fneg, .slice (adOf (partOf 1 (Ep17 152))) q0y.fmag.length (capOf (partOf 1 (Ep17 152)))] ∧ RdS (RpI .u32) q0q (adOf (partOf 1 (Ep17 152))) q0y.fmag.length (capOf (partOf 1 (Ep17 152))) q0y.fmag := emk q1n
          have q_ := id q1n; obtain ⟨-, q60⟩ := q_
          replace q1o : Ep17 156 = .agg #[.bool q0z.fneg, .slice (adOf (partOf 1 (Ep17 156))) q0z.fmag.length (capOf (partOf 1 (Ep17 156)))] ∧ RdS (RpI .u32) ρ (adOf (partOf 1 (Ep17 156))) q0z.fmag.length (capOf (partOf 1 (Ep17 156))) q0z.fmag := emk q1o
          have q_ := id q1o; obtain ⟨-, q61⟩ := q_
          replace hS : St w0 w (ro q6 :: l') := emk hS
          have hcall := c_exact_times q7s (q60.le q0g) (q61.le (q0x.trans q0g)) hS
          refine o_cc call_29 (args2 q1n.1 q1o.1) hcall ?_
          rintro e w' ⟨q5, q45, q75, c_y0_ret_1_17_17, rfl, q5j, q0h, hS⟩
          refine ⟨_, rfl, ?_⟩
          have e_ := q0h.n; subst e_
          refine x_done <| ?_
          refine x_fin ⟨⟨_, rfl⟩, rfl, ?_⟩
          replace hS := St.ro_split q5j hS
          replace hS := St.bun (Φ := (fun (q5 : Heap) => Le q6 q5 ∧ RdS (RpI .u32) q5 q45 q0d.fmag.length c_y0_ret_1_17_17 q0d.fmag)) (L := (fun (q5 : Heap) => [roD q6 q5])) q5 ⟨q5j, q0h⟩ (hS.pull 1)
          exact emk (hS.pull 1)
         ·intro Ep17 w l' hE17 hO17 hF_ hS
          obtain ⟨q1g, -⟩ := hF_
          replace q1g : Ep17 157 = .agg #[.bool q0d.fneg, .slice (adOf (partOf 1 (Ep17 157))) q0d.fmag.length (capOf (partOf 1 (Ep17 157)))] := emk q1g
          replace hS : St w0 w (ro q6 :: bunA (fun (q5 : Heap) => Le q6 q5 ∧ RdS (RpI .u32) q5 (adOf (partOf 1 (Ep17 157))) q0d.fmag.length (capOf (partOf 1 (Ep17 157))) q0d.fmag) (fun (q5 : Heap) => [roD q6 q5]) :: l') := emk hS
          have q_ := St.unbun (hS.pull 1); obtain ⟨q5, ⟨q1x, q0h⟩, hS⟩ := q_
          have q_ := St.ro_join (hS.pull 1) (Le.refl _) q1x; obtain ⟨q6s, q4g, q4h, hS, q97⟩ := q_
          have hcall := c_exact_Neg q7t (q0h.le q4h) hS
          refine o_cc call_30 (args1 q1g) hcall ?_
          rintro e w' ⟨q46, q76, c_y0_ret_1_17_18, rfl, q0p, hS⟩
          refine ⟨_, rfl, ?_⟩
          have e_ := q0p.n; subst e_
          refine x_done <| ?_
          refine x_fin ⟨⟨_, rfl⟩, rfl, ?_⟩
          replace hS := St.ro_split q4g hS
          replace hS := St.bun (Φ := (fun (q5 : Heap) => Le q6 q5 ∧ RdS (RpI .u32) q5 (adOf (partOf 1 (Ep17 157))) q0d.fmag.length (capOf (partOf 1 (Ep17 157))) q0d.fmag ∧ RdS (RpI .u32) q5 q46 q0o.fmag.length c_y0_ret_1_17_18 q0o.fmag)) (L := (fun (q5 : Heap) => [roD q6 q5])) q6s ⟨q4g, (q0h.le q4h), q0p⟩ (hS.pull 1)
          exact emk (hS.pull 1)
         ·intro Ep17 w l' hE17 hO17 hF_ hS
          obtain ⟨q3t, q1g, q2b, -⟩ := hF_
          replace q3t : Ep17 148 = .agg #[.bool q0v.fneg, .slice (adOf (partOf 1 (Ep17 148))) q0v.fmag.length (capOf (partOf 1 (Ep17 148)))] := emk q3t
          replace q1g : Ep17 157 = .agg #[.bool q0d.fneg, .slice (adOf (partOf 1 (Ep17 157))) q0d.fmag.length (capOf (partOf 1 (Ep17 157)))] := emk q1g
          replace q2b : Ep17 158 = .agg #[.bool q0o.fneg, .slice (adOf (partOf 1 (Ep17 158))) q0o.fmag.length (capOf (partOf 1 (Ep17 158)))] := emk q2b
          replace hS : St w0 w (ro q6 :: bunA (fun (q0k : Heap) => Le q6 q0k ∧ RdS (RpI .u32) q0k (adOf (partOf 1 (Ep17 148))) q0v.fmag.length (capOf (partOf 1 (Ep17 148))) q0v.fmag) (fun (q0k : Heap) => [roD q6 q0k]) :: bunA (fun (q5 : Heap) => Le q6 q5 ∧ RdS (RpI .u32) q5 (adOf (partOf 1 (Ep17 157))) q0d.fmag.length (capOf (partOf 1 (Ep17 157))) q0d.fmag ∧ RdS (RpI .u32) q5 (adOf (partOf 1 (Ep17 158))) q0o.fmag.length (capOf (partOf 1 (Ep17 158))) q0o.fmag) (fun (q5 : Heap) => [roD q6 q5]) :: l') := emk hS
          have q_ := St.unbun (hS.pull 1); obtain ⟨q0k, ⟨q5p, q0r⟩, hS⟩ := q_
          have q_ := St.ro_join (hS.pull 1) (Le.refl _) q5p; obtain ⟨q9k, q2g, q4i, hS, q98⟩ := q_
          have q_ := St.unbun (hS.pull 1); obtain ⟨q5, ⟨q1x, q0h, q0p⟩, hS⟩ := q_
          have q_ := St.ro_join (hS.pull 1) q2g q1x; obtain ⟨q9l, q1u, q2h, hS, q99⟩ := q_
          have hcall := c_exact_plus q7u (q0r.le (q4i.trans q1u)) (q0p.le q2h) hS
          refine o_cc call_36 (args2 q3t q2b) hcall ?_
          rintro e w' ⟨q8, q47, q77, c_y0_ret_1_17_19, rfl, q1y, q11, hS⟩
          refine ⟨_, rfl, ?_⟩
          have e_ := q11.n; subst e_
          refine x_done <| ?_
          refine x_fin ⟨⟨_, rfl⟩, rfl, ?_⟩
          replace hS := St.ro_split ((q2g.trans q1u).trans q1y) hS
          replace hS := St.bun (Φ := (fun (q8 : Heap) => Le q6 q8 ∧ RdS (RpI .u32) q8 (adOf (partOf 1 (Ep17 148))) q0v.fmag.length (capOf (partOf 1 (Ep17 148))) q0v.fmag ∧ RdS (RpI .u32) q8 (adOf (partOf 1 (Ep17 157))) q0d.fmag.length (capOf (partOf 1 (Ep17 157))) q0d.fmag ∧ RdS (RpI .u32) q8 (adOf (partOf 1 (Ep17 158))) q0o.fmag.length (capOf (partOf 1 (Ep17 158))) q0o.fmag ∧ RdS (RpI .u32) q8 q47 q0b.fmag.length c_y0_ret_1_17_19 q0b.fmag)) (L := (fun (q8 : Heap) => [roD q6 q8])) q8 ⟨((q2g.trans q1u).trans q1y), (q0r.le ((q4i.trans q1u).trans q1y)), (q0h.le (q2h.trans q1y)), (q0p.le (q2h.trans q1y)), q11⟩ (hS.pull 1)
          exact emk (hS.pull 1)
         ·intro Ep17 w l' hE17 hO17 hF_ hS
          refine o_alloc zero_41 hS (fun b13 w' hS => ?_)
          refine x_done <| ?_
          refine x_fin ⟨⟨_, rfl⟩, rfl, ?_⟩
          exact emk hS
         ·intro Ep17 w l' hE17 hO17 hF_ hS
          obtain ⟨q2c, q1z, -⟩ := hF_
          replace q2c : Ep17 159 = .agg #[.bool q0b.fneg, .slice (adOf (partOf 1 (Ep17 159))) q0b.fmag.length (capOf (partOf 1 (Ep17 159)))] := emk q2c
          replace q1z : Ep17 13 = .pointer (some ⟨(blkOf (Ep17 13)), 0, none⟩) := emk q1z
          replace hS : St w0 w (cells (blkOf (Ep17 13)) 41 [.bool false, .slice none 0 0] :: l') := emk hS
          refine o_storeAgg (news := [.bool q0b.fneg, .slice (adOf (partOf 1 (Ep17 159))) q0b.fmag.length (capOf (partOf 1 (Ep17 159)))]) agg_41 q1z q2c rfl (by simp [over_length]) hS (fun w' hS => ?_)
          refine x_done <| ?_
          refine x_fin ⟨⟨undef, rfl⟩, trivial, ?_⟩
          exact emk hS
        intro Ep17 w' hE17 hF_ hS
        obtain ⟨q3m, q3n, q3o, q20, q3p, q3q, q3r, q21, q3t, q3s, q26, q27, q1n, q28, q29, q2a, q1o, q1g, q2b, q2c, q1z, -⟩ := hF_
        replace q3m : Ep17 140 = .slice q17 q1h.length q1w := emk q3m
        replace q3n : Ep17 141 = .int .i64 c1 := emk q3n
        replace q3o : Ep17 142 = .pointer (some ((adr q17).add (c1.toNat * R_exact_Int.sz))) := emk q3o
        replace q20 : Ep17 143 = .agg #[.bool q14.fneg, .slice (adOf (partOf 1 (Ep17 143))) q14.fmag.length (capOf (partOf 1 (Ep17 143)))] ∧ RdS (RpI .u32) ρ (adOf (partOf 1 (Ep17 143))) q14.fmag.length (capOf (partOf 1 (Ep17 143))) q14.fmag := emk q20
        have q_ := id q20; obtain ⟨-, q6q⟩ := q_
        replace q3p : Ep17 144 = .slice q18 q1i.length q2f := emk q3p
        replace q3q : Ep17 145 = .int .i64 q0a := emk q3q
        replace q3r : Ep17 146 = .pointer (some ((adr q18).add (q0a.toNat * R_exact_Int.sz))) := emk q3r
        replace q21 : Ep17 147 = .agg #[.bool q15.fneg, .slice (adOf (partOf 1 (Ep17 147))) q15.fmag.length (capOf (partOf 1 (Ep17 147)))] ∧ RdS (RpI .u32) q0q (adOf (partOf 1 (Ep17 147))) q15.fmag.length (capOf (partOf 1 (Ep17 147))) q15.fmag := emk q21
        have q_ := id q21; obtain ⟨-, q6r⟩ := q_
        replace q3t : Ep17 148 = .agg #[.bool q0v.fneg, .slice (adOf (partOf 1 (Ep17 148))) q0v.fmag.length (capOf (partOf 1 (Ep17 148)))] := emk q3t
        replace q3s : Ep17 149 = .slice q18 q1i.length q2f := emk q3s
        replace q26 : Ep17 150 = .int .i64 c1 := emk q26
        replace q27 : Ep17 151 = .pointer (some ((adr q18).add (c1.toNat * R_exact_Int.sz))) := emk q27
        replace q1n : Ep17 152 = .agg #[.bool q0y.fneg, .slice (adOf (partOf 1 (Ep17 152))) q0y.fmag.length (capOf (partOf 1 (Ep17 152)))] ∧ RdS (RpI .u32) q0q (adOf (partOf 1 (Ep17 152))) q0y.fmag.length (capOf (partOf 1 (Ep17 152))) q0y.fmag := emk q1n
        have q_ := id q1n; obtain ⟨-, q60⟩ := q_
        replace q28 : Ep17 153 = .slice q17 q1h.length q1w := emk q28
        replace q29 : Ep17 154 = .int .i64 q0a := emk q29
        replace q2a : Ep17 155 = .pointer (some ((adr q17).add (q0a.toNat * R_exact_Int.sz))) := emk q2a
        replace q1o : Ep17 156 = .agg #[.bool q0z.fneg, .slice (adOf (partOf 1 (Ep17 156))) q0z.fmag.length (capOf (partOf 1 (Ep17 156)))] ∧ RdS (RpI .u32) ρ (adOf (partOf 1 (Ep17 156))) q0z.fmag.length (capOf (partOf 1 (Ep17 156))) q0z.fmag := emk q1o
        have q_ := id q1o; obtain ⟨-, q61⟩ := q_
        replace q1g : Ep17 157 = .agg #[.bool q0d.fneg, .slice (adOf (partOf 1 (Ep17 157))) q0d.fmag.length (capOf (partOf 1 (Ep17 157)))] := emk q1g
        replace q2b : Ep17 158 = .agg #[.bool q0o.fneg, .slice (adOf (partOf 1 (Ep17 158))) q0o.fmag.length (capOf (partOf 1 (Ep17 158)))] := emk q2b
        replace q2c : Ep17 159 = .agg #[.bool q0b.fneg, .slice (adOf (partOf 1 (Ep17 159))) q0b.fmag.length (capOf (partOf 1 (Ep17 159)))] := emk q2c
        replace q1z : Ep17 13 = .pointer (some ⟨(blkOf (Ep17 13)), 0, none⟩) := emk q1z
        replace hS : St w0 w' (ro q6 :: bunA (fun (q8 : Heap) => Le q6 q8 ∧ RdS (RpI .u32) q8 (adOf (partOf 1 (Ep17 148))) q0v.fmag.length (capOf (partOf 1 (Ep17 148))) q0v.fmag ∧ RdS (RpI .u32) q8 (adOf (partOf 1 (Ep17 157))) q0d.fmag.length (capOf (partOf 1 (Ep17 157))) q0d.fmag ∧ RdS (RpI .u32) q8 (adOf (partOf 1 (Ep17 158))) q0o.fmag.length (capOf (partOf 1 (Ep17 158))) q0o.fmag ∧ RdS (RpI .u32) q8 (adOf (partOf 1 (Ep17 159))) q0b.fmag.length (capOf (partOf 1 (Ep17 159))) q0b.fmag) (fun (q8 : Heap) => [roD q6 q8]) :: cells (blkOf (Ep17 13)) 41 [.bool q0b.fneg, .slice (adOf (partOf 1 (Ep17 159))) q0b.fmag.length (capOf (partOf 1 (Ep17 159)))] :: (cells q3 87 [.slice q2 t0.frows.length c_t0_0, .bool t0.flast.fneg, .slice q0c t0.flast.fmag.length c_t0_2, .bool q0i, .int .i64 t0.frank] :: vec 41 R_exact_Int.sz (.slice A134 q9.length q9.length) q9.length q0j :: vec 88 (RpSl R_exact_Int).sz (.slice q2 t0.frows.length c_t0_0) t0.frows.length q0m :: l)) := emk hS
        have q_ := St.unbun (hS.pull 1); obtain ⟨q8, ⟨q5k, q0r, q0h, q0p, q11⟩, hS⟩ := q_
        have q_ := St.ro_join (hS.pull 1) (Le.refl _) q5k; obtain ⟨q0n, q48, q78, hS, q9m⟩ := q_
        replace hFL15 := bd_s hFL15; obtain ⟨q4, q8u, hFL15⟩ := hFL15
        replace hFL15 := ck_s hFL15; obtain ⟨q62, hFL15⟩ := hFL15
        replace hFL15 := lv_s hFL15; obtain ⟨q4j, q81, hFL15⟩ := hFL15
        refine x_par (w0 := w0) [⟨[], [], [161], [], [], []⟩, ⟨[], [], [162], [], [], []⟩, ⟨[], [], [163], [0], [], []⟩, ⟨[], [], [164], [], [], []⟩, ⟨[3], [3], [165], [], [], []⟩, ⟨[3, 4], [4], [166], [], [], []⟩, ⟨[3, 4, 5], [5], [167], [1], [], []⟩, ⟨[2, 3, 4, 5, 6], [2, 6], [168], [2], [], [3]⟩, ⟨[2, 3, 4, 5, 6, 7], [7], [160, 168], [], [], []⟩, ⟨[2, 3, 4, 5, 6, 7, 8], [7, 8], [168, 169], [], [], []⟩, ⟨[2, 3, 4, 5, 6, 7, 8], [7, 8], [168, 170], [], [], []⟩, ⟨[0, 1, 2, 3, 4, 5, 6, 7, 8, 9], [0, 1], [171], [4], [], []⟩, ⟨[0, 1, 2, 3, 4, 5, 6, 7, 8, 9, 11], [7, 9, 11], [], [2], [4, 3], [5]⟩] [⟨none, none, []⟩, ⟨none, none, []⟩, ⟨none, none, []⟩, ⟨(some 7), (some 12), [168]⟩, ⟨none, (some 12), []⟩, ⟨(some 12), none, [168]⟩] [160, 161, 162, 163, 164, 165, 166, 167, 168, 169, 170, 171] [0, 1, 2, 4] [0, 1, 2, 5] [0, 1, 2, 3, 4, 5, 6, 7, 8, 9, 10, 11] [fun Ep18 => Ep18 161 = .slice A134 q9.length q9.length, fun Ep18 => Ep18 162 = .int .i64 q0a, fun Ep18 => Ep18 163 = .agg #[.bool q0b.fneg, .slice (adOf (partOf 1 (Ep17 159))) q0b.fmag.length (capOf (partOf 1 (Ep17 159)))], fun Ep18 => Ep18 164 = .pointer (some ⟨q3, 0, none⟩), fun Ep18 => Ep18 165 = .pointer (some ⟨q3, 0, none⟩), fun Ep18 => Ep18 166 = .pointer (some ⟨q3, 1, none⟩), fun Ep18 => Ep18 167 = .agg #[.bool t0.flast.fneg, .slice q0c t0.flast.fmag.length c_t0_2], fun Ep18 => Ep18 168 = .tuple #[.agg #[.bool q4.1.fneg, .slice (adOf (partOf 1 (partOf 0 (Ep18 168)))) q4.1.fmag.length (capOf (partOf 1 (partOf 0 (Ep18 168))))], .agg #[.bool q4.2.fneg, .slice (adOf (partOf 1 (partOf 1 (Ep18 168)))) q4.2.fmag.length (capOf (partOf 1 (partOf 1 (Ep18 168))))]], fun Ep18 => Ep18 160 = .tuple #[.agg #[.bool q4.1.fneg, .slice (adOf (partOf 1 (partOf 0 (Ep18 168)))) q4.1.fmag.length (capOf (partOf 1 (partOf 0 (Ep18 168))))], .agg #[.bool q4.2.fneg, .slice (adOf (partOf 1 (partOf 1 (Ep18 168)))) q4.2.fmag.length (capOf (partOf 1 (partOf 1 (Ep18 168))))]], fun Ep18 => Ep18 169 = .agg #[.bool q4.1.fneg, .slice (adOf (partOf 1 (partOf 0 (Ep18 168)))) q4.1.fmag.length (capOf (partOf 1 (partOf 0 (Ep18 168))))], fun Ep18 => Ep18 170 = .agg #[.bool q4.2.fneg, .slice (adOf (partOf 1 (partOf 1 (Ep18 168)))) q4.2.fmag.length (capOf (partOf 1 (partOf 1 (Ep18 168))))], fun Ep18 => Ep18 171 = .pointer (some ((adr A134).add (q0a.toNat * R_exact_Int.sz))), fun Ep18 => True] [fun Ep18 => cells (blkOf (Ep17 13)) 41 [.bool q0b.fneg, .slice (adOf (partOf 1 (Ep17 159))) q0b.fmag.length (capOf (partOf 1 (Ep17 159)))], fun Ep18 => cells q3 87 [.slice q2 t0.frows.length c_t0_0, .bool t0.flast.fneg, .slice q0c t0.flast.fmag.length c_t0_2, .bool q0i, .int .i64 t0.frank], fun Ep18 => ro q0n, fun Ep18 => bunA (fun (q0e : Heap) => Le q0n q0e ∧ RdS (RpI .u32) q0e (adOf (partOf 1 (partOf 0 (Ep18 168)))) q4.1.fmag.length (capOf (partOf 1 (partOf 0 (Ep18 168)))) q4.1.fmag ∧ RdS (RpI .u32) q0e (adOf (partOf 1 (partOf 1 (Ep18 168)))) q4.2.fmag.length (capOf (partOf 1 (partOf 1 (Ep18 168)))) q4.2.fmag) (fun (q0e : Heap) => [roD q0n q0e]), fun Ep18 => vec 41 R_exact_Int.sz (.slice A134 q9.length q9.length) q9.length q0j, fun Ep18 => bunA (fun (x : (Heap × List Value)) => Le q0n x.1 ∧ RdS (RpI .u32) x.1 (adOf (partOf 1 (partOf 0 (Ep18 168)))) q4.1.fmag.length (capOf (partOf 1 (partOf 0 (Ep18 168)))) q4.1.fmag ∧ RdS (RpI .u32) x.1 (adOf (partOf 1 (partOf 1 (Ep18 168)))) q4.2.fmag.length (capOf (partOf 1 (partOf 1 (Ep18 168)))) q4.2.fmag ∧ RepL R_exact_Int x.1 q4j x.2) (fun (x : (Heap × List Value)) => [vec 41 R_exact_Int.sz (.slice A134 q9.length q9.length) q9.length x.2, roD q0n x.1])] mixed (by kernel_rfl) ((((hS.pull 3).pull 1).pull 3).pull 3) ?_ ?_
        ·refine ⟨?_, ?_, ?_, ?_, ?_, ?_, ?_, ?_, ?_, ?_, ?_, ?_, ?_, trivial⟩
         ·intro Ep18 w l' hE18 hO18 hF_ hS
          refine p (yl_move ((hE18 11 rfl).trans ((hE17 11 rfl).trans q44))) <| x_done <| ?_
          refine x_fin ⟨⟨_, rfl⟩, rfl, ?_⟩
          exact emk hS
         ·intro Ep18 w l' hE18 hO18 hF_ hS
          refine p (yl_move ((hE18 12 rfl).trans (hE17 12 rfl))) <| x_done <| ?_
          refine x_fin ⟨⟨_, rfl⟩, rfl, ?_⟩
          exact emk hS
         ·intro Ep18 w l' hE18 hO18 hF_ hS
          replace hS : St w0 w (cells (blkOf (Ep17 13)) 41 [.bool q0b.fneg, .slice (adOf (partOf 1 (Ep17 159))) q0b.fmag.length (capOf (partOf 1 (Ep17 159)))] :: l') := emk hS
          refine pa (v := .agg #[.bool q0b.fneg, .slice (adOf (partOf 1 (Ep17 159))) q0b.fmag.length (capOf (partOf 1 (Ep17 159)))]) (ld_sub agg_41 ((hE18 13 rfl).trans q1z) rfl rfl hS) <| x_done <| ?_
          refine x_fin ⟨⟨_, rfl⟩, rfl, ?_⟩
          exact emk hS
         ·intro Ep18 w l' hE18 hO18 hF_ hS
          refine p (yl_move ((hE18 0 rfl).trans ((hE17 0 rfl).trans q50))) <| x_done <| ?_
          refine x_fin ⟨⟨_, rfl⟩, rfl, ?_⟩
          exact emk hS
         ·intro Ep18 w l' hE18 hO18 hF_ hS
          obtain ⟨q3u, -⟩ := hF_
          replace q3u : Ep18 164 = .pointer (some ⟨q3, 0, none⟩) := emk q3u
          refine p (yl_nilCheck q3u) <| x_done <| ?_
          refine x_fin ⟨⟨_, rfl⟩, rfl, ?_⟩
          exact emk hS
         ·intro Ep18 w l' hE18 hO18 hF_ hS
          obtain ⟨q3v, -⟩ := hF_
          replace q3v : Ep18 165 = .pointer (some ⟨q3, 0, none⟩) := emk q3v
          refine p (yl_field0 fld_87_1 q3v) <| x_done <| ?_
          refine x_fin ⟨⟨_, rfl⟩, rfl, ?_⟩
          exact emk hS
         ·intro Ep18 w l' hE18 hO18 hF_ hS
          obtain ⟨q3w, -⟩ := hF_
          replace q3w : Ep18 166 = .pointer (some ⟨q3, 1, none⟩) := emk q3w
          replace hS : St w0 w (cells q3 87 [.slice q2 t0.frows.length c_t0_0, .bool t0.flast.fneg, .slice q0c t0.flast.fmag.length c_t0_2, .bool q0i, .int .i64 t0.frank] :: l') := emk hS
          refine pa (v := .agg #[.bool t0.flast.fneg, .slice q0c t0.flast.fmag.length c_t0_2]) (ld_sub agg_41 q3w rfl rfl hS) <| x_done <| ?_
          refine x_fin ⟨⟨_, rfl⟩, rfl, ?_⟩
          exact emk hS
         ·intro Ep18 w l' hE18 hO18 hF_ hS
          obtain ⟨q3x, q3y, -⟩ := hF_
          replace q3x : Ep18 163 = .agg #[.bool q0b.fneg, .slice (adOf (partOf 1 (Ep17 159))) q0b.fmag.length (capOf (partOf 1 (Ep17 159)))] := emk q3x
          replace q3y : Ep18 167 = .agg #[.bool t0.flast.fneg, .slice q0c t0.flast.fmag.length c_t0_2] := emk q3y
          replace hS : St w0 w (ro q0n :: l') := emk hS
          have hcall := c_exact_split q8u (q11.le q78) (q5d.le ((q0x.trans q0g).trans q48)) hS
          refine o_cc call_51 (args2 q3x q3y) hcall ?_
          rintro e w' ⟨q0e, q4k, q7m, c_y0_ret_1_18_7, q4l, q7n, c_y1_ret_1_18_7, rfl, q63, q0s, q10, hS⟩
          refine ⟨_, rfl, ?_⟩
          have e_ := q0s.n; subst e_
          have e_ := q10.n; subst e_
          refine x_done <| ?_
          refine x_fin ⟨⟨_, rfl⟩, rfl, ?_⟩
          replace hS := St.ro_split q63 hS
          replace hS := St.bun (Φ := (fun (q0e : Heap) => Le q0n q0e ∧ RdS (RpI .u32) q0e q4k q4.1.fmag.length c_y0_ret_1_18_7 q4.1.fmag ∧ RdS (RpI .u32) q0e q4l q4.2.fmag.length c_y1_ret_1_18_7 q4.2.fmag)) (L := (fun (q0e : Heap) => [roD q0n q0e])) q0e ⟨q63, q0s, q10⟩ (hS.pull 1)
          exact emk (hS.pull 1)
         ·intro Ep18 w l' hE18 hO18 hF_ hS
          obtain ⟨q12, -⟩ := hF_
          replace q12 : Ep18 168 = .tuple #[.agg #[.bool q4.1.fneg, .slice (adOf (partOf 1 (partOf 0 (Ep18 168)))) q4.1.fmag.length (capOf (partOf 1 (partOf 0 (Ep18 168))))], .agg #[.bool q4.2.fneg, .slice (adOf (partOf 1 (partOf 1 (Ep18 168)))) q4.2.fmag.length (capOf (partOf 1 (partOf 1 (Ep18 168))))]] := emk q12
          refine p (yl_move q12) <| x_done <| ?_
          refine x_fin ⟨⟨_, rfl⟩, rfl, ?_⟩
          exact emk hS
         ·intro Ep18 w l' hE18 hO18 hF_ hS
          obtain ⟨q12, q1k, -⟩ := hF_
          replace q12 : Ep18 168 = .tuple #[.agg #[.bool q4.1.fneg, .slice (adOf (partOf 1 (partOf 0 (Ep18 168)))) q4.1.fmag.length (capOf (partOf 1 (partOf 0 (Ep18 168))))], .agg #[.bool q4.2.fneg, .slice (adOf (partOf 1 (partOf 1 (Ep18 168)))) q4.2.fmag.length (capOf (partOf 1 (partOf 1 (Ep18 168))))]] := emk q12
          replace q1k : Ep18 160 = .tuple #[.agg #[.bool q4.1.fneg, .slice (adOf (partOf 1 (partOf 0 (Ep18 168)))) q4.1.fmag.length (capOf (partOf 1 (partOf 0 (Ep18 168))))], .agg #[.bool q4.2.fneg, .slice (adOf (partOf 1 (partOf 1 (Ep18 168)))) q4.2.fmag.length (capOf (partOf 1 (partOf 1 (Ep18 168))))]] := emk q1k
          refine p (yl_extract q1k rfl) <| x_done <| ?_
          refine x_fin ⟨⟨_, rfl⟩, rfl, ?_⟩
          exact emk hS
         ·intro Ep18 w l' hE18 hO18 hF_ hS
          obtain ⟨q12, q1k, -⟩ := hF_
          replace q12 : Ep18 168 = .tuple #[.agg #[.bool q4.1.fneg, .slice (adOf (partOf 1 (partOf 0 (Ep18 168)))) q4.1.fmag.length (capOf (partOf 1 (partOf 0 (Ep18 168))))], .agg #[.bool q4.2.fneg, .slice (adOf (partOf 1 (partOf 1 (Ep18 168)))) q4.2.fmag.length (capOf (partOf 1 (partOf 1 (Ep18 168))))]] := emk q12
          replace q1k : Ep18 160 = .tuple #[.agg #[.bool q4.1.fneg, .slice (adOf (partOf 1 (partOf 0 (Ep18 168)))) q4.1.fmag.length (capOf (partOf 1 (partOf 0 (Ep18 168))))], .agg #[.bool q4.2.fneg, .slice (adOf (partOf 1 (partOf 1 (Ep18 168)))) q4.2.fmag.length (capOf (partOf 1 (partOf 1 (Ep18 168))))]] := emk q1k
          refine p (yl_extract q1k rfl) <| x_done <| ?_
          refine x_fin ⟨⟨_, rfl⟩, rfl, ?_⟩
          exact emk hS
         ·intro Ep18 w l' hE18 hO18 hF_ hS
          obtain ⟨q3z, q40, -⟩ := hF_
          replace q3z : Ep18 161 = .slice A134 q9.length q9.length := emk q3z
          replace q40 : Ep18 162 = .int .i64 q0a := emk q40
          replace hS : St w0 w (vec 41 R_exact_Int.sz (.slice A134 q9.length q9.length) q9.length q0j :: l') := emk hS
          refine p (yix_o sl_88 q3z q40 hS q1q q62) <| x_done <| ?_
          refine x_fin ⟨⟨_, rfl⟩, rfl, ?_⟩
          exact emk hS
         ·intro Ep18 w l' hE18 hO18 hF_ hS
          obtain ⟨q12, q41, q2d, -⟩ := hF_
          replace q12 : Ep18 168 = .tuple #[.agg #[.bool q4.1.fneg, .slice (adOf (partOf 1 (partOf 0 (Ep18 168)))) q4.1.fmag.length (capOf (partOf 1 (partOf 0 (Ep18 168))))], .agg #[.bool q4.2.fneg, .slice (adOf (partOf 1 (partOf 1 (Ep18 168)))) q4.2.fmag.length (capOf (partOf 1 (partOf 1 (Ep18 168))))]] := emk q12
          replace q41 : Ep18 169 = .agg #[.bool q4.1.fneg, .slice (adOf (partOf 1 (partOf 0 (Ep18 168)))) q4.1.fmag.length (capOf (partOf 1 (partOf 0 (Ep18 168))))] := emk q41
          replace q2d : Ep18 171 = .pointer (some ((adr A134).add (q0a.toNat * R_exact_Int.sz))) := emk q2d
          replace hS : St w0 w (ro q0n :: vec 41 R_exact_Int.sz (.slice A134 q9.length q9.length) q9.length q0j :: bunA (fun (q0e : Heap) => Le q0n q0e ∧ RdS (RpI .u32) q0e (adOf (partOf 1 (partOf 0 (Ep18 168)))) q4.1.fmag.length (capOf (partOf 1 (partOf 0 (Ep18 168)))) q4.1.fmag ∧ RdS (RpI .u32) q0e (adOf (partOf 1 (partOf 1 (Ep18 168)))) q4.2.fmag.length (capOf (partOf 1 (partOf 1 (Ep18 168)))) q4.2.fmag) (fun (q0e : Heap) => [roD q0n q0e]) :: l') := emk hS
          have q_ := St.unbun (hS.pull 2); obtain ⟨q0e, ⟨q22, q0s, q10⟩, hS⟩ := q_
          have q_ := St.ro_join (hS.pull 1) (Le.refl _) q22; obtain ⟨q59, q2i, q2j, hS, q9a⟩ := q_
          refine o_put' (news := [.bool q4.1.fneg, .slice (adOf (partOf 1 (partOf 0 (Ep18 168)))) q4.1.fmag.length (capOf (partOf 1 (partOf 0 (Ep18 168))))]) sz_41 q2d q41 rfl rfl (o := 0) rfl q62 rfl (hS.pull 1) q1q (q48.trans q2i) (fun c hc => ok_all hc (show R_exact_Int.ok q59 [.bool q4.1.fneg, .slice (adOf (partOf 1 (partOf 0 (Ep18 168)))) q4.1.fmag.length (capOf (partOf 1 (partOf 0 (Ep18 168))))] q4.1 from ⟨_, _, _, rfl, (q0s.le q2j)⟩)) q81 (fun q51 w' q52 hS => ?_)
          refine x_done <| ?_
          refine x_fin ⟨⟨undef, rfl⟩, trivial, ?_⟩
          replace hS := St.ro_split q2i (hS.pull 1)
          replace hS := St.bun (Φ := (fun (x : (Heap × List Value)) => Le q0n x.1 ∧ RdS (RpI .u32) x.1 (adOf (partOf 1 (partOf 0 (Ep18 168)))) q4.1.fmag.length (capOf (partOf 1 (partOf 0 (Ep18 168)))) q4.1.fmag ∧ RdS (RpI .u32) x.1 (adOf (partOf 1 (partOf 1 (Ep18 168)))) q4.2.fmag.length (capOf (partOf 1 (partOf 1 (Ep18 168)))) q4.2.fmag ∧ RepL R_exact_Int x.1 q4j x.2)) (L := (fun (x : (Heap × List Value)) => [vec 41 R_exact_Int.sz (.slice A134 q9.length q9.length) q9.length x.2, roD q0n x.1])) (q59, q51) ⟨q2i, (q0s.le q2j), (q10.le q2j), q52⟩ ((hS.pull 1).pull 2)
          exact emk (hS.pull 1)
        intro Ep18 w' hE18 hF_ hS
        obtain ⟨q3z, q40, q3x, q3u, q3v, q3w, q3y, q12, q1k, q41, q6t, q2d, -⟩ := hF_
        replace q3z : Ep18 161 = .slice A134 q9.length q9.length := emk q3z
        replace q40 : Ep18 162 = .int .i64 q0a := emk q40
        replace q3x : Ep18 163 = .agg #[.bool q0b.fneg, .slice (adOf (partOf 1 (Ep17 159))) q0b.fmag.length (capOf (partOf 1 (Ep17 159)))] := emk q3x
        replace q3u : Ep18 164 = .pointer (some ⟨q3, 0, none⟩) := emk q3u
        replace q3v : Ep18 165 = .pointer (some ⟨q3, 0, none⟩) := emk q3v
        replace q3w : Ep18 166 = .pointer (some ⟨q3, 1, none⟩) := emk q3w
        replace q3y : Ep18 167 = .agg #[.bool t0.flast.fneg, .slice q0c t0.flast.fmag.length c_t0_2] := emk q3y
        replace q12 : Ep18 168 = .tuple #[.agg #[.bool q4.1.fneg, .slice (adOf (partOf 1 (partOf 0 (Ep18 168)))) q4.1.fmag.length (capOf (partOf 1 (partOf 0 (Ep18 168))))], .agg #[.bool q4.2.fneg, .slice (adOf (partOf 1 (partOf 1 (Ep18 168)))) q4.2.fmag.length (capOf (partOf 1 (partOf 1 (Ep18 168))))]] := emk q12
        replace q1k : Ep18 160 = .tuple #[.agg #[.bool q4.1.fneg, .slice (adOf (partOf 1 (partOf 0 (Ep18 168)))) q4.1.fmag.length (capOf (partOf 1 (partOf 0 (Ep18 168))))], .agg #[.bool q4.2.fneg, .slice (adOf (partOf 1 (partOf 1 (Ep18 168)))) q4.2.fmag.length (capOf (partOf 1 (partOf 1 (Ep18 168))))]] := emk q1k
        replace q41 : Ep18 169 = .agg #[.bool q4.1.fneg, .slice (adOf (partOf 1 (partOf 0 (Ep18 168)))) q4.1.fmag.length (capOf (partOf 1 (partOf 0 (Ep18 168))))] := emk q41
        replace q6t : Ep18 170 = .agg #[.bool q4.2.fneg, .slice (adOf (partOf 1 (partOf 1 (Ep18 168)))) q4.2.fmag.length (capOf (partOf 1 (partOf 1 (Ep18 168))))] := emk q6t
        replace q2d : Ep18 171 = .pointer (some ((adr A134).add (q0a.toNat * R_exact_Int.sz))) := emk q2d
        replace hS : St w0 w' (cells (blkOf (Ep17 13)) 41 [.bool q0b.fneg, .slice (adOf (partOf 1 (Ep17 159))) q0b.fmag.length (capOf (partOf 1 (Ep17 159)))] :: cells q3 87 [.slice q2 t0.frows.length c_t0_0, .bool t0.flast.fneg, .slice q0c t0.flast.fmag.length c_t0_2, .bool q0i, .int .i64 t0.frank] :: ro q0n :: bunA (fun (x : (Heap × List Value)) => Le q0n x.1 ∧ RdS (RpI .u32) x.1 (adOf (partOf 1 (partOf 0 (Ep18 168)))) q4.1.fmag.length (capOf (partOf 1 (partOf 0 (Ep18 168)))) q4.1.fmag ∧ RdS (RpI .u32) x.1 (adOf (partOf 1 (partOf 1 (Ep18 168)))) q4.2.fmag.length (capOf (partOf 1 (partOf 1 (Ep18 168)))) q4.2.fmag ∧ RepL R_exact_Int x.1 q4j x.2) (fun (x : (Heap × List Value)) => [vec 41 R_exact_Int.sz (.slice A134 q9.length q9.length) q9.length x.2, roD q0n x.1]) :: (vec 88 (RpSl R_exact_Int).sz (.slice q2 t0.frows.length c_t0_0) t0.frows.length q0m :: l)) := emk hS
        have q_ := St.unbun (hS.pull 3); obtain ⟨⟨q0e, q51⟩, ⟨q22, q0s, q10, q52⟩, hS⟩ := q_
        have q_ := St.ro_join ((hS.pull 1).pull 4) (Le.refl _) q22; obtain ⟨q82, q79, q7a, hS, q9n⟩ := q_
        replace hFL15 := ar_s hFL15; obtain ⟨x172, hx172, hFL15⟩ := hFL15
        refine x_blk <| x_region <| p (yadd ((hE18 137 rfl).trans ((hE17 137 rfl).trans q2q)) rfl hx172) <| p (yl_move rfl) <|
         x_done <| ?_
        have e_ := sinj hFL15; subst e_
        exact x_inv ⟨kL15, Nat.lt_succ_self _, q82, q51, q4j, x172, hLL15, ((q0g.trans q48).trans q79), ((hE18 0 rfl).trans ((hE17 0 rfl).trans q50)), ((hE18 1 rfl).trans ((hE17 1 rfl).trans q3k)), ((hE18 2 rfl).trans ((hE17 2 rfl).trans q5r)), ((hE18 8 rfl).trans ((hE17 8 rfl).trans q3l)), ((hE18 9 rfl).trans ((hE17 9 rfl).trans q5s)), ((hE18 10 rfl).trans ((hE17 10 rfl).trans q43)), ((hE18 11 rfl).trans ((hE17 11 rfl).trans q44)), ((hE18 107 rfl).trans ((hE17 107 rfl).trans q55)), ((hE18 108 rfl).trans ((hE17 108 rfl).trans q56)), ((hE18 109 rfl).trans ((hE17 109 rfl).trans q57)), ((hE18 136 rfl).trans ((hE17 136 rfl).trans q58)), rfl, (q52.le q7a), ((((hS.pull 2).drop.pull 3).pull 2).pull 3)⟩
       ·replace hFL15 := it_f hc138 hFL15
        refine x_exitTo _ rfl <| ?_
        have e_ := sinj hFL15; subst e_
        exact x_inv ⟨q6, q0j, q1j, hLL15, q0g, q50, q3k, q5r, q3l, q5s, q44, q55, q56, q57, q1q, ((((hS.pull 3).pull 3).pull 3).pull 3)⟩
      rintro E w ⟨q5c, q1p, q1t, rfl, q5l, q6u, q8v, q8w, q8x, q8y, q83, q7b, q7c, q7d, q5m, hS⟩
      replace hFb3 := ck_s hFb3; obtain ⟨q6v, hFb3⟩ := hFb3
      refine x_region <| p (yl_move q6u) <| p (yl_nilCheck rfl) <| p (yl_field0 fld_87_0 rfl) <|
       pa (at_load one_85 rfl (hS.cell rfl)) <| p (yl_move q8y) <| p (yl_move q83) <| p (yix_o sl_85 rfl rfl (hS.pull 2) q13 q6v) <| ?_
      have q_ := St.vec_fz ((hS.pull 3).pull 2) q5m; obtain ⟨q6w, q5n, q8z, hS⟩ := q_
      replace hFb3 := lv_s hFb3; obtain ⟨q9f, q90, hFb3⟩ := hFb3
      refine o_put' (news := [.slice A134 q9.length q9.length]) sz_88 rfl rfl rfl rfl (o := 0) rfl q6v rfl (hS.pull 2) q13 (q5l.trans q5n) (fun c hc => ok_all hc (show (RpSl R_exact_Int).ok q6w [.slice A134 q9.length q9.length] q1t from ⟨_, _, _, rfl, q8z⟩)) q90 (fun q91 w' q92 hS => ?_)
      refine x_done <| x_blk <| ?_
      exact x_inv ⟨q6w, q91, q9f, (sinj hFb3), (q5l.trans q5n), q6u, q8v, q8w, q8x, q7b, q7c, q7d, q92, (((hS.pull 1).pull 1).pull 2)⟩
    rintro E w ⟨q5g, q1s, q3j, rfl, q84, q9g, q9h, q9i, q9j, q85, q86, q87, q6x, hS⟩
    replace hFL10 := ar_s hFL10; obtain ⟨x180, hx180, hFL10⟩ := hFL10
    refine x_region <| p (yadd q87 rfl hx180) <| p (yl_move rfl) <| x_done <| ?_
    have e_ := sinj hFL10; subst e_
    exact x_inv ⟨kL10, Nat.lt_succ_self _, q5g, q1s, q3j, x180, hLL10, (q0x.trans q84), q9g, q9h, q9i, q9j, q85, q86, rfl, q6x, (((hS.pull 2).pull 2).pull 2)⟩
   ·replace hFL10 := it_f hc110 hFL10
    refine x_exitTo _ rfl <| ?_
    have e_ := sinj hFL10; subst e_
    exact x_inv ⟨q0q, q0m, q1l, hLL10, q0x, q25, q4x, q4z, q13, (((hS.pull 2).pull 2).pull 2)⟩
  rintro E w ⟨q4d, q1d, q2e, rfl, q2k, q6y, q93, q94, q5o, hS⟩
  replace hF := ck_s hF; obtain ⟨q6z, hF⟩ := hF
  replace hF := lv_s hF; obtain ⟨q4m, q95, hF⟩ := hF
  have q_ := q42.get q6z; obtain ⟨qa3, q70, q96⟩ := q_
  rw [← q95] at q70
  obtain ⟨q53, q9v, q54, rfl, q64⟩ := q70
  have e_ := q64.n; subst e_
  refine x_seq <| x_region <| p (yl_move q6y) <| p (yl_move q94) <|
   p (yl_move q93) <| p (yix_f sl_88 rfl rfl (q42.le q2k) q6z) <| pa (v := .agg #[.bool q4m.fneg, .slice q53 q4m.fmag.length q54]) (at_loadAgg agg_41 rfl rfl (Elt.every (Elt.le q96 q2k) (hS.pull 2))) <| p (yl_nilCheck rfl) <|
   p (yl_field0 fld_87_1 rfl) <| ?_
  refine o_storeAgg (news := [.bool q4m.fneg, .slice q53 q4m.fmag.length q54]) agg_41 rfl rfl rfl (by simp [over_length]) hS (fun w' hS => ?_)
  replace hF := ar_s hF; obtain ⟨x192, hx192, hF⟩ := hF
  refine x_done <| x_seq <| x_region <| p (yl_move q6y) <|
   p (yl_nilCheck rfl) <| p (yl_field0 fld_87_3 rfl) <| pa (at_load one_3 rfl (hS.cell rfl)) <| p (yadd rfl rfl hx192) <|
   p (yl_nilCheck rfl) <| p (yl_field0 fld_87_3 rfl) <| ?_
  refine o_store1 (v := .int .i64 x192) one_3 rfl rfl rfl rfl hS (fun w' hS => ?_)
  refine x_done <| x_seq <| x_region <| p (yl_assign rfl) <|
   x_done <| ?_
  have e_ := sinj hF; subst e_
  exact x_return ⟨_, ⟨_, _, rfl, rfl, rfl⟩, q4d, q1d, q53, q4m.fmag.length, q54, rfl, q2k, q5o, (q64.le q2k), (((hS.pull 2).pull 2).pull 2)⟩
attribute [irreducible] P_exact_table_pivot

def P_exact_Gcd_L2 : (Bool × List Int × Bool × List Int) → Option ((Bool × List Int × Bool × List Int) ⊕ (Bool × List Int)) := fun (q4, q5, q2, q3) =>
 bd (P_exact_Sign (T_exact_Int.mk q2 q3)) fun q7 =>
 if q7 ≠ 0 then
  bd (P_exact_split (T_exact_Int.mk q4 q5) (T_exact_Int.mk q2 q3)) fun q6 =>
  some (Sum.inl (q2, q3, q6.2.fneg, q6.2.fmag))
 else
  some (Sum.inr (q4, q5))
def P_exact_Gcd (a0 : T_exact_Int) (b1 : T_exact_Int) : Option T_exact_Int :=
 bd (P_exact_Abs a0) fun q4 =>
 bd (P_exact_Abs b1) fun q5 =>
 bd (
  lp P_exact_Gcd_L2 fuel (q4.fneg, q4.fmag, q5.fneg, q5.fmag)) fun (q2, q3) =>
 some (T_exact_Int.mk q2 q3)
theorem c_exact_Gcd {w0 w : World} {l : List Assn} {ρ : Heap} {q0b : Option Addr} {q15 : Nat} {c_a0_1 : Nat} {q0c : Option Addr} {q16 : Nat} {c_b1_1 : Nat} {a0 : T_exact_Int} {b1 : T_exact_Int} {r : T_exact_Int} (hF : P_exact_Gcd a0 b1 = some r) (q17 : RdS (RpI .u32) ρ q0b q15 c_a0_1 a0.fmag) (q18 : RdS (RpI .u32) ρ q0c q16 c_b1_1 b1.fmag) (hS : St w0 w (ro ρ :: l)) :
  Calls Try.prog 50 #[.agg #[.bool a0.fneg, .slice q0b q15 c_a0_1], .agg #[.bool b1.fneg, .slice q0c q16 c_b1_1]] w fun e w' => ∃ (ρ' : Heap) (q0u : Option Addr) (q0v : Nat) (c_y0_ret_1 : Nat), e = .returned (.agg #[.bool r.fneg, .slice q0u q0v c_y0_ret_1]) ∧ Le ρ ρ' ∧ RdS (RpI .u32) ρ' q0u q0v c_y0_ret_1 r.fmag ∧ St w0 w' (ro ρ' :: l) := by
 have e_ := q17.n; subst e_
 have e_ := q18.n; subst e_
 refine enterC Try.func50 rfl 23 rfl (by simp) ?_
 refine x_seq <| x_region <| ?_
 refine o_box (cs := [.bool a0.fneg, .slice q0b a0.fmag.length c_a0_1]) rfl rfl hS (fun b2 w' hS => ?_)
 refine o_box (cs := [.bool b1.fneg, .slice q0c b1.fmag.length c_b1_1]) rfl rfl hS (fun b3 w' hS => ?_)
 refine o_alloc zero_41 hS (fun b4 w' hS => ?_)
 refine x_done <| x_seq <| ?_
 replace hF := bd_s hF; obtain ⟨q7, q1m, hF⟩ := hF
 replace hF := bd_s hF; obtain ⟨q8, q1n, hF⟩ := hF
 refine x_par (w0 := w0) [⟨[], [], [7], [0], [], []⟩, ⟨[0], [0], [8], [1], [], []⟩, ⟨[], [], [9], [2], [], []⟩, ⟨[0, 1, 2], [2], [10], [1], [], []⟩, ⟨[0, 1, 2, 3], [1], [], [], [0], [3]⟩, ⟨[0, 1, 2, 3, 4], [3], [], [], [2], [4]⟩] [⟨none, (some 4), []⟩, ⟨none, none, []⟩, ⟨none, (some 5), []⟩, ⟨(some 4), none, [8]⟩, ⟨(some 5), none, [10]⟩] [7, 8, 9, 10] [0, 1, 2] [1, 3, 4] [0, 1, 2, 3] [fun Ep1 => Ep1 7 = .agg #[.bool a0.fneg, .slice q0b a0.fmag.length c_a0_1], fun Ep1 => Ep1 8 = .agg #[.bool q7.fneg, .slice (adOf (partOf 1 (Ep1 8))) q7.fmag.length (capOf (partOf 1 (Ep1 8)))] ∧ RdS (RpI .u32) ρ (adOf (partOf 1 (Ep1 8))) q7.fmag.length (capOf (partOf 1 (Ep1 8))) q7.fmag, fun Ep1 => Ep1 9 = .agg #[.bool b1.fneg, .slice q0c b1.fmag.length c_b1_1], fun Ep1 => Ep1 10 = .agg #[.bool q8.fneg, .slice (adOf (partOf 1 (Ep1 10))) q8.fmag.length (capOf (partOf 1 (Ep1 10)))] ∧ RdS (RpI .u32) ρ (adOf (partOf 1 (Ep1 10))) q8.fmag.length (capOf (partOf 1 (Ep1 10))) q8.fmag, fun Ep1 => True, fun Ep1 => True] [fun Ep1 => cells b2 41 [.bool a0.fneg, .slice q0b a0.fmag.length c_a0_1], fun Ep1 => ro ρ, fun Ep1 => cells b3 41 [.bool b1.fneg, .slice q0c b1.fmag.length c_b1_1], fun Ep1 => cells b2 41 [.bool q7.fneg, .slice (adOf (partOf 1 (Ep1 8))) q7.fmag.length (capOf (partOf 1 (Ep1 8)))], fun Ep1 => cells b3 41 [.bool q8.fneg, .slice (adOf (partOf 1 (Ep1 10))) q8.fmag.length (capOf (partOf 1 (Ep1 10)))]] mixed (by kernel_rfl) (((hS.pull 1).pull 3).pull 3) ?_ ?_
 ·refine ⟨?_, ?_, ?_, ?_, ?_, ?_, trivial⟩
  ·intro Ep1 w l' hE1 hO1 hF_ hS
   replace hS : St w0 w (cells b2 41 [.bool a0.fneg, .slice q0b a0.fmag.length c_a0_1] :: l') := emk hS
   refine pa (v := .agg #[.bool a0.fneg, .slice q0b a0.fmag.length c_a0_1]) (ld_sub agg_41 (hE1 2 rfl) rfl rfl hS) <| x_done <| ?_
   refine x_fin ⟨⟨_, rfl⟩, rfl, ?_⟩
   exact emk hS
  ·intro Ep1 w l' hE1 hO1 hF_ hS
   obtain ⟨q0x, -⟩ := hF_
   replace q0x : Ep1 7 = .agg #[.bool a0.fneg, .slice q0b a0.fmag.length c_a0_1] := emk q0x
   replace hS : St w0 w (ro ρ :: l') := emk hS
   have hcall := c_exact_Abs q1m q17 hS
   refine o_cc call_57 (args1 q0x) hcall ?_
   rintro e w' ⟨q1f, q1g, c_y0_ret_1_1_1, rfl, q0h, hS⟩
   refine ⟨_, rfl, ?_⟩
   have e_ := q0h.n; subst e_
   refine x_done <| ?_
   refine x_fin ⟨⟨_, rfl⟩, ⟨rfl, q0h⟩, ?_⟩
   exact emk hS
  ·intro Ep1 w l' hE1 hO1 hF_ hS
   replace hS : St w0 w (cells b3 41 [.bool b1.fneg, .slice q0c b1.fmag.length c_b1_1] :: l') := emk hS
   refine pa (v := .agg #[.bool b1.fneg, .slice q0c b1.fmag.length c_b1_1]) (ld_sub agg_41 (hE1 3 rfl) rfl rfl hS) <| x_done <| ?_
   refine x_fin ⟨⟨_, rfl⟩, rfl, ?_⟩
   exact emk hS
  ·intro Ep1 w l' hE1 hO1 hF_ hS
   obtain ⟨q0y, -⟩ := hF_
   replace q0y : Ep1 9 = .agg #[.bool b1.fneg, .slice q0c b1.fmag.length c_b1_1] := emk q0y
   replace hS : St w0 w (ro ρ :: l') := emk hS
   have hcall := c_exact_Abs q1n q18 hS
   refine o_cc call_57 (args1 q0y) hcall ?_
   rintro e w' ⟨q1h, q1i, c_y0_ret_1_1_3, rfl, q0i, hS⟩
   refine ⟨_, rfl, ?_⟩
   have e_ := q0i.n; subst e_
   refine x_done <| ?_
   refine x_fin ⟨⟨_, rfl⟩, ⟨rfl, q0i⟩, ?_⟩
   exact emk hS
  ·intro Ep1 w l' hE1 hO1 hF_ hS
   obtain ⟨q0p, -⟩ := hF_
   replace q0p : Ep1 8 = .agg #[.bool q7.fneg, .slice (adOf (partOf 1 (Ep1 8))) q7.fmag.length (capOf (partOf 1 (Ep1 8)))] ∧ RdS (RpI .u32) ρ (adOf (partOf 1 (Ep1 8))) q7.fmag.length (capOf (partOf 1 (Ep1 8))) q7.fmag := emk q0p
   have q_ := id q0p; obtain ⟨-, q1c⟩ := q_
   replace hS : St w0 w (cells b2 41 [.bool a0.fneg, .slice q0b a0.fmag.length c_a0_1] :: l') := emk hS
   refine o_storeAgg (news := [.bool q7.fneg, .slice (adOf (partOf 1 (Ep1 8))) q7.fmag.length (capOf (partOf 1 (Ep1 8)))]) agg_41 (hE1 2 rfl) q0p.1 rfl (by simp [over_length]) hS (fun w' hS => ?_)
   refine x_done <| ?_
   refine x_fin ⟨⟨undef, rfl⟩, trivial, ?_⟩
   exact emk hS
  ·intro Ep1 w l' hE1 hO1 hF_ hS
   obtain ⟨q0q, -⟩ := hF_
   replace q0q : Ep1 10 = .agg #[.bool q8.fneg, .slice (adOf (partOf 1 (Ep1 10))) q8.fmag.length (capOf (partOf 1 (Ep1 10)))] ∧ RdS (RpI .u32) ρ (adOf (partOf 1 (Ep1 10))) q8.fmag.length (capOf (partOf 1 (Ep1 10))) q8.fmag := emk q0q
   have q_ := id q0q; obtain ⟨-, q1d⟩ := q_
   replace hS : St w0 w (cells b3 41 [.bool b1.fneg, .slice q0c b1.fmag.length c_b1_1] :: l') := emk hS
   refine o_storeAgg (news := [.bool q8.fneg, .slice (adOf (partOf 1 (Ep1 10))) q8.fmag.length (capOf (partOf 1 (Ep1 10)))]) agg_41 (hE1 3 rfl) q0q.1 rfl (by simp [over_length]) hS (fun w' hS => ?_)
   refine x_done <| ?_
   refine x_fin ⟨⟨undef, rfl⟩, trivial, ?_⟩
   exact emk hS
 intro Ep1 w' hE1 hF_ hS
 obtain ⟨q0x, q0p, q0y, q0q, -⟩ := hF_
 replace q0x : Ep1 7 = .agg #[.bool a0.fneg, .slice q0b a0.fmag.length c_a0_1] := emk q0x
 replace q0p : Ep1 8 = .agg #[.bool q7.fneg, .slice (adOf (partOf 1 (Ep1 8))) q7.fmag.length (capOf (partOf 1 (Ep1 8)))] ∧ RdS (RpI .u32) ρ (adOf (partOf 1 (Ep1 8))) q7.fmag.length (capOf (partOf 1 (Ep1 8))) q7.fmag := emk q0p
 have q_ := id q0p; obtain ⟨-, q1c⟩ := q_
 replace q0y : Ep1 9 = .agg #[.bool b1.fneg, .slice q0c b1.fmag.length c_b1_1] := emk q0y
 replace q0q : Ep1 10 = .agg #[.bool q8.fneg, .slice (adOf (partOf 1 (Ep1 10))) q8.fmag.length (capOf (partOf 1 (Ep1 10)))] ∧ RdS (RpI .u32) ρ (adOf (partOf 1 (Ep1 10))) q8.fmag.length (capOf (partOf 1 (Ep1 10))) q8.fmag := emk q0q
 have q_ := id q0q; obtain ⟨-, q1d⟩ := q_
 replace hS : St w0 w' (ro ρ :: cells b2 41 [.bool q7.fneg, .slice (adOf (partOf 1 (Ep1 8))) q7.fmag.length (capOf (partOf 1 (Ep1 8)))] :: cells b3 41 [.bool q8.fneg, .slice (adOf (partOf 1 (Ep1 10))) q8.fmag.length (capOf (partOf 1 (Ep1 10)))] :: (cells b4 41 [.bool false, .slice none 0 0] :: l)) := emk hS
 refine x_seq <| ?_
 replace hF := bd_s hF; obtain ⟨oL2, hLL2, hF⟩ := hF
 refine x_join (fun E w => ∃ (q13 : Heap) (q0e : Option Addr) (q0r : Nat) (c_b2_1_L2 : Nat) (q0j : Bool) (q0g : List Int), (q0j, q0g) = oL2 ∧ Le ρ q13 ∧ E 2 = .pointer (some ⟨b2, 0, none⟩) ∧ E 4 = .pointer (some ⟨b4, 0, none⟩) ∧ RdS (RpI .u32) q13 q0e q0r c_b2_1_L2 q0g ∧ St w0 w (cells b2 41 [.bool q0j, .slice q0e q0r c_b2_1_L2] :: cells b4 41 [.bool false, .slice none 0 0] :: ro q13 :: l)) ?_ ?_
 ·refine x_block ?_
  refine x_loop (fun k_ E w => ∃ (q0t : Heap) (q9 : Option Addr) (q0m : Nat) (c_b2_1_L2h : Nat) (q3 : Option Addr) (q0n : Nat) (c_b3_1_L2h : Nat) (q0d : Bool) (q0a : List Int) (q5 : Bool) (q4 : List Int), lp P_exact_Gcd_L2 k_ (q0d, q0a, q5, q4) = some oL2 ∧ Le ρ q0t ∧ E 2 = .pointer (some ⟨b2, 0, none⟩) ∧ E 3 = .pointer (some ⟨b3, 0, none⟩) ∧ E 4 = .pointer (some ⟨b4, 0, none⟩) ∧ RdS (RpI .u32) q0t q9 q0m c_b2_1_L2h q0a ∧ RdS (RpI .u32) q0t q3 q0n c_b3_1_L2h q4 ∧ St w0 w (cells b2 41 [.bool q0d, .slice q9 q0m c_b2_1_L2h] :: cells b3 41 [.bool q5, .slice q3 q0n c_b3_1_L2h] :: cells b4 41 [.bool false, .slice none 0 0] :: ro q0t :: l)) fuel ⟨ρ, (adOf (partOf 1 (Ep1 8))), q7.fmag.length, (capOf (partOf 1 (Ep1 8))), (adOf (partOf 1 (Ep1 10))), q8.fmag.length, (capOf (partOf 1 (Ep1 10))), q7.fneg, q7.fmag, q8.fneg, q8.fmag, hLL2, (Le.refl _), (hE1 2 rfl), (hE1 3 rfl), (hE1 4 rfl), q1c, q1d, (((hS.pull 3).pull 3).pull 3)⟩ ?_
  rintro kL2 E w ⟨q0t, q9, q0m, c_b2_1_L2h, q3, q0n, c_b3_1_L2h, q0d, q0a, q5, q4, hLL2, q14, q0w, q0s, q19, q0o, q0f, hS⟩
  have e_ := q0o.n; subst e_
  have e_ := q0f.n; subst e_
  replace hLL2 := lp_s hLL2; obtain ⟨kL2, obL2, rfl, hFL2, hLL2⟩ := hLL2
  replace hFL2 := bd_s hFL2; obtain ⟨q1r, q1o, hFL2⟩ := hFL2
  refine x_seq <| x_seq <| x_region <| pa (v := .agg #[.bool q5, .slice q3 q4.length c_b3_1_L2h]) (ld_sub agg_41 q0s rfl rfl (hS.pull 1)) <| ?_
  have hcall := c_exact_Sign q1o q0f (hS.pull 3)
  refine o_cc call_19 (args1 rfl) ((Calls.mono hcall (fun e w'' h => And.intro h.1 (((h.2.pull 3).pull 3).pull 3)))) ?_
  rintro e w' ⟨rfl, hS⟩
  refine ⟨_, rfl, ?_⟩
  refine p (yl_neq rfl rfl) <| x_done <|
   x_cond_p (q1r ≠ 0) rfl (fun hc13 => ?_) (fun hc13 => ?_)
  ·replace hFL2 := it_t hc13 hFL2
   replace hFL2 := bd_s hFL2; obtain ⟨q6, q1p, hFL2⟩ := hFL2
   refine x_skip <| x_block <| x_seq <| x_region <|
    pa (v := .agg #[.bool q0d, .slice q9 q0a.length c_b2_1_L2h]) (ld_sub agg_41 q0w rfl rfl hS) <| pa (v := .agg #[.bool q5, .slice q3 q4.length c_b3_1_L2h]) (ld_sub agg_41 q0s rfl rfl (hS.pull 1)) <| ?_
   have hcall := c_exact_split q1p q0o q0f (hS.pull 3)
   refine o_cc call_51 (args2 rfl rfl) hcall ?_
   rintro e w' ⟨q1a, q0k, q1j, c_y0_ret_1_3_2, q2, q1k, c_y1_ret_1_3_2, rfl, q1b, q0z, q0l, hS⟩
   refine ⟨_, rfl, ?_⟩
   have e_ := q0z.n; subst e_
   have e_ := q0l.n; subst e_
   refine p (yl_move rfl) <| p (yl_extract rfl rfl) <| p (yl_extract rfl rfl) <| ?_
   refine o_alloc zero_41 hS (fun b5 w' hS => ?_)
   refine o_alloc zero_41 hS (fun b6 w' hS => ?_)
   refine o_storeAgg (news := [.bool q6.1.fneg, .slice q0k q6.1.fmag.length c_y0_ret_1_3_2]) agg_41 rfl rfl rfl (by simp [over_length]) (hS.pull 1) (fun w' hS => ?_)
   refine o_storeAgg (news := [.bool q6.2.fneg, .slice q2 q6.2.fmag.length c_y1_ret_1_3_2]) agg_41 rfl rfl rfl (by simp [over_length]) (hS.pull 1) (fun w' hS => ?_)
   refine x_done <| ?_
   refine x_par (w0 := w0) [⟨[], [], [20], [0], [], []⟩, ⟨[], [], [21], [1], [], []⟩, ⟨[0], [0], [], [], [2], [3]⟩, ⟨[0, 1, 2], [1], [], [], [0], [4]⟩] [⟨none, (some 3), []⟩, ⟨none, none, []⟩, ⟨none, (some 2), []⟩, ⟨(some 2), none, []⟩, ⟨(some 3), none, []⟩] [20, 21] [0, 1, 2] [1, 3, 4] [0, 1] [fun Ep4 => Ep4 20 = .agg #[.bool q5, .slice q3 q4.length c_b3_1_L2h], fun Ep4 => Ep4 21 = .agg #[.bool q6.2.fneg, .slice q2 q6.2.fmag.length c_y1_ret_1_3_2], fun Ep4 => True, fun Ep4 => True] [fun Ep4 => cells b3 41 [.bool q5, .slice q3 q4.length c_b3_1_L2h], fun Ep4 => cells b6 41 [.bool q6.2.fneg, .slice q2 q6.2.fmag.length c_y1_ret_1_3_2], fun Ep4 => cells b2 41 [.bool q0d, .slice q9 q0a.length c_b2_1_L2h], fun Ep4 => cells b2 41 [.bool q5, .slice q3 q4.length c_b3_1_L2h], fun Ep4 => cells b3 41 [.bool q6.2.fneg, .slice q2 q6.2.fmag.length c_y1_ret_1_3_2]] mixed (by kernel_rfl) (((hS.pull 3).pull 1).pull 4) ?_ ?_
   ·refine ⟨?_, ?_, ?_, ?_, trivial⟩
    ·intro Ep4 w l' hE4 hO4 hF_ hS
     replace hS : St w0 w (cells b3 41 [.bool q5, .slice q3 q4.length c_b3_1_L2h] :: l') := emk hS
     refine pa (v := .agg #[.bool q5, .slice q3 q4.length c_b3_1_L2h]) (ld_sub agg_41 ((hE4 3 rfl).trans q0s) rfl rfl hS) <| x_done <| ?_
     refine x_fin ⟨⟨_, rfl⟩, rfl, ?_⟩
     exact emk hS
    ·intro Ep4 w l' hE4 hO4 hF_ hS
     replace hS : St w0 w (cells b6 41 [.bool q6.2.fneg, .slice q2 q6.2.fmag.length c_y1_ret_1_3_2] :: l') := emk hS
     refine pa (v := .agg #[.bool q6.2.fneg, .slice q2 q6.2.fmag.length c_y1_ret_1_3_2]) (ld_sub agg_41 (hE4 6 rfl) rfl rfl hS) <| x_done <| ?_
     refine x_fin ⟨⟨_, rfl⟩, rfl, ?_⟩
     exact emk hS
    ·intro Ep4 w l' hE4 hO4 hF_ hS
     obtain ⟨q10, -⟩ := hF_
     replace q10 : Ep4 20 = .agg #[.bool q5, .slice q3 q4.length c_b3_1_L2h] := emk q10
     replace hS : St w0 w (cells b2 41 [.bool q0d, .slice q9 q0a.length c_b2_1_L2h] :: l') := emk hS
     refine o_storeAgg (news := [.bool q5, .slice q3 q4.length c_b3_1_L2h]) agg_41 ((hE4 2 rfl).trans q0w) q10 rfl (by simp [over_length]) hS (fun w' hS => ?_)
     refine x_done <| ?_
     refine x_fin ⟨⟨undef, rfl⟩, trivial, ?_⟩
     exact emk hS
    ·intro Ep4 w l' hE4 hO4 hF_ hS
     obtain ⟨q11, -⟩ := hF_
     replace q11 : Ep4 21 = .agg #[.bool q6.2.fneg, .slice q2 q6.2.fmag.length c_y1_ret_1_3_2] := emk q11
     replace hS : St w0 w (cells b3 41 [.bool q5, .slice q3 q4.length c_b3_1_L2h] :: l') := emk hS
     refine o_storeAgg (news := [.bool q6.2.fneg, .slice q2 q6.2.fmag.length c_y1_ret_1_3_2]) agg_41 ((hE4 3 rfl).trans q0s) q11 rfl (by simp [over_length]) hS (fun w' hS => ?_)
     refine x_done <| ?_
     refine x_fin ⟨⟨undef, rfl⟩, trivial, ?_⟩
     exact emk hS
   intro Ep4 w' hE4 hF_ hS
   obtain ⟨q10, q11, -⟩ := hF_
   replace q10 : Ep4 20 = .agg #[.bool q5, .slice q3 q4.length c_b3_1_L2h] := emk q10
   replace q11 : Ep4 21 = .agg #[.bool q6.2.fneg, .slice q2 q6.2.fmag.length c_y1_ret_1_3_2] := emk q11
   replace hS : St w0 w' (cells b6 41 [.bool q6.2.fneg, .slice q2 q6.2.fmag.length c_y1_ret_1_3_2] :: cells b2 41 [.bool q5, .slice q3 q4.length c_b3_1_L2h] :: cells b3 41 [.bool q6.2.fneg, .slice q2 q6.2.fmag.length c_y1_ret_1_3_2] :: (cells b5 41 [.bool q6.1.fneg, .slice q0k q6.1.fmag.length c_y0_ret_1_3_2] :: ro q1a :: cells b4 41 [.bool false, .slice none 0 0] :: l)) := emk hS
   refine x_blk <| ?_
   have e_ := sinj hFL2; subst e_
   exact x_inv ⟨kL2, Nat.lt_succ_self _, q1a, q3, q4.length, c_b3_1_L2h, q2, q6.2.fmag.length, c_y1_ret_1_3_2, q5, q4, q6.2.fneg, q6.2.fmag, hLL2, (q14.trans q1b), ((hE4 2 rfl).trans q0w), ((hE4 3 rfl).trans q0s), ((hE4 4 rfl).trans q19), (q0f.le q1b), q0l, (((((hS.drop.pull 2).drop.pull 2).pull 3).pull 3).pull 3)⟩
  ·replace hFL2 := it_f hc13 hFL2
   refine x_exitTo _ rfl <| ?_
   have e_ := sinj hFL2; subst e_
   exact x_inv ⟨q0t, q9, q0a.length, c_b2_1_L2h, q0d, q0a, hLL2, q14, q0w, q19, q0o, ((((hS.pull 1).drop.pull 2).pull 2).pull 2)⟩
 rintro E w ⟨q13, q0e, q0r, c_b2_1_L2, q0j, q0g, rfl, q1l, q1q, q1e, q12, hS⟩
 have e_ := q12.n; subst e_
 refine x_seq <| x_region <| pa (v := .agg #[.bool q0j, .slice q0e q0g.length c_b2_1_L2]) (ld_sub agg_41 q1q rfl rfl hS) <| ?_
 refine o_storeAgg (news := [.bool q0j, .slice q0e q0g.length c_b2_1_L2]) agg_41 q1e rfl rfl (by simp [over_length]) (hS.pull 1) (fun w' hS => ?_)
 refine x_done <| ?_
 have e_ := sinj hF; subst e_
 exact x_return ⟨_, ⟨_, _, _, rfl, q1e, ldvA agg_41 rfl (fun j v hj => by rw [add0]; exact St.cell hS hj), rfl⟩, q13, q0e, q0g.length, c_b2_1_L2, rfl, q1l, q12, hS.drop.drop⟩
attribute [irreducible] P_exact_Gcd

def P_exact_Bits (a0 : T_exact_Int) : Option Int :=
 if (a0.fmag.length : Int) = 0 then
  some (0 : Int)
 else
  ar ((a0.fmag.length : Int) - 1) fun x10 =>
  ar ((32 : Int) * x10) fun x11 =>
  ar ((a0.fmag.length : Int) - 1) fun x17 =>
  ck (inb x17 a0.fmag.length) <|
  lv (gt a0.fmag x17) fun x19 =>
  bd (P_math_bits_Len32 x19) fun q2 =>
  ar (x11 + q2) fun x21 =>
  some x21
theorem c_exact_Bits {w0 w : World} {l : List Assn} {ρ : Heap} {q2 : Option Addr} {q4 : Nat} {c_a0_1 : Nat} {a0 : T_exact_Int} {r : Int} (hF : P_exact_Bits a0 = some r) (q3 : RdS (RpI .u32) ρ q2 q4 c_a0_1 a0.fmag) (hS : St w0 w (ro ρ :: l)) :
  Calls Try.prog 49 #[.agg #[.bool a0.fneg, .slice q2 q4 c_a0_1]] w fun e w' => e = .returned (.int .i64 r) ∧ St w0 w' (ro ρ :: l) := by
 have e_ := q3.n; subst e_
 refine enterC Try.func49 rfl 22 rfl (by simp) ?_
 refine x_seq <| x_region <| ?_
 refine o_box (cs := [.bool a0.fneg, .slice q2 a0.fmag.length c_a0_1]) rfl rfl hS (fun b1 w' hS => ?_)
 refine p (yl_assign rfl) <| x_done <| x_seq <| x_seq <|
  x_region <| p (yl_field0 fld_41_1 rfl) <| pa (at_load one_39 rfl (hS.cell rfl)) <| p (yl_len_slice usl_39 rfl) <|
  p (yl_eql rfl rfl) <| x_done <|
  x_cond_p ((a0.fmag.length : Int) = 0) rfl (fun hc6 => ?_) (fun hc6 => ?_)
 ·replace hF := it_t hc6 hF
  refine x_seq <| x_region <| p (yl_assign rfl) <| x_done <| ?_
  have e_ := sinj hF; subst e_
  exact x_return ⟨_, ⟨_, _, rfl, rfl, rfl⟩, rfl, hS.drop⟩
 ·replace hF := it_f hc6 hF
  replace hF := ar_s hF; obtain ⟨x10, hx10, hF⟩ := hF
  replace hF := ar_s hF; obtain ⟨x11, hx11, hF⟩ := hF
  replace hF := ar_s hF; obtain ⟨x17, hx17, hF⟩ := hF
  replace hF := ck_s hF; obtain ⟨q5, hF⟩ := hF
  replace hF := lv_s hF; obtain ⟨x19, hx19, hF⟩ := hF
  replace hF := bd_s hF; obtain ⟨q7, q6, hF⟩ := hF
  replace hF := ar_s hF; obtain ⟨x21, hx21, hF⟩ := hF
  refine x_skip <| x_seq <| x_still mixed (by kernel_rfl) hS <| q (yl_field0 fld_41_1 rfl) <|
   qa (fun w' hS => at_load one_39 rfl (hS.cell rfl)) <| q (yl_len_slice usl_39 rfl) <| q (ysub rfl rfl hx10) <| q (ymul rfl rfl hx11) <|
   q (yl_field0 fld_41_1 rfl) <| qa (fun w' hS => at_load one_39 rfl (hS.cell rfl)) <| q (yl_field0 fld_41_1 rfl) <| qa (fun w' hS => at_load one_39 rfl (hS.cell rfl)) <|
   q (yl_len_slice usl_39 rfl) <| q (ysub rfl rfl hx17) <| q (yix_f sl_39 rfl rfl q3 q5) <| qa (fun w' hS => at_load one_77 rfl (RdS.getW q3 (hS.pull 1) q5 hx19)) <|
   qcc (v := .int .i64 q7) call_56 (args1 rfl) (fun w' hS => by
    have hcall := c_math_bits_Len32 q6  (hS.pull 1)
    exact (Calls.mono hcall (fun e w'' h => And.intro h.1 (h.2.pull 1)))) <| q (yadd rfl rfl hx21) <| q (yl_assign rfl) <|
   q_done fun w' hS => ?_
  have e_ := sinj hF; subst e_
  exact x_return ⟨_, ⟨_, _, rfl, rfl, rfl⟩, rfl, hS.drop⟩
attribute [irreducible] P_exact_Bits

def P_exact_reduced (n0 : T_exact_Int) (d1 : T_exact_Int) : Option (T_exact_Ratio × Int) :=
 bd (P_exact_Sign d1) fun q0c =>
 bd (
  if q0c < 0 then
   bd (P_exact_Neg n0) fun q8 =>
   bd (P_exact_Neg d1) fun q9 =>
   some (q8.fneg, q8.fmag, q9.fneg, q9.fmag)
  else
   some (n0.fneg, n0.fmag, d1.fneg, d1.fmag)) fun (q2, q3, q4, q5) =>
 bd (P_exact_Gcd (T_exact_Int.mk q2 q3) (T_exact_Int.mk q4 q5)) fun q0a =>
 bd (P_exact_split (T_exact_Int.mk q2 q3) q0a) fun q6 =>
 bd (P_exact_split (T_exact_Int.mk q4 q5) q0a) fun q7 =>
 bd (P_exact_Bits q6.1) fun q0b =>
 bd (gd (!(decide (65536 < q0b))) (P_exact_Bits q7.1)) fun q0d =>
 lv ((decide (65536 < q0b)) || (decide (65536 < q0d))) fun x36 =>
 if x36 = true then
  some ((T_exact_Ratio.mk (T_exact_Int.mk false []) (T_exact_Int.mk false [])), (3 : Int))
 else
  some ((T_exact_Ratio.mk (T_exact_Int.mk q6.1.fneg q6.1.fmag) (T_exact_Int.mk q7.1.fneg q7.1.fmag)), (0 : Int))
theorem c_exact_reduced {w0 w : World} {l : List Assn} {ρ : Heap} {q7 : Option Addr} {q19 : Nat} {c_n0_1 : Nat} {q6 : Option Addr} {q1a : Nat} {c_d1_1 : Nat} {n0 : T_exact_Int} {d1 : T_exact_Int} {r : (T_exact_Ratio × Int)} (hF : P_exact_reduced n0 d1 = some r) (q18 : RdS (RpI .u32) ρ q7 q19 c_n0_1 n0.fmag) (q0s : RdS (RpI .u32) ρ q6 q1a c_d1_1 d1.fmag) (hS : St w0 w (ro ρ :: l)) :
  Calls Try.prog 34 #[.agg #[.bool n0.fneg, .slice q7 q19 c_n0_1], .agg #[.bool d1.fneg, .slice q6 q1a c_d1_1]] w fun e w' => ∃ (ρ' : Heap) (q0t : Option Addr) (q0u : Nat) (c_y0_ret_1 : Nat) (q0v : Option Addr) (q0w : Nat) (c_y0_ret_3 : Nat), e = .returned (.tuple #[.agg #[.bool r.1.Num.fneg, .slice q0t q0u c_y0_ret_1, .bool r.1.Den.fneg, .slice q0v q0w c_y0_ret_3], .int .i64 r.2]) ∧ Le ρ ρ' ∧ RdS (RpI .u32) ρ' q0t q0u c_y0_ret_1 r.1.Num.fmag ∧ RdS (RpI .u32) ρ' q0v q0w c_y0_ret_3 r.1.Den.fmag ∧ St w0 w' (ro ρ' :: l) := by
 have e_ := q18.n; subst e_
 have e_ := q0s.n; subst e_
 refine enterC Try.func34 rfl 41 rfl (by simp) ?_
 refine x_seq <| x_region <| ?_
 refine o_box (cs := [.bool n0.fneg, .slice q7 n0.fmag.length c_n0_1]) rfl rfl hS (fun b2 w' hS => ?_)
 refine o_box (cs := [.bool d1.fneg, .slice q6 d1.fmag.length c_d1_1]) rfl rfl hS (fun b3 w' hS => ?_)
 refine o_alloc zero_43 hS (fun b4 w' hS => ?_)
 replace hF := bd_s hF; obtain ⟨q1z, q1r, hF⟩ := hF
 refine p (yl_assign rfl) <| x_done <| x_seq <| x_seq <|
  x_region <| pa (v := .agg #[.bool d1.fneg, .slice q6 d1.fmag.length c_d1_1]) (ld_sub agg_41 rfl rfl rfl (hS.pull 1)) <| ?_
 have hcall := c_exact_Sign q1r q0s (hS.pull 3)
 refine o_cc call_19 (args1 rfl) ((Calls.mono hcall (fun e w'' h => And.intro h.1 (((h.2.pull 3).pull 3).pull 3)))) ?_
 rintro e w' ⟨rfl, hS⟩
 refine ⟨_, rfl, ?_⟩
 refine p (yl_lss rfl rfl) <| x_done <| ?_
 replace hF := bd_s hF; obtain ⟨oc9, hFc9, hF⟩ := hF
 refine x_join (fun E w => ∃ (q0e : Option Addr) (q0m : Nat) (c_b2_1_c9 : Nat) (q0f : Option Addr) (q0n : Nat) (c_b3_1_c9 : Nat) (q0g : Bool) (q0h : List Int) (q0i : Bool) (q0j : List Int), (q0g, q0h, q0i, q0j) = oc9 ∧ E 2 = .pointer (some ⟨b2, 0, none⟩) ∧ E 3 = .pointer (some ⟨b3, 0, none⟩) ∧ E 4 = .pointer (some ⟨b4, 0, none⟩) ∧ RdS (RpI .u32) ρ q0e q0m c_b2_1_c9 q0h ∧ RdS (RpI .u32) ρ q0f q0n c_b3_1_c9 q0j ∧ St w0 w (cells b2 41 [.bool q0g, .slice q0e q0m c_b2_1_c9] :: cells b3 41 [.bool q0i, .slice q0f q0n c_b3_1_c9] :: cells b4 43 [.bool false, .slice none 0 0, .bool false, .slice none 0 0] :: ro ρ :: l)) ?_ ?_
 ·refine x_cond_p (q1z < 0) rfl (fun hc9 => ?_) (fun hc9 => ?_)
  ·replace hFc9 := it_t hc9 hFc9
   replace hFc9 := bd_s hFc9; obtain ⟨q4, q1s, hFc9⟩ := hFc9
   replace hFc9 := bd_s hFc9; obtain ⟨q5, q1t, hFc9⟩ := hFc9
   refine x_par (w0 := w0) [⟨[], [], [10], [0], [], []⟩, ⟨[0], [0], [11], [1], [], []⟩, ⟨[], [], [12], [2], [], []⟩, ⟨[0, 1, 2], [2], [13], [1], [], []⟩, ⟨[0, 1, 2, 3], [1], [], [], [0], [3]⟩, ⟨[0, 1, 2, 3, 4], [3], [], [], [2], [4]⟩] [⟨none, (some 4), []⟩, ⟨none, none, []⟩, ⟨none, (some 5), []⟩, ⟨(some 4), none, [11]⟩, ⟨(some 5), none, [13]⟩] [10, 11, 12, 13] [0, 1, 2] [1, 3, 4] [0, 1, 2, 3] [fun Ep2 => Ep2 10 = .agg #[.bool n0.fneg, .slice q7 n0.fmag.length c_n0_1], fun Ep2 => Ep2 11 = .agg #[.bool q4.fneg, .slice (adOf (partOf 1 (Ep2 11))) q4.fmag.length (capOf (partOf 1 (Ep2 11)))] ∧ RdS (RpI .u32) ρ (adOf (partOf 1 (Ep2 11))) q4.fmag.length (capOf (partOf 1 (Ep2 11))) q4.fmag, fun Ep2 => Ep2 12 = .agg #[.bool d1.fneg, .slice q6 d1.fmag.length c_d1_1], fun Ep2 => Ep2 13 = .agg #[.bool q5.fneg, .slice (adOf (partOf 1 (Ep2 13))) q5.fmag.length (capOf (partOf 1 (Ep2 13)))] ∧ RdS (RpI .u32) ρ (adOf (partOf 1 (Ep2 13))) q5.fmag.length (capOf (partOf 1 (Ep2 13))) q5.fmag, fun Ep2 => True, fun Ep2 => True] [fun Ep2 => cells b2 41 [.bool n0.fneg, .slice q7 n0.fmag.length c_n0_1], fun Ep2 => ro ρ, fun Ep2 => cells b3 41 [.bool d1.fneg, .slice q6 d1.fmag.length c_d1_1], fun Ep2 => cells b2 41 [.bool q4.fneg, .slice (adOf (partOf 1 (Ep2 11))) q4.fmag.length (capOf (partOf 1 (Ep2 11)))], fun Ep2 => cells b3 41 [.bool q5.fneg, .slice (adOf (partOf 1 (Ep2 13))) q5.fmag.length (capOf (partOf 1 (Ep2 13)))]] mixed (by kernel_rfl) (((hS.pull 1).pull 3).pull 3) ?_ ?_
   ·refine ⟨?_, ?_, ?_, ?_, ?_, ?_, trivial⟩
    ·intro Ep2 w l' hE2 hO2 hF_ hS
     replace hS : St w0 w (cells b2 41 [.bool n0.fneg, .slice q7 n0.fmag.length c_n0_1] :: l') := emk hS
     refine pa (v := .agg #[.bool n0.fneg, .slice q7 n0.fmag.length c_n0_1]) (ld_sub agg_41 (hE2 2 rfl) rfl rfl hS) <| x_done <| ?_
     refine x_fin ⟨⟨_, rfl⟩, rfl, ?_⟩
     exact emk hS
    ·intro Ep2 w l' hE2 hO2 hF_ hS
     obtain ⟨q12, -⟩ := hF_
     replace q12 : Ep2 10 = .agg #[.bool n0.fneg, .slice q7 n0.fmag.length c_n0_1] := emk q12
     replace hS : St w0 w (ro ρ :: l') := emk hS
     have hcall := c_exact_Neg q1s q18 hS
     refine o_cc call_30 (args1 q12) hcall ?_
     rintro e w' ⟨q1f, q1g, c_y0_ret_1_2_1, rfl, q0k, hS⟩
     refine ⟨_, rfl, ?_⟩
     have e_ := q0k.n; subst e_
     refine x_done <| ?_
     refine x_fin ⟨⟨_, rfl⟩, ⟨rfl, q0k⟩, ?_⟩
     exact emk hS
    ·intro Ep2 w l' hE2 hO2 hF_ hS
     replace hS : St w0 w (cells b3 41 [.bool d1.fneg, .slice q6 d1.fmag.length c_d1_1] :: l') := emk hS
     refine pa (v := .agg #[.bool d1.fneg, .slice q6 d1.fmag.length c_d1_1]) (ld_sub agg_41 (hE2 3 rfl) rfl rfl hS) <| x_done <| ?_
     refine x_fin ⟨⟨_, rfl⟩, rfl, ?_⟩
     exact emk hS
    ·intro Ep2 w l' hE2 hO2 hF_ hS
     obtain ⟨q13, -⟩ := hF_
     replace q13 : Ep2 12 = .agg #[.bool d1.fneg, .slice q6 d1.fmag.length c_d1_1] := emk q13
     replace hS : St w0 w (ro ρ :: l') := emk hS
     have hcall := c_exact_Neg q1t q0s hS
     refine o_cc call_30 (args1 q13) hcall ?_
     rintro e w' ⟨q1h, q1i, c_y0_ret_1_2_3, rfl, q0l, hS⟩
     refine ⟨_, rfl, ?_⟩
     have e_ := q0l.n; subst e_
     refine x_done <| ?_
     refine x_fin ⟨⟨_, rfl⟩, ⟨rfl, q0l⟩, ?_⟩
     exact emk hS
    ·intro Ep2 w l' hE2 hO2 hF_ hS
     obtain ⟨q0o, -⟩ := hF_
     replace q0o : Ep2 11 = .agg #[.bool q4.fneg, .slice (adOf (partOf 1 (Ep2 11))) q4.fmag.length (capOf (partOf 1 (Ep2 11)))] ∧ RdS (RpI .u32) ρ (adOf (partOf 1 (Ep2 11))) q4.fmag.length (capOf (partOf 1 (Ep2 11))) q4.fmag := emk q0o
     have q_ := id q0o; obtain ⟨-, q1d⟩ := q_
     replace hS : St w0 w (cells b2 41 [.bool n0.fneg, .slice q7 n0.fmag.length c_n0_1] :: l') := emk hS
     refine o_storeAgg (news := [.bool q4.fneg, .slice (adOf (partOf 1 (Ep2 11))) q4.fmag.length (capOf (partOf 1 (Ep2 11)))]) agg_41 (hE2 2 rfl) q0o.1 rfl (by simp [over_length]) hS (fun w' hS => ?_)
     refine x_done <| ?_
     refine x_fin ⟨⟨undef, rfl⟩, trivial, ?_⟩
     exact emk hS
    ·intro Ep2 w l' hE2 hO2 hF_ hS
     obtain ⟨q0p, -⟩ := hF_
     replace q0p : Ep2 13 = .agg #[.bool q5.fneg, .slice (adOf (partOf 1 (Ep2 13))) q5.fmag.length (capOf (partOf 1 (Ep2 13)))] ∧ RdS (RpI .u32) ρ (adOf (partOf 1 (Ep2 13))) q5.fmag.length (capOf (partOf 1 (Ep2 13))) q5.fmag := emk q0p
     have q_ := id q0p; obtain ⟨-, q1e⟩ := q_
     replace hS : St w0 w (cells b3 41 [.bool d1.fneg, .slice q6 d1.fmag.length c_d1_1] :: l') := emk hS
     refine o_storeAgg (news := [.bool q5.fneg, .slice (adOf (partOf 1 (Ep2 13))) q5.fmag.length (capOf (partOf 1 (Ep2 13)))]) agg_41 (hE2 3 rfl) q0p.1 rfl (by simp [over_length]) hS (fun w' hS => ?_)
     refine x_done <| ?_
     refine x_fin ⟨⟨undef, rfl⟩, trivial, ?_⟩
     exact emk hS
   intro Ep2 w' hE2 hF_ hS
   obtain ⟨q12, q0o, q13, q0p, -⟩ := hF_
   replace q12 : Ep2 10 = .agg #[.bool n0.fneg, .slice q7 n0.fmag.length c_n0_1] := emk q12
   replace q0o : Ep2 11 = .agg #[.bool q4.fneg, .slice (adOf (partOf 1 (Ep2 11))) q4.fmag.length (capOf (partOf 1 (Ep2 11)))] ∧ RdS (RpI .u32) ρ (adOf (partOf 1 (Ep2 11))) q4.fmag.length (capOf (partOf 1 (Ep2 11))) q4.fmag := emk q0o
   have q_ := id q0o; obtain ⟨-, q1d⟩ := q_
   replace q13 : Ep2 12 = .agg #[.bool d1.fneg, .slice q6 d1.fmag.length c_d1_1] := emk q13
   replace q0p : Ep2 13 = .agg #[.bool q5.fneg, .slice (adOf (partOf 1 (Ep2 13))) q5.fmag.length (capOf (partOf 1 (Ep2 13)))] ∧ RdS (RpI .u32) ρ (adOf (partOf 1 (Ep2 13))) q5.fmag.length (capOf (partOf 1 (Ep2 13))) q5.fmag := emk q0p
   have q_ := id q0p; obtain ⟨-, q1e⟩ := q_
   replace hS : St w0 w' (ro ρ :: cells b2 41 [.bool q4.fneg, .slice (adOf (partOf 1 (Ep2 11))) q4.fmag.length (capOf (partOf 1 (Ep2 11)))] :: cells b3 41 [.bool q5.fneg, .slice (adOf (partOf 1 (Ep2 13))) q5.fmag.length (capOf (partOf 1 (Ep2 13)))] :: (cells b4 43 [.bool false, .slice none 0 0, .bool false, .slice none 0 0] :: l)) := emk hS
   exact x_inv ⟨(adOf (partOf 1 (Ep2 11))), q4.fmag.length, (capOf (partOf 1 (Ep2 11))), (adOf (partOf 1 (Ep2 13))), q5.fmag.length, (capOf (partOf 1 (Ep2 13))), q4.fneg, q4.fmag, q5.fneg, q5.fmag, (sinj hFc9), (hE2 2 rfl), (hE2 3 rfl), (hE2 4 rfl), q1d, q1e, (((hS.pull 3).pull 3).pull 3)⟩
  ·replace hFc9 := it_f hc9 hFc9
   refine x_skip <| ?_
   exact x_inv ⟨q7, n0.fmag.length, c_n0_1, q6, d1.fmag.length, c_d1_1, n0.fneg, n0.fmag, d1.fneg, d1.fmag, (sinj hFc9), rfl, rfl, rfl, q18, q0s, ((((hS.pull 3).pull 1).pull 2).pull 3)⟩
 rintro E w ⟨q0e, q0m, c_b2_1_c9, q0f, q0n, c_b3_1_c9, q0g, q0h, q0i, q0j, rfl, q0x, q0y, q17, q0q, q0r, hS⟩
 have e_ := q0q.n; subst e_
 have e_ := q0r.n; subst e_
 replace hF := bd_s hF; obtain ⟨q14, q1u, hF⟩ := hF
 refine x_seq <| x_region <| pa (v := .agg #[.bool q0g, .slice q0e q0h.length c_b2_1_c9]) (ld_sub agg_41 q0x rfl rfl hS) <| pa (v := .agg #[.bool q0i, .slice q0f q0j.length c_b3_1_c9]) (ld_sub agg_41 q0y rfl rfl (hS.pull 1)) <| ?_
 have hcall := c_exact_Gcd q1u q0q q0r (hS.pull 3)
 refine o_cc call_50 (args2 rfl rfl) hcall ?_
 rintro e w' ⟨q20, q8, q1j, c_y0_ret_1_3_2, rfl, q0z, q9, hS⟩
 refine ⟨_, rfl, ?_⟩
 have e_ := q9.n; subst e_
 refine o_alloc zero_41 hS (fun b6 w' hS => ?_)
 refine o_storeAgg (news := [.bool q14.fneg, .slice q8 q14.fmag.length c_y0_ret_1_3_2]) agg_41 rfl rfl rfl (by simp [over_length]) hS (fun w' hS => ?_)
 replace hF := bd_s hF; obtain ⟨q0a, q1v, hF⟩ := hF
 refine x_done <| x_seq <| x_region <| pa (v := .agg #[.bool q0g, .slice q0e q0h.length c_b2_1_c9]) (ld_sub agg_41 q0x rfl rfl (hS.pull 2)) <|
  pa (v := .agg #[.bool q14.fneg, .slice q8 q14.fmag.length c_y0_ret_1_3_2]) (ld_sub agg_41 rfl rfl rfl hS) <| ?_
 have hcall := c_exact_split q1v (q0q.le q0z) q9 (hS.pull 1)
 refine o_cc call_51 (args2 rfl rfl) hcall ?_
 rintro e w' ⟨q21, q2, q1k, c_y0_ret_1_4_2, q1l, q1m, c_y1_ret_1_4_2, rfl, q10, q0b, q15, hS⟩
 refine ⟨_, rfl, ?_⟩
 have e_ := q0b.n; subst e_
 have e_ := q15.n; subst e_
 refine p (yl_move rfl) <| p (yl_extract rfl rfl) <| p (yl_extract rfl rfl) <| ?_
 refine o_storeAgg (news := [.bool q0a.1.fneg, .slice q2 q0a.1.fmag.length c_y0_ret_1_4_2]) agg_41 q0x rfl rfl (by simp [over_length]) (hS.pull 2) (fun w' hS => ?_)
 replace hF := bd_s hF; obtain ⟨q0c, q1w, hF⟩ := hF
 refine x_done <| x_seq <| x_region <| pa (v := .agg #[.bool q0i, .slice q0f q0j.length c_b3_1_c9]) (ld_sub agg_41 q0y rfl rfl (hS.pull 3)) <|
  pa (v := .agg #[.bool q14.fneg, .slice q8 q14.fmag.length c_y0_ret_1_3_2]) (ld_sub agg_41 rfl rfl rfl (hS.pull 2)) <| ?_
 have hcall := c_exact_split q1w (q0r.le (q0z.trans q10)) (q9.le q10) (hS.pull 1)
 refine o_cc call_51 (args2 rfl rfl) hcall ?_
 rintro e w' ⟨q1b, q3, q1n, c_y0_ret_1_5_2, q1o, q1p, c_y1_ret_1_5_2, rfl, q11, q0d, q16, hS⟩
 refine ⟨_, rfl, ?_⟩
 have e_ := q0d.n; subst e_
 have e_ := q16.n; subst e_
 refine p (yl_move rfl) <| p (yl_extract rfl rfl) <| p (yl_extract rfl rfl) <| ?_
 refine o_storeAgg (news := [.bool q0c.1.fneg, .slice q3 q0c.1.fmag.length c_y0_ret_1_5_2]) agg_41 q0y rfl rfl (by simp [over_length]) (hS.pull 3) (fun w' hS => ?_)
 replace hF := bd_s hF; obtain ⟨q1c, q1x, hF⟩ := hF
 refine x_done <| x_seq <| x_seq <| x_region <|
  pa (v := .agg #[.bool q0a.1.fneg, .slice q2 q0a.1.fmag.length c_y0_ret_1_4_2]) (ld_sub agg_41 q0x rfl rfl (hS.pull 2)) <| ?_
 have hcall := c_exact_Bits q1x (q0b.le q11) (hS.pull 1)
 refine o_cc call_49 (args1 rfl) ((Calls.mono hcall (fun e w'' h => And.intro h.1 (((((h.2.pull 4).pull 4).pull 4).pull 3).pull 4)))) ?_
 rintro e w' ⟨rfl, hS⟩
 refine ⟨_, rfl, ?_⟩
 replace hF := bd_s hF; obtain ⟨q1q, q1y, hF⟩ := hF
 refine p (yl_gtr rfl rfl) <| p (yl_move rfl) <| pg (v := .agg #[.bool q0c.1.fneg, .slice q3 q0c.1.fmag.length c_y0_ret_1_5_2]) 32 (c := !(decide (65536 < q1c))) (says_f _) (fun hq => ld_sub agg_41 q0y rfl rfl hS) <|
  pccg (v := .int .i64 q1q) 32 (c := !(decide (65536 < q1c))) (says_f _) call_49 (fun hq => (args1 (cv hq))) hS (fun hq => by
   have hcall := c_exact_Bits (gd_t q1y hq) q0d (hS.pull 1)
   exact (Calls.mono hcall (fun e w'' h => And.intro h.1 (((((h.2.pull 4).pull 4).pull 4).pull 3).pull 4)))) (fun w' hS => ?_)
 replace hF := lv_s hF; obtain ⟨x36, hx36, hF⟩ := hF
 refine pg (v := .bool (decide (65536 < q1q))) 32 (c := !(decide (65536 < q1c))) (says_f _) (fun hq => Yl.at (yl_gtr (cv hq) rfl)) <| p (yor' rfl rfl (fun hc => (cv (t_not hc))) hx36) <| x_done <|
  x_cond (t := x36) rfl (fun hc36 => ?_) (fun hc36 => ?_)
 ·replace hF := it_t hc36 hF
  refine x_seq <| x_region <| p (v := .agg #[.bool false, .slice none 0 0, .bool false, .slice none 0 0]) (yl_build bld_43 bldf_43 (parts_eq pt0) (by kernel_rfl)) <| ?_
  refine o_storeAgg (news := [.bool false, .slice none 0 0, .bool false, .slice none 0 0]) agg_43 q17 rfl rfl (by simp [over_length]) (hS.pull 4) (fun w' hS => ?_)
  refine p (yl_assign rfl) <| x_done <| ?_
  have e_ := sinj hF; subst e_
  exact x_return ⟨_, ⟨_, _, _, rfl, q17, ldvA agg_43 rfl (fun j v hj => by rw [add0]; exact St.cell hS hj), _, _, rfl, rfl, rfl⟩, q1b, none, 0, 0, none, 0, 0, rfl, ((q0z.trans q10).trans q11), (RdS.nil (A := none) (c := 0)), (RdS.nil (A := none) (c := 0)), (((hS.drop.drop.pull 1).drop.pull 1).drop)⟩
 ·replace hF := it_bf hc36 hF
  refine x_skip <| x_seq <| x_region <| pa (v := .agg #[.bool q0a.1.fneg, .slice q2 q0a.1.fmag.length c_y0_ret_1_4_2]) (ld_sub agg_41 q0x rfl rfl (hS.pull 2)) <|
   pa (v := .agg #[.bool q0c.1.fneg, .slice q3 q0c.1.fmag.length c_y0_ret_1_5_2]) (ld_sub agg_41 q0y rfl rfl hS) <| p (v := .agg #[.bool q0a.1.fneg, .slice q2 q0a.1.fmag.length c_y0_ret_1_4_2, .bool q0c.1.fneg, .slice q3 q0c.1.fmag.length c_y0_ret_1_5_2]) (yl_build bld_43 bldf_43 (parts_eq (pt (va := .agg #[.bool q0a.1.fneg, .slice q2 q0a.1.fmag.length c_y0_ret_1_4_2]) rfl (pt (va := .agg #[.bool q0c.1.fneg, .slice q3 q0c.1.fmag.length c_y0_ret_1_5_2]) rfl pt0))) (by kernel_rfl)) <| ?_
  refine o_storeAgg (news := [.bool q0a.1.fneg, .slice q2 q0a.1.fmag.length c_y0_ret_1_4_2, .bool q0c.1.fneg, .slice q3 q0c.1.fmag.length c_y0_ret_1_5_2]) agg_43 q17 rfl rfl (by simp [over_length]) (hS.pull 4) (fun w' hS => ?_)
  refine p (yl_assign rfl) <| x_done <| ?_
  have e_ := sinj hF; subst e_
  exact x_return ⟨_, ⟨_, _, _, rfl, q17, ldvA agg_43 rfl (fun j v hj => by rw [add0]; exact St.cell hS hj), _, _, rfl, rfl, rfl⟩, q1b, q2, q0a.1.fmag.length, c_y0_ret_1_4_2, q3, q0c.1.fmag.length, c_y0_ret_1_5_2, rfl, ((q0z.trans q10).trans q11), (q0b.le q11), q0d, (((hS.drop.drop.pull 1).drop.pull 1).drop)⟩
attribute [irreducible] P_exact_reduced

def P_exact_Solve_L7 (b1 : List Int) : Int → Option (Int ⊕ (Unit ⊕ (List T_exact_Ratio × Int))) := fun q2 =>
 if q2 < (b1.length : Int) then
  ck (inb q2 b1.length) <|
  lv (gt b1 q2) fun x31 =>
  lv ((decide (x31 < (-1099511627776))) || (decide (1099511627776 < x31))) fun x37 =>
  if x37 = true then
   some (Sum.inr (Sum.inr ([], (2 : Int))))
  else
   ar (q2 + 1) fun x38 =>
   some (Sum.inl x38)
 else
  some (Sum.inr (Sum.inl ()))
def P_exact_Solve_L14 (a0 : List (List Int)) : (Int × List (List T_exact_Int) × Bool × List Int × Bool × Int) → Option ((Int × List (List T_exact_Int) × Bool × List Int × Bool × Int) ⊕ ((List (List T_exact_Int) × Bool × List Int × Bool × Int) ⊕ (List T_exact_Ratio × Int))) := fun (q8, q2, q3, q4, q5, q6) =>
 if q8 < (a0.length : Int) then
  bd (P_exact_table_pivot (T_exact_table.mk q2 (T_exact_Int.mk q3 q4) q5 q6) q8 true) fun q7 =>
  if (!q7.1) = true then
   some (Sum.inr (Sum.inr ([], (7 : Int))))
  else
   ar (q8 + 1) fun x52 =>
   some (Sum.inl (x52, q7.2.1, q7.2.2.1, q7.2.2.2.1, q7.2.2.2.2.1, q7.2.2.2.2.2))
 else
  some (Sum.inr (Sum.inl (q2, q3, q4, q5, q6)))
def P_exact_Solve_L21 (a0 : List (List Int)) (q8 : (List (List T_exact_Int) × Bool × List Int)) (q2 : List (List T_exact_Int)) : (List T_exact_Ratio × Int) → Option ((List T_exact_Ratio × Int) ⊕ (List T_exact_Ratio ⊕ (List T_exact_Ratio × Int))) := fun (q4, q3) =>
 if q3 < (q8.1.length : Int) then
  ck (inb q3 q2.length) <|
  lv (gt q2 q3) fun q5 =>
  ck (inb (a0.length : Int) q5.length) <|
  lv (gt q5 (a0.length : Int)) fun q9 =>
  ck (inb q3 q5.length) <|
  lv (gt q5 q3) fun q0a =>
  bd (P_exact_reduced q9 q0a) fun q6 =>
  if q6.2 ≠ 0 then
   some (Sum.inr (Sum.inr ([], q6.2)))
  else
   lv (q4 ++ [q6.1]) fun q7 =>
   ck (apOk 64 q7.length) <|
   ar (q3 + 1) fun x83 =>
   some (Sum.inl (q7, x83))
 else
  some (Sum.inr (Sum.inl q4))
def P_exact_Solve (a0 : List (List Int)) (b1 : List Int) : Option (List T_exact_Ratio × Int) :=
 bd (P_exact_square a0) fun q9 =>
 if q9 ≠ 0 then
  some ([], q9)
 else
  if (b1.length : Int) ≠ (a0.length : Int) then
   some ([], (4 : Int))
  else
   bs (
    lp (P_exact_Solve_L7 b1) fuel 0) (fun y => some y) fun _ =>
   bd (P_exact_begin a0 ([b1] : List (List Int))) fun q3 =>
   bs (
    lp (P_exact_Solve_L14 a0) fuel (0, q3.1, q3.2.1, q3.2.2, false, 0)) (fun y => some y) fun (q2, q4, q5, q6, q7) =>
   bs (
    lp (P_exact_Solve_L21 a0 q3 q2) fuel ([], 0)) (fun y => some y) fun q8 =>
   some (q8, (0 : Int))
theorem c_exact_Solve {w0 w : World} {l : List Assn} {ρ : Heap} {q1i : Option Addr} {q3w : Nat} {c_a0 : Nat} {q1j : Option Addr} {q3x : Nat} {c_b1 : Nat} {a0 : List (List Int)} {b1 : List Int} {r : (List T_exact_Ratio × Int)} (hF : P_exact_Solve a0 b1 = some r) (q3k : RdS (RpSl (RpI .i64)) ρ q1i q3w c_a0 a0) (q37 : RdS (RpI .i64) ρ q1j q3x c_b1 b1) (hS : St w0 w (ro ρ :: l)) :
  Calls Try.prog 24 #[.slice q1i q3w c_a0, .slice q1j q3x c_b1] w fun e w' => ∃ (ρ' : Heap) (q2o : Option Addr) (q2a : Nat) (c_y0_ret : Nat) (q2n : List Value), e = .returned (.tuple #[.slice q2o q2a c_y0_ret, .int .i64 r.2]) ∧ Le ρ ρ' ∧ RepL R_exact_Ratio ρ' r.1 q2n ∧ St w0 w' (vec 43 R_exact_Ratio.sz (.slice q2o q2a c_y0_ret) q2a q2n :: ro ρ' :: l) := by
 have e_ := q3k.n; subst e_
 have e_ := q37.n; subst e_
 refine enterC Try.func24 rfl 85 rfl (by simp) ?_
 replace hF := bd_s hF; obtain ⟨q2p, q4c, hF⟩ := hF
 refine x_seq <| x_region <| p (yl_assign rfl) <| p (yl_assign rfl) <|
  x_done <| x_seq <| x_seq <| x_region <|
  p (yl_move rfl) <| ?_
 have hcall := c_exact_square q4c q3k hS
 refine o_cc call_39 (args1 rfl) (hcall) ?_
 rintro e w' ⟨rfl, hS⟩
 refine ⟨_, rfl, ?_⟩
 refine p (v := .int .i64 q2p) (yl_assign rfl) <| x_done <| x_seq <| x_region <|
  p (v := .int .i64 q2p) (yl_move rfl) <| p (yl_neq rfl rfl) <| x_done <|
  x_cond_p (q2p ≠ 0) rfl (fun hc19 => ?_) (fun hc19 => ?_)
 ·replace hF := it_t hc19 hF
  refine x_seq <| x_region <| p (v := .int .i64 q2p) (yl_move rfl) <| p (yl_assign rfl) <|
   p (v := .int .i64 q2p) (yl_assign rfl) <| x_done <| ?_
  replace hS := St.vec_nil hS 43 R_exact_Ratio.sz
  have q6 : RepL R_exact_Ratio ρ [] [] := rfl
  have e_ := sinj hF; subst e_
  exact x_return ⟨_, ⟨_, _, rfl, rfl, _, _, rfl, rfl, rfl⟩, ρ, none, 0, 0, [], rfl, (Le.refl _), q6, ((hS.pull 1).pull 1)⟩
 ·replace hF := it_f hc19 hF
  refine x_skip <| x_seq <| x_seq <| x_region <|
   p (yl_move rfl) <| p (yl_len_slice usl_61 rfl) <| p (yl_move rfl) <| p (yl_len_slice usl_60 rfl) <|
   p (yl_neq rfl rfl) <| x_done <|
   x_cond_p ((b1.length : Int) ≠ (a0.length : Int)) rfl (fun hc25 => ?_) (fun hc25 => ?_)
  ·replace hF := it_t hc25 hF
   refine x_seq <| x_region <| p (yl_assign rfl) <| p (yl_assign rfl) <|
    x_done <| ?_
   replace hS := St.vec_nil hS 43 R_exact_Ratio.sz
   have q6 : RepL R_exact_Ratio ρ [] [] := rfl
   have e_ := sinj hF; subst e_
   exact x_return ⟨_, ⟨_, _, rfl, rfl, _, _, rfl, rfl, rfl⟩, ρ, none, 0, 0, [], rfl, (Le.refl _), q6, ((hS.pull 1).pull 1)⟩
  ·replace hF := it_f hc25 hF
   refine x_skip <| x_seq <| x_seq <| x_region <|
    p (yl_move rfl) <| p (yl_len_slice usl_61 rfl) <| p (yl_move rfl) <| x_done <| ?_
   replace hF := bs_s hF; obtain ⟨oL7, hLL7, hF⟩ := hF
   refine x_join (fun E w => (Sum.inl (())) = oL7 ∧ E 0 = .slice q1i a0.length c_a0 ∧ E 1 = .slice q1j b1.length c_b1 ∧ St w0 w (ro ρ :: l)) ?_ ?_
   ·refine x_block ?_
    refine x_loop (fun k_ E w => ∃ (q1v : Int), lp (P_exact_Solve_L7 b1) k_ q1v = some oL7 ∧ E 0 = .slice q1i a0.length c_a0 ∧ E 1 = .slice q1j b1.length c_b1 ∧ E 26 = .slice q1j b1.length c_b1 ∧ E 27 = .int .i64 (b1.length : Int) ∧ E 28 = .int .i64 q1v ∧ St w0 w (ro ρ :: l)) fuel ⟨0, hLL7, rfl, rfl, rfl, rfl, rfl, hS⟩ ?_
    rintro kL7 E w ⟨q1v, hLL7, q39, q3a, q2x, q2y, q2i, hS⟩
    replace hLL7 := lp_s hLL7; obtain ⟨kL7, obL7, rfl, hFL7, hLL7⟩ := hLL7
    refine x_seq <| x_region <| p (yl_lss q2i q2y) <| x_done <|
     x_seq <|
     x_cond_p (q1v < (b1.length : Int)) rfl (fun hc29 => ?_) (fun hc29 => ?_)
    ·replace hFL7 := it_t hc29 hFL7
     replace hFL7 := ck_s hFL7; obtain ⟨q3m, hFL7⟩ := hFL7
     replace hFL7 := lv_s hFL7; obtain ⟨x31, hx31, hFL7⟩ := hFL7
     replace hFL7 := lv_s hFL7; obtain ⟨x37, hx37, hFL7⟩ := hFL7
     refine x_skip <| x_seq <| x_block <| x_seq <|
      x_region <| p (yix_f sl_61 q2x q2i q37 q3m) <| pa (at_load one_2 rfl (RdS.getW q37 hS q3m hx31)) <| p (yl_assign rfl) <|
      x_done <| x_seq <| x_region <| p (yl_move rfl) <|
      p (yl_lss rfl rfl) <| p (yl_move rfl) <| pg (v := .int .i64 x31) 34 (c := !(decide (x31 < (-1099511627776)))) (says_f _) (fun hq => Yl.at (yl_move rfl)) <| pg (v := .bool (decide (1099511627776 < x31))) 34 (c := !(decide (x31 < (-1099511627776)))) (says_f _) (fun hq => Yl.at (yl_gtr (cv hq) rfl)) <|
      p (yor' rfl rfl (fun hc => (cv (t_not hc))) hx37) <| x_done <|
      x_cond (t := x37) rfl (fun hc37 => ?_) (fun hc37 => ?_)
     ·replace hFL7 := it_t hc37 hFL7
      refine x_seq <| x_region <| p (yl_assign rfl) <| p (yl_assign rfl) <|
       x_done <| ?_
      replace hS := St.vec_nil hS 43 R_exact_Ratio.sz
      have q6 : RepL R_exact_Ratio ρ [] [] := rfl
      have e_ := sinj hFL7; subst e_
      have e_ := (show _ = oL7 from hLL7); subst e_
      have e_ := sinj hF; subst e_
      exact x_return ⟨_, ⟨_, _, rfl, rfl, _, _, rfl, rfl, rfl⟩, ρ, none, 0, 0, [], rfl, (Le.refl _), q6, ((hS.pull 1).pull 1)⟩
     ·replace hFL7 := it_bf hc37 hFL7
      replace hFL7 := ar_s hFL7; obtain ⟨x38, hx38, hFL7⟩ := hFL7
      refine x_skip <| x_blk <| x_region <| p (yadd q2i rfl hx38) <|
       p (yl_move rfl) <| x_done <| ?_
      have e_ := sinj hFL7; subst e_
      exact x_inv ⟨kL7, Nat.lt_succ_self _, x38, hLL7, q39, q3a, q2x, q2y, rfl, hS⟩
    ·replace hFL7 := it_f hc29 hFL7
     refine x_exitTo _ rfl <| ?_
     have e_ := sinj hFL7; subst e_
     exact x_inv ⟨hLL7, q39, q3a, hS⟩
   rintro E w ⟨rfl, q38, q4d, hS⟩
   refine x_seq <| x_region <| p (yl_move q38) <| p (yl_move q4d) <| ?_
   refine o_buildSlice (vs := [.slice q1j b1.length c_b1]) (cs := [.slice q1j b1.length c_b1]) sl_60 zero_61 (parts_eq (pt (va := .slice q1j b1.length c_b1) rfl pt0)) rfl (by intro v hv; simp only [List.mem_cons, List.not_mem_nil, or_false] at hv; first | (subst hv; rfl) | (rcases hv with rfl <;> rfl)) (by decide) rfl hS (fun b41 w' hS => ?_)
   have q3y : RepL (RpSl (RpI .i64)) ρ ([b1] : List (List Int)) [.slice q1j b1.length c_b1] := (RepL.cons (cs := [.slice q1j b1.length c_b1]) ⟨_, _, _, rfl, q37⟩ RepL.nil)
   replace hS := St.vec_of (n := 1) (sz := (RpSl (RpI .i64)).sz) hS rfl (by decide)
   have q_ := St.vec_fz ((hS.pull 1).pull 1) q3y; obtain ⟨q4f, q1e, q3q, hS⟩ := q_
   replace hF := bd_s hF; obtain ⟨q0f, q3z, hF⟩ := hF
   have hcall := c_exact_begin q3z (q3k.le q1e) q3q hS
   refine o_cc call_40 (args2 rfl rfl) hcall ?_
   rintro e w' ⟨q2j, q12, q3, q2z, c_b_y0_ret_0_ret_12_3, q1k, q1l, q30, c_b_y0_ret_2_ret_12_3, rfl, q2k, q14, q15, hS⟩
   refine ⟨_, rfl, ?_⟩
   have e_ := St.vec_n (hS.pull 1) q14; subst e_
   have e_ := q15.n; subst e_
   refine p (yl_assign rfl) <| x_done <| x_seq <| x_seq <|
    x_region <| p (yl_move q38) <| p (yl_len_slice usl_60 rfl) <| p (yl_move rfl) <|
    x_done <| ?_
   replace hF := bs_s hF; obtain ⟨oL14, hLL14, hF⟩ := hF
   refine x_join (fun E w => ∃ (q0n : Heap) (q5 : List Value) (q0l : Option Addr) (q0m : Nat) (c_b_y0_ret_12_3_2_L14 : Nat) (q0g : List (List T_exact_Int)) (q0r : Bool) (q0s : List Int) (q0t : Bool) (q0u : Int), (Sum.inl (q0g, q0r, q0s, q0t, q0u)) = oL14 ∧ Le q2j q0n ∧ E 0 = .slice q1i a0.length c_a0 ∧ E 9 = .pointer (some ⟨q12, 0, none⟩) ∧ RepL (RpSl R_exact_Int) q0n q0g q5 ∧ RdS (RpI .u32) q0n q0l q0m c_b_y0_ret_12_3_2_L14 q0s ∧ St w0 w (cells q12 87 [.slice q3 q0f.1.length c_b_y0_ret_0_ret_12_3, .bool q0r, .slice q0l q0m c_b_y0_ret_12_3_2_L14, .bool q0t, .int .i64 q0u] :: vec 88 (RpSl R_exact_Int).sz (.slice q3 q0f.1.length c_b_y0_ret_0_ret_12_3) q0f.1.length q5 :: ro q0n :: l)) ?_ ?_
   ·refine x_block ?_
    refine x_loop (fun k_ E w => ∃ (q1m : Heap) (q8 : List Value) (q0a : Option Addr) (q0i : Nat) (c_b_y0_ret_12_3_2_L14h : Nat) (q1q : Int) (q0b : List (List T_exact_Int)) (q0c : Bool) (q7 : List Int) (q0d : Bool) (q0e : Int), lp (P_exact_Solve_L14 a0) k_ (q1q, q0b, q0c, q7, q0d, q0e) = some oL14 ∧ Le q2j q1m ∧ E 0 = .slice q1i a0.length c_a0 ∧ E 9 = .pointer (some ⟨q12, 0, none⟩) ∧ E 44 = .int .i64 (a0.length : Int) ∧ E 45 = .int .i64 q1q ∧ RepL (RpSl R_exact_Int) q1m q0b q8 ∧ RdS (RpI .u32) q1m q0a q0i c_b_y0_ret_12_3_2_L14h q7 ∧ St w0 w (cells q12 87 [.slice q3 q0f.1.length c_b_y0_ret_0_ret_12_3, .bool q0c, .slice q0a q0i c_b_y0_ret_12_3_2_L14h, .bool q0d, .int .i64 q0e] :: vec 88 (RpSl R_exact_Int).sz (.slice q3 q0f.1.length c_b_y0_ret_0_ret_12_3) q0f.1.length q8 :: ro q1m :: l)) fuel ⟨q2j, q1k, q1l, q0f.2.2.length, c_b_y0_ret_2_ret_12_3, 0, q0f.1, q0f.2.1, q0f.2.2, false, 0, hLL14, (Le.refl _), q38, rfl, rfl, rfl, q14, q15, (((hS.pull 2).pull 2).pull 2)⟩ ?_
    rintro kL14 E w ⟨q1m, q8, q0a, q0i, c_b_y0_ret_12_3_2_L14h, q1q, q0b, q0c, q7, q0d, q0e, hLL14, q1t, q31, q2l, q2q, q2b, q10, q0j, hS⟩
    have e_ := q0j.n; subst e_
    replace hLL14 := lp_s hLL14; obtain ⟨kL14, obL14, rfl, hFL14, hLL14⟩ := hLL14
    refine x_seq <| x_region <| p (yl_lss q2b q2q) <| x_done <|
     x_seq <|
     x_cond_p (q1q < (a0.length : Int)) rfl (fun hc46 => ?_) (fun hc46 => ?_)
    ·replace hFL14 := it_t hc46 hFL14
     replace hFL14 := bd_s hFL14; obtain ⟨q1r, q40, hFL14⟩ := hFL14
     refine x_skip <| x_seq <| x_block <| x_seq <|
      x_region <| p (yl_move q2b) <| p (yl_assign rfl) <| x_done <|
      x_seq <| x_region <| p (yl_move q2l) <| p (yl_move rfl) <| ?_
     have hcall := c_exact_table_pivot q40 q10 q0j (((hS.pull 2).pull 2).pull 2)
     refine o_cc call_41 (args3 rfl rfl rfl) hcall ?_
     rintro e w' ⟨q2m, q1u, q26, q3j, c_b_t0_2_ret_16_2, rfl, q32, q27, q1b, hS⟩
     refine ⟨_, rfl, ?_⟩
     have e_ := q1b.n; subst e_
     refine p (yl_not rfl) <| x_done <|
      x_cond (t := !q1r.1) rfl (fun hc51 => ?_) (fun hc51 => ?_)
     ·replace hFL14 := it_t hc51 hFL14
      refine x_seq <| x_region <| p (yl_assign rfl) <| p (yl_assign rfl) <|
       x_done <| ?_
      replace hS := St.vec_nil hS 43 R_exact_Ratio.sz
      have q6 : RepL R_exact_Ratio q2m [] [] := rfl
      have e_ := sinj hFL14; subst e_
      have e_ := (show _ = oL14 from hLL14); subst e_
      have e_ := sinj hF; subst e_
      exact x_return ⟨_, ⟨_, _, rfl, rfl, _, _, rfl, rfl, rfl⟩, q2m, none, 0, 0, [], rfl, (((q1e.trans q2k).trans q1t).trans q32), q6, ((((hS.pull 1).drop.pull 1).drop.pull 1).pull 1)⟩
     ·replace hFL14 := it_bf hc51 hFL14
      replace hFL14 := ar_s hFL14; obtain ⟨x52, hx52, hFL14⟩ := hFL14
      refine x_skip <| x_blk <| x_region <| p (yadd q2b rfl hx52) <|
       p (yl_move rfl) <| x_done <| ?_
      have e_ := sinj hFL14; subst e_
      exact x_inv ⟨kL14, Nat.lt_succ_self _, q2m, q1u, q26, q1r.2.2.2.1.length, c_b_t0_2_ret_16_2, x52, q1r.2.1, q1r.2.2.1, q1r.2.2.2.1, q1r.2.2.2.2.1, q1r.2.2.2.2.2, hLL14, (q1t.trans q32), q31, q2l, q2q, rfl, q27, q1b, (((hS.pull 2).pull 2).pull 2)⟩
    ·replace hFL14 := it_f hc46 hFL14
     refine x_exitTo _ rfl <| ?_
     have e_ := sinj hFL14; subst e_
     exact x_inv ⟨q1m, q8, q0a, q7.length, c_b_y0_ret_12_3_2_L14h, q0b, q0c, q7, q0d, q0e, hLL14, q1t, q31, q2l, q10, q0j, (((hS.pull 2).pull 2).pull 2)⟩
   rintro E w ⟨q0n, q5, q0l, q0m, c_b_y0_ret_12_3_2_L14, q0g, q0r, q0s, q0t, q0u, rfl, q2r, q41, q42, q16, q1n, hS⟩
   have e_ := q1n.n; subst e_
   refine x_seq <| x_region <| p (yl_assign rfl) <| x_done <|
    x_seq <| x_seq <| x_region <| p (yl_move q42) <|
    p (yl_nilCheck rfl) <| p (yl_field0 fld_87_0 rfl) <| pa (at_load one_85 rfl (hS.cell rfl)) <| p (yl_len_slice usl_85 rfl) <|
    p (yl_move rfl) <| x_done <| ?_
   replace hF := bs_s hF; obtain ⟨oL21, hLL21, hF⟩ := hF
   refine x_join (fun E w => ∃ (q2d : Heap) (q19 : Option Addr) (q1a : Nat) (c_out11_L21 : Nat) (q17 : List Value) (q1f : List T_exact_Ratio), (Sum.inl q1f) = oL21 ∧ Le q0n q2d ∧ E 11 = .slice q19 q1a c_out11_L21 ∧ RepL R_exact_Ratio q2d q1f q17 ∧ St w0 w (vec 43 R_exact_Ratio.sz (.slice q19 q1a c_out11_L21) q1a q17 :: ro q2d :: l)) ?_ ?_
   ·refine x_block ?_
    replace hS := St.vec_nil hS 43 R_exact_Ratio.sz
    have q28 : RepL R_exact_Ratio q0n [] [] := rfl
    refine x_loop (fun k_ E w => ∃ (q9 : Heap) (q0z : Option Addr) (q18 : Nat) (c_out11_L21h : Nat) (q0q : List Value) (q0o : List T_exact_Ratio) (q0k : Int), lp (P_exact_Solve_L21 a0 q0f q0g) k_ (q0o, q0k) = some oL21 ∧ Le q0n q9 ∧ E 0 = .slice q1i a0.length c_a0 ∧ E 11 = .slice q0z q18 c_out11_L21h ∧ E 56 = .slice q3 q0f.1.length c_b_y0_ret_0_ret_12_3 ∧ E 57 = .int .i64 (q0f.1.length : Int) ∧ E 58 = .int .i64 q0k ∧ RepL R_exact_Ratio q9 q0o q0q ∧ St w0 w (vec 43 R_exact_Ratio.sz (.slice q0z q18 c_out11_L21h) q18 q0q :: vec 88 (RpSl R_exact_Int).sz (.slice q3 q0f.1.length c_b_y0_ret_0_ret_12_3) q0f.1.length q5 :: ro q9 :: l)) fuel ⟨q0n, none, 0, 0, [], [], 0, hLL21, (Le.refl _), q41, rfl, rfl, rfl, rfl, q28, ((((hS.pull 1).drop.pull 2).pull 2).pull 2)⟩ ?_
    rintro kL21 E w ⟨q9, q0z, q18, c_out11_L21h, q0q, q0o, q0k, hLL21, q0h, q33, q2s, q2t, q2u, q1s, q1c, hS⟩
    have e_ := St.vec_n hS q1c; subst e_
    replace hLL21 := lp_s hLL21; obtain ⟨kL21, obL21, rfl, hFL21, hLL21⟩ := hLL21
    refine x_seq <| x_region <| p (yl_lss q1s q2u) <| x_done <|
     x_seq <|
     x_cond_p (q0k < (q0f.1.length : Int)) rfl (fun hc59 => ?_) (fun hc59 => ?_)
    ·replace hFL21 := it_t hc59 hFL21
     replace hFL21 := ck_s hFL21; obtain ⟨q3b, hFL21⟩ := hFL21
     replace hFL21 := lv_s hFL21; obtain ⟨q1w, q43, hFL21⟩ := hFL21
     have q_ := q16.get q3b; obtain ⟨q4i, q3c, q44⟩ := q_
     rw [← q43] at q3c
     obtain ⟨q13, q4l, q1x, rfl, q2e⟩ := q3c
     have e_ := q2e.n; subst e_
     refine x_skip <| x_seq <| x_block <| x_seq <|
      x_region <| p (yl_move q1s) <| p (yix_o sl_85 q2t q1s (hS.pull 1) q16 q3b) <| pa (at_load one_88 rfl (EltV.ld (m := 0) q44 (hS.pull 1) rfl)) <|
      p (yl_assign rfl) <| p (yl_assign rfl) <| x_done <| x_seq <| ?_
     replace hFL21 := ck_s hFL21; obtain ⟨q3d, hFL21⟩ := hFL21
     replace hFL21 := lv_s hFL21; obtain ⟨q0v, q45, hFL21⟩ := hFL21
     replace hFL21 := ck_s hFL21; obtain ⟨q3e, hFL21⟩ := hFL21
     replace hFL21 := lv_s hFL21; obtain ⟨q0w, q46, hFL21⟩ := hFL21
     replace hFL21 := bd_s hFL21; obtain ⟨q2, q47, hFL21⟩ := hFL21
     refine x_par (w0 := w0) [⟨[], [], [64], [], [], []⟩, ⟨[], [], [65], [], [], []⟩, ⟨[1], [1], [66], [], [], []⟩, ⟨[0, 1, 2], [0, 2], [67], [0], [], []⟩, ⟨[0, 1, 2, 3], [3], [68], [0], [], []⟩, ⟨[], [], [69], [], [], []⟩, ⟨[], [], [70], [], [], []⟩, ⟨[5, 6], [5, 6], [71], [0], [], []⟩, ⟨[5, 6, 7], [7], [72], [0], [], []⟩, ⟨[0, 1, 2, 3, 4, 5, 6, 7, 8], [4, 8], [73], [0], [], [1]⟩, ⟨[0, 1, 2, 3, 4, 5, 6, 7, 8, 9], [9], [63, 73], [], [], []⟩, ⟨[0, 1, 2, 3, 4, 5, 6, 7, 8, 9, 10], [9, 10], [73, 74], [], [], []⟩, ⟨[0, 1, 2, 3, 4, 5, 6, 7, 8, 9, 10], [9, 10], [75], [], [], []⟩, ⟨[], [], [14], [], [], [2]⟩, ⟨[0, 1, 2, 3, 4, 5, 6, 7, 8, 9, 10, 11, 13], [9, 11, 13], [], [], [2], [3]⟩, ⟨[0, 1, 2, 3, 4, 5, 6, 7, 8, 9, 10, 11, 12, 13, 14], [12], [15], [], [], []⟩] [⟨none, none, []⟩, ⟨(some 9), none, [73]⟩, ⟨(some 13), (some 14), [14]⟩, ⟨(some 14), none, [14, 73]⟩] [14, 15, 63, 64, 65, 66, 67, 68, 69, 70, 71, 72, 73, 74, 75] [0] [0, 1, 3] [0, 1, 2, 3, 4, 5, 6, 7, 8, 9, 10, 11, 12, 13, 15] [fun Ep23 => Ep23 64 = .slice q13 q1w.length q1x, fun Ep23 => Ep23 65 = .slice q1i a0.length c_a0, fun Ep23 => Ep23 66 = .int .i64 (a0.length : Int), fun Ep23 => Ep23 67 = .pointer (some ((adr q13).add ((a0.length : Int).toNat * R_exact_Int.sz))), fun Ep23 => Ep23 68 = .agg #[.bool q0v.fneg, .slice (adOf (partOf 1 (Ep23 68))) q0v.fmag.length (capOf (partOf 1 (Ep23 68)))] ∧ RdS (RpI .u32) q0n (adOf (partOf 1 (Ep23 68))) q0v.fmag.length (capOf (partOf 1 (Ep23 68))) q0v.fmag, fun Ep23 => Ep23 69 = .slice q13 q1w.length q1x, fun Ep23 => Ep23 70 = .int .i64 q0k, fun Ep23 => Ep23 71 = .pointer (some ((adr q13).add (q0k.toNat * R_exact_Int.sz))), fun Ep23 => Ep23 72 = .agg #[.bool q0w.fneg, .slice (adOf (partOf 1 (Ep23 72))) q0w.fmag.length (capOf (partOf 1 (Ep23 72)))] ∧ RdS (RpI .u32) q0n (adOf (partOf 1 (Ep23 72))) q0w.fmag.length (capOf (partOf 1 (Ep23 72))) q0w.fmag, fun Ep23 => Ep23 73 = .tuple #[.agg #[.bool q2.1.Num.fneg, .slice (adOf (partOf 1 (partOf 0 (Ep23 73)))) q2.1.Num.fmag.length (capOf (partOf 1 (partOf 0 (Ep23 73)))), .bool q2.1.Den.fneg, .slice (adOf (partOf 3 (partOf 0 (Ep23 73)))) q2.1.Den.fmag.length (capOf (partOf 3 (partOf 0 (Ep23 73))))], .int .i64 q2.2], fun Ep23 => Ep23 63 = .tuple #[.agg #[.bool q2.1.Num.fneg, .slice (adOf (partOf 1 (partOf 0 (Ep23 73)))) q2.1.Num.fmag.length (capOf (partOf 1 (partOf 0 (Ep23 73)))), .bool q2.1.Den.fneg, .slice (adOf (partOf 3 (partOf 0 (Ep23 73)))) q2.1.Den.fmag.length (capOf (partOf 3 (partOf 0 (Ep23 73))))], .int .i64 q2.2], fun Ep23 => Ep23 74 = .agg #[.bool q2.1.Num.fneg, .slice (adOf (partOf 1 (partOf 0 (Ep23 73)))) q2.1.Num.fmag.length (capOf (partOf 1 (partOf 0 (Ep23 73)))), .bool q2.1.Den.fneg, .slice (adOf (partOf 3 (partOf 0 (Ep23 73)))) q2.1.Den.fmag.length (capOf (partOf 3 (partOf 0 (Ep23 73))))], fun Ep23 => Ep23 75 = .int .i64 q2.2, fun Ep23 => Ep23 14 = .pointer (some ⟨(blkOf (Ep23 14)), 0, none⟩), fun Ep23 => True, fun Ep23 => Ep23 15 = .int .i64 q2.2] [fun Ep23 => ro q9, fun Ep23 => bunA (fun (q4 : Heap) => Le q9 q4 ∧ RdS (RpI .u32) q4 (adOf (partOf 1 (partOf 0 (Ep23 73)))) q2.1.Num.fmag.length (capOf (partOf 1 (partOf 0 (Ep23 73)))) q2.1.Num.fmag ∧ RdS (RpI .u32) q4 (adOf (partOf 3 (partOf 0 (Ep23 73)))) q2.1.Den.fmag.length (capOf (partOf 3 (partOf 0 (Ep23 73)))) q2.1.Den.fmag) (fun (q4 : Heap) => [roD q9 q4]), fun Ep23 => cells (blkOf (Ep23 14)) 43 [.bool false, .slice none 0 0, .bool false, .slice none 0 0], fun Ep23 => cells (blkOf (Ep23 14)) 43 [.bool q2.1.Num.fneg, .slice (adOf (partOf 1 (partOf 0 (Ep23 73)))) q2.1.Num.fmag.length (capOf (partOf 1 (partOf 0 (Ep23 73)))), .bool q2.1.Den.fneg, .slice (adOf (partOf 3 (partOf 0 (Ep23 73)))) q2.1.Den.fmag.length (capOf (partOf 3 (partOf 0 (Ep23 73))))]] mixed (by kernel_rfl) (hS.pull 2) ?_ ?_
     ·refine ⟨?_, ?_, ?_, ?_, ?_, ?_, ?_, ?_, ?_, ?_, ?_, ?_, ?_, ?_, ?_, ?_, trivial⟩
      ·intro Ep23 w l' hE23 hO23 hF_ hS
       refine p (yl_move (hE23 13 rfl)) <| x_done <| ?_
       refine x_fin ⟨⟨_, rfl⟩, rfl, ?_⟩
       exact emk hS
      ·intro Ep23 w l' hE23 hO23 hF_ hS
       refine p (yl_move ((hE23 0 rfl).trans q33)) <| x_done <| ?_
       refine x_fin ⟨⟨_, rfl⟩, rfl, ?_⟩
       exact emk hS
      ·intro Ep23 w l' hE23 hO23 hF_ hS
       obtain ⟨q1y, -⟩ := hF_
       replace q1y : Ep23 65 = .slice q1i a0.length c_a0 := emk q1y
       refine p (yl_len_slice usl_60 q1y) <| x_done <| ?_
       refine x_fin ⟨⟨_, rfl⟩, rfl, ?_⟩
       exact emk hS
      ·intro Ep23 w l' hE23 hO23 hF_ hS
       obtain ⟨q1z, q20, -⟩ := hF_
       replace q1z : Ep23 64 = .slice q13 q1w.length q1x := emk q1z
       replace q20 : Ep23 66 = .int .i64 (a0.length : Int) := emk q20
       replace hS : St w0 w (ro q9 :: l') := emk hS
       refine p (yix_f sl_88 q1z q20 (q2e.le q0h) q3d) <| x_done <| ?_
       refine x_fin ⟨⟨_, rfl⟩, rfl, ?_⟩
       exact emk hS
      ·intro Ep23 w l' hE23 hO23 hF_ hS
       obtain ⟨q21, -⟩ := hF_
       replace q21 : Ep23 67 = .pointer (some ((adr q13).add ((a0.length : Int).toNat * R_exact_Int.sz))) := emk q21
       replace hS : St w0 w (ro q9 :: l') := emk hS
       have q_ := q2e.get q3d; obtain ⟨q4j, q3f, q48⟩ := q_
       rw [← q45] at q3f
       obtain ⟨q3r, q4g, q3s, rfl, q34⟩ := q3f
       have e_ := q34.n; subst e_
       refine pa (v := .agg #[.bool q0v.fneg, .slice q3r q0v.fmag.length q3s]) (at_loadAgg agg_41 q21 rfl (Elt.every (Elt.le q48 q0h) hS)) <| x_done <| ?_
       refine x_fin ⟨⟨_, rfl⟩, ⟨rfl, q34⟩, ?_⟩
       exact emk hS
      ·intro Ep23 w l' hE23 hO23 hF_ hS
       refine p (yl_move (hE23 13 rfl)) <| x_done <| ?_
       refine x_fin ⟨⟨_, rfl⟩, rfl, ?_⟩
       exact emk hS
      ·intro Ep23 w l' hE23 hO23 hF_ hS
       refine p (yl_move (hE23 12 rfl)) <| x_done <| ?_
       refine x_fin ⟨⟨_, rfl⟩, rfl, ?_⟩
       exact emk hS
      ·intro Ep23 w l' hE23 hO23 hF_ hS
       obtain ⟨q22, q23, -⟩ := hF_
       replace q22 : Ep23 69 = .slice q13 q1w.length q1x := emk q22
       replace q23 : Ep23 70 = .int .i64 q0k := emk q23
       replace hS : St w0 w (ro q9 :: l') := emk hS
       refine p (yix_f sl_88 q22 q23 (q2e.le q0h) q3e) <| x_done <| ?_
       refine x_fin ⟨⟨_, rfl⟩, rfl, ?_⟩
       exact emk hS
      ·intro Ep23 w l' hE23 hO23 hF_ hS
       obtain ⟨q24, -⟩ := hF_
       replace q24 : Ep23 71 = .pointer (some ((adr q13).add (q0k.toNat * R_exact_Int.sz))) := emk q24
       replace hS : St w0 w (ro q9 :: l') := emk hS
       have q_ := q2e.get q3e; obtain ⟨q4k, q3g, q49⟩ := q_
       rw [← q46] at q3g
       obtain ⟨q3t, q4h, q3u, rfl, q35⟩ := q3g
       have e_ := q35.n; subst e_
       refine pa (v := .agg #[.bool q0w.fneg, .slice q3t q0w.fmag.length q3u]) (at_loadAgg agg_41 q24 rfl (Elt.every (Elt.le q49 q0h) hS)) <| x_done <| ?_
       refine x_fin ⟨⟨_, rfl⟩, ⟨rfl, q35⟩, ?_⟩
       exact emk hS
      ·intro Ep23 w l' hE23 hO23 hF_ hS
       obtain ⟨q1g, q1h, -⟩ := hF_
       replace q1g : Ep23 68 = .agg #[.bool q0v.fneg, .slice (adOf (partOf 1 (Ep23 68))) q0v.fmag.length (capOf (partOf 1 (Ep23 68)))] ∧ RdS (RpI .u32) q0n (adOf (partOf 1 (Ep23 68))) q0v.fmag.length (capOf (partOf 1 (Ep23 68))) q0v.fmag := emk q1g
       have q_ := id q1g; obtain ⟨-, q3h⟩ := q_
       replace q1h : Ep23 72 = .agg #[.bool q0w.fneg, .slice (adOf (partOf 1 (Ep23 72))) q0w.fmag.length (capOf (partOf 1 (Ep23 72)))] ∧ RdS (RpI .u32) q0n (adOf (partOf 1 (Ep23 72))) q0w.fmag.length (capOf (partOf 1 (Ep23 72))) q0w.fmag := emk q1h
       have q_ := id q1h; obtain ⟨-, q3i⟩ := q_
       replace hS : St w0 w (ro q9 :: l') := emk hS
       have hcall := c_exact_reduced q47 (q3h.le q0h) (q3i.le q0h) hS
       refine o_cc call_34 (args2 q1g.1 q1h.1) hcall ?_
       rintro e w' ⟨q4, q2f, q3n, c_y0_ret_1_23_9, q2g, q3o, c_y0_ret_3_23_9, rfl, q36, q0x, q0y, hS⟩
       refine ⟨_, rfl, ?_⟩
       have e_ := q0x.n; subst e_
       have e_ := q0y.n; subst e_
       refine x_done <| ?_
       refine x_fin ⟨⟨_, rfl⟩, rfl, ?_⟩
       replace hS := St.ro_split q36 hS
       replace hS := St.bun (Φ := (fun (q4 : Heap) => Le q9 q4 ∧ RdS (RpI .u32) q4 q2f q2.1.Num.fmag.length c_y0_ret_1_23_9 q2.1.Num.fmag ∧ RdS (RpI .u32) q4 q2g q2.1.Den.fmag.length c_y0_ret_3_23_9 q2.1.Den.fmag)) (L := (fun (q4 : Heap) => [roD q9 q4])) q4 ⟨q36, q0x, q0y⟩ (hS.pull 1)
       exact emk (hS.pull 1)
      ·intro Ep23 w l' hE23 hO23 hF_ hS
       obtain ⟨q0p, -⟩ := hF_
       replace q0p : Ep23 73 = .tuple #[.agg #[.bool q2.1.Num.fneg, .slice (adOf (partOf 1 (partOf 0 (Ep23 73)))) q2.1.Num.fmag.length (capOf (partOf 1 (partOf 0 (Ep23 73)))), .bool q2.1.Den.fneg, .slice (adOf (partOf 3 (partOf 0 (Ep23 73)))) q2.1.Den.fmag.length (capOf (partOf 3 (partOf 0 (Ep23 73))))], .int .i64 q2.2] := emk q0p
       refine p (yl_move q0p) <| x_done <| ?_
       refine x_fin ⟨⟨_, rfl⟩, rfl, ?_⟩
       exact emk hS
      ·intro Ep23 w l' hE23 hO23 hF_ hS
       obtain ⟨q0p, q11, -⟩ := hF_
       replace q0p : Ep23 73 = .tuple #[.agg #[.bool q2.1.Num.fneg, .slice (adOf (partOf 1 (partOf 0 (Ep23 73)))) q2.1.Num.fmag.length (capOf (partOf 1 (partOf 0 (Ep23 73)))), .bool q2.1.Den.fneg, .slice (adOf (partOf 3 (partOf 0 (Ep23 73)))) q2.1.Den.fmag.length (capOf (partOf 3 (partOf 0 (Ep23 73))))], .int .i64 q2.2] := emk q0p
       replace q11 : Ep23 63 = .tuple #[.agg #[.bool q2.1.Num.fneg, .slice (adOf (partOf 1 (partOf 0 (Ep23 73)))) q2.1.Num.fmag.length (capOf (partOf 1 (partOf 0 (Ep23 73)))), .bool q2.1.Den.fneg, .slice (adOf (partOf 3 (partOf 0 (Ep23 73)))) q2.1.Den.fmag.length (capOf (partOf 3 (partOf 0 (Ep23 73))))], .int .i64 q2.2] := emk q11
       refine p (yl_extract q11 rfl) <| x_done <| ?_
       refine x_fin ⟨⟨_, rfl⟩, rfl, ?_⟩
       exact emk hS
      ·intro Ep23 w l' hE23 hO23 hF_ hS
       obtain ⟨q0p, q11, -⟩ := hF_
       replace q0p : Ep23 73 = .tuple #[.agg #[.bool q2.1.Num.fneg, .slice (adOf (partOf 1 (partOf 0 (Ep23 73)))) q2.1.Num.fmag.length (capOf (partOf 1 (partOf 0 (Ep23 73)))), .bool q2.1.Den.fneg, .slice (adOf (partOf 3 (partOf 0 (Ep23 73)))) q2.1.Den.fmag.length (capOf (partOf 3 (partOf 0 (Ep23 73))))], .int .i64 q2.2] := emk q0p
       replace q11 : Ep23 63 = .tuple #[.agg #[.bool q2.1.Num.fneg, .slice (adOf (partOf 1 (partOf 0 (Ep23 73)))) q2.1.Num.fmag.length (capOf (partOf 1 (partOf 0 (Ep23 73)))), .bool q2.1.Den.fneg, .slice (adOf (partOf 3 (partOf 0 (Ep23 73)))) q2.1.Den.fmag.length (capOf (partOf 3 (partOf 0 (Ep23 73))))], .int .i64 q2.2] := emk q11
       refine p (yl_extract q11 rfl) <| x_done <| ?_
       refine x_fin ⟨⟨_, rfl⟩, rfl, ?_⟩
       exact emk hS
      ·intro Ep23 w l' hE23 hO23 hF_ hS
       refine o_alloc zero_43 hS (fun b14 w' hS => ?_)
       refine x_done <| ?_
       refine x_fin ⟨⟨_, rfl⟩, rfl, ?_⟩
       exact emk hS
      ·intro Ep23 w l' hE23 hO23 hF_ hS
       obtain ⟨q0p, q1o, q1d, -⟩ := hF_
       replace q0p : Ep23 73 = .tuple #[.agg #[.bool q2.1.Num.fneg, .slice (adOf (partOf 1 (partOf 0 (Ep23 73)))) q2.1.Num.fmag.length (capOf (partOf 1 (partOf 0 (Ep23 73)))), .bool q2.1.Den.fneg, .slice (adOf (partOf 3 (partOf 0 (Ep23 73)))) q2.1.Den.fmag.length (capOf (partOf 3 (partOf 0 (Ep23 73))))], .int .i64 q2.2] := emk q0p
       replace q1o : Ep23 74 = .agg #[.bool q2.1.Num.fneg, .slice (adOf (partOf 1 (partOf 0 (Ep23 73)))) q2.1.Num.fmag.length (capOf (partOf 1 (partOf 0 (Ep23 73)))), .bool q2.1.Den.fneg, .slice (adOf (partOf 3 (partOf 0 (Ep23 73)))) q2.1.Den.fmag.length (capOf (partOf 3 (partOf 0 (Ep23 73))))] := emk q1o
       replace q1d : Ep23 14 = .pointer (some ⟨(blkOf (Ep23 14)), 0, none⟩) := emk q1d
       replace hS : St w0 w (cells (blkOf (Ep23 14)) 43 [.bool false, .slice none 0 0, .bool false, .slice none 0 0] :: l') := emk hS
       refine o_storeAgg (news := [.bool q2.1.Num.fneg, .slice (adOf (partOf 1 (partOf 0 (Ep23 73)))) q2.1.Num.fmag.length (capOf (partOf 1 (partOf 0 (Ep23 73)))), .bool q2.1.Den.fneg, .slice (adOf (partOf 3 (partOf 0 (Ep23 73)))) q2.1.Den.fmag.length (capOf (partOf 3 (partOf 0 (Ep23 73))))]) agg_43 q1d q1o rfl (by simp [over_length]) hS (fun w' hS => ?_)
       refine x_done <| ?_
       refine x_fin ⟨⟨undef, rfl⟩, trivial, ?_⟩
       exact emk hS
      ·intro Ep23 w l' hE23 hO23 hF_ hS
       obtain ⟨q1p, -⟩ := hF_
       replace q1p : Ep23 75 = .int .i64 q2.2 := emk q1p
       refine p (yl_assign q1p) <| x_done <| ?_
       refine x_fin ⟨⟨_, rfl⟩, rfl, ?_⟩
       exact emk hS
     intro Ep23 w' hE23 hF_ hS
     obtain ⟨q1z, q1y, q20, q21, q1g, q22, q23, q24, q1h, q0p, q11, q1o, q1p, q1d, q2h, -⟩ := hF_
     replace q1z : Ep23 64 = .slice q13 q1w.length q1x := emk q1z
     replace q1y : Ep23 65 = .slice q1i a0.length c_a0 := emk q1y
     replace q20 : Ep23 66 = .int .i64 (a0.length : Int) := emk q20
     replace q21 : Ep23 67 = .pointer (some ((adr q13).add ((a0.length : Int).toNat * R_exact_Int.sz))) := emk q21
     replace q1g : Ep23 68 = .agg #[.bool q0v.fneg, .slice (adOf (partOf 1 (Ep23 68))) q0v.fmag.length (capOf (partOf 1 (Ep23 68)))] ∧ RdS (RpI .u32) q0n (adOf (partOf 1 (Ep23 68))) q0v.fmag.length (capOf (partOf 1 (Ep23 68))) q0v.fmag := emk q1g
     have q_ := id q1g; obtain ⟨-, q3h⟩ := q_
     replace q22 : Ep23 69 = .slice q13 q1w.length q1x := emk q22
     replace q23 : Ep23 70 = .int .i64 q0k := emk q23
     replace q24 : Ep23 71 = .pointer (some ((adr q13).add (q0k.toNat * R_exact_Int.sz))) := emk q24
     replace q1h : Ep23 72 = .agg #[.bool q0w.fneg, .slice (adOf (partOf 1 (Ep23 72))) q0w.fmag.length (capOf (partOf 1 (Ep23 72)))] ∧ RdS (RpI .u32) q0n (adOf (partOf 1 (Ep23 72))) q0w.fmag.length (capOf (partOf 1 (Ep23 72))) q0w.fmag := emk q1h
     have q_ := id q1h; obtain ⟨-, q3i⟩ := q_
     replace q0p : Ep23 73 = .tuple #[.agg #[.bool q2.1.Num.fneg, .slice (adOf (partOf 1 (partOf 0 (Ep23 73)))) q2.1.Num.fmag.length (capOf (partOf 1 (partOf 0 (Ep23 73)))), .bool q2.1.Den.fneg, .slice (adOf (partOf 3 (partOf 0 (Ep23 73)))) q2.1.Den.fmag.length (capOf (partOf 3 (partOf 0 (Ep23 73))))], .int .i64 q2.2] := emk q0p
     replace q11 : Ep23 63 = .tuple #[.agg #[.bool q2.1.Num.fneg, .slice (adOf (partOf 1 (partOf 0 (Ep23 73)))) q2.1.Num.fmag.length (capOf (partOf 1 (partOf 0 (Ep23 73)))), .bool q2.1.Den.fneg, .slice (adOf (partOf 3 (partOf 0 (Ep23 73)))) q2.1.Den.fmag.length (capOf (partOf 3 (partOf 0 (Ep23 73))))], .int .i64 q2.2] := emk q11
     replace q1o : Ep23 74 = .agg #[.bool q2.1.Num.fneg, .slice (adOf (partOf 1 (partOf 0 (Ep23 73)))) q2.1.Num.fmag.length (capOf (partOf 1 (partOf 0 (Ep23 73)))), .bool q2.1.Den.fneg, .slice (adOf (partOf 3 (partOf 0 (Ep23 73)))) q2.1.Den.fmag.length (capOf (partOf 3 (partOf 0 (Ep23 73))))] := emk q1o
     replace q1p : Ep23 75 = .int .i64 q2.2 := emk q1p
     replace q1d : Ep23 14 = .pointer (some ⟨(blkOf (Ep23 14)), 0, none⟩) := emk q1d
     replace q2h : Ep23 15 = .int .i64 q2.2 := emk q2h
     replace hS : St w0 w' (ro q9 :: bunA (fun (q4 : Heap) => Le q9 q4 ∧ RdS (RpI .u32) q4 (adOf (partOf 1 (partOf 0 (Ep23 73)))) q2.1.Num.fmag.length (capOf (partOf 1 (partOf 0 (Ep23 73)))) q2.1.Num.fmag ∧ RdS (RpI .u32) q4 (adOf (partOf 3 (partOf 0 (Ep23 73)))) q2.1.Den.fmag.length (capOf (partOf 3 (partOf 0 (Ep23 73)))) q2.1.Den.fmag) (fun (q4 : Heap) => [roD q9 q4]) :: cells (blkOf (Ep23 14)) 43 [.bool q2.1.Num.fneg, .slice (adOf (partOf 1 (partOf 0 (Ep23 73)))) q2.1.Num.fmag.length (capOf (partOf 1 (partOf 0 (Ep23 73)))), .bool q2.1.Den.fneg, .slice (adOf (partOf 3 (partOf 0 (Ep23 73)))) q2.1.Den.fmag.length (capOf (partOf 3 (partOf 0 (Ep23 73))))] :: (vec 43 R_exact_Ratio.sz (.slice q0z q0o.length c_out11_L21h) q0o.length q0q :: vec 88 (RpSl R_exact_Int).sz (.slice q3 q0f.1.length c_b_y0_ret_0_ret_12_3) q0f.1.length q5 :: l)) := emk hS
     have q_ := St.unbun (hS.pull 1); obtain ⟨q4, ⟨q2w, q0x, q0y⟩, hS⟩ := q_
     have q_ := St.ro_join (hS.pull 1) (Le.refl _) q2w; obtain ⟨q25, q2c, q2v, hS, q4e⟩ := q_
     refine x_seq <| x_seq <| x_region <| p (yl_move q2h) <|
      p (yl_neq rfl rfl) <| x_done <|
      x_cond_p (q2.2 ≠ 0) rfl (fun hc77 => ?_) (fun hc77 => ?_)
     ·replace hFL21 := it_t hc77 hFL21
      refine x_seq <| x_region <| p (yl_move q2h) <| p (yl_assign rfl) <|
       p (yl_assign rfl) <| x_done <| ?_
      replace hS := St.vec_nil hS 43 R_exact_Ratio.sz
      have q6 : RepL R_exact_Ratio q25 [] [] := rfl
      have e_ := sinj hFL21; subst e_
      have e_ := (show _ = oL21 from hLL21); subst e_
      have e_ := sinj hF; subst e_
      exact x_return ⟨_, ⟨_, _, rfl, rfl, _, _, rfl, rfl, rfl⟩, q25, none, 0, 0, [], rfl, ((((q1e.trans q2k).trans q2r).trans q0h).trans q2c), q6, (((((hS.pull 2).drop.pull 2).drop.pull 2).drop.pull 1).pull 1)⟩
     ·replace hFL21 := it_f hc77 hFL21
      refine x_skip <| x_region <| p (yl_move ((hE23 11 rfl).trans q2s)) <| pa (v := .agg #[.bool q2.1.Num.fneg, .slice (adOf (partOf 1 (partOf 0 (Ep23 73)))) q2.1.Num.fmag.length (capOf (partOf 1 (partOf 0 (Ep23 73)))), .bool q2.1.Den.fneg, .slice (adOf (partOf 3 (partOf 0 (Ep23 73)))) q2.1.Den.fmag.length (capOf (partOf 3 (partOf 0 (Ep23 73))))]) (ld_sub agg_43 q1d rfl rfl (hS.pull 1)) <| ?_
      refine o_buildSlice (vs := [.agg #[.bool q2.1.Num.fneg, .slice (adOf (partOf 1 (partOf 0 (Ep23 73)))) q2.1.Num.fmag.length (capOf (partOf 1 (partOf 0 (Ep23 73)))), .bool q2.1.Den.fneg, .slice (adOf (partOf 3 (partOf 0 (Ep23 73)))) q2.1.Den.fmag.length (capOf (partOf 3 (partOf 0 (Ep23 73))))]]) (cs := [.bool q2.1.Num.fneg, .slice (adOf (partOf 1 (partOf 0 (Ep23 73)))) q2.1.Num.fmag.length (capOf (partOf 1 (partOf 0 (Ep23 73)))), .bool q2.1.Den.fneg, .slice (adOf (partOf 3 (partOf 0 (Ep23 73)))) q2.1.Den.fmag.length (capOf (partOf 3 (partOf 0 (Ep23 73))))]) sl_64 zero_43 (parts_eq (pt (va := .agg #[.bool q2.1.Num.fneg, .slice (adOf (partOf 1 (partOf 0 (Ep23 73)))) q2.1.Num.fmag.length (capOf (partOf 1 (partOf 0 (Ep23 73)))), .bool q2.1.Den.fneg, .slice (adOf (partOf 3 (partOf 0 (Ep23 73)))) q2.1.Den.fmag.length (capOf (partOf 3 (partOf 0 (Ep23 73))))]) rfl pt0)) rfl (by intro v hv; simp only [List.mem_cons, List.not_mem_nil, or_false] at hv; first | (subst hv; rfl) | (rcases hv with rfl <;> rfl)) (by decide) rfl hS (fun b81 w' hS => ?_)
      replace hFL21 := lv_s hFL21; obtain ⟨q3p, q4a, hFL21⟩ := hFL21
      replace hFL21 := ck_s hFL21; obtain ⟨q4b, hFL21⟩ := hFL21
      refine o_ap sl_64 zero_43 rfl (by decide) rfl rfl (hS.pull 3) (q1c.le q2c) (src_blk usl_64 hS rfl rfl) (RepL.cons (R := R_exact_Ratio) (ρ := q25) (x := q2.1) (cs := [.bool q2.1.Num.fneg, .slice (adOf (partOf 1 (partOf 0 (Ep23 73)))) q2.1.Num.fmag.length (capOf (partOf 1 (partOf 0 (Ep23 73)))), .bool q2.1.Den.fneg, .slice (adOf (partOf 3 (partOf 0 (Ep23 73)))) q2.1.Den.fmag.length (capOf (partOf 3 (partOf 0 (Ep23 73))))]) ⟨_, _, _, _, _, _, rfl, (q0x.le q2v), (q0y.le q2v)⟩ RepL.nil) q4a q4b (fun A82 c82 cs82 w' hr82 hS => ?_)
      replace hFL21 := ar_s hFL21; obtain ⟨x83, hx83, hFL21⟩ := hFL21
      refine p (yl_assign rfl) <| x_done <| x_blk <| x_region <|
       p (yadd ((hE23 58 rfl).trans q1s) rfl hx83) <| p (yl_move rfl) <| x_done <| ?_
      have e_ := sinj hFL21; subst e_
      exact x_inv ⟨kL21, Nat.lt_succ_self _, q25, A82, q3p.length, c82, cs82, q3p, x83, hLL21, (q0h.trans q2c), ((hE23 0 rfl).trans q33), rfl, ((hE23 56 rfl).trans q2t), ((hE23 57 rfl).trans q2u), rfl, hr82, (((((hS.pull 1).drop.pull 2).drop.pull 1).pull 2).pull 2)⟩
    ·replace hFL21 := it_f hc59 hFL21
     refine x_exitTo _ rfl <| ?_
     have e_ := sinj hFL21; subst e_
     exact x_inv ⟨q9, q0z, q0o.length, c_out11_L21h, q0q, q0o, hLL21, q0h, q2s, q1c, (((hS.pull 1).drop.pull 1).pull 1)⟩
   rintro E w ⟨q2d, q19, q1a, c_out11_L21, q17, q1f, rfl, q3l, q3v, q29, hS⟩
   have e_ := St.vec_n hS q29; subst e_
   refine x_seq <| x_region <| p (yl_move q3v) <| p (yl_assign rfl) <|
    p (yl_assign rfl) <| x_done <| ?_
   have e_ := sinj hF; subst e_
   exact x_return ⟨_, ⟨_, _, rfl, rfl, _, _, rfl, rfl, rfl⟩, q2d, q19, q1f.length, c_out11_L21, q17, rfl, (((q1e.trans q2k).trans q2r).trans q3l), q29, ((hS.pull 1).pull 1)⟩
attribute [irreducible] P_exact_Solve

def P_place_Solve_L15 (q5 : (List T_exact_Ratio × Int)) (q6 : (List T_exact_Ratio × Int)) : (List T_place_Spot × Int) → Option ((List T_place_Spot × Int) ⊕ List T_place_Spot) := fun (q3, q2) =>
 if q2 < (q5.1.length : Int) then
  ck (inb q2 q5.1.length) <|
  lv (gt q5.1 q2) fun q7 =>
  ck (inb q2 q6.1.length) <|
  lv (gt q6.1 q2) fun q8 =>
  lv (q3 ++ [(T_place_Spot.mk q7 q8)]) fun q4 =>
  ck (apOk 128 q4.length) <|
  ar (q2 + 1) fun x67 =>
  some (Sum.inl (q4, x67))
 else
  some (Sum.inr q3)
def P_place_Solve (cells0 : Int) (l_1 : List T_place_Pull) : Option (List T_place_Spot × Int) :=
 bd (P_place_Check cells0 l_1) fun q6 =>
 if q6 ≠ 0 then
  some ([], q6)
 else
  bd (P_place_held cells0 l_1) fun q7 =>
  if (!q7) = true then
   some ([], (18 : Int))
  else
   bd (P_place_system cells0 l_1) fun q2 =>
   bd (P_exact_Solve q2.1 q2.2.1) fun q5 =>
   if q5.2 ≠ 0 then
    some ([], q5.2)
   else
    bd (P_exact_Solve q2.1 q2.2.2) fun q3 =>
    if q3.2 ≠ 0 then
     some ([], q3.2)
    else
     bd (
      lp (P_place_Solve_L15 q5 q3) fuel ([], 0)) fun q4 =>
     some (q4, (0 : Int))
theorem c_place_Solve {w0 w : World} {l : List Assn} {ρ : Heap} {q1y : Option Addr} {q1z : Nat} {c_l_1 : Nat} {cells0 : Int} {l_1 : List T_place_Pull} {r : (List T_place_Spot × Int)} (hF : P_place_Solve cells0 l_1 = some r) (q1i : RdS R_place_Pull ρ q1y q1z c_l_1 l_1) (hS : St w0 w (ro ρ :: l)) :
  Calls Try.prog 8 #[.int .i64 cells0, .slice q1y q1z c_l_1] w fun e w' => ∃ (ρ' : Heap) (q1j : Option Addr) (q1b : Nat) (c_y0_ret : Nat) (q1h : List Value), e = .returned (.tuple #[.slice q1j q1b c_y0_ret, .int .i64 r.2]) ∧ Le ρ ρ' ∧ RepL R_place_Spot ρ' r.1 q1h ∧ St w0 w' (vec 45 R_place_Spot.sz (.slice q1j q1b c_y0_ret) q1b q1h :: ro ρ' :: l) := by
 have e_ := q1i.n; subst e_
 refine enterC Try.func8 rfl 69 rfl (by simp) ?_
 replace hF := bd_s hF; obtain ⟨q1k, q2u, hF⟩ := hF
 refine x_seq <| x_region <| p (yl_assign rfl) <| p (yl_assign rfl) <|
  x_done <| x_seq <| x_seq <| x_region <|
  p (yl_move rfl) <| p (yl_move rfl) <| ?_
 have hcall := c_place_Check q2u q1i hS
 refine o_cc call_21 (args2 rfl rfl) (hcall) ?_
 rintro e w' ⟨rfl, hS⟩
 refine ⟨_, rfl, ?_⟩
 refine p (v := .int .i64 q1k) (yl_assign rfl) <| x_done <| x_seq <| x_region <|
  p (v := .int .i64 q1k) (yl_move rfl) <| p (yl_neq rfl rfl) <| x_done <|
  x_cond_p (q1k ≠ 0) rfl (fun hc19 => ?_) (fun hc19 => ?_)
 ·replace hF := it_t hc19 hF
  refine x_seq <| x_region <| p (v := .int .i64 q1k) (yl_move rfl) <| p (yl_assign rfl) <|
   p (v := .int .i64 q1k) (yl_assign rfl) <| x_done <| ?_
  replace hS := St.vec_nil hS 45 R_place_Spot.sz
  have q0a : RepL R_place_Spot ρ [] [] := rfl
  have e_ := sinj hF; subst e_
  exact x_return ⟨_, ⟨_, _, rfl, rfl, _, _, rfl, rfl, rfl⟩, ρ, none, 0, 0, [], rfl, (Le.refl _), q0a, ((hS.pull 1).pull 1)⟩
 ·replace hF := it_f hc19 hF
  replace hF := bd_s hF; obtain ⟨q2y, q2v, hF⟩ := hF
  refine x_skip <| x_seq <| x_seq <| x_region <|
   p (yl_move rfl) <| p (yl_move rfl) <| ?_
  have hcall := c_place_held q2v q1i hS
  refine o_cc call_22 (args2 rfl rfl) (hcall) ?_
  rintro e w' ⟨rfl, hS⟩
  refine ⟨_, rfl, ?_⟩
  refine p (yl_not rfl) <| x_done <|
   x_cond (t := !q2y) rfl (fun hc24 => ?_) (fun hc24 => ?_)
  ·replace hF := it_t hc24 hF
   refine x_seq <| x_region <| p (yl_assign rfl) <| p (yl_assign rfl) <|
    x_done <| ?_
   replace hS := St.vec_nil hS 45 R_place_Spot.sz
   have q0a : RepL R_place_Spot ρ [] [] := rfl
   have e_ := sinj hF; subst e_
   exact x_return ⟨_, ⟨_, _, rfl, rfl, _, _, rfl, rfl, rfl⟩, ρ, none, 0, 0, [], rfl, (Le.refl _), q0a, ((hS.pull 1).pull 1)⟩
  ·replace hF := it_bf hc24 hF
   replace hF := bd_s hF; obtain ⟨q38, q2w, hF⟩ := hF
   refine x_skip <| x_seq <| x_region <| p (yl_move rfl) <|
    p (yl_move rfl) <| ?_
   have hcall := c_place_system q2w q1i hS
   refine o_cc call_23 (args2 rfl rfl) hcall ?_
   rintro e w' ⟨q2f, q2g, c_y0_ret_6_2, q2h, q2i, c_y1_ret_6_2, q2c, q2j, q2k, c_y2_ret_6_2, q2d, rfl, q2l, q0x, q0y, hS⟩
   refine ⟨_, rfl, ?_⟩
   have e_ := vec2_len hS; subst e_
   have e_ := St.vec_n (hS.pull 1) q0x; subst e_
   have e_ := St.vec_n (hS.pull 2) q0y; subst e_
   refine p (yl_move rfl) <| p (yl_extract rfl rfl) <| p (yl_extract rfl rfl) <| p (yl_extract rfl rfl) <|
    p (yl_assign rfl) <| p (yl_assign rfl) <| p (yl_assign rfl) <| x_done <|
    x_seq <| x_region <| p (yl_move rfl) <| p (yl_move rfl) <| ?_
   have q_ := St.vec2_fz ((hS.pull 3).pull 1); obtain ⟨q37, q0u, q20, hS⟩ := q_
   have q_ := St.vec_fz (hS.pull 1) (q0x.le q0u); obtain ⟨q33, q0m, q2m, hS⟩ := q_
   replace hF := bd_s hF; obtain ⟨q0j, q2x, hF⟩ := hF
   have hcall := c_exact_Solve q2x (q20.le q0m) q2m hS
   refine o_cc call_24 (args2 rfl rfl) hcall ?_
   rintro e w' ⟨q0h, q6, q2n, c_y0_ret_7_2, q0i, rfl, q0z, q0q, hS⟩
   refine ⟨_, rfl, ?_⟩
   have e_ := St.vec_n hS q0q; subst e_
   refine p (yl_move rfl) <| p (yl_extract rfl rfl) <| p (yl_extract rfl rfl) <| p (yl_assign rfl) <|
    p (yl_assign rfl) <| x_done <| x_seq <| x_seq <|
    x_region <| p (yl_move rfl) <| p (yl_neq rfl rfl) <| x_done <|
    x_cond_p (q0j.2 ≠ 0) rfl (fun hc39 => ?_) (fun hc39 => ?_)
   ·replace hF := it_t hc39 hF
    refine x_seq <| x_region <| p (yl_move rfl) <| p (yl_assign rfl) <|
     p (yl_assign rfl) <| x_done <| ?_
    replace hS := St.vec_nil hS 45 R_place_Spot.sz
    have q0a : RepL R_place_Spot q0h [] [] := rfl
    have e_ := sinj hF; subst e_
    exact x_return ⟨_, ⟨_, _, rfl, rfl, _, _, rfl, rfl, rfl⟩, q0h, none, 0, 0, [], rfl, ((q0u.trans q0m).trans q0z), q0a, ((((hS.pull 1).drop.pull 2).drop.pull 1).pull 1)⟩
   ·replace hF := it_f hc39 hF
    refine x_skip <| x_seq <| x_region <| p (yl_move rfl) <|
     p (yl_move rfl) <| ?_
    have q_ := St.vec_fz ((hS.pull 1).pull 2) (q0y.le ((q0u.trans q0m).trans q0z)); obtain ⟨q34, q0r, q2o, hS⟩ := q_
    replace hF := bd_s hF; obtain ⟨q0d, q2p, hF⟩ := hF
    have hcall := c_exact_Solve q2p (q20.le ((q0m.trans q0z).trans q0r)) q2o hS
    refine o_cc call_24 (args2 rfl rfl) hcall ?_
    rintro e w' ⟨q4, q5, q2e, c_y0_ret_10_2, q0g, rfl, q10, q0p, hS⟩
    refine ⟨_, rfl, ?_⟩
    have e_ := St.vec_n hS q0p; subst e_
    refine p (yl_move rfl) <| p (yl_extract rfl rfl) <| p (yl_extract rfl rfl) <| p (yl_assign rfl) <|
     p (yl_assign rfl) <| x_done <| x_seq <| x_seq <|
     x_region <| p (yl_move rfl) <| p (yl_neq rfl rfl) <| x_done <|
     x_cond_p (q0d.2 ≠ 0) rfl (fun hc48 => ?_) (fun hc48 => ?_)
    ·replace hF := it_t hc48 hF
     refine x_seq <| x_region <| p (yl_move rfl) <| p (yl_assign rfl) <|
      p (yl_assign rfl) <| x_done <| ?_
     replace hS := St.vec_nil hS 45 R_place_Spot.sz
     have q0a : RepL R_place_Spot q4 [] [] := rfl
     have e_ := sinj hF; subst e_
     exact x_return ⟨_, ⟨_, _, rfl, rfl, _, _, rfl, rfl, rfl⟩, q4, none, 0, 0, [], rfl, ((((q0u.trans q0m).trans q0z).trans q0r).trans q10), q0a, ((((hS.pull 1).drop.pull 2).drop.pull 1).pull 1)⟩
    ·replace hF := it_f hc48 hF
     refine x_skip <| x_seq <| x_region <| p (yl_assign rfl) <|
      x_done <| x_seq <| x_seq <| x_region <|
      p (yl_move rfl) <| p (yl_len_slice usl_64 rfl) <| p (yl_move rfl) <| x_done <| ?_
     replace hF := bd_s hF; obtain ⟨oL15, hLL15, hF⟩ := hF
     refine x_join (fun E w => ∃ (q0n : Option Addr) (q0o : Nat) (c_out13_L15 : Nat) (q0k : List Value) (q0t : List T_place_Spot), q0t = oL15 ∧ E 13 = .slice q0n q0o c_out13_L15 ∧ RepL R_place_Spot q4 q0t q0k ∧ St w0 w (vec 45 R_place_Spot.sz (.slice q0n q0o c_out13_L15) q0o q0k :: ro q4 :: l)) ?_ ?_
     ·refine x_block ?_
      replace hS := St.vec_nil hS 45 R_place_Spot.sz
      have q19 : RepL R_place_Spot q4 [] [] := rfl
      refine x_loop (fun k_ E w => ∃ (q9 : Option Addr) (q0l : Nat) (c_out13_L15h : Nat) (q0c : List Value) (q8 : List T_place_Spot) (q7 : Int), lp (P_place_Solve_L15 q0j q0d) k_ (q8, q7) = some oL15 ∧ E 10 = .slice q6 q0j.1.length c_y0_ret_7_2 ∧ E 12 = .slice q5 q0d.1.length c_y0_ret_10_2 ∧ E 13 = .slice q9 q0l c_out13_L15h ∧ E 51 = .int .i64 (q0j.1.length : Int) ∧ E 52 = .int .i64 q7 ∧ RepL R_place_Spot q4 q8 q0c ∧ St w0 w (vec 43 R_exact_Ratio.sz (.slice q6 q0j.1.length c_y0_ret_7_2) q0j.1.length q0i :: vec 43 R_exact_Ratio.sz (.slice q5 q0d.1.length c_y0_ret_10_2) q0d.1.length q0g :: vec 45 R_place_Spot.sz (.slice q9 q0l c_out13_L15h) q0l q0c :: ro q4 :: l)) fuel ⟨none, 0, 0, [], [], 0, hLL15, rfl, rfl, rfl, rfl, rfl, q19, ((((hS.pull 2).pull 1).pull 2).pull 3)⟩ ?_
      rintro kL15 E w ⟨q9, q0l, c_out13_L15h, q0c, q8, q7, hLL15, q1l, q1m, q1n, q1o, q1c, q0s, hS⟩
      have e_ := St.vec_n (hS.pull 2) q0s; subst e_
      replace hLL15 := lp_s hLL15; obtain ⟨kL15, obL15, rfl, hFL15, hLL15⟩ := hLL15
      refine x_seq <| x_region <| p (yl_lss q1c q1o) <| x_done <|
       x_seq <|
       x_cond_p (q7 < (q0j.1.length : Int)) rfl (fun hc53 => ?_) (fun hc53 => ?_)
      ·replace hFL15 := it_t hc53 hFL15
       refine x_skip <| x_seq <| x_block <| x_seq <|
        x_region <| p (yl_move q1c) <| p (yl_assign rfl) <| x_done <| ?_
       replace hFL15 := ck_s hFL15; obtain ⟨q1u, hFL15⟩ := hFL15
       replace hFL15 := lv_s hFL15; obtain ⟨q2, q2q, hFL15⟩ := hFL15
       replace hFL15 := ck_s hFL15; obtain ⟨q1v, hFL15⟩ := hFL15
       replace hFL15 := lv_s hFL15; obtain ⟨q3, q2r, hFL15⟩ := hFL15
       replace hFL15 := lv_s hFL15; obtain ⟨q0b, q21, hFL15⟩ := hFL15
       replace hFL15 := ck_s hFL15; obtain ⟨q22, hFL15⟩ := hFL15
       refine x_par (w0 := w0) [⟨[], [], [55], [], [], []⟩, ⟨[], [], [56], [], [], []⟩, ⟨[], [], [57], [], [], []⟩, ⟨[1, 2], [1, 2], [58], [0], [], []⟩, ⟨[1, 2, 3], [3], [59], [0], [], []⟩, ⟨[], [], [60], [], [], []⟩, ⟨[], [], [61], [], [], []⟩, ⟨[5, 6], [5, 6], [62], [1], [], []⟩, ⟨[5, 6, 7], [7], [63], [1], [], []⟩, ⟨[1, 2, 3, 4, 5, 6, 7, 8], [4, 8], [59, 63, 64], [], [], []⟩, ⟨[1, 2, 3, 4, 5, 6, 7, 8, 9], [4, 8, 9], [65], [], [], [2]⟩, ⟨[0, 1, 2, 3, 4, 5, 6, 7, 8, 9, 10], [0, 4, 8, 10], [66], [2, 4], [3], [5]⟩, ⟨[0, 1, 2, 3, 4, 5, 6, 7, 8, 9, 10, 11], [11], [13, 66], [], [], []⟩] [⟨none, none, []⟩, ⟨none, none, []⟩, ⟨(some 10), none, [59, 63, 65]⟩, ⟨none, (some 11), []⟩, ⟨none, none, []⟩, ⟨(some 11), none, [66]⟩] [13, 55, 56, 57, 58, 59, 60, 61, 62, 63, 64, 65, 66] [0, 1, 3, 4] [0, 1, 2, 4, 5] [0, 1, 2, 3, 4, 5, 6, 7, 8, 9, 10, 11, 12] [fun Ep17 => Ep17 55 = .slice q9 q8.length c_out13_L15h, fun Ep17 => Ep17 56 = .slice q6 q0j.1.length c_y0_ret_7_2, fun Ep17 => Ep17 57 = .int .i64 q7, fun Ep17 => Ep17 58 = .pointer (some ((adr q6).add (q7.toNat * R_exact_Ratio.sz))), fun Ep17 => Ep17 59 = .agg #[.bool q2.Num.fneg, .slice (adOf (partOf 1 (Ep17 59))) q2.Num.fmag.length (capOf (partOf 1 (Ep17 59))), .bool q2.Den.fneg, .slice (adOf (partOf 3 (Ep17 59))) q2.Den.fmag.length (capOf (partOf 3 (Ep17 59)))] ∧ RdS (RpI .u32) q0h (adOf (partOf 1 (Ep17 59))) q2.Num.fmag.length (capOf (partOf 1 (Ep17 59))) q2.Num.fmag ∧ RdS (RpI .u32) q0h (adOf (partOf 3 (Ep17 59))) q2.Den.fmag.length (capOf (partOf 3 (Ep17 59))) q2.Den.fmag, fun Ep17 => Ep17 60 = .slice q5 q0d.1.length c_y0_ret_10_2, fun Ep17 => Ep17 61 = .int .i64 q7, fun Ep17 => Ep17 62 = .pointer (some ((adr q5).add (q7.toNat * R_exact_Ratio.sz))), fun Ep17 => Ep17 63 = .agg #[.bool q3.Num.fneg, .slice (adOf (partOf 1 (Ep17 63))) q3.Num.fmag.length (capOf (partOf 1 (Ep17 63))), .bool q3.Den.fneg, .slice (adOf (partOf 3 (Ep17 63))) q3.Den.fmag.length (capOf (partOf 3 (Ep17 63)))] ∧ RdS (RpI .u32) q4 (adOf (partOf 1 (Ep17 63))) q3.Num.fmag.length (capOf (partOf 1 (Ep17 63))) q3.Num.fmag ∧ RdS (RpI .u32) q4 (adOf (partOf 3 (Ep17 63))) q3.Den.fmag.length (capOf (partOf 3 (Ep17 63))) q3.Den.fmag, fun Ep17 => Ep17 64 = .agg #[.bool q2.Num.fneg, .slice (adOf (partOf 1 (Ep17 59))) q2.Num.fmag.length (capOf (partOf 1 (Ep17 59))), .bool q2.Den.fneg, .slice (adOf (partOf 3 (Ep17 59))) q2.Den.fmag.length (capOf (partOf 3 (Ep17 59))), .bool q3.Num.fneg, .slice (adOf (partOf 1 (Ep17 63))) q3.Num.fmag.length (capOf (partOf 1 (Ep17 63))), .bool q3.Den.fneg, .slice (adOf (partOf 3 (Ep17 63))) q3.Den.fmag.length (capOf (partOf 3 (Ep17 63)))], fun Ep17 => Ep17 65 = .slice (some ⟨(blkOf (Ep17 65)), 0, none⟩) 1 1, fun Ep17 => Ep17 66 = .slice (adOf (Ep17 66)) q0b.length (capOf (Ep17 66)), fun Ep17 => Ep17 13 = .slice (adOf (Ep17 66)) q0b.length (capOf (Ep17 66))] [fun Ep17 => vec 43 R_exact_Ratio.sz (.slice q6 q0j.1.length c_y0_ret_7_2) q0j.1.length q0i, fun Ep17 => vec 43 R_exact_Ratio.sz (.slice q5 q0d.1.length c_y0_ret_10_2) q0d.1.length q0g, fun Ep17 => cells (blkOf (Ep17 65)) 45 [.bool q2.Num.fneg, .slice (adOf (partOf 1 (Ep17 59))) q2.Num.fmag.length (capOf (partOf 1 (Ep17 59))), .bool q2.Den.fneg, .slice (adOf (partOf 3 (Ep17 59))) q2.Den.fmag.length (capOf (partOf 3 (Ep17 59))), .bool q3.Num.fneg, .slice (adOf (partOf 1 (Ep17 63))) q3.Num.fmag.length (capOf (partOf 1 (Ep17 63))), .bool q3.Den.fneg, .slice (adOf (partOf 3 (Ep17 63))) q3.Den.fmag.length (capOf (partOf 3 (Ep17 63)))], fun Ep17 => vec 45 R_place_Spot.sz (.slice q9 q8.length c_out13_L15h) q8.length q0c, fun Ep17 => ro q4, fun Ep17 => bunA (fun (cs66 : List Value) => RepL R_place_Spot q4 q0b cs66) (fun (cs66 : List Value) => [vec 45 R_place_Spot.sz (.slice (adOf (Ep17 66)) q0b.length (capOf (Ep17 66))) q0b.length cs66])] mixed (by kernel_rfl) ((((hS.pull 3).pull 3).pull 3).pull 3) ?_ ?_
       ·refine ⟨?_, ?_, ?_, ?_, ?_, ?_, ?_, ?_, ?_, ?_, ?_, ?_, ?_, trivial⟩
        ·intro Ep17 w l' hE17 hO17 hF_ hS
         refine p (yl_move ((hO17 13 rfl).trans q1n)) <| x_done <| ?_
         refine x_fin ⟨⟨_, rfl⟩, rfl, ?_⟩
         exact emk hS
        ·intro Ep17 w l' hE17 hO17 hF_ hS
         refine p (yl_move ((hE17 10 rfl).trans q1l)) <| x_done <| ?_
         refine x_fin ⟨⟨_, rfl⟩, rfl, ?_⟩
         exact emk hS
        ·intro Ep17 w l' hE17 hO17 hF_ hS
         refine p (yl_move (hE17 14 rfl)) <| x_done <| ?_
         refine x_fin ⟨⟨_, rfl⟩, rfl, ?_⟩
         exact emk hS
        ·intro Ep17 w l' hE17 hO17 hF_ hS
         obtain ⟨q11, q12, -⟩ := hF_
         replace q11 : Ep17 56 = .slice q6 q0j.1.length c_y0_ret_7_2 := emk q11
         replace q12 : Ep17 57 = .int .i64 q7 := emk q12
         replace hS : St w0 w (vec 43 R_exact_Ratio.sz (.slice q6 q0j.1.length c_y0_ret_7_2) q0j.1.length q0i :: l') := emk hS
         refine p (yix_o sl_64 q11 q12 hS q0q q1u) <| x_done <| ?_
         refine x_fin ⟨⟨_, rfl⟩, rfl, ?_⟩
         exact emk hS
        ·intro Ep17 w l' hE17 hO17 hF_ hS
         obtain ⟨q13, -⟩ := hF_
         replace q13 : Ep17 58 = .pointer (some ((adr q6).add (q7.toNat * R_exact_Ratio.sz))) := emk q13
         replace hS : St w0 w (vec 43 R_exact_Ratio.sz (.slice q6 q0j.1.length c_y0_ret_7_2) q0j.1.length q0i :: l') := emk hS
         have q_ := q0q.get q1u; obtain ⟨q35, q1w, q2s⟩ := q_
         rw [← q2q] at q1w
         obtain ⟨q23, q2z, q24, q25, q30, q26, rfl, q1q, q1r⟩ := q1w
         have e_ := q1q.n; subst e_
         have e_ := q1r.n; subst e_
         refine pa (v := .agg #[.bool q2.Num.fneg, .slice q23 q2.Num.fmag.length q24, .bool q2.Den.fneg, .slice q25 q2.Den.fmag.length q26]) (at_loadAgg agg_43 q13 rfl (EltV.every q2s hS)) <| x_done <| ?_
         refine x_fin ⟨⟨_, rfl⟩, ⟨rfl, q1q, q1r⟩, ?_⟩
         exact emk hS
        ·intro Ep17 w l' hE17 hO17 hF_ hS
         refine p (yl_move ((hE17 12 rfl).trans q1m)) <| x_done <| ?_
         refine x_fin ⟨⟨_, rfl⟩, rfl, ?_⟩
         exact emk hS
        ·intro Ep17 w l' hE17 hO17 hF_ hS
         refine p (yl_move (hE17 14 rfl)) <| x_done <| ?_
         refine x_fin ⟨⟨_, rfl⟩, rfl, ?_⟩
         exact emk hS
        ·intro Ep17 w l' hE17 hO17 hF_ hS
         obtain ⟨q14, q15, -⟩ := hF_
         replace q14 : Ep17 60 = .slice q5 q0d.1.length c_y0_ret_10_2 := emk q14
         replace q15 : Ep17 61 = .int .i64 q7 := emk q15
         replace hS : St w0 w (vec 43 R_exact_Ratio.sz (.slice q5 q0d.1.length c_y0_ret_10_2) q0d.1.length q0g :: l') := emk hS
         refine p (yix_o sl_64 q14 q15 hS q0p q1v) <| x_done <| ?_
         refine x_fin ⟨⟨_, rfl⟩, rfl, ?_⟩
         exact emk hS
        ·intro Ep17 w l' hE17 hO17 hF_ hS
         obtain ⟨q16, -⟩ := hF_
         replace q16 : Ep17 62 = .pointer (some ((adr q5).add (q7.toNat * R_exact_Ratio.sz))) := emk q16
         replace hS : St w0 w (vec 43 R_exact_Ratio.sz (.slice q5 q0d.1.length c_y0_ret_10_2) q0d.1.length q0g :: l') := emk hS
         have q_ := q0p.get q1v; obtain ⟨q36, q1x, q2t⟩ := q_
         rw [← q2r] at q1x
         obtain ⟨q27, q31, q28, q29, q32, q2a, rfl, q1s, q1t⟩ := q1x
         have e_ := q1s.n; subst e_
         have e_ := q1t.n; subst e_
         refine pa (v := .agg #[.bool q3.Num.fneg, .slice q27 q3.Num.fmag.length q28, .bool q3.Den.fneg, .slice q29 q3.Den.fmag.length q2a]) (at_loadAgg agg_43 q16 rfl (EltV.every q2t hS)) <| x_done <| ?_
         refine x_fin ⟨⟨_, rfl⟩, ⟨rfl, q1s, q1t⟩, ?_⟩
         exact emk hS
        ·intro Ep17 w l' hE17 hO17 hF_ hS
         obtain ⟨q0e, q0f, -⟩ := hF_
         replace q0e : Ep17 59 = .agg #[.bool q2.Num.fneg, .slice (adOf (partOf 1 (Ep17 59))) q2.Num.fmag.length (capOf (partOf 1 (Ep17 59))), .bool q2.Den.fneg, .slice (adOf (partOf 3 (Ep17 59))) q2.Den.fmag.length (capOf (partOf 3 (Ep17 59)))] ∧ RdS (RpI .u32) q0h (adOf (partOf 1 (Ep17 59))) q2.Num.fmag.length (capOf (partOf 1 (Ep17 59))) q2.Num.fmag ∧ RdS (RpI .u32) q0h (adOf (partOf 3 (Ep17 59))) q2.Den.fmag.length (capOf (partOf 3 (Ep17 59))) q2.Den.fmag := emk q0e
         have q_ := id q0e; obtain ⟨-, q1d, q1e⟩ := q_
         replace q0f : Ep17 63 = .agg #[.bool q3.Num.fneg, .slice (adOf (partOf 1 (Ep17 63))) q3.Num.fmag.length (capOf (partOf 1 (Ep17 63))), .bool q3.Den.fneg, .slice (adOf (partOf 3 (Ep17 63))) q3.Den.fmag.length (capOf (partOf 3 (Ep17 63)))] ∧ RdS (RpI .u32) q4 (adOf (partOf 1 (Ep17 63))) q3.Num.fmag.length (capOf (partOf 1 (Ep17 63))) q3.Num.fmag ∧ RdS (RpI .u32) q4 (adOf (partOf 3 (Ep17 63))) q3.Den.fmag.length (capOf (partOf 3 (Ep17 63))) q3.Den.fmag := emk q0f
         have q_ := id q0f; obtain ⟨-, q1f, q1g⟩ := q_
         refine p (v := .agg #[.bool q2.Num.fneg, .slice (adOf (partOf 1 (Ep17 59))) q2.Num.fmag.length (capOf (partOf 1 (Ep17 59))), .bool q2.Den.fneg, .slice (adOf (partOf 3 (Ep17 59))) q2.Den.fmag.length (capOf (partOf 3 (Ep17 59))), .bool q3.Num.fneg, .slice (adOf (partOf 1 (Ep17 63))) q3.Num.fmag.length (capOf (partOf 1 (Ep17 63))), .bool q3.Den.fneg, .slice (adOf (partOf 3 (Ep17 63))) q3.Den.fmag.length (capOf (partOf 3 (Ep17 63)))]) (yl_build bld_45 bldf_45 (parts_eq (pt (va := .agg #[.bool q2.Num.fneg, .slice (adOf (partOf 1 (Ep17 59))) q2.Num.fmag.length (capOf (partOf 1 (Ep17 59))), .bool q2.Den.fneg, .slice (adOf (partOf 3 (Ep17 59))) q2.Den.fmag.length (capOf (partOf 3 (Ep17 59)))]) q0e.1 (pt (va := .agg #[.bool q3.Num.fneg, .slice (adOf (partOf 1 (Ep17 63))) q3.Num.fmag.length (capOf (partOf 1 (Ep17 63))), .bool q3.Den.fneg, .slice (adOf (partOf 3 (Ep17 63))) q3.Den.fmag.length (capOf (partOf 3 (Ep17 63)))]) q0f.1 pt0))) (by kernel_rfl)) <| x_done <| ?_
         refine x_fin ⟨⟨_, rfl⟩, rfl, ?_⟩
         exact emk hS
        ·intro Ep17 w l' hE17 hO17 hF_ hS
         obtain ⟨q0e, q0f, q17, -⟩ := hF_
         replace q0e : Ep17 59 = .agg #[.bool q2.Num.fneg, .slice (adOf (partOf 1 (Ep17 59))) q2.Num.fmag.length (capOf (partOf 1 (Ep17 59))), .bool q2.Den.fneg, .slice (adOf (partOf 3 (Ep17 59))) q2.Den.fmag.length (capOf (partOf 3 (Ep17 59)))] ∧ RdS (RpI .u32) q0h (adOf (partOf 1 (Ep17 59))) q2.Num.fmag.length (capOf (partOf 1 (Ep17 59))) q2.Num.fmag ∧ RdS (RpI .u32) q0h (adOf (partOf 3 (Ep17 59))) q2.Den.fmag.length (capOf (partOf 3 (Ep17 59))) q2.Den.fmag := emk q0e
         have q_ := id q0e; obtain ⟨-, q1d, q1e⟩ := q_
         replace q0f : Ep17 63 = .agg #[.bool q3.Num.fneg, .slice (adOf (partOf 1 (Ep17 63))) q3.Num.fmag.length (capOf (partOf 1 (Ep17 63))), .bool q3.Den.fneg, .slice (adOf (partOf 3 (Ep17 63))) q3.Den.fmag.length (capOf (partOf 3 (Ep17 63)))] ∧ RdS (RpI .u32) q4 (adOf (partOf 1 (Ep17 63))) q3.Num.fmag.length (capOf (partOf 1 (Ep17 63))) q3.Num.fmag ∧ RdS (RpI .u32) q4 (adOf (partOf 3 (Ep17 63))) q3.Den.fmag.length (capOf (partOf 3 (Ep17 63))) q3.Den.fmag := emk q0f
         have q_ := id q0f; obtain ⟨-, q1f, q1g⟩ := q_
         replace q17 : Ep17 64 = .agg #[.bool q2.Num.fneg, .slice (adOf (partOf 1 (Ep17 59))) q2.Num.fmag.length (capOf (partOf 1 (Ep17 59))), .bool q2.Den.fneg, .slice (adOf (partOf 3 (Ep17 59))) q2.Den.fmag.length (capOf (partOf 3 (Ep17 59))), .bool q3.Num.fneg, .slice (adOf (partOf 1 (Ep17 63))) q3.Num.fmag.length (capOf (partOf 1 (Ep17 63))), .bool q3.Den.fneg, .slice (adOf (partOf 3 (Ep17 63))) q3.Den.fmag.length (capOf (partOf 3 (Ep17 63)))] := emk q17
         refine o_buildSlice (vs := [.agg #[.bool q2.Num.fneg, .slice (adOf (partOf 1 (Ep17 59))) q2.Num.fmag.length (capOf (partOf 1 (Ep17 59))), .bool q2.Den.fneg, .slice (adOf (partOf 3 (Ep17 59))) q2.Den.fmag.length (capOf (partOf 3 (Ep17 59))), .bool q3.Num.fneg, .slice (adOf (partOf 1 (Ep17 63))) q3.Num.fmag.length (capOf (partOf 1 (Ep17 63))), .bool q3.Den.fneg, .slice (adOf (partOf 3 (Ep17 63))) q3.Den.fmag.length (capOf (partOf 3 (Ep17 63)))]]) (cs := [.bool q2.Num.fneg, .slice (adOf (partOf 1 (Ep17 59))) q2.Num.fmag.length (capOf (partOf 1 (Ep17 59))), .bool q2.Den.fneg, .slice (adOf (partOf 3 (Ep17 59))) q2.Den.fmag.length (capOf (partOf 3 (Ep17 59))), .bool q3.Num.fneg, .slice (adOf (partOf 1 (Ep17 63))) q3.Num.fmag.length (capOf (partOf 1 (Ep17 63))), .bool q3.Den.fneg, .slice (adOf (partOf 3 (Ep17 63))) q3.Den.fmag.length (capOf (partOf 3 (Ep17 63)))]) sl_29 zero_45 (parts_eq (pt (va := .agg #[.bool q2.Num.fneg, .slice (adOf (partOf 1 (Ep17 59))) q2.Num.fmag.length (capOf (partOf 1 (Ep17 59))), .bool q2.Den.fneg, .slice (adOf (partOf 3 (Ep17 59))) q2.Den.fmag.length (capOf (partOf 3 (Ep17 59))), .bool q3.Num.fneg, .slice (adOf (partOf 1 (Ep17 63))) q3.Num.fmag.length (capOf (partOf 1 (Ep17 63))), .bool q3.Den.fneg, .slice (adOf (partOf 3 (Ep17 63))) q3.Den.fmag.length (capOf (partOf 3 (Ep17 63)))]) q17 pt0)) rfl (by intro v hv; simp only [List.mem_cons, List.not_mem_nil, or_false] at hv; first | (subst hv; rfl) | (rcases hv with rfl <;> rfl)) (by decide) rfl hS (fun b65 w' hS => ?_)
         refine x_done <| ?_
         refine x_fin ⟨⟨_, rfl⟩, rfl, ?_⟩
         exact emk hS
        ·intro Ep17 w l' hE17 hO17 hF_ hS
         obtain ⟨q18, q0e, q0f, q0v, -⟩ := hF_
         replace q18 : Ep17 55 = .slice q9 q8.length c_out13_L15h := emk q18
         replace q0e : Ep17 59 = .agg #[.bool q2.Num.fneg, .slice (adOf (partOf 1 (Ep17 59))) q2.Num.fmag.length (capOf (partOf 1 (Ep17 59))), .bool q2.Den.fneg, .slice (adOf (partOf 3 (Ep17 59))) q2.Den.fmag.length (capOf (partOf 3 (Ep17 59)))] ∧ RdS (RpI .u32) q0h (adOf (partOf 1 (Ep17 59))) q2.Num.fmag.length (capOf (partOf 1 (Ep17 59))) q2.Num.fmag ∧ RdS (RpI .u32) q0h (adOf (partOf 3 (Ep17 59))) q2.Den.fmag.length (capOf (partOf 3 (Ep17 59))) q2.Den.fmag := emk q0e
         have q_ := id q0e; obtain ⟨-, q1d, q1e⟩ := q_
         replace q0f : Ep17 63 = .agg #[.bool q3.Num.fneg, .slice (adOf (partOf 1 (Ep17 63))) q3.Num.fmag.length (capOf (partOf 1 (Ep17 63))), .bool q3.Den.fneg, .slice (adOf (partOf 3 (Ep17 63))) q3.Den.fmag.length (capOf (partOf 3 (Ep17 63)))] ∧ RdS (RpI .u32) q4 (adOf (partOf 1 (Ep17 63))) q3.Num.fmag.length (capOf (partOf 1 (Ep17 63))) q3.Num.fmag ∧ RdS (RpI .u32) q4 (adOf (partOf 3 (Ep17 63))) q3.Den.fmag.length (capOf (partOf 3 (Ep17 63))) q3.Den.fmag := emk q0f
         have q_ := id q0f; obtain ⟨-, q1f, q1g⟩ := q_
         replace q0v : Ep17 65 = .slice (some ⟨(blkOf (Ep17 65)), 0, none⟩) 1 1 := emk q0v
         replace hS : St w0 w (cells (blkOf (Ep17 65)) 45 [.bool q2.Num.fneg, .slice (adOf (partOf 1 (Ep17 59))) q2.Num.fmag.length (capOf (partOf 1 (Ep17 59))), .bool q2.Den.fneg, .slice (adOf (partOf 3 (Ep17 59))) q2.Den.fmag.length (capOf (partOf 3 (Ep17 59))), .bool q3.Num.fneg, .slice (adOf (partOf 1 (Ep17 63))) q3.Num.fmag.length (capOf (partOf 1 (Ep17 63))), .bool q3.Den.fneg, .slice (adOf (partOf 3 (Ep17 63))) q3.Den.fmag.length (capOf (partOf 3 (Ep17 63)))] :: ro q4 :: vec 45 R_place_Spot.sz (.slice q9 q8.length c_out13_L15h) q8.length q0c :: l') := emk hS
         refine o_ap sl_29 zero_45 rfl (by decide) q18 q0v (hS.pull 2) q0s (src_blk usl_29 hS rfl rfl) (RepL.cons (R := R_place_Spot) (ρ := q4) (x := (T_place_Spot.mk q2 q3)) (cs := [.bool q2.Num.fneg, .slice (adOf (partOf 1 (Ep17 59))) q2.Num.fmag.length (capOf (partOf 1 (Ep17 59))), .bool q2.Den.fneg, .slice (adOf (partOf 3 (Ep17 59))) q2.Den.fmag.length (capOf (partOf 3 (Ep17 59))), .bool q3.Num.fneg, .slice (adOf (partOf 1 (Ep17 63))) q3.Num.fmag.length (capOf (partOf 1 (Ep17 63))), .bool q3.Den.fneg, .slice (adOf (partOf 3 (Ep17 63))) q3.Den.fmag.length (capOf (partOf 3 (Ep17 63)))]) ⟨_, _, _, _, _, _, _, _, _, _, _, _, rfl, (q1d.le (q0r.trans q10)), (q1e.le (q0r.trans q10)), q1f, q1g⟩ RepL.nil) q21 q22 (fun A66 c66 cs66 w' hr66 hS => ?_)
         refine x_done <| ?_
         refine x_fin ⟨⟨_, rfl⟩, rfl, ?_⟩
         replace hS := St.bun (Φ := (fun (cs66 : List Value) => RepL R_place_Spot q4 q0b cs66)) (L := (fun (cs66 : List Value) => [vec 45 R_place_Spot.sz (.slice A66 q0b.length c66) q0b.length cs66])) cs66 hr66 hS
         exact emk ((hS.pull 2).pull 2)
        ·intro Ep17 w l' hE17 hO17 hF_ hS
         obtain ⟨q0w, -⟩ := hF_
         replace q0w : Ep17 66 = .slice (adOf (Ep17 66)) q0b.length (capOf (Ep17 66)) := emk q0w
         refine p (yl_assign q0w) <| x_done <| ?_
         refine x_fin ⟨⟨_, rfl⟩, rfl, ?_⟩
         exact emk hS
       intro Ep17 w' hE17 hF_ hS
       obtain ⟨q18, q11, q12, q13, q0e, q14, q15, q16, q0f, q17, q0v, q0w, q1p, -⟩ := hF_
       replace q18 : Ep17 55 = .slice q9 q8.length c_out13_L15h := emk q18
       replace q11 : Ep17 56 = .slice q6 q0j.1.length c_y0_ret_7_2 := emk q11
       replace q12 : Ep17 57 = .int .i64 q7 := emk q12
       replace q13 : Ep17 58 = .pointer (some ((adr q6).add (q7.toNat * R_exact_Ratio.sz))) := emk q13
       replace q0e : Ep17 59 = .agg #[.bool q2.Num.fneg, .slice (adOf (partOf 1 (Ep17 59))) q2.Num.fmag.length (capOf (partOf 1 (Ep17 59))), .bool q2.Den.fneg, .slice (adOf (partOf 3 (Ep17 59))) q2.Den.fmag.length (capOf (partOf 3 (Ep17 59)))] ∧ RdS (RpI .u32) q0h (adOf (partOf 1 (Ep17 59))) q2.Num.fmag.length (capOf (partOf 1 (Ep17 59))) q2.Num.fmag ∧ RdS (RpI .u32) q0h (adOf (partOf 3 (Ep17 59))) q2.Den.fmag.length (capOf (partOf 3 (Ep17 59))) q2.Den.fmag := emk q0e
       have q_ := id q0e; obtain ⟨-, q1d, q1e⟩ := q_
       replace q14 : Ep17 60 = .slice q5 q0d.1.length c_y0_ret_10_2 := emk q14
       replace q15 : Ep17 61 = .int .i64 q7 := emk q15
       replace q16 : Ep17 62 = .pointer (some ((adr q5).add (q7.toNat * R_exact_Ratio.sz))) := emk q16
       replace q0f : Ep17 63 = .agg #[.bool q3.Num.fneg, .slice (adOf (partOf 1 (Ep17 63))) q3.Num.fmag.length (capOf (partOf 1 (Ep17 63))), .bool q3.Den.fneg, .slice (adOf (partOf 3 (Ep17 63))) q3.Den.fmag.length (capOf (partOf 3 (Ep17 63)))] ∧ RdS (RpI .u32) q4 (adOf (partOf 1 (Ep17 63))) q3.Num.fmag.length (capOf (partOf 1 (Ep17 63))) q3.Num.fmag ∧ RdS (RpI .u32) q4 (adOf (partOf 3 (Ep17 63))) q3.Den.fmag.length (capOf (partOf 3 (Ep17 63))) q3.Den.fmag := emk q0f
       have q_ := id q0f; obtain ⟨-, q1f, q1g⟩ := q_
       replace q17 : Ep17 64 = .agg #[.bool q2.Num.fneg, .slice (adOf (partOf 1 (Ep17 59))) q2.Num.fmag.length (capOf (partOf 1 (Ep17 59))), .bool q2.Den.fneg, .slice (adOf (partOf 3 (Ep17 59))) q2.Den.fmag.length (capOf (partOf 3 (Ep17 59))), .bool q3.Num.fneg, .slice (adOf (partOf 1 (Ep17 63))) q3.Num.fmag.length (capOf (partOf 1 (Ep17 63))), .bool q3.Den.fneg, .slice (adOf (partOf 3 (Ep17 63))) q3.Den.fmag.length (capOf (partOf 3 (Ep17 63)))] := emk q17
       replace q0v : Ep17 65 = .slice (some ⟨(blkOf (Ep17 65)), 0, none⟩) 1 1 := emk q0v
       replace q0w : Ep17 66 = .slice (adOf (Ep17 66)) q0b.length (capOf (Ep17 66)) := emk q0w
       replace q1p : Ep17 13 = .slice (adOf (Ep17 66)) q0b.length (capOf (Ep17 66)) := emk q1p
       replace hS : St w0 w' (vec 43 R_exact_Ratio.sz (.slice q6 q0j.1.length c_y0_ret_7_2) q0j.1.length q0i :: vec 43 R_exact_Ratio.sz (.slice q5 q0d.1.length c_y0_ret_10_2) q0d.1.length q0g :: cells (blkOf (Ep17 65)) 45 [.bool q2.Num.fneg, .slice (adOf (partOf 1 (Ep17 59))) q2.Num.fmag.length (capOf (partOf 1 (Ep17 59))), .bool q2.Den.fneg, .slice (adOf (partOf 3 (Ep17 59))) q2.Den.fmag.length (capOf (partOf 3 (Ep17 59))), .bool q3.Num.fneg, .slice (adOf (partOf 1 (Ep17 63))) q3.Num.fmag.length (capOf (partOf 1 (Ep17 63))), .bool q3.Den.fneg, .slice (adOf (partOf 3 (Ep17 63))) q3.Den.fmag.length (capOf (partOf 3 (Ep17 63)))] :: ro q4 :: bunA (fun (cs66 : List Value) => RepL R_place_Spot q4 q0b cs66) (fun (cs66 : List Value) => [vec 45 R_place_Spot.sz (.slice (adOf (Ep17 66)) q0b.length (capOf (Ep17 66))) q0b.length cs66]) :: (l)) := emk hS
       have q_ := St.unbun (hS.pull 4); obtain ⟨cs66, hr66, hS⟩ := q_
       replace hFL15 := ar_s hFL15; obtain ⟨x67, hx67, hFL15⟩ := hFL15
       refine x_blk <| x_region <| p (yadd ((hE17 52 rfl).trans q1c) rfl hx67) <| p (yl_move rfl) <|
        x_done <| ?_
       have e_ := sinj hFL15; subst e_
       exact x_inv ⟨kL15, Nat.lt_succ_self _, (adOf (Ep17 66)), q0b.length, (capOf (Ep17 66)), cs66, q0b, x67, hLL15, ((hE17 10 rfl).trans q1l), ((hE17 12 rfl).trans q1m), q1p, ((hE17 51 rfl).trans q1o), rfl, hr66, (((((hS.pull 3).drop.pull 3).pull 1).pull 3).pull 3)⟩
      ·replace hFL15 := it_f hc53 hFL15
       refine x_exitTo _ rfl <| ?_
       have e_ := sinj hFL15; subst e_
       exact x_inv ⟨q9, q8.length, c_out13_L15h, q0c, q8, hLL15, q1n, q0s, ((hS.drop.drop.pull 1).pull 1)⟩
     rintro E w ⟨q0n, q0o, c_out13_L15, q0k, q0t, rfl, q2b, q1a, hS⟩
     have e_ := St.vec_n hS q1a; subst e_
     refine x_seq <| x_region <| p (yl_move q2b) <| p (yl_assign rfl) <|
      p (yl_assign rfl) <| x_done <| ?_
     have e_ := sinj hF; subst e_
     exact x_return ⟨_, ⟨_, _, rfl, rfl, _, _, rfl, rfl, rfl⟩, q4, q0n, q0t.length, c_out13_L15, q0k, rfl, ((((q0u.trans q0m).trans q0z).trans q0r).trans q10), q1a, ((hS.pull 1).pull 1)⟩
attribute [irreducible] P_place_Solve

def P_exact_digits_B (rc_ : Int → Option ByteArray) : Int → Option ByteArray := fun n0 =>
 if n0 < 10 then
  lv (((48 : Int) + n0) % 4294967296) fun x6 =>
  lv (x6 % 256) fun x7 =>
  lv (strOf ([x7] : List Int)) fun x9 =>
  some x9
 else
  ck ((10 : Int) ≠ 0) <|
  lv ((Int.tdiv n0 10) % 4294967296) fun x11 =>
  bd (rc_ x11) fun q2 =>
  ck ((10 : Int) ≠ 0) <|
  lv (Int.tmod n0 10) fun x14 =>
  lv (((48 : Int) + x14) % 4294967296) fun x15 =>
  lv (x15 % 256) fun x16 =>
  lv (strOf ([x16] : List Int)) fun x18 =>
  ck (q2.size + x18.size ≤ 140737488355328) <|
  some (q2 ++ x18)
def P_exact_digits (n0 : Int) : Option ByteArray := rcf P_exact_digits_B fuel n0
theorem c_exact_digits_s (rc_ : Int → Option ByteArray) (ih : ∀ {w0 w : World} {l : List Assn} {ρ : Heap} {n0 : Int} {r : ByteArray} (hF : rc_ n0 = some r) (hS : St w0 w (ro ρ :: l)),
  Calls Try.prog 44 #[.int .u32 n0] w fun e w' => e = .returned (.string r) ∧ St w0 w' (ro ρ :: l)) {w0 w : World} {l : List Assn} {ρ : Heap} {n0 : Int} {r : ByteArray} (hF : P_exact_digits_B rc_ n0 = some r) (hS : St w0 w (ro ρ :: l)) :
  Calls Try.prog 44 #[.int .u32 n0] w fun e w' => e = .returned (.string r) ∧ St w0 w' (ro ρ :: l) := by
 unfold P_exact_digits_B at hF; try dsimp only at hF
 refine enterC Try.func44 rfl 20 rfl (by simp) ?_
 refine x_seq <| x_region <| p (yl_assign rfl) <| x_done <|
  x_seq <| x_seq <| x_region <| p (yl_move rfl) <|
  p (yl_lss rfl rfl) <| x_done <|
  x_cond_p (n0 < 10) rfl (fun hc4 => ?_) (fun hc4 => ?_)
 ·replace hF := it_t hc4 hF
  replace hF := lv_s hF; obtain ⟨x6, hx6, hF⟩ := hF
  replace hF := lv_s hF; obtain ⟨x7, hx7, hF⟩ := hF
  refine x_seq <| x_region <| p (yl_move rfl) <| p (yaddu wm_u32 rfl rfl hx6) <|
   p (yconvu wm_u8 uk_77 ik_5 rfl hx7) <| ?_
  refine o_buildSlice (vs := [.int .u8 x7]) (cs := [.int .u8 x7]) sl_92 zero_5 (parts_eq (pt (va := .int .u8 x7) rfl pt0)) rfl (by intro v hv; simp only [List.mem_cons, List.not_mem_nil, or_false] at hv; first | (subst hv; rfl) | (rcases hv with rfl <;> rfl)) (by decide) rfl hS (fun b8 w' hS => ?_)
  have q0f : RepL (RpI .u8) ρ ([x7] : List Int) [.int .u8 x7] := (RepL.cons (cs := [.int .u8 x7]) rfl RepL.nil)
  replace hS := St.vec_of (n := 1) (sz := (RpI .u8).sz) hS rfl (by decide)
  replace hF := lv_s hF; obtain ⟨x9, hx9, hF⟩ := hF
  refine pa (at_str usl_92 ui_5 us_9 rfl (St.vec_n hS q0f) (str_o hS q0f) hx9) <| p (yl_assign rfl) <| x_done <| ?_
  have e_ := sinj hF; subst e_
  exact x_return ⟨_, ⟨_, _, rfl, rfl, rfl⟩, rfl, hS.drop⟩
 ·replace hF := it_f hc4 hF
  refine x_skip <| x_seq <| ?_
  replace hF := ck_s hF; obtain ⟨q0g, hF⟩ := hF
  replace hF := lv_s hF; obtain ⟨x11, hx11, hF⟩ := hF
  replace hF := bd_s hF; obtain ⟨q2, q0h, hF⟩ := hF
  replace hF := ck_s hF; obtain ⟨q0i, hF⟩ := hF
  replace hF := lv_s hF; obtain ⟨x14, hx14, hF⟩ := hF
  replace hF := lv_s hF; obtain ⟨x15, hx15, hF⟩ := hF
  replace hF := lv_s hF; obtain ⟨x16, hx16, hF⟩ := hF
  replace hF := lv_s hF; obtain ⟨x18, hx18, hF⟩ := hF
  replace hF := ck_s hF; obtain ⟨q0j, hF⟩ := hF
  refine x_par (w0 := w0) [⟨[], [], [10], [], [], []⟩, ⟨[0], [0], [11], [], [], []⟩, ⟨[0, 1], [1], [12], [0], [], []⟩, ⟨[], [], [13], [], [], []⟩, ⟨[3], [3], [14], [], [], []⟩, ⟨[3, 4], [4], [15], [], [], []⟩, ⟨[3, 4, 5], [5], [16], [], [], []⟩, ⟨[3, 4, 5, 6], [6], [17], [], [], [1]⟩, ⟨[3, 4, 5, 6, 7], [7], [18], [], [1], [2]⟩, ⟨[0, 1, 2, 3, 4, 5, 6, 7, 8], [2, 8], [19], [], [], []⟩, ⟨[0, 1, 2, 3, 4, 5, 6, 7, 8, 9], [9], [2], [], [], []⟩] [⟨none, none, []⟩, ⟨(some 7), (some 8), [17]⟩, ⟨(some 8), none, [17]⟩] [2, 10, 11, 12, 13, 14, 15, 16, 17, 18, 19] [0] [0, 2] [0, 1, 2, 3, 4, 5, 6, 7, 8, 9, 10] [fun Ep3 => Ep3 10 = .int .u32 n0, fun Ep3 => Ep3 11 = .int .u32 x11, fun Ep3 => Ep3 12 = .string q2, fun Ep3 => Ep3 13 = .int .u32 n0, fun Ep3 => Ep3 14 = .int .u32 x14, fun Ep3 => Ep3 15 = .int .u32 x15, fun Ep3 => Ep3 16 = .int .u8 x16, fun Ep3 => Ep3 17 = .slice (some ⟨(blkOf (Ep3 17)), 0, none⟩) 1 1, fun Ep3 => Ep3 18 = .string x18, fun Ep3 => Ep3 19 = .string (q2 ++ x18), fun Ep3 => Ep3 2 = .string (q2 ++ x18)] [fun Ep3 => ro ρ, fun Ep3 => cells (blkOf (Ep3 17)) 5 [.int .u8 x16], fun Ep3 => bunA (fun (x : Unit) => RepL (RpI .u8) ρ ([x16] : List Int) [.int .u8 x16]) (fun (x : Unit) => [vec 5 (RpI .u8).sz (.slice (some ⟨(blkOf (Ep3 17)), 0, none⟩) 1 1) 1 [.int .u8 x16]])] mixed (by kernel_rfl) hS ?_ ?_
  ·refine ⟨?_, ?_, ?_, ?_, ?_, ?_, ?_, ?_, ?_, ?_, ?_, trivial⟩
   ·intro Ep3 w l' hE3 hO3 hF_ hS
    refine p (yl_move (hE3 0 rfl)) <| x_done <| ?_
    refine x_fin ⟨⟨_, rfl⟩, rfl, ?_⟩
    exact emk hS
   ·intro Ep3 w l' hE3 hO3 hF_ hS
    obtain ⟨q3, -⟩ := hF_
    replace q3 : Ep3 10 = .int .u32 n0 := emk q3
    refine p (yquou wm_u32 q3 rfl q0g hx11) <| x_done <| ?_
    refine x_fin ⟨⟨_, rfl⟩, rfl, ?_⟩
    exact emk hS
   ·intro Ep3 w l' hE3 hO3 hF_ hS
    obtain ⟨q4, -⟩ := hF_
    replace q4 : Ep3 11 = .int .u32 x11 := emk q4
    replace hS : St w0 w (ro ρ :: l') := emk hS
    have hcall := ih q0h  hS
    refine o_cc call_44 (args1 q4) (hcall) ?_
    rintro e w' ⟨rfl, hS⟩
    refine ⟨_, rfl, ?_⟩
    refine x_done <| ?_
    refine x_fin ⟨⟨_, rfl⟩, rfl, ?_⟩
    exact emk hS
   ·intro Ep3 w l' hE3 hO3 hF_ hS
    refine p (yl_move (hE3 0 rfl)) <| x_done <| ?_
    refine x_fin ⟨⟨_, rfl⟩, rfl, ?_⟩
    exact emk hS
   ·intro Ep3 w l' hE3 hO3 hF_ hS
    obtain ⟨q5, -⟩ := hF_
    replace q5 : Ep3 13 = .int .u32 n0 := emk q5
    refine p (yrem q5 rfl q0i hx14) <| x_done <| ?_
    refine x_fin ⟨⟨_, rfl⟩, rfl, ?_⟩
    exact emk hS
   ·intro Ep3 w l' hE3 hO3 hF_ hS
    obtain ⟨q6, -⟩ := hF_
    replace q6 : Ep3 14 = .int .u32 x14 := emk q6
    refine p (yaddu wm_u32 rfl q6 hx15) <| x_done <| ?_
    refine x_fin ⟨⟨_, rfl⟩, rfl, ?_⟩
    exact emk hS
   ·intro Ep3 w l' hE3 hO3 hF_ hS
    obtain ⟨q7, -⟩ := hF_
    replace q7 : Ep3 15 = .int .u32 x15 := emk q7
    refine p (yconvu wm_u8 uk_77 ik_5 q7 hx16) <| x_done <| ?_
    refine x_fin ⟨⟨_, rfl⟩, rfl, ?_⟩
    exact emk hS
   ·intro Ep3 w l' hE3 hO3 hF_ hS
    obtain ⟨q8, -⟩ := hF_
    replace q8 : Ep3 16 = .int .u8 x16 := emk q8
    refine o_buildSlice (vs := [.int .u8 x16]) (cs := [.int .u8 x16]) sl_92 zero_5 (parts_eq (pt (va := .int .u8 x16) q8 pt0)) rfl (by intro v hv; simp only [List.mem_cons, List.not_mem_nil, or_false] at hv; first | (subst hv; rfl) | (rcases hv with rfl <;> rfl)) (by decide) rfl hS (fun b17 w' hS => ?_)
    refine x_done <| ?_
    refine x_fin ⟨⟨_, rfl⟩, rfl, ?_⟩
    exact emk hS
   ·intro Ep3 w l' hE3 hO3 hF_ hS
    obtain ⟨q9, -⟩ := hF_
    replace q9 : Ep3 17 = .slice (some ⟨(blkOf (Ep3 17)), 0, none⟩) 1 1 := emk q9
    replace hS : St w0 w (cells (blkOf (Ep3 17)) 5 [.int .u8 x16] :: l') := emk hS
    have q0d : RepL (RpI .u8) ρ ([x16] : List Int) [.int .u8 x16] := (RepL.cons (cs := [.int .u8 x16]) rfl RepL.nil)
    replace hS := St.vec_of (n := 1) (sz := (RpI .u8).sz) hS rfl (by decide)
    refine pa (at_str usl_92 ui_5 us_9 q9 (St.vec_n hS q0d) (str_o hS q0d) hx18) <| x_done <| ?_
    refine x_fin ⟨⟨_, rfl⟩, rfl, ?_⟩
    replace hS := St.bun (Φ := (fun (x : Unit) => RepL (RpI .u8) ρ ([x16] : List Int) [.int .u8 x16])) (L := (fun (x : Unit) => [vec 5 (RpI .u8).sz (.slice (some ⟨(blkOf (Ep3 17)), 0, none⟩) 1 1) 1 [.int .u8 x16]])) () q0d hS
    exact emk hS
   ·intro Ep3 w l' hE3 hO3 hF_ hS
    obtain ⟨q0a, q0b, -⟩ := hF_
    replace q0a : Ep3 12 = .string q2 := emk q0a
    replace q0b : Ep3 18 = .string x18 := emk q0b
    refine p (yadds q0a q0b q0j) <| x_done <| ?_
    refine x_fin ⟨⟨_, rfl⟩, rfl, ?_⟩
    exact emk hS
   ·intro Ep3 w l' hE3 hO3 hF_ hS
    obtain ⟨q0c, -⟩ := hF_
    replace q0c : Ep3 19 = .string (q2 ++ x18) := emk q0c
    refine p (yl_assign q0c) <| x_done <| ?_
    refine x_fin ⟨⟨_, rfl⟩, rfl, ?_⟩
    exact emk hS
  intro Ep3 w' hE3 hF_ hS
  obtain ⟨q3, q4, q0a, q5, q6, q7, q8, q9, q0b, q0c, q0e, -⟩ := hF_
  replace q3 : Ep3 10 = .int .u32 n0 := emk q3
  replace q4 : Ep3 11 = .int .u32 x11 := emk q4
  replace q0a : Ep3 12 = .string q2 := emk q0a
  replace q5 : Ep3 13 = .int .u32 n0 := emk q5
  replace q6 : Ep3 14 = .int .u32 x14 := emk q6
  replace q7 : Ep3 15 = .int .u32 x15 := emk q7
  replace q8 : Ep3 16 = .int .u8 x16 := emk q8
  replace q9 : Ep3 17 = .slice (some ⟨(blkOf (Ep3 17)), 0, none⟩) 1 1 := emk q9
  replace q0b : Ep3 18 = .string x18 := emk q0b
  replace q0c : Ep3 19 = .string (q2 ++ x18) := emk q0c
  replace q0e : Ep3 2 = .string (q2 ++ x18) := emk q0e
  replace hS : St w0 w' (ro ρ :: bunA (fun (x : Unit) => RepL (RpI .u8) ρ ([x16] : List Int) [.int .u8 x16]) (fun (x : Unit) => [vec 5 (RpI .u8).sz (.slice (some ⟨(blkOf (Ep3 17)), 0, none⟩) 1 1) 1 [.int .u8 x16]]) :: (l)) := emk hS
  have q_ := St.unbun (hS.pull 1); obtain ⟨⟨⟩, q0d, hS⟩ := q_
  have e_ := sinj hF; subst e_
  exact x_return ⟨_, ⟨_, _, rfl, q0e, rfl⟩, rfl, hS.drop⟩
theorem c_exact_digits_n : ∀ (n : Nat), ∀ {w0 w : World} {l : List Assn} {ρ : Heap} {n0 : Int} {r : ByteArray} (hF : rcf P_exact_digits_B n n0 = some r) (hS : St w0 w (ro ρ :: l)),
  Calls Try.prog 44 #[.int .u32 n0] w fun e w' => e = .returned (.string r) ∧ St w0 w' (ro ρ :: l)
 | 0 => by intros; rename_i hF _; cases (show none = some _ from by first | exact hF | assumption)
 | n + 1 => c_exact_digits_s (rcf P_exact_digits_B n) (c_exact_digits_n n)
theorem c_exact_digits {w0 w : World} {l : List Assn} {ρ : Heap} {n0 : Int} {r : ByteArray} (hF : P_exact_digits n0 = some r) (hS : St w0 w (ro ρ :: l)) :
  Calls Try.prog 44 #[.int .u32 n0] w fun e w' => e = .returned (.string r) ∧ St w0 w' (ro ρ :: l) := c_exact_digits_n fuel hF hS
attribute [irreducible] P_exact_digits

def P_exact_Text_L5 : (List Int × List Int) → Option ((List Int × List Int) ⊕ List Int) := fun (q2, q3) =>
 if 0 < (q3.length : Int) then
  bd (P_exact_divSmall q3 1000000000) fun q4 =>
  lv (q2 ++ [q4.2]) fun q5 =>
  ck (apOk 4 q5.length) <|
  bd (P_exact_made false q4.1) fun q6 =>
  some (Sum.inl (q5, q6.fmag))
 else
  some (Sum.inr q2)
def P_exact_Text_L12 (q3 : List Int) : (ByteArray × Int) → Option ((ByteArray × Int) ⊕ ByteArray) := fun (q4, q2) =>
 if 0 ≤ q2 then
  ck (inb q2 q3.length) <|
  lv (gt q3 q2) fun x43 =>
  bd (P_exact_digits x43) fun q5 =>
  ar ((q3.length : Int) - 1) fun x48 =>
  bd (
   if q2 < x48 then
    ar ((9 : Int) - (q5.size : Int)) fun x52 =>
    ck (0 ≤ (0 : Int) ∧ (0 : Int) ≤ x52 ∧ x52 ≤ ks_4c930086.size) <|
    lv (subS ks_4c930086 0 x52) fun x53 =>
    ck (q4.size + x53.size ≤ 140737488355328) <|
    lv (q4 ++ x53) fun q7 =>
    some q7
   else
    some q4) fun q6 =>
  ck (q6.size + q5.size ≤ 140737488355328) <|
  lv (q6 ++ q5) fun q8 =>
  ar (q2 - 1) fun x39 =>
  some (Sum.inl (q8, x39))
 else
  some (Sum.inr q4)
def P_exact_Text (a0 : T_exact_Int) : Option ByteArray :=
 bd (P_exact_Sign a0) fun q6 =>
 if q6 = 0 then
  some (⟨#[48]⟩ : ByteArray)
 else
  bd (
   lp P_exact_Text_L5 fuel ([], a0.fmag)) fun q2 =>
  bd (
   if a0.fneg = true then
    ck (0 ≤ (45 : Int) ∧ (45 : Int) < 256) <|
    ck ((⟨#[]⟩ : ByteArray).size + 1 ≤ 140737488355328) <|
    lv ((⟨#[]⟩ : ByteArray) ++ strOf [45]) fun q5 =>
    some q5
   else
    some (⟨#[]⟩ : ByteArray)) fun q4 =>
  ar ((q2.length : Int) - 1) fun x35 =>
  bd (
   lp (P_exact_Text_L12 q2) fuel (q4, x35)) fun q3 =>
  ck (0 < q3.size) <|
  some q3
theorem c_exact_Text {w0 w : World} {l : List Assn} {ρ : Heap} {q0b : Option Addr} {q0z : Nat} {c_a0_1 : Nat} {a0 : T_exact_Int} {r : ByteArray} (hF : P_exact_Text a0 = some r) (q0t : RdS (RpI .u32) ρ q0b q0z c_a0_1 a0.fmag) (hS : St w0 w (ro ρ :: l)) :
  Calls Try.prog 26 #[.agg #[.bool a0.fneg, .slice q0b q0z c_a0_1]] w fun e w' => e = .returned (.string r) ∧ St w0 w' (ro ρ :: l) := by
 have e_ := q0t.n; subst e_
 refine enterC Try.func26 rfl 58 rfl (by simp) ?_
 refine x_seq <| x_region <| ?_
 refine o_box (cs := [.bool a0.fneg, .slice q0b a0.fmag.length c_a0_1]) rfl rfl hS (fun b1 w' hS => ?_)
 replace hF := bd_s hF; obtain ⟨q23, q1s, hF⟩ := hF
 refine p (yl_assign rfl) <| x_done <| x_seq <| x_seq <|
  x_region <| pa (v := .agg #[.bool a0.fneg, .slice q0b a0.fmag.length c_a0_1]) (ld_sub agg_41 rfl rfl rfl hS) <| ?_
 have hcall := c_exact_Sign q1s q0t (hS.pull 1)
 refine o_cc call_19 (args1 rfl) ((Calls.mono hcall (fun e w'' h => And.intro h.1 (h.2.pull 1)))) ?_
 rintro e w' ⟨rfl, hS⟩
 refine ⟨_, rfl, ?_⟩
 refine p (yl_eql rfl rfl) <| x_done <|
  x_cond_p (q23 = 0) rfl (fun hc12 => ?_) (fun hc12 => ?_)
 ·replace hF := it_t hc12 hF
  refine x_seq <| x_region <| p (yl_assign rfl) <| x_done <| ?_
  have e_ := sinj hF; subst e_
  exact x_return ⟨_, ⟨_, _, rfl, rfl, rfl⟩, rfl, hS.drop⟩
 ·replace hF := it_f hc12 hF
  refine x_skip <| x_seq <| x_region <| p (yl_assign rfl) <|
   x_done <| x_seq <| x_seq <| x_region <|
   p (yl_field0 fld_41_1 rfl) <| pa (at_load one_39 rfl (hS.cell rfl)) <| p (yl_assign rfl) <| x_done <| ?_
  replace hF := bd_s hF; obtain ⟨oL5, hLL5, hF⟩ := hF
  refine x_join (fun E w => ∃ (q3 : Option Addr) (q9 : Nat) (c_parts3_L5 : Nat) (q4 : List Value) (q2 : List Int), q2 = oL5 ∧ E 1 = .pointer (some ⟨b1, 0, none⟩) ∧ E 3 = .slice q3 q9 c_parts3_L5 ∧ RepL (RpI .u32) ρ q2 q4 ∧ St w0 w (cells b1 41 [.bool a0.fneg, .slice q0b a0.fmag.length c_a0_1] :: vec 77 (RpI .u32).sz (.slice q3 q9 c_parts3_L5) q9 q4 :: ro ρ :: l)) ?_ ?_
  ·refine x_block ?_
   replace hS := St.vec_nil hS 77 (RpI .u32).sz
   have q0o : RepL (RpI .u32) ρ [] [] := rfl
   refine x_loop (fun k_ E w => ∃ (q0l : Heap) (q6 : Option Addr) (q7 : Nat) (c_parts3_L5h : Nat) (q5 : List Value) (q0h : Option Addr) (q0i : Nat) (c_mag4_L5h : Nat) (q8 : List Int) (q0j : List Int), lp P_exact_Text_L5 k_ (q8, q0j) = some oL5 ∧ Le ρ q0l ∧ E 1 = .pointer (some ⟨b1, 0, none⟩) ∧ E 3 = .slice q6 q7 c_parts3_L5h ∧ E 4 = .slice q0h q0i c_mag4_L5h ∧ RepL (RpI .u32) q0l q8 q5 ∧ RdS (RpI .u32) q0l q0h q0i c_mag4_L5h q0j ∧ St w0 w (cells b1 41 [.bool a0.fneg, .slice q0b a0.fmag.length c_a0_1] :: vec 77 (RpI .u32).sz (.slice q6 q7 c_parts3_L5h) q7 q5 :: ro q0l :: l)) fuel ⟨ρ, none, 0, 0, [], q0b, a0.fmag.length, c_a0_1, [], a0.fmag, hLL5, (Le.refl _), rfl, rfl, rfl, q0o, q0t, (((hS.pull 2).pull 1).pull 2)⟩ ?_
   rintro kL5 E w ⟨q0l, q6, q7, c_parts3_L5h, q5, q0h, q0i, c_mag4_L5h, q8, q0j, hLL5, q0u, q10, q11, q12, q0c, q0p, hS⟩
   have e_ := St.vec_n (hS.pull 1) q0c; subst e_
   have e_ := q0p.n; subst e_
   replace hLL5 := lp_s hLL5; obtain ⟨kL5, obL5, rfl, hFL5, hLL5⟩ := hLL5
   refine x_seq <| x_seq <| x_region <| p (yl_move q12) <|
    p (yl_len_slice usl_39 rfl) <| p (yl_gtr rfl rfl) <| x_done <|
    x_cond_p (0 < (q0j.length : Int)) rfl (fun hc17 => ?_) (fun hc17 => ?_)
   ·replace hFL5 := it_t hc17 hFL5
    replace hFL5 := bd_s hFL5; obtain ⟨q0v, q1t, hFL5⟩ := hFL5
    refine x_skip <| x_block <| x_seq <| x_region <|
     p (yl_move q12) <| ?_
    have hcall := c_exact_divSmall q1t q0p (hS.pull 2)
    refine o_cc call_42 (args2 rfl rfl) hcall ?_
    rintro e w' ⟨q1a, q1b, c_y0_ret_6_1, q19, rfl, q0k, hS⟩
    refine ⟨_, rfl, ?_⟩
    have e_ := St.vec_n hS q0k; subst e_
    refine p (yl_move rfl) <| p (yl_extract rfl rfl) <| p (yl_extract rfl rfl) <| p (yl_assign rfl) <|
     p (yl_assign rfl) <| x_done <| x_region <| p (yl_move q11) <|
     p (yl_move rfl) <| ?_
    refine o_buildSlice (vs := [.int .u32 q0v.2]) (cs := [.int .u32 q0v.2]) sl_39 zero_77 (parts_eq (pt (va := .int .u32 q0v.2) rfl pt0)) rfl (by intro v hv; simp only [List.mem_cons, List.not_mem_nil, or_false] at hv; first | (subst hv; rfl) | (rcases hv with rfl <;> rfl)) (by decide) rfl hS (fun b25 w' hS => ?_)
    replace hFL5 := lv_s hFL5; obtain ⟨q1c, q1u, hFL5⟩ := hFL5
    replace hFL5 := ck_s hFL5; obtain ⟨q1v, hFL5⟩ := hFL5
    refine o_ap sl_39 zero_77 rfl (by decide) rfl rfl (hS.pull 4) q0c (src_blk usl_39 hS rfl rfl) (RepL.cons (R := (RpI .u32)) (ρ := q0l) (x := q0v.2) (cs := [.int .u32 q0v.2]) rfl RepL.nil) q1u q1v (fun A26 c26 cs26 w' hr26 hS => ?_)
    refine p (yl_move rfl) <| ?_
    have q_ := St.vec_fz ((hS.pull 3).pull 3) q0k; obtain ⟨q1w, q0y, q1x, hS⟩ := q_
    replace hFL5 := bd_s hFL5; obtain ⟨q1d, q1y, hFL5⟩ := hFL5
    have hcall := c_exact_made q1y q1x hS
    refine o_cc call_35 (args2 rfl rfl) hcall ?_
    rintro e w' ⟨q0r, q17, c_y0_ret_1_7_5, rfl, q0e, hS⟩
    refine ⟨_, rfl, ?_⟩
    have e_ := q0e.n; subst e_
    refine p (yl_fld1 fld_41_1 one_39 rfl rfl) <| p (yl_assign rfl) <| p (yl_assign rfl) <| x_done <|
     x_blk <| ?_
    have e_ := sinj hFL5; subst e_
    exact x_inv ⟨kL5, Nat.lt_succ_self _, q1w, A26, q1c.length, c26, cs26, q0r, q1d.fmag.length, c_y0_ret_1_7_5, q1c, q1d.fmag, hLL5, (q0u.trans q0y), q10, rfl, rfl, (hr26.le q0y), q0e, (((hS.pull 2).drop.pull 1).pull 2)⟩
   ·replace hFL5 := it_f hc17 hFL5
    refine x_exitTo _ rfl <| ?_
    have e_ := sinj hFL5; subst e_
    exact x_inv ⟨q6, q8.length, c_parts3_L5h, q5, q8, hLL5, q10, q11, (RepL.flat (fun h => h) q0c), (ro_back2 q0u (((hS.pull 2).pull 2).pull 2))⟩
  rintro E w ⟨q3, q9, c_parts3_L5, q4, q2, rfl, q1z, q16, q0d, hS⟩
  have e_ := St.vec_n (hS.pull 1) q0d; subst e_
  refine x_seq <| x_region <| ?_
  refine o_alloc zero_94 hS (fun b7 w' hS => ?_)
  replace hS := bld_new (e := 5) hS
  refine x_done <| x_seq <| x_seq <| x_region <|
   p (yl_field0 fld_41_0 q1z) <| pa (at_load one_4 rfl ((hS.pull 1).cell rfl)) <| x_done <| ?_
  replace hF := bd_s hF; obtain ⟨oc31, hFc31, hF⟩ := hF
  refine x_join (fun E w => ∃ (q0q : ByteArray), q0q = oc31 ∧ E 3 = .slice q3 q2.length c_parts3_L5 ∧ E 7 = .pointer (some ⟨b7, 0, none⟩) ∧ St w0 w (vec 77 (RpI .u32).sz (.slice q3 q2.length c_parts3_L5) q2.length q4 :: bld 94 5 b7 q0q :: ro ρ :: l)) ?_ ?_
  ·refine x_cond (t := a0.fneg) rfl (fun hc31 => ?_) (fun hc31 => ?_)
   ·replace hFc31 := it_t hc31 hFc31
    refine x_region <| ?_
    replace hFc31 := ck_s hFc31; obtain ⟨q1e, hFc31⟩ := hFc31
    replace hFc31 := ck_s hFc31; obtain ⟨q18, hFc31⟩ := hFc31
    replace hFc31 := lv_s hFc31; obtain ⟨q20, q1f, hFc31⟩ := hFc31
    refine o_cc call_43 (args2 rfl rfl) (bwb q1e hS q18) ?_
    rintro e w' ⟨rfl, hS⟩
    refine ⟨_, rfl, ?_⟩
    rw [← q1f] at hS
    refine x_done <| ?_
    exact x_inv ⟨q20, (sinj hFc31), q16, rfl, ((((hS.pull 1).drop.pull 2).pull 1).pull 2)⟩
   ·replace hFc31 := it_bf hc31 hFc31
    refine x_skip <| ?_
    exact x_inv ⟨(⟨#[]⟩ : ByteArray), (sinj hFc31), q16, rfl, ((((hS.pull 1).drop.pull 2).pull 1).pull 2)⟩
  rintro E w ⟨q0q, rfl, q13, q1g, hS⟩
  replace hF := ar_s hF; obtain ⟨x35, hx35, hF⟩ := hF
  refine x_seq <| x_seq <| x_region <| p (yl_move q13) <|
   p (yl_len_slice usl_39 rfl) <| p (ysub rfl rfl hx35) <| p (yl_assign rfl) <| x_done <| ?_
  replace hF := bd_s hF; obtain ⟨oL12, hLL12, hF⟩ := hF
  refine x_join (fun E w => ∃ (q0w : ByteArray), q0w = oL12 ∧ E 7 = .pointer (some ⟨b7, 0, none⟩) ∧ St w0 w (bld 94 5 b7 q0w :: ro ρ :: l)) ?_ ?_
  ·refine x_block ?_
   refine x_loop (fun k_ E w => ∃ (q0f : ByteArray) (q0a : Int), lp (P_exact_Text_L12 q2) k_ (q0f, q0a) = some oL12 ∧ E 3 = .slice q3 q2.length c_parts3_L5 ∧ E 7 = .pointer (some ⟨b7, 0, none⟩) ∧ E 8 = .int .i64 q0a ∧ St w0 w (vec 77 (RpI .u32).sz (.slice q3 q2.length c_parts3_L5) q2.length q4 :: bld 94 5 b7 q0f :: ro ρ :: l)) fuel ⟨q0q, x35, hLL12, q13, q1g, rfl, (((hS.pull 2).pull 2).pull 2)⟩ ?_
   rintro kL12 E w ⟨q0f, q0a, hLL12, q0m, q0n, q0g, hS⟩
   replace hLL12 := lp_s hLL12; obtain ⟨kL12, obL12, rfl, hFL12, hLL12⟩ := hLL12
   refine x_seq <| x_seq <| x_region <| p (yl_move q0g) <|
    p (yl_geq rfl rfl) <| x_done <|
    x_cond_p (0 ≤ q0a) rfl (fun hc37 => ?_) (fun hc37 => ?_)
   ·replace hFL12 := it_t hc37 hFL12
    replace hFL12 := ck_s hFL12; obtain ⟨q14, hFL12⟩ := hFL12
    replace hFL12 := lv_s hFL12; obtain ⟨x43, hx43, hFL12⟩ := hFL12
    replace hFL12 := bd_s hFL12; obtain ⟨q0s, q1h, hFL12⟩ := hFL12
    refine x_skip <| x_seq <| x_block <| x_seq <|
     x_region <| p (yl_move q0m) <| p (yl_move q0g) <| p (yix_o sl_39 rfl rfl hS q0d q14) <|
     pa (at_load one_77 rfl (RepL.getW q0d hS q14 hx43)) <| ?_
    have hcall := c_exact_digits q1h  (hS.pull 2)
    refine o_cc call_44 (args1 rfl) ((Calls.mono hcall (fun e w'' h => And.intro h.1 ((h.2.pull 2).pull 2)))) ?_
    rintro e w' ⟨rfl, hS⟩
    refine ⟨_, rfl, ?_⟩
    replace hFL12 := ar_s hFL12; obtain ⟨x48, hx48, hFL12⟩ := hFL12
    refine p (v := .string q0s) (yl_assign rfl) <| x_done <| x_seq <| x_seq <|
     x_region <| p (yl_move q0g) <| p (yl_move q0m) <| p (yl_len_slice usl_39 rfl) <|
     p (ysub rfl rfl hx48) <| p (yl_lss rfl rfl) <| x_done <| ?_
    replace hFL12 := bd_s hFL12; obtain ⟨oc49, hFc49, hFL12⟩ := hFL12
    refine x_join (fun E w => ∃ (q0x : ByteArray), q0x = oc49 ∧ E 3 = .slice q3 q2.length c_parts3_L5 ∧ E 7 = .pointer (some ⟨b7, 0, none⟩) ∧ E 8 = .int .i64 q0a ∧ E 9 = .string q0s ∧ St w0 w (vec 77 (RpI .u32).sz (.slice q3 q2.length c_parts3_L5) q2.length q4 :: bld 94 5 b7 q0x :: ro ρ :: l)) ?_ ?_
    ·refine x_cond_p (q0a < x48) rfl (fun hc49 => ?_) (fun hc49 => ?_)
     ·replace hFc49 := it_t hc49 hFc49
      replace hFc49 := ar_s hFc49; obtain ⟨x52, hx52, hFc49⟩ := hFc49
      replace hFc49 := ck_s hFc49; obtain ⟨q1i, hFc49⟩ := hFc49
      replace hFc49 := lv_s hFc49; obtain ⟨x53, hx53, hFc49⟩ := hFc49
      refine x_region <| p (v := .string q0s) (yl_move rfl) <| p (yl_len_string us_9 rfl) <| p (ysub rfl rfl hx52) <|
       p (ysub_sh us_9 rfl rfl q1i hx53) <| ?_
      replace hFc49 := ck_s hFc49; obtain ⟨q1j, hFc49⟩ := hFc49
      replace hFc49 := lv_s hFc49; obtain ⟨q21, q1k, hFc49⟩ := hFc49
      refine o_cc call_45 (args2 q0n rfl) (bws (hS.pull 1) q1j) ?_
      rintro e w' ⟨rfl, hS⟩
      refine ⟨_, rfl, ?_⟩
      rw [← q1k] at hS
      refine x_done <| ?_
      exact x_inv ⟨q21, (sinj hFc49), q0m, q0n, q0g, rfl, (((hS.pull 2).pull 1).pull 2)⟩
     ·replace hFc49 := it_f hc49 hFc49
      refine x_skip <| ?_
      exact x_inv ⟨q0f, (sinj hFc49), q0m, q0n, q0g, rfl, (((hS.pull 2).pull 2).pull 2)⟩
    rintro E w ⟨q0x, rfl, q1l, q15, q1m, q1n, hS⟩
    refine x_region <| p (v := .string q0s) (yl_move q1n) <| ?_
    replace hFL12 := ck_s hFL12; obtain ⟨q1o, hFL12⟩ := hFL12
    replace hFL12 := lv_s hFL12; obtain ⟨q22, q1p, hFL12⟩ := hFL12
    refine o_cc call_45 (args2 q15 rfl) (bws (hS.pull 1) q1o) ?_
    rintro e w' ⟨rfl, hS⟩
    refine ⟨_, rfl, ?_⟩
    rw [← q1p] at hS
    replace hFL12 := ar_s hFL12; obtain ⟨x39, hx39, hFL12⟩ := hFL12
    refine x_done <| x_blk <| x_region <| p (yl_move q1m) <|
     p (ysub rfl rfl hx39) <| p (yl_assign rfl) <| x_done <| ?_
    have e_ := sinj hFL12; subst e_
    exact x_inv ⟨kL12, Nat.lt_succ_self _, q22, x39, hLL12, q1l, q15, rfl, (((hS.pull 2).pull 1).pull 2)⟩
   ·replace hFL12 := it_f hc37 hFL12
    refine x_exitTo _ rfl <| ?_
    have e_ := sinj hFL12; subst e_
    exact x_inv ⟨q0f, hLL12, q0n, ((hS.drop.pull 1).pull 1)⟩
  rintro E w ⟨q0w, rfl, q1q, hS⟩
  refine x_seq <| x_region <| ?_
  replace hF := ck_s hF; obtain ⟨q1r, hF⟩ := hF
  refine o_cc call_46 (args1 q1q) (bst hS q1r) ?_
  rintro e w' ⟨rfl, hS⟩
  refine ⟨_, rfl, ?_⟩
  refine p (yl_assign rfl) <| x_done <| ?_
  have e_ := sinj hF; subst e_
  exact x_return ⟨_, ⟨_, _, rfl, rfl, rfl⟩, rfl, hS⟩
attribute [irreducible] P_exact_Text


end Go.Proofs.Ytfkncjfpgflafaa.X
