/- Printed by gen.py: plain functions, and that the Go code computes them. -/
import Derived.Test.YtlolchgeedegdaaDoorXI
import Derived.Test.YtlolchgeedegdaaDoorXT
import Derived.Test.YtlolchgeedegdaaDoorGAp0
import Derived.Test.YtlolchgeedegdaaDoorGAp1
namespace Go.Proofs.YtlolchgeedegdaaDoor.X
open Go Go.RowKit
set_option linter.unusedVariables false
set_option linter.unusedSimpArgs false

def P_maskkeep4_ClocksBack (l_0 : List Int) : Option Bool :=
 bd (P_maskmake_Stream_Range (T_maskmake_Stream.mk l_0 0) 1 5) fun q5 =>
 bd (P_maskmake_Stream_Next (T_maskmake_Stream.mk l_0 q5.2) 5) fun q6 =>
 bd (P_maskmake_Stream_Next (T_maskmake_Stream.mk l_0 q6.2) 5) fun q7 =>
 bd (P_maskmake_Stream_Range (T_maskmake_Stream.mk l_0 q7.2) 1 5) fun q8 =>
 bd (P_maskmake_Stream_Netlist (T_maskmake_Stream.mk l_0 q8.2) q5.1 q6.1 q7.1 q8.1) fun q2 =>
 bd (P_maskmake_Stream_Limits (T_maskmake_Stream.mk l_0 q2.2) q2.1 true) fun q9 =>
 bd (P_clocks_Text q9.1) fun q3 =>
 bd (P_clocks_Read q3.1) fun q4 =>
 bd (P_clocks_Text q4.1) fun q0a =>
 bd (P_maskkeep4_asks) fun q0c =>
 lv (q0c && (decide (q3.2 = 0))) fun x49 =>
 lv (x49 && (decide (q4.2.2 = 0))) fun x53 =>
 lv (x53 && (decide (q0a.2 = 0))) fun x57 =>
 lv (x57 && (decide (q4.2.1 = 0))) fun x61 =>
 lv (x61 && (decide (q3.1 = q0a.1))) fun x66 =>
 bd (gd (x66) (P_clocks_CheckFor q9.1 q2.1)) fun q0b =>
 lv (x66 && (decide (q0b = 0))) fun x72 =>
 some x72
set_option maxHeartbeats 4000000 in
set_option maxRecDepth 100000 in
theorem c_maskkeep4_ClocksBack {w0 w : World} {l : List Assn} {ρ : Heap} {q0s : Option Addr} {q11 : Nat} {c_l_0 : Nat} {l_0 : List Int} {r : Bool} (hF : P_maskkeep4_ClocksBack l_0 = some r) (q0r : RdS (RpI .i64) ρ q0s q11 c_l_0 l_0) (hS : St w0 w (ro ρ :: l)) :
  Calls Tryd.prog 7 #[.slice q0s q11 c_l_0] w fun e w' => e = .returned (.bool r) ∧ St w0 w' (ro ρ :: l) := by
 have e_ := q0r.n; subst e_
 refine enterC Tryd.func7 rfl 73 rfl (by simp) ?_
 refine x_seq <| x_region <| p (yl_assign rfl) <| x_done <|
  x_seq <| x_region <| p (yl_move rfl) <| p (v := .agg #[.slice q0s l_0.length c_l_0, .int .i64 0]) (yl_build bld_25 bldf_25 (parts_eq (pt (va := .slice q0s l_0.length c_l_0) rfl pt0)) (by kernel_rfl)) <| ?_
 refine o_box (cs := [.slice q0s l_0.length c_l_0, .int .i64 0]) rfl rfl hS (fun b15 w' hS => ?_)
 replace hF := bd_s hF; obtain ⟨q1w, q1m, hF⟩ := hF
 refine p (yl_assign rfl) <| x_done <| x_seq <| x_region <|
  p (yl_move rfl) <| p (yl_move rfl) <| ?_
 have hcall := c_maskmake_Stream_Range q1m q0r ((hS.pull 1).pull 1)
 refine o_cc call_24 (args3 rfl rfl rfl) hcall ?_
 rintro e w' ⟨rfl, hS⟩
 refine ⟨_, rfl, ?_⟩
 replace hF := bd_s hF; obtain ⟨q1x, q1n, hF⟩ := hF
 refine p (yl_move rfl) <| ?_
 have hcall := c_maskmake_Stream_Next q1n q0r ((hS.pull 1).pull 1)
 refine o_cc call_13 (args2 rfl rfl) hcall ?_
 rintro e w' ⟨rfl, hS⟩
 refine ⟨_, rfl, ?_⟩
 replace hF := bd_s hF; obtain ⟨q1y, q1o, hF⟩ := hF
 refine p (yl_move rfl) <| ?_
 have hcall := c_maskmake_Stream_Next q1o q0r ((hS.pull 1).pull 1)
 refine o_cc call_13 (args2 rfl rfl) hcall ?_
 rintro e w' ⟨rfl, hS⟩
 refine ⟨_, rfl, ?_⟩
 replace hF := bd_s hF; obtain ⟨q1z, q1p, hF⟩ := hF
 refine p (yl_move rfl) <| ?_
 have hcall := c_maskmake_Stream_Range q1p q0r ((hS.pull 1).pull 1)
 refine o_cc call_24 (args3 rfl rfl rfl) hcall ?_
 rintro e w' ⟨rfl, hS⟩
 refine ⟨_, rfl, ?_⟩
 replace hF := bd_s hF; obtain ⟨q5, q1q, hF⟩ := hF
 have hcall := c_maskmake_Stream_Netlist q1q q0r ((hS.pull 1).pull 1)
 refine o_cc call_23 (args5 rfl rfl rfl rfl rfl) hcall ?_
 rintro e w' ⟨q0y, q7, q1a, c_y0_ret_0_2_9, q8, q1b, c_y0_ret_1_2_9, q12, q9, q1c, c_y0_ret_2_2_9, q13, q0a, q1d, c_y0_ret_3_2_9, q14, q0b, q1e, c_y0_ret_4_2_9, q15, rfl, q0z, q0c, q0d, q0e, q0f, q0g, hS⟩
 refine ⟨_, rfl, ?_⟩
 have e_ := q0c.n; subst e_
 have e_ := St.vec_n hS q0d; subst e_
 have e_ := St.vec_n (hS.pull 1) q0e; subst e_
 have e_ := St.vec_n (hS.pull 2) q0f; subst e_
 have e_ := St.vec_n (hS.pull 3) q0g; subst e_
 refine o_alloc zero_30 hS (fun b4 w' hS => ?_)
 refine o_storeAgg (news := [.slice q7 q5.1.In.length c_y0_ret_0_2_9, .slice q8 q5.1.Out.length c_y0_ret_1_2_9, .slice q9 q5.1.Flops.length c_y0_ret_2_2_9, .slice q0a q5.1.Gates.length c_y0_ret_3_2_9, .slice q0b q5.1.Outs.length c_y0_ret_4_2_9]) agg_30 rfl rfl rfl (by simp [over_length]) hS (fun w' hS => ?_)
 replace hF := bd_s hF; obtain ⟨q6, q1r, hF⟩ := hF
 refine x_done <| x_seq <| x_region <| p (yl_move rfl) <|
  pa (v := .agg #[.slice q7 q5.1.In.length c_y0_ret_0_2_9, .slice q8 q5.1.Out.length c_y0_ret_1_2_9, .slice q9 q5.1.Flops.length c_y0_ret_2_2_9, .slice q0a q5.1.Gates.length c_y0_ret_3_2_9, .slice q0b q5.1.Outs.length c_y0_ret_4_2_9]) (ld_sub agg_30 rfl rfl rfl hS) <| ?_
 have q_ := St.lend ((hS.pull 6).pull 2) q0d; obtain ⟨ρl0, hll0, hlf0, hS0, back0⟩ := q_
 have q_ := St.lend (hS0.pull 2) (q0e.le hll0); obtain ⟨ρl1, hll1, hlf1, hS1, back1⟩ := q_
 have q_ := St.lend (hS1.pull 2) (q0f.le (hll0.trans hll1)); obtain ⟨ρl2, hll2, hlf2, hS2, back2⟩ := q_
 have q_ := St.lend (hS2.pull 2) (q0g.le ((hll0.trans hll1).trans hll2)); obtain ⟨ρl3, hll3, hlf3, hS3, back3⟩ := q_
 have hcall := c_maskmake_Stream_Limits q1r ((q0r.le q0z).le (((hll0.trans hll1).trans hll2).trans hll3)) (q0c.le (((hll0.trans hll1).trans hll2).trans hll3)) (hlf0.le ((hll1.trans hll2).trans hll3)) (hlf1.le (hll2.trans hll3)) (hlf2.le hll3) hlf3 (hS3.pull 2)
 refine o_cc call_25 (args3 rfl rfl rfl) hcall ?_
 rintro e w' ⟨q0h, q1f, c_y0_ret_1_3_2, q0t, q0i, q1g, c_y0_ret_2_3_2, q0u, q0j, q1h, c_y0_ret_3_3_2, q0v, rfl, q2, q3, q4, hS⟩
 refine ⟨_, rfl, ?_⟩
 replace hS := back3 (hS.pull 4)
 replace hS := back2 (hS.pull 1)
 replace hS := back1 (hS.pull 1)
 replace hS := back0 (hS.pull 1)
 replace q2 : RepL R_clocks_Input q0y q6.1.Inputs q0t := RepL.flat (fun h => h) q2
 have e_ := St.vec_n (hS.pull 5) q2; subst e_
 replace q3 : RepL R_clocks_Output q0y q6.1.Outputs q0u := RepL.flat (fun h => h) q3
 have e_ := St.vec_n (hS.pull 6) q3; subst e_
 replace q4 : RepL R_clocks_Path q0y q6.1.Paths q0v := RepL.flat (fun h => h) q4
 have e_ := St.vec_n (hS.pull 7) q4; subst e_
 refine o_alloc zero_56 hS (fun b5 w' hS => ?_)
 refine o_storeAgg (news := [.int .i64 q6.1.Period, .slice q0h q6.1.Inputs.length c_y0_ret_1_3_2, .slice q0i q6.1.Outputs.length c_y0_ret_2_3_2, .slice q0j q6.1.Paths.length c_y0_ret_3_3_2]) agg_56 rfl rfl rfl (by simp [over_length]) hS (fun w' hS => ?_)
 replace hF := bd_s hF; obtain ⟨q0w, q1s, hF⟩ := hF
 refine x_done <| x_seq <| x_region <| pa (v := .agg #[.int .i64 q6.1.Period, .slice q0h q6.1.Inputs.length c_y0_ret_1_3_2, .slice q0i q6.1.Outputs.length c_y0_ret_2_3_2, .slice q0j q6.1.Paths.length c_y0_ret_3_3_2]) (ld_sub agg_56 rfl rfl rfl hS) <| ?_
 have q_ := St.lend ((hS.pull 2).pull 6) q2; obtain ⟨ρl0, hll0, hlf0, hS0, back0⟩ := q_
 have q_ := St.lend (hS0.pull 6) (q3.le hll0); obtain ⟨ρl1, hll1, hlf1, hS1, back1⟩ := q_
 have q_ := St.lend (hS1.pull 6) (q4.le (hll0.trans hll1)); obtain ⟨ρl2, hll2, hlf2, hS2, back2⟩ := q_
 have hcall := c_clocks_Text q1s (hlf0.le (hll1.trans hll2)) (hlf1.le hll2) hlf2 hS2
 refine o_cc call_26 (args1 rfl) ((Calls.mono hcall (fun e w'' h => And.intro h.1 ((((((((((((back0 ((back1 ((back2 h.2).pull 1)).pull 1)).pull 10).pull 10).pull 5).pull 5).pull 4).pull 10).pull 10).pull 10).pull 8).pull 10).pull 10)))) ?_
 rintro e w' ⟨rfl, hS⟩
 refine ⟨_, rfl, ?_⟩
 replace hF := bd_s hF; obtain ⟨q0k, q1t, hF⟩ := hF
 refine p (v := .tuple #[.string q0w.1, .int .i64 q0w.2]) (yl_move rfl) <| p (yl_extract rfl rfl) <| p (yl_extract rfl rfl) <| p (yl_assign rfl) <|
  p (yl_assign rfl) <| x_done <| x_seq <| x_region <|
  p (yl_move rfl) <| ?_
 have hcall := c_clocks_Read q1t  (hS.pull 2)
 refine o_cc call_27 (args1 rfl) hcall ?_
 rintro e w' ⟨q0l, q1i, c_y0_ret_1_5_1, q16, q0m, q1j, c_y0_ret_2_5_1, q17, q0n, q1k, c_y0_ret_3_5_1, q18, rfl, q0o, q0p, q0q, hS⟩
 refine ⟨_, rfl, ?_⟩
 have e_ := St.vec_n hS q0o; subst e_
 have e_ := St.vec_n (hS.pull 1) q0p; subst e_
 have e_ := St.vec_n (hS.pull 2) q0q; subst e_
 refine p (yl_move rfl) <| p (yl_extract rfl rfl) <| p (yl_extract rfl rfl) <| p (yl_extract rfl rfl) <| ?_
 refine o_alloc zero_56 hS (fun b8 w' hS => ?_)
 refine o_storeAgg (news := [.int .i64 q0k.1.Period, .slice q0l q0k.1.Inputs.length c_y0_ret_1_5_1, .slice q0m q0k.1.Outputs.length c_y0_ret_2_5_1, .slice q0n q0k.1.Paths.length c_y0_ret_3_5_1]) agg_56 rfl rfl rfl (by simp [over_length]) hS (fun w' hS => ?_)
 replace hF := bd_s hF; obtain ⟨q0x, q1u, hF⟩ := hF
 refine p (yl_assign rfl) <| p (yl_assign rfl) <| x_done <| x_seq <|
  x_region <| pa (v := .agg #[.int .i64 q0k.1.Period, .slice q0l q0k.1.Inputs.length c_y0_ret_1_5_1, .slice q0m q0k.1.Outputs.length c_y0_ret_2_5_1, .slice q0n q0k.1.Paths.length c_y0_ret_3_5_1]) (ld_sub agg_56 rfl rfl rfl hS) <| ?_
 have q_ := St.lend ((hS.pull 4).pull 2) q0o; obtain ⟨ρl0, hll0, hlf0, hS0, back0⟩ := q_
 have q_ := St.lend (hS0.pull 2) (q0p.le hll0); obtain ⟨ρl1, hll1, hlf1, hS1, back1⟩ := q_
 have q_ := St.lend (hS1.pull 2) (q0q.le (hll0.trans hll1)); obtain ⟨ρl2, hll2, hlf2, hS2, back2⟩ := q_
 have hcall := c_clocks_Text q1u (hlf0.le (hll1.trans hll2)) (hlf1.le hll2) hlf2 hS2
 refine o_cc call_26 (args1 rfl) ((Calls.mono hcall (fun e w'' h => And.intro h.1 ((((((((((((((((back0 ((back1 ((back2 h.2).pull 1)).pull 1)).pull 14).pull 14).pull 14).pull 14).pull 14).pull 14).pull 14).pull 14).pull 14).pull 14).pull 11).pull 13).pull 13).pull 13).pull 14)))) ?_
 rintro e w' ⟨rfl, hS⟩
 refine ⟨_, rfl, ?_⟩
 replace hF := bd_s hF; obtain ⟨q10, q1v, hF⟩ := hF
 refine p (v := .tuple #[.string q0x.1, .int .i64 q0x.2]) (yl_move rfl) <| p (yl_extract rfl rfl) <| p (yl_extract rfl rfl) <| p (yl_assign rfl) <|
  p (yl_assign rfl) <| x_done <| x_seq <| x_region <| ?_
 have hcall := c_maskkeep4_asks q1v  (hS.pull 4)
 refine o_cc call_28 args0 ((Calls.mono hcall (fun e w'' h => And.intro h.1 (((((((((((((((h.2.pull 14).pull 14).pull 14).pull 14).pull 14).pull 14).pull 14).pull 14).pull 14).pull 14).pull 10).pull 14).pull 14).pull 14).pull 14)))) ?_
 rintro e w' ⟨rfl, hS⟩
 refine ⟨_, rfl, ?_⟩
 replace hF := lv_s hF; obtain ⟨x49, hx49, hF⟩ := hF
 replace hF := lv_s hF; obtain ⟨x53, hx53, hF⟩ := hF
 replace hF := lv_s hF; obtain ⟨x57, hx57, hF⟩ := hF
 replace hF := lv_s hF; obtain ⟨x61, hx61, hF⟩ := hF
 replace hF := lv_s hF; obtain ⟨x66, hx66, hF⟩ := hF
 replace hF := bd_s hF; obtain ⟨q19, q1l, hF⟩ := hF
 refine p (v := .bool q10) (yl_move rfl) <| pg (v := .int .i64 q0w.2) 46 (c := q10) (says_t _) (fun hq => Yl.at (yl_move rfl)) <| pg (v := .bool (decide (q0w.2 = 0))) 46 (c := q10) (says_t _) (fun hq => Yl.at (yl_eql (cv hq) rfl)) <| p (yand' rfl (fun hc => (cv hc)) rfl hx49) <|
  p (yl_move rfl) <| pg (v := .int .i64 q0k.2.2) 50 (c := x49) (says_t _) (fun hq => Yl.at (yl_move rfl)) <| pg (v := .bool (decide (q0k.2.2 = 0))) 50 (c := x49) (says_t _) (fun hq => Yl.at (yl_eql (cv hq) rfl)) <| p (yand' rfl (fun hc => (cv hc)) rfl hx53) <|
  p (yl_move rfl) <| pg (v := .int .i64 q0x.2) 54 (c := x53) (says_t _) (fun hq => Yl.at (yl_move rfl)) <| pg (v := .bool (decide (q0x.2 = 0))) 54 (c := x53) (says_t _) (fun hq => Yl.at (yl_eql (cv hq) rfl)) <| p (yand' rfl (fun hc => (cv hc)) rfl hx57) <|
  p (yl_move rfl) <| pg (v := .int .i64 q0k.2.1) 58 (c := x57) (says_t _) (fun hq => Yl.at (yl_move rfl)) <| pg (v := .bool (decide (q0k.2.1 = 0))) 58 (c := x57) (says_t _) (fun hq => Yl.at (yl_eql (cv hq) rfl)) <| p (yand' rfl (fun hc => (cv hc)) rfl hx61) <|
  p (yl_move rfl) <| pg (v := .string q0w.1) 62 (c := x61) (says_t _) (fun hq => Yl.at (yl_move rfl)) <| pg (v := .string q0x.1) 62 (c := x61) (says_t _) (fun hq => Yl.at (yl_move rfl)) <| pg (v := .bool (decide (q0w.1 = q0x.1))) 62 (c := x61) (says_t _) (fun hq => Yl.at (yl_eql_string (cv hq) (cv hq))) <|
  p (yand' rfl (fun hc => (cv hc)) rfl hx66) <| p (yl_move rfl) <| pg (v := .agg #[.int .i64 q6.1.Period, .slice q0h q6.1.Inputs.length c_y0_ret_1_3_2, .slice q0i q6.1.Outputs.length c_y0_ret_2_3_2, .slice q0j q6.1.Paths.length c_y0_ret_3_3_2]) 67 (c := x66) (says_t _) (fun hq => ld_sub agg_56 rfl rfl rfl (hS.pull 5)) <| pg (v := .agg #[.slice q7 q5.1.In.length c_y0_ret_0_2_9, .slice q8 q5.1.Out.length c_y0_ret_1_2_9, .slice q9 q5.1.Flops.length c_y0_ret_2_2_9, .slice q0a q5.1.Gates.length c_y0_ret_3_2_9, .slice q0b q5.1.Outs.length c_y0_ret_4_2_9]) 67 (c := x66) (says_t _) (fun hq => ld_sub agg_30 rfl rfl rfl (hS.pull 14)) <|
  pccg (v := .int .i64 q19) 67 (c := x66) (says_t _) call_29 (fun hq => (args2 (cv hq) (cv hq))) hS (fun hq => by
   have q_ := St.lend ((hS.pull 4).pull 10) q2; obtain ⟨ρl0, hll0, hlf0, hS0, back0⟩ := q_
   have q_ := St.lend (hS0.pull 10) (q3.le hll0); obtain ⟨ρl1, hll1, hlf1, hS1, back1⟩ := q_
   have q_ := St.lend (hS1.pull 10) (q4.le (hll0.trans hll1)); obtain ⟨ρl2, hll2, hlf2, hS2, back2⟩ := q_
   have q_ := St.lend (hS2.pull 6) (q0d.le ((hll0.trans hll1).trans hll2)); obtain ⟨ρl3, hll3, hlf3, hS3, back3⟩ := q_
   have q_ := St.lend (hS3.pull 6) (q0e.le (((hll0.trans hll1).trans hll2).trans hll3)); obtain ⟨ρl4, hll4, hlf4, hS4, back4⟩ := q_
   have q_ := St.lend (hS4.pull 6) (q0f.le ((((hll0.trans hll1).trans hll2).trans hll3).trans hll4)); obtain ⟨ρl5, hll5, hlf5, hS5, back5⟩ := q_
   have q_ := St.lend (hS5.pull 6) (q0g.le (((((hll0.trans hll1).trans hll2).trans hll3).trans hll4).trans hll5)); obtain ⟨ρl6, hll6, hlf6, hS6, back6⟩ := q_
   have hcall := c_clocks_CheckFor (gd_t q1l hq) (hlf0.le (((((hll1.trans hll2).trans hll3).trans hll4).trans hll5).trans hll6)) (hlf1.le ((((hll2.trans hll3).trans hll4).trans hll5).trans hll6)) (hlf2.le (((hll3.trans hll4).trans hll5).trans hll6)) (q0c.le ((((((hll0.trans hll1).trans hll2).trans hll3).trans hll4).trans hll5).trans hll6)) (hlf3.le ((hll4.trans hll5).trans hll6)) (hlf4.le (hll5.trans hll6)) (hlf5.le hll6) hlf6 hS6
   exact (Calls.mono hcall (fun e w'' h => And.intro h.1 ((((((((((((((((back0 ((back1 ((back2 ((back3 ((back4 ((back5 ((back6 h.2).pull 1)).pull 1)).pull 1)).pull 1)).pull 1)).pull 1)).pull 14).pull 14).pull 5).pull 5).pull 4).pull 9).pull 9).pull 9).pull 9).pull 14).pull 10).pull 14).pull 14).pull 14).pull 14)))) (fun w' hS => ?_)
 replace hF := lv_s hF; obtain ⟨x72, hx72, hF⟩ := hF
 refine pg (v := .bool (decide (q19 = 0))) 67 (c := x66) (says_t _) (fun hq => Yl.at (yl_eql (cv hq) rfl)) <| p (yand' rfl (fun hc => (cv hc)) rfl hx72) <| p (yl_assign rfl) <| x_done <| ?_
 have e_ := Option.some.inj (show some _ = some _ from hF); subst e_
 exact x_return ⟨_, ⟨_, _, rfl, rfl, rfl⟩, rfl, (ro_back0 q0z (((((((((((hS.drop.drop.drop.drop.pull 1).drop.pull 1).drop.pull 1).drop.pull 1).drop.pull 1).drop.pull 1).drop.pull 1).drop.pull 1).drop.pull 1).drop.pull 1).drop))⟩
attribute [irreducible] P_maskkeep4_ClocksBack


end Go.Proofs.YtlolchgeedegdaaDoor.X
