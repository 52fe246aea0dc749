/- Printed by gen.py: plain functions, and that the Go code computes them. -/
import Derived.Test.YtlolchgeedegdaaDoorXI
import Derived.Test.YtlolchgeedegdaaDoorXT
import Derived.Test.YtlolchgeedegdaaDoorGAp0
import Derived.Test.YtlolchgeedegdaaDoorGAp1
namespace Go.Proofs.YtlolchgeedegdaaDoor.X
open Go Go.RowKit
set_option linter.unusedVariables false
set_option linter.unusedSimpArgs false

def P_maskkeep4_LayfmtFaults (l_0 : List Int) (q6 : Int) : Option Bool :=
 bd (P_maskmake_Stream_Layout (T_maskmake_Stream.mk l_0 0)) fun q7 =>
 bd (P_layfmt_Text q7.1) fun q5 =>
 bd (P_strings_Split q5.1 (⟨#[10]⟩ : ByteArray)) fun q2 =>
 bd (P_maskkeep4_writes) fun q8 =>
 lv ((!q8) || (decide (q5.2 ≠ 0))) fun x28 =>
 lv (x28 || (decide ((q2.length : Int) < 2))) fun x33 =>
 if x33 = true then
  some false
 else
  ar ((q2.length : Int) - 1) fun x37 =>
  bd (P_maskmake_Below q6 x37) fun q3 =>
  ck (inb q3 q2.length) <|
  lv (gt q2 q3) fun x44 =>
  ck ((⟨#[120]⟩ : ByteArray).size + x44.size ≤ 140737488355328) <|
  ck (inb q3 q2.length) <|
  lv (stt q2 q3 ((⟨#[120]⟩ : ByteArray) ++ x44)) fun q9 =>
  bd (P_strings_Join q9 (⟨#[10]⟩ : ByteArray)) fun q0a =>
  bd (P_layfmt_Read q0a) fun q4 =>
  ck ((decide (q4.2.2 = 10)) = true → I64 (q3 + 1)) <|
  lv (q3 + 1) fun x59 =>
  lv ((decide (q4.2.2 = 10)) && (decide (q4.2.1 = x59))) fun x61 =>
  some x61
set_option maxHeartbeats 4000000 in
set_option maxRecDepth 100000 in
theorem c_maskkeep4_LayfmtFaults {w0 w : World} {l : List Assn} {ρ : Heap} {q8 : Option Addr} {q0k : Nat} {c_l_0 : Nat} {l_0 : List Int} {q19 : Int} {r : Bool} (hF : P_maskkeep4_LayfmtFaults l_0 q19 = some r) (q0l : RdS (RpI .i64) ρ q8 q0k c_l_0 l_0) (hS : St w0 w (ro ρ :: l)) :
  Calls Tryd.prog 10 #[.slice q8 q0k c_l_0, .int .i64 q19] w fun e w' => e = .returned (.bool r) ∧ St w0 w' (ro ρ :: l) := by
 have e_ := q0l.n; subst e_
 refine enterC Tryd.func10 rfl 62 rfl (by simp) ?_
 refine x_seq <| x_region <| p (yl_assign rfl) <| x_done <|
  x_seq <| x_region <| p (yl_move rfl) <| p (v := .agg #[.slice q8 l_0.length c_l_0, .int .i64 0]) (yl_build bld_25 bldf_25 (parts_eq (pt (va := .slice q8 l_0.length c_l_0) rfl pt0)) (by kernel_rfl)) <| ?_
 refine o_box (cs := [.slice q8 l_0.length c_l_0, .int .i64 0]) rfl rfl hS (fun b14 w' hS => ?_)
 replace hF := bd_s hF; obtain ⟨q1p, q1b, hF⟩ := hF
 refine p (yl_assign rfl) <| x_done <| x_seq <| x_region <|
  p (yl_move rfl) <| ?_
 have hcall := c_maskmake_Stream_Layout q1b q0l ((hS.pull 1).pull 1)
 refine o_cc call_33 (args1 rfl) hcall ?_
 rintro e w' ⟨q0w, q0x, c_y0_ret_4_2_1, q0m, q0y, q0z, c_y0_ret_5_2_1, q0n, q10, q11, c_y0_ret_6_2_1, q0o, q12, q13, c_y0_ret_7_2_1, q0p, rfl, q3, q4, q5, q6, hS⟩
 refine ⟨_, rfl, ?_⟩
 have e_ := St.vec_n hS q3; subst e_
 have e_ := St.vec_n (hS.pull 1) q4; subst e_
 have e_ := St.vec_n (hS.pull 2) q5; subst e_
 have e_ := St.vec_n (hS.pull 3) q6; subst e_
 replace hF := bd_s hF; obtain ⟨q0h, q1c, hF⟩ := hF
 have q_ := St.lend ((hS.pull 5).pull 1) q3; obtain ⟨ρl0, hll0, hlf0, hS0, back0⟩ := q_
 have q_ := St.lend (hS0.pull 1) (q4.le hll0); obtain ⟨ρl1, hll1, hlf1, hS1, back1⟩ := q_
 have q_ := St.lend (hS1.pull 1) (q5.le (hll0.trans hll1)); obtain ⟨ρl2, hll2, hlf2, hS2, back2⟩ := q_
 have q_ := St.lend (hS2.pull 1) (q6.le ((hll0.trans hll1).trans hll2)); obtain ⟨ρl3, hll3, hlf3, hS3, back3⟩ := q_
 have hcall := c_layfmt_Text q1c (hlf0.le ((hll1.trans hll2).trans hll3)) (hlf1.le (hll2.trans hll3)) (hlf2.le hll3) hlf3 hS3
 refine o_cc call_34 (args1 rfl) ((Calls.mono hcall (fun e w'' h => And.intro h.1 (((((((back0 ((back1 ((back2 ((back3 h.2).pull 1)).pull 1)).pull 1)).pull 1).pull 5).pull 5).pull 5).pull 5).pull 5)))) ?_
 rintro e w' ⟨rfl, hS⟩
 refine ⟨_, rfl, ?_⟩
 replace hF := bd_s hF; obtain ⟨q0j, q1d, hF⟩ := hF
 refine p (v := .tuple #[.string q0h.1, .int .i64 q0h.2]) (yl_move rfl) <| p (yl_extract rfl rfl) <| p (yl_extract rfl rfl) <| p (yl_assign rfl) <|
  p (yl_assign rfl) <| x_done <| x_seq <| x_region <|
  p (yl_move rfl) <| ?_
 have hcall := c_strings_Split q1d  (hS.pull 5)
 refine o_cc call_30 (args2 rfl rfl) hcall ?_
 rintro e w' ⟨q14, q1n, c_r_3_1, q1m, rfl, q7, hS⟩
 refine ⟨_, rfl, ?_⟩
 have e_ := St.vec_n hS q7; subst e_
 replace hF := bd_s hF; obtain ⟨q1a, q1e, hF⟩ := hF
 refine p (yl_assign rfl) <| x_done <| x_seq <| x_seq <|
  x_region <| ?_
 have hcall := c_maskkeep4_writes q1e  (hS.pull 1)
 refine o_cc call_36 args0 ((Calls.mono hcall (fun e w'' h => And.intro h.1 (((((((h.2.pull 6).pull 6).pull 6).pull 6).pull 6).pull 5).pull 6)))) ?_
 rintro e w' ⟨rfl, hS⟩
 refine ⟨_, rfl, ?_⟩
 replace hF := lv_s hF; obtain ⟨x28, hx28, hF⟩ := hF
 replace hF := lv_s hF; obtain ⟨x33, hx33, hF⟩ := hF
 refine p (yl_not rfl) <| p (yl_move rfl) <| pg (v := .int .i64 q0h.2) 25 (c := !(!q1a)) (says_f _) (fun hq => Yl.at (yl_move rfl)) <| pg (v := .bool (decide (q0h.2 ≠ 0))) 25 (c := !(!q1a)) (says_f _) (fun hq => Yl.at (yl_neq (cv hq) rfl)) <|
  p (yor' rfl rfl (fun hc => (cv (t_not hc))) hx28) <| p (yl_move rfl) <| pg (v := .slice q14 q0j.length c_r_3_1) 29 (c := !x28) (says_f _) (fun hq => Yl.at (yl_move rfl)) <| pg (v := .int .i64 (q0j.length : Int)) 29 (c := !x28) (says_f _) (fun hq => Yl.at (yl_len_slice usl_26 (cv hq))) <|
  pg (v := .bool (decide ((q0j.length : Int) < 2))) 29 (c := !x28) (says_f _) (fun hq => Yl.at (yl_lss (cv hq) rfl)) <| p (yor' rfl rfl (fun hc => (cv (t_not hc))) hx33) <| x_done <|
  x_cond (t := x33) rfl (fun hc33 => ?_) (fun hc33 => ?_)
 ·replace hF := it_t hc33 hF
  refine x_seq <| x_region <| p (yl_assign rfl) <| x_done <| ?_
  have e_ := Option.some.inj (show some _ = some _ from hF); subst e_
  exact x_return ⟨_, ⟨_, _, rfl, rfl, rfl⟩, rfl, ((((((hS.drop.pull 1).drop.pull 1).drop.pull 1).drop.pull 1).drop.pull 1).drop)⟩
 ·replace hF := it_bf hc33 hF
  replace hF := ar_s hF; obtain ⟨x37, hx37, hF⟩ := hF
  replace hF := bd_s hF; obtain ⟨q0i, q1f, hF⟩ := hF
  refine x_skip <| x_seq <| x_region <| p (yl_move rfl) <|
   p (yl_move rfl) <| p (yl_len_slice usl_26 rfl) <| p (ysub rfl rfl hx37) <| ?_
  have hcall := c_maskmake_Below q1f  (hS.pull 1)
  refine o_cc call_18 (args2 rfl rfl) ((Calls.mono hcall (fun e w'' h => And.intro h.1 (((((((h.2.pull 6).pull 6).pull 6).pull 6).pull 6).pull 5).pull 6)))) ?_
  rintro e w' ⟨rfl, hS⟩
  refine ⟨_, rfl, ?_⟩
  replace hF := ck_s hF; obtain ⟨q0q, hF⟩ := hF
  replace hF := lv_s hF; obtain ⟨x44, hx44, hF⟩ := hF
  replace hF := ck_s hF; obtain ⟨q1g, hF⟩ := hF
  replace hF := ck_s hF; obtain ⟨q0r, hF⟩ := hF
  refine p (v := .int .i64 q0i) (yl_assign rfl) <| x_done <| x_seq <| x_region <|
   p (yl_move rfl) <| p (v := .int .i64 q0i) (yl_move rfl) <| p (yl_move rfl) <| p (v := .int .i64 q0i) (yl_move rfl) <|
   p (yix_o sl_26 rfl rfl hS q7 q0q) <| pa (at_load one_9 rfl (RepL.getW q7 hS q0q hx44)) <| p (yadds rfl rfl q1g) <| p (yix_o sl_26 rfl rfl hS q7 q0r) <| ?_
  replace hF := lv_s hF; obtain ⟨q1q, q1h, hF⟩ := hF
  refine o_put' (news := [.string ((⟨#[120]⟩ : ByteArray) ++ x44)]) sz_9 rfl rfl rfl rfl (o := 0) rfl q0r rfl hS q7 (Le.refl _) (fun c hc => ok_all hc (show RpS.ok ρ [.string ((⟨#[120]⟩ : ByteArray) ++ x44)] ((⟨#[120]⟩ : ByteArray) ++ x44) from rfl)) q1h (fun q1o w' q1i hS => ?_)
  replace hF := bd_s hF; obtain ⟨q1r, q1j, hF⟩ := hF
  refine x_done <| x_seq <| x_region <| p (yl_move rfl) <| ?_
  have q_ := St.lend ((hS.pull 1).pull 1) q1i; obtain ⟨ρl0, hll0, hlf0, hS0, back0⟩ := q_
  have hcall := c_strings_Join q1j hlf0 hS0
  refine o_cc call_31 (args2 rfl rfl) ((Calls.mono hcall (fun e w'' h => And.intro h.1 ((((((((back0 h.2).pull 6).pull 6).pull 6).pull 6).pull 6).pull 6).pull 6)))) ?_
  rintro e w' ⟨rfl, hS⟩
  refine ⟨_, rfl, ?_⟩
  replace hF := bd_s hF; obtain ⟨q2, q1k, hF⟩ := hF
  have hcall := c_layfmt_Read q1k  (hS.pull 1)
  refine o_cc call_35 (args1 rfl) hcall ?_
  rintro e w' ⟨q9, q15, c_y0_ret_4_8_2, q0s, q0a, q16, c_y0_ret_5_8_2, q0t, q0b, q17, c_y0_ret_6_8_2, q0u, q0c, q18, c_y0_ret_7_8_2, q0v, rfl, q0d, q0e, q0f, q0g, hS⟩
  refine ⟨_, rfl, ?_⟩
  have e_ := St.vec_n hS q0d; subst e_
  have e_ := St.vec_n (hS.pull 1) q0e; subst e_
  have e_ := St.vec_n (hS.pull 2) q0f; subst e_
  have e_ := St.vec_n (hS.pull 3) q0g; subst e_
  refine p (yl_move rfl) <| p (yl_extract rfl rfl) <| p (yl_extract rfl rfl) <| p (yl_extract rfl rfl) <| ?_
  refine o_alloc zero_91 hS (fun b10 w' hS => ?_)
  refine o_storeAgg (news := [.int .i64 q2.1.W, .int .i64 q2.1.H, .int .i64 q2.1.Layers, .int .i64 q2.1.Nets, .slice q9 q2.1.Wires.length c_y0_ret_4_8_2, .slice q0a q2.1.Vias.length c_y0_ret_5_8_2, .slice q0b q2.1.Pins.length c_y0_ret_6_8_2, .slice q0c q2.1.Walls.length c_y0_ret_7_8_2]) agg_91 rfl rfl rfl (by simp [over_length]) hS (fun w' hS => ?_)
  replace hF := ck_s hF; obtain ⟨q1l, hF⟩ := hF
  replace hF := lv_s hF; obtain ⟨x59, hx59, hF⟩ := hF
  replace hF := lv_s hF; obtain ⟨x61, hx61, hF⟩ := hF
  refine p (yl_assign rfl) <| p (yl_assign rfl) <| x_done <| x_seq <|
   x_region <| p (yl_move rfl) <| p (yl_eql rfl rfl) <| p (yl_move rfl) <|
   pg (v := .int .i64 q2.2.1) 56 (c := decide (q2.2.2 = 10)) (says_t _) (fun hq => Yl.at (yl_move rfl)) <| pg (v := .int .i64 q0i) 56 (c := decide (q2.2.2 = 10)) (says_t _) (fun hq => Yl.at (yl_move rfl)) <| pg (v := .int .i64 x59) 56 (c := decide (q2.2.2 = 10)) (says_t _) (fun hq => Yl.at (yadd (cv hq) rfl ⟨hx59, (q1l hq)⟩)) <| pg (v := .bool (decide (q2.2.1 = x59))) 56 (c := decide (q2.2.2 = 10)) (says_t _) (fun hq => Yl.at (yl_eql (cv hq) (cv hq))) <|
   p (yand' rfl (fun hc => (cv hc)) rfl hx61) <| p (yl_assign rfl) <| x_done <| ?_
  have e_ := Option.some.inj (show some _ = some _ from hF); subst e_
  exact x_return ⟨_, ⟨_, _, rfl, rfl, rfl⟩, rfl, (((((((hS.drop.drop.drop.drop.drop.pull 1).drop.pull 1).drop.pull 1).drop.pull 1).drop.pull 1).drop.pull 1).drop)⟩
attribute [irreducible] P_maskkeep4_LayfmtFaults


end Go.Proofs.YtlolchgeedegdaaDoor.X
