/- Printed by gen.py: plain functions, and that the Go code computes them. -/
import Derived.Test.YtnooiajahmichaaYJ
import Derived.Test.YtnooiajahmichaaXTS
import Derived.Test.YtnooiajahmichaaGSp0
import Derived.Test.YtnooiajahmichaaGSp1
import Derived.Test.YtnooiajahmichaaGSp2
import Derived.Test.YtnooiajahmichaaGSp3
namespace Go.Proofs.Ytnooiajahmichaa.X
open Go Go.RowKit
set_option linter.unusedVariables false
set_option linter.unusedSimpArgs false

def P_maskkeep4_StreamNotices (l_0 : List Int) (at_1 : Int) (change2 : Int) : Option Bool :=
  bd (P_maskmake_Stream_Config (T_maskmake_Stream.mk l_0 0)) fun r2_1 =>
  bd (P_stream_Encode r2_1.1) fun r2_2 =>
  bd (P_maskkeep4_streams) fun r3_0 =>
  lv ((!r3_0) || (decide (r2_2.2 ≠ 0))) fun x30 =>
  lv (x30 || (decide ((r2_2.1.length : Int) = 0))) fun x35 =>
  if x35 = true then
    some false
  else
    bd (P_maskmake_Below at_1 (r2_2.1.length : Int)) fun r5_3 =>
    bd (P_slices_Clone_byte_byte r2_2.1) fun r6_1 =>
    ck (inb r5_3 r6_1.length) <|
    lv (gt r6_1 r5_3) fun x45 =>
    bd (P_maskmake_Below change2 255) fun r7_5 =>
    ar ((1 : Int) + r7_5) fun x48 =>
    lv (x48 % 256) fun x49 =>
    lv (bXor .u8 x45 x49) fun x50 =>
    ck (inb r5_3 r6_1.length) <|
    lv (stt r6_1 r5_3 x50) fun z7_10 =>
    bd (P_stream_Decode z7_10) fun r8_1 =>
    ck (0 ≤ (0 : Int) ∧ (0 : Int) ≤ r5_3 ∧ r5_3 ≤ r2_2.1.length) <|
    lv (sub r2_2.1 0 r5_3) fun x60 =>
    bd (P_stream_Decode x60) fun r9_3 =>
    bd (P_slices_Clone_byte_byte r2_2.1) fun r10_1 =>
    lv (r10_1 ++ [0]) fun z10_3 =>
    ck (apOk 1 z10_3.length) <|
    bd (P_stream_Decode z10_3) fun r10_4 =>
    lv ((decide (r8_1.2 ≠ 0)) && (decide (r9_3.2 = 11))) fun x77 =>
    lv (x77 && (decide (r10_4.2 = 4))) fun x81 =>
    some x81
set_option maxHeartbeats 4000000 in
set_option maxRecDepth 100000 in
theorem c_maskkeep4_StreamNotices {w0 w : World} {l : List Assn} {ρ : Heap} {A_l_0 : Option Addr} {n_l_0 : Nat} {c_l_0 : Nat} {l_0 : List Int} {at_1 : Int} {change2 : Int} {r : Bool} (hF : P_maskkeep4_StreamNotices l_0 at_1 change2 = some r) (h_l_0 : RdS (RpI .i64) ρ A_l_0 n_l_0 c_l_0 l_0) (hS : St w0 w (ro ρ :: l)) :
    Calls Try.prog 7 #[.slice A_l_0 n_l_0 c_l_0, .int .i64 at_1, .int .i64 change2] w fun e w' => e = .returned (.bool r) ∧ St w0 w' (ro ρ :: l) := by
  have e_ := h_l_0.n; subst e_
  refine enterC Try.func7 rfl 82 rfl (by simp) ?_
  refine x_seq <| x_region <| p (yl_assign rfl) <| x_done <|
    x_seq <| x_region <| p (yl_move rfl) <| p (v := .agg #[.slice A_l_0 l_0.length c_l_0, .int .i64 0]) (yl_build bld_25 bldf_25 (parts_eq (pt (va := .slice A_l_0 l_0.length c_l_0) rfl pt0)) (by kernel_rfl)) <|
    ?_
  refine o_box (cs := [.slice A_l_0 l_0.length c_l_0, .int .i64 0]) rfl rfl hS (fun b18 w' hS => ?_)
  replace hF := bd_s hF; obtain ⟨r2_1, hc2_1, hF⟩ := hF
  refine p (yl_assign rfl) <| x_done <| x_seq <| x_region <|
    p (yl_move rfl) <|
    ?_
  have hcall := c_maskmake_Stream_Config hc2_1 h_l_0 ((hS.pull 1).pull 1)
  refine o_cc call_36 (args1 rfl) hcall ?_
  rintro e w' ⟨ρ'_2_1, A_y0_ret_3_2_1, n_y0_ret_3_2_1, c_y0_ret_3_2_1, cs_y0_ret_3_2_1, A_y0_ret_4_2_1, n_y0_ret_4_2_1, c_y0_ret_4_2_1, cs_y0_ret_4_2_1, A_y0_ret_5_2_1, n_y0_ret_5_2_1, c_y0_ret_5_2_1, cs_y0_ret_5_2_1, rfl, hle2_1, h_y0_ret_3_2_1, h_y0_ret_4_2_1, h_y0_ret_5_2_1, hS⟩
  refine ⟨_, rfl, ?_⟩
  have e_ := St.vec_n hS h_y0_ret_3_2_1; subst e_
  have e_ := St.vec_n (hS.pull 1) h_y0_ret_4_2_1; subst e_
  have e_ := St.vec_n (hS.pull 2) h_y0_ret_5_2_1; subst e_
  replace hF := bd_s hF; obtain ⟨r2_2, hc2_2, hF⟩ := hF
  have q_ := St.lend ((hS.pull 4).pull 1) h_y0_ret_3_2_1; obtain ⟨ρl0, hll0, hlf0, hS0, back0⟩ := q_
  have q_ := St.lend (hS0.pull 1) (h_y0_ret_4_2_1.le hll0); obtain ⟨ρl1, hll1, hlf1, hS1, back1⟩ := q_
  have q_ := St.lend (hS1.pull 1) (h_y0_ret_5_2_1.le (hll0.trans hll1)); obtain ⟨ρl2, hll2, hlf2, hS2, back2⟩ := q_
  have hcall := c_stream_Encode hc2_2 (hlf0.le (hll1.trans hll2)) (hlf1.le hll2) hlf2 hS2
  refine o_cc call_35 (args1 rfl) hcall ?_
  rintro e w' ⟨A_y0_ret_2_2, n_y0_ret_2_2, c_y0_ret_2_2, cs_y0_ret_2_2, rfl, h_y0_ret_2_2, hS⟩
  refine ⟨_, rfl, ?_⟩
  replace hS := back2 (hS.pull 1)
  replace hS := back1 (hS.pull 1)
  replace hS := back0 (hS.pull 1)
  replace h_y0_ret_2_2 : RepL (RpI .u8) ρ'_2_1 r2_2.1 cs_y0_ret_2_2 := RepL.flat (fun h => h) h_y0_ret_2_2
  have e_ := St.vec_n (hS.pull 4) h_y0_ret_2_2; subst e_
  replace hF := bd_s hF; obtain ⟨r3_0, hc3_0, hF⟩ := hF
  refine p (yl_move rfl) <| p (yl_extract rfl rfl) <| p (yl_extract rfl rfl) <| p (yl_assign rfl) <|
    p (yl_assign rfl) <| x_done <| x_seq <| x_seq <|
    x_region <|
    ?_
  have hcall := c_maskkeep4_streams hc3_0  (hS.pull 1)
  refine o_cc call_37 args0 ((Calls.mono hcall (fun e w'' h => And.intro h.1 ((((((h.2.pull 5).pull 5).pull 5).pull 5).pull 4).pull 5)))) ?_
  rintro e w' ⟨rfl, hS⟩
  refine ⟨_, rfl, ?_⟩
  replace hF := lv_s hF; obtain ⟨x30, hx30, hF⟩ := hF
  replace hF := lv_s hF; obtain ⟨x35, hx35, hF⟩ := hF
  refine p (yl_not rfl) <| p (yl_move rfl) <| pg (v := .int .i64 r2_2.2) 27 (c := !(!r3_0)) (says_f _) (fun hq => Yl.at (yl_move rfl)) <| pg (v := .bool (decide (r2_2.2 ≠ 0))) 27 (c := !(!r3_0)) (says_f _) (fun hq => Yl.at (yl_neq (cv hq) rfl)) <|
    p (yor' rfl rfl (fun hc => (cv (t_not hc))) hx30) <| p (yl_move rfl) <| pg (v := .slice A_y0_ret_2_2 r2_2.1.length c_y0_ret_2_2) 31 (c := !x30) (says_f _) (fun hq => Yl.at (yl_move rfl)) <| pg (v := .int .i64 (r2_2.1.length : Int)) 31 (c := !x30) (says_f _) (fun hq => Yl.at (yl_len_slice usl_75 (cv hq))) <|
    pg (v := .bool (decide ((r2_2.1.length : Int) = 0))) 31 (c := !x30) (says_f _) (fun hq => Yl.at (yl_eql (cv hq) rfl)) <| p (yor' rfl rfl (fun hc => (cv (t_not hc))) hx35) <| x_done <|
    x_cond (t := x35) rfl (fun hc35 => ?_) (fun hc35 => ?_)
  · replace hF := it_t hc35 hF
    refine x_seq <| x_region <| p (yl_assign rfl) <| x_done <|
      ?_
    have e_ := Option.some.inj (show some _ = some _ from hF); subst e_
    exact x_return ⟨_, ⟨_, _, rfl, rfl, rfl⟩, rfl, (ro_back0 hle2_1 (((((hS.drop.pull 1).drop.pull 1).drop.pull 1).drop.pull 1).drop))⟩
  · replace hF := it_bf hc35 hF
    replace hF := bd_s hF; obtain ⟨r5_3, hc5_3, hF⟩ := hF
    refine x_skip <| x_seq <| x_region <| p (yl_move rfl) <|
      p (yl_move rfl) <| p (yl_len_slice usl_75 rfl) <|
      ?_
    have hcall := c_maskmake_Below hc5_3  (hS.pull 1)
    refine o_cc call_38 (args2 rfl rfl) ((Calls.mono hcall (fun e w'' h => And.intro h.1 ((((((h.2.pull 5).pull 5).pull 5).pull 5).pull 4).pull 5)))) ?_
    rintro e w' ⟨rfl, hS⟩
    refine ⟨_, rfl, ?_⟩
    replace hF := bd_s hF; obtain ⟨r6_1, hc6_1, hF⟩ := hF
    refine p (v := .int .i64 r5_3) (yl_assign rfl) <| x_done <| x_seq <| x_region <|
      p (yl_move rfl) <|
      ?_
    have q_ := St.lend ((hS.pull 1).pull 4) h_y0_ret_2_2; obtain ⟨ρl0, hll0, hlf0, hS0, back0⟩ := q_
    have hcall := c_slices_Clone_byte_byte hc6_1 hlf0 hS0
    refine o_cc call_39 (args1 rfl) hcall ?_
    rintro e w' ⟨A_y0_ret_6_1, n_y0_ret_6_1, c_y0_ret_6_1, cs_y0_ret_6_1, rfl, h_y0_ret_6_1, hS⟩
    refine ⟨_, rfl, ?_⟩
    replace hS := back0 (hS.pull 1)
    replace h_y0_ret_6_1 : RepL (RpI .u8) ρ'_2_1 r6_1 cs_y0_ret_6_1 := RepL.flat (fun h => h) h_y0_ret_6_1
    have e_ := St.vec_n (hS.pull 2) h_y0_ret_6_1; subst e_
    replace hF := ck_s hF; obtain ⟨hk7_2, hF⟩ := hF
    replace hF := lv_s hF; obtain ⟨x45, hx45, hF⟩ := hF
    replace hF := bd_s hF; obtain ⟨r7_5, hc7_5, hF⟩ := hF
    replace hF := ar_s hF; obtain ⟨x48, hx48, hF⟩ := hF
    replace hF := lv_s hF; obtain ⟨x49, hx49, hF⟩ := hF
    replace hF := lv_s hF; obtain ⟨x50, hx50, hF⟩ := hF
    replace hF := ck_s hF; obtain ⟨hk7_9, hF⟩ := hF
    refine p (yl_assign rfl) <| x_done <| x_seq <| x_head 10 mixed (by kernel_rfl) hS _ _ rfl rfl <|
      q (yl_move rfl) <| q (v := .int .i64 r5_3) (yl_move rfl) <| q (yix_o sl_75 rfl rfl (hS.pull 2) h_y0_ret_6_1 hk7_2) <| qa (fun w' hS => at_load one_5 rfl (RepL.getW h_y0_ret_6_1 (hS.pull 2) hk7_2 hx45)) <|
      q (yl_move rfl) <| qcc (v := .int .i64 r7_5) call_38 (args2 rfl rfl) (fun w' hS => by
        have hcall := c_maskmake_Below hc7_5  (hS.pull 1)
        exact (Calls.mono hcall (fun e w'' h => And.intro h.1 (((((((h.2.pull 6).pull 6).pull 6).pull 6).pull 6).pull 5).pull 6)))) <| q (yadd rfl rfl hx48) <| q (yconvu wm_u8 uk_3 ik_5 rfl hx49) <|
      q (yxor rfl rfl hx50) <| q (yix_o sl_75 rfl rfl (hS.pull 2) h_y0_ret_6_1 hk7_9) <|
      q_done fun w' hS => ?_
    replace hF := lv_s hF; obtain ⟨z7_10, hz7_10, hF⟩ := hF
    refine o_put' (news := [.int .u8 x50]) sz_5 rfl rfl rfl rfl (o := 0) rfl hk7_9 rfl (hS.pull 2) h_y0_ret_6_1 (Le.refl _) (fun c hc => ok_all hc (show (RpI .u8).ok ρ'_2_1 [.int .u8 x50] x50 from rfl)) hz7_10 (fun cs7_10 w' hr7_10 hS => ?_)
    refine x_done <| x_seq <| x_region <| p (yl_move rfl) <|
      ?_
    have q_ := St.vec_fz ((hS.pull 2).pull 1) hr7_10; obtain ⟨ρz8_1, hlez8_1, fz8_1, hS⟩ := q_
    replace hF := bd_s hF; obtain ⟨r8_1, hc8_1, hF⟩ := hF
    have hcall := c_stream_Decode hc8_1 fz8_1 hS
    refine o_cc call_40 (args1 rfl) hcall ?_
    rintro e w' ⟨ρ'_8_1, A_y0_ret_3_8_1, n_y0_ret_3_8_1, c_y0_ret_3_8_1, cs_y0_ret_3_8_1, A_y0_ret_4_8_1, n_y0_ret_4_8_1, c_y0_ret_4_8_1, cs_y0_ret_4_8_1, A_y0_ret_5_8_1, n_y0_ret_5_8_1, c_y0_ret_5_8_1, cs_y0_ret_5_8_1, rfl, hle8_1, h_y0_ret_3_8_1, h_y0_ret_4_8_1, h_y0_ret_5_8_1, hS⟩
    refine ⟨_, rfl, ?_⟩
    have e_ := St.vec_n hS h_y0_ret_3_8_1; subst e_
    have e_ := St.vec_n (hS.pull 1) h_y0_ret_4_8_1; subst e_
    have e_ := St.vec_n (hS.pull 2) h_y0_ret_5_8_1; subst e_
    refine p (yl_move rfl) <| p (yl_extract rfl rfl) <| p (yl_extract rfl rfl) <| p (yl_assign rfl) <|
      x_done <| x_seq <| x_region <| p (yl_move rfl) <|
      p (v := .int .i64 r5_3) (yl_move rfl) <|
      ?_
    have q_ := St.vec_fz ((hS.pull 3).pull 4) (h_y0_ret_2_2.le (hlez8_1.trans hle8_1)); obtain ⟨ρz9_2, hlez9_2, fz9_2, hS⟩ := q_
    replace hF := ck_s hF; obtain ⟨hk9_2, hF⟩ := hF
    replace hF := lv_s hF; obtain ⟨x60, hx60, hF⟩ := hF
    have q_ := RdS.sub fz9_2 hk9_2 hx60; obtain ⟨A60, n60, c60, hd60, f60⟩ := q_
    refine p (ysub_h sl_75 rfl rfl hk9_2 hd60) <|
      ?_
    have e_ := f60.n; subst e_
    replace hF := bd_s hF; obtain ⟨r9_3, hc9_3, hF⟩ := hF
    have hcall := c_stream_Decode hc9_3 f60 hS
    refine o_cc call_40 (args1 rfl) hcall ?_
    rintro e w' ⟨ρ'_9_3, A_y0_ret_3_9_3, n_y0_ret_3_9_3, c_y0_ret_3_9_3, cs_y0_ret_3_9_3, A_y0_ret_4_9_3, n_y0_ret_4_9_3, c_y0_ret_4_9_3, cs_y0_ret_4_9_3, A_y0_ret_5_9_3, n_y0_ret_5_9_3, c_y0_ret_5_9_3, cs_y0_ret_5_9_3, rfl, hle9_3, h_y0_ret_3_9_3, h_y0_ret_4_9_3, h_y0_ret_5_9_3, hS⟩
    refine ⟨_, rfl, ?_⟩
    have e_ := St.vec_n hS h_y0_ret_3_9_3; subst e_
    have e_ := St.vec_n (hS.pull 1) h_y0_ret_4_9_3; subst e_
    have e_ := St.vec_n (hS.pull 2) h_y0_ret_5_9_3; subst e_
    refine p (yl_move rfl) <| p (yl_extract rfl rfl) <| p (yl_extract rfl rfl) <|
      ?_
    refine o_alloc zero_81 hS (fun b12 w' hS => ?_)
    refine o_storeAgg (news := [.int .i64 r9_3.1.Rows, .int .i64 r9_3.1.Cols, .int .i64 r9_3.1.Tracks, .slice A_y0_ret_3_9_3 r9_3.1.Tiles.length c_y0_ret_3_9_3, .slice A_y0_ret_4_9_3 r9_3.1.In.length c_y0_ret_4_9_3, .slice A_y0_ret_5_9_3 r9_3.1.Out.length c_y0_ret_5_9_3]) agg_81 rfl rfl rfl (by simp [over_length]) hS (fun w' hS => ?_)
    replace hF := bd_s hF; obtain ⟨r10_1, hc10_1, hF⟩ := hF
    refine p (yl_assign rfl) <| x_done <| x_seq <| x_region <|
      p (yl_move rfl) <|
      ?_
    have hcall := c_slices_Clone_byte_byte hc10_1 (fz9_2.le hle9_3) (hS.pull 4)
    refine o_cc call_39 (args1 rfl) hcall ?_
    rintro e w' ⟨A_y0_ret_10_1, n_y0_ret_10_1, c_y0_ret_10_1, cs_y0_ret_10_1, rfl, h_y0_ret_10_1, hS⟩
    refine ⟨_, rfl, ?_⟩
    have e_ := St.vec_n hS h_y0_ret_10_1; subst e_
    refine o_buildSlice (vs := [.int .u8 0]) (cs := [.int .u8 0]) sl_75 zero_5 (parts_eq (pt (va := .int .u8 0) rfl pt0)) rfl (by intro v hv; simp only [List.mem_cons, List.not_mem_nil, or_false] at hv; first | (subst hv; rfl) | (rcases hv with rfl <;> rfl)) (by decide) rfl hS (fun b67 w' hS => ?_)
    replace hF := lv_s hF; obtain ⟨z10_3, hz10_3, hF⟩ := hF
    replace hF := ck_s hF; obtain ⟨hk10_3, hF⟩ := hF
    refine o_ap sl_75 zero_5 rfl (by decide) rfl rfl (hS.pull 1) h_y0_ret_10_1 (src_blk usl_75 hS rfl rfl) (RepL.cons (R := (RpI .u8)) (ρ := ρ'_9_3) (x := 0) (cs := [.int .u8 0]) rfl RepL.nil) hz10_3 hk10_3 (fun A68 c68 cs68 w' hr68 hS => ?_)
    have q_ := St.vec_fz ((hS.pull 2).pull 1) hr68; obtain ⟨ρz10_4, hlez10_4, fz10_4, hS⟩ := q_
    replace hF := bd_s hF; obtain ⟨r10_4, hc10_4, hF⟩ := hF
    have hcall := c_stream_Decode hc10_4 fz10_4 hS
    refine o_cc call_40 (args1 rfl) hcall ?_
    rintro e w' ⟨ρ'_10_4, A_y0_ret_3_10_4, n_y0_ret_3_10_4, c_y0_ret_3_10_4, cs_y0_ret_3_10_4, A_y0_ret_4_10_4, n_y0_ret_4_10_4, c_y0_ret_4_10_4, cs_y0_ret_4_10_4, A_y0_ret_5_10_4, n_y0_ret_5_10_4, c_y0_ret_5_10_4, cs_y0_ret_5_10_4, rfl, hle10_4, h_y0_ret_3_10_4, h_y0_ret_4_10_4, h_y0_ret_5_10_4, hS⟩
    refine ⟨_, rfl, ?_⟩
    have e_ := St.vec_n hS h_y0_ret_3_10_4; subst e_
    have e_ := St.vec_n (hS.pull 1) h_y0_ret_4_10_4; subst e_
    have e_ := St.vec_n (hS.pull 2) h_y0_ret_5_10_4; subst e_
    refine p (yl_move rfl) <| p (yl_extract rfl rfl) <| p (yl_extract rfl rfl) <|
      ?_
    refine o_alloc zero_81 hS (fun b14 w' hS => ?_)
    refine o_storeAgg (news := [.int .i64 r10_4.1.Rows, .int .i64 r10_4.1.Cols, .int .i64 r10_4.1.Tracks, .slice A_y0_ret_3_10_4 r10_4.1.Tiles.length c_y0_ret_3_10_4, .slice A_y0_ret_4_10_4 r10_4.1.In.length c_y0_ret_4_10_4, .slice A_y0_ret_5_10_4 r10_4.1.Out.length c_y0_ret_5_10_4]) agg_81 rfl rfl rfl (by simp [over_length]) hS (fun w' hS => ?_)
    replace hF := lv_s hF; obtain ⟨x77, hx77, hF⟩ := hF
    replace hF := lv_s hF; obtain ⟨x81, hx81, hF⟩ := hF
    refine p (yl_assign rfl) <| x_done <| x_seq <| x_region <|
      p (yl_move rfl) <| p (yl_neq rfl rfl) <| p (yl_move rfl) <| pg (v := .int .i64 r9_3.2) 74 (c := decide (r8_1.2 ≠ 0)) (says_t _) (fun hq => Yl.at (yl_move rfl)) <|
      pg (v := .bool (decide (r9_3.2 = 11))) 74 (c := decide (r8_1.2 ≠ 0)) (says_t _) (fun hq => Yl.at (yl_eql (cv hq) rfl)) <| p (yand' rfl (fun hc => (cv hc)) rfl hx77) <| p (yl_move rfl) <| pg (v := .int .i64 r10_4.2) 78 (c := x77) (says_t _) (fun hq => Yl.at (yl_move rfl)) <|
      pg (v := .bool (decide (r10_4.2 = 4))) 78 (c := x77) (says_t _) (fun hq => Yl.at (yl_eql (cv hq) rfl)) <| p (yand' rfl (fun hc => (cv hc)) rfl hx81) <| p (yl_assign rfl) <| x_done <|
      ?_
    have e_ := Option.some.inj (show some _ = some _ from hF); subst e_
    exact x_return ⟨_, ⟨_, _, rfl, rfl, rfl⟩, rfl, (ro_back0 ((((((hle2_1.trans hlez8_1).trans hle8_1).trans hlez9_2).trans hle9_3).trans hlez10_4).trans hle10_4) (((((((((((((hS.drop.drop.drop.drop.pull 1).drop.pull 1).drop.pull 1).drop.pull 1).drop.pull 1).drop.pull 1).drop.pull 1).drop.pull 1).drop.pull 1).drop.pull 1).drop.pull 1).drop.pull 1).drop))⟩
attribute [irreducible] P_maskkeep4_StreamNotices


end Go.Proofs.Ytnooiajahmichaa.X
