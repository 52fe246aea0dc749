/- Printed by gen.py: plain functions, and that the Go code computes them. -/
import Derived.Test.YtnnmbmgnpdcefaaYJ
import Derived.Test.YtnnmbmgnpdcefaaXL
import Derived.Test.YtnnmbmgnpdcefaaYU
import Derived.Test.YtnnmbmgnpdcefaaXT
import Derived.Test.YtnnmbmgnpdcefaaGAp0
import Derived.Test.YtnnmbmgnpdcefaaGAp1
namespace Go.Proofs.Ytnnmbmgnpdcefaa.X
set_option maxHeartbeats 4000000
set_option maxRecDepth 100000
open Go Go.RowKit
set_option linter.unusedVariables false
set_option linter.unusedSimpArgs false

def P_maskkeep4_ExtractGrows_L9 (l_0 : List Int) (q0b : List T_rules_Pin) : (Int × Int × List T_rules_Pin) → Nd ((Int × Int × List T_rules_Pin) ⊕ List T_rules_Pin) := fun (q3, q4, q2) =>
 if q3 < (q0b.length : Int) then
  nck (inb q3 q2.length) <|
  nlv (gt q2 q3) fun q9 =>
  nbd (
   if (!q9.Drive) = true then
    nck (inb q3 q2.length) <|
    nlv (gt q2 q3) fun q0a =>
    nbd (nof (P_maskmake_Stream_Next (T_maskmake_Stream.mk l_0 q4) 4)) fun q7 =>
    nar (q0a.Size + q7.1) fun x61 =>
    nck (inb q3 q2.length) <|
    nlv (stt q2 q3 { (gt q2 q3) with Size := x61 }) fun q8 =>
    nret (q7.2, q8)
   else
    nret (q4, q2)) fun (q5, q6) =>
  nar (q3 + 1) fun x64 =>
  nret (Sum.inl (x64, q5, q6))
 else
  nret (Sum.inr q2)
def P_maskkeep4_ExtractGrows_L18 (q3 : (List Int × Int)) (q5 : (List Int × Int)) (q4 : (List Int × Int)) : Int → Nd (Int ⊕ (Unit ⊕ Bool)) := fun q2 =>
 if q2 < (q3.1.length : Int) then
  nck (inb q2 q5.1.length) <|
  nlv (gt q5.1 q2) fun x105 =>
  nck (inb q2 q3.1.length) <|
  nlv (gt q3.1 q2) fun x109 =>
  nck ((!(decide (x105 < x109))) = true → inb q2 q4.1.length) <|
  nlv (gt q4.1 q2) fun x115 =>
  nck ((!(decide (x105 < x109))) = true → inb q2 q3.1.length) <|
  nlv (gt q3.1 q2) fun x119 =>
  nlv ((decide (x105 < x109)) || (decide (x115 < x119))) fun x121 =>
  nck ((!x121) = true → inb q2 q3.1.length) <|
  nlv (gt q3.1 q2) fun x126 =>
  nlv (x121 || (decide (x126 < 0))) fun x128 =>
  if x128 = true then
   nret (Sum.inr (Sum.inr false))
  else
   nar (q2 + 1) fun x129 =>
   nret (Sum.inl x129)
 else
  nret (Sum.inr (Sum.inl ()))
def P_maskkeep4_ExtractGrows (l_0 : List Int) : Nd Bool :=
 nbd (nof (P_maskmake_Stream_Tied (T_maskmake_Stream.mk l_0 0))) fun q2 =>
 nbd (nof (P_maskmake_Stream_Next (T_maskmake_Stream.mk l_0 q2.2) 4)) fun q4 =>
 nbd (P_extract_Elmore q2.1 0 q4.1) fun q3 =>
 nar (q4.1 + 1) fun x31 =>
 nbd (P_extract_Elmore q2.1 0 x31) fun q6 =>
 nbd (nof (P_slices_Clone_rules_Pin_rules_Pin q2.1.Pins)) fun q8 =>
 nbd (
  nlp (P_maskkeep4_ExtractGrows_L9 l_0 q8) fuel (0, q4.2, q8)) fun q7 =>
 nbd (P_extract_Elmore (T_rules_Layout.mk q2.1.W q2.1.H q2.1.Layers q2.1.Nets q2.1.Wires q2.1.Vias q7 q2.1.Walls) 0 q4.1) fun q5 =>
 nbd (P_maskkeep4_extracts) fun q9 =>
 nlv ((!q9) || (decide (q3.2 ≠ q6.2))) fun x77 =>
 nlv (x77 || (decide (q3.2 ≠ q5.2))) fun x82 =>
 nlv (x82 || (decide ((q3.1.length : Int) ≠ (q6.1.length : Int)))) fun x89 =>
 nlv (x89 || (decide ((q3.1.length : Int) ≠ (q5.1.length : Int)))) fun x96 =>
 if x96 = true then
  nret false
 else
  nbs (
   nlp (P_maskkeep4_ExtractGrows_L18 q3 q6 q5) fuel 0) (fun y => nret y) fun _ =>
  nret true
theorem c_maskkeep4_ExtractGrows {w0 w : World} {l : List Assn} {ρ : Heap} {q0w : Option Addr} {q2g : Nat} {c_l_0 : Nat} {l_0 : List Int} {Q : Bool → Prop} (hF : P_maskkeep4_ExtractGrows l_0 Q) (q1q : RdS (RpI .i64) ρ q0w q2g c_l_0 l_0) (hS : St w0 w (ro ρ :: l)) :
  Calls Try.prog 3 #[.slice q0w q2g c_l_0] w fun e w' => ∃ r : Bool, Q r ∧ e = .returned (.bool r) ∧ St w0 w' (ro ρ :: l) := by
 have e_ := q1q.n; subst e_
 refine enterC Try.func3 rfl 130 rfl (by simp) ?_
 refine x_seq <| x_region <| p (yl_assign rfl) <| x_done <|
  x_seq <| x_region <| p (yl_move rfl) <| p (v := .agg #[.slice q0w l_0.length c_l_0, .int .i64 0]) (yl_build bld_25 bldf_25 (parts_eq (pt (va := .slice q0w l_0.length c_l_0) rfl pt0)) (by kernel_rfl)) <| ?_
 refine o_box (cs := [.slice q0w l_0.length c_l_0, .int .i64 0]) rfl rfl hS (fun b17 w' hS => ?_)
 replace hF := nbd_s hF; obtain ⟨q2, q38, hF⟩ := hF
 refine p (yl_assign rfl) <| x_done <| x_seq <| x_region <|
  p (yl_move rfl) <| ?_
 have hcall := c_maskmake_Stream_Tied q38 q1q ((hS.pull 1).pull 1)
 refine o_cc call_8 (args1 rfl) hcall ?_
 rintro e w' ⟨q4, q2k, c_y0_ret_4_2_1, q0n, q5, q2l, c_y0_ret_5_2_1, q0o, q0k, q2m, c_y0_ret_6_2_1, q2h, q6, q2n, c_y0_ret_7_2_1, q0p, rfl, q0r, q0s, q0t, q0u, hS⟩
 refine ⟨_, rfl, ?_⟩
 have e_ := St.vec_n hS q0r; subst e_
 have e_ := St.vec_n (hS.pull 1) q0s; subst e_
 have e_ := St.vec_n (hS.pull 2) q0t; subst e_
 have e_ := St.vec_n (hS.pull 3) q0u; subst e_
 refine o_alloc zero_31 hS (fun b4 w' hS => ?_)
 refine o_storeAgg (news := [.int .i64 q2.1.W, .int .i64 q2.1.H, .int .i64 q2.1.Layers, .int .i64 q2.1.Nets, .slice q4 q2.1.Wires.length c_y0_ret_4_2_1, .slice q5 q2.1.Vias.length c_y0_ret_5_2_1, .slice q0k q2.1.Pins.length c_y0_ret_6_2_1, .slice q6 q2.1.Walls.length c_y0_ret_7_2_1]) agg_31 rfl rfl rfl (by simp [over_length]) hS (fun w' hS => ?_)
 replace hF := nbd_s hF; obtain ⟨q25, q39, hF⟩ := hF
 refine x_done <| x_seq <| x_region <| p (yl_move rfl) <| ?_
 have hcall := c_maskmake_Stream_Next q39 q1q ((hS.pull 6).pull 6)
 refine o_cc call_9 (args2 rfl rfl) hcall ?_
 rintro e w' ⟨rfl, hS⟩
 refine ⟨_, rfl, ?_⟩
 refine p (yl_assign rfl) <| x_done <| x_seq <| x_region <|
  pa (v := .agg #[.int .i64 q2.1.W, .int .i64 q2.1.H, .int .i64 q2.1.Layers, .int .i64 q2.1.Nets, .slice q4 q2.1.Wires.length c_y0_ret_4_2_1, .slice q5 q2.1.Vias.length c_y0_ret_5_2_1, .slice q0k q2.1.Pins.length c_y0_ret_6_2_1, .slice q6 q2.1.Walls.length c_y0_ret_7_2_1]) (ld_sub agg_31 rfl rfl rfl (hS.pull 2)) <| p (yl_move rfl) <| ?_
 have q_ := St.lend ((hS.pull 1).pull 3) q0r; obtain ⟨ρl0, hll0, hlf0, hS0, back0⟩ := q_
 have q_ := St.lend (hS0.pull 3) (q0s.le hll0); obtain ⟨ρl1, hll1, hlf1, hS1, back1⟩ := q_
 have q_ := St.lend (hS1.pull 3) (q0t.le (hll0.trans hll1)); obtain ⟨ρl2, hll2, hlf2, hS2, back2⟩ := q_
 have q_ := St.lend (hS2.pull 3) (q0u.le ((hll0.trans hll1).trans hll2)); obtain ⟨ρl3, hll3, hlf3, hS3, back3⟩ := q_
 have hcall := c_extract_Elmore (nbd_c hF) (hlf0.le ((hll1.trans hll2).trans hll3)) (hlf1.le (hll2.trans hll3)) (hlf2.le hll3) hlf3 hS3
 refine o_cc call_10 (args3 rfl rfl rfl) hcall ?_
 rintro e w' ⟨q0a, hF, q7, q2t, c_y0_ret_4_2, q0h, rfl, q0d, hS⟩
 refine ⟨_, rfl, ?_⟩
 replace hS := back3 (hS.pull 1)
 replace hS := back2 (hS.pull 1)
 replace hS := back1 (hS.pull 1)
 replace hS := back0 (hS.pull 1)
 replace q0d : RepL (RpI .i64) ρ q0a.1 q0h := RepL.flat (fun h => h) q0d
 have e_ := St.vec_n (hS.pull 5) q0d; subst e_
 replace hF := nar_s hF; obtain ⟨x31, hx31, hF⟩ := hF
 refine p (yl_move rfl) <| p (yl_extract rfl rfl) <| p (yl_extract rfl rfl) <| p (yl_assign rfl) <|
  p (yl_assign rfl) <| x_done <| x_seq <| x_region <|
  pa (v := .agg #[.int .i64 q2.1.W, .int .i64 q2.1.H, .int .i64 q2.1.Layers, .int .i64 q2.1.Nets, .slice q4 q2.1.Wires.length c_y0_ret_4_2_1, .slice q5 q2.1.Vias.length c_y0_ret_5_2_1, .slice q0k q2.1.Pins.length c_y0_ret_6_2_1, .slice q6 q2.1.Walls.length c_y0_ret_7_2_1]) (ld_sub agg_31 rfl rfl rfl (hS.pull 7)) <| p (yl_move rfl) <| p (yadd rfl rfl hx31) <| ?_
 have q_ := St.lend ((hS.pull 1).pull 1) q0r; obtain ⟨ρl0, hll0, hlf0, hS0, back0⟩ := q_
 have q_ := St.lend (hS0.pull 1) (q0s.le hll0); obtain ⟨ρl1, hll1, hlf1, hS1, back1⟩ := q_
 have q_ := St.lend (hS1.pull 1) (q0t.le (hll0.trans hll1)); obtain ⟨ρl2, hll2, hlf2, hS2, back2⟩ := q_
 have q_ := St.lend (hS2.pull 1) (q0u.le ((hll0.trans hll1).trans hll2)); obtain ⟨ρl3, hll3, hlf3, hS3, back3⟩ := q_
 have hcall := c_extract_Elmore (nbd_c hF) (hlf0.le ((hll1.trans hll2).trans hll3)) (hlf1.le (hll2.trans hll3)) (hlf2.le hll3) hlf3 hS3
 refine o_cc call_10 (args3 rfl rfl rfl) hcall ?_
 rintro e w' ⟨q0f, hF, q0b, q2u, c_y0_ret_5_3, q0i, rfl, q0q, hS⟩
 refine ⟨_, rfl, ?_⟩
 replace hS := back3 (hS.pull 1)
 replace hS := back2 (hS.pull 1)
 replace hS := back1 (hS.pull 1)
 replace hS := back0 (hS.pull 1)
 replace q0q : RepL (RpI .i64) ρ q0f.1 q0i := RepL.flat (fun h => h) q0q
 have e_ := St.vec_n (hS.pull 5) q0q; subst e_
 refine p (yl_move rfl) <| p (yl_extract rfl rfl) <| p (yl_extract rfl rfl) <| p (yl_assign rfl) <|
  p (yl_assign rfl) <| x_done <| x_seq <| x_region <|
  pa (v := .agg #[.int .i64 q2.1.W, .int .i64 q2.1.H, .int .i64 q2.1.Layers, .int .i64 q2.1.Nets, .slice q4 q2.1.Wires.length c_y0_ret_4_2_1, .slice q5 q2.1.Vias.length c_y0_ret_5_2_1, .slice q0k q2.1.Pins.length c_y0_ret_6_2_1, .slice q6 q2.1.Walls.length c_y0_ret_7_2_1]) (ld_sub agg_31 rfl rfl rfl (hS.pull 8)) <| ?_
 refine o_alloc zero_31 hS (fun b10 w' hS => ?_)
 refine o_storeAgg (news := [.int .i64 q2.1.W, .int .i64 q2.1.H, .int .i64 q2.1.Layers, .int .i64 q2.1.Nets, .slice q4 q2.1.Wires.length c_y0_ret_4_2_1, .slice q5 q2.1.Vias.length c_y0_ret_5_2_1, .slice q0k q2.1.Pins.length c_y0_ret_6_2_1, .slice q6 q2.1.Walls.length c_y0_ret_7_2_1]) agg_31 rfl rfl rfl (by simp [over_length]) hS (fun w' hS => ?_)
 replace hF := nbd_s hF; obtain ⟨q8, q3a, hF⟩ := hF
 refine x_done <| x_seq <| x_region <| p (yl_field0 fld_31_6 rfl) <|
  pa (at_load one_28 rfl ((hS.pull 9).cell rfl)) <| ?_
 have q_ := St.lend ((hS.pull 2).pull 4) q0t; obtain ⟨ρl0, hll0, hlf0, hS0, back0⟩ := q_
 have hcall := c_slices_Clone_rules_Pin_rules_Pin q3a hlf0 hS0
 refine o_cc call_11 (args1 rfl) hcall ?_
 rintro e w' ⟨q3, q2v, c_y0_ret_7_2, q19, rfl, q0x, hS⟩
 refine ⟨_, rfl, ?_⟩
 replace hS := back0 (hS.pull 1)
 replace q0x : RepL R_rules_Pin ρ q8 q19 := RepL.flat (fun h => h) q0x
 have e_ := St.vec_n (hS.pull 2) q0x; subst e_
 refine p (yl_field0 fld_31_6 rfl) <| ?_
 refine o_store1 (v := .slice q3 q8.length c_y0_ret_7_2) one_28 rfl rfl rfl rfl (hS.pull 3) (fun w' hS => ?_)
 refine x_done <| x_seq <| x_seq <| x_region <|
  p (yl_field0 fld_31_6 rfl) <| pa (at_load one_28 rfl (hS.cell rfl)) <| p (yl_len_slice usl_28 rfl) <| p (yl_move rfl) <|
  x_done <| ?_
 replace hF := nbd_j hF; obtain ⟨oL9, hLL9, hF⟩ := hF
 refine x_join (fun E w => ∃ (q15 : List Value) (q1l : List T_rules_Pin), oL9 q1l ∧ E 5 = .int .i64 q25.1 ∧ E 6 = .slice q7 q0a.1.length c_y0_ret_4_2 ∧ E 7 = .int .i64 q0a.2 ∧ E 8 = .slice q0b q0f.1.length c_y0_ret_5_3 ∧ E 9 = .int .i64 q0f.2 ∧ E 10 = .pointer (some ⟨b10, 0, none⟩) ∧ RepL R_rules_Pin ρ q1l q15 ∧ St w0 w (vec 3 (RpI .i64).sz (.slice q7 q0a.1.length c_y0_ret_4_2) q0a.1.length q0h :: vec 3 (RpI .i64).sz (.slice q0b q0f.1.length c_y0_ret_5_3) q0f.1.length q0i :: cells b10 31 [.int .i64 q2.1.W, .int .i64 q2.1.H, .int .i64 q2.1.Layers, .int .i64 q2.1.Nets, .slice q4 q2.1.Wires.length c_y0_ret_4_2_1, .slice q5 q2.1.Vias.length c_y0_ret_5_2_1, .slice q3 q8.length c_y0_ret_7_2, .slice q6 q2.1.Walls.length c_y0_ret_7_2_1] :: vec 44 R_rules_Wire.sz (.slice q4 q2.1.Wires.length c_y0_ret_4_2_1) q2.1.Wires.length q0n :: vec 47 R_rules_Via.sz (.slice q5 q2.1.Vias.length c_y0_ret_5_2_1) q2.1.Vias.length q0o :: vec 39 R_rules_Pin.sz (.slice q3 q8.length c_y0_ret_7_2) q8.length q15 :: vec 66 R_floor_Wall.sz (.slice q6 q2.1.Walls.length c_y0_ret_7_2_1) q2.1.Walls.length q0p :: ro ρ :: l)) ?_ ?_
 ·refine x_block ?_
  refine x_loop (fun k_ E w => ∃ (q0c : List Value) (q9 : Int) (q0v : Int) (q12 : List T_rules_Pin), nlp (P_maskkeep4_ExtractGrows_L9 l_0 q8) k_ (q9, q0v, q12) oL9 ∧ E 3 = .pointer (some ⟨b17, 0, none⟩) ∧ E 5 = .int .i64 q25.1 ∧ E 6 = .slice q7 q0a.1.length c_y0_ret_4_2 ∧ E 7 = .int .i64 q0a.2 ∧ E 8 = .slice q0b q0f.1.length c_y0_ret_5_3 ∧ E 9 = .int .i64 q0f.2 ∧ E 10 = .pointer (some ⟨b10, 0, none⟩) ∧ E 42 = .int .i64 (q8.length : Int) ∧ E 43 = .int .i64 q9 ∧ RepL R_rules_Pin ρ q12 q0c ∧ St w0 w (cells b17 25 [.slice q0w l_0.length c_l_0, .int .i64 q0v] :: vec 3 (RpI .i64).sz (.slice q7 q0a.1.length c_y0_ret_4_2) q0a.1.length q0h :: vec 3 (RpI .i64).sz (.slice q0b q0f.1.length c_y0_ret_5_3) q0f.1.length q0i :: cells b10 31 [.int .i64 q2.1.W, .int .i64 q2.1.H, .int .i64 q2.1.Layers, .int .i64 q2.1.Nets, .slice q4 q2.1.Wires.length c_y0_ret_4_2_1, .slice q5 q2.1.Vias.length c_y0_ret_5_2_1, .slice q3 q8.length c_y0_ret_7_2, .slice q6 q2.1.Walls.length c_y0_ret_7_2_1] :: vec 44 R_rules_Wire.sz (.slice q4 q2.1.Wires.length c_y0_ret_4_2_1) q2.1.Wires.length q0n :: vec 47 R_rules_Via.sz (.slice q5 q2.1.Vias.length c_y0_ret_5_2_1) q2.1.Vias.length q0o :: vec 39 R_rules_Pin.sz (.slice q3 q8.length c_y0_ret_7_2) q8.length q0c :: vec 66 R_floor_Wall.sz (.slice q6 q2.1.Walls.length c_y0_ret_7_2_1) q2.1.Walls.length q0p :: ro ρ :: l)) fuel ⟨q19, 0, q25.2, q8, hLL9, rfl, rfl, rfl, rfl, rfl, rfl, rfl, rfl, rfl, q0x, (((((((((((hS.pull 1).drop.pull 9).drop.pull 1).pull 5).pull 3).pull 5).pull 5).pull 5).pull 6).pull 7).pull 8)⟩ ?_
  rintro kL9 E w ⟨q0c, q9, q0v, q12, hLL9, q1s, q1t, q1u, q1v, q1w, q1x, q16, q1o, q1a, q0g, hS⟩
  replace hLL9 := nlp_s hLL9; obtain ⟨kL9, obL9, rfl, hFL9, hLL9⟩ := hLL9
  refine x_seq <| x_region <| p (yl_lss q1a q1o) <| x_done <|
   x_seq <|
   x_cond_p (q9 < (q8.length : Int)) rfl (fun hc44 => ?_) (fun hc44 => ?_)
  ·replace hFL9 := nit_t hc44 hFL9
   replace hFL9 := nck_s hFL9; obtain ⟨q29, hFL9⟩ := hFL9
   replace hFL9 := nlv_s hFL9; obtain ⟨q3b, q2w, hFL9⟩ := hFL9
   have q_ := q0g.get q29; obtain ⟨q3e, q2a, q2x⟩ := q_
   rw [← q2w] at q2a
   have e_ := q2a; subst e_
   refine x_skip <| x_seq <| x_block <| x_seq <|
    x_region <| p (yl_move q1a) <| p (yl_assign rfl) <| x_done <|
    x_seq <| x_region <| p (yl_field0 fld_31_6 q16) <| pa (at_load one_28 rfl ((hS.pull 3).cell rfl)) <|
    p (yl_move rfl) <| p (yix_o sl_28 rfl rfl (hS.pull 6) q0g q29) <| p (yl_fieldAddr fld_39_3 rfl) <| pa (at_load one_4 rfl (EltV.ld (m := 3) q2x (hS.pull 6) rfl)) <|
    p (yl_not rfl) <| x_done <| ?_
   replace hFL9 := nbd_j hFL9; obtain ⟨oc52, hFc52, hFL9⟩ := hFL9
   refine x_join (fun E w => ∃ (q0y : List Value) (q13 : Int) (q14 : List T_rules_Pin), oc52 (q13, q14) ∧ E 3 = .pointer (some ⟨b17, 0, none⟩) ∧ E 5 = .int .i64 q25.1 ∧ E 6 = .slice q7 q0a.1.length c_y0_ret_4_2 ∧ E 7 = .int .i64 q0a.2 ∧ E 8 = .slice q0b q0f.1.length c_y0_ret_5_3 ∧ E 9 = .int .i64 q0f.2 ∧ E 10 = .pointer (some ⟨b10, 0, none⟩) ∧ E 42 = .int .i64 (q8.length : Int) ∧ E 43 = .int .i64 q9 ∧ RepL R_rules_Pin ρ q14 q0y ∧ St w0 w (cells b17 25 [.slice q0w l_0.length c_l_0, .int .i64 q13] :: vec 3 (RpI .i64).sz (.slice q7 q0a.1.length c_y0_ret_4_2) q0a.1.length q0h :: vec 3 (RpI .i64).sz (.slice q0b q0f.1.length c_y0_ret_5_3) q0f.1.length q0i :: cells b10 31 [.int .i64 q2.1.W, .int .i64 q2.1.H, .int .i64 q2.1.Layers, .int .i64 q2.1.Nets, .slice q4 q2.1.Wires.length c_y0_ret_4_2_1, .slice q5 q2.1.Vias.length c_y0_ret_5_2_1, .slice q3 q8.length c_y0_ret_7_2, .slice q6 q2.1.Walls.length c_y0_ret_7_2_1] :: vec 44 R_rules_Wire.sz (.slice q4 q2.1.Wires.length c_y0_ret_4_2_1) q2.1.Wires.length q0n :: vec 47 R_rules_Via.sz (.slice q5 q2.1.Vias.length c_y0_ret_5_2_1) q2.1.Vias.length q0o :: vec 39 R_rules_Pin.sz (.slice q3 q8.length c_y0_ret_7_2) q8.length q0y :: vec 66 R_floor_Wall.sz (.slice q6 q2.1.Walls.length c_y0_ret_7_2_1) q2.1.Walls.length q0p :: ro ρ :: l)) ?_ ?_
   ·refine x_cond (t := !q3b.Drive) rfl (fun hc52 => ?_) (fun hc52 => ?_)
    ·replace hFc52 := nit_t hc52 hFc52
     replace hFc52 := nck_s hFc52; obtain ⟨q2b, hFc52⟩ := hFc52
     replace hFc52 := nlv_s hFc52; obtain ⟨q26, q2y, hFc52⟩ := hFc52
     replace hFc52 := nbd_s hFc52; obtain ⟨q1b, q2z, hFc52⟩ := hFc52
     replace hFc52 := nar_s hFc52; obtain ⟨x61, hx61, hFc52⟩ := hFc52
     replace hFc52 := nck_s hFc52; obtain ⟨q2c, hFc52⟩ := hFc52
     replace hFc52 := nlv_s hFc52; obtain ⟨q1n, q2o, hFc52⟩ := hFc52
     refine x_par (w0 := w0) [⟨[], [], [53], [], [], [], none⟩, ⟨[0], [0], [54], [0], [], [], none⟩, ⟨[], [], [55], [], [], [], none⟩, ⟨[0, 1, 2], [1, 2], [56], [1], [], [], none⟩, ⟨[0, 1, 2, 3], [3], [57], [], [], [], none⟩, ⟨[0, 1, 2, 3, 4], [4], [58], [1], [], [], none⟩, ⟨[], [], [59], [], [], [], none⟩, ⟨[6], [6], [60], [3], [2], [4], none⟩, ⟨[0, 1, 2, 3, 4, 5, 6, 7], [5, 7], [61], [], [], [], none⟩, ⟨[0, 1, 2, 3, 4, 5, 6, 7, 8], [1, 2], [62], [1], [], [], none⟩, ⟨[0, 1, 2, 3, 4, 5, 6, 7, 8, 9], [9], [63], [], [], [], none⟩, ⟨[0, 1, 2, 3, 4, 5, 6, 7, 8, 9, 10], [8, 10], [], [], [1], [5], none⟩] [⟨none, none, []⟩, ⟨none, (some 11), []⟩, ⟨none, (some 7), []⟩, ⟨none, none, []⟩, ⟨(some 7), none, []⟩, ⟨(some 11), none, []⟩] [53, 54, 55, 56, 57, 58, 59, 60, 61, 62, 63] [0, 1, 2, 3] [0, 3, 4, 5] [0, 1, 2, 3, 4, 5, 6, 7, 8, 9, 10] [fun Ep12 => Ep12 53 = .pointer (some ⟨b10, 6, none⟩), fun Ep12 => Ep12 54 = .slice q3 q8.length c_y0_ret_7_2, fun Ep12 => Ep12 55 = .int .i64 q9, fun Ep12 => Ep12 56 = .pointer (some ((adr q3).add (q9.toNat * R_rules_Pin.sz))), fun Ep12 => Ep12 57 = .pointer (some (((adr q3).add (q9.toNat * R_rules_Pin.sz)).add 4)), fun Ep12 => Ep12 58 = .int .i64 q26.Size, fun Ep12 => Ep12 59 = .pointer (some ⟨b17, 0, none⟩), fun Ep12 => Ep12 60 = .int .i64 q1b.1, fun Ep12 => Ep12 61 = .int .i64 x61, fun Ep12 => Ep12 62 = .pointer (some ((adr q3).add (q9.toNat * R_rules_Pin.sz))), fun Ep12 => Ep12 63 = .pointer (some (((adr q3).add (q9.toNat * R_rules_Pin.sz)).add 4)), fun Ep12 => True] [fun Ep12 => cells b10 31 [.int .i64 q2.1.W, .int .i64 q2.1.H, .int .i64 q2.1.Layers, .int .i64 q2.1.Nets, .slice q4 q2.1.Wires.length c_y0_ret_4_2_1, .slice q5 q2.1.Vias.length c_y0_ret_5_2_1, .slice q3 q8.length c_y0_ret_7_2, .slice q6 q2.1.Walls.length c_y0_ret_7_2_1], fun Ep12 => vec 39 R_rules_Pin.sz (.slice q3 q8.length c_y0_ret_7_2) q8.length q0c, fun Ep12 => cells b17 25 [.slice q0w l_0.length c_l_0, .int .i64 q0v], fun Ep12 => ro ρ, fun Ep12 => cells b17 25 [.slice q0w l_0.length c_l_0, .int .i64 q1b.2], fun Ep12 => bunA (fun (q0e : List Value) => RepL R_rules_Pin ρ q1n q0e) (fun (q0e : List Value) => [vec 39 R_rules_Pin.sz (.slice q3 q8.length c_y0_ret_7_2) q8.length q0e])] mixed (by kernel_rfl) ((((hS.pull 8).pull 1).pull 7).pull 5) ?_ ?_
     ·refine ⟨?_, ?_, ?_, ?_, ?_, ?_, ?_, ?_, ?_, ?_, ?_, ?_, trivial⟩
      ·intro Ep12 w l' hE12 hO12 hF_ hS
       refine p (yl_field0 fld_31_6 ((hE12 10 rfl).trans q16)) <| x_done <| ?_
       refine x_fin ⟨⟨_, rfl⟩, rfl, ?_⟩
       exact emk hS
      ·intro Ep12 w l' hE12 hO12 hF_ hS
       obtain ⟨q1c, -⟩ := hF_
       replace q1c : Ep12 53 = .pointer (some ⟨b10, 6, none⟩) := emk q1c
       replace hS : St w0 w (cells b10 31 [.int .i64 q2.1.W, .int .i64 q2.1.H, .int .i64 q2.1.Layers, .int .i64 q2.1.Nets, .slice q4 q2.1.Wires.length c_y0_ret_4_2_1, .slice q5 q2.1.Vias.length c_y0_ret_5_2_1, .slice q3 q8.length c_y0_ret_7_2, .slice q6 q2.1.Walls.length c_y0_ret_7_2_1] :: l') := emk hS
       refine pa (at_load one_28 q1c (hS.cell rfl)) <| x_done <| ?_
       refine x_fin ⟨⟨_, rfl⟩, rfl, ?_⟩
       exact emk hS
      ·intro Ep12 w l' hE12 hO12 hF_ hS
       refine p (yl_move (hE12 11 rfl)) <| x_done <| ?_
       refine x_fin ⟨⟨_, rfl⟩, rfl, ?_⟩
       exact emk hS
      ·intro Ep12 w l' hE12 hO12 hF_ hS
       obtain ⟨q10, q11, -⟩ := hF_
       replace q10 : Ep12 54 = .slice q3 q8.length c_y0_ret_7_2 := emk q10
       replace q11 : Ep12 55 = .int .i64 q9 := emk q11
       replace hS : St w0 w (vec 39 R_rules_Pin.sz (.slice q3 q8.length c_y0_ret_7_2) q8.length q0c :: l') := emk hS
       refine p (yix_o sl_28 q10 q11 hS q0g q2b) <| x_done <| ?_
       refine x_fin ⟨⟨_, rfl⟩, rfl, ?_⟩
       exact emk hS
      ·intro Ep12 w l' hE12 hO12 hF_ hS
       obtain ⟨q1d, -⟩ := hF_
       replace q1d : Ep12 56 = .pointer (some ((adr q3).add (q9.toNat * R_rules_Pin.sz))) := emk q1d
       refine p (yl_fieldAddr fld_39_4 q1d) <| x_done <| ?_
       refine x_fin ⟨⟨_, rfl⟩, rfl, ?_⟩
       exact emk hS
      ·intro Ep12 w l' hE12 hO12 hF_ hS
       obtain ⟨q1e, -⟩ := hF_
       replace q1e : Ep12 57 = .pointer (some (((adr q3).add (q9.toNat * R_rules_Pin.sz)).add 4)) := emk q1e
       replace hS : St w0 w (vec 39 R_rules_Pin.sz (.slice q3 q8.length c_y0_ret_7_2) q8.length q0c :: l') := emk hS
       have q_ := q0g.get q2b; obtain ⟨q3f, q2d, q30⟩ := q_
       rw [← q2y] at q2d
       have e_ := q2d; subst e_
       refine pa (at_load one_3 q1e (EltV.ld (m := 4) q30 hS rfl)) <| x_done <| ?_
       refine x_fin ⟨⟨_, rfl⟩, rfl, ?_⟩
       exact emk hS
      ·intro Ep12 w l' hE12 hO12 hF_ hS
       refine p (yl_move ((hE12 3 rfl).trans q1s)) <| x_done <| ?_
       refine x_fin ⟨⟨_, rfl⟩, rfl, ?_⟩
       exact emk hS
      ·intro Ep12 w l' hE12 hO12 hF_ hS
       obtain ⟨q1f, -⟩ := hF_
       replace q1f : Ep12 59 = .pointer (some ⟨b17, 0, none⟩) := emk q1f
       replace hS : St w0 w (ro ρ :: cells b17 25 [.slice q0w l_0.length c_l_0, .int .i64 q0v] :: l') := emk hS
       have hcall := c_maskmake_Stream_Next q2z q1q (hS.pull 1)
       refine o_cc call_9 (args2 q1f rfl) hcall ?_
       rintro e w' ⟨rfl, hS⟩
       refine ⟨_, rfl, ?_⟩
       refine x_done <| ?_
       refine x_fin ⟨⟨_, rfl⟩, rfl, ?_⟩
       exact emk (hS.pull 1)
      ·intro Ep12 w l' hE12 hO12 hF_ hS
       obtain ⟨q1g, q1h, -⟩ := hF_
       replace q1g : Ep12 58 = .int .i64 q26.Size := emk q1g
       replace q1h : Ep12 60 = .int .i64 q1b.1 := emk q1h
       refine p (yadd q1g q1h hx61) <| x_done <| ?_
       refine x_fin ⟨⟨_, rfl⟩, rfl, ?_⟩
       exact emk hS
      ·intro Ep12 w l' hE12 hO12 hF_ hS
       obtain ⟨q10, q11, -⟩ := hF_
       replace q10 : Ep12 54 = .slice q3 q8.length c_y0_ret_7_2 := emk q10
       replace q11 : Ep12 55 = .int .i64 q9 := emk q11
       replace hS : St w0 w (vec 39 R_rules_Pin.sz (.slice q3 q8.length c_y0_ret_7_2) q8.length q0c :: l') := emk hS
       refine p (yix_o sl_28 q10 q11 hS q0g q2c) <| x_done <| ?_
       refine x_fin ⟨⟨_, rfl⟩, rfl, ?_⟩
       exact emk hS
      ·intro Ep12 w l' hE12 hO12 hF_ hS
       obtain ⟨q1i, -⟩ := hF_
       replace q1i : Ep12 62 = .pointer (some ((adr q3).add (q9.toNat * R_rules_Pin.sz))) := emk q1i
       refine p (yl_fieldAddr fld_39_4 q1i) <| x_done <| ?_
       refine x_fin ⟨⟨_, rfl⟩, rfl, ?_⟩
       exact emk hS
      ·intro Ep12 w l' hE12 hO12 hF_ hS
       obtain ⟨q1j, q17, -⟩ := hF_
       replace q1j : Ep12 61 = .int .i64 x61 := emk q1j
       replace q17 : Ep12 63 = .pointer (some (((adr q3).add (q9.toNat * R_rules_Pin.sz)).add 4)) := emk q17
       replace hS : St w0 w (vec 39 R_rules_Pin.sz (.slice q3 q8.length c_y0_ret_7_2) q8.length q0c :: l') := emk hS
       refine o_put' (news := [.int .i64 x61]) sz_3 q17 q1j rfl rfl (o := 4) rfl q2c rfl hS q0g (Le.refl _) (fun c hc => by obtain rfl := hc; rfl) q2o (fun q0e w' q1p hS => ?_)
       refine x_done <| ?_
       refine x_fin ⟨⟨undef, rfl⟩, trivial, ?_⟩
       replace hS := St.bun (Φ := (fun (q0e : List Value) => RepL R_rules_Pin ρ q1n q0e)) (L := (fun (q0e : List Value) => [vec 39 R_rules_Pin.sz (.slice q3 q8.length c_y0_ret_7_2) q8.length q0e])) q0e q1p hS
       exact emk hS
     intro Ep12 w' hE12 hF_ hS
     obtain ⟨q1c, q10, q11, q1d, q1e, q1g, q1f, q1h, q1j, q1i, q17, -⟩ := hF_
     replace q1c : Ep12 53 = .pointer (some ⟨b10, 6, none⟩) := emk q1c
     replace q10 : Ep12 54 = .slice q3 q8.length c_y0_ret_7_2 := emk q10
     replace q11 : Ep12 55 = .int .i64 q9 := emk q11
     replace q1d : Ep12 56 = .pointer (some ((adr q3).add (q9.toNat * R_rules_Pin.sz))) := emk q1d
     replace q1e : Ep12 57 = .pointer (some (((adr q3).add (q9.toNat * R_rules_Pin.sz)).add 4)) := emk q1e
     replace q1g : Ep12 58 = .int .i64 q26.Size := emk q1g
     replace q1f : Ep12 59 = .pointer (some ⟨b17, 0, none⟩) := emk q1f
     replace q1h : Ep12 60 = .int .i64 q1b.1 := emk q1h
     replace q1j : Ep12 61 = .int .i64 x61 := emk q1j
     replace q1i : Ep12 62 = .pointer (some ((adr q3).add (q9.toNat * R_rules_Pin.sz))) := emk q1i
     replace q17 : Ep12 63 = .pointer (some (((adr q3).add (q9.toNat * R_rules_Pin.sz)).add 4)) := emk q17
     replace hS : St w0 w' (cells b10 31 [.int .i64 q2.1.W, .int .i64 q2.1.H, .int .i64 q2.1.Layers, .int .i64 q2.1.Nets, .slice q4 q2.1.Wires.length c_y0_ret_4_2_1, .slice q5 q2.1.Vias.length c_y0_ret_5_2_1, .slice q3 q8.length c_y0_ret_7_2, .slice q6 q2.1.Walls.length c_y0_ret_7_2_1] :: ro ρ :: cells b17 25 [.slice q0w l_0.length c_l_0, .int .i64 q1b.2] :: bunA (fun (q0e : List Value) => RepL R_rules_Pin ρ q1n q0e) (fun (q0e : List Value) => [vec 39 R_rules_Pin.sz (.slice q3 q8.length c_y0_ret_7_2) q8.length q0e]) :: (vec 3 (RpI .i64).sz (.slice q7 q0a.1.length c_y0_ret_4_2) q0a.1.length q0h :: vec 3 (RpI .i64).sz (.slice q0b q0f.1.length c_y0_ret_5_3) q0f.1.length q0i :: vec 44 R_rules_Wire.sz (.slice q4 q2.1.Wires.length c_y0_ret_4_2_1) q2.1.Wires.length q0n :: vec 47 R_rules_Via.sz (.slice q5 q2.1.Vias.length c_y0_ret_5_2_1) q2.1.Vias.length q0o :: vec 66 R_floor_Wall.sz (.slice q6 q2.1.Walls.length c_y0_ret_7_2_1) q2.1.Walls.length q0p :: l)) := emk hS
     have q_ := St.unbun (hS.pull 3); obtain ⟨q0e, q1p, hS⟩ := q_
     exact x_inv ⟨q0e, q1b.2, q1n, hFc52, ((hE12 3 rfl).trans q1s), ((hE12 5 rfl).trans q1t), ((hE12 6 rfl).trans q1u), ((hE12 7 rfl).trans q1v), ((hE12 8 rfl).trans q1w), ((hE12 9 rfl).trans q1x), ((hE12 10 rfl).trans q16), ((hE12 42 rfl).trans q1o), ((hE12 43 rfl).trans q1a), q1p, (((((((((hS.pull 2).pull 8).pull 2).pull 8).pull 8).pull 5).pull 8).pull 8).pull 8)⟩
    ·replace hFc52 := nit_bf hc52 hFc52
     refine x_skip <| ?_
     exact x_inv ⟨q0c, q0v, q12, hFc52, q1s, q1t, q1u, q1v, q1w, q1x, q16, q1o, q1a, q0g, (((((((((hS.pull 8).pull 8).pull 8).pull 8).pull 8).pull 8).pull 8).pull 8).pull 8)⟩
   rintro E w ⟨q0y, q13, q14, hq_, q31, q32, q33, q34, q35, q36, q2p, q2q, q2r, q20, hS⟩
   replace hFL9 := hFL9 _ hq_
   clear hq_
   replace hFL9 := nar_s hFL9; obtain ⟨x64, hx64, hFL9⟩ := hFL9
   refine x_blk <| x_region <| p (yadd q2r rfl hx64) <| p (yl_move rfl) <|
    x_done <| ?_
   exact x_inv ⟨kL9, Nat.lt_succ_self _, q0y, x64, q13, q14, (hLL9 _ hFL9), q31, q32, q33, q34, q35, q36, q2p, q2q, rfl, q20, (((((((((hS.pull 8).pull 8).pull 8).pull 8).pull 8).pull 8).pull 8).pull 8).pull 8)⟩
  ·replace hFL9 := nit_f hc44 hFL9
   refine x_exitTo _ rfl <| ?_
   exact x_inv ⟨q0c, q12, (hLL9 _ hFL9), q1t, q1u, q1v, q1w, q1x, q16, q0g, ((((((((hS.drop.pull 7).pull 7).pull 7).pull 7).pull 7).pull 7).pull 7).pull 7)⟩
 rintro E w ⟨q15, q1l, hq_, q3c, q1r, q2i, q2j, q3d, q37, q27, hS⟩
 replace hF := hF _ hq_
 clear hq_
 refine x_seq <| x_region <| pa (v := .agg #[.int .i64 q2.1.W, .int .i64 q2.1.H, .int .i64 q2.1.Layers, .int .i64 q2.1.Nets, .slice q4 q2.1.Wires.length c_y0_ret_4_2_1, .slice q5 q2.1.Vias.length c_y0_ret_5_2_1, .slice q3 q8.length c_y0_ret_7_2, .slice q6 q2.1.Walls.length c_y0_ret_7_2_1]) (ld_sub agg_31 q37 rfl rfl (hS.pull 2)) <| p (yl_move q3c) <| ?_
 have q_ := St.lend ((hS.pull 7).pull 4) q0r; obtain ⟨ρl0, hll0, hlf0, hS0, back0⟩ := q_
 have q_ := St.lend (hS0.pull 4) (q0s.le hll0); obtain ⟨ρl1, hll1, hlf1, hS1, back1⟩ := q_
 have q_ := St.lend (hS1.pull 4) (q27.le (hll0.trans hll1)); obtain ⟨ρl2, hll2, hlf2, hS2, back2⟩ := q_
 have q_ := St.lend (hS2.pull 4) (q0u.le ((hll0.trans hll1).trans hll2)); obtain ⟨ρl3, hll3, hlf3, hS3, back3⟩ := q_
 have hcall := c_extract_Elmore (nbd_c hF) (hlf0.le ((hll1.trans hll2).trans hll3)) (hlf1.le (hll2.trans hll3)) (hlf2.le hll3) hlf3 hS3
 refine o_cc call_10 (args3 rfl rfl rfl) hcall ?_
 rintro e w' ⟨q0z, hF, q0l, q2s, c_y0_ret_14_2, q18, rfl, q0m, hS⟩
 refine ⟨_, rfl, ?_⟩
 replace hS := back3 (hS.pull 1)
 replace hS := back2 (hS.pull 1)
 replace hS := back1 (hS.pull 1)
 replace hS := back0 (hS.pull 1)
 replace q0m : RepL (RpI .i64) ρ q0z.1 q18 := RepL.flat (fun h => h) q0m
 have e_ := St.vec_n (hS.pull 5) q0m; subst e_
 refine p (yl_move rfl) <| p (yl_extract rfl rfl) <| p (yl_extract rfl rfl) <| p (yl_assign rfl) <|
  p (yl_assign rfl) <| x_done <| x_seq <| x_seq <|
  x_region <| ?_
 have hcall := c_maskkeep4_extracts (nbd_c hF)  (hS.pull 1)
 refine o_cc call_12 args0 hcall ?_
 rintro e w' ⟨q28, hF, rfl, hS⟩
 refine ⟨_, rfl, ?_⟩
 replace hF := nlv_s hF; obtain ⟨x77, hx77, hF⟩ := hF
 replace hF := nlv_s hF; obtain ⟨x82, hx82, hF⟩ := hF
 replace hF := nlv_s hF; obtain ⟨x89, hx89, hF⟩ := hF
 replace hF := nlv_s hF; obtain ⟨x96, hx96, hF⟩ := hF
 refine p (yl_not rfl) <| p (yl_move rfl) <| pg (v := .int .i64 q0a.2) 73 (c := !(!q28)) (says_f _) (fun hq => Yl.at (yl_move q2i)) <| pg (v := .int .i64 q0f.2) 73 (c := !(!q28)) (says_f _) (fun hq => Yl.at (yl_move q3d)) <|
  pg (v := .bool (decide (q0a.2 ≠ q0f.2))) 73 (c := !(!q28)) (says_f _) (fun hq => Yl.at (yl_neq (cv hq) (cv hq))) <| p (yor' rfl rfl (fun hc => (cv (t_not hc))) hx77) <| p (yl_move rfl) <| pg (v := .int .i64 q0a.2) 78 (c := !x77) (says_f _) (fun hq => Yl.at (yl_move q2i)) <|
  pg (v := .int .i64 q0z.2) 78 (c := !x77) (says_f _) (fun hq => Yl.at (yl_move rfl)) <| pg (v := .bool (decide (q0a.2 ≠ q0z.2))) 78 (c := !x77) (says_f _) (fun hq => Yl.at (yl_neq (cv hq) (cv hq))) <| p (yor' rfl rfl (fun hc => (cv (t_not hc))) hx82) <| p (yl_move rfl) <|
  pg (v := .slice q7 q0a.1.length c_y0_ret_4_2) 83 (c := !x82) (says_f _) (fun hq => Yl.at (yl_move q1r)) <| pg (v := .int .i64 (q0a.1.length : Int)) 83 (c := !x82) (says_f _) (fun hq => Yl.at (yl_len_slice usl_22 (cv hq))) <| pg (v := .slice q0b q0f.1.length c_y0_ret_5_3) 83 (c := !x82) (says_f _) (fun hq => Yl.at (yl_move q2j)) <| pg (v := .int .i64 (q0f.1.length : Int)) 83 (c := !x82) (says_f _) (fun hq => Yl.at (yl_len_slice usl_22 (cv hq))) <|
  pg (v := .bool (decide ((q0a.1.length : Int) ≠ (q0f.1.length : Int)))) 83 (c := !x82) (says_f _) (fun hq => Yl.at (yl_neq (cv hq) (cv hq))) <| p (yor' rfl rfl (fun hc => (cv (t_not hc))) hx89) <| p (yl_move rfl) <| pg (v := .slice q7 q0a.1.length c_y0_ret_4_2) 90 (c := !x89) (says_f _) (fun hq => Yl.at (yl_move q1r)) <|
  pg (v := .int .i64 (q0a.1.length : Int)) 90 (c := !x89) (says_f _) (fun hq => Yl.at (yl_len_slice usl_22 (cv hq))) <| pg (v := .slice q0l q0z.1.length c_y0_ret_14_2) 90 (c := !x89) (says_f _) (fun hq => Yl.at (yl_move rfl)) <| pg (v := .int .i64 (q0z.1.length : Int)) 90 (c := !x89) (says_f _) (fun hq => Yl.at (yl_len_slice usl_22 (cv hq))) <| pg (v := .bool (decide ((q0a.1.length : Int) ≠ (q0z.1.length : Int)))) 90 (c := !x89) (says_f _) (fun hq => Yl.at (yl_neq (cv hq) (cv hq))) <|
  p (yor' rfl rfl (fun hc => (cv (t_not hc))) hx96) <| x_done <|
  x_cond (t := x96) rfl (fun hc96 => ?_) (fun hc96 => ?_)
 ·replace hF := nit_t hc96 hF
  refine x_seq <| x_region <| p (yl_assign rfl) <| x_done <| ?_
  exact x_return ⟨_, ⟨_, _, rfl, rfl, rfl⟩, false, hF, rfl, (((((((((hS.pull 1).drop.pull 1).drop.pull 1).drop.pull 1).drop.pull 1).drop.pull 1).drop.pull 1).drop.pull 1).drop)⟩
 ·replace hF := nit_bf hc96 hF
  refine x_skip <| x_seq <| x_seq <| x_region <|
   p (yl_move q1r) <| p (yl_len_slice usl_22 rfl) <| p (yl_move rfl) <| x_done <| ?_
  replace hF := nbs_j hF; obtain ⟨oL18, hLL18, hF⟩ := hF
  refine x_join (fun E w => oL18 (Sum.inl ()) ∧ St w0 w (ro ρ :: l)) ?_ ?_
  ·refine x_block ?_
   refine x_loop (fun k_ E w => ∃ (q0j : Int), nlp (P_maskkeep4_ExtractGrows_L18 q0a q0f q0z) k_ q0j oL18 ∧ E 6 = .slice q7 q0a.1.length c_y0_ret_4_2 ∧ E 8 = .slice q0b q0f.1.length c_y0_ret_5_3 ∧ E 12 = .slice q0l q0z.1.length c_y0_ret_14_2 ∧ E 98 = .int .i64 (q0a.1.length : Int) ∧ E 99 = .int .i64 q0j ∧ St w0 w (vec 3 (RpI .i64).sz (.slice q7 q0a.1.length c_y0_ret_4_2) q0a.1.length q0h :: vec 3 (RpI .i64).sz (.slice q0b q0f.1.length c_y0_ret_5_3) q0f.1.length q0i :: vec 3 (RpI .i64).sz (.slice q0l q0z.1.length c_y0_ret_14_2) q0z.1.length q18 :: ro ρ :: l)) fuel ⟨0, hLL18, q1r, q2j, rfl, rfl, rfl, ((((((((hS.pull 1).drop.pull 1).drop.pull 1).drop.pull 1).drop.pull 4).drop.pull 1).pull 3).pull 3)⟩ ?_
   rintro kL18 E w ⟨q0j, hLL18, q1k, q21, q1y, q1z, q1m, hS⟩
   replace hLL18 := nlp_s hLL18; obtain ⟨kL18, obL18, rfl, hFL18, hLL18⟩ := hLL18
   refine x_seq <| x_region <| p (yl_lss q1m q1z) <| x_done <|
    x_seq <|
    x_cond_p (q0j < (q0a.1.length : Int)) rfl (fun hc100 => ?_) (fun hc100 => ?_)
   ·replace hFL18 := nit_t hc100 hFL18
    replace hFL18 := nck_s hFL18; obtain ⟨q2e, hFL18⟩ := hFL18
    replace hFL18 := nlv_s hFL18; obtain ⟨x105, hx105, hFL18⟩ := hFL18
    replace hFL18 := nck_s hFL18; obtain ⟨q2f, hFL18⟩ := hFL18
    replace hFL18 := nlv_s hFL18; obtain ⟨x109, hx109, hFL18⟩ := hFL18
    replace hFL18 := nck_s hFL18; obtain ⟨q22, hFL18⟩ := hFL18
    replace hFL18 := nlv_s hFL18; obtain ⟨x115, hx115, hFL18⟩ := hFL18
    replace hFL18 := nck_s hFL18; obtain ⟨q23, hFL18⟩ := hFL18
    replace hFL18 := nlv_s hFL18; obtain ⟨x119, hx119, hFL18⟩ := hFL18
    replace hFL18 := nlv_s hFL18; obtain ⟨x121, hx121, hFL18⟩ := hFL18
    replace hFL18 := nck_s hFL18; obtain ⟨q24, hFL18⟩ := hFL18
    replace hFL18 := nlv_s hFL18; obtain ⟨x126, hx126, hFL18⟩ := hFL18
    replace hFL18 := nlv_s hFL18; obtain ⟨x128, hx128, hFL18⟩ := hFL18
    refine x_skip <| x_seq <| x_block <| x_seq <|
     x_region <| p (yl_move q1m) <| p (yl_assign rfl) <| x_done <|
     x_seq <| x_still mixed (by kernel_rfl) hS <| q (yl_move q21) <| q (yl_move rfl) <|
     q (yix_o sl_22 rfl rfl (hS.pull 1) q0q q2e) <| qa (fun w' hS => at_load one_3 rfl (RepL.getW q0q (hS.pull 1) q2e hx105)) <| q (yl_move q1k) <| q (yl_move rfl) <|
     q (yix_o sl_22 rfl rfl hS q0d q2f) <| qa (fun w' hS => at_load one_3 rfl (RepL.getW q0d hS q2f hx109)) <| q (yl_lss rfl rfl) <| q (yl_move rfl) <|
     qg (v := .slice q0l q0z.1.length c_y0_ret_14_2) 111 (c := !(decide (x105 < x109))) (says_f _) (fun hq w' hS => Yl.at (yl_move q1y)) <| qg (v := .int .i64 q0j) 111 (c := !(decide (x105 < x109))) (says_f _) (fun hq w' hS => Yl.at (yl_move rfl)) <| qg (v := .pointer (some ((adr q0l).add (q0j.toNat * (RpI .i64).sz)))) 111 (c := !(decide (x105 < x109))) (says_f _) (fun hq w' hS => Yl.at (yix_o sl_22 (cv hq) (cv hq) (hS.pull 2) q0m (q22 hq))) <| qg (v := .int .i64 x115) 111 (c := !(decide (x105 < x109))) (says_f _) (fun hq w' hS => at_load one_3 (cv hq) (RepL.getW q0m (hS.pull 2) (q22 hq) hx115)) <|
     qg (v := .slice q7 q0a.1.length c_y0_ret_4_2) 111 (c := !(decide (x105 < x109))) (says_f _) (fun hq w' hS => Yl.at (yl_move q1k)) <| qg (v := .int .i64 q0j) 111 (c := !(decide (x105 < x109))) (says_f _) (fun hq w' hS => Yl.at (yl_move rfl)) <| qg (v := .pointer (some ((adr q7).add (q0j.toNat * (RpI .i64).sz)))) 111 (c := !(decide (x105 < x109))) (says_f _) (fun hq w' hS => Yl.at (yix_o sl_22 (cv hq) (cv hq) hS q0d (q23 hq))) <| qg (v := .int .i64 x119) 111 (c := !(decide (x105 < x109))) (says_f _) (fun hq w' hS => at_load one_3 (cv hq) (RepL.getW q0d hS (q23 hq) hx119)) <|
     qg (v := .bool (decide (x115 < x119))) 111 (c := !(decide (x105 < x109))) (says_f _) (fun hq w' hS => Yl.at (yl_lss (cv hq) (cv hq))) <| q (yor' rfl rfl (fun hc => (cv (t_not hc))) hx121) <| q (yl_move rfl) <| qg (v := .slice q7 q0a.1.length c_y0_ret_4_2) 122 (c := !x121) (says_f _) (fun hq w' hS => Yl.at (yl_move q1k)) <|
     qg (v := .int .i64 q0j) 122 (c := !x121) (says_f _) (fun hq w' hS => Yl.at (yl_move rfl)) <| qg (v := .pointer (some ((adr q7).add (q0j.toNat * (RpI .i64).sz)))) 122 (c := !x121) (says_f _) (fun hq w' hS => Yl.at (yix_o sl_22 (cv hq) (cv hq) hS q0d (q24 hq))) <| qg (v := .int .i64 x126) 122 (c := !x121) (says_f _) (fun hq w' hS => at_load one_3 (cv hq) (RepL.getW q0d hS (q24 hq) hx126)) <| qg (v := .bool (decide (x126 < 0))) 122 (c := !x121) (says_f _) (fun hq w' hS => Yl.at (yl_lss (cv hq) rfl)) <|
     q (yor' rfl rfl (fun hc => (cv (t_not hc))) hx128) <|
     q_done fun w' hS => ?_
    refine x_cond (t := x128) rfl (fun hc128 => ?_) (fun hc128 => ?_)
    ·replace hFL18 := nit_t hc128 hFL18
     refine x_seq <| x_region <| p (yl_assign rfl) <| x_done <| ?_
     exact x_return ⟨_, ⟨_, _, rfl, rfl, rfl⟩, false, (hF _ (hLL18 _ hFL18)), rfl, hS.drop.drop.drop⟩
    ·replace hFL18 := nit_bf hc128 hFL18
     replace hFL18 := nar_s hFL18; obtain ⟨x129, hx129, hFL18⟩ := hFL18
     refine x_skip <| x_blk <| x_region <| p (yadd q1m rfl hx129) <|
      p (yl_move rfl) <| x_done <| ?_
     exact x_inv ⟨kL18, Nat.lt_succ_self _, x129, (hLL18 _ hFL18), q1k, q21, q1y, q1z, rfl, ((((hS.pull 3).pull 3).pull 3).pull 3)⟩
   ·replace hFL18 := nit_f hc100 hFL18
    refine x_exitTo _ rfl <| ?_
    exact x_inv ⟨(hLL18 _ hFL18), hS.drop.drop.drop⟩
  rintro E w ⟨hq_, hS⟩
  replace hF := hF _ hq_
  clear hq_
  refine x_seq <| x_region <| p (yl_assign rfl) <| x_done <| ?_
  exact x_return ⟨_, ⟨_, _, rfl, rfl, rfl⟩, true, hF, rfl, hS⟩
attribute [irreducible] P_maskkeep4_ExtractGrows


end Go.Proofs.Ytnnmbmgnpdcefaa.X
