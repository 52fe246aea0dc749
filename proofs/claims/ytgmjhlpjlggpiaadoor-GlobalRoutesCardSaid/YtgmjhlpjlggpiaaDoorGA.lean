/- Printed by gen.py: plain functions, and that the Go code computes them. -/
import Derived.Test.YtgmjhlpjlggpiaaDoorXI
import Derived.Test.YtgmjhlpjlggpiaaDoorYZ
import Derived.Test.YtgmjhlpjlggpiaaDoorYN
import Derived.Test.YtgmjhlpjlggpiaaDoorXT
import Derived.Test.YtgmjhlpjlggpiaaDoorGAp0
import Derived.Test.YtgmjhlpjlggpiaaDoorGAp1
import Derived.Test.YtgmjhlpjlggpiaaDoorGAp2
namespace Go.Proofs.YtgmjhlpjlggpiaaDoor.X
set_option maxHeartbeats 4000000
set_option maxRecDepth 100000
open Go Go.RowKit
set_option linter.unusedVariables false
set_option linter.unusedSimpArgs false

def P_maskkeep4_GlobalRoutes_L10 (l_0 : List Int) (q8 : (Int × Int)) (q9 : (Int × Int)) : (Int × Int × List T_legal_Pin) → Nd ((Int × Int × List T_legal_Pin) ⊕ (Int × List T_legal_Pin)) := fun (q4, q2, q3) =>
 if q4 < q9.1 then
  nbd (nof (P_maskmake_Stream_Next (T_maskmake_Stream.mk l_0 q2) q8.1)) fun q6 =>
  nbd (nof (P_maskmake_Stream_Next (T_maskmake_Stream.mk l_0 q6.2) q8.2)) fun q7 =>
  nlv (q3 ++ [(T_legal_Pin.mk (T_floor_Point.mk q6.1 q7.1) 0 0 false 0)]) fun q5 =>
  nck (apOk 48 q5.length) <|
  nar (q4 + 1) fun x44 =>
  nret (Sum.inl (x44, q7.2, q5))
 else
  nret (Sum.inr (q2, q3))
def P_maskkeep4_GlobalRoutes_L7 (l_0 : List Int) (q9 : (Int × Int)) (q0a : (Int × Int)) : (Int × Int × List T_legal_Net) → Nd ((Int × Int × List T_legal_Net) ⊕ List T_legal_Net) := fun (q3, q4, q2) =>
 if q3 < q0a.1 then
  nbd (nof (P_maskmake_Stream_Next (T_maskmake_Stream.mk l_0 q4) 5)) fun q8 =>
  nbd (
   nlp (P_maskkeep4_GlobalRoutes_L10 l_0 q9 q8) fuel (0, q8.2, [])) fun (q5, q6) =>
  nlv (q2 ++ [(T_legal_Net.mk (⟨#[]⟩ : ByteArray) q6)]) fun q7 =>
  nck (apOk 40 q7.length) <|
  nar (q3 + 1) fun x49 =>
  nret (Sum.inl (x49, q5, q7))
 else
  nret (Sum.inr q2)
def P_maskkeep4_GlobalRoutes (l_0 : List Int) : Nd Bool :=
 nbd (nof (P_maskmake_Stream_Floor (T_maskmake_Stream.mk l_0 0))) fun q2 =>
 nbd (nof (P_floor_Size_2 (T_floor_Floor.mk q2.1.Rows q2.1.Sites q2.1.Layers q2.1.Blocks q2.1.Walls []))) fun q0b =>
 nbd (nof (P_maskmake_Stream_Next (T_maskmake_Stream.mk l_0 q2.2) 12)) fun q6 =>
 nbd (
  nlp (P_maskkeep4_GlobalRoutes_L7 l_0 q0b q6) fuel (0, q6.2, [])) fun q3 =>
 nbd (P_global_Route (T_floor_Floor.mk q2.1.Rows q2.1.Sites q2.1.Layers q2.1.Blocks q2.1.Walls []) q3) fun q4 =>
 nbd (nof (P_maskkeep4_regions)) fun q5 =>
 nbd (nof (gd (!(!q5)) (P_floor_Check_2 (T_floor_Floor.mk q2.1.Rows q2.1.Sites q2.1.Layers q2.1.Blocks q2.1.Walls [])))) fun q7 =>
 nlv ((!q5) || (decide (q7 ≠ 0))) fun x62 =>
 if x62 = true then
  nret false
 else
  if q4.2 = 0 then
   nbd (P_global_Check (T_floor_Floor.mk q2.1.Rows q2.1.Sites q2.1.Layers q2.1.Blocks q2.1.Walls []) q3 q4.1) fun q8 =>
   nret (decide (q8 = 0))
  else
   nbd (nof (P_global_Edges_2 (T_floor_Floor.mk q2.1.Rows q2.1.Sites q2.1.Layers q2.1.Blocks q2.1.Walls []))) fun q9 =>
   nbd (nof (P_slices_ContainsFunc_global_Edge_global_Edge q9 (T_floor_Floor.mk q2.1.Rows q2.1.Sites q2.1.Layers q2.1.Blocks q2.1.Walls []) q3)) fun q0a =>
   nlv ((decide (q4.2 = 14)) && q0a) fun x78 =>
   nlv (x78 && (decide ((q4.1.length : Int) = 0))) fun x83 =>
   nret x83
theorem c_maskkeep4_GlobalRoutes {w0 w : World} {l : List Assn} {ρ : Heap} {q0m : Option Addr} {q2o : Nat} {c_l_0 : Nat} {l_0 : List Int} {Q : Bool → Prop} (hF : P_maskkeep4_GlobalRoutes l_0 Q) (q1e : RdS (RpI .i64) ρ q0m q2o c_l_0 l_0) (hS : St w0 w (ro ρ :: l)) :
  Calls Tryd.prog 3 #[.slice q0m q2o c_l_0] w fun e w' => ∃ r : Bool, Q r ∧ e = .returned (.bool r) ∧ St w0 w' (ro ρ :: l) := by
 have e_ := q1e.n; subst e_
 refine enterC Tryd.func3 rfl 84 rfl (by simp) ?_
 refine x_seq <| x_region <| p (yl_assign rfl) <| x_done <|
  x_seq <| x_region <| p (yl_move rfl) <| p (v := .agg #[.slice q0m l_0.length c_l_0, .int .i64 0]) (yl_build bld_25 bldf_25 (parts_eq (pt (va := .slice q0m l_0.length c_l_0) rfl pt0)) (by kernel_rfl)) <| ?_
 refine o_box (cs := [.slice q0m l_0.length c_l_0, .int .i64 0]) rfl rfl hS (fun b14 w' hS => ?_)
 replace hF := nbd_s hF; obtain ⟨q2, q3k, hF⟩ := hF
 refine p (yl_assign rfl) <| x_done <| x_seq <| x_region <|
  p (yl_move rfl) <| ?_
 have hcall := c_maskmake_Stream_Floor q3k q1e ((hS.pull 1).pull 1)
 refine o_cc call_4 (args1 rfl) hcall ?_
 rintro e w' ⟨q3, q2s, c_y0_ret_3_2_1, q0f, q4, q2t, c_y0_ret_4_2_1, q0g, q1w, q2u, c_y0_ret_5_2_1, q2p, rfl, q0p, q0q, q1x, hS⟩
 refine ⟨_, rfl, ?_⟩
 have e_ := St.vec_n hS q0p; subst e_
 have e_ := St.vec_n (hS.pull 1) q0q; subst e_
 have e_ := St.vec_n (hS.pull 2) q1x; subst e_
 refine o_alloc zero_30 hS (fun b4 w' hS => ?_)
 refine o_storeAgg (news := [.int .i64 q2.1.Rows, .int .i64 q2.1.Sites, .int .i64 q2.1.Layers, .slice q3 q2.1.Blocks.length c_y0_ret_3_2_1, .slice q4 q2.1.Walls.length c_y0_ret_4_2_1, .slice q1w q2.1.Ports.length c_y0_ret_5_2_1]) agg_30 rfl rfl rfl (by simp [over_length]) hS (fun w' hS => ?_)
 refine x_done <| x_seq <| x_region <| p (yl_field0 fld_30_5 rfl) <| ?_
 refine o_store1 (v := .slice none 0 0) one_28 rfl rfl rfl rfl hS (fun w' hS => ?_)
 replace hF := nbd_s hF; obtain ⟨q0o, q3l, hF⟩ := hF
 refine x_done <| x_seq <| x_region <| pa (v := .agg #[.int .i64 q2.1.Rows, .int .i64 q2.1.Sites, .int .i64 q2.1.Layers, .slice q3 q2.1.Blocks.length c_y0_ret_3_2_1, .slice q4 q2.1.Walls.length c_y0_ret_4_2_1, .slice none 0 0]) (ld_sub agg_30 rfl rfl rfl hS) <| ?_
 have q_ := St.lend ((hS.pull 5).pull 2) q0p; obtain ⟨ρl0, hll0, hlf0, hS0, back0⟩ := q_
 have q_ := St.lend (hS0.pull 2) (q0q.le hll0); obtain ⟨ρl1, hll1, hlf1, hS1, back1⟩ := q_
 have hcall := c_floor_Size_2 q3l (hlf0.le hll1) hlf1 (RdS.nil (A := none) (c := 0)) hS1
 refine o_cc call_5 (args1 rfl) ((Calls.mono hcall (fun e w'' h => And.intro h.1 (((((((back0 ((back1 h.2).pull 1)).pull 1).pull 5).pull 5).pull 4).pull 4).pull 5)))) ?_
 rintro e w' ⟨rfl, hS⟩
 refine ⟨_, rfl, ?_⟩
 refine p (v := .tuple #[.int .i64 q0o.1, .int .i64 q0o.2]) (yl_move rfl) <| p (yl_extract rfl rfl) <| p (yl_extract rfl rfl) <| p (yl_assign rfl) <|
  p (yl_assign rfl) <| x_done <| x_seq <| x_region <| ?_
 refine o_alloc zero_34 hS (fun b7 w' hS => ?_)
 replace hF := nbd_s hF; obtain ⟨q1y, q3m, hF⟩ := hF
 refine x_done <| x_seq <| x_seq <| x_region <|
  p (yl_move rfl) <| ?_
 have hcall := c_maskmake_Stream_Next q3m q1e ((hS.pull 6).pull 6)
 refine o_cc call_6 (args2 rfl rfl) hcall ?_
 rintro e w' ⟨rfl, hS⟩
 refine ⟨_, rfl, ?_⟩
 refine p (yl_move rfl) <| x_done <| ?_
 replace hF := nbd_j hF; obtain ⟨oL7, hLL7, hF⟩ := hF
 refine x_join (fun E w => ∃ (q2f : Heap) (q1b : Option Addr) (q0x : Nat) (c_b7_0_L7 : Nat) (q16 : List Value) (q1z : List T_legal_Net), oL7 q1z ∧ Le ρ q2f ∧ E 4 = .pointer (some ⟨b4, 0, none⟩) ∧ E 7 = .pointer (some ⟨b7, 0, none⟩) ∧ RepL R_legal_Net q2f q1z q16 ∧ St w0 w (cells b4 30 [.int .i64 q2.1.Rows, .int .i64 q2.1.Sites, .int .i64 q2.1.Layers, .slice q3 q2.1.Blocks.length c_y0_ret_3_2_1, .slice q4 q2.1.Walls.length c_y0_ret_4_2_1, .slice none 0 0] :: cells b7 34 [.slice q1b q0x c_b7_0_L7] :: vec 60 R_floor_Block.sz (.slice q3 q2.1.Blocks.length c_y0_ret_3_2_1) q2.1.Blocks.length q0f :: vec 62 R_floor_Wall.sz (.slice q4 q2.1.Walls.length c_y0_ret_4_2_1) q2.1.Walls.length q0g :: vec 38 R_legal_Net.sz (.slice q1b q0x c_b7_0_L7) q0x q16 :: ro q2f :: l)) ?_ ?_
 ·refine x_block ?_
  replace hS := St.vec_nil hS 38 R_legal_Net.sz
  have q1s : RepL R_legal_Net ρ [] [] := rfl
  refine x_loop (fun k_ E w => ∃ (q0d : Heap) (q0b : Option Addr) (q0s : Nat) (c_b7_0_L7h : Nat) (q0j : List Value) (q0u : Int) (q1c : Int) (q9 : List T_legal_Net), nlp (P_maskkeep4_GlobalRoutes_L7 l_0 q0o q1y) k_ (q0u, q1c, q9) oL7 ∧ Le ρ q0d ∧ E 3 = .pointer (some ⟨b14, 0, none⟩) ∧ E 4 = .pointer (some ⟨b4, 0, none⟩) ∧ E 5 = .int .i64 q0o.1 ∧ E 6 = .int .i64 q0o.2 ∧ E 7 = .pointer (some ⟨b7, 0, none⟩) ∧ E 24 = .int .i64 q1y.1 ∧ E 25 = .int .i64 q0u ∧ RepL R_legal_Net q0d q9 q0j ∧ St w0 w (cells b14 25 [.slice q0m l_0.length c_l_0, .int .i64 q1c] :: cells b4 30 [.int .i64 q2.1.Rows, .int .i64 q2.1.Sites, .int .i64 q2.1.Layers, .slice q3 q2.1.Blocks.length c_y0_ret_3_2_1, .slice q4 q2.1.Walls.length c_y0_ret_4_2_1, .slice none 0 0] :: cells b7 34 [.slice q0b q0s c_b7_0_L7h] :: vec 60 R_floor_Block.sz (.slice q3 q2.1.Blocks.length c_y0_ret_3_2_1) q2.1.Blocks.length q0f :: vec 62 R_floor_Wall.sz (.slice q4 q2.1.Walls.length c_y0_ret_4_2_1) q2.1.Walls.length q0g :: vec 38 R_legal_Net.sz (.slice q0b q0s c_b7_0_L7h) q0s q0j :: ro q0d :: l)) fuel ⟨ρ, none, 0, 0, [], 0, q1y.2, [], hLL7, (Le.refl _), rfl, rfl, rfl, rfl, rfl, rfl, rfl, q1s, ((((((((hS.pull 7).drop.pull 2).pull 1).pull 6).pull 6).pull 5).pull 6).pull 6)⟩ ?_
  rintro kL7 E w ⟨q0d, q0b, q0s, c_b7_0_L7h, q0j, q0u, q1c, q9, hLL7, q0v, q2k, q2l, q34, q35, q2m, q2b, q2c, q17, hS⟩
  have e_ := St.vec_n (hS.pull 5) q17; subst e_
  replace hLL7 := nlp_s hLL7; obtain ⟨kL7, obL7, rfl, hFL7, hLL7⟩ := hLL7
  refine x_seq <| x_region <| p (yl_lss q2c q2b) <| x_done <|
   x_seq <|
   x_cond_p (q0u < q1y.1) rfl (fun hc26 => ?_) (fun hc26 => ?_)
  ·replace hFL7 := nit_t hc26 hFL7
   refine x_skip <| x_seq <| x_block <| x_seq <|
    x_region <| ?_
   refine o_alloc zero_38 hS (fun b8 w' hS => ?_)
   replace hFL7 := nbd_s hFL7; obtain ⟨q2g, q3n, hFL7⟩ := hFL7
   refine x_done <| x_seq <| x_seq <| x_region <|
    p (yl_move q2k) <| ?_
   have hcall := c_maskmake_Stream_Next q3n (q1e.le q0v) ((hS.pull 7).pull 2)
   refine o_cc call_6 (args2 rfl rfl) hcall ?_
   rintro e w' ⟨rfl, hS⟩
   refine ⟨_, rfl, ?_⟩
   refine p (yl_move rfl) <| x_done <| ?_
   replace hFL7 := nbd_j hFL7; obtain ⟨oL10, hLL10, hFL7⟩ := hFL7
   refine x_join (fun E w => ∃ (q0h : Option Addr) (q0t : Nat) (c_b8_1_L10 : Nat) (q0z : List Value) (q0y : Int) (q0l : List T_legal_Pin), oL10 (q0y, q0l) ∧ E 3 = .pointer (some ⟨b14, 0, none⟩) ∧ E 4 = .pointer (some ⟨b4, 0, none⟩) ∧ E 5 = .int .i64 q0o.1 ∧ E 6 = .int .i64 q0o.2 ∧ E 7 = .pointer (some ⟨b7, 0, none⟩) ∧ E 8 = .pointer (some ⟨b8, 0, none⟩) ∧ E 24 = .int .i64 q1y.1 ∧ E 25 = .int .i64 q0u ∧ RepL R_legal_Pin q0d q0l q0z ∧ St w0 w (cells b14 25 [.slice q0m l_0.length c_l_0, .int .i64 q0y] :: cells b4 30 [.int .i64 q2.1.Rows, .int .i64 q2.1.Sites, .int .i64 q2.1.Layers, .slice q3 q2.1.Blocks.length c_y0_ret_3_2_1, .slice q4 q2.1.Walls.length c_y0_ret_4_2_1, .slice none 0 0] :: cells b7 34 [.slice q0b q9.length c_b7_0_L7h] :: cells b8 38 [.string (⟨#[]⟩ : ByteArray), .slice q0h q0t c_b8_1_L10] :: vec 60 R_floor_Block.sz (.slice q3 q2.1.Blocks.length c_y0_ret_3_2_1) q2.1.Blocks.length q0f :: vec 62 R_floor_Wall.sz (.slice q4 q2.1.Walls.length c_y0_ret_4_2_1) q2.1.Walls.length q0g :: vec 38 R_legal_Net.sz (.slice q0b q9.length c_b7_0_L7h) q9.length q0j :: vec 42 R_legal_Pin.sz (.slice q0h q0t c_b8_1_L10) q0t q0z :: ro q0d :: l)) ?_ ?_
   ·refine x_block ?_
    replace hS := St.vec_nil hS 42 R_legal_Pin.sz
    have q1r : RepL R_legal_Pin q0d [] [] := rfl
    refine x_loop (fun k_ E w => ∃ (q6 : Option Addr) (q0r : Nat) (c_b8_1_L10h : Nat) (q0k : List Value) (q18 : Int) (q0n : Int) (q5 : List T_legal_Pin), nlp (P_maskkeep4_GlobalRoutes_L10 l_0 q0o q2g) k_ (q18, q0n, q5) oL10 ∧ E 3 = .pointer (some ⟨b14, 0, none⟩) ∧ E 4 = .pointer (some ⟨b4, 0, none⟩) ∧ E 5 = .int .i64 q0o.1 ∧ E 6 = .int .i64 q0o.2 ∧ E 7 = .pointer (some ⟨b7, 0, none⟩) ∧ E 8 = .pointer (some ⟨b8, 0, none⟩) ∧ E 24 = .int .i64 q1y.1 ∧ E 25 = .int .i64 q0u ∧ E 28 = .int .i64 q2g.1 ∧ E 29 = .int .i64 q18 ∧ RepL R_legal_Pin q0d q5 q0k ∧ St w0 w (cells b14 25 [.slice q0m l_0.length c_l_0, .int .i64 q0n] :: cells b4 30 [.int .i64 q2.1.Rows, .int .i64 q2.1.Sites, .int .i64 q2.1.Layers, .slice q3 q2.1.Blocks.length c_y0_ret_3_2_1, .slice q4 q2.1.Walls.length c_y0_ret_4_2_1, .slice none 0 0] :: cells b7 34 [.slice q0b q9.length c_b7_0_L7h] :: cells b8 38 [.string (⟨#[]⟩ : ByteArray), .slice q6 q0r c_b8_1_L10h] :: vec 60 R_floor_Block.sz (.slice q3 q2.1.Blocks.length c_y0_ret_3_2_1) q2.1.Blocks.length q0f :: vec 62 R_floor_Wall.sz (.slice q4 q2.1.Walls.length c_y0_ret_4_2_1) q2.1.Walls.length q0g :: vec 38 R_legal_Net.sz (.slice q0b q9.length c_b7_0_L7h) q9.length q0j :: vec 42 R_legal_Pin.sz (.slice q6 q0r c_b8_1_L10h) q0r q0k :: ro q0d :: l)) fuel ⟨none, 0, 0, [], 0, q2g.2, [], hLL10, q2k, q2l, q34, q35, q2m, rfl, q2b, q2c, rfl, rfl, q1r, (((((((((hS.pull 2).pull 1).pull 8).pull 8).pull 8).pull 6).pull 8).pull 8).pull 8)⟩ ?_
    rintro kL10 E w ⟨q6, q0r, c_b8_1_L10h, q0k, q18, q0n, q5, hLL10, q1f, q2d, q20, q21, q2e, q1g, q25, q26, q27, q28, q10, hS⟩
    have e_ := St.vec_n (hS.pull 7) q10; subst e_
    replace hLL10 := nlp_s hLL10; obtain ⟨kL10, obL10, rfl, hFL10, hLL10⟩ := hLL10
    refine x_seq <| x_region <| p (yl_lss q28 q27) <| x_done <|
     x_seq <|
     x_cond_p (q18 < q2g.1) rfl (fun hc30 => ?_) (fun hc30 => ?_)
    ·replace hFL10 := nit_t hc30 hFL10
     refine x_skip <| x_seq <| x_block <| ?_
     replace hFL10 := nbd_s hFL10; obtain ⟨q0a, q36, hFL10⟩ := hFL10
     replace hFL10 := nbd_s hFL10; obtain ⟨q8, q37, hFL10⟩ := hFL10
     replace hFL10 := nlv_s hFL10; obtain ⟨q0c, q2v, hFL10⟩ := hFL10
     replace hFL10 := nck_s hFL10; obtain ⟨q2w, hFL10⟩ := hFL10
     refine x_par (w0 := w0) [⟨[], [], [31], [], [], [], none⟩, ⟨[0], [0], [32], [0], [], [], none⟩, ⟨[], [], [33], [], [], [], none⟩, ⟨[], [], [34], [], [], [], none⟩, ⟨[2, 3], [2, 3], [35], [2], [1], [3], none⟩, ⟨[], [], [36], [], [], [], none⟩, ⟨[], [], [37], [], [], [], none⟩, ⟨[2, 3, 4, 5, 6], [5, 6], [38], [2], [3], [4], none⟩, ⟨[2, 3, 4, 5, 6, 7], [4, 7], [39], [], [], [], none⟩, ⟨[2, 3, 4, 5, 6, 7, 8], [8], [40], [], [], [], none⟩, ⟨[2, 3, 4, 5, 6, 7, 8, 9], [9], [41], [], [], [5], none⟩, ⟨[0, 1, 2, 3, 4, 5, 6, 7, 8, 9, 10], [1, 10], [42], [5, 2], [6], [7], none⟩, ⟨[0, 1, 2, 3, 4, 5, 6, 7, 8, 9, 10, 11], [], [43], [], [], [], none⟩, ⟨[0, 1, 2, 3, 4, 5, 6, 7, 8, 9, 10, 11, 12], [11, 12], [], [], [0], [8], none⟩] [⟨none, (some 13), []⟩, ⟨none, (some 4), []⟩, ⟨none, none, []⟩, ⟨(some 4), (some 7), []⟩, ⟨(some 7), none, []⟩, ⟨(some 10), none, [41]⟩, ⟨none, (some 11), []⟩, ⟨(some 11), none, [42]⟩, ⟨(some 13), none, [42]⟩] [31, 32, 33, 34, 35, 36, 37, 38, 39, 40, 41, 42, 43] [0, 1, 2, 6] [2, 4, 5, 7, 8] [0, 1, 2, 3, 4, 5, 6, 7, 8, 9, 10, 11, 12] [fun Ep11 => Ep11 31 = .pointer (some ⟨b8, 1, none⟩), fun Ep11 => Ep11 32 = .slice q6 q5.length c_b8_1_L10h, fun Ep11 => Ep11 33 = .pointer (some ⟨b14, 0, none⟩), fun Ep11 => Ep11 34 = .int .i64 q0o.1, fun Ep11 => Ep11 35 = .int .i64 q0a.1, fun Ep11 => Ep11 36 = .pointer (some ⟨b14, 0, none⟩), fun Ep11 => Ep11 37 = .int .i64 q0o.2, fun Ep11 => Ep11 38 = .int .i64 q8.1, fun Ep11 => Ep11 39 = .agg #[.int .i64 q0a.1, .int .i64 q8.1], fun Ep11 => Ep11 40 = .agg #[.int .i64 q0a.1, .int .i64 q8.1, .int .i64 0, .int .i64 0, .bool false, .int .i64 0], fun Ep11 => Ep11 41 = .slice (some ⟨(blkOf (Ep11 41)), 0, none⟩) 1 1, fun Ep11 => Ep11 42 = .slice (adOf (Ep11 42)) q0c.length (capOf (Ep11 42)), fun Ep11 => Ep11 43 = .pointer (some ⟨b8, 1, none⟩), fun Ep11 => True] [fun Ep11 => cells b8 38 [.string (⟨#[]⟩ : ByteArray), .slice q6 q5.length c_b8_1_L10h], fun Ep11 => cells b14 25 [.slice q0m l_0.length c_l_0, .int .i64 q0n], fun Ep11 => ro q0d, fun Ep11 => cells b14 25 [.slice q0m l_0.length c_l_0, .int .i64 q0a.2], fun Ep11 => cells b14 25 [.slice q0m l_0.length c_l_0, .int .i64 q8.2], fun Ep11 => cells (blkOf (Ep11 41)) 42 [.int .i64 q0a.1, .int .i64 q8.1, .int .i64 0, .int .i64 0, .bool false, .int .i64 0], fun Ep11 => vec 42 R_legal_Pin.sz (.slice q6 q5.length c_b8_1_L10h) q5.length q0k, fun Ep11 => bunA (fun (cs42 : List Value) => RepL R_legal_Pin q0d q0c cs42) (fun (cs42 : List Value) => [vec 42 R_legal_Pin.sz (.slice (adOf (Ep11 42)) q0c.length (capOf (Ep11 42))) q0c.length cs42]), fun Ep11 => cells b8 38 [.string (⟨#[]⟩ : ByteArray), .slice (adOf (Ep11 42)) q0c.length (capOf (Ep11 42))]] mixed (by kernel_rfl) ((((hS.pull 7).pull 8).pull 2).pull 5) ?_ ?_
     ·refine ⟨?_, ?_, ?_, ?_, ?_, ?_, ?_, ?_, ?_, ?_, ?_, ?_, ?_, ?_, trivial⟩
      ·intro Ep11 w l' hE11 hO11 hF_ hS
       refine p (yl_field0 fld_38_1 ((hE11 8 rfl).trans q1g)) <| x_done <| ?_
       refine x_fin ⟨⟨_, rfl⟩, rfl, ?_⟩
       exact emk hS
      ·intro Ep11 w l' hE11 hO11 hF_ hS
       obtain ⟨q1h, -⟩ := hF_
       replace q1h : Ep11 31 = .pointer (some ⟨b8, 1, none⟩) := emk q1h
       replace hS : St w0 w (cells b8 38 [.string (⟨#[]⟩ : ByteArray), .slice q6 q5.length c_b8_1_L10h] :: l') := emk hS
       refine pa (at_load one_36 q1h (hS.cell rfl)) <| x_done <| ?_
       refine x_fin ⟨⟨_, rfl⟩, rfl, ?_⟩
       exact emk hS
      ·intro Ep11 w l' hE11 hO11 hF_ hS
       refine p (yl_move ((hE11 3 rfl).trans q1f)) <| x_done <| ?_
       refine x_fin ⟨⟨_, rfl⟩, rfl, ?_⟩
       exact emk hS
      ·intro Ep11 w l' hE11 hO11 hF_ hS
       refine p (yl_move ((hE11 5 rfl).trans q20)) <| x_done <| ?_
       refine x_fin ⟨⟨_, rfl⟩, rfl, ?_⟩
       exact emk hS
      ·intro Ep11 w l' hE11 hO11 hF_ hS
       obtain ⟨q1i, q1j, -⟩ := hF_
       replace q1i : Ep11 33 = .pointer (some ⟨b14, 0, none⟩) := emk q1i
       replace q1j : Ep11 34 = .int .i64 q0o.1 := emk q1j
       replace hS : St w0 w (ro q0d :: cells b14 25 [.slice q0m l_0.length c_l_0, .int .i64 q0n] :: l') := emk hS
       have hcall := c_maskmake_Stream_Next q36 (q1e.le q0v) (hS.pull 1)
       refine o_cc call_6 (args2 q1i q1j) hcall ?_
       rintro e w' ⟨rfl, hS⟩
       refine ⟨_, rfl, ?_⟩
       refine x_done <| ?_
       refine x_fin ⟨⟨_, rfl⟩, rfl, ?_⟩
       exact emk (hS.pull 1)
      ·intro Ep11 w l' hE11 hO11 hF_ hS
       refine p (yl_move ((hE11 3 rfl).trans q1f)) <| x_done <| ?_
       refine x_fin ⟨⟨_, rfl⟩, rfl, ?_⟩
       exact emk hS
      ·intro Ep11 w l' hE11 hO11 hF_ hS
       refine p (yl_move ((hE11 6 rfl).trans q21)) <| x_done <| ?_
       refine x_fin ⟨⟨_, rfl⟩, rfl, ?_⟩
       exact emk hS
      ·intro Ep11 w l' hE11 hO11 hF_ hS
       obtain ⟨q1k, q1l, -⟩ := hF_
       replace q1k : Ep11 36 = .pointer (some ⟨b14, 0, none⟩) := emk q1k
       replace q1l : Ep11 37 = .int .i64 q0o.2 := emk q1l
       replace hS : St w0 w (ro q0d :: cells b14 25 [.slice q0m l_0.length c_l_0, .int .i64 q0a.2] :: l') := emk hS
       have hcall := c_maskmake_Stream_Next q37 (q1e.le q0v) (hS.pull 1)
       refine o_cc call_6 (args2 q1k q1l) hcall ?_
       rintro e w' ⟨rfl, hS⟩
       refine ⟨_, rfl, ?_⟩
       refine x_done <| ?_
       refine x_fin ⟨⟨_, rfl⟩, rfl, ?_⟩
       exact emk (hS.pull 1)
      ·intro Ep11 w l' hE11 hO11 hF_ hS
       obtain ⟨q1m, q1n, -⟩ := hF_
       replace q1m : Ep11 35 = .int .i64 q0a.1 := emk q1m
       replace q1n : Ep11 38 = .int .i64 q8.1 := emk q1n
       refine p (v := .agg #[.int .i64 q0a.1, .int .i64 q8.1]) (yl_build bld_40 bldf_40 (parts_eq (pt (va := .int .i64 q0a.1) q1m (pt (va := .int .i64 q8.1) q1n pt0))) (by kernel_rfl)) <| x_done <| ?_
       refine x_fin ⟨⟨_, rfl⟩, rfl, ?_⟩
       exact emk hS
      ·intro Ep11 w l' hE11 hO11 hF_ hS
       obtain ⟨q1o, -⟩ := hF_
       replace q1o : Ep11 39 = .agg #[.int .i64 q0a.1, .int .i64 q8.1] := emk q1o
       refine p (v := .agg #[.int .i64 q0a.1, .int .i64 q8.1, .int .i64 0, .int .i64 0, .bool false, .int .i64 0]) (yl_build bld_42 bldf_42 (parts_eq (pt (va := .agg #[.int .i64 q0a.1, .int .i64 q8.1]) q1o pt0)) (by kernel_rfl)) <| x_done <| ?_
       refine x_fin ⟨⟨_, rfl⟩, rfl, ?_⟩
       exact emk hS
      ·intro Ep11 w l' hE11 hO11 hF_ hS
       obtain ⟨q1p, -⟩ := hF_
       replace q1p : Ep11 40 = .agg #[.int .i64 q0a.1, .int .i64 q8.1, .int .i64 0, .int .i64 0, .bool false, .int .i64 0] := emk q1p
       refine o_buildSlice (vs := [.agg #[.int .i64 q0a.1, .int .i64 q8.1, .int .i64 0, .int .i64 0, .bool false, .int .i64 0]]) (cs := [.int .i64 q0a.1, .int .i64 q8.1, .int .i64 0, .int .i64 0, .bool false, .int .i64 0]) sl_36 zero_42 (parts_eq (pt (va := .agg #[.int .i64 q0a.1, .int .i64 q8.1, .int .i64 0, .int .i64 0, .bool false, .int .i64 0]) q1p pt0)) rfl (by intro v hv; simp only [List.mem_cons, List.not_mem_nil, or_false] at hv; first | (subst hv; rfl) | (rcases hv with rfl <;> rfl)) (by decide) rfl hS (fun b41 w' hS => ?_)
       refine x_done <| ?_
       refine x_fin ⟨⟨_, rfl⟩, rfl, ?_⟩
       exact emk hS
      ·intro Ep11 w l' hE11 hO11 hF_ hS
       obtain ⟨q1q, q11, -⟩ := hF_
       replace q1q : Ep11 32 = .slice q6 q5.length c_b8_1_L10h := emk q1q
       replace q11 : Ep11 41 = .slice (some ⟨(blkOf (Ep11 41)), 0, none⟩) 1 1 := emk q11
       replace hS : St w0 w (cells (blkOf (Ep11 41)) 42 [.int .i64 q0a.1, .int .i64 q8.1, .int .i64 0, .int .i64 0, .bool false, .int .i64 0] :: ro q0d :: vec 42 R_legal_Pin.sz (.slice q6 q5.length c_b8_1_L10h) q5.length q0k :: l') := emk hS
       refine o_ap sl_36 zero_42 rfl (by decide) q1q q11 (hS.pull 2) q10 (src_blk usl_36 hS rfl rfl) (RepL.cons (R := R_legal_Pin) (ρ := q0d) (x := (T_legal_Pin.mk (T_floor_Point.mk q0a.1 q8.1) 0 0 false 0)) (cs := [.int .i64 q0a.1, .int .i64 q8.1, .int .i64 0, .int .i64 0, .bool false, .int .i64 0]) rfl RepL.nil) q2v q2w (fun A42 c42 cs42 w' hr42 hS => ?_)
       refine x_done <| ?_
       refine x_fin ⟨⟨_, rfl⟩, rfl, ?_⟩
       replace hS := St.bun (Φ := (fun (cs42 : List Value) => RepL R_legal_Pin q0d q0c cs42)) (L := (fun (cs42 : List Value) => [vec 42 R_legal_Pin.sz (.slice A42 q0c.length c42) q0c.length cs42])) cs42 hr42 hS
       exact emk ((hS.pull 2).pull 2)
      ·intro Ep11 w l' hE11 hO11 hF_ hS
       refine p (yl_field0 fld_38_1 ((hE11 8 rfl).trans q1g)) <| x_done <| ?_
       refine x_fin ⟨⟨_, rfl⟩, rfl, ?_⟩
       exact emk hS
      ·intro Ep11 w l' hE11 hO11 hF_ hS
       obtain ⟨q12, q13, -⟩ := hF_
       replace q12 : Ep11 42 = .slice (adOf (Ep11 42)) q0c.length (capOf (Ep11 42)) := emk q12
       replace q13 : Ep11 43 = .pointer (some ⟨b8, 1, none⟩) := emk q13
       replace hS : St w0 w (cells b8 38 [.string (⟨#[]⟩ : ByteArray), .slice q6 q5.length c_b8_1_L10h] :: l') := emk hS
       refine o_store1 (v := .slice (adOf (Ep11 42)) q0c.length (capOf (Ep11 42))) one_36 q13 q12 rfl rfl hS (fun w' hS => ?_)
       refine x_done <| ?_
       refine x_fin ⟨⟨undef, rfl⟩, trivial, ?_⟩
       exact emk hS
     intro Ep11 w' hE11 hF_ hS
     obtain ⟨q1h, q1q, q1i, q1j, q1m, q1k, q1l, q1n, q1o, q1p, q11, q12, q13, -⟩ := hF_
     replace q1h : Ep11 31 = .pointer (some ⟨b8, 1, none⟩) := emk q1h
     replace q1q : Ep11 32 = .slice q6 q5.length c_b8_1_L10h := emk q1q
     replace q1i : Ep11 33 = .pointer (some ⟨b14, 0, none⟩) := emk q1i
     replace q1j : Ep11 34 = .int .i64 q0o.1 := emk q1j
     replace q1m : Ep11 35 = .int .i64 q0a.1 := emk q1m
     replace q1k : Ep11 36 = .pointer (some ⟨b14, 0, none⟩) := emk q1k
     replace q1l : Ep11 37 = .int .i64 q0o.2 := emk q1l
     replace q1n : Ep11 38 = .int .i64 q8.1 := emk q1n
     replace q1o : Ep11 39 = .agg #[.int .i64 q0a.1, .int .i64 q8.1] := emk q1o
     replace q1p : Ep11 40 = .agg #[.int .i64 q0a.1, .int .i64 q8.1, .int .i64 0, .int .i64 0, .bool false, .int .i64 0] := emk q1p
     replace q11 : Ep11 41 = .slice (some ⟨(blkOf (Ep11 41)), 0, none⟩) 1 1 := emk q11
     replace q12 : Ep11 42 = .slice (adOf (Ep11 42)) q0c.length (capOf (Ep11 42)) := emk q12
     replace q13 : Ep11 43 = .pointer (some ⟨b8, 1, none⟩) := emk q13
     replace hS : St w0 w' (ro q0d :: cells b14 25 [.slice q0m l_0.length c_l_0, .int .i64 q8.2] :: cells (blkOf (Ep11 41)) 42 [.int .i64 q0a.1, .int .i64 q8.1, .int .i64 0, .int .i64 0, .bool false, .int .i64 0] :: bunA (fun (cs42 : List Value) => RepL R_legal_Pin q0d q0c cs42) (fun (cs42 : List Value) => [vec 42 R_legal_Pin.sz (.slice (adOf (Ep11 42)) q0c.length (capOf (Ep11 42))) q0c.length cs42]) :: cells b8 38 [.string (⟨#[]⟩ : ByteArray), .slice (adOf (Ep11 42)) q0c.length (capOf (Ep11 42))] :: (cells b4 30 [.int .i64 q2.1.Rows, .int .i64 q2.1.Sites, .int .i64 q2.1.Layers, .slice q3 q2.1.Blocks.length c_y0_ret_3_2_1, .slice q4 q2.1.Walls.length c_y0_ret_4_2_1, .slice none 0 0] :: cells b7 34 [.slice q0b q9.length c_b7_0_L7h] :: vec 60 R_floor_Block.sz (.slice q3 q2.1.Blocks.length c_y0_ret_3_2_1) q2.1.Blocks.length q0f :: vec 62 R_floor_Wall.sz (.slice q4 q2.1.Walls.length c_y0_ret_4_2_1) q2.1.Walls.length q0g :: vec 38 R_legal_Net.sz (.slice q0b q9.length c_b7_0_L7h) q9.length q0j :: l)) := emk hS
     have q_ := St.unbun (hS.pull 3); obtain ⟨cs42, hr42, hS⟩ := q_
     replace hFL10 := nar_s hFL10; obtain ⟨x44, hx44, hFL10⟩ := hFL10
     refine x_blk <| x_region <| p (yadd ((hE11 29 rfl).trans q28) rfl hx44) <| p (yl_move rfl) <|
      x_done <| ?_
     exact x_inv ⟨kL10, Nat.lt_succ_self _, (adOf (Ep11 42)), q0c.length, (capOf (Ep11 42)), cs42, x44, q8.2, q0c, (hLL10 _ hFL10), ((hE11 3 rfl).trans q1f), ((hE11 4 rfl).trans q2d), ((hE11 5 rfl).trans q20), ((hE11 6 rfl).trans q21), ((hE11 7 rfl).trans q2e), ((hE11 8 rfl).trans q1g), ((hE11 24 rfl).trans q25), ((hE11 25 rfl).trans q26), ((hE11 28 rfl).trans q27), rfl, hr42, ((((((((((hS.pull 3).drop.pull 1).pull 1).pull 8).pull 8).pull 8).pull 6).pull 8).pull 8).pull 8)⟩
    ·replace hFL10 := nit_f hc30 hFL10
     refine x_exitTo _ rfl <| ?_
     exact x_inv ⟨q6, q5.length, c_b8_1_L10h, q0k, q0n, q5, (hLL10 _ hFL10), q1f, q2d, q20, q21, q2e, q1g, q25, q26, q10, (((((((((hS.pull 8).pull 8).pull 8).pull 8).pull 8).pull 8).pull 8).pull 8).pull 8)⟩
   rintro E w ⟨q0h, q0t, c_b8_1_L10, q0z, q0y, q0l, hq_, q38, q39, q3a, q3b, q29, q3c, q2x, q2y, q1t, hS⟩
   replace hFL7 := hFL7 _ hq_
   clear hq_
   have e_ := St.vec_n (hS.pull 7) q1t; subst e_
   refine x_region <| pa (at_load one_34 q29 ((hS.pull 2).cell rfl)) <| pa (v := .agg #[.string (⟨#[]⟩ : ByteArray), .slice q0h q0l.length c_b8_1_L10]) (ld_sub agg_38 q3c rfl rfl (hS.pull 3)) <| ?_
   have q_ := St.vec_fz ((hS.pull 8).pull 8) q1t; obtain ⟨q2n, q2a, q3d, hS⟩ := q_
   refine o_buildSlice (vs := [.agg #[.string (⟨#[]⟩ : ByteArray), .slice q0h q0l.length c_b8_1_L10]]) (cs := [.string (⟨#[]⟩ : ByteArray), .slice q0h q0l.length c_b8_1_L10]) sl_34 zero_38 (parts_eq (pt (va := .agg #[.string (⟨#[]⟩ : ByteArray), .slice q0h q0l.length c_b8_1_L10]) rfl pt0)) rfl (by intro v hv; simp only [List.mem_cons, List.not_mem_nil, or_false] at hv; first | (subst hv; rfl) | (rcases hv with rfl <;> rfl)) (by decide) rfl hS (fun b47 w' hS => ?_)
   replace hFL7 := nlv_s hFL7; obtain ⟨q2h, q3e, hFL7⟩ := hFL7
   replace hFL7 := nck_s hFL7; obtain ⟨q3f, hFL7⟩ := hFL7
   refine o_ap sl_34 zero_38 rfl (by decide) rfl rfl (hS.pull 8) (q17.le q2a) (src_blk usl_34 hS rfl rfl) (RepL.cons (R := R_legal_Net) (ρ := q2n) (x := (T_legal_Net.mk (⟨#[]⟩ : ByteArray) q0l)) (cs := [.string (⟨#[]⟩ : ByteArray), .slice q0h q0l.length c_b8_1_L10]) ⟨_, _, _, rfl, q3d⟩ RepL.nil) q3e q3f (fun A48 c48 cs48 w' hr48 hS => ?_)
   refine o_store1 (v := .slice A48 q2h.length c48) one_34 q29 rfl rfl rfl (hS.pull 5) (fun w' hS => ?_)
   replace hFL7 := nar_s hFL7; obtain ⟨x49, hx49, hFL7⟩ := hFL7
   refine x_done <| x_blk <| x_region <| p (yadd q2y rfl hx49) <|
    p (yl_move rfl) <| x_done <| ?_
   exact x_inv ⟨kL7, Nat.lt_succ_self _, q2n, A48, q2h.length, c48, cs48, x49, q0y, q2h, (hLL7 _ hFL7), (q0v.trans q2a), q38, q39, q3a, q3b, q29, q2x, rfl, hr48, (((((((((hS.pull 2).drop.pull 5).drop.pull 2).pull 2).pull 6).pull 6).pull 4).pull 6).pull 6)⟩
  ·replace hFL7 := nit_f hc26 hFL7
   refine x_exitTo _ rfl <| ?_
   exact x_inv ⟨q0d, q0b, q9.length, c_b7_0_L7h, q0j, q9, (hLL7 _ hFL7), q0v, q2l, q2m, q17, ((((((hS.drop.pull 5).pull 5).pull 5).pull 5).pull 5).pull 5)⟩
 rintro E w ⟨q2f, q1b, q0x, c_b7_0_L7, q16, q1z, hq_, q14, q1u, q2i, q23, hS⟩
 replace hF := hF _ hq_
 clear hq_
 have e_ := St.vec_n (hS.pull 4) q23; subst e_
 refine x_seq <| x_region <| pa (v := .agg #[.int .i64 q2.1.Rows, .int .i64 q2.1.Sites, .int .i64 q2.1.Layers, .slice q3 q2.1.Blocks.length c_y0_ret_3_2_1, .slice q4 q2.1.Walls.length c_y0_ret_4_2_1, .slice none 0 0]) (ld_sub agg_30 q1u rfl rfl hS) <| pa (at_load one_34 q2i ((hS.pull 1).cell rfl)) <| ?_
 have q_ := St.vec_fz ((hS.pull 5).pull 3) (q0p.le q14); obtain ⟨q3s, q0w, q1d, hS⟩ := q_
 have q_ := St.vec_fz (hS.pull 3) (q0q.le (q14.trans q0w)); obtain ⟨q3p, q0i, q15, hS⟩ := q_
 have q_ := St.vec_fz (hS.pull 3) (q23.le (q0w.trans q0i)); obtain ⟨q3q, q7, q22, hS⟩ := q_
 have hcall := c_global_Route (nbd_c hF) (q1d.le (q0i.trans q7)) (q15.le q7) (RdS.nil (A := none) (c := 0)) q22 hS
 refine o_cc call_7 (args2 rfl rfl) hcall ?_
 rintro e w' ⟨q1v, hF, q3r, q24, q31, c_y0_ret_15_2, q2z, rfl, q0e, q19, hS⟩
 refine ⟨_, rfl, ?_⟩
 have e_ := St.vec_n hS q19; subst e_
 replace hF := nbd_s hF; obtain ⟨q2j, q3g, hF⟩ := hF
 refine p (yl_move rfl) <| p (yl_extract rfl rfl) <| p (yl_extract rfl rfl) <| p (yl_assign rfl) <|
  p (yl_assign rfl) <| x_done <| x_seq <| x_seq <|
  x_region <| ?_
 have hcall := c_maskkeep4_regions q3g  (hS.pull 1)
 refine o_cc call_8 args0 ((Calls.mono hcall (fun e w'' h => And.intro h.1 ((((h.2.pull 3).pull 3).pull 2).pull 3)))) ?_
 rintro e w' ⟨rfl, hS⟩
 refine ⟨_, rfl, ?_⟩
 replace hF := nbd_s hF; obtain ⟨q2q, q3h, hF⟩ := hF
 refine p (yl_not rfl) <| p (yl_move rfl) <| pg (v := .agg #[.int .i64 q2.1.Rows, .int .i64 q2.1.Sites, .int .i64 q2.1.Layers, .slice q3 q2.1.Blocks.length c_y0_ret_3_2_1, .slice q4 q2.1.Walls.length c_y0_ret_4_2_1, .slice none 0 0]) 58 (c := !(!q2j)) (says_f _) (fun hq => ld_sub agg_30 q1u rfl rfl (hS.pull 2)) <|
  pccg (v := .int .i64 q2q) 58 (c := !(!q2j)) (says_f _) call_9 (fun hq => (args1 (cv hq))) hS (fun hq => by
   have hcall := c_floor_Check_2 (gd_t q3h hq) (q1d.le ((q0i.trans q7).trans q0e)) (q15.le (q7.trans q0e)) (RdS.nil (A := none) (c := 0)) (hS.pull 1)
   exact (Calls.mono hcall (fun e w'' h => And.intro h.1 ((((h.2.pull 3).pull 3).pull 2).pull 3)))) (fun w' hS => ?_)
 replace hF := nlv_s hF; obtain ⟨x62, hx62, hF⟩ := hF
 refine pg (v := .bool (decide (q2q ≠ 0))) 58 (c := !(!q2j)) (says_f _) (fun hq => Yl.at (yl_neq (cv hq) rfl)) <| p (yor' rfl rfl (fun hc => (cv (t_not hc))) hx62) <| x_done <|
  x_cond (t := x62) rfl (fun hc62 => ?_) (fun hc62 => ?_)
 ·replace hF := nit_t hc62 hF
  refine x_seq <| x_region <| p (yl_assign rfl) <| x_done <| ?_
  exact x_return ⟨_, ⟨_, _, rfl, rfl, rfl⟩, false, hF, rfl, (ro_back0 ((((q14.trans q0w).trans q0i).trans q7).trans q0e) (((hS.drop.pull 1).drop.pull 1).drop))⟩
 ·replace hF := nit_bf hc62 hF
  refine x_skip <| x_seq <| x_seq <| x_region <|
   p (yl_move rfl) <| p (yl_eql rfl rfl) <| x_done <|
   x_cond_p (q1v.2 = 0) rfl (fun hc64 => ?_) (fun hc64 => ?_)
  ·replace hF := nit_t hc64 hF
   refine x_seq <| x_region <| pa (v := .agg #[.int .i64 q2.1.Rows, .int .i64 q2.1.Sites, .int .i64 q2.1.Layers, .slice q3 q2.1.Blocks.length c_y0_ret_3_2_1, .slice q4 q2.1.Walls.length c_y0_ret_4_2_1, .slice none 0 0]) (ld_sub agg_30 q1u rfl rfl (hS.pull 2)) <| pa (at_load one_34 q2i ((hS.pull 3).cell rfl)) <|
    p (yl_move rfl) <| ?_
   have q_ := St.lend ((hS.pull 1).pull 1) q19; obtain ⟨ρl0, hll0, hlf0, hS0, back0⟩ := q_
   have hcall := c_global_Check (nbd_c hF) ((q1d.le ((q0i.trans q7).trans q0e)).le hll0) ((q15.le (q7.trans q0e)).le hll0) (RdS.nil (A := none) (c := 0)) ((q22.le q0e).le hll0) hlf0 hS0
   refine o_cc call_10 (args3 rfl rfl rfl) hcall ?_
   rintro e w' ⟨q3o, hF, rfl, hS⟩
   refine ⟨_, rfl, ?_⟩
   replace hS := back0 hS
   refine p (yl_eql rfl rfl) <| p (yl_assign rfl) <| x_done <| ?_
   exact x_return ⟨_, ⟨_, _, rfl, rfl, rfl⟩, (decide (q3o = 0)), hF, rfl, (ro_back0 ((((q14.trans q0w).trans q0i).trans q7).trans q0e) (((hS.drop.pull 1).drop.pull 1).drop))⟩
  ·replace hF := nit_f hc64 hF
   replace hF := nbd_s hF; obtain ⟨q3t, q3i, hF⟩ := hF
   refine x_skip <| x_seq <| x_region <| pa (v := .agg #[.int .i64 q2.1.Rows, .int .i64 q2.1.Sites, .int .i64 q2.1.Layers, .slice q3 q2.1.Blocks.length c_y0_ret_3_2_1, .slice q4 q2.1.Walls.length c_y0_ret_4_2_1, .slice none 0 0]) (ld_sub agg_30 q1u rfl rfl (hS.pull 2)) <| ?_
   have hcall := c_global_Edges_2 q3i (q1d.le ((q0i.trans q7).trans q0e)) (q15.le (q7.trans q0e)) (RdS.nil (A := none) (c := 0)) (hS.pull 1)
   refine o_cc call_12 (args1 rfl) hcall ?_
   rintro e w' ⟨q32, q33, c_y0_ret_20_1, q30, rfl, q1a, hS⟩
   refine ⟨_, rfl, ?_⟩
   have e_ := St.vec_n hS q1a; subst e_
   replace hF := nbd_s hF; obtain ⟨q2r, q3j, hF⟩ := hF
   refine p (v := .func (.func 13) #[] #[.pointer (some ⟨b4, 0, none⟩), .pointer (some ⟨b7, 0, none⟩)]) (yl_makeFunc (by simp only [List.map_toArray, List.map_nil]) (by simp only [List.map_toArray, List.map_cons, List.map_nil]; exact arr2 q1u q2i)) <| ?_
   have q_ := St.lend ((hS.pull 1).pull 1) q1a; obtain ⟨ρl0, hll0, hlf0, hS0, back0⟩ := q_
   have hcall := c_slices_ContainsFunc_global_Edge_global_Edge q3j hlf0 ((q1d.le ((q0i.trans q7).trans q0e)).le hll0) ((q15.le (q7.trans q0e)).le hll0) (RdS.nil (A := none) (c := 0)) ((q22.le q0e).le hll0) ((hS0.pull 3).pull 3)
   refine o_cc call_11 (args2 rfl rfl) ((Calls.mono hcall (fun e w'' h => And.intro h.1 ((((((back0 (h.2.pull 2)).pull 3).pull 3).pull 4).pull 4).pull 4)))) ?_
   rintro e w' ⟨rfl, hS⟩
   refine ⟨_, rfl, ?_⟩
   replace hF := nlv_s hF; obtain ⟨x78, hx78, hF⟩ := hF
   replace hF := nlv_s hF; obtain ⟨x83, hx83, hF⟩ := hF
   refine p (v := .bool q2r) (yl_assign rfl) <| x_done <| x_seq <| x_region <|
    p (yl_move rfl) <| p (yl_eql rfl rfl) <| p (yl_move rfl) <| pg (v := .bool q2r) 76 (c := decide (q1v.2 = 14)) (says_t _) (fun hq => Yl.at (yl_move rfl)) <|
    p (yand' rfl (fun hc => (cv hc)) rfl hx78) <| p (yl_move rfl) <| pg (v := .slice q24 q1v.1.length c_y0_ret_15_2) 79 (c := x78) (says_t _) (fun hq => Yl.at (yl_move rfl)) <| pg (v := .int .i64 (q1v.1.length : Int)) 79 (c := x78) (says_t _) (fun hq => Yl.at (yl_len_slice usl_43 (cv hq))) <|
    pg (v := .bool (decide ((q1v.1.length : Int) = 0))) 79 (c := x78) (says_t _) (fun hq => Yl.at (yl_eql (cv hq) rfl)) <| p (yand' rfl (fun hc => (cv hc)) rfl hx83) <| p (yl_assign rfl) <| x_done <| ?_
   exact x_return ⟨_, ⟨_, _, rfl, rfl, rfl⟩, x83, hF, rfl, (ro_back0 ((((q14.trans q0w).trans q0i).trans q7).trans q0e) ((((hS.drop.pull 1).drop.pull 1).drop.pull 1).drop))⟩
attribute [irreducible] P_maskkeep4_GlobalRoutes


end Go.Proofs.YtgmjhlpjlggpiaaDoor.X
