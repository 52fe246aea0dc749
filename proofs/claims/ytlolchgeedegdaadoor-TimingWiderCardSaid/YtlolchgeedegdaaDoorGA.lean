/- Printed by gen.py: plain functions, and that the Go code computes them. -/
import Derived.Test.YtlolchgeedegdaaDoorXI
import Derived.Test.YtlolchgeedegdaaDoorXT
import Derived.Test.YtlolchgeedegdaaDoorGAp0
import Derived.Test.YtlolchgeedegdaaDoorGAp1
import Derived.Test.YtlolchgeedegdaaDoorGAp2
import Derived.Test.YtlolchgeedegdaaDoorGAp3
namespace Go.Proofs.YtlolchgeedegdaaDoor.X
open Go Go.RowKit
set_option linter.unusedVariables false
set_option linter.unusedSimpArgs false

def P_maskkeep4_TimingWider_L10 (l_0 : List Int) (q7 : List T_tree_Window) : (List T_tree_Window × Int × Int) → Option ((List T_tree_Window × Int × Int) ⊕ (List T_tree_Window × Int)) := fun (q4, q2, q3) =>
  if q2 < (q7.length : Int) then
    ck (inb q2 q7.length) <|
    lv (gt q7 q2) fun q8 =>
    bd (P_maskmake_Stream_Next (T_maskmake_Stream.mk l_0 q3) 3) fun q9 =>
    ar (q8.Lo - q9.1) fun x43 =>
    lv (max (0 : Int) x43) fun x44 =>
    bd (P_maskmake_Stream_Next (T_maskmake_Stream.mk l_0 q9.2) 3) fun q5 =>
    ar (q8.Hi + q5.1) fun x49 =>
    lv (q4 ++ [(T_tree_Window.mk x44 x49)]) fun q6 =>
    ck (apOk 16 q6.length) <|
    ar (q2 + 1) fun x53 =>
    some (Sum.inl (q6, x53, q5.2))
  else
    some (Sum.inr (q4, q3))
def P_maskkeep4_TimingWider_L6 (l_0 : List Int) (q6 : (T_timing_Job × Int)) : (Int × Int × List (List T_tree_Window)) → Option ((Int × Int × List (List T_tree_Window)) ⊕ List (List T_tree_Window)) := fun (q2, q4, q3) =>
  if q2 < (q6.1.Delays.Gates.length : Int) then
    ck (inb q2 q6.1.Delays.Gates.length) <|
    lv (gt q6.1.Delays.Gates q2) fun q9 =>
    bd (
      lp (P_maskkeep4_TimingWider_L10 l_0 q9) fuel ([], 0, q4)) fun (q8, q5) =>
    lv (q3 ++ [q8]) fun q7 =>
    ck (apOk 24 q7.length) <|
    ar (q2 + 1) fun x62 =>
    some (Sum.inl (x62, q5, q7))
  else
    some (Sum.inr q3)
def P_maskkeep4_TimingWider_L21 (q3 : (List T_timing_End × Int)) (q4 : (List T_timing_End × Int)) : Int → Option (Int ⊕ (Unit ⊕ Bool)) := fun q2 =>
  if q2 < (q3.1.length : Int) then
    ck (inb q2 q3.1.length) <|
    lv (gt q3.1 q2) fun q6 =>
    ck (inb q2 q4.1.length) <|
    lv (gt q4.1 q2) fun q5 =>
    ck ((!(!(q6.Setup.Known == q5.Setup.Known))) = true → inb q2 q4.1.length) <|
    ck ((!(!(q6.Setup.Known == q5.Setup.Known))) = true → inb q2 q3.1.length) <|
    lv ((!(q6.Setup.Known == q5.Setup.Known)) || (decide (((gt q3.1 q2).Setup.Value) < ((gt q4.1 q2).Setup.Value)))) fun x122 =>
    ck ((!x122) = true → inb q2 q4.1.length) <|
    ck ((!x122) = true → inb q2 q3.1.length) <|
    lv (x122 || (decide (((gt q3.1 q2).Hold.Value) < ((gt q4.1 q2).Hold.Value)))) fun x137 =>
    if x137 = true then
      some (Sum.inr (Sum.inr false))
    else
      ar (q2 + 1) fun x138 =>
      some (Sum.inl x138)
  else
    some (Sum.inr (Sum.inl ()))
def P_maskkeep4_TimingWider (l_0 : List Int) : Option Bool :=
  bd (P_maskkeep4_job (T_maskmake_Stream.mk l_0 0) true) fun q2 =>
  bd (
    lp (P_maskkeep4_TimingWider_L6 l_0 q2) fuel (0, q2.2, [])) fun q5 =>
  bd (P_timing_Report q2.1) fun q3 =>
  bd (P_timing_Report (T_timing_Job.mk (T_api_Netlist.mk q2.1.Net.In q2.1.Net.Out q2.1.Net.Flops q2.1.Net.Gates q2.1.Net.Outs) q2.1.Lib (T_delay_Delays.mk q5 q2.1.Delays.Data q2.1.Delays.Outs q2.1.Delays.Clock q2.1.Delays.Launch) (T_clocks_Limits.mk q2.1.Limits.Period q2.1.Limits.Inputs q2.1.Limits.Outputs q2.1.Limits.Paths))) fun q4 =>
  bd (P_maskkeep4_times) fun q6 =>
  lv ((!q6) || (decide (q3.2 ≠ 0))) fun x78 =>
  lv (x78 || (decide (q4.2 ≠ 0))) fun x82 =>
  lv (x82 || (decide ((q3.1.length : Int) ≠ (q4.1.length : Int)))) fun x89 =>
  if x89 = true then
    some false
  else
    bs (
      lp (P_maskkeep4_TimingWider_L21 q3 q4) fuel 0) (fun y => some y) fun _ =>
    some true
set_option maxHeartbeats 4000000 in
set_option maxRecDepth 100000 in
theorem c_maskkeep4_TimingWider {w0 w : World} {l : List Assn} {ρ : Heap} {q16 : Option Addr} {q3w : Nat} {c_l_0 : Nat} {l_0 : List Int} {r : Bool} (hF : P_maskkeep4_TimingWider l_0 = some r) (q30 : RdS (RpI .i64) ρ q16 q3w c_l_0 l_0) (hS : St w0 w (ro ρ :: l)) :
    Calls Tryd.prog 5 #[.slice q16 q3w c_l_0] w fun e w' => e = .returned (.bool r) ∧ St w0 w' (ro ρ :: l) := by
  have e_ := q30.n; subst e_
  refine enterC Tryd.func5 rfl 139 rfl (by simp) ?_
  refine x_seq <| x_region <| p (yl_assign rfl) <| x_done <|
    x_seq <| x_region <| p (yl_move rfl) <| p (v := .agg #[.slice q16 l_0.length c_l_0, .int .i64 0]) (yl_build bld_25 bldf_25 (parts_eq (pt (va := .slice q16 l_0.length c_l_0) rfl pt0)) (by kernel_rfl)) <|
    ?_
  refine o_box (cs := [.slice q16 l_0.length c_l_0, .int .i64 0]) rfl rfl hS (fun b18 w' hS => ?_)
  replace hF := bd_s hF; obtain ⟨q2, q53, hF⟩ := hF
  refine p (yl_assign rfl) <| x_done <| x_seq <| x_region <|
    p (yl_move rfl) <|
    ?_
  have hcall := c_maskkeep4_job q53 q30 ((hS.pull 1).pull 1)
  refine o_cc call_17 (args2 rfl rfl) hcall ?_
  rintro e w' ⟨q2u, q0c, q44, c_y0_ret_0_2_1, q0d, q45, c_y0_ret_1_2_1, q0e, q46, c_y0_ret_2_2_1, q0f, q47, c_y0_ret_3_2_1, q0g, q48, c_y0_ret_4_2_1, q0h, q49, c_y0_ret_5_2_1, q0a, q4a, c_y0_ret_6_2_1, q0y, q7, q4b, c_y0_ret_7_2_1, q0z, q8, q4c, c_y0_ret_8_2_1, q10, q9, q4d, c_y0_ret_9_2_1, q11, q3, q3x, c_y0_ret_10_2_1, q0r, q4, q3y, c_y0_ret_12_2_1, q0s, q5, q3z, c_y0_ret_13_2_1, q0t, q6, q40, c_y0_ret_14_2_1, q0u, rfl, q2c, q1g, q1h, q1i, q1j, q1k, q1l, q17, q1m, q1n, q1o, q1c, q1d, q1e, q1f, hS⟩
  refine ⟨_, rfl, ?_⟩
  have e_ := q1g.n; subst e_
  have e_ := q1h.n; subst e_
  have e_ := q1i.n; subst e_
  have e_ := q1j.n; subst e_
  have e_ := q1k.n; subst e_
  have e_ := q1l.n; subst e_
  have e_ := St.vec_n hS q17; subst e_
  have e_ := St.vec_n (hS.pull 1) q1m; subst e_
  have e_ := St.vec_n (hS.pull 2) q1n; subst e_
  have e_ := St.vec_n (hS.pull 3) q1o; subst e_
  have e_ := St.vec_n (hS.pull 4) q1c; subst e_
  have e_ := St.vec_n (hS.pull 5) q1d; subst e_
  have e_ := St.vec_n (hS.pull 6) q1e; subst e_
  have e_ := St.vec_n (hS.pull 7) q1f; subst e_
  refine o_alloc zero_58 hS (fun b4 w' hS => ?_)
  refine o_storeAgg (news := [.slice q0c q2.1.Net.In.length c_y0_ret_0_2_1, .slice q0d q2.1.Net.Out.length c_y0_ret_1_2_1, .slice q0e q2.1.Net.Flops.length c_y0_ret_2_2_1, .slice q0f q2.1.Net.Gates.length c_y0_ret_3_2_1, .slice q0g q2.1.Net.Outs.length c_y0_ret_4_2_1, .slice q0h q2.1.Lib.length c_y0_ret_5_2_1, .slice q0a q2.1.Delays.Gates.length c_y0_ret_6_2_1, .slice q7 q2.1.Delays.Data.length c_y0_ret_7_2_1, .slice q8 q2.1.Delays.Outs.length c_y0_ret_8_2_1, .slice q9 q2.1.Delays.Clock.length c_y0_ret_9_2_1, .slice q3 q2.1.Delays.Launch.length c_y0_ret_10_2_1, .int .i64 q2.1.Limits.Period, .slice q4 q2.1.Limits.Inputs.length c_y0_ret_12_2_1, .slice q5 q2.1.Limits.Outputs.length c_y0_ret_13_2_1, .slice q6 q2.1.Limits.Paths.length c_y0_ret_14_2_1]) agg_58 rfl rfl rfl (by simp [over_length]) hS (fun w' hS => ?_)
  refine x_done <| x_seq <| x_region <| pa (v := .agg #[.slice q0c q2.1.Net.In.length c_y0_ret_0_2_1, .slice q0d q2.1.Net.Out.length c_y0_ret_1_2_1, .slice q0e q2.1.Net.Flops.length c_y0_ret_2_2_1, .slice q0f q2.1.Net.Gates.length c_y0_ret_3_2_1, .slice q0g q2.1.Net.Outs.length c_y0_ret_4_2_1, .slice q0h q2.1.Lib.length c_y0_ret_5_2_1, .slice q0a q2.1.Delays.Gates.length c_y0_ret_6_2_1, .slice q7 q2.1.Delays.Data.length c_y0_ret_7_2_1, .slice q8 q2.1.Delays.Outs.length c_y0_ret_8_2_1, .slice q9 q2.1.Delays.Clock.length c_y0_ret_9_2_1, .slice q3 q2.1.Delays.Launch.length c_y0_ret_10_2_1, .int .i64 q2.1.Limits.Period, .slice q4 q2.1.Limits.Inputs.length c_y0_ret_12_2_1, .slice q5 q2.1.Limits.Outputs.length c_y0_ret_13_2_1, .slice q6 q2.1.Limits.Paths.length c_y0_ret_14_2_1]) (ld_sub agg_58 rfl rfl rfl hS) <|
    ?_
  refine o_alloc zero_58 hS (fun b5 w' hS => ?_)
  refine o_storeAgg (news := [.slice q0c q2.1.Net.In.length c_y0_ret_0_2_1, .slice q0d q2.1.Net.Out.length c_y0_ret_1_2_1, .slice q0e q2.1.Net.Flops.length c_y0_ret_2_2_1, .slice q0f q2.1.Net.Gates.length c_y0_ret_3_2_1, .slice q0g q2.1.Net.Outs.length c_y0_ret_4_2_1, .slice q0h q2.1.Lib.length c_y0_ret_5_2_1, .slice q0a q2.1.Delays.Gates.length c_y0_ret_6_2_1, .slice q7 q2.1.Delays.Data.length c_y0_ret_7_2_1, .slice q8 q2.1.Delays.Outs.length c_y0_ret_8_2_1, .slice q9 q2.1.Delays.Clock.length c_y0_ret_9_2_1, .slice q3 q2.1.Delays.Launch.length c_y0_ret_10_2_1, .int .i64 q2.1.Limits.Period, .slice q4 q2.1.Limits.Inputs.length c_y0_ret_12_2_1, .slice q5 q2.1.Limits.Outputs.length c_y0_ret_13_2_1, .slice q6 q2.1.Limits.Paths.length c_y0_ret_14_2_1]) agg_58 rfl rfl rfl (by simp [over_length]) hS (fun w' hS => ?_)
  refine x_done <| x_seq <| x_region <| p (yl_field0 fld_58_2 rfl) <|
    p (yl_fieldN fld_51_0 rfl) <|
    ?_
  refine o_store1 (v := .slice none 0 0) one_48 rfl rfl rfl rfl hS (fun w' hS => ?_)
  refine x_done <| x_seq <| x_seq <| x_region <|
    p (yl_field0 fld_58_2 rfl) <| p (yl_fieldN fld_51_0 rfl) <| pa (at_load one_48 rfl ((hS.pull 1).cell rfl)) <| p (yl_len_slice usl_48 rfl) <|
    p (yl_move rfl) <| x_done <|
    ?_
  replace hF := bd_s hF; obtain ⟨oL6, hLL6, hF⟩ := hF
  refine x_join (fun E w => ∃ (q2d : Heap) (q1t : Option Addr) (q1u : Nat) (c_b5_6_L6 : Nat) (q26 : List Value) (q2g : List (List T_tree_Window)), q2g = oL6 ∧ Le q2u q2d ∧ E 4 = .pointer (some ⟨b4, 0, none⟩) ∧ E 5 = .pointer (some ⟨b5, 0, none⟩) ∧ RepL (RpSl R_tree_Window) q2d q2g q26 ∧ St w0 w (cells b4 58 [.slice q0c q2.1.Net.In.length c_y0_ret_0_2_1, .slice q0d q2.1.Net.Out.length c_y0_ret_1_2_1, .slice q0e q2.1.Net.Flops.length c_y0_ret_2_2_1, .slice q0f q2.1.Net.Gates.length c_y0_ret_3_2_1, .slice q0g q2.1.Net.Outs.length c_y0_ret_4_2_1, .slice q0h q2.1.Lib.length c_y0_ret_5_2_1, .slice q0a q2.1.Delays.Gates.length c_y0_ret_6_2_1, .slice q7 q2.1.Delays.Data.length c_y0_ret_7_2_1, .slice q8 q2.1.Delays.Outs.length c_y0_ret_8_2_1, .slice q9 q2.1.Delays.Clock.length c_y0_ret_9_2_1, .slice q3 q2.1.Delays.Launch.length c_y0_ret_10_2_1, .int .i64 q2.1.Limits.Period, .slice q4 q2.1.Limits.Inputs.length c_y0_ret_12_2_1, .slice q5 q2.1.Limits.Outputs.length c_y0_ret_13_2_1, .slice q6 q2.1.Limits.Paths.length c_y0_ret_14_2_1] :: cells b5 58 [.slice q0c q2.1.Net.In.length c_y0_ret_0_2_1, .slice q0d q2.1.Net.Out.length c_y0_ret_1_2_1, .slice q0e q2.1.Net.Flops.length c_y0_ret_2_2_1, .slice q0f q2.1.Net.Gates.length c_y0_ret_3_2_1, .slice q0g q2.1.Net.Outs.length c_y0_ret_4_2_1, .slice q0h q2.1.Lib.length c_y0_ret_5_2_1, .slice q1t q1u c_b5_6_L6, .slice q7 q2.1.Delays.Data.length c_y0_ret_7_2_1, .slice q8 q2.1.Delays.Outs.length c_y0_ret_8_2_1, .slice q9 q2.1.Delays.Clock.length c_y0_ret_9_2_1, .slice q3 q2.1.Delays.Launch.length c_y0_ret_10_2_1, .int .i64 q2.1.Limits.Period, .slice q4 q2.1.Limits.Inputs.length c_y0_ret_12_2_1, .slice q5 q2.1.Limits.Outputs.length c_y0_ret_13_2_1, .slice q6 q2.1.Limits.Paths.length c_y0_ret_14_2_1] :: vec 49 (RpSl R_tree_Window).sz (.slice q0a q2.1.Delays.Gates.length c_y0_ret_6_2_1) q2.1.Delays.Gates.length q0y :: vec 49 (RpSl R_tree_Window).sz (.slice q7 q2.1.Delays.Data.length c_y0_ret_7_2_1) q2.1.Delays.Data.length q0z :: vec 70 R_tree_Window.sz (.slice q8 q2.1.Delays.Outs.length c_y0_ret_8_2_1) q2.1.Delays.Outs.length q10 :: vec 70 R_tree_Window.sz (.slice q9 q2.1.Delays.Clock.length c_y0_ret_9_2_1) q2.1.Delays.Clock.length q11 :: vec 70 R_tree_Window.sz (.slice q3 q2.1.Delays.Launch.length c_y0_ret_10_2_1) q2.1.Delays.Launch.length q0r :: vec 156 R_clocks_Input.sz (.slice q4 q2.1.Limits.Inputs.length c_y0_ret_12_2_1) q2.1.Limits.Inputs.length q0s :: vec 158 R_clocks_Output.sz (.slice q5 q2.1.Limits.Outputs.length c_y0_ret_13_2_1) q2.1.Limits.Outputs.length q0t :: vec 160 R_clocks_Path.sz (.slice q6 q2.1.Limits.Paths.length c_y0_ret_14_2_1) q2.1.Limits.Paths.length q0u :: vec 49 (RpSl R_tree_Window).sz (.slice q1t q1u c_b5_6_L6) q1u q26 :: ro q2d :: l)) ?_ ?_
  · skip -- L6
    refine x_block ?_
    replace hS := St.vec_nil hS 49 (RpSl R_tree_Window).sz
    have q2v : RepL (RpSl R_tree_Window) q2u [] [] := rfl
    refine x_loop (fun k_ E w => ∃ (q0q : Heap) (q0o : Option Addr) (q1r : Nat) (c_b5_6_L6h : Nat) (q13 : List Value) (q1s : Int) (q1v : Int) (q0n : List (List T_tree_Window)), lp (P_maskkeep4_TimingWider_L6 l_0 q2) k_ (q1s, q1v, q0n) = some oL6 ∧ Le q2u q0q ∧ E 3 = .pointer (some ⟨b18, 0, none⟩) ∧ E 4 = .pointer (some ⟨b4, 0, none⟩) ∧ E 5 = .pointer (some ⟨b5, 0, none⟩) ∧ E 26 = .slice q0a q2.1.Delays.Gates.length c_y0_ret_6_2_1 ∧ E 27 = .int .i64 (q2.1.Delays.Gates.length : Int) ∧ E 28 = .int .i64 q1s ∧ RepL (RpSl R_tree_Window) q0q q0n q13 ∧ St w0 w (cells b18 25 [.slice q16 l_0.length c_l_0, .int .i64 q1v] :: cells b4 58 [.slice q0c q2.1.Net.In.length c_y0_ret_0_2_1, .slice q0d q2.1.Net.Out.length c_y0_ret_1_2_1, .slice q0e q2.1.Net.Flops.length c_y0_ret_2_2_1, .slice q0f q2.1.Net.Gates.length c_y0_ret_3_2_1, .slice q0g q2.1.Net.Outs.length c_y0_ret_4_2_1, .slice q0h q2.1.Lib.length c_y0_ret_5_2_1, .slice q0a q2.1.Delays.Gates.length c_y0_ret_6_2_1, .slice q7 q2.1.Delays.Data.length c_y0_ret_7_2_1, .slice q8 q2.1.Delays.Outs.length c_y0_ret_8_2_1, .slice q9 q2.1.Delays.Clock.length c_y0_ret_9_2_1, .slice q3 q2.1.Delays.Launch.length c_y0_ret_10_2_1, .int .i64 q2.1.Limits.Period, .slice q4 q2.1.Limits.Inputs.length c_y0_ret_12_2_1, .slice q5 q2.1.Limits.Outputs.length c_y0_ret_13_2_1, .slice q6 q2.1.Limits.Paths.length c_y0_ret_14_2_1] :: cells b5 58 [.slice q0c q2.1.Net.In.length c_y0_ret_0_2_1, .slice q0d q2.1.Net.Out.length c_y0_ret_1_2_1, .slice q0e q2.1.Net.Flops.length c_y0_ret_2_2_1, .slice q0f q2.1.Net.Gates.length c_y0_ret_3_2_1, .slice q0g q2.1.Net.Outs.length c_y0_ret_4_2_1, .slice q0h q2.1.Lib.length c_y0_ret_5_2_1, .slice q0o q1r c_b5_6_L6h, .slice q7 q2.1.Delays.Data.length c_y0_ret_7_2_1, .slice q8 q2.1.Delays.Outs.length c_y0_ret_8_2_1, .slice q9 q2.1.Delays.Clock.length c_y0_ret_9_2_1, .slice q3 q2.1.Delays.Launch.length c_y0_ret_10_2_1, .int .i64 q2.1.Limits.Period, .slice q4 q2.1.Limits.Inputs.length c_y0_ret_12_2_1, .slice q5 q2.1.Limits.Outputs.length c_y0_ret_13_2_1, .slice q6 q2.1.Limits.Paths.length c_y0_ret_14_2_1] :: vec 49 (RpSl R_tree_Window).sz (.slice q0a q2.1.Delays.Gates.length c_y0_ret_6_2_1) q2.1.Delays.Gates.length q0y :: vec 49 (RpSl R_tree_Window).sz (.slice q7 q2.1.Delays.Data.length c_y0_ret_7_2_1) q2.1.Delays.Data.length q0z :: vec 70 R_tree_Window.sz (.slice q8 q2.1.Delays.Outs.length c_y0_ret_8_2_1) q2.1.Delays.Outs.length q10 :: vec 70 R_tree_Window.sz (.slice q9 q2.1.Delays.Clock.length c_y0_ret_9_2_1) q2.1.Delays.Clock.length q11 :: vec 70 R_tree_Window.sz (.slice q3 q2.1.Delays.Launch.length c_y0_ret_10_2_1) q2.1.Delays.Launch.length q0r :: vec 156 R_clocks_Input.sz (.slice q4 q2.1.Limits.Inputs.length c_y0_ret_12_2_1) q2.1.Limits.Inputs.length q0s :: vec 158 R_clocks_Output.sz (.slice q5 q2.1.Limits.Outputs.length c_y0_ret_13_2_1) q2.1.Limits.Outputs.length q0t :: vec 160 R_clocks_Path.sz (.slice q6 q2.1.Limits.Paths.length c_y0_ret_14_2_1) q2.1.Limits.Paths.length q0u :: vec 49 (RpSl R_tree_Window).sz (.slice q0o q1r c_b5_6_L6h) q1r q13 :: ro q0q :: l)) fuel ⟨q2u, none, 0, 0, [], 0, q2.2, [], hLL6, (Le.refl _), rfl, rfl, rfl, rfl, rfl, rfl, q2v, (((((((((((((hS.pull 12).pull 1).pull 11).pull 11).pull 11).pull 11).pull 11).pull 11).pull 11).pull 11).pull 10).pull 11).pull 12)⟩ ?_
    rintro kL6 E w ⟨q0q, q0o, q1r, c_b5_6_L6h, q13, q1s, q1v, q0n, hLL6, q1p, q4o, q3n, q3o, q3b, q3c, q2x, q27, hS⟩
    have e_ := St.vec_n (hS.pull 11) q27; subst e_
    replace hLL6 := lp_s hLL6; obtain ⟨kL6, obL6, rfl, hFL6, hLL6⟩ := hLL6
    refine x_seq <| x_region <| p (yl_lss q2x q3c) <| x_done <|
      x_seq <|
      x_cond_p (q1s < (q2.1.Delays.Gates.length : Int)) rfl (fun hc29 => ?_) (fun hc29 => ?_)
    · replace hFL6 := it_t hc29 hFL6
      replace hFL6 := ck_s hFL6; obtain ⟨q41, hFL6⟩ := hFL6
      replace hFL6 := lv_s hFL6; obtain ⟨q3l, q54, hFL6⟩ := hFL6
      have q_ := q17.get q41; obtain ⟨q5d, q42, q55⟩ := q_
      rw [← q54] at q42
      obtain ⟨q58, q5e, q59, rfl, q3v⟩ := q42
      have e_ := q3v.n; subst e_
      refine x_skip <| x_seq <| x_block <| x_seq <|
        x_region <| p (yix_o sl_48 q3b q2x (hS.pull 3) q17 q41) <| pa (at_load one_49 rfl (EltV.ld (m := 0) q55 (hS.pull 3) rfl)) <| p (yl_assign rfl) <|
        x_done <| x_seq <| x_region <| p (yl_assign rfl) <|
        x_done <| x_seq <| x_seq <| x_region <|
        p (yl_move rfl) <| p (yl_len_slice usl_49 rfl) <| p (yl_move rfl) <| x_done <|
        ?_
      replace hFL6 := bd_s hFL6; obtain ⟨oL10, hLL10, hFL6⟩ := hFL6
      refine x_join (fun E w => ∃ (q1b : Option Addr) (q28 : Nat) (c_w8_L10 : Nat) (q2e : List Value) (q1q : List T_tree_Window) (q1w : Int), (q1q, q1w) = oL10 ∧ E 3 = .pointer (some ⟨b18, 0, none⟩) ∧ E 4 = .pointer (some ⟨b4, 0, none⟩) ∧ E 5 = .pointer (some ⟨b5, 0, none⟩) ∧ E 8 = .slice q1b q28 c_w8_L10 ∧ E 26 = .slice q0a q2.1.Delays.Gates.length c_y0_ret_6_2_1 ∧ E 27 = .int .i64 (q2.1.Delays.Gates.length : Int) ∧ E 28 = .int .i64 q1s ∧ RepL R_tree_Window q0q q1q q2e ∧ St w0 w (cells b18 25 [.slice q16 l_0.length c_l_0, .int .i64 q1w] :: cells b4 58 [.slice q0c q2.1.Net.In.length c_y0_ret_0_2_1, .slice q0d q2.1.Net.Out.length c_y0_ret_1_2_1, .slice q0e q2.1.Net.Flops.length c_y0_ret_2_2_1, .slice q0f q2.1.Net.Gates.length c_y0_ret_3_2_1, .slice q0g q2.1.Net.Outs.length c_y0_ret_4_2_1, .slice q0h q2.1.Lib.length c_y0_ret_5_2_1, .slice q0a q2.1.Delays.Gates.length c_y0_ret_6_2_1, .slice q7 q2.1.Delays.Data.length c_y0_ret_7_2_1, .slice q8 q2.1.Delays.Outs.length c_y0_ret_8_2_1, .slice q9 q2.1.Delays.Clock.length c_y0_ret_9_2_1, .slice q3 q2.1.Delays.Launch.length c_y0_ret_10_2_1, .int .i64 q2.1.Limits.Period, .slice q4 q2.1.Limits.Inputs.length c_y0_ret_12_2_1, .slice q5 q2.1.Limits.Outputs.length c_y0_ret_13_2_1, .slice q6 q2.1.Limits.Paths.length c_y0_ret_14_2_1] :: cells b5 58 [.slice q0c q2.1.Net.In.length c_y0_ret_0_2_1, .slice q0d q2.1.Net.Out.length c_y0_ret_1_2_1, .slice q0e q2.1.Net.Flops.length c_y0_ret_2_2_1, .slice q0f q2.1.Net.Gates.length c_y0_ret_3_2_1, .slice q0g q2.1.Net.Outs.length c_y0_ret_4_2_1, .slice q0h q2.1.Lib.length c_y0_ret_5_2_1, .slice q0o q0n.length c_b5_6_L6h, .slice q7 q2.1.Delays.Data.length c_y0_ret_7_2_1, .slice q8 q2.1.Delays.Outs.length c_y0_ret_8_2_1, .slice q9 q2.1.Delays.Clock.length c_y0_ret_9_2_1, .slice q3 q2.1.Delays.Launch.length c_y0_ret_10_2_1, .int .i64 q2.1.Limits.Period, .slice q4 q2.1.Limits.Inputs.length c_y0_ret_12_2_1, .slice q5 q2.1.Limits.Outputs.length c_y0_ret_13_2_1, .slice q6 q2.1.Limits.Paths.length c_y0_ret_14_2_1] :: vec 70 R_tree_Window.sz (.slice q1b q28 c_w8_L10) q28 q2e :: vec 49 (RpSl R_tree_Window).sz (.slice q0a q2.1.Delays.Gates.length c_y0_ret_6_2_1) q2.1.Delays.Gates.length q0y :: vec 49 (RpSl R_tree_Window).sz (.slice q7 q2.1.Delays.Data.length c_y0_ret_7_2_1) q2.1.Delays.Data.length q0z :: vec 70 R_tree_Window.sz (.slice q8 q2.1.Delays.Outs.length c_y0_ret_8_2_1) q2.1.Delays.Outs.length q10 :: vec 70 R_tree_Window.sz (.slice q9 q2.1.Delays.Clock.length c_y0_ret_9_2_1) q2.1.Delays.Clock.length q11 :: vec 70 R_tree_Window.sz (.slice q3 q2.1.Delays.Launch.length c_y0_ret_10_2_1) q2.1.Delays.Launch.length q0r :: vec 156 R_clocks_Input.sz (.slice q4 q2.1.Limits.Inputs.length c_y0_ret_12_2_1) q2.1.Limits.Inputs.length q0s :: vec 158 R_clocks_Output.sz (.slice q5 q2.1.Limits.Outputs.length c_y0_ret_13_2_1) q2.1.Limits.Outputs.length q0t :: vec 160 R_clocks_Path.sz (.slice q6 q2.1.Limits.Paths.length c_y0_ret_14_2_1) q2.1.Limits.Paths.length q0u :: vec 49 (RpSl R_tree_Window).sz (.slice q0o q0n.length c_b5_6_L6h) q0n.length q13 :: ro q0q :: l)) ?_ ?_
      · skip -- L10
        refine x_block ?_
        replace hS := St.vec_nil hS 70 R_tree_Window.sz
        have q2y : RepL R_tree_Window q0q [] [] := rfl
        refine x_loop (fun k_ E w => ∃ (q12 : Option Addr) (q1x : Nat) (c_w8_L10h : Nat) (q18 : List Value) (q0x : List T_tree_Window) (q29 : Int) (q19 : Int), lp (P_maskkeep4_TimingWider_L10 l_0 q3l) k_ (q0x, q29, q19) = some oL10 ∧ E 3 = .pointer (some ⟨b18, 0, none⟩) ∧ E 4 = .pointer (some ⟨b4, 0, none⟩) ∧ E 5 = .pointer (some ⟨b5, 0, none⟩) ∧ E 8 = .slice q12 q1x c_w8_L10h ∧ E 26 = .slice q0a q2.1.Delays.Gates.length c_y0_ret_6_2_1 ∧ E 27 = .int .i64 (q2.1.Delays.Gates.length : Int) ∧ E 28 = .int .i64 q1s ∧ E 32 = .slice q58 q3l.length q59 ∧ E 33 = .int .i64 (q3l.length : Int) ∧ E 34 = .int .i64 q29 ∧ RepL R_tree_Window q0q q0x q18 ∧ St w0 w (cells b18 25 [.slice q16 l_0.length c_l_0, .int .i64 q19] :: cells b4 58 [.slice q0c q2.1.Net.In.length c_y0_ret_0_2_1, .slice q0d q2.1.Net.Out.length c_y0_ret_1_2_1, .slice q0e q2.1.Net.Flops.length c_y0_ret_2_2_1, .slice q0f q2.1.Net.Gates.length c_y0_ret_3_2_1, .slice q0g q2.1.Net.Outs.length c_y0_ret_4_2_1, .slice q0h q2.1.Lib.length c_y0_ret_5_2_1, .slice q0a q2.1.Delays.Gates.length c_y0_ret_6_2_1, .slice q7 q2.1.Delays.Data.length c_y0_ret_7_2_1, .slice q8 q2.1.Delays.Outs.length c_y0_ret_8_2_1, .slice q9 q2.1.Delays.Clock.length c_y0_ret_9_2_1, .slice q3 q2.1.Delays.Launch.length c_y0_ret_10_2_1, .int .i64 q2.1.Limits.Period, .slice q4 q2.1.Limits.Inputs.length c_y0_ret_12_2_1, .slice q5 q2.1.Limits.Outputs.length c_y0_ret_13_2_1, .slice q6 q2.1.Limits.Paths.length c_y0_ret_14_2_1] :: cells b5 58 [.slice q0c q2.1.Net.In.length c_y0_ret_0_2_1, .slice q0d q2.1.Net.Out.length c_y0_ret_1_2_1, .slice q0e q2.1.Net.Flops.length c_y0_ret_2_2_1, .slice q0f q2.1.Net.Gates.length c_y0_ret_3_2_1, .slice q0g q2.1.Net.Outs.length c_y0_ret_4_2_1, .slice q0h q2.1.Lib.length c_y0_ret_5_2_1, .slice q0o q0n.length c_b5_6_L6h, .slice q7 q2.1.Delays.Data.length c_y0_ret_7_2_1, .slice q8 q2.1.Delays.Outs.length c_y0_ret_8_2_1, .slice q9 q2.1.Delays.Clock.length c_y0_ret_9_2_1, .slice q3 q2.1.Delays.Launch.length c_y0_ret_10_2_1, .int .i64 q2.1.Limits.Period, .slice q4 q2.1.Limits.Inputs.length c_y0_ret_12_2_1, .slice q5 q2.1.Limits.Outputs.length c_y0_ret_13_2_1, .slice q6 q2.1.Limits.Paths.length c_y0_ret_14_2_1] :: vec 70 R_tree_Window.sz (.slice q12 q1x c_w8_L10h) q1x q18 :: vec 49 (RpSl R_tree_Window).sz (.slice q0a q2.1.Delays.Gates.length c_y0_ret_6_2_1) q2.1.Delays.Gates.length q0y :: vec 49 (RpSl R_tree_Window).sz (.slice q7 q2.1.Delays.Data.length c_y0_ret_7_2_1) q2.1.Delays.Data.length q0z :: vec 70 R_tree_Window.sz (.slice q8 q2.1.Delays.Outs.length c_y0_ret_8_2_1) q2.1.Delays.Outs.length q10 :: vec 70 R_tree_Window.sz (.slice q9 q2.1.Delays.Clock.length c_y0_ret_9_2_1) q2.1.Delays.Clock.length q11 :: vec 70 R_tree_Window.sz (.slice q3 q2.1.Delays.Launch.length c_y0_ret_10_2_1) q2.1.Delays.Launch.length q0r :: vec 156 R_clocks_Input.sz (.slice q4 q2.1.Limits.Inputs.length c_y0_ret_12_2_1) q2.1.Limits.Inputs.length q0s :: vec 158 R_clocks_Output.sz (.slice q5 q2.1.Limits.Outputs.length c_y0_ret_13_2_1) q2.1.Limits.Outputs.length q0t :: vec 160 R_clocks_Path.sz (.slice q6 q2.1.Limits.Paths.length c_y0_ret_14_2_1) q2.1.Limits.Paths.length q0u :: vec 49 (RpSl R_tree_Window).sz (.slice q0o q0n.length c_b5_6_L6h) q0n.length q13 :: ro q0q :: l)) fuel ⟨none, 0, 0, [], [], 0, q1v, hLL10, q4o, q3n, q3o, rfl, q3b, q3c, q2x, rfl, rfl, rfl, q2y, ((((((((((((((hS.pull 13).pull 13).pull 13).pull 13).pull 13).pull 13).pull 13).pull 13).pull 13).pull 13).pull 10).pull 13).pull 13).pull 13)⟩ ?_
        rintro kL10 E w ⟨q12, q1x, c_w8_L10h, q18, q0x, q29, q19, hLL10, q2h, q3d, q3e, q3f, q31, q32, q33, q34, q35, q2s, q2f, hS⟩
        have e_ := St.vec_n (hS.pull 3) q2f; subst e_
        replace hLL10 := lp_s hLL10; obtain ⟨kL10, obL10, rfl, hFL10, hLL10⟩ := hLL10
        refine x_seq <| x_region <| p (yl_lss q2s q35) <| x_done <|
          x_seq <|
          x_cond_p (q29 < (q3l.length : Int)) rfl (fun hc35 => ?_) (fun hc35 => ?_)
        · replace hFL10 := it_t hc35 hFL10
          replace hFL10 := ck_s hFL10; obtain ⟨q3p, hFL10⟩ := hFL10
          replace hFL10 := lv_s hFL10; obtain ⟨q0v, q4p, hFL10⟩ := hFL10
          have q_ := q3v.get q3p; obtain ⟨q5b, q3q, q4q⟩ := q_
          rw [← q4p] at q3q
          have e_ := q3q; subst e_
          refine x_skip <| x_seq <| x_block <| x_seq <|
            x_region <| p (yix_f sl_49 q34 q2s (q3v.le q1p) q3p) <| pa (v := .agg #[.int .i64 q0v.Lo, .int .i64 q0v.Hi]) (at_loadAgg agg_70 rfl rfl (Elt.every (Elt.le q4q q1p) (hS.pull 13))) <|
            ?_
          refine o_alloc zero_70 hS (fun b10 w' hS => ?_)
          refine o_storeAgg (news := [.int .i64 q0v.Lo, .int .i64 q0v.Hi]) agg_70 rfl rfl rfl (by simp [over_length]) hS (fun w' hS => ?_)
          refine x_done <|
            ?_
          replace hFL10 := bd_s hFL10; obtain ⟨q2w, q4r, hFL10⟩ := hFL10
          replace hFL10 := ar_s hFL10; obtain ⟨x43, hx43, hFL10⟩ := hFL10
          replace hFL10 := lv_s hFL10; obtain ⟨x44, hx44, hFL10⟩ := hFL10
          replace hFL10 := bd_s hFL10; obtain ⟨q1y, q4e, hFL10⟩ := hFL10
          replace hFL10 := ar_s hFL10; obtain ⟨x49, hx49, hFL10⟩ := hFL10
          replace hFL10 := lv_s hFL10; obtain ⟨q0p, q4f, hFL10⟩ := hFL10
          replace hFL10 := ck_s hFL10; obtain ⟨q4g, hFL10⟩ := hFL10
          refine x_par (w0 := w0) [⟨[], [], [38], [], [], []⟩, ⟨[], [], [39], [], [], []⟩, ⟨[1], [1], [40], [0], [], []⟩, ⟨[], [], [41], [], [], []⟩, ⟨[3], [3], [42], [2], [1], [3]⟩, ⟨[1, 2, 3, 4], [2, 4], [43], [], [], []⟩, ⟨[1, 2, 3, 4, 5], [5], [44], [], [], []⟩, ⟨[], [], [45], [], [], []⟩, ⟨[7], [7], [46], [0], [], []⟩, ⟨[], [], [47], [], [], []⟩, ⟨[3, 4, 9], [9], [48], [2], [3], [4]⟩, ⟨[3, 4, 7, 8, 9, 10], [8, 10], [49], [], [], []⟩, ⟨[1, 2, 3, 4, 5, 6, 7, 8, 9, 10, 11], [6, 11], [50], [], [], []⟩, ⟨[1, 2, 3, 4, 5, 6, 7, 8, 9, 10, 11, 12], [12], [51], [], [], [5]⟩, ⟨[0, 1, 2, 3, 4, 5, 6, 7, 8, 9, 10, 11, 12, 13], [0, 13], [52], [5, 2], [6], [7]⟩, ⟨[0, 1, 2, 3, 4, 5, 6, 7, 8, 9, 10, 11, 12, 13, 14], [14], [8, 52], [], [], []⟩] [⟨none, none, []⟩, ⟨none, (some 4), []⟩, ⟨none, none, []⟩, ⟨(some 4), (some 10), []⟩, ⟨(some 10), none, []⟩, ⟨(some 13), none, [51]⟩, ⟨none, (some 14), []⟩, ⟨(some 14), none, [52]⟩] [8, 38, 39, 40, 41, 42, 43, 44, 45, 46, 47, 48, 49, 50, 51, 52] [0, 1, 2, 6] [0, 2, 4, 5, 7] [0, 1, 2, 3, 4, 5, 6, 7, 8, 9, 10, 11, 12, 13, 14, 15] [fun Ep12 => Ep12 38 = .slice q12 q0x.length c_w8_L10h, fun Ep12 => Ep12 39 = .pointer (some ⟨b10, 0, none⟩), fun Ep12 => Ep12 40 = .int .i64 q0v.Lo, fun Ep12 => Ep12 41 = .pointer (some ⟨b18, 0, none⟩), fun Ep12 => Ep12 42 = .int .i64 q2w.1, fun Ep12 => Ep12 43 = .int .i64 x43, fun Ep12 => Ep12 44 = .int .i64 x44, fun Ep12 => Ep12 45 = .pointer (some ⟨b10, 1, none⟩), fun Ep12 => Ep12 46 = .int .i64 q0v.Hi, fun Ep12 => Ep12 47 = .pointer (some ⟨b18, 0, none⟩), fun Ep12 => Ep12 48 = .int .i64 q1y.1, fun Ep12 => Ep12 49 = .int .i64 x49, fun Ep12 => Ep12 50 = .agg #[.int .i64 x44, .int .i64 x49], fun Ep12 => Ep12 51 = .slice (some ⟨(blkOf (Ep12 51)), 0, none⟩) 1 1, fun Ep12 => Ep12 52 = .slice (adOf (Ep12 52)) q0p.length (capOf (Ep12 52)), fun Ep12 => Ep12 8 = .slice (adOf (Ep12 52)) q0p.length (capOf (Ep12 52))] [fun Ep12 => cells b10 70 [.int .i64 q0v.Lo, .int .i64 q0v.Hi], fun Ep12 => cells b18 25 [.slice q16 l_0.length c_l_0, .int .i64 q19], fun Ep12 => ro q0q, fun Ep12 => cells b18 25 [.slice q16 l_0.length c_l_0, .int .i64 q2w.2], fun Ep12 => cells b18 25 [.slice q16 l_0.length c_l_0, .int .i64 q1y.2], fun Ep12 => cells (blkOf (Ep12 51)) 70 [.int .i64 x44, .int .i64 x49], fun Ep12 => vec 70 R_tree_Window.sz (.slice q12 q0x.length c_w8_L10h) q0x.length q18, fun Ep12 => bunA (fun (cs52 : List Value) => RepL R_tree_Window q0q q0p cs52) (fun (cs52 : List Value) => [vec 70 R_tree_Window.sz (.slice (adOf (Ep12 52)) q0p.length (capOf (Ep12 52))) q0p.length cs52])] mixed (by kernel_rfl) ((((hS.pull 4).pull 14).pull 3).pull 3) ?_ ?_
          · refine ⟨?_, ?_, ?_, ?_, ?_, ?_, ?_, ?_, ?_, ?_, ?_, ?_, ?_, ?_, ?_, ?_, trivial⟩
            · intro Ep12 w l' hE12 hO12 hF_ hS
              refine p (yl_move ((hO12 8 rfl).trans q3f)) <| x_done <|
                ?_
              refine x_fin ⟨⟨_, rfl⟩, rfl, ?_⟩
              exact Eq.mp (by kernel_rfl) hS
            · intro Ep12 w l' hE12 hO12 hF_ hS
              refine p (yl_field0 fld_70_0 (hE12 10 rfl)) <| x_done <|
                ?_
              refine x_fin ⟨⟨_, rfl⟩, rfl, ?_⟩
              exact Eq.mp (by kernel_rfl) hS
            · intro Ep12 w l' hE12 hO12 hF_ hS
              obtain ⟨q2i, -⟩ := hF_
              replace q2i : Ep12 39 = .pointer (some ⟨b10, 0, none⟩) := Eq.mp (by kernel_rfl) q2i
              replace hS : St w0 w (cells b10 70 [.int .i64 q0v.Lo, .int .i64 q0v.Hi] :: l') := Eq.mp (by kernel_rfl) hS
              refine pa (at_load one_3 q2i (hS.cell rfl)) <| x_done <|
                ?_
              refine x_fin ⟨⟨_, rfl⟩, rfl, ?_⟩
              exact Eq.mp (by kernel_rfl) hS
            · intro Ep12 w l' hE12 hO12 hF_ hS
              refine p (yl_move ((hE12 3 rfl).trans q2h)) <| x_done <|
                ?_
              refine x_fin ⟨⟨_, rfl⟩, rfl, ?_⟩
              exact Eq.mp (by kernel_rfl) hS
            · intro Ep12 w l' hE12 hO12 hF_ hS
              obtain ⟨q2j, -⟩ := hF_
              replace q2j : Ep12 41 = .pointer (some ⟨b18, 0, none⟩) := Eq.mp (by kernel_rfl) q2j
              replace hS : St w0 w (ro q0q :: cells b18 25 [.slice q16 l_0.length c_l_0, .int .i64 q19] :: l') := Eq.mp (by kernel_rfl) hS
              have hcall := c_maskmake_Stream_Next q4r (q30.le (q2c.trans q1p)) (hS.pull 1)
              refine o_cc call_13 (args2 q2j rfl) hcall ?_
              rintro e w' ⟨rfl, hS⟩
              refine ⟨_, rfl, ?_⟩
              refine x_done <|
                ?_
              refine x_fin ⟨⟨_, rfl⟩, rfl, ?_⟩
              exact Eq.mp (by kernel_rfl) (hS.pull 1)
            · intro Ep12 w l' hE12 hO12 hF_ hS
              obtain ⟨q2k, q2l, -⟩ := hF_
              replace q2k : Ep12 40 = .int .i64 q0v.Lo := Eq.mp (by kernel_rfl) q2k
              replace q2l : Ep12 42 = .int .i64 q2w.1 := Eq.mp (by kernel_rfl) q2l
              refine p (ysub q2k q2l hx43) <| x_done <|
                ?_
              refine x_fin ⟨⟨_, rfl⟩, rfl, ?_⟩
              exact Eq.mp (by kernel_rfl) hS
            · intro Ep12 w l' hE12 hO12 hF_ hS
              obtain ⟨q2m, -⟩ := hF_
              replace q2m : Ep12 43 = .int .i64 x43 := Eq.mp (by kernel_rfl) q2m
              refine p (ymax' rfl q2m hx44) <| x_done <|
                ?_
              refine x_fin ⟨⟨_, rfl⟩, rfl, ?_⟩
              exact Eq.mp (by kernel_rfl) hS
            · intro Ep12 w l' hE12 hO12 hF_ hS
              refine p (yl_field0 fld_70_1 (hE12 10 rfl)) <| x_done <|
                ?_
              refine x_fin ⟨⟨_, rfl⟩, rfl, ?_⟩
              exact Eq.mp (by kernel_rfl) hS
            · intro Ep12 w l' hE12 hO12 hF_ hS
              obtain ⟨q2n, -⟩ := hF_
              replace q2n : Ep12 45 = .pointer (some ⟨b10, 1, none⟩) := Eq.mp (by kernel_rfl) q2n
              replace hS : St w0 w (cells b10 70 [.int .i64 q0v.Lo, .int .i64 q0v.Hi] :: l') := Eq.mp (by kernel_rfl) hS
              refine pa (at_load one_3 q2n (hS.cell rfl)) <| x_done <|
                ?_
              refine x_fin ⟨⟨_, rfl⟩, rfl, ?_⟩
              exact Eq.mp (by kernel_rfl) hS
            · intro Ep12 w l' hE12 hO12 hF_ hS
              refine p (yl_move ((hE12 3 rfl).trans q2h)) <| x_done <|
                ?_
              refine x_fin ⟨⟨_, rfl⟩, rfl, ?_⟩
              exact Eq.mp (by kernel_rfl) hS
            · intro Ep12 w l' hE12 hO12 hF_ hS
              obtain ⟨q2o, -⟩ := hF_
              replace q2o : Ep12 47 = .pointer (some ⟨b18, 0, none⟩) := Eq.mp (by kernel_rfl) q2o
              replace hS : St w0 w (ro q0q :: cells b18 25 [.slice q16 l_0.length c_l_0, .int .i64 q2w.2] :: l') := Eq.mp (by kernel_rfl) hS
              have hcall := c_maskmake_Stream_Next q4e (q30.le (q2c.trans q1p)) (hS.pull 1)
              refine o_cc call_13 (args2 q2o rfl) hcall ?_
              rintro e w' ⟨rfl, hS⟩
              refine ⟨_, rfl, ?_⟩
              refine x_done <|
                ?_
              refine x_fin ⟨⟨_, rfl⟩, rfl, ?_⟩
              exact Eq.mp (by kernel_rfl) (hS.pull 1)
            · intro Ep12 w l' hE12 hO12 hF_ hS
              obtain ⟨q2p, q1z, -⟩ := hF_
              replace q2p : Ep12 46 = .int .i64 q0v.Hi := Eq.mp (by kernel_rfl) q2p
              replace q1z : Ep12 48 = .int .i64 q1y.1 := Eq.mp (by kernel_rfl) q1z
              refine p (yadd q2p q1z hx49) <| x_done <|
                ?_
              refine x_fin ⟨⟨_, rfl⟩, rfl, ?_⟩
              exact Eq.mp (by kernel_rfl) hS
            · intro Ep12 w l' hE12 hO12 hF_ hS
              obtain ⟨q2q, q20, -⟩ := hF_
              replace q2q : Ep12 44 = .int .i64 x44 := Eq.mp (by kernel_rfl) q2q
              replace q20 : Ep12 49 = .int .i64 x49 := Eq.mp (by kernel_rfl) q20
              refine p (v := .agg #[.int .i64 x44, .int .i64 x49]) (yl_build bld_70 bldf_70 (parts_eq (pt (va := .int .i64 x44) q2q (pt (va := .int .i64 x49) q20 pt0))) (by kernel_rfl)) <| x_done <|
                ?_
              refine x_fin ⟨⟨_, rfl⟩, rfl, ?_⟩
              exact Eq.mp (by kernel_rfl) hS
            · intro Ep12 w l' hE12 hO12 hF_ hS
              obtain ⟨q21, -⟩ := hF_
              replace q21 : Ep12 50 = .agg #[.int .i64 x44, .int .i64 x49] := Eq.mp (by kernel_rfl) q21
              refine o_buildSlice (vs := [.agg #[.int .i64 x44, .int .i64 x49]]) (cs := [.int .i64 x44, .int .i64 x49]) sl_49 zero_70 (parts_eq (pt (va := .agg #[.int .i64 x44, .int .i64 x49]) q21 pt0)) rfl (by intro v hv; simp only [List.mem_cons, List.not_mem_nil, or_false] at hv; first | (subst hv; rfl) | (rcases hv with rfl <;> rfl)) (by decide) rfl hS (fun b51 w' hS => ?_)
              refine x_done <|
                ?_
              refine x_fin ⟨⟨_, rfl⟩, rfl, ?_⟩
              exact Eq.mp (by kernel_rfl) hS
            · intro Ep12 w l' hE12 hO12 hF_ hS
              obtain ⟨q2r, q22, -⟩ := hF_
              replace q2r : Ep12 38 = .slice q12 q0x.length c_w8_L10h := Eq.mp (by kernel_rfl) q2r
              replace q22 : Ep12 51 = .slice (some ⟨(blkOf (Ep12 51)), 0, none⟩) 1 1 := Eq.mp (by kernel_rfl) q22
              replace hS : St w0 w (cells (blkOf (Ep12 51)) 70 [.int .i64 x44, .int .i64 x49] :: ro q0q :: vec 70 R_tree_Window.sz (.slice q12 q0x.length c_w8_L10h) q0x.length q18 :: l') := Eq.mp (by kernel_rfl) hS
              refine o_ap sl_49 zero_70 rfl (by decide) q2r q22 (hS.pull 2) q2f (src_blk usl_49 hS rfl rfl) (RepL.cons (R := R_tree_Window) (ρ := q0q) (x := (T_tree_Window.mk x44 x49)) (cs := [.int .i64 x44, .int .i64 x49]) rfl RepL.nil) q4f q4g (fun A52 c52 cs52 w' hr52 hS => ?_)
              refine x_done <|
                ?_
              refine x_fin ⟨⟨_, rfl⟩, rfl, ?_⟩
              replace hS := St.bun (Φ := (fun (cs52 : List Value) => RepL R_tree_Window q0q q0p cs52)) (L := (fun (cs52 : List Value) => [vec 70 R_tree_Window.sz (.slice A52 q0p.length c52) q0p.length cs52])) cs52 hr52 hS
              exact Eq.mp (by kernel_rfl) ((hS.pull 2).pull 2)
            · intro Ep12 w l' hE12 hO12 hF_ hS
              obtain ⟨q23, -⟩ := hF_
              replace q23 : Ep12 52 = .slice (adOf (Ep12 52)) q0p.length (capOf (Ep12 52)) := Eq.mp (by kernel_rfl) q23
              refine p (yl_assign q23) <| x_done <|
                ?_
              refine x_fin ⟨⟨_, rfl⟩, rfl, ?_⟩
              exact Eq.mp (by kernel_rfl) hS
          intro Ep12 w' hE12 hF_ hS
          obtain ⟨q2r, q2i, q2k, q2j, q2l, q2m, q2q, q2n, q2p, q2o, q1z, q20, q21, q22, q23, q36, -⟩ := hF_
          replace q2r : Ep12 38 = .slice q12 q0x.length c_w8_L10h := Eq.mp (by kernel_rfl) q2r
          replace q2i : Ep12 39 = .pointer (some ⟨b10, 0, none⟩) := Eq.mp (by kernel_rfl) q2i
          replace q2k : Ep12 40 = .int .i64 q0v.Lo := Eq.mp (by kernel_rfl) q2k
          replace q2j : Ep12 41 = .pointer (some ⟨b18, 0, none⟩) := Eq.mp (by kernel_rfl) q2j
          replace q2l : Ep12 42 = .int .i64 q2w.1 := Eq.mp (by kernel_rfl) q2l
          replace q2m : Ep12 43 = .int .i64 x43 := Eq.mp (by kernel_rfl) q2m
          replace q2q : Ep12 44 = .int .i64 x44 := Eq.mp (by kernel_rfl) q2q
          replace q2n : Ep12 45 = .pointer (some ⟨b10, 1, none⟩) := Eq.mp (by kernel_rfl) q2n
          replace q2p : Ep12 46 = .int .i64 q0v.Hi := Eq.mp (by kernel_rfl) q2p
          replace q2o : Ep12 47 = .pointer (some ⟨b18, 0, none⟩) := Eq.mp (by kernel_rfl) q2o
          replace q1z : Ep12 48 = .int .i64 q1y.1 := Eq.mp (by kernel_rfl) q1z
          replace q20 : Ep12 49 = .int .i64 x49 := Eq.mp (by kernel_rfl) q20
          replace q21 : Ep12 50 = .agg #[.int .i64 x44, .int .i64 x49] := Eq.mp (by kernel_rfl) q21
          replace q22 : Ep12 51 = .slice (some ⟨(blkOf (Ep12 51)), 0, none⟩) 1 1 := Eq.mp (by kernel_rfl) q22
          replace q23 : Ep12 52 = .slice (adOf (Ep12 52)) q0p.length (capOf (Ep12 52)) := Eq.mp (by kernel_rfl) q23
          replace q36 : Ep12 8 = .slice (adOf (Ep12 52)) q0p.length (capOf (Ep12 52)) := Eq.mp (by kernel_rfl) q36
          replace hS : St w0 w' (cells b10 70 [.int .i64 q0v.Lo, .int .i64 q0v.Hi] :: ro q0q :: cells b18 25 [.slice q16 l_0.length c_l_0, .int .i64 q1y.2] :: cells (blkOf (Ep12 51)) 70 [.int .i64 x44, .int .i64 x49] :: bunA (fun (cs52 : List Value) => RepL R_tree_Window q0q q0p cs52) (fun (cs52 : List Value) => [vec 70 R_tree_Window.sz (.slice (adOf (Ep12 52)) q0p.length (capOf (Ep12 52))) q0p.length cs52]) :: (cells b4 58 [.slice q0c q2.1.Net.In.length c_y0_ret_0_2_1, .slice q0d q2.1.Net.Out.length c_y0_ret_1_2_1, .slice q0e q2.1.Net.Flops.length c_y0_ret_2_2_1, .slice q0f q2.1.Net.Gates.length c_y0_ret_3_2_1, .slice q0g q2.1.Net.Outs.length c_y0_ret_4_2_1, .slice q0h q2.1.Lib.length c_y0_ret_5_2_1, .slice q0a q2.1.Delays.Gates.length c_y0_ret_6_2_1, .slice q7 q2.1.Delays.Data.length c_y0_ret_7_2_1, .slice q8 q2.1.Delays.Outs.length c_y0_ret_8_2_1, .slice q9 q2.1.Delays.Clock.length c_y0_ret_9_2_1, .slice q3 q2.1.Delays.Launch.length c_y0_ret_10_2_1, .int .i64 q2.1.Limits.Period, .slice q4 q2.1.Limits.Inputs.length c_y0_ret_12_2_1, .slice q5 q2.1.Limits.Outputs.length c_y0_ret_13_2_1, .slice q6 q2.1.Limits.Paths.length c_y0_ret_14_2_1] :: cells b5 58 [.slice q0c q2.1.Net.In.length c_y0_ret_0_2_1, .slice q0d q2.1.Net.Out.length c_y0_ret_1_2_1, .slice q0e q2.1.Net.Flops.length c_y0_ret_2_2_1, .slice q0f q2.1.Net.Gates.length c_y0_ret_3_2_1, .slice q0g q2.1.Net.Outs.length c_y0_ret_4_2_1, .slice q0h q2.1.Lib.length c_y0_ret_5_2_1, .slice q0o q0n.length c_b5_6_L6h, .slice q7 q2.1.Delays.Data.length c_y0_ret_7_2_1, .slice q8 q2.1.Delays.Outs.length c_y0_ret_8_2_1, .slice q9 q2.1.Delays.Clock.length c_y0_ret_9_2_1, .slice q3 q2.1.Delays.Launch.length c_y0_ret_10_2_1, .int .i64 q2.1.Limits.Period, .slice q4 q2.1.Limits.Inputs.length c_y0_ret_12_2_1, .slice q5 q2.1.Limits.Outputs.length c_y0_ret_13_2_1, .slice q6 q2.1.Limits.Paths.length c_y0_ret_14_2_1] :: vec 49 (RpSl R_tree_Window).sz (.slice q0a q2.1.Delays.Gates.length c_y0_ret_6_2_1) q2.1.Delays.Gates.length q0y :: vec 49 (RpSl R_tree_Window).sz (.slice q7 q2.1.Delays.Data.length c_y0_ret_7_2_1) q2.1.Delays.Data.length q0z :: vec 70 R_tree_Window.sz (.slice q8 q2.1.Delays.Outs.length c_y0_ret_8_2_1) q2.1.Delays.Outs.length q10 :: vec 70 R_tree_Window.sz (.slice q9 q2.1.Delays.Clock.length c_y0_ret_9_2_1) q2.1.Delays.Clock.length q11 :: vec 70 R_tree_Window.sz (.slice q3 q2.1.Delays.Launch.length c_y0_ret_10_2_1) q2.1.Delays.Launch.length q0r :: vec 156 R_clocks_Input.sz (.slice q4 q2.1.Limits.Inputs.length c_y0_ret_12_2_1) q2.1.Limits.Inputs.length q0s :: vec 158 R_clocks_Output.sz (.slice q5 q2.1.Limits.Outputs.length c_y0_ret_13_2_1) q2.1.Limits.Outputs.length q0t :: vec 160 R_clocks_Path.sz (.slice q6 q2.1.Limits.Paths.length c_y0_ret_14_2_1) q2.1.Limits.Paths.length q0u :: vec 49 (RpSl R_tree_Window).sz (.slice q0o q0n.length c_b5_6_L6h) q0n.length q13 :: l)) := Eq.mp (by kernel_rfl) hS
          have q_ := St.unbun (hS.pull 4); obtain ⟨cs52, hr52, hS⟩ := q_
          replace hFL10 := ar_s hFL10; obtain ⟨x53, hx53, hFL10⟩ := hFL10
          refine x_blk <| x_region <| p (yadd ((hE12 34 rfl).trans q2s) rfl hx53) <| p (yl_move rfl) <|
            x_done <|
            ?_
          have e_ := Option.some.inj (show some _ = some _ from hFL10); subst e_
          exact x_inv ⟨kL10, Nat.lt_succ_self _, (adOf (Ep12 52)), q0p.length, (capOf (Ep12 52)), cs52, q0p, x53, q1y.2, hLL10, ((hE12 3 rfl).trans q2h), ((hE12 4 rfl).trans q3d), ((hE12 5 rfl).trans q3e), q36, ((hE12 26 rfl).trans q31), ((hE12 27 rfl).trans q32), ((hE12 28 rfl).trans q33), ((hE12 32 rfl).trans q34), ((hE12 33 rfl).trans q35), rfl, hr52, ((((((((((((((((hS.pull 1).drop.pull 3).drop.pull 1).pull 13).pull 13).pull 13).pull 13).pull 13).pull 13).pull 13).pull 13).pull 13).pull 10).pull 13).pull 13).pull 13)⟩
        · replace hFL10 := it_f hc35 hFL10
          refine x_exitTo _ rfl <|
            ?_
          have e_ := Option.some.inj (show some _ = some _ from hFL10); subst e_
          exact x_inv ⟨q12, q0x.length, c_w8_L10h, q18, q0x, q19, hLL10, q2h, q3d, q3e, q3f, q31, q32, q33, q2f, ((((((((((((((hS.pull 13).pull 13).pull 13).pull 13).pull 13).pull 13).pull 13).pull 13).pull 13).pull 13).pull 13).pull 13).pull 13).pull 13)⟩
      rintro E w ⟨q1b, q28, c_w8_L10, q2e, q1q, q1w, rfl, q4s, q4t, q37, q4u, q4h, q4i, q4j, q38, hS⟩
      have e_ := St.vec_n (hS.pull 3) q38; subst e_
      refine x_region <| p (yl_field0 fld_58_2 q37) <| p (yl_fieldN fld_51_0 rfl) <| pa (at_load one_48 rfl ((hS.pull 2).cell rfl)) <|
        p (yl_move q4u) <|
        ?_
      have q_ := St.vec_fz ((hS.pull 13).pull 4) q38; obtain ⟨q3r, q39, q4v, hS⟩ := q_
      refine o_buildSlice (vs := [.slice q1b q1q.length c_w8_L10]) (cs := [.slice q1b q1q.length c_w8_L10]) sl_48 zero_49 (parts_eq (pt (va := .slice q1b q1q.length c_w8_L10) rfl pt0)) rfl (by intro v hv; simp only [List.mem_cons, List.not_mem_nil, or_false] at hv; first | (subst hv; rfl) | (rcases hv with rfl <;> rfl)) (by decide) rfl hS (fun b58 w' hS => ?_)
      replace hFL6 := lv_s hFL6; obtain ⟨q3m, q4w, hFL6⟩ := hFL6
      replace hFL6 := ck_s hFL6; obtain ⟨q4x, hFL6⟩ := hFL6
      refine o_ap sl_48 zero_49 rfl (by decide) rfl rfl (hS.pull 13) (q27.le q39) (src_blk usl_48 hS rfl rfl) (RepL.cons (R := (RpSl R_tree_Window)) (ρ := q3r) (x := q1q) (cs := [.slice q1b q1q.length c_w8_L10]) ⟨_, _, _, rfl, q4v⟩ RepL.nil) q4w q4x (fun A59 c59 cs59 w' hr59 hS => ?_)
      refine p (yl_field0 fld_58_2 q37) <| p (yl_fieldN fld_51_0 rfl) <|
        ?_
      refine o_store1 (v := .slice A59 q3m.length c59) one_48 rfl rfl rfl rfl (hS.pull 5) (fun w' hS => ?_)
      replace hFL6 := ar_s hFL6; obtain ⟨x62, hx62, hFL6⟩ := hFL6
      refine x_done <| x_blk <| x_region <| p (yadd q4j rfl hx62) <|
        p (yl_move rfl) <| x_done <|
        ?_
      have e_ := Option.some.inj (show some _ = some _ from hFL6); subst e_
      exact x_inv ⟨kL6, Nat.lt_succ_self _, q3r, A59, q3m.length, c59, cs59, x62, q1w, q3m, hLL6, (q1p.trans q39), q4s, q4t, q37, q4h, q4i, rfl, hr59, ((((((((((((((hS.pull 2).drop.pull 2).pull 2).pull 12).pull 12).pull 12).pull 12).pull 12).pull 12).pull 12).pull 12).pull 10).pull 12).pull 12)⟩
    · replace hFL6 := it_f hc29 hFL6
      refine x_exitTo _ rfl <|
        ?_
      have e_ := Option.some.inj (show some _ = some _ from hFL6); subst e_
      exact x_inv ⟨q0q, q0o, q0n.length, c_b5_6_L6h, q13, q0n, hLL6, q1p, q3n, q3o, q27, ((((((((((((hS.drop.pull 11).pull 11).pull 11).pull 11).pull 11).pull 11).pull 11).pull 11).pull 11).pull 11).pull 11).pull 11)⟩
  rintro E w ⟨q2d, q1t, q1u, c_b5_6_L6, q26, q2g, rfl, q0i, q56, q57, q2z, hS⟩
  have e_ := St.vec_n (hS.pull 10) q2z; subst e_
  replace hF := bd_s hF; obtain ⟨q0w, q4y, hF⟩ := hF
  refine x_seq <| x_region <| pa (v := .agg #[.slice q0c q2.1.Net.In.length c_y0_ret_0_2_1, .slice q0d q2.1.Net.Out.length c_y0_ret_1_2_1, .slice q0e q2.1.Net.Flops.length c_y0_ret_2_2_1, .slice q0f q2.1.Net.Gates.length c_y0_ret_3_2_1, .slice q0g q2.1.Net.Outs.length c_y0_ret_4_2_1, .slice q0h q2.1.Lib.length c_y0_ret_5_2_1, .slice q0a q2.1.Delays.Gates.length c_y0_ret_6_2_1, .slice q7 q2.1.Delays.Data.length c_y0_ret_7_2_1, .slice q8 q2.1.Delays.Outs.length c_y0_ret_8_2_1, .slice q9 q2.1.Delays.Clock.length c_y0_ret_9_2_1, .slice q3 q2.1.Delays.Launch.length c_y0_ret_10_2_1, .int .i64 q2.1.Limits.Period, .slice q4 q2.1.Limits.Inputs.length c_y0_ret_12_2_1, .slice q5 q2.1.Limits.Outputs.length c_y0_ret_13_2_1, .slice q6 q2.1.Limits.Paths.length c_y0_ret_14_2_1]) (ld_sub agg_58 q56 rfl rfl hS) <|
    ?_
  have q_ := St.lend ((hS.pull 11).pull 3) (q17.le q0i); obtain ⟨ρl0, hll0, hlf0, hS0, back0⟩ := q_
  have q_ := St.lend (hS0.pull 3) (q1m.le (q0i.trans hll0)); obtain ⟨ρl1, hll1, hlf1, hS1, back1⟩ := q_
  have q_ := St.lend (hS1.pull 3) (q1n.le (q0i.trans (hll0.trans hll1))); obtain ⟨ρl2, hll2, hlf2, hS2, back2⟩ := q_
  have q_ := St.lend (hS2.pull 3) (q1o.le (q0i.trans ((hll0.trans hll1).trans hll2))); obtain ⟨ρl3, hll3, hlf3, hS3, back3⟩ := q_
  have q_ := St.lend (hS3.pull 3) (q1c.le (q0i.trans (((hll0.trans hll1).trans hll2).trans hll3))); obtain ⟨ρl4, hll4, hlf4, hS4, back4⟩ := q_
  have q_ := St.lend (hS4.pull 3) (q1d.le (q0i.trans ((((hll0.trans hll1).trans hll2).trans hll3).trans hll4))); obtain ⟨ρl5, hll5, hlf5, hS5, back5⟩ := q_
  have q_ := St.lend (hS5.pull 3) (q1e.le (q0i.trans (((((hll0.trans hll1).trans hll2).trans hll3).trans hll4).trans hll5))); obtain ⟨ρl6, hll6, hlf6, hS6, back6⟩ := q_
  have q_ := St.lend (hS6.pull 3) (q1f.le (q0i.trans ((((((hll0.trans hll1).trans hll2).trans hll3).trans hll4).trans hll5).trans hll6))); obtain ⟨ρl7, hll7, hlf7, hS7, back7⟩ := q_
  have hcall := c_timing_Report q4y ((q1g.le q0i).le (((((((hll0.trans hll1).trans hll2).trans hll3).trans hll4).trans hll5).trans hll6).trans hll7)) ((q1h.le q0i).le (((((((hll0.trans hll1).trans hll2).trans hll3).trans hll4).trans hll5).trans hll6).trans hll7)) ((q1i.le q0i).le (((((((hll0.trans hll1).trans hll2).trans hll3).trans hll4).trans hll5).trans hll6).trans hll7)) ((q1j.le q0i).le (((((((hll0.trans hll1).trans hll2).trans hll3).trans hll4).trans hll5).trans hll6).trans hll7)) ((q1k.le q0i).le (((((((hll0.trans hll1).trans hll2).trans hll3).trans hll4).trans hll5).trans hll6).trans hll7)) ((q1l.le q0i).le (((((((hll0.trans hll1).trans hll2).trans hll3).trans hll4).trans hll5).trans hll6).trans hll7)) (hlf0.le ((((((hll1.trans hll2).trans hll3).trans hll4).trans hll5).trans hll6).trans hll7)) (hlf1.le (((((hll2.trans hll3).trans hll4).trans hll5).trans hll6).trans hll7)) (hlf2.le ((((hll3.trans hll4).trans hll5).trans hll6).trans hll7)) (hlf3.le (((hll4.trans hll5).trans hll6).trans hll7)) (hlf4.le ((hll5.trans hll6).trans hll7)) (hlf5.le (hll6.trans hll7)) (hlf6.le hll7) hlf7 hS7
  refine o_cc call_19 (args1 rfl) hcall ?_
  rintro e w' ⟨q0j, q4m, c_y0_ret_16_1, q24, rfl, q0l, hS⟩
  refine ⟨_, rfl, ?_⟩
  replace hS := back7 (hS.pull 1)
  replace hS := back6 (hS.pull 1)
  replace hS := back5 (hS.pull 1)
  replace hS := back4 (hS.pull 1)
  replace hS := back3 (hS.pull 1)
  replace hS := back2 (hS.pull 1)
  replace hS := back1 (hS.pull 1)
  replace hS := back0 (hS.pull 1)
  replace q0l : RepL R_timing_End q2d q0w.1 q24 := RepL.flat (fun h => h) q0l
  have e_ := St.vec_n (hS.pull 9) q0l; subst e_
  replace hF := bd_s hF; obtain ⟨q14, q4z, hF⟩ := hF
  refine p (yl_move rfl) <| p (yl_extract rfl rfl) <| p (yl_extract rfl rfl) <| p (yl_assign rfl) <|
    p (yl_assign rfl) <| x_done <| x_seq <| x_region <|
    pa (v := .agg #[.slice q0c q2.1.Net.In.length c_y0_ret_0_2_1, .slice q0d q2.1.Net.Out.length c_y0_ret_1_2_1, .slice q0e q2.1.Net.Flops.length c_y0_ret_2_2_1, .slice q0f q2.1.Net.Gates.length c_y0_ret_3_2_1, .slice q0g q2.1.Net.Outs.length c_y0_ret_4_2_1, .slice q0h q2.1.Lib.length c_y0_ret_5_2_1, .slice q1t q2g.length c_b5_6_L6, .slice q7 q2.1.Delays.Data.length c_y0_ret_7_2_1, .slice q8 q2.1.Delays.Outs.length c_y0_ret_8_2_1, .slice q9 q2.1.Delays.Clock.length c_y0_ret_9_2_1, .slice q3 q2.1.Delays.Launch.length c_y0_ret_10_2_1, .int .i64 q2.1.Limits.Period, .slice q4 q2.1.Limits.Inputs.length c_y0_ret_12_2_1, .slice q5 q2.1.Limits.Outputs.length c_y0_ret_13_2_1, .slice q6 q2.1.Limits.Paths.length c_y0_ret_14_2_1]) (ld_sub agg_58 q57 rfl rfl (hS.pull 11)) <|
    ?_
  have q_ := St.lend ((hS.pull 1).pull 12) q2z; obtain ⟨ρl0, hll0, hlf0, hS0, back0⟩ := q_
  have q_ := St.lend (hS0.pull 2) (q1m.le (q0i.trans hll0)); obtain ⟨ρl1, hll1, hlf1, hS1, back1⟩ := q_
  have q_ := St.lend (hS1.pull 2) (q1n.le (q0i.trans (hll0.trans hll1))); obtain ⟨ρl2, hll2, hlf2, hS2, back2⟩ := q_
  have q_ := St.lend (hS2.pull 2) (q1o.le (q0i.trans ((hll0.trans hll1).trans hll2))); obtain ⟨ρl3, hll3, hlf3, hS3, back3⟩ := q_
  have q_ := St.lend (hS3.pull 2) (q1c.le (q0i.trans (((hll0.trans hll1).trans hll2).trans hll3))); obtain ⟨ρl4, hll4, hlf4, hS4, back4⟩ := q_
  have q_ := St.lend (hS4.pull 2) (q1d.le (q0i.trans ((((hll0.trans hll1).trans hll2).trans hll3).trans hll4))); obtain ⟨ρl5, hll5, hlf5, hS5, back5⟩ := q_
  have q_ := St.lend (hS5.pull 2) (q1e.le (q0i.trans (((((hll0.trans hll1).trans hll2).trans hll3).trans hll4).trans hll5))); obtain ⟨ρl6, hll6, hlf6, hS6, back6⟩ := q_
  have q_ := St.lend (hS6.pull 2) (q1f.le (q0i.trans ((((((hll0.trans hll1).trans hll2).trans hll3).trans hll4).trans hll5).trans hll6))); obtain ⟨ρl7, hll7, hlf7, hS7, back7⟩ := q_
  have hcall := c_timing_Report q4z ((q1g.le q0i).le (((((((hll0.trans hll1).trans hll2).trans hll3).trans hll4).trans hll5).trans hll6).trans hll7)) ((q1h.le q0i).le (((((((hll0.trans hll1).trans hll2).trans hll3).trans hll4).trans hll5).trans hll6).trans hll7)) ((q1i.le q0i).le (((((((hll0.trans hll1).trans hll2).trans hll3).trans hll4).trans hll5).trans hll6).trans hll7)) ((q1j.le q0i).le (((((((hll0.trans hll1).trans hll2).trans hll3).trans hll4).trans hll5).trans hll6).trans hll7)) ((q1k.le q0i).le (((((((hll0.trans hll1).trans hll2).trans hll3).trans hll4).trans hll5).trans hll6).trans hll7)) ((q1l.le q0i).le (((((((hll0.trans hll1).trans hll2).trans hll3).trans hll4).trans hll5).trans hll6).trans hll7)) (hlf0.le ((((((hll1.trans hll2).trans hll3).trans hll4).trans hll5).trans hll6).trans hll7)) (hlf1.le (((((hll2.trans hll3).trans hll4).trans hll5).trans hll6).trans hll7)) (hlf2.le ((((hll3.trans hll4).trans hll5).trans hll6).trans hll7)) (hlf3.le (((hll4.trans hll5).trans hll6).trans hll7)) (hlf4.le ((hll5.trans hll6).trans hll7)) (hlf5.le (hll6.trans hll7)) (hlf6.le hll7) hlf7 hS7
  refine o_cc call_19 (args1 rfl) hcall ?_
  rintro e w' ⟨q0k, q4n, c_y0_ret_17_1, q25, rfl, q0m, hS⟩
  refine ⟨_, rfl, ?_⟩
  replace hS := back7 (hS.pull 1)
  replace hS := back6 (hS.pull 1)
  replace hS := back5 (hS.pull 1)
  replace hS := back4 (hS.pull 1)
  replace hS := back3 (hS.pull 1)
  replace hS := back2 (hS.pull 1)
  replace hS := back1 (hS.pull 1)
  replace hS := back0 (hS.pull 1)
  replace q0m : RepL R_timing_End q2d q14.1 q25 := RepL.flat (fun h => h) q0m
  have e_ := St.vec_n (hS.pull 9) q0m; subst e_
  replace hF := bd_s hF; obtain ⟨q43, q50, hF⟩ := hF
  refine p (yl_move rfl) <| p (yl_extract rfl rfl) <| p (yl_extract rfl rfl) <| p (yl_assign rfl) <|
    p (yl_assign rfl) <| x_done <| x_seq <| x_seq <|
    x_region <|
    ?_
  have hcall := c_maskkeep4_times q50  (hS.pull 1)
  refine o_cc call_20 args0 ((Calls.mono hcall (fun e w'' h => And.intro h.1 ((((((((((((((h.2.pull 13).pull 13).pull 13).pull 13).pull 13).pull 13).pull 13).pull 13).pull 13).pull 13).pull 13).pull 13).pull 12).pull 13)))) ?_
  rintro e w' ⟨rfl, hS⟩
  refine ⟨_, rfl, ?_⟩
  replace hF := lv_s hF; obtain ⟨x78, hx78, hF⟩ := hF
  replace hF := lv_s hF; obtain ⟨x82, hx82, hF⟩ := hF
  replace hF := lv_s hF; obtain ⟨x89, hx89, hF⟩ := hF
  refine p (yl_not rfl) <| p (yl_move rfl) <| pg (v := .int .i64 q0w.2) 75 (c := !(!q43)) (says_f _) (fun hq => Yl.at (yl_move rfl)) <| pg (v := .bool (decide (q0w.2 ≠ 0))) 75 (c := !(!q43)) (says_f _) (fun hq => Yl.at (yl_neq (cv hq) rfl)) <|
    p (yor' rfl rfl (fun hc => (cv (t_not hc))) hx78) <| p (yl_move rfl) <| pg (v := .int .i64 q14.2) 79 (c := !x78) (says_f _) (fun hq => Yl.at (yl_move rfl)) <| pg (v := .bool (decide (q14.2 ≠ 0))) 79 (c := !x78) (says_f _) (fun hq => Yl.at (yl_neq (cv hq) rfl)) <|
    p (yor' rfl rfl (fun hc => (cv (t_not hc))) hx82) <| p (yl_move rfl) <| pg (v := .slice q0j q0w.1.length c_y0_ret_16_1) 83 (c := !x82) (says_f _) (fun hq => Yl.at (yl_move rfl)) <| pg (v := .int .i64 (q0w.1.length : Int)) 83 (c := !x82) (says_f _) (fun hq => Yl.at (yl_len_slice usl_61 (cv hq))) <|
    pg (v := .slice q0k q14.1.length c_y0_ret_17_1) 83 (c := !x82) (says_f _) (fun hq => Yl.at (yl_move rfl)) <| pg (v := .int .i64 (q14.1.length : Int)) 83 (c := !x82) (says_f _) (fun hq => Yl.at (yl_len_slice usl_61 (cv hq))) <| pg (v := .bool (decide ((q0w.1.length : Int) ≠ (q14.1.length : Int)))) 83 (c := !x82) (says_f _) (fun hq => Yl.at (yl_neq (cv hq) (cv hq))) <| p (yor' rfl rfl (fun hc => (cv (t_not hc))) hx89) <|
    x_done <|
    x_cond (t := x89) rfl (fun hc89 => ?_) (fun hc89 => ?_)
  · replace hF := it_t hc89 hF
    refine x_seq <| x_region <| p (yl_assign rfl) <| x_done <|
      ?_
    have e_ := Option.some.inj (show some _ = some _ from hF); subst e_
    exact x_return ⟨_, ⟨_, _, rfl, rfl, rfl⟩, rfl, (ro_back0 (q2c.trans q0i) (((((((((((((hS.drop.pull 1).drop.pull 1).drop.pull 1).drop.pull 1).drop.pull 1).drop.pull 1).drop.pull 1).drop.pull 1).drop.pull 1).drop.pull 1).drop.pull 1).drop.pull 1).drop))⟩
  · replace hF := it_bf hc89 hF
    refine x_skip <| x_seq <| x_seq <| x_region <|
      p (yl_move rfl) <| p (yl_len_slice usl_61 rfl) <| p (yl_move rfl) <| x_done <|
      ?_
    replace hF := bs_s hF; obtain ⟨oL21, hLL21, hF⟩ := hF
    refine x_join (fun E w => (Sum.inl (())) = oL21 ∧ St w0 w (ro q2d :: l)) ?_ ?_
    · skip -- L21
      refine x_block ?_
      refine x_loop (fun k_ E w => ∃ (q0b : Int), lp (P_maskkeep4_TimingWider_L21 q0w q14) k_ q0b = some oL21 ∧ E 11 = .slice q0j q0w.1.length c_y0_ret_16_1 ∧ E 13 = .slice q0k q14.1.length c_y0_ret_17_1 ∧ E 91 = .int .i64 (q0w.1.length : Int) ∧ E 92 = .int .i64 q0b ∧ St w0 w (vec 67 R_timing_End.sz (.slice q0j q0w.1.length c_y0_ret_16_1) q0w.1.length q24 :: vec 67 R_timing_End.sz (.slice q0k q14.1.length c_y0_ret_17_1) q14.1.length q25 :: ro q2d :: l)) fuel ⟨0, hLL21, rfl, rfl, rfl, rfl, ((((((((((((hS.drop.pull 1).drop.pull 1).drop.pull 1).drop.pull 1).drop.pull 1).drop.pull 1).drop.pull 1).drop.pull 2).drop.pull 3).drop.pull 3).drop.pull 1).pull 2)⟩ ?_
      rintro kL21 E w ⟨q0b, hLL21, q2a, q2b, q3a, q2t, hS⟩
      replace hLL21 := lp_s hLL21; obtain ⟨kL21, obL21, rfl, hFL21, hLL21⟩ := hLL21
      refine x_seq <| x_region <| p (yl_lss q2t q3a) <| x_done <|
        x_seq <|
        x_cond_p (q0b < (q0w.1.length : Int)) rfl (fun hc93 => ?_) (fun hc93 => ?_)
      · replace hFL21 := it_t hc93 hFL21
        replace hFL21 := ck_s hFL21; obtain ⟨q3s, hFL21⟩ := hFL21
        replace hFL21 := lv_s hFL21; obtain ⟨q1a, q51, hFL21⟩ := hFL21
        have q_ := q0l.get q3s; obtain ⟨q5c, q3t, q52⟩ := q_
        rw [← q51] at q3t
        have e_ := q3t; subst e_
        replace hFL21 := ck_s hFL21; obtain ⟨q3u, hFL21⟩ := hFL21
        replace hFL21 := lv_s hFL21; obtain ⟨q15, q4k, hFL21⟩ := hFL21
        have q_ := q0m.get q3u; obtain ⟨q5a, q3g, q4l⟩ := q_
        rw [← q4k] at q3g
        have e_ := q3g; subst e_
        replace hFL21 := ck_s hFL21; obtain ⟨q3h, hFL21⟩ := hFL21
        replace hFL21 := ck_s hFL21; obtain ⟨q3i, hFL21⟩ := hFL21
        replace hFL21 := lv_s hFL21; obtain ⟨x122, hx122, hFL21⟩ := hFL21
        replace hFL21 := ck_s hFL21; obtain ⟨q3j, hFL21⟩ := hFL21
        replace hFL21 := ck_s hFL21; obtain ⟨q3k, hFL21⟩ := hFL21
        replace hFL21 := lv_s hFL21; obtain ⟨x137, hx137, hFL21⟩ := hFL21
        refine x_skip <| x_seq <| x_block <| x_seq <|
          x_region <| p (yl_move q2t) <| p (yl_assign rfl) <| x_done <|
          x_seq <| x_still mixed (by kernel_rfl) hS <| q (yl_move q2a) <| q (yl_move rfl) <|
          q (yix_o sl_61 rfl rfl hS q0l q3s) <| q (yl_fieldAddr fld_67_2 rfl) <| q (yl_fieldE fld_65_0 rfl) <| qa (fun w' hS => at_load one_4 rfl (EltV.ld (m := 2) q52 hS rfl)) <|
          q (yl_move q2b) <| q (yl_move rfl) <| q (yix_o sl_61 rfl rfl (hS.pull 1) q0m q3u) <| q (yl_fieldAddr fld_67_2 rfl) <|
          q (yl_fieldE fld_65_0 rfl) <| qa (fun w' hS => at_load one_4 rfl (EltV.ld (m := 2) q4l (hS.pull 1) rfl)) <| q (yneb ub_4 rfl rfl) <| q (yl_move rfl) <|
          qg (v := .slice q0k q14.1.length c_y0_ret_17_1) 108 (c := !(!(q1a.Setup.Known == q15.Setup.Known))) (says_f _) (fun hq w' hS => Yl.at (yl_move q2b)) <| qg (v := .int .i64 q0b) 108 (c := !(!(q1a.Setup.Known == q15.Setup.Known))) (says_f _) (fun hq w' hS => Yl.at (yl_move rfl)) <| qg (v := .pointer (some ((adr q0k).add (q0b.toNat * R_timing_End.sz)))) 108 (c := !(!(q1a.Setup.Known == q15.Setup.Known))) (says_f _) (fun hq w' hS => Yl.at (yix_o sl_61 (cv hq) (cv hq) (hS.pull 1) q0m (q3h hq))) <| qg (v := .pointer (some (((adr q0k).add (q0b.toNat * R_timing_End.sz)).add 2))) 108 (c := !(!(q1a.Setup.Known == q15.Setup.Known))) (says_f _) (fun hq w' hS => Yl.at (yl_fieldAddr fld_67_2 (cv hq))) <|
          qg (v := .pointer (some (((adr q0k).add (q0b.toNat * R_timing_End.sz)).add 3))) 108 (c := !(!(q1a.Setup.Known == q15.Setup.Known))) (says_f _) (fun hq w' hS => Yl.at (yl_fieldE fld_65_1 (cv hq))) <| qg (v := .int .i64 ((gt q14.1 q0b).Setup.Value)) 108 (c := !(!(q1a.Setup.Known == q15.Setup.Known))) (says_f _) (fun hq w' hS => (by obtain ⟨el, ek, ee⟩ := q0m.get (q3h hq); obtain rfl := ek; exact at_load one_3 (cv hq) (EltV.ld (m := 3) ee (hS.pull 1) rfl))) <| qg (v := .slice q0j q0w.1.length c_y0_ret_16_1) 108 (c := !(!(q1a.Setup.Known == q15.Setup.Known))) (says_f _) (fun hq w' hS => Yl.at (yl_move q2a)) <| qg (v := .int .i64 q0b) 108 (c := !(!(q1a.Setup.Known == q15.Setup.Known))) (says_f _) (fun hq w' hS => Yl.at (yl_move rfl)) <|
          qg (v := .pointer (some ((adr q0j).add (q0b.toNat * R_timing_End.sz)))) 108 (c := !(!(q1a.Setup.Known == q15.Setup.Known))) (says_f _) (fun hq w' hS => Yl.at (yix_o sl_61 (cv hq) (cv hq) hS q0l (q3i hq))) <| qg (v := .pointer (some (((adr q0j).add (q0b.toNat * R_timing_End.sz)).add 2))) 108 (c := !(!(q1a.Setup.Known == q15.Setup.Known))) (says_f _) (fun hq w' hS => Yl.at (yl_fieldAddr fld_67_2 (cv hq))) <| qg (v := .pointer (some (((adr q0j).add (q0b.toNat * R_timing_End.sz)).add 3))) 108 (c := !(!(q1a.Setup.Known == q15.Setup.Known))) (says_f _) (fun hq w' hS => Yl.at (yl_fieldE fld_65_1 (cv hq))) <| qg (v := .int .i64 ((gt q0w.1 q0b).Setup.Value)) 108 (c := !(!(q1a.Setup.Known == q15.Setup.Known))) (says_f _) (fun hq w' hS => (by obtain ⟨el, ek, ee⟩ := q0l.get (q3i hq); obtain rfl := ek; exact at_load one_3 (cv hq) (EltV.ld (m := 3) ee hS rfl))) <|
          qg (v := .bool (decide (((gt q0w.1 q0b).Setup.Value) < ((gt q14.1 q0b).Setup.Value)))) 108 (c := !(!(q1a.Setup.Known == q15.Setup.Known))) (says_f _) (fun hq w' hS => Yl.at (yl_gtr (cv hq) (cv hq))) <| q (yor' rfl rfl (fun hc => (cv (t_not hc))) hx122) <| q (yl_move rfl) <| qg (v := .slice q0k q14.1.length c_y0_ret_17_1) 123 (c := !x122) (says_f _) (fun hq w' hS => Yl.at (yl_move q2b)) <|
          qg (v := .int .i64 q0b) 123 (c := !x122) (says_f _) (fun hq w' hS => Yl.at (yl_move rfl)) <| qg (v := .pointer (some ((adr q0k).add (q0b.toNat * R_timing_End.sz)))) 123 (c := !x122) (says_f _) (fun hq w' hS => Yl.at (yix_o sl_61 (cv hq) (cv hq) (hS.pull 1) q0m (q3j hq))) <| qg (v := .pointer (some (((adr q0k).add (q0b.toNat * R_timing_End.sz)).add 5))) 123 (c := !x122) (says_f _) (fun hq w' hS => Yl.at (yl_fieldAddr fld_67_3 (cv hq))) <| qg (v := .pointer (some (((adr q0k).add (q0b.toNat * R_timing_End.sz)).add 6))) 123 (c := !x122) (says_f _) (fun hq w' hS => Yl.at (yl_fieldE fld_65_1 (cv hq))) <|
          qg (v := .int .i64 ((gt q14.1 q0b).Hold.Value)) 123 (c := !x122) (says_f _) (fun hq w' hS => (by obtain ⟨el, ek, ee⟩ := q0m.get (q3j hq); obtain rfl := ek; exact at_load one_3 (cv hq) (EltV.ld (m := 6) ee (hS.pull 1) rfl))) <| qg (v := .slice q0j q0w.1.length c_y0_ret_16_1) 123 (c := !x122) (says_f _) (fun hq w' hS => Yl.at (yl_move q2a)) <| qg (v := .int .i64 q0b) 123 (c := !x122) (says_f _) (fun hq w' hS => Yl.at (yl_move rfl)) <| qg (v := .pointer (some ((adr q0j).add (q0b.toNat * R_timing_End.sz)))) 123 (c := !x122) (says_f _) (fun hq w' hS => Yl.at (yix_o sl_61 (cv hq) (cv hq) hS q0l (q3k hq))) <|
          qg (v := .pointer (some (((adr q0j).add (q0b.toNat * R_timing_End.sz)).add 5))) 123 (c := !x122) (says_f _) (fun hq w' hS => Yl.at (yl_fieldAddr fld_67_3 (cv hq))) <| qg (v := .pointer (some (((adr q0j).add (q0b.toNat * R_timing_End.sz)).add 6))) 123 (c := !x122) (says_f _) (fun hq w' hS => Yl.at (yl_fieldE fld_65_1 (cv hq))) <| qg (v := .int .i64 ((gt q0w.1 q0b).Hold.Value)) 123 (c := !x122) (says_f _) (fun hq w' hS => (by obtain ⟨el, ek, ee⟩ := q0l.get (q3k hq); obtain rfl := ek; exact at_load one_3 (cv hq) (EltV.ld (m := 6) ee hS rfl))) <| qg (v := .bool (decide (((gt q0w.1 q0b).Hold.Value) < ((gt q14.1 q0b).Hold.Value)))) 123 (c := !x122) (says_f _) (fun hq w' hS => Yl.at (yl_gtr (cv hq) (cv hq))) <|
          q (yor' rfl rfl (fun hc => (cv (t_not hc))) hx137) <|
          q_done fun w' hS => ?_
        refine x_cond (t := x137) rfl (fun hc137 => ?_) (fun hc137 => ?_)
        · replace hFL21 := it_t hc137 hFL21
          refine x_seq <| x_region <| p (yl_assign rfl) <| x_done <|
            ?_
          have e_ := Option.some.inj (show some _ = some _ from hFL21); subst e_
          have e_ := (show _ = oL21 from hLL21); subst e_
          have e_ := Option.some.inj (show some _ = some _ from hF); subst e_
          exact x_return ⟨_, ⟨_, _, rfl, rfl, rfl⟩, rfl, (ro_back0 (q2c.trans q0i) hS.drop.drop)⟩
        · replace hFL21 := it_bf hc137 hFL21
          replace hFL21 := ar_s hFL21; obtain ⟨x138, hx138, hFL21⟩ := hFL21
          refine x_skip <| x_blk <| x_region <| p (yadd q2t rfl hx138) <|
            p (yl_move rfl) <| x_done <|
            ?_
          have e_ := Option.some.inj (show some _ = some _ from hFL21); subst e_
          exact x_inv ⟨kL21, Nat.lt_succ_self _, x138, hLL21, q2a, q2b, q3a, rfl, (((hS.pull 2).pull 2).pull 2)⟩
      · replace hFL21 := it_f hc93 hFL21
        refine x_exitTo _ rfl <|
          ?_
        have e_ := Option.some.inj (show some _ = some _ from hFL21); subst e_
        exact x_inv ⟨hLL21, hS.drop.drop⟩
    rintro E w ⟨rfl, hS⟩
    refine x_seq <| x_region <| p (yl_assign rfl) <| x_done <|
      ?_
    have e_ := Option.some.inj (show some _ = some _ from hF); subst e_
    exact x_return ⟨_, ⟨_, _, rfl, rfl, rfl⟩, rfl, (ro_back0 (q2c.trans q0i) hS)⟩
attribute [irreducible] P_maskkeep4_TimingWider


end Go.Proofs.YtlolchgeedegdaaDoor.X
