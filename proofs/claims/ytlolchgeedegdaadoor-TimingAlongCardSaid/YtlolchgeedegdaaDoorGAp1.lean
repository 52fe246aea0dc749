/- Printed by gen.py: plain functions, and that the Go code computes them. -/
import Derived.Test.YtlolchgeedegdaaDoorXI
import Derived.Test.YtlolchgeedegdaaDoorXT
import Derived.Test.YtlolchgeedegdaaDoorGAp0
namespace Go.Proofs.YtlolchgeedegdaaDoor.X
open Go Go.RowKit
set_option linter.unusedVariables false
set_option linter.unusedSimpArgs false

def P_maskmake_Stream_Delays_L7 (s0 : T_maskmake_Stream) (most2 : Int) (q7 : T_api_Gate) : (List T_tree_Window × Int × Int) → Option ((List T_tree_Window × Int × Int) ⊕ (List T_tree_Window × Int)) := fun (q3, q4, q2) =>
 if q4 < (q7.Ins.length : Int) then
  bd (P_maskmake_Stream_window (T_maskmake_Stream.mk s0.L q2) most2) fun q5 =>
  lv (q3 ++ [q5.1]) fun q6 =>
  ck (apOk 16 q6.length) <|
  ar (q4 + 1) fun x32 =>
  some (Sum.inl (q6, x32, q5.2))
 else
  some (Sum.inr (q3, q2))
def P_maskmake_Stream_Delays_L3 (s0 : T_maskmake_Stream) (n1 : T_api_Netlist) (most2 : Int) : (Int × Int × List (List T_tree_Window)) → Option ((Int × Int × List (List T_tree_Window)) ⊕ (Int × List (List T_tree_Window))) := fun (q2, q3, q4) =>
 if q2 < (n1.Gates.length : Int) then
  ck (inb q2 n1.Gates.length) <|
  lv (gt n1.Gates q2) fun q8 =>
  bd (
   lp (P_maskmake_Stream_Delays_L7 s0 most2 q8) fuel ([], 0, q3)) fun (q7, q5) =>
  lv (q4 ++ [q7]) fun q6 =>
  ck (apOk 24 q6.length) <|
  ar (q2 + 1) fun x39 =>
  some (Sum.inl (x39, q5, q6))
 else
  some (Sum.inr (q3, q4))
def P_maskmake_Stream_Delays_L13 (s0 : T_maskmake_Stream) (n1 : T_api_Netlist) (most2 : Int) : (Int × Int × List (List T_tree_Window) × List T_tree_Window × List T_tree_Window) → Option ((Int × Int × List (List T_tree_Window) × List T_tree_Window × List T_tree_Window) ⊕ (Int × List (List T_tree_Window) × List T_tree_Window × List T_tree_Window)) := fun (q2, q3, q4, q5, q6) =>
 if q2 < (n1.Flops.length : Int) then
  ck (inb q2 n1.Flops.length) <|
  lv (gt n1.Flops q2) fun q0h =>
  bd (P_maskmake_Stream_window (T_maskmake_Stream.mk s0.L q3) most2) fun q7 =>
  bd (
   if q0h.En ≠ 1 then
    bd (P_maskmake_Stream_window (T_maskmake_Stream.mk s0.L q7.2) most2) fun q0b =>
    lv (([q7.1] : List T_tree_Window) ++ [q0b.1]) fun q0c =>
    ck (apOk 16 q0c.length) <|
    some (q0c, q0b.2)
   else
    some (([q7.1] : List T_tree_Window), q7.2)) fun (q0g, q8) =>
  lv (q4 ++ [q0g]) fun q0d =>
  ck (apOk 24 q0d.length) <|
  bd (P_maskmake_Stream_window (T_maskmake_Stream.mk s0.L q8) most2) fun q0e =>
  lv (q5 ++ [q0e.1]) fun q0f =>
  ck (apOk 16 q0f.length) <|
  bd (P_maskmake_Stream_window (T_maskmake_Stream.mk s0.L q0e.2) most2) fun q9 =>
  lv (q6 ++ [q9.1]) fun q0a =>
  ck (apOk 16 q0a.length) <|
  ar (q2 + 1) fun x82 =>
  some (Sum.inl (x82, q9.2, q0d, q0f, q0a))
 else
  some (Sum.inr (q3, q4, q5, q6))
def P_maskmake_Stream_Delays_L22 (s0 : T_maskmake_Stream) (n1 : T_api_Netlist) (most2 : Int) : (Int × Int × List T_tree_Window) → Option ((Int × Int × List T_tree_Window) ⊕ (List T_tree_Window × Int)) := fun (q4, q2, q3) =>
 if q4 < (n1.Outs.length : Int) then
  bd (P_maskmake_Stream_window (T_maskmake_Stream.mk s0.L q2) most2) fun q5 =>
  lv (q3 ++ [q5.1]) fun q6 =>
  ck (apOk 16 q6.length) <|
  ar (q4 + 1) fun x96 =>
  some (Sum.inl (x96, q5.2, q6))
 else
  some (Sum.inr (q3, q2))
def P_maskmake_Stream_Delays (s0 : T_maskmake_Stream) (n1 : T_api_Netlist) (most2 : Int) : Option (T_delay_Delays × Int) :=
 bd (
  lp (P_maskmake_Stream_Delays_L3 s0 n1 most2) fuel (0, s0.fat, [])) fun (q4, q9) =>
 bd (
  lp (P_maskmake_Stream_Delays_L13 s0 n1 most2) fuel (0, q4, [], [], [])) fun (q2, q5, q6, q7) =>
 bd (
  lp (P_maskmake_Stream_Delays_L22 s0 n1 most2) fuel (0, q2, [])) fun (q8, q3) =>
 some ((T_delay_Delays.mk q9 q5 q8 q6 q7), q3)
set_option maxHeartbeats 4000000 in
set_option maxRecDepth 100000 in
theorem c_maskmake_Stream_Delays {w0 w : World} {l : List Assn} {ρ : Heap} {q0b : Nat} {q0i : Option Addr} {q4l : Nat} {c_s0_0 : Nat} {q19 : Option Addr} {q59 : Nat} {c_n1_0 : Nat} {q1a : Option Addr} {q5a : Nat} {c_n1_1 : Nat} {q10 : Option Addr} {q5b : Nat} {c_n1_2 : Nat} {q0u : Option Addr} {q5c : Nat} {c_n1_3 : Nat} {q1b : Option Addr} {q5d : Nat} {c_n1_4 : Nat} {s0 : T_maskmake_Stream} {n1 : T_api_Netlist} {most2 : Int} {r : (T_delay_Delays × Int)} (hF : P_maskmake_Stream_Delays s0 n1 most2 = some r) (q26 : RdS (RpI .i64) ρ q0i q4l c_s0_0 s0.L) (q64 : RdS RpS ρ q19 q59 c_n1_0 n1.In) (q65 : RdS RpS ρ q1a q5a c_n1_1 n1.Out) (q4m : RdS R_api_Flop ρ q10 q5b c_n1_2 n1.Flops) (q4n : RdS R_api_Gate ρ q0u q5c c_n1_3 n1.Gates) (q66 : RdS (RpI .i64) ρ q1b q5d c_n1_4 n1.Outs) (hS : St w0 w (cells q0b 25 [.slice q0i q4l c_s0_0, .int .i64 s0.fat] :: ro ρ :: l)) :
  Calls Tryd.prog 57 #[.pointer (some ⟨q0b, 0, none⟩), .agg #[.slice q19 q59 c_n1_0, .slice q1a q5a c_n1_1, .slice q10 q5b c_n1_2, .slice q0u q5c c_n1_3, .slice q1b q5d c_n1_4], .int .i64 most2] w fun e w' => ∃ (ρ' : Heap) (q44 : Option Addr) (q2v : Nat) (c_y0_ret_0 : Nat) (q3s : List Value) (q45 : Option Addr) (q2w : Nat) (c_y0_ret_1 : Nat) (q3t : List Value) (q46 : Option Addr) (q2x : Nat) (c_y0_ret_2 : Nat) (q3u : List Value) (q47 : Option Addr) (q2y : Nat) (c_y0_ret_3 : Nat) (q3v : List Value) (q48 : Option Addr) (q2z : Nat) (c_y0_ret_4 : Nat) (q3w : List Value), e = .returned (.agg #[.slice q44 q2v c_y0_ret_0, .slice q45 q2w c_y0_ret_1, .slice q46 q2x c_y0_ret_2, .slice q47 q2y c_y0_ret_3, .slice q48 q2z c_y0_ret_4]) ∧ Le ρ ρ' ∧ RepL (RpSl R_tree_Window) ρ' r.1.Gates q3s ∧ RepL (RpSl R_tree_Window) ρ' r.1.Data q3t ∧ RepL R_tree_Window ρ' r.1.Outs q3u ∧ RepL R_tree_Window ρ' r.1.Clock q3v ∧ RepL R_tree_Window ρ' r.1.Launch q3w ∧ St w0 w' (vec 49 (RpSl R_tree_Window).sz (.slice q44 q2v c_y0_ret_0) q2v q3s :: vec 49 (RpSl R_tree_Window).sz (.slice q45 q2w c_y0_ret_1) q2w q3t :: vec 70 R_tree_Window.sz (.slice q46 q2x c_y0_ret_2) q2x q3u :: vec 70 R_tree_Window.sz (.slice q47 q2y c_y0_ret_3) q2y q3v :: vec 70 R_tree_Window.sz (.slice q48 q2z c_y0_ret_4) q2z q3w :: cells q0b 25 [.slice q0i q4l c_s0_0, .int .i64 r.2] :: ro ρ' :: l) := by
 have e_ := q26.n; subst e_
 have e_ := q64.n; subst e_
 have e_ := q65.n; subst e_
 have e_ := q4m.n; subst e_
 have e_ := q4n.n; subst e_
 have e_ := q66.n; subst e_
 refine enterC Tryd.func57 rfl 98 rfl (by simp) ?_
 refine x_seq <| x_region <| ?_
 refine o_box (cs := [.slice q19 n1.In.length c_n1_0, .slice q1a n1.Out.length c_n1_1, .slice q10 n1.Flops.length c_n1_2, .slice q0u n1.Gates.length c_n1_3, .slice q1b n1.Outs.length c_n1_4]) rfl rfl hS (fun b4 w' hS => ?_)
 refine o_alloc zero_51 hS (fun b6 w' hS => ?_)
 refine x_done <| x_seq <| x_region <| ?_
 refine o_alloc zero_51 hS (fun b7 w' hS => ?_)
 refine x_done <| x_seq <| x_seq <| x_region <|
  p (yl_field0 fld_30_3 rfl) <| pa (at_load one_28 rfl ((hS.pull 2).cell rfl)) <| p (yl_len_slice usl_28 rfl) <| p (yl_move rfl) <|
  x_done <| ?_
 replace hF := bd_s hF; obtain ⟨oL3, hLL3, hF⟩ := hF
 refine x_join (fun E w => ∃ (q2g : Heap) (q2 : Option Addr) (q2a : Nat) (c_b7_0_L3 : Nat) (q0k : List Value) (q2b : Int) (q3 : List (List T_tree_Window)), (q2b, q3) = oL3 ∧ Le ρ q2g ∧ E 0 = .pointer (some ⟨q0b, 0, none⟩) ∧ E 2 = .int .i64 most2 ∧ E 4 = .pointer (some ⟨b4, 0, none⟩) ∧ E 6 = .pointer (some ⟨b6, 0, none⟩) ∧ E 7 = .pointer (some ⟨b7, 0, none⟩) ∧ RepL (RpSl R_tree_Window) q2g q3 q0k ∧ St w0 w (cells q0b 25 [.slice q0i s0.L.length c_s0_0, .int .i64 q2b] :: cells b4 30 [.slice q19 n1.In.length c_n1_0, .slice q1a n1.Out.length c_n1_1, .slice q10 n1.Flops.length c_n1_2, .slice q0u n1.Gates.length c_n1_3, .slice q1b n1.Outs.length c_n1_4] :: cells b6 51 [.slice none 0 0, .slice none 0 0, .slice none 0 0, .slice none 0 0, .slice none 0 0] :: cells b7 51 [.slice q2 q2a c_b7_0_L3, .slice none 0 0, .slice none 0 0, .slice none 0 0, .slice none 0 0] :: vec 49 (RpSl R_tree_Window).sz (.slice q2 q2a c_b7_0_L3) q2a q0k :: ro q2g :: l)) ?_ ?_
 ·refine x_block ?_
  replace hS := St.vec_nil hS 49 (RpSl R_tree_Window).sz
  have q49 : RepL (RpSl R_tree_Window) ρ [] [] := rfl
  refine x_loop (fun k_ E w => ∃ (q1i : Heap) (q0v : Option Addr) (q1w : Nat) (c_b7_0_L3h : Nat) (q16 : List Value) (q25 : Int) (q1j : Int) (q0r : List (List T_tree_Window)), lp (P_maskmake_Stream_Delays_L3 s0 n1 most2) k_ (q25, q1j, q0r) = some oL3 ∧ Le ρ q1i ∧ E 0 = .pointer (some ⟨q0b, 0, none⟩) ∧ E 2 = .int .i64 most2 ∧ E 4 = .pointer (some ⟨b4, 0, none⟩) ∧ E 6 = .pointer (some ⟨b6, 0, none⟩) ∧ E 7 = .pointer (some ⟨b7, 0, none⟩) ∧ E 15 = .slice q0u n1.Gates.length c_n1_3 ∧ E 16 = .int .i64 (n1.Gates.length : Int) ∧ E 17 = .int .i64 q25 ∧ RepL (RpSl R_tree_Window) q1i q0r q16 ∧ St w0 w (cells q0b 25 [.slice q0i s0.L.length c_s0_0, .int .i64 q1j] :: cells b4 30 [.slice q19 n1.In.length c_n1_0, .slice q1a n1.Out.length c_n1_1, .slice q10 n1.Flops.length c_n1_2, .slice q0u n1.Gates.length c_n1_3, .slice q1b n1.Outs.length c_n1_4] :: cells b6 51 [.slice none 0 0, .slice none 0 0, .slice none 0 0, .slice none 0 0, .slice none 0 0] :: cells b7 51 [.slice q0v q1w c_b7_0_L3h, .slice none 0 0, .slice none 0 0, .slice none 0 0, .slice none 0 0] :: vec 49 (RpSl R_tree_Window).sz (.slice q0v q1w c_b7_0_L3h) q1w q16 :: ro q1i :: l)) fuel ⟨ρ, none, 0, 0, [], 0, s0.fat, [], hLL3, (Le.refl _), rfl, rfl, rfl, rfl, rfl, rfl, rfl, rfl, q49, ((((((hS.pull 5).pull 1).pull 2).pull 3).pull 4).pull 5)⟩ ?_
  rintro kL3 E w ⟨q1i, q0v, q1w, c_b7_0_L3h, q16, q25, q1j, q0r, hLL3, q27, q5e, q5f, q5g, q5h, q5i, q4w, q4x, q4e, q30, hS⟩
  have e_ := St.vec_n (hS.pull 4) q30; subst e_
  replace hLL3 := lp_s hLL3; obtain ⟨kL3, obL3, rfl, hFL3, hLL3⟩ := hLL3
  refine x_seq <| x_region <| p (yl_lss q4e q4x) <| x_done <|
   x_seq <|
   x_cond_p (q25 < (n1.Gates.length : Int)) rfl (fun hc18 => ?_) (fun hc18 => ?_)
  ·replace hFL3 := it_t hc18 hFL3
   replace hFL3 := ck_s hFL3; obtain ⟨q5t, hFL3⟩ := hFL3
   replace hFL3 := lv_s hFL3; obtain ⟨q31, q74, hFL3⟩ := hFL3
   have q_ := q4n.get q5t; obtain ⟨q7j, q5u, q75⟩ := q_
   rw [← q74] at q5u
   obtain ⟨q5j, q7h, q5k, rfl, q67⟩ := q5u
   have e_ := q67.n; subst e_
   refine x_skip <| x_seq <| x_block <| x_seq <|
    x_region <| p (yix_f sl_28 q4w q4e (q4n.le q27) q5t) <| pa (v := .agg #[.int .i64 q31.Cell, .int .u64 q31.Table, .slice q5j q31.Ins.length q5k]) (at_loadAgg agg_38 rfl rfl (Elt.every (Elt.le q75 q27) (hS.pull 5))) <| ?_
   refine o_alloc zero_38 hS (fun b9 w' hS => ?_)
   refine o_storeAgg (news := [.int .i64 q31.Cell, .int .u64 q31.Table, .slice q5j q31.Ins.length q5k]) agg_38 rfl rfl rfl (by simp [over_length]) hS (fun w' hS => ?_)
   refine x_done <| x_seq <| x_region <| p (yl_assign rfl) <|
    x_done <| x_seq <| x_seq <| x_region <|
    p (yl_field0 fld_38_2 rfl) <| pa (at_load one_22 rfl (hS.cell rfl)) <| p (yl_len_slice usl_22 rfl) <| p (yl_move rfl) <|
    x_done <| ?_
   replace hFL3 := bd_s hFL3; obtain ⟨oL7, hLL7, hFL3⟩ := hFL3
   refine x_join (fun E w => ∃ (q1g : Option Addr) (q32 : Nat) (c_l10_L7 : Nat) (q37 : List Value) (q1v : List T_tree_Window) (q2c : Int), (q1v, q2c) = oL7 ∧ E 0 = .pointer (some ⟨q0b, 0, none⟩) ∧ E 2 = .int .i64 most2 ∧ E 4 = .pointer (some ⟨b4, 0, none⟩) ∧ E 6 = .pointer (some ⟨b6, 0, none⟩) ∧ E 7 = .pointer (some ⟨b7, 0, none⟩) ∧ E 10 = .slice q1g q32 c_l10_L7 ∧ E 15 = .slice q0u n1.Gates.length c_n1_3 ∧ E 16 = .int .i64 (n1.Gates.length : Int) ∧ E 17 = .int .i64 q25 ∧ RepL R_tree_Window q1i q1v q37 ∧ St w0 w (cells q0b 25 [.slice q0i s0.L.length c_s0_0, .int .i64 q2c] :: cells b4 30 [.slice q19 n1.In.length c_n1_0, .slice q1a n1.Out.length c_n1_1, .slice q10 n1.Flops.length c_n1_2, .slice q0u n1.Gates.length c_n1_3, .slice q1b n1.Outs.length c_n1_4] :: cells b6 51 [.slice none 0 0, .slice none 0 0, .slice none 0 0, .slice none 0 0, .slice none 0 0] :: cells b7 51 [.slice q0v q0r.length c_b7_0_L3h, .slice none 0 0, .slice none 0 0, .slice none 0 0, .slice none 0 0] :: vec 70 R_tree_Window.sz (.slice q1g q32 c_l10_L7) q32 q37 :: vec 49 (RpSl R_tree_Window).sz (.slice q0v q0r.length c_b7_0_L3h) q0r.length q16 :: ro q1i :: l)) ?_ ?_
   ·refine x_block ?_
    replace hS := St.vec_nil hS 70 R_tree_Window.sz
    have q4f : RepL R_tree_Window q1i [] [] := rfl
    refine x_loop (fun k_ E w => ∃ (q2d : Option Addr) (q2e : Nat) (c_l10_L7h : Nat) (q1x : List Value) (q2m : List T_tree_Window) (q39 : Int) (q1y : Int), lp (P_maskmake_Stream_Delays_L7 s0 most2 q31) k_ (q2m, q39, q1y) = some oL7 ∧ E 0 = .pointer (some ⟨q0b, 0, none⟩) ∧ E 2 = .int .i64 most2 ∧ E 4 = .pointer (some ⟨b4, 0, none⟩) ∧ E 6 = .pointer (some ⟨b6, 0, none⟩) ∧ E 7 = .pointer (some ⟨b7, 0, none⟩) ∧ E 10 = .slice q2d q2e c_l10_L7h ∧ E 15 = .slice q0u n1.Gates.length c_n1_3 ∧ E 16 = .int .i64 (n1.Gates.length : Int) ∧ E 17 = .int .i64 q25 ∧ E 23 = .int .i64 (q31.Ins.length : Int) ∧ E 24 = .int .i64 q39 ∧ RepL R_tree_Window q1i q2m q1x ∧ St w0 w (cells q0b 25 [.slice q0i s0.L.length c_s0_0, .int .i64 q1y] :: cells b4 30 [.slice q19 n1.In.length c_n1_0, .slice q1a n1.Out.length c_n1_1, .slice q10 n1.Flops.length c_n1_2, .slice q0u n1.Gates.length c_n1_3, .slice q1b n1.Outs.length c_n1_4] :: cells b6 51 [.slice none 0 0, .slice none 0 0, .slice none 0 0, .slice none 0 0, .slice none 0 0] :: cells b7 51 [.slice q0v q0r.length c_b7_0_L3h, .slice none 0 0, .slice none 0 0, .slice none 0 0, .slice none 0 0] :: vec 70 R_tree_Window.sz (.slice q2d q2e c_l10_L7h) q2e q1x :: vec 49 (RpSl R_tree_Window).sz (.slice q0v q0r.length c_b7_0_L3h) q0r.length q16 :: ro q1i :: l)) fuel ⟨none, 0, 0, [], [], 0, q1j, hLL7, q5e, q5f, q5g, q5h, q5i, rfl, q4w, q4x, q4e, rfl, rfl, q4f, ((((((((hS.pull 1).drop.pull 6).pull 6).pull 2).pull 6).pull 6).pull 6).pull 6)⟩ ?_
    rintro kL7 E w ⟨q2d, q2e, c_l10_L7h, q1x, q2m, q39, q1y, hLL7, q4o, q4p, q5l, q5m, q5n, q4y, q4z, q50, q51, q52, q53, q38, hS⟩
    have e_ := St.vec_n (hS.pull 4) q38; subst e_
    replace hLL7 := lp_s hLL7; obtain ⟨kL7, obL7, rfl, hFL7, hLL7⟩ := hLL7
    refine x_seq <| x_region <| p (yl_lss q53 q52) <| x_done <|
     x_seq <|
     x_cond_p (q39 < (q31.Ins.length : Int)) rfl (fun hc25 => ?_) (fun hc25 => ?_)
    ·replace hFL7 := it_t hc25 hFL7
     replace hFL7 := bd_s hFL7; obtain ⟨q2h, q76, hFL7⟩ := hFL7
     refine x_skip <| x_seq <| x_block <| x_region <|
      p (yl_move q4y) <| p (yl_move q4o) <| p (yl_move q4p) <| ?_
     have hcall := c_maskmake_Stream_window q76 (q26.le q27) ((hS.pull 6).pull 1)
     refine o_cc call_72 (args2 rfl rfl) hcall ?_
     rintro e w' ⟨rfl, hS⟩
     refine ⟨_, rfl, ?_⟩
     refine o_buildSlice (vs := [.agg #[.int .i64 q2h.1.Lo, .int .i64 q2h.1.Hi]]) (cs := [.int .i64 q2h.1.Lo, .int .i64 q2h.1.Hi]) sl_49 zero_70 (parts_eq (pt (va := .agg #[.int .i64 q2h.1.Lo, .int .i64 q2h.1.Hi]) rfl pt0)) rfl (by intro v hv; simp only [List.mem_cons, List.not_mem_nil, or_false] at hv; first | (subst hv; rfl) | (rcases hv with rfl <;> rfl)) (by decide) rfl hS (fun b30 w' hS => ?_)
     replace hFL7 := lv_s hFL7; obtain ⟨q68, q77, hFL7⟩ := hFL7
     replace hFL7 := ck_s hFL7; obtain ⟨q78, hFL7⟩ := hFL7
     refine o_ap sl_49 zero_70 rfl (by decide) rfl rfl (hS.pull 6) q38 (src_blk usl_49 hS rfl rfl) (RepL.cons (R := R_tree_Window) (ρ := q1i) (x := q2h.1) (cs := [.int .i64 q2h.1.Lo, .int .i64 q2h.1.Hi]) rfl RepL.nil) q77 q78 (fun A31 c31 cs31 w' hr31 hS => ?_)
     replace hFL7 := ar_s hFL7; obtain ⟨x32, hx32, hFL7⟩ := hFL7
     refine p (yl_assign rfl) <| x_done <| x_blk <| x_region <|
      p (yadd q53 rfl hx32) <| p (yl_move rfl) <| x_done <| ?_
     have e_ := Option.some.inj (show some _ = some _ from hFL7); subst e_
     exact x_inv ⟨kL7, Nat.lt_succ_self _, A31, q68.length, c31, cs31, q68, x32, q2h.2, hLL7, q4o, q4p, q5l, q5m, q5n, rfl, q4z, q50, q51, q52, rfl, hr31, ((((((((hS.pull 1).drop.pull 2).pull 6).pull 2).pull 6).pull 6).pull 6).pull 6)⟩
    ·replace hFL7 := it_f hc25 hFL7
     refine x_exitTo _ rfl <| ?_
     have e_ := Option.some.inj (show some _ = some _ from hFL7); subst e_
     exact x_inv ⟨q2d, q2m.length, c_l10_L7h, q1x, q2m, q1y, hLL7, q4o, q4p, q5l, q5m, q5n, q4y, q4z, q50, q51, q38, (((((((hS.pull 6).pull 6).pull 6).pull 6).pull 6).pull 6).pull 6)⟩
   rintro E w ⟨q1g, q32, c_l10_L7, q37, q1v, q2c, rfl, q79, q7a, q7b, q7c, q57, q69, q6a, q6b, q6c, q4q, hS⟩
   have e_ := St.vec_n (hS.pull 4) q4q; subst e_
   refine x_region <| p (yl_field0 fld_51_0 q57) <| pa (at_load one_48 rfl ((hS.pull 3).cell rfl)) <| p (yl_move q69) <| ?_
   have q_ := St.vec_fz ((hS.pull 6).pull 5) q4q; obtain ⟨q5o, q4r, q6d, hS⟩ := q_
   refine o_buildSlice (vs := [.slice q1g q1v.length c_l10_L7]) (cs := [.slice q1g q1v.length c_l10_L7]) sl_48 zero_49 (parts_eq (pt (va := .slice q1g q1v.length c_l10_L7) rfl pt0)) rfl (by intro v hv; simp only [List.mem_cons, List.not_mem_nil, or_false] at hv; first | (subst hv; rfl) | (rcases hv with rfl <;> rfl)) (by decide) rfl hS (fun b36 w' hS => ?_)
   replace hFL3 := lv_s hFL3; obtain ⟨q58, q6e, hFL3⟩ := hFL3
   replace hFL3 := ck_s hFL3; obtain ⟨q6f, hFL3⟩ := hFL3
   refine o_ap sl_48 zero_49 rfl (by decide) rfl rfl (hS.pull 6) (q30.le q4r) (src_blk usl_48 hS rfl rfl) (RepL.cons (R := (RpSl R_tree_Window)) (ρ := q5o) (x := q1v) (cs := [.slice q1g q1v.length c_l10_L7]) ⟨_, _, _, rfl, q6d⟩ RepL.nil) q6e q6f (fun A37 c37 cs37 w' hr37 hS => ?_)
   refine p (yl_field0 fld_51_0 q57) <| ?_
   refine o_store1 (v := .slice A37 q58.length c37) one_48 rfl rfl rfl rfl (hS.pull 6) (fun w' hS => ?_)
   replace hFL3 := ar_s hFL3; obtain ⟨x39, hx39, hFL3⟩ := hFL3
   refine x_done <| x_blk <| x_region <| p (yadd q6c rfl hx39) <|
    p (yl_move rfl) <| x_done <| ?_
   have e_ := Option.some.inj (show some _ = some _ from hFL3); subst e_
   exact x_inv ⟨kL3, Nat.lt_succ_self _, q5o, A37, q58.length, c37, cs37, x39, q2c, q58, hLL3, (q27.trans q4r), q79, q7a, q7b, q7c, q57, q6a, q6b, rfl, hr37, (((((((hS.pull 2).drop.pull 2).pull 2).pull 2).pull 5).pull 5).pull 5)⟩
  ·replace hFL3 := it_f hc18 hFL3
   refine x_exitTo _ rfl <| ?_
   have e_ := Option.some.inj (show some _ = some _ from hFL3); subst e_
   exact x_inv ⟨q1i, q0v, q0r.length, c_b7_0_L3h, q16, q1j, q0r, hLL3, q27, q5e, q5f, q5g, q5h, q5i, q30, ((((((hS.pull 5).pull 5).pull 5).pull 5).pull 5).pull 5)⟩
 rintro E w ⟨q2g, q2, q2a, c_b7_0_L3, q0k, q2b, q3, rfl, q1h, q7d, q7e, q5v, q7f, q7g, q4j, hS⟩
 have e_ := St.vec_n (hS.pull 4) q4j; subst e_
 refine x_seq <| x_seq <| x_region <| p (yl_field0 fld_30_2 q5v) <|
  pa (at_load one_27 rfl ((hS.pull 1).cell rfl)) <| p (yl_len_slice usl_27 rfl) <| p (yl_move rfl) <| x_done <| ?_
 replace hF := bd_s hF; obtain ⟨oL13, hLL13, hF⟩ := hF
 refine x_join (fun E w => ∃ (q0n : Heap) (q8 : Option Addr) (q1z : Nat) (c_b7_1_L13 : Nat) (q0x : List Value) (q9 : Option Addr) (q20 : Nat) (c_b7_3_L13 : Nat) (q0y : List Value) (q0a : Option Addr) (q21 : Nat) (c_b7_4_L13 : Nat) (q0z : List Value) (q22 : Int) (q0c : List (List T_tree_Window)) (q0d : List T_tree_Window) (q0e : List T_tree_Window), (q22, q0c, q0d, q0e) = oL13 ∧ Le q2g q0n ∧ E 0 = .pointer (some ⟨q0b, 0, none⟩) ∧ E 2 = .int .i64 most2 ∧ E 4 = .pointer (some ⟨b4, 0, none⟩) ∧ E 6 = .pointer (some ⟨b6, 0, none⟩) ∧ E 7 = .pointer (some ⟨b7, 0, none⟩) ∧ RepL (RpSl R_tree_Window) q0n q0c q0x ∧ RepL R_tree_Window q0n q0d q0y ∧ RepL R_tree_Window q0n q0e q0z ∧ St w0 w (cells q0b 25 [.slice q0i s0.L.length c_s0_0, .int .i64 q22] :: cells b4 30 [.slice q19 n1.In.length c_n1_0, .slice q1a n1.Out.length c_n1_1, .slice q10 n1.Flops.length c_n1_2, .slice q0u n1.Gates.length c_n1_3, .slice q1b n1.Outs.length c_n1_4] :: cells b6 51 [.slice none 0 0, .slice none 0 0, .slice none 0 0, .slice none 0 0, .slice none 0 0] :: cells b7 51 [.slice q2 q3.length c_b7_0_L3, .slice q8 q1z c_b7_1_L13, .slice none 0 0, .slice q9 q20 c_b7_3_L13, .slice q0a q21 c_b7_4_L13] :: vec 49 (RpSl R_tree_Window).sz (.slice q2 q3.length c_b7_0_L3) q3.length q0k :: vec 49 (RpSl R_tree_Window).sz (.slice q8 q1z c_b7_1_L13) q1z q0x :: vec 70 R_tree_Window.sz (.slice q9 q20 c_b7_3_L13) q20 q0y :: vec 70 R_tree_Window.sz (.slice q0a q21 c_b7_4_L13) q21 q0z :: ro q0n :: l)) ?_ ?_
 ·refine x_block ?_
  replace hS := St.vec_nil hS 49 (RpSl R_tree_Window).sz
  have q3x : RepL (RpSl R_tree_Window) q2g [] [] := rfl
  replace hS := St.vec_nil hS 70 R_tree_Window.sz
  have q3y : RepL R_tree_Window q2g [] [] := rfl
  replace hS := St.vec_nil hS 70 R_tree_Window.sz
  have q3z : RepL R_tree_Window q2g [] [] := rfl
  refine x_loop (fun k_ E w => ∃ (q15 : Heap) (q17 : Option Addr) (q1o : Nat) (c_b7_1_L13h : Nat) (q1c : List Value) (q7 : Option Addr) (q1p : Nat) (c_b7_3_L13h : Nat) (q0s : List Value) (q4 : Option Addr) (q1q : Nat) (c_b7_4_L13h : Nat) (q0t : List Value) (q28 : Int) (q1r : Int) (q12 : List (List T_tree_Window)) (q6 : List T_tree_Window) (q5 : List T_tree_Window), lp (P_maskmake_Stream_Delays_L13 s0 n1 most2) k_ (q28, q1r, q12, q6, q5) = some oL13 ∧ Le q2g q15 ∧ E 0 = .pointer (some ⟨q0b, 0, none⟩) ∧ E 2 = .int .i64 most2 ∧ E 4 = .pointer (some ⟨b4, 0, none⟩) ∧ E 6 = .pointer (some ⟨b6, 0, none⟩) ∧ E 7 = .pointer (some ⟨b7, 0, none⟩) ∧ E 41 = .slice q10 n1.Flops.length c_n1_2 ∧ E 42 = .int .i64 (n1.Flops.length : Int) ∧ E 43 = .int .i64 q28 ∧ RepL (RpSl R_tree_Window) q15 q12 q1c ∧ RepL R_tree_Window q15 q6 q0s ∧ RepL R_tree_Window q15 q5 q0t ∧ St w0 w (cells q0b 25 [.slice q0i s0.L.length c_s0_0, .int .i64 q1r] :: cells b4 30 [.slice q19 n1.In.length c_n1_0, .slice q1a n1.Out.length c_n1_1, .slice q10 n1.Flops.length c_n1_2, .slice q0u n1.Gates.length c_n1_3, .slice q1b n1.Outs.length c_n1_4] :: cells b6 51 [.slice none 0 0, .slice none 0 0, .slice none 0 0, .slice none 0 0, .slice none 0 0] :: cells b7 51 [.slice q2 q3.length c_b7_0_L3, .slice q17 q1o c_b7_1_L13h, .slice none 0 0, .slice q7 q1p c_b7_3_L13h, .slice q4 q1q c_b7_4_L13h] :: vec 49 (RpSl R_tree_Window).sz (.slice q2 q3.length c_b7_0_L3) q3.length q0k :: vec 49 (RpSl R_tree_Window).sz (.slice q17 q1o c_b7_1_L13h) q1o q1c :: vec 70 R_tree_Window.sz (.slice q7 q1p c_b7_3_L13h) q1p q0s :: vec 70 R_tree_Window.sz (.slice q4 q1q c_b7_4_L13h) q1q q0t :: ro q15 :: l)) fuel ⟨q2g, none, 0, 0, [], none, 0, 0, [], none, 0, 0, [], 0, q2b, [], [], [], hLL13, (Le.refl _), q7d, q7e, q5v, q7f, q7g, rfl, rfl, rfl, q3x, q3y, q3z, (((((((((hS.pull 8).pull 1).pull 2).pull 3).pull 8).pull 8).pull 8).pull 8).pull 8)⟩ ?_
  rintro kL13 E w ⟨q15, q17, q1o, c_b7_1_L13h, q1c, q7, q1p, c_b7_3_L13h, q0s, q4, q1q, c_b7_4_L13h, q0t, q28, q1r, q12, q6, q5, hLL13, q13, q2n, q2o, q4g, q4h, q4i, q40, q41, q33, q2i, q2j, q2k, hS⟩
  have e_ := St.vec_n (hS.pull 5) q2i; subst e_
  have e_ := St.vec_n (hS.pull 6) q2j; subst e_
  have e_ := St.vec_n (hS.pull 7) q2k; subst e_
  replace hLL13 := lp_s hLL13; obtain ⟨kL13, obL13, rfl, hFL13, hLL13⟩ := hLL13
  refine x_seq <| x_region <| p (yl_lss q33 q41) <| x_done <|
   x_seq <|
   x_cond_p (q28 < (n1.Flops.length : Int)) rfl (fun hc44 => ?_) (fun hc44 => ?_)
  ·replace hFL13 := it_t hc44 hFL13
   replace hFL13 := ck_s hFL13; obtain ⟨q5p, hFL13⟩ := hFL13
   replace hFL13 := lv_s hFL13; obtain ⟨q1k, q6g, hFL13⟩ := hFL13
   have q_ := q4m.get q5p; obtain ⟨q7i, q5q, q6h⟩ := q_
   rw [← q6g] at q5q
   have e_ := q5q; subst e_
   refine x_skip <| x_seq <| x_block <| x_seq <|
    x_region <| p (yix_f sl_27 q40 q33 (q4m.le (q1h.trans q13)) q5p) <| pa (v := .agg #[.string q1k.Name, .int .i64 q1k.Cell, .int .i64 q1k.D, .int .i64 q1k.En, .bool q1k.Init]) (at_loadAgg agg_135 rfl rfl (Elt.every (Elt.le q6h (q1h.trans q13)) (hS.pull 8))) <| ?_
   refine o_alloc zero_135 hS (fun b12 w' hS => ?_)
   refine o_storeAgg (news := [.string q1k.Name, .int .i64 q1k.Cell, .int .i64 q1k.D, .int .i64 q1k.En, .bool q1k.Init]) agg_135 rfl rfl rfl (by simp [over_length]) hS (fun w' hS => ?_)
   replace hFL13 := bd_s hFL13; obtain ⟨q0o, q6i, hFL13⟩ := hFL13
   refine x_done <| x_seq <| x_region <| p (yl_move q2n) <|
    p (yl_move q2o) <| ?_
   have hcall := c_maskmake_Stream_window q6i (q26.le (q1h.trans q13)) ((hS.pull 9).pull 2)
   refine o_cc call_72 (args2 rfl rfl) hcall ?_
   rintro e w' ⟨rfl, hS⟩
   refine ⟨_, rfl, ?_⟩
   refine o_buildSlice (vs := [.agg #[.int .i64 q0o.1.Lo, .int .i64 q0o.1.Hi]]) (cs := [.int .i64 q0o.1.Lo, .int .i64 q0o.1.Hi]) sl_49 zero_70 (parts_eq (pt (va := .agg #[.int .i64 q0o.1.Lo, .int .i64 q0o.1.Hi]) rfl pt0)) rfl (by intro v hv; simp only [List.mem_cons, List.not_mem_nil, or_false] at hv; first | (subst hv; rfl) | (rcases hv with rfl <;> rfl)) (by decide) rfl hS (fun b50 w' hS => ?_)
   refine p (yl_assign rfl) <| x_done <| x_seq <| x_seq <|
    x_region <| p (yl_field0 fld_135_3 rfl) <| pa (at_load one_3 rfl ((hS.pull 3).cell rfl)) <| p (yl_neq rfl rfl) <|
    x_done <| ?_
   replace hFL13 := bd_s hFL13; obtain ⟨oc53, hFc53, hFL13⟩ := hFL13
   refine x_join (fun E w => ∃ (q14 : Option Addr) (q2f : Nat) (c_l13_c53 : Nat) (q34 : List Value) (q1d : List T_tree_Window) (q1l : Int), (q1d, q1l) = oc53 ∧ E 0 = .pointer (some ⟨q0b, 0, none⟩) ∧ E 2 = .int .i64 most2 ∧ E 4 = .pointer (some ⟨b4, 0, none⟩) ∧ E 6 = .pointer (some ⟨b6, 0, none⟩) ∧ E 7 = .pointer (some ⟨b7, 0, none⟩) ∧ E 13 = .slice q14 q2f c_l13_c53 ∧ E 41 = .slice q10 n1.Flops.length c_n1_2 ∧ E 42 = .int .i64 (n1.Flops.length : Int) ∧ E 43 = .int .i64 q28 ∧ RepL R_tree_Window q15 q1d q34 ∧ St w0 w (cells q0b 25 [.slice q0i s0.L.length c_s0_0, .int .i64 q1l] :: cells b4 30 [.slice q19 n1.In.length c_n1_0, .slice q1a n1.Out.length c_n1_1, .slice q10 n1.Flops.length c_n1_2, .slice q0u n1.Gates.length c_n1_3, .slice q1b n1.Outs.length c_n1_4] :: cells b6 51 [.slice none 0 0, .slice none 0 0, .slice none 0 0, .slice none 0 0, .slice none 0 0] :: cells b7 51 [.slice q2 q3.length c_b7_0_L3, .slice q17 q12.length c_b7_1_L13h, .slice none 0 0, .slice q7 q6.length c_b7_3_L13h, .slice q4 q5.length c_b7_4_L13h] :: vec 70 R_tree_Window.sz (.slice q14 q2f c_l13_c53) q2f q34 :: vec 49 (RpSl R_tree_Window).sz (.slice q2 q3.length c_b7_0_L3) q3.length q0k :: vec 49 (RpSl R_tree_Window).sz (.slice q17 q12.length c_b7_1_L13h) q12.length q1c :: vec 70 R_tree_Window.sz (.slice q7 q6.length c_b7_3_L13h) q6.length q0s :: vec 70 R_tree_Window.sz (.slice q4 q5.length c_b7_4_L13h) q5.length q0t :: ro q15 :: l)) ?_ ?_
   ·refine x_cond_p (q1k.En ≠ 1) rfl (fun hc53 => ?_) (fun hc53 => ?_)
    ·replace hFc53 := it_t hc53 hFc53
     replace hFc53 := bd_s hFc53; obtain ⟨q1s, q6j, hFc53⟩ := hFc53
     refine x_region <| p (yl_move rfl) <| p (yl_move q2n) <| p (yl_move q2o) <| ?_
     have hcall := c_maskmake_Stream_window q6j (q26.le (q1h.trans q13)) ((hS.pull 2).pull 2)
     refine o_cc call_72 (args2 rfl rfl) hcall ?_
     rintro e w' ⟨rfl, hS⟩
     refine ⟨_, rfl, ?_⟩
     refine o_buildSlice (vs := [.agg #[.int .i64 q1s.1.Lo, .int .i64 q1s.1.Hi]]) (cs := [.int .i64 q1s.1.Lo, .int .i64 q1s.1.Hi]) sl_49 zero_70 (parts_eq (pt (va := .agg #[.int .i64 q1s.1.Lo, .int .i64 q1s.1.Hi]) rfl pt0)) rfl (by intro v hv; simp only [List.mem_cons, List.not_mem_nil, or_false] at hv; first | (subst hv; rfl) | (rcases hv with rfl <;> rfl)) (by decide) rfl hS (fun b58 w' hS => ?_)
     have q6k : RepL R_tree_Window q15 ([q0o.1] : List T_tree_Window) [.int .i64 q0o.1.Lo, .int .i64 q0o.1.Hi] := (RepL.cons (cs := [.int .i64 q0o.1.Lo, .int .i64 q0o.1.Hi]) rfl RepL.nil)
     replace hS := St.vec_of (n := 1) (sz := R_tree_Window.sz) (hS.pull 3) rfl (by decide)
     replace hFc53 := lv_s hFc53; obtain ⟨q5w, q6l, hFc53⟩ := hFc53
     replace hFc53 := ck_s hFc53; obtain ⟨q6m, hFc53⟩ := hFc53
     refine o_ap sl_49 zero_70 rfl (by decide) rfl rfl hS q6k (src_blk usl_49 (hS.pull 1) rfl rfl) (RepL.cons (R := R_tree_Window) (ρ := q15) (x := q1s.1) (cs := [.int .i64 q1s.1.Lo, .int .i64 q1s.1.Hi]) rfl RepL.nil) q6l q6m (fun A59 c59 cs59 w' hr59 hS => ?_)
     refine p (yl_assign rfl) <| x_done <| ?_
     exact x_inv ⟨A59, q5w.length, c59, cs59, q5w, q1s.2, (Option.some.inj (show some _ = some _ from hFc53)), q2n, q2o, q4g, q4h, q4i, rfl, q40, q41, q33, hr59, ((((((((((((hS.pull 1).drop.pull 3).drop.pull 2).pull 9).pull 9).pull 9).pull 9).pull 5).pull 9).pull 9).pull 9).pull 9)⟩
    ·replace hFc53 := it_f hc53 hFc53
     refine x_skip <| ?_
     have q5s : RepL R_tree_Window q15 ([q0o.1] : List T_tree_Window) [.int .i64 q0o.1.Lo, .int .i64 q0o.1.Hi] := (RepL.cons (cs := [.int .i64 q0o.1.Lo, .int .i64 q0o.1.Hi]) rfl RepL.nil)
     replace hS := St.vec_of (n := 1) (sz := R_tree_Window.sz) hS rfl (by decide)
     exact x_inv ⟨(some ⟨b50, 0, none⟩), 1, 1, [.int .i64 q0o.1.Lo, .int .i64 q0o.1.Hi], ([q0o.1] : List T_tree_Window), q0o.2, (Option.some.inj (show some _ = some _ from hFc53)), q2n, q2o, q4g, q4h, q4i, rfl, q40, q41, q33, q5s, (((((((((((hS.pull 3).drop.pull 2).pull 9).pull 9).pull 9).pull 9).pull 5).pull 9).pull 9).pull 9).pull 9)⟩
   rintro E w ⟨q14, q2f, c_l13_c53, q34, q1d, q1l, rfl, q4s, q4t, q6n, q6o, q29, q5x, q5y, q5z, q60, q4k, hS⟩
   have e_ := St.vec_n (hS.pull 4) q4k; subst e_
   refine x_seq <| x_region <| p (yl_field0 fld_51_1 q29) <| pa (at_load one_48 rfl ((hS.pull 3).cell rfl)) <|
    p (yl_move q5x) <| ?_
   have q_ := St.vec_fz ((hS.pull 9).pull 5) q4k; obtain ⟨q0q, q1m, q6p, hS⟩ := q_
   refine o_buildSlice (vs := [.slice q14 q1d.length c_l13_c53]) (cs := [.slice q14 q1d.length c_l13_c53]) sl_48 zero_49 (parts_eq (pt (va := .slice q14 q1d.length c_l13_c53) rfl pt0)) rfl (by intro v hv; simp only [List.mem_cons, List.not_mem_nil, or_false] at hv; first | (subst hv; rfl) | (rcases hv with rfl <;> rfl)) (by decide) rfl hS (fun b63 w' hS => ?_)
   replace hFL13 := lv_s hFL13; obtain ⟨q1e, q6q, hFL13⟩ := hFL13
   replace hFL13 := ck_s hFL13; obtain ⟨q6r, hFL13⟩ := hFL13
   refine o_ap sl_48 zero_49 rfl (by decide) rfl rfl (hS.pull 7) (q2i.le q1m) (src_blk usl_48 hS rfl rfl) (RepL.cons (R := (RpSl R_tree_Window)) (ρ := q0q) (x := q1d) (cs := [.slice q14 q1d.length c_l13_c53]) ⟨_, _, _, rfl, q6p⟩ RepL.nil) q6q q6r (fun A64 c64 cs64 w' hr64 hS => ?_)
   refine p (yl_field0 fld_51_1 q29) <| ?_
   refine o_store1 (v := .slice A64 q1e.length c64) one_48 rfl rfl rfl rfl (hS.pull 6) (fun w' hS => ?_)
   refine x_done <| ?_
   replace hFL13 := bd_s hFL13; obtain ⟨q0l, q6s, hFL13⟩ := hFL13
   replace hFL13 := lv_s hFL13; obtain ⟨q0p, q6t, hFL13⟩ := hFL13
   replace hFL13 := ck_s hFL13; obtain ⟨q6u, hFL13⟩ := hFL13
   replace hFL13 := bd_s hFL13; obtain ⟨q0f, q61, hFL13⟩ := hFL13
   replace hFL13 := lv_s hFL13; obtain ⟨q0m, q62, hFL13⟩ := hFL13
   replace hFL13 := ck_s hFL13; obtain ⟨q63, hFL13⟩ := hFL13
   refine x_par (w0 := w0) [⟨[], [], [66], [], [], []⟩, ⟨[0], [0], [67], [0], [], []⟩, ⟨[], [], [68], [], [], []⟩, ⟨[], [], [69], [], [], []⟩, ⟨[2, 3], [2, 3], [70], [2], [1], [3]⟩, ⟨[2, 3, 4], [4], [71], [], [], [4]⟩, ⟨[0, 1, 2, 3, 4, 5], [1, 5], [72], [4, 2], [5], [6]⟩, ⟨[], [], [73], [], [], []⟩, ⟨[7], [7], [74], [0], [], []⟩, ⟨[], [], [75], [], [], []⟩, ⟨[], [], [76], [], [], []⟩, ⟨[0, 1, 2, 3, 4, 5, 6, 9, 10], [9, 10], [77], [2], [3], [7]⟩, ⟨[0, 1, 2, 3, 4, 5, 6, 9, 10, 11], [11], [78], [], [], [8]⟩, ⟨[0, 1, 2, 3, 4, 5, 6, 7, 8, 9, 10, 11, 12], [8, 12], [79], [8, 2], [9], [10]⟩, ⟨[0, 1, 2, 3, 4, 5, 6, 7, 8], [], [80], [], [], []⟩, ⟨[0, 1, 2, 3, 4, 5, 6, 7, 8, 9, 10, 11, 12, 13, 14], [6, 14], [], [], [0], [11]⟩, ⟨[0, 1, 2, 3, 4, 5, 6, 7, 8, 9, 10, 11, 12, 13, 14, 15], [], [81], [], [], []⟩, ⟨[0, 1, 2, 3, 4, 5, 6, 7, 8, 9, 10, 11, 12, 13, 14, 15, 16], [6, 13, 16], [], [], [11], [12]⟩] [⟨none, (some 15), []⟩, ⟨none, (some 4), []⟩, ⟨none, none, []⟩, ⟨(some 4), (some 11), []⟩, ⟨(some 5), none, [71]⟩, ⟨none, (some 6), []⟩, ⟨(some 6), none, [72]⟩, ⟨(some 11), none, []⟩, ⟨(some 12), none, [78]⟩, ⟨none, (some 13), []⟩, ⟨(some 13), none, [79]⟩, ⟨(some 15), (some 17), [72]⟩, ⟨(some 17), none, [72, 79]⟩] [66, 67, 68, 69, 70, 71, 72, 73, 74, 75, 76, 77, 78, 79, 80, 81] [0, 1, 2, 5, 9] [2, 4, 6, 7, 8, 10, 12] [0, 1, 2, 3, 4, 5, 6, 7, 8, 9, 10, 11, 12, 13, 14, 16] [fun Ep19 => Ep19 66 = .pointer (some ⟨b7, 3, none⟩), fun Ep19 => Ep19 67 = .slice q7 q6.length c_b7_3_L13h, fun Ep19 => Ep19 68 = .pointer (some ⟨q0b, 0, none⟩), fun Ep19 => Ep19 69 = .int .i64 most2, fun Ep19 => Ep19 70 = .agg #[.int .i64 q0l.1.Lo, .int .i64 q0l.1.Hi], fun Ep19 => Ep19 71 = .slice (some ⟨(blkOf (Ep19 71)), 0, none⟩) 1 1, fun Ep19 => Ep19 72 = .slice (adOf (Ep19 72)) q0p.length (capOf (Ep19 72)), fun Ep19 => Ep19 73 = .pointer (some ⟨b7, 4, none⟩), fun Ep19 => Ep19 74 = .slice q4 q5.length c_b7_4_L13h, fun Ep19 => Ep19 75 = .pointer (some ⟨q0b, 0, none⟩), fun Ep19 => Ep19 76 = .int .i64 most2, fun Ep19 => Ep19 77 = .agg #[.int .i64 q0f.1.Lo, .int .i64 q0f.1.Hi], fun Ep19 => Ep19 78 = .slice (some ⟨(blkOf (Ep19 78)), 0, none⟩) 1 1, fun Ep19 => Ep19 79 = .slice (adOf (Ep19 79)) q0m.length (capOf (Ep19 79)), fun Ep19 => Ep19 80 = .pointer (some ⟨b7, 3, none⟩), fun Ep19 => True, fun Ep19 => Ep19 81 = .pointer (some ⟨b7, 4, none⟩), fun Ep19 => True] [fun Ep19 => cells b7 51 [.slice q2 q3.length c_b7_0_L3, .slice A64 q1e.length c64, .slice none 0 0, .slice q7 q6.length c_b7_3_L13h, .slice q4 q5.length c_b7_4_L13h], fun Ep19 => cells q0b 25 [.slice q0i s0.L.length c_s0_0, .int .i64 q1l], fun Ep19 => ro q0q, fun Ep19 => cells q0b 25 [.slice q0i s0.L.length c_s0_0, .int .i64 q0l.2], fun Ep19 => cells (blkOf (Ep19 71)) 70 [.int .i64 q0l.1.Lo, .int .i64 q0l.1.Hi], fun Ep19 => vec 70 R_tree_Window.sz (.slice q7 q6.length c_b7_3_L13h) q6.length q0s, fun Ep19 => bunA (fun (cs72 : List Value) => RepL R_tree_Window q0q q0p cs72) (fun (cs72 : List Value) => [vec 70 R_tree_Window.sz (.slice (adOf (Ep19 72)) q0p.length (capOf (Ep19 72))) q0p.length cs72]), fun Ep19 => cells q0b 25 [.slice q0i s0.L.length c_s0_0, .int .i64 q0f.2], fun Ep19 => cells (blkOf (Ep19 78)) 70 [.int .i64 q0f.1.Lo, .int .i64 q0f.1.Hi], fun Ep19 => vec 70 R_tree_Window.sz (.slice q4 q5.length c_b7_4_L13h) q5.length q0t, fun Ep19 => bunA (fun (cs79 : List Value) => RepL R_tree_Window q0q q0m cs79) (fun (cs79 : List Value) => [vec 70 R_tree_Window.sz (.slice (adOf (Ep19 79)) q0m.length (capOf (Ep19 79))) q0m.length cs79]), fun Ep19 => cells b7 51 [.slice q2 q3.length c_b7_0_L3, .slice A64 q1e.length c64, .slice none 0 0, .slice (adOf (Ep19 72)) q0p.length (capOf (Ep19 72)), .slice q4 q5.length c_b7_4_L13h], fun Ep19 => cells b7 51 [.slice q2 q3.length c_b7_0_L3, .slice A64 q1e.length c64, .slice none 0 0, .slice (adOf (Ep19 72)) q0p.length (capOf (Ep19 72)), .slice (adOf (Ep19 79)) q0m.length (capOf (Ep19 79))]] mixed (by kernel_rfl) (((((hS.pull 9).pull 9).pull 5).pull 6).pull 4) ?_ ?_
   ·refine ⟨?_, ?_, ?_, ?_, ?_, ?_, ?_, ?_, ?_, ?_, ?_, ?_, ?_, ?_, ?_, ?_, ?_, ?_, trivial⟩
    ·intro Ep19 w l' hE19 hO19 hF_ hS
     refine p (yl_field0 fld_51_3 ((hE19 7 rfl).trans q29)) <| x_done <| ?_
     refine x_fin ⟨⟨_, rfl⟩, rfl, ?_⟩
     exact Eq.mp (by kernel_rfl) hS
    ·intro Ep19 w l' hE19 hO19 hF_ hS
     obtain ⟨q3a, -⟩ := hF_
     replace q3a : Ep19 66 = .pointer (some ⟨b7, 3, none⟩) := Eq.mp (by kernel_rfl) q3a
     replace hS : St w0 w (cells b7 51 [.slice q2 q3.length c_b7_0_L3, .slice A64 q1e.length c64, .slice none 0 0, .slice q7 q6.length c_b7_3_L13h, .slice q4 q5.length c_b7_4_L13h] :: l') := Eq.mp (by kernel_rfl) hS
     refine pa (at_load one_49 q3a (hS.cell rfl)) <| x_done <| ?_
     refine x_fin ⟨⟨_, rfl⟩, rfl, ?_⟩
     exact Eq.mp (by kernel_rfl) hS
    ·intro Ep19 w l' hE19 hO19 hF_ hS
     refine p (yl_move ((hE19 0 rfl).trans q4s)) <| x_done <| ?_
     refine x_fin ⟨⟨_, rfl⟩, rfl, ?_⟩
     exact Eq.mp (by kernel_rfl) hS
    ·intro Ep19 w l' hE19 hO19 hF_ hS
     refine p (yl_move ((hE19 2 rfl).trans q4t)) <| x_done <| ?_
     refine x_fin ⟨⟨_, rfl⟩, rfl, ?_⟩
     exact Eq.mp (by kernel_rfl) hS
    ·intro Ep19 w l' hE19 hO19 hF_ hS
     obtain ⟨q3b, q3c, -⟩ := hF_
     replace q3b : Ep19 68 = .pointer (some ⟨q0b, 0, none⟩) := Eq.mp (by kernel_rfl) q3b
     replace q3c : Ep19 69 = .int .i64 most2 := Eq.mp (by kernel_rfl) q3c
     replace hS : St w0 w (ro q0q :: cells q0b 25 [.slice q0i s0.L.length c_s0_0, .int .i64 q1l] :: l') := Eq.mp (by kernel_rfl) hS
     have hcall := c_maskmake_Stream_window q6s (q26.le ((q1h.trans q13).trans q1m)) (hS.pull 1)
     refine o_cc call_72 (args2 q3b q3c) hcall ?_
     rintro e w' ⟨rfl, hS⟩
     refine ⟨_, rfl, ?_⟩
     refine x_done <| ?_
     refine x_fin ⟨⟨_, rfl⟩, rfl, ?_⟩
     exact Eq.mp (by kernel_rfl) (hS.pull 1)
    ·intro Ep19 w l' hE19 hO19 hF_ hS
     obtain ⟨q3d, -⟩ := hF_
     replace q3d : Ep19 70 = .agg #[.int .i64 q0l.1.Lo, .int .i64 q0l.1.Hi] := Eq.mp (by kernel_rfl) q3d
     refine o_buildSlice (vs := [.agg #[.int .i64 q0l.1.Lo, .int .i64 q0l.1.Hi]]) (cs := [.int .i64 q0l.1.Lo, .int .i64 q0l.1.Hi]) sl_49 zero_70 (parts_eq (pt (va := .agg #[.int .i64 q0l.1.Lo, .int .i64 q0l.1.Hi]) q3d pt0)) rfl (by intro v hv; simp only [List.mem_cons, List.not_mem_nil, or_false] at hv; first | (subst hv; rfl) | (rcases hv with rfl <;> rfl)) (by decide) rfl hS (fun b71 w' hS => ?_)
     refine x_done <| ?_
     refine x_fin ⟨⟨_, rfl⟩, rfl, ?_⟩
     exact Eq.mp (by kernel_rfl) hS
    ·intro Ep19 w l' hE19 hO19 hF_ hS
     obtain ⟨q3e, q3f, -⟩ := hF_
     replace q3e : Ep19 67 = .slice q7 q6.length c_b7_3_L13h := Eq.mp (by kernel_rfl) q3e
     replace q3f : Ep19 71 = .slice (some ⟨(blkOf (Ep19 71)), 0, none⟩) 1 1 := Eq.mp (by kernel_rfl) q3f
     replace hS : St w0 w (cells (blkOf (Ep19 71)) 70 [.int .i64 q0l.1.Lo, .int .i64 q0l.1.Hi] :: ro q0q :: vec 70 R_tree_Window.sz (.slice q7 q6.length c_b7_3_L13h) q6.length q0s :: l') := Eq.mp (by kernel_rfl) hS
     refine o_ap sl_49 zero_70 rfl (by decide) q3e q3f (hS.pull 2) (q2j.le q1m) (src_blk usl_49 hS rfl rfl) (RepL.cons (R := R_tree_Window) (ρ := q0q) (x := q0l.1) (cs := [.int .i64 q0l.1.Lo, .int .i64 q0l.1.Hi]) rfl RepL.nil) q6t q6u (fun A72 c72 cs72 w' hr72 hS => ?_)
     refine x_done <| ?_
     refine x_fin ⟨⟨_, rfl⟩, rfl, ?_⟩
     replace hS := St.bun (Φ := (fun (cs72 : List Value) => RepL R_tree_Window q0q q0p cs72)) (L := (fun (cs72 : List Value) => [vec 70 R_tree_Window.sz (.slice A72 q0p.length c72) q0p.length cs72])) cs72 hr72 hS
     exact Eq.mp (by kernel_rfl) ((hS.pull 2).pull 2)
    ·intro Ep19 w l' hE19 hO19 hF_ hS
     refine p (yl_field0 fld_51_4 ((hE19 7 rfl).trans q29)) <| x_done <| ?_
     refine x_fin ⟨⟨_, rfl⟩, rfl, ?_⟩
     exact Eq.mp (by kernel_rfl) hS
    ·intro Ep19 w l' hE19 hO19 hF_ hS
     obtain ⟨q3g, -⟩ := hF_
     replace q3g : Ep19 73 = .pointer (some ⟨b7, 4, none⟩) := Eq.mp (by kernel_rfl) q3g
     replace hS : St w0 w (cells b7 51 [.slice q2 q3.length c_b7_0_L3, .slice A64 q1e.length c64, .slice none 0 0, .slice q7 q6.length c_b7_3_L13h, .slice q4 q5.length c_b7_4_L13h] :: l') := Eq.mp (by kernel_rfl) hS
     refine pa (at_load one_49 q3g (hS.cell rfl)) <| x_done <| ?_
     refine x_fin ⟨⟨_, rfl⟩, rfl, ?_⟩
     exact Eq.mp (by kernel_rfl) hS
    ·intro Ep19 w l' hE19 hO19 hF_ hS
     refine p (yl_move ((hE19 0 rfl).trans q4s)) <| x_done <| ?_
     refine x_fin ⟨⟨_, rfl⟩, rfl, ?_⟩
     exact Eq.mp (by kernel_rfl) hS
    ·intro Ep19 w l' hE19 hO19 hF_ hS
     refine p (yl_move ((hE19 2 rfl).trans q4t)) <| x_done <| ?_
     refine x_fin ⟨⟨_, rfl⟩, rfl, ?_⟩
     exact Eq.mp (by kernel_rfl) hS
    ·intro Ep19 w l' hE19 hO19 hF_ hS
     obtain ⟨q3h, q2p, -⟩ := hF_
     replace q3h : Ep19 75 = .pointer (some ⟨q0b, 0, none⟩) := Eq.mp (by kernel_rfl) q3h
     replace q2p : Ep19 76 = .int .i64 most2 := Eq.mp (by kernel_rfl) q2p
     replace hS : St w0 w (ro q0q :: cells q0b 25 [.slice q0i s0.L.length c_s0_0, .int .i64 q0l.2] :: l') := Eq.mp (by kernel_rfl) hS
     have hcall := c_maskmake_Stream_window q61 (q26.le ((q1h.trans q13).trans q1m)) (hS.pull 1)
     refine o_cc call_72 (args2 q3h q2p) hcall ?_
     rintro e w' ⟨rfl, hS⟩
     refine ⟨_, rfl, ?_⟩
     refine x_done <| ?_
     refine x_fin ⟨⟨_, rfl⟩, rfl, ?_⟩
     exact Eq.mp (by kernel_rfl) (hS.pull 1)
    ·intro Ep19 w l' hE19 hO19 hF_ hS
     obtain ⟨q2q, -⟩ := hF_
     replace q2q : Ep19 77 = .agg #[.int .i64 q0f.1.Lo, .int .i64 q0f.1.Hi] := Eq.mp (by kernel_rfl) q2q
     refine o_buildSlice (vs := [.agg #[.int .i64 q0f.1.Lo, .int .i64 q0f.1.Hi]]) (cs := [.int .i64 q0f.1.Lo, .int .i64 q0f.1.Hi]) sl_49 zero_70 (parts_eq (pt (va := .agg #[.int .i64 q0f.1.Lo, .int .i64 q0f.1.Hi]) q2q pt0)) rfl (by intro v hv; simp only [List.mem_cons, List.not_mem_nil, or_false] at hv; first | (subst hv; rfl) | (rcases hv with rfl <;> rfl)) (by decide) rfl hS (fun b78 w' hS => ?_)
     refine x_done <| ?_
     refine x_fin ⟨⟨_, rfl⟩, rfl, ?_⟩
     exact Eq.mp (by kernel_rfl) hS
    ·intro Ep19 w l' hE19 hO19 hF_ hS
     obtain ⟨q3i, q2r, -⟩ := hF_
     replace q3i : Ep19 74 = .slice q4 q5.length c_b7_4_L13h := Eq.mp (by kernel_rfl) q3i
     replace q2r : Ep19 78 = .slice (some ⟨(blkOf (Ep19 78)), 0, none⟩) 1 1 := Eq.mp (by kernel_rfl) q2r
     replace hS : St w0 w (cells (blkOf (Ep19 78)) 70 [.int .i64 q0f.1.Lo, .int .i64 q0f.1.Hi] :: ro q0q :: vec 70 R_tree_Window.sz (.slice q4 q5.length c_b7_4_L13h) q5.length q0t :: l') := Eq.mp (by kernel_rfl) hS
     refine o_ap sl_49 zero_70 rfl (by decide) q3i q2r (hS.pull 2) (q2k.le q1m) (src_blk usl_49 hS rfl rfl) (RepL.cons (R := R_tree_Window) (ρ := q0q) (x := q0f.1) (cs := [.int .i64 q0f.1.Lo, .int .i64 q0f.1.Hi]) rfl RepL.nil) q62 q63 (fun A79 c79 cs79 w' hr79 hS => ?_)
     refine x_done <| ?_
     refine x_fin ⟨⟨_, rfl⟩, rfl, ?_⟩
     replace hS := St.bun (Φ := (fun (cs79 : List Value) => RepL R_tree_Window q0q q0m cs79)) (L := (fun (cs79 : List Value) => [vec 70 R_tree_Window.sz (.slice A79 q0m.length c79) q0m.length cs79])) cs79 hr79 hS
     exact Eq.mp (by kernel_rfl) ((hS.pull 2).pull 2)
    ·intro Ep19 w l' hE19 hO19 hF_ hS
     refine p (yl_field0 fld_51_3 ((hE19 7 rfl).trans q29)) <| x_done <| ?_
     refine x_fin ⟨⟨_, rfl⟩, rfl, ?_⟩
     exact Eq.mp (by kernel_rfl) hS
    ·intro Ep19 w l' hE19 hO19 hF_ hS
     obtain ⟨q23, q2s, -⟩ := hF_
     replace q23 : Ep19 72 = .slice (adOf (Ep19 72)) q0p.length (capOf (Ep19 72)) := Eq.mp (by kernel_rfl) q23
     replace q2s : Ep19 80 = .pointer (some ⟨b7, 3, none⟩) := Eq.mp (by kernel_rfl) q2s
     replace hS : St w0 w (cells b7 51 [.slice q2 q3.length c_b7_0_L3, .slice A64 q1e.length c64, .slice none 0 0, .slice q7 q6.length c_b7_3_L13h, .slice q4 q5.length c_b7_4_L13h] :: l') := Eq.mp (by kernel_rfl) hS
     refine o_store1 (v := .slice (adOf (Ep19 72)) q0p.length (capOf (Ep19 72))) one_49 q2s q23 rfl rfl hS (fun w' hS => ?_)
     refine x_done <| ?_
     refine x_fin ⟨⟨undef, rfl⟩, trivial, ?_⟩
     exact Eq.mp (by kernel_rfl) hS
    ·intro Ep19 w l' hE19 hO19 hF_ hS
     refine p (yl_field0 fld_51_4 ((hE19 7 rfl).trans q29)) <| x_done <| ?_
     refine x_fin ⟨⟨_, rfl⟩, rfl, ?_⟩
     exact Eq.mp (by kernel_rfl) hS
    ·intro Ep19 w l' hE19 hO19 hF_ hS
     obtain ⟨q23, q2t, q2u, -⟩ := hF_
     replace q23 : Ep19 72 = .slice (adOf (Ep19 72)) q0p.length (capOf (Ep19 72)) := Eq.mp (by kernel_rfl) q23
     replace q2t : Ep19 79 = .slice (adOf (Ep19 79)) q0m.length (capOf (Ep19 79)) := Eq.mp (by kernel_rfl) q2t
     replace q2u : Ep19 81 = .pointer (some ⟨b7, 4, none⟩) := Eq.mp (by kernel_rfl) q2u
     replace hS : St w0 w (cells b7 51 [.slice q2 q3.length c_b7_0_L3, .slice A64 q1e.length c64, .slice none 0 0, .slice (adOf (Ep19 72)) q0p.length (capOf (Ep19 72)), .slice q4 q5.length c_b7_4_L13h] :: l') := Eq.mp (by kernel_rfl) hS
     refine o_store1 (v := .slice (adOf (Ep19 79)) q0m.length (capOf (Ep19 79))) one_49 q2u q2t rfl rfl hS (fun w' hS => ?_)
     refine x_done <| ?_
     refine x_fin ⟨⟨undef, rfl⟩, trivial, ?_⟩
     exact Eq.mp (by kernel_rfl) hS
   intro Ep19 w' hE19 hF_ hS
   obtain ⟨q3a, q3e, q3b, q3c, q3d, q3f, q23, q3g, q3i, q3h, q2p, q2q, q2r, q2t, q2s, q2u, -⟩ := hF_
   replace q3a : Ep19 66 = .pointer (some ⟨b7, 3, none⟩) := Eq.mp (by kernel_rfl) q3a
   replace q3e : Ep19 67 = .slice q7 q6.length c_b7_3_L13h := Eq.mp (by kernel_rfl) q3e
   replace q3b : Ep19 68 = .pointer (some ⟨q0b, 0, none⟩) := Eq.mp (by kernel_rfl) q3b
   replace q3c : Ep19 69 = .int .i64 most2 := Eq.mp (by kernel_rfl) q3c
   replace q3d : Ep19 70 = .agg #[.int .i64 q0l.1.Lo, .int .i64 q0l.1.Hi] := Eq.mp (by kernel_rfl) q3d
   replace q3f : Ep19 71 = .slice (some ⟨(blkOf (Ep19 71)), 0, none⟩) 1 1 := Eq.mp (by kernel_rfl) q3f
   replace q23 : Ep19 72 = .slice (adOf (Ep19 72)) q0p.length (capOf (Ep19 72)) := Eq.mp (by kernel_rfl) q23
   replace q3g : Ep19 73 = .pointer (some ⟨b7, 4, none⟩) := Eq.mp (by kernel_rfl) q3g
   replace q3i : Ep19 74 = .slice q4 q5.length c_b7_4_L13h := Eq.mp (by kernel_rfl) q3i
   replace q3h : Ep19 75 = .pointer (some ⟨q0b, 0, none⟩) := Eq.mp (by kernel_rfl) q3h
   replace q2p : Ep19 76 = .int .i64 most2 := Eq.mp (by kernel_rfl) q2p
   replace q2q : Ep19 77 = .agg #[.int .i64 q0f.1.Lo, .int .i64 q0f.1.Hi] := Eq.mp (by kernel_rfl) q2q
   replace q2r : Ep19 78 = .slice (some ⟨(blkOf (Ep19 78)), 0, none⟩) 1 1 := Eq.mp (by kernel_rfl) q2r
   replace q2t : Ep19 79 = .slice (adOf (Ep19 79)) q0m.length (capOf (Ep19 79)) := Eq.mp (by kernel_rfl) q2t
   replace q2s : Ep19 80 = .pointer (some ⟨b7, 3, none⟩) := Eq.mp (by kernel_rfl) q2s
   replace q2u : Ep19 81 = .pointer (some ⟨b7, 4, none⟩) := Eq.mp (by kernel_rfl) q2u
   replace hS : St w0 w' (ro q0q :: cells (blkOf (Ep19 71)) 70 [.int .i64 q0l.1.Lo, .int .i64 q0l.1.Hi] :: bunA (fun (cs72 : List Value) => RepL R_tree_Window q0q q0p cs72) (fun (cs72 : List Value) => [vec 70 R_tree_Window.sz (.slice (adOf (Ep19 72)) q0p.length (capOf (Ep19 72))) q0p.length cs72]) :: cells q0b 25 [.slice q0i s0.L.length c_s0_0, .int .i64 q0f.2] :: cells (blkOf (Ep19 78)) 70 [.int .i64 q0f.1.Lo, .int .i64 q0f.1.Hi] :: bunA (fun (cs79 : List Value) => RepL R_tree_Window q0q q0m cs79) (fun (cs79 : List Value) => [vec 70 R_tree_Window.sz (.slice (adOf (Ep19 79)) q0m.length (capOf (Ep19 79))) q0m.length cs79]) :: cells b7 51 [.slice q2 q3.length c_b7_0_L3, .slice A64 q1e.length c64, .slice none 0 0, .slice (adOf (Ep19 72)) q0p.length (capOf (Ep19 72)), .slice (adOf (Ep19 79)) q0m.length (capOf (Ep19 79))] :: (vec 49 (RpSl R_tree_Window).sz (.slice A64 q1e.length c64) q1e.length cs64 :: cells b63 49 [.slice q14 q1d.length c_l13_c53] :: cells b4 30 [.slice q19 n1.In.length c_n1_0, .slice q1a n1.Out.length c_n1_1, .slice q10 n1.Flops.length c_n1_2, .slice q0u n1.Gates.length c_n1_3, .slice q1b n1.Outs.length c_n1_4] :: cells b6 51 [.slice none 0 0, .slice none 0 0, .slice none 0 0, .slice none 0 0, .slice none 0 0] :: vec 49 (RpSl R_tree_Window).sz (.slice q2 q3.length c_b7_0_L3) q3.length q0k :: l)) := Eq.mp (by kernel_rfl) hS
   have q_ := St.unbun (hS.pull 2); obtain ⟨cs72, hr72, hS⟩ := q_
   have q_ := St.unbun (hS.pull 5); obtain ⟨cs79, hr79, hS⟩ := q_
   replace hFL13 := ar_s hFL13; obtain ⟨x82, hx82, hFL13⟩ := hFL13
   refine x_blk <| x_region <| p (yadd ((hE19 43 rfl).trans q60) rfl hx82) <| p (yl_move rfl) <|
    x_done <| ?_
   have e_ := Option.some.inj (show some _ = some _ from hFL13); subst e_
   exact x_inv ⟨kL13, Nat.lt_succ_self _, q0q, A64, q1e.length, c64, cs64, (adOf (Ep19 72)), q0p.length, (capOf (Ep19 72)), cs72, (adOf (Ep19 79)), q0m.length, (capOf (Ep19 79)), cs79, x82, q0f.2, q1e, q0p, q0m, hLL13, (q13.trans q1m), ((hE19 0 rfl).trans q4s), ((hE19 2 rfl).trans q4t), ((hE19 4 rfl).trans q6n), ((hE19 6 rfl).trans q6o), ((hE19 7 rfl).trans q29), ((hE19 41 rfl).trans q5y), ((hE19 42 rfl).trans q5z), rfl, hr64, hr72, hr79, ((((((((((((hS.pull 3).drop.pull 4).drop.pull 6).drop.pull 2).pull 1).pull 2).pull 5).pull 8).pull 6).pull 8).pull 8).pull 8)⟩
  ·replace hFL13 := it_f hc44 hFL13
   refine x_exitTo _ rfl <| ?_
   have e_ := Option.some.inj (show some _ = some _ from hFL13); subst e_
   exact x_inv ⟨q15, q17, q12.length, c_b7_1_L13h, q1c, q7, q6.length, c_b7_3_L13h, q0s, q4, q5.length, c_b7_4_L13h, q0t, q1r, q12, q6, q5, hLL13, q13, q2n, q2o, q4g, q4h, q4i, q2i, q2j, q2k, (((((((((hS.pull 8).pull 8).pull 8).pull 8).pull 8).pull 8).pull 8).pull 8).pull 8)⟩
 rintro E w ⟨q0n, q8, q1z, c_b7_1_L13, q0x, q9, q20, c_b7_3_L13, q0y, q0a, q21, c_b7_4_L13, q0z, q22, q0c, q0d, q0e, rfl, q42, q6v, q6w, q6x, q6y, q6z, q4a, q4b, q4c, hS⟩
 have e_ := St.vec_n (hS.pull 5) q4a; subst e_
 have e_ := St.vec_n (hS.pull 6) q4b; subst e_
 have e_ := St.vec_n (hS.pull 7) q4c; subst e_
 refine x_seq <| x_seq <| x_region <| p (yl_field0 fld_30_4 q6x) <|
  pa (at_load one_22 rfl ((hS.pull 1).cell rfl)) <| p (yl_len_slice usl_22 rfl) <| p (yl_move rfl) <| x_done <| ?_
 replace hF := bd_s hF; obtain ⟨oL22, hLL22, hF⟩ := hF
 refine x_join (fun E w => ∃ (q1f : Option Addr) (q24 : Nat) (c_b7_2_L22 : Nat) (q1t : List Value) (q1n : List T_tree_Window) (q35 : Int), (q1n, q35) = oL22 ∧ E 6 = .pointer (some ⟨b6, 0, none⟩) ∧ E 7 = .pointer (some ⟨b7, 0, none⟩) ∧ RepL R_tree_Window q0n q1n q1t ∧ St w0 w (cells b6 51 [.slice none 0 0, .slice none 0 0, .slice none 0 0, .slice none 0 0, .slice none 0 0] :: cells b7 51 [.slice q2 q3.length c_b7_0_L3, .slice q8 q0c.length c_b7_1_L13, .slice q1f q24 c_b7_2_L22, .slice q9 q0d.length c_b7_3_L13, .slice q0a q0e.length c_b7_4_L13] :: cells q0b 25 [.slice q0i s0.L.length c_s0_0, .int .i64 q35] :: vec 49 (RpSl R_tree_Window).sz (.slice q2 q3.length c_b7_0_L3) q3.length q0k :: vec 49 (RpSl R_tree_Window).sz (.slice q8 q0c.length c_b7_1_L13) q0c.length q0x :: vec 70 R_tree_Window.sz (.slice q1f q24 c_b7_2_L22) q24 q1t :: vec 70 R_tree_Window.sz (.slice q9 q0d.length c_b7_3_L13) q0d.length q0y :: vec 70 R_tree_Window.sz (.slice q0a q0e.length c_b7_4_L13) q0e.length q0z :: ro q0n :: l)) ?_ ?_
 ·refine x_block ?_
  replace hS := St.vec_nil hS 70 R_tree_Window.sz
  have q43 : RepL R_tree_Window q0n [] [] := rfl
  refine x_loop (fun k_ E w => ∃ (q0h : Option Addr) (q1u : Nat) (c_b7_2_L22h : Nat) (q11 : List Value) (q36 : Int) (q18 : Int) (q0g : List T_tree_Window), lp (P_maskmake_Stream_Delays_L22 s0 n1 most2) k_ (q36, q18, q0g) = some oL22 ∧ E 0 = .pointer (some ⟨q0b, 0, none⟩) ∧ E 2 = .int .i64 most2 ∧ E 6 = .pointer (some ⟨b6, 0, none⟩) ∧ E 7 = .pointer (some ⟨b7, 0, none⟩) ∧ E 85 = .int .i64 (n1.Outs.length : Int) ∧ E 86 = .int .i64 q36 ∧ RepL R_tree_Window q0n q0g q11 ∧ St w0 w (cells q0b 25 [.slice q0i s0.L.length c_s0_0, .int .i64 q18] :: cells b6 51 [.slice none 0 0, .slice none 0 0, .slice none 0 0, .slice none 0 0, .slice none 0 0] :: cells b7 51 [.slice q2 q3.length c_b7_0_L3, .slice q8 q0c.length c_b7_1_L13, .slice q0h q1u c_b7_2_L22h, .slice q9 q0d.length c_b7_3_L13, .slice q0a q0e.length c_b7_4_L13] :: vec 49 (RpSl R_tree_Window).sz (.slice q2 q3.length c_b7_0_L3) q3.length q0k :: vec 49 (RpSl R_tree_Window).sz (.slice q8 q0c.length c_b7_1_L13) q0c.length q0x :: vec 70 R_tree_Window.sz (.slice q0h q1u c_b7_2_L22h) q1u q11 :: vec 70 R_tree_Window.sz (.slice q9 q0d.length c_b7_3_L13) q0d.length q0y :: vec 70 R_tree_Window.sz (.slice q0a q0e.length c_b7_4_L13) q0e.length q0z :: ro q0n :: l)) fuel ⟨none, 0, 0, [], 0, q22, [], hLL22, q6v, q6w, q6y, q6z, rfl, rfl, q43, ((((((((((hS.pull 2).drop.pull 8).pull 8).pull 8).pull 3).pull 8).pull 8).pull 8).pull 8).pull 8)⟩ ?_
  rintro kL22 E w ⟨q0h, q1u, c_b7_2_L22h, q11, q36, q18, q0g, hLL22, q54, q55, q56, q3j, q4u, q4v, q2l, hS⟩
  have e_ := St.vec_n (hS.pull 5) q2l; subst e_
  replace hLL22 := lp_s hLL22; obtain ⟨kL22, obL22, rfl, hFL22, hLL22⟩ := hLL22
  refine x_seq <| x_region <| p (yl_lss q4v q4u) <| x_done <|
   x_seq <|
   x_cond_p (q36 < (n1.Outs.length : Int)) rfl (fun hc87 => ?_) (fun hc87 => ?_)
  ·replace hFL22 := it_t hc87 hFL22
   refine x_skip <| x_seq <| x_block <| ?_
   replace hFL22 := bd_s hFL22; obtain ⟨q0j, q70, hFL22⟩ := hFL22
   replace hFL22 := lv_s hFL22; obtain ⟨q0w, q71, hFL22⟩ := hFL22
   replace hFL22 := ck_s hFL22; obtain ⟨q72, hFL22⟩ := hFL22
   refine x_par (w0 := w0) [⟨[], [], [88], [], [], []⟩, ⟨[0], [0], [89], [0], [], []⟩, ⟨[], [], [90], [], [], []⟩, ⟨[], [], [91], [], [], []⟩, ⟨[2, 3], [2, 3], [92], [2], [1], [3]⟩, ⟨[2, 3, 4], [4], [93], [], [], [4]⟩, ⟨[0, 1, 2, 3, 4, 5], [1, 5], [94], [4, 2], [5], [6]⟩, ⟨[0, 1, 2, 3, 4, 5, 6], [], [95], [], [], []⟩, ⟨[0, 1, 2, 3, 4, 5, 6, 7], [6, 7], [], [], [0], [7]⟩] [⟨none, (some 8), []⟩, ⟨none, (some 4), []⟩, ⟨none, none, []⟩, ⟨(some 4), none, []⟩, ⟨(some 5), none, [93]⟩, ⟨none, (some 6), []⟩, ⟨(some 6), none, [94]⟩, ⟨(some 8), none, [94]⟩] [88, 89, 90, 91, 92, 93, 94, 95] [0, 1, 2, 5] [2, 3, 4, 6, 7] [0, 1, 2, 3, 4, 5, 6, 7] [fun Ep23 => Ep23 88 = .pointer (some ⟨b7, 2, none⟩), fun Ep23 => Ep23 89 = .slice q0h q0g.length c_b7_2_L22h, fun Ep23 => Ep23 90 = .pointer (some ⟨q0b, 0, none⟩), fun Ep23 => Ep23 91 = .int .i64 most2, fun Ep23 => Ep23 92 = .agg #[.int .i64 q0j.1.Lo, .int .i64 q0j.1.Hi], fun Ep23 => Ep23 93 = .slice (some ⟨(blkOf (Ep23 93)), 0, none⟩) 1 1, fun Ep23 => Ep23 94 = .slice (adOf (Ep23 94)) q0w.length (capOf (Ep23 94)), fun Ep23 => Ep23 95 = .pointer (some ⟨b7, 2, none⟩), fun Ep23 => True] [fun Ep23 => cells b7 51 [.slice q2 q3.length c_b7_0_L3, .slice q8 q0c.length c_b7_1_L13, .slice q0h q0g.length c_b7_2_L22h, .slice q9 q0d.length c_b7_3_L13, .slice q0a q0e.length c_b7_4_L13], fun Ep23 => cells q0b 25 [.slice q0i s0.L.length c_s0_0, .int .i64 q18], fun Ep23 => ro q0n, fun Ep23 => cells q0b 25 [.slice q0i s0.L.length c_s0_0, .int .i64 q0j.2], fun Ep23 => cells (blkOf (Ep23 93)) 70 [.int .i64 q0j.1.Lo, .int .i64 q0j.1.Hi], fun Ep23 => vec 70 R_tree_Window.sz (.slice q0h q0g.length c_b7_2_L22h) q0g.length q11, fun Ep23 => bunA (fun (cs94 : List Value) => RepL R_tree_Window q0n q0w cs94) (fun (cs94 : List Value) => [vec 70 R_tree_Window.sz (.slice (adOf (Ep23 94)) q0w.length (capOf (Ep23 94))) q0w.length cs94]), fun Ep23 => cells b7 51 [.slice q2 q3.length c_b7_0_L3, .slice q8 q0c.length c_b7_1_L13, .slice (adOf (Ep23 94)) q0w.length (capOf (Ep23 94)), .slice q9 q0d.length c_b7_3_L13, .slice q0a q0e.length c_b7_4_L13]] mixed (by kernel_rfl) ((((hS.pull 5).pull 8).pull 2).pull 4) ?_ ?_
   ·refine ⟨?_, ?_, ?_, ?_, ?_, ?_, ?_, ?_, ?_, trivial⟩
    ·intro Ep23 w l' hE23 hO23 hF_ hS
     refine p (yl_field0 fld_51_2 ((hE23 7 rfl).trans q3j)) <| x_done <| ?_
     refine x_fin ⟨⟨_, rfl⟩, rfl, ?_⟩
     exact Eq.mp (by kernel_rfl) hS
    ·intro Ep23 w l' hE23 hO23 hF_ hS
     obtain ⟨q3k, -⟩ := hF_
     replace q3k : Ep23 88 = .pointer (some ⟨b7, 2, none⟩) := Eq.mp (by kernel_rfl) q3k
     replace hS : St w0 w (cells b7 51 [.slice q2 q3.length c_b7_0_L3, .slice q8 q0c.length c_b7_1_L13, .slice q0h q0g.length c_b7_2_L22h, .slice q9 q0d.length c_b7_3_L13, .slice q0a q0e.length c_b7_4_L13] :: l') := Eq.mp (by kernel_rfl) hS
     refine pa (at_load one_49 q3k (hS.cell rfl)) <| x_done <| ?_
     refine x_fin ⟨⟨_, rfl⟩, rfl, ?_⟩
     exact Eq.mp (by kernel_rfl) hS
    ·intro Ep23 w l' hE23 hO23 hF_ hS
     refine p (yl_move ((hE23 0 rfl).trans q54)) <| x_done <| ?_
     refine x_fin ⟨⟨_, rfl⟩, rfl, ?_⟩
     exact Eq.mp (by kernel_rfl) hS
    ·intro Ep23 w l' hE23 hO23 hF_ hS
     refine p (yl_move ((hE23 2 rfl).trans q55)) <| x_done <| ?_
     refine x_fin ⟨⟨_, rfl⟩, rfl, ?_⟩
     exact Eq.mp (by kernel_rfl) hS
    ·intro Ep23 w l' hE23 hO23 hF_ hS
     obtain ⟨q3l, q3m, -⟩ := hF_
     replace q3l : Ep23 90 = .pointer (some ⟨q0b, 0, none⟩) := Eq.mp (by kernel_rfl) q3l
     replace q3m : Ep23 91 = .int .i64 most2 := Eq.mp (by kernel_rfl) q3m
     replace hS : St w0 w (ro q0n :: cells q0b 25 [.slice q0i s0.L.length c_s0_0, .int .i64 q18] :: l') := Eq.mp (by kernel_rfl) hS
     have hcall := c_maskmake_Stream_window q70 (q26.le (q1h.trans q42)) (hS.pull 1)
     refine o_cc call_72 (args2 q3l q3m) hcall ?_
     rintro e w' ⟨rfl, hS⟩
     refine ⟨_, rfl, ?_⟩
     refine x_done <| ?_
     refine x_fin ⟨⟨_, rfl⟩, rfl, ?_⟩
     exact Eq.mp (by kernel_rfl) (hS.pull 1)
    ·intro Ep23 w l' hE23 hO23 hF_ hS
     obtain ⟨q3n, -⟩ := hF_
     replace q3n : Ep23 92 = .agg #[.int .i64 q0j.1.Lo, .int .i64 q0j.1.Hi] := Eq.mp (by kernel_rfl) q3n
     refine o_buildSlice (vs := [.agg #[.int .i64 q0j.1.Lo, .int .i64 q0j.1.Hi]]) (cs := [.int .i64 q0j.1.Lo, .int .i64 q0j.1.Hi]) sl_49 zero_70 (parts_eq (pt (va := .agg #[.int .i64 q0j.1.Lo, .int .i64 q0j.1.Hi]) q3n pt0)) rfl (by intro v hv; simp only [List.mem_cons, List.not_mem_nil, or_false] at hv; first | (subst hv; rfl) | (rcases hv with rfl <;> rfl)) (by decide) rfl hS (fun b93 w' hS => ?_)
     refine x_done <| ?_
     refine x_fin ⟨⟨_, rfl⟩, rfl, ?_⟩
     exact Eq.mp (by kernel_rfl) hS
    ·intro Ep23 w l' hE23 hO23 hF_ hS
     obtain ⟨q3o, q3p, -⟩ := hF_
     replace q3o : Ep23 89 = .slice q0h q0g.length c_b7_2_L22h := Eq.mp (by kernel_rfl) q3o
     replace q3p : Ep23 93 = .slice (some ⟨(blkOf (Ep23 93)), 0, none⟩) 1 1 := Eq.mp (by kernel_rfl) q3p
     replace hS : St w0 w (cells (blkOf (Ep23 93)) 70 [.int .i64 q0j.1.Lo, .int .i64 q0j.1.Hi] :: ro q0n :: vec 70 R_tree_Window.sz (.slice q0h q0g.length c_b7_2_L22h) q0g.length q11 :: l') := Eq.mp (by kernel_rfl) hS
     refine o_ap sl_49 zero_70 rfl (by decide) q3o q3p (hS.pull 2) q2l (src_blk usl_49 hS rfl rfl) (RepL.cons (R := R_tree_Window) (ρ := q0n) (x := q0j.1) (cs := [.int .i64 q0j.1.Lo, .int .i64 q0j.1.Hi]) rfl RepL.nil) q71 q72 (fun A94 c94 cs94 w' hr94 hS => ?_)
     refine x_done <| ?_
     refine x_fin ⟨⟨_, rfl⟩, rfl, ?_⟩
     replace hS := St.bun (Φ := (fun (cs94 : List Value) => RepL R_tree_Window q0n q0w cs94)) (L := (fun (cs94 : List Value) => [vec 70 R_tree_Window.sz (.slice A94 q0w.length c94) q0w.length cs94])) cs94 hr94 hS
     exact Eq.mp (by kernel_rfl) ((hS.pull 2).pull 2)
    ·intro Ep23 w l' hE23 hO23 hF_ hS
     refine p (yl_field0 fld_51_2 ((hE23 7 rfl).trans q3j)) <| x_done <| ?_
     refine x_fin ⟨⟨_, rfl⟩, rfl, ?_⟩
     exact Eq.mp (by kernel_rfl) hS
    ·intro Ep23 w l' hE23 hO23 hF_ hS
     obtain ⟨q3q, q3r, -⟩ := hF_
     replace q3q : Ep23 94 = .slice (adOf (Ep23 94)) q0w.length (capOf (Ep23 94)) := Eq.mp (by kernel_rfl) q3q
     replace q3r : Ep23 95 = .pointer (some ⟨b7, 2, none⟩) := Eq.mp (by kernel_rfl) q3r
     replace hS : St w0 w (cells b7 51 [.slice q2 q3.length c_b7_0_L3, .slice q8 q0c.length c_b7_1_L13, .slice q0h q0g.length c_b7_2_L22h, .slice q9 q0d.length c_b7_3_L13, .slice q0a q0e.length c_b7_4_L13] :: l') := Eq.mp (by kernel_rfl) hS
     refine o_store1 (v := .slice (adOf (Ep23 94)) q0w.length (capOf (Ep23 94))) one_49 q3r q3q rfl rfl hS (fun w' hS => ?_)
     refine x_done <| ?_
     refine x_fin ⟨⟨undef, rfl⟩, trivial, ?_⟩
     exact Eq.mp (by kernel_rfl) hS
   intro Ep23 w' hE23 hF_ hS
   obtain ⟨q3k, q3o, q3l, q3m, q3n, q3p, q3q, q3r, -⟩ := hF_
   replace q3k : Ep23 88 = .pointer (some ⟨b7, 2, none⟩) := Eq.mp (by kernel_rfl) q3k
   replace q3o : Ep23 89 = .slice q0h q0g.length c_b7_2_L22h := Eq.mp (by kernel_rfl) q3o
   replace q3l : Ep23 90 = .pointer (some ⟨q0b, 0, none⟩) := Eq.mp (by kernel_rfl) q3l
   replace q3m : Ep23 91 = .int .i64 most2 := Eq.mp (by kernel_rfl) q3m
   replace q3n : Ep23 92 = .agg #[.int .i64 q0j.1.Lo, .int .i64 q0j.1.Hi] := Eq.mp (by kernel_rfl) q3n
   replace q3p : Ep23 93 = .slice (some ⟨(blkOf (Ep23 93)), 0, none⟩) 1 1 := Eq.mp (by kernel_rfl) q3p
   replace q3q : Ep23 94 = .slice (adOf (Ep23 94)) q0w.length (capOf (Ep23 94)) := Eq.mp (by kernel_rfl) q3q
   replace q3r : Ep23 95 = .pointer (some ⟨b7, 2, none⟩) := Eq.mp (by kernel_rfl) q3r
   replace hS : St w0 w' (ro q0n :: cells q0b 25 [.slice q0i s0.L.length c_s0_0, .int .i64 q0j.2] :: cells (blkOf (Ep23 93)) 70 [.int .i64 q0j.1.Lo, .int .i64 q0j.1.Hi] :: bunA (fun (cs94 : List Value) => RepL R_tree_Window q0n q0w cs94) (fun (cs94 : List Value) => [vec 70 R_tree_Window.sz (.slice (adOf (Ep23 94)) q0w.length (capOf (Ep23 94))) q0w.length cs94]) :: cells b7 51 [.slice q2 q3.length c_b7_0_L3, .slice q8 q0c.length c_b7_1_L13, .slice (adOf (Ep23 94)) q0w.length (capOf (Ep23 94)), .slice q9 q0d.length c_b7_3_L13, .slice q0a q0e.length c_b7_4_L13] :: (cells b6 51 [.slice none 0 0, .slice none 0 0, .slice none 0 0, .slice none 0 0, .slice none 0 0] :: vec 49 (RpSl R_tree_Window).sz (.slice q2 q3.length c_b7_0_L3) q3.length q0k :: vec 49 (RpSl R_tree_Window).sz (.slice q8 q0c.length c_b7_1_L13) q0c.length q0x :: vec 70 R_tree_Window.sz (.slice q9 q0d.length c_b7_3_L13) q0d.length q0y :: vec 70 R_tree_Window.sz (.slice q0a q0e.length c_b7_4_L13) q0e.length q0z :: l)) := Eq.mp (by kernel_rfl) hS
   have q_ := St.unbun (hS.pull 3); obtain ⟨cs94, hr94, hS⟩ := q_
   replace hFL22 := ar_s hFL22; obtain ⟨x96, hx96, hFL22⟩ := hFL22
   refine x_blk <| x_region <| p (yadd ((hE23 86 rfl).trans q4v) rfl hx96) <| p (yl_move rfl) <|
    x_done <| ?_
   have e_ := Option.some.inj (show some _ = some _ from hFL22); subst e_
   exact x_inv ⟨kL22, Nat.lt_succ_self _, (adOf (Ep23 94)), q0w.length, (capOf (Ep23 94)), cs94, x96, q0j.2, q0w, hLL22, ((hE23 0 rfl).trans q54), ((hE23 2 rfl).trans q55), ((hE23 6 rfl).trans q56), ((hE23 7 rfl).trans q3j), ((hE23 85 rfl).trans q4u), rfl, hr94, ((((((((((hS.pull 3).drop.pull 1).pull 8).pull 8).pull 3).pull 8).pull 8).pull 7).pull 8).pull 8)⟩
  ·replace hFL22 := it_f hc87 hFL22
   refine x_exitTo _ rfl <| ?_
   have e_ := Option.some.inj (show some _ = some _ from hFL22); subst e_
   exact x_inv ⟨q0h, q0g.length, c_b7_2_L22h, q11, q0g, q18, hLL22, q56, q3j, q2l, (((((((((hS.pull 8).pull 8).pull 8).pull 8).pull 8).pull 8).pull 6).pull 8).pull 8)⟩
 rintro E w ⟨q1f, q24, c_b7_2_L22, q1t, q1n, q35, rfl, q5r, q73, q4d, hS⟩
 have e_ := St.vec_n (hS.pull 5) q4d; subst e_
 refine x_seq <| x_region <| pa (v := .agg #[.slice q2 q3.length c_b7_0_L3, .slice q8 q0c.length c_b7_1_L13, .slice q1f q1n.length c_b7_2_L22, .slice q9 q0d.length c_b7_3_L13, .slice q0a q0e.length c_b7_4_L13]) (ld_sub agg_51 q73 rfl rfl (hS.pull 1)) <| ?_
 refine o_storeAgg (news := [.slice q2 q3.length c_b7_0_L3, .slice q8 q0c.length c_b7_1_L13, .slice q1f q1n.length c_b7_2_L22, .slice q9 q0d.length c_b7_3_L13, .slice q0a q0e.length c_b7_4_L13]) agg_51 q5r rfl rfl (by simp [over_length]) hS (fun w' hS => ?_)
 refine x_done <| ?_
 have e_ := Option.some.inj (show some _ = some _ from hF); subst e_
 exact x_return ⟨_, ⟨_, _, _, rfl, q5r, ldvA agg_51 rfl (fun j v hj => by rw [add0]; exact St.cell hS hj), rfl⟩, q0n, q2, q3.length, c_b7_0_L3, q0k, q8, q0c.length, c_b7_1_L13, q0x, q1f, q1n.length, c_b7_2_L22, q1t, q9, q0d.length, c_b7_3_L13, q0y, q0a, q0e.length, c_b7_4_L13, q0z, rfl, (q1h.trans q42), (q4j.le q42), q4a, q4d, q4b, q4c, (((((((hS.drop.drop.pull 6).pull 1).pull 6).pull 6).pull 6).pull 6).pull 6)⟩
attribute [irreducible] P_maskmake_Stream_Delays

def P_maskmake_Stream_Pick (s0 : T_maskmake_Stream) (l_1 : List Int) : Option (Int × Int) :=
 bd (P_maskmake_Stream_Next s0 (l_1.length : Int)) fun q2 =>
 ck (inb q2.1 l_1.length) <|
 lv (gt l_1 q2.1) fun x11 =>
 some (x11, q2.2)
set_option maxHeartbeats 4000000 in
set_option maxRecDepth 100000 in
theorem c_maskmake_Stream_Pick {w0 w : World} {l : List Assn} {ρ : Heap} {q6 : Nat} {q2 : Option Addr} {q3 : Nat} {c_s0_0 : Nat} {q7 : Option Addr} {q8 : Nat} {c_l_1 : Nat} {s0 : T_maskmake_Stream} {l_1 : List Int} {r : (Int × Int)} (hF : P_maskmake_Stream_Pick s0 l_1 = some r) (q5 : RdS (RpI .i64) ρ q2 q3 c_s0_0 s0.L) (q4 : RdS (RpI .i64) ρ q7 q8 c_l_1 l_1) (hS : St w0 w (cells q6 25 [.slice q2 q3 c_s0_0, .int .i64 s0.fat] :: ro ρ :: l)) :
  Calls Tryd.prog 68 #[.pointer (some ⟨q6, 0, none⟩), .slice q7 q8 c_l_1] w fun e w' => e = .returned (.int .i64 r.1) ∧ St w0 w' (cells q6 25 [.slice q2 q3 c_s0_0, .int .i64 r.2] :: ro ρ :: l) := by
 have e_ := q5.n; subst e_
 have e_ := q4.n; subst e_
 refine enterC Tryd.func68 rfl 12 rfl (by simp) ?_
 replace hF := bd_s hF; obtain ⟨q0b, q0a, hF⟩ := hF
 refine x_seq <| x_region <| p (yl_assign rfl) <| x_done <|
  x_seq <| x_region <| p (yl_move rfl) <| p (yl_move rfl) <|
  p (yl_move rfl) <| p (yl_len_slice usl_22 rfl) <| ?_
 have hcall := c_maskmake_Stream_Next q0a q5 ((hS.pull 1).pull 1)
 refine o_cc call_13 (args2 rfl rfl) hcall ?_
 rintro e w' ⟨rfl, hS⟩
 refine ⟨_, rfl, ?_⟩
 replace hF := ck_s hF; obtain ⟨q9, hF⟩ := hF
 replace hF := lv_s hF; obtain ⟨x11, hx11, hF⟩ := hF
 refine p (yix_f sl_22 rfl rfl q4 q9) <| pa (at_load one_3 rfl (RdS.getW q4 (hS.pull 1) q9 hx11)) <| p (yl_assign rfl) <| x_done <| ?_
 have e_ := Option.some.inj (show some _ = some _ from hF); subst e_
 exact x_return ⟨_, ⟨_, _, rfl, rfl, rfl⟩, rfl, ((hS.pull 1).pull 1)⟩
attribute [irreducible] P_maskmake_Stream_Pick

def P_maskmake_Stream_Limits_L3 (s0 : T_maskmake_Stream) (n1 : T_api_Netlist) : (Int × Int × List T_clocks_Input) → Option ((Int × Int × List T_clocks_Input) ⊕ (Int × List T_clocks_Input)) := fun (q2, q4, q3) =>
 if q2 < (n1.In.length : Int) then
  ck (inb q2 n1.In.length) <|
  lv (gt n1.In q2) fun x28 =>
  bd (P_maskmake_Stream_Flip (T_maskmake_Stream.mk s0.L q4) 2) fun q6 =>
  bd (
   if q6.1 = true then
    bd (P_maskmake_Stream_window (T_maskmake_Stream.mk s0.L q6.2) 6) fun q8 =>
    lv (q3 ++ [(T_clocks_Input.mk x28 q8.1)]) fun q9 =>
    ck (apOk 32 q9.length) <|
    some (q8.2, q9)
   else
    some (q6.2, q3)) fun (q5, q7) =>
  ar (q2 + 1) fun x40 =>
  some (Sum.inl (x40, q5, q7))
 else
  some (Sum.inr (q4, q3))
def P_maskmake_Stream_Limits_L9 (s0 : T_maskmake_Stream) (n1 : T_api_Netlist) : (Int × Int × List T_clocks_Output) → Option ((Int × Int × List T_clocks_Output) ⊕ (Int × List T_clocks_Output)) := fun (q2, q4, q3) =>
 if q2 < (n1.Out.length : Int) then
  ck (inb q2 n1.Out.length) <|
  lv (gt n1.Out q2) fun x47 =>
  bd (P_maskmake_Stream_Flip (T_maskmake_Stream.mk s0.L q4) 2) fun q5 =>
  bd (
   if q5.1 = true then
    bd (P_maskmake_Stream_Range (T_maskmake_Stream.mk s0.L q5.2) 1 6) fun q8 =>
    lv (q3 ++ [(T_clocks_Output.mk x47 q8.1)]) fun q9 =>
    ck (apOk 24 q9.length) <|
    some (q8.2, q9)
   else
    some (q5.2, q3)) fun (q6, q7) =>
  ar (q2 + 1) fun x59 =>
  some (Sum.inl (x59, q6, q7))
 else
  some (Sum.inr (q4, q3))
def P_maskmake_Stream_Limits_L16 (n1 : T_api_Netlist) : (List ByteArray × List ByteArray × Int) → Option ((List ByteArray × List ByteArray × Int) ⊕ (List ByteArray × List ByteArray)) := fun (q3, q4, q2) =>
 if q2 < (n1.Flops.length : Int) then
  ck (inb q2 n1.Flops.length) <|
  lv (gt n1.Flops q2) fun q5 =>
  lv (q3 ++ [q5.Name]) fun q6 =>
  ck (apOk 16 q6.length) <|
  lv (q4 ++ [q5.Name]) fun q7 =>
  ck (apOk 16 q7.length) <|
  ar (q2 + 1) fun x85 =>
  some (Sum.inl (q6, q7, x85))
 else
  some (Sum.inr (q3, q4))
def P_maskmake_Stream_Limits_L21 (s0 : T_maskmake_Stream) (paths2 : Bool) (q3 : List ByteArray) (q5 : List ByteArray) (q0d : (Int × Int)) : (Int × Int × List T_clocks_Path) → Option ((Int × Int × List T_clocks_Path) ⊕ (List T_clocks_Path × Int)) := fun (q6, q2, q4) =>
 if q6 < q0d.1 then
  bd (
   if paths2 = true then
    bd (P_maskmake_Stream_Next (T_maskmake_Stream.mk s0.L q2) (q3.length : Int)) fun q8 =>
    ck (inb q8.1 q3.length) <|
    lv (gt q3 q8.1) fun x99 =>
    bd (P_maskmake_Stream_Next (T_maskmake_Stream.mk s0.L q8.2) (q5.length : Int)) fun q7 =>
    ck (inb q7.1 q5.length) <|
    lv (gt q5 q7.1) fun x106 =>
    bd (P_maskmake_Stream_Pick (T_maskmake_Stream.mk s0.L q7.2) ([0, 2, 3] : List Int)) fun q0a =>
    lv (q4 ++ [(T_clocks_Path.mk x99 x106 q0a.1)]) fun q0b =>
    ck (apOk 40 q0b.length) <|
    some (q0a.2, q0b)
   else
    some (q2, q4)) fun (q9, q0c) =>
  ar (q6 + 1) fun x114 =>
  some (Sum.inl (x114, q9, q0c))
 else
  some (Sum.inr (q4, q2))
def P_maskmake_Stream_Limits (s0 : T_maskmake_Stream) (n1 : T_api_Netlist) (paths2 : Bool) : Option (T_clocks_Limits × Int) :=
 bd (P_maskmake_Stream_Pick s0 ([20, 60, 200] : List Int)) fun q0d =>
 bd (P_maskmake_Stream_Range (T_maskmake_Stream.mk s0.L q0d.2) 1 q0d.1) fun q0e =>
 bd (
  lp (P_maskmake_Stream_Limits_L3 s0 n1) fuel (0, q0e.2, [])) fun (q4, q0b) =>
 bd (
  lp (P_maskmake_Stream_Limits_L9 s0 n1) fuel (0, q4, [])) fun (q5, q0c) =>
 lv (([(⟨#[]⟩ : ByteArray)] : List ByteArray) ++ n1.In) fun q8 =>
 ck (apOk 16 q8.length) <|
 lv (([(⟨#[]⟩ : ByteArray)] : List ByteArray) ++ n1.Out) fun q9 =>
 ck (apOk 16 q9.length) <|
 bd (
  lp (P_maskmake_Stream_Limits_L16 n1) fuel (q8, q9, 0)) fun (q2, q6) =>
 bd (P_maskmake_Stream_Next (T_maskmake_Stream.mk s0.L q5) 4) fun q0a =>
 bd (
  lp (P_maskmake_Stream_Limits_L21 s0 paths2 q2 q6 q0a) fuel (0, q0a.2, [])) fun (q7, q3) =>
 some ((T_clocks_Limits.mk q0e.1 q0b q0c q7), q3)
set_option maxHeartbeats 4000000 in
set_option maxRecDepth 100000 in
theorem c_maskmake_Stream_Limits {w0 w : World} {l : List Assn} {ρ : Heap} {q9 : Nat} {q0c : Option Addr} {q5h : Nat} {c_s0_0 : Nat} {q0q : Option Addr} {q64 : Nat} {c_n1_0 : Nat} {q0r : Option Addr} {q65 : Nat} {c_n1_1 : Nat} {q0x : Option Addr} {q66 : Nat} {c_n1_2 : Nat} {q10 : Option Addr} {q67 : Nat} {c_n1_3 : Nat} {q11 : Option Addr} {q68 : Nat} {c_n1_4 : Nat} {s0 : T_maskmake_Stream} {n1 : T_api_Netlist} {paths2 : Bool} {r : (T_clocks_Limits × Int)} (hF : P_maskmake_Stream_Limits s0 n1 paths2 = some r) (q1c : RdS (RpI .i64) ρ q0c q5h c_s0_0 s0.L) (q4m : RdS RpS ρ q0q q64 c_n1_0 n1.In) (q4n : RdS RpS ρ q0r q65 c_n1_1 n1.Out) (q5i : RdS R_api_Flop ρ q0x q66 c_n1_2 n1.Flops) (q6x : RdS R_api_Gate ρ q10 q67 c_n1_3 n1.Gates) (q6y : RdS (RpI .i64) ρ q11 q68 c_n1_4 n1.Outs) (hS : St w0 w (cells q9 25 [.slice q0c q5h c_s0_0, .int .i64 s0.fat] :: ro ρ :: l)) :
  Calls Tryd.prog 25 #[.pointer (some ⟨q9, 0, none⟩), .agg #[.slice q0q q64 c_n1_0, .slice q0r q65 c_n1_1, .slice q0x q66 c_n1_2, .slice q10 q67 c_n1_3, .slice q11 q68 c_n1_4], .bool paths2] w fun e w' => ∃ (q4o : Option Addr) (q30 : Nat) (c_y0_ret_1 : Nat) (q4f : List Value) (q4p : Option Addr) (q31 : Nat) (c_y0_ret_2 : Nat) (q4g : List Value) (q4q : Option Addr) (q32 : Nat) (c_y0_ret_3 : Nat) (q4h : List Value), e = .returned (.agg #[.int .i64 r.1.Period, .slice q4o q30 c_y0_ret_1, .slice q4p q31 c_y0_ret_2, .slice q4q q32 c_y0_ret_3]) ∧ RepL R_clocks_Input ρ r.1.Inputs q4f ∧ RepL R_clocks_Output ρ r.1.Outputs q4g ∧ RepL R_clocks_Path ρ r.1.Paths q4h ∧ St w0 w' (vec 156 R_clocks_Input.sz (.slice q4o q30 c_y0_ret_1) q30 q4f :: vec 158 R_clocks_Output.sz (.slice q4p q31 c_y0_ret_2) q31 q4g :: vec 160 R_clocks_Path.sz (.slice q4q q32 c_y0_ret_3) q32 q4h :: cells q9 25 [.slice q0c q5h c_s0_0, .int .i64 r.2] :: ro ρ :: l) := by
 have e_ := q1c.n; subst e_
 have e_ := q4m.n; subst e_
 have e_ := q4n.n; subst e_
 have e_ := q5i.n; subst e_
 have e_ := q6x.n; subst e_
 have e_ := q6y.n; subst e_
 refine enterC Tryd.func25 rfl 116 rfl (by simp) ?_
 refine x_seq <| x_region <| ?_
 refine o_box (cs := [.slice q0q n1.In.length c_n1_0, .slice q0r n1.Out.length c_n1_1, .slice q0x n1.Flops.length c_n1_2, .slice q10 n1.Gates.length c_n1_3, .slice q11 n1.Outs.length c_n1_4]) rfl rfl hS (fun b4 w' hS => ?_)
 refine o_alloc zero_56 hS (fun b6 w' hS => ?_)
 refine x_done <| x_seq <| x_region <| p (yl_move rfl) <|
  p (yl_move rfl) <| ?_
 refine o_buildSlice (vs := [.int .i64 20, .int .i64 60, .int .i64 200]) (cs := [.int .i64 20, .int .i64 60, .int .i64 200]) sl_22 zero_3 (parts_eq (pt (va := .int .i64 20) rfl (pt (va := .int .i64 60) rfl (pt (va := .int .i64 200) rfl pt0)))) rfl (by intro v hv; simp only [List.mem_cons, List.not_mem_nil, or_false] at hv; first | (subst hv; rfl) | (rcases hv with rfl | rfl | rfl <;> rfl)) (by decide) rfl hS (fun b18 w' hS => ?_)
 have q7z : RepL (RpI .i64) ρ ([20, 60, 200] : List Int) [.int .i64 20, .int .i64 60, .int .i64 200] := (RepL.cons (cs := [.int .i64 20]) rfl (RepL.cons (cs := [.int .i64 60]) rfl (RepL.cons (cs := [.int .i64 200]) rfl RepL.nil)))
 replace hS := St.vec_of (n := 3) (sz := (RpI .i64).sz) hS rfl (by decide)
 replace hF := bd_s hF; obtain ⟨q8f, q80, hF⟩ := hF
 have q_ := St.lend ((hS.pull 4).pull 1) q7z; obtain ⟨ρl0, hll0, hlf0, hS0, back0⟩ := q_
 have hcall := c_maskmake_Stream_Pick q80 (q1c.le hll0) hlf0 (hS0.pull 3)
 refine o_cc call_68 (args2 rfl rfl) hcall ?_
 rintro e w' ⟨rfl, hS⟩
 refine ⟨_, rfl, ?_⟩
 replace hS := back0 (hS.pull 1)
 replace hF := bd_s hF; obtain ⟨q0j, q81, hF⟩ := hF
 have hcall := c_maskmake_Stream_Range q81 q1c ((hS.pull 1).pull 2)
 refine o_cc call_24 (args3 rfl rfl rfl) hcall ?_
 rintro e w' ⟨rfl, hS⟩
 refine ⟨_, rfl, ?_⟩
 refine p (v := .agg #[.int .i64 q0j.1, .slice none 0 0, .slice none 0 0, .slice none 0 0]) (yl_build bld_56 bldf_56 (parts_eq (pt (va := .int .i64 q0j.1) rfl pt0)) (by kernel_rfl)) <| ?_
 refine o_alloc zero_56 hS (fun b7 w' hS => ?_)
 refine o_storeAgg (news := [.int .i64 q0j.1, .slice none 0 0, .slice none 0 0, .slice none 0 0]) agg_56 rfl rfl rfl (by simp [over_length]) hS (fun w' hS => ?_)
 refine x_done <| x_seq <| x_seq <| x_region <|
  p (yl_field0 fld_30_0 rfl) <| pa (at_load one_26 rfl ((hS.pull 5).cell rfl)) <| p (yl_len_slice usl_26 rfl) <| p (yl_move rfl) <|
  x_done <| ?_
 replace hF := bd_s hF; obtain ⟨oL3, hLL3, hF⟩ := hF
 refine x_join (fun E w => ∃ (q3 : Option Addr) (q2e : Nat) (c_b7_1_L3 : Nat) (q0d : List Value) (q2f : Int) (q2 : List T_clocks_Input), (q2f, q2) = oL3 ∧ E 0 = .pointer (some ⟨q9, 0, none⟩) ∧ E 2 = .bool paths2 ∧ E 4 = .pointer (some ⟨b4, 0, none⟩) ∧ E 6 = .pointer (some ⟨b6, 0, none⟩) ∧ E 7 = .pointer (some ⟨b7, 0, none⟩) ∧ RepL R_clocks_Input ρ q2 q0d ∧ St w0 w (cells q9 25 [.slice q0c s0.L.length c_s0_0, .int .i64 q2f] :: cells b4 30 [.slice q0q n1.In.length c_n1_0, .slice q0r n1.Out.length c_n1_1, .slice q0x n1.Flops.length c_n1_2, .slice q10 n1.Gates.length c_n1_3, .slice q11 n1.Outs.length c_n1_4] :: cells b6 56 [.int .i64 0, .slice none 0 0, .slice none 0 0, .slice none 0 0] :: cells b7 56 [.int .i64 q0j.1, .slice q3 q2e c_b7_1_L3, .slice none 0 0, .slice none 0 0] :: vec 156 R_clocks_Input.sz (.slice q3 q2e c_b7_1_L3) q2e q0d :: ro ρ :: l)) ?_ ?_
 ·refine x_block ?_
  replace hS := St.vec_nil hS 156 R_clocks_Input.sz
  have q4r : RepL R_clocks_Input ρ [] [] := rfl
  refine x_loop (fun k_ E w => ∃ (q0k : Option Addr) (q1s : Nat) (c_b7_1_L3h : Nat) (q14 : List Value) (q2j : Int) (q1t : Int) (q0g : List T_clocks_Input), lp (P_maskmake_Stream_Limits_L3 s0 n1) k_ (q2j, q1t, q0g) = some oL3 ∧ E 0 = .pointer (some ⟨q9, 0, none⟩) ∧ E 2 = .bool paths2 ∧ E 4 = .pointer (some ⟨b4, 0, none⟩) ∧ E 6 = .pointer (some ⟨b6, 0, none⟩) ∧ E 7 = .pointer (some ⟨b7, 0, none⟩) ∧ E 23 = .slice q0q n1.In.length c_n1_0 ∧ E 24 = .int .i64 (n1.In.length : Int) ∧ E 25 = .int .i64 q2j ∧ RepL R_clocks_Input ρ q0g q14 ∧ St w0 w (cells q9 25 [.slice q0c s0.L.length c_s0_0, .int .i64 q1t] :: cells b4 30 [.slice q0q n1.In.length c_n1_0, .slice q0r n1.Out.length c_n1_1, .slice q0x n1.Flops.length c_n1_2, .slice q10 n1.Gates.length c_n1_3, .slice q11 n1.Outs.length c_n1_4] :: cells b6 56 [.int .i64 0, .slice none 0 0, .slice none 0 0, .slice none 0 0] :: cells b7 56 [.int .i64 q0j.1, .slice q0k q1s c_b7_1_L3h, .slice none 0 0, .slice none 0 0] :: vec 156 R_clocks_Input.sz (.slice q0k q1s c_b7_1_L3h) q1s q14 :: ro ρ :: l)) fuel ⟨none, 0, 0, [], 0, q0j.2, [], hLL3, rfl, rfl, rfl, rfl, rfl, rfl, rfl, rfl, q4r, (((((((hS.pull 4).drop.pull 3).pull 1).pull 2).pull 4).pull 5).pull 5)⟩ ?_
  rintro kL3 E w ⟨q0k, q1s, c_b7_1_L3h, q14, q2j, q1t, q0g, hLL3, q38, q5j, q5k, q5l, q39, q4y, q4z, q3c, q1u, hS⟩
  have e_ := St.vec_n (hS.pull 4) q1u; subst e_
  replace hLL3 := lp_s hLL3; obtain ⟨kL3, obL3, rfl, hFL3, hLL3⟩ := hLL3
  refine x_seq <| x_region <| p (yl_lss q3c q4z) <| x_done <|
   x_seq <|
   x_cond_p (q2j < (n1.In.length : Int)) rfl (fun hc26 => ?_) (fun hc26 => ?_)
  ·replace hFL3 := it_t hc26 hFL3
   replace hFL3 := ck_s hFL3; obtain ⟨q6f, hFL3⟩ := hFL3
   replace hFL3 := lv_s hFL3; obtain ⟨x28, hx28, hFL3⟩ := hFL3
   replace hFL3 := bd_s hFL3; obtain ⟨q60, q82, hFL3⟩ := hFL3
   refine x_skip <| x_seq <| x_block <| x_seq <|
    x_region <| p (yix_f sl_26 q4y q3c q4m q6f) <| pa (at_load one_9 rfl (RdS.getW q4m (hS.pull 5) q6f hx28)) <| p (yl_assign rfl) <|
    x_done <| x_seq <| x_region <| p (yl_move q38) <| ?_
   have hcall := c_maskmake_Stream_Flip q82 q1c ((hS.pull 5).pull 1)
   refine o_cc call_71 (args2 rfl rfl) hcall ?_
   rintro e w' ⟨rfl, hS⟩
   refine ⟨_, rfl, ?_⟩
   refine x_done <| ?_
   replace hFL3 := bd_s hFL3; obtain ⟨oc30, hFc30, hFL3⟩ := hFL3
   refine x_join (fun E w => ∃ (q1v : Option Addr) (q1w : Nat) (c_b7_1_c30 : Nat) (q1j : List Value) (q1x : Int) (q29 : List T_clocks_Input), (q1x, q29) = oc30 ∧ E 0 = .pointer (some ⟨q9, 0, none⟩) ∧ E 2 = .bool paths2 ∧ E 4 = .pointer (some ⟨b4, 0, none⟩) ∧ E 6 = .pointer (some ⟨b6, 0, none⟩) ∧ E 7 = .pointer (some ⟨b7, 0, none⟩) ∧ E 23 = .slice q0q n1.In.length c_n1_0 ∧ E 24 = .int .i64 (n1.In.length : Int) ∧ E 25 = .int .i64 q2j ∧ RepL R_clocks_Input ρ q29 q1j ∧ St w0 w (cells q9 25 [.slice q0c s0.L.length c_s0_0, .int .i64 q1x] :: cells b4 30 [.slice q0q n1.In.length c_n1_0, .slice q0r n1.Out.length c_n1_1, .slice q0x n1.Flops.length c_n1_2, .slice q10 n1.Gates.length c_n1_3, .slice q11 n1.Outs.length c_n1_4] :: cells b6 56 [.int .i64 0, .slice none 0 0, .slice none 0 0, .slice none 0 0] :: cells b7 56 [.int .i64 q0j.1, .slice q1v q1w c_b7_1_c30, .slice none 0 0, .slice none 0 0] :: vec 156 R_clocks_Input.sz (.slice q1v q1w c_b7_1_c30) q1w q1j :: ro ρ :: l)) ?_ ?_
   ·refine x_cond (t := q60.1) rfl (fun hc30 => ?_) (fun hc30 => ?_)
    ·replace hFc30 := it_t hc30 hFc30
     replace hFc30 := bd_s hFc30; obtain ⟨q0l, q83, hFc30⟩ := hFc30
     replace hFc30 := lv_s hFc30; obtain ⟨q1d, q84, hFc30⟩ := hFc30
     replace hFc30 := ck_s hFc30; obtain ⟨q85, hFc30⟩ := hFc30
     refine x_par (w0 := w0) [⟨[], [], [31], [], [], []⟩, ⟨[0], [0], [32], [0], [], []⟩, ⟨[], [], [33], [], [], []⟩, ⟨[], [], [34], [], [], []⟩, ⟨[3], [3], [35], [2], [1], [3]⟩, ⟨[2, 3, 4], [2, 4], [36], [], [], []⟩, ⟨[2, 3, 4, 5], [5], [37], [], [], [4]⟩, ⟨[0, 1, 2, 3, 4, 5, 6], [1, 6], [38], [4, 2], [5], [6]⟩, ⟨[0, 1, 2, 3, 4, 5, 6, 7], [], [39], [], [], []⟩, ⟨[0, 1, 2, 3, 4, 5, 6, 7, 8], [7, 8], [], [], [0], [7]⟩] [⟨none, (some 9), []⟩, ⟨none, (some 4), []⟩, ⟨none, none, []⟩, ⟨(some 4), none, []⟩, ⟨(some 6), none, [37]⟩, ⟨none, (some 7), []⟩, ⟨(some 7), none, [38]⟩, ⟨(some 9), none, [38]⟩] [31, 32, 33, 34, 35, 36, 37, 38, 39] [0, 1, 2, 5] [2, 3, 4, 6, 7] [0, 1, 2, 3, 4, 5, 6, 7, 8] [fun Ep6 => Ep6 31 = .pointer (some ⟨b7, 1, none⟩), fun Ep6 => Ep6 32 = .slice q0k q0g.length c_b7_1_L3h, fun Ep6 => Ep6 33 = .string x28, fun Ep6 => Ep6 34 = .pointer (some ⟨q9, 0, none⟩), fun Ep6 => Ep6 35 = .agg #[.int .i64 q0l.1.Lo, .int .i64 q0l.1.Hi], fun Ep6 => Ep6 36 = .agg #[.string x28, .int .i64 q0l.1.Lo, .int .i64 q0l.1.Hi], fun Ep6 => Ep6 37 = .slice (some ⟨(blkOf (Ep6 37)), 0, none⟩) 1 1, fun Ep6 => Ep6 38 = .slice (adOf (Ep6 38)) q1d.length (capOf (Ep6 38)), fun Ep6 => Ep6 39 = .pointer (some ⟨b7, 1, none⟩), fun Ep6 => True] [fun Ep6 => cells b7 56 [.int .i64 q0j.1, .slice q0k q0g.length c_b7_1_L3h, .slice none 0 0, .slice none 0 0], fun Ep6 => cells q9 25 [.slice q0c s0.L.length c_s0_0, .int .i64 q60.2], fun Ep6 => ro ρ, fun Ep6 => cells q9 25 [.slice q0c s0.L.length c_s0_0, .int .i64 q0l.2], fun Ep6 => cells (blkOf (Ep6 37)) 156 [.string x28, .int .i64 q0l.1.Lo, .int .i64 q0l.1.Hi], fun Ep6 => vec 156 R_clocks_Input.sz (.slice q0k q0g.length c_b7_1_L3h) q0g.length q14, fun Ep6 => bunA (fun (cs38 : List Value) => RepL R_clocks_Input ρ q1d cs38) (fun (cs38 : List Value) => [vec 156 R_clocks_Input.sz (.slice (adOf (Ep6 38)) q1d.length (capOf (Ep6 38))) q1d.length cs38]), fun Ep6 => cells b7 56 [.int .i64 q0j.1, .slice (adOf (Ep6 38)) q1d.length (capOf (Ep6 38)), .slice none 0 0, .slice none 0 0]] mixed (by kernel_rfl) ((((hS.pull 5).pull 2).pull 2).pull 5) ?_ ?_
     ·refine ⟨?_, ?_, ?_, ?_, ?_, ?_, ?_, ?_, ?_, ?_, trivial⟩
      ·intro Ep6 w l' hE6 hO6 hF_ hS
       refine p (yl_field0 fld_56_1 ((hE6 7 rfl).trans q39)) <| x_done <| ?_
       refine x_fin ⟨⟨_, rfl⟩, rfl, ?_⟩
       exact Eq.mp (by kernel_rfl) hS
      ·intro Ep6 w l' hE6 hO6 hF_ hS
       obtain ⟨q50, -⟩ := hF_
       replace q50 : Ep6 31 = .pointer (some ⟨b7, 1, none⟩) := Eq.mp (by kernel_rfl) q50
       replace hS : St w0 w (cells b7 56 [.int .i64 q0j.1, .slice q0k q0g.length c_b7_1_L3h, .slice none 0 0, .slice none 0 0] :: l') := Eq.mp (by kernel_rfl) hS
       refine pa (at_load one_52 q50 (hS.cell rfl)) <| x_done <| ?_
       refine x_fin ⟨⟨_, rfl⟩, rfl, ?_⟩
       exact Eq.mp (by kernel_rfl) hS
      ·intro Ep6 w l' hE6 hO6 hF_ hS
       refine p (yl_move (hE6 9 rfl)) <| x_done <| ?_
       refine x_fin ⟨⟨_, rfl⟩, rfl, ?_⟩
       exact Eq.mp (by kernel_rfl) hS
      ·intro Ep6 w l' hE6 hO6 hF_ hS
       refine p (yl_move ((hE6 0 rfl).trans q38)) <| x_done <| ?_
       refine x_fin ⟨⟨_, rfl⟩, rfl, ?_⟩
       exact Eq.mp (by kernel_rfl) hS
      ·intro Ep6 w l' hE6 hO6 hF_ hS
       obtain ⟨q51, -⟩ := hF_
       replace q51 : Ep6 34 = .pointer (some ⟨q9, 0, none⟩) := Eq.mp (by kernel_rfl) q51
       replace hS : St w0 w (ro ρ :: cells q9 25 [.slice q0c s0.L.length c_s0_0, .int .i64 q60.2] :: l') := Eq.mp (by kernel_rfl) hS
       have hcall := c_maskmake_Stream_window q83 q1c (hS.pull 1)
       refine o_cc call_72 (args2 q51 rfl) hcall ?_
       rintro e w' ⟨rfl, hS⟩
       refine ⟨_, rfl, ?_⟩
       refine x_done <| ?_
       refine x_fin ⟨⟨_, rfl⟩, rfl, ?_⟩
       exact Eq.mp (by kernel_rfl) (hS.pull 1)
      ·intro Ep6 w l' hE6 hO6 hF_ hS
       obtain ⟨q52, q53, -⟩ := hF_
       replace q52 : Ep6 33 = .string x28 := Eq.mp (by kernel_rfl) q52
       replace q53 : Ep6 35 = .agg #[.int .i64 q0l.1.Lo, .int .i64 q0l.1.Hi] := Eq.mp (by kernel_rfl) q53
       refine p (v := .agg #[.string x28, .int .i64 q0l.1.Lo, .int .i64 q0l.1.Hi]) (yl_build bld_156 bldf_156 (parts_eq (pt (va := .string x28) q52 (pt (va := .agg #[.int .i64 q0l.1.Lo, .int .i64 q0l.1.Hi]) q53 pt0))) (by kernel_rfl)) <| x_done <| ?_
       refine x_fin ⟨⟨_, rfl⟩, rfl, ?_⟩
       exact Eq.mp (by kernel_rfl) hS
      ·intro Ep6 w l' hE6 hO6 hF_ hS
       obtain ⟨q54, -⟩ := hF_
       replace q54 : Ep6 36 = .agg #[.string x28, .int .i64 q0l.1.Lo, .int .i64 q0l.1.Hi] := Eq.mp (by kernel_rfl) q54
       refine o_buildSlice (vs := [.agg #[.string x28, .int .i64 q0l.1.Lo, .int .i64 q0l.1.Hi]]) (cs := [.string x28, .int .i64 q0l.1.Lo, .int .i64 q0l.1.Hi]) sl_52 zero_156 (parts_eq (pt (va := .agg #[.string x28, .int .i64 q0l.1.Lo, .int .i64 q0l.1.Hi]) q54 pt0)) rfl (by intro v hv; simp only [List.mem_cons, List.not_mem_nil, or_false] at hv; first | (subst hv; rfl) | (rcases hv with rfl <;> rfl)) (by decide) rfl hS (fun b37 w' hS => ?_)
       refine x_done <| ?_
       refine x_fin ⟨⟨_, rfl⟩, rfl, ?_⟩
       exact Eq.mp (by kernel_rfl) hS
      ·intro Ep6 w l' hE6 hO6 hF_ hS
       obtain ⟨q55, q56, -⟩ := hF_
       replace q55 : Ep6 32 = .slice q0k q0g.length c_b7_1_L3h := Eq.mp (by kernel_rfl) q55
       replace q56 : Ep6 37 = .slice (some ⟨(blkOf (Ep6 37)), 0, none⟩) 1 1 := Eq.mp (by kernel_rfl) q56
       replace hS : St w0 w (cells (blkOf (Ep6 37)) 156 [.string x28, .int .i64 q0l.1.Lo, .int .i64 q0l.1.Hi] :: ro ρ :: vec 156 R_clocks_Input.sz (.slice q0k q0g.length c_b7_1_L3h) q0g.length q14 :: l') := Eq.mp (by kernel_rfl) hS
       refine o_ap sl_52 zero_156 rfl (by decide) q55 q56 (hS.pull 2) q1u (src_blk usl_52 hS rfl rfl) (RepL.cons (R := R_clocks_Input) (ρ := ρ) (x := (T_clocks_Input.mk x28 q0l.1)) (cs := [.string x28, .int .i64 q0l.1.Lo, .int .i64 q0l.1.Hi]) rfl RepL.nil) q84 q85 (fun A38 c38 cs38 w' hr38 hS => ?_)
       refine x_done <| ?_
       refine x_fin ⟨⟨_, rfl⟩, rfl, ?_⟩
       replace hS := St.bun (Φ := (fun (cs38 : List Value) => RepL R_clocks_Input ρ q1d cs38)) (L := (fun (cs38 : List Value) => [vec 156 R_clocks_Input.sz (.slice A38 q1d.length c38) q1d.length cs38])) cs38 hr38 hS
       exact Eq.mp (by kernel_rfl) ((hS.pull 2).pull 2)
      ·intro Ep6 w l' hE6 hO6 hF_ hS
       refine p (yl_field0 fld_56_1 ((hE6 7 rfl).trans q39)) <| x_done <| ?_
       refine x_fin ⟨⟨_, rfl⟩, rfl, ?_⟩
       exact Eq.mp (by kernel_rfl) hS
      ·intro Ep6 w l' hE6 hO6 hF_ hS
       obtain ⟨q57, q58, -⟩ := hF_
       replace q57 : Ep6 38 = .slice (adOf (Ep6 38)) q1d.length (capOf (Ep6 38)) := Eq.mp (by kernel_rfl) q57
       replace q58 : Ep6 39 = .pointer (some ⟨b7, 1, none⟩) := Eq.mp (by kernel_rfl) q58
       replace hS : St w0 w (cells b7 56 [.int .i64 q0j.1, .slice q0k q0g.length c_b7_1_L3h, .slice none 0 0, .slice none 0 0] :: l') := Eq.mp (by kernel_rfl) hS
       refine o_store1 (v := .slice (adOf (Ep6 38)) q1d.length (capOf (Ep6 38))) one_52 q58 q57 rfl rfl hS (fun w' hS => ?_)
       refine x_done <| ?_
       refine x_fin ⟨⟨undef, rfl⟩, trivial, ?_⟩
       exact Eq.mp (by kernel_rfl) hS
     intro Ep6 w' hE6 hF_ hS
     obtain ⟨q50, q55, q52, q51, q53, q54, q56, q57, q58, -⟩ := hF_
     replace q50 : Ep6 31 = .pointer (some ⟨b7, 1, none⟩) := Eq.mp (by kernel_rfl) q50
     replace q55 : Ep6 32 = .slice q0k q0g.length c_b7_1_L3h := Eq.mp (by kernel_rfl) q55
     replace q52 : Ep6 33 = .string x28 := Eq.mp (by kernel_rfl) q52
     replace q51 : Ep6 34 = .pointer (some ⟨q9, 0, none⟩) := Eq.mp (by kernel_rfl) q51
     replace q53 : Ep6 35 = .agg #[.int .i64 q0l.1.Lo, .int .i64 q0l.1.Hi] := Eq.mp (by kernel_rfl) q53
     replace q54 : Ep6 36 = .agg #[.string x28, .int .i64 q0l.1.Lo, .int .i64 q0l.1.Hi] := Eq.mp (by kernel_rfl) q54
     replace q56 : Ep6 37 = .slice (some ⟨(blkOf (Ep6 37)), 0, none⟩) 1 1 := Eq.mp (by kernel_rfl) q56
     replace q57 : Ep6 38 = .slice (adOf (Ep6 38)) q1d.length (capOf (Ep6 38)) := Eq.mp (by kernel_rfl) q57
     replace q58 : Ep6 39 = .pointer (some ⟨b7, 1, none⟩) := Eq.mp (by kernel_rfl) q58
     replace hS : St w0 w' (ro ρ :: cells q9 25 [.slice q0c s0.L.length c_s0_0, .int .i64 q0l.2] :: cells (blkOf (Ep6 37)) 156 [.string x28, .int .i64 q0l.1.Lo, .int .i64 q0l.1.Hi] :: bunA (fun (cs38 : List Value) => RepL R_clocks_Input ρ q1d cs38) (fun (cs38 : List Value) => [vec 156 R_clocks_Input.sz (.slice (adOf (Ep6 38)) q1d.length (capOf (Ep6 38))) q1d.length cs38]) :: cells b7 56 [.int .i64 q0j.1, .slice (adOf (Ep6 38)) q1d.length (capOf (Ep6 38)), .slice none 0 0, .slice none 0 0] :: (cells b4 30 [.slice q0q n1.In.length c_n1_0, .slice q0r n1.Out.length c_n1_1, .slice q0x n1.Flops.length c_n1_2, .slice q10 n1.Gates.length c_n1_3, .slice q11 n1.Outs.length c_n1_4] :: cells b6 56 [.int .i64 0, .slice none 0 0, .slice none 0 0, .slice none 0 0] :: l)) := Eq.mp (by kernel_rfl) hS
     have q_ := St.unbun (hS.pull 3); obtain ⟨cs38, hr38, hS⟩ := q_
     exact x_inv ⟨(adOf (Ep6 38)), q1d.length, (capOf (Ep6 38)), cs38, q0l.2, q1d, (Option.some.inj (show some _ = some _ from hFc30)), ((hE6 0 rfl).trans q38), ((hE6 2 rfl).trans q5j), ((hE6 4 rfl).trans q5k), ((hE6 6 rfl).trans q5l), ((hE6 7 rfl).trans q39), ((hE6 23 rfl).trans q4y), ((hE6 24 rfl).trans q4z), ((hE6 25 rfl).trans q3c), hr38, (((((((hS.pull 3).drop.pull 1).pull 1).pull 3).pull 5).pull 5).pull 5)⟩
    ·replace hFc30 := it_bf hc30 hFc30
     refine x_skip <| ?_
     exact x_inv ⟨q0k, q0g.length, c_b7_1_L3h, q14, q60.2, q0g, (Option.some.inj (show some _ = some _ from hFc30)), q38, q5j, q5k, q5l, q39, q4y, q4z, q3c, q1u, ((((((hS.pull 1).pull 5).pull 5).pull 5).pull 5).pull 5)⟩
   rintro E w ⟨q1v, q1w, c_b7_1_c30, q1j, q1x, q29, rfl, q6z, q70, q71, q72, q73, q6h, q6i, q6j, q4s, hS⟩
   have e_ := St.vec_n (hS.pull 4) q4s; subst e_
   replace hFL3 := ar_s hFL3; obtain ⟨x40, hx40, hFL3⟩ := hFL3
   refine x_blk <| x_region <| p (yadd q6j rfl hx40) <| p (yl_move rfl) <|
    x_done <| ?_
   have e_ := Option.some.inj (show some _ = some _ from hFL3); subst e_
   exact x_inv ⟨kL3, Nat.lt_succ_self _, q1v, q29.length, c_b7_1_c30, q1j, x40, q1x, q29, hLL3, q6z, q70, q71, q72, q73, q6h, q6i, rfl, q4s, ((((((hS.pull 5).pull 5).pull 5).pull 5).pull 5).pull 5)⟩
  ·replace hFL3 := it_f hc26 hFL3
   refine x_exitTo _ rfl <| ?_
   have e_ := Option.some.inj (show some _ = some _ from hFL3); subst e_
   exact x_inv ⟨q0k, q0g.length, c_b7_1_L3h, q14, q1t, q0g, hLL3, q38, q5j, q5k, q5l, q39, q1u, ((((((hS.pull 5).pull 5).pull 5).pull 5).pull 5).pull 5)⟩
 rintro E w ⟨q3, q2e, c_b7_1_L3, q0d, q2f, q2, rfl, q86, q87, q6g, q88, q89, q5e, hS⟩
 have e_ := St.vec_n (hS.pull 4) q5e; subst e_
 refine x_seq <| x_seq <| x_region <| p (yl_field0 fld_30_1 q6g) <|
  pa (at_load one_26 rfl ((hS.pull 1).cell rfl)) <| p (yl_len_slice usl_26 rfl) <| p (yl_move rfl) <| x_done <| ?_
 replace hF := bd_s hF; obtain ⟨oL9, hLL9, hF⟩ := hF
 refine x_join (fun E w => ∃ (q8 : Option Addr) (q2g : Nat) (c_b7_2_L9 : Nat) (q0n : List Value) (q1e : Int) (q7 : List T_clocks_Output), (q1e, q7) = oL9 ∧ E 0 = .pointer (some ⟨q9, 0, none⟩) ∧ E 2 = .bool paths2 ∧ E 4 = .pointer (some ⟨b4, 0, none⟩) ∧ E 6 = .pointer (some ⟨b6, 0, none⟩) ∧ E 7 = .pointer (some ⟨b7, 0, none⟩) ∧ RepL R_clocks_Output ρ q7 q0n ∧ St w0 w (cells q9 25 [.slice q0c s0.L.length c_s0_0, .int .i64 q1e] :: cells b4 30 [.slice q0q n1.In.length c_n1_0, .slice q0r n1.Out.length c_n1_1, .slice q0x n1.Flops.length c_n1_2, .slice q10 n1.Gates.length c_n1_3, .slice q11 n1.Outs.length c_n1_4] :: cells b6 56 [.int .i64 0, .slice none 0 0, .slice none 0 0, .slice none 0 0] :: cells b7 56 [.int .i64 q0j.1, .slice q3 q2.length c_b7_1_L3, .slice q8 q2g c_b7_2_L9, .slice none 0 0] :: vec 156 R_clocks_Input.sz (.slice q3 q2.length c_b7_1_L3) q2.length q0d :: vec 158 R_clocks_Output.sz (.slice q8 q2g c_b7_2_L9) q2g q0n :: ro ρ :: l)) ?_ ?_
 ·refine x_block ?_
  replace hS := St.vec_nil hS 158 R_clocks_Output.sz
  have q4t : RepL R_clocks_Output ρ [] [] := rfl
  refine x_loop (fun k_ E w => ∃ (q0m : Option Addr) (q1y : Nat) (c_b7_2_L9h : Nat) (q15 : List Value) (q2k : Int) (q1z : Int) (q0h : List T_clocks_Output), lp (P_maskmake_Stream_Limits_L9 s0 n1) k_ (q2k, q1z, q0h) = some oL9 ∧ E 0 = .pointer (some ⟨q9, 0, none⟩) ∧ E 2 = .bool paths2 ∧ E 4 = .pointer (some ⟨b4, 0, none⟩) ∧ E 6 = .pointer (some ⟨b6, 0, none⟩) ∧ E 7 = .pointer (some ⟨b7, 0, none⟩) ∧ E 42 = .slice q0r n1.Out.length c_n1_1 ∧ E 43 = .int .i64 (n1.Out.length : Int) ∧ E 44 = .int .i64 q2k ∧ RepL R_clocks_Output ρ q0h q15 ∧ St w0 w (cells q9 25 [.slice q0c s0.L.length c_s0_0, .int .i64 q1z] :: cells b4 30 [.slice q0q n1.In.length c_n1_0, .slice q0r n1.Out.length c_n1_1, .slice q0x n1.Flops.length c_n1_2, .slice q10 n1.Gates.length c_n1_3, .slice q11 n1.Outs.length c_n1_4] :: cells b6 56 [.int .i64 0, .slice none 0 0, .slice none 0 0, .slice none 0 0] :: cells b7 56 [.int .i64 q0j.1, .slice q3 q2.length c_b7_1_L3, .slice q0m q1y c_b7_2_L9h, .slice none 0 0] :: vec 156 R_clocks_Input.sz (.slice q3 q2.length c_b7_1_L3) q2.length q0d :: vec 158 R_clocks_Output.sz (.slice q0m q1y c_b7_2_L9h) q1y q15 :: ro ρ :: l)) fuel ⟨none, 0, 0, [], 0, q2f, [], hLL9, q86, q87, q6g, q88, q89, rfl, rfl, rfl, q4t, (((((((hS.pull 6).pull 1).pull 6).pull 6).pull 6).pull 6).pull 6)⟩ ?_
  rintro kL9 E w ⟨q0m, q1y, c_b7_2_L9h, q15, q2k, q1z, q0h, hLL9, q3a, q5m, q5n, q5o, q3b, q59, q5a, q3d, q20, hS⟩
  have e_ := St.vec_n (hS.pull 5) q20; subst e_
  replace hLL9 := lp_s hLL9; obtain ⟨kL9, obL9, rfl, hFL9, hLL9⟩ := hLL9
  refine x_seq <| x_region <| p (yl_lss q3d q5a) <| x_done <|
   x_seq <|
   x_cond_p (q2k < (n1.Out.length : Int)) rfl (fun hc45 => ?_) (fun hc45 => ?_)
  ·replace hFL9 := it_t hc45 hFL9
   replace hFL9 := ck_s hFL9; obtain ⟨q69, hFL9⟩ := hFL9
   replace hFL9 := lv_s hFL9; obtain ⟨x47, hx47, hFL9⟩ := hFL9
   replace hFL9 := bd_s hFL9; obtain ⟨q5g, q74, hFL9⟩ := hFL9
   refine x_skip <| x_seq <| x_block <| x_seq <|
    x_region <| p (yix_f sl_26 q59 q3d q4n q69) <| pa (at_load one_9 rfl (RdS.getW q4n (hS.pull 6) q69 hx47)) <| p (yl_assign rfl) <|
    x_done <| x_seq <| x_region <| p (yl_move q3a) <| ?_
   have hcall := c_maskmake_Stream_Flip q74 q1c ((hS.pull 6).pull 1)
   refine o_cc call_71 (args2 rfl rfl) hcall ?_
   rintro e w' ⟨rfl, hS⟩
   refine ⟨_, rfl, ?_⟩
   refine x_done <| ?_
   replace hFL9 := bd_s hFL9; obtain ⟨oc49, hFc49, hFL9⟩ := hFL9
   refine x_join (fun E w => ∃ (q21 : Option Addr) (q22 : Nat) (c_b7_2_c49 : Nat) (q1k : List Value) (q23 : Int) (q2a : List T_clocks_Output), (q23, q2a) = oc49 ∧ E 0 = .pointer (some ⟨q9, 0, none⟩) ∧ E 2 = .bool paths2 ∧ E 4 = .pointer (some ⟨b4, 0, none⟩) ∧ E 6 = .pointer (some ⟨b6, 0, none⟩) ∧ E 7 = .pointer (some ⟨b7, 0, none⟩) ∧ E 42 = .slice q0r n1.Out.length c_n1_1 ∧ E 43 = .int .i64 (n1.Out.length : Int) ∧ E 44 = .int .i64 q2k ∧ RepL R_clocks_Output ρ q2a q1k ∧ St w0 w (cells q9 25 [.slice q0c s0.L.length c_s0_0, .int .i64 q23] :: cells b4 30 [.slice q0q n1.In.length c_n1_0, .slice q0r n1.Out.length c_n1_1, .slice q0x n1.Flops.length c_n1_2, .slice q10 n1.Gates.length c_n1_3, .slice q11 n1.Outs.length c_n1_4] :: cells b6 56 [.int .i64 0, .slice none 0 0, .slice none 0 0, .slice none 0 0] :: cells b7 56 [.int .i64 q0j.1, .slice q3 q2.length c_b7_1_L3, .slice q21 q22 c_b7_2_c49, .slice none 0 0] :: vec 156 R_clocks_Input.sz (.slice q3 q2.length c_b7_1_L3) q2.length q0d :: vec 158 R_clocks_Output.sz (.slice q21 q22 c_b7_2_c49) q22 q1k :: ro ρ :: l)) ?_ ?_
   ·refine x_cond (t := q5g.1) rfl (fun hc49 => ?_) (fun hc49 => ?_)
    ·replace hFc49 := it_t hc49 hFc49
     replace hFc49 := bd_s hFc49; obtain ⟨q0y, q75, hFc49⟩ := hFc49
     replace hFc49 := lv_s hFc49; obtain ⟨q13, q76, hFc49⟩ := hFc49
     replace hFc49 := ck_s hFc49; obtain ⟨q77, hFc49⟩ := hFc49
     refine x_par (w0 := w0) [⟨[], [], [50], [], [], []⟩, ⟨[0], [0], [51], [0], [], []⟩, ⟨[], [], [52], [], [], []⟩, ⟨[], [], [53], [], [], []⟩, ⟨[3], [3], [54], [2], [1], [3]⟩, ⟨[2, 3, 4], [2, 4], [55], [], [], []⟩, ⟨[2, 3, 4, 5], [5], [56], [], [], [4]⟩, ⟨[0, 1, 2, 3, 4, 5, 6], [1, 6], [57], [4, 2], [5], [6]⟩, ⟨[0, 1, 2, 3, 4, 5, 6, 7], [], [58], [], [], []⟩, ⟨[0, 1, 2, 3, 4, 5, 6, 7, 8], [7, 8], [], [], [0], [7]⟩] [⟨none, (some 9), []⟩, ⟨none, (some 4), []⟩, ⟨none, none, []⟩, ⟨(some 4), none, []⟩, ⟨(some 6), none, [56]⟩, ⟨none, (some 7), []⟩, ⟨(some 7), none, [57]⟩, ⟨(some 9), none, [57]⟩] [50, 51, 52, 53, 54, 55, 56, 57, 58] [0, 1, 2, 5] [2, 3, 4, 6, 7] [0, 1, 2, 3, 4, 5, 6, 7, 8] [fun Ep12 => Ep12 50 = .pointer (some ⟨b7, 2, none⟩), fun Ep12 => Ep12 51 = .slice q0m q0h.length c_b7_2_L9h, fun Ep12 => Ep12 52 = .string x47, fun Ep12 => Ep12 53 = .pointer (some ⟨q9, 0, none⟩), fun Ep12 => Ep12 54 = .int .i64 q0y.1, fun Ep12 => Ep12 55 = .agg #[.string x47, .int .i64 q0y.1], fun Ep12 => Ep12 56 = .slice (some ⟨(blkOf (Ep12 56)), 0, none⟩) 1 1, fun Ep12 => Ep12 57 = .slice (adOf (Ep12 57)) q13.length (capOf (Ep12 57)), fun Ep12 => Ep12 58 = .pointer (some ⟨b7, 2, none⟩), fun Ep12 => True] [fun Ep12 => cells b7 56 [.int .i64 q0j.1, .slice q3 q2.length c_b7_1_L3, .slice q0m q0h.length c_b7_2_L9h, .slice none 0 0], fun Ep12 => cells q9 25 [.slice q0c s0.L.length c_s0_0, .int .i64 q5g.2], fun Ep12 => ro ρ, fun Ep12 => cells q9 25 [.slice q0c s0.L.length c_s0_0, .int .i64 q0y.2], fun Ep12 => cells (blkOf (Ep12 56)) 158 [.string x47, .int .i64 q0y.1], fun Ep12 => vec 158 R_clocks_Output.sz (.slice q0m q0h.length c_b7_2_L9h) q0h.length q15, fun Ep12 => bunA (fun (cs57 : List Value) => RepL R_clocks_Output ρ q13 cs57) (fun (cs57 : List Value) => [vec 158 R_clocks_Output.sz (.slice (adOf (Ep12 57)) q13.length (capOf (Ep12 57))) q13.length cs57]), fun Ep12 => cells b7 56 [.int .i64 q0j.1, .slice q3 q2.length c_b7_1_L3, .slice (adOf (Ep12 57)) q13.length (capOf (Ep12 57)), .slice none 0 0]] mixed (by kernel_rfl) ((((hS.pull 6).pull 2).pull 2).pull 5) ?_ ?_
     ·refine ⟨?_, ?_, ?_, ?_, ?_, ?_, ?_, ?_, ?_, ?_, trivial⟩
      ·intro Ep12 w l' hE12 hO12 hF_ hS
       refine p (yl_field0 fld_56_2 ((hE12 7 rfl).trans q3b)) <| x_done <| ?_
       refine x_fin ⟨⟨_, rfl⟩, rfl, ?_⟩
       exact Eq.mp (by kernel_rfl) hS
      ·intro Ep12 w l' hE12 hO12 hF_ hS
       obtain ⟨q3e, -⟩ := hF_
       replace q3e : Ep12 50 = .pointer (some ⟨b7, 2, none⟩) := Eq.mp (by kernel_rfl) q3e
       replace hS : St w0 w (cells b7 56 [.int .i64 q0j.1, .slice q3 q2.length c_b7_1_L3, .slice q0m q0h.length c_b7_2_L9h, .slice none 0 0] :: l') := Eq.mp (by kernel_rfl) hS
       refine pa (at_load one_53 q3e (hS.cell rfl)) <| x_done <| ?_
       refine x_fin ⟨⟨_, rfl⟩, rfl, ?_⟩
       exact Eq.mp (by kernel_rfl) hS
      ·intro Ep12 w l' hE12 hO12 hF_ hS
       refine p (yl_move (hE12 11 rfl)) <| x_done <| ?_
       refine x_fin ⟨⟨_, rfl⟩, rfl, ?_⟩
       exact Eq.mp (by kernel_rfl) hS
      ·intro Ep12 w l' hE12 hO12 hF_ hS
       refine p (yl_move ((hE12 0 rfl).trans q3a)) <| x_done <| ?_
       refine x_fin ⟨⟨_, rfl⟩, rfl, ?_⟩
       exact Eq.mp (by kernel_rfl) hS
      ·intro Ep12 w l' hE12 hO12 hF_ hS
       obtain ⟨q3f, -⟩ := hF_
       replace q3f : Ep12 53 = .pointer (some ⟨q9, 0, none⟩) := Eq.mp (by kernel_rfl) q3f
       replace hS : St w0 w (ro ρ :: cells q9 25 [.slice q0c s0.L.length c_s0_0, .int .i64 q5g.2] :: l') := Eq.mp (by kernel_rfl) hS
       have hcall := c_maskmake_Stream_Range q75 q1c (hS.pull 1)
       refine o_cc call_24 (args3 q3f rfl rfl) hcall ?_
       rintro e w' ⟨rfl, hS⟩
       refine ⟨_, rfl, ?_⟩
       refine x_done <| ?_
       refine x_fin ⟨⟨_, rfl⟩, rfl, ?_⟩
       exact Eq.mp (by kernel_rfl) (hS.pull 1)
      ·intro Ep12 w l' hE12 hO12 hF_ hS
       obtain ⟨q3g, q3h, -⟩ := hF_
       replace q3g : Ep12 52 = .string x47 := Eq.mp (by kernel_rfl) q3g
       replace q3h : Ep12 54 = .int .i64 q0y.1 := Eq.mp (by kernel_rfl) q3h
       refine p (v := .agg #[.string x47, .int .i64 q0y.1]) (yl_build bld_158 bldf_158 (parts_eq (pt (va := .string x47) q3g (pt (va := .int .i64 q0y.1) q3h pt0))) (by kernel_rfl)) <| x_done <| ?_
       refine x_fin ⟨⟨_, rfl⟩, rfl, ?_⟩
       exact Eq.mp (by kernel_rfl) hS
      ·intro Ep12 w l' hE12 hO12 hF_ hS
       obtain ⟨q3i, -⟩ := hF_
       replace q3i : Ep12 55 = .agg #[.string x47, .int .i64 q0y.1] := Eq.mp (by kernel_rfl) q3i
       refine o_buildSlice (vs := [.agg #[.string x47, .int .i64 q0y.1]]) (cs := [.string x47, .int .i64 q0y.1]) sl_53 zero_158 (parts_eq (pt (va := .agg #[.string x47, .int .i64 q0y.1]) q3i pt0)) rfl (by intro v hv; simp only [List.mem_cons, List.not_mem_nil, or_false] at hv; first | (subst hv; rfl) | (rcases hv with rfl <;> rfl)) (by decide) rfl hS (fun b56 w' hS => ?_)
       refine x_done <| ?_
       refine x_fin ⟨⟨_, rfl⟩, rfl, ?_⟩
       exact Eq.mp (by kernel_rfl) hS
      ·intro Ep12 w l' hE12 hO12 hF_ hS
       obtain ⟨q3j, q3k, -⟩ := hF_
       replace q3j : Ep12 51 = .slice q0m q0h.length c_b7_2_L9h := Eq.mp (by kernel_rfl) q3j
       replace q3k : Ep12 56 = .slice (some ⟨(blkOf (Ep12 56)), 0, none⟩) 1 1 := Eq.mp (by kernel_rfl) q3k
       replace hS : St w0 w (cells (blkOf (Ep12 56)) 158 [.string x47, .int .i64 q0y.1] :: ro ρ :: vec 158 R_clocks_Output.sz (.slice q0m q0h.length c_b7_2_L9h) q0h.length q15 :: l') := Eq.mp (by kernel_rfl) hS
       refine o_ap sl_53 zero_158 rfl (by decide) q3j q3k (hS.pull 2) q20 (src_blk usl_53 hS rfl rfl) (RepL.cons (R := R_clocks_Output) (ρ := ρ) (x := (T_clocks_Output.mk x47 q0y.1)) (cs := [.string x47, .int .i64 q0y.1]) rfl RepL.nil) q76 q77 (fun A57 c57 cs57 w' hr57 hS => ?_)
       refine x_done <| ?_
       refine x_fin ⟨⟨_, rfl⟩, rfl, ?_⟩
       replace hS := St.bun (Φ := (fun (cs57 : List Value) => RepL R_clocks_Output ρ q13 cs57)) (L := (fun (cs57 : List Value) => [vec 158 R_clocks_Output.sz (.slice A57 q13.length c57) q13.length cs57])) cs57 hr57 hS
       exact Eq.mp (by kernel_rfl) ((hS.pull 2).pull 2)
      ·intro Ep12 w l' hE12 hO12 hF_ hS
       refine p (yl_field0 fld_56_2 ((hE12 7 rfl).trans q3b)) <| x_done <| ?_
       refine x_fin ⟨⟨_, rfl⟩, rfl, ?_⟩
       exact Eq.mp (by kernel_rfl) hS
      ·intro Ep12 w l' hE12 hO12 hF_ hS
       obtain ⟨q3l, q3m, -⟩ := hF_
       replace q3l : Ep12 57 = .slice (adOf (Ep12 57)) q13.length (capOf (Ep12 57)) := Eq.mp (by kernel_rfl) q3l
       replace q3m : Ep12 58 = .pointer (some ⟨b7, 2, none⟩) := Eq.mp (by kernel_rfl) q3m
       replace hS : St w0 w (cells b7 56 [.int .i64 q0j.1, .slice q3 q2.length c_b7_1_L3, .slice q0m q0h.length c_b7_2_L9h, .slice none 0 0] :: l') := Eq.mp (by kernel_rfl) hS
       refine o_store1 (v := .slice (adOf (Ep12 57)) q13.length (capOf (Ep12 57))) one_53 q3m q3l rfl rfl hS (fun w' hS => ?_)
       refine x_done <| ?_
       refine x_fin ⟨⟨undef, rfl⟩, trivial, ?_⟩
       exact Eq.mp (by kernel_rfl) hS
     intro Ep12 w' hE12 hF_ hS
     obtain ⟨q3e, q3j, q3g, q3f, q3h, q3i, q3k, q3l, q3m, -⟩ := hF_
     replace q3e : Ep12 50 = .pointer (some ⟨b7, 2, none⟩) := Eq.mp (by kernel_rfl) q3e
     replace q3j : Ep12 51 = .slice q0m q0h.length c_b7_2_L9h := Eq.mp (by kernel_rfl) q3j
     replace q3g : Ep12 52 = .string x47 := Eq.mp (by kernel_rfl) q3g
     replace q3f : Ep12 53 = .pointer (some ⟨q9, 0, none⟩) := Eq.mp (by kernel_rfl) q3f
     replace q3h : Ep12 54 = .int .i64 q0y.1 := Eq.mp (by kernel_rfl) q3h
     replace q3i : Ep12 55 = .agg #[.string x47, .int .i64 q0y.1] := Eq.mp (by kernel_rfl) q3i
     replace q3k : Ep12 56 = .slice (some ⟨(blkOf (Ep12 56)), 0, none⟩) 1 1 := Eq.mp (by kernel_rfl) q3k
     replace q3l : Ep12 57 = .slice (adOf (Ep12 57)) q13.length (capOf (Ep12 57)) := Eq.mp (by kernel_rfl) q3l
     replace q3m : Ep12 58 = .pointer (some ⟨b7, 2, none⟩) := Eq.mp (by kernel_rfl) q3m
     replace hS : St w0 w' (ro ρ :: cells q9 25 [.slice q0c s0.L.length c_s0_0, .int .i64 q0y.2] :: cells (blkOf (Ep12 56)) 158 [.string x47, .int .i64 q0y.1] :: bunA (fun (cs57 : List Value) => RepL R_clocks_Output ρ q13 cs57) (fun (cs57 : List Value) => [vec 158 R_clocks_Output.sz (.slice (adOf (Ep12 57)) q13.length (capOf (Ep12 57))) q13.length cs57]) :: cells b7 56 [.int .i64 q0j.1, .slice q3 q2.length c_b7_1_L3, .slice (adOf (Ep12 57)) q13.length (capOf (Ep12 57)), .slice none 0 0] :: (cells b4 30 [.slice q0q n1.In.length c_n1_0, .slice q0r n1.Out.length c_n1_1, .slice q0x n1.Flops.length c_n1_2, .slice q10 n1.Gates.length c_n1_3, .slice q11 n1.Outs.length c_n1_4] :: cells b6 56 [.int .i64 0, .slice none 0 0, .slice none 0 0, .slice none 0 0] :: vec 156 R_clocks_Input.sz (.slice q3 q2.length c_b7_1_L3) q2.length q0d :: l)) := Eq.mp (by kernel_rfl) hS
     have q_ := St.unbun (hS.pull 3); obtain ⟨cs57, hr57, hS⟩ := q_
     exact x_inv ⟨(adOf (Ep12 57)), q13.length, (capOf (Ep12 57)), cs57, q0y.2, q13, (Option.some.inj (show some _ = some _ from hFc49)), ((hE12 0 rfl).trans q3a), ((hE12 2 rfl).trans q5m), ((hE12 4 rfl).trans q5n), ((hE12 6 rfl).trans q5o), ((hE12 7 rfl).trans q3b), ((hE12 42 rfl).trans q59), ((hE12 43 rfl).trans q5a), ((hE12 44 rfl).trans q3d), hr57, ((((((((hS.pull 3).drop.pull 1).pull 1).pull 6).pull 4).pull 6).pull 6).pull 6)⟩
    ·replace hFc49 := it_bf hc49 hFc49
     refine x_skip <| ?_
     exact x_inv ⟨q0m, q0h.length, c_b7_2_L9h, q15, q5g.2, q0h, (Option.some.inj (show some _ = some _ from hFc49)), q3a, q5m, q5n, q5o, q3b, q59, q5a, q3d, q20, (((((((hS.pull 1).pull 6).pull 6).pull 6).pull 6).pull 6).pull 6)⟩
   rintro E w ⟨q21, q22, c_b7_2_c49, q1k, q23, q2a, rfl, q78, q79, q7a, q7b, q7c, q6k, q6l, q6m, q4u, hS⟩
   have e_ := St.vec_n (hS.pull 5) q4u; subst e_
   replace hFL9 := ar_s hFL9; obtain ⟨x59, hx59, hFL9⟩ := hFL9
   refine x_blk <| x_region <| p (yadd q6m rfl hx59) <| p (yl_move rfl) <|
    x_done <| ?_
   have e_ := Option.some.inj (show some _ = some _ from hFL9); subst e_
   exact x_inv ⟨kL9, Nat.lt_succ_self _, q21, q2a.length, c_b7_2_c49, q1k, x59, q23, q2a, hLL9, q78, q79, q7a, q7b, q7c, q6k, q6l, rfl, q4u, (((((((hS.pull 6).pull 6).pull 6).pull 6).pull 6).pull 6).pull 6)⟩
  ·replace hFL9 := it_f hc45 hFL9
   refine x_exitTo _ rfl <| ?_
   have e_ := Option.some.inj (show some _ = some _ from hFL9); subst e_
   exact x_inv ⟨q0m, q0h.length, c_b7_2_L9h, q15, q1z, q0h, hLL9, q3a, q5m, q5n, q5o, q3b, q20, (((((((hS.pull 6).pull 6).pull 6).pull 6).pull 6).pull 6).pull 6)⟩
 rintro E w ⟨q8, q2g, c_b7_2_L9, q0n, q1e, q7, rfl, q8a, q8b, q61, q8c, q8d, q5f, hS⟩
 have e_ := St.vec_n (hS.pull 5) q5f; subst e_
 refine x_seq <| ?_
 replace hF := lv_s hF; obtain ⟨q17, q7d, hF⟩ := hF
 replace hF := ck_s hF; obtain ⟨q7e, hF⟩ := hF
 replace hF := lv_s hF; obtain ⟨q18, q7f, hF⟩ := hF
 replace hF := ck_s hF; obtain ⟨q7g, hF⟩ := hF
 refine x_par (w0 := w0) [⟨[], [], [60], [], [], [0]⟩, ⟨[], [], [61], [], [], []⟩, ⟨[1], [1], [62], [1], [], []⟩, ⟨[0, 1, 2], [0, 2], [63], [2], [0], [3]⟩, ⟨[], [], [64], [], [], [4]⟩, ⟨[], [], [65], [], [], []⟩, ⟨[5], [5], [66], [1], [], []⟩, ⟨[0, 1, 2, 3, 4, 5, 6], [4, 6], [67], [2], [4], [5]⟩, ⟨[0, 1, 2, 3, 4, 5, 6, 7], [3], [12, 63], [], [], []⟩, ⟨[0, 1, 2, 3, 4, 5, 6, 7, 8], [7], [13, 67], [], [], []⟩] [⟨(some 0), (some 3), [60]⟩, ⟨none, none, []⟩, ⟨none, none, []⟩, ⟨(some 3), none, [63]⟩, ⟨(some 4), (some 7), [64]⟩, ⟨(some 7), none, [67]⟩] [12, 13, 60, 61, 62, 63, 64, 65, 66, 67] [1, 2] [1, 2, 3, 5] [0, 1, 2, 3, 4, 5, 6, 7, 8, 9] [fun Ep14 => Ep14 60 = .slice (some ⟨(blkOf (Ep14 60)), 0, none⟩) 1 1, fun Ep14 => Ep14 61 = .pointer (some ⟨b4, 0, none⟩), fun Ep14 => Ep14 62 = .slice q0q n1.In.length c_n1_0, fun Ep14 => Ep14 63 = .slice (adOf (Ep14 63)) q17.length (capOf (Ep14 63)), fun Ep14 => Ep14 64 = .slice (some ⟨(blkOf (Ep14 64)), 0, none⟩) 1 1, fun Ep14 => Ep14 65 = .pointer (some ⟨b4, 1, none⟩), fun Ep14 => Ep14 66 = .slice q0r n1.Out.length c_n1_1, fun Ep14 => Ep14 67 = .slice (adOf (Ep14 67)) q18.length (capOf (Ep14 67)), fun Ep14 => Ep14 12 = .slice (adOf (Ep14 63)) q17.length (capOf (Ep14 63)), fun Ep14 => Ep14 13 = .slice (adOf (Ep14 67)) q18.length (capOf (Ep14 67))] [fun Ep14 => cells (blkOf (Ep14 60)) 9 [.string (⟨#[]⟩ : ByteArray)], fun Ep14 => cells b4 30 [.slice q0q n1.In.length c_n1_0, .slice q0r n1.Out.length c_n1_1, .slice q0x n1.Flops.length c_n1_2, .slice q10 n1.Gates.length c_n1_3, .slice q11 n1.Outs.length c_n1_4], fun Ep14 => ro ρ, fun Ep14 => bunA (fun (cs63 : List Value) => RepL RpS ρ q17 cs63) (fun (cs63 : List Value) => [vec 9 RpS.sz (.slice (adOf (Ep14 63)) q17.length (capOf (Ep14 63))) q17.length cs63]), fun Ep14 => cells (blkOf (Ep14 64)) 9 [.string (⟨#[]⟩ : ByteArray)], fun Ep14 => bunA (fun (cs67 : List Value) => RepL RpS ρ q18 cs67) (fun (cs67 : List Value) => [vec 9 RpS.sz (.slice (adOf (Ep14 67)) q18.length (capOf (Ep14 67))) q18.length cs67])] mixed (by kernel_rfl) ((hS.pull 6).pull 2) ?_ ?_
 ·refine ⟨?_, ?_, ?_, ?_, ?_, ?_, ?_, ?_, ?_, ?_, trivial⟩
  ·intro Ep14 w l' hE14 hO14 hF_ hS
   refine o_buildSlice (vs := [.string (⟨#[]⟩ : ByteArray)]) (cs := [.string (⟨#[]⟩ : ByteArray)]) sl_26 zero_9 (parts_eq (pt (va := .string (⟨#[]⟩ : ByteArray)) rfl pt0)) rfl (by intro v hv; simp only [List.mem_cons, List.not_mem_nil, or_false] at hv; first | (subst hv; rfl) | (rcases hv with rfl <;> rfl)) (by decide) rfl hS (fun b60 w' hS => ?_)
   refine x_done <| ?_
   refine x_fin ⟨⟨_, rfl⟩, rfl, ?_⟩
   exact Eq.mp (by kernel_rfl) hS
  ·intro Ep14 w l' hE14 hO14 hF_ hS
   refine p (yl_field0 fld_30_0 ((hE14 4 rfl).trans q61)) <| x_done <| ?_
   refine x_fin ⟨⟨_, rfl⟩, rfl, ?_⟩
   exact Eq.mp (by kernel_rfl) hS
  ·intro Ep14 w l' hE14 hO14 hF_ hS
   obtain ⟨q3n, -⟩ := hF_
   replace q3n : Ep14 61 = .pointer (some ⟨b4, 0, none⟩) := Eq.mp (by kernel_rfl) q3n
   replace hS : St w0 w (cells b4 30 [.slice q0q n1.In.length c_n1_0, .slice q0r n1.Out.length c_n1_1, .slice q0x n1.Flops.length c_n1_2, .slice q10 n1.Gates.length c_n1_3, .slice q11 n1.Outs.length c_n1_4] :: l') := Eq.mp (by kernel_rfl) hS
   refine pa (at_load one_26 q3n (hS.cell rfl)) <| x_done <| ?_
   refine x_fin ⟨⟨_, rfl⟩, rfl, ?_⟩
   exact Eq.mp (by kernel_rfl) hS
  ·intro Ep14 w l' hE14 hO14 hF_ hS
   obtain ⟨q3o, q3p, -⟩ := hF_
   replace q3o : Ep14 60 = .slice (some ⟨(blkOf (Ep14 60)), 0, none⟩) 1 1 := Eq.mp (by kernel_rfl) q3o
   replace q3p : Ep14 62 = .slice q0q n1.In.length c_n1_0 := Eq.mp (by kernel_rfl) q3p
   replace hS : St w0 w (ro ρ :: cells (blkOf (Ep14 60)) 9 [.string (⟨#[]⟩ : ByteArray)] :: l') := Eq.mp (by kernel_rfl) hS
   have q7h : RepL RpS ρ ([(⟨#[]⟩ : ByteArray)] : List ByteArray) [.string (⟨#[]⟩ : ByteArray)] := (RepL.cons (cs := [.string (⟨#[]⟩ : ByteArray)]) rfl RepL.nil)
   replace hS := St.vec_of (n := 1) (sz := RpS.sz) (hS.pull 1) rfl (by decide)
   have q_ := src_f usl_26 (hS.pull 1) q4m; obtain ⟨nw63, hnw63, src63⟩ := q_
   refine o_ap sl_26 zero_9 rfl (by decide) q3o q3p hS q7h src63 hnw63 q7d q7e (fun A63 c63 cs63 w' hr63 hS => ?_)
   refine x_done <| ?_
   refine x_fin ⟨⟨_, rfl⟩, rfl, ?_⟩
   replace hS := St.bun (Φ := (fun (cs63 : List Value) => RepL RpS ρ q17 cs63)) (L := (fun (cs63 : List Value) => [vec 9 RpS.sz (.slice A63 q17.length c63) q17.length cs63])) cs63 hr63 hS
   exact Eq.mp (by kernel_rfl) (hS.pull 1)
  ·intro Ep14 w l' hE14 hO14 hF_ hS
   refine o_buildSlice (vs := [.string (⟨#[]⟩ : ByteArray)]) (cs := [.string (⟨#[]⟩ : ByteArray)]) sl_26 zero_9 (parts_eq (pt (va := .string (⟨#[]⟩ : ByteArray)) rfl pt0)) rfl (by intro v hv; simp only [List.mem_cons, List.not_mem_nil, or_false] at hv; first | (subst hv; rfl) | (rcases hv with rfl <;> rfl)) (by decide) rfl hS (fun b64 w' hS => ?_)
   refine x_done <| ?_
   refine x_fin ⟨⟨_, rfl⟩, rfl, ?_⟩
   exact Eq.mp (by kernel_rfl) hS
  ·intro Ep14 w l' hE14 hO14 hF_ hS
   refine p (yl_field0 fld_30_1 ((hE14 4 rfl).trans q61)) <| x_done <| ?_
   refine x_fin ⟨⟨_, rfl⟩, rfl, ?_⟩
   exact Eq.mp (by kernel_rfl) hS
  ·intro Ep14 w l' hE14 hO14 hF_ hS
   obtain ⟨q3q, -⟩ := hF_
   replace q3q : Ep14 65 = .pointer (some ⟨b4, 1, none⟩) := Eq.mp (by kernel_rfl) q3q
   replace hS : St w0 w (cells b4 30 [.slice q0q n1.In.length c_n1_0, .slice q0r n1.Out.length c_n1_1, .slice q0x n1.Flops.length c_n1_2, .slice q10 n1.Gates.length c_n1_3, .slice q11 n1.Outs.length c_n1_4] :: l') := Eq.mp (by kernel_rfl) hS
   refine pa (at_load one_26 q3q (hS.cell rfl)) <| x_done <| ?_
   refine x_fin ⟨⟨_, rfl⟩, rfl, ?_⟩
   exact Eq.mp (by kernel_rfl) hS
  ·intro Ep14 w l' hE14 hO14 hF_ hS
   obtain ⟨q3r, q3s, -⟩ := hF_
   replace q3r : Ep14 64 = .slice (some ⟨(blkOf (Ep14 64)), 0, none⟩) 1 1 := Eq.mp (by kernel_rfl) q3r
   replace q3s : Ep14 66 = .slice q0r n1.Out.length c_n1_1 := Eq.mp (by kernel_rfl) q3s
   replace hS : St w0 w (ro ρ :: cells (blkOf (Ep14 64)) 9 [.string (⟨#[]⟩ : ByteArray)] :: l') := Eq.mp (by kernel_rfl) hS
   have q7i : RepL RpS ρ ([(⟨#[]⟩ : ByteArray)] : List ByteArray) [.string (⟨#[]⟩ : ByteArray)] := (RepL.cons (cs := [.string (⟨#[]⟩ : ByteArray)]) rfl RepL.nil)
   replace hS := St.vec_of (n := 1) (sz := RpS.sz) (hS.pull 1) rfl (by decide)
   have q_ := src_f usl_26 (hS.pull 1) q4n; obtain ⟨nw67, hnw67, src67⟩ := q_
   refine o_ap sl_26 zero_9 rfl (by decide) q3r q3s hS q7i src67 hnw67 q7f q7g (fun A67 c67 cs67 w' hr67 hS => ?_)
   refine x_done <| ?_
   refine x_fin ⟨⟨_, rfl⟩, rfl, ?_⟩
   replace hS := St.bun (Φ := (fun (cs67 : List Value) => RepL RpS ρ q18 cs67)) (L := (fun (cs67 : List Value) => [vec 9 RpS.sz (.slice A67 q18.length c67) q18.length cs67])) cs67 hr67 hS
   exact Eq.mp (by kernel_rfl) (hS.pull 1)
  ·intro Ep14 w l' hE14 hO14 hF_ hS
   obtain ⟨q3t, -⟩ := hF_
   replace q3t : Ep14 63 = .slice (adOf (Ep14 63)) q17.length (capOf (Ep14 63)) := Eq.mp (by kernel_rfl) q3t
   refine p (yl_assign q3t) <| x_done <| ?_
   refine x_fin ⟨⟨_, rfl⟩, rfl, ?_⟩
   exact Eq.mp (by kernel_rfl) hS
  ·intro Ep14 w l' hE14 hO14 hF_ hS
   obtain ⟨q3u, -⟩ := hF_
   replace q3u : Ep14 67 = .slice (adOf (Ep14 67)) q18.length (capOf (Ep14 67)) := Eq.mp (by kernel_rfl) q3u
   refine p (yl_assign q3u) <| x_done <| ?_
   refine x_fin ⟨⟨_, rfl⟩, rfl, ?_⟩
   exact Eq.mp (by kernel_rfl) hS
 intro Ep14 w' hE14 hF_ hS
 obtain ⟨q3o, q3n, q3p, q3t, q3r, q3q, q3s, q3u, q62, q63, -⟩ := hF_
 replace q3o : Ep14 60 = .slice (some ⟨(blkOf (Ep14 60)), 0, none⟩) 1 1 := Eq.mp (by kernel_rfl) q3o
 replace q3n : Ep14 61 = .pointer (some ⟨b4, 0, none⟩) := Eq.mp (by kernel_rfl) q3n
 replace q3p : Ep14 62 = .slice q0q n1.In.length c_n1_0 := Eq.mp (by kernel_rfl) q3p
 replace q3t : Ep14 63 = .slice (adOf (Ep14 63)) q17.length (capOf (Ep14 63)) := Eq.mp (by kernel_rfl) q3t
 replace q3r : Ep14 64 = .slice (some ⟨(blkOf (Ep14 64)), 0, none⟩) 1 1 := Eq.mp (by kernel_rfl) q3r
 replace q3q : Ep14 65 = .pointer (some ⟨b4, 1, none⟩) := Eq.mp (by kernel_rfl) q3q
 replace q3s : Ep14 66 = .slice q0r n1.Out.length c_n1_1 := Eq.mp (by kernel_rfl) q3s
 replace q3u : Ep14 67 = .slice (adOf (Ep14 67)) q18.length (capOf (Ep14 67)) := Eq.mp (by kernel_rfl) q3u
 replace q62 : Ep14 12 = .slice (adOf (Ep14 63)) q17.length (capOf (Ep14 63)) := Eq.mp (by kernel_rfl) q62
 replace q63 : Ep14 13 = .slice (adOf (Ep14 67)) q18.length (capOf (Ep14 67)) := Eq.mp (by kernel_rfl) q63
 replace hS : St w0 w' (cells b4 30 [.slice q0q n1.In.length c_n1_0, .slice q0r n1.Out.length c_n1_1, .slice q0x n1.Flops.length c_n1_2, .slice q10 n1.Gates.length c_n1_3, .slice q11 n1.Outs.length c_n1_4] :: ro ρ :: bunA (fun (cs63 : List Value) => RepL RpS ρ q17 cs63) (fun (cs63 : List Value) => [vec 9 RpS.sz (.slice (adOf (Ep14 63)) q17.length (capOf (Ep14 63))) q17.length cs63]) :: bunA (fun (cs67 : List Value) => RepL RpS ρ q18 cs67) (fun (cs67 : List Value) => [vec 9 RpS.sz (.slice (adOf (Ep14 67)) q18.length (capOf (Ep14 67))) q18.length cs67]) :: (cells q9 25 [.slice q0c s0.L.length c_s0_0, .int .i64 q1e] :: cells b6 56 [.int .i64 0, .slice none 0 0, .slice none 0 0, .slice none 0 0] :: cells b7 56 [.int .i64 q0j.1, .slice q3 q2.length c_b7_1_L3, .slice q8 q7.length c_b7_2_L9, .slice none 0 0] :: vec 156 R_clocks_Input.sz (.slice q3 q2.length c_b7_1_L3) q2.length q0d :: vec 158 R_clocks_Output.sz (.slice q8 q7.length c_b7_2_L9) q7.length q0n :: l)) := Eq.mp (by kernel_rfl) hS
 have q_ := St.unbun (hS.pull 2); obtain ⟨cs63, hr63, hS⟩ := q_
 have q_ := St.unbun (hS.pull 3); obtain ⟨cs67, hr67, hS⟩ := q_
 refine x_seq <| x_seq <| x_region <| p (yl_field0 fld_30_2 ((hE14 4 rfl).trans q61)) <|
  pa (at_load one_27 rfl ((hS.pull 2).cell rfl)) <| p (yl_len_slice usl_27 rfl) <| p (yl_move rfl) <| x_done <| ?_
 replace hF := bd_s hF; obtain ⟨oL16, hLL16, hF⟩ := hF
 refine x_join (fun E w => ∃ (q6 : Option Addr) (q1h : Nat) (c_from12_L16 : Nat) (q0o : List Value) (q0b : Option Addr) (q24 : Nat) (c_to13_L16 : Nat) (q0u : List Value) (q4 : List ByteArray) (q0a : List ByteArray), (q4, q0a) = oL16 ∧ E 0 = .pointer (some ⟨q9, 0, none⟩) ∧ E 2 = .bool paths2 ∧ E 6 = .pointer (some ⟨b6, 0, none⟩) ∧ E 7 = .pointer (some ⟨b7, 0, none⟩) ∧ E 12 = .slice q6 q1h c_from12_L16 ∧ E 13 = .slice q0b q24 c_to13_L16 ∧ RepL RpS ρ q4 q0o ∧ RepL RpS ρ q0a q0u ∧ St w0 w (cells q9 25 [.slice q0c s0.L.length c_s0_0, .int .i64 q1e] :: cells b6 56 [.int .i64 0, .slice none 0 0, .slice none 0 0, .slice none 0 0] :: cells b7 56 [.int .i64 q0j.1, .slice q3 q2.length c_b7_1_L3, .slice q8 q7.length c_b7_2_L9, .slice none 0 0] :: vec 9 RpS.sz (.slice q6 q1h c_from12_L16) q1h q0o :: vec 9 RpS.sz (.slice q0b q24 c_to13_L16) q24 q0u :: vec 156 R_clocks_Input.sz (.slice q3 q2.length c_b7_1_L3) q2.length q0d :: vec 158 R_clocks_Output.sz (.slice q8 q7.length c_b7_2_L9) q7.length q0n :: ro ρ :: l)) ?_ ?_
 ·refine x_block ?_
  refine x_loop (fun k_ E w => ∃ (q0p : Option Addr) (q1g : Nat) (c_from12_L16h : Nat) (q0z : List Value) (q0v : Option Addr) (q1l : Nat) (c_to13_L16h : Nat) (q1b : List Value) (q0i : List ByteArray) (q0t : List ByteArray) (q33 : Int), lp (P_maskmake_Stream_Limits_L16 n1) k_ (q0i, q0t, q33) = some oL16 ∧ E 0 = .pointer (some ⟨q9, 0, none⟩) ∧ E 2 = .bool paths2 ∧ E 6 = .pointer (some ⟨b6, 0, none⟩) ∧ E 7 = .pointer (some ⟨b7, 0, none⟩) ∧ E 12 = .slice q0p q1g c_from12_L16h ∧ E 13 = .slice q0v q1l c_to13_L16h ∧ E 69 = .slice q0x n1.Flops.length c_n1_2 ∧ E 70 = .int .i64 (n1.Flops.length : Int) ∧ E 71 = .int .i64 q33 ∧ RepL RpS ρ q0i q0z ∧ RepL RpS ρ q0t q1b ∧ St w0 w (cells q9 25 [.slice q0c s0.L.length c_s0_0, .int .i64 q1e] :: cells b6 56 [.int .i64 0, .slice none 0 0, .slice none 0 0, .slice none 0 0] :: cells b7 56 [.int .i64 q0j.1, .slice q3 q2.length c_b7_1_L3, .slice q8 q7.length c_b7_2_L9, .slice none 0 0] :: vec 9 RpS.sz (.slice q0p q1g c_from12_L16h) q1g q0z :: vec 9 RpS.sz (.slice q0v q1l c_to13_L16h) q1l q1b :: vec 156 R_clocks_Input.sz (.slice q3 q2.length c_b7_1_L3) q2.length q0d :: vec 158 R_clocks_Output.sz (.slice q8 q7.length c_b7_2_L9) q7.length q0n :: ro ρ :: l)) fuel ⟨(adOf (Ep14 63)), q17.length, (capOf (Ep14 63)), cs63, (adOf (Ep14 67)), q18.length, (capOf (Ep14 67)), cs67, q17, q18, 0, hLL16, ((hE14 0 rfl).trans q8a), ((hE14 2 rfl).trans q8b), ((hE14 6 rfl).trans q8c), ((hE14 7 rfl).trans q8d), q62, q63, rfl, rfl, rfl, hr63, hr67, (((((((((hS.pull 2).drop.pull 2).pull 7).pull 7).pull 3).pull 4).pull 7).pull 7).pull 7)⟩ ?_
  rintro kL16 E w ⟨q0p, q1g, c_from12_L16h, q0z, q0v, q1l, c_to13_L16h, q1b, q0i, q0t, q33, hLL16, q5v, q5w, q5x, q5y, q5p, q5q, q5r, q5s, q4i, q1r, q2i, hS⟩
  have e_ := St.vec_n (hS.pull 3) q1r; subst e_
  have e_ := St.vec_n (hS.pull 4) q2i; subst e_
  replace hLL16 := lp_s hLL16; obtain ⟨kL16, obL16, rfl, hFL16, hLL16⟩ := hLL16
  refine x_seq <| x_region <| p (yl_lss q4i q5s) <| x_done <|
   x_seq <|
   x_cond_p (q33 < (n1.Flops.length : Int)) rfl (fun hc72 => ?_) (fun hc72 => ?_)
  ·replace hFL16 := it_t hc72 hFL16
   replace hFL16 := ck_s hFL16; obtain ⟨q6a, hFL16⟩ := hFL16
   replace hFL16 := lv_s hFL16; obtain ⟨q5, q7j, hFL16⟩ := hFL16
   have q_ := q5i.get q6a; obtain ⟨q8e, q6b, q7k⟩ := q_
   rw [← q7j] at q6b
   have e_ := q6b; subst e_
   refine x_skip <| x_seq <| x_block <| x_seq <|
    x_region <| p (yix_f sl_27 q5r q4i q5i q6a) <| pa (v := .agg #[.string q5.Name, .int .i64 q5.Cell, .int .i64 q5.D, .int .i64 q5.En, .bool q5.Init]) (at_loadAgg agg_135 rfl rfl (Elt.every q7k (hS.pull 7))) <| ?_
   refine o_alloc zero_135 hS (fun b15 w' hS => ?_)
   refine o_storeAgg (news := [.string q5.Name, .int .i64 q5.Cell, .int .i64 q5.D, .int .i64 q5.En, .bool q5.Init]) agg_135 rfl rfl rfl (by simp [over_length]) hS (fun w' hS => ?_)
   refine x_done <| ?_
   replace hFL16 := lv_s hFL16; obtain ⟨q19, q7l, hFL16⟩ := hFL16
   replace hFL16 := ck_s hFL16; obtain ⟨q7m, hFL16⟩ := hFL16
   replace hFL16 := lv_s hFL16; obtain ⟨q1a, q7n, hFL16⟩ := hFL16
   replace hFL16 := ck_s hFL16; obtain ⟨q7o, hFL16⟩ := hFL16
   refine x_par (w0 := w0) [⟨[], [], [75], [], [], []⟩, ⟨[], [], [76], [], [], []⟩, ⟨[1], [1], [77], [0], [], []⟩, ⟨[1, 2], [2], [78], [], [], [1]⟩, ⟨[0, 1, 2, 3], [0, 3], [79], [1, 3], [2], [4]⟩, ⟨[], [], [80], [], [], []⟩, ⟨[], [], [81], [], [], []⟩, ⟨[6], [6], [82], [0], [], []⟩, ⟨[6, 7], [7], [83], [], [], [5]⟩, ⟨[0, 1, 2, 3, 4, 5, 6, 7, 8], [5, 8], [84], [5, 3], [6], [7]⟩, ⟨[0, 1, 2, 3, 4, 5, 6, 7, 8, 9], [4], [12, 79], [], [], []⟩, ⟨[0, 1, 2, 3, 4, 5, 6, 7, 8, 9, 10], [9], [13, 84], [], [], []⟩] [⟨none, none, []⟩, ⟨(some 3), none, [78]⟩, ⟨none, (some 4), []⟩, ⟨none, none, []⟩, ⟨(some 4), none, [79]⟩, ⟨(some 8), none, [83]⟩, ⟨none, (some 9), []⟩, ⟨(some 9), none, [84]⟩] [12, 13, 75, 76, 77, 78, 79, 80, 81, 82, 83, 84] [0, 2, 3, 6] [0, 1, 3, 4, 5, 7] [0, 1, 2, 3, 4, 5, 6, 7, 8, 9, 10, 11] [fun Ep18 => Ep18 75 = .slice q0p q0i.length c_from12_L16h, fun Ep18 => Ep18 76 = .pointer (some ⟨b15, 0, none⟩), fun Ep18 => Ep18 77 = .string q5.Name, fun Ep18 => Ep18 78 = .slice (some ⟨(blkOf (Ep18 78)), 0, none⟩) 1 1, fun Ep18 => Ep18 79 = .slice (adOf (Ep18 79)) q19.length (capOf (Ep18 79)), fun Ep18 => Ep18 80 = .slice q0v q0t.length c_to13_L16h, fun Ep18 => Ep18 81 = .pointer (some ⟨b15, 0, none⟩), fun Ep18 => Ep18 82 = .string q5.Name, fun Ep18 => Ep18 83 = .slice (some ⟨(blkOf (Ep18 83)), 0, none⟩) 1 1, fun Ep18 => Ep18 84 = .slice (adOf (Ep18 84)) q1a.length (capOf (Ep18 84)), fun Ep18 => Ep18 12 = .slice (adOf (Ep18 79)) q19.length (capOf (Ep18 79)), fun Ep18 => Ep18 13 = .slice (adOf (Ep18 84)) q1a.length (capOf (Ep18 84))] [fun Ep18 => cells b15 135 [.string q5.Name, .int .i64 q5.Cell, .int .i64 q5.D, .int .i64 q5.En, .bool q5.Init], fun Ep18 => cells (blkOf (Ep18 78)) 9 [.string q5.Name], fun Ep18 => vec 9 RpS.sz (.slice q0p q0i.length c_from12_L16h) q0i.length q0z, fun Ep18 => ro ρ, fun Ep18 => bunA (fun (cs79 : List Value) => RepL RpS ρ q19 cs79) (fun (cs79 : List Value) => [vec 9 RpS.sz (.slice (adOf (Ep18 79)) q19.length (capOf (Ep18 79))) q19.length cs79]), fun Ep18 => cells (blkOf (Ep18 83)) 9 [.string q5.Name], fun Ep18 => vec 9 RpS.sz (.slice q0v q0t.length c_to13_L16h) q0t.length q1b, fun Ep18 => bunA (fun (cs84 : List Value) => RepL RpS ρ q1a cs84) (fun (cs84 : List Value) => [vec 9 RpS.sz (.slice (adOf (Ep18 84)) q1a.length (capOf (Ep18 84))) q1a.length cs84])] mixed (by kernel_rfl) ((((hS.pull 5).pull 8).pull 6).pull 3) ?_ ?_
   ·refine ⟨?_, ?_, ?_, ?_, ?_, ?_, ?_, ?_, ?_, ?_, ?_, ?_, trivial⟩
    ·intro Ep18 w l' hE18 hO18 hF_ hS
     refine p (yl_move ((hO18 12 rfl).trans q5p)) <| x_done <| ?_
     refine x_fin ⟨⟨_, rfl⟩, rfl, ?_⟩
     exact Eq.mp (by kernel_rfl) hS
    ·intro Ep18 w l' hE18 hO18 hF_ hS
     refine p (yl_field0 fld_135_0 (hE18 15 rfl)) <| x_done <| ?_
     refine x_fin ⟨⟨_, rfl⟩, rfl, ?_⟩
     exact Eq.mp (by kernel_rfl) hS
    ·intro Ep18 w l' hE18 hO18 hF_ hS
     obtain ⟨q3v, -⟩ := hF_
     replace q3v : Ep18 76 = .pointer (some ⟨b15, 0, none⟩) := Eq.mp (by kernel_rfl) q3v
     replace hS : St w0 w (cells b15 135 [.string q5.Name, .int .i64 q5.Cell, .int .i64 q5.D, .int .i64 q5.En, .bool q5.Init] :: l') := Eq.mp (by kernel_rfl) hS
     refine pa (at_load one_9 q3v (hS.cell rfl)) <| x_done <| ?_
     refine x_fin ⟨⟨_, rfl⟩, rfl, ?_⟩
     exact Eq.mp (by kernel_rfl) hS
    ·intro Ep18 w l' hE18 hO18 hF_ hS
     obtain ⟨q3w, -⟩ := hF_
     replace q3w : Ep18 77 = .string q5.Name := Eq.mp (by kernel_rfl) q3w
     refine o_buildSlice (vs := [.string q5.Name]) (cs := [.string q5.Name]) sl_26 zero_9 (parts_eq (pt (va := .string q5.Name) q3w pt0)) rfl (by intro v hv; simp only [List.mem_cons, List.not_mem_nil, or_false] at hv; first | (subst hv; rfl) | (rcases hv with rfl <;> rfl)) (by decide) rfl hS (fun b78 w' hS => ?_)
     refine x_done <| ?_
     refine x_fin ⟨⟨_, rfl⟩, rfl, ?_⟩
     exact Eq.mp (by kernel_rfl) hS
    ·intro Ep18 w l' hE18 hO18 hF_ hS
     obtain ⟨q3x, q3y, -⟩ := hF_
     replace q3x : Ep18 75 = .slice q0p q0i.length c_from12_L16h := Eq.mp (by kernel_rfl) q3x
     replace q3y : Ep18 78 = .slice (some ⟨(blkOf (Ep18 78)), 0, none⟩) 1 1 := Eq.mp (by kernel_rfl) q3y
     replace hS : St w0 w (cells (blkOf (Ep18 78)) 9 [.string q5.Name] :: ro ρ :: vec 9 RpS.sz (.slice q0p q0i.length c_from12_L16h) q0i.length q0z :: l') := Eq.mp (by kernel_rfl) hS
     refine o_ap sl_26 zero_9 rfl (by decide) q3x q3y (hS.pull 2) q1r (src_blk usl_26 hS rfl rfl) (RepL.cons (R := RpS) (ρ := ρ) (x := q5.Name) (cs := [.string q5.Name]) rfl RepL.nil) q7l q7m (fun A79 c79 cs79 w' hr79 hS => ?_)
     refine x_done <| ?_
     refine x_fin ⟨⟨_, rfl⟩, rfl, ?_⟩
     replace hS := St.bun (Φ := (fun (cs79 : List Value) => RepL RpS ρ q19 cs79)) (L := (fun (cs79 : List Value) => [vec 9 RpS.sz (.slice A79 q19.length c79) q19.length cs79])) cs79 hr79 hS
     exact Eq.mp (by kernel_rfl) ((hS.pull 2).pull 2)
    ·intro Ep18 w l' hE18 hO18 hF_ hS
     refine p (yl_move ((hO18 13 rfl).trans q5q)) <| x_done <| ?_
     refine x_fin ⟨⟨_, rfl⟩, rfl, ?_⟩
     exact Eq.mp (by kernel_rfl) hS
    ·intro Ep18 w l' hE18 hO18 hF_ hS
     refine p (yl_field0 fld_135_0 (hE18 15 rfl)) <| x_done <| ?_
     refine x_fin ⟨⟨_, rfl⟩, rfl, ?_⟩
     exact Eq.mp (by kernel_rfl) hS
    ·intro Ep18 w l' hE18 hO18 hF_ hS
     obtain ⟨q3z, -⟩ := hF_
     replace q3z : Ep18 81 = .pointer (some ⟨b15, 0, none⟩) := Eq.mp (by kernel_rfl) q3z
     replace hS : St w0 w (cells b15 135 [.string q5.Name, .int .i64 q5.Cell, .int .i64 q5.D, .int .i64 q5.En, .bool q5.Init] :: l') := Eq.mp (by kernel_rfl) hS
     refine pa (at_load one_9 q3z (hS.cell rfl)) <| x_done <| ?_
     refine x_fin ⟨⟨_, rfl⟩, rfl, ?_⟩
     exact Eq.mp (by kernel_rfl) hS
    ·intro Ep18 w l' hE18 hO18 hF_ hS
     obtain ⟨q40, -⟩ := hF_
     replace q40 : Ep18 82 = .string q5.Name := Eq.mp (by kernel_rfl) q40
     refine o_buildSlice (vs := [.string q5.Name]) (cs := [.string q5.Name]) sl_26 zero_9 (parts_eq (pt (va := .string q5.Name) q40 pt0)) rfl (by intro v hv; simp only [List.mem_cons, List.not_mem_nil, or_false] at hv; first | (subst hv; rfl) | (rcases hv with rfl <;> rfl)) (by decide) rfl hS (fun b83 w' hS => ?_)
     refine x_done <| ?_
     refine x_fin ⟨⟨_, rfl⟩, rfl, ?_⟩
     exact Eq.mp (by kernel_rfl) hS
    ·intro Ep18 w l' hE18 hO18 hF_ hS
     obtain ⟨q41, q42, -⟩ := hF_
     replace q41 : Ep18 80 = .slice q0v q0t.length c_to13_L16h := Eq.mp (by kernel_rfl) q41
     replace q42 : Ep18 83 = .slice (some ⟨(blkOf (Ep18 83)), 0, none⟩) 1 1 := Eq.mp (by kernel_rfl) q42
     replace hS : St w0 w (cells (blkOf (Ep18 83)) 9 [.string q5.Name] :: ro ρ :: vec 9 RpS.sz (.slice q0v q0t.length c_to13_L16h) q0t.length q1b :: l') := Eq.mp (by kernel_rfl) hS
     refine o_ap sl_26 zero_9 rfl (by decide) q41 q42 (hS.pull 2) q2i (src_blk usl_26 hS rfl rfl) (RepL.cons (R := RpS) (ρ := ρ) (x := q5.Name) (cs := [.string q5.Name]) rfl RepL.nil) q7n q7o (fun A84 c84 cs84 w' hr84 hS => ?_)
     refine x_done <| ?_
     refine x_fin ⟨⟨_, rfl⟩, rfl, ?_⟩
     replace hS := St.bun (Φ := (fun (cs84 : List Value) => RepL RpS ρ q1a cs84)) (L := (fun (cs84 : List Value) => [vec 9 RpS.sz (.slice A84 q1a.length c84) q1a.length cs84])) cs84 hr84 hS
     exact Eq.mp (by kernel_rfl) ((hS.pull 2).pull 2)
    ·intro Ep18 w l' hE18 hO18 hF_ hS
     obtain ⟨q43, -⟩ := hF_
     replace q43 : Ep18 79 = .slice (adOf (Ep18 79)) q19.length (capOf (Ep18 79)) := Eq.mp (by kernel_rfl) q43
     refine p (yl_assign q43) <| x_done <| ?_
     refine x_fin ⟨⟨_, rfl⟩, rfl, ?_⟩
     exact Eq.mp (by kernel_rfl) hS
    ·intro Ep18 w l' hE18 hO18 hF_ hS
     obtain ⟨q44, -⟩ := hF_
     replace q44 : Ep18 84 = .slice (adOf (Ep18 84)) q1a.length (capOf (Ep18 84)) := Eq.mp (by kernel_rfl) q44
     refine p (yl_assign q44) <| x_done <| ?_
     refine x_fin ⟨⟨_, rfl⟩, rfl, ?_⟩
     exact Eq.mp (by kernel_rfl) hS
   intro Ep18 w' hE18 hF_ hS
   obtain ⟨q3x, q3v, q3w, q3y, q43, q41, q3z, q40, q42, q44, q5t, q5u, -⟩ := hF_
   replace q3x : Ep18 75 = .slice q0p q0i.length c_from12_L16h := Eq.mp (by kernel_rfl) q3x
   replace q3v : Ep18 76 = .pointer (some ⟨b15, 0, none⟩) := Eq.mp (by kernel_rfl) q3v
   replace q3w : Ep18 77 = .string q5.Name := Eq.mp (by kernel_rfl) q3w
   replace q3y : Ep18 78 = .slice (some ⟨(blkOf (Ep18 78)), 0, none⟩) 1 1 := Eq.mp (by kernel_rfl) q3y
   replace q43 : Ep18 79 = .slice (adOf (Ep18 79)) q19.length (capOf (Ep18 79)) := Eq.mp (by kernel_rfl) q43
   replace q41 : Ep18 80 = .slice q0v q0t.length c_to13_L16h := Eq.mp (by kernel_rfl) q41
   replace q3z : Ep18 81 = .pointer (some ⟨b15, 0, none⟩) := Eq.mp (by kernel_rfl) q3z
   replace q40 : Ep18 82 = .string q5.Name := Eq.mp (by kernel_rfl) q40
   replace q42 : Ep18 83 = .slice (some ⟨(blkOf (Ep18 83)), 0, none⟩) 1 1 := Eq.mp (by kernel_rfl) q42
   replace q44 : Ep18 84 = .slice (adOf (Ep18 84)) q1a.length (capOf (Ep18 84)) := Eq.mp (by kernel_rfl) q44
   replace q5t : Ep18 12 = .slice (adOf (Ep18 79)) q19.length (capOf (Ep18 79)) := Eq.mp (by kernel_rfl) q5t
   replace q5u : Ep18 13 = .slice (adOf (Ep18 84)) q1a.length (capOf (Ep18 84)) := Eq.mp (by kernel_rfl) q5u
   replace hS : St w0 w' (cells b15 135 [.string q5.Name, .int .i64 q5.Cell, .int .i64 q5.D, .int .i64 q5.En, .bool q5.Init] :: cells (blkOf (Ep18 78)) 9 [.string q5.Name] :: ro ρ :: bunA (fun (cs79 : List Value) => RepL RpS ρ q19 cs79) (fun (cs79 : List Value) => [vec 9 RpS.sz (.slice (adOf (Ep18 79)) q19.length (capOf (Ep18 79))) q19.length cs79]) :: cells (blkOf (Ep18 83)) 9 [.string q5.Name] :: bunA (fun (cs84 : List Value) => RepL RpS ρ q1a cs84) (fun (cs84 : List Value) => [vec 9 RpS.sz (.slice (adOf (Ep18 84)) q1a.length (capOf (Ep18 84))) q1a.length cs84]) :: (cells q9 25 [.slice q0c s0.L.length c_s0_0, .int .i64 q1e] :: cells b6 56 [.int .i64 0, .slice none 0 0, .slice none 0 0, .slice none 0 0] :: cells b7 56 [.int .i64 q0j.1, .slice q3 q2.length c_b7_1_L3, .slice q8 q7.length c_b7_2_L9, .slice none 0 0] :: vec 156 R_clocks_Input.sz (.slice q3 q2.length c_b7_1_L3) q2.length q0d :: vec 158 R_clocks_Output.sz (.slice q8 q7.length c_b7_2_L9) q7.length q0n :: l)) := Eq.mp (by kernel_rfl) hS
   have q_ := St.unbun (hS.pull 3); obtain ⟨cs79, hr79, hS⟩ := q_
   have q_ := St.unbun (hS.pull 5); obtain ⟨cs84, hr84, hS⟩ := q_
   replace hFL16 := ar_s hFL16; obtain ⟨x85, hx85, hFL16⟩ := hFL16
   refine x_blk <| x_region <| p (yadd ((hE18 71 rfl).trans q4i) rfl hx85) <| p (yl_move rfl) <|
    x_done <| ?_
   have e_ := Option.some.inj (show some _ = some _ from hFL16); subst e_
   exact x_inv ⟨kL16, Nat.lt_succ_self _, (adOf (Ep18 79)), q19.length, (capOf (Ep18 79)), cs79, (adOf (Ep18 84)), q1a.length, (capOf (Ep18 84)), cs84, q19, q1a, x85, hLL16, ((hE18 0 rfl).trans q5v), ((hE18 2 rfl).trans q5w), ((hE18 6 rfl).trans q5x), ((hE18 7 rfl).trans q5y), q5t, q5u, ((hE18 69 rfl).trans q5r), ((hE18 70 rfl).trans q5s), rfl, hr79, hr84, (((((((((((hS.pull 2).drop.pull 2).drop.pull 3).drop.pull 2).pull 7).pull 7).pull 3).pull 4).pull 7).pull 7).pull 7)⟩
  ·replace hFL16 := it_f hc72 hFL16
   refine x_exitTo _ rfl <| ?_
   have e_ := Option.some.inj (show some _ = some _ from hFL16); subst e_
   exact x_inv ⟨q0p, q0i.length, c_from12_L16h, q0z, q0v, q0t.length, c_to13_L16h, q1b, q0i, q0t, hLL16, q5v, q5w, q5x, q5y, q5p, q5q, q1r, q2i, ((((((((hS.pull 7).pull 7).pull 7).pull 7).pull 7).pull 7).pull 7).pull 7)⟩
 rintro E w ⟨q6, q1h, c_from12_L16, q0o, q0b, q24, c_to13_L16, q0u, q4, q0a, rfl, q6c, q7p, q7q, q7r, q6n, q6o, q2b, q34, hS⟩
 have e_ := St.vec_n (hS.pull 3) q2b; subst e_
 have e_ := St.vec_n (hS.pull 4) q34; subst e_
 replace hF := bd_s hF; obtain ⟨q4v, q7s, hF⟩ := hF
 refine x_seq <| x_seq <| x_region <| p (yl_move q6c) <| ?_
 have hcall := c_maskmake_Stream_Next q7s q1c ((hS.pull 7).pull 1)
 refine o_cc call_13 (args2 rfl rfl) hcall ?_
 rintro e w' ⟨rfl, hS⟩
 refine ⟨_, rfl, ?_⟩
 refine p (yl_move rfl) <| x_done <| ?_
 replace hF := bd_s hF; obtain ⟨oL21, hLL21, hF⟩ := hF
 refine x_join (fun E w => ∃ (q1f : Option Addr) (q25 : Nat) (c_b7_3_L21 : Nat) (q1m : List Value) (q1i : List T_clocks_Path) (q35 : Int), (q1i, q35) = oL21 ∧ E 6 = .pointer (some ⟨b6, 0, none⟩) ∧ E 7 = .pointer (some ⟨b7, 0, none⟩) ∧ RepL R_clocks_Path ρ q1i q1m ∧ St w0 w (cells b6 56 [.int .i64 0, .slice none 0 0, .slice none 0 0, .slice none 0 0] :: cells b7 56 [.int .i64 q0j.1, .slice q3 q2.length c_b7_1_L3, .slice q8 q7.length c_b7_2_L9, .slice q1f q25 c_b7_3_L21] :: cells q9 25 [.slice q0c s0.L.length c_s0_0, .int .i64 q35] :: vec 156 R_clocks_Input.sz (.slice q3 q2.length c_b7_1_L3) q2.length q0d :: vec 158 R_clocks_Output.sz (.slice q8 q7.length c_b7_2_L9) q7.length q0n :: vec 160 R_clocks_Path.sz (.slice q1f q25 c_b7_3_L21) q25 q1m :: ro ρ :: l)) ?_ ?_
 ·refine x_block ?_
  replace hS := St.vec_nil hS 160 R_clocks_Path.sz
  have q4j : RepL R_clocks_Path ρ [] [] := rfl
  refine x_loop (fun k_ E w => ∃ (q0f : Option Addr) (q1n : Nat) (c_b7_3_L21h : Nat) (q12 : List Value) (q2c : Int) (q16 : Int) (q0e : List T_clocks_Path), lp (P_maskmake_Stream_Limits_L21 s0 paths2 q4 q0a q4v) k_ (q2c, q16, q0e) = some oL21 ∧ E 0 = .pointer (some ⟨q9, 0, none⟩) ∧ E 2 = .bool paths2 ∧ E 6 = .pointer (some ⟨b6, 0, none⟩) ∧ E 7 = .pointer (some ⟨b7, 0, none⟩) ∧ E 12 = .slice q6 q4.length c_from12_L16 ∧ E 13 = .slice q0b q0a.length c_to13_L16 ∧ E 87 = .int .i64 q4v.1 ∧ E 88 = .int .i64 q2c ∧ RepL R_clocks_Path ρ q0e q12 ∧ St w0 w (cells q9 25 [.slice q0c s0.L.length c_s0_0, .int .i64 q16] :: cells b6 56 [.int .i64 0, .slice none 0 0, .slice none 0 0, .slice none 0 0] :: cells b7 56 [.int .i64 q0j.1, .slice q3 q2.length c_b7_1_L3, .slice q8 q7.length c_b7_2_L9, .slice q0f q1n c_b7_3_L21h] :: vec 9 RpS.sz (.slice q6 q4.length c_from12_L16) q4.length q0o :: vec 9 RpS.sz (.slice q0b q0a.length c_to13_L16) q0a.length q0u :: vec 156 R_clocks_Input.sz (.slice q3 q2.length c_b7_1_L3) q2.length q0d :: vec 158 R_clocks_Output.sz (.slice q8 q7.length c_b7_2_L9) q7.length q0n :: vec 160 R_clocks_Path.sz (.slice q0f q1n c_b7_3_L21h) q1n q12 :: ro ρ :: l)) fuel ⟨none, 0, 0, [], 0, q4v.2, [], hLL21, q6c, q7p, q7q, q7r, q6n, q6o, rfl, rfl, q4j, (((((((((hS.pull 2).pull 1).pull 8).pull 8).pull 8).pull 8).pull 8).pull 8).pull 8)⟩ ?_
  rintro kL21 E w ⟨q0f, q1n, c_b7_3_L21h, q12, q2c, q16, q0e, hLL21, q2l, q5b, q5c, q2m, q36, q37, q4k, q4l, q1o, hS⟩
  have e_ := St.vec_n (hS.pull 7) q1o; subst e_
  replace hLL21 := lp_s hLL21; obtain ⟨kL21, obL21, rfl, hFL21, hLL21⟩ := hLL21
  refine x_seq <| x_region <| p (yl_lss q4l q4k) <| x_done <|
   x_seq <|
   x_cond_p (q2c < q4v.1) rfl (fun hc89 => ?_) (fun hc89 => ?_)
  ·replace hFL21 := it_t hc89 hFL21
   refine x_skip <| x_seq <| x_block <| x_seq <|
    x_region <| p (yl_move q5b) <| x_done <| ?_
   replace hFL21 := bd_s hFL21; obtain ⟨oc90, hFc90, hFL21⟩ := hFL21
   refine x_join (fun E w => ∃ (q26 : Option Addr) (q27 : Nat) (c_b7_3_c90 : Nat) (q1p : List Value) (q28 : Int) (q2d : List T_clocks_Path), (q28, q2d) = oc90 ∧ E 0 = .pointer (some ⟨q9, 0, none⟩) ∧ E 2 = .bool paths2 ∧ E 6 = .pointer (some ⟨b6, 0, none⟩) ∧ E 7 = .pointer (some ⟨b7, 0, none⟩) ∧ E 12 = .slice q6 q4.length c_from12_L16 ∧ E 13 = .slice q0b q0a.length c_to13_L16 ∧ E 87 = .int .i64 q4v.1 ∧ E 88 = .int .i64 q2c ∧ RepL R_clocks_Path ρ q2d q1p ∧ St w0 w (cells q9 25 [.slice q0c s0.L.length c_s0_0, .int .i64 q28] :: cells b6 56 [.int .i64 0, .slice none 0 0, .slice none 0 0, .slice none 0 0] :: cells b7 56 [.int .i64 q0j.1, .slice q3 q2.length c_b7_1_L3, .slice q8 q7.length c_b7_2_L9, .slice q26 q27 c_b7_3_c90] :: vec 9 RpS.sz (.slice q6 q4.length c_from12_L16) q4.length q0o :: vec 9 RpS.sz (.slice q0b q0a.length c_to13_L16) q0a.length q0u :: vec 156 R_clocks_Input.sz (.slice q3 q2.length c_b7_1_L3) q2.length q0d :: vec 158 R_clocks_Output.sz (.slice q8 q7.length c_b7_2_L9) q7.length q0n :: vec 160 R_clocks_Path.sz (.slice q26 q27 c_b7_3_c90) q27 q1p :: ro ρ :: l)) ?_ ?_
   ·refine x_cond (t := paths2) rfl (fun hc90 => ?_) (fun hc90 => ?_)
    ·replace hFc90 := it_t hc90 hFc90
     replace hFc90 := bd_s hFc90; obtain ⟨q2h, q7t, hFc90⟩ := hFc90
     replace hFc90 := ck_s hFc90; obtain ⟨q6d, hFc90⟩ := hFc90
     replace hFc90 := lv_s hFc90; obtain ⟨x99, hx99, hFc90⟩ := hFc90
     replace hFc90 := bd_s hFc90; obtain ⟨q1q, q6p, hFc90⟩ := hFc90
     replace hFc90 := ck_s hFc90; obtain ⟨q5z, hFc90⟩ := hFc90
     replace hFc90 := lv_s hFc90; obtain ⟨x106, hx106, hFc90⟩ := hFc90
     replace hFc90 := bd_s hFc90; obtain ⟨q0s, q6q, hFc90⟩ := hFc90
     replace hFc90 := lv_s hFc90; obtain ⟨q0w, q6r, hFc90⟩ := hFc90
     replace hFc90 := ck_s hFc90; obtain ⟨q6s, hFc90⟩ := hFc90
     refine x_par (w0 := w0) [⟨[], [], [91], [], [], []⟩, ⟨[0], [0], [92], [0], [], []⟩, ⟨[], [], [93], [], [], []⟩, ⟨[], [], [94], [], [], []⟩, ⟨[], [], [95], [], [], []⟩, ⟨[4], [4], [96], [], [], []⟩, ⟨[3, 4, 5], [3, 5], [97], [2], [1], [3]⟩, ⟨[2, 3, 4, 5, 6], [2, 6], [98], [4], [], []⟩, ⟨[2, 3, 4, 5, 6, 7], [7], [99], [4], [], []⟩, ⟨[], [], [100], [], [], []⟩, ⟨[], [], [101], [], [], []⟩, ⟨[], [], [102], [], [], []⟩, ⟨[11], [11], [103], [], [], []⟩, ⟨[3, 4, 5, 6, 10, 11, 12], [10, 12], [104], [2], [3], [5]⟩, ⟨[3, 4, 5, 6, 9, 10, 11, 12, 13], [9, 13], [105], [6], [], []⟩, ⟨[3, 4, 5, 6, 9, 10, 11, 12, 13, 14], [14], [106], [6], [], []⟩, ⟨[], [], [107], [], [], []⟩, ⟨[], [], [108], [], [], [7]⟩, ⟨[3, 4, 5, 6, 10, 11, 12, 13, 16, 17], [16, 17], [109], [2], [7, 5], [8, 9]⟩, ⟨[2, 3, 4, 5, 6, 7, 8, 9, 10, 11, 12, 13, 14, 15, 16, 17, 18], [8, 15, 18], [110], [], [], []⟩, ⟨[2, 3, 4, 5, 6, 7, 8, 9, 10, 11, 12, 13, 14, 15, 16, 17, 18, 19], [19], [111], [], [], [10]⟩, ⟨[0, 1, 2, 3, 4, 5, 6, 7, 8, 9, 10, 11, 12, 13, 14, 15, 16, 17, 18, 19, 20], [1, 20], [112], [10, 2], [11], [12]⟩, ⟨[0, 1, 2, 3, 4, 5, 6, 7, 8, 9, 10, 11, 12, 13, 14, 15, 16, 17, 18, 19, 20, 21], [], [113], [], [], []⟩, ⟨[0, 1, 2, 3, 4, 5, 6, 7, 8, 9, 10, 11, 12, 13, 14, 15, 16, 17, 18, 19, 20, 21, 22], [21, 22], [], [], [0], [13]⟩] [⟨none, (some 23), []⟩, ⟨none, (some 6), []⟩, ⟨none, none, []⟩, ⟨(some 6), (some 13), []⟩, ⟨none, none, []⟩, ⟨(some 13), (some 18), []⟩, ⟨none, none, []⟩, ⟨(some 17), (some 18), [108]⟩, ⟨(some 18), none, []⟩, ⟨(some 18), none, [108]⟩, ⟨(some 20), none, [111]⟩, ⟨none, (some 21), []⟩, ⟨(some 21), none, [112]⟩, ⟨(some 23), none, [112]⟩] [91, 92, 93, 94, 95, 96, 97, 98, 99, 100, 101, 102, 103, 104, 105, 106, 107, 108, 109, 110, 111, 112, 113] [0, 1, 2, 4, 6, 11] [2, 4, 6, 8, 9, 10, 12, 13] [0, 1, 2, 3, 4, 5, 6, 7, 8, 9, 10, 11, 12, 13, 14, 15, 16, 17, 18, 19, 20, 21, 22] [fun Ep23 => Ep23 91 = .pointer (some ⟨b7, 3, none⟩), fun Ep23 => Ep23 92 = .slice q0f q0e.length c_b7_3_L21h, fun Ep23 => Ep23 93 = .slice q6 q4.length c_from12_L16, fun Ep23 => Ep23 94 = .pointer (some ⟨q9, 0, none⟩), fun Ep23 => Ep23 95 = .slice q6 q4.length c_from12_L16, fun Ep23 => Ep23 96 = .int .i64 (q4.length : Int), fun Ep23 => Ep23 97 = .int .i64 q2h.1, fun Ep23 => Ep23 98 = .pointer (some ((adr q6).add (q2h.1.toNat * RpS.sz))), fun Ep23 => Ep23 99 = .string x99, fun Ep23 => Ep23 100 = .slice q0b q0a.length c_to13_L16, fun Ep23 => Ep23 101 = .pointer (some ⟨q9, 0, none⟩), fun Ep23 => Ep23 102 = .slice q0b q0a.length c_to13_L16, fun Ep23 => Ep23 103 = .int .i64 (q0a.length : Int), fun Ep23 => Ep23 104 = .int .i64 q1q.1, fun Ep23 => Ep23 105 = .pointer (some ((adr q0b).add (q1q.1.toNat * RpS.sz))), fun Ep23 => Ep23 106 = .string x106, fun Ep23 => Ep23 107 = .pointer (some ⟨q9, 0, none⟩), fun Ep23 => Ep23 108 = .slice (some ⟨(blkOf (Ep23 108)), 0, none⟩) 3 3, fun Ep23 => Ep23 109 = .int .i64 q0s.1, fun Ep23 => Ep23 110 = .agg #[.string x99, .string x106, .int .i64 q0s.1], fun Ep23 => Ep23 111 = .slice (some ⟨(blkOf (Ep23 111)), 0, none⟩) 1 1, fun Ep23 => Ep23 112 = .slice (adOf (Ep23 112)) q0w.length (capOf (Ep23 112)), fun Ep23 => Ep23 113 = .pointer (some ⟨b7, 3, none⟩), fun Ep23 => True] [fun Ep23 => cells b7 56 [.int .i64 q0j.1, .slice q3 q2.length c_b7_1_L3, .slice q8 q7.length c_b7_2_L9, .slice q0f q0e.length c_b7_3_L21h], fun Ep23 => cells q9 25 [.slice q0c s0.L.length c_s0_0, .int .i64 q16], fun Ep23 => ro ρ, fun Ep23 => cells q9 25 [.slice q0c s0.L.length c_s0_0, .int .i64 q2h.2], fun Ep23 => vec 9 RpS.sz (.slice q6 q4.length c_from12_L16) q4.length q0o, fun Ep23 => cells q9 25 [.slice q0c s0.L.length c_s0_0, .int .i64 q1q.2], fun Ep23 => vec 9 RpS.sz (.slice q0b q0a.length c_to13_L16) q0a.length q0u, fun Ep23 => cells (blkOf (Ep23 108)) 3 [.int .i64 0, .int .i64 2, .int .i64 3], fun Ep23 => cells q9 25 [.slice q0c s0.L.length c_s0_0, .int .i64 q0s.2], fun Ep23 => bunA (fun (x : Unit) => RepL (RpI .i64) ρ ([0, 2, 3] : List Int) [.int .i64 0, .int .i64 2, .int .i64 3]) (fun (x : Unit) => [vec 3 (RpI .i64).sz (.slice (some ⟨(blkOf (Ep23 108)), 0, none⟩) 3 3) 3 [.int .i64 0, .int .i64 2, .int .i64 3]]), fun Ep23 => cells (blkOf (Ep23 111)) 160 [.string x99, .string x106, .int .i64 q0s.1], fun Ep23 => vec 160 R_clocks_Path.sz (.slice q0f q0e.length c_b7_3_L21h) q0e.length q12, fun Ep23 => bunA (fun (cs112 : List Value) => RepL R_clocks_Path ρ q0w cs112) (fun (cs112 : List Value) => [vec 160 R_clocks_Path.sz (.slice (adOf (Ep23 112)) q0w.length (capOf (Ep23 112))) q0w.length cs112]), fun Ep23 => cells b7 56 [.int .i64 q0j.1, .slice q3 q2.length c_b7_1_L3, .slice q8 q7.length c_b7_2_L9, .slice (adOf (Ep23 112)) q0w.length (capOf (Ep23 112))]] mixed (by kernel_rfl) ((((((hS.pull 7).pull 5).pull 5).pull 8).pull 4).pull 6) ?_ ?_
     ·refine ⟨?_, ?_, ?_, ?_, ?_, ?_, ?_, ?_, ?_, ?_, ?_, ?_, ?_, ?_, ?_, ?_, ?_, ?_, ?_, ?_, ?_, ?_, ?_, ?_, trivial⟩
      ·intro Ep23 w l' hE23 hO23 hF_ hS
       refine p (yl_field0 fld_56_3 ((hE23 7 rfl).trans q2m)) <| x_done <| ?_
       refine x_fin ⟨⟨_, rfl⟩, rfl, ?_⟩
       exact Eq.mp (by kernel_rfl) hS
      ·intro Ep23 w l' hE23 hO23 hF_ hS
       obtain ⟨q45, -⟩ := hF_
       replace q45 : Ep23 91 = .pointer (some ⟨b7, 3, none⟩) := Eq.mp (by kernel_rfl) q45
       replace hS : St w0 w (cells b7 56 [.int .i64 q0j.1, .slice q3 q2.length c_b7_1_L3, .slice q8 q7.length c_b7_2_L9, .slice q0f q0e.length c_b7_3_L21h] :: l') := Eq.mp (by kernel_rfl) hS
       refine pa (at_load one_54 q45 (hS.cell rfl)) <| x_done <| ?_
       refine x_fin ⟨⟨_, rfl⟩, rfl, ?_⟩
       exact Eq.mp (by kernel_rfl) hS
      ·intro Ep23 w l' hE23 hO23 hF_ hS
       refine p (yl_move ((hE23 12 rfl).trans q36)) <| x_done <| ?_
       refine x_fin ⟨⟨_, rfl⟩, rfl, ?_⟩
       exact Eq.mp (by kernel_rfl) hS
      ·intro Ep23 w l' hE23 hO23 hF_ hS
       refine p (yl_move ((hE23 0 rfl).trans q2l)) <| x_done <| ?_
       refine x_fin ⟨⟨_, rfl⟩, rfl, ?_⟩
       exact Eq.mp (by kernel_rfl) hS
      ·intro Ep23 w l' hE23 hO23 hF_ hS
       refine p (yl_move ((hE23 12 rfl).trans q36)) <| x_done <| ?_
       refine x_fin ⟨⟨_, rfl⟩, rfl, ?_⟩
       exact Eq.mp (by kernel_rfl) hS
      ·intro Ep23 w l' hE23 hO23 hF_ hS
       obtain ⟨q46, -⟩ := hF_
       replace q46 : Ep23 95 = .slice q6 q4.length c_from12_L16 := Eq.mp (by kernel_rfl) q46
       refine p (yl_len_slice usl_26 q46) <| x_done <| ?_
       refine x_fin ⟨⟨_, rfl⟩, rfl, ?_⟩
       exact Eq.mp (by kernel_rfl) hS
      ·intro Ep23 w l' hE23 hO23 hF_ hS
       obtain ⟨q47, q48, -⟩ := hF_
       replace q47 : Ep23 94 = .pointer (some ⟨q9, 0, none⟩) := Eq.mp (by kernel_rfl) q47
       replace q48 : Ep23 96 = .int .i64 (q4.length : Int) := Eq.mp (by kernel_rfl) q48
       replace hS : St w0 w (ro ρ :: cells q9 25 [.slice q0c s0.L.length c_s0_0, .int .i64 q16] :: l') := Eq.mp (by kernel_rfl) hS
       have hcall := c_maskmake_Stream_Next q7t q1c (hS.pull 1)
       refine o_cc call_13 (args2 q47 q48) hcall ?_
       rintro e w' ⟨rfl, hS⟩
       refine ⟨_, rfl, ?_⟩
       refine x_done <| ?_
       refine x_fin ⟨⟨_, rfl⟩, rfl, ?_⟩
       exact Eq.mp (by kernel_rfl) (hS.pull 1)
      ·intro Ep23 w l' hE23 hO23 hF_ hS
       obtain ⟨q49, q4a, -⟩ := hF_
       replace q49 : Ep23 93 = .slice q6 q4.length c_from12_L16 := Eq.mp (by kernel_rfl) q49
       replace q4a : Ep23 97 = .int .i64 q2h.1 := Eq.mp (by kernel_rfl) q4a
       replace hS : St w0 w (vec 9 RpS.sz (.slice q6 q4.length c_from12_L16) q4.length q0o :: l') := Eq.mp (by kernel_rfl) hS
       refine p (yix_o sl_26 q49 q4a hS q2b q6d) <| x_done <| ?_
       refine x_fin ⟨⟨_, rfl⟩, rfl, ?_⟩
       exact Eq.mp (by kernel_rfl) hS
      ·intro Ep23 w l' hE23 hO23 hF_ hS
       obtain ⟨q4b, -⟩ := hF_
       replace q4b : Ep23 98 = .pointer (some ((adr q6).add (q2h.1.toNat * RpS.sz))) := Eq.mp (by kernel_rfl) q4b
       replace hS : St w0 w (vec 9 RpS.sz (.slice q6 q4.length c_from12_L16) q4.length q0o :: l') := Eq.mp (by kernel_rfl) hS
       refine pa (at_load one_9 q4b (RepL.getW q2b hS q6d hx99)) <| x_done <| ?_
       refine x_fin ⟨⟨_, rfl⟩, rfl, ?_⟩
       exact Eq.mp (by kernel_rfl) hS
      ·intro Ep23 w l' hE23 hO23 hF_ hS
       refine p (yl_move ((hE23 13 rfl).trans q37)) <| x_done <| ?_
       refine x_fin ⟨⟨_, rfl⟩, rfl, ?_⟩
       exact Eq.mp (by kernel_rfl) hS
      ·intro Ep23 w l' hE23 hO23 hF_ hS
       refine p (yl_move ((hE23 0 rfl).trans q2l)) <| x_done <| ?_
       refine x_fin ⟨⟨_, rfl⟩, rfl, ?_⟩
       exact Eq.mp (by kernel_rfl) hS
      ·intro Ep23 w l' hE23 hO23 hF_ hS
       refine p (yl_move ((hE23 13 rfl).trans q37)) <| x_done <| ?_
       refine x_fin ⟨⟨_, rfl⟩, rfl, ?_⟩
       exact Eq.mp (by kernel_rfl) hS
      ·intro Ep23 w l' hE23 hO23 hF_ hS
       obtain ⟨q2n, -⟩ := hF_
       replace q2n : Ep23 102 = .slice q0b q0a.length c_to13_L16 := Eq.mp (by kernel_rfl) q2n
       refine p (yl_len_slice usl_26 q2n) <| x_done <| ?_
       refine x_fin ⟨⟨_, rfl⟩, rfl, ?_⟩
       exact Eq.mp (by kernel_rfl) hS
      ·intro Ep23 w l' hE23 hO23 hF_ hS
       obtain ⟨q2o, q2p, -⟩ := hF_
       replace q2o : Ep23 101 = .pointer (some ⟨q9, 0, none⟩) := Eq.mp (by kernel_rfl) q2o
       replace q2p : Ep23 103 = .int .i64 (q0a.length : Int) := Eq.mp (by kernel_rfl) q2p
       replace hS : St w0 w (ro ρ :: cells q9 25 [.slice q0c s0.L.length c_s0_0, .int .i64 q2h.2] :: l') := Eq.mp (by kernel_rfl) hS
       have hcall := c_maskmake_Stream_Next q6p q1c (hS.pull 1)
       refine o_cc call_13 (args2 q2o q2p) hcall ?_
       rintro e w' ⟨rfl, hS⟩
       refine ⟨_, rfl, ?_⟩
       refine x_done <| ?_
       refine x_fin ⟨⟨_, rfl⟩, rfl, ?_⟩
       exact Eq.mp (by kernel_rfl) (hS.pull 1)
      ·intro Ep23 w l' hE23 hO23 hF_ hS
       obtain ⟨q4c, q2q, -⟩ := hF_
       replace q4c : Ep23 100 = .slice q0b q0a.length c_to13_L16 := Eq.mp (by kernel_rfl) q4c
       replace q2q : Ep23 104 = .int .i64 q1q.1 := Eq.mp (by kernel_rfl) q2q
       replace hS : St w0 w (vec 9 RpS.sz (.slice q0b q0a.length c_to13_L16) q0a.length q0u :: l') := Eq.mp (by kernel_rfl) hS
       refine p (yix_o sl_26 q4c q2q hS q34 q5z) <| x_done <| ?_
       refine x_fin ⟨⟨_, rfl⟩, rfl, ?_⟩
       exact Eq.mp (by kernel_rfl) hS
      ·intro Ep23 w l' hE23 hO23 hF_ hS
       obtain ⟨q2r, -⟩ := hF_
       replace q2r : Ep23 105 = .pointer (some ((adr q0b).add (q1q.1.toNat * RpS.sz))) := Eq.mp (by kernel_rfl) q2r
       replace hS : St w0 w (vec 9 RpS.sz (.slice q0b q0a.length c_to13_L16) q0a.length q0u :: l') := Eq.mp (by kernel_rfl) hS
       refine pa (at_load one_9 q2r (RepL.getW q34 hS q5z hx106)) <| x_done <| ?_
       refine x_fin ⟨⟨_, rfl⟩, rfl, ?_⟩
       exact Eq.mp (by kernel_rfl) hS
      ·intro Ep23 w l' hE23 hO23 hF_ hS
       refine p (yl_move ((hE23 0 rfl).trans q2l)) <| x_done <| ?_
       refine x_fin ⟨⟨_, rfl⟩, rfl, ?_⟩
       exact Eq.mp (by kernel_rfl) hS
      ·intro Ep23 w l' hE23 hO23 hF_ hS
       refine o_buildSlice (vs := [.int .i64 0, .int .i64 2, .int .i64 3]) (cs := [.int .i64 0, .int .i64 2, .int .i64 3]) sl_22 zero_3 (parts_eq (pt (va := .int .i64 0) rfl (pt (va := .int .i64 2) rfl (pt (va := .int .i64 3) rfl pt0)))) rfl (by intro v hv; simp only [List.mem_cons, List.not_mem_nil, or_false] at hv; first | (subst hv; rfl) | (rcases hv with rfl | rfl | rfl <;> rfl)) (by decide) rfl hS (fun b108 w' hS => ?_)
       refine x_done <| ?_
       refine x_fin ⟨⟨_, rfl⟩, rfl, ?_⟩
       exact Eq.mp (by kernel_rfl) hS
      ·intro Ep23 w l' hE23 hO23 hF_ hS
       obtain ⟨q2s, q2t, -⟩ := hF_
       replace q2s : Ep23 107 = .pointer (some ⟨q9, 0, none⟩) := Eq.mp (by kernel_rfl) q2s
       replace q2t : Ep23 108 = .slice (some ⟨(blkOf (Ep23 108)), 0, none⟩) 3 3 := Eq.mp (by kernel_rfl) q2t
       replace hS : St w0 w (ro ρ :: cells (blkOf (Ep23 108)) 3 [.int .i64 0, .int .i64 2, .int .i64 3] :: cells q9 25 [.slice q0c s0.L.length c_s0_0, .int .i64 q1q.2] :: l') := Eq.mp (by kernel_rfl) hS
       have q5d : RepL (RpI .i64) ρ ([0, 2, 3] : List Int) [.int .i64 0, .int .i64 2, .int .i64 3] := (RepL.cons (cs := [.int .i64 0]) rfl (RepL.cons (cs := [.int .i64 2]) rfl (RepL.cons (cs := [.int .i64 3]) rfl RepL.nil)))
       replace hS := St.vec_of (n := 3) (sz := (RpI .i64).sz) (hS.pull 1) rfl (by decide)
       have q_ := St.lend ((hS.pull 1).pull 1) q5d; obtain ⟨ρl0, hll0, hlf0, hS0, back0⟩ := q_
       have hcall := c_maskmake_Stream_Pick q6q (q1c.le hll0) hlf0 (hS0.pull 1)
       refine o_cc call_68 (args2 q2s q2t) hcall ?_
       rintro e w' ⟨rfl, hS⟩
       refine ⟨_, rfl, ?_⟩
       replace hS := back0 (hS.pull 1)
       refine x_done <| ?_
       refine x_fin ⟨⟨_, rfl⟩, rfl, ?_⟩
       replace hS := St.bun (Φ := (fun (x : Unit) => RepL (RpI .i64) ρ ([0, 2, 3] : List Int) [.int .i64 0, .int .i64 2, .int .i64 3])) (L := (fun (x : Unit) => [vec 3 (RpI .i64).sz (.slice (some ⟨(blkOf (Ep23 108)), 0, none⟩) 3 3) 3 [.int .i64 0, .int .i64 2, .int .i64 3]])) () q5d hS
       exact Eq.mp (by kernel_rfl) ((hS.pull 2).pull 2)
      ·intro Ep23 w l' hE23 hO23 hF_ hS
       obtain ⟨q4d, q2u, q2v, -⟩ := hF_
       replace q4d : Ep23 99 = .string x99 := Eq.mp (by kernel_rfl) q4d
       replace q2u : Ep23 106 = .string x106 := Eq.mp (by kernel_rfl) q2u
       replace q2v : Ep23 109 = .int .i64 q0s.1 := Eq.mp (by kernel_rfl) q2v
       refine p (v := .agg #[.string x99, .string x106, .int .i64 q0s.1]) (yl_build bld_160 bldf_160 (parts_eq (pt (va := .string x99) q4d (pt (va := .string x106) q2u (pt (va := .int .i64 q0s.1) q2v pt0)))) (by kernel_rfl)) <| x_done <| ?_
       refine x_fin ⟨⟨_, rfl⟩, rfl, ?_⟩
       exact Eq.mp (by kernel_rfl) hS
      ·intro Ep23 w l' hE23 hO23 hF_ hS
       obtain ⟨q2w, -⟩ := hF_
       replace q2w : Ep23 110 = .agg #[.string x99, .string x106, .int .i64 q0s.1] := Eq.mp (by kernel_rfl) q2w
       refine o_buildSlice (vs := [.agg #[.string x99, .string x106, .int .i64 q0s.1]]) (cs := [.string x99, .string x106, .int .i64 q0s.1]) sl_54 zero_160 (parts_eq (pt (va := .agg #[.string x99, .string x106, .int .i64 q0s.1]) q2w pt0)) rfl (by intro v hv; simp only [List.mem_cons, List.not_mem_nil, or_false] at hv; first | (subst hv; rfl) | (rcases hv with rfl <;> rfl)) (by decide) rfl hS (fun b111 w' hS => ?_)
       refine x_done <| ?_
       refine x_fin ⟨⟨_, rfl⟩, rfl, ?_⟩
       exact Eq.mp (by kernel_rfl) hS
      ·intro Ep23 w l' hE23 hO23 hF_ hS
       obtain ⟨q4e, q2x, -⟩ := hF_
       replace q4e : Ep23 92 = .slice q0f q0e.length c_b7_3_L21h := Eq.mp (by kernel_rfl) q4e
       replace q2x : Ep23 111 = .slice (some ⟨(blkOf (Ep23 111)), 0, none⟩) 1 1 := Eq.mp (by kernel_rfl) q2x
       replace hS : St w0 w (cells (blkOf (Ep23 111)) 160 [.string x99, .string x106, .int .i64 q0s.1] :: ro ρ :: vec 160 R_clocks_Path.sz (.slice q0f q0e.length c_b7_3_L21h) q0e.length q12 :: l') := Eq.mp (by kernel_rfl) hS
       refine o_ap sl_54 zero_160 rfl (by decide) q4e q2x (hS.pull 2) q1o (src_blk usl_54 hS rfl rfl) (RepL.cons (R := R_clocks_Path) (ρ := ρ) (x := (T_clocks_Path.mk x99 x106 q0s.1)) (cs := [.string x99, .string x106, .int .i64 q0s.1]) rfl RepL.nil) q6r q6s (fun A112 c112 cs112 w' hr112 hS => ?_)
       refine x_done <| ?_
       refine x_fin ⟨⟨_, rfl⟩, rfl, ?_⟩
       replace hS := St.bun (Φ := (fun (cs112 : List Value) => RepL R_clocks_Path ρ q0w cs112)) (L := (fun (cs112 : List Value) => [vec 160 R_clocks_Path.sz (.slice A112 q0w.length c112) q0w.length cs112])) cs112 hr112 hS
       exact Eq.mp (by kernel_rfl) ((hS.pull 2).pull 2)
      ·intro Ep23 w l' hE23 hO23 hF_ hS
       refine p (yl_field0 fld_56_3 ((hE23 7 rfl).trans q2m)) <| x_done <| ?_
       refine x_fin ⟨⟨_, rfl⟩, rfl, ?_⟩
       exact Eq.mp (by kernel_rfl) hS
      ·intro Ep23 w l' hE23 hO23 hF_ hS
       obtain ⟨q2y, q2z, -⟩ := hF_
       replace q2y : Ep23 112 = .slice (adOf (Ep23 112)) q0w.length (capOf (Ep23 112)) := Eq.mp (by kernel_rfl) q2y
       replace q2z : Ep23 113 = .pointer (some ⟨b7, 3, none⟩) := Eq.mp (by kernel_rfl) q2z
       replace hS : St w0 w (cells b7 56 [.int .i64 q0j.1, .slice q3 q2.length c_b7_1_L3, .slice q8 q7.length c_b7_2_L9, .slice q0f q0e.length c_b7_3_L21h] :: l') := Eq.mp (by kernel_rfl) hS
       refine o_store1 (v := .slice (adOf (Ep23 112)) q0w.length (capOf (Ep23 112))) one_54 q2z q2y rfl rfl hS (fun w' hS => ?_)
       refine x_done <| ?_
       refine x_fin ⟨⟨undef, rfl⟩, trivial, ?_⟩
       exact Eq.mp (by kernel_rfl) hS
     intro Ep23 w' hE23 hF_ hS
     obtain ⟨q45, q4e, q49, q47, q46, q48, q4a, q4b, q4d, q4c, q2o, q2n, q2p, q2q, q2r, q2u, q2s, q2t, q2v, q2w, q2x, q2y, q2z, -⟩ := hF_
     replace q45 : Ep23 91 = .pointer (some ⟨b7, 3, none⟩) := Eq.mp (by kernel_rfl) q45
     replace q4e : Ep23 92 = .slice q0f q0e.length c_b7_3_L21h := Eq.mp (by kernel_rfl) q4e
     replace q49 : Ep23 93 = .slice q6 q4.length c_from12_L16 := Eq.mp (by kernel_rfl) q49
     replace q47 : Ep23 94 = .pointer (some ⟨q9, 0, none⟩) := Eq.mp (by kernel_rfl) q47
     replace q46 : Ep23 95 = .slice q6 q4.length c_from12_L16 := Eq.mp (by kernel_rfl) q46
     replace q48 : Ep23 96 = .int .i64 (q4.length : Int) := Eq.mp (by kernel_rfl) q48
     replace q4a : Ep23 97 = .int .i64 q2h.1 := Eq.mp (by kernel_rfl) q4a
     replace q4b : Ep23 98 = .pointer (some ((adr q6).add (q2h.1.toNat * RpS.sz))) := Eq.mp (by kernel_rfl) q4b
     replace q4d : Ep23 99 = .string x99 := Eq.mp (by kernel_rfl) q4d
     replace q4c : Ep23 100 = .slice q0b q0a.length c_to13_L16 := Eq.mp (by kernel_rfl) q4c
     replace q2o : Ep23 101 = .pointer (some ⟨q9, 0, none⟩) := Eq.mp (by kernel_rfl) q2o
     replace q2n : Ep23 102 = .slice q0b q0a.length c_to13_L16 := Eq.mp (by kernel_rfl) q2n
     replace q2p : Ep23 103 = .int .i64 (q0a.length : Int) := Eq.mp (by kernel_rfl) q2p
     replace q2q : Ep23 104 = .int .i64 q1q.1 := Eq.mp (by kernel_rfl) q2q
     replace q2r : Ep23 105 = .pointer (some ((adr q0b).add (q1q.1.toNat * RpS.sz))) := Eq.mp (by kernel_rfl) q2r
     replace q2u : Ep23 106 = .string x106 := Eq.mp (by kernel_rfl) q2u
     replace q2s : Ep23 107 = .pointer (some ⟨q9, 0, none⟩) := Eq.mp (by kernel_rfl) q2s
     replace q2t : Ep23 108 = .slice (some ⟨(blkOf (Ep23 108)), 0, none⟩) 3 3 := Eq.mp (by kernel_rfl) q2t
     replace q2v : Ep23 109 = .int .i64 q0s.1 := Eq.mp (by kernel_rfl) q2v
     replace q2w : Ep23 110 = .agg #[.string x99, .string x106, .int .i64 q0s.1] := Eq.mp (by kernel_rfl) q2w
     replace q2x : Ep23 111 = .slice (some ⟨(blkOf (Ep23 111)), 0, none⟩) 1 1 := Eq.mp (by kernel_rfl) q2x
     replace q2y : Ep23 112 = .slice (adOf (Ep23 112)) q0w.length (capOf (Ep23 112)) := Eq.mp (by kernel_rfl) q2y
     replace q2z : Ep23 113 = .pointer (some ⟨b7, 3, none⟩) := Eq.mp (by kernel_rfl) q2z
     replace hS : St w0 w' (ro ρ :: vec 9 RpS.sz (.slice q6 q4.length c_from12_L16) q4.length q0o :: vec 9 RpS.sz (.slice q0b q0a.length c_to13_L16) q0a.length q0u :: cells q9 25 [.slice q0c s0.L.length c_s0_0, .int .i64 q0s.2] :: bunA (fun (x : Unit) => RepL (RpI .i64) ρ ([0, 2, 3] : List Int) [.int .i64 0, .int .i64 2, .int .i64 3]) (fun (x : Unit) => [vec 3 (RpI .i64).sz (.slice (some ⟨(blkOf (Ep23 108)), 0, none⟩) 3 3) 3 [.int .i64 0, .int .i64 2, .int .i64 3]]) :: cells (blkOf (Ep23 111)) 160 [.string x99, .string x106, .int .i64 q0s.1] :: bunA (fun (cs112 : List Value) => RepL R_clocks_Path ρ q0w cs112) (fun (cs112 : List Value) => [vec 160 R_clocks_Path.sz (.slice (adOf (Ep23 112)) q0w.length (capOf (Ep23 112))) q0w.length cs112]) :: cells b7 56 [.int .i64 q0j.1, .slice q3 q2.length c_b7_1_L3, .slice q8 q7.length c_b7_2_L9, .slice (adOf (Ep23 112)) q0w.length (capOf (Ep23 112))] :: (cells b6 56 [.int .i64 0, .slice none 0 0, .slice none 0 0, .slice none 0 0] :: vec 156 R_clocks_Input.sz (.slice q3 q2.length c_b7_1_L3) q2.length q0d :: vec 158 R_clocks_Output.sz (.slice q8 q7.length c_b7_2_L9) q7.length q0n :: l)) := Eq.mp (by kernel_rfl) hS
     have q_ := St.unbun (hS.pull 4); obtain ⟨⟨⟩, q5d, hS⟩ := q_
     have q_ := St.unbun (hS.pull 6); obtain ⟨cs112, hr112, hS⟩ := q_
     exact x_inv ⟨(adOf (Ep23 112)), q0w.length, (capOf (Ep23 112)), cs112, q0s.2, q0w, (Option.some.inj (show some _ = some _ from hFc90)), ((hE23 0 rfl).trans q2l), ((hE23 2 rfl).trans q5b), ((hE23 6 rfl).trans q5c), ((hE23 7 rfl).trans q2m), ((hE23 12 rfl).trans q36), ((hE23 13 rfl).trans q37), ((hE23 87 rfl).trans q4k), ((hE23 88 rfl).trans q4l), hr112, (((((((((((hS.pull 1).drop.pull 5).drop.pull 1).pull 1).pull 8).pull 8).pull 5).pull 5).pull 7).pull 8).pull 8)⟩
    ·replace hFc90 := it_bf hc90 hFc90
     refine x_skip <| ?_
     exact x_inv ⟨q0f, q0e.length, c_b7_3_L21h, q12, q16, q0e, (Option.some.inj (show some _ = some _ from hFc90)), q2l, q5b, q5c, q2m, q36, q37, q4k, q4l, q1o, (((((((((hS.pull 8).pull 8).pull 8).pull 8).pull 8).pull 8).pull 8).pull 8).pull 8)⟩
   rintro E w ⟨q26, q27, c_b7_3_c90, q1p, q28, q2d, rfl, q7u, q7v, q7w, q7x, q6t, q6u, q6v, q6w, q4w, hS⟩
   have e_ := St.vec_n (hS.pull 7) q4w; subst e_
   replace hFL21 := ar_s hFL21; obtain ⟨x114, hx114, hFL21⟩ := hFL21
   refine x_blk <| x_region <| p (yadd q6w rfl hx114) <| p (yl_move rfl) <|
    x_done <| ?_
   have e_ := Option.some.inj (show some _ = some _ from hFL21); subst e_
   exact x_inv ⟨kL21, Nat.lt_succ_self _, q26, q2d.length, c_b7_3_c90, q1p, x114, q28, q2d, hLL21, q7u, q7v, q7w, q7x, q6t, q6u, q6v, rfl, q4w, (((((((((hS.pull 8).pull 8).pull 8).pull 8).pull 8).pull 8).pull 8).pull 8).pull 8)⟩
  ·replace hFL21 := it_f hc89 hFL21
   refine x_exitTo _ rfl <| ?_
   have e_ := Option.some.inj (show some _ = some _ from hFL21); subst e_
   exact x_inv ⟨q0f, q0e.length, c_b7_3_L21h, q12, q0e, q16, hLL21, q5c, q2m, q1o, (((((((((hS.pull 3).drop.pull 3).drop.pull 6).pull 6).pull 6).pull 6).pull 4).pull 6).pull 6)⟩
 rintro E w ⟨q1f, q25, c_b7_3_L21, q1m, q1i, q35, rfl, q6e, q7y, q4x, hS⟩
 have e_ := St.vec_n (hS.pull 5) q4x; subst e_
 refine x_seq <| x_region <| pa (v := .agg #[.int .i64 q0j.1, .slice q3 q2.length c_b7_1_L3, .slice q8 q7.length c_b7_2_L9, .slice q1f q1i.length c_b7_3_L21]) (ld_sub agg_56 q7y rfl rfl (hS.pull 1)) <| ?_
 refine o_storeAgg (news := [.int .i64 q0j.1, .slice q3 q2.length c_b7_1_L3, .slice q8 q7.length c_b7_2_L9, .slice q1f q1i.length c_b7_3_L21]) agg_56 q6e rfl rfl (by simp [over_length]) hS (fun w' hS => ?_)
 refine x_done <| ?_
 have e_ := Option.some.inj (show some _ = some _ from hF); subst e_
 exact x_return ⟨_, ⟨_, _, _, rfl, q6e, ldvA agg_56 rfl (fun j v hj => by rw [add0]; exact St.cell hS hj), rfl⟩, q3, q2.length, c_b7_1_L3, q0d, q8, q7.length, c_b7_2_L9, q0n, q1f, q1i.length, c_b7_3_L21, q1m, rfl, q5e, q5f, q4x, (((((hS.drop.drop.pull 4).pull 1).pull 4).pull 4).pull 4)⟩
attribute [irreducible] P_maskmake_Stream_Limits

def P_maskkeep4_job (s0 : T_maskmake_Stream) (paths1 : Bool) : Option (T_timing_Job × Int) :=
 bd (P_maskkeep4_small s0) fun q2 =>
 bd (P_maskmake_Stream_Delays (T_maskmake_Stream.mk s0.L q2.2.2) q2.1 6) fun q3 =>
 bd (P_maskmake_Stream_Limits (T_maskmake_Stream.mk s0.L q3.2) q2.1 paths1) fun q4 =>
 some ((T_timing_Job.mk (T_api_Netlist.mk q2.1.In q2.1.Out q2.1.Flops q2.1.Gates q2.1.Outs) q2.2.1 (T_delay_Delays.mk q3.1.Gates q3.1.Data q3.1.Outs q3.1.Clock q3.1.Launch) (T_clocks_Limits.mk q4.1.Period q4.1.Inputs q4.1.Outputs q4.1.Paths)), q4.2)
set_option maxHeartbeats 4000000 in
set_option maxRecDepth 100000 in
theorem c_maskkeep4_job {w0 w : World} {l : List Assn} {ρ : Heap} {q0v : Nat} {q0w : Option Addr} {q33 : Nat} {c_s0_0 : Nat} {s0 : T_maskmake_Stream} {paths1 : Bool} {r : (T_timing_Job × Int)} (hF : P_maskkeep4_job s0 paths1 = some r) (q26 : RdS (RpI .i64) ρ q0w q33 c_s0_0 s0.L) (hS : St w0 w (cells q0v 25 [.slice q0w q33 c_s0_0, .int .i64 s0.fat] :: ro ρ :: l)) :
  Calls Tryd.prog 17 #[.pointer (some ⟨q0v, 0, none⟩), .bool paths1] w fun e w' => ∃ (ρ' : Heap) (q27 : Option Addr) (q28 : Nat) (c_y0_ret_0 : Nat) (q29 : Option Addr) (q2a : Nat) (c_y0_ret_1 : Nat) (q2b : Option Addr) (q2c : Nat) (c_y0_ret_2 : Nat) (q2d : Option Addr) (q2e : Nat) (c_y0_ret_3 : Nat) (q2f : Option Addr) (q2g : Nat) (c_y0_ret_4 : Nat) (q2h : Option Addr) (q2i : Nat) (c_y0_ret_5 : Nat) (q2j : Option Addr) (q1l : Nat) (c_y0_ret_6 : Nat) (q1x : List Value) (q2k : Option Addr) (q1m : Nat) (c_y0_ret_7 : Nat) (q1y : List Value) (q2l : Option Addr) (q1n : Nat) (c_y0_ret_8 : Nat) (q1z : List Value) (q2m : Option Addr) (q1o : Nat) (c_y0_ret_9 : Nat) (q20 : List Value) (q21 : Option Addr) (q1c : Nat) (c_y0_ret_10 : Nat) (q1s : List Value) (q22 : Option Addr) (q1d : Nat) (c_y0_ret_12 : Nat) (q1t : List Value) (q23 : Option Addr) (q1e : Nat) (c_y0_ret_13 : Nat) (q1u : List Value) (q24 : Option Addr) (q1f : Nat) (c_y0_ret_14 : Nat) (q1v : List Value), e = .returned (.agg #[.slice q27 q28 c_y0_ret_0, .slice q29 q2a c_y0_ret_1, .slice q2b q2c c_y0_ret_2, .slice q2d q2e c_y0_ret_3, .slice q2f q2g c_y0_ret_4, .slice q2h q2i c_y0_ret_5, .slice q2j q1l c_y0_ret_6, .slice q2k q1m c_y0_ret_7, .slice q2l q1n c_y0_ret_8, .slice q2m q1o c_y0_ret_9, .slice q21 q1c c_y0_ret_10, .int .i64 r.1.Limits.Period, .slice q22 q1d c_y0_ret_12, .slice q23 q1e c_y0_ret_13, .slice q24 q1f c_y0_ret_14]) ∧ Le ρ ρ' ∧ RdS RpS ρ' q27 q28 c_y0_ret_0 r.1.Net.In ∧ RdS RpS ρ' q29 q2a c_y0_ret_1 r.1.Net.Out ∧ RdS R_api_Flop ρ' q2b q2c c_y0_ret_2 r.1.Net.Flops ∧ RdS R_api_Gate ρ' q2d q2e c_y0_ret_3 r.1.Net.Gates ∧ RdS (RpI .i64) ρ' q2f q2g c_y0_ret_4 r.1.Net.Outs ∧ RdS R_api_Cell ρ' q2h q2i c_y0_ret_5 r.1.Lib ∧ RepL (RpSl R_tree_Window) ρ' r.1.Delays.Gates q1x ∧ RepL (RpSl R_tree_Window) ρ' r.1.Delays.Data q1y ∧ RepL R_tree_Window ρ' r.1.Delays.Outs q1z ∧ RepL R_tree_Window ρ' r.1.Delays.Clock q20 ∧ RepL R_tree_Window ρ' r.1.Delays.Launch q1s ∧ RepL R_clocks_Input ρ' r.1.Limits.Inputs q1t ∧ RepL R_clocks_Output ρ' r.1.Limits.Outputs q1u ∧ RepL R_clocks_Path ρ' r.1.Limits.Paths q1v ∧ St w0 w' (vec 49 (RpSl R_tree_Window).sz (.slice q2j q1l c_y0_ret_6) q1l q1x :: vec 49 (RpSl R_tree_Window).sz (.slice q2k q1m c_y0_ret_7) q1m q1y :: vec 70 R_tree_Window.sz (.slice q2l q1n c_y0_ret_8) q1n q1z :: vec 70 R_tree_Window.sz (.slice q2m q1o c_y0_ret_9) q1o q20 :: vec 70 R_tree_Window.sz (.slice q21 q1c c_y0_ret_10) q1c q1s :: vec 156 R_clocks_Input.sz (.slice q22 q1d c_y0_ret_12) q1d q1t :: vec 158 R_clocks_Output.sz (.slice q23 q1e c_y0_ret_13) q1e q1u :: vec 160 R_clocks_Path.sz (.slice q24 q1f c_y0_ret_14) q1f q1v :: cells q0v 25 [.slice q0w q33 c_s0_0, .int .i64 r.2] :: ro ρ' :: l) := by
 have e_ := q26.n; subst e_
 refine enterC Tryd.func17 rfl 22 rfl (by simp) ?_
 refine x_seq <| x_region <| ?_
 refine o_alloc zero_58 hS (fun b4 w' hS => ?_)
 replace hF := bd_s hF; obtain ⟨q2, q3n, hF⟩ := hF
 refine x_done <| x_seq <| x_region <| p (yl_move rfl) <| ?_
 have hcall := c_maskkeep4_small q3n q26 ((hS.pull 2).pull 2)
 refine o_cc call_11 (args1 rfl) hcall ?_
 rintro e w' ⟨q0c, q4, q37, c_y0_ret_0_1_1, q17, q5, q38, c_y0_ret_1_1_1, q18, q6, q39, c_y0_ret_2_1_1, q19, q7, q3a, c_y0_ret_3_1_1, q1a, q8, q3b, c_y0_ret_4_1_1, q1b, q0a, q3l, c_y1_ret_1_1, rfl, q34, q1g, q1h, q1i, q1j, q1k, q1w, hS⟩
 refine ⟨_, rfl, ?_⟩
 have e_ := St.vec_n hS q1g; subst e_
 have e_ := St.vec_n (hS.pull 1) q1h; subst e_
 have e_ := St.vec_n (hS.pull 2) q1i; subst e_
 have e_ := St.vec_n (hS.pull 3) q1j; subst e_
 have e_ := St.vec_n (hS.pull 4) q1k; subst e_
 have e_ := q1w.n; subst e_
 refine p (yl_move rfl) <| p (yl_extract rfl rfl) <| p (yl_extract rfl rfl) <| ?_
 refine o_alloc zero_30 hS (fun b5 w' hS => ?_)
 refine o_storeAgg (news := [.slice q4 q2.1.In.length c_y0_ret_0_1_1, .slice q5 q2.1.Out.length c_y0_ret_1_1_1, .slice q6 q2.1.Flops.length c_y0_ret_2_1_1, .slice q7 q2.1.Gates.length c_y0_ret_3_1_1, .slice q8 q2.1.Outs.length c_y0_ret_4_1_1]) agg_30 rfl rfl rfl (by simp [over_length]) hS (fun w' hS => ?_)
 refine p (yl_assign rfl) <| x_done <| x_seq <| ?_
 replace hF := bd_s hF; obtain ⟨q3, q3o, hF⟩ := hF
 replace hF := bd_s hF; obtain ⟨q9, q3p, hF⟩ := hF
 refine x_par (w0 := w0) [⟨[], [], [12], [0], [], []⟩, ⟨[], [], [13], [], [], []⟩, ⟨[], [], [14], [], [], []⟩, ⟨[], [], [15], [0], [], []⟩, ⟨[2, 3], [2, 3], [16], [7], [1, 2, 3, 4, 5, 6], [8, 9]⟩, ⟨[], [], [17], [], [], []⟩, ⟨[], [], [18], [0], [], []⟩, ⟨[], [], [19], [], [], []⟩, ⟨[2, 3, 4, 5, 6, 7], [4, 5, 6, 7], [20], [7], [8, 9], [10, 11]⟩, ⟨[0, 1, 2, 3, 4, 5, 6, 7, 8], [0, 1, 4, 8], [16, 20, 21], [], [], []⟩, ⟨[0, 1, 2, 3, 4, 5, 6, 7, 8, 9], [4, 8, 9], [], [], [12], [13]⟩] [⟨none, none, []⟩, ⟨none, (some 4), []⟩, ⟨none, (some 4), []⟩, ⟨none, (some 4), []⟩, ⟨none, (some 4), []⟩, ⟨none, (some 4), []⟩, ⟨none, (some 4), []⟩, ⟨none, none, []⟩, ⟨(some 4), (some 8), []⟩, ⟨(some 4), (some 8), [16]⟩, ⟨(some 8), none, []⟩, ⟨(some 8), none, [16, 20]⟩, ⟨none, (some 10), []⟩, ⟨(some 10), none, [16, 20]⟩] [12, 13, 14, 15, 16, 17, 18, 19, 20, 21] [0, 1, 2, 3, 4, 5, 6, 7, 12] [0, 7, 10, 11, 13] [0, 1, 2, 3, 4, 5, 6, 7, 8, 9] [fun Ep2 => Ep2 12 = .agg #[.slice q4 q2.1.In.length c_y0_ret_0_1_1, .slice q5 q2.1.Out.length c_y0_ret_1_1_1, .slice q6 q2.1.Flops.length c_y0_ret_2_1_1, .slice q7 q2.1.Gates.length c_y0_ret_3_1_1, .slice q8 q2.1.Outs.length c_y0_ret_4_1_1], fun Ep2 => Ep2 13 = .slice q0a q2.2.1.length c_y1_ret_1_1, fun Ep2 => Ep2 14 = .pointer (some ⟨q0v, 0, none⟩), fun Ep2 => Ep2 15 = .agg #[.slice q4 q2.1.In.length c_y0_ret_0_1_1, .slice q5 q2.1.Out.length c_y0_ret_1_1_1, .slice q6 q2.1.Flops.length c_y0_ret_2_1_1, .slice q7 q2.1.Gates.length c_y0_ret_3_1_1, .slice q8 q2.1.Outs.length c_y0_ret_4_1_1], fun Ep2 => Ep2 16 = .agg #[.slice (adOf (partOf 0 (Ep2 16))) q3.1.Gates.length (capOf (partOf 0 (Ep2 16))), .slice (adOf (partOf 1 (Ep2 16))) q3.1.Data.length (capOf (partOf 1 (Ep2 16))), .slice (adOf (partOf 2 (Ep2 16))) q3.1.Outs.length (capOf (partOf 2 (Ep2 16))), .slice (adOf (partOf 3 (Ep2 16))) q3.1.Clock.length (capOf (partOf 3 (Ep2 16))), .slice (adOf (partOf 4 (Ep2 16))) q3.1.Launch.length (capOf (partOf 4 (Ep2 16)))], fun Ep2 => Ep2 17 = .pointer (some ⟨q0v, 0, none⟩), fun Ep2 => Ep2 18 = .agg #[.slice q4 q2.1.In.length c_y0_ret_0_1_1, .slice q5 q2.1.Out.length c_y0_ret_1_1_1, .slice q6 q2.1.Flops.length c_y0_ret_2_1_1, .slice q7 q2.1.Gates.length c_y0_ret_3_1_1, .slice q8 q2.1.Outs.length c_y0_ret_4_1_1], fun Ep2 => Ep2 19 = .bool paths1, fun Ep2 => Ep2 20 = .agg #[.int .i64 q9.1.Period, .slice (adOf (partOf 1 (Ep2 20))) q9.1.Inputs.length (capOf (partOf 1 (Ep2 20))), .slice (adOf (partOf 2 (Ep2 20))) q9.1.Outputs.length (capOf (partOf 2 (Ep2 20))), .slice (adOf (partOf 3 (Ep2 20))) q9.1.Paths.length (capOf (partOf 3 (Ep2 20)))], fun Ep2 => Ep2 21 = .agg #[.slice q4 q2.1.In.length c_y0_ret_0_1_1, .slice q5 q2.1.Out.length c_y0_ret_1_1_1, .slice q6 q2.1.Flops.length c_y0_ret_2_1_1, .slice q7 q2.1.Gates.length c_y0_ret_3_1_1, .slice q8 q2.1.Outs.length c_y0_ret_4_1_1, .slice q0a q2.2.1.length c_y1_ret_1_1, .slice (adOf (partOf 0 (Ep2 16))) q3.1.Gates.length (capOf (partOf 0 (Ep2 16))), .slice (adOf (partOf 1 (Ep2 16))) q3.1.Data.length (capOf (partOf 1 (Ep2 16))), .slice (adOf (partOf 2 (Ep2 16))) q3.1.Outs.length (capOf (partOf 2 (Ep2 16))), .slice (adOf (partOf 3 (Ep2 16))) q3.1.Clock.length (capOf (partOf 3 (Ep2 16))), .slice (adOf (partOf 4 (Ep2 16))) q3.1.Launch.length (capOf (partOf 4 (Ep2 16))), .int .i64 q9.1.Period, .slice (adOf (partOf 1 (Ep2 20))) q9.1.Inputs.length (capOf (partOf 1 (Ep2 20))), .slice (adOf (partOf 2 (Ep2 20))) q9.1.Outputs.length (capOf (partOf 2 (Ep2 20))), .slice (adOf (partOf 3 (Ep2 20))) q9.1.Paths.length (capOf (partOf 3 (Ep2 20)))], fun Ep2 => True] [fun Ep2 => cells b5 30 [.slice q4 q2.1.In.length c_y0_ret_0_1_1, .slice q5 q2.1.Out.length c_y0_ret_1_1_1, .slice q6 q2.1.Flops.length c_y0_ret_2_1_1, .slice q7 q2.1.Gates.length c_y0_ret_3_1_1, .slice q8 q2.1.Outs.length c_y0_ret_4_1_1], fun Ep2 => vec 9 RpS.sz (.slice q4 q2.1.In.length c_y0_ret_0_1_1) q2.1.In.length q17, fun Ep2 => vec 9 RpS.sz (.slice q5 q2.1.Out.length c_y0_ret_1_1_1) q2.1.Out.length q18, fun Ep2 => vec 135 R_api_Flop.sz (.slice q6 q2.1.Flops.length c_y0_ret_2_1_1) q2.1.Flops.length q19, fun Ep2 => vec 38 R_api_Gate.sz (.slice q7 q2.1.Gates.length c_y0_ret_3_1_1) q2.1.Gates.length q1a, fun Ep2 => vec 3 (RpI .i64).sz (.slice q8 q2.1.Outs.length c_y0_ret_4_1_1) q2.1.Outs.length q1b, fun Ep2 => cells q0v 25 [.slice q0w s0.L.length c_s0_0, .int .i64 q2.2.2], fun Ep2 => ro q0c, fun Ep2 => cells q0v 25 [.slice q0w s0.L.length c_s0_0, .int .i64 q3.2], fun Ep2 => bunA (fun (x : (Heap × List Value × List Value × List Value × List Value × List Value)) => Le q0c x.1 ∧ RdS RpS x.1 q4 q2.1.In.length c_y0_ret_0_1_1 q2.1.In ∧ RdS RpS x.1 q5 q2.1.Out.length c_y0_ret_1_1_1 q2.1.Out ∧ RdS R_api_Flop x.1 q6 q2.1.Flops.length c_y0_ret_2_1_1 q2.1.Flops ∧ RdS R_api_Gate x.1 q7 q2.1.Gates.length c_y0_ret_3_1_1 q2.1.Gates ∧ RdS (RpI .i64) x.1 q8 q2.1.Outs.length c_y0_ret_4_1_1 q2.1.Outs ∧ RepL (RpSl R_tree_Window) x.1 q3.1.Gates x.2.1 ∧ RepL (RpSl R_tree_Window) x.1 q3.1.Data x.2.2.1 ∧ RepL R_tree_Window x.1 q3.1.Outs x.2.2.2.1 ∧ RepL R_tree_Window x.1 q3.1.Clock x.2.2.2.2.1 ∧ RepL R_tree_Window x.1 q3.1.Launch x.2.2.2.2.2) (fun (x : (Heap × List Value × List Value × List Value × List Value × List Value)) => [vec 49 (RpSl R_tree_Window).sz (.slice (adOf (partOf 0 (Ep2 16))) q3.1.Gates.length (capOf (partOf 0 (Ep2 16)))) q3.1.Gates.length x.2.1, vec 49 (RpSl R_tree_Window).sz (.slice (adOf (partOf 1 (Ep2 16))) q3.1.Data.length (capOf (partOf 1 (Ep2 16)))) q3.1.Data.length x.2.2.1, vec 70 R_tree_Window.sz (.slice (adOf (partOf 2 (Ep2 16))) q3.1.Outs.length (capOf (partOf 2 (Ep2 16)))) q3.1.Outs.length x.2.2.2.1, vec 70 R_tree_Window.sz (.slice (adOf (partOf 3 (Ep2 16))) q3.1.Clock.length (capOf (partOf 3 (Ep2 16)))) q3.1.Clock.length x.2.2.2.2.1, vec 70 R_tree_Window.sz (.slice (adOf (partOf 4 (Ep2 16))) q3.1.Launch.length (capOf (partOf 4 (Ep2 16)))) q3.1.Launch.length x.2.2.2.2.2, roD q0c x.1]), fun Ep2 => cells q0v 25 [.slice q0w s0.L.length c_s0_0, .int .i64 q9.2], fun Ep2 => bunA (fun (x : (Heap × List Value × List Value × List Value × List Value × List Value × List Value × List Value × List Value)) => Le q0c x.1 ∧ RdS RpS x.1 q4 q2.1.In.length c_y0_ret_0_1_1 q2.1.In ∧ RdS RpS x.1 q5 q2.1.Out.length c_y0_ret_1_1_1 q2.1.Out ∧ RdS R_api_Flop x.1 q6 q2.1.Flops.length c_y0_ret_2_1_1 q2.1.Flops ∧ RdS R_api_Gate x.1 q7 q2.1.Gates.length c_y0_ret_3_1_1 q2.1.Gates ∧ RdS (RpI .i64) x.1 q8 q2.1.Outs.length c_y0_ret_4_1_1 q2.1.Outs ∧ RepL (RpSl R_tree_Window) x.1 q3.1.Gates x.2.1 ∧ RepL (RpSl R_tree_Window) x.1 q3.1.Data x.2.2.1 ∧ RepL R_tree_Window x.1 q3.1.Outs x.2.2.2.1 ∧ RepL R_tree_Window x.1 q3.1.Clock x.2.2.2.2.1 ∧ RepL R_tree_Window x.1 q3.1.Launch x.2.2.2.2.2.1 ∧ RepL R_clocks_Input x.1 q9.1.Inputs x.2.2.2.2.2.2.1 ∧ RepL R_clocks_Output x.1 q9.1.Outputs x.2.2.2.2.2.2.2.1 ∧ RepL R_clocks_Path x.1 q9.1.Paths x.2.2.2.2.2.2.2.2) (fun (x : (Heap × List Value × List Value × List Value × List Value × List Value × List Value × List Value × List Value)) => [vec 49 (RpSl R_tree_Window).sz (.slice (adOf (partOf 0 (Ep2 16))) q3.1.Gates.length (capOf (partOf 0 (Ep2 16)))) q3.1.Gates.length x.2.1, vec 49 (RpSl R_tree_Window).sz (.slice (adOf (partOf 1 (Ep2 16))) q3.1.Data.length (capOf (partOf 1 (Ep2 16)))) q3.1.Data.length x.2.2.1, vec 70 R_tree_Window.sz (.slice (adOf (partOf 2 (Ep2 16))) q3.1.Outs.length (capOf (partOf 2 (Ep2 16)))) q3.1.Outs.length x.2.2.2.1, vec 70 R_tree_Window.sz (.slice (adOf (partOf 3 (Ep2 16))) q3.1.Clock.length (capOf (partOf 3 (Ep2 16)))) q3.1.Clock.length x.2.2.2.2.1, vec 70 R_tree_Window.sz (.slice (adOf (partOf 4 (Ep2 16))) q3.1.Launch.length (capOf (partOf 4 (Ep2 16)))) q3.1.Launch.length x.2.2.2.2.2.1, vec 156 R_clocks_Input.sz (.slice (adOf (partOf 1 (Ep2 20))) q9.1.Inputs.length (capOf (partOf 1 (Ep2 20)))) q9.1.Inputs.length x.2.2.2.2.2.2.1, vec 158 R_clocks_Output.sz (.slice (adOf (partOf 2 (Ep2 20))) q9.1.Outputs.length (capOf (partOf 2 (Ep2 20)))) q9.1.Outputs.length x.2.2.2.2.2.2.2.1, vec 160 R_clocks_Path.sz (.slice (adOf (partOf 3 (Ep2 20))) q9.1.Paths.length (capOf (partOf 3 (Ep2 20)))) q9.1.Paths.length x.2.2.2.2.2.2.2.2, roD q0c x.1]), fun Ep2 => cells b4 58 [.slice none 0 0, .slice none 0 0, .slice none 0 0, .slice none 0 0, .slice none 0 0, .slice none 0 0, .slice none 0 0, .slice none 0 0, .slice none 0 0, .slice none 0 0, .slice none 0 0, .int .i64 0, .slice none 0 0, .slice none 0 0, .slice none 0 0], fun Ep2 => cells b4 58 [.slice q4 q2.1.In.length c_y0_ret_0_1_1, .slice q5 q2.1.Out.length c_y0_ret_1_1_1, .slice q6 q2.1.Flops.length c_y0_ret_2_1_1, .slice q7 q2.1.Gates.length c_y0_ret_3_1_1, .slice q8 q2.1.Outs.length c_y0_ret_4_1_1, .slice q0a q2.2.1.length c_y1_ret_1_1, .slice (adOf (partOf 0 (Ep2 16))) q3.1.Gates.length (capOf (partOf 0 (Ep2 16))), .slice (adOf (partOf 1 (Ep2 16))) q3.1.Data.length (capOf (partOf 1 (Ep2 16))), .slice (adOf (partOf 2 (Ep2 16))) q3.1.Outs.length (capOf (partOf 2 (Ep2 16))), .slice (adOf (partOf 3 (Ep2 16))) q3.1.Clock.length (capOf (partOf 3 (Ep2 16))), .slice (adOf (partOf 4 (Ep2 16))) q3.1.Launch.length (capOf (partOf 4 (Ep2 16))), .int .i64 q9.1.Period, .slice (adOf (partOf 1 (Ep2 20))) q9.1.Inputs.length (capOf (partOf 1 (Ep2 20))), .slice (adOf (partOf 2 (Ep2 20))) q9.1.Outputs.length (capOf (partOf 2 (Ep2 20))), .slice (adOf (partOf 3 (Ep2 20))) q9.1.Paths.length (capOf (partOf 3 (Ep2 20)))]] mixed (by kernel_rfl) (((((((((hS.pull 8).pull 8).pull 8).pull 8).pull 8).pull 8).pull 8).pull 8).pull 8) ?_ ?_
 ·refine ⟨?_, ?_, ?_, ?_, ?_, ?_, ?_, ?_, ?_, ?_, ?_, trivial⟩
  ·intro Ep2 w l' hE2 hO2 hF_ hS
   replace hS : St w0 w (cells b5 30 [.slice q4 q2.1.In.length c_y0_ret_0_1_1, .slice q5 q2.1.Out.length c_y0_ret_1_1_1, .slice q6 q2.1.Flops.length c_y0_ret_2_1_1, .slice q7 q2.1.Gates.length c_y0_ret_3_1_1, .slice q8 q2.1.Outs.length c_y0_ret_4_1_1] :: l') := Eq.mp (by kernel_rfl) hS
   refine pa (v := .agg #[.slice q4 q2.1.In.length c_y0_ret_0_1_1, .slice q5 q2.1.Out.length c_y0_ret_1_1_1, .slice q6 q2.1.Flops.length c_y0_ret_2_1_1, .slice q7 q2.1.Gates.length c_y0_ret_3_1_1, .slice q8 q2.1.Outs.length c_y0_ret_4_1_1]) (ld_sub agg_30 (hE2 5 rfl) rfl rfl hS) <| x_done <| ?_
   refine x_fin ⟨⟨_, rfl⟩, rfl, ?_⟩
   exact Eq.mp (by kernel_rfl) hS
  ·intro Ep2 w l' hE2 hO2 hF_ hS
   refine p (yl_move (hE2 6 rfl)) <| x_done <| ?_
   refine x_fin ⟨⟨_, rfl⟩, rfl, ?_⟩
   exact Eq.mp (by kernel_rfl) hS
  ·intro Ep2 w l' hE2 hO2 hF_ hS
   refine p (yl_move (hE2 0 rfl)) <| x_done <| ?_
   refine x_fin ⟨⟨_, rfl⟩, rfl, ?_⟩
   exact Eq.mp (by kernel_rfl) hS
  ·intro Ep2 w l' hE2 hO2 hF_ hS
   replace hS : St w0 w (cells b5 30 [.slice q4 q2.1.In.length c_y0_ret_0_1_1, .slice q5 q2.1.Out.length c_y0_ret_1_1_1, .slice q6 q2.1.Flops.length c_y0_ret_2_1_1, .slice q7 q2.1.Gates.length c_y0_ret_3_1_1, .slice q8 q2.1.Outs.length c_y0_ret_4_1_1] :: l') := Eq.mp (by kernel_rfl) hS
   refine pa (v := .agg #[.slice q4 q2.1.In.length c_y0_ret_0_1_1, .slice q5 q2.1.Out.length c_y0_ret_1_1_1, .slice q6 q2.1.Flops.length c_y0_ret_2_1_1, .slice q7 q2.1.Gates.length c_y0_ret_3_1_1, .slice q8 q2.1.Outs.length c_y0_ret_4_1_1]) (ld_sub agg_30 (hE2 5 rfl) rfl rfl hS) <| x_done <| ?_
   refine x_fin ⟨⟨_, rfl⟩, rfl, ?_⟩
   exact Eq.mp (by kernel_rfl) hS
  ·intro Ep2 w l' hE2 hO2 hF_ hS
   obtain ⟨q2n, q2o, -⟩ := hF_
   replace q2n : Ep2 14 = .pointer (some ⟨q0v, 0, none⟩) := Eq.mp (by kernel_rfl) q2n
   replace q2o : Ep2 15 = .agg #[.slice q4 q2.1.In.length c_y0_ret_0_1_1, .slice q5 q2.1.Out.length c_y0_ret_1_1_1, .slice q6 q2.1.Flops.length c_y0_ret_2_1_1, .slice q7 q2.1.Gates.length c_y0_ret_3_1_1, .slice q8 q2.1.Outs.length c_y0_ret_4_1_1] := Eq.mp (by kernel_rfl) q2o
   replace hS : St w0 w (ro q0c :: vec 9 RpS.sz (.slice q4 q2.1.In.length c_y0_ret_0_1_1) q2.1.In.length q17 :: vec 9 RpS.sz (.slice q5 q2.1.Out.length c_y0_ret_1_1_1) q2.1.Out.length q18 :: vec 135 R_api_Flop.sz (.slice q6 q2.1.Flops.length c_y0_ret_2_1_1) q2.1.Flops.length q19 :: vec 38 R_api_Gate.sz (.slice q7 q2.1.Gates.length c_y0_ret_3_1_1) q2.1.Gates.length q1a :: vec 3 (RpI .i64).sz (.slice q8 q2.1.Outs.length c_y0_ret_4_1_1) q2.1.Outs.length q1b :: cells q0v 25 [.slice q0w s0.L.length c_s0_0, .int .i64 q2.2.2] :: l') := Eq.mp (by kernel_rfl) hS
   have q_ := St.vec_fz (hS.pull 1) q1g; obtain ⟨q3w, q10, q1p, hS⟩ := q_
   have q_ := St.vec_fz (hS.pull 1) (q1h.le q10); obtain ⟨q3s, q0r, q12, hS⟩ := q_
   have q_ := St.vec_fz (hS.pull 1) (q1i.le (q10.trans q0r)); obtain ⟨q3t, q0q, q13, hS⟩ := q_
   have q_ := St.vec_fz (hS.pull 1) (q1j.le ((q10.trans q0r).trans q0q)); obtain ⟨q3u, q0p, q14, hS⟩ := q_
   have q_ := St.vec_fz (hS.pull 1) (q1k.le (((q10.trans q0r).trans q0q).trans q0p)); obtain ⟨q3v, q0j, q15, hS⟩ := q_
   have hcall := c_maskmake_Stream_Delays q3o (q26.le (((((q34.trans q10).trans q0r).trans q0q).trans q0p).trans q0j)) (q1p.le (((q0r.trans q0q).trans q0p).trans q0j)) (q12.le ((q0q.trans q0p).trans q0j)) (q13.le (q0p.trans q0j)) (q14.le q0j) q15 (hS.pull 1)
   refine o_cc call_57 (args3 q2n q2o rfl) hcall ?_
   rintro e w' ⟨q35, q2p, q3c, c_y0_ret_0_2_4, q0k, q2q, q3d, c_y0_ret_1_2_4, q0l, q2r, q3e, c_y0_ret_2_2_4, q0m, q2s, q3f, c_y0_ret_3_2_4, q0n, q2t, q3g, c_y0_ret_4_2_4, q0o, rfl, q16, q0d, q0e, q0f, q0g, q0h, hS⟩
   refine ⟨_, rfl, ?_⟩
   have e_ := St.vec_n hS q0d; subst e_
   have e_ := St.vec_n (hS.pull 1) q0e; subst e_
   have e_ := St.vec_n (hS.pull 2) q0f; subst e_
   have e_ := St.vec_n (hS.pull 3) q0g; subst e_
   have e_ := St.vec_n (hS.pull 4) q0h; subst e_
   refine x_done <| ?_
   refine x_fin ⟨⟨_, rfl⟩, rfl, ?_⟩
   replace hS := St.ro_split (((((q10.trans q0r).trans q0q).trans q0p).trans q0j).trans q16) (hS.pull 6)
   replace hS := St.bun (Φ := (fun (x : (Heap × List Value × List Value × List Value × List Value × List Value)) => Le q0c x.1 ∧ RdS RpS x.1 q4 q2.1.In.length c_y0_ret_0_1_1 q2.1.In ∧ RdS RpS x.1 q5 q2.1.Out.length c_y0_ret_1_1_1 q2.1.Out ∧ RdS R_api_Flop x.1 q6 q2.1.Flops.length c_y0_ret_2_1_1 q2.1.Flops ∧ RdS R_api_Gate x.1 q7 q2.1.Gates.length c_y0_ret_3_1_1 q2.1.Gates ∧ RdS (RpI .i64) x.1 q8 q2.1.Outs.length c_y0_ret_4_1_1 q2.1.Outs ∧ RepL (RpSl R_tree_Window) x.1 q3.1.Gates x.2.1 ∧ RepL (RpSl R_tree_Window) x.1 q3.1.Data x.2.2.1 ∧ RepL R_tree_Window x.1 q3.1.Outs x.2.2.2.1 ∧ RepL R_tree_Window x.1 q3.1.Clock x.2.2.2.2.1 ∧ RepL R_tree_Window x.1 q3.1.Launch x.2.2.2.2.2)) (L := (fun (x : (Heap × List Value × List Value × List Value × List Value × List Value)) => [vec 49 (RpSl R_tree_Window).sz (.slice q2p q3.1.Gates.length c_y0_ret_0_2_4) q3.1.Gates.length x.2.1, vec 49 (RpSl R_tree_Window).sz (.slice q2q q3.1.Data.length c_y0_ret_1_2_4) q3.1.Data.length x.2.2.1, vec 70 R_tree_Window.sz (.slice q2r q3.1.Outs.length c_y0_ret_2_2_4) q3.1.Outs.length x.2.2.2.1, vec 70 R_tree_Window.sz (.slice q2s q3.1.Clock.length c_y0_ret_3_2_4) q3.1.Clock.length x.2.2.2.2.1, vec 70 R_tree_Window.sz (.slice q2t q3.1.Launch.length c_y0_ret_4_2_4) q3.1.Launch.length x.2.2.2.2.2, roD q0c x.1])) (q35, q0k, q0l, q0m, q0n, q0o) ⟨(((((q10.trans q0r).trans q0q).trans q0p).trans q0j).trans q16), (q1p.le ((((q0r.trans q0q).trans q0p).trans q0j).trans q16)), (q12.le (((q0q.trans q0p).trans q0j).trans q16)), (q13.le ((q0p.trans q0j).trans q16)), (q14.le (q0j.trans q16)), (q15.le q16), q0d, q0e, q0f, q0g, q0h⟩ ((((((hS.pull 1).pull 6).pull 6).pull 6).pull 6).pull 6)
   exact Eq.mp (by kernel_rfl) ((hS.pull 2).pull 2)
  ·intro Ep2 w l' hE2 hO2 hF_ hS
   refine p (yl_move (hE2 0 rfl)) <| x_done <| ?_
   refine x_fin ⟨⟨_, rfl⟩, rfl, ?_⟩
   exact Eq.mp (by kernel_rfl) hS
  ·intro Ep2 w l' hE2 hO2 hF_ hS
   replace hS : St w0 w (cells b5 30 [.slice q4 q2.1.In.length c_y0_ret_0_1_1, .slice q5 q2.1.Out.length c_y0_ret_1_1_1, .slice q6 q2.1.Flops.length c_y0_ret_2_1_1, .slice q7 q2.1.Gates.length c_y0_ret_3_1_1, .slice q8 q2.1.Outs.length c_y0_ret_4_1_1] :: l') := Eq.mp (by kernel_rfl) hS
   refine pa (v := .agg #[.slice q4 q2.1.In.length c_y0_ret_0_1_1, .slice q5 q2.1.Out.length c_y0_ret_1_1_1, .slice q6 q2.1.Flops.length c_y0_ret_2_1_1, .slice q7 q2.1.Gates.length c_y0_ret_3_1_1, .slice q8 q2.1.Outs.length c_y0_ret_4_1_1]) (ld_sub agg_30 (hE2 5 rfl) rfl rfl hS) <| x_done <| ?_
   refine x_fin ⟨⟨_, rfl⟩, rfl, ?_⟩
   exact Eq.mp (by kernel_rfl) hS
  ·intro Ep2 w l' hE2 hO2 hF_ hS
   refine p (yl_move (hE2 1 rfl)) <| x_done <| ?_
   refine x_fin ⟨⟨_, rfl⟩, rfl, ?_⟩
   exact Eq.mp (by kernel_rfl) hS
  ·intro Ep2 w l' hE2 hO2 hF_ hS
   obtain ⟨q11, q2u, q2v, q2w, -⟩ := hF_
   replace q11 : Ep2 16 = .agg #[.slice (adOf (partOf 0 (Ep2 16))) q3.1.Gates.length (capOf (partOf 0 (Ep2 16))), .slice (adOf (partOf 1 (Ep2 16))) q3.1.Data.length (capOf (partOf 1 (Ep2 16))), .slice (adOf (partOf 2 (Ep2 16))) q3.1.Outs.length (capOf (partOf 2 (Ep2 16))), .slice (adOf (partOf 3 (Ep2 16))) q3.1.Clock.length (capOf (partOf 3 (Ep2 16))), .slice (adOf (partOf 4 (Ep2 16))) q3.1.Launch.length (capOf (partOf 4 (Ep2 16)))] := Eq.mp (by kernel_rfl) q11
   replace q2u : Ep2 17 = .pointer (some ⟨q0v, 0, none⟩) := Eq.mp (by kernel_rfl) q2u
   replace q2v : Ep2 18 = .agg #[.slice q4 q2.1.In.length c_y0_ret_0_1_1, .slice q5 q2.1.Out.length c_y0_ret_1_1_1, .slice q6 q2.1.Flops.length c_y0_ret_2_1_1, .slice q7 q2.1.Gates.length c_y0_ret_3_1_1, .slice q8 q2.1.Outs.length c_y0_ret_4_1_1] := Eq.mp (by kernel_rfl) q2v
   replace q2w : Ep2 19 = .bool paths1 := Eq.mp (by kernel_rfl) q2w
   replace hS : St w0 w (ro q0c :: cells q0v 25 [.slice q0w s0.L.length c_s0_0, .int .i64 q3.2] :: bunA (fun (x : (Heap × List Value × List Value × List Value × List Value × List Value)) => Le q0c x.1 ∧ RdS RpS x.1 q4 q2.1.In.length c_y0_ret_0_1_1 q2.1.In ∧ RdS RpS x.1 q5 q2.1.Out.length c_y0_ret_1_1_1 q2.1.Out ∧ RdS R_api_Flop x.1 q6 q2.1.Flops.length c_y0_ret_2_1_1 q2.1.Flops ∧ RdS R_api_Gate x.1 q7 q2.1.Gates.length c_y0_ret_3_1_1 q2.1.Gates ∧ RdS (RpI .i64) x.1 q8 q2.1.Outs.length c_y0_ret_4_1_1 q2.1.Outs ∧ RepL (RpSl R_tree_Window) x.1 q3.1.Gates x.2.1 ∧ RepL (RpSl R_tree_Window) x.1 q3.1.Data x.2.2.1 ∧ RepL R_tree_Window x.1 q3.1.Outs x.2.2.2.1 ∧ RepL R_tree_Window x.1 q3.1.Clock x.2.2.2.2.1 ∧ RepL R_tree_Window x.1 q3.1.Launch x.2.2.2.2.2) (fun (x : (Heap × List Value × List Value × List Value × List Value × List Value)) => [vec 49 (RpSl R_tree_Window).sz (.slice (adOf (partOf 0 (Ep2 16))) q3.1.Gates.length (capOf (partOf 0 (Ep2 16)))) q3.1.Gates.length x.2.1, vec 49 (RpSl R_tree_Window).sz (.slice (adOf (partOf 1 (Ep2 16))) q3.1.Data.length (capOf (partOf 1 (Ep2 16)))) q3.1.Data.length x.2.2.1, vec 70 R_tree_Window.sz (.slice (adOf (partOf 2 (Ep2 16))) q3.1.Outs.length (capOf (partOf 2 (Ep2 16)))) q3.1.Outs.length x.2.2.2.1, vec 70 R_tree_Window.sz (.slice (adOf (partOf 3 (Ep2 16))) q3.1.Clock.length (capOf (partOf 3 (Ep2 16)))) q3.1.Clock.length x.2.2.2.2.1, vec 70 R_tree_Window.sz (.slice (adOf (partOf 4 (Ep2 16))) q3.1.Launch.length (capOf (partOf 4 (Ep2 16)))) q3.1.Launch.length x.2.2.2.2.2, roD q0c x.1]) :: l') := Eq.mp (by kernel_rfl) hS
   have q_ := St.unbun (hS.pull 2); obtain ⟨⟨q35, q0k, q0l, q0m, q0n, q0o⟩, ⟨q1q, q1p, q12, q13, q14, q15, q0d, q0e, q0f, q0g, q0h⟩, hS⟩ := q_
   have q_ := St.ro_join ((hS.pull 5).pull 6) (Le.refl _) q1q; obtain ⟨q3h, q25, q0b, hS, q3q⟩ := q_
   have hcall := c_maskmake_Stream_Limits q3p (q26.le (q34.trans q25)) (q1p.le q0b) (q12.le q0b) (q13.le q0b) (q14.le q0b) (q15.le q0b) (hS.pull 6)
   refine o_cc call_25 (args3 q2u q2v q2w) hcall ?_
   rintro e w' ⟨q2x, q3i, c_y0_ret_1_2_8, q0x, q2y, q3j, c_y0_ret_2_2_8, q0y, q2z, q3k, c_y0_ret_3_2_8, q0z, rfl, q0s, q0t, q0u, hS⟩
   refine ⟨_, rfl, ?_⟩
   have e_ := St.vec_n hS q0s; subst e_
   have e_ := St.vec_n (hS.pull 1) q0t; subst e_
   have e_ := St.vec_n (hS.pull 2) q0u; subst e_
   refine x_done <| ?_
   refine x_fin ⟨⟨_, rfl⟩, rfl, ?_⟩
   replace hS := St.ro_split q25 (hS.pull 4)
   replace hS := St.bun (Φ := (fun (x : (Heap × List Value × List Value × List Value × List Value × List Value × List Value × List Value × List Value)) => Le q0c x.1 ∧ RdS RpS x.1 q4 q2.1.In.length c_y0_ret_0_1_1 q2.1.In ∧ RdS RpS x.1 q5 q2.1.Out.length c_y0_ret_1_1_1 q2.1.Out ∧ RdS R_api_Flop x.1 q6 q2.1.Flops.length c_y0_ret_2_1_1 q2.1.Flops ∧ RdS R_api_Gate x.1 q7 q2.1.Gates.length c_y0_ret_3_1_1 q2.1.Gates ∧ RdS (RpI .i64) x.1 q8 q2.1.Outs.length c_y0_ret_4_1_1 q2.1.Outs ∧ RepL (RpSl R_tree_Window) x.1 q3.1.Gates x.2.1 ∧ RepL (RpSl R_tree_Window) x.1 q3.1.Data x.2.2.1 ∧ RepL R_tree_Window x.1 q3.1.Outs x.2.2.2.1 ∧ RepL R_tree_Window x.1 q3.1.Clock x.2.2.2.2.1 ∧ RepL R_tree_Window x.1 q3.1.Launch x.2.2.2.2.2.1 ∧ RepL R_clocks_Input x.1 q9.1.Inputs x.2.2.2.2.2.2.1 ∧ RepL R_clocks_Output x.1 q9.1.Outputs x.2.2.2.2.2.2.2.1 ∧ RepL R_clocks_Path x.1 q9.1.Paths x.2.2.2.2.2.2.2.2)) (L := (fun (x : (Heap × List Value × List Value × List Value × List Value × List Value × List Value × List Value × List Value)) => [vec 49 (RpSl R_tree_Window).sz (.slice (adOf (partOf 0 (Ep2 16))) q3.1.Gates.length (capOf (partOf 0 (Ep2 16)))) q3.1.Gates.length x.2.1, vec 49 (RpSl R_tree_Window).sz (.slice (adOf (partOf 1 (Ep2 16))) q3.1.Data.length (capOf (partOf 1 (Ep2 16)))) q3.1.Data.length x.2.2.1, vec 70 R_tree_Window.sz (.slice (adOf (partOf 2 (Ep2 16))) q3.1.Outs.length (capOf (partOf 2 (Ep2 16)))) q3.1.Outs.length x.2.2.2.1, vec 70 R_tree_Window.sz (.slice (adOf (partOf 3 (Ep2 16))) q3.1.Clock.length (capOf (partOf 3 (Ep2 16)))) q3.1.Clock.length x.2.2.2.2.1, vec 70 R_tree_Window.sz (.slice (adOf (partOf 4 (Ep2 16))) q3.1.Launch.length (capOf (partOf 4 (Ep2 16)))) q3.1.Launch.length x.2.2.2.2.2.1, vec 156 R_clocks_Input.sz (.slice q2x q9.1.Inputs.length c_y0_ret_1_2_8) q9.1.Inputs.length x.2.2.2.2.2.2.1, vec 158 R_clocks_Output.sz (.slice q2y q9.1.Outputs.length c_y0_ret_2_2_8) q9.1.Outputs.length x.2.2.2.2.2.2.2.1, vec 160 R_clocks_Path.sz (.slice q2z q9.1.Paths.length c_y0_ret_3_2_8) q9.1.Paths.length x.2.2.2.2.2.2.2.2, roD q0c x.1])) (q3h, q0k, q0l, q0m, q0n, q0o, q0x, q0y, q0z) ⟨q25, (q1p.le q0b), (q12.le q0b), (q13.le q0b), (q14.le q0b), (q15.le q0b), (q0d.le q0b), (q0e.le q0b), (q0f.le q0b), (q0g.le q0b), (q0h.le q0b), q0s, q0t, q0u⟩ (((((((((hS.pull 1).pull 4).pull 4).pull 4).pull 10).pull 10).pull 10).pull 10).pull 10)
   exact Eq.mp (by kernel_rfl) ((hS.pull 2).pull 2)
  ·intro Ep2 w l' hE2 hO2 hF_ hS
   obtain ⟨q30, q31, q11, q1r, -⟩ := hF_
   replace q30 : Ep2 12 = .agg #[.slice q4 q2.1.In.length c_y0_ret_0_1_1, .slice q5 q2.1.Out.length c_y0_ret_1_1_1, .slice q6 q2.1.Flops.length c_y0_ret_2_1_1, .slice q7 q2.1.Gates.length c_y0_ret_3_1_1, .slice q8 q2.1.Outs.length c_y0_ret_4_1_1] := Eq.mp (by kernel_rfl) q30
   replace q31 : Ep2 13 = .slice q0a q2.2.1.length c_y1_ret_1_1 := Eq.mp (by kernel_rfl) q31
   replace q11 : Ep2 16 = .agg #[.slice (adOf (partOf 0 (Ep2 16))) q3.1.Gates.length (capOf (partOf 0 (Ep2 16))), .slice (adOf (partOf 1 (Ep2 16))) q3.1.Data.length (capOf (partOf 1 (Ep2 16))), .slice (adOf (partOf 2 (Ep2 16))) q3.1.Outs.length (capOf (partOf 2 (Ep2 16))), .slice (adOf (partOf 3 (Ep2 16))) q3.1.Clock.length (capOf (partOf 3 (Ep2 16))), .slice (adOf (partOf 4 (Ep2 16))) q3.1.Launch.length (capOf (partOf 4 (Ep2 16)))] := Eq.mp (by kernel_rfl) q11
   replace q1r : Ep2 20 = .agg #[.int .i64 q9.1.Period, .slice (adOf (partOf 1 (Ep2 20))) q9.1.Inputs.length (capOf (partOf 1 (Ep2 20))), .slice (adOf (partOf 2 (Ep2 20))) q9.1.Outputs.length (capOf (partOf 2 (Ep2 20))), .slice (adOf (partOf 3 (Ep2 20))) q9.1.Paths.length (capOf (partOf 3 (Ep2 20)))] := Eq.mp (by kernel_rfl) q1r
   refine p (v := .agg #[.slice q4 q2.1.In.length c_y0_ret_0_1_1, .slice q5 q2.1.Out.length c_y0_ret_1_1_1, .slice q6 q2.1.Flops.length c_y0_ret_2_1_1, .slice q7 q2.1.Gates.length c_y0_ret_3_1_1, .slice q8 q2.1.Outs.length c_y0_ret_4_1_1, .slice q0a q2.2.1.length c_y1_ret_1_1, .slice (adOf (partOf 0 (Ep2 16))) q3.1.Gates.length (capOf (partOf 0 (Ep2 16))), .slice (adOf (partOf 1 (Ep2 16))) q3.1.Data.length (capOf (partOf 1 (Ep2 16))), .slice (adOf (partOf 2 (Ep2 16))) q3.1.Outs.length (capOf (partOf 2 (Ep2 16))), .slice (adOf (partOf 3 (Ep2 16))) q3.1.Clock.length (capOf (partOf 3 (Ep2 16))), .slice (adOf (partOf 4 (Ep2 16))) q3.1.Launch.length (capOf (partOf 4 (Ep2 16))), .int .i64 q9.1.Period, .slice (adOf (partOf 1 (Ep2 20))) q9.1.Inputs.length (capOf (partOf 1 (Ep2 20))), .slice (adOf (partOf 2 (Ep2 20))) q9.1.Outputs.length (capOf (partOf 2 (Ep2 20))), .slice (adOf (partOf 3 (Ep2 20))) q9.1.Paths.length (capOf (partOf 3 (Ep2 20)))]) (yl_build bld_58 bldf_58 (parts_eq (pt (va := .agg #[.slice q4 q2.1.In.length c_y0_ret_0_1_1, .slice q5 q2.1.Out.length c_y0_ret_1_1_1, .slice q6 q2.1.Flops.length c_y0_ret_2_1_1, .slice q7 q2.1.Gates.length c_y0_ret_3_1_1, .slice q8 q2.1.Outs.length c_y0_ret_4_1_1]) q30 (pt (va := .slice q0a q2.2.1.length c_y1_ret_1_1) q31 (pt (va := .agg #[.slice (adOf (partOf 0 (Ep2 16))) q3.1.Gates.length (capOf (partOf 0 (Ep2 16))), .slice (adOf (partOf 1 (Ep2 16))) q3.1.Data.length (capOf (partOf 1 (Ep2 16))), .slice (adOf (partOf 2 (Ep2 16))) q3.1.Outs.length (capOf (partOf 2 (Ep2 16))), .slice (adOf (partOf 3 (Ep2 16))) q3.1.Clock.length (capOf (partOf 3 (Ep2 16))), .slice (adOf (partOf 4 (Ep2 16))) q3.1.Launch.length (capOf (partOf 4 (Ep2 16)))]) q11 (pt (va := .agg #[.int .i64 q9.1.Period, .slice (adOf (partOf 1 (Ep2 20))) q9.1.Inputs.length (capOf (partOf 1 (Ep2 20))), .slice (adOf (partOf 2 (Ep2 20))) q9.1.Outputs.length (capOf (partOf 2 (Ep2 20))), .slice (adOf (partOf 3 (Ep2 20))) q9.1.Paths.length (capOf (partOf 3 (Ep2 20)))]) q1r pt0))))) (by kernel_rfl)) <| x_done <| ?_
   refine x_fin ⟨⟨_, rfl⟩, rfl, ?_⟩
   exact Eq.mp (by kernel_rfl) hS
  ·intro Ep2 w l' hE2 hO2 hF_ hS
   obtain ⟨q11, q1r, q32, -⟩ := hF_
   replace q11 : Ep2 16 = .agg #[.slice (adOf (partOf 0 (Ep2 16))) q3.1.Gates.length (capOf (partOf 0 (Ep2 16))), .slice (adOf (partOf 1 (Ep2 16))) q3.1.Data.length (capOf (partOf 1 (Ep2 16))), .slice (adOf (partOf 2 (Ep2 16))) q3.1.Outs.length (capOf (partOf 2 (Ep2 16))), .slice (adOf (partOf 3 (Ep2 16))) q3.1.Clock.length (capOf (partOf 3 (Ep2 16))), .slice (adOf (partOf 4 (Ep2 16))) q3.1.Launch.length (capOf (partOf 4 (Ep2 16)))] := Eq.mp (by kernel_rfl) q11
   replace q1r : Ep2 20 = .agg #[.int .i64 q9.1.Period, .slice (adOf (partOf 1 (Ep2 20))) q9.1.Inputs.length (capOf (partOf 1 (Ep2 20))), .slice (adOf (partOf 2 (Ep2 20))) q9.1.Outputs.length (capOf (partOf 2 (Ep2 20))), .slice (adOf (partOf 3 (Ep2 20))) q9.1.Paths.length (capOf (partOf 3 (Ep2 20)))] := Eq.mp (by kernel_rfl) q1r
   replace q32 : Ep2 21 = .agg #[.slice q4 q2.1.In.length c_y0_ret_0_1_1, .slice q5 q2.1.Out.length c_y0_ret_1_1_1, .slice q6 q2.1.Flops.length c_y0_ret_2_1_1, .slice q7 q2.1.Gates.length c_y0_ret_3_1_1, .slice q8 q2.1.Outs.length c_y0_ret_4_1_1, .slice q0a q2.2.1.length c_y1_ret_1_1, .slice (adOf (partOf 0 (Ep2 16))) q3.1.Gates.length (capOf (partOf 0 (Ep2 16))), .slice (adOf (partOf 1 (Ep2 16))) q3.1.Data.length (capOf (partOf 1 (Ep2 16))), .slice (adOf (partOf 2 (Ep2 16))) q3.1.Outs.length (capOf (partOf 2 (Ep2 16))), .slice (adOf (partOf 3 (Ep2 16))) q3.1.Clock.length (capOf (partOf 3 (Ep2 16))), .slice (adOf (partOf 4 (Ep2 16))) q3.1.Launch.length (capOf (partOf 4 (Ep2 16))), .int .i64 q9.1.Period, .slice (adOf (partOf 1 (Ep2 20))) q9.1.Inputs.length (capOf (partOf 1 (Ep2 20))), .slice (adOf (partOf 2 (Ep2 20))) q9.1.Outputs.length (capOf (partOf 2 (Ep2 20))), .slice (adOf (partOf 3 (Ep2 20))) q9.1.Paths.length (capOf (partOf 3 (Ep2 20)))] := Eq.mp (by kernel_rfl) q32
   replace hS : St w0 w (cells b4 58 [.slice none 0 0, .slice none 0 0, .slice none 0 0, .slice none 0 0, .slice none 0 0, .slice none 0 0, .slice none 0 0, .slice none 0 0, .slice none 0 0, .slice none 0 0, .slice none 0 0, .int .i64 0, .slice none 0 0, .slice none 0 0, .slice none 0 0] :: l') := Eq.mp (by kernel_rfl) hS
   refine o_storeAgg (news := [.slice q4 q2.1.In.length c_y0_ret_0_1_1, .slice q5 q2.1.Out.length c_y0_ret_1_1_1, .slice q6 q2.1.Flops.length c_y0_ret_2_1_1, .slice q7 q2.1.Gates.length c_y0_ret_3_1_1, .slice q8 q2.1.Outs.length c_y0_ret_4_1_1, .slice q0a q2.2.1.length c_y1_ret_1_1, .slice (adOf (partOf 0 (Ep2 16))) q3.1.Gates.length (capOf (partOf 0 (Ep2 16))), .slice (adOf (partOf 1 (Ep2 16))) q3.1.Data.length (capOf (partOf 1 (Ep2 16))), .slice (adOf (partOf 2 (Ep2 16))) q3.1.Outs.length (capOf (partOf 2 (Ep2 16))), .slice (adOf (partOf 3 (Ep2 16))) q3.1.Clock.length (capOf (partOf 3 (Ep2 16))), .slice (adOf (partOf 4 (Ep2 16))) q3.1.Launch.length (capOf (partOf 4 (Ep2 16))), .int .i64 q9.1.Period, .slice (adOf (partOf 1 (Ep2 20))) q9.1.Inputs.length (capOf (partOf 1 (Ep2 20))), .slice (adOf (partOf 2 (Ep2 20))) q9.1.Outputs.length (capOf (partOf 2 (Ep2 20))), .slice (adOf (partOf 3 (Ep2 20))) q9.1.Paths.length (capOf (partOf 3 (Ep2 20)))]) agg_58 (hE2 4 rfl) q32 rfl (by simp [over_length]) hS (fun w' hS => ?_)
   refine x_done <| ?_
   refine x_fin ⟨⟨undef, rfl⟩, trivial, ?_⟩
   exact Eq.mp (by kernel_rfl) hS
 intro Ep2 w' hE2 hF_ hS
 obtain ⟨q30, q31, q2n, q2o, q11, q2u, q2v, q2w, q1r, q32, -⟩ := hF_
 replace q30 : Ep2 12 = .agg #[.slice q4 q2.1.In.length c_y0_ret_0_1_1, .slice q5 q2.1.Out.length c_y0_ret_1_1_1, .slice q6 q2.1.Flops.length c_y0_ret_2_1_1, .slice q7 q2.1.Gates.length c_y0_ret_3_1_1, .slice q8 q2.1.Outs.length c_y0_ret_4_1_1] := Eq.mp (by kernel_rfl) q30
 replace q31 : Ep2 13 = .slice q0a q2.2.1.length c_y1_ret_1_1 := Eq.mp (by kernel_rfl) q31
 replace q2n : Ep2 14 = .pointer (some ⟨q0v, 0, none⟩) := Eq.mp (by kernel_rfl) q2n
 replace q2o : Ep2 15 = .agg #[.slice q4 q2.1.In.length c_y0_ret_0_1_1, .slice q5 q2.1.Out.length c_y0_ret_1_1_1, .slice q6 q2.1.Flops.length c_y0_ret_2_1_1, .slice q7 q2.1.Gates.length c_y0_ret_3_1_1, .slice q8 q2.1.Outs.length c_y0_ret_4_1_1] := Eq.mp (by kernel_rfl) q2o
 replace q11 : Ep2 16 = .agg #[.slice (adOf (partOf 0 (Ep2 16))) q3.1.Gates.length (capOf (partOf 0 (Ep2 16))), .slice (adOf (partOf 1 (Ep2 16))) q3.1.Data.length (capOf (partOf 1 (Ep2 16))), .slice (adOf (partOf 2 (Ep2 16))) q3.1.Outs.length (capOf (partOf 2 (Ep2 16))), .slice (adOf (partOf 3 (Ep2 16))) q3.1.Clock.length (capOf (partOf 3 (Ep2 16))), .slice (adOf (partOf 4 (Ep2 16))) q3.1.Launch.length (capOf (partOf 4 (Ep2 16)))] := Eq.mp (by kernel_rfl) q11
 replace q2u : Ep2 17 = .pointer (some ⟨q0v, 0, none⟩) := Eq.mp (by kernel_rfl) q2u
 replace q2v : Ep2 18 = .agg #[.slice q4 q2.1.In.length c_y0_ret_0_1_1, .slice q5 q2.1.Out.length c_y0_ret_1_1_1, .slice q6 q2.1.Flops.length c_y0_ret_2_1_1, .slice q7 q2.1.Gates.length c_y0_ret_3_1_1, .slice q8 q2.1.Outs.length c_y0_ret_4_1_1] := Eq.mp (by kernel_rfl) q2v
 replace q2w : Ep2 19 = .bool paths1 := Eq.mp (by kernel_rfl) q2w
 replace q1r : Ep2 20 = .agg #[.int .i64 q9.1.Period, .slice (adOf (partOf 1 (Ep2 20))) q9.1.Inputs.length (capOf (partOf 1 (Ep2 20))), .slice (adOf (partOf 2 (Ep2 20))) q9.1.Outputs.length (capOf (partOf 2 (Ep2 20))), .slice (adOf (partOf 3 (Ep2 20))) q9.1.Paths.length (capOf (partOf 3 (Ep2 20)))] := Eq.mp (by kernel_rfl) q1r
 replace q32 : Ep2 21 = .agg #[.slice q4 q2.1.In.length c_y0_ret_0_1_1, .slice q5 q2.1.Out.length c_y0_ret_1_1_1, .slice q6 q2.1.Flops.length c_y0_ret_2_1_1, .slice q7 q2.1.Gates.length c_y0_ret_3_1_1, .slice q8 q2.1.Outs.length c_y0_ret_4_1_1, .slice q0a q2.2.1.length c_y1_ret_1_1, .slice (adOf (partOf 0 (Ep2 16))) q3.1.Gates.length (capOf (partOf 0 (Ep2 16))), .slice (adOf (partOf 1 (Ep2 16))) q3.1.Data.length (capOf (partOf 1 (Ep2 16))), .slice (adOf (partOf 2 (Ep2 16))) q3.1.Outs.length (capOf (partOf 2 (Ep2 16))), .slice (adOf (partOf 3 (Ep2 16))) q3.1.Clock.length (capOf (partOf 3 (Ep2 16))), .slice (adOf (partOf 4 (Ep2 16))) q3.1.Launch.length (capOf (partOf 4 (Ep2 16))), .int .i64 q9.1.Period, .slice (adOf (partOf 1 (Ep2 20))) q9.1.Inputs.length (capOf (partOf 1 (Ep2 20))), .slice (adOf (partOf 2 (Ep2 20))) q9.1.Outputs.length (capOf (partOf 2 (Ep2 20))), .slice (adOf (partOf 3 (Ep2 20))) q9.1.Paths.length (capOf (partOf 3 (Ep2 20)))] := Eq.mp (by kernel_rfl) q32
 replace hS : St w0 w' (cells b5 30 [.slice q4 q2.1.In.length c_y0_ret_0_1_1, .slice q5 q2.1.Out.length c_y0_ret_1_1_1, .slice q6 q2.1.Flops.length c_y0_ret_2_1_1, .slice q7 q2.1.Gates.length c_y0_ret_3_1_1, .slice q8 q2.1.Outs.length c_y0_ret_4_1_1] :: ro q0c :: cells q0v 25 [.slice q0w s0.L.length c_s0_0, .int .i64 q9.2] :: bunA (fun (x : (Heap × List Value × List Value × List Value × List Value × List Value × List Value × List Value × List Value)) => Le q0c x.1 ∧ RdS RpS x.1 q4 q2.1.In.length c_y0_ret_0_1_1 q2.1.In ∧ RdS RpS x.1 q5 q2.1.Out.length c_y0_ret_1_1_1 q2.1.Out ∧ RdS R_api_Flop x.1 q6 q2.1.Flops.length c_y0_ret_2_1_1 q2.1.Flops ∧ RdS R_api_Gate x.1 q7 q2.1.Gates.length c_y0_ret_3_1_1 q2.1.Gates ∧ RdS (RpI .i64) x.1 q8 q2.1.Outs.length c_y0_ret_4_1_1 q2.1.Outs ∧ RepL (RpSl R_tree_Window) x.1 q3.1.Gates x.2.1 ∧ RepL (RpSl R_tree_Window) x.1 q3.1.Data x.2.2.1 ∧ RepL R_tree_Window x.1 q3.1.Outs x.2.2.2.1 ∧ RepL R_tree_Window x.1 q3.1.Clock x.2.2.2.2.1 ∧ RepL R_tree_Window x.1 q3.1.Launch x.2.2.2.2.2.1 ∧ RepL R_clocks_Input x.1 q9.1.Inputs x.2.2.2.2.2.2.1 ∧ RepL R_clocks_Output x.1 q9.1.Outputs x.2.2.2.2.2.2.2.1 ∧ RepL R_clocks_Path x.1 q9.1.Paths x.2.2.2.2.2.2.2.2) (fun (x : (Heap × List Value × List Value × List Value × List Value × List Value × List Value × List Value × List Value)) => [vec 49 (RpSl R_tree_Window).sz (.slice (adOf (partOf 0 (Ep2 16))) q3.1.Gates.length (capOf (partOf 0 (Ep2 16)))) q3.1.Gates.length x.2.1, vec 49 (RpSl R_tree_Window).sz (.slice (adOf (partOf 1 (Ep2 16))) q3.1.Data.length (capOf (partOf 1 (Ep2 16)))) q3.1.Data.length x.2.2.1, vec 70 R_tree_Window.sz (.slice (adOf (partOf 2 (Ep2 16))) q3.1.Outs.length (capOf (partOf 2 (Ep2 16)))) q3.1.Outs.length x.2.2.2.1, vec 70 R_tree_Window.sz (.slice (adOf (partOf 3 (Ep2 16))) q3.1.Clock.length (capOf (partOf 3 (Ep2 16)))) q3.1.Clock.length x.2.2.2.2.1, vec 70 R_tree_Window.sz (.slice (adOf (partOf 4 (Ep2 16))) q3.1.Launch.length (capOf (partOf 4 (Ep2 16)))) q3.1.Launch.length x.2.2.2.2.2.1, vec 156 R_clocks_Input.sz (.slice (adOf (partOf 1 (Ep2 20))) q9.1.Inputs.length (capOf (partOf 1 (Ep2 20)))) q9.1.Inputs.length x.2.2.2.2.2.2.1, vec 158 R_clocks_Output.sz (.slice (adOf (partOf 2 (Ep2 20))) q9.1.Outputs.length (capOf (partOf 2 (Ep2 20)))) q9.1.Outputs.length x.2.2.2.2.2.2.2.1, vec 160 R_clocks_Path.sz (.slice (adOf (partOf 3 (Ep2 20))) q9.1.Paths.length (capOf (partOf 3 (Ep2 20)))) q9.1.Paths.length x.2.2.2.2.2.2.2.2, roD q0c x.1]) :: cells b4 58 [.slice q4 q2.1.In.length c_y0_ret_0_1_1, .slice q5 q2.1.Out.length c_y0_ret_1_1_1, .slice q6 q2.1.Flops.length c_y0_ret_2_1_1, .slice q7 q2.1.Gates.length c_y0_ret_3_1_1, .slice q8 q2.1.Outs.length c_y0_ret_4_1_1, .slice q0a q2.2.1.length c_y1_ret_1_1, .slice (adOf (partOf 0 (Ep2 16))) q3.1.Gates.length (capOf (partOf 0 (Ep2 16))), .slice (adOf (partOf 1 (Ep2 16))) q3.1.Data.length (capOf (partOf 1 (Ep2 16))), .slice (adOf (partOf 2 (Ep2 16))) q3.1.Outs.length (capOf (partOf 2 (Ep2 16))), .slice (adOf (partOf 3 (Ep2 16))) q3.1.Clock.length (capOf (partOf 3 (Ep2 16))), .slice (adOf (partOf 4 (Ep2 16))) q3.1.Launch.length (capOf (partOf 4 (Ep2 16))), .int .i64 q9.1.Period, .slice (adOf (partOf 1 (Ep2 20))) q9.1.Inputs.length (capOf (partOf 1 (Ep2 20))), .slice (adOf (partOf 2 (Ep2 20))) q9.1.Outputs.length (capOf (partOf 2 (Ep2 20))), .slice (adOf (partOf 3 (Ep2 20))) q9.1.Paths.length (capOf (partOf 3 (Ep2 20)))] :: (l)) := Eq.mp (by kernel_rfl) hS
 have q_ := St.unbun (hS.pull 3); obtain ⟨⟨q35, q0k, q0l, q0m, q0n, q0o, q0x, q0y, q0z⟩, ⟨q1q, q1p, q12, q13, q14, q15, q0d, q0e, q0f, q0g, q0h, q0s, q0t, q0u⟩, hS⟩ := q_
 have q_ := St.ro_join ((hS.pull 8).pull 10) (Le.refl _) q1q; obtain ⟨q3m, q36, q0i, hS, q3r⟩ := q_
 have e_ := Option.some.inj (show some _ = some _ from hF); subst e_
 exact x_return ⟨_, ⟨_, _, _, rfl, (hE2 4 rfl), ldvA agg_58 rfl (fun j v hj => by rw [add0]; exact St.cell (hS.pull 11) hj), rfl⟩, q3m, q4, q2.1.In.length, c_y0_ret_0_1_1, q5, q2.1.Out.length, c_y0_ret_1_1_1, q6, q2.1.Flops.length, c_y0_ret_2_1_1, q7, q2.1.Gates.length, c_y0_ret_3_1_1, q8, q2.1.Outs.length, c_y0_ret_4_1_1, q0a, q2.2.1.length, c_y1_ret_1_1, (adOf (partOf 0 (Ep2 16))), q3.1.Gates.length, (capOf (partOf 0 (Ep2 16))), q0k, (adOf (partOf 1 (Ep2 16))), q3.1.Data.length, (capOf (partOf 1 (Ep2 16))), q0l, (adOf (partOf 2 (Ep2 16))), q3.1.Outs.length, (capOf (partOf 2 (Ep2 16))), q0m, (adOf (partOf 3 (Ep2 16))), q3.1.Clock.length, (capOf (partOf 3 (Ep2 16))), q0n, (adOf (partOf 4 (Ep2 16))), q3.1.Launch.length, (capOf (partOf 4 (Ep2 16))), q0o, (adOf (partOf 1 (Ep2 20))), q9.1.Inputs.length, (capOf (partOf 1 (Ep2 20))), q0x, (adOf (partOf 2 (Ep2 20))), q9.1.Outputs.length, (capOf (partOf 2 (Ep2 20))), q0y, (adOf (partOf 3 (Ep2 20))), q9.1.Paths.length, (capOf (partOf 3 (Ep2 20))), q0z, rfl, (q34.trans q36), (q1p.le q0i), (q12.le q0i), (q13.le q0i), (q14.le q0i), (q15.le q0i), (q1w.le q36), (q0d.le q0i), (q0e.le q0i), (q0f.le q0i), (q0g.le q0i), (q0h.le q0i), (q0s.le q0i), (q0t.le q0i), (q0u.le q0i), (((((((((((hS.pull 9).drop.pull 10).drop.pull 9).pull 9).pull 9).pull 9).pull 9).pull 9).pull 9).pull 9).pull 9)⟩
attribute [irreducible] P_maskkeep4_job

def P_slices_Clone_string_string (s0 : List ByteArray) : Option (List ByteArray) :=
 lv (([] : List ByteArray) ++ s0) fun q2 =>
 ck (apOk 16 q2.length) <|
 some q2
set_option maxHeartbeats 4000000 in
set_option maxRecDepth 100000 in
theorem c_slices_Clone_string_string {w0 w : World} {l : List Assn} {ρ : Heap} {q6 : Option Addr} {q8 : Nat} {c_s0 : Nat} {s0 : List ByteArray} {r : List ByteArray} (hF : P_slices_Clone_string_string s0 = some r) (q7 : RdS RpS ρ q6 q8 c_s0 s0) (hS : St w0 w (ro ρ :: l)) :
  Calls Tryd.prog 106 #[.slice q6 q8 c_s0] w fun e w' => ∃ (q5 : Option Addr) (q2 : Nat) (c_y0_ret : Nat) (q3 : List Value), e = .returned (.slice q5 q2 c_y0_ret) ∧ RepL RpS ρ r q3 ∧ St w0 w' (vec 9 RpS.sz (.slice q5 q2 c_y0_ret) q2 q3 :: ro ρ :: l) := by
 have e_ := q7.n; subst e_
 refine enterC Tryd.func106 rfl 8 rfl (by simp) ?_
 refine x_seq <| x_region <| p (yl_assign rfl) <| x_done <|
  x_seq <| x_seq <| x_region <| p (yl_move rfl) <|
  p (yeq_nil usl_26 rfl rfl) <| x_done <|
  x_cond (t := Option.isNone q6) rfl (fun hc4 => ?_) (fun hc4 => ?_)
 ·have hx0 : s0 = [] := RdS.nil_of q7 hc4
  have hF : some ([] : List ByteArray) = some r := by rw [hx0] at hF; unfold P_slices_Clone_string_string at hF; simpa [lv, ck, apOk] using hF
  refine x_seq <| x_region <| p (yl_assign rfl) <| x_done <| ?_
  replace hS := St.vec_nil hS 9 RpS.sz
  have q4 : RepL RpS ρ [] [] := rfl
  have e_ := Option.some.inj (show some _ = some _ from hF); subst e_
  exact x_return ⟨_, ⟨_, _, rfl, rfl, rfl⟩, none, 0, 0, [], rfl, q4, ((hS.pull 1).pull 1)⟩
 ·skip
  refine x_skip <| x_seq <| x_region <| ?_
  refine o_buildSlice (vs := []) (cs := []) sl_26 zero_9 (parts_eq pt0) rfl (by intro v hv; cases hv) (by decide) rfl hS (fun b5 w' hS => ?_)
  refine p (yl_move rfl) <| ?_
  have q9 : RepL RpS ρ ([] : List ByteArray) [] := RepL.nil
  replace hS := St.vec_of (n := 0) (sz := RpS.sz) hS rfl (by decide)
  have q_ := src_f usl_26 (hS.pull 1) q7; obtain ⟨nw7, hnw7, src7⟩ := q_
  replace hF := lv_s hF; obtain ⟨q0c, q0a, hF⟩ := hF
  replace hF := ck_s hF; obtain ⟨q0b, hF⟩ := hF
  refine o_ap sl_26 zero_9 rfl (by decide) rfl rfl hS q9 src7 hnw7 q0a q0b (fun A7 c7 cs7 w' hr7 hS => ?_)
  refine p (yl_assign rfl) <| x_done <| ?_
  have e_ := Option.some.inj (show some _ = some _ from hF); subst e_
  exact x_return ⟨_, ⟨_, _, rfl, rfl, rfl⟩, A7, q0c.length, c7, cs7, rfl, hr7, ((hS.pull 1).pull 1)⟩
attribute [irreducible] P_slices_Clone_string_string

def P_graph_Name_L4 (q3 : List Int) : Int → Option (Int ⊕ (Unit ⊕ Bool)) := fun q2 =>
 if q2 < (q3.length : Int) then
  ck (inb q2 q3.length) <|
  lv (gt q3 q2) fun x19 =>
  lv ((decide (x19 < 33)) || (decide (126 < x19))) fun x25 =>
  if x25 = true then
   some (Sum.inr (Sum.inr false))
  else
   ar (q2 + 1) fun x26 =>
   some (Sum.inl x26)
 else
  some (Sum.inr (Sum.inl ()))
def P_graph_Name (s0 : ByteArray) : Option Bool :=
 lv ((decide ((s0.size : Int) < 1)) || (decide (128 < (s0.size : Int)))) fun x12 =>
 if x12 = true then
  some false
 else
  lv (bytesL s0) fun q2 =>
  bs (
   lp (P_graph_Name_L4 q2) fuel 0) (fun y => some y) fun _ =>
  some true
set_option maxHeartbeats 4000000 in
set_option maxRecDepth 100000 in
theorem c_graph_Name {w0 w : World} {l : List Assn} {ρ : Heap} {s0 : ByteArray} {r : Bool} (hF : P_graph_Name s0 = some r) (hS : St w0 w (ro ρ :: l)) :
  Calls Tryd.prog 193 #[.string s0] w fun e w' => e = .returned (.bool r) ∧ St w0 w' (ro ρ :: l) := by
 refine enterC Tryd.func193 rfl 27 rfl (by simp) ?_
 replace hF := lv_s hF; obtain ⟨x12, hx12, hF⟩ := hF
 refine x_seq <| x_region <| p (yl_assign rfl) <| x_done <|
  x_seq <| x_seq <| x_region <| p (yl_move rfl) <|
  p (yl_len_string us_9 rfl) <| p (yl_lss rfl rfl) <| p (yl_move rfl) <| pg (v := .string s0) 8 (c := !(decide ((s0.size : Int) < 1))) (says_f _) (fun hq => Yl.at (yl_move rfl)) <|
  pg (v := .int .i64 (s0.size : Int)) 8 (c := !(decide ((s0.size : Int) < 1))) (says_f _) (fun hq => Yl.at (yl_len_string us_9 (cv hq))) <| pg (v := .bool (decide (128 < (s0.size : Int)))) 8 (c := !(decide ((s0.size : Int) < 1))) (says_f _) (fun hq => Yl.at (yl_gtr (cv hq) rfl)) <| p (yor' rfl rfl (fun hc => (cv (t_not hc))) hx12) <| x_done <|
  x_cond (t := x12) rfl (fun hc12 => ?_) (fun hc12 => ?_)
 ·replace hF := it_t hc12 hF
  refine x_seq <| x_region <| p (yl_assign rfl) <| x_done <| ?_
  have e_ := Option.some.inj (show some _ = some _ from hF); subst e_
  exact x_return ⟨_, ⟨_, _, rfl, rfl, rfl⟩, rfl, hS⟩
 ·replace hF := it_bf hc12 hF
  refine x_skip <| x_seq <| x_seq <| x_region <|
   p (yl_move rfl) <| ?_
  replace hF := lv_s hF; obtain ⟨q6, q0a, hF⟩ := hF
  refine o_byt us_9 usl_169 ui_5 rfl q0a hS (fun q9 A14 c14 w' q7 f14 hS => ?_)
  refine p (yl_len_slice usl_169 rfl) <| p (yl_move rfl) <| x_done <| ?_
  replace hF := bs_s hF; obtain ⟨oL4, hLL4, hF⟩ := hF
  refine x_join (fun E w => (Sum.inl (())) = oL4 ∧ St w0 w (ro q9 :: l)) ?_ ?_
  ·refine x_block ?_
   refine x_loop (fun k_ E w => ∃ (q2 : Int), lp (P_graph_Name_L4 q6) k_ q2 = some oL4 ∧ E 14 = .slice A14 q6.length c14 ∧ E 15 = .int .i64 (q6.length : Int) ∧ E 16 = .int .i64 q2 ∧ St w0 w (ro q9 :: l)) fuel ⟨0, hLL4, rfl, rfl, rfl, hS⟩ ?_
   rintro kL4 E w ⟨q2, hLL4, q4, q5, q3, hS⟩
   replace hLL4 := lp_s hLL4; obtain ⟨kL4, obL4, rfl, hFL4, hLL4⟩ := hLL4
   refine x_seq <| x_region <| p (yl_lss q3 q5) <| x_done <|
    x_seq <|
    x_cond_p (q2 < (q6.length : Int)) rfl (fun hc17 => ?_) (fun hc17 => ?_)
   ·replace hFL4 := it_t hc17 hFL4
    replace hFL4 := ck_s hFL4; obtain ⟨q8, hFL4⟩ := hFL4
    replace hFL4 := lv_s hFL4; obtain ⟨x19, hx19, hFL4⟩ := hFL4
    replace hFL4 := lv_s hFL4; obtain ⟨x25, hx25, hFL4⟩ := hFL4
    refine x_skip <| x_seq <| x_block <| x_seq <|
     x_region <| p (yix_f sl_169 q4 q3 f14 q8) <| pa (at_load one_5 rfl (RdS.getW f14 hS q8 hx19)) <| p (yl_assign rfl) <|
     x_done <| x_seq <| x_region <| p (yl_move rfl) <|
     p (yl_lss rfl rfl) <| p (yl_move rfl) <| pg (v := .int .u8 x19) 22 (c := !(decide (x19 < 33))) (says_f _) (fun hq => Yl.at (yl_move rfl)) <| pg (v := .bool (decide (126 < x19))) 22 (c := !(decide (x19 < 33))) (says_f _) (fun hq => Yl.at (yl_gtr (cv hq) rfl)) <|
     p (yor' rfl rfl (fun hc => (cv (t_not hc))) hx25) <| x_done <|
     x_cond (t := x25) rfl (fun hc25 => ?_) (fun hc25 => ?_)
    ·replace hFL4 := it_t hc25 hFL4
     refine x_seq <| x_region <| p (yl_assign rfl) <| x_done <| ?_
     have e_ := Option.some.inj (show some _ = some _ from hFL4); subst e_
     have e_ := (show _ = oL4 from hLL4); subst e_
     have e_ := Option.some.inj (show some _ = some _ from hF); subst e_
     exact x_return ⟨_, ⟨_, _, rfl, rfl, rfl⟩, rfl, (ro_back0 q7 hS)⟩
    ·replace hFL4 := it_bf hc25 hFL4
     replace hFL4 := ar_s hFL4; obtain ⟨x26, hx26, hFL4⟩ := hFL4
     refine x_skip <| x_blk <| x_region <| p (yadd q3 rfl hx26) <|
      p (yl_move rfl) <| x_done <| ?_
     have e_ := Option.some.inj (show some _ = some _ from hFL4); subst e_
     exact x_inv ⟨kL4, Nat.lt_succ_self _, x26, hLL4, q4, q5, rfl, hS⟩
   ·replace hFL4 := it_f hc17 hFL4
    refine x_exitTo _ rfl <| ?_
    have e_ := Option.some.inj (show some _ = some _ from hFL4); subst e_
    exact x_inv ⟨hLL4, hS⟩
  rintro E w ⟨rfl, hS⟩
  refine x_seq <| x_region <| p (yl_assign rfl) <| x_done <| ?_
  have e_ := Option.some.inj (show some _ = some _ from hF); subst e_
  exact x_return ⟨_, ⟨_, _, rfl, rfl, rfl⟩, rfl, (ro_back0 q7 hS)⟩
attribute [irreducible] P_graph_Name

def P_graph_Names_L3 (l_0 : List ByteArray) : (List (ByteArray × Int) × Int) → Option ((List (ByteArray × Int) × Int) ⊕ (Unit ⊕ Int)) := fun (q3, q2) =>
 if q2 < (l_0.length : Int) then
  ck (inb q2 l_0.length) <|
  lv (gt l_0 q2) fun x12 =>
  bd (P_graph_Name x12) fun q5 =>
  if (!q5) = true then
   some (Sum.inr (Sum.inr (9 : Int)))
  else
   lv (mget x12 q3 0) fun x18 =>
   ar (x18 + 1) fun x19 =>
   lv (mput x12 x19 q3) fun q4 =>
   lv (mget x12 q4 0) fun x22 =>
   if 1 < x22 then
    some (Sum.inr (Sum.inr (6 : Int)))
   else
    ar (q2 + 1) fun x24 =>
    some (Sum.inl (q4, x24))
 else
  some (Sum.inr (Sum.inl ()))
def P_graph_Names (l_0 : List ByteArray) : Option Int :=
 bs (
  lp (P_graph_Names_L3 l_0) fuel ([], 0)) (fun y => some y) fun _ =>
 some (0 : Int)
set_option maxHeartbeats 4000000 in
set_option maxRecDepth 100000 in
theorem c_graph_Names {w0 w : World} {l : List Assn} {ρ : Heap} {q6 : Option Addr} {q0a : Nat} {c_l_0 : Nat} {l_0 : List ByteArray} {r : Int} (hF : P_graph_Names l_0 = some r) (q7 : RdS RpS ρ q6 q0a c_l_0 l_0) (hS : St w0 w (ro ρ :: l)) :
  Calls Tryd.prog 171 #[.slice q6 q0a c_l_0] w fun e w' => e = .returned (.int .i64 r) ∧ St w0 w' (ro ρ :: l) := by
 have e_ := q7.n; subst e_
 refine enterC Tryd.func171 rfl 25 rfl (by simp) ?_
 refine x_seq <| x_region <| p (yl_assign rfl) <| x_done <|
  x_seq <| x_region <| ?_
 refine o_mkmap (κ := ByteArray) (α := Int) Value.string (Value.int .i64) hS (fun b6 w' hS => ?_)
 refine p (yl_assign rfl) <| x_done <| x_seq <| x_seq <|
  x_region <| p (yl_move rfl) <| p (yl_len_slice usl_26 rfl) <| p (yl_move rfl) <|
  x_done <| ?_
 replace hF := bs_s hF; obtain ⟨oL3, hLL3, hF⟩ := hF
 refine x_join (fun E w => (Sum.inl (())) = oL3 ∧ St w0 w (ro ρ :: l)) ?_ ?_
 ·refine x_block ?_
  refine x_loop (fun k_ E w => ∃ (q2 : List (ByteArray × Int)) (q3 : Int), lp (P_graph_Names_L3 l_0) k_ (q2, q3) = some oL3 ∧ E 3 = .map (some b6) ∧ E 7 = .slice q6 l_0.length c_l_0 ∧ E 8 = .int .i64 (l_0.length : Int) ∧ E 9 = .int .i64 q3 ∧ St w0 w (mapA b6 Value.string (Value.int .i64) q2 :: ro ρ :: l)) fuel ⟨[], 0, hLL3, rfl, rfl, rfl, rfl, ((hS.pull 1).pull 1)⟩ ?_
  rintro kL3 E w ⟨q2, q3, hLL3, q4, q8, q9, q5, hS⟩
  replace hLL3 := lp_s hLL3; obtain ⟨kL3, obL3, rfl, hFL3, hLL3⟩ := hLL3
  refine x_seq <| x_region <| p (yl_lss q5 q9) <| x_done <|
   x_seq <|
   x_cond_p (q3 < (l_0.length : Int)) rfl (fun hc10 => ?_) (fun hc10 => ?_)
  ·replace hFL3 := it_t hc10 hFL3
   replace hFL3 := ck_s hFL3; obtain ⟨q0b, hFL3⟩ := hFL3
   replace hFL3 := lv_s hFL3; obtain ⟨x12, hx12, hFL3⟩ := hFL3
   replace hFL3 := bd_s hFL3; obtain ⟨q0e, q0c, hFL3⟩ := hFL3
   refine x_skip <| x_seq <| x_block <| x_seq <|
    x_region <| p (yix_f sl_26 q8 q5 q7 q0b) <| pa (at_load one_9 rfl (RdS.getW q7 (hS.pull 1) q0b hx12)) <| p (yl_assign rfl) <|
    x_done <| x_seq <| x_seq <| x_region <|
    p (yl_move rfl) <| ?_
   have hcall := c_graph_Name q0c  (hS.pull 1)
   refine o_cc call_193 (args1 rfl) ((Calls.mono hcall (fun e w'' h => And.intro h.1 (h.2.pull 1)))) ?_
   rintro e w' ⟨rfl, hS⟩
   refine ⟨_, rfl, ?_⟩
   refine p (yl_not rfl) <| x_done <|
    x_cond (t := !q0e) rfl (fun hc15 => ?_) (fun hc15 => ?_)
   ·replace hFL3 := it_t hc15 hFL3
    refine x_seq <| x_region <| p (yl_assign rfl) <| x_done <| ?_
    have e_ := Option.some.inj (show some _ = some _ from hFL3); subst e_
    have e_ := (show _ = oL3 from hLL3); subst e_
    have e_ := Option.some.inj (show some _ = some _ from hF); subst e_
    exact x_return ⟨_, ⟨_, _, rfl, rfl, rfl⟩, rfl, hS.drop⟩
   ·replace hFL3 := it_bf hc15 hFL3
    replace hFL3 := lv_s hFL3; obtain ⟨x18, hx18, hFL3⟩ := hFL3
    replace hFL3 := ar_s hFL3; obtain ⟨x19, hx19, hFL3⟩ := hFL3
    refine x_skip <| x_seq <| x_region <| p (yl_move q4) <|
     p (yl_move rfl) <| pa (at_look (k := x12) um_279 (KeyP.string us_9) (zero1 zv_3) rfl rfl hS hx18) <| p (yadd rfl rfl hx19) <| ?_
    replace hFL3 := lv_s hFL3; obtain ⟨q0f, q0d, hFL3⟩ := hFL3
    refine o_mapset (vf := (Value.int .i64)) (v := x19) um_279 (KeyP.string us_9) rfl rfl rfl hS q0d (fun w' hS => ?_)
    replace hFL3 := lv_s hFL3; obtain ⟨x22, hx22, hFL3⟩ := hFL3
    refine x_done <| x_seq <| x_region <| p (yl_move q4) <|
     p (yl_move rfl) <| pa (at_look (k := x12) um_279 (KeyP.string us_9) (zero1 zv_3) rfl rfl hS hx22) <| p (yl_gtr rfl rfl) <| x_done <|
     x_cond_p (1 < x22) rfl (fun hc23 => ?_) (fun hc23 => ?_)
    ·replace hFL3 := it_t hc23 hFL3
     refine x_seq <| x_region <| p (yl_assign rfl) <| x_done <| ?_
     have e_ := Option.some.inj (show some _ = some _ from hFL3); subst e_
     have e_ := (show _ = oL3 from hLL3); subst e_
     have e_ := Option.some.inj (show some _ = some _ from hF); subst e_
     exact x_return ⟨_, ⟨_, _, rfl, rfl, rfl⟩, rfl, hS.drop⟩
    ·replace hFL3 := it_f hc23 hFL3
     replace hFL3 := ar_s hFL3; obtain ⟨x24, hx24, hFL3⟩ := hFL3
     refine x_skip <| x_blk <| x_region <| p (yadd q5 rfl hx24) <|
      p (yl_move rfl) <| x_done <| ?_
     have e_ := Option.some.inj (show some _ = some _ from hFL3); subst e_
     exact x_inv ⟨kL3, Nat.lt_succ_self _, q0f, x24, hLL3, q4, q8, q9, rfl, ((hS.pull 1).pull 1)⟩
  ·replace hFL3 := it_f hc10 hFL3
   refine x_exitTo _ rfl <| ?_
   have e_ := Option.some.inj (show some _ = some _ from hFL3); subst e_
   exact x_inv ⟨hLL3, hS.drop⟩
 rintro E w ⟨rfl, hS⟩
 refine x_seq <| x_region <| p (yl_assign rfl) <| x_done <| ?_
 have e_ := Option.some.inj (show some _ = some _ from hF); subst e_
 exact x_return ⟨_, ⟨_, _, rfl, rfl, rfl⟩, rfl, hS⟩
attribute [irreducible] P_graph_Names

def P_netlist_First (n0 : T_api_Netlist) : Option Int :=
 ar ((2 : Int) + (n0.In.length : Int)) fun x6 =>
 ar (x6 + (n0.Flops.length : Int)) fun x10 =>
 some x10
set_option maxHeartbeats 4000000 in
set_option maxRecDepth 100000 in
theorem c_netlist_First {w0 w : World} {l : List Assn} {ρ : Heap} {q2 : Option Addr} {q7 : Nat} {c_n0_0 : Nat} {q3 : Option Addr} {q8 : Nat} {c_n0_1 : Nat} {q4 : Option Addr} {q9 : Nat} {c_n0_2 : Nat} {q5 : Option Addr} {q0a : Nat} {c_n0_3 : Nat} {q6 : Option Addr} {q0b : Nat} {c_n0_4 : Nat} {n0 : T_api_Netlist} {r : Int} (hF : P_netlist_First n0 = some r) (q0c : RdS RpS ρ q2 q7 c_n0_0 n0.In) (q0d : RdS RpS ρ q3 q8 c_n0_1 n0.Out) (q0e : RdS R_api_Flop ρ q4 q9 c_n0_2 n0.Flops) (q0f : RdS R_api_Gate ρ q5 q0a c_n0_3 n0.Gates) (q0g : RdS (RpI .i64) ρ q6 q0b c_n0_4 n0.Outs) (hS : St w0 w (ro ρ :: l)) :
  Calls Tryd.prog 22 #[.agg #[.slice q2 q7 c_n0_0, .slice q3 q8 c_n0_1, .slice q4 q9 c_n0_2, .slice q5 q0a c_n0_3, .slice q6 q0b c_n0_4]] w fun e w' => e = .returned (.int .i64 r) ∧ St w0 w' (ro ρ :: l) := by
 have e_ := q0c.n; subst e_
 have e_ := q0d.n; subst e_
 have e_ := q0e.n; subst e_
 have e_ := q0f.n; subst e_
 have e_ := q0g.n; subst e_
 refine enterC Tryd.func22 rfl 11 rfl (by simp) ?_
 refine x_seq <| x_region <| ?_
 refine o_box (cs := [.slice q2 n0.In.length c_n0_0, .slice q3 n0.Out.length c_n0_1, .slice q4 n0.Flops.length c_n0_2, .slice q5 n0.Gates.length c_n0_3, .slice q6 n0.Outs.length c_n0_4]) rfl rfl hS (fun b1 w' hS => ?_)
 replace hF := ar_s hF; obtain ⟨x6, hx6, hF⟩ := hF
 replace hF := ar_s hF; obtain ⟨x10, hx10, hF⟩ := hF
 refine p (yl_assign rfl) <| x_done <| x_seq <| x_region <|
  p (yl_field0 fld_30_0 rfl) <| pa (at_load one_26 rfl (hS.cell rfl)) <| p (yl_len_slice usl_26 rfl) <| p (yadd rfl rfl hx6) <|
  p (yl_field0 fld_30_2 rfl) <| pa (at_load one_27 rfl (hS.cell rfl)) <| p (yl_len_slice usl_27 rfl) <| p (yadd rfl rfl hx10) <|
  p (yl_assign rfl) <| x_done <| ?_
 have e_ := Option.some.inj (show some _ = some _ from hF); subst e_
 exact x_return ⟨_, ⟨_, _, rfl, rfl, rfl⟩, rfl, hS.drop⟩
attribute [irreducible] P_netlist_First

def P_netlist_Mask (ins0 : Int) : Option Int :=
 lv ((decide (ins0 < 0)) || (decide (6 < ins0))) fun x9 =>
 if x9 = true then
  some (0 : Int)
 else
  if ins0 = 6 then
   some (18446744073709551615 : Int)
  else
   ck (0 ≤ ins0) <|
   lv (shl .u64 (1 : Int) ins0) fun x14 =>
   ck (0 ≤ x14) <|
   lv (shl .u64 (1 : Int) x14) fun x15 =>
   lv ((x15 - 1) % 18446744073709551616) fun x16 =>
   some x16
set_option maxHeartbeats 4000000 in
set_option maxRecDepth 100000 in
theorem c_netlist_Mask {w0 w : World} {l : List Assn} {ρ : Heap} {ins0 : Int} {r : Int} (hF : P_netlist_Mask ins0 = some r) (hS : St w0 w (ro ρ :: l)) :
  Calls Tryd.prog 172 #[.int .i64 ins0] w fun e w' => e = .returned (.int .u64 r) ∧ St w0 w' (ro ρ :: l) := by
 refine enterC Tryd.func172 rfl 17 rfl (by simp) ?_
 replace hF := lv_s hF; obtain ⟨x9, hx9, hF⟩ := hF
 refine x_seq <| x_region <| p (yl_assign rfl) <| x_done <|
  x_seq <| x_block <| x_seq <| x_region <|
  p (yl_move rfl) <| p (yl_lss rfl rfl) <| p (yl_move rfl) <| pg (v := .int .i64 ins0) 6 (c := !(decide (ins0 < 0))) (says_f _) (fun hq => Yl.at (yl_move rfl)) <|
  pg (v := .bool (decide (6 < ins0))) 6 (c := !(decide (ins0 < 0))) (says_f _) (fun hq => Yl.at (yl_gtr (cv hq) rfl)) <| p (yor' rfl rfl (fun hc => (cv (t_not hc))) hx9) <| p (yl_assign rfl) <| x_done <|
  x_cond (t := x9) rfl (fun hc3 => ?_) (fun hc3 => ?_)
 ·replace hF := it_t hc3 hF
  refine x_seq <| x_region <| p (yl_assign rfl) <| x_done <| ?_
  have e_ := Option.some.inj (show some _ = some _ from hF); subst e_
  exact x_return ⟨_, ⟨_, _, rfl, rfl, rfl⟩, rfl, hS⟩
 ·replace hF := it_bf hc3 hF
  refine x_seq <| x_region <| p (yl_move rfl) <| p (yl_eql rfl rfl) <|
   p (yl_assign rfl) <| x_done <|
   x_cond_p (ins0 = 6) rfl (fun hc10 => ?_) (fun hc10 => ?_)
  ·replace hF := it_t hc10 hF
   refine x_seq <| x_region <| p (yl_assign rfl) <| x_done <| ?_
   have e_ := Option.some.inj (show some _ = some _ from hF); subst e_
   exact x_return ⟨_, ⟨_, _, rfl, rfl, rfl⟩, rfl, hS⟩
  ·replace hF := it_f hc10 hF
   replace hF := ck_s hF; obtain ⟨q2, hF⟩ := hF
   replace hF := lv_s hF; obtain ⟨x14, hx14, hF⟩ := hF
   replace hF := ck_s hF; obtain ⟨q3, hF⟩ := hF
   replace hF := lv_s hF; obtain ⟨x15, hx15, hF⟩ := hF
   replace hF := lv_s hF; obtain ⟨x16, hx16, hF⟩ := hF
   refine x_skip <| x_blk <| x_seq <| x_region <|
    p (yl_move rfl) <| p (yshl rfl rfl q2 hx14) <| p (yshl rfl rfl q3 hx15) <| p (ysubu wm_u64 rfl rfl hx16) <|
    p (yl_assign rfl) <| x_done <| ?_
   have e_ := Option.some.inj (show some _ = some _ from hF); subst e_
   exact x_return ⟨_, ⟨_, _, rfl, rfl, rfl⟩, rfl, hS⟩
attribute [irreducible] P_netlist_Mask

def P_netlist_Nets (n0 : T_api_Netlist) : Option Int :=
 bd (P_netlist_First n0) fun q2 =>
 ar (q2 + (n0.Gates.length : Int)) fun x8 =>
 some x8
set_option maxHeartbeats 4000000 in
set_option maxRecDepth 100000 in
theorem c_netlist_Nets {w0 w : World} {l : List Assn} {ρ : Heap} {q2 : Option Addr} {q7 : Nat} {c_n0_0 : Nat} {q3 : Option Addr} {q8 : Nat} {c_n0_1 : Nat} {q4 : Option Addr} {q9 : Nat} {c_n0_2 : Nat} {q5 : Option Addr} {q0a : Nat} {c_n0_3 : Nat} {q6 : Option Addr} {q0b : Nat} {c_n0_4 : Nat} {n0 : T_api_Netlist} {r : Int} (hF : P_netlist_Nets n0 = some r) (q0c : RdS RpS ρ q2 q7 c_n0_0 n0.In) (q0d : RdS RpS ρ q3 q8 c_n0_1 n0.Out) (q0e : RdS R_api_Flop ρ q4 q9 c_n0_2 n0.Flops) (q0f : RdS R_api_Gate ρ q5 q0a c_n0_3 n0.Gates) (q0g : RdS (RpI .i64) ρ q6 q0b c_n0_4 n0.Outs) (hS : St w0 w (ro ρ :: l)) :
  Calls Tryd.prog 12 #[.agg #[.slice q2 q7 c_n0_0, .slice q3 q8 c_n0_1, .slice q4 q9 c_n0_2, .slice q5 q0a c_n0_3, .slice q6 q0b c_n0_4]] w fun e w' => e = .returned (.int .i64 r) ∧ St w0 w' (ro ρ :: l) := by
 have e_ := q0c.n; subst e_
 have e_ := q0d.n; subst e_
 have e_ := q0e.n; subst e_
 have e_ := q0f.n; subst e_
 have e_ := q0g.n; subst e_
 refine enterC Tryd.func12 rfl 9 rfl (by simp) ?_
 refine x_seq <| x_region <| ?_
 refine o_box (cs := [.slice q2 n0.In.length c_n0_0, .slice q3 n0.Out.length c_n0_1, .slice q4 n0.Flops.length c_n0_2, .slice q5 n0.Gates.length c_n0_3, .slice q6 n0.Outs.length c_n0_4]) rfl rfl hS (fun b1 w' hS => ?_)
 replace hF := bd_s hF; obtain ⟨q0i, q0h, hF⟩ := hF
 replace hF := ar_s hF; obtain ⟨x8, hx8, hF⟩ := hF
 refine p (yl_assign rfl) <| x_done <| x_seq <| x_still mixed (by kernel_rfl) hS <|
  qa (v := .agg #[.slice q2 n0.In.length c_n0_0, .slice q3 n0.Out.length c_n0_1, .slice q4 n0.Flops.length c_n0_2, .slice q5 n0.Gates.length c_n0_3, .slice q6 n0.Outs.length c_n0_4]) (fun w' hS => ld_sub agg_30 rfl rfl rfl hS) <| qcc (v := .int .i64 q0i) call_22 (args1 rfl) (fun w' hS => by
   have hcall := c_netlist_First q0h q0c q0d q0e q0f q0g (hS.pull 1)
   exact (Calls.mono hcall (fun e w'' h => And.intro h.1 (h.2.pull 1)))) <| q (yl_field0 fld_30_3 rfl) <| qa (fun w' hS => at_load one_28 rfl (hS.cell rfl)) <|
  q (yl_len_slice usl_28 rfl) <| q (yadd rfl rfl hx8) <| q (yl_assign rfl) <|
  q_done fun w' hS => ?_
 have e_ := Option.some.inj (show some _ = some _ from hF); subst e_
 exact x_return ⟨_, ⟨_, _, rfl, rfl, rfl⟩, rfl, hS.drop⟩
attribute [irreducible] P_netlist_Nets

def P_netlist_ends_L3 (n0 : T_api_Netlist) (q4 : Int) : Int → Option (Int ⊕ (Unit ⊕ Int)) := fun q2 =>
 if q2 < (n0.Flops.length : Int) then
  ck (inb q2 n0.Flops.length) <|
  lv (gt n0.Flops q2) fun q3 =>
  lv ((decide (q3.D < 0)) || (decide (q4 ≤ q3.D))) fun x25 =>
  lv (x25 || (decide (q3.En < 0))) fun x30 =>
  lv (x30 || (decide (q4 ≤ q3.En))) fun x36 =>
  if x36 = true then
   some (Sum.inr (Sum.inr (2 : Int)))
  else
   ar (q2 + 1) fun x37 =>
   some (Sum.inl x37)
 else
  some (Sum.inr (Sum.inl ()))
def P_netlist_ends_L9 (n0 : T_api_Netlist) (q3 : Int) : Int → Option (Int ⊕ (Unit ⊕ Int)) := fun q2 =>
 if q2 < (n0.Outs.length : Int) then
  ck (inb q2 n0.Outs.length) <|
  lv (gt n0.Outs q2) fun x44 =>
  lv ((decide (x44 < 0)) || (decide (q3 ≤ x44))) fun x51 =>
  if x51 = true then
   some (Sum.inr (Sum.inr (2 : Int)))
  else
   ar (q2 + 1) fun x52 =>
   some (Sum.inl x52)
 else
  some (Sum.inr (Sum.inl ()))
def P_netlist_ends (n0 : T_api_Netlist) : Option Int :=
 bd (P_netlist_Nets n0) fun q2 =>
 bs (
  lp (P_netlist_ends_L3 n0 q2) fuel 0) (fun y => some y) fun _ =>
 bs (
  lp (P_netlist_ends_L9 n0 q2) fuel 0) (fun y => some y) fun _ =>
 some (0 : Int)
set_option maxHeartbeats 4000000 in
set_option maxRecDepth 100000 in
theorem c_netlist_ends {w0 w : World} {l : List Assn} {ρ : Heap} {q6 : Option Addr} {q0k : Nat} {c_n0_0 : Nat} {q7 : Option Addr} {q0l : Nat} {c_n0_1 : Nat} {q4 : Option Addr} {q0m : Nat} {c_n0_2 : Nat} {q8 : Option Addr} {q0n : Nat} {c_n0_3 : Nat} {q5 : Option Addr} {q0o : Nat} {c_n0_4 : Nat} {n0 : T_api_Netlist} {r : Int} (hF : P_netlist_ends n0 = some r) (q0p : RdS RpS ρ q6 q0k c_n0_0 n0.In) (q0q : RdS RpS ρ q7 q0l c_n0_1 n0.Out) (q0b : RdS R_api_Flop ρ q4 q0m c_n0_2 n0.Flops) (q0r : RdS R_api_Gate ρ q8 q0n c_n0_3 n0.Gates) (q0c : RdS (RpI .i64) ρ q5 q0o c_n0_4 n0.Outs) (hS : St w0 w (ro ρ :: l)) :
  Calls Tryd.prog 173 #[.agg #[.slice q6 q0k c_n0_0, .slice q7 q0l c_n0_1, .slice q4 q0m c_n0_2, .slice q8 q0n c_n0_3, .slice q5 q0o c_n0_4]] w fun e w' => e = .returned (.int .i64 r) ∧ St w0 w' (ro ρ :: l) := by
 have e_ := q0p.n; subst e_
 have e_ := q0q.n; subst e_
 have e_ := q0b.n; subst e_
 have e_ := q0r.n; subst e_
 have e_ := q0c.n; subst e_
 refine enterC Tryd.func173 rfl 53 rfl (by simp) ?_
 refine x_seq <| x_region <| ?_
 refine o_box (cs := [.slice q6 n0.In.length c_n0_0, .slice q7 n0.Out.length c_n0_1, .slice q4 n0.Flops.length c_n0_2, .slice q8 n0.Gates.length c_n0_3, .slice q5 n0.Outs.length c_n0_4]) rfl rfl hS (fun b1 w' hS => ?_)
 replace hF := bd_s hF; obtain ⟨q3, q0x, hF⟩ := hF
 refine p (yl_assign rfl) <| x_done <| x_seq <| x_region <|
  pa (v := .agg #[.slice q6 n0.In.length c_n0_0, .slice q7 n0.Out.length c_n0_1, .slice q4 n0.Flops.length c_n0_2, .slice q8 n0.Gates.length c_n0_3, .slice q5 n0.Outs.length c_n0_4]) (ld_sub agg_30 rfl rfl rfl hS) <| ?_
 have hcall := c_netlist_Nets q0x q0p q0q q0b q0r q0c (hS.pull 1)
 refine o_cc call_12 (args1 rfl) ((Calls.mono hcall (fun e w'' h => And.intro h.1 (h.2.pull 1)))) ?_
 rintro e w' ⟨rfl, hS⟩
 refine ⟨_, rfl, ?_⟩
 refine p (v := .int .i64 q3) (yl_assign rfl) <| x_done <| x_seq <| x_seq <|
  x_region <| p (yl_field0 fld_30_2 rfl) <| pa (at_load one_27 rfl (hS.cell rfl)) <| p (yl_len_slice usl_27 rfl) <|
  p (yl_move rfl) <| x_done <| ?_
 replace hF := bs_s hF; obtain ⟨oL3, hLL3, hF⟩ := hF
 refine x_join (fun E w => (Sum.inl (())) = oL3 ∧ E 1 = .pointer (some ⟨b1, 0, none⟩) ∧ E 3 = .int .i64 q3 ∧ St w0 w (cells b1 30 [.slice q6 n0.In.length c_n0_0, .slice q7 n0.Out.length c_n0_1, .slice q4 n0.Flops.length c_n0_2, .slice q8 n0.Gates.length c_n0_3, .slice q5 n0.Outs.length c_n0_4] :: ro ρ :: l)) ?_ ?_
 ·refine x_block ?_
  refine x_loop (fun k_ E w => ∃ (q9 : Int), lp (P_netlist_ends_L3 n0 q3) k_ q9 = some oL3 ∧ E 1 = .pointer (some ⟨b1, 0, none⟩) ∧ E 3 = .int .i64 q3 ∧ E 11 = .slice q4 n0.Flops.length c_n0_2 ∧ E 12 = .int .i64 (n0.Flops.length : Int) ∧ E 13 = .int .i64 q9 ∧ St w0 w (cells b1 30 [.slice q6 n0.In.length c_n0_0, .slice q7 n0.Out.length c_n0_1, .slice q4 n0.Flops.length c_n0_2, .slice q8 n0.Gates.length c_n0_3, .slice q5 n0.Outs.length c_n0_4] :: ro ρ :: l)) fuel ⟨0, hLL3, rfl, rfl, rfl, rfl, rfl, ((hS.pull 1).pull 1)⟩ ?_
  rintro kL3 E w ⟨q9, hLL3, q0s, q0d, q0g, q0h, q0e, hS⟩
  replace hLL3 := lp_s hLL3; obtain ⟨kL3, obL3, rfl, hFL3, hLL3⟩ := hLL3
  refine x_seq <| x_region <| p (yl_lss q0e q0h) <| x_done <|
   x_seq <|
   x_cond_p (q9 < (n0.Flops.length : Int)) rfl (fun hc14 => ?_) (fun hc14 => ?_)
  ·replace hFL3 := it_t hc14 hFL3
   replace hFL3 := ck_s hFL3; obtain ⟨q0v, hFL3⟩ := hFL3
   replace hFL3 := lv_s hFL3; obtain ⟨q2, q0y, hFL3⟩ := hFL3
   have q_ := q0b.get q0v; obtain ⟨q12, q0w, q0z⟩ := q_
   rw [← q0y] at q0w
   have e_ := q0w; subst e_
   refine x_skip <| x_seq <| x_block <| x_seq <|
    x_region <| p (yix_f sl_27 q0g q0e q0b q0v) <| pa (v := .agg #[.string q2.Name, .int .i64 q2.Cell, .int .i64 q2.D, .int .i64 q2.En, .bool q2.Init]) (at_loadAgg agg_135 rfl rfl (Elt.every q0z (hS.pull 1))) <| ?_
   refine o_alloc zero_135 hS (fun b5 w' hS => ?_)
   refine o_storeAgg (news := [.string q2.Name, .int .i64 q2.Cell, .int .i64 q2.D, .int .i64 q2.En, .bool q2.Init]) agg_135 rfl rfl rfl (by simp [over_length]) hS (fun w' hS => ?_)
   replace hFL3 := lv_s hFL3; obtain ⟨x25, hx25, hFL3⟩ := hFL3
   replace hFL3 := lv_s hFL3; obtain ⟨x30, hx30, hFL3⟩ := hFL3
   replace hFL3 := lv_s hFL3; obtain ⟨x36, hx36, hFL3⟩ := hFL3
   refine x_done <| x_seq <| x_region <| p (yl_field0 fld_135_2 rfl) <|
    pa (at_load one_3 rfl (hS.cell rfl)) <| p (yl_lss rfl rfl) <| p (yl_move rfl) <| pg (v := .pointer (some ⟨b5, 2, none⟩)) 20 (c := !(decide (q2.D < 0))) (says_f _) (fun hq => Yl.at (yl_field0 fld_135_2 rfl)) <|
    pg (v := .int .i64 q2.D) 20 (c := !(decide (q2.D < 0))) (says_f _) (fun hq => at_load one_3 (cv hq) (hS.cell rfl)) <| pg (v := .int .i64 q3) 20 (c := !(decide (q2.D < 0))) (says_f _) (fun hq => Yl.at (yl_move q0d)) <| pg (v := .bool (decide (q3 ≤ q2.D))) 20 (c := !(decide (q2.D < 0))) (says_f _) (fun hq => Yl.at (yl_geq (cv hq) (cv hq))) <| p (yor' rfl rfl (fun hc => (cv (t_not hc))) hx25) <|
    p (yl_move rfl) <| pg (v := .pointer (some ⟨b5, 3, none⟩)) 26 (c := !x25) (says_f _) (fun hq => Yl.at (yl_field0 fld_135_3 rfl)) <| pg (v := .int .i64 q2.En) 26 (c := !x25) (says_f _) (fun hq => at_load one_3 (cv hq) (hS.cell rfl)) <| pg (v := .bool (decide (q2.En < 0))) 26 (c := !x25) (says_f _) (fun hq => Yl.at (yl_lss (cv hq) rfl)) <|
    p (yor' rfl rfl (fun hc => (cv (t_not hc))) hx30) <| p (yl_move rfl) <| pg (v := .pointer (some ⟨b5, 3, none⟩)) 31 (c := !x30) (says_f _) (fun hq => Yl.at (yl_field0 fld_135_3 rfl)) <| pg (v := .int .i64 q2.En) 31 (c := !x30) (says_f _) (fun hq => at_load one_3 (cv hq) (hS.cell rfl)) <|
    pg (v := .int .i64 q3) 31 (c := !x30) (says_f _) (fun hq => Yl.at (yl_move q0d)) <| pg (v := .bool (decide (q3 ≤ q2.En))) 31 (c := !x30) (says_f _) (fun hq => Yl.at (yl_geq (cv hq) (cv hq))) <| p (yor' rfl rfl (fun hc => (cv (t_not hc))) hx36) <| x_done <|
    x_cond (t := x36) rfl (fun hc36 => ?_) (fun hc36 => ?_)
   ·replace hFL3 := it_t hc36 hFL3
    refine x_seq <| x_region <| p (yl_assign rfl) <| x_done <| ?_
    have e_ := Option.some.inj (show some _ = some _ from hFL3); subst e_
    have e_ := (show _ = oL3 from hLL3); subst e_
    have e_ := Option.some.inj (show some _ = some _ from hF); subst e_
    exact x_return ⟨_, ⟨_, _, rfl, rfl, rfl⟩, rfl, hS.drop.drop⟩
   ·replace hFL3 := it_bf hc36 hFL3
    replace hFL3 := ar_s hFL3; obtain ⟨x37, hx37, hFL3⟩ := hFL3
    refine x_skip <| x_blk <| x_region <| p (yadd q0e rfl hx37) <|
     p (yl_move rfl) <| x_done <| ?_
    have e_ := Option.some.inj (show some _ = some _ from hFL3); subst e_
    exact x_inv ⟨kL3, Nat.lt_succ_self _, x37, hLL3, q0s, q0d, q0g, q0h, rfl, ((hS.drop.pull 1).pull 1)⟩
  ·replace hFL3 := it_f hc14 hFL3
   refine x_exitTo _ rfl <| ?_
   have e_ := Option.some.inj (show some _ = some _ from hFL3); subst e_
   exact x_inv ⟨hLL3, q0s, q0d, ((hS.pull 1).pull 1)⟩
 rintro E w ⟨rfl, q10, q11, hS⟩
 refine x_seq <| x_seq <| x_region <| p (yl_field0 fld_30_4 q10) <|
  pa (at_load one_22 rfl (hS.cell rfl)) <| p (yl_len_slice usl_22 rfl) <| p (yl_move rfl) <| x_done <| ?_
 replace hF := bs_s hF; obtain ⟨oL9, hLL9, hF⟩ := hF
 refine x_join (fun E w => (Sum.inl (())) = oL9 ∧ St w0 w (ro ρ :: l)) ?_ ?_
 ·refine x_block ?_
  refine x_loop (fun k_ E w => ∃ (q0a : Int), lp (P_netlist_ends_L9 n0 q3) k_ q0a = some oL9 ∧ E 3 = .int .i64 q3 ∧ E 39 = .slice q5 n0.Outs.length c_n0_4 ∧ E 40 = .int .i64 (n0.Outs.length : Int) ∧ E 41 = .int .i64 q0a ∧ St w0 w (ro ρ :: l)) fuel ⟨0, hLL9, q11, rfl, rfl, rfl, hS.drop⟩ ?_
  rintro kL9 E w ⟨q0a, hLL9, q0t, q0i, q0j, q0f, hS⟩
  replace hLL9 := lp_s hLL9; obtain ⟨kL9, obL9, rfl, hFL9, hLL9⟩ := hLL9
  refine x_seq <| x_region <| p (yl_lss q0f q0j) <| x_done <|
   x_seq <|
   x_cond_p (q0a < (n0.Outs.length : Int)) rfl (fun hc42 => ?_) (fun hc42 => ?_)
  ·replace hFL9 := it_t hc42 hFL9
   replace hFL9 := ck_s hFL9; obtain ⟨q0u, hFL9⟩ := hFL9
   replace hFL9 := lv_s hFL9; obtain ⟨x44, hx44, hFL9⟩ := hFL9
   replace hFL9 := lv_s hFL9; obtain ⟨x51, hx51, hFL9⟩ := hFL9
   refine x_skip <| x_seq <| x_block <| x_seq <|
    x_region <| p (yix_f sl_22 q0i q0f q0c q0u) <| pa (at_load one_3 rfl (RdS.getW q0c hS q0u hx44)) <| p (yl_assign rfl) <|
    x_done <| x_seq <| x_region <| p (yl_move rfl) <|
    p (yl_lss rfl rfl) <| p (yl_move rfl) <| pg (v := .int .i64 x44) 47 (c := !(decide (x44 < 0))) (says_f _) (fun hq => Yl.at (yl_move rfl)) <| pg (v := .int .i64 q3) 47 (c := !(decide (x44 < 0))) (says_f _) (fun hq => Yl.at (yl_move q0t)) <|
    pg (v := .bool (decide (q3 ≤ x44))) 47 (c := !(decide (x44 < 0))) (says_f _) (fun hq => Yl.at (yl_geq (cv hq) (cv hq))) <| p (yor' rfl rfl (fun hc => (cv (t_not hc))) hx51) <| x_done <|
    x_cond (t := x51) rfl (fun hc51 => ?_) (fun hc51 => ?_)
   ·replace hFL9 := it_t hc51 hFL9
    refine x_seq <| x_region <| p (yl_assign rfl) <| x_done <| ?_
    have e_ := Option.some.inj (show some _ = some _ from hFL9); subst e_
    have e_ := (show _ = oL9 from hLL9); subst e_
    have e_ := Option.some.inj (show some _ = some _ from hF); subst e_
    exact x_return ⟨_, ⟨_, _, rfl, rfl, rfl⟩, rfl, hS⟩
   ·replace hFL9 := it_bf hc51 hFL9
    replace hFL9 := ar_s hFL9; obtain ⟨x52, hx52, hFL9⟩ := hFL9
    refine x_skip <| x_blk <| x_region <| p (yadd q0f rfl hx52) <|
     p (yl_move rfl) <| x_done <| ?_
    have e_ := Option.some.inj (show some _ = some _ from hFL9); subst e_
    exact x_inv ⟨kL9, Nat.lt_succ_self _, x52, hLL9, q0t, q0i, q0j, rfl, hS⟩
  ·replace hFL9 := it_f hc42 hFL9
   refine x_exitTo _ rfl <| ?_
   have e_ := Option.some.inj (show some _ = some _ from hFL9); subst e_
   exact x_inv ⟨hLL9, hS⟩
 rintro E w ⟨rfl, hS⟩
 refine x_seq <| x_region <| p (yl_assign rfl) <| x_done <| ?_
 have e_ := Option.some.inj (show some _ = some _ from hF); subst e_
 exact x_return ⟨_, ⟨_, _, rfl, rfl, rfl⟩, rfl, hS⟩
attribute [irreducible] P_netlist_ends


end Go.Proofs.YtlolchgeedegdaaDoor.X
