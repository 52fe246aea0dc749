/- Printed by gen.py: plain functions, and that the Go code computes them. -/
import Derived.Test.YtnooiajahmichaaYJ
import Derived.Test.YtnooiajahmichaaXTS
import Derived.Test.YtnooiajahmichaaGSp0
namespace Go.Proofs.Ytnooiajahmichaa.X
open Go Go.RowKit
set_option linter.unusedVariables false
set_option linter.unusedSimpArgs false

def P_maskmake_Stream_Config_L21u4 (s0 : T_maskmake_Stream) (r1_5 : (Int × Int)) : (Int × Int × List Int) → Option ((Int × Int × List Int) ⊕ (Int × List Int)) := fun (y78_L21u4h, b_s0_1_L21u4h, b4_6_L21u4h) =>
  if y78_L21u4h < r1_5.1 then
    bd (P_maskmake_Stream_Pick (T_maskmake_Stream.mk s0.L b_s0_1_L21u4h) ([0, 1, 2, 6, 3] : List Int)) fun r22_2u4 =>
    bd (
      if r22_2u4.1 = 3 then
        some (2 : Int)
      else
        some r22_2u4.1) fun x7_c86u4 =>
    bd (P_maskmake_Stream_Pick (T_maskmake_Stream.mk s0.L r22_2u4.2) ([0, 2] : List Int)) fun r26_2u4 =>
    lv (b4_6_L21u4h ++ [r26_2u4.1]) fun z27_7u4 =>
    ck (apOk 8 z27_7u4.length) <|
    ar (y78_L21u4h + 1) fun x106u4 =>
    some (Sum.inl (x106u4, r26_2u4.2, z27_7u4))
  else
    some (Sum.inr (b_s0_1_L21u4h, b4_6_L21u4h))
def P_maskmake_Stream_Config_L21u3 (s0 : T_maskmake_Stream) (r1_5 : (Int × Int)) : (Int × Int × List Int) → Option ((Int × Int × List Int) ⊕ (Int × List Int)) := fun (y78_L21u3h, b_s0_1_L21u3h, b4_7_L21u3h) =>
  if y78_L21u3h < r1_5.1 then
    bd (P_maskmake_Stream_Pick (T_maskmake_Stream.mk s0.L b_s0_1_L21u3h) ([0, 1, 2, 6, 3] : List Int)) fun r22_2u3 =>
    bd (
      if r22_2u3.1 = 4 then
        some (2 : Int)
      else
        some r22_2u3.1) fun x7_c86u3 =>
    lv (b4_7_L21u3h ++ [x7_c86u3]) fun z27_7u3 =>
    ck (apOk 8 z27_7u3.length) <|
    ar (y78_L21u3h + 1) fun x106u3 =>
    some (Sum.inl (x106u3, r22_2u3.2, z27_7u3))
  else
    some (Sum.inr (b_s0_1_L21u3h, b4_7_L21u3h))
def P_maskmake_Stream_Config_L21u2 (s0 : T_maskmake_Stream) (r1_5 : (Int × Int)) : (Int × Int × List Int) → Option ((Int × Int × List Int) ⊕ (Int × List Int)) := fun (y78_L21u2h, b_s0_1_L21u2h, b4_8_L21u2h) =>
  if y78_L21u2h < r1_5.1 then
    bd (P_maskmake_Stream_Pick (T_maskmake_Stream.mk s0.L b_s0_1_L21u2h) ([0, 1, 2, 6, 3] : List Int)) fun r22_2u2 =>
    bd (
      if r22_2u2.1 = 5 then
        some (2 : Int)
      else
        some r22_2u2.1) fun x7_c86u2 =>
    lv (b4_8_L21u2h ++ [x7_c86u2]) fun z27_7u2 =>
    ck (apOk 8 z27_7u2.length) <|
    ar (y78_L21u2h + 1) fun x106u2 =>
    some (Sum.inl (x106u2, r22_2u2.2, z27_7u2))
  else
    some (Sum.inr (b_s0_1_L21u2h, b4_8_L21u2h))
def P_maskmake_Stream_Config_L21u1 (s0 : T_maskmake_Stream) (r1_5 : (Int × Int)) : (Int × Int × List Int) → Option ((Int × Int × List Int) ⊕ (Int × List Int)) := fun (y78_L21u1h, b_s0_1_L21u1h, b4_9_L21u1h) =>
  if y78_L21u1h < r1_5.1 then
    bd (P_maskmake_Stream_Pick (T_maskmake_Stream.mk s0.L b_s0_1_L21u1h) ([0, 1, 2, 6, 3] : List Int)) fun r22_2u1 =>
    bd (
      if r22_2u1.1 = 6 then
        some (2 : Int)
      else
        some r22_2u1.1) fun x7_c86u1 =>
    bd (P_maskmake_Stream_Pick (T_maskmake_Stream.mk s0.L r22_2u1.2) ([0, 2] : List Int)) fun r26_2u1 =>
    lv (b4_9_L21u1h ++ [r26_2u1.1]) fun z27_7u1 =>
    ck (apOk 8 z27_7u1.length) <|
    ar (y78_L21u1h + 1) fun x106u1 =>
    some (Sum.inl (x106u1, r26_2u1.2, z27_7u1))
  else
    some (Sum.inr (b_s0_1_L21u1h, b4_9_L21u1h))
def P_maskmake_Stream_Config_L3 (s0 : T_maskmake_Stream) (r1_5 : (Int × Int)) (x20 : Int) : (Int × Int × List T_array_Tile) → Option ((Int × Int × List T_array_Tile) ⊕ (Int × List T_array_Tile)) := fun (y21_L3h, b_s0_1_L3h, b3_3_L3h) =>
  if y21_L3h < x20 then
    bd (P_maskmake_Stream_Next (T_maskmake_Stream.mk s0.L b_s0_1_L3h) 65536) fun r4_1 =>
    lv (r4_1.1 % 65536) fun x25 =>
    bd (P_maskmake_Stream_Flip (T_maskmake_Stream.mk s0.L r4_1.2) 2) fun r4_4 =>
    bd (P_maskmake_Stream_Next (T_maskmake_Stream.mk s0.L r4_4.2) 5) fun r8_1u4 =>
    bd (
      if r8_1u4.1 = 0 then
        ar ((4 : Int) * r1_5.1) fun x39u4 =>
        ar ((1 : Int) + x39u4) fun x40u4 =>
        some (r8_1u4.2, x40u4)
      else
        bd (
          if r8_1u4.1 = 1 then
            some (decide (r8_1u4.1 = 1))
          else
            some (decide (r8_1u4.1 = 2))) fun y43_c43u4 =>
        bd (
          if y43_c43u4 = true then
            ar ((3 : Int) * r1_5.1) fun x49u4 =>
            ar ((1 : Int) + x49u4) fun x50u4 =>
            bd (P_maskmake_Stream_Next (T_maskmake_Stream.mk s0.L r8_1u4.2) r1_5.1) fun r13u4_8 =>
            ar (x50u4 + r13u4_8.1) fun x55u4 =>
            some (r13u4_8.2, x55u4)
          else
            bd (
              if r8_1u4.1 = 3 then
                ar ((0 : Int) * r1_5.1) fun x63u4 =>
                ar ((1 : Int) + x63u4) fun x64u4 =>
                bd (P_maskmake_Stream_Next (T_maskmake_Stream.mk s0.L r8_1u4.2) r1_5.1) fun r15u4_8 =>
                ar (x64u4 + r15u4_8.1) fun x69u4 =>
                some (r15u4_8.2, x69u4)
              else
                some (r8_1u4.2, (0 : Int))) fun (b_s0_1_c58u4, b4_2_c58u4) =>
            some (b_s0_1_c58u4, b4_2_c58u4)) fun (b_s0_1_c43_2u4, b4_2_c43_2u4) =>
        some (b_s0_1_c43_2u4, b4_2_c43_2u4)) fun (b_s0_1_c34u4, b4_2_c34u4) =>
    bd (P_maskmake_Stream_Next (T_maskmake_Stream.mk s0.L b_s0_1_c34u4) 5) fun r8_1u3 =>
    bd (
      if r8_1u3.1 = 0 then
        ar ((4 : Int) * r1_5.1) fun x39u3 =>
        ar ((1 : Int) + x39u3) fun x40u3 =>
        some (r8_1u3.2, x40u3)
      else
        bd (
          if r8_1u3.1 = 1 then
            some (decide (r8_1u3.1 = 1))
          else
            some (decide (r8_1u3.1 = 2))) fun y43_c43u3 =>
        bd (
          if y43_c43u3 = true then
            ar ((3 : Int) * r1_5.1) fun x49u3 =>
            ar ((1 : Int) + x49u3) fun x50u3 =>
            bd (P_maskmake_Stream_Next (T_maskmake_Stream.mk s0.L r8_1u3.2) r1_5.1) fun r13u3_8 =>
            ar (x50u3 + r13u3_8.1) fun x55u3 =>
            some (r13u3_8.2, x55u3)
          else
            bd (
              if r8_1u3.1 = 3 then
                ar ((0 : Int) * r1_5.1) fun x63u3 =>
                ar ((1 : Int) + x63u3) fun x64u3 =>
                bd (P_maskmake_Stream_Next (T_maskmake_Stream.mk s0.L r8_1u3.2) r1_5.1) fun r15u3_8 =>
                ar (x64u3 + r15u3_8.1) fun x69u3 =>
                some (r15u3_8.2, x69u3)
              else
                some (r8_1u3.2, (0 : Int))) fun (b_s0_1_c58u3, b4_3_c58u3) =>
            some (b_s0_1_c58u3, b4_3_c58u3)) fun (b_s0_1_c43_2u3, b4_3_c43_2u3) =>
        some (b_s0_1_c43_2u3, b4_3_c43_2u3)) fun (b_s0_1_c34u3, b4_3_c34u3) =>
    bd (P_maskmake_Stream_Next (T_maskmake_Stream.mk s0.L b_s0_1_c34u3) 5) fun r8_1u2 =>
    bd (
      if r8_1u2.1 = 0 then
        ar ((4 : Int) * r1_5.1) fun x39u2 =>
        ar ((1 : Int) + x39u2) fun x40u2 =>
        some (r8_1u2.2, x40u2)
      else
        bd (
          if r8_1u2.1 = 1 then
            some (decide (r8_1u2.1 = 1))
          else
            some (decide (r8_1u2.1 = 2))) fun y43_c43u2 =>
        bd (
          if y43_c43u2 = true then
            ar ((3 : Int) * r1_5.1) fun x49u2 =>
            ar ((1 : Int) + x49u2) fun x50u2 =>
            bd (P_maskmake_Stream_Next (T_maskmake_Stream.mk s0.L r8_1u2.2) r1_5.1) fun r13u2_8 =>
            ar (x50u2 + r13u2_8.1) fun x55u2 =>
            some (r13u2_8.2, x55u2)
          else
            bd (
              if r8_1u2.1 = 3 then
                ar ((0 : Int) * r1_5.1) fun x63u2 =>
                ar ((1 : Int) + x63u2) fun x64u2 =>
                bd (P_maskmake_Stream_Next (T_maskmake_Stream.mk s0.L r8_1u2.2) r1_5.1) fun r15u2_8 =>
                ar (x64u2 + r15u2_8.1) fun x69u2 =>
                some (r15u2_8.2, x69u2)
              else
                some (r8_1u2.2, (0 : Int))) fun (b_s0_1_c58u2, b4_4_c58u2) =>
            some (b_s0_1_c58u2, b4_4_c58u2)) fun (b_s0_1_c43_2u2, b4_4_c43_2u2) =>
        some (b_s0_1_c43_2u2, b4_4_c43_2u2)) fun (b_s0_1_c34u2, b4_4_c34u2) =>
    bd (P_maskmake_Stream_Next (T_maskmake_Stream.mk s0.L b_s0_1_c34u2) 5) fun r8_1u1 =>
    bd (
      if r8_1u1.1 = 0 then
        ar ((4 : Int) * r1_5.1) fun x39u1 =>
        ar ((1 : Int) + x39u1) fun x40u1 =>
        some (r8_1u1.2, x40u1)
      else
        bd (
          if r8_1u1.1 = 1 then
            some (decide (r8_1u1.1 = 1))
          else
            some (decide (r8_1u1.1 = 2))) fun y43_c43u1 =>
        bd (
          if y43_c43u1 = true then
            ar ((3 : Int) * r1_5.1) fun x49u1 =>
            ar ((1 : Int) + x49u1) fun x50u1 =>
            bd (P_maskmake_Stream_Next (T_maskmake_Stream.mk s0.L r8_1u1.2) r1_5.1) fun r13u1_8 =>
            ar (x50u1 + r13u1_8.1) fun x55u1 =>
            some (r13u1_8.2, x55u1)
          else
            bd (
              if r8_1u1.1 = 3 then
                ar ((0 : Int) * r1_5.1) fun x63u1 =>
                ar ((1 : Int) + x63u1) fun x64u1 =>
                bd (P_maskmake_Stream_Next (T_maskmake_Stream.mk s0.L r8_1u1.2) r1_5.1) fun r15u1_8 =>
                ar (x64u1 + r15u1_8.1) fun x69u1 =>
                some (r15u1_8.2, x69u1)
              else
                some (r8_1u1.2, (0 : Int))) fun (b_s0_1_c58u1, b4_5_c58u1) =>
            some (b_s0_1_c58u1, b4_5_c58u1)) fun (b_s0_1_c43_2u1, b4_5_c43_2u1) =>
        some (b_s0_1_c43_2u1, b4_5_c43_2u1)) fun (b_s0_1_c34u1, b4_5_c34u1) =>
    bd (
      lp (P_maskmake_Stream_Config_L21u4 s0 r1_5) fuel (0, b_s0_1_c34u1, [])) fun (b_s0_1_L21u4, b4_6_L21u4) =>
    bd (
      lp (P_maskmake_Stream_Config_L21u3 s0 r1_5) fuel (0, b_s0_1_L21u4, [])) fun (b_s0_1_L21u3, b4_7_L21u3) =>
    bd (
      lp (P_maskmake_Stream_Config_L21u2 s0 r1_5) fuel (0, b_s0_1_L21u3, [])) fun (b_s0_1_L21u2, b4_8_L21u2) =>
    bd (
      lp (P_maskmake_Stream_Config_L21u1 s0 r1_5) fuel (0, b_s0_1_L21u2, [])) fun (b_s0_1_L21u1, b4_9_L21u1) =>
    lv (b3_3_L3h ++ [(T_array_Tile.mk x25 r4_4.1 (T_anon180.mk b4_2_c34u4 b4_3_c34u3 b4_4_c34u2 b4_5_c34u1) (T_anon181.mk b4_6_L21u4 b4_7_L21u3 b4_8_L21u2 b4_9_L21u1))]) fun z30_4 =>
    ck (apOk 136 z30_4.length) <|
    ar (y21_L3h + 1) fun x114 =>
    some (Sum.inl (x114, b_s0_1_L21u1, z30_4))
  else
    some (Sum.inr (b_s0_1_L3h, b3_3_L3h))
def P_maskmake_Stream_Config_L33 (s0 : T_maskmake_Stream) (r1_1 : (Int × Int)) (r1_3 : (Int × Int)) (r1_5 : (Int × Int)) : (Int × Int × List T_array_Pad × List T_array_Pad) → Option ((Int × Int × List T_array_Pad × List T_array_Pad) ⊕ (Int × List T_array_Pad × List T_array_Pad)) := fun (y117_L33h, b_s0_1_L33h, b3_4_L33h, b3_5_L33h) =>
  if y117_L33h < r1_5.1 then
    bd (P_maskmake_Stream_Next (T_maskmake_Stream.mk s0.L b_s0_1_L33h) r1_1.1) fun r35_5 =>
    lv (b3_4_L33h ++ [(T_array_Pad.mk r35_5.1 0 3 y117_L33h)]) fun z35_9 =>
    ck (apOk 32 z35_9.length) <|
    bd (P_maskmake_Stream_Next (T_maskmake_Stream.mk s0.L r35_5.2) r1_1.1) fun r36_5 =>
    ar (r1_3.1 - 1) fun x139 =>
    lv (b3_5_L33h ++ [(T_array_Pad.mk r36_5.1 x139 1 y117_L33h)]) fun z36_12 =>
    ck (apOk 32 z36_12.length) <|
    ar (y117_L33h + 1) fun x145 =>
    some (Sum.inl (x145, r36_5.2, z35_9, z36_12))
  else
    some (Sum.inr (b_s0_1_L33h, b3_4_L33h, b3_5_L33h))
def P_maskmake_Stream_Config (s0 : T_maskmake_Stream) : Option (T_array_Config × Int) :=
  bd (P_maskmake_Stream_Range s0 1 3) fun r1_1 =>
  bd (P_maskmake_Stream_Range (T_maskmake_Stream.mk s0.L r1_1.2) 1 3) fun r1_3 =>
  bd (P_maskmake_Stream_Range (T_maskmake_Stream.mk s0.L r1_3.2) 2 3) fun r1_5 =>
  ar (r1_1.1 * r1_3.1) fun x20 =>
  bd (
    lp (P_maskmake_Stream_Config_L3 s0 r1_5 x20) fuel (0, r1_5.2, [])) fun (b_s0_1_L3, b3_3_L3) =>
  bd (
    lp (P_maskmake_Stream_Config_L33 s0 r1_1 r1_3 r1_5) fuel (0, b_s0_1_L3, [], [])) fun (b_s0_1_L33, b3_4_L33, b3_5_L33) =>
  bd (P_maskmake_Stream_Flip (T_maskmake_Stream.mk s0.L b_s0_1_L33) 2) fun r38_1 =>
  bd (
    if r38_1.1 = true then
      bd (P_maskmake_Stream_Next (T_maskmake_Stream.mk s0.L r38_1.2) r1_3.1) fun r39_5 =>
      bd (P_maskmake_Stream_Next (T_maskmake_Stream.mk s0.L r39_5.2) r1_5.1) fun r39_9 =>
      lv (b3_4_L33 ++ [(T_array_Pad.mk 0 r39_5.1 0 r39_9.1)]) fun z39_12 =>
      ck (apOk 32 z39_12.length) <|
      some (z39_12, r39_9.2)
    else
      some (b3_4_L33, r38_1.2)) fun (b3_4_c147, b_s0_1_c147) =>
  some ((T_array_Config.mk r1_1.1 r1_3.1 r1_5.1 b3_3_L3 b3_4_c147 b3_5_L33), b_s0_1_c147)
set_option maxHeartbeats 4000000 in
set_option maxRecDepth 100000 in
theorem c_maskmake_Stream_Config {w0 w : World} {l : List Assn} {ρ : Heap} {b_s0 : Nat} {A_s0_0 : Option Addr} {n_s0_0 : Nat} {c_s0_0 : Nat} {s0 : T_maskmake_Stream} {r : (T_array_Config × Int)} (hF : P_maskmake_Stream_Config s0 = some r) (h_s0_0 : RdS (RpI .i64) ρ A_s0_0 n_s0_0 c_s0_0 s0.L) (hS : St w0 w (cells b_s0 25 [.slice A_s0_0 n_s0_0 c_s0_0, .int .i64 s0.fat] :: ro ρ :: l)) :
    Calls Try.prog 36 #[.pointer (some ⟨b_s0, 0, none⟩)] w fun e w' => ∃ (ρ' : Heap) (A_y0_ret_3 : Option Addr) (n_y0_ret_3 : Nat) (c_y0_ret_3 : Nat) (cs_y0_ret_3 : List Value) (A_y0_ret_4 : Option Addr) (n_y0_ret_4 : Nat) (c_y0_ret_4 : Nat) (cs_y0_ret_4 : List Value) (A_y0_ret_5 : Option Addr) (n_y0_ret_5 : Nat) (c_y0_ret_5 : Nat) (cs_y0_ret_5 : List Value), e = .returned (.agg #[.int .i64 r.1.Rows, .int .i64 r.1.Cols, .int .i64 r.1.Tracks, .slice A_y0_ret_3 n_y0_ret_3 c_y0_ret_3, .slice A_y0_ret_4 n_y0_ret_4 c_y0_ret_4, .slice A_y0_ret_5 n_y0_ret_5 c_y0_ret_5]) ∧ Le ρ ρ' ∧ RepL R_array_Tile ρ' r.1.Tiles cs_y0_ret_3 ∧ RepL R_array_Pad ρ' r.1.In cs_y0_ret_4 ∧ RepL R_array_Pad ρ' r.1.Out cs_y0_ret_5 ∧ St w0 w' (vec 183 R_array_Tile.sz (.slice A_y0_ret_3 n_y0_ret_3 c_y0_ret_3) n_y0_ret_3 cs_y0_ret_3 :: vec 187 R_array_Pad.sz (.slice A_y0_ret_4 n_y0_ret_4 c_y0_ret_4) n_y0_ret_4 cs_y0_ret_4 :: vec 187 R_array_Pad.sz (.slice A_y0_ret_5 n_y0_ret_5 c_y0_ret_5) n_y0_ret_5 cs_y0_ret_5 :: cells b_s0 25 [.slice A_s0_0 n_s0_0 c_s0_0, .int .i64 r.2] :: ro ρ' :: l) := by
  have e_ := h_s0_0.n; subst e_
  refine enterC Try.func36 rfl 163 rfl (by simp) ?_
  refine x_seq <| x_region <|
    ?_
  refine o_alloc zero_81 hS (fun b2 w' hS => ?_)
  replace hF := bd_s hF; obtain ⟨r1_1, hc1_1, hF⟩ := hF
  refine x_done <| x_seq <| x_region <| p (yl_move rfl) <|
    ?_
  have hcall := c_maskmake_Stream_Range hc1_1 h_s0_0 ((hS.pull 2).pull 2)
  refine o_cc call_14 (args3 rfl rfl rfl) hcall ?_
  rintro e w' ⟨rfl, hS⟩
  refine ⟨_, rfl, ?_⟩
  replace hF := bd_s hF; obtain ⟨r1_3, hc1_3, hF⟩ := hF
  refine p (yl_move rfl) <|
    ?_
  have hcall := c_maskmake_Stream_Range hc1_3 h_s0_0 ((hS.pull 1).pull 1)
  refine o_cc call_14 (args3 rfl rfl rfl) hcall ?_
  rintro e w' ⟨rfl, hS⟩
  refine ⟨_, rfl, ?_⟩
  replace hF := bd_s hF; obtain ⟨r1_5, hc1_5, hF⟩ := hF
  refine p (yl_move rfl) <|
    ?_
  have hcall := c_maskmake_Stream_Range hc1_5 h_s0_0 ((hS.pull 1).pull 1)
  refine o_cc call_14 (args3 rfl rfl rfl) hcall ?_
  rintro e w' ⟨rfl, hS⟩
  refine ⟨_, rfl, ?_⟩
  refine p (v := .agg #[.int .i64 r1_1.1, .int .i64 r1_3.1, .int .i64 r1_5.1, .slice none 0 0, .slice none 0 0, .slice none 0 0]) (yl_build bld_81 bldf_81 (parts_eq (pt (va := .int .i64 r1_1.1) rfl (pt (va := .int .i64 r1_3.1) rfl (pt (va := .int .i64 r1_5.1) rfl pt0)))) (by kernel_rfl)) <|
    ?_
  refine o_alloc zero_81 hS (fun b3 w' hS => ?_)
  refine o_storeAgg (news := [.int .i64 r1_1.1, .int .i64 r1_3.1, .int .i64 r1_5.1, .slice none 0 0, .slice none 0 0, .slice none 0 0]) agg_81 rfl rfl rfl (by simp [over_length]) hS (fun w' hS => ?_)
  replace hF := ar_s hF; obtain ⟨x20, hx20, hF⟩ := hF
  refine x_done <| x_seq <| x_seq <| x_region <|
    p (yl_field0 fld_81_0 rfl) <| pa (at_load one_3 rfl (hS.cell rfl)) <| p (yl_field0 fld_81_1 rfl) <| pa (at_load one_3 rfl (hS.cell rfl)) <|
    p (ymul rfl rfl hx20) <| p (yl_move rfl) <| x_done <|
    ?_
  replace hF := bd_s hF; obtain ⟨oL3, hLL3, hF⟩ := hF
  refine x_join (fun E w => ∃ (ρ_L3 : Heap) (A_b3_3_L3 : Option Addr) (n_b3_3_L3 : Nat) (c_b3_3_L3 : Nat) (cs_b3_3_L3 : List Value) (b_s0_1_L3 : Int) (b3_3_L3 : List T_array_Tile), (b_s0_1_L3, b3_3_L3) = oL3 ∧ Le ρ ρ_L3 ∧ E 0 = .pointer (some ⟨b_s0, 0, none⟩) ∧ E 2 = .pointer (some ⟨b2, 0, none⟩) ∧ E 3 = .pointer (some ⟨b3, 0, none⟩) ∧ RepL R_array_Tile ρ_L3 b3_3_L3 cs_b3_3_L3 ∧ St w0 w (cells b_s0 25 [.slice A_s0_0 s0.L.length c_s0_0, .int .i64 b_s0_1_L3] :: cells b2 81 [.int .i64 0, .int .i64 0, .int .i64 0, .slice none 0 0, .slice none 0 0, .slice none 0 0] :: cells b3 81 [.int .i64 r1_1.1, .int .i64 r1_3.1, .int .i64 r1_5.1, .slice A_b3_3_L3 n_b3_3_L3 c_b3_3_L3, .slice none 0 0, .slice none 0 0] :: vec 183 R_array_Tile.sz (.slice A_b3_3_L3 n_b3_3_L3 c_b3_3_L3) n_b3_3_L3 cs_b3_3_L3 :: ro ρ_L3 :: l)) ?_ ?_
  · skip -- L3
    refine x_block ?_
    replace hS := St.vec_nil hS 183 R_array_Tile.sz
    have hnil_A_b3_3_L3h : RepL R_array_Tile ρ [] [] := rfl
    refine x_loop (fun k_ E w => ∃ (ρ_L3h : Heap) (A_b3_3_L3h : Option Addr) (n_b3_3_L3h : Nat) (c_b3_3_L3h : Nat) (cs_b3_3_L3h : List Value) (y21_L3h : Int) (b_s0_1_L3h : Int) (b3_3_L3h : List T_array_Tile), lp (P_maskmake_Stream_Config_L3 s0 r1_5 x20) k_ (y21_L3h, b_s0_1_L3h, b3_3_L3h) = some oL3 ∧ Le ρ ρ_L3h ∧ E 0 = .pointer (some ⟨b_s0, 0, none⟩) ∧ E 2 = .pointer (some ⟨b2, 0, none⟩) ∧ E 3 = .pointer (some ⟨b3, 0, none⟩) ∧ E 20 = .int .i64 x20 ∧ E 21 = .int .i64 y21_L3h ∧ RepL R_array_Tile ρ_L3h b3_3_L3h cs_b3_3_L3h ∧ St w0 w (cells b_s0 25 [.slice A_s0_0 s0.L.length c_s0_0, .int .i64 b_s0_1_L3h] :: cells b2 81 [.int .i64 0, .int .i64 0, .int .i64 0, .slice none 0 0, .slice none 0 0, .slice none 0 0] :: cells b3 81 [.int .i64 r1_1.1, .int .i64 r1_3.1, .int .i64 r1_5.1, .slice A_b3_3_L3h n_b3_3_L3h c_b3_3_L3h, .slice none 0 0, .slice none 0 0] :: vec 183 R_array_Tile.sz (.slice A_b3_3_L3h n_b3_3_L3h c_b3_3_L3h) n_b3_3_L3h cs_b3_3_L3h :: ro ρ_L3h :: l)) fuel ⟨ρ, none, 0, 0, [], 0, r1_5.2, [], hLL3, (Le.refl _), rfl, rfl, rfl, rfl, rfl, hnil_A_b3_3_L3h, (((((hS.pull 3).pull 1).pull 2).pull 4).pull 4)⟩ ?_
    rintro kL3 E w ⟨ρ_L3h, A_b3_3_L3h, n_b3_3_L3h, c_b3_3_L3h, cs_b3_3_L3h, y21_L3h, b_s0_1_L3h, b3_3_L3h, hLL3, hleρ_L3h, eL3h_0, eL3h_2, eL3h_3, eL3h_20, eL3h_21, h_b3_3_L3h, hS⟩
    have e_ := St.vec_n (hS.pull 3) h_b3_3_L3h; subst e_
    replace hLL3 := lp_s hLL3; obtain ⟨kL3, obL3, rfl, hFL3, hLL3⟩ := hLL3
    refine x_seq <| x_region <| p (yl_lss eL3h_21 eL3h_20) <| x_done <|
      x_seq <|
      x_cond_p (y21_L3h < x20) rfl (fun hc22 => ?_) (fun hc22 => ?_)
    · replace hFL3 := it_t hc22 hFL3
      replace hFL3 := bd_s hFL3; obtain ⟨r4_1, hc4_1, hFL3⟩ := hFL3
      refine x_skip <| x_seq <| x_block <| x_seq <|
        x_region <| p (yl_move eL3h_0) <|
        ?_
      have hcall := c_maskmake_Stream_Next hc4_1 (h_s0_0.le hleρ_L3h) ((hS.pull 4).pull 1)
      refine o_cc call_15 (args2 rfl rfl) hcall ?_
      rintro e w' ⟨rfl, hS⟩
      refine ⟨_, rfl, ?_⟩
      replace hFL3 := lv_s hFL3; obtain ⟨x25, hx25, hFL3⟩ := hFL3
      replace hFL3 := bd_s hFL3; obtain ⟨r4_4, hc4_4, hFL3⟩ := hFL3
      refine p (yconvu wm_u16 uk_3 ik_179 rfl hx25) <| p (yl_move eL3h_0) <|
        ?_
      have hcall := c_maskmake_Stream_Flip hc4_4 (h_s0_0.le hleρ_L3h) ((hS.pull 1).pull 1)
      refine o_cc call_75 (args2 rfl rfl) hcall ?_
      rintro e w' ⟨rfl, hS⟩
      refine ⟨_, rfl, ?_⟩
      refine p (v := .agg #[.int .u16 x25, .bool r4_4.1, .int .i64 0, .int .i64 0, .int .i64 0, .int .i64 0, .slice none 0 0, .slice none 0 0, .slice none 0 0, .slice none 0 0]) (yl_build bld_183 bldf_183 (parts_eq (pt (va := .int .u16 x25) rfl (pt (va := .bool r4_4.1) rfl pt0))) (by kernel_rfl)) <|
        ?_
      refine o_alloc zero_183 hS (fun b4 w' hS => ?_)
      refine o_storeAgg (news := [.int .u16 x25, .bool r4_4.1, .int .i64 0, .int .i64 0, .int .i64 0, .int .i64 0, .slice none 0 0, .slice none 0 0, .slice none 0 0, .slice none 0 0]) agg_183 rfl rfl rfl (by simp [over_length]) hS (fun w' hS => ?_)
      replace hFL3 := bd_s hFL3; obtain ⟨r8_1u4, hc8_1u4, hFL3⟩ := hFL3
      refine x_done <| x_seq <| x_seq <| x_region <|
        p (yl_move rfl) <| x_done <| x_block <| x_unroll 4 <|
        x_seq <| x_region <| p (ylss_l (t := true) rfl rfl (by decide)) <| x_done <|
        x_seq <| x_cond_t (show ev _ _ = .bool true from rfl) <| x_skip <| x_seq <|
        x_block <| x_seq <| x_region <| p (yl_move rfl) <|
        p (yl_assign rfl) <| x_done <| x_seq <| x_region <|
        p (yl_move eL3h_0) <|
        ?_
      have hcall := c_maskmake_Stream_Next hc8_1u4 (h_s0_0.le hleρ_L3h) ((hS.pull 2).pull 2)
      refine o_cc call_15 (args2 rfl rfl) hcall ?_
      rintro e w' ⟨rfl, hS⟩
      refine ⟨_, rfl, ?_⟩
      refine x_done <| x_block <| x_seq <| x_region <|
        p (yl_eql rfl rfl) <| p (yl_assign rfl) <| x_done <|
        ?_
      replace hFL3 := bd_s hFL3; obtain ⟨oc34u4, hFc34u4, hFL3⟩ := hFL3
      refine x_join (fun E w => ∃ (b_s0_1_c34u4 : Int) (b4_2_c34u4 : Int), (b_s0_1_c34u4, b4_2_c34u4) = oc34u4 ∧ E 0 = .pointer (some ⟨b_s0, 0, none⟩) ∧ E 2 = .pointer (some ⟨b2, 0, none⟩) ∧ E 3 = .pointer (some ⟨b3, 0, none⟩) ∧ E 4 = .pointer (some ⟨b4, 0, none⟩) ∧ E 20 = .int .i64 x20 ∧ E 21 = .int .i64 y21_L3h ∧ E 29 = .int .i64 0 ∧ St w0 w (cells b_s0 25 [.slice A_s0_0 s0.L.length c_s0_0, .int .i64 b_s0_1_c34u4] :: cells b2 81 [.int .i64 0, .int .i64 0, .int .i64 0, .slice none 0 0, .slice none 0 0, .slice none 0 0] :: cells b3 81 [.int .i64 r1_1.1, .int .i64 r1_3.1, .int .i64 r1_5.1, .slice A_b3_3_L3h b3_3_L3h.length c_b3_3_L3h, .slice none 0 0, .slice none 0 0] :: cells b4 183 [.int .u16 x25, .bool r4_4.1, .int .i64 b4_2_c34u4, .int .i64 0, .int .i64 0, .int .i64 0, .slice none 0 0, .slice none 0 0, .slice none 0 0, .slice none 0 0] :: vec 183 R_array_Tile.sz (.slice A_b3_3_L3h b3_3_L3h.length c_b3_3_L3h) b3_3_L3h.length cs_b3_3_L3h :: ro ρ_L3h :: l)) ?_ ?_
      · skip -- c34u4
        refine x_cond_p (r8_1u4.1 = 0) rfl (fun hc34u4 => ?_) (fun hc34u4 => ?_)
        · replace hFc34u4 := it_t hc34u4 hFc34u4
          replace hFc34u4 := ar_s hFc34u4; obtain ⟨x39u4, hx39u4, hFc34u4⟩ := hFc34u4
          replace hFc34u4 := ar_s hFc34u4; obtain ⟨x40u4, hx40u4, hFc34u4⟩ := hFc34u4
          refine x_region <| p (yl_move rfl) <| p (yl_field0 fld_81_2 eL3h_3) <| pa (at_load one_3 rfl ((hS.pull 4).cell rfl)) <|
            p (ymul rfl rfl hx39u4) <| p (yadd rfl rfl hx40u4) <| p (yl_field0 fld_183_2 rfl) <| p (yl_ixa (x := .tmp 41) (y := .tmp 36) (q := 2) arr_180 rfl rfl (by decide) rfl) <|
            ?_
          refine o_store1 (v := .int .i64 x40u4) one_3 rfl rfl rfl rfl (hS.pull 2) (fun w' hS => ?_)
          refine x_done <|
            ?_
          exact x_inv ⟨r8_1u4.2, x40u4, (Option.some.inj (show some _ = some _ from hFc34u4)), eL3h_0, eL3h_2, eL3h_3, rfl, eL3h_20, eL3h_21, rfl, ((((((hS.pull 2).pull 5).pull 2).pull 5).pull 5).pull 5)⟩
        · replace hFc34u4 := it_f hc34u4 hFc34u4
          refine x_seq <| x_seq <| x_region <| p (yl_eql rfl rfl) <|
            p (yl_assign rfl) <| x_done <|
            ?_
          replace hFc34u4 := bd_s hFc34u4; obtain ⟨oc43u4, hFc43u4, hFc34u4⟩ := hFc34u4
          refine x_join (fun E w => ∃ (y43_c43u4 : Bool), y43_c43u4 = oc43u4 ∧ E 0 = .pointer (some ⟨b_s0, 0, none⟩) ∧ E 2 = .pointer (some ⟨b2, 0, none⟩) ∧ E 3 = .pointer (some ⟨b3, 0, none⟩) ∧ E 4 = .pointer (some ⟨b4, 0, none⟩) ∧ E 5 = .int .i64 0 ∧ E 20 = .int .i64 x20 ∧ E 21 = .int .i64 y21_L3h ∧ E 29 = .int .i64 0 ∧ E 33 = .int .i64 r8_1u4.1 ∧ E 43 = .bool y43_c43u4 ∧ St w0 w (cells b_s0 25 [.slice A_s0_0 s0.L.length c_s0_0, .int .i64 r8_1u4.2] :: cells b2 81 [.int .i64 0, .int .i64 0, .int .i64 0, .slice none 0 0, .slice none 0 0, .slice none 0 0] :: cells b3 81 [.int .i64 r1_1.1, .int .i64 r1_3.1, .int .i64 r1_5.1, .slice A_b3_3_L3h b3_3_L3h.length c_b3_3_L3h, .slice none 0 0, .slice none 0 0] :: cells b4 183 [.int .u16 x25, .bool r4_4.1, .int .i64 0, .int .i64 0, .int .i64 0, .int .i64 0, .slice none 0 0, .slice none 0 0, .slice none 0 0, .slice none 0 0] :: vec 183 R_array_Tile.sz (.slice A_b3_3_L3h b3_3_L3h.length c_b3_3_L3h) b3_3_L3h.length cs_b3_3_L3h :: ro ρ_L3h :: l)) ?_ ?_
          · skip -- c43u4
            refine x_cond_p (r8_1u4.1 = 1) rfl (fun hc43u4 => ?_) (fun hc43u4 => ?_)
            · replace hFc43u4 := it_t hc43u4 hFc43u4
              refine x_skip <|
                ?_
              exact x_inv ⟨decide (r8_1u4.1 = 1), (Option.some.inj (show some _ = some _ from hFc43u4)), eL3h_0, eL3h_2, eL3h_3, rfl, rfl, eL3h_20, eL3h_21, rfl, rfl, rfl, ((((((hS.pull 1).pull 5).pull 3).pull 5).pull 5).pull 5)⟩
            · replace hFc43u4 := it_f hc43u4 hFc43u4
              refine x_region <| p (yl_eql rfl rfl) <| p (yl_assign rfl) <| x_done <|
                ?_
              exact x_inv ⟨decide (r8_1u4.1 = 2), (Option.some.inj (show some _ = some _ from hFc43u4)), eL3h_0, eL3h_2, eL3h_3, rfl, rfl, eL3h_20, eL3h_21, rfl, rfl, rfl, ((((((hS.pull 1).pull 5).pull 3).pull 5).pull 5).pull 5)⟩
          rintro E w ⟨y43_c43u4, rfl, ec43u4_0, ec43u4_2, ec43u4_3, ec43u4_4, ec43u4_5, ec43u4_20, ec43u4_21, ec43u4_29, ec43u4_33, ec43u4_43, hS⟩
          replace hFc34u4 := bd_s hFc34u4; obtain ⟨oc43_2u4, hFc43_2u4, hFc34u4⟩ := hFc34u4
          refine x_join (fun E w => ∃ (b_s0_1_c43_2u4 : Int) (b4_2_c43_2u4 : Int), (b_s0_1_c43_2u4, b4_2_c43_2u4) = oc43_2u4 ∧ E 0 = .pointer (some ⟨b_s0, 0, none⟩) ∧ E 2 = .pointer (some ⟨b2, 0, none⟩) ∧ E 3 = .pointer (some ⟨b3, 0, none⟩) ∧ E 4 = .pointer (some ⟨b4, 0, none⟩) ∧ E 20 = .int .i64 x20 ∧ E 21 = .int .i64 y21_L3h ∧ E 29 = .int .i64 0 ∧ St w0 w (cells b_s0 25 [.slice A_s0_0 s0.L.length c_s0_0, .int .i64 b_s0_1_c43_2u4] :: cells b2 81 [.int .i64 0, .int .i64 0, .int .i64 0, .slice none 0 0, .slice none 0 0, .slice none 0 0] :: cells b3 81 [.int .i64 r1_1.1, .int .i64 r1_3.1, .int .i64 r1_5.1, .slice A_b3_3_L3h b3_3_L3h.length c_b3_3_L3h, .slice none 0 0, .slice none 0 0] :: cells b4 183 [.int .u16 x25, .bool r4_4.1, .int .i64 b4_2_c43_2u4, .int .i64 0, .int .i64 0, .int .i64 0, .slice none 0 0, .slice none 0 0, .slice none 0 0, .slice none 0 0] :: vec 183 R_array_Tile.sz (.slice A_b3_3_L3h b3_3_L3h.length c_b3_3_L3h) b3_3_L3h.length cs_b3_3_L3h :: ro ρ_L3h :: l)) ?_ ?_
          · skip -- c43_2u4
            refine x_cond (t := y43_c43u4) ec43u4_43 (fun hc43u4 => ?_) (fun hc43u4 => ?_)
            · replace hFc43_2u4 := it_t hc43u4 hFc43_2u4
              replace hFc43_2u4 := ar_s hFc43_2u4; obtain ⟨x49u4, hx49u4, hFc43_2u4⟩ := hFc43_2u4
              replace hFc43_2u4 := ar_s hFc43_2u4; obtain ⟨x50u4, hx50u4, hFc43_2u4⟩ := hFc43_2u4
              replace hFc43_2u4 := bd_s hFc43_2u4; obtain ⟨r13u4_8, hc13u4_8, hFc43_2u4⟩ := hFc43_2u4
              replace hFc43_2u4 := ar_s hFc43_2u4; obtain ⟨x55u4, hx55u4, hFc43_2u4⟩ := hFc43_2u4
              refine x_par (w0 := w0) [⟨[], [], [46], [], [], []⟩, ⟨[], [], [47], [], [], []⟩, ⟨[1], [1], [48], [0], [], []⟩, ⟨[1, 2], [2], [49], [], [], []⟩, ⟨[1, 2, 3], [3], [50], [], [], []⟩, ⟨[], [], [51], [], [], []⟩, ⟨[], [], [52], [], [], []⟩, ⟨[6], [6], [53], [0], [], []⟩, ⟨[5, 6, 7], [5, 7], [54], [2], [1], [3]⟩, ⟨[1, 2, 3, 4, 5, 6, 7, 8], [4, 8], [55], [], [], []⟩, ⟨[], [], [56], [], [], []⟩, ⟨[0, 1, 2, 3, 4, 5, 6, 7, 8, 9, 10], [0, 10], [57], [], [], []⟩, ⟨[0, 1, 2, 3, 4, 5, 6, 7, 8, 9, 10, 11], [9, 11], [], [], [4], [5]⟩] [⟨none, none, []⟩, ⟨none, (some 8), []⟩, ⟨none, none, []⟩, ⟨(some 8), none, []⟩, ⟨none, (some 12), []⟩, ⟨(some 12), none, []⟩] [46, 47, 48, 49, 50, 51, 52, 53, 54, 55, 56, 57] [0, 1, 2, 4] [0, 2, 3, 5] [0, 1, 2, 3, 4, 5, 6, 7, 8, 9, 10, 11] [fun Ep13u4 => Ep13u4 46 = .int .i64 0, fun Ep13u4 => Ep13u4 47 = .pointer (some ⟨b3, 2, none⟩), fun Ep13u4 => Ep13u4 48 = .int .i64 r1_5.1, fun Ep13u4 => Ep13u4 49 = .int .i64 x49u4, fun Ep13u4 => Ep13u4 50 = .int .i64 x50u4, fun Ep13u4 => Ep13u4 51 = .pointer (some ⟨b_s0, 0, none⟩), fun Ep13u4 => Ep13u4 52 = .pointer (some ⟨b3, 2, none⟩), fun Ep13u4 => Ep13u4 53 = .int .i64 r1_5.1, fun Ep13u4 => Ep13u4 54 = .int .i64 r13u4_8.1, fun Ep13u4 => Ep13u4 55 = .int .i64 x55u4, fun Ep13u4 => Ep13u4 56 = .pointer (some ⟨b4, 2, none⟩), fun Ep13u4 => Ep13u4 57 = .pointer (some ⟨b4, 2, none⟩), fun Ep13u4 => True] [fun Ep13u4 => cells b3 81 [.int .i64 r1_1.1, .int .i64 r1_3.1, .int .i64 r1_5.1, .slice A_b3_3_L3h b3_3_L3h.length c_b3_3_L3h, .slice none 0 0, .slice none 0 0], fun Ep13u4 => cells b_s0 25 [.slice A_s0_0 s0.L.length c_s0_0, .int .i64 r8_1u4.2], fun Ep13u4 => ro ρ_L3h, fun Ep13u4 => cells b_s0 25 [.slice A_s0_0 s0.L.length c_s0_0, .int .i64 r13u4_8.2], fun Ep13u4 => cells b4 183 [.int .u16 x25, .bool r4_4.1, .int .i64 0, .int .i64 0, .int .i64 0, .int .i64 0, .slice none 0 0, .slice none 0 0, .slice none 0 0, .slice none 0 0], fun Ep13u4 => cells b4 183 [.int .u16 x25, .bool r4_4.1, .int .i64 x55u4, .int .i64 0, .int .i64 0, .int .i64 0, .slice none 0 0, .slice none 0 0, .slice none 0 0, .slice none 0 0]] mixed (by kernel_rfl) ((((hS.pull 3).pull 5).pull 2).pull 4) ?_ ?_
              · refine ⟨?_, ?_, ?_, ?_, ?_, ?_, ?_, ?_, ?_, ?_, ?_, ?_, ?_, trivial⟩
                · intro Ep13u4 w l' hE13u4 hO13u4 hF_ hS
                  refine p (yl_move ((hE13u4 5 rfl).trans ec43u4_5)) <| x_done <|
                    ?_
                  refine x_fin ⟨⟨_, rfl⟩, rfl, ?_⟩
                  exact Eq.mp (by kernel_rfl) hS
                · intro Ep13u4 w l' hE13u4 hO13u4 hF_ hS
                  refine p (yl_field0 fld_81_2 ((hE13u4 3 rfl).trans ec43u4_3)) <| x_done <|
                    ?_
                  refine x_fin ⟨⟨_, rfl⟩, rfl, ?_⟩
                  exact Eq.mp (by kernel_rfl) hS
                · intro Ep13u4 w l' hE13u4 hO13u4 hF_ hS
                  obtain ⟨f13u4_1, -⟩ := hF_
                  replace f13u4_1 : Ep13u4 47 = .pointer (some ⟨b3, 2, none⟩) := Eq.mp (by kernel_rfl) f13u4_1
                  replace hS : St w0 w (cells b3 81 [.int .i64 r1_1.1, .int .i64 r1_3.1, .int .i64 r1_5.1, .slice A_b3_3_L3h b3_3_L3h.length c_b3_3_L3h, .slice none 0 0, .slice none 0 0] :: l') := Eq.mp (by kernel_rfl) hS
                  refine pa (at_load one_3 f13u4_1 (hS.cell rfl)) <| x_done <|
                    ?_
                  refine x_fin ⟨⟨_, rfl⟩, rfl, ?_⟩
                  exact Eq.mp (by kernel_rfl) hS
                · intro Ep13u4 w l' hE13u4 hO13u4 hF_ hS
                  obtain ⟨f13u4_2, -⟩ := hF_
                  replace f13u4_2 : Ep13u4 48 = .int .i64 r1_5.1 := Eq.mp (by kernel_rfl) f13u4_2
                  refine p (ymul rfl f13u4_2 hx49u4) <| x_done <|
                    ?_
                  refine x_fin ⟨⟨_, rfl⟩, rfl, ?_⟩
                  exact Eq.mp (by kernel_rfl) hS
                · intro Ep13u4 w l' hE13u4 hO13u4 hF_ hS
                  obtain ⟨f13u4_3, -⟩ := hF_
                  replace f13u4_3 : Ep13u4 49 = .int .i64 x49u4 := Eq.mp (by kernel_rfl) f13u4_3
                  refine p (yadd rfl f13u4_3 hx50u4) <| x_done <|
                    ?_
                  refine x_fin ⟨⟨_, rfl⟩, rfl, ?_⟩
                  exact Eq.mp (by kernel_rfl) hS
                · intro Ep13u4 w l' hE13u4 hO13u4 hF_ hS
                  refine p (yl_move ((hE13u4 0 rfl).trans ec43u4_0)) <| x_done <|
                    ?_
                  refine x_fin ⟨⟨_, rfl⟩, rfl, ?_⟩
                  exact Eq.mp (by kernel_rfl) hS
                · intro Ep13u4 w l' hE13u4 hO13u4 hF_ hS
                  refine p (yl_field0 fld_81_2 ((hE13u4 3 rfl).trans ec43u4_3)) <| x_done <|
                    ?_
                  refine x_fin ⟨⟨_, rfl⟩, rfl, ?_⟩
                  exact Eq.mp (by kernel_rfl) hS
                · intro Ep13u4 w l' hE13u4 hO13u4 hF_ hS
                  obtain ⟨f13u4_6, -⟩ := hF_
                  replace f13u4_6 : Ep13u4 52 = .pointer (some ⟨b3, 2, none⟩) := Eq.mp (by kernel_rfl) f13u4_6
                  replace hS : St w0 w (cells b3 81 [.int .i64 r1_1.1, .int .i64 r1_3.1, .int .i64 r1_5.1, .slice A_b3_3_L3h b3_3_L3h.length c_b3_3_L3h, .slice none 0 0, .slice none 0 0] :: l') := Eq.mp (by kernel_rfl) hS
                  refine pa (at_load one_3 f13u4_6 (hS.cell rfl)) <| x_done <|
                    ?_
                  refine x_fin ⟨⟨_, rfl⟩, rfl, ?_⟩
                  exact Eq.mp (by kernel_rfl) hS
                · intro Ep13u4 w l' hE13u4 hO13u4 hF_ hS
                  obtain ⟨f13u4_5, f13u4_7, -⟩ := hF_
                  replace f13u4_5 : Ep13u4 51 = .pointer (some ⟨b_s0, 0, none⟩) := Eq.mp (by kernel_rfl) f13u4_5
                  replace f13u4_7 : Ep13u4 53 = .int .i64 r1_5.1 := Eq.mp (by kernel_rfl) f13u4_7
                  replace hS : St w0 w (ro ρ_L3h :: cells b_s0 25 [.slice A_s0_0 s0.L.length c_s0_0, .int .i64 r8_1u4.2] :: l') := Eq.mp (by kernel_rfl) hS
                  have hcall := c_maskmake_Stream_Next hc13u4_8 (h_s0_0.le hleρ_L3h) (hS.pull 1)
                  refine o_cc call_15 (args2 f13u4_5 f13u4_7) hcall ?_
                  rintro e w' ⟨rfl, hS⟩
                  refine ⟨_, rfl, ?_⟩
                  refine x_done <|
                    ?_
                  refine x_fin ⟨⟨_, rfl⟩, rfl, ?_⟩
                  exact Eq.mp (by kernel_rfl) (hS.pull 1)
                · intro Ep13u4 w l' hE13u4 hO13u4 hF_ hS
                  obtain ⟨f13u4_4, f13u4_8, -⟩ := hF_
                  replace f13u4_4 : Ep13u4 50 = .int .i64 x50u4 := Eq.mp (by kernel_rfl) f13u4_4
                  replace f13u4_8 : Ep13u4 54 = .int .i64 r13u4_8.1 := Eq.mp (by kernel_rfl) f13u4_8
                  refine p (yadd f13u4_4 f13u4_8 hx55u4) <| x_done <|
                    ?_
                  refine x_fin ⟨⟨_, rfl⟩, rfl, ?_⟩
                  exact Eq.mp (by kernel_rfl) hS
                · intro Ep13u4 w l' hE13u4 hO13u4 hF_ hS
                  refine p (yl_field0 fld_183_2 ((hE13u4 4 rfl).trans ec43u4_4)) <| x_done <|
                    ?_
                  refine x_fin ⟨⟨_, rfl⟩, rfl, ?_⟩
                  exact Eq.mp (by kernel_rfl) hS
                · intro Ep13u4 w l' hE13u4 hO13u4 hF_ hS
                  obtain ⟨f13u4_0, f13u4_10, -⟩ := hF_
                  replace f13u4_0 : Ep13u4 46 = .int .i64 0 := Eq.mp (by kernel_rfl) f13u4_0
                  replace f13u4_10 : Ep13u4 56 = .pointer (some ⟨b4, 2, none⟩) := Eq.mp (by kernel_rfl) f13u4_10
                  refine p (yl_ixa (x := .tmp 56) (y := .tmp 46) (q := 2) arr_180 f13u4_10 f13u4_0 (by decide) rfl) <| x_done <|
                    ?_
                  refine x_fin ⟨⟨_, rfl⟩, rfl, ?_⟩
                  exact Eq.mp (by kernel_rfl) hS
                · intro Ep13u4 w l' hE13u4 hO13u4 hF_ hS
                  obtain ⟨f13u4_9, f13u4_11, -⟩ := hF_
                  replace f13u4_9 : Ep13u4 55 = .int .i64 x55u4 := Eq.mp (by kernel_rfl) f13u4_9
                  replace f13u4_11 : Ep13u4 57 = .pointer (some ⟨b4, 2, none⟩) := Eq.mp (by kernel_rfl) f13u4_11
                  replace hS : St w0 w (cells b4 183 [.int .u16 x25, .bool r4_4.1, .int .i64 0, .int .i64 0, .int .i64 0, .int .i64 0, .slice none 0 0, .slice none 0 0, .slice none 0 0, .slice none 0 0] :: l') := Eq.mp (by kernel_rfl) hS
                  refine o_store1 (v := .int .i64 x55u4) one_3 f13u4_11 f13u4_9 rfl rfl hS (fun w' hS => ?_)
                  refine x_done <|
                    ?_
                  refine x_fin ⟨⟨undef, rfl⟩, trivial, ?_⟩
                  exact Eq.mp (by kernel_rfl) hS
              intro Ep13u4 w' hE13u4 hF_ hS
              obtain ⟨f13u4_0, f13u4_1, f13u4_2, f13u4_3, f13u4_4, f13u4_5, f13u4_6, f13u4_7, f13u4_8, f13u4_9, f13u4_10, f13u4_11, -⟩ := hF_
              replace f13u4_0 : Ep13u4 46 = .int .i64 0 := Eq.mp (by kernel_rfl) f13u4_0
              replace f13u4_1 : Ep13u4 47 = .pointer (some ⟨b3, 2, none⟩) := Eq.mp (by kernel_rfl) f13u4_1
              replace f13u4_2 : Ep13u4 48 = .int .i64 r1_5.1 := Eq.mp (by kernel_rfl) f13u4_2
              replace f13u4_3 : Ep13u4 49 = .int .i64 x49u4 := Eq.mp (by kernel_rfl) f13u4_3
              replace f13u4_4 : Ep13u4 50 = .int .i64 x50u4 := Eq.mp (by kernel_rfl) f13u4_4
              replace f13u4_5 : Ep13u4 51 = .pointer (some ⟨b_s0, 0, none⟩) := Eq.mp (by kernel_rfl) f13u4_5
              replace f13u4_6 : Ep13u4 52 = .pointer (some ⟨b3, 2, none⟩) := Eq.mp (by kernel_rfl) f13u4_6
              replace f13u4_7 : Ep13u4 53 = .int .i64 r1_5.1 := Eq.mp (by kernel_rfl) f13u4_7
              replace f13u4_8 : Ep13u4 54 = .int .i64 r13u4_8.1 := Eq.mp (by kernel_rfl) f13u4_8
              replace f13u4_9 : Ep13u4 55 = .int .i64 x55u4 := Eq.mp (by kernel_rfl) f13u4_9
              replace f13u4_10 : Ep13u4 56 = .pointer (some ⟨b4, 2, none⟩) := Eq.mp (by kernel_rfl) f13u4_10
              replace f13u4_11 : Ep13u4 57 = .pointer (some ⟨b4, 2, none⟩) := Eq.mp (by kernel_rfl) f13u4_11
              replace hS : St w0 w' (cells b3 81 [.int .i64 r1_1.1, .int .i64 r1_3.1, .int .i64 r1_5.1, .slice A_b3_3_L3h b3_3_L3h.length c_b3_3_L3h, .slice none 0 0, .slice none 0 0] :: ro ρ_L3h :: cells b_s0 25 [.slice A_s0_0 s0.L.length c_s0_0, .int .i64 r13u4_8.2] :: cells b4 183 [.int .u16 x25, .bool r4_4.1, .int .i64 x55u4, .int .i64 0, .int .i64 0, .int .i64 0, .slice none 0 0, .slice none 0 0, .slice none 0 0, .slice none 0 0] :: (cells b2 81 [.int .i64 0, .int .i64 0, .int .i64 0, .slice none 0 0, .slice none 0 0, .slice none 0 0] :: vec 183 R_array_Tile.sz (.slice A_b3_3_L3h b3_3_L3h.length c_b3_3_L3h) b3_3_L3h.length cs_b3_3_L3h :: l)) := Eq.mp (by kernel_rfl) hS
              exact x_inv ⟨r13u4_8.2, x55u4, (Option.some.inj (show some _ = some _ from hFc43_2u4)), ((hE13u4 0 rfl).trans ec43u4_0), ((hE13u4 2 rfl).trans ec43u4_2), ((hE13u4 3 rfl).trans ec43u4_3), ((hE13u4 4 rfl).trans ec43u4_4), ((hE13u4 20 rfl).trans ec43u4_20), ((hE13u4 21 rfl).trans ec43u4_21), ((hE13u4 29 rfl).trans ec43u4_29), ((((((hS.pull 1).pull 5).pull 4).pull 3).pull 5).pull 5)⟩
            · replace hFc43_2u4 := it_bf hc43u4 hFc43_2u4
              refine x_seq <| x_region <| p (yl_eql ec43u4_33 rfl) <| p (yl_assign rfl) <|
                x_done <|
                ?_
              replace hFc43_2u4 := bd_s hFc43_2u4; obtain ⟨oc58u4, hFc58u4, hFc43_2u4⟩ := hFc43_2u4
              refine x_join (fun E w => ∃ (b_s0_1_c58u4 : Int) (b4_2_c58u4 : Int), (b_s0_1_c58u4, b4_2_c58u4) = oc58u4 ∧ E 0 = .pointer (some ⟨b_s0, 0, none⟩) ∧ E 2 = .pointer (some ⟨b2, 0, none⟩) ∧ E 3 = .pointer (some ⟨b3, 0, none⟩) ∧ E 4 = .pointer (some ⟨b4, 0, none⟩) ∧ E 20 = .int .i64 x20 ∧ E 21 = .int .i64 y21_L3h ∧ E 29 = .int .i64 0 ∧ St w0 w (cells b_s0 25 [.slice A_s0_0 s0.L.length c_s0_0, .int .i64 b_s0_1_c58u4] :: cells b2 81 [.int .i64 0, .int .i64 0, .int .i64 0, .slice none 0 0, .slice none 0 0, .slice none 0 0] :: cells b3 81 [.int .i64 r1_1.1, .int .i64 r1_3.1, .int .i64 r1_5.1, .slice A_b3_3_L3h b3_3_L3h.length c_b3_3_L3h, .slice none 0 0, .slice none 0 0] :: cells b4 183 [.int .u16 x25, .bool r4_4.1, .int .i64 b4_2_c58u4, .int .i64 0, .int .i64 0, .int .i64 0, .slice none 0 0, .slice none 0 0, .slice none 0 0, .slice none 0 0] :: vec 183 R_array_Tile.sz (.slice A_b3_3_L3h b3_3_L3h.length c_b3_3_L3h) b3_3_L3h.length cs_b3_3_L3h :: ro ρ_L3h :: l)) ?_ ?_
              · skip -- c58u4
                refine x_cond_p (r8_1u4.1 = 3) rfl (fun hc58u4 => ?_) (fun hc58u4 => ?_)
                · replace hFc58u4 := it_t hc58u4 hFc58u4
                  replace hFc58u4 := ar_s hFc58u4; obtain ⟨x63u4, hx63u4, hFc58u4⟩ := hFc58u4
                  replace hFc58u4 := ar_s hFc58u4; obtain ⟨x64u4, hx64u4, hFc58u4⟩ := hFc58u4
                  replace hFc58u4 := bd_s hFc58u4; obtain ⟨r15u4_8, hc15u4_8, hFc58u4⟩ := hFc58u4
                  replace hFc58u4 := ar_s hFc58u4; obtain ⟨x69u4, hx69u4, hFc58u4⟩ := hFc58u4
                  refine x_par (w0 := w0) [⟨[], [], [60], [], [], []⟩, ⟨[], [], [61], [], [], []⟩, ⟨[1], [1], [62], [0], [], []⟩, ⟨[1, 2], [2], [63], [], [], []⟩, ⟨[1, 2, 3], [3], [64], [], [], []⟩, ⟨[], [], [65], [], [], []⟩, ⟨[], [], [66], [], [], []⟩, ⟨[6], [6], [67], [0], [], []⟩, ⟨[5, 6, 7], [5, 7], [68], [2], [1], [3]⟩, ⟨[1, 2, 3, 4, 5, 6, 7, 8], [4, 8], [69], [], [], []⟩, ⟨[], [], [70], [], [], []⟩, ⟨[0, 1, 2, 3, 4, 5, 6, 7, 8, 9, 10], [0, 10], [71], [], [], []⟩, ⟨[0, 1, 2, 3, 4, 5, 6, 7, 8, 9, 10, 11], [9, 11], [], [], [4], [5]⟩] [⟨none, none, []⟩, ⟨none, (some 8), []⟩, ⟨none, none, []⟩, ⟨(some 8), none, []⟩, ⟨none, (some 12), []⟩, ⟨(some 12), none, []⟩] [60, 61, 62, 63, 64, 65, 66, 67, 68, 69, 70, 71] [0, 1, 2, 4] [0, 2, 3, 5] [0, 1, 2, 3, 4, 5, 6, 7, 8, 9, 10, 11] [fun Ep15u4 => Ep15u4 60 = .int .i64 0, fun Ep15u4 => Ep15u4 61 = .pointer (some ⟨b3, 2, none⟩), fun Ep15u4 => Ep15u4 62 = .int .i64 r1_5.1, fun Ep15u4 => Ep15u4 63 = .int .i64 x63u4, fun Ep15u4 => Ep15u4 64 = .int .i64 x64u4, fun Ep15u4 => Ep15u4 65 = .pointer (some ⟨b_s0, 0, none⟩), fun Ep15u4 => Ep15u4 66 = .pointer (some ⟨b3, 2, none⟩), fun Ep15u4 => Ep15u4 67 = .int .i64 r1_5.1, fun Ep15u4 => Ep15u4 68 = .int .i64 r15u4_8.1, fun Ep15u4 => Ep15u4 69 = .int .i64 x69u4, fun Ep15u4 => Ep15u4 70 = .pointer (some ⟨b4, 2, none⟩), fun Ep15u4 => Ep15u4 71 = .pointer (some ⟨b4, 2, none⟩), fun Ep15u4 => True] [fun Ep15u4 => cells b3 81 [.int .i64 r1_1.1, .int .i64 r1_3.1, .int .i64 r1_5.1, .slice A_b3_3_L3h b3_3_L3h.length c_b3_3_L3h, .slice none 0 0, .slice none 0 0], fun Ep15u4 => cells b_s0 25 [.slice A_s0_0 s0.L.length c_s0_0, .int .i64 r8_1u4.2], fun Ep15u4 => ro ρ_L3h, fun Ep15u4 => cells b_s0 25 [.slice A_s0_0 s0.L.length c_s0_0, .int .i64 r15u4_8.2], fun Ep15u4 => cells b4 183 [.int .u16 x25, .bool r4_4.1, .int .i64 0, .int .i64 0, .int .i64 0, .int .i64 0, .slice none 0 0, .slice none 0 0, .slice none 0 0, .slice none 0 0], fun Ep15u4 => cells b4 183 [.int .u16 x25, .bool r4_4.1, .int .i64 x69u4, .int .i64 0, .int .i64 0, .int .i64 0, .slice none 0 0, .slice none 0 0, .slice none 0 0, .slice none 0 0]] mixed (by kernel_rfl) ((((hS.pull 3).pull 5).pull 2).pull 4) ?_ ?_
                  · refine ⟨?_, ?_, ?_, ?_, ?_, ?_, ?_, ?_, ?_, ?_, ?_, ?_, ?_, trivial⟩
                    · intro Ep15u4 w l' hE15u4 hO15u4 hF_ hS
                      refine p (yl_move ((hE15u4 5 rfl).trans ec43u4_5)) <| x_done <|
                        ?_
                      refine x_fin ⟨⟨_, rfl⟩, rfl, ?_⟩
                      exact Eq.mp (by kernel_rfl) hS
                    · intro Ep15u4 w l' hE15u4 hO15u4 hF_ hS
                      refine p (yl_field0 fld_81_2 ((hE15u4 3 rfl).trans ec43u4_3)) <| x_done <|
                        ?_
                      refine x_fin ⟨⟨_, rfl⟩, rfl, ?_⟩
                      exact Eq.mp (by kernel_rfl) hS
                    · intro Ep15u4 w l' hE15u4 hO15u4 hF_ hS
                      obtain ⟨f15u4_1, -⟩ := hF_
                      replace f15u4_1 : Ep15u4 61 = .pointer (some ⟨b3, 2, none⟩) := Eq.mp (by kernel_rfl) f15u4_1
                      replace hS : St w0 w (cells b3 81 [.int .i64 r1_1.1, .int .i64 r1_3.1, .int .i64 r1_5.1, .slice A_b3_3_L3h b3_3_L3h.length c_b3_3_L3h, .slice none 0 0, .slice none 0 0] :: l') := Eq.mp (by kernel_rfl) hS
                      refine pa (at_load one_3 f15u4_1 (hS.cell rfl)) <| x_done <|
                        ?_
                      refine x_fin ⟨⟨_, rfl⟩, rfl, ?_⟩
                      exact Eq.mp (by kernel_rfl) hS
                    · intro Ep15u4 w l' hE15u4 hO15u4 hF_ hS
                      obtain ⟨f15u4_2, -⟩ := hF_
                      replace f15u4_2 : Ep15u4 62 = .int .i64 r1_5.1 := Eq.mp (by kernel_rfl) f15u4_2
                      refine p (ymul rfl f15u4_2 hx63u4) <| x_done <|
                        ?_
                      refine x_fin ⟨⟨_, rfl⟩, rfl, ?_⟩
                      exact Eq.mp (by kernel_rfl) hS
                    · intro Ep15u4 w l' hE15u4 hO15u4 hF_ hS
                      obtain ⟨f15u4_3, -⟩ := hF_
                      replace f15u4_3 : Ep15u4 63 = .int .i64 x63u4 := Eq.mp (by kernel_rfl) f15u4_3
                      refine p (yadd rfl f15u4_3 hx64u4) <| x_done <|
                        ?_
                      refine x_fin ⟨⟨_, rfl⟩, rfl, ?_⟩
                      exact Eq.mp (by kernel_rfl) hS
                    · intro Ep15u4 w l' hE15u4 hO15u4 hF_ hS
                      refine p (yl_move ((hE15u4 0 rfl).trans ec43u4_0)) <| x_done <|
                        ?_
                      refine x_fin ⟨⟨_, rfl⟩, rfl, ?_⟩
                      exact Eq.mp (by kernel_rfl) hS
                    · intro Ep15u4 w l' hE15u4 hO15u4 hF_ hS
                      refine p (yl_field0 fld_81_2 ((hE15u4 3 rfl).trans ec43u4_3)) <| x_done <|
                        ?_
                      refine x_fin ⟨⟨_, rfl⟩, rfl, ?_⟩
                      exact Eq.mp (by kernel_rfl) hS
                    · intro Ep15u4 w l' hE15u4 hO15u4 hF_ hS
                      obtain ⟨f15u4_6, -⟩ := hF_
                      replace f15u4_6 : Ep15u4 66 = .pointer (some ⟨b3, 2, none⟩) := Eq.mp (by kernel_rfl) f15u4_6
                      replace hS : St w0 w (cells b3 81 [.int .i64 r1_1.1, .int .i64 r1_3.1, .int .i64 r1_5.1, .slice A_b3_3_L3h b3_3_L3h.length c_b3_3_L3h, .slice none 0 0, .slice none 0 0] :: l') := Eq.mp (by kernel_rfl) hS
                      refine pa (at_load one_3 f15u4_6 (hS.cell rfl)) <| x_done <|
                        ?_
                      refine x_fin ⟨⟨_, rfl⟩, rfl, ?_⟩
                      exact Eq.mp (by kernel_rfl) hS
                    · intro Ep15u4 w l' hE15u4 hO15u4 hF_ hS
                      obtain ⟨f15u4_5, f15u4_7, -⟩ := hF_
                      replace f15u4_5 : Ep15u4 65 = .pointer (some ⟨b_s0, 0, none⟩) := Eq.mp (by kernel_rfl) f15u4_5
                      replace f15u4_7 : Ep15u4 67 = .int .i64 r1_5.1 := Eq.mp (by kernel_rfl) f15u4_7
                      replace hS : St w0 w (ro ρ_L3h :: cells b_s0 25 [.slice A_s0_0 s0.L.length c_s0_0, .int .i64 r8_1u4.2] :: l') := Eq.mp (by kernel_rfl) hS
                      have hcall := c_maskmake_Stream_Next hc15u4_8 (h_s0_0.le hleρ_L3h) (hS.pull 1)
                      refine o_cc call_15 (args2 f15u4_5 f15u4_7) hcall ?_
                      rintro e w' ⟨rfl, hS⟩
                      refine ⟨_, rfl, ?_⟩
                      refine x_done <|
                        ?_
                      refine x_fin ⟨⟨_, rfl⟩, rfl, ?_⟩
                      exact Eq.mp (by kernel_rfl) (hS.pull 1)
                    · intro Ep15u4 w l' hE15u4 hO15u4 hF_ hS
                      obtain ⟨f15u4_4, f15u4_8, -⟩ := hF_
                      replace f15u4_4 : Ep15u4 64 = .int .i64 x64u4 := Eq.mp (by kernel_rfl) f15u4_4
                      replace f15u4_8 : Ep15u4 68 = .int .i64 r15u4_8.1 := Eq.mp (by kernel_rfl) f15u4_8
                      refine p (yadd f15u4_4 f15u4_8 hx69u4) <| x_done <|
                        ?_
                      refine x_fin ⟨⟨_, rfl⟩, rfl, ?_⟩
                      exact Eq.mp (by kernel_rfl) hS
                    · intro Ep15u4 w l' hE15u4 hO15u4 hF_ hS
                      refine p (yl_field0 fld_183_2 ((hE15u4 4 rfl).trans ec43u4_4)) <| x_done <|
                        ?_
                      refine x_fin ⟨⟨_, rfl⟩, rfl, ?_⟩
                      exact Eq.mp (by kernel_rfl) hS
                    · intro Ep15u4 w l' hE15u4 hO15u4 hF_ hS
                      obtain ⟨f15u4_0, f15u4_10, -⟩ := hF_
                      replace f15u4_0 : Ep15u4 60 = .int .i64 0 := Eq.mp (by kernel_rfl) f15u4_0
                      replace f15u4_10 : Ep15u4 70 = .pointer (some ⟨b4, 2, none⟩) := Eq.mp (by kernel_rfl) f15u4_10
                      refine p (yl_ixa (x := .tmp 70) (y := .tmp 60) (q := 2) arr_180 f15u4_10 f15u4_0 (by decide) rfl) <| x_done <|
                        ?_
                      refine x_fin ⟨⟨_, rfl⟩, rfl, ?_⟩
                      exact Eq.mp (by kernel_rfl) hS
                    · intro Ep15u4 w l' hE15u4 hO15u4 hF_ hS
                      obtain ⟨f15u4_9, f15u4_11, -⟩ := hF_
                      replace f15u4_9 : Ep15u4 69 = .int .i64 x69u4 := Eq.mp (by kernel_rfl) f15u4_9
                      replace f15u4_11 : Ep15u4 71 = .pointer (some ⟨b4, 2, none⟩) := Eq.mp (by kernel_rfl) f15u4_11
                      replace hS : St w0 w (cells b4 183 [.int .u16 x25, .bool r4_4.1, .int .i64 0, .int .i64 0, .int .i64 0, .int .i64 0, .slice none 0 0, .slice none 0 0, .slice none 0 0, .slice none 0 0] :: l') := Eq.mp (by kernel_rfl) hS
                      refine o_store1 (v := .int .i64 x69u4) one_3 f15u4_11 f15u4_9 rfl rfl hS (fun w' hS => ?_)
                      refine x_done <|
                        ?_
                      refine x_fin ⟨⟨undef, rfl⟩, trivial, ?_⟩
                      exact Eq.mp (by kernel_rfl) hS
                  intro Ep15u4 w' hE15u4 hF_ hS
                  obtain ⟨f15u4_0, f15u4_1, f15u4_2, f15u4_3, f15u4_4, f15u4_5, f15u4_6, f15u4_7, f15u4_8, f15u4_9, f15u4_10, f15u4_11, -⟩ := hF_
                  replace f15u4_0 : Ep15u4 60 = .int .i64 0 := Eq.mp (by kernel_rfl) f15u4_0
                  replace f15u4_1 : Ep15u4 61 = .pointer (some ⟨b3, 2, none⟩) := Eq.mp (by kernel_rfl) f15u4_1
                  replace f15u4_2 : Ep15u4 62 = .int .i64 r1_5.1 := Eq.mp (by kernel_rfl) f15u4_2
                  replace f15u4_3 : Ep15u4 63 = .int .i64 x63u4 := Eq.mp (by kernel_rfl) f15u4_3
                  replace f15u4_4 : Ep15u4 64 = .int .i64 x64u4 := Eq.mp (by kernel_rfl) f15u4_4
                  replace f15u4_5 : Ep15u4 65 = .pointer (some ⟨b_s0, 0, none⟩) := Eq.mp (by kernel_rfl) f15u4_5
                  replace f15u4_6 : Ep15u4 66 = .pointer (some ⟨b3, 2, none⟩) := Eq.mp (by kernel_rfl) f15u4_6
                  replace f15u4_7 : Ep15u4 67 = .int .i64 r1_5.1 := Eq.mp (by kernel_rfl) f15u4_7
                  replace f15u4_8 : Ep15u4 68 = .int .i64 r15u4_8.1 := Eq.mp (by kernel_rfl) f15u4_8
                  replace f15u4_9 : Ep15u4 69 = .int .i64 x69u4 := Eq.mp (by kernel_rfl) f15u4_9
                  replace f15u4_10 : Ep15u4 70 = .pointer (some ⟨b4, 2, none⟩) := Eq.mp (by kernel_rfl) f15u4_10
                  replace f15u4_11 : Ep15u4 71 = .pointer (some ⟨b4, 2, none⟩) := Eq.mp (by kernel_rfl) f15u4_11
                  replace hS : St w0 w' (cells b3 81 [.int .i64 r1_1.1, .int .i64 r1_3.1, .int .i64 r1_5.1, .slice A_b3_3_L3h b3_3_L3h.length c_b3_3_L3h, .slice none 0 0, .slice none 0 0] :: ro ρ_L3h :: cells b_s0 25 [.slice A_s0_0 s0.L.length c_s0_0, .int .i64 r15u4_8.2] :: cells b4 183 [.int .u16 x25, .bool r4_4.1, .int .i64 x69u4, .int .i64 0, .int .i64 0, .int .i64 0, .slice none 0 0, .slice none 0 0, .slice none 0 0, .slice none 0 0] :: (cells b2 81 [.int .i64 0, .int .i64 0, .int .i64 0, .slice none 0 0, .slice none 0 0, .slice none 0 0] :: vec 183 R_array_Tile.sz (.slice A_b3_3_L3h b3_3_L3h.length c_b3_3_L3h) b3_3_L3h.length cs_b3_3_L3h :: l)) := Eq.mp (by kernel_rfl) hS
                  exact x_inv ⟨r15u4_8.2, x69u4, (Option.some.inj (show some _ = some _ from hFc58u4)), ((hE15u4 0 rfl).trans ec43u4_0), ((hE15u4 2 rfl).trans ec43u4_2), ((hE15u4 3 rfl).trans ec43u4_3), ((hE15u4 4 rfl).trans ec43u4_4), ((hE15u4 20 rfl).trans ec43u4_20), ((hE15u4 21 rfl).trans ec43u4_21), ((hE15u4 29 rfl).trans ec43u4_29), ((((((hS.pull 1).pull 5).pull 4).pull 3).pull 5).pull 5)⟩
                · replace hFc58u4 := it_f hc58u4 hFc58u4
                  refine x_skip <|
                    ?_
                  exact x_inv ⟨r8_1u4.2, 0, (Option.some.inj (show some _ = some _ from hFc58u4)), ec43u4_0, ec43u4_2, ec43u4_3, ec43u4_4, ec43u4_20, ec43u4_21, ec43u4_29, ((((((hS.pull 5).pull 5).pull 5).pull 5).pull 5).pull 5)⟩
              rintro E w ⟨b_s0_1_c58u4, b4_2_c58u4, rfl, ec58u4_0, ec58u4_2, ec58u4_3, ec58u4_4, ec58u4_20, ec58u4_21, ec58u4_29, hS⟩
              exact x_inv ⟨b_s0_1_c58u4, b4_2_c58u4, (Option.some.inj (show some _ = some _ from hFc43_2u4)), ec58u4_0, ec58u4_2, ec58u4_3, ec58u4_4, ec58u4_20, ec58u4_21, ec58u4_29, ((((((hS.pull 5).pull 5).pull 5).pull 5).pull 5).pull 5)⟩
          rintro E w ⟨b_s0_1_c43_2u4, b4_2_c43_2u4, rfl, ec43_2u4_0, ec43_2u4_2, ec43_2u4_3, ec43_2u4_4, ec43_2u4_20, ec43_2u4_21, ec43_2u4_29, hS⟩
          exact x_inv ⟨b_s0_1_c43_2u4, b4_2_c43_2u4, (Option.some.inj (show some _ = some _ from hFc34u4)), ec43_2u4_0, ec43_2u4_2, ec43_2u4_3, ec43_2u4_4, ec43_2u4_20, ec43_2u4_21, ec43_2u4_29, ((((((hS.pull 5).pull 5).pull 5).pull 5).pull 5).pull 5)⟩
      rintro E w ⟨b_s0_1_c34u4, b4_2_c34u4, rfl, ec34u4_0, ec34u4_2, ec34u4_3, ec34u4_4, ec34u4_20, ec34u4_21, ec34u4_29, hS⟩
      replace hFL3 := bd_s hFL3; obtain ⟨r8_1u3, hc8_1u3, hFL3⟩ := hFL3
      refine x_blk <| x_blk <| x_region <| p (yadd (c := 1) ec34u4_29 rfl ⟨rfl, by decide⟩) <|
        p (yl_move rfl) <| x_done <| x_un 3 <| x_seq <|
        x_region <| p (ylss_l (t := true) rfl rfl (by decide)) <| x_done <| x_seq <|
        x_cond_t (show ev _ _ = .bool true from rfl) <| x_skip <| x_seq <| x_block <|
        x_seq <| x_region <| p (yl_move rfl) <| p (yl_assign rfl) <|
        x_done <| x_seq <| x_region <| p (yl_move ec34u4_0) <|
        ?_
      have hcall := c_maskmake_Stream_Next hc8_1u3 (h_s0_0.le hleρ_L3h) ((hS.pull 5).pull 1)
      refine o_cc call_15 (args2 rfl rfl) hcall ?_
      rintro e w' ⟨rfl, hS⟩
      refine ⟨_, rfl, ?_⟩
      refine x_done <| x_block <| x_seq <| x_region <|
        p (yl_eql rfl rfl) <| p (yl_assign rfl) <| x_done <|
        ?_
      replace hFL3 := bd_s hFL3; obtain ⟨oc34u3, hFc34u3, hFL3⟩ := hFL3
      refine x_join (fun E w => ∃ (b_s0_1_c34u3 : Int) (b4_3_c34u3 : Int), (b_s0_1_c34u3, b4_3_c34u3) = oc34u3 ∧ E 0 = .pointer (some ⟨b_s0, 0, none⟩) ∧ E 2 = .pointer (some ⟨b2, 0, none⟩) ∧ E 3 = .pointer (some ⟨b3, 0, none⟩) ∧ E 4 = .pointer (some ⟨b4, 0, none⟩) ∧ E 20 = .int .i64 x20 ∧ E 21 = .int .i64 y21_L3h ∧ E 29 = .int .i64 1 ∧ St w0 w (cells b_s0 25 [.slice A_s0_0 s0.L.length c_s0_0, .int .i64 b_s0_1_c34u3] :: cells b2 81 [.int .i64 0, .int .i64 0, .int .i64 0, .slice none 0 0, .slice none 0 0, .slice none 0 0] :: cells b3 81 [.int .i64 r1_1.1, .int .i64 r1_3.1, .int .i64 r1_5.1, .slice A_b3_3_L3h b3_3_L3h.length c_b3_3_L3h, .slice none 0 0, .slice none 0 0] :: cells b4 183 [.int .u16 x25, .bool r4_4.1, .int .i64 b4_2_c34u4, .int .i64 b4_3_c34u3, .int .i64 0, .int .i64 0, .slice none 0 0, .slice none 0 0, .slice none 0 0, .slice none 0 0] :: vec 183 R_array_Tile.sz (.slice A_b3_3_L3h b3_3_L3h.length c_b3_3_L3h) b3_3_L3h.length cs_b3_3_L3h :: ro ρ_L3h :: l)) ?_ ?_
      · skip -- c34u3
        refine x_cond_p (r8_1u3.1 = 0) rfl (fun hc34u3 => ?_) (fun hc34u3 => ?_)
        · replace hFc34u3 := it_t hc34u3 hFc34u3
          replace hFc34u3 := ar_s hFc34u3; obtain ⟨x39u3, hx39u3, hFc34u3⟩ := hFc34u3
          replace hFc34u3 := ar_s hFc34u3; obtain ⟨x40u3, hx40u3, hFc34u3⟩ := hFc34u3
          refine x_region <| p (yl_move rfl) <| p (yl_field0 fld_81_2 ec34u4_3) <| pa (at_load one_3 rfl ((hS.pull 3).cell rfl)) <|
            p (ymul rfl rfl hx39u3) <| p (yadd rfl rfl hx40u3) <| p (yl_field0 fld_183_2 ec34u4_4) <| p (yl_ixa (x := .tmp 41) (y := .tmp 36) (q := 3) arr_180 rfl rfl (by decide) rfl) <|
            ?_
          refine o_store1 (v := .int .i64 x40u3) one_3 rfl rfl rfl rfl (hS.pull 4) (fun w' hS => ?_)
          refine x_done <|
            ?_
          exact x_inv ⟨r8_1u3.2, x40u3, (Option.some.inj (show some _ = some _ from hFc34u3)), ec34u4_0, ec34u4_2, ec34u4_3, ec34u4_4, ec34u4_20, ec34u4_21, rfl, ((((((hS.pull 2).pull 5).pull 2).pull 5).pull 5).pull 5)⟩
        · replace hFc34u3 := it_f hc34u3 hFc34u3
          refine x_seq <| x_seq <| x_region <| p (yl_eql rfl rfl) <|
            p (yl_assign rfl) <| x_done <|
            ?_
          replace hFc34u3 := bd_s hFc34u3; obtain ⟨oc43u3, hFc43u3, hFc34u3⟩ := hFc34u3
          refine x_join (fun E w => ∃ (y43_c43u3 : Bool), y43_c43u3 = oc43u3 ∧ E 0 = .pointer (some ⟨b_s0, 0, none⟩) ∧ E 2 = .pointer (some ⟨b2, 0, none⟩) ∧ E 3 = .pointer (some ⟨b3, 0, none⟩) ∧ E 4 = .pointer (some ⟨b4, 0, none⟩) ∧ E 5 = .int .i64 1 ∧ E 20 = .int .i64 x20 ∧ E 21 = .int .i64 y21_L3h ∧ E 29 = .int .i64 1 ∧ E 33 = .int .i64 r8_1u3.1 ∧ E 43 = .bool y43_c43u3 ∧ St w0 w (cells b_s0 25 [.slice A_s0_0 s0.L.length c_s0_0, .int .i64 r8_1u3.2] :: cells b2 81 [.int .i64 0, .int .i64 0, .int .i64 0, .slice none 0 0, .slice none 0 0, .slice none 0 0] :: cells b3 81 [.int .i64 r1_1.1, .int .i64 r1_3.1, .int .i64 r1_5.1, .slice A_b3_3_L3h b3_3_L3h.length c_b3_3_L3h, .slice none 0 0, .slice none 0 0] :: cells b4 183 [.int .u16 x25, .bool r4_4.1, .int .i64 b4_2_c34u4, .int .i64 0, .int .i64 0, .int .i64 0, .slice none 0 0, .slice none 0 0, .slice none 0 0, .slice none 0 0] :: vec 183 R_array_Tile.sz (.slice A_b3_3_L3h b3_3_L3h.length c_b3_3_L3h) b3_3_L3h.length cs_b3_3_L3h :: ro ρ_L3h :: l)) ?_ ?_
          · skip -- c43u3
            refine x_cond_p (r8_1u3.1 = 1) rfl (fun hc43u3 => ?_) (fun hc43u3 => ?_)
            · replace hFc43u3 := it_t hc43u3 hFc43u3
              refine x_skip <|
                ?_
              exact x_inv ⟨decide (r8_1u3.1 = 1), (Option.some.inj (show some _ = some _ from hFc43u3)), ec34u4_0, ec34u4_2, ec34u4_3, ec34u4_4, rfl, ec34u4_20, ec34u4_21, rfl, rfl, rfl, ((((((hS.pull 1).pull 5).pull 5).pull 5).pull 5).pull 5)⟩
            · replace hFc43u3 := it_f hc43u3 hFc43u3
              refine x_region <| p (yl_eql rfl rfl) <| p (yl_assign rfl) <| x_done <|
                ?_
              exact x_inv ⟨decide (r8_1u3.1 = 2), (Option.some.inj (show some _ = some _ from hFc43u3)), ec34u4_0, ec34u4_2, ec34u4_3, ec34u4_4, rfl, ec34u4_20, ec34u4_21, rfl, rfl, rfl, ((((((hS.pull 1).pull 5).pull 5).pull 5).pull 5).pull 5)⟩
          rintro E w ⟨y43_c43u3, rfl, ec43u3_0, ec43u3_2, ec43u3_3, ec43u3_4, ec43u3_5, ec43u3_20, ec43u3_21, ec43u3_29, ec43u3_33, ec43u3_43, hS⟩
          replace hFc34u3 := bd_s hFc34u3; obtain ⟨oc43_2u3, hFc43_2u3, hFc34u3⟩ := hFc34u3
          refine x_join (fun E w => ∃ (b_s0_1_c43_2u3 : Int) (b4_3_c43_2u3 : Int), (b_s0_1_c43_2u3, b4_3_c43_2u3) = oc43_2u3 ∧ E 0 = .pointer (some ⟨b_s0, 0, none⟩) ∧ E 2 = .pointer (some ⟨b2, 0, none⟩) ∧ E 3 = .pointer (some ⟨b3, 0, none⟩) ∧ E 4 = .pointer (some ⟨b4, 0, none⟩) ∧ E 20 = .int .i64 x20 ∧ E 21 = .int .i64 y21_L3h ∧ E 29 = .int .i64 1 ∧ St w0 w (cells b_s0 25 [.slice A_s0_0 s0.L.length c_s0_0, .int .i64 b_s0_1_c43_2u3] :: cells b2 81 [.int .i64 0, .int .i64 0, .int .i64 0, .slice none 0 0, .slice none 0 0, .slice none 0 0] :: cells b3 81 [.int .i64 r1_1.1, .int .i64 r1_3.1, .int .i64 r1_5.1, .slice A_b3_3_L3h b3_3_L3h.length c_b3_3_L3h, .slice none 0 0, .slice none 0 0] :: cells b4 183 [.int .u16 x25, .bool r4_4.1, .int .i64 b4_2_c34u4, .int .i64 b4_3_c43_2u3, .int .i64 0, .int .i64 0, .slice none 0 0, .slice none 0 0, .slice none 0 0, .slice none 0 0] :: vec 183 R_array_Tile.sz (.slice A_b3_3_L3h b3_3_L3h.length c_b3_3_L3h) b3_3_L3h.length cs_b3_3_L3h :: ro ρ_L3h :: l)) ?_ ?_
          · skip -- c43_2u3
            refine x_cond (t := y43_c43u3) ec43u3_43 (fun hc43u3 => ?_) (fun hc43u3 => ?_)
            · replace hFc43_2u3 := it_t hc43u3 hFc43_2u3
              replace hFc43_2u3 := ar_s hFc43_2u3; obtain ⟨x49u3, hx49u3, hFc43_2u3⟩ := hFc43_2u3
              replace hFc43_2u3 := ar_s hFc43_2u3; obtain ⟨x50u3, hx50u3, hFc43_2u3⟩ := hFc43_2u3
              replace hFc43_2u3 := bd_s hFc43_2u3; obtain ⟨r13u3_8, hc13u3_8, hFc43_2u3⟩ := hFc43_2u3
              replace hFc43_2u3 := ar_s hFc43_2u3; obtain ⟨x55u3, hx55u3, hFc43_2u3⟩ := hFc43_2u3
              refine x_par (w0 := w0) [⟨[], [], [46], [], [], []⟩, ⟨[], [], [47], [], [], []⟩, ⟨[1], [1], [48], [0], [], []⟩, ⟨[1, 2], [2], [49], [], [], []⟩, ⟨[1, 2, 3], [3], [50], [], [], []⟩, ⟨[], [], [51], [], [], []⟩, ⟨[], [], [52], [], [], []⟩, ⟨[6], [6], [53], [0], [], []⟩, ⟨[5, 6, 7], [5, 7], [54], [2], [1], [3]⟩, ⟨[1, 2, 3, 4, 5, 6, 7, 8], [4, 8], [55], [], [], []⟩, ⟨[], [], [56], [], [], []⟩, ⟨[0, 1, 2, 3, 4, 5, 6, 7, 8, 9, 10], [0, 10], [57], [], [], []⟩, ⟨[0, 1, 2, 3, 4, 5, 6, 7, 8, 9, 10, 11], [9, 11], [], [], [4], [5]⟩] [⟨none, none, []⟩, ⟨none, (some 8), []⟩, ⟨none, none, []⟩, ⟨(some 8), none, []⟩, ⟨none, (some 12), []⟩, ⟨(some 12), none, []⟩] [46, 47, 48, 49, 50, 51, 52, 53, 54, 55, 56, 57] [0, 1, 2, 4] [0, 2, 3, 5] [0, 1, 2, 3, 4, 5, 6, 7, 8, 9, 10, 11] [fun Ep13u3 => Ep13u3 46 = .int .i64 1, fun Ep13u3 => Ep13u3 47 = .pointer (some ⟨b3, 2, none⟩), fun Ep13u3 => Ep13u3 48 = .int .i64 r1_5.1, fun Ep13u3 => Ep13u3 49 = .int .i64 x49u3, fun Ep13u3 => Ep13u3 50 = .int .i64 x50u3, fun Ep13u3 => Ep13u3 51 = .pointer (some ⟨b_s0, 0, none⟩), fun Ep13u3 => Ep13u3 52 = .pointer (some ⟨b3, 2, none⟩), fun Ep13u3 => Ep13u3 53 = .int .i64 r1_5.1, fun Ep13u3 => Ep13u3 54 = .int .i64 r13u3_8.1, fun Ep13u3 => Ep13u3 55 = .int .i64 x55u3, fun Ep13u3 => Ep13u3 56 = .pointer (some ⟨b4, 2, none⟩), fun Ep13u3 => Ep13u3 57 = .pointer (some ⟨b4, 3, none⟩), fun Ep13u3 => True] [fun Ep13u3 => cells b3 81 [.int .i64 r1_1.1, .int .i64 r1_3.1, .int .i64 r1_5.1, .slice A_b3_3_L3h b3_3_L3h.length c_b3_3_L3h, .slice none 0 0, .slice none 0 0], fun Ep13u3 => cells b_s0 25 [.slice A_s0_0 s0.L.length c_s0_0, .int .i64 r8_1u3.2], fun Ep13u3 => ro ρ_L3h, fun Ep13u3 => cells b_s0 25 [.slice A_s0_0 s0.L.length c_s0_0, .int .i64 r13u3_8.2], fun Ep13u3 => cells b4 183 [.int .u16 x25, .bool r4_4.1, .int .i64 b4_2_c34u4, .int .i64 0, .int .i64 0, .int .i64 0, .slice none 0 0, .slice none 0 0, .slice none 0 0, .slice none 0 0], fun Ep13u3 => cells b4 183 [.int .u16 x25, .bool r4_4.1, .int .i64 b4_2_c34u4, .int .i64 x55u3, .int .i64 0, .int .i64 0, .slice none 0 0, .slice none 0 0, .slice none 0 0, .slice none 0 0]] mixed (by kernel_rfl) ((((hS.pull 3).pull 5).pull 2).pull 4) ?_ ?_
              · refine ⟨?_, ?_, ?_, ?_, ?_, ?_, ?_, ?_, ?_, ?_, ?_, ?_, ?_, trivial⟩
                · intro Ep13u3 w l' hE13u3 hO13u3 hF_ hS
                  refine p (yl_move ((hE13u3 5 rfl).trans ec43u3_5)) <| x_done <|
                    ?_
                  refine x_fin ⟨⟨_, rfl⟩, rfl, ?_⟩
                  exact Eq.mp (by kernel_rfl) hS
                · intro Ep13u3 w l' hE13u3 hO13u3 hF_ hS
                  refine p (yl_field0 fld_81_2 ((hE13u3 3 rfl).trans ec43u3_3)) <| x_done <|
                    ?_
                  refine x_fin ⟨⟨_, rfl⟩, rfl, ?_⟩
                  exact Eq.mp (by kernel_rfl) hS
                · intro Ep13u3 w l' hE13u3 hO13u3 hF_ hS
                  obtain ⟨f13u3_1, -⟩ := hF_
                  replace f13u3_1 : Ep13u3 47 = .pointer (some ⟨b3, 2, none⟩) := Eq.mp (by kernel_rfl) f13u3_1
                  replace hS : St w0 w (cells b3 81 [.int .i64 r1_1.1, .int .i64 r1_3.1, .int .i64 r1_5.1, .slice A_b3_3_L3h b3_3_L3h.length c_b3_3_L3h, .slice none 0 0, .slice none 0 0] :: l') := Eq.mp (by kernel_rfl) hS
                  refine pa (at_load one_3 f13u3_1 (hS.cell rfl)) <| x_done <|
                    ?_
                  refine x_fin ⟨⟨_, rfl⟩, rfl, ?_⟩
                  exact Eq.mp (by kernel_rfl) hS
                · intro Ep13u3 w l' hE13u3 hO13u3 hF_ hS
                  obtain ⟨f13u3_2, -⟩ := hF_
                  replace f13u3_2 : Ep13u3 48 = .int .i64 r1_5.1 := Eq.mp (by kernel_rfl) f13u3_2
                  refine p (ymul rfl f13u3_2 hx49u3) <| x_done <|
                    ?_
                  refine x_fin ⟨⟨_, rfl⟩, rfl, ?_⟩
                  exact Eq.mp (by kernel_rfl) hS
                · intro Ep13u3 w l' hE13u3 hO13u3 hF_ hS
                  obtain ⟨f13u3_3, -⟩ := hF_
                  replace f13u3_3 : Ep13u3 49 = .int .i64 x49u3 := Eq.mp (by kernel_rfl) f13u3_3
                  refine p (yadd rfl f13u3_3 hx50u3) <| x_done <|
                    ?_
                  refine x_fin ⟨⟨_, rfl⟩, rfl, ?_⟩
                  exact Eq.mp (by kernel_rfl) hS
                · intro Ep13u3 w l' hE13u3 hO13u3 hF_ hS
                  refine p (yl_move ((hE13u3 0 rfl).trans ec43u3_0)) <| x_done <|
                    ?_
                  refine x_fin ⟨⟨_, rfl⟩, rfl, ?_⟩
                  exact Eq.mp (by kernel_rfl) hS
                · intro Ep13u3 w l' hE13u3 hO13u3 hF_ hS
                  refine p (yl_field0 fld_81_2 ((hE13u3 3 rfl).trans ec43u3_3)) <| x_done <|
                    ?_
                  refine x_fin ⟨⟨_, rfl⟩, rfl, ?_⟩
                  exact Eq.mp (by kernel_rfl) hS
                · intro Ep13u3 w l' hE13u3 hO13u3 hF_ hS
                  obtain ⟨f13u3_6, -⟩ := hF_
                  replace f13u3_6 : Ep13u3 52 = .pointer (some ⟨b3, 2, none⟩) := Eq.mp (by kernel_rfl) f13u3_6
                  replace hS : St w0 w (cells b3 81 [.int .i64 r1_1.1, .int .i64 r1_3.1, .int .i64 r1_5.1, .slice A_b3_3_L3h b3_3_L3h.length c_b3_3_L3h, .slice none 0 0, .slice none 0 0] :: l') := Eq.mp (by kernel_rfl) hS
                  refine pa (at_load one_3 f13u3_6 (hS.cell rfl)) <| x_done <|
                    ?_
                  refine x_fin ⟨⟨_, rfl⟩, rfl, ?_⟩
                  exact Eq.mp (by kernel_rfl) hS
                · intro Ep13u3 w l' hE13u3 hO13u3 hF_ hS
                  obtain ⟨f13u3_5, f13u3_7, -⟩ := hF_
                  replace f13u3_5 : Ep13u3 51 = .pointer (some ⟨b_s0, 0, none⟩) := Eq.mp (by kernel_rfl) f13u3_5
                  replace f13u3_7 : Ep13u3 53 = .int .i64 r1_5.1 := Eq.mp (by kernel_rfl) f13u3_7
                  replace hS : St w0 w (ro ρ_L3h :: cells b_s0 25 [.slice A_s0_0 s0.L.length c_s0_0, .int .i64 r8_1u3.2] :: l') := Eq.mp (by kernel_rfl) hS
                  have hcall := c_maskmake_Stream_Next hc13u3_8 (h_s0_0.le hleρ_L3h) (hS.pull 1)
                  refine o_cc call_15 (args2 f13u3_5 f13u3_7) hcall ?_
                  rintro e w' ⟨rfl, hS⟩
                  refine ⟨_, rfl, ?_⟩
                  refine x_done <|
                    ?_
                  refine x_fin ⟨⟨_, rfl⟩, rfl, ?_⟩
                  exact Eq.mp (by kernel_rfl) (hS.pull 1)
                · intro Ep13u3 w l' hE13u3 hO13u3 hF_ hS
                  obtain ⟨f13u3_4, f13u3_8, -⟩ := hF_
                  replace f13u3_4 : Ep13u3 50 = .int .i64 x50u3 := Eq.mp (by kernel_rfl) f13u3_4
                  replace f13u3_8 : Ep13u3 54 = .int .i64 r13u3_8.1 := Eq.mp (by kernel_rfl) f13u3_8
                  refine p (yadd f13u3_4 f13u3_8 hx55u3) <| x_done <|
                    ?_
                  refine x_fin ⟨⟨_, rfl⟩, rfl, ?_⟩
                  exact Eq.mp (by kernel_rfl) hS
                · intro Ep13u3 w l' hE13u3 hO13u3 hF_ hS
                  refine p (yl_field0 fld_183_2 ((hE13u3 4 rfl).trans ec43u3_4)) <| x_done <|
                    ?_
                  refine x_fin ⟨⟨_, rfl⟩, rfl, ?_⟩
                  exact Eq.mp (by kernel_rfl) hS
                · intro Ep13u3 w l' hE13u3 hO13u3 hF_ hS
                  obtain ⟨f13u3_0, f13u3_10, -⟩ := hF_
                  replace f13u3_0 : Ep13u3 46 = .int .i64 1 := Eq.mp (by kernel_rfl) f13u3_0
                  replace f13u3_10 : Ep13u3 56 = .pointer (some ⟨b4, 2, none⟩) := Eq.mp (by kernel_rfl) f13u3_10
                  refine p (yl_ixa (x := .tmp 56) (y := .tmp 46) (q := 3) arr_180 f13u3_10 f13u3_0 (by decide) rfl) <| x_done <|
                    ?_
                  refine x_fin ⟨⟨_, rfl⟩, rfl, ?_⟩
                  exact Eq.mp (by kernel_rfl) hS
                · intro Ep13u3 w l' hE13u3 hO13u3 hF_ hS
                  obtain ⟨f13u3_9, f13u3_11, -⟩ := hF_
                  replace f13u3_9 : Ep13u3 55 = .int .i64 x55u3 := Eq.mp (by kernel_rfl) f13u3_9
                  replace f13u3_11 : Ep13u3 57 = .pointer (some ⟨b4, 3, none⟩) := Eq.mp (by kernel_rfl) f13u3_11
                  replace hS : St w0 w (cells b4 183 [.int .u16 x25, .bool r4_4.1, .int .i64 b4_2_c34u4, .int .i64 0, .int .i64 0, .int .i64 0, .slice none 0 0, .slice none 0 0, .slice none 0 0, .slice none 0 0] :: l') := Eq.mp (by kernel_rfl) hS
                  refine o_store1 (v := .int .i64 x55u3) one_3 f13u3_11 f13u3_9 rfl rfl hS (fun w' hS => ?_)
                  refine x_done <|
                    ?_
                  refine x_fin ⟨⟨undef, rfl⟩, trivial, ?_⟩
                  exact Eq.mp (by kernel_rfl) hS
              intro Ep13u3 w' hE13u3 hF_ hS
              obtain ⟨f13u3_0, f13u3_1, f13u3_2, f13u3_3, f13u3_4, f13u3_5, f13u3_6, f13u3_7, f13u3_8, f13u3_9, f13u3_10, f13u3_11, -⟩ := hF_
              replace f13u3_0 : Ep13u3 46 = .int .i64 1 := Eq.mp (by kernel_rfl) f13u3_0
              replace f13u3_1 : Ep13u3 47 = .pointer (some ⟨b3, 2, none⟩) := Eq.mp (by kernel_rfl) f13u3_1
              replace f13u3_2 : Ep13u3 48 = .int .i64 r1_5.1 := Eq.mp (by kernel_rfl) f13u3_2
              replace f13u3_3 : Ep13u3 49 = .int .i64 x49u3 := Eq.mp (by kernel_rfl) f13u3_3
              replace f13u3_4 : Ep13u3 50 = .int .i64 x50u3 := Eq.mp (by kernel_rfl) f13u3_4
              replace f13u3_5 : Ep13u3 51 = .pointer (some ⟨b_s0, 0, none⟩) := Eq.mp (by kernel_rfl) f13u3_5
              replace f13u3_6 : Ep13u3 52 = .pointer (some ⟨b3, 2, none⟩) := Eq.mp (by kernel_rfl) f13u3_6
              replace f13u3_7 : Ep13u3 53 = .int .i64 r1_5.1 := Eq.mp (by kernel_rfl) f13u3_7
              replace f13u3_8 : Ep13u3 54 = .int .i64 r13u3_8.1 := Eq.mp (by kernel_rfl) f13u3_8
              replace f13u3_9 : Ep13u3 55 = .int .i64 x55u3 := Eq.mp (by kernel_rfl) f13u3_9
              replace f13u3_10 : Ep13u3 56 = .pointer (some ⟨b4, 2, none⟩) := Eq.mp (by kernel_rfl) f13u3_10
              replace f13u3_11 : Ep13u3 57 = .pointer (some ⟨b4, 3, none⟩) := Eq.mp (by kernel_rfl) f13u3_11
              replace hS : St w0 w' (cells b3 81 [.int .i64 r1_1.1, .int .i64 r1_3.1, .int .i64 r1_5.1, .slice A_b3_3_L3h b3_3_L3h.length c_b3_3_L3h, .slice none 0 0, .slice none 0 0] :: ro ρ_L3h :: cells b_s0 25 [.slice A_s0_0 s0.L.length c_s0_0, .int .i64 r13u3_8.2] :: cells b4 183 [.int .u16 x25, .bool r4_4.1, .int .i64 b4_2_c34u4, .int .i64 x55u3, .int .i64 0, .int .i64 0, .slice none 0 0, .slice none 0 0, .slice none 0 0, .slice none 0 0] :: (cells b2 81 [.int .i64 0, .int .i64 0, .int .i64 0, .slice none 0 0, .slice none 0 0, .slice none 0 0] :: vec 183 R_array_Tile.sz (.slice A_b3_3_L3h b3_3_L3h.length c_b3_3_L3h) b3_3_L3h.length cs_b3_3_L3h :: l)) := Eq.mp (by kernel_rfl) hS
              exact x_inv ⟨r13u3_8.2, x55u3, (Option.some.inj (show some _ = some _ from hFc43_2u3)), ((hE13u3 0 rfl).trans ec43u3_0), ((hE13u3 2 rfl).trans ec43u3_2), ((hE13u3 3 rfl).trans ec43u3_3), ((hE13u3 4 rfl).trans ec43u3_4), ((hE13u3 20 rfl).trans ec43u3_20), ((hE13u3 21 rfl).trans ec43u3_21), ((hE13u3 29 rfl).trans ec43u3_29), ((((((hS.pull 1).pull 5).pull 4).pull 3).pull 5).pull 5)⟩
            · replace hFc43_2u3 := it_bf hc43u3 hFc43_2u3
              refine x_seq <| x_region <| p (yl_eql ec43u3_33 rfl) <| p (yl_assign rfl) <|
                x_done <|
                ?_
              replace hFc43_2u3 := bd_s hFc43_2u3; obtain ⟨oc58u3, hFc58u3, hFc43_2u3⟩ := hFc43_2u3
              refine x_join (fun E w => ∃ (b_s0_1_c58u3 : Int) (b4_3_c58u3 : Int), (b_s0_1_c58u3, b4_3_c58u3) = oc58u3 ∧ E 0 = .pointer (some ⟨b_s0, 0, none⟩) ∧ E 2 = .pointer (some ⟨b2, 0, none⟩) ∧ E 3 = .pointer (some ⟨b3, 0, none⟩) ∧ E 4 = .pointer (some ⟨b4, 0, none⟩) ∧ E 20 = .int .i64 x20 ∧ E 21 = .int .i64 y21_L3h ∧ E 29 = .int .i64 1 ∧ St w0 w (cells b_s0 25 [.slice A_s0_0 s0.L.length c_s0_0, .int .i64 b_s0_1_c58u3] :: cells b2 81 [.int .i64 0, .int .i64 0, .int .i64 0, .slice none 0 0, .slice none 0 0, .slice none 0 0] :: cells b3 81 [.int .i64 r1_1.1, .int .i64 r1_3.1, .int .i64 r1_5.1, .slice A_b3_3_L3h b3_3_L3h.length c_b3_3_L3h, .slice none 0 0, .slice none 0 0] :: cells b4 183 [.int .u16 x25, .bool r4_4.1, .int .i64 b4_2_c34u4, .int .i64 b4_3_c58u3, .int .i64 0, .int .i64 0, .slice none 0 0, .slice none 0 0, .slice none 0 0, .slice none 0 0] :: vec 183 R_array_Tile.sz (.slice A_b3_3_L3h b3_3_L3h.length c_b3_3_L3h) b3_3_L3h.length cs_b3_3_L3h :: ro ρ_L3h :: l)) ?_ ?_
              · skip -- c58u3
                refine x_cond_p (r8_1u3.1 = 3) rfl (fun hc58u3 => ?_) (fun hc58u3 => ?_)
                · replace hFc58u3 := it_t hc58u3 hFc58u3
                  replace hFc58u3 := ar_s hFc58u3; obtain ⟨x63u3, hx63u3, hFc58u3⟩ := hFc58u3
                  replace hFc58u3 := ar_s hFc58u3; obtain ⟨x64u3, hx64u3, hFc58u3⟩ := hFc58u3
                  replace hFc58u3 := bd_s hFc58u3; obtain ⟨r15u3_8, hc15u3_8, hFc58u3⟩ := hFc58u3
                  replace hFc58u3 := ar_s hFc58u3; obtain ⟨x69u3, hx69u3, hFc58u3⟩ := hFc58u3
                  refine x_par (w0 := w0) [⟨[], [], [60], [], [], []⟩, ⟨[], [], [61], [], [], []⟩, ⟨[1], [1], [62], [0], [], []⟩, ⟨[1, 2], [2], [63], [], [], []⟩, ⟨[1, 2, 3], [3], [64], [], [], []⟩, ⟨[], [], [65], [], [], []⟩, ⟨[], [], [66], [], [], []⟩, ⟨[6], [6], [67], [0], [], []⟩, ⟨[5, 6, 7], [5, 7], [68], [2], [1], [3]⟩, ⟨[1, 2, 3, 4, 5, 6, 7, 8], [4, 8], [69], [], [], []⟩, ⟨[], [], [70], [], [], []⟩, ⟨[0, 1, 2, 3, 4, 5, 6, 7, 8, 9, 10], [0, 10], [71], [], [], []⟩, ⟨[0, 1, 2, 3, 4, 5, 6, 7, 8, 9, 10, 11], [9, 11], [], [], [4], [5]⟩] [⟨none, none, []⟩, ⟨none, (some 8), []⟩, ⟨none, none, []⟩, ⟨(some 8), none, []⟩, ⟨none, (some 12), []⟩, ⟨(some 12), none, []⟩] [60, 61, 62, 63, 64, 65, 66, 67, 68, 69, 70, 71] [0, 1, 2, 4] [0, 2, 3, 5] [0, 1, 2, 3, 4, 5, 6, 7, 8, 9, 10, 11] [fun Ep15u3 => Ep15u3 60 = .int .i64 1, fun Ep15u3 => Ep15u3 61 = .pointer (some ⟨b3, 2, none⟩), fun Ep15u3 => Ep15u3 62 = .int .i64 r1_5.1, fun Ep15u3 => Ep15u3 63 = .int .i64 x63u3, fun Ep15u3 => Ep15u3 64 = .int .i64 x64u3, fun Ep15u3 => Ep15u3 65 = .pointer (some ⟨b_s0, 0, none⟩), fun Ep15u3 => Ep15u3 66 = .pointer (some ⟨b3, 2, none⟩), fun Ep15u3 => Ep15u3 67 = .int .i64 r1_5.1, fun Ep15u3 => Ep15u3 68 = .int .i64 r15u3_8.1, fun Ep15u3 => Ep15u3 69 = .int .i64 x69u3, fun Ep15u3 => Ep15u3 70 = .pointer (some ⟨b4, 2, none⟩), fun Ep15u3 => Ep15u3 71 = .pointer (some ⟨b4, 3, none⟩), fun Ep15u3 => True] [fun Ep15u3 => cells b3 81 [.int .i64 r1_1.1, .int .i64 r1_3.1, .int .i64 r1_5.1, .slice A_b3_3_L3h b3_3_L3h.length c_b3_3_L3h, .slice none 0 0, .slice none 0 0], fun Ep15u3 => cells b_s0 25 [.slice A_s0_0 s0.L.length c_s0_0, .int .i64 r8_1u3.2], fun Ep15u3 => ro ρ_L3h, fun Ep15u3 => cells b_s0 25 [.slice A_s0_0 s0.L.length c_s0_0, .int .i64 r15u3_8.2], fun Ep15u3 => cells b4 183 [.int .u16 x25, .bool r4_4.1, .int .i64 b4_2_c34u4, .int .i64 0, .int .i64 0, .int .i64 0, .slice none 0 0, .slice none 0 0, .slice none 0 0, .slice none 0 0], fun Ep15u3 => cells b4 183 [.int .u16 x25, .bool r4_4.1, .int .i64 b4_2_c34u4, .int .i64 x69u3, .int .i64 0, .int .i64 0, .slice none 0 0, .slice none 0 0, .slice none 0 0, .slice none 0 0]] mixed (by kernel_rfl) ((((hS.pull 3).pull 5).pull 2).pull 4) ?_ ?_
                  · refine ⟨?_, ?_, ?_, ?_, ?_, ?_, ?_, ?_, ?_, ?_, ?_, ?_, ?_, trivial⟩
                    · intro Ep15u3 w l' hE15u3 hO15u3 hF_ hS
                      refine p (yl_move ((hE15u3 5 rfl).trans ec43u3_5)) <| x_done <|
                        ?_
                      refine x_fin ⟨⟨_, rfl⟩, rfl, ?_⟩
                      exact Eq.mp (by kernel_rfl) hS
                    · intro Ep15u3 w l' hE15u3 hO15u3 hF_ hS
                      refine p (yl_field0 fld_81_2 ((hE15u3 3 rfl).trans ec43u3_3)) <| x_done <|
                        ?_
                      refine x_fin ⟨⟨_, rfl⟩, rfl, ?_⟩
                      exact Eq.mp (by kernel_rfl) hS
                    · intro Ep15u3 w l' hE15u3 hO15u3 hF_ hS
                      obtain ⟨f15u3_1, -⟩ := hF_
                      replace f15u3_1 : Ep15u3 61 = .pointer (some ⟨b3, 2, none⟩) := Eq.mp (by kernel_rfl) f15u3_1
                      replace hS : St w0 w (cells b3 81 [.int .i64 r1_1.1, .int .i64 r1_3.1, .int .i64 r1_5.1, .slice A_b3_3_L3h b3_3_L3h.length c_b3_3_L3h, .slice none 0 0, .slice none 0 0] :: l') := Eq.mp (by kernel_rfl) hS
                      refine pa (at_load one_3 f15u3_1 (hS.cell rfl)) <| x_done <|
                        ?_
                      refine x_fin ⟨⟨_, rfl⟩, rfl, ?_⟩
                      exact Eq.mp (by kernel_rfl) hS
                    · intro Ep15u3 w l' hE15u3 hO15u3 hF_ hS
                      obtain ⟨f15u3_2, -⟩ := hF_
                      replace f15u3_2 : Ep15u3 62 = .int .i64 r1_5.1 := Eq.mp (by kernel_rfl) f15u3_2
                      refine p (ymul rfl f15u3_2 hx63u3) <| x_done <|
                        ?_
                      refine x_fin ⟨⟨_, rfl⟩, rfl, ?_⟩
                      exact Eq.mp (by kernel_rfl) hS
                    · intro Ep15u3 w l' hE15u3 hO15u3 hF_ hS
                      obtain ⟨f15u3_3, -⟩ := hF_
                      replace f15u3_3 : Ep15u3 63 = .int .i64 x63u3 := Eq.mp (by kernel_rfl) f15u3_3
                      refine p (yadd rfl f15u3_3 hx64u3) <| x_done <|
                        ?_
                      refine x_fin ⟨⟨_, rfl⟩, rfl, ?_⟩
                      exact Eq.mp (by kernel_rfl) hS
                    · intro Ep15u3 w l' hE15u3 hO15u3 hF_ hS
                      refine p (yl_move ((hE15u3 0 rfl).trans ec43u3_0)) <| x_done <|
                        ?_
                      refine x_fin ⟨⟨_, rfl⟩, rfl, ?_⟩
                      exact Eq.mp (by kernel_rfl) hS
                    · intro Ep15u3 w l' hE15u3 hO15u3 hF_ hS
                      refine p (yl_field0 fld_81_2 ((hE15u3 3 rfl).trans ec43u3_3)) <| x_done <|
                        ?_
                      refine x_fin ⟨⟨_, rfl⟩, rfl, ?_⟩
                      exact Eq.mp (by kernel_rfl) hS
                    · intro Ep15u3 w l' hE15u3 hO15u3 hF_ hS
                      obtain ⟨f15u3_6, -⟩ := hF_
                      replace f15u3_6 : Ep15u3 66 = .pointer (some ⟨b3, 2, none⟩) := Eq.mp (by kernel_rfl) f15u3_6
                      replace hS : St w0 w (cells b3 81 [.int .i64 r1_1.1, .int .i64 r1_3.1, .int .i64 r1_5.1, .slice A_b3_3_L3h b3_3_L3h.length c_b3_3_L3h, .slice none 0 0, .slice none 0 0] :: l') := Eq.mp (by kernel_rfl) hS
                      refine pa (at_load one_3 f15u3_6 (hS.cell rfl)) <| x_done <|
                        ?_
                      refine x_fin ⟨⟨_, rfl⟩, rfl, ?_⟩
                      exact Eq.mp (by kernel_rfl) hS
                    · intro Ep15u3 w l' hE15u3 hO15u3 hF_ hS
                      obtain ⟨f15u3_5, f15u3_7, -⟩ := hF_
                      replace f15u3_5 : Ep15u3 65 = .pointer (some ⟨b_s0, 0, none⟩) := Eq.mp (by kernel_rfl) f15u3_5
                      replace f15u3_7 : Ep15u3 67 = .int .i64 r1_5.1 := Eq.mp (by kernel_rfl) f15u3_7
                      replace hS : St w0 w (ro ρ_L3h :: cells b_s0 25 [.slice A_s0_0 s0.L.length c_s0_0, .int .i64 r8_1u3.2] :: l') := Eq.mp (by kernel_rfl) hS
                      have hcall := c_maskmake_Stream_Next hc15u3_8 (h_s0_0.le hleρ_L3h) (hS.pull 1)
                      refine o_cc call_15 (args2 f15u3_5 f15u3_7) hcall ?_
                      rintro e w' ⟨rfl, hS⟩
                      refine ⟨_, rfl, ?_⟩
                      refine x_done <|
                        ?_
                      refine x_fin ⟨⟨_, rfl⟩, rfl, ?_⟩
                      exact Eq.mp (by kernel_rfl) (hS.pull 1)
                    · intro Ep15u3 w l' hE15u3 hO15u3 hF_ hS
                      obtain ⟨f15u3_4, f15u3_8, -⟩ := hF_
                      replace f15u3_4 : Ep15u3 64 = .int .i64 x64u3 := Eq.mp (by kernel_rfl) f15u3_4
                      replace f15u3_8 : Ep15u3 68 = .int .i64 r15u3_8.1 := Eq.mp (by kernel_rfl) f15u3_8
                      refine p (yadd f15u3_4 f15u3_8 hx69u3) <| x_done <|
                        ?_
                      refine x_fin ⟨⟨_, rfl⟩, rfl, ?_⟩
                      exact Eq.mp (by kernel_rfl) hS
                    · intro Ep15u3 w l' hE15u3 hO15u3 hF_ hS
                      refine p (yl_field0 fld_183_2 ((hE15u3 4 rfl).trans ec43u3_4)) <| x_done <|
                        ?_
                      refine x_fin ⟨⟨_, rfl⟩, rfl, ?_⟩
                      exact Eq.mp (by kernel_rfl) hS
                    · intro Ep15u3 w l' hE15u3 hO15u3 hF_ hS
                      obtain ⟨f15u3_0, f15u3_10, -⟩ := hF_
                      replace f15u3_0 : Ep15u3 60 = .int .i64 1 := Eq.mp (by kernel_rfl) f15u3_0
                      replace f15u3_10 : Ep15u3 70 = .pointer (some ⟨b4, 2, none⟩) := Eq.mp (by kernel_rfl) f15u3_10
                      refine p (yl_ixa (x := .tmp 70) (y := .tmp 60) (q := 3) arr_180 f15u3_10 f15u3_0 (by decide) rfl) <| x_done <|
                        ?_
                      refine x_fin ⟨⟨_, rfl⟩, rfl, ?_⟩
                      exact Eq.mp (by kernel_rfl) hS
                    · intro Ep15u3 w l' hE15u3 hO15u3 hF_ hS
                      obtain ⟨f15u3_9, f15u3_11, -⟩ := hF_
                      replace f15u3_9 : Ep15u3 69 = .int .i64 x69u3 := Eq.mp (by kernel_rfl) f15u3_9
                      replace f15u3_11 : Ep15u3 71 = .pointer (some ⟨b4, 3, none⟩) := Eq.mp (by kernel_rfl) f15u3_11
                      replace hS : St w0 w (cells b4 183 [.int .u16 x25, .bool r4_4.1, .int .i64 b4_2_c34u4, .int .i64 0, .int .i64 0, .int .i64 0, .slice none 0 0, .slice none 0 0, .slice none 0 0, .slice none 0 0] :: l') := Eq.mp (by kernel_rfl) hS
                      refine o_store1 (v := .int .i64 x69u3) one_3 f15u3_11 f15u3_9 rfl rfl hS (fun w' hS => ?_)
                      refine x_done <|
                        ?_
                      refine x_fin ⟨⟨undef, rfl⟩, trivial, ?_⟩
                      exact Eq.mp (by kernel_rfl) hS
                  intro Ep15u3 w' hE15u3 hF_ hS
                  obtain ⟨f15u3_0, f15u3_1, f15u3_2, f15u3_3, f15u3_4, f15u3_5, f15u3_6, f15u3_7, f15u3_8, f15u3_9, f15u3_10, f15u3_11, -⟩ := hF_
                  replace f15u3_0 : Ep15u3 60 = .int .i64 1 := Eq.mp (by kernel_rfl) f15u3_0
                  replace f15u3_1 : Ep15u3 61 = .pointer (some ⟨b3, 2, none⟩) := Eq.mp (by kernel_rfl) f15u3_1
                  replace f15u3_2 : Ep15u3 62 = .int .i64 r1_5.1 := Eq.mp (by kernel_rfl) f15u3_2
                  replace f15u3_3 : Ep15u3 63 = .int .i64 x63u3 := Eq.mp (by kernel_rfl) f15u3_3
                  replace f15u3_4 : Ep15u3 64 = .int .i64 x64u3 := Eq.mp (by kernel_rfl) f15u3_4
                  replace f15u3_5 : Ep15u3 65 = .pointer (some ⟨b_s0, 0, none⟩) := Eq.mp (by kernel_rfl) f15u3_5
                  replace f15u3_6 : Ep15u3 66 = .pointer (some ⟨b3, 2, none⟩) := Eq.mp (by kernel_rfl) f15u3_6
                  replace f15u3_7 : Ep15u3 67 = .int .i64 r1_5.1 := Eq.mp (by kernel_rfl) f15u3_7
                  replace f15u3_8 : Ep15u3 68 = .int .i64 r15u3_8.1 := Eq.mp (by kernel_rfl) f15u3_8
                  replace f15u3_9 : Ep15u3 69 = .int .i64 x69u3 := Eq.mp (by kernel_rfl) f15u3_9
                  replace f15u3_10 : Ep15u3 70 = .pointer (some ⟨b4, 2, none⟩) := Eq.mp (by kernel_rfl) f15u3_10
                  replace f15u3_11 : Ep15u3 71 = .pointer (some ⟨b4, 3, none⟩) := Eq.mp (by kernel_rfl) f15u3_11
                  replace hS : St w0 w' (cells b3 81 [.int .i64 r1_1.1, .int .i64 r1_3.1, .int .i64 r1_5.1, .slice A_b3_3_L3h b3_3_L3h.length c_b3_3_L3h, .slice none 0 0, .slice none 0 0] :: ro ρ_L3h :: cells b_s0 25 [.slice A_s0_0 s0.L.length c_s0_0, .int .i64 r15u3_8.2] :: cells b4 183 [.int .u16 x25, .bool r4_4.1, .int .i64 b4_2_c34u4, .int .i64 x69u3, .int .i64 0, .int .i64 0, .slice none 0 0, .slice none 0 0, .slice none 0 0, .slice none 0 0] :: (cells b2 81 [.int .i64 0, .int .i64 0, .int .i64 0, .slice none 0 0, .slice none 0 0, .slice none 0 0] :: vec 183 R_array_Tile.sz (.slice A_b3_3_L3h b3_3_L3h.length c_b3_3_L3h) b3_3_L3h.length cs_b3_3_L3h :: l)) := Eq.mp (by kernel_rfl) hS
                  exact x_inv ⟨r15u3_8.2, x69u3, (Option.some.inj (show some _ = some _ from hFc58u3)), ((hE15u3 0 rfl).trans ec43u3_0), ((hE15u3 2 rfl).trans ec43u3_2), ((hE15u3 3 rfl).trans ec43u3_3), ((hE15u3 4 rfl).trans ec43u3_4), ((hE15u3 20 rfl).trans ec43u3_20), ((hE15u3 21 rfl).trans ec43u3_21), ((hE15u3 29 rfl).trans ec43u3_29), ((((((hS.pull 1).pull 5).pull 4).pull 3).pull 5).pull 5)⟩
                · replace hFc58u3 := it_f hc58u3 hFc58u3
                  refine x_skip <|
                    ?_
                  exact x_inv ⟨r8_1u3.2, 0, (Option.some.inj (show some _ = some _ from hFc58u3)), ec43u3_0, ec43u3_2, ec43u3_3, ec43u3_4, ec43u3_20, ec43u3_21, ec43u3_29, ((((((hS.pull 5).pull 5).pull 5).pull 5).pull 5).pull 5)⟩
              rintro E w ⟨b_s0_1_c58u3, b4_3_c58u3, rfl, ec58u3_0, ec58u3_2, ec58u3_3, ec58u3_4, ec58u3_20, ec58u3_21, ec58u3_29, hS⟩
              exact x_inv ⟨b_s0_1_c58u3, b4_3_c58u3, (Option.some.inj (show some _ = some _ from hFc43_2u3)), ec58u3_0, ec58u3_2, ec58u3_3, ec58u3_4, ec58u3_20, ec58u3_21, ec58u3_29, ((((((hS.pull 5).pull 5).pull 5).pull 5).pull 5).pull 5)⟩
          rintro E w ⟨b_s0_1_c43_2u3, b4_3_c43_2u3, rfl, ec43_2u3_0, ec43_2u3_2, ec43_2u3_3, ec43_2u3_4, ec43_2u3_20, ec43_2u3_21, ec43_2u3_29, hS⟩
          exact x_inv ⟨b_s0_1_c43_2u3, b4_3_c43_2u3, (Option.some.inj (show some _ = some _ from hFc34u3)), ec43_2u3_0, ec43_2u3_2, ec43_2u3_3, ec43_2u3_4, ec43_2u3_20, ec43_2u3_21, ec43_2u3_29, ((((((hS.pull 5).pull 5).pull 5).pull 5).pull 5).pull 5)⟩
      rintro E w ⟨b_s0_1_c34u3, b4_3_c34u3, rfl, ec34u3_0, ec34u3_2, ec34u3_3, ec34u3_4, ec34u3_20, ec34u3_21, ec34u3_29, hS⟩
      replace hFL3 := bd_s hFL3; obtain ⟨r8_1u2, hc8_1u2, hFL3⟩ := hFL3
      refine x_blk <| x_blk <| x_region <| p (yadd (c := 2) ec34u3_29 rfl ⟨rfl, by decide⟩) <|
        p (yl_move rfl) <| x_done <| x_un 2 <| x_seq <|
        x_region <| p (ylss_l (t := true) rfl rfl (by decide)) <| x_done <| x_seq <|
        x_cond_t (show ev _ _ = .bool true from rfl) <| x_skip <| x_seq <| x_block <|
        x_seq <| x_region <| p (yl_move rfl) <| p (yl_assign rfl) <|
        x_done <| x_seq <| x_region <| p (yl_move ec34u3_0) <|
        ?_
      have hcall := c_maskmake_Stream_Next hc8_1u2 (h_s0_0.le hleρ_L3h) ((hS.pull 5).pull 1)
      refine o_cc call_15 (args2 rfl rfl) hcall ?_
      rintro e w' ⟨rfl, hS⟩
      refine ⟨_, rfl, ?_⟩
      refine x_done <| x_block <| x_seq <| x_region <|
        p (yl_eql rfl rfl) <| p (yl_assign rfl) <| x_done <|
        ?_
      replace hFL3 := bd_s hFL3; obtain ⟨oc34u2, hFc34u2, hFL3⟩ := hFL3
      refine x_join (fun E w => ∃ (b_s0_1_c34u2 : Int) (b4_4_c34u2 : Int), (b_s0_1_c34u2, b4_4_c34u2) = oc34u2 ∧ E 0 = .pointer (some ⟨b_s0, 0, none⟩) ∧ E 2 = .pointer (some ⟨b2, 0, none⟩) ∧ E 3 = .pointer (some ⟨b3, 0, none⟩) ∧ E 4 = .pointer (some ⟨b4, 0, none⟩) ∧ E 20 = .int .i64 x20 ∧ E 21 = .int .i64 y21_L3h ∧ E 29 = .int .i64 2 ∧ St w0 w (cells b_s0 25 [.slice A_s0_0 s0.L.length c_s0_0, .int .i64 b_s0_1_c34u2] :: cells b2 81 [.int .i64 0, .int .i64 0, .int .i64 0, .slice none 0 0, .slice none 0 0, .slice none 0 0] :: cells b3 81 [.int .i64 r1_1.1, .int .i64 r1_3.1, .int .i64 r1_5.1, .slice A_b3_3_L3h b3_3_L3h.length c_b3_3_L3h, .slice none 0 0, .slice none 0 0] :: cells b4 183 [.int .u16 x25, .bool r4_4.1, .int .i64 b4_2_c34u4, .int .i64 b4_3_c34u3, .int .i64 b4_4_c34u2, .int .i64 0, .slice none 0 0, .slice none 0 0, .slice none 0 0, .slice none 0 0] :: vec 183 R_array_Tile.sz (.slice A_b3_3_L3h b3_3_L3h.length c_b3_3_L3h) b3_3_L3h.length cs_b3_3_L3h :: ro ρ_L3h :: l)) ?_ ?_
      · skip -- c34u2
        refine x_cond_p (r8_1u2.1 = 0) rfl (fun hc34u2 => ?_) (fun hc34u2 => ?_)
        · replace hFc34u2 := it_t hc34u2 hFc34u2
          replace hFc34u2 := ar_s hFc34u2; obtain ⟨x39u2, hx39u2, hFc34u2⟩ := hFc34u2
          replace hFc34u2 := ar_s hFc34u2; obtain ⟨x40u2, hx40u2, hFc34u2⟩ := hFc34u2
          refine x_region <| p (yl_move rfl) <| p (yl_field0 fld_81_2 ec34u3_3) <| pa (at_load one_3 rfl ((hS.pull 3).cell rfl)) <|
            p (ymul rfl rfl hx39u2) <| p (yadd rfl rfl hx40u2) <| p (yl_field0 fld_183_2 ec34u3_4) <| p (yl_ixa (x := .tmp 41) (y := .tmp 36) (q := 4) arr_180 rfl rfl (by decide) rfl) <|
            ?_
          refine o_store1 (v := .int .i64 x40u2) one_3 rfl rfl rfl rfl (hS.pull 4) (fun w' hS => ?_)
          refine x_done <|
            ?_
          exact x_inv ⟨r8_1u2.2, x40u2, (Option.some.inj (show some _ = some _ from hFc34u2)), ec34u3_0, ec34u3_2, ec34u3_3, ec34u3_4, ec34u3_20, ec34u3_21, rfl, ((((((hS.pull 2).pull 5).pull 2).pull 5).pull 5).pull 5)⟩
        · replace hFc34u2 := it_f hc34u2 hFc34u2
          refine x_seq <| x_seq <| x_region <| p (yl_eql rfl rfl) <|
            p (yl_assign rfl) <| x_done <|
            ?_
          replace hFc34u2 := bd_s hFc34u2; obtain ⟨oc43u2, hFc43u2, hFc34u2⟩ := hFc34u2
          refine x_join (fun E w => ∃ (y43_c43u2 : Bool), y43_c43u2 = oc43u2 ∧ E 0 = .pointer (some ⟨b_s0, 0, none⟩) ∧ E 2 = .pointer (some ⟨b2, 0, none⟩) ∧ E 3 = .pointer (some ⟨b3, 0, none⟩) ∧ E 4 = .pointer (some ⟨b4, 0, none⟩) ∧ E 5 = .int .i64 2 ∧ E 20 = .int .i64 x20 ∧ E 21 = .int .i64 y21_L3h ∧ E 29 = .int .i64 2 ∧ E 33 = .int .i64 r8_1u2.1 ∧ E 43 = .bool y43_c43u2 ∧ St w0 w (cells b_s0 25 [.slice A_s0_0 s0.L.length c_s0_0, .int .i64 r8_1u2.2] :: cells b2 81 [.int .i64 0, .int .i64 0, .int .i64 0, .slice none 0 0, .slice none 0 0, .slice none 0 0] :: cells b3 81 [.int .i64 r1_1.1, .int .i64 r1_3.1, .int .i64 r1_5.1, .slice A_b3_3_L3h b3_3_L3h.length c_b3_3_L3h, .slice none 0 0, .slice none 0 0] :: cells b4 183 [.int .u16 x25, .bool r4_4.1, .int .i64 b4_2_c34u4, .int .i64 b4_3_c34u3, .int .i64 0, .int .i64 0, .slice none 0 0, .slice none 0 0, .slice none 0 0, .slice none 0 0] :: vec 183 R_array_Tile.sz (.slice A_b3_3_L3h b3_3_L3h.length c_b3_3_L3h) b3_3_L3h.length cs_b3_3_L3h :: ro ρ_L3h :: l)) ?_ ?_
          · skip -- c43u2
            refine x_cond_p (r8_1u2.1 = 1) rfl (fun hc43u2 => ?_) (fun hc43u2 => ?_)
            · replace hFc43u2 := it_t hc43u2 hFc43u2
              refine x_skip <|
                ?_
              exact x_inv ⟨decide (r8_1u2.1 = 1), (Option.some.inj (show some _ = some _ from hFc43u2)), ec34u3_0, ec34u3_2, ec34u3_3, ec34u3_4, rfl, ec34u3_20, ec34u3_21, rfl, rfl, rfl, ((((((hS.pull 1).pull 5).pull 5).pull 5).pull 5).pull 5)⟩
            · replace hFc43u2 := it_f hc43u2 hFc43u2
              refine x_region <| p (yl_eql rfl rfl) <| p (yl_assign rfl) <| x_done <|
                ?_
              exact x_inv ⟨decide (r8_1u2.1 = 2), (Option.some.inj (show some _ = some _ from hFc43u2)), ec34u3_0, ec34u3_2, ec34u3_3, ec34u3_4, rfl, ec34u3_20, ec34u3_21, rfl, rfl, rfl, ((((((hS.pull 1).pull 5).pull 5).pull 5).pull 5).pull 5)⟩
          rintro E w ⟨y43_c43u2, rfl, ec43u2_0, ec43u2_2, ec43u2_3, ec43u2_4, ec43u2_5, ec43u2_20, ec43u2_21, ec43u2_29, ec43u2_33, ec43u2_43, hS⟩
          replace hFc34u2 := bd_s hFc34u2; obtain ⟨oc43_2u2, hFc43_2u2, hFc34u2⟩ := hFc34u2
          refine x_join (fun E w => ∃ (b_s0_1_c43_2u2 : Int) (b4_4_c43_2u2 : Int), (b_s0_1_c43_2u2, b4_4_c43_2u2) = oc43_2u2 ∧ E 0 = .pointer (some ⟨b_s0, 0, none⟩) ∧ E 2 = .pointer (some ⟨b2, 0, none⟩) ∧ E 3 = .pointer (some ⟨b3, 0, none⟩) ∧ E 4 = .pointer (some ⟨b4, 0, none⟩) ∧ E 20 = .int .i64 x20 ∧ E 21 = .int .i64 y21_L3h ∧ E 29 = .int .i64 2 ∧ St w0 w (cells b_s0 25 [.slice A_s0_0 s0.L.length c_s0_0, .int .i64 b_s0_1_c43_2u2] :: cells b2 81 [.int .i64 0, .int .i64 0, .int .i64 0, .slice none 0 0, .slice none 0 0, .slice none 0 0] :: cells b3 81 [.int .i64 r1_1.1, .int .i64 r1_3.1, .int .i64 r1_5.1, .slice A_b3_3_L3h b3_3_L3h.length c_b3_3_L3h, .slice none 0 0, .slice none 0 0] :: cells b4 183 [.int .u16 x25, .bool r4_4.1, .int .i64 b4_2_c34u4, .int .i64 b4_3_c34u3, .int .i64 b4_4_c43_2u2, .int .i64 0, .slice none 0 0, .slice none 0 0, .slice none 0 0, .slice none 0 0] :: vec 183 R_array_Tile.sz (.slice A_b3_3_L3h b3_3_L3h.length c_b3_3_L3h) b3_3_L3h.length cs_b3_3_L3h :: ro ρ_L3h :: l)) ?_ ?_
          · skip -- c43_2u2
            refine x_cond (t := y43_c43u2) ec43u2_43 (fun hc43u2 => ?_) (fun hc43u2 => ?_)
            · replace hFc43_2u2 := it_t hc43u2 hFc43_2u2
              replace hFc43_2u2 := ar_s hFc43_2u2; obtain ⟨x49u2, hx49u2, hFc43_2u2⟩ := hFc43_2u2
              replace hFc43_2u2 := ar_s hFc43_2u2; obtain ⟨x50u2, hx50u2, hFc43_2u2⟩ := hFc43_2u2
              replace hFc43_2u2 := bd_s hFc43_2u2; obtain ⟨r13u2_8, hc13u2_8, hFc43_2u2⟩ := hFc43_2u2
              replace hFc43_2u2 := ar_s hFc43_2u2; obtain ⟨x55u2, hx55u2, hFc43_2u2⟩ := hFc43_2u2
              refine x_par (w0 := w0) [⟨[], [], [46], [], [], []⟩, ⟨[], [], [47], [], [], []⟩, ⟨[1], [1], [48], [0], [], []⟩, ⟨[1, 2], [2], [49], [], [], []⟩, ⟨[1, 2, 3], [3], [50], [], [], []⟩, ⟨[], [], [51], [], [], []⟩, ⟨[], [], [52], [], [], []⟩, ⟨[6], [6], [53], [0], [], []⟩, ⟨[5, 6, 7], [5, 7], [54], [2], [1], [3]⟩, ⟨[1, 2, 3, 4, 5, 6, 7, 8], [4, 8], [55], [], [], []⟩, ⟨[], [], [56], [], [], []⟩, ⟨[0, 1, 2, 3, 4, 5, 6, 7, 8, 9, 10], [0, 10], [57], [], [], []⟩, ⟨[0, 1, 2, 3, 4, 5, 6, 7, 8, 9, 10, 11], [9, 11], [], [], [4], [5]⟩] [⟨none, none, []⟩, ⟨none, (some 8), []⟩, ⟨none, none, []⟩, ⟨(some 8), none, []⟩, ⟨none, (some 12), []⟩, ⟨(some 12), none, []⟩] [46, 47, 48, 49, 50, 51, 52, 53, 54, 55, 56, 57] [0, 1, 2, 4] [0, 2, 3, 5] [0, 1, 2, 3, 4, 5, 6, 7, 8, 9, 10, 11] [fun Ep13u2 => Ep13u2 46 = .int .i64 2, fun Ep13u2 => Ep13u2 47 = .pointer (some ⟨b3, 2, none⟩), fun Ep13u2 => Ep13u2 48 = .int .i64 r1_5.1, fun Ep13u2 => Ep13u2 49 = .int .i64 x49u2, fun Ep13u2 => Ep13u2 50 = .int .i64 x50u2, fun Ep13u2 => Ep13u2 51 = .pointer (some ⟨b_s0, 0, none⟩), fun Ep13u2 => Ep13u2 52 = .pointer (some ⟨b3, 2, none⟩), fun Ep13u2 => Ep13u2 53 = .int .i64 r1_5.1, fun Ep13u2 => Ep13u2 54 = .int .i64 r13u2_8.1, fun Ep13u2 => Ep13u2 55 = .int .i64 x55u2, fun Ep13u2 => Ep13u2 56 = .pointer (some ⟨b4, 2, none⟩), fun Ep13u2 => Ep13u2 57 = .pointer (some ⟨b4, 4, none⟩), fun Ep13u2 => True] [fun Ep13u2 => cells b3 81 [.int .i64 r1_1.1, .int .i64 r1_3.1, .int .i64 r1_5.1, .slice A_b3_3_L3h b3_3_L3h.length c_b3_3_L3h, .slice none 0 0, .slice none 0 0], fun Ep13u2 => cells b_s0 25 [.slice A_s0_0 s0.L.length c_s0_0, .int .i64 r8_1u2.2], fun Ep13u2 => ro ρ_L3h, fun Ep13u2 => cells b_s0 25 [.slice A_s0_0 s0.L.length c_s0_0, .int .i64 r13u2_8.2], fun Ep13u2 => cells b4 183 [.int .u16 x25, .bool r4_4.1, .int .i64 b4_2_c34u4, .int .i64 b4_3_c34u3, .int .i64 0, .int .i64 0, .slice none 0 0, .slice none 0 0, .slice none 0 0, .slice none 0 0], fun Ep13u2 => cells b4 183 [.int .u16 x25, .bool r4_4.1, .int .i64 b4_2_c34u4, .int .i64 b4_3_c34u3, .int .i64 x55u2, .int .i64 0, .slice none 0 0, .slice none 0 0, .slice none 0 0, .slice none 0 0]] mixed (by kernel_rfl) ((((hS.pull 3).pull 5).pull 2).pull 4) ?_ ?_
              · refine ⟨?_, ?_, ?_, ?_, ?_, ?_, ?_, ?_, ?_, ?_, ?_, ?_, ?_, trivial⟩
                · intro Ep13u2 w l' hE13u2 hO13u2 hF_ hS
                  refine p (yl_move ((hE13u2 5 rfl).trans ec43u2_5)) <| x_done <|
                    ?_
                  refine x_fin ⟨⟨_, rfl⟩, rfl, ?_⟩
                  exact Eq.mp (by kernel_rfl) hS
                · intro Ep13u2 w l' hE13u2 hO13u2 hF_ hS
                  refine p (yl_field0 fld_81_2 ((hE13u2 3 rfl).trans ec43u2_3)) <| x_done <|
                    ?_
                  refine x_fin ⟨⟨_, rfl⟩, rfl, ?_⟩
                  exact Eq.mp (by kernel_rfl) hS
                · intro Ep13u2 w l' hE13u2 hO13u2 hF_ hS
                  obtain ⟨f13u2_1, -⟩ := hF_
                  replace f13u2_1 : Ep13u2 47 = .pointer (some ⟨b3, 2, none⟩) := Eq.mp (by kernel_rfl) f13u2_1
                  replace hS : St w0 w (cells b3 81 [.int .i64 r1_1.1, .int .i64 r1_3.1, .int .i64 r1_5.1, .slice A_b3_3_L3h b3_3_L3h.length c_b3_3_L3h, .slice none 0 0, .slice none 0 0] :: l') := Eq.mp (by kernel_rfl) hS
                  refine pa (at_load one_3 f13u2_1 (hS.cell rfl)) <| x_done <|
                    ?_
                  refine x_fin ⟨⟨_, rfl⟩, rfl, ?_⟩
                  exact Eq.mp (by kernel_rfl) hS
                · intro Ep13u2 w l' hE13u2 hO13u2 hF_ hS
                  obtain ⟨f13u2_2, -⟩ := hF_
                  replace f13u2_2 : Ep13u2 48 = .int .i64 r1_5.1 := Eq.mp (by kernel_rfl) f13u2_2
                  refine p (ymul rfl f13u2_2 hx49u2) <| x_done <|
                    ?_
                  refine x_fin ⟨⟨_, rfl⟩, rfl, ?_⟩
                  exact Eq.mp (by kernel_rfl) hS
                · intro Ep13u2 w l' hE13u2 hO13u2 hF_ hS
                  obtain ⟨f13u2_3, -⟩ := hF_
                  replace f13u2_3 : Ep13u2 49 = .int .i64 x49u2 := Eq.mp (by kernel_rfl) f13u2_3
                  refine p (yadd rfl f13u2_3 hx50u2) <| x_done <|
                    ?_
                  refine x_fin ⟨⟨_, rfl⟩, rfl, ?_⟩
                  exact Eq.mp (by kernel_rfl) hS
                · intro Ep13u2 w l' hE13u2 hO13u2 hF_ hS
                  refine p (yl_move ((hE13u2 0 rfl).trans ec43u2_0)) <| x_done <|
                    ?_
                  refine x_fin ⟨⟨_, rfl⟩, rfl, ?_⟩
                  exact Eq.mp (by kernel_rfl) hS
                · intro Ep13u2 w l' hE13u2 hO13u2 hF_ hS
                  refine p (yl_field0 fld_81_2 ((hE13u2 3 rfl).trans ec43u2_3)) <| x_done <|
                    ?_
                  refine x_fin ⟨⟨_, rfl⟩, rfl, ?_⟩
                  exact Eq.mp (by kernel_rfl) hS
                · intro Ep13u2 w l' hE13u2 hO13u2 hF_ hS
                  obtain ⟨f13u2_6, -⟩ := hF_
                  replace f13u2_6 : Ep13u2 52 = .pointer (some ⟨b3, 2, none⟩) := Eq.mp (by kernel_rfl) f13u2_6
                  replace hS : St w0 w (cells b3 81 [.int .i64 r1_1.1, .int .i64 r1_3.1, .int .i64 r1_5.1, .slice A_b3_3_L3h b3_3_L3h.length c_b3_3_L3h, .slice none 0 0, .slice none 0 0] :: l') := Eq.mp (by kernel_rfl) hS
                  refine pa (at_load one_3 f13u2_6 (hS.cell rfl)) <| x_done <|
                    ?_
                  refine x_fin ⟨⟨_, rfl⟩, rfl, ?_⟩
                  exact Eq.mp (by kernel_rfl) hS
                · intro Ep13u2 w l' hE13u2 hO13u2 hF_ hS
                  obtain ⟨f13u2_5, f13u2_7, -⟩ := hF_
                  replace f13u2_5 : Ep13u2 51 = .pointer (some ⟨b_s0, 0, none⟩) := Eq.mp (by kernel_rfl) f13u2_5
                  replace f13u2_7 : Ep13u2 53 = .int .i64 r1_5.1 := Eq.mp (by kernel_rfl) f13u2_7
                  replace hS : St w0 w (ro ρ_L3h :: cells b_s0 25 [.slice A_s0_0 s0.L.length c_s0_0, .int .i64 r8_1u2.2] :: l') := Eq.mp (by kernel_rfl) hS
                  have hcall := c_maskmake_Stream_Next hc13u2_8 (h_s0_0.le hleρ_L3h) (hS.pull 1)
                  refine o_cc call_15 (args2 f13u2_5 f13u2_7) hcall ?_
                  rintro e w' ⟨rfl, hS⟩
                  refine ⟨_, rfl, ?_⟩
                  refine x_done <|
                    ?_
                  refine x_fin ⟨⟨_, rfl⟩, rfl, ?_⟩
                  exact Eq.mp (by kernel_rfl) (hS.pull 1)
                · intro Ep13u2 w l' hE13u2 hO13u2 hF_ hS
                  obtain ⟨f13u2_4, f13u2_8, -⟩ := hF_
                  replace f13u2_4 : Ep13u2 50 = .int .i64 x50u2 := Eq.mp (by kernel_rfl) f13u2_4
                  replace f13u2_8 : Ep13u2 54 = .int .i64 r13u2_8.1 := Eq.mp (by kernel_rfl) f13u2_8
                  refine p (yadd f13u2_4 f13u2_8 hx55u2) <| x_done <|
                    ?_
                  refine x_fin ⟨⟨_, rfl⟩, rfl, ?_⟩
                  exact Eq.mp (by kernel_rfl) hS
                · intro Ep13u2 w l' hE13u2 hO13u2 hF_ hS
                  refine p (yl_field0 fld_183_2 ((hE13u2 4 rfl).trans ec43u2_4)) <| x_done <|
                    ?_
                  refine x_fin ⟨⟨_, rfl⟩, rfl, ?_⟩
                  exact Eq.mp (by kernel_rfl) hS
                · intro Ep13u2 w l' hE13u2 hO13u2 hF_ hS
                  obtain ⟨f13u2_0, f13u2_10, -⟩ := hF_
                  replace f13u2_0 : Ep13u2 46 = .int .i64 2 := Eq.mp (by kernel_rfl) f13u2_0
                  replace f13u2_10 : Ep13u2 56 = .pointer (some ⟨b4, 2, none⟩) := Eq.mp (by kernel_rfl) f13u2_10
                  refine p (yl_ixa (x := .tmp 56) (y := .tmp 46) (q := 4) arr_180 f13u2_10 f13u2_0 (by decide) rfl) <| x_done <|
                    ?_
                  refine x_fin ⟨⟨_, rfl⟩, rfl, ?_⟩
                  exact Eq.mp (by kernel_rfl) hS
                · intro Ep13u2 w l' hE13u2 hO13u2 hF_ hS
                  obtain ⟨f13u2_9, f13u2_11, -⟩ := hF_
                  replace f13u2_9 : Ep13u2 55 = .int .i64 x55u2 := Eq.mp (by kernel_rfl) f13u2_9
                  replace f13u2_11 : Ep13u2 57 = .pointer (some ⟨b4, 4, none⟩) := Eq.mp (by kernel_rfl) f13u2_11
                  replace hS : St w0 w (cells b4 183 [.int .u16 x25, .bool r4_4.1, .int .i64 b4_2_c34u4, .int .i64 b4_3_c34u3, .int .i64 0, .int .i64 0, .slice none 0 0, .slice none 0 0, .slice none 0 0, .slice none 0 0] :: l') := Eq.mp (by kernel_rfl) hS
                  refine o_store1 (v := .int .i64 x55u2) one_3 f13u2_11 f13u2_9 rfl rfl hS (fun w' hS => ?_)
                  refine x_done <|
                    ?_
                  refine x_fin ⟨⟨undef, rfl⟩, trivial, ?_⟩
                  exact Eq.mp (by kernel_rfl) hS
              intro Ep13u2 w' hE13u2 hF_ hS
              obtain ⟨f13u2_0, f13u2_1, f13u2_2, f13u2_3, f13u2_4, f13u2_5, f13u2_6, f13u2_7, f13u2_8, f13u2_9, f13u2_10, f13u2_11, -⟩ := hF_
              replace f13u2_0 : Ep13u2 46 = .int .i64 2 := Eq.mp (by kernel_rfl) f13u2_0
              replace f13u2_1 : Ep13u2 47 = .pointer (some ⟨b3, 2, none⟩) := Eq.mp (by kernel_rfl) f13u2_1
              replace f13u2_2 : Ep13u2 48 = .int .i64 r1_5.1 := Eq.mp (by kernel_rfl) f13u2_2
              replace f13u2_3 : Ep13u2 49 = .int .i64 x49u2 := Eq.mp (by kernel_rfl) f13u2_3
              replace f13u2_4 : Ep13u2 50 = .int .i64 x50u2 := Eq.mp (by kernel_rfl) f13u2_4
              replace f13u2_5 : Ep13u2 51 = .pointer (some ⟨b_s0, 0, none⟩) := Eq.mp (by kernel_rfl) f13u2_5
              replace f13u2_6 : Ep13u2 52 = .pointer (some ⟨b3, 2, none⟩) := Eq.mp (by kernel_rfl) f13u2_6
              replace f13u2_7 : Ep13u2 53 = .int .i64 r1_5.1 := Eq.mp (by kernel_rfl) f13u2_7
              replace f13u2_8 : Ep13u2 54 = .int .i64 r13u2_8.1 := Eq.mp (by kernel_rfl) f13u2_8
              replace f13u2_9 : Ep13u2 55 = .int .i64 x55u2 := Eq.mp (by kernel_rfl) f13u2_9
              replace f13u2_10 : Ep13u2 56 = .pointer (some ⟨b4, 2, none⟩) := Eq.mp (by kernel_rfl) f13u2_10
              replace f13u2_11 : Ep13u2 57 = .pointer (some ⟨b4, 4, none⟩) := Eq.mp (by kernel_rfl) f13u2_11
              replace hS : St w0 w' (cells b3 81 [.int .i64 r1_1.1, .int .i64 r1_3.1, .int .i64 r1_5.1, .slice A_b3_3_L3h b3_3_L3h.length c_b3_3_L3h, .slice none 0 0, .slice none 0 0] :: ro ρ_L3h :: cells b_s0 25 [.slice A_s0_0 s0.L.length c_s0_0, .int .i64 r13u2_8.2] :: cells b4 183 [.int .u16 x25, .bool r4_4.1, .int .i64 b4_2_c34u4, .int .i64 b4_3_c34u3, .int .i64 x55u2, .int .i64 0, .slice none 0 0, .slice none 0 0, .slice none 0 0, .slice none 0 0] :: (cells b2 81 [.int .i64 0, .int .i64 0, .int .i64 0, .slice none 0 0, .slice none 0 0, .slice none 0 0] :: vec 183 R_array_Tile.sz (.slice A_b3_3_L3h b3_3_L3h.length c_b3_3_L3h) b3_3_L3h.length cs_b3_3_L3h :: l)) := Eq.mp (by kernel_rfl) hS
              exact x_inv ⟨r13u2_8.2, x55u2, (Option.some.inj (show some _ = some _ from hFc43_2u2)), ((hE13u2 0 rfl).trans ec43u2_0), ((hE13u2 2 rfl).trans ec43u2_2), ((hE13u2 3 rfl).trans ec43u2_3), ((hE13u2 4 rfl).trans ec43u2_4), ((hE13u2 20 rfl).trans ec43u2_20), ((hE13u2 21 rfl).trans ec43u2_21), ((hE13u2 29 rfl).trans ec43u2_29), ((((((hS.pull 1).pull 5).pull 4).pull 3).pull 5).pull 5)⟩
            · replace hFc43_2u2 := it_bf hc43u2 hFc43_2u2
              refine x_seq <| x_region <| p (yl_eql ec43u2_33 rfl) <| p (yl_assign rfl) <|
                x_done <|
                ?_
              replace hFc43_2u2 := bd_s hFc43_2u2; obtain ⟨oc58u2, hFc58u2, hFc43_2u2⟩ := hFc43_2u2
              refine x_join (fun E w => ∃ (b_s0_1_c58u2 : Int) (b4_4_c58u2 : Int), (b_s0_1_c58u2, b4_4_c58u2) = oc58u2 ∧ E 0 = .pointer (some ⟨b_s0, 0, none⟩) ∧ E 2 = .pointer (some ⟨b2, 0, none⟩) ∧ E 3 = .pointer (some ⟨b3, 0, none⟩) ∧ E 4 = .pointer (some ⟨b4, 0, none⟩) ∧ E 20 = .int .i64 x20 ∧ E 21 = .int .i64 y21_L3h ∧ E 29 = .int .i64 2 ∧ St w0 w (cells b_s0 25 [.slice A_s0_0 s0.L.length c_s0_0, .int .i64 b_s0_1_c58u2] :: cells b2 81 [.int .i64 0, .int .i64 0, .int .i64 0, .slice none 0 0, .slice none 0 0, .slice none 0 0] :: cells b3 81 [.int .i64 r1_1.1, .int .i64 r1_3.1, .int .i64 r1_5.1, .slice A_b3_3_L3h b3_3_L3h.length c_b3_3_L3h, .slice none 0 0, .slice none 0 0] :: cells b4 183 [.int .u16 x25, .bool r4_4.1, .int .i64 b4_2_c34u4, .int .i64 b4_3_c34u3, .int .i64 b4_4_c58u2, .int .i64 0, .slice none 0 0, .slice none 0 0, .slice none 0 0, .slice none 0 0] :: vec 183 R_array_Tile.sz (.slice A_b3_3_L3h b3_3_L3h.length c_b3_3_L3h) b3_3_L3h.length cs_b3_3_L3h :: ro ρ_L3h :: l)) ?_ ?_
              · skip -- c58u2
                refine x_cond_p (r8_1u2.1 = 3) rfl (fun hc58u2 => ?_) (fun hc58u2 => ?_)
                · replace hFc58u2 := it_t hc58u2 hFc58u2
                  replace hFc58u2 := ar_s hFc58u2; obtain ⟨x63u2, hx63u2, hFc58u2⟩ := hFc58u2
                  replace hFc58u2 := ar_s hFc58u2; obtain ⟨x64u2, hx64u2, hFc58u2⟩ := hFc58u2
                  replace hFc58u2 := bd_s hFc58u2; obtain ⟨r15u2_8, hc15u2_8, hFc58u2⟩ := hFc58u2
                  replace hFc58u2 := ar_s hFc58u2; obtain ⟨x69u2, hx69u2, hFc58u2⟩ := hFc58u2
                  refine x_par (w0 := w0) [⟨[], [], [60], [], [], []⟩, ⟨[], [], [61], [], [], []⟩, ⟨[1], [1], [62], [0], [], []⟩, ⟨[1, 2], [2], [63], [], [], []⟩, ⟨[1, 2, 3], [3], [64], [], [], []⟩, ⟨[], [], [65], [], [], []⟩, ⟨[], [], [66], [], [], []⟩, ⟨[6], [6], [67], [0], [], []⟩, ⟨[5, 6, 7], [5, 7], [68], [2], [1], [3]⟩, ⟨[1, 2, 3, 4, 5, 6, 7, 8], [4, 8], [69], [], [], []⟩, ⟨[], [], [70], [], [], []⟩, ⟨[0, 1, 2, 3, 4, 5, 6, 7, 8, 9, 10], [0, 10], [71], [], [], []⟩, ⟨[0, 1, 2, 3, 4, 5, 6, 7, 8, 9, 10, 11], [9, 11], [], [], [4], [5]⟩] [⟨none, none, []⟩, ⟨none, (some 8), []⟩, ⟨none, none, []⟩, ⟨(some 8), none, []⟩, ⟨none, (some 12), []⟩, ⟨(some 12), none, []⟩] [60, 61, 62, 63, 64, 65, 66, 67, 68, 69, 70, 71] [0, 1, 2, 4] [0, 2, 3, 5] [0, 1, 2, 3, 4, 5, 6, 7, 8, 9, 10, 11] [fun Ep15u2 => Ep15u2 60 = .int .i64 2, fun Ep15u2 => Ep15u2 61 = .pointer (some ⟨b3, 2, none⟩), fun Ep15u2 => Ep15u2 62 = .int .i64 r1_5.1, fun Ep15u2 => Ep15u2 63 = .int .i64 x63u2, fun Ep15u2 => Ep15u2 64 = .int .i64 x64u2, fun Ep15u2 => Ep15u2 65 = .pointer (some ⟨b_s0, 0, none⟩), fun Ep15u2 => Ep15u2 66 = .pointer (some ⟨b3, 2, none⟩), fun Ep15u2 => Ep15u2 67 = .int .i64 r1_5.1, fun Ep15u2 => Ep15u2 68 = .int .i64 r15u2_8.1, fun Ep15u2 => Ep15u2 69 = .int .i64 x69u2, fun Ep15u2 => Ep15u2 70 = .pointer (some ⟨b4, 2, none⟩), fun Ep15u2 => Ep15u2 71 = .pointer (some ⟨b4, 4, none⟩), fun Ep15u2 => True] [fun Ep15u2 => cells b3 81 [.int .i64 r1_1.1, .int .i64 r1_3.1, .int .i64 r1_5.1, .slice A_b3_3_L3h b3_3_L3h.length c_b3_3_L3h, .slice none 0 0, .slice none 0 0], fun Ep15u2 => cells b_s0 25 [.slice A_s0_0 s0.L.length c_s0_0, .int .i64 r8_1u2.2], fun Ep15u2 => ro ρ_L3h, fun Ep15u2 => cells b_s0 25 [.slice A_s0_0 s0.L.length c_s0_0, .int .i64 r15u2_8.2], fun Ep15u2 => cells b4 183 [.int .u16 x25, .bool r4_4.1, .int .i64 b4_2_c34u4, .int .i64 b4_3_c34u3, .int .i64 0, .int .i64 0, .slice none 0 0, .slice none 0 0, .slice none 0 0, .slice none 0 0], fun Ep15u2 => cells b4 183 [.int .u16 x25, .bool r4_4.1, .int .i64 b4_2_c34u4, .int .i64 b4_3_c34u3, .int .i64 x69u2, .int .i64 0, .slice none 0 0, .slice none 0 0, .slice none 0 0, .slice none 0 0]] mixed (by kernel_rfl) ((((hS.pull 3).pull 5).pull 2).pull 4) ?_ ?_
                  · refine ⟨?_, ?_, ?_, ?_, ?_, ?_, ?_, ?_, ?_, ?_, ?_, ?_, ?_, trivial⟩
                    · intro Ep15u2 w l' hE15u2 hO15u2 hF_ hS
                      refine p (yl_move ((hE15u2 5 rfl).trans ec43u2_5)) <| x_done <|
                        ?_
                      refine x_fin ⟨⟨_, rfl⟩, rfl, ?_⟩
                      exact Eq.mp (by kernel_rfl) hS
                    · intro Ep15u2 w l' hE15u2 hO15u2 hF_ hS
                      refine p (yl_field0 fld_81_2 ((hE15u2 3 rfl).trans ec43u2_3)) <| x_done <|
                        ?_
                      refine x_fin ⟨⟨_, rfl⟩, rfl, ?_⟩
                      exact Eq.mp (by kernel_rfl) hS
                    · intro Ep15u2 w l' hE15u2 hO15u2 hF_ hS
                      obtain ⟨f15u2_1, -⟩ := hF_
                      replace f15u2_1 : Ep15u2 61 = .pointer (some ⟨b3, 2, none⟩) := Eq.mp (by kernel_rfl) f15u2_1
                      replace hS : St w0 w (cells b3 81 [.int .i64 r1_1.1, .int .i64 r1_3.1, .int .i64 r1_5.1, .slice A_b3_3_L3h b3_3_L3h.length c_b3_3_L3h, .slice none 0 0, .slice none 0 0] :: l') := Eq.mp (by kernel_rfl) hS
                      refine pa (at_load one_3 f15u2_1 (hS.cell rfl)) <| x_done <|
                        ?_
                      refine x_fin ⟨⟨_, rfl⟩, rfl, ?_⟩
                      exact Eq.mp (by kernel_rfl) hS
                    · intro Ep15u2 w l' hE15u2 hO15u2 hF_ hS
                      obtain ⟨f15u2_2, -⟩ := hF_
                      replace f15u2_2 : Ep15u2 62 = .int .i64 r1_5.1 := Eq.mp (by kernel_rfl) f15u2_2
                      refine p (ymul rfl f15u2_2 hx63u2) <| x_done <|
                        ?_
                      refine x_fin ⟨⟨_, rfl⟩, rfl, ?_⟩
                      exact Eq.mp (by kernel_rfl) hS
                    · intro Ep15u2 w l' hE15u2 hO15u2 hF_ hS
                      obtain ⟨f15u2_3, -⟩ := hF_
                      replace f15u2_3 : Ep15u2 63 = .int .i64 x63u2 := Eq.mp (by kernel_rfl) f15u2_3
                      refine p (yadd rfl f15u2_3 hx64u2) <| x_done <|
                        ?_
                      refine x_fin ⟨⟨_, rfl⟩, rfl, ?_⟩
                      exact Eq.mp (by kernel_rfl) hS
                    · intro Ep15u2 w l' hE15u2 hO15u2 hF_ hS
                      refine p (yl_move ((hE15u2 0 rfl).trans ec43u2_0)) <| x_done <|
                        ?_
                      refine x_fin ⟨⟨_, rfl⟩, rfl, ?_⟩
                      exact Eq.mp (by kernel_rfl) hS
                    · intro Ep15u2 w l' hE15u2 hO15u2 hF_ hS
                      refine p (yl_field0 fld_81_2 ((hE15u2 3 rfl).trans ec43u2_3)) <| x_done <|
                        ?_
                      refine x_fin ⟨⟨_, rfl⟩, rfl, ?_⟩
                      exact Eq.mp (by kernel_rfl) hS
                    · intro Ep15u2 w l' hE15u2 hO15u2 hF_ hS
                      obtain ⟨f15u2_6, -⟩ := hF_
                      replace f15u2_6 : Ep15u2 66 = .pointer (some ⟨b3, 2, none⟩) := Eq.mp (by kernel_rfl) f15u2_6
                      replace hS : St w0 w (cells b3 81 [.int .i64 r1_1.1, .int .i64 r1_3.1, .int .i64 r1_5.1, .slice A_b3_3_L3h b3_3_L3h.length c_b3_3_L3h, .slice none 0 0, .slice none 0 0] :: l') := Eq.mp (by kernel_rfl) hS
                      refine pa (at_load one_3 f15u2_6 (hS.cell rfl)) <| x_done <|
                        ?_
                      refine x_fin ⟨⟨_, rfl⟩, rfl, ?_⟩
                      exact Eq.mp (by kernel_rfl) hS
                    · intro Ep15u2 w l' hE15u2 hO15u2 hF_ hS
                      obtain ⟨f15u2_5, f15u2_7, -⟩ := hF_
                      replace f15u2_5 : Ep15u2 65 = .pointer (some ⟨b_s0, 0, none⟩) := Eq.mp (by kernel_rfl) f15u2_5
                      replace f15u2_7 : Ep15u2 67 = .int .i64 r1_5.1 := Eq.mp (by kernel_rfl) f15u2_7
                      replace hS : St w0 w (ro ρ_L3h :: cells b_s0 25 [.slice A_s0_0 s0.L.length c_s0_0, .int .i64 r8_1u2.2] :: l') := Eq.mp (by kernel_rfl) hS
                      have hcall := c_maskmake_Stream_Next hc15u2_8 (h_s0_0.le hleρ_L3h) (hS.pull 1)
                      refine o_cc call_15 (args2 f15u2_5 f15u2_7) hcall ?_
                      rintro e w' ⟨rfl, hS⟩
                      refine ⟨_, rfl, ?_⟩
                      refine x_done <|
                        ?_
                      refine x_fin ⟨⟨_, rfl⟩, rfl, ?_⟩
                      exact Eq.mp (by kernel_rfl) (hS.pull 1)
                    · intro Ep15u2 w l' hE15u2 hO15u2 hF_ hS
                      obtain ⟨f15u2_4, f15u2_8, -⟩ := hF_
                      replace f15u2_4 : Ep15u2 64 = .int .i64 x64u2 := Eq.mp (by kernel_rfl) f15u2_4
                      replace f15u2_8 : Ep15u2 68 = .int .i64 r15u2_8.1 := Eq.mp (by kernel_rfl) f15u2_8
                      refine p (yadd f15u2_4 f15u2_8 hx69u2) <| x_done <|
                        ?_
                      refine x_fin ⟨⟨_, rfl⟩, rfl, ?_⟩
                      exact Eq.mp (by kernel_rfl) hS
                    · intro Ep15u2 w l' hE15u2 hO15u2 hF_ hS
                      refine p (yl_field0 fld_183_2 ((hE15u2 4 rfl).trans ec43u2_4)) <| x_done <|
                        ?_
                      refine x_fin ⟨⟨_, rfl⟩, rfl, ?_⟩
                      exact Eq.mp (by kernel_rfl) hS
                    · intro Ep15u2 w l' hE15u2 hO15u2 hF_ hS
                      obtain ⟨f15u2_0, f15u2_10, -⟩ := hF_
                      replace f15u2_0 : Ep15u2 60 = .int .i64 2 := Eq.mp (by kernel_rfl) f15u2_0
                      replace f15u2_10 : Ep15u2 70 = .pointer (some ⟨b4, 2, none⟩) := Eq.mp (by kernel_rfl) f15u2_10
                      refine p (yl_ixa (x := .tmp 70) (y := .tmp 60) (q := 4) arr_180 f15u2_10 f15u2_0 (by decide) rfl) <| x_done <|
                        ?_
                      refine x_fin ⟨⟨_, rfl⟩, rfl, ?_⟩
                      exact Eq.mp (by kernel_rfl) hS
                    · intro Ep15u2 w l' hE15u2 hO15u2 hF_ hS
                      obtain ⟨f15u2_9, f15u2_11, -⟩ := hF_
                      replace f15u2_9 : Ep15u2 69 = .int .i64 x69u2 := Eq.mp (by kernel_rfl) f15u2_9
                      replace f15u2_11 : Ep15u2 71 = .pointer (some ⟨b4, 4, none⟩) := Eq.mp (by kernel_rfl) f15u2_11
                      replace hS : St w0 w (cells b4 183 [.int .u16 x25, .bool r4_4.1, .int .i64 b4_2_c34u4, .int .i64 b4_3_c34u3, .int .i64 0, .int .i64 0, .slice none 0 0, .slice none 0 0, .slice none 0 0, .slice none 0 0] :: l') := Eq.mp (by kernel_rfl) hS
                      refine o_store1 (v := .int .i64 x69u2) one_3 f15u2_11 f15u2_9 rfl rfl hS (fun w' hS => ?_)
                      refine x_done <|
                        ?_
                      refine x_fin ⟨⟨undef, rfl⟩, trivial, ?_⟩
                      exact Eq.mp (by kernel_rfl) hS
                  intro Ep15u2 w' hE15u2 hF_ hS
                  obtain ⟨f15u2_0, f15u2_1, f15u2_2, f15u2_3, f15u2_4, f15u2_5, f15u2_6, f15u2_7, f15u2_8, f15u2_9, f15u2_10, f15u2_11, -⟩ := hF_
                  replace f15u2_0 : Ep15u2 60 = .int .i64 2 := Eq.mp (by kernel_rfl) f15u2_0
                  replace f15u2_1 : Ep15u2 61 = .pointer (some ⟨b3, 2, none⟩) := Eq.mp (by kernel_rfl) f15u2_1
                  replace f15u2_2 : Ep15u2 62 = .int .i64 r1_5.1 := Eq.mp (by kernel_rfl) f15u2_2
                  replace f15u2_3 : Ep15u2 63 = .int .i64 x63u2 := Eq.mp (by kernel_rfl) f15u2_3
                  replace f15u2_4 : Ep15u2 64 = .int .i64 x64u2 := Eq.mp (by kernel_rfl) f15u2_4
                  replace f15u2_5 : Ep15u2 65 = .pointer (some ⟨b_s0, 0, none⟩) := Eq.mp (by kernel_rfl) f15u2_5
                  replace f15u2_6 : Ep15u2 66 = .pointer (some ⟨b3, 2, none⟩) := Eq.mp (by kernel_rfl) f15u2_6
                  replace f15u2_7 : Ep15u2 67 = .int .i64 r1_5.1 := Eq.mp (by kernel_rfl) f15u2_7
                  replace f15u2_8 : Ep15u2 68 = .int .i64 r15u2_8.1 := Eq.mp (by kernel_rfl) f15u2_8
                  replace f15u2_9 : Ep15u2 69 = .int .i64 x69u2 := Eq.mp (by kernel_rfl) f15u2_9
                  replace f15u2_10 : Ep15u2 70 = .pointer (some ⟨b4, 2, none⟩) := Eq.mp (by kernel_rfl) f15u2_10
                  replace f15u2_11 : Ep15u2 71 = .pointer (some ⟨b4, 4, none⟩) := Eq.mp (by kernel_rfl) f15u2_11
                  replace hS : St w0 w' (cells b3 81 [.int .i64 r1_1.1, .int .i64 r1_3.1, .int .i64 r1_5.1, .slice A_b3_3_L3h b3_3_L3h.length c_b3_3_L3h, .slice none 0 0, .slice none 0 0] :: ro ρ_L3h :: cells b_s0 25 [.slice A_s0_0 s0.L.length c_s0_0, .int .i64 r15u2_8.2] :: cells b4 183 [.int .u16 x25, .bool r4_4.1, .int .i64 b4_2_c34u4, .int .i64 b4_3_c34u3, .int .i64 x69u2, .int .i64 0, .slice none 0 0, .slice none 0 0, .slice none 0 0, .slice none 0 0] :: (cells b2 81 [.int .i64 0, .int .i64 0, .int .i64 0, .slice none 0 0, .slice none 0 0, .slice none 0 0] :: vec 183 R_array_Tile.sz (.slice A_b3_3_L3h b3_3_L3h.length c_b3_3_L3h) b3_3_L3h.length cs_b3_3_L3h :: l)) := Eq.mp (by kernel_rfl) hS
                  exact x_inv ⟨r15u2_8.2, x69u2, (Option.some.inj (show some _ = some _ from hFc58u2)), ((hE15u2 0 rfl).trans ec43u2_0), ((hE15u2 2 rfl).trans ec43u2_2), ((hE15u2 3 rfl).trans ec43u2_3), ((hE15u2 4 rfl).trans ec43u2_4), ((hE15u2 20 rfl).trans ec43u2_20), ((hE15u2 21 rfl).trans ec43u2_21), ((hE15u2 29 rfl).trans ec43u2_29), ((((((hS.pull 1).pull 5).pull 4).pull 3).pull 5).pull 5)⟩
                · replace hFc58u2 := it_f hc58u2 hFc58u2
                  refine x_skip <|
                    ?_
                  exact x_inv ⟨r8_1u2.2, 0, (Option.some.inj (show some _ = some _ from hFc58u2)), ec43u2_0, ec43u2_2, ec43u2_3, ec43u2_4, ec43u2_20, ec43u2_21, ec43u2_29, ((((((hS.pull 5).pull 5).pull 5).pull 5).pull 5).pull 5)⟩
              rintro E w ⟨b_s0_1_c58u2, b4_4_c58u2, rfl, ec58u2_0, ec58u2_2, ec58u2_3, ec58u2_4, ec58u2_20, ec58u2_21, ec58u2_29, hS⟩
              exact x_inv ⟨b_s0_1_c58u2, b4_4_c58u2, (Option.some.inj (show some _ = some _ from hFc43_2u2)), ec58u2_0, ec58u2_2, ec58u2_3, ec58u2_4, ec58u2_20, ec58u2_21, ec58u2_29, ((((((hS.pull 5).pull 5).pull 5).pull 5).pull 5).pull 5)⟩
          rintro E w ⟨b_s0_1_c43_2u2, b4_4_c43_2u2, rfl, ec43_2u2_0, ec43_2u2_2, ec43_2u2_3, ec43_2u2_4, ec43_2u2_20, ec43_2u2_21, ec43_2u2_29, hS⟩
          exact x_inv ⟨b_s0_1_c43_2u2, b4_4_c43_2u2, (Option.some.inj (show some _ = some _ from hFc34u2)), ec43_2u2_0, ec43_2u2_2, ec43_2u2_3, ec43_2u2_4, ec43_2u2_20, ec43_2u2_21, ec43_2u2_29, ((((((hS.pull 5).pull 5).pull 5).pull 5).pull 5).pull 5)⟩
      rintro E w ⟨b_s0_1_c34u2, b4_4_c34u2, rfl, ec34u2_0, ec34u2_2, ec34u2_3, ec34u2_4, ec34u2_20, ec34u2_21, ec34u2_29, hS⟩
      replace hFL3 := bd_s hFL3; obtain ⟨r8_1u1, hc8_1u1, hFL3⟩ := hFL3
      refine x_blk <| x_blk <| x_region <| p (yadd (c := 3) ec34u2_29 rfl ⟨rfl, by decide⟩) <|
        p (yl_move rfl) <| x_done <| x_un 1 <| x_seq <|
        x_region <| p (ylss_l (t := true) rfl rfl (by decide)) <| x_done <| x_seq <|
        x_cond_t (show ev _ _ = .bool true from rfl) <| x_skip <| x_seq <| x_block <|
        x_seq <| x_region <| p (yl_move rfl) <| p (yl_assign rfl) <|
        x_done <| x_seq <| x_region <| p (yl_move ec34u2_0) <|
        ?_
      have hcall := c_maskmake_Stream_Next hc8_1u1 (h_s0_0.le hleρ_L3h) ((hS.pull 5).pull 1)
      refine o_cc call_15 (args2 rfl rfl) hcall ?_
      rintro e w' ⟨rfl, hS⟩
      refine ⟨_, rfl, ?_⟩
      refine x_done <| x_block <| x_seq <| x_region <|
        p (yl_eql rfl rfl) <| p (yl_assign rfl) <| x_done <|
        ?_
      replace hFL3 := bd_s hFL3; obtain ⟨oc34u1, hFc34u1, hFL3⟩ := hFL3
      refine x_join (fun E w => ∃ (b_s0_1_c34u1 : Int) (b4_5_c34u1 : Int), (b_s0_1_c34u1, b4_5_c34u1) = oc34u1 ∧ E 0 = .pointer (some ⟨b_s0, 0, none⟩) ∧ E 2 = .pointer (some ⟨b2, 0, none⟩) ∧ E 3 = .pointer (some ⟨b3, 0, none⟩) ∧ E 4 = .pointer (some ⟨b4, 0, none⟩) ∧ E 20 = .int .i64 x20 ∧ E 21 = .int .i64 y21_L3h ∧ E 29 = .int .i64 3 ∧ St w0 w (cells b_s0 25 [.slice A_s0_0 s0.L.length c_s0_0, .int .i64 b_s0_1_c34u1] :: cells b2 81 [.int .i64 0, .int .i64 0, .int .i64 0, .slice none 0 0, .slice none 0 0, .slice none 0 0] :: cells b3 81 [.int .i64 r1_1.1, .int .i64 r1_3.1, .int .i64 r1_5.1, .slice A_b3_3_L3h b3_3_L3h.length c_b3_3_L3h, .slice none 0 0, .slice none 0 0] :: cells b4 183 [.int .u16 x25, .bool r4_4.1, .int .i64 b4_2_c34u4, .int .i64 b4_3_c34u3, .int .i64 b4_4_c34u2, .int .i64 b4_5_c34u1, .slice none 0 0, .slice none 0 0, .slice none 0 0, .slice none 0 0] :: vec 183 R_array_Tile.sz (.slice A_b3_3_L3h b3_3_L3h.length c_b3_3_L3h) b3_3_L3h.length cs_b3_3_L3h :: ro ρ_L3h :: l)) ?_ ?_
      · skip -- c34u1
        refine x_cond_p (r8_1u1.1 = 0) rfl (fun hc34u1 => ?_) (fun hc34u1 => ?_)
        · replace hFc34u1 := it_t hc34u1 hFc34u1
          replace hFc34u1 := ar_s hFc34u1; obtain ⟨x39u1, hx39u1, hFc34u1⟩ := hFc34u1
          replace hFc34u1 := ar_s hFc34u1; obtain ⟨x40u1, hx40u1, hFc34u1⟩ := hFc34u1
          refine x_region <| p (yl_move rfl) <| p (yl_field0 fld_81_2 ec34u2_3) <| pa (at_load one_3 rfl ((hS.pull 3).cell rfl)) <|
            p (ymul rfl rfl hx39u1) <| p (yadd rfl rfl hx40u1) <| p (yl_field0 fld_183_2 ec34u2_4) <| p (yl_ixa (x := .tmp 41) (y := .tmp 36) (q := 5) arr_180 rfl rfl (by decide) rfl) <|
            ?_
          refine o_store1 (v := .int .i64 x40u1) one_3 rfl rfl rfl rfl (hS.pull 4) (fun w' hS => ?_)
          refine x_done <|
            ?_
          exact x_inv ⟨r8_1u1.2, x40u1, (Option.some.inj (show some _ = some _ from hFc34u1)), ec34u2_0, ec34u2_2, ec34u2_3, ec34u2_4, ec34u2_20, ec34u2_21, rfl, ((((((hS.pull 2).pull 5).pull 2).pull 5).pull 5).pull 5)⟩
        · replace hFc34u1 := it_f hc34u1 hFc34u1
          refine x_seq <| x_seq <| x_region <| p (yl_eql rfl rfl) <|
            p (yl_assign rfl) <| x_done <|
            ?_
          replace hFc34u1 := bd_s hFc34u1; obtain ⟨oc43u1, hFc43u1, hFc34u1⟩ := hFc34u1
          refine x_join (fun E w => ∃ (y43_c43u1 : Bool), y43_c43u1 = oc43u1 ∧ E 0 = .pointer (some ⟨b_s0, 0, none⟩) ∧ E 2 = .pointer (some ⟨b2, 0, none⟩) ∧ E 3 = .pointer (some ⟨b3, 0, none⟩) ∧ E 4 = .pointer (some ⟨b4, 0, none⟩) ∧ E 5 = .int .i64 3 ∧ E 20 = .int .i64 x20 ∧ E 21 = .int .i64 y21_L3h ∧ E 29 = .int .i64 3 ∧ E 33 = .int .i64 r8_1u1.1 ∧ E 43 = .bool y43_c43u1 ∧ St w0 w (cells b_s0 25 [.slice A_s0_0 s0.L.length c_s0_0, .int .i64 r8_1u1.2] :: cells b2 81 [.int .i64 0, .int .i64 0, .int .i64 0, .slice none 0 0, .slice none 0 0, .slice none 0 0] :: cells b3 81 [.int .i64 r1_1.1, .int .i64 r1_3.1, .int .i64 r1_5.1, .slice A_b3_3_L3h b3_3_L3h.length c_b3_3_L3h, .slice none 0 0, .slice none 0 0] :: cells b4 183 [.int .u16 x25, .bool r4_4.1, .int .i64 b4_2_c34u4, .int .i64 b4_3_c34u3, .int .i64 b4_4_c34u2, .int .i64 0, .slice none 0 0, .slice none 0 0, .slice none 0 0, .slice none 0 0] :: vec 183 R_array_Tile.sz (.slice A_b3_3_L3h b3_3_L3h.length c_b3_3_L3h) b3_3_L3h.length cs_b3_3_L3h :: ro ρ_L3h :: l)) ?_ ?_
          · skip -- c43u1
            refine x_cond_p (r8_1u1.1 = 1) rfl (fun hc43u1 => ?_) (fun hc43u1 => ?_)
            · replace hFc43u1 := it_t hc43u1 hFc43u1
              refine x_skip <|
                ?_
              exact x_inv ⟨decide (r8_1u1.1 = 1), (Option.some.inj (show some _ = some _ from hFc43u1)), ec34u2_0, ec34u2_2, ec34u2_3, ec34u2_4, rfl, ec34u2_20, ec34u2_21, rfl, rfl, rfl, ((((((hS.pull 1).pull 5).pull 5).pull 5).pull 5).pull 5)⟩
            · replace hFc43u1 := it_f hc43u1 hFc43u1
              refine x_region <| p (yl_eql rfl rfl) <| p (yl_assign rfl) <| x_done <|
                ?_
              exact x_inv ⟨decide (r8_1u1.1 = 2), (Option.some.inj (show some _ = some _ from hFc43u1)), ec34u2_0, ec34u2_2, ec34u2_3, ec34u2_4, rfl, ec34u2_20, ec34u2_21, rfl, rfl, rfl, ((((((hS.pull 1).pull 5).pull 5).pull 5).pull 5).pull 5)⟩
          rintro E w ⟨y43_c43u1, rfl, ec43u1_0, ec43u1_2, ec43u1_3, ec43u1_4, ec43u1_5, ec43u1_20, ec43u1_21, ec43u1_29, ec43u1_33, ec43u1_43, hS⟩
          replace hFc34u1 := bd_s hFc34u1; obtain ⟨oc43_2u1, hFc43_2u1, hFc34u1⟩ := hFc34u1
          refine x_join (fun E w => ∃ (b_s0_1_c43_2u1 : Int) (b4_5_c43_2u1 : Int), (b_s0_1_c43_2u1, b4_5_c43_2u1) = oc43_2u1 ∧ E 0 = .pointer (some ⟨b_s0, 0, none⟩) ∧ E 2 = .pointer (some ⟨b2, 0, none⟩) ∧ E 3 = .pointer (some ⟨b3, 0, none⟩) ∧ E 4 = .pointer (some ⟨b4, 0, none⟩) ∧ E 20 = .int .i64 x20 ∧ E 21 = .int .i64 y21_L3h ∧ E 29 = .int .i64 3 ∧ St w0 w (cells b_s0 25 [.slice A_s0_0 s0.L.length c_s0_0, .int .i64 b_s0_1_c43_2u1] :: cells b2 81 [.int .i64 0, .int .i64 0, .int .i64 0, .slice none 0 0, .slice none 0 0, .slice none 0 0] :: cells b3 81 [.int .i64 r1_1.1, .int .i64 r1_3.1, .int .i64 r1_5.1, .slice A_b3_3_L3h b3_3_L3h.length c_b3_3_L3h, .slice none 0 0, .slice none 0 0] :: cells b4 183 [.int .u16 x25, .bool r4_4.1, .int .i64 b4_2_c34u4, .int .i64 b4_3_c34u3, .int .i64 b4_4_c34u2, .int .i64 b4_5_c43_2u1, .slice none 0 0, .slice none 0 0, .slice none 0 0, .slice none 0 0] :: vec 183 R_array_Tile.sz (.slice A_b3_3_L3h b3_3_L3h.length c_b3_3_L3h) b3_3_L3h.length cs_b3_3_L3h :: ro ρ_L3h :: l)) ?_ ?_
          · skip -- c43_2u1
            refine x_cond (t := y43_c43u1) ec43u1_43 (fun hc43u1 => ?_) (fun hc43u1 => ?_)
            · replace hFc43_2u1 := it_t hc43u1 hFc43_2u1
              replace hFc43_2u1 := ar_s hFc43_2u1; obtain ⟨x49u1, hx49u1, hFc43_2u1⟩ := hFc43_2u1
              replace hFc43_2u1 := ar_s hFc43_2u1; obtain ⟨x50u1, hx50u1, hFc43_2u1⟩ := hFc43_2u1
              replace hFc43_2u1 := bd_s hFc43_2u1; obtain ⟨r13u1_8, hc13u1_8, hFc43_2u1⟩ := hFc43_2u1
              replace hFc43_2u1 := ar_s hFc43_2u1; obtain ⟨x55u1, hx55u1, hFc43_2u1⟩ := hFc43_2u1
              refine x_par (w0 := w0) [⟨[], [], [46], [], [], []⟩, ⟨[], [], [47], [], [], []⟩, ⟨[1], [1], [48], [0], [], []⟩, ⟨[1, 2], [2], [49], [], [], []⟩, ⟨[1, 2, 3], [3], [50], [], [], []⟩, ⟨[], [], [51], [], [], []⟩, ⟨[], [], [52], [], [], []⟩, ⟨[6], [6], [53], [0], [], []⟩, ⟨[5, 6, 7], [5, 7], [54], [2], [1], [3]⟩, ⟨[1, 2, 3, 4, 5, 6, 7, 8], [4, 8], [55], [], [], []⟩, ⟨[], [], [56], [], [], []⟩, ⟨[0, 1, 2, 3, 4, 5, 6, 7, 8, 9, 10], [0, 10], [57], [], [], []⟩, ⟨[0, 1, 2, 3, 4, 5, 6, 7, 8, 9, 10, 11], [9, 11], [], [], [4], [5]⟩] [⟨none, none, []⟩, ⟨none, (some 8), []⟩, ⟨none, none, []⟩, ⟨(some 8), none, []⟩, ⟨none, (some 12), []⟩, ⟨(some 12), none, []⟩] [46, 47, 48, 49, 50, 51, 52, 53, 54, 55, 56, 57] [0, 1, 2, 4] [0, 2, 3, 5] [0, 1, 2, 3, 4, 5, 6, 7, 8, 9, 10, 11] [fun Ep13u1 => Ep13u1 46 = .int .i64 3, fun Ep13u1 => Ep13u1 47 = .pointer (some ⟨b3, 2, none⟩), fun Ep13u1 => Ep13u1 48 = .int .i64 r1_5.1, fun Ep13u1 => Ep13u1 49 = .int .i64 x49u1, fun Ep13u1 => Ep13u1 50 = .int .i64 x50u1, fun Ep13u1 => Ep13u1 51 = .pointer (some ⟨b_s0, 0, none⟩), fun Ep13u1 => Ep13u1 52 = .pointer (some ⟨b3, 2, none⟩), fun Ep13u1 => Ep13u1 53 = .int .i64 r1_5.1, fun Ep13u1 => Ep13u1 54 = .int .i64 r13u1_8.1, fun Ep13u1 => Ep13u1 55 = .int .i64 x55u1, fun Ep13u1 => Ep13u1 56 = .pointer (some ⟨b4, 2, none⟩), fun Ep13u1 => Ep13u1 57 = .pointer (some ⟨b4, 5, none⟩), fun Ep13u1 => True] [fun Ep13u1 => cells b3 81 [.int .i64 r1_1.1, .int .i64 r1_3.1, .int .i64 r1_5.1, .slice A_b3_3_L3h b3_3_L3h.length c_b3_3_L3h, .slice none 0 0, .slice none 0 0], fun Ep13u1 => cells b_s0 25 [.slice A_s0_0 s0.L.length c_s0_0, .int .i64 r8_1u1.2], fun Ep13u1 => ro ρ_L3h, fun Ep13u1 => cells b_s0 25 [.slice A_s0_0 s0.L.length c_s0_0, .int .i64 r13u1_8.2], fun Ep13u1 => cells b4 183 [.int .u16 x25, .bool r4_4.1, .int .i64 b4_2_c34u4, .int .i64 b4_3_c34u3, .int .i64 b4_4_c34u2, .int .i64 0, .slice none 0 0, .slice none 0 0, .slice none 0 0, .slice none 0 0], fun Ep13u1 => cells b4 183 [.int .u16 x25, .bool r4_4.1, .int .i64 b4_2_c34u4, .int .i64 b4_3_c34u3, .int .i64 b4_4_c34u2, .int .i64 x55u1, .slice none 0 0, .slice none 0 0, .slice none 0 0, .slice none 0 0]] mixed (by kernel_rfl) ((((hS.pull 3).pull 5).pull 2).pull 4) ?_ ?_
              · refine ⟨?_, ?_, ?_, ?_, ?_, ?_, ?_, ?_, ?_, ?_, ?_, ?_, ?_, trivial⟩
                · intro Ep13u1 w l' hE13u1 hO13u1 hF_ hS
                  refine p (yl_move ((hE13u1 5 rfl).trans ec43u1_5)) <| x_done <|
                    ?_
                  refine x_fin ⟨⟨_, rfl⟩, rfl, ?_⟩
                  exact Eq.mp (by kernel_rfl) hS
                · intro Ep13u1 w l' hE13u1 hO13u1 hF_ hS
                  refine p (yl_field0 fld_81_2 ((hE13u1 3 rfl).trans ec43u1_3)) <| x_done <|
                    ?_
                  refine x_fin ⟨⟨_, rfl⟩, rfl, ?_⟩
                  exact Eq.mp (by kernel_rfl) hS
                · intro Ep13u1 w l' hE13u1 hO13u1 hF_ hS
                  obtain ⟨f13u1_1, -⟩ := hF_
                  replace f13u1_1 : Ep13u1 47 = .pointer (some ⟨b3, 2, none⟩) := Eq.mp (by kernel_rfl) f13u1_1
                  replace hS : St w0 w (cells b3 81 [.int .i64 r1_1.1, .int .i64 r1_3.1, .int .i64 r1_5.1, .slice A_b3_3_L3h b3_3_L3h.length c_b3_3_L3h, .slice none 0 0, .slice none 0 0] :: l') := Eq.mp (by kernel_rfl) hS
                  refine pa (at_load one_3 f13u1_1 (hS.cell rfl)) <| x_done <|
                    ?_
                  refine x_fin ⟨⟨_, rfl⟩, rfl, ?_⟩
                  exact Eq.mp (by kernel_rfl) hS
                · intro Ep13u1 w l' hE13u1 hO13u1 hF_ hS
                  obtain ⟨f13u1_2, -⟩ := hF_
                  replace f13u1_2 : Ep13u1 48 = .int .i64 r1_5.1 := Eq.mp (by kernel_rfl) f13u1_2
                  refine p (ymul rfl f13u1_2 hx49u1) <| x_done <|
                    ?_
                  refine x_fin ⟨⟨_, rfl⟩, rfl, ?_⟩
                  exact Eq.mp (by kernel_rfl) hS
                · intro Ep13u1 w l' hE13u1 hO13u1 hF_ hS
                  obtain ⟨f13u1_3, -⟩ := hF_
                  replace f13u1_3 : Ep13u1 49 = .int .i64 x49u1 := Eq.mp (by kernel_rfl) f13u1_3
                  refine p (yadd rfl f13u1_3 hx50u1) <| x_done <|
                    ?_
                  refine x_fin ⟨⟨_, rfl⟩, rfl, ?_⟩
                  exact Eq.mp (by kernel_rfl) hS
                · intro Ep13u1 w l' hE13u1 hO13u1 hF_ hS
                  refine p (yl_move ((hE13u1 0 rfl).trans ec43u1_0)) <| x_done <|
                    ?_
                  refine x_fin ⟨⟨_, rfl⟩, rfl, ?_⟩
                  exact Eq.mp (by kernel_rfl) hS
                · intro Ep13u1 w l' hE13u1 hO13u1 hF_ hS
                  refine p (yl_field0 fld_81_2 ((hE13u1 3 rfl).trans ec43u1_3)) <| x_done <|
                    ?_
                  refine x_fin ⟨⟨_, rfl⟩, rfl, ?_⟩
                  exact Eq.mp (by kernel_rfl) hS
                · intro Ep13u1 w l' hE13u1 hO13u1 hF_ hS
                  obtain ⟨f13u1_6, -⟩ := hF_
                  replace f13u1_6 : Ep13u1 52 = .pointer (some ⟨b3, 2, none⟩) := Eq.mp (by kernel_rfl) f13u1_6
                  replace hS : St w0 w (cells b3 81 [.int .i64 r1_1.1, .int .i64 r1_3.1, .int .i64 r1_5.1, .slice A_b3_3_L3h b3_3_L3h.length c_b3_3_L3h, .slice none 0 0, .slice none 0 0] :: l') := Eq.mp (by kernel_rfl) hS
                  refine pa (at_load one_3 f13u1_6 (hS.cell rfl)) <| x_done <|
                    ?_
                  refine x_fin ⟨⟨_, rfl⟩, rfl, ?_⟩
                  exact Eq.mp (by kernel_rfl) hS
                · intro Ep13u1 w l' hE13u1 hO13u1 hF_ hS
                  obtain ⟨f13u1_5, f13u1_7, -⟩ := hF_
                  replace f13u1_5 : Ep13u1 51 = .pointer (some ⟨b_s0, 0, none⟩) := Eq.mp (by kernel_rfl) f13u1_5
                  replace f13u1_7 : Ep13u1 53 = .int .i64 r1_5.1 := Eq.mp (by kernel_rfl) f13u1_7
                  replace hS : St w0 w (ro ρ_L3h :: cells b_s0 25 [.slice A_s0_0 s0.L.length c_s0_0, .int .i64 r8_1u1.2] :: l') := Eq.mp (by kernel_rfl) hS
                  have hcall := c_maskmake_Stream_Next hc13u1_8 (h_s0_0.le hleρ_L3h) (hS.pull 1)
                  refine o_cc call_15 (args2 f13u1_5 f13u1_7) hcall ?_
                  rintro e w' ⟨rfl, hS⟩
                  refine ⟨_, rfl, ?_⟩
                  refine x_done <|
                    ?_
                  refine x_fin ⟨⟨_, rfl⟩, rfl, ?_⟩
                  exact Eq.mp (by kernel_rfl) (hS.pull 1)
                · intro Ep13u1 w l' hE13u1 hO13u1 hF_ hS
                  obtain ⟨f13u1_4, f13u1_8, -⟩ := hF_
                  replace f13u1_4 : Ep13u1 50 = .int .i64 x50u1 := Eq.mp (by kernel_rfl) f13u1_4
                  replace f13u1_8 : Ep13u1 54 = .int .i64 r13u1_8.1 := Eq.mp (by kernel_rfl) f13u1_8
                  refine p (yadd f13u1_4 f13u1_8 hx55u1) <| x_done <|
                    ?_
                  refine x_fin ⟨⟨_, rfl⟩, rfl, ?_⟩
                  exact Eq.mp (by kernel_rfl) hS
                · intro Ep13u1 w l' hE13u1 hO13u1 hF_ hS
                  refine p (yl_field0 fld_183_2 ((hE13u1 4 rfl).trans ec43u1_4)) <| x_done <|
                    ?_
                  refine x_fin ⟨⟨_, rfl⟩, rfl, ?_⟩
                  exact Eq.mp (by kernel_rfl) hS
                · intro Ep13u1 w l' hE13u1 hO13u1 hF_ hS
                  obtain ⟨f13u1_0, f13u1_10, -⟩ := hF_
                  replace f13u1_0 : Ep13u1 46 = .int .i64 3 := Eq.mp (by kernel_rfl) f13u1_0
                  replace f13u1_10 : Ep13u1 56 = .pointer (some ⟨b4, 2, none⟩) := Eq.mp (by kernel_rfl) f13u1_10
                  refine p (yl_ixa (x := .tmp 56) (y := .tmp 46) (q := 5) arr_180 f13u1_10 f13u1_0 (by decide) rfl) <| x_done <|
                    ?_
                  refine x_fin ⟨⟨_, rfl⟩, rfl, ?_⟩
                  exact Eq.mp (by kernel_rfl) hS
                · intro Ep13u1 w l' hE13u1 hO13u1 hF_ hS
                  obtain ⟨f13u1_9, f13u1_11, -⟩ := hF_
                  replace f13u1_9 : Ep13u1 55 = .int .i64 x55u1 := Eq.mp (by kernel_rfl) f13u1_9
                  replace f13u1_11 : Ep13u1 57 = .pointer (some ⟨b4, 5, none⟩) := Eq.mp (by kernel_rfl) f13u1_11
                  replace hS : St w0 w (cells b4 183 [.int .u16 x25, .bool r4_4.1, .int .i64 b4_2_c34u4, .int .i64 b4_3_c34u3, .int .i64 b4_4_c34u2, .int .i64 0, .slice none 0 0, .slice none 0 0, .slice none 0 0, .slice none 0 0] :: l') := Eq.mp (by kernel_rfl) hS
                  refine o_store1 (v := .int .i64 x55u1) one_3 f13u1_11 f13u1_9 rfl rfl hS (fun w' hS => ?_)
                  refine x_done <|
                    ?_
                  refine x_fin ⟨⟨undef, rfl⟩, trivial, ?_⟩
                  exact Eq.mp (by kernel_rfl) hS
              intro Ep13u1 w' hE13u1 hF_ hS
              obtain ⟨f13u1_0, f13u1_1, f13u1_2, f13u1_3, f13u1_4, f13u1_5, f13u1_6, f13u1_7, f13u1_8, f13u1_9, f13u1_10, f13u1_11, -⟩ := hF_
              replace f13u1_0 : Ep13u1 46 = .int .i64 3 := Eq.mp (by kernel_rfl) f13u1_0
              replace f13u1_1 : Ep13u1 47 = .pointer (some ⟨b3, 2, none⟩) := Eq.mp (by kernel_rfl) f13u1_1
              replace f13u1_2 : Ep13u1 48 = .int .i64 r1_5.1 := Eq.mp (by kernel_rfl) f13u1_2
              replace f13u1_3 : Ep13u1 49 = .int .i64 x49u1 := Eq.mp (by kernel_rfl) f13u1_3
              replace f13u1_4 : Ep13u1 50 = .int .i64 x50u1 := Eq.mp (by kernel_rfl) f13u1_4
              replace f13u1_5 : Ep13u1 51 = .pointer (some ⟨b_s0, 0, none⟩) := Eq.mp (by kernel_rfl) f13u1_5
              replace f13u1_6 : Ep13u1 52 = .pointer (some ⟨b3, 2, none⟩) := Eq.mp (by kernel_rfl) f13u1_6
              replace f13u1_7 : Ep13u1 53 = .int .i64 r1_5.1 := Eq.mp (by kernel_rfl) f13u1_7
              replace f13u1_8 : Ep13u1 54 = .int .i64 r13u1_8.1 := Eq.mp (by kernel_rfl) f13u1_8
              replace f13u1_9 : Ep13u1 55 = .int .i64 x55u1 := Eq.mp (by kernel_rfl) f13u1_9
              replace f13u1_10 : Ep13u1 56 = .pointer (some ⟨b4, 2, none⟩) := Eq.mp (by kernel_rfl) f13u1_10
              replace f13u1_11 : Ep13u1 57 = .pointer (some ⟨b4, 5, none⟩) := Eq.mp (by kernel_rfl) f13u1_11
              replace hS : St w0 w' (cells b3 81 [.int .i64 r1_1.1, .int .i64 r1_3.1, .int .i64 r1_5.1, .slice A_b3_3_L3h b3_3_L3h.length c_b3_3_L3h, .slice none 0 0, .slice none 0 0] :: ro ρ_L3h :: cells b_s0 25 [.slice A_s0_0 s0.L.length c_s0_0, .int .i64 r13u1_8.2] :: cells b4 183 [.int .u16 x25, .bool r4_4.1, .int .i64 b4_2_c34u4, .int .i64 b4_3_c34u3, .int .i64 b4_4_c34u2, .int .i64 x55u1, .slice none 0 0, .slice none 0 0, .slice none 0 0, .slice none 0 0] :: (cells b2 81 [.int .i64 0, .int .i64 0, .int .i64 0, .slice none 0 0, .slice none 0 0, .slice none 0 0] :: vec 183 R_array_Tile.sz (.slice A_b3_3_L3h b3_3_L3h.length c_b3_3_L3h) b3_3_L3h.length cs_b3_3_L3h :: l)) := Eq.mp (by kernel_rfl) hS
              exact x_inv ⟨r13u1_8.2, x55u1, (Option.some.inj (show some _ = some _ from hFc43_2u1)), ((hE13u1 0 rfl).trans ec43u1_0), ((hE13u1 2 rfl).trans ec43u1_2), ((hE13u1 3 rfl).trans ec43u1_3), ((hE13u1 4 rfl).trans ec43u1_4), ((hE13u1 20 rfl).trans ec43u1_20), ((hE13u1 21 rfl).trans ec43u1_21), ((hE13u1 29 rfl).trans ec43u1_29), ((((((hS.pull 1).pull 5).pull 4).pull 3).pull 5).pull 5)⟩
            · replace hFc43_2u1 := it_bf hc43u1 hFc43_2u1
              refine x_seq <| x_region <| p (yl_eql ec43u1_33 rfl) <| p (yl_assign rfl) <|
                x_done <|
                ?_
              replace hFc43_2u1 := bd_s hFc43_2u1; obtain ⟨oc58u1, hFc58u1, hFc43_2u1⟩ := hFc43_2u1
              refine x_join (fun E w => ∃ (b_s0_1_c58u1 : Int) (b4_5_c58u1 : Int), (b_s0_1_c58u1, b4_5_c58u1) = oc58u1 ∧ E 0 = .pointer (some ⟨b_s0, 0, none⟩) ∧ E 2 = .pointer (some ⟨b2, 0, none⟩) ∧ E 3 = .pointer (some ⟨b3, 0, none⟩) ∧ E 4 = .pointer (some ⟨b4, 0, none⟩) ∧ E 20 = .int .i64 x20 ∧ E 21 = .int .i64 y21_L3h ∧ E 29 = .int .i64 3 ∧ St w0 w (cells b_s0 25 [.slice A_s0_0 s0.L.length c_s0_0, .int .i64 b_s0_1_c58u1] :: cells b2 81 [.int .i64 0, .int .i64 0, .int .i64 0, .slice none 0 0, .slice none 0 0, .slice none 0 0] :: cells b3 81 [.int .i64 r1_1.1, .int .i64 r1_3.1, .int .i64 r1_5.1, .slice A_b3_3_L3h b3_3_L3h.length c_b3_3_L3h, .slice none 0 0, .slice none 0 0] :: cells b4 183 [.int .u16 x25, .bool r4_4.1, .int .i64 b4_2_c34u4, .int .i64 b4_3_c34u3, .int .i64 b4_4_c34u2, .int .i64 b4_5_c58u1, .slice none 0 0, .slice none 0 0, .slice none 0 0, .slice none 0 0] :: vec 183 R_array_Tile.sz (.slice A_b3_3_L3h b3_3_L3h.length c_b3_3_L3h) b3_3_L3h.length cs_b3_3_L3h :: ro ρ_L3h :: l)) ?_ ?_
              · skip -- c58u1
                refine x_cond_p (r8_1u1.1 = 3) rfl (fun hc58u1 => ?_) (fun hc58u1 => ?_)
                · replace hFc58u1 := it_t hc58u1 hFc58u1
                  replace hFc58u1 := ar_s hFc58u1; obtain ⟨x63u1, hx63u1, hFc58u1⟩ := hFc58u1
                  replace hFc58u1 := ar_s hFc58u1; obtain ⟨x64u1, hx64u1, hFc58u1⟩ := hFc58u1
                  replace hFc58u1 := bd_s hFc58u1; obtain ⟨r15u1_8, hc15u1_8, hFc58u1⟩ := hFc58u1
                  replace hFc58u1 := ar_s hFc58u1; obtain ⟨x69u1, hx69u1, hFc58u1⟩ := hFc58u1
                  refine x_par (w0 := w0) [⟨[], [], [60], [], [], []⟩, ⟨[], [], [61], [], [], []⟩, ⟨[1], [1], [62], [0], [], []⟩, ⟨[1, 2], [2], [63], [], [], []⟩, ⟨[1, 2, 3], [3], [64], [], [], []⟩, ⟨[], [], [65], [], [], []⟩, ⟨[], [], [66], [], [], []⟩, ⟨[6], [6], [67], [0], [], []⟩, ⟨[5, 6, 7], [5, 7], [68], [2], [1], [3]⟩, ⟨[1, 2, 3, 4, 5, 6, 7, 8], [4, 8], [69], [], [], []⟩, ⟨[], [], [70], [], [], []⟩, ⟨[0, 1, 2, 3, 4, 5, 6, 7, 8, 9, 10], [0, 10], [71], [], [], []⟩, ⟨[0, 1, 2, 3, 4, 5, 6, 7, 8, 9, 10, 11], [9, 11], [], [], [4], [5]⟩] [⟨none, none, []⟩, ⟨none, (some 8), []⟩, ⟨none, none, []⟩, ⟨(some 8), none, []⟩, ⟨none, (some 12), []⟩, ⟨(some 12), none, []⟩] [60, 61, 62, 63, 64, 65, 66, 67, 68, 69, 70, 71] [0, 1, 2, 4] [0, 2, 3, 5] [0, 1, 2, 3, 4, 5, 6, 7, 8, 9, 10, 11] [fun Ep15u1 => Ep15u1 60 = .int .i64 3, fun Ep15u1 => Ep15u1 61 = .pointer (some ⟨b3, 2, none⟩), fun Ep15u1 => Ep15u1 62 = .int .i64 r1_5.1, fun Ep15u1 => Ep15u1 63 = .int .i64 x63u1, fun Ep15u1 => Ep15u1 64 = .int .i64 x64u1, fun Ep15u1 => Ep15u1 65 = .pointer (some ⟨b_s0, 0, none⟩), fun Ep15u1 => Ep15u1 66 = .pointer (some ⟨b3, 2, none⟩), fun Ep15u1 => Ep15u1 67 = .int .i64 r1_5.1, fun Ep15u1 => Ep15u1 68 = .int .i64 r15u1_8.1, fun Ep15u1 => Ep15u1 69 = .int .i64 x69u1, fun Ep15u1 => Ep15u1 70 = .pointer (some ⟨b4, 2, none⟩), fun Ep15u1 => Ep15u1 71 = .pointer (some ⟨b4, 5, none⟩), fun Ep15u1 => True] [fun Ep15u1 => cells b3 81 [.int .i64 r1_1.1, .int .i64 r1_3.1, .int .i64 r1_5.1, .slice A_b3_3_L3h b3_3_L3h.length c_b3_3_L3h, .slice none 0 0, .slice none 0 0], fun Ep15u1 => cells b_s0 25 [.slice A_s0_0 s0.L.length c_s0_0, .int .i64 r8_1u1.2], fun Ep15u1 => ro ρ_L3h, fun Ep15u1 => cells b_s0 25 [.slice A_s0_0 s0.L.length c_s0_0, .int .i64 r15u1_8.2], fun Ep15u1 => cells b4 183 [.int .u16 x25, .bool r4_4.1, .int .i64 b4_2_c34u4, .int .i64 b4_3_c34u3, .int .i64 b4_4_c34u2, .int .i64 0, .slice none 0 0, .slice none 0 0, .slice none 0 0, .slice none 0 0], fun Ep15u1 => cells b4 183 [.int .u16 x25, .bool r4_4.1, .int .i64 b4_2_c34u4, .int .i64 b4_3_c34u3, .int .i64 b4_4_c34u2, .int .i64 x69u1, .slice none 0 0, .slice none 0 0, .slice none 0 0, .slice none 0 0]] mixed (by kernel_rfl) ((((hS.pull 3).pull 5).pull 2).pull 4) ?_ ?_
                  · refine ⟨?_, ?_, ?_, ?_, ?_, ?_, ?_, ?_, ?_, ?_, ?_, ?_, ?_, trivial⟩
                    · intro Ep15u1 w l' hE15u1 hO15u1 hF_ hS
                      refine p (yl_move ((hE15u1 5 rfl).trans ec43u1_5)) <| x_done <|
                        ?_
                      refine x_fin ⟨⟨_, rfl⟩, rfl, ?_⟩
                      exact Eq.mp (by kernel_rfl) hS
                    · intro Ep15u1 w l' hE15u1 hO15u1 hF_ hS
                      refine p (yl_field0 fld_81_2 ((hE15u1 3 rfl).trans ec43u1_3)) <| x_done <|
                        ?_
                      refine x_fin ⟨⟨_, rfl⟩, rfl, ?_⟩
                      exact Eq.mp (by kernel_rfl) hS
                    · intro Ep15u1 w l' hE15u1 hO15u1 hF_ hS
                      obtain ⟨f15u1_1, -⟩ := hF_
                      replace f15u1_1 : Ep15u1 61 = .pointer (some ⟨b3, 2, none⟩) := Eq.mp (by kernel_rfl) f15u1_1
                      replace hS : St w0 w (cells b3 81 [.int .i64 r1_1.1, .int .i64 r1_3.1, .int .i64 r1_5.1, .slice A_b3_3_L3h b3_3_L3h.length c_b3_3_L3h, .slice none 0 0, .slice none 0 0] :: l') := Eq.mp (by kernel_rfl) hS
                      refine pa (at_load one_3 f15u1_1 (hS.cell rfl)) <| x_done <|
                        ?_
                      refine x_fin ⟨⟨_, rfl⟩, rfl, ?_⟩
                      exact Eq.mp (by kernel_rfl) hS
                    · intro Ep15u1 w l' hE15u1 hO15u1 hF_ hS
                      obtain ⟨f15u1_2, -⟩ := hF_
                      replace f15u1_2 : Ep15u1 62 = .int .i64 r1_5.1 := Eq.mp (by kernel_rfl) f15u1_2
                      refine p (ymul rfl f15u1_2 hx63u1) <| x_done <|
                        ?_
                      refine x_fin ⟨⟨_, rfl⟩, rfl, ?_⟩
                      exact Eq.mp (by kernel_rfl) hS
                    · intro Ep15u1 w l' hE15u1 hO15u1 hF_ hS
                      obtain ⟨f15u1_3, -⟩ := hF_
                      replace f15u1_3 : Ep15u1 63 = .int .i64 x63u1 := Eq.mp (by kernel_rfl) f15u1_3
                      refine p (yadd rfl f15u1_3 hx64u1) <| x_done <|
                        ?_
                      refine x_fin ⟨⟨_, rfl⟩, rfl, ?_⟩
                      exact Eq.mp (by kernel_rfl) hS
                    · intro Ep15u1 w l' hE15u1 hO15u1 hF_ hS
                      refine p (yl_move ((hE15u1 0 rfl).trans ec43u1_0)) <| x_done <|
                        ?_
                      refine x_fin ⟨⟨_, rfl⟩, rfl, ?_⟩
                      exact Eq.mp (by kernel_rfl) hS
                    · intro Ep15u1 w l' hE15u1 hO15u1 hF_ hS
                      refine p (yl_field0 fld_81_2 ((hE15u1 3 rfl).trans ec43u1_3)) <| x_done <|
                        ?_
                      refine x_fin ⟨⟨_, rfl⟩, rfl, ?_⟩
                      exact Eq.mp (by kernel_rfl) hS
                    · intro Ep15u1 w l' hE15u1 hO15u1 hF_ hS
                      obtain ⟨f15u1_6, -⟩ := hF_
                      replace f15u1_6 : Ep15u1 66 = .pointer (some ⟨b3, 2, none⟩) := Eq.mp (by kernel_rfl) f15u1_6
                      replace hS : St w0 w (cells b3 81 [.int .i64 r1_1.1, .int .i64 r1_3.1, .int .i64 r1_5.1, .slice A_b3_3_L3h b3_3_L3h.length c_b3_3_L3h, .slice none 0 0, .slice none 0 0] :: l') := Eq.mp (by kernel_rfl) hS
                      refine pa (at_load one_3 f15u1_6 (hS.cell rfl)) <| x_done <|
                        ?_
                      refine x_fin ⟨⟨_, rfl⟩, rfl, ?_⟩
                      exact Eq.mp (by kernel_rfl) hS
                    · intro Ep15u1 w l' hE15u1 hO15u1 hF_ hS
                      obtain ⟨f15u1_5, f15u1_7, -⟩ := hF_
                      replace f15u1_5 : Ep15u1 65 = .pointer (some ⟨b_s0, 0, none⟩) := Eq.mp (by kernel_rfl) f15u1_5
                      replace f15u1_7 : Ep15u1 67 = .int .i64 r1_5.1 := Eq.mp (by kernel_rfl) f15u1_7
                      replace hS : St w0 w (ro ρ_L3h :: cells b_s0 25 [.slice A_s0_0 s0.L.length c_s0_0, .int .i64 r8_1u1.2] :: l') := Eq.mp (by kernel_rfl) hS
                      have hcall := c_maskmake_Stream_Next hc15u1_8 (h_s0_0.le hleρ_L3h) (hS.pull 1)
                      refine o_cc call_15 (args2 f15u1_5 f15u1_7) hcall ?_
                      rintro e w' ⟨rfl, hS⟩
                      refine ⟨_, rfl, ?_⟩
                      refine x_done <|
                        ?_
                      refine x_fin ⟨⟨_, rfl⟩, rfl, ?_⟩
                      exact Eq.mp (by kernel_rfl) (hS.pull 1)
                    · intro Ep15u1 w l' hE15u1 hO15u1 hF_ hS
                      obtain ⟨f15u1_4, f15u1_8, -⟩ := hF_
                      replace f15u1_4 : Ep15u1 64 = .int .i64 x64u1 := Eq.mp (by kernel_rfl) f15u1_4
                      replace f15u1_8 : Ep15u1 68 = .int .i64 r15u1_8.1 := Eq.mp (by kernel_rfl) f15u1_8
                      refine p (yadd f15u1_4 f15u1_8 hx69u1) <| x_done <|
                        ?_
                      refine x_fin ⟨⟨_, rfl⟩, rfl, ?_⟩
                      exact Eq.mp (by kernel_rfl) hS
                    · intro Ep15u1 w l' hE15u1 hO15u1 hF_ hS
                      refine p (yl_field0 fld_183_2 ((hE15u1 4 rfl).trans ec43u1_4)) <| x_done <|
                        ?_
                      refine x_fin ⟨⟨_, rfl⟩, rfl, ?_⟩
                      exact Eq.mp (by kernel_rfl) hS
                    · intro Ep15u1 w l' hE15u1 hO15u1 hF_ hS
                      obtain ⟨f15u1_0, f15u1_10, -⟩ := hF_
                      replace f15u1_0 : Ep15u1 60 = .int .i64 3 := Eq.mp (by kernel_rfl) f15u1_0
                      replace f15u1_10 : Ep15u1 70 = .pointer (some ⟨b4, 2, none⟩) := Eq.mp (by kernel_rfl) f15u1_10
                      refine p (yl_ixa (x := .tmp 70) (y := .tmp 60) (q := 5) arr_180 f15u1_10 f15u1_0 (by decide) rfl) <| x_done <|
                        ?_
                      refine x_fin ⟨⟨_, rfl⟩, rfl, ?_⟩
                      exact Eq.mp (by kernel_rfl) hS
                    · intro Ep15u1 w l' hE15u1 hO15u1 hF_ hS
                      obtain ⟨f15u1_9, f15u1_11, -⟩ := hF_
                      replace f15u1_9 : Ep15u1 69 = .int .i64 x69u1 := Eq.mp (by kernel_rfl) f15u1_9
                      replace f15u1_11 : Ep15u1 71 = .pointer (some ⟨b4, 5, none⟩) := Eq.mp (by kernel_rfl) f15u1_11
                      replace hS : St w0 w (cells b4 183 [.int .u16 x25, .bool r4_4.1, .int .i64 b4_2_c34u4, .int .i64 b4_3_c34u3, .int .i64 b4_4_c34u2, .int .i64 0, .slice none 0 0, .slice none 0 0, .slice none 0 0, .slice none 0 0] :: l') := Eq.mp (by kernel_rfl) hS
                      refine o_store1 (v := .int .i64 x69u1) one_3 f15u1_11 f15u1_9 rfl rfl hS (fun w' hS => ?_)
                      refine x_done <|
                        ?_
                      refine x_fin ⟨⟨undef, rfl⟩, trivial, ?_⟩
                      exact Eq.mp (by kernel_rfl) hS
                  intro Ep15u1 w' hE15u1 hF_ hS
                  obtain ⟨f15u1_0, f15u1_1, f15u1_2, f15u1_3, f15u1_4, f15u1_5, f15u1_6, f15u1_7, f15u1_8, f15u1_9, f15u1_10, f15u1_11, -⟩ := hF_
                  replace f15u1_0 : Ep15u1 60 = .int .i64 3 := Eq.mp (by kernel_rfl) f15u1_0
                  replace f15u1_1 : Ep15u1 61 = .pointer (some ⟨b3, 2, none⟩) := Eq.mp (by kernel_rfl) f15u1_1
                  replace f15u1_2 : Ep15u1 62 = .int .i64 r1_5.1 := Eq.mp (by kernel_rfl) f15u1_2
                  replace f15u1_3 : Ep15u1 63 = .int .i64 x63u1 := Eq.mp (by kernel_rfl) f15u1_3
                  replace f15u1_4 : Ep15u1 64 = .int .i64 x64u1 := Eq.mp (by kernel_rfl) f15u1_4
                  replace f15u1_5 : Ep15u1 65 = .pointer (some ⟨b_s0, 0, none⟩) := Eq.mp (by kernel_rfl) f15u1_5
                  replace f15u1_6 : Ep15u1 66 = .pointer (some ⟨b3, 2, none⟩) := Eq.mp (by kernel_rfl) f15u1_6
                  replace f15u1_7 : Ep15u1 67 = .int .i64 r1_5.1 := Eq.mp (by kernel_rfl) f15u1_7
                  replace f15u1_8 : Ep15u1 68 = .int .i64 r15u1_8.1 := Eq.mp (by kernel_rfl) f15u1_8
                  replace f15u1_9 : Ep15u1 69 = .int .i64 x69u1 := Eq.mp (by kernel_rfl) f15u1_9
                  replace f15u1_10 : Ep15u1 70 = .pointer (some ⟨b4, 2, none⟩) := Eq.mp (by kernel_rfl) f15u1_10
                  replace f15u1_11 : Ep15u1 71 = .pointer (some ⟨b4, 5, none⟩) := Eq.mp (by kernel_rfl) f15u1_11
                  replace hS : St w0 w' (cells b3 81 [.int .i64 r1_1.1, .int .i64 r1_3.1, .int .i64 r1_5.1, .slice A_b3_3_L3h b3_3_L3h.length c_b3_3_L3h, .slice none 0 0, .slice none 0 0] :: ro ρ_L3h :: cells b_s0 25 [.slice A_s0_0 s0.L.length c_s0_0, .int .i64 r15u1_8.2] :: cells b4 183 [.int .u16 x25, .bool r4_4.1, .int .i64 b4_2_c34u4, .int .i64 b4_3_c34u3, .int .i64 b4_4_c34u2, .int .i64 x69u1, .slice none 0 0, .slice none 0 0, .slice none 0 0, .slice none 0 0] :: (cells b2 81 [.int .i64 0, .int .i64 0, .int .i64 0, .slice none 0 0, .slice none 0 0, .slice none 0 0] :: vec 183 R_array_Tile.sz (.slice A_b3_3_L3h b3_3_L3h.length c_b3_3_L3h) b3_3_L3h.length cs_b3_3_L3h :: l)) := Eq.mp (by kernel_rfl) hS
                  exact x_inv ⟨r15u1_8.2, x69u1, (Option.some.inj (show some _ = some _ from hFc58u1)), ((hE15u1 0 rfl).trans ec43u1_0), ((hE15u1 2 rfl).trans ec43u1_2), ((hE15u1 3 rfl).trans ec43u1_3), ((hE15u1 4 rfl).trans ec43u1_4), ((hE15u1 20 rfl).trans ec43u1_20), ((hE15u1 21 rfl).trans ec43u1_21), ((hE15u1 29 rfl).trans ec43u1_29), ((((((hS.pull 1).pull 5).pull 4).pull 3).pull 5).pull 5)⟩
                · replace hFc58u1 := it_f hc58u1 hFc58u1
                  refine x_skip <|
                    ?_
                  exact x_inv ⟨r8_1u1.2, 0, (Option.some.inj (show some _ = some _ from hFc58u1)), ec43u1_0, ec43u1_2, ec43u1_3, ec43u1_4, ec43u1_20, ec43u1_21, ec43u1_29, ((((((hS.pull 5).pull 5).pull 5).pull 5).pull 5).pull 5)⟩
              rintro E w ⟨b_s0_1_c58u1, b4_5_c58u1, rfl, ec58u1_0, ec58u1_2, ec58u1_3, ec58u1_4, ec58u1_20, ec58u1_21, ec58u1_29, hS⟩
              exact x_inv ⟨b_s0_1_c58u1, b4_5_c58u1, (Option.some.inj (show some _ = some _ from hFc43_2u1)), ec58u1_0, ec58u1_2, ec58u1_3, ec58u1_4, ec58u1_20, ec58u1_21, ec58u1_29, ((((((hS.pull 5).pull 5).pull 5).pull 5).pull 5).pull 5)⟩
          rintro E w ⟨b_s0_1_c43_2u1, b4_5_c43_2u1, rfl, ec43_2u1_0, ec43_2u1_2, ec43_2u1_3, ec43_2u1_4, ec43_2u1_20, ec43_2u1_21, ec43_2u1_29, hS⟩
          exact x_inv ⟨b_s0_1_c43_2u1, b4_5_c43_2u1, (Option.some.inj (show some _ = some _ from hFc34u1)), ec43_2u1_0, ec43_2u1_2, ec43_2u1_3, ec43_2u1_4, ec43_2u1_20, ec43_2u1_21, ec43_2u1_29, ((((((hS.pull 5).pull 5).pull 5).pull 5).pull 5).pull 5)⟩
      rintro E w ⟨b_s0_1_c34u1, b4_5_c34u1, rfl, ec34u1_0, ec34u1_2, ec34u1_3, ec34u1_4, ec34u1_20, ec34u1_21, ec34u1_29, hS⟩
      refine x_blk <| x_blk <| x_region <| p (yadd (c := 4) ec34u1_29 rfl ⟨rfl, by decide⟩) <|
        p (yl_move rfl) <| x_done <| x_un 0 <| x_seq <|
        x_region <| p (ylss_l (t := false) rfl rfl (by decide)) <| x_done <| x_seq <|
        x_cond_f (show ev _ _ = .bool false from rfl) <| x_exitTo _ rfl <| x_seq <| x_seq <|
        x_region <| p (yl_move rfl) <| x_done <| x_block <|
        x_unroll 4 <| x_seq <| x_region <| p (ylss_l (t := true) rfl rfl (by decide)) <|
        x_done <| x_seq <| x_cond_t (show ev _ _ = .bool true from rfl) <| x_skip <|
        x_seq <| x_block <| x_seq <| x_region <|
        p (yl_move rfl) <| p (yl_assign rfl) <| x_done <| x_seq <|
        x_region <| p (yl_field0 fld_81_2 ec34u1_3) <| pa (at_load one_3 rfl ((hS.pull 2).cell rfl)) <| p (yl_move rfl) <|
        x_done <|
        ?_
      replace hFL3 := bd_s hFL3; obtain ⟨oL21u4, hLL21u4, hFL3⟩ := hFL3
      refine x_join (fun E w => ∃ (A_b4_6_L21u4 : Option Addr) (n_b4_6_L21u4 : Nat) (c_b4_6_L21u4 : Nat) (cs_b4_6_L21u4 : List Value) (b_s0_1_L21u4 : Int) (b4_6_L21u4 : List Int), (b_s0_1_L21u4, b4_6_L21u4) = oL21u4 ∧ E 0 = .pointer (some ⟨b_s0, 0, none⟩) ∧ E 2 = .pointer (some ⟨b2, 0, none⟩) ∧ E 3 = .pointer (some ⟨b3, 0, none⟩) ∧ E 4 = .pointer (some ⟨b4, 0, none⟩) ∧ E 20 = .int .i64 x20 ∧ E 21 = .int .i64 y21_L3h ∧ E 73 = .int .i64 0 ∧ RepL (RpI .i64) ρ_L3h b4_6_L21u4 cs_b4_6_L21u4 ∧ St w0 w (cells b_s0 25 [.slice A_s0_0 s0.L.length c_s0_0, .int .i64 b_s0_1_L21u4] :: cells b2 81 [.int .i64 0, .int .i64 0, .int .i64 0, .slice none 0 0, .slice none 0 0, .slice none 0 0] :: cells b3 81 [.int .i64 r1_1.1, .int .i64 r1_3.1, .int .i64 r1_5.1, .slice A_b3_3_L3h b3_3_L3h.length c_b3_3_L3h, .slice none 0 0, .slice none 0 0] :: cells b4 183 [.int .u16 x25, .bool r4_4.1, .int .i64 b4_2_c34u4, .int .i64 b4_3_c34u3, .int .i64 b4_4_c34u2, .int .i64 b4_5_c34u1, .slice A_b4_6_L21u4 n_b4_6_L21u4 c_b4_6_L21u4, .slice none 0 0, .slice none 0 0, .slice none 0 0] :: vec 183 R_array_Tile.sz (.slice A_b3_3_L3h b3_3_L3h.length c_b3_3_L3h) b3_3_L3h.length cs_b3_3_L3h :: vec 3 (RpI .i64).sz (.slice A_b4_6_L21u4 n_b4_6_L21u4 c_b4_6_L21u4) n_b4_6_L21u4 cs_b4_6_L21u4 :: ro ρ_L3h :: l)) ?_ ?_
      · skip -- L21u4
        refine x_block ?_
        replace hS := St.vec_nil hS 3 (RpI .i64).sz
        have hnil_A_b4_6_L21u4h : RepL (RpI .i64) ρ_L3h [] [] := rfl
        refine x_loop (fun k_ E w => ∃ (A_b4_6_L21u4h : Option Addr) (n_b4_6_L21u4h : Nat) (c_b4_6_L21u4h : Nat) (cs_b4_6_L21u4h : List Value) (y78_L21u4h : Int) (b_s0_1_L21u4h : Int) (b4_6_L21u4h : List Int), lp (P_maskmake_Stream_Config_L21u4 s0 r1_5) k_ (y78_L21u4h, b_s0_1_L21u4h, b4_6_L21u4h) = some oL21u4 ∧ E 0 = .pointer (some ⟨b_s0, 0, none⟩) ∧ E 2 = .pointer (some ⟨b2, 0, none⟩) ∧ E 3 = .pointer (some ⟨b3, 0, none⟩) ∧ E 4 = .pointer (some ⟨b4, 0, none⟩) ∧ E 6 = .int .i64 0 ∧ E 20 = .int .i64 x20 ∧ E 21 = .int .i64 y21_L3h ∧ E 73 = .int .i64 0 ∧ E 77 = .int .i64 r1_5.1 ∧ E 78 = .int .i64 y78_L21u4h ∧ RepL (RpI .i64) ρ_L3h b4_6_L21u4h cs_b4_6_L21u4h ∧ St w0 w (cells b_s0 25 [.slice A_s0_0 s0.L.length c_s0_0, .int .i64 b_s0_1_L21u4h] :: cells b2 81 [.int .i64 0, .int .i64 0, .int .i64 0, .slice none 0 0, .slice none 0 0, .slice none 0 0] :: cells b3 81 [.int .i64 r1_1.1, .int .i64 r1_3.1, .int .i64 r1_5.1, .slice A_b3_3_L3h b3_3_L3h.length c_b3_3_L3h, .slice none 0 0, .slice none 0 0] :: cells b4 183 [.int .u16 x25, .bool r4_4.1, .int .i64 b4_2_c34u4, .int .i64 b4_3_c34u3, .int .i64 b4_4_c34u2, .int .i64 b4_5_c34u1, .slice A_b4_6_L21u4h n_b4_6_L21u4h c_b4_6_L21u4h, .slice none 0 0, .slice none 0 0, .slice none 0 0] :: vec 183 R_array_Tile.sz (.slice A_b3_3_L3h b3_3_L3h.length c_b3_3_L3h) b3_3_L3h.length cs_b3_3_L3h :: vec 3 (RpI .i64).sz (.slice A_b4_6_L21u4h n_b4_6_L21u4h c_b4_6_L21u4h) n_b4_6_L21u4h cs_b4_6_L21u4h :: ro ρ_L3h :: l)) fuel ⟨none, 0, 0, [], 0, b_s0_1_c34u1, [], hLL21u4, ec34u1_0, ec34u1_2, ec34u1_3, ec34u1_4, rfl, ec34u1_20, ec34u1_21, rfl, rfl, rfl, hnil_A_b4_6_L21u4h, (((((((hS.pull 6).pull 1).pull 6).pull 6).pull 6).pull 6).pull 6)⟩ ?_
        rintro kL21u4 E w ⟨A_b4_6_L21u4h, n_b4_6_L21u4h, c_b4_6_L21u4h, cs_b4_6_L21u4h, y78_L21u4h, b_s0_1_L21u4h, b4_6_L21u4h, hLL21u4, eL21u4h_0, eL21u4h_2, eL21u4h_3, eL21u4h_4, eL21u4h_6, eL21u4h_20, eL21u4h_21, eL21u4h_73, eL21u4h_77, eL21u4h_78, h_b4_6_L21u4h, hS⟩
        have e_ := St.vec_n (hS.pull 5) h_b4_6_L21u4h; subst e_
        replace hLL21u4 := lp_s hLL21u4; obtain ⟨kL21u4, obL21u4, rfl, hFL21u4, hLL21u4⟩ := hLL21u4
        refine x_seq <| x_region <| p (yl_lss eL21u4h_78 eL21u4h_77) <| x_done <|
          x_seq <|
          x_cond_p (y78_L21u4h < r1_5.1) rfl (fun hc79u4 => ?_) (fun hc79u4 => ?_)
        · replace hFL21u4 := it_t hc79u4 hFL21u4
          refine x_skip <| x_seq <| x_block <| x_seq <|
            x_region <| p (yl_move eL21u4h_0) <|
            ?_
          refine o_buildSlice (vs := [.int .i64 0, .int .i64 1, .int .i64 2, .int .i64 6, .int .i64 3]) (cs := [.int .i64 0, .int .i64 1, .int .i64 2, .int .i64 6, .int .i64 3]) sl_22 zero_3 (parts_eq (pt (va := .int .i64 0) rfl (pt (va := .int .i64 1) rfl (pt (va := .int .i64 2) rfl (pt (va := .int .i64 6) rfl (pt (va := .int .i64 3) rfl pt0)))))) rfl (by intro v hv; simp only [List.mem_cons, List.not_mem_nil, or_false] at hv; first | (subst hv; rfl) | (rcases hv with rfl | rfl | rfl | rfl | rfl <;> rfl)) (by decide) rfl hS (fun b81u4 w' hS => ?_)
          have hl22_2u4 : RepL (RpI .i64) ρ_L3h ([0, 1, 2, 6, 3] : List Int) [.int .i64 0, .int .i64 1, .int .i64 2, .int .i64 6, .int .i64 3] := (RepL.cons (cs := [.int .i64 0]) rfl (RepL.cons (cs := [.int .i64 1]) rfl (RepL.cons (cs := [.int .i64 2]) rfl (RepL.cons (cs := [.int .i64 6]) rfl (RepL.cons (cs := [.int .i64 3]) rfl RepL.nil)))))
          replace hS := St.vec_of (n := 5) (sz := (RpI .i64).sz) hS rfl (by decide)
          replace hFL21u4 := bd_s hFL21u4; obtain ⟨r22_2u4, hc22_2u4, hFL21u4⟩ := hFL21u4
          have q_ := St.lend ((hS.pull 7).pull 1) hl22_2u4; obtain ⟨ρl0, hll0, hlf0, hS0, back0⟩ := q_
          have hcall := c_maskmake_Stream_Pick hc22_2u4 ((h_s0_0.le hleρ_L3h).le hll0) hlf0 (hS0.pull 1)
          refine o_cc call_92 (args2 rfl rfl) hcall ?_
          rintro e w' ⟨rfl, hS⟩
          refine ⟨_, rfl, ?_⟩
          replace hS := back0 (hS.pull 1)
          refine p (yl_assign rfl) <| x_done <| x_seq <| x_seq <|
            x_region <| p (yl_move rfl) <| p (yl_move eL21u4h_6) <| p (yadd (c := 3) rfl rfl ⟨rfl, by decide⟩) <|
            p (yl_eql rfl rfl) <| x_done <|
            ?_
          replace hFL21u4 := bd_s hFL21u4; obtain ⟨oc86u4, hFc86u4, hFL21u4⟩ := hFL21u4
          refine x_join (fun E w => ∃ (x7_c86u4 : Int), x7_c86u4 = oc86u4 ∧ E 0 = .pointer (some ⟨b_s0, 0, none⟩) ∧ E 2 = .pointer (some ⟨b2, 0, none⟩) ∧ E 3 = .pointer (some ⟨b3, 0, none⟩) ∧ E 4 = .pointer (some ⟨b4, 0, none⟩) ∧ E 6 = .int .i64 0 ∧ E 7 = .int .i64 x7_c86u4 ∧ E 20 = .int .i64 x20 ∧ E 21 = .int .i64 y21_L3h ∧ E 73 = .int .i64 0 ∧ E 77 = .int .i64 r1_5.1 ∧ E 78 = .int .i64 y78_L21u4h ∧ St w0 w (cells b_s0 25 [.slice A_s0_0 s0.L.length c_s0_0, .int .i64 r22_2u4.2] :: cells b2 81 [.int .i64 0, .int .i64 0, .int .i64 0, .slice none 0 0, .slice none 0 0, .slice none 0 0] :: cells b3 81 [.int .i64 r1_1.1, .int .i64 r1_3.1, .int .i64 r1_5.1, .slice A_b3_3_L3h b3_3_L3h.length c_b3_3_L3h, .slice none 0 0, .slice none 0 0] :: cells b4 183 [.int .u16 x25, .bool r4_4.1, .int .i64 b4_2_c34u4, .int .i64 b4_3_c34u3, .int .i64 b4_4_c34u2, .int .i64 b4_5_c34u1, .slice A_b4_6_L21u4h b4_6_L21u4h.length c_b4_6_L21u4h, .slice none 0 0, .slice none 0 0, .slice none 0 0] :: vec 183 R_array_Tile.sz (.slice A_b3_3_L3h b3_3_L3h.length c_b3_3_L3h) b3_3_L3h.length cs_b3_3_L3h :: vec 3 (RpI .i64).sz (.slice A_b4_6_L21u4h b4_6_L21u4h.length c_b4_6_L21u4h) b4_6_L21u4h.length cs_b4_6_L21u4h :: ro ρ_L3h :: l)) ?_ ?_
          · skip -- c86u4
            refine x_cond_p (r22_2u4.1 = 3) rfl (fun hc86u4 => ?_) (fun hc86u4 => ?_)
            · replace hFc86u4 := it_t hc86u4 hFc86u4
              refine x_region <| p (yl_assign rfl) <| x_done <|
                ?_
              exact x_inv ⟨2, (Option.some.inj (show some _ = some _ from hFc86u4)), eL21u4h_0, eL21u4h_2, eL21u4h_3, eL21u4h_4, eL21u4h_6, rfl, eL21u4h_20, eL21u4h_21, eL21u4h_73, eL21u4h_77, eL21u4h_78, ((((((hS.drop.pull 6).pull 6).pull 6).pull 6).pull 6).pull 6)⟩
            · replace hFc86u4 := it_f hc86u4 hFc86u4
              refine x_skip <|
                ?_
              exact x_inv ⟨r22_2u4.1, (Option.some.inj (show some _ = some _ from hFc86u4)), eL21u4h_0, eL21u4h_2, eL21u4h_3, eL21u4h_4, eL21u4h_6, rfl, eL21u4h_20, eL21u4h_21, eL21u4h_73, eL21u4h_77, eL21u4h_78, ((((((hS.drop.pull 6).pull 6).pull 6).pull 6).pull 6).pull 6)⟩
          rintro E w ⟨x7_c86u4, rfl, ec86u4_0, ec86u4_2, ec86u4_3, ec86u4_4, ec86u4_6, ec86u4_7, ec86u4_20, ec86u4_21, ec86u4_73, ec86u4_77, ec86u4_78, hS⟩
          refine x_seq <| x_seq <| x_region <| p (yl_move ec86u4_6) <|
            p (yeql_l (t := true) rfl rfl (by decide)) <| p (yl_move rfl) <| o_pass 90 89 false (says_lit (c := true) rfl rfl) <| o_pass 91 89 false (says_lit (c := true) rfl rfl) <|
            p (yl_pick (b := true) rfl (fun h => rfl) (fun h => nomatch h)) <| x_done <| x_cond_t (show ev _ _ = .bool true from rfl) <| x_region <|
            p (yl_move ec86u4_0) <|
            ?_
          refine o_buildSlice (vs := [.int .i64 0, .int .i64 2]) (cs := [.int .i64 0, .int .i64 2]) sl_22 zero_3 (parts_eq (pt (va := .int .i64 0) rfl (pt (va := .int .i64 2) rfl pt0))) rfl (by intro v hv; simp only [List.mem_cons, List.not_mem_nil, or_false] at hv; first | (subst hv; rfl) | (rcases hv with rfl | rfl <;> rfl)) (by decide) rfl hS (fun b94u4 w' hS => ?_)
          have hl26_2u4 : RepL (RpI .i64) ρ_L3h ([0, 2] : List Int) [.int .i64 0, .int .i64 2] := (RepL.cons (cs := [.int .i64 0]) rfl (RepL.cons (cs := [.int .i64 2]) rfl RepL.nil))
          replace hS := St.vec_of (n := 2) (sz := (RpI .i64).sz) hS rfl (by decide)
          replace hFL21u4 := bd_s hFL21u4; obtain ⟨r26_2u4, hc26_2u4, hFL21u4⟩ := hFL21u4
          have q_ := St.lend ((hS.pull 7).pull 1) hl26_2u4; obtain ⟨ρl0, hll0, hlf0, hS0, back0⟩ := q_
          have hcall := c_maskmake_Stream_Pick hc26_2u4 ((h_s0_0.le hleρ_L3h).le hll0) hlf0 (hS0.pull 1)
          refine o_cc call_92 (args2 rfl rfl) hcall ?_
          rintro e w' ⟨rfl, hS⟩
          refine ⟨_, rfl, ?_⟩
          replace hS := back0 (hS.pull 1)
          refine p (yl_assign rfl) <| x_done <| x_region <| p (yl_move ec86u4_6) <|
            p (yl_move ec86u4_6) <| p (yl_field0 fld_183_3 ec86u4_4) <| p (yl_ixa (x := .tmp 98) (y := .tmp 97) (q := 6) arr_181 rfl rfl (by decide) rfl) <| pa (at_load one_22 rfl ((hS.pull 5).cell rfl)) <|
            p (yl_move rfl) <|
            ?_
          refine o_buildSlice (vs := [.int .i64 r26_2u4.1]) (cs := [.int .i64 r26_2u4.1]) sl_22 zero_3 (parts_eq (pt (va := .int .i64 r26_2u4.1) rfl pt0)) rfl (by intro v hv; simp only [List.mem_cons, List.not_mem_nil, or_false] at hv; first | (subst hv; rfl) | (rcases hv with rfl <;> rfl)) (by decide) rfl hS (fun b102u4 w' hS => ?_)
          replace hFL21u4 := lv_s hFL21u4; obtain ⟨z27_7u4, hz27_7u4, hFL21u4⟩ := hFL21u4
          replace hFL21u4 := ck_s hFL21u4; obtain ⟨hk27_7u4, hFL21u4⟩ := hFL21u4
          refine o_ap sl_22 zero_3 rfl (by decide) rfl rfl (hS.pull 8) h_b4_6_L21u4h (src_blk usl_22 hS rfl rfl) (RepL.cons (R := (RpI .i64)) (ρ := ρ_L3h) (x := r26_2u4.1) (cs := [.int .i64 r26_2u4.1]) rfl RepL.nil) hz27_7u4 hk27_7u4 (fun A103u4 c103u4 cs103u4 w' hr103u4 hS => ?_)
          refine p (yl_field0 fld_183_3 ec86u4_4) <| p (yl_ixa (x := .tmp 104) (y := .tmp 96) (q := 6) arr_181 rfl rfl (by decide) rfl) <|
            ?_
          refine o_store1 (v := .slice A103u4 z27_7u4.length c103u4) one_22 rfl rfl rfl rfl (hS.pull 7) (fun w' hS => ?_)
          replace hFL21u4 := ar_s hFL21u4; obtain ⟨x106u4, hx106u4, hFL21u4⟩ := hFL21u4
          refine x_done <| x_blk <| x_region <| p (yadd ec86u4_78 rfl hx106u4) <|
            p (yl_move rfl) <| x_done <|
            ?_
          have e_ := Option.some.inj (show some _ = some _ from hFL21u4); subst e_
          exact x_inv ⟨kL21u4, Nat.lt_succ_self _, A103u4, z27_7u4.length, c103u4, cs103u4, x106u4, r26_2u4.2, z27_7u4, hLL21u4, ec86u4_0, ec86u4_2, ec86u4_3, ec86u4_4, ec86u4_6, ec86u4_20, ec86u4_21, ec86u4_73, ec86u4_77, rfl, hr103u4, (((((((((hS.pull 2).drop.pull 2).drop.pull 2).pull 2).pull 6).pull 3).pull 6).pull 6).pull 6)⟩
        · replace hFL21u4 := it_f hc79u4 hFL21u4
          refine x_exitTo _ rfl <|
            ?_
          have e_ := Option.some.inj (show some _ = some _ from hFL21u4); subst e_
          exact x_inv ⟨A_b4_6_L21u4h, b4_6_L21u4h.length, c_b4_6_L21u4h, cs_b4_6_L21u4h, b_s0_1_L21u4h, b4_6_L21u4h, hLL21u4, eL21u4h_0, eL21u4h_2, eL21u4h_3, eL21u4h_4, eL21u4h_20, eL21u4h_21, eL21u4h_73, h_b4_6_L21u4h, (((((((hS.pull 6).pull 6).pull 6).pull 6).pull 6).pull 6).pull 6)⟩
      rintro E w ⟨A_b4_6_L21u4, n_b4_6_L21u4, c_b4_6_L21u4, cs_b4_6_L21u4, b_s0_1_L21u4, b4_6_L21u4, rfl, eL21u4_0, eL21u4_2, eL21u4_3, eL21u4_4, eL21u4_20, eL21u4_21, eL21u4_73, h_b4_6_L21u4, hS⟩
      have e_ := St.vec_n (hS.pull 5) h_b4_6_L21u4; subst e_
      refine x_blk <| x_region <| p (yadd (c := 1) eL21u4_73 rfl ⟨rfl, by decide⟩) <| p (yl_move rfl) <|
        x_done <| x_un 3 <| x_seq <| x_region <|
        p (ylss_l (t := true) rfl rfl (by decide)) <| x_done <| x_seq <| x_cond_t (show ev _ _ = .bool true from rfl) <|
        x_skip <| x_seq <| x_block <| x_seq <|
        x_region <| p (yl_move rfl) <| p (yl_assign rfl) <| x_done <|
        x_seq <| x_region <| p (yl_field0 fld_81_2 eL21u4_3) <| pa (at_load one_3 rfl ((hS.pull 2).cell rfl)) <|
        p (yl_move rfl) <| x_done <|
        ?_
      replace hFL3 := bd_s hFL3; obtain ⟨oL21u3, hLL21u3, hFL3⟩ := hFL3
      refine x_join (fun E w => ∃ (A_b4_7_L21u3 : Option Addr) (n_b4_7_L21u3 : Nat) (c_b4_7_L21u3 : Nat) (cs_b4_7_L21u3 : List Value) (b_s0_1_L21u3 : Int) (b4_7_L21u3 : List Int), (b_s0_1_L21u3, b4_7_L21u3) = oL21u3 ∧ E 0 = .pointer (some ⟨b_s0, 0, none⟩) ∧ E 2 = .pointer (some ⟨b2, 0, none⟩) ∧ E 3 = .pointer (some ⟨b3, 0, none⟩) ∧ E 4 = .pointer (some ⟨b4, 0, none⟩) ∧ E 20 = .int .i64 x20 ∧ E 21 = .int .i64 y21_L3h ∧ E 73 = .int .i64 1 ∧ RepL (RpI .i64) ρ_L3h b4_7_L21u3 cs_b4_7_L21u3 ∧ St w0 w (cells b_s0 25 [.slice A_s0_0 s0.L.length c_s0_0, .int .i64 b_s0_1_L21u3] :: cells b2 81 [.int .i64 0, .int .i64 0, .int .i64 0, .slice none 0 0, .slice none 0 0, .slice none 0 0] :: cells b3 81 [.int .i64 r1_1.1, .int .i64 r1_3.1, .int .i64 r1_5.1, .slice A_b3_3_L3h b3_3_L3h.length c_b3_3_L3h, .slice none 0 0, .slice none 0 0] :: cells b4 183 [.int .u16 x25, .bool r4_4.1, .int .i64 b4_2_c34u4, .int .i64 b4_3_c34u3, .int .i64 b4_4_c34u2, .int .i64 b4_5_c34u1, .slice A_b4_6_L21u4 b4_6_L21u4.length c_b4_6_L21u4, .slice A_b4_7_L21u3 n_b4_7_L21u3 c_b4_7_L21u3, .slice none 0 0, .slice none 0 0] :: vec 183 R_array_Tile.sz (.slice A_b3_3_L3h b3_3_L3h.length c_b3_3_L3h) b3_3_L3h.length cs_b3_3_L3h :: vec 3 (RpI .i64).sz (.slice A_b4_6_L21u4 b4_6_L21u4.length c_b4_6_L21u4) b4_6_L21u4.length cs_b4_6_L21u4 :: vec 3 (RpI .i64).sz (.slice A_b4_7_L21u3 n_b4_7_L21u3 c_b4_7_L21u3) n_b4_7_L21u3 cs_b4_7_L21u3 :: ro ρ_L3h :: l)) ?_ ?_
      · skip -- L21u3
        refine x_block ?_
        replace hS := St.vec_nil hS 3 (RpI .i64).sz
        have hnil_A_b4_7_L21u3h : RepL (RpI .i64) ρ_L3h [] [] := rfl
        refine x_loop (fun k_ E w => ∃ (A_b4_7_L21u3h : Option Addr) (n_b4_7_L21u3h : Nat) (c_b4_7_L21u3h : Nat) (cs_b4_7_L21u3h : List Value) (y78_L21u3h : Int) (b_s0_1_L21u3h : Int) (b4_7_L21u3h : List Int), lp (P_maskmake_Stream_Config_L21u3 s0 r1_5) k_ (y78_L21u3h, b_s0_1_L21u3h, b4_7_L21u3h) = some oL21u3 ∧ E 0 = .pointer (some ⟨b_s0, 0, none⟩) ∧ E 2 = .pointer (some ⟨b2, 0, none⟩) ∧ E 3 = .pointer (some ⟨b3, 0, none⟩) ∧ E 4 = .pointer (some ⟨b4, 0, none⟩) ∧ E 6 = .int .i64 1 ∧ E 20 = .int .i64 x20 ∧ E 21 = .int .i64 y21_L3h ∧ E 73 = .int .i64 1 ∧ E 77 = .int .i64 r1_5.1 ∧ E 78 = .int .i64 y78_L21u3h ∧ RepL (RpI .i64) ρ_L3h b4_7_L21u3h cs_b4_7_L21u3h ∧ St w0 w (cells b_s0 25 [.slice A_s0_0 s0.L.length c_s0_0, .int .i64 b_s0_1_L21u3h] :: cells b2 81 [.int .i64 0, .int .i64 0, .int .i64 0, .slice none 0 0, .slice none 0 0, .slice none 0 0] :: cells b3 81 [.int .i64 r1_1.1, .int .i64 r1_3.1, .int .i64 r1_5.1, .slice A_b3_3_L3h b3_3_L3h.length c_b3_3_L3h, .slice none 0 0, .slice none 0 0] :: cells b4 183 [.int .u16 x25, .bool r4_4.1, .int .i64 b4_2_c34u4, .int .i64 b4_3_c34u3, .int .i64 b4_4_c34u2, .int .i64 b4_5_c34u1, .slice A_b4_6_L21u4 b4_6_L21u4.length c_b4_6_L21u4, .slice A_b4_7_L21u3h n_b4_7_L21u3h c_b4_7_L21u3h, .slice none 0 0, .slice none 0 0] :: vec 183 R_array_Tile.sz (.slice A_b3_3_L3h b3_3_L3h.length c_b3_3_L3h) b3_3_L3h.length cs_b3_3_L3h :: vec 3 (RpI .i64).sz (.slice A_b4_6_L21u4 b4_6_L21u4.length c_b4_6_L21u4) b4_6_L21u4.length cs_b4_6_L21u4 :: vec 3 (RpI .i64).sz (.slice A_b4_7_L21u3h n_b4_7_L21u3h c_b4_7_L21u3h) n_b4_7_L21u3h cs_b4_7_L21u3h :: ro ρ_L3h :: l)) fuel ⟨none, 0, 0, [], 0, b_s0_1_L21u4, [], hLL21u3, eL21u4_0, eL21u4_2, eL21u4_3, eL21u4_4, rfl, eL21u4_20, eL21u4_21, rfl, rfl, rfl, hnil_A_b4_7_L21u3h, ((((((((hS.pull 7).pull 1).pull 7).pull 7).pull 7).pull 7).pull 7).pull 7)⟩ ?_
        rintro kL21u3 E w ⟨A_b4_7_L21u3h, n_b4_7_L21u3h, c_b4_7_L21u3h, cs_b4_7_L21u3h, y78_L21u3h, b_s0_1_L21u3h, b4_7_L21u3h, hLL21u3, eL21u3h_0, eL21u3h_2, eL21u3h_3, eL21u3h_4, eL21u3h_6, eL21u3h_20, eL21u3h_21, eL21u3h_73, eL21u3h_77, eL21u3h_78, h_b4_7_L21u3h, hS⟩
        have e_ := St.vec_n (hS.pull 6) h_b4_7_L21u3h; subst e_
        replace hLL21u3 := lp_s hLL21u3; obtain ⟨kL21u3, obL21u3, rfl, hFL21u3, hLL21u3⟩ := hLL21u3
        refine x_seq <| x_region <| p (yl_lss eL21u3h_78 eL21u3h_77) <| x_done <|
          x_seq <|
          x_cond_p (y78_L21u3h < r1_5.1) rfl (fun hc79u3 => ?_) (fun hc79u3 => ?_)
        · replace hFL21u3 := it_t hc79u3 hFL21u3
          refine x_skip <| x_seq <| x_block <| x_seq <|
            x_region <| p (yl_move eL21u3h_0) <|
            ?_
          refine o_buildSlice (vs := [.int .i64 0, .int .i64 1, .int .i64 2, .int .i64 6, .int .i64 3]) (cs := [.int .i64 0, .int .i64 1, .int .i64 2, .int .i64 6, .int .i64 3]) sl_22 zero_3 (parts_eq (pt (va := .int .i64 0) rfl (pt (va := .int .i64 1) rfl (pt (va := .int .i64 2) rfl (pt (va := .int .i64 6) rfl (pt (va := .int .i64 3) rfl pt0)))))) rfl (by intro v hv; simp only [List.mem_cons, List.not_mem_nil, or_false] at hv; first | (subst hv; rfl) | (rcases hv with rfl | rfl | rfl | rfl | rfl <;> rfl)) (by decide) rfl hS (fun b81u3 w' hS => ?_)
          have hl22_2u3 : RepL (RpI .i64) ρ_L3h ([0, 1, 2, 6, 3] : List Int) [.int .i64 0, .int .i64 1, .int .i64 2, .int .i64 6, .int .i64 3] := (RepL.cons (cs := [.int .i64 0]) rfl (RepL.cons (cs := [.int .i64 1]) rfl (RepL.cons (cs := [.int .i64 2]) rfl (RepL.cons (cs := [.int .i64 6]) rfl (RepL.cons (cs := [.int .i64 3]) rfl RepL.nil)))))
          replace hS := St.vec_of (n := 5) (sz := (RpI .i64).sz) hS rfl (by decide)
          replace hFL21u3 := bd_s hFL21u3; obtain ⟨r22_2u3, hc22_2u3, hFL21u3⟩ := hFL21u3
          have q_ := St.lend ((hS.pull 8).pull 1) hl22_2u3; obtain ⟨ρl0, hll0, hlf0, hS0, back0⟩ := q_
          have hcall := c_maskmake_Stream_Pick hc22_2u3 ((h_s0_0.le hleρ_L3h).le hll0) hlf0 (hS0.pull 1)
          refine o_cc call_92 (args2 rfl rfl) hcall ?_
          rintro e w' ⟨rfl, hS⟩
          refine ⟨_, rfl, ?_⟩
          replace hS := back0 (hS.pull 1)
          refine p (yl_assign rfl) <| x_done <| x_seq <| x_seq <|
            x_region <| p (yl_move rfl) <| p (yl_move eL21u3h_6) <| p (yadd (c := 4) rfl rfl ⟨rfl, by decide⟩) <|
            p (yl_eql rfl rfl) <| x_done <|
            ?_
          replace hFL21u3 := bd_s hFL21u3; obtain ⟨oc86u3, hFc86u3, hFL21u3⟩ := hFL21u3
          refine x_join (fun E w => ∃ (x7_c86u3 : Int), x7_c86u3 = oc86u3 ∧ E 0 = .pointer (some ⟨b_s0, 0, none⟩) ∧ E 2 = .pointer (some ⟨b2, 0, none⟩) ∧ E 3 = .pointer (some ⟨b3, 0, none⟩) ∧ E 4 = .pointer (some ⟨b4, 0, none⟩) ∧ E 6 = .int .i64 1 ∧ E 7 = .int .i64 x7_c86u3 ∧ E 20 = .int .i64 x20 ∧ E 21 = .int .i64 y21_L3h ∧ E 73 = .int .i64 1 ∧ E 77 = .int .i64 r1_5.1 ∧ E 78 = .int .i64 y78_L21u3h ∧ St w0 w (cells b_s0 25 [.slice A_s0_0 s0.L.length c_s0_0, .int .i64 r22_2u3.2] :: cells b2 81 [.int .i64 0, .int .i64 0, .int .i64 0, .slice none 0 0, .slice none 0 0, .slice none 0 0] :: cells b3 81 [.int .i64 r1_1.1, .int .i64 r1_3.1, .int .i64 r1_5.1, .slice A_b3_3_L3h b3_3_L3h.length c_b3_3_L3h, .slice none 0 0, .slice none 0 0] :: cells b4 183 [.int .u16 x25, .bool r4_4.1, .int .i64 b4_2_c34u4, .int .i64 b4_3_c34u3, .int .i64 b4_4_c34u2, .int .i64 b4_5_c34u1, .slice A_b4_6_L21u4 b4_6_L21u4.length c_b4_6_L21u4, .slice A_b4_7_L21u3h b4_7_L21u3h.length c_b4_7_L21u3h, .slice none 0 0, .slice none 0 0] :: vec 183 R_array_Tile.sz (.slice A_b3_3_L3h b3_3_L3h.length c_b3_3_L3h) b3_3_L3h.length cs_b3_3_L3h :: vec 3 (RpI .i64).sz (.slice A_b4_6_L21u4 b4_6_L21u4.length c_b4_6_L21u4) b4_6_L21u4.length cs_b4_6_L21u4 :: vec 3 (RpI .i64).sz (.slice A_b4_7_L21u3h b4_7_L21u3h.length c_b4_7_L21u3h) b4_7_L21u3h.length cs_b4_7_L21u3h :: ro ρ_L3h :: l)) ?_ ?_
          · skip -- c86u3
            refine x_cond_p (r22_2u3.1 = 4) rfl (fun hc86u3 => ?_) (fun hc86u3 => ?_)
            · replace hFc86u3 := it_t hc86u3 hFc86u3
              refine x_region <| p (yl_assign rfl) <| x_done <|
                ?_
              exact x_inv ⟨2, (Option.some.inj (show some _ = some _ from hFc86u3)), eL21u3h_0, eL21u3h_2, eL21u3h_3, eL21u3h_4, eL21u3h_6, rfl, eL21u3h_20, eL21u3h_21, eL21u3h_73, eL21u3h_77, eL21u3h_78, (((((((hS.drop.pull 7).pull 7).pull 7).pull 7).pull 7).pull 7).pull 7)⟩
            · replace hFc86u3 := it_f hc86u3 hFc86u3
              refine x_skip <|
                ?_
              exact x_inv ⟨r22_2u3.1, (Option.some.inj (show some _ = some _ from hFc86u3)), eL21u3h_0, eL21u3h_2, eL21u3h_3, eL21u3h_4, eL21u3h_6, rfl, eL21u3h_20, eL21u3h_21, eL21u3h_73, eL21u3h_77, eL21u3h_78, (((((((hS.drop.pull 7).pull 7).pull 7).pull 7).pull 7).pull 7).pull 7)⟩
          rintro E w ⟨x7_c86u3, rfl, ec86u3_0, ec86u3_2, ec86u3_3, ec86u3_4, ec86u3_6, ec86u3_7, ec86u3_20, ec86u3_21, ec86u3_73, ec86u3_77, ec86u3_78, hS⟩
          refine x_seq <| x_seq <| x_region <| p (yl_move ec86u3_6) <|
            p (yeql_l (t := false) rfl rfl (by decide)) <| p (yl_move rfl) <| o_strip 89 false (says_lit (c := false) rfl rfl) <| p (yl_move ec86u3_6) <|
            o_strip 89 false (says_lit (c := false) rfl rfl) <| p (yeql_l (t := false) rfl rfl (by decide)) <| p (yl_pick (b := false) rfl (fun h => nomatch h) (fun h => rfl)) <| x_done <|
            x_cond_f (show ev _ _ = .bool false from rfl) <| x_skip <| x_region <| p (yl_move ec86u3_6) <|
            p (yl_move ec86u3_6) <| p (yl_field0 fld_183_3 ec86u3_4) <| p (yl_ixa (x := .tmp 98) (y := .tmp 97) (q := 7) arr_181 rfl rfl (by decide) rfl) <| pa (at_load one_22 rfl ((hS.pull 3).cell rfl)) <|
            p (yl_move ec86u3_7) <|
            ?_
          refine o_buildSlice (vs := [.int .i64 x7_c86u3]) (cs := [.int .i64 x7_c86u3]) sl_22 zero_3 (parts_eq (pt (va := .int .i64 x7_c86u3) rfl pt0)) rfl (by intro v hv; simp only [List.mem_cons, List.not_mem_nil, or_false] at hv; first | (subst hv; rfl) | (rcases hv with rfl <;> rfl)) (by decide) rfl hS (fun b102u3 w' hS => ?_)
          replace hFL21u3 := lv_s hFL21u3; obtain ⟨z27_7u3, hz27_7u3, hFL21u3⟩ := hFL21u3
          replace hFL21u3 := ck_s hFL21u3; obtain ⟨hk27_7u3, hFL21u3⟩ := hFL21u3
          refine o_ap sl_22 zero_3 rfl (by decide) rfl rfl (hS.pull 7) h_b4_7_L21u3h (src_blk usl_22 hS rfl rfl) (RepL.cons (R := (RpI .i64)) (ρ := ρ_L3h) (x := x7_c86u3) (cs := [.int .i64 x7_c86u3]) rfl RepL.nil) hz27_7u3 hk27_7u3 (fun A103u3 c103u3 cs103u3 w' hr103u3 hS => ?_)
          refine p (yl_field0 fld_183_3 ec86u3_4) <| p (yl_ixa (x := .tmp 104) (y := .tmp 96) (q := 7) arr_181 rfl rfl (by decide) rfl) <|
            ?_
          refine o_store1 (v := .slice A103u3 z27_7u3.length c103u3) one_22 rfl rfl rfl rfl (hS.pull 5) (fun w' hS => ?_)
          replace hFL21u3 := ar_s hFL21u3; obtain ⟨x106u3, hx106u3, hFL21u3⟩ := hFL21u3
          refine x_done <| x_blk <| x_region <| p (yadd ec86u3_78 rfl hx106u3) <|
            p (yl_move rfl) <| x_done <|
            ?_
          have e_ := Option.some.inj (show some _ = some _ from hFL21u3); subst e_
          exact x_inv ⟨kL21u3, Nat.lt_succ_self _, A103u3, z27_7u3.length, c103u3, cs103u3, x106u3, r22_2u3.2, z27_7u3, hLL21u3, ec86u3_0, ec86u3_2, ec86u3_3, ec86u3_4, ec86u3_6, ec86u3_20, ec86u3_21, ec86u3_73, ec86u3_77, rfl, hr103u3, (((((((((hS.pull 2).drop.pull 7).pull 2).pull 7).pull 7).pull 4).pull 7).pull 7).pull 7)⟩
        · replace hFL21u3 := it_f hc79u3 hFL21u3
          refine x_exitTo _ rfl <|
            ?_
          have e_ := Option.some.inj (show some _ = some _ from hFL21u3); subst e_
          exact x_inv ⟨A_b4_7_L21u3h, b4_7_L21u3h.length, c_b4_7_L21u3h, cs_b4_7_L21u3h, b_s0_1_L21u3h, b4_7_L21u3h, hLL21u3, eL21u3h_0, eL21u3h_2, eL21u3h_3, eL21u3h_4, eL21u3h_20, eL21u3h_21, eL21u3h_73, h_b4_7_L21u3h, ((((((((hS.pull 7).pull 7).pull 7).pull 7).pull 7).pull 7).pull 7).pull 7)⟩
      rintro E w ⟨A_b4_7_L21u3, n_b4_7_L21u3, c_b4_7_L21u3, cs_b4_7_L21u3, b_s0_1_L21u3, b4_7_L21u3, rfl, eL21u3_0, eL21u3_2, eL21u3_3, eL21u3_4, eL21u3_20, eL21u3_21, eL21u3_73, h_b4_7_L21u3, hS⟩
      have e_ := St.vec_n (hS.pull 6) h_b4_7_L21u3; subst e_
      refine x_blk <| x_region <| p (yadd (c := 2) eL21u3_73 rfl ⟨rfl, by decide⟩) <| p (yl_move rfl) <|
        x_done <| x_un 2 <| x_seq <| x_region <|
        p (ylss_l (t := true) rfl rfl (by decide)) <| x_done <| x_seq <| x_cond_t (show ev _ _ = .bool true from rfl) <|
        x_skip <| x_seq <| x_block <| x_seq <|
        x_region <| p (yl_move rfl) <| p (yl_assign rfl) <| x_done <|
        x_seq <| x_region <| p (yl_field0 fld_81_2 eL21u3_3) <| pa (at_load one_3 rfl ((hS.pull 2).cell rfl)) <|
        p (yl_move rfl) <| x_done <|
        ?_
      replace hFL3 := bd_s hFL3; obtain ⟨oL21u2, hLL21u2, hFL3⟩ := hFL3
      refine x_join (fun E w => ∃ (A_b4_8_L21u2 : Option Addr) (n_b4_8_L21u2 : Nat) (c_b4_8_L21u2 : Nat) (cs_b4_8_L21u2 : List Value) (b_s0_1_L21u2 : Int) (b4_8_L21u2 : List Int), (b_s0_1_L21u2, b4_8_L21u2) = oL21u2 ∧ E 0 = .pointer (some ⟨b_s0, 0, none⟩) ∧ E 2 = .pointer (some ⟨b2, 0, none⟩) ∧ E 3 = .pointer (some ⟨b3, 0, none⟩) ∧ E 4 = .pointer (some ⟨b4, 0, none⟩) ∧ E 20 = .int .i64 x20 ∧ E 21 = .int .i64 y21_L3h ∧ E 73 = .int .i64 2 ∧ RepL (RpI .i64) ρ_L3h b4_8_L21u2 cs_b4_8_L21u2 ∧ St w0 w (cells b_s0 25 [.slice A_s0_0 s0.L.length c_s0_0, .int .i64 b_s0_1_L21u2] :: cells b2 81 [.int .i64 0, .int .i64 0, .int .i64 0, .slice none 0 0, .slice none 0 0, .slice none 0 0] :: cells b3 81 [.int .i64 r1_1.1, .int .i64 r1_3.1, .int .i64 r1_5.1, .slice A_b3_3_L3h b3_3_L3h.length c_b3_3_L3h, .slice none 0 0, .slice none 0 0] :: cells b4 183 [.int .u16 x25, .bool r4_4.1, .int .i64 b4_2_c34u4, .int .i64 b4_3_c34u3, .int .i64 b4_4_c34u2, .int .i64 b4_5_c34u1, .slice A_b4_6_L21u4 b4_6_L21u4.length c_b4_6_L21u4, .slice A_b4_7_L21u3 b4_7_L21u3.length c_b4_7_L21u3, .slice A_b4_8_L21u2 n_b4_8_L21u2 c_b4_8_L21u2, .slice none 0 0] :: vec 183 R_array_Tile.sz (.slice A_b3_3_L3h b3_3_L3h.length c_b3_3_L3h) b3_3_L3h.length cs_b3_3_L3h :: vec 3 (RpI .i64).sz (.slice A_b4_6_L21u4 b4_6_L21u4.length c_b4_6_L21u4) b4_6_L21u4.length cs_b4_6_L21u4 :: vec 3 (RpI .i64).sz (.slice A_b4_7_L21u3 b4_7_L21u3.length c_b4_7_L21u3) b4_7_L21u3.length cs_b4_7_L21u3 :: vec 3 (RpI .i64).sz (.slice A_b4_8_L21u2 n_b4_8_L21u2 c_b4_8_L21u2) n_b4_8_L21u2 cs_b4_8_L21u2 :: ro ρ_L3h :: l)) ?_ ?_
      · skip -- L21u2
        refine x_block ?_
        replace hS := St.vec_nil hS 3 (RpI .i64).sz
        have hnil_A_b4_8_L21u2h : RepL (RpI .i64) ρ_L3h [] [] := rfl
        refine x_loop (fun k_ E w => ∃ (A_b4_8_L21u2h : Option Addr) (n_b4_8_L21u2h : Nat) (c_b4_8_L21u2h : Nat) (cs_b4_8_L21u2h : List Value) (y78_L21u2h : Int) (b_s0_1_L21u2h : Int) (b4_8_L21u2h : List Int), lp (P_maskmake_Stream_Config_L21u2 s0 r1_5) k_ (y78_L21u2h, b_s0_1_L21u2h, b4_8_L21u2h) = some oL21u2 ∧ E 0 = .pointer (some ⟨b_s0, 0, none⟩) ∧ E 2 = .pointer (some ⟨b2, 0, none⟩) ∧ E 3 = .pointer (some ⟨b3, 0, none⟩) ∧ E 4 = .pointer (some ⟨b4, 0, none⟩) ∧ E 6 = .int .i64 2 ∧ E 20 = .int .i64 x20 ∧ E 21 = .int .i64 y21_L3h ∧ E 73 = .int .i64 2 ∧ E 77 = .int .i64 r1_5.1 ∧ E 78 = .int .i64 y78_L21u2h ∧ RepL (RpI .i64) ρ_L3h b4_8_L21u2h cs_b4_8_L21u2h ∧ St w0 w (cells b_s0 25 [.slice A_s0_0 s0.L.length c_s0_0, .int .i64 b_s0_1_L21u2h] :: cells b2 81 [.int .i64 0, .int .i64 0, .int .i64 0, .slice none 0 0, .slice none 0 0, .slice none 0 0] :: cells b3 81 [.int .i64 r1_1.1, .int .i64 r1_3.1, .int .i64 r1_5.1, .slice A_b3_3_L3h b3_3_L3h.length c_b3_3_L3h, .slice none 0 0, .slice none 0 0] :: cells b4 183 [.int .u16 x25, .bool r4_4.1, .int .i64 b4_2_c34u4, .int .i64 b4_3_c34u3, .int .i64 b4_4_c34u2, .int .i64 b4_5_c34u1, .slice A_b4_6_L21u4 b4_6_L21u4.length c_b4_6_L21u4, .slice A_b4_7_L21u3 b4_7_L21u3.length c_b4_7_L21u3, .slice A_b4_8_L21u2h n_b4_8_L21u2h c_b4_8_L21u2h, .slice none 0 0] :: vec 183 R_array_Tile.sz (.slice A_b3_3_L3h b3_3_L3h.length c_b3_3_L3h) b3_3_L3h.length cs_b3_3_L3h :: vec 3 (RpI .i64).sz (.slice A_b4_6_L21u4 b4_6_L21u4.length c_b4_6_L21u4) b4_6_L21u4.length cs_b4_6_L21u4 :: vec 3 (RpI .i64).sz (.slice A_b4_7_L21u3 b4_7_L21u3.length c_b4_7_L21u3) b4_7_L21u3.length cs_b4_7_L21u3 :: vec 3 (RpI .i64).sz (.slice A_b4_8_L21u2h n_b4_8_L21u2h c_b4_8_L21u2h) n_b4_8_L21u2h cs_b4_8_L21u2h :: ro ρ_L3h :: l)) fuel ⟨none, 0, 0, [], 0, b_s0_1_L21u3, [], hLL21u2, eL21u3_0, eL21u3_2, eL21u3_3, eL21u3_4, rfl, eL21u3_20, eL21u3_21, rfl, rfl, rfl, hnil_A_b4_8_L21u2h, (((((((((hS.pull 8).pull 1).pull 8).pull 8).pull 8).pull 8).pull 8).pull 8).pull 8)⟩ ?_
        rintro kL21u2 E w ⟨A_b4_8_L21u2h, n_b4_8_L21u2h, c_b4_8_L21u2h, cs_b4_8_L21u2h, y78_L21u2h, b_s0_1_L21u2h, b4_8_L21u2h, hLL21u2, eL21u2h_0, eL21u2h_2, eL21u2h_3, eL21u2h_4, eL21u2h_6, eL21u2h_20, eL21u2h_21, eL21u2h_73, eL21u2h_77, eL21u2h_78, h_b4_8_L21u2h, hS⟩
        have e_ := St.vec_n (hS.pull 7) h_b4_8_L21u2h; subst e_
        replace hLL21u2 := lp_s hLL21u2; obtain ⟨kL21u2, obL21u2, rfl, hFL21u2, hLL21u2⟩ := hLL21u2
        refine x_seq <| x_region <| p (yl_lss eL21u2h_78 eL21u2h_77) <| x_done <|
          x_seq <|
          x_cond_p (y78_L21u2h < r1_5.1) rfl (fun hc79u2 => ?_) (fun hc79u2 => ?_)
        · replace hFL21u2 := it_t hc79u2 hFL21u2
          refine x_skip <| x_seq <| x_block <| x_seq <|
            x_region <| p (yl_move eL21u2h_0) <|
            ?_
          refine o_buildSlice (vs := [.int .i64 0, .int .i64 1, .int .i64 2, .int .i64 6, .int .i64 3]) (cs := [.int .i64 0, .int .i64 1, .int .i64 2, .int .i64 6, .int .i64 3]) sl_22 zero_3 (parts_eq (pt (va := .int .i64 0) rfl (pt (va := .int .i64 1) rfl (pt (va := .int .i64 2) rfl (pt (va := .int .i64 6) rfl (pt (va := .int .i64 3) rfl pt0)))))) rfl (by intro v hv; simp only [List.mem_cons, List.not_mem_nil, or_false] at hv; first | (subst hv; rfl) | (rcases hv with rfl | rfl | rfl | rfl | rfl <;> rfl)) (by decide) rfl hS (fun b81u2 w' hS => ?_)
          have hl22_2u2 : RepL (RpI .i64) ρ_L3h ([0, 1, 2, 6, 3] : List Int) [.int .i64 0, .int .i64 1, .int .i64 2, .int .i64 6, .int .i64 3] := (RepL.cons (cs := [.int .i64 0]) rfl (RepL.cons (cs := [.int .i64 1]) rfl (RepL.cons (cs := [.int .i64 2]) rfl (RepL.cons (cs := [.int .i64 6]) rfl (RepL.cons (cs := [.int .i64 3]) rfl RepL.nil)))))
          replace hS := St.vec_of (n := 5) (sz := (RpI .i64).sz) hS rfl (by decide)
          replace hFL21u2 := bd_s hFL21u2; obtain ⟨r22_2u2, hc22_2u2, hFL21u2⟩ := hFL21u2
          have q_ := St.lend ((hS.pull 9).pull 1) hl22_2u2; obtain ⟨ρl0, hll0, hlf0, hS0, back0⟩ := q_
          have hcall := c_maskmake_Stream_Pick hc22_2u2 ((h_s0_0.le hleρ_L3h).le hll0) hlf0 (hS0.pull 1)
          refine o_cc call_92 (args2 rfl rfl) hcall ?_
          rintro e w' ⟨rfl, hS⟩
          refine ⟨_, rfl, ?_⟩
          replace hS := back0 (hS.pull 1)
          refine p (yl_assign rfl) <| x_done <| x_seq <| x_seq <|
            x_region <| p (yl_move rfl) <| p (yl_move eL21u2h_6) <| p (yadd (c := 5) rfl rfl ⟨rfl, by decide⟩) <|
            p (yl_eql rfl rfl) <| x_done <|
            ?_
          replace hFL21u2 := bd_s hFL21u2; obtain ⟨oc86u2, hFc86u2, hFL21u2⟩ := hFL21u2
          refine x_join (fun E w => ∃ (x7_c86u2 : Int), x7_c86u2 = oc86u2 ∧ E 0 = .pointer (some ⟨b_s0, 0, none⟩) ∧ E 2 = .pointer (some ⟨b2, 0, none⟩) ∧ E 3 = .pointer (some ⟨b3, 0, none⟩) ∧ E 4 = .pointer (some ⟨b4, 0, none⟩) ∧ E 6 = .int .i64 2 ∧ E 7 = .int .i64 x7_c86u2 ∧ E 20 = .int .i64 x20 ∧ E 21 = .int .i64 y21_L3h ∧ E 73 = .int .i64 2 ∧ E 77 = .int .i64 r1_5.1 ∧ E 78 = .int .i64 y78_L21u2h ∧ St w0 w (cells b_s0 25 [.slice A_s0_0 s0.L.length c_s0_0, .int .i64 r22_2u2.2] :: cells b2 81 [.int .i64 0, .int .i64 0, .int .i64 0, .slice none 0 0, .slice none 0 0, .slice none 0 0] :: cells b3 81 [.int .i64 r1_1.1, .int .i64 r1_3.1, .int .i64 r1_5.1, .slice A_b3_3_L3h b3_3_L3h.length c_b3_3_L3h, .slice none 0 0, .slice none 0 0] :: cells b4 183 [.int .u16 x25, .bool r4_4.1, .int .i64 b4_2_c34u4, .int .i64 b4_3_c34u3, .int .i64 b4_4_c34u2, .int .i64 b4_5_c34u1, .slice A_b4_6_L21u4 b4_6_L21u4.length c_b4_6_L21u4, .slice A_b4_7_L21u3 b4_7_L21u3.length c_b4_7_L21u3, .slice A_b4_8_L21u2h b4_8_L21u2h.length c_b4_8_L21u2h, .slice none 0 0] :: vec 183 R_array_Tile.sz (.slice A_b3_3_L3h b3_3_L3h.length c_b3_3_L3h) b3_3_L3h.length cs_b3_3_L3h :: vec 3 (RpI .i64).sz (.slice A_b4_6_L21u4 b4_6_L21u4.length c_b4_6_L21u4) b4_6_L21u4.length cs_b4_6_L21u4 :: vec 3 (RpI .i64).sz (.slice A_b4_7_L21u3 b4_7_L21u3.length c_b4_7_L21u3) b4_7_L21u3.length cs_b4_7_L21u3 :: vec 3 (RpI .i64).sz (.slice A_b4_8_L21u2h b4_8_L21u2h.length c_b4_8_L21u2h) b4_8_L21u2h.length cs_b4_8_L21u2h :: ro ρ_L3h :: l)) ?_ ?_
          · skip -- c86u2
            refine x_cond_p (r22_2u2.1 = 5) rfl (fun hc86u2 => ?_) (fun hc86u2 => ?_)
            · replace hFc86u2 := it_t hc86u2 hFc86u2
              refine x_region <| p (yl_assign rfl) <| x_done <|
                ?_
              exact x_inv ⟨2, (Option.some.inj (show some _ = some _ from hFc86u2)), eL21u2h_0, eL21u2h_2, eL21u2h_3, eL21u2h_4, eL21u2h_6, rfl, eL21u2h_20, eL21u2h_21, eL21u2h_73, eL21u2h_77, eL21u2h_78, ((((((((hS.drop.pull 8).pull 8).pull 8).pull 8).pull 8).pull 8).pull 8).pull 8)⟩
            · replace hFc86u2 := it_f hc86u2 hFc86u2
              refine x_skip <|
                ?_
              exact x_inv ⟨r22_2u2.1, (Option.some.inj (show some _ = some _ from hFc86u2)), eL21u2h_0, eL21u2h_2, eL21u2h_3, eL21u2h_4, eL21u2h_6, rfl, eL21u2h_20, eL21u2h_21, eL21u2h_73, eL21u2h_77, eL21u2h_78, ((((((((hS.drop.pull 8).pull 8).pull 8).pull 8).pull 8).pull 8).pull 8).pull 8)⟩
          rintro E w ⟨x7_c86u2, rfl, ec86u2_0, ec86u2_2, ec86u2_3, ec86u2_4, ec86u2_6, ec86u2_7, ec86u2_20, ec86u2_21, ec86u2_73, ec86u2_77, ec86u2_78, hS⟩
          refine x_seq <| x_seq <| x_region <| p (yl_move ec86u2_6) <|
            p (yeql_l (t := false) rfl rfl (by decide)) <| p (yl_move rfl) <| o_strip 89 false (says_lit (c := false) rfl rfl) <| p (yl_move ec86u2_6) <|
            o_strip 89 false (says_lit (c := false) rfl rfl) <| p (yeql_l (t := false) rfl rfl (by decide)) <| p (yl_pick (b := false) rfl (fun h => nomatch h) (fun h => rfl)) <| x_done <|
            x_cond_f (show ev _ _ = .bool false from rfl) <| x_skip <| x_region <| p (yl_move ec86u2_6) <|
            p (yl_move ec86u2_6) <| p (yl_field0 fld_183_3 ec86u2_4) <| p (yl_ixa (x := .tmp 98) (y := .tmp 97) (q := 8) arr_181 rfl rfl (by decide) rfl) <| pa (at_load one_22 rfl ((hS.pull 3).cell rfl)) <|
            p (yl_move ec86u2_7) <|
            ?_
          refine o_buildSlice (vs := [.int .i64 x7_c86u2]) (cs := [.int .i64 x7_c86u2]) sl_22 zero_3 (parts_eq (pt (va := .int .i64 x7_c86u2) rfl pt0)) rfl (by intro v hv; simp only [List.mem_cons, List.not_mem_nil, or_false] at hv; first | (subst hv; rfl) | (rcases hv with rfl <;> rfl)) (by decide) rfl hS (fun b102u2 w' hS => ?_)
          replace hFL21u2 := lv_s hFL21u2; obtain ⟨z27_7u2, hz27_7u2, hFL21u2⟩ := hFL21u2
          replace hFL21u2 := ck_s hFL21u2; obtain ⟨hk27_7u2, hFL21u2⟩ := hFL21u2
          refine o_ap sl_22 zero_3 rfl (by decide) rfl rfl (hS.pull 8) h_b4_8_L21u2h (src_blk usl_22 hS rfl rfl) (RepL.cons (R := (RpI .i64)) (ρ := ρ_L3h) (x := x7_c86u2) (cs := [.int .i64 x7_c86u2]) rfl RepL.nil) hz27_7u2 hk27_7u2 (fun A103u2 c103u2 cs103u2 w' hr103u2 hS => ?_)
          refine p (yl_field0 fld_183_3 ec86u2_4) <| p (yl_ixa (x := .tmp 104) (y := .tmp 96) (q := 8) arr_181 rfl rfl (by decide) rfl) <|
            ?_
          refine o_store1 (v := .slice A103u2 z27_7u2.length c103u2) one_22 rfl rfl rfl rfl (hS.pull 5) (fun w' hS => ?_)
          replace hFL21u2 := ar_s hFL21u2; obtain ⟨x106u2, hx106u2, hFL21u2⟩ := hFL21u2
          refine x_done <| x_blk <| x_region <| p (yadd ec86u2_78 rfl hx106u2) <|
            p (yl_move rfl) <| x_done <|
            ?_
          have e_ := Option.some.inj (show some _ = some _ from hFL21u2); subst e_
          exact x_inv ⟨kL21u2, Nat.lt_succ_self _, A103u2, z27_7u2.length, c103u2, cs103u2, x106u2, r22_2u2.2, z27_7u2, hLL21u2, ec86u2_0, ec86u2_2, ec86u2_3, ec86u2_4, ec86u2_6, ec86u2_20, ec86u2_21, ec86u2_73, ec86u2_77, rfl, hr103u2, ((((((((((hS.pull 2).drop.pull 8).pull 2).pull 8).pull 8).pull 8).pull 5).pull 8).pull 8).pull 8)⟩
        · replace hFL21u2 := it_f hc79u2 hFL21u2
          refine x_exitTo _ rfl <|
            ?_
          have e_ := Option.some.inj (show some _ = some _ from hFL21u2); subst e_
          exact x_inv ⟨A_b4_8_L21u2h, b4_8_L21u2h.length, c_b4_8_L21u2h, cs_b4_8_L21u2h, b_s0_1_L21u2h, b4_8_L21u2h, hLL21u2, eL21u2h_0, eL21u2h_2, eL21u2h_3, eL21u2h_4, eL21u2h_20, eL21u2h_21, eL21u2h_73, h_b4_8_L21u2h, (((((((((hS.pull 8).pull 8).pull 8).pull 8).pull 8).pull 8).pull 8).pull 8).pull 8)⟩
      rintro E w ⟨A_b4_8_L21u2, n_b4_8_L21u2, c_b4_8_L21u2, cs_b4_8_L21u2, b_s0_1_L21u2, b4_8_L21u2, rfl, eL21u2_0, eL21u2_2, eL21u2_3, eL21u2_4, eL21u2_20, eL21u2_21, eL21u2_73, h_b4_8_L21u2, hS⟩
      have e_ := St.vec_n (hS.pull 7) h_b4_8_L21u2; subst e_
      refine x_blk <| x_region <| p (yadd (c := 3) eL21u2_73 rfl ⟨rfl, by decide⟩) <| p (yl_move rfl) <|
        x_done <| x_un 1 <| x_seq <| x_region <|
        p (ylss_l (t := true) rfl rfl (by decide)) <| x_done <| x_seq <| x_cond_t (show ev _ _ = .bool true from rfl) <|
        x_skip <| x_seq <| x_block <| x_seq <|
        x_region <| p (yl_move rfl) <| p (yl_assign rfl) <| x_done <|
        x_seq <| x_region <| p (yl_field0 fld_81_2 eL21u2_3) <| pa (at_load one_3 rfl ((hS.pull 2).cell rfl)) <|
        p (yl_move rfl) <| x_done <|
        ?_
      replace hFL3 := bd_s hFL3; obtain ⟨oL21u1, hLL21u1, hFL3⟩ := hFL3
      refine x_join (fun E w => ∃ (A_b4_9_L21u1 : Option Addr) (n_b4_9_L21u1 : Nat) (c_b4_9_L21u1 : Nat) (cs_b4_9_L21u1 : List Value) (b_s0_1_L21u1 : Int) (b4_9_L21u1 : List Int), (b_s0_1_L21u1, b4_9_L21u1) = oL21u1 ∧ E 0 = .pointer (some ⟨b_s0, 0, none⟩) ∧ E 2 = .pointer (some ⟨b2, 0, none⟩) ∧ E 3 = .pointer (some ⟨b3, 0, none⟩) ∧ E 4 = .pointer (some ⟨b4, 0, none⟩) ∧ E 20 = .int .i64 x20 ∧ E 21 = .int .i64 y21_L3h ∧ E 73 = .int .i64 3 ∧ RepL (RpI .i64) ρ_L3h b4_9_L21u1 cs_b4_9_L21u1 ∧ St w0 w (cells b_s0 25 [.slice A_s0_0 s0.L.length c_s0_0, .int .i64 b_s0_1_L21u1] :: cells b2 81 [.int .i64 0, .int .i64 0, .int .i64 0, .slice none 0 0, .slice none 0 0, .slice none 0 0] :: cells b3 81 [.int .i64 r1_1.1, .int .i64 r1_3.1, .int .i64 r1_5.1, .slice A_b3_3_L3h b3_3_L3h.length c_b3_3_L3h, .slice none 0 0, .slice none 0 0] :: cells b4 183 [.int .u16 x25, .bool r4_4.1, .int .i64 b4_2_c34u4, .int .i64 b4_3_c34u3, .int .i64 b4_4_c34u2, .int .i64 b4_5_c34u1, .slice A_b4_6_L21u4 b4_6_L21u4.length c_b4_6_L21u4, .slice A_b4_7_L21u3 b4_7_L21u3.length c_b4_7_L21u3, .slice A_b4_8_L21u2 b4_8_L21u2.length c_b4_8_L21u2, .slice A_b4_9_L21u1 n_b4_9_L21u1 c_b4_9_L21u1] :: vec 183 R_array_Tile.sz (.slice A_b3_3_L3h b3_3_L3h.length c_b3_3_L3h) b3_3_L3h.length cs_b3_3_L3h :: vec 3 (RpI .i64).sz (.slice A_b4_6_L21u4 b4_6_L21u4.length c_b4_6_L21u4) b4_6_L21u4.length cs_b4_6_L21u4 :: vec 3 (RpI .i64).sz (.slice A_b4_7_L21u3 b4_7_L21u3.length c_b4_7_L21u3) b4_7_L21u3.length cs_b4_7_L21u3 :: vec 3 (RpI .i64).sz (.slice A_b4_8_L21u2 b4_8_L21u2.length c_b4_8_L21u2) b4_8_L21u2.length cs_b4_8_L21u2 :: vec 3 (RpI .i64).sz (.slice A_b4_9_L21u1 n_b4_9_L21u1 c_b4_9_L21u1) n_b4_9_L21u1 cs_b4_9_L21u1 :: ro ρ_L3h :: l)) ?_ ?_
      · skip -- L21u1
        refine x_block ?_
        replace hS := St.vec_nil hS 3 (RpI .i64).sz
        have hnil_A_b4_9_L21u1h : RepL (RpI .i64) ρ_L3h [] [] := rfl
        refine x_loop (fun k_ E w => ∃ (A_b4_9_L21u1h : Option Addr) (n_b4_9_L21u1h : Nat) (c_b4_9_L21u1h : Nat) (cs_b4_9_L21u1h : List Value) (y78_L21u1h : Int) (b_s0_1_L21u1h : Int) (b4_9_L21u1h : List Int), lp (P_maskmake_Stream_Config_L21u1 s0 r1_5) k_ (y78_L21u1h, b_s0_1_L21u1h, b4_9_L21u1h) = some oL21u1 ∧ E 0 = .pointer (some ⟨b_s0, 0, none⟩) ∧ E 2 = .pointer (some ⟨b2, 0, none⟩) ∧ E 3 = .pointer (some ⟨b3, 0, none⟩) ∧ E 4 = .pointer (some ⟨b4, 0, none⟩) ∧ E 6 = .int .i64 3 ∧ E 20 = .int .i64 x20 ∧ E 21 = .int .i64 y21_L3h ∧ E 73 = .int .i64 3 ∧ E 77 = .int .i64 r1_5.1 ∧ E 78 = .int .i64 y78_L21u1h ∧ RepL (RpI .i64) ρ_L3h b4_9_L21u1h cs_b4_9_L21u1h ∧ St w0 w (cells b_s0 25 [.slice A_s0_0 s0.L.length c_s0_0, .int .i64 b_s0_1_L21u1h] :: cells b2 81 [.int .i64 0, .int .i64 0, .int .i64 0, .slice none 0 0, .slice none 0 0, .slice none 0 0] :: cells b3 81 [.int .i64 r1_1.1, .int .i64 r1_3.1, .int .i64 r1_5.1, .slice A_b3_3_L3h b3_3_L3h.length c_b3_3_L3h, .slice none 0 0, .slice none 0 0] :: cells b4 183 [.int .u16 x25, .bool r4_4.1, .int .i64 b4_2_c34u4, .int .i64 b4_3_c34u3, .int .i64 b4_4_c34u2, .int .i64 b4_5_c34u1, .slice A_b4_6_L21u4 b4_6_L21u4.length c_b4_6_L21u4, .slice A_b4_7_L21u3 b4_7_L21u3.length c_b4_7_L21u3, .slice A_b4_8_L21u2 b4_8_L21u2.length c_b4_8_L21u2, .slice A_b4_9_L21u1h n_b4_9_L21u1h c_b4_9_L21u1h] :: vec 183 R_array_Tile.sz (.slice A_b3_3_L3h b3_3_L3h.length c_b3_3_L3h) b3_3_L3h.length cs_b3_3_L3h :: vec 3 (RpI .i64).sz (.slice A_b4_6_L21u4 b4_6_L21u4.length c_b4_6_L21u4) b4_6_L21u4.length cs_b4_6_L21u4 :: vec 3 (RpI .i64).sz (.slice A_b4_7_L21u3 b4_7_L21u3.length c_b4_7_L21u3) b4_7_L21u3.length cs_b4_7_L21u3 :: vec 3 (RpI .i64).sz (.slice A_b4_8_L21u2 b4_8_L21u2.length c_b4_8_L21u2) b4_8_L21u2.length cs_b4_8_L21u2 :: vec 3 (RpI .i64).sz (.slice A_b4_9_L21u1h n_b4_9_L21u1h c_b4_9_L21u1h) n_b4_9_L21u1h cs_b4_9_L21u1h :: ro ρ_L3h :: l)) fuel ⟨none, 0, 0, [], 0, b_s0_1_L21u2, [], hLL21u1, eL21u2_0, eL21u2_2, eL21u2_3, eL21u2_4, rfl, eL21u2_20, eL21u2_21, rfl, rfl, rfl, hnil_A_b4_9_L21u1h, ((((((((((hS.pull 9).pull 1).pull 9).pull 9).pull 9).pull 9).pull 9).pull 9).pull 9).pull 9)⟩ ?_
        rintro kL21u1 E w ⟨A_b4_9_L21u1h, n_b4_9_L21u1h, c_b4_9_L21u1h, cs_b4_9_L21u1h, y78_L21u1h, b_s0_1_L21u1h, b4_9_L21u1h, hLL21u1, eL21u1h_0, eL21u1h_2, eL21u1h_3, eL21u1h_4, eL21u1h_6, eL21u1h_20, eL21u1h_21, eL21u1h_73, eL21u1h_77, eL21u1h_78, h_b4_9_L21u1h, hS⟩
        have e_ := St.vec_n (hS.pull 8) h_b4_9_L21u1h; subst e_
        replace hLL21u1 := lp_s hLL21u1; obtain ⟨kL21u1, obL21u1, rfl, hFL21u1, hLL21u1⟩ := hLL21u1
        refine x_seq <| x_region <| p (yl_lss eL21u1h_78 eL21u1h_77) <| x_done <|
          x_seq <|
          x_cond_p (y78_L21u1h < r1_5.1) rfl (fun hc79u1 => ?_) (fun hc79u1 => ?_)
        · replace hFL21u1 := it_t hc79u1 hFL21u1
          refine x_skip <| x_seq <| x_block <| x_seq <|
            x_region <| p (yl_move eL21u1h_0) <|
            ?_
          refine o_buildSlice (vs := [.int .i64 0, .int .i64 1, .int .i64 2, .int .i64 6, .int .i64 3]) (cs := [.int .i64 0, .int .i64 1, .int .i64 2, .int .i64 6, .int .i64 3]) sl_22 zero_3 (parts_eq (pt (va := .int .i64 0) rfl (pt (va := .int .i64 1) rfl (pt (va := .int .i64 2) rfl (pt (va := .int .i64 6) rfl (pt (va := .int .i64 3) rfl pt0)))))) rfl (by intro v hv; simp only [List.mem_cons, List.not_mem_nil, or_false] at hv; first | (subst hv; rfl) | (rcases hv with rfl | rfl | rfl | rfl | rfl <;> rfl)) (by decide) rfl hS (fun b81u1 w' hS => ?_)
          have hl22_2u1 : RepL (RpI .i64) ρ_L3h ([0, 1, 2, 6, 3] : List Int) [.int .i64 0, .int .i64 1, .int .i64 2, .int .i64 6, .int .i64 3] := (RepL.cons (cs := [.int .i64 0]) rfl (RepL.cons (cs := [.int .i64 1]) rfl (RepL.cons (cs := [.int .i64 2]) rfl (RepL.cons (cs := [.int .i64 6]) rfl (RepL.cons (cs := [.int .i64 3]) rfl RepL.nil)))))
          replace hS := St.vec_of (n := 5) (sz := (RpI .i64).sz) hS rfl (by decide)
          replace hFL21u1 := bd_s hFL21u1; obtain ⟨r22_2u1, hc22_2u1, hFL21u1⟩ := hFL21u1
          have q_ := St.lend ((hS.pull 10).pull 1) hl22_2u1; obtain ⟨ρl0, hll0, hlf0, hS0, back0⟩ := q_
          have hcall := c_maskmake_Stream_Pick hc22_2u1 ((h_s0_0.le hleρ_L3h).le hll0) hlf0 (hS0.pull 1)
          refine o_cc call_92 (args2 rfl rfl) hcall ?_
          rintro e w' ⟨rfl, hS⟩
          refine ⟨_, rfl, ?_⟩
          replace hS := back0 (hS.pull 1)
          refine p (yl_assign rfl) <| x_done <| x_seq <| x_seq <|
            x_region <| p (yl_move rfl) <| p (yl_move eL21u1h_6) <| p (yadd (c := 6) rfl rfl ⟨rfl, by decide⟩) <|
            p (yl_eql rfl rfl) <| x_done <|
            ?_
          replace hFL21u1 := bd_s hFL21u1; obtain ⟨oc86u1, hFc86u1, hFL21u1⟩ := hFL21u1
          refine x_join (fun E w => ∃ (x7_c86u1 : Int), x7_c86u1 = oc86u1 ∧ E 0 = .pointer (some ⟨b_s0, 0, none⟩) ∧ E 2 = .pointer (some ⟨b2, 0, none⟩) ∧ E 3 = .pointer (some ⟨b3, 0, none⟩) ∧ E 4 = .pointer (some ⟨b4, 0, none⟩) ∧ E 6 = .int .i64 3 ∧ E 7 = .int .i64 x7_c86u1 ∧ E 20 = .int .i64 x20 ∧ E 21 = .int .i64 y21_L3h ∧ E 73 = .int .i64 3 ∧ E 77 = .int .i64 r1_5.1 ∧ E 78 = .int .i64 y78_L21u1h ∧ St w0 w (cells b_s0 25 [.slice A_s0_0 s0.L.length c_s0_0, .int .i64 r22_2u1.2] :: cells b2 81 [.int .i64 0, .int .i64 0, .int .i64 0, .slice none 0 0, .slice none 0 0, .slice none 0 0] :: cells b3 81 [.int .i64 r1_1.1, .int .i64 r1_3.1, .int .i64 r1_5.1, .slice A_b3_3_L3h b3_3_L3h.length c_b3_3_L3h, .slice none 0 0, .slice none 0 0] :: cells b4 183 [.int .u16 x25, .bool r4_4.1, .int .i64 b4_2_c34u4, .int .i64 b4_3_c34u3, .int .i64 b4_4_c34u2, .int .i64 b4_5_c34u1, .slice A_b4_6_L21u4 b4_6_L21u4.length c_b4_6_L21u4, .slice A_b4_7_L21u3 b4_7_L21u3.length c_b4_7_L21u3, .slice A_b4_8_L21u2 b4_8_L21u2.length c_b4_8_L21u2, .slice A_b4_9_L21u1h b4_9_L21u1h.length c_b4_9_L21u1h] :: vec 183 R_array_Tile.sz (.slice A_b3_3_L3h b3_3_L3h.length c_b3_3_L3h) b3_3_L3h.length cs_b3_3_L3h :: vec 3 (RpI .i64).sz (.slice A_b4_6_L21u4 b4_6_L21u4.length c_b4_6_L21u4) b4_6_L21u4.length cs_b4_6_L21u4 :: vec 3 (RpI .i64).sz (.slice A_b4_7_L21u3 b4_7_L21u3.length c_b4_7_L21u3) b4_7_L21u3.length cs_b4_7_L21u3 :: vec 3 (RpI .i64).sz (.slice A_b4_8_L21u2 b4_8_L21u2.length c_b4_8_L21u2) b4_8_L21u2.length cs_b4_8_L21u2 :: vec 3 (RpI .i64).sz (.slice A_b4_9_L21u1h b4_9_L21u1h.length c_b4_9_L21u1h) b4_9_L21u1h.length cs_b4_9_L21u1h :: ro ρ_L3h :: l)) ?_ ?_
          · skip -- c86u1
            refine x_cond_p (r22_2u1.1 = 6) rfl (fun hc86u1 => ?_) (fun hc86u1 => ?_)
            · replace hFc86u1 := it_t hc86u1 hFc86u1
              refine x_region <| p (yl_assign rfl) <| x_done <|
                ?_
              exact x_inv ⟨2, (Option.some.inj (show some _ = some _ from hFc86u1)), eL21u1h_0, eL21u1h_2, eL21u1h_3, eL21u1h_4, eL21u1h_6, rfl, eL21u1h_20, eL21u1h_21, eL21u1h_73, eL21u1h_77, eL21u1h_78, (((((((((hS.drop.pull 9).pull 9).pull 9).pull 9).pull 9).pull 9).pull 9).pull 9).pull 9)⟩
            · replace hFc86u1 := it_f hc86u1 hFc86u1
              refine x_skip <|
                ?_
              exact x_inv ⟨r22_2u1.1, (Option.some.inj (show some _ = some _ from hFc86u1)), eL21u1h_0, eL21u1h_2, eL21u1h_3, eL21u1h_4, eL21u1h_6, rfl, eL21u1h_20, eL21u1h_21, eL21u1h_73, eL21u1h_77, eL21u1h_78, (((((((((hS.drop.pull 9).pull 9).pull 9).pull 9).pull 9).pull 9).pull 9).pull 9).pull 9)⟩
          rintro E w ⟨x7_c86u1, rfl, ec86u1_0, ec86u1_2, ec86u1_3, ec86u1_4, ec86u1_6, ec86u1_7, ec86u1_20, ec86u1_21, ec86u1_73, ec86u1_77, ec86u1_78, hS⟩
          refine x_seq <| x_seq <| x_region <| p (yl_move ec86u1_6) <|
            p (yeql_l (t := false) rfl rfl (by decide)) <| p (yl_move rfl) <| o_strip 89 false (says_lit (c := false) rfl rfl) <| p (yl_move ec86u1_6) <|
            o_strip 89 false (says_lit (c := false) rfl rfl) <| p (yeql_l (t := true) rfl rfl (by decide)) <| p (yl_pick (b := false) rfl (fun h => nomatch h) (fun h => rfl)) <| x_done <|
            x_cond_t (show ev _ _ = .bool true from rfl) <| x_region <| p (yl_move ec86u1_0) <|
            ?_
          refine o_buildSlice (vs := [.int .i64 0, .int .i64 2]) (cs := [.int .i64 0, .int .i64 2]) sl_22 zero_3 (parts_eq (pt (va := .int .i64 0) rfl (pt (va := .int .i64 2) rfl pt0))) rfl (by intro v hv; simp only [List.mem_cons, List.not_mem_nil, or_false] at hv; first | (subst hv; rfl) | (rcases hv with rfl | rfl <;> rfl)) (by decide) rfl hS (fun b94u1 w' hS => ?_)
          have hl26_2u1 : RepL (RpI .i64) ρ_L3h ([0, 2] : List Int) [.int .i64 0, .int .i64 2] := (RepL.cons (cs := [.int .i64 0]) rfl (RepL.cons (cs := [.int .i64 2]) rfl RepL.nil))
          replace hS := St.vec_of (n := 2) (sz := (RpI .i64).sz) hS rfl (by decide)
          replace hFL21u1 := bd_s hFL21u1; obtain ⟨r26_2u1, hc26_2u1, hFL21u1⟩ := hFL21u1
          have q_ := St.lend ((hS.pull 10).pull 1) hl26_2u1; obtain ⟨ρl0, hll0, hlf0, hS0, back0⟩ := q_
          have hcall := c_maskmake_Stream_Pick hc26_2u1 ((h_s0_0.le hleρ_L3h).le hll0) hlf0 (hS0.pull 1)
          refine o_cc call_92 (args2 rfl rfl) hcall ?_
          rintro e w' ⟨rfl, hS⟩
          refine ⟨_, rfl, ?_⟩
          replace hS := back0 (hS.pull 1)
          refine p (yl_assign rfl) <| x_done <| x_region <| p (yl_move ec86u1_6) <|
            p (yl_move ec86u1_6) <| p (yl_field0 fld_183_3 ec86u1_4) <| p (yl_ixa (x := .tmp 98) (y := .tmp 97) (q := 9) arr_181 rfl rfl (by decide) rfl) <| pa (at_load one_22 rfl ((hS.pull 5).cell rfl)) <|
            p (yl_move rfl) <|
            ?_
          refine o_buildSlice (vs := [.int .i64 r26_2u1.1]) (cs := [.int .i64 r26_2u1.1]) sl_22 zero_3 (parts_eq (pt (va := .int .i64 r26_2u1.1) rfl pt0)) rfl (by intro v hv; simp only [List.mem_cons, List.not_mem_nil, or_false] at hv; first | (subst hv; rfl) | (rcases hv with rfl <;> rfl)) (by decide) rfl hS (fun b102u1 w' hS => ?_)
          replace hFL21u1 := lv_s hFL21u1; obtain ⟨z27_7u1, hz27_7u1, hFL21u1⟩ := hFL21u1
          replace hFL21u1 := ck_s hFL21u1; obtain ⟨hk27_7u1, hFL21u1⟩ := hFL21u1
          refine o_ap sl_22 zero_3 rfl (by decide) rfl rfl (hS.pull 11) h_b4_9_L21u1h (src_blk usl_22 hS rfl rfl) (RepL.cons (R := (RpI .i64)) (ρ := ρ_L3h) (x := r26_2u1.1) (cs := [.int .i64 r26_2u1.1]) rfl RepL.nil) hz27_7u1 hk27_7u1 (fun A103u1 c103u1 cs103u1 w' hr103u1 hS => ?_)
          refine p (yl_field0 fld_183_3 ec86u1_4) <| p (yl_ixa (x := .tmp 104) (y := .tmp 96) (q := 9) arr_181 rfl rfl (by decide) rfl) <|
            ?_
          refine o_store1 (v := .slice A103u1 z27_7u1.length c103u1) one_22 rfl rfl rfl rfl (hS.pull 7) (fun w' hS => ?_)
          replace hFL21u1 := ar_s hFL21u1; obtain ⟨x106u1, hx106u1, hFL21u1⟩ := hFL21u1
          refine x_done <| x_blk <| x_region <| p (yadd ec86u1_78 rfl hx106u1) <|
            p (yl_move rfl) <| x_done <|
            ?_
          have e_ := Option.some.inj (show some _ = some _ from hFL21u1); subst e_
          exact x_inv ⟨kL21u1, Nat.lt_succ_self _, A103u1, z27_7u1.length, c103u1, cs103u1, x106u1, r26_2u1.2, z27_7u1, hLL21u1, ec86u1_0, ec86u1_2, ec86u1_3, ec86u1_4, ec86u1_6, ec86u1_20, ec86u1_21, ec86u1_73, ec86u1_77, rfl, hr103u1, ((((((((((((hS.pull 2).drop.pull 2).drop.pull 2).pull 2).pull 9).pull 9).pull 9).pull 9).pull 6).pull 9).pull 9).pull 9)⟩
        · replace hFL21u1 := it_f hc79u1 hFL21u1
          refine x_exitTo _ rfl <|
            ?_
          have e_ := Option.some.inj (show some _ = some _ from hFL21u1); subst e_
          exact x_inv ⟨A_b4_9_L21u1h, b4_9_L21u1h.length, c_b4_9_L21u1h, cs_b4_9_L21u1h, b_s0_1_L21u1h, b4_9_L21u1h, hLL21u1, eL21u1h_0, eL21u1h_2, eL21u1h_3, eL21u1h_4, eL21u1h_20, eL21u1h_21, eL21u1h_73, h_b4_9_L21u1h, ((((((((((hS.pull 9).pull 9).pull 9).pull 9).pull 9).pull 9).pull 9).pull 9).pull 9).pull 9)⟩
      rintro E w ⟨A_b4_9_L21u1, n_b4_9_L21u1, c_b4_9_L21u1, cs_b4_9_L21u1, b_s0_1_L21u1, b4_9_L21u1, rfl, eL21u1_0, eL21u1_2, eL21u1_3, eL21u1_4, eL21u1_20, eL21u1_21, eL21u1_73, h_b4_9_L21u1, hS⟩
      have e_ := St.vec_n (hS.pull 8) h_b4_9_L21u1; subst e_
      refine x_blk <| x_region <| p (yadd (c := 4) eL21u1_73 rfl ⟨rfl, by decide⟩) <| p (yl_move rfl) <|
        x_done <| x_un 0 <| x_seq <| x_region <|
        p (ylss_l (t := false) rfl rfl (by decide)) <| x_done <| x_seq <| x_cond_f (show ev _ _ = .bool false from rfl) <|
        x_exitTo _ rfl <| x_region <| p (yl_field0 fld_81_3 eL21u1_3) <| pa (at_load one_78 rfl ((hS.pull 2).cell rfl)) <|
        pa (v := .agg #[.int .u16 x25, .bool r4_4.1, .int .i64 b4_2_c34u4, .int .i64 b4_3_c34u3, .int .i64 b4_4_c34u2, .int .i64 b4_5_c34u1, .slice A_b4_6_L21u4 b4_6_L21u4.length c_b4_6_L21u4, .slice A_b4_7_L21u3 b4_7_L21u3.length c_b4_7_L21u3, .slice A_b4_8_L21u2 b4_8_L21u2.length c_b4_8_L21u2, .slice A_b4_9_L21u1 b4_9_L21u1.length c_b4_9_L21u1]) (ld_sub agg_183 eL21u1_4 rfl rfl (hS.pull 3)) <|
        ?_
      have q_ := St.vec_fz ((hS.pull 9).pull 6) h_b4_6_L21u4; obtain ⟨ρz30_3, hlez30_3, fz30_3, hS⟩ := q_
      have q_ := St.vec_fz (hS.pull 6) (h_b4_7_L21u3.le hlez30_3); obtain ⟨ρz30_3a, hlez30_3a, fz30_3a, hS⟩ := q_
      have q_ := St.vec_fz (hS.pull 6) (h_b4_8_L21u2.le (hlez30_3.trans hlez30_3a)); obtain ⟨ρz30_3b, hlez30_3b, fz30_3b, hS⟩ := q_
      have q_ := St.vec_fz (hS.pull 6) (h_b4_9_L21u1.le ((hlez30_3.trans hlez30_3a).trans hlez30_3b)); obtain ⟨ρz30_3c, hlez30_3c, fz30_3c, hS⟩ := q_
      refine o_buildSlice (vs := [.agg #[.int .u16 x25, .bool r4_4.1, .int .i64 b4_2_c34u4, .int .i64 b4_3_c34u3, .int .i64 b4_4_c34u2, .int .i64 b4_5_c34u1, .slice A_b4_6_L21u4 b4_6_L21u4.length c_b4_6_L21u4, .slice A_b4_7_L21u3 b4_7_L21u3.length c_b4_7_L21u3, .slice A_b4_8_L21u2 b4_8_L21u2.length c_b4_8_L21u2, .slice A_b4_9_L21u1 b4_9_L21u1.length c_b4_9_L21u1]]) (cs := [.int .u16 x25, .bool r4_4.1, .int .i64 b4_2_c34u4, .int .i64 b4_3_c34u3, .int .i64 b4_4_c34u2, .int .i64 b4_5_c34u1, .slice A_b4_6_L21u4 b4_6_L21u4.length c_b4_6_L21u4, .slice A_b4_7_L21u3 b4_7_L21u3.length c_b4_7_L21u3, .slice A_b4_8_L21u2 b4_8_L21u2.length c_b4_8_L21u2, .slice A_b4_9_L21u1 b4_9_L21u1.length c_b4_9_L21u1]) sl_78 zero_183 (parts_eq (pt (va := .agg #[.int .u16 x25, .bool r4_4.1, .int .i64 b4_2_c34u4, .int .i64 b4_3_c34u3, .int .i64 b4_4_c34u2, .int .i64 b4_5_c34u1, .slice A_b4_6_L21u4 b4_6_L21u4.length c_b4_6_L21u4, .slice A_b4_7_L21u3 b4_7_L21u3.length c_b4_7_L21u3, .slice A_b4_8_L21u2 b4_8_L21u2.length c_b4_8_L21u2, .slice A_b4_9_L21u1 b4_9_L21u1.length c_b4_9_L21u1]) rfl pt0)) rfl (by intro v hv; simp only [List.mem_cons, List.not_mem_nil, or_false] at hv; first | (subst hv; rfl) | (rcases hv with rfl <;> rfl)) (by decide) rfl hS (fun b111 w' hS => ?_)
      replace hFL3 := lv_s hFL3; obtain ⟨z30_4, hz30_4, hFL3⟩ := hFL3
      replace hFL3 := ck_s hFL3; obtain ⟨hk30_4, hFL3⟩ := hFL3
      refine o_ap sl_78 zero_183 rfl (by decide) rfl rfl (hS.pull 6) (h_b3_3_L3h.le (((hlez30_3.trans hlez30_3a).trans hlez30_3b).trans hlez30_3c)) (src_blk usl_78 hS rfl rfl) (RepL.cons (R := R_array_Tile) (ρ := ρz30_3c) (x := (T_array_Tile.mk x25 r4_4.1 (T_anon180.mk b4_2_c34u4 b4_3_c34u3 b4_4_c34u2 b4_5_c34u1) (T_anon181.mk b4_6_L21u4 b4_7_L21u3 b4_8_L21u2 b4_9_L21u1))) (cs := [.int .u16 x25, .bool r4_4.1, .int .i64 b4_2_c34u4, .int .i64 b4_3_c34u3, .int .i64 b4_4_c34u2, .int .i64 b4_5_c34u1, .slice A_b4_6_L21u4 b4_6_L21u4.length c_b4_6_L21u4, .slice A_b4_7_L21u3 b4_7_L21u3.length c_b4_7_L21u3, .slice A_b4_8_L21u2 b4_8_L21u2.length c_b4_8_L21u2, .slice A_b4_9_L21u1 b4_9_L21u1.length c_b4_9_L21u1]) ⟨_, _, _, _, _, _, _, _, _, _, _, _, rfl, (fz30_3.le ((hlez30_3a.trans hlez30_3b).trans hlez30_3c)), (fz30_3a.le (hlez30_3b.trans hlez30_3c)), (fz30_3b.le hlez30_3c), fz30_3c⟩ RepL.nil) hz30_4 hk30_4 (fun A112 c112 cs112 w' hr112 hS => ?_)
      refine p (yl_field0 fld_81_3 eL21u1_3) <|
        ?_
      refine o_store1 (v := .slice A112 z30_4.length c112) one_78 rfl rfl rfl rfl (hS.pull 5) (fun w' hS => ?_)
      replace hFL3 := ar_s hFL3; obtain ⟨x114, hx114, hFL3⟩ := hFL3
      refine x_done <| x_blk <| x_region <| p (yadd eL21u1_21 rfl hx114) <|
        p (yl_move rfl) <| x_done <|
        ?_
      have e_ := Option.some.inj (show some _ = some _ from hFL3); subst e_
      exact x_inv ⟨kL3, Nat.lt_succ_self _, ρz30_3c, A112, z30_4.length, c112, cs112, x114, b_s0_1_L21u1, z30_4, hLL3, ((((hleρ_L3h.trans hlez30_3).trans hlez30_3a).trans hlez30_3b).trans hlez30_3c), eL21u1_0, eL21u1_2, eL21u1_3, eL21u1_20, rfl, hr112, (((((((hS.pull 2).drop.pull 5).drop.pull 2).pull 2).pull 2).pull 4).pull 4)⟩
    · replace hFL3 := it_f hc22 hFL3
      refine x_exitTo _ rfl <|
        ?_
      have e_ := Option.some.inj (show some _ = some _ from hFL3); subst e_
      exact x_inv ⟨ρ_L3h, A_b3_3_L3h, b3_3_L3h.length, c_b3_3_L3h, cs_b3_3_L3h, b_s0_1_L3h, b3_3_L3h, hLL3, hleρ_L3h, eL3h_0, eL3h_2, eL3h_3, h_b3_3_L3h, (((((hS.pull 4).pull 4).pull 4).pull 4).pull 4)⟩
  rintro E w ⟨ρ_L3, A_b3_3_L3, n_b3_3_L3, c_b3_3_L3, cs_b3_3_L3, b_s0_1_L3, b3_3_L3, rfl, hleρ_L3, eL3_0, eL3_2, eL3_3, h_b3_3_L3, hS⟩
  have e_ := St.vec_n (hS.pull 3) h_b3_3_L3; subst e_
  refine x_seq <| x_seq <| x_region <| p (yl_field0 fld_81_2 eL3_3) <|
    pa (at_load one_3 rfl ((hS.pull 2).cell rfl)) <| p (yl_move rfl) <| x_done <|
    ?_
  replace hF := bd_s hF; obtain ⟨oL33, hLL33, hF⟩ := hF
  refine x_join (fun E w => ∃ (A_b3_4_L33 : Option Addr) (n_b3_4_L33 : Nat) (c_b3_4_L33 : Nat) (cs_b3_4_L33 : List Value) (A_b3_5_L33 : Option Addr) (n_b3_5_L33 : Nat) (c_b3_5_L33 : Nat) (cs_b3_5_L33 : List Value) (b_s0_1_L33 : Int) (b3_4_L33 : List T_array_Pad) (b3_5_L33 : List T_array_Pad), (b_s0_1_L33, b3_4_L33, b3_5_L33) = oL33 ∧ E 0 = .pointer (some ⟨b_s0, 0, none⟩) ∧ E 2 = .pointer (some ⟨b2, 0, none⟩) ∧ E 3 = .pointer (some ⟨b3, 0, none⟩) ∧ RepL R_array_Pad ρ_L3 b3_4_L33 cs_b3_4_L33 ∧ RepL R_array_Pad ρ_L3 b3_5_L33 cs_b3_5_L33 ∧ St w0 w (cells b_s0 25 [.slice A_s0_0 s0.L.length c_s0_0, .int .i64 b_s0_1_L33] :: cells b2 81 [.int .i64 0, .int .i64 0, .int .i64 0, .slice none 0 0, .slice none 0 0, .slice none 0 0] :: cells b3 81 [.int .i64 r1_1.1, .int .i64 r1_3.1, .int .i64 r1_5.1, .slice A_b3_3_L3 b3_3_L3.length c_b3_3_L3, .slice A_b3_4_L33 n_b3_4_L33 c_b3_4_L33, .slice A_b3_5_L33 n_b3_5_L33 c_b3_5_L33] :: vec 183 R_array_Tile.sz (.slice A_b3_3_L3 b3_3_L3.length c_b3_3_L3) b3_3_L3.length cs_b3_3_L3 :: vec 187 R_array_Pad.sz (.slice A_b3_4_L33 n_b3_4_L33 c_b3_4_L33) n_b3_4_L33 cs_b3_4_L33 :: vec 187 R_array_Pad.sz (.slice A_b3_5_L33 n_b3_5_L33 c_b3_5_L33) n_b3_5_L33 cs_b3_5_L33 :: ro ρ_L3 :: l)) ?_ ?_
  · skip -- L33
    refine x_block ?_
    replace hS := St.vec_nil hS 187 R_array_Pad.sz
    have hnil_A_b3_4_L33h : RepL R_array_Pad ρ_L3 [] [] := rfl
    replace hS := St.vec_nil hS 187 R_array_Pad.sz
    have hnil_A_b3_5_L33h : RepL R_array_Pad ρ_L3 [] [] := rfl
    refine x_loop (fun k_ E w => ∃ (A_b3_4_L33h : Option Addr) (n_b3_4_L33h : Nat) (c_b3_4_L33h : Nat) (cs_b3_4_L33h : List Value) (A_b3_5_L33h : Option Addr) (n_b3_5_L33h : Nat) (c_b3_5_L33h : Nat) (cs_b3_5_L33h : List Value) (y117_L33h : Int) (b_s0_1_L33h : Int) (b3_4_L33h : List T_array_Pad) (b3_5_L33h : List T_array_Pad), lp (P_maskmake_Stream_Config_L33 s0 r1_1 r1_3 r1_5) k_ (y117_L33h, b_s0_1_L33h, b3_4_L33h, b3_5_L33h) = some oL33 ∧ E 0 = .pointer (some ⟨b_s0, 0, none⟩) ∧ E 2 = .pointer (some ⟨b2, 0, none⟩) ∧ E 3 = .pointer (some ⟨b3, 0, none⟩) ∧ E 116 = .int .i64 r1_5.1 ∧ E 117 = .int .i64 y117_L33h ∧ RepL R_array_Pad ρ_L3 b3_4_L33h cs_b3_4_L33h ∧ RepL R_array_Pad ρ_L3 b3_5_L33h cs_b3_5_L33h ∧ St w0 w (cells b_s0 25 [.slice A_s0_0 s0.L.length c_s0_0, .int .i64 b_s0_1_L33h] :: cells b2 81 [.int .i64 0, .int .i64 0, .int .i64 0, .slice none 0 0, .slice none 0 0, .slice none 0 0] :: cells b3 81 [.int .i64 r1_1.1, .int .i64 r1_3.1, .int .i64 r1_5.1, .slice A_b3_3_L3 b3_3_L3.length c_b3_3_L3, .slice A_b3_4_L33h n_b3_4_L33h c_b3_4_L33h, .slice A_b3_5_L33h n_b3_5_L33h c_b3_5_L33h] :: vec 183 R_array_Tile.sz (.slice A_b3_3_L3 b3_3_L3.length c_b3_3_L3) b3_3_L3.length cs_b3_3_L3 :: vec 187 R_array_Pad.sz (.slice A_b3_4_L33h n_b3_4_L33h c_b3_4_L33h) n_b3_4_L33h cs_b3_4_L33h :: vec 187 R_array_Pad.sz (.slice A_b3_5_L33h n_b3_5_L33h c_b3_5_L33h) n_b3_5_L33h cs_b3_5_L33h :: ro ρ_L3 :: l)) fuel ⟨none, 0, 0, [], none, 0, 0, [], 0, b_s0_1_L3, [], [], hLL33, eL3_0, eL3_2, eL3_3, rfl, rfl, hnil_A_b3_4_L33h, hnil_A_b3_5_L33h, (((((((hS.pull 6).pull 1).pull 2).pull 6).pull 6).pull 6).pull 6)⟩ ?_
    rintro kL33 E w ⟨A_b3_4_L33h, n_b3_4_L33h, c_b3_4_L33h, cs_b3_4_L33h, A_b3_5_L33h, n_b3_5_L33h, c_b3_5_L33h, cs_b3_5_L33h, y117_L33h, b_s0_1_L33h, b3_4_L33h, b3_5_L33h, hLL33, eL33h_0, eL33h_2, eL33h_3, eL33h_116, eL33h_117, h_b3_4_L33h, h_b3_5_L33h, hS⟩
    have e_ := St.vec_n (hS.pull 4) h_b3_4_L33h; subst e_
    have e_ := St.vec_n (hS.pull 5) h_b3_5_L33h; subst e_
    replace hLL33 := lp_s hLL33; obtain ⟨kL33, obL33, rfl, hFL33, hLL33⟩ := hLL33
    refine x_seq <| x_region <| p (yl_lss eL33h_117 eL33h_116) <| x_done <|
      x_seq <|
      x_cond_p (y117_L33h < r1_5.1) rfl (fun hc118 => ?_) (fun hc118 => ?_)
    · replace hFL33 := it_t hc118 hFL33
      refine x_skip <| x_seq <| x_block <| x_seq <|
        x_region <| p (yl_move eL33h_117) <| p (yl_assign rfl) <| x_done <|
        x_seq <|
        ?_
      replace hFL33 := bd_s hFL33; obtain ⟨r35_5, hc35_5, hFL33⟩ := hFL33
      replace hFL33 := lv_s hFL33; obtain ⟨z35_9, hz35_9, hFL33⟩ := hFL33
      replace hFL33 := ck_s hFL33; obtain ⟨hk35_9, hFL33⟩ := hFL33
      refine x_par (w0 := w0) [⟨[], [], [120], [], [], []⟩, ⟨[0], [0], [121], [0], [], []⟩, ⟨[], [], [122], [], [], []⟩, ⟨[], [], [123], [], [], []⟩, ⟨[3], [3], [124], [0], [], []⟩, ⟨[2, 3, 4], [2, 4], [125], [2], [1], [3]⟩, ⟨[], [], [126], [], [], []⟩, ⟨[2, 3, 4, 5, 6], [5, 6], [127], [], [], []⟩, ⟨[2, 3, 4, 5, 6, 7], [7], [128], [], [], [4]⟩, ⟨[0, 1, 2, 3, 4, 5, 6, 7, 8], [1, 8], [129], [4, 2], [5], [6]⟩, ⟨[0, 1, 2, 3, 4, 5, 6, 7, 8, 9], [], [130], [], [], []⟩, ⟨[0, 1, 2, 3, 4, 5, 6, 7, 8, 9, 10], [9, 10], [], [], [0], [7]⟩] [⟨none, (some 11), []⟩, ⟨none, (some 5), []⟩, ⟨none, none, []⟩, ⟨(some 5), none, []⟩, ⟨(some 8), none, [128]⟩, ⟨none, (some 9), []⟩, ⟨(some 9), none, [129]⟩, ⟨(some 11), none, [129]⟩] [120, 121, 122, 123, 124, 125, 126, 127, 128, 129, 130] [0, 1, 2, 5] [2, 3, 4, 6, 7] [0, 1, 2, 3, 4, 5, 6, 7, 8, 9, 10] [fun Ep35 => Ep35 120 = .pointer (some ⟨b3, 4, none⟩), fun Ep35 => Ep35 121 = .slice A_b3_4_L33h b3_4_L33h.length c_b3_4_L33h, fun Ep35 => Ep35 122 = .pointer (some ⟨b_s0, 0, none⟩), fun Ep35 => Ep35 123 = .pointer (some ⟨b3, 0, none⟩), fun Ep35 => Ep35 124 = .int .i64 r1_1.1, fun Ep35 => Ep35 125 = .int .i64 r35_5.1, fun Ep35 => Ep35 126 = .int .i64 y117_L33h, fun Ep35 => Ep35 127 = .agg #[.int .i64 r35_5.1, .int .i64 0, .int .i64 3, .int .i64 y117_L33h], fun Ep35 => Ep35 128 = .slice (some ⟨(blkOf (Ep35 128)), 0, none⟩) 1 1, fun Ep35 => Ep35 129 = .slice (adOf (Ep35 129)) z35_9.length (capOf (Ep35 129)), fun Ep35 => Ep35 130 = .pointer (some ⟨b3, 4, none⟩), fun Ep35 => True] [fun Ep35 => cells b3 81 [.int .i64 r1_1.1, .int .i64 r1_3.1, .int .i64 r1_5.1, .slice A_b3_3_L3 b3_3_L3.length c_b3_3_L3, .slice A_b3_4_L33h b3_4_L33h.length c_b3_4_L33h, .slice A_b3_5_L33h b3_5_L33h.length c_b3_5_L33h], fun Ep35 => cells b_s0 25 [.slice A_s0_0 s0.L.length c_s0_0, .int .i64 b_s0_1_L33h], fun Ep35 => ro ρ_L3, fun Ep35 => cells b_s0 25 [.slice A_s0_0 s0.L.length c_s0_0, .int .i64 r35_5.2], fun Ep35 => cells (blkOf (Ep35 128)) 187 [.int .i64 r35_5.1, .int .i64 0, .int .i64 3, .int .i64 y117_L33h], fun Ep35 => vec 187 R_array_Pad.sz (.slice A_b3_4_L33h b3_4_L33h.length c_b3_4_L33h) b3_4_L33h.length cs_b3_4_L33h, fun Ep35 => bunA (fun (cs129 : List Value) => RepL R_array_Pad ρ_L3 z35_9 cs129) (fun (cs129 : List Value) => [vec 187 R_array_Pad.sz (.slice (adOf (Ep35 129)) z35_9.length (capOf (Ep35 129))) z35_9.length cs129]), fun Ep35 => cells b3 81 [.int .i64 r1_1.1, .int .i64 r1_3.1, .int .i64 r1_5.1, .slice A_b3_3_L3 b3_3_L3.length c_b3_3_L3, .slice (adOf (Ep35 129)) z35_9.length (capOf (Ep35 129)), .slice A_b3_5_L33h b3_5_L33h.length c_b3_5_L33h]] mixed (by kernel_rfl) ((((hS.pull 4).pull 6).pull 2).pull 4) ?_ ?_
      · refine ⟨?_, ?_, ?_, ?_, ?_, ?_, ?_, ?_, ?_, ?_, ?_, ?_, trivial⟩
        · intro Ep35 w l' hE35 hO35 hF_ hS
          refine p (yl_field0 fld_81_4 ((hE35 3 rfl).trans eL33h_3)) <| x_done <|
            ?_
          refine x_fin ⟨⟨_, rfl⟩, rfl, ?_⟩
          exact Eq.mp (by kernel_rfl) hS
        · intro Ep35 w l' hE35 hO35 hF_ hS
          obtain ⟨f35_0, -⟩ := hF_
          replace f35_0 : Ep35 120 = .pointer (some ⟨b3, 4, none⟩) := Eq.mp (by kernel_rfl) f35_0
          replace hS : St w0 w (cells b3 81 [.int .i64 r1_1.1, .int .i64 r1_3.1, .int .i64 r1_5.1, .slice A_b3_3_L3 b3_3_L3.length c_b3_3_L3, .slice A_b3_4_L33h b3_4_L33h.length c_b3_4_L33h, .slice A_b3_5_L33h b3_5_L33h.length c_b3_5_L33h] :: l') := Eq.mp (by kernel_rfl) hS
          refine pa (at_load one_79 f35_0 (hS.cell rfl)) <| x_done <|
            ?_
          refine x_fin ⟨⟨_, rfl⟩, rfl, ?_⟩
          exact Eq.mp (by kernel_rfl) hS
        · intro Ep35 w l' hE35 hO35 hF_ hS
          refine p (yl_move ((hE35 0 rfl).trans eL33h_0)) <| x_done <|
            ?_
          refine x_fin ⟨⟨_, rfl⟩, rfl, ?_⟩
          exact Eq.mp (by kernel_rfl) hS
        · intro Ep35 w l' hE35 hO35 hF_ hS
          refine p (yl_field0 fld_81_0 ((hE35 3 rfl).trans eL33h_3)) <| x_done <|
            ?_
          refine x_fin ⟨⟨_, rfl⟩, rfl, ?_⟩
          exact Eq.mp (by kernel_rfl) hS
        · intro Ep35 w l' hE35 hO35 hF_ hS
          obtain ⟨f35_3, -⟩ := hF_
          replace f35_3 : Ep35 123 = .pointer (some ⟨b3, 0, none⟩) := Eq.mp (by kernel_rfl) f35_3
          replace hS : St w0 w (cells b3 81 [.int .i64 r1_1.1, .int .i64 r1_3.1, .int .i64 r1_5.1, .slice A_b3_3_L3 b3_3_L3.length c_b3_3_L3, .slice A_b3_4_L33h b3_4_L33h.length c_b3_4_L33h, .slice A_b3_5_L33h b3_5_L33h.length c_b3_5_L33h] :: l') := Eq.mp (by kernel_rfl) hS
          refine pa (at_load one_3 f35_3 (hS.cell rfl)) <| x_done <|
            ?_
          refine x_fin ⟨⟨_, rfl⟩, rfl, ?_⟩
          exact Eq.mp (by kernel_rfl) hS
        · intro Ep35 w l' hE35 hO35 hF_ hS
          obtain ⟨f35_2, f35_4, -⟩ := hF_
          replace f35_2 : Ep35 122 = .pointer (some ⟨b_s0, 0, none⟩) := Eq.mp (by kernel_rfl) f35_2
          replace f35_4 : Ep35 124 = .int .i64 r1_1.1 := Eq.mp (by kernel_rfl) f35_4
          replace hS : St w0 w (ro ρ_L3 :: cells b_s0 25 [.slice A_s0_0 s0.L.length c_s0_0, .int .i64 b_s0_1_L33h] :: l') := Eq.mp (by kernel_rfl) hS
          have hcall := c_maskmake_Stream_Next hc35_5 (h_s0_0.le hleρ_L3) (hS.pull 1)
          refine o_cc call_15 (args2 f35_2 f35_4) hcall ?_
          rintro e w' ⟨rfl, hS⟩
          refine ⟨_, rfl, ?_⟩
          refine x_done <|
            ?_
          refine x_fin ⟨⟨_, rfl⟩, rfl, ?_⟩
          exact Eq.mp (by kernel_rfl) (hS.pull 1)
        · intro Ep35 w l' hE35 hO35 hF_ hS
          refine p (yl_move (hE35 8 rfl)) <| x_done <|
            ?_
          refine x_fin ⟨⟨_, rfl⟩, rfl, ?_⟩
          exact Eq.mp (by kernel_rfl) hS
        · intro Ep35 w l' hE35 hO35 hF_ hS
          obtain ⟨f35_5, f35_6, -⟩ := hF_
          replace f35_5 : Ep35 125 = .int .i64 r35_5.1 := Eq.mp (by kernel_rfl) f35_5
          replace f35_6 : Ep35 126 = .int .i64 y117_L33h := Eq.mp (by kernel_rfl) f35_6
          refine p (v := .agg #[.int .i64 r35_5.1, .int .i64 0, .int .i64 3, .int .i64 y117_L33h]) (yl_build bld_187 bldf_187 (parts_eq (pt (va := .int .i64 r35_5.1) f35_5 (pt (va := .int .i64 0) rfl (pt (va := .int .i64 3) rfl (pt (va := .int .i64 y117_L33h) f35_6 pt0))))) (by kernel_rfl)) <| x_done <|
            ?_
          refine x_fin ⟨⟨_, rfl⟩, rfl, ?_⟩
          exact Eq.mp (by kernel_rfl) hS
        · intro Ep35 w l' hE35 hO35 hF_ hS
          obtain ⟨f35_7, -⟩ := hF_
          replace f35_7 : Ep35 127 = .agg #[.int .i64 r35_5.1, .int .i64 0, .int .i64 3, .int .i64 y117_L33h] := Eq.mp (by kernel_rfl) f35_7
          refine o_buildSlice (vs := [.agg #[.int .i64 r35_5.1, .int .i64 0, .int .i64 3, .int .i64 y117_L33h]]) (cs := [.int .i64 r35_5.1, .int .i64 0, .int .i64 3, .int .i64 y117_L33h]) sl_79 zero_187 (parts_eq (pt (va := .agg #[.int .i64 r35_5.1, .int .i64 0, .int .i64 3, .int .i64 y117_L33h]) f35_7 pt0)) rfl (by intro v hv; simp only [List.mem_cons, List.not_mem_nil, or_false] at hv; first | (subst hv; rfl) | (rcases hv with rfl <;> rfl)) (by decide) rfl hS (fun b128 w' hS => ?_)
          refine x_done <|
            ?_
          refine x_fin ⟨⟨_, rfl⟩, rfl, ?_⟩
          exact Eq.mp (by kernel_rfl) hS
        · intro Ep35 w l' hE35 hO35 hF_ hS
          obtain ⟨f35_1, f35_8, -⟩ := hF_
          replace f35_1 : Ep35 121 = .slice A_b3_4_L33h b3_4_L33h.length c_b3_4_L33h := Eq.mp (by kernel_rfl) f35_1
          replace f35_8 : Ep35 128 = .slice (some ⟨(blkOf (Ep35 128)), 0, none⟩) 1 1 := Eq.mp (by kernel_rfl) f35_8
          replace hS : St w0 w (cells (blkOf (Ep35 128)) 187 [.int .i64 r35_5.1, .int .i64 0, .int .i64 3, .int .i64 y117_L33h] :: ro ρ_L3 :: vec 187 R_array_Pad.sz (.slice A_b3_4_L33h b3_4_L33h.length c_b3_4_L33h) b3_4_L33h.length cs_b3_4_L33h :: l') := Eq.mp (by kernel_rfl) hS
          refine o_ap sl_79 zero_187 rfl (by decide) f35_1 f35_8 (hS.pull 2) h_b3_4_L33h (src_blk usl_79 hS rfl rfl) (RepL.cons (R := R_array_Pad) (ρ := ρ_L3) (x := (T_array_Pad.mk r35_5.1 0 3 y117_L33h)) (cs := [.int .i64 r35_5.1, .int .i64 0, .int .i64 3, .int .i64 y117_L33h]) rfl RepL.nil) hz35_9 hk35_9 (fun A129 c129 cs129 w' hr129 hS => ?_)
          refine x_done <|
            ?_
          refine x_fin ⟨⟨_, rfl⟩, rfl, ?_⟩
          replace hS := St.bun (Φ := (fun (cs129 : List Value) => RepL R_array_Pad ρ_L3 z35_9 cs129)) (L := (fun (cs129 : List Value) => [vec 187 R_array_Pad.sz (.slice A129 z35_9.length c129) z35_9.length cs129])) cs129 hr129 hS
          exact Eq.mp (by kernel_rfl) ((hS.pull 2).pull 2)
        · intro Ep35 w l' hE35 hO35 hF_ hS
          refine p (yl_field0 fld_81_4 ((hE35 3 rfl).trans eL33h_3)) <| x_done <|
            ?_
          refine x_fin ⟨⟨_, rfl⟩, rfl, ?_⟩
          exact Eq.mp (by kernel_rfl) hS
        · intro Ep35 w l' hE35 hO35 hF_ hS
          obtain ⟨f35_9, f35_10, -⟩ := hF_
          replace f35_9 : Ep35 129 = .slice (adOf (Ep35 129)) z35_9.length (capOf (Ep35 129)) := Eq.mp (by kernel_rfl) f35_9
          replace f35_10 : Ep35 130 = .pointer (some ⟨b3, 4, none⟩) := Eq.mp (by kernel_rfl) f35_10
          replace hS : St w0 w (cells b3 81 [.int .i64 r1_1.1, .int .i64 r1_3.1, .int .i64 r1_5.1, .slice A_b3_3_L3 b3_3_L3.length c_b3_3_L3, .slice A_b3_4_L33h b3_4_L33h.length c_b3_4_L33h, .slice A_b3_5_L33h b3_5_L33h.length c_b3_5_L33h] :: l') := Eq.mp (by kernel_rfl) hS
          refine o_store1 (v := .slice (adOf (Ep35 129)) z35_9.length (capOf (Ep35 129))) one_79 f35_10 f35_9 rfl rfl hS (fun w' hS => ?_)
          refine x_done <|
            ?_
          refine x_fin ⟨⟨undef, rfl⟩, trivial, ?_⟩
          exact Eq.mp (by kernel_rfl) hS
      intro Ep35 w' hE35 hF_ hS
      obtain ⟨f35_0, f35_1, f35_2, f35_3, f35_4, f35_5, f35_6, f35_7, f35_8, f35_9, f35_10, -⟩ := hF_
      replace f35_0 : Ep35 120 = .pointer (some ⟨b3, 4, none⟩) := Eq.mp (by kernel_rfl) f35_0
      replace f35_1 : Ep35 121 = .slice A_b3_4_L33h b3_4_L33h.length c_b3_4_L33h := Eq.mp (by kernel_rfl) f35_1
      replace f35_2 : Ep35 122 = .pointer (some ⟨b_s0, 0, none⟩) := Eq.mp (by kernel_rfl) f35_2
      replace f35_3 : Ep35 123 = .pointer (some ⟨b3, 0, none⟩) := Eq.mp (by kernel_rfl) f35_3
      replace f35_4 : Ep35 124 = .int .i64 r1_1.1 := Eq.mp (by kernel_rfl) f35_4
      replace f35_5 : Ep35 125 = .int .i64 r35_5.1 := Eq.mp (by kernel_rfl) f35_5
      replace f35_6 : Ep35 126 = .int .i64 y117_L33h := Eq.mp (by kernel_rfl) f35_6
      replace f35_7 : Ep35 127 = .agg #[.int .i64 r35_5.1, .int .i64 0, .int .i64 3, .int .i64 y117_L33h] := Eq.mp (by kernel_rfl) f35_7
      replace f35_8 : Ep35 128 = .slice (some ⟨(blkOf (Ep35 128)), 0, none⟩) 1 1 := Eq.mp (by kernel_rfl) f35_8
      replace f35_9 : Ep35 129 = .slice (adOf (Ep35 129)) z35_9.length (capOf (Ep35 129)) := Eq.mp (by kernel_rfl) f35_9
      replace f35_10 : Ep35 130 = .pointer (some ⟨b3, 4, none⟩) := Eq.mp (by kernel_rfl) f35_10
      replace hS : St w0 w' (ro ρ_L3 :: cells b_s0 25 [.slice A_s0_0 s0.L.length c_s0_0, .int .i64 r35_5.2] :: cells (blkOf (Ep35 128)) 187 [.int .i64 r35_5.1, .int .i64 0, .int .i64 3, .int .i64 y117_L33h] :: bunA (fun (cs129 : List Value) => RepL R_array_Pad ρ_L3 z35_9 cs129) (fun (cs129 : List Value) => [vec 187 R_array_Pad.sz (.slice (adOf (Ep35 129)) z35_9.length (capOf (Ep35 129))) z35_9.length cs129]) :: cells b3 81 [.int .i64 r1_1.1, .int .i64 r1_3.1, .int .i64 r1_5.1, .slice A_b3_3_L3 b3_3_L3.length c_b3_3_L3, .slice (adOf (Ep35 129)) z35_9.length (capOf (Ep35 129)), .slice A_b3_5_L33h b3_5_L33h.length c_b3_5_L33h] :: (cells b2 81 [.int .i64 0, .int .i64 0, .int .i64 0, .slice none 0 0, .slice none 0 0, .slice none 0 0] :: vec 183 R_array_Tile.sz (.slice A_b3_3_L3 b3_3_L3.length c_b3_3_L3) b3_3_L3.length cs_b3_3_L3 :: vec 187 R_array_Pad.sz (.slice A_b3_5_L33h b3_5_L33h.length c_b3_5_L33h) b3_5_L33h.length cs_b3_5_L33h :: l)) := Eq.mp (by kernel_rfl) hS
      have q_ := St.unbun (hS.pull 3); obtain ⟨cs129, hr129, hS⟩ := q_
      replace hFL33 := bd_s hFL33; obtain ⟨r36_5, hc36_5, hFL33⟩ := hFL33
      replace hFL33 := ar_s hFL33; obtain ⟨x139, hx139, hFL33⟩ := hFL33
      replace hFL33 := lv_s hFL33; obtain ⟨z36_12, hz36_12, hFL33⟩ := hFL33
      replace hFL33 := ck_s hFL33; obtain ⟨hk36_12, hFL33⟩ := hFL33
      refine x_par (w0 := w0) [⟨[], [], [131], [], [], []⟩, ⟨[0], [0], [132], [0], [], []⟩, ⟨[], [], [133], [], [], []⟩, ⟨[], [], [134], [], [], []⟩, ⟨[3], [3], [135], [0], [], []⟩, ⟨[2, 3, 4], [2, 4], [136], [2], [1], [3]⟩, ⟨[], [], [137], [], [], []⟩, ⟨[6], [6], [138], [0], [], []⟩, ⟨[6, 7], [7], [139], [], [], []⟩, ⟨[], [], [140], [], [], []⟩, ⟨[2, 3, 4, 5, 6, 7, 8, 9], [5, 8, 9], [141], [], [], []⟩, ⟨[2, 3, 4, 5, 6, 7, 8, 9, 10], [10], [142], [], [], [4]⟩, ⟨[0, 1, 2, 3, 4, 5, 6, 7, 8, 9, 10, 11], [1, 11], [143], [4, 2], [5], [6]⟩, ⟨[0, 1, 2, 3, 4, 5, 6, 7, 8, 9, 10, 11, 12], [], [144], [], [], []⟩, ⟨[0, 1, 2, 3, 4, 5, 6, 7, 8, 9, 10, 11, 12, 13], [12, 13], [], [], [0], [7]⟩] [⟨none, (some 14), []⟩, ⟨none, (some 5), []⟩, ⟨none, none, []⟩, ⟨(some 5), none, []⟩, ⟨(some 11), none, [142]⟩, ⟨none, (some 12), []⟩, ⟨(some 12), none, [143]⟩, ⟨(some 14), none, [143]⟩] [131, 132, 133, 134, 135, 136, 137, 138, 139, 140, 141, 142, 143, 144] [0, 1, 2, 5] [2, 3, 4, 6, 7] [0, 1, 2, 3, 4, 5, 6, 7, 8, 9, 10, 11, 12, 13] [fun Ep36 => Ep36 131 = .pointer (some ⟨b3, 5, none⟩), fun Ep36 => Ep36 132 = .slice A_b3_5_L33h b3_5_L33h.length c_b3_5_L33h, fun Ep36 => Ep36 133 = .pointer (some ⟨b_s0, 0, none⟩), fun Ep36 => Ep36 134 = .pointer (some ⟨b3, 0, none⟩), fun Ep36 => Ep36 135 = .int .i64 r1_1.1, fun Ep36 => Ep36 136 = .int .i64 r36_5.1, fun Ep36 => Ep36 137 = .pointer (some ⟨b3, 1, none⟩), fun Ep36 => Ep36 138 = .int .i64 r1_3.1, fun Ep36 => Ep36 139 = .int .i64 x139, fun Ep36 => Ep36 140 = .int .i64 y117_L33h, fun Ep36 => Ep36 141 = .agg #[.int .i64 r36_5.1, .int .i64 x139, .int .i64 1, .int .i64 y117_L33h], fun Ep36 => Ep36 142 = .slice (some ⟨(blkOf (Ep36 142)), 0, none⟩) 1 1, fun Ep36 => Ep36 143 = .slice (adOf (Ep36 143)) z36_12.length (capOf (Ep36 143)), fun Ep36 => Ep36 144 = .pointer (some ⟨b3, 5, none⟩), fun Ep36 => True] [fun Ep36 => cells b3 81 [.int .i64 r1_1.1, .int .i64 r1_3.1, .int .i64 r1_5.1, .slice A_b3_3_L3 b3_3_L3.length c_b3_3_L3, .slice (adOf (Ep35 129)) z35_9.length (capOf (Ep35 129)), .slice A_b3_5_L33h b3_5_L33h.length c_b3_5_L33h], fun Ep36 => cells b_s0 25 [.slice A_s0_0 s0.L.length c_s0_0, .int .i64 r35_5.2], fun Ep36 => ro ρ_L3, fun Ep36 => cells b_s0 25 [.slice A_s0_0 s0.L.length c_s0_0, .int .i64 r36_5.2], fun Ep36 => cells (blkOf (Ep36 142)) 187 [.int .i64 r36_5.1, .int .i64 x139, .int .i64 1, .int .i64 y117_L33h], fun Ep36 => vec 187 R_array_Pad.sz (.slice A_b3_5_L33h b3_5_L33h.length c_b3_5_L33h) b3_5_L33h.length cs_b3_5_L33h, fun Ep36 => bunA (fun (cs143 : List Value) => RepL R_array_Pad ρ_L3 z36_12 cs143) (fun (cs143 : List Value) => [vec 187 R_array_Pad.sz (.slice (adOf (Ep36 143)) z36_12.length (capOf (Ep36 143))) z36_12.length cs143]), fun Ep36 => cells b3 81 [.int .i64 r1_1.1, .int .i64 r1_3.1, .int .i64 r1_5.1, .slice A_b3_3_L3 b3_3_L3.length c_b3_3_L3, .slice (adOf (Ep35 129)) z35_9.length (capOf (Ep35 129)), .slice (adOf (Ep36 143)) z36_12.length (capOf (Ep36 143))]] mixed (by kernel_rfl) ((((hS.pull 7).pull 2).pull 3).pull 5) ?_ ?_
      · refine ⟨?_, ?_, ?_, ?_, ?_, ?_, ?_, ?_, ?_, ?_, ?_, ?_, ?_, ?_, ?_, trivial⟩
        · intro Ep36 w l' hE36 hO36 hF_ hS
          refine p (yl_field0 fld_81_5 ((hE36 3 rfl).trans ((hE35 3 rfl).trans eL33h_3))) <| x_done <|
            ?_
          refine x_fin ⟨⟨_, rfl⟩, rfl, ?_⟩
          exact Eq.mp (by kernel_rfl) hS
        · intro Ep36 w l' hE36 hO36 hF_ hS
          obtain ⟨f36_0, -⟩ := hF_
          replace f36_0 : Ep36 131 = .pointer (some ⟨b3, 5, none⟩) := Eq.mp (by kernel_rfl) f36_0
          replace hS : St w0 w (cells b3 81 [.int .i64 r1_1.1, .int .i64 r1_3.1, .int .i64 r1_5.1, .slice A_b3_3_L3 b3_3_L3.length c_b3_3_L3, .slice (adOf (Ep35 129)) z35_9.length (capOf (Ep35 129)), .slice A_b3_5_L33h b3_5_L33h.length c_b3_5_L33h] :: l') := Eq.mp (by kernel_rfl) hS
          refine pa (at_load one_79 f36_0 (hS.cell rfl)) <| x_done <|
            ?_
          refine x_fin ⟨⟨_, rfl⟩, rfl, ?_⟩
          exact Eq.mp (by kernel_rfl) hS
        · intro Ep36 w l' hE36 hO36 hF_ hS
          refine p (yl_move ((hE36 0 rfl).trans ((hE35 0 rfl).trans eL33h_0))) <| x_done <|
            ?_
          refine x_fin ⟨⟨_, rfl⟩, rfl, ?_⟩
          exact Eq.mp (by kernel_rfl) hS
        · intro Ep36 w l' hE36 hO36 hF_ hS
          refine p (yl_field0 fld_81_0 ((hE36 3 rfl).trans ((hE35 3 rfl).trans eL33h_3))) <| x_done <|
            ?_
          refine x_fin ⟨⟨_, rfl⟩, rfl, ?_⟩
          exact Eq.mp (by kernel_rfl) hS
        · intro Ep36 w l' hE36 hO36 hF_ hS
          obtain ⟨f36_3, -⟩ := hF_
          replace f36_3 : Ep36 134 = .pointer (some ⟨b3, 0, none⟩) := Eq.mp (by kernel_rfl) f36_3
          replace hS : St w0 w (cells b3 81 [.int .i64 r1_1.1, .int .i64 r1_3.1, .int .i64 r1_5.1, .slice A_b3_3_L3 b3_3_L3.length c_b3_3_L3, .slice (adOf (Ep35 129)) z35_9.length (capOf (Ep35 129)), .slice A_b3_5_L33h b3_5_L33h.length c_b3_5_L33h] :: l') := Eq.mp (by kernel_rfl) hS
          refine pa (at_load one_3 f36_3 (hS.cell rfl)) <| x_done <|
            ?_
          refine x_fin ⟨⟨_, rfl⟩, rfl, ?_⟩
          exact Eq.mp (by kernel_rfl) hS
        · intro Ep36 w l' hE36 hO36 hF_ hS
          obtain ⟨f36_2, f36_4, -⟩ := hF_
          replace f36_2 : Ep36 133 = .pointer (some ⟨b_s0, 0, none⟩) := Eq.mp (by kernel_rfl) f36_2
          replace f36_4 : Ep36 135 = .int .i64 r1_1.1 := Eq.mp (by kernel_rfl) f36_4
          replace hS : St w0 w (ro ρ_L3 :: cells b_s0 25 [.slice A_s0_0 s0.L.length c_s0_0, .int .i64 r35_5.2] :: l') := Eq.mp (by kernel_rfl) hS
          have hcall := c_maskmake_Stream_Next hc36_5 (h_s0_0.le hleρ_L3) (hS.pull 1)
          refine o_cc call_15 (args2 f36_2 f36_4) hcall ?_
          rintro e w' ⟨rfl, hS⟩
          refine ⟨_, rfl, ?_⟩
          refine x_done <|
            ?_
          refine x_fin ⟨⟨_, rfl⟩, rfl, ?_⟩
          exact Eq.mp (by kernel_rfl) (hS.pull 1)
        · intro Ep36 w l' hE36 hO36 hF_ hS
          refine p (yl_field0 fld_81_1 ((hE36 3 rfl).trans ((hE35 3 rfl).trans eL33h_3))) <| x_done <|
            ?_
          refine x_fin ⟨⟨_, rfl⟩, rfl, ?_⟩
          exact Eq.mp (by kernel_rfl) hS
        · intro Ep36 w l' hE36 hO36 hF_ hS
          obtain ⟨f36_6, -⟩ := hF_
          replace f36_6 : Ep36 137 = .pointer (some ⟨b3, 1, none⟩) := Eq.mp (by kernel_rfl) f36_6
          replace hS : St w0 w (cells b3 81 [.int .i64 r1_1.1, .int .i64 r1_3.1, .int .i64 r1_5.1, .slice A_b3_3_L3 b3_3_L3.length c_b3_3_L3, .slice (adOf (Ep35 129)) z35_9.length (capOf (Ep35 129)), .slice A_b3_5_L33h b3_5_L33h.length c_b3_5_L33h] :: l') := Eq.mp (by kernel_rfl) hS
          refine pa (at_load one_3 f36_6 (hS.cell rfl)) <| x_done <|
            ?_
          refine x_fin ⟨⟨_, rfl⟩, rfl, ?_⟩
          exact Eq.mp (by kernel_rfl) hS
        · intro Ep36 w l' hE36 hO36 hF_ hS
          obtain ⟨f36_7, -⟩ := hF_
          replace f36_7 : Ep36 138 = .int .i64 r1_3.1 := Eq.mp (by kernel_rfl) f36_7
          refine p (ysub f36_7 rfl hx139) <| x_done <|
            ?_
          refine x_fin ⟨⟨_, rfl⟩, rfl, ?_⟩
          exact Eq.mp (by kernel_rfl) hS
        · intro Ep36 w l' hE36 hO36 hF_ hS
          refine p (yl_move ((hE36 8 rfl).trans (hE35 8 rfl))) <| x_done <|
            ?_
          refine x_fin ⟨⟨_, rfl⟩, rfl, ?_⟩
          exact Eq.mp (by kernel_rfl) hS
        · intro Ep36 w l' hE36 hO36 hF_ hS
          obtain ⟨f36_5, f36_8, f36_9, -⟩ := hF_
          replace f36_5 : Ep36 136 = .int .i64 r36_5.1 := Eq.mp (by kernel_rfl) f36_5
          replace f36_8 : Ep36 139 = .int .i64 x139 := Eq.mp (by kernel_rfl) f36_8
          replace f36_9 : Ep36 140 = .int .i64 y117_L33h := Eq.mp (by kernel_rfl) f36_9
          refine p (v := .agg #[.int .i64 r36_5.1, .int .i64 x139, .int .i64 1, .int .i64 y117_L33h]) (yl_build bld_187 bldf_187 (parts_eq (pt (va := .int .i64 r36_5.1) f36_5 (pt (va := .int .i64 x139) f36_8 (pt (va := .int .i64 1) rfl (pt (va := .int .i64 y117_L33h) f36_9 pt0))))) (by kernel_rfl)) <| x_done <|
            ?_
          refine x_fin ⟨⟨_, rfl⟩, rfl, ?_⟩
          exact Eq.mp (by kernel_rfl) hS
        · intro Ep36 w l' hE36 hO36 hF_ hS
          obtain ⟨f36_10, -⟩ := hF_
          replace f36_10 : Ep36 141 = .agg #[.int .i64 r36_5.1, .int .i64 x139, .int .i64 1, .int .i64 y117_L33h] := Eq.mp (by kernel_rfl) f36_10
          refine o_buildSlice (vs := [.agg #[.int .i64 r36_5.1, .int .i64 x139, .int .i64 1, .int .i64 y117_L33h]]) (cs := [.int .i64 r36_5.1, .int .i64 x139, .int .i64 1, .int .i64 y117_L33h]) sl_79 zero_187 (parts_eq (pt (va := .agg #[.int .i64 r36_5.1, .int .i64 x139, .int .i64 1, .int .i64 y117_L33h]) f36_10 pt0)) rfl (by intro v hv; simp only [List.mem_cons, List.not_mem_nil, or_false] at hv; first | (subst hv; rfl) | (rcases hv with rfl <;> rfl)) (by decide) rfl hS (fun b142 w' hS => ?_)
          refine x_done <|
            ?_
          refine x_fin ⟨⟨_, rfl⟩, rfl, ?_⟩
          exact Eq.mp (by kernel_rfl) hS
        · intro Ep36 w l' hE36 hO36 hF_ hS
          obtain ⟨f36_1, f36_11, -⟩ := hF_
          replace f36_1 : Ep36 132 = .slice A_b3_5_L33h b3_5_L33h.length c_b3_5_L33h := Eq.mp (by kernel_rfl) f36_1
          replace f36_11 : Ep36 142 = .slice (some ⟨(blkOf (Ep36 142)), 0, none⟩) 1 1 := Eq.mp (by kernel_rfl) f36_11
          replace hS : St w0 w (cells (blkOf (Ep36 142)) 187 [.int .i64 r36_5.1, .int .i64 x139, .int .i64 1, .int .i64 y117_L33h] :: ro ρ_L3 :: vec 187 R_array_Pad.sz (.slice A_b3_5_L33h b3_5_L33h.length c_b3_5_L33h) b3_5_L33h.length cs_b3_5_L33h :: l') := Eq.mp (by kernel_rfl) hS
          refine o_ap sl_79 zero_187 rfl (by decide) f36_1 f36_11 (hS.pull 2) h_b3_5_L33h (src_blk usl_79 hS rfl rfl) (RepL.cons (R := R_array_Pad) (ρ := ρ_L3) (x := (T_array_Pad.mk r36_5.1 x139 1 y117_L33h)) (cs := [.int .i64 r36_5.1, .int .i64 x139, .int .i64 1, .int .i64 y117_L33h]) rfl RepL.nil) hz36_12 hk36_12 (fun A143 c143 cs143 w' hr143 hS => ?_)
          refine x_done <|
            ?_
          refine x_fin ⟨⟨_, rfl⟩, rfl, ?_⟩
          replace hS := St.bun (Φ := (fun (cs143 : List Value) => RepL R_array_Pad ρ_L3 z36_12 cs143)) (L := (fun (cs143 : List Value) => [vec 187 R_array_Pad.sz (.slice A143 z36_12.length c143) z36_12.length cs143])) cs143 hr143 hS
          exact Eq.mp (by kernel_rfl) ((hS.pull 2).pull 2)
        · intro Ep36 w l' hE36 hO36 hF_ hS
          refine p (yl_field0 fld_81_5 ((hE36 3 rfl).trans ((hE35 3 rfl).trans eL33h_3))) <| x_done <|
            ?_
          refine x_fin ⟨⟨_, rfl⟩, rfl, ?_⟩
          exact Eq.mp (by kernel_rfl) hS
        · intro Ep36 w l' hE36 hO36 hF_ hS
          obtain ⟨f36_12, f36_13, -⟩ := hF_
          replace f36_12 : Ep36 143 = .slice (adOf (Ep36 143)) z36_12.length (capOf (Ep36 143)) := Eq.mp (by kernel_rfl) f36_12
          replace f36_13 : Ep36 144 = .pointer (some ⟨b3, 5, none⟩) := Eq.mp (by kernel_rfl) f36_13
          replace hS : St w0 w (cells b3 81 [.int .i64 r1_1.1, .int .i64 r1_3.1, .int .i64 r1_5.1, .slice A_b3_3_L3 b3_3_L3.length c_b3_3_L3, .slice (adOf (Ep35 129)) z35_9.length (capOf (Ep35 129)), .slice A_b3_5_L33h b3_5_L33h.length c_b3_5_L33h] :: l') := Eq.mp (by kernel_rfl) hS
          refine o_store1 (v := .slice (adOf (Ep36 143)) z36_12.length (capOf (Ep36 143))) one_79 f36_13 f36_12 rfl rfl hS (fun w' hS => ?_)
          refine x_done <|
            ?_
          refine x_fin ⟨⟨undef, rfl⟩, trivial, ?_⟩
          exact Eq.mp (by kernel_rfl) hS
      intro Ep36 w' hE36 hF_ hS
      obtain ⟨f36_0, f36_1, f36_2, f36_3, f36_4, f36_5, f36_6, f36_7, f36_8, f36_9, f36_10, f36_11, f36_12, f36_13, -⟩ := hF_
      replace f36_0 : Ep36 131 = .pointer (some ⟨b3, 5, none⟩) := Eq.mp (by kernel_rfl) f36_0
      replace f36_1 : Ep36 132 = .slice A_b3_5_L33h b3_5_L33h.length c_b3_5_L33h := Eq.mp (by kernel_rfl) f36_1
      replace f36_2 : Ep36 133 = .pointer (some ⟨b_s0, 0, none⟩) := Eq.mp (by kernel_rfl) f36_2
      replace f36_3 : Ep36 134 = .pointer (some ⟨b3, 0, none⟩) := Eq.mp (by kernel_rfl) f36_3
      replace f36_4 : Ep36 135 = .int .i64 r1_1.1 := Eq.mp (by kernel_rfl) f36_4
      replace f36_5 : Ep36 136 = .int .i64 r36_5.1 := Eq.mp (by kernel_rfl) f36_5
      replace f36_6 : Ep36 137 = .pointer (some ⟨b3, 1, none⟩) := Eq.mp (by kernel_rfl) f36_6
      replace f36_7 : Ep36 138 = .int .i64 r1_3.1 := Eq.mp (by kernel_rfl) f36_7
      replace f36_8 : Ep36 139 = .int .i64 x139 := Eq.mp (by kernel_rfl) f36_8
      replace f36_9 : Ep36 140 = .int .i64 y117_L33h := Eq.mp (by kernel_rfl) f36_9
      replace f36_10 : Ep36 141 = .agg #[.int .i64 r36_5.1, .int .i64 x139, .int .i64 1, .int .i64 y117_L33h] := Eq.mp (by kernel_rfl) f36_10
      replace f36_11 : Ep36 142 = .slice (some ⟨(blkOf (Ep36 142)), 0, none⟩) 1 1 := Eq.mp (by kernel_rfl) f36_11
      replace f36_12 : Ep36 143 = .slice (adOf (Ep36 143)) z36_12.length (capOf (Ep36 143)) := Eq.mp (by kernel_rfl) f36_12
      replace f36_13 : Ep36 144 = .pointer (some ⟨b3, 5, none⟩) := Eq.mp (by kernel_rfl) f36_13
      replace hS : St w0 w' (ro ρ_L3 :: cells b_s0 25 [.slice A_s0_0 s0.L.length c_s0_0, .int .i64 r36_5.2] :: cells (blkOf (Ep36 142)) 187 [.int .i64 r36_5.1, .int .i64 x139, .int .i64 1, .int .i64 y117_L33h] :: bunA (fun (cs143 : List Value) => RepL R_array_Pad ρ_L3 z36_12 cs143) (fun (cs143 : List Value) => [vec 187 R_array_Pad.sz (.slice (adOf (Ep36 143)) z36_12.length (capOf (Ep36 143))) z36_12.length cs143]) :: cells b3 81 [.int .i64 r1_1.1, .int .i64 r1_3.1, .int .i64 r1_5.1, .slice A_b3_3_L3 b3_3_L3.length c_b3_3_L3, .slice (adOf (Ep35 129)) z35_9.length (capOf (Ep35 129)), .slice (adOf (Ep36 143)) z36_12.length (capOf (Ep36 143))] :: (vec 187 R_array_Pad.sz (.slice (adOf (Ep35 129)) z35_9.length (capOf (Ep35 129))) z35_9.length cs129 :: cells (blkOf (Ep35 128)) 187 [.int .i64 r35_5.1, .int .i64 0, .int .i64 3, .int .i64 y117_L33h] :: cells b2 81 [.int .i64 0, .int .i64 0, .int .i64 0, .slice none 0 0, .slice none 0 0, .slice none 0 0] :: vec 183 R_array_Tile.sz (.slice A_b3_3_L3 b3_3_L3.length c_b3_3_L3) b3_3_L3.length cs_b3_3_L3 :: l)) := Eq.mp (by kernel_rfl) hS
      have q_ := St.unbun (hS.pull 3); obtain ⟨cs143, hr143, hS⟩ := q_
      replace hFL33 := ar_s hFL33; obtain ⟨x145, hx145, hFL33⟩ := hFL33
      refine x_blk <| x_region <| p (yadd ((hE36 117 rfl).trans ((hE35 117 rfl).trans eL33h_117)) rfl hx145) <| p (yl_move rfl) <|
        x_done <|
        ?_
      have e_ := Option.some.inj (show some _ = some _ from hFL33); subst e_
      exact x_inv ⟨kL33, Nat.lt_succ_self _, (adOf (Ep35 129)), z35_9.length, (capOf (Ep35 129)), cs129, (adOf (Ep36 143)), z36_12.length, (capOf (Ep36 143)), cs143, x145, r36_5.2, z35_9, z36_12, hLL33, ((hE36 0 rfl).trans ((hE35 0 rfl).trans eL33h_0)), ((hE36 2 rfl).trans ((hE35 2 rfl).trans eL33h_2)), ((hE36 3 rfl).trans ((hE35 3 rfl).trans eL33h_3)), ((hE36 116 rfl).trans ((hE35 116 rfl).trans eL33h_116)), rfl, hr129, hr143, (((((((((hS.pull 3).drop.pull 5).drop.pull 1).pull 1).pull 4).pull 6).pull 5).pull 6).pull 6)⟩
    · replace hFL33 := it_f hc118 hFL33
      refine x_exitTo _ rfl <|
        ?_
      have e_ := Option.some.inj (show some _ = some _ from hFL33); subst e_
      exact x_inv ⟨A_b3_4_L33h, b3_4_L33h.length, c_b3_4_L33h, cs_b3_4_L33h, A_b3_5_L33h, b3_5_L33h.length, c_b3_5_L33h, cs_b3_5_L33h, b_s0_1_L33h, b3_4_L33h, b3_5_L33h, hLL33, eL33h_0, eL33h_2, eL33h_3, h_b3_4_L33h, h_b3_5_L33h, (((((((hS.pull 6).pull 6).pull 6).pull 6).pull 6).pull 6).pull 6)⟩
  rintro E w ⟨A_b3_4_L33, n_b3_4_L33, c_b3_4_L33, cs_b3_4_L33, A_b3_5_L33, n_b3_5_L33, c_b3_5_L33, cs_b3_5_L33, b_s0_1_L33, b3_4_L33, b3_5_L33, rfl, eL33_0, eL33_2, eL33_3, h_b3_4_L33, h_b3_5_L33, hS⟩
  have e_ := St.vec_n (hS.pull 4) h_b3_4_L33; subst e_
  have e_ := St.vec_n (hS.pull 5) h_b3_5_L33; subst e_
  replace hF := bd_s hF; obtain ⟨r38_1, hc38_1, hF⟩ := hF
  refine x_seq <| x_seq <| x_region <| p (yl_move eL33_0) <|
    ?_
  have hcall := c_maskmake_Stream_Flip hc38_1 (h_s0_0.le hleρ_L3) ((hS.pull 6).pull 1)
  refine o_cc call_75 (args2 rfl rfl) hcall ?_
  rintro e w' ⟨rfl, hS⟩
  refine ⟨_, rfl, ?_⟩
  refine x_done <|
    ?_
  replace hF := bd_s hF; obtain ⟨oc147, hFc147, hF⟩ := hF
  refine x_join (fun E w => ∃ (A_b3_4_c147 : Option Addr) (n_b3_4_c147 : Nat) (c_b3_4_c147 : Nat) (cs_b3_4_c147 : List Value) (b3_4_c147 : List T_array_Pad) (b_s0_1_c147 : Int), (b3_4_c147, b_s0_1_c147) = oc147 ∧ E 2 = .pointer (some ⟨b2, 0, none⟩) ∧ E 3 = .pointer (some ⟨b3, 0, none⟩) ∧ RepL R_array_Pad ρ_L3 b3_4_c147 cs_b3_4_c147 ∧ St w0 w (cells b2 81 [.int .i64 0, .int .i64 0, .int .i64 0, .slice none 0 0, .slice none 0 0, .slice none 0 0] :: cells b3 81 [.int .i64 r1_1.1, .int .i64 r1_3.1, .int .i64 r1_5.1, .slice A_b3_3_L3 b3_3_L3.length c_b3_3_L3, .slice A_b3_4_c147 n_b3_4_c147 c_b3_4_c147, .slice A_b3_5_L33 b3_5_L33.length c_b3_5_L33] :: cells b_s0 25 [.slice A_s0_0 s0.L.length c_s0_0, .int .i64 b_s0_1_c147] :: vec 183 R_array_Tile.sz (.slice A_b3_3_L3 b3_3_L3.length c_b3_3_L3) b3_3_L3.length cs_b3_3_L3 :: vec 187 R_array_Pad.sz (.slice A_b3_4_c147 n_b3_4_c147 c_b3_4_c147) n_b3_4_c147 cs_b3_4_c147 :: vec 187 R_array_Pad.sz (.slice A_b3_5_L33 b3_5_L33.length c_b3_5_L33) b3_5_L33.length cs_b3_5_L33 :: ro ρ_L3 :: l)) ?_ ?_
  · skip -- c147
    refine x_cond (t := r38_1.1) rfl (fun hc147 => ?_) (fun hc147 => ?_)
    · replace hFc147 := it_t hc147 hFc147
      replace hFc147 := bd_s hFc147; obtain ⟨r39_5, hc39_5, hFc147⟩ := hFc147
      replace hFc147 := bd_s hFc147; obtain ⟨r39_9, hc39_9, hFc147⟩ := hFc147
      replace hFc147 := lv_s hFc147; obtain ⟨z39_12, hz39_12, hFc147⟩ := hFc147
      replace hFc147 := ck_s hFc147; obtain ⟨hk39_12, hFc147⟩ := hFc147
      refine x_par (w0 := w0) [⟨[], [], [148], [], [], []⟩, ⟨[0], [0], [149], [0], [], []⟩, ⟨[], [], [150], [], [], []⟩, ⟨[], [], [151], [], [], []⟩, ⟨[3], [3], [152], [0], [], []⟩, ⟨[2, 3, 4], [2, 4], [153], [2], [1], [3]⟩, ⟨[], [], [154], [], [], []⟩, ⟨[], [], [155], [], [], []⟩, ⟨[7], [7], [156], [0], [], []⟩, ⟨[2, 3, 4, 5, 6, 7, 8], [6, 8], [157], [2], [3], [4]⟩, ⟨[2, 3, 4, 5, 6, 7, 8, 9], [5, 9], [158], [], [], []⟩, ⟨[2, 3, 4, 5, 6, 7, 8, 9, 10], [10], [159], [], [], [5]⟩, ⟨[0, 1, 2, 3, 4, 5, 6, 7, 8, 9, 10, 11], [1, 11], [160], [5, 2], [6], [7]⟩, ⟨[0, 1, 2, 3, 4, 5, 6, 7, 8, 9, 10, 11, 12], [], [161], [], [], []⟩, ⟨[0, 1, 2, 3, 4, 5, 6, 7, 8, 9, 10, 11, 12, 13], [12, 13], [], [], [0], [8]⟩] [⟨none, (some 14), []⟩, ⟨none, (some 5), []⟩, ⟨none, none, []⟩, ⟨(some 5), (some 9), []⟩, ⟨(some 9), none, []⟩, ⟨(some 11), none, [159]⟩, ⟨none, (some 12), []⟩, ⟨(some 12), none, [160]⟩, ⟨(some 14), none, [160]⟩] [148, 149, 150, 151, 152, 153, 154, 155, 156, 157, 158, 159, 160, 161] [0, 1, 2, 6] [2, 4, 5, 7, 8] [0, 1, 2, 3, 4, 5, 6, 7, 8, 9, 10, 11, 12, 13] [fun Ep39 => Ep39 148 = .pointer (some ⟨b3, 4, none⟩), fun Ep39 => Ep39 149 = .slice A_b3_4_L33 b3_4_L33.length c_b3_4_L33, fun Ep39 => Ep39 150 = .pointer (some ⟨b_s0, 0, none⟩), fun Ep39 => Ep39 151 = .pointer (some ⟨b3, 1, none⟩), fun Ep39 => Ep39 152 = .int .i64 r1_3.1, fun Ep39 => Ep39 153 = .int .i64 r39_5.1, fun Ep39 => Ep39 154 = .pointer (some ⟨b_s0, 0, none⟩), fun Ep39 => Ep39 155 = .pointer (some ⟨b3, 2, none⟩), fun Ep39 => Ep39 156 = .int .i64 r1_5.1, fun Ep39 => Ep39 157 = .int .i64 r39_9.1, fun Ep39 => Ep39 158 = .agg #[.int .i64 0, .int .i64 r39_5.1, .int .i64 0, .int .i64 r39_9.1], fun Ep39 => Ep39 159 = .slice (some ⟨(blkOf (Ep39 159)), 0, none⟩) 1 1, fun Ep39 => Ep39 160 = .slice (adOf (Ep39 160)) z39_12.length (capOf (Ep39 160)), fun Ep39 => Ep39 161 = .pointer (some ⟨b3, 4, none⟩), fun Ep39 => True] [fun Ep39 => cells b3 81 [.int .i64 r1_1.1, .int .i64 r1_3.1, .int .i64 r1_5.1, .slice A_b3_3_L3 b3_3_L3.length c_b3_3_L3, .slice A_b3_4_L33 b3_4_L33.length c_b3_4_L33, .slice A_b3_5_L33 b3_5_L33.length c_b3_5_L33], fun Ep39 => cells b_s0 25 [.slice A_s0_0 s0.L.length c_s0_0, .int .i64 r38_1.2], fun Ep39 => ro ρ_L3, fun Ep39 => cells b_s0 25 [.slice A_s0_0 s0.L.length c_s0_0, .int .i64 r39_5.2], fun Ep39 => cells b_s0 25 [.slice A_s0_0 s0.L.length c_s0_0, .int .i64 r39_9.2], fun Ep39 => cells (blkOf (Ep39 159)) 187 [.int .i64 0, .int .i64 r39_5.1, .int .i64 0, .int .i64 r39_9.1], fun Ep39 => vec 187 R_array_Pad.sz (.slice A_b3_4_L33 b3_4_L33.length c_b3_4_L33) b3_4_L33.length cs_b3_4_L33, fun Ep39 => bunA (fun (cs160 : List Value) => RepL R_array_Pad ρ_L3 z39_12 cs160) (fun (cs160 : List Value) => [vec 187 R_array_Pad.sz (.slice (adOf (Ep39 160)) z39_12.length (capOf (Ep39 160))) z39_12.length cs160]), fun Ep39 => cells b3 81 [.int .i64 r1_1.1, .int .i64 r1_3.1, .int .i64 r1_5.1, .slice A_b3_3_L3 b3_3_L3.length c_b3_3_L3, .slice (adOf (Ep39 160)) z39_12.length (capOf (Ep39 160)), .slice A_b3_5_L33 b3_5_L33.length c_b3_5_L33]] mixed (by kernel_rfl) ((((hS.pull 5).pull 2).pull 2).pull 4) ?_ ?_
      · refine ⟨?_, ?_, ?_, ?_, ?_, ?_, ?_, ?_, ?_, ?_, ?_, ?_, ?_, ?_, ?_, trivial⟩
        · intro Ep39 w l' hE39 hO39 hF_ hS
          refine p (yl_field0 fld_81_4 ((hE39 3 rfl).trans eL33_3)) <| x_done <|
            ?_
          refine x_fin ⟨⟨_, rfl⟩, rfl, ?_⟩
          exact Eq.mp (by kernel_rfl) hS
        · intro Ep39 w l' hE39 hO39 hF_ hS
          obtain ⟨f39_0, -⟩ := hF_
          replace f39_0 : Ep39 148 = .pointer (some ⟨b3, 4, none⟩) := Eq.mp (by kernel_rfl) f39_0
          replace hS : St w0 w (cells b3 81 [.int .i64 r1_1.1, .int .i64 r1_3.1, .int .i64 r1_5.1, .slice A_b3_3_L3 b3_3_L3.length c_b3_3_L3, .slice A_b3_4_L33 b3_4_L33.length c_b3_4_L33, .slice A_b3_5_L33 b3_5_L33.length c_b3_5_L33] :: l') := Eq.mp (by kernel_rfl) hS
          refine pa (at_load one_79 f39_0 (hS.cell rfl)) <| x_done <|
            ?_
          refine x_fin ⟨⟨_, rfl⟩, rfl, ?_⟩
          exact Eq.mp (by kernel_rfl) hS
        · intro Ep39 w l' hE39 hO39 hF_ hS
          refine p (yl_move ((hE39 0 rfl).trans eL33_0)) <| x_done <|
            ?_
          refine x_fin ⟨⟨_, rfl⟩, rfl, ?_⟩
          exact Eq.mp (by kernel_rfl) hS
        · intro Ep39 w l' hE39 hO39 hF_ hS
          refine p (yl_field0 fld_81_1 ((hE39 3 rfl).trans eL33_3)) <| x_done <|
            ?_
          refine x_fin ⟨⟨_, rfl⟩, rfl, ?_⟩
          exact Eq.mp (by kernel_rfl) hS
        · intro Ep39 w l' hE39 hO39 hF_ hS
          obtain ⟨f39_3, -⟩ := hF_
          replace f39_3 : Ep39 151 = .pointer (some ⟨b3, 1, none⟩) := Eq.mp (by kernel_rfl) f39_3
          replace hS : St w0 w (cells b3 81 [.int .i64 r1_1.1, .int .i64 r1_3.1, .int .i64 r1_5.1, .slice A_b3_3_L3 b3_3_L3.length c_b3_3_L3, .slice A_b3_4_L33 b3_4_L33.length c_b3_4_L33, .slice A_b3_5_L33 b3_5_L33.length c_b3_5_L33] :: l') := Eq.mp (by kernel_rfl) hS
          refine pa (at_load one_3 f39_3 (hS.cell rfl)) <| x_done <|
            ?_
          refine x_fin ⟨⟨_, rfl⟩, rfl, ?_⟩
          exact Eq.mp (by kernel_rfl) hS
        · intro Ep39 w l' hE39 hO39 hF_ hS
          obtain ⟨f39_2, f39_4, -⟩ := hF_
          replace f39_2 : Ep39 150 = .pointer (some ⟨b_s0, 0, none⟩) := Eq.mp (by kernel_rfl) f39_2
          replace f39_4 : Ep39 152 = .int .i64 r1_3.1 := Eq.mp (by kernel_rfl) f39_4
          replace hS : St w0 w (ro ρ_L3 :: cells b_s0 25 [.slice A_s0_0 s0.L.length c_s0_0, .int .i64 r38_1.2] :: l') := Eq.mp (by kernel_rfl) hS
          have hcall := c_maskmake_Stream_Next hc39_5 (h_s0_0.le hleρ_L3) (hS.pull 1)
          refine o_cc call_15 (args2 f39_2 f39_4) hcall ?_
          rintro e w' ⟨rfl, hS⟩
          refine ⟨_, rfl, ?_⟩
          refine x_done <|
            ?_
          refine x_fin ⟨⟨_, rfl⟩, rfl, ?_⟩
          exact Eq.mp (by kernel_rfl) (hS.pull 1)
        · intro Ep39 w l' hE39 hO39 hF_ hS
          refine p (yl_move ((hE39 0 rfl).trans eL33_0)) <| x_done <|
            ?_
          refine x_fin ⟨⟨_, rfl⟩, rfl, ?_⟩
          exact Eq.mp (by kernel_rfl) hS
        · intro Ep39 w l' hE39 hO39 hF_ hS
          refine p (yl_field0 fld_81_2 ((hE39 3 rfl).trans eL33_3)) <| x_done <|
            ?_
          refine x_fin ⟨⟨_, rfl⟩, rfl, ?_⟩
          exact Eq.mp (by kernel_rfl) hS
        · intro Ep39 w l' hE39 hO39 hF_ hS
          obtain ⟨f39_7, -⟩ := hF_
          replace f39_7 : Ep39 155 = .pointer (some ⟨b3, 2, none⟩) := Eq.mp (by kernel_rfl) f39_7
          replace hS : St w0 w (cells b3 81 [.int .i64 r1_1.1, .int .i64 r1_3.1, .int .i64 r1_5.1, .slice A_b3_3_L3 b3_3_L3.length c_b3_3_L3, .slice A_b3_4_L33 b3_4_L33.length c_b3_4_L33, .slice A_b3_5_L33 b3_5_L33.length c_b3_5_L33] :: l') := Eq.mp (by kernel_rfl) hS
          refine pa (at_load one_3 f39_7 (hS.cell rfl)) <| x_done <|
            ?_
          refine x_fin ⟨⟨_, rfl⟩, rfl, ?_⟩
          exact Eq.mp (by kernel_rfl) hS
        · intro Ep39 w l' hE39 hO39 hF_ hS
          obtain ⟨f39_6, f39_8, -⟩ := hF_
          replace f39_6 : Ep39 154 = .pointer (some ⟨b_s0, 0, none⟩) := Eq.mp (by kernel_rfl) f39_6
          replace f39_8 : Ep39 156 = .int .i64 r1_5.1 := Eq.mp (by kernel_rfl) f39_8
          replace hS : St w0 w (ro ρ_L3 :: cells b_s0 25 [.slice A_s0_0 s0.L.length c_s0_0, .int .i64 r39_5.2] :: l') := Eq.mp (by kernel_rfl) hS
          have hcall := c_maskmake_Stream_Next hc39_9 (h_s0_0.le hleρ_L3) (hS.pull 1)
          refine o_cc call_15 (args2 f39_6 f39_8) hcall ?_
          rintro e w' ⟨rfl, hS⟩
          refine ⟨_, rfl, ?_⟩
          refine x_done <|
            ?_
          refine x_fin ⟨⟨_, rfl⟩, rfl, ?_⟩
          exact Eq.mp (by kernel_rfl) (hS.pull 1)
        · intro Ep39 w l' hE39 hO39 hF_ hS
          obtain ⟨f39_5, f39_9, -⟩ := hF_
          replace f39_5 : Ep39 153 = .int .i64 r39_5.1 := Eq.mp (by kernel_rfl) f39_5
          replace f39_9 : Ep39 157 = .int .i64 r39_9.1 := Eq.mp (by kernel_rfl) f39_9
          refine p (v := .agg #[.int .i64 0, .int .i64 r39_5.1, .int .i64 0, .int .i64 r39_9.1]) (yl_build bld_187 bldf_187 (parts_eq (pt (va := .int .i64 0) rfl (pt (va := .int .i64 r39_5.1) f39_5 (pt (va := .int .i64 0) rfl (pt (va := .int .i64 r39_9.1) f39_9 pt0))))) (by kernel_rfl)) <| x_done <|
            ?_
          refine x_fin ⟨⟨_, rfl⟩, rfl, ?_⟩
          exact Eq.mp (by kernel_rfl) hS
        · intro Ep39 w l' hE39 hO39 hF_ hS
          obtain ⟨f39_10, -⟩ := hF_
          replace f39_10 : Ep39 158 = .agg #[.int .i64 0, .int .i64 r39_5.1, .int .i64 0, .int .i64 r39_9.1] := Eq.mp (by kernel_rfl) f39_10
          refine o_buildSlice (vs := [.agg #[.int .i64 0, .int .i64 r39_5.1, .int .i64 0, .int .i64 r39_9.1]]) (cs := [.int .i64 0, .int .i64 r39_5.1, .int .i64 0, .int .i64 r39_9.1]) sl_79 zero_187 (parts_eq (pt (va := .agg #[.int .i64 0, .int .i64 r39_5.1, .int .i64 0, .int .i64 r39_9.1]) f39_10 pt0)) rfl (by intro v hv; simp only [List.mem_cons, List.not_mem_nil, or_false] at hv; first | (subst hv; rfl) | (rcases hv with rfl <;> rfl)) (by decide) rfl hS (fun b159 w' hS => ?_)
          refine x_done <|
            ?_
          refine x_fin ⟨⟨_, rfl⟩, rfl, ?_⟩
          exact Eq.mp (by kernel_rfl) hS
        · intro Ep39 w l' hE39 hO39 hF_ hS
          obtain ⟨f39_1, f39_11, -⟩ := hF_
          replace f39_1 : Ep39 149 = .slice A_b3_4_L33 b3_4_L33.length c_b3_4_L33 := Eq.mp (by kernel_rfl) f39_1
          replace f39_11 : Ep39 159 = .slice (some ⟨(blkOf (Ep39 159)), 0, none⟩) 1 1 := Eq.mp (by kernel_rfl) f39_11
          replace hS : St w0 w (cells (blkOf (Ep39 159)) 187 [.int .i64 0, .int .i64 r39_5.1, .int .i64 0, .int .i64 r39_9.1] :: ro ρ_L3 :: vec 187 R_array_Pad.sz (.slice A_b3_4_L33 b3_4_L33.length c_b3_4_L33) b3_4_L33.length cs_b3_4_L33 :: l') := Eq.mp (by kernel_rfl) hS
          refine o_ap sl_79 zero_187 rfl (by decide) f39_1 f39_11 (hS.pull 2) h_b3_4_L33 (src_blk usl_79 hS rfl rfl) (RepL.cons (R := R_array_Pad) (ρ := ρ_L3) (x := (T_array_Pad.mk 0 r39_5.1 0 r39_9.1)) (cs := [.int .i64 0, .int .i64 r39_5.1, .int .i64 0, .int .i64 r39_9.1]) rfl RepL.nil) hz39_12 hk39_12 (fun A160 c160 cs160 w' hr160 hS => ?_)
          refine x_done <|
            ?_
          refine x_fin ⟨⟨_, rfl⟩, rfl, ?_⟩
          replace hS := St.bun (Φ := (fun (cs160 : List Value) => RepL R_array_Pad ρ_L3 z39_12 cs160)) (L := (fun (cs160 : List Value) => [vec 187 R_array_Pad.sz (.slice A160 z39_12.length c160) z39_12.length cs160])) cs160 hr160 hS
          exact Eq.mp (by kernel_rfl) ((hS.pull 2).pull 2)
        · intro Ep39 w l' hE39 hO39 hF_ hS
          refine p (yl_field0 fld_81_4 ((hE39 3 rfl).trans eL33_3)) <| x_done <|
            ?_
          refine x_fin ⟨⟨_, rfl⟩, rfl, ?_⟩
          exact Eq.mp (by kernel_rfl) hS
        · intro Ep39 w l' hE39 hO39 hF_ hS
          obtain ⟨f39_12, f39_13, -⟩ := hF_
          replace f39_12 : Ep39 160 = .slice (adOf (Ep39 160)) z39_12.length (capOf (Ep39 160)) := Eq.mp (by kernel_rfl) f39_12
          replace f39_13 : Ep39 161 = .pointer (some ⟨b3, 4, none⟩) := Eq.mp (by kernel_rfl) f39_13
          replace hS : St w0 w (cells b3 81 [.int .i64 r1_1.1, .int .i64 r1_3.1, .int .i64 r1_5.1, .slice A_b3_3_L3 b3_3_L3.length c_b3_3_L3, .slice A_b3_4_L33 b3_4_L33.length c_b3_4_L33, .slice A_b3_5_L33 b3_5_L33.length c_b3_5_L33] :: l') := Eq.mp (by kernel_rfl) hS
          refine o_store1 (v := .slice (adOf (Ep39 160)) z39_12.length (capOf (Ep39 160))) one_79 f39_13 f39_12 rfl rfl hS (fun w' hS => ?_)
          refine x_done <|
            ?_
          refine x_fin ⟨⟨undef, rfl⟩, trivial, ?_⟩
          exact Eq.mp (by kernel_rfl) hS
      intro Ep39 w' hE39 hF_ hS
      obtain ⟨f39_0, f39_1, f39_2, f39_3, f39_4, f39_5, f39_6, f39_7, f39_8, f39_9, f39_10, f39_11, f39_12, f39_13, -⟩ := hF_
      replace f39_0 : Ep39 148 = .pointer (some ⟨b3, 4, none⟩) := Eq.mp (by kernel_rfl) f39_0
      replace f39_1 : Ep39 149 = .slice A_b3_4_L33 b3_4_L33.length c_b3_4_L33 := Eq.mp (by kernel_rfl) f39_1
      replace f39_2 : Ep39 150 = .pointer (some ⟨b_s0, 0, none⟩) := Eq.mp (by kernel_rfl) f39_2
      replace f39_3 : Ep39 151 = .pointer (some ⟨b3, 1, none⟩) := Eq.mp (by kernel_rfl) f39_3
      replace f39_4 : Ep39 152 = .int .i64 r1_3.1 := Eq.mp (by kernel_rfl) f39_4
      replace f39_5 : Ep39 153 = .int .i64 r39_5.1 := Eq.mp (by kernel_rfl) f39_5
      replace f39_6 : Ep39 154 = .pointer (some ⟨b_s0, 0, none⟩) := Eq.mp (by kernel_rfl) f39_6
      replace f39_7 : Ep39 155 = .pointer (some ⟨b3, 2, none⟩) := Eq.mp (by kernel_rfl) f39_7
      replace f39_8 : Ep39 156 = .int .i64 r1_5.1 := Eq.mp (by kernel_rfl) f39_8
      replace f39_9 : Ep39 157 = .int .i64 r39_9.1 := Eq.mp (by kernel_rfl) f39_9
      replace f39_10 : Ep39 158 = .agg #[.int .i64 0, .int .i64 r39_5.1, .int .i64 0, .int .i64 r39_9.1] := Eq.mp (by kernel_rfl) f39_10
      replace f39_11 : Ep39 159 = .slice (some ⟨(blkOf (Ep39 159)), 0, none⟩) 1 1 := Eq.mp (by kernel_rfl) f39_11
      replace f39_12 : Ep39 160 = .slice (adOf (Ep39 160)) z39_12.length (capOf (Ep39 160)) := Eq.mp (by kernel_rfl) f39_12
      replace f39_13 : Ep39 161 = .pointer (some ⟨b3, 4, none⟩) := Eq.mp (by kernel_rfl) f39_13
      replace hS : St w0 w' (ro ρ_L3 :: cells b_s0 25 [.slice A_s0_0 s0.L.length c_s0_0, .int .i64 r39_9.2] :: cells (blkOf (Ep39 159)) 187 [.int .i64 0, .int .i64 r39_5.1, .int .i64 0, .int .i64 r39_9.1] :: bunA (fun (cs160 : List Value) => RepL R_array_Pad ρ_L3 z39_12 cs160) (fun (cs160 : List Value) => [vec 187 R_array_Pad.sz (.slice (adOf (Ep39 160)) z39_12.length (capOf (Ep39 160))) z39_12.length cs160]) :: cells b3 81 [.int .i64 r1_1.1, .int .i64 r1_3.1, .int .i64 r1_5.1, .slice A_b3_3_L3 b3_3_L3.length c_b3_3_L3, .slice (adOf (Ep39 160)) z39_12.length (capOf (Ep39 160)), .slice A_b3_5_L33 b3_5_L33.length c_b3_5_L33] :: (cells b2 81 [.int .i64 0, .int .i64 0, .int .i64 0, .slice none 0 0, .slice none 0 0, .slice none 0 0] :: vec 183 R_array_Tile.sz (.slice A_b3_3_L3 b3_3_L3.length c_b3_3_L3) b3_3_L3.length cs_b3_3_L3 :: vec 187 R_array_Pad.sz (.slice A_b3_5_L33 b3_5_L33.length c_b3_5_L33) b3_5_L33.length cs_b3_5_L33 :: l)) := Eq.mp (by kernel_rfl) hS
      have q_ := St.unbun (hS.pull 3); obtain ⟨cs160, hr160, hS⟩ := q_
      exact x_inv ⟨(adOf (Ep39 160)), z39_12.length, (capOf (Ep39 160)), cs160, z39_12, r39_9.2, (Option.some.inj (show some _ = some _ from hFc147)), ((hE39 2 rfl).trans eL33_2), ((hE39 3 rfl).trans eL33_3), hr160, ((((((((hS.pull 3).drop.pull 1).pull 6).pull 2).pull 6).pull 4).pull 5).pull 6)⟩
    · replace hFc147 := it_bf hc147 hFc147
      refine x_skip <|
        ?_
      exact x_inv ⟨A_b3_4_L33, b3_4_L33.length, c_b3_4_L33, cs_b3_4_L33, b3_4_L33, r38_1.2, (Option.some.inj (show some _ = some _ from hFc147)), eL33_2, eL33_3, h_b3_4_L33, (((((((hS.pull 1).pull 6).pull 6).pull 6).pull 4).pull 6).pull 6)⟩
  rintro E w ⟨A_b3_4_c147, n_b3_4_c147, c_b3_4_c147, cs_b3_4_c147, b3_4_c147, b_s0_1_c147, rfl, ec147_2, ec147_3, h_b3_4_c147, hS⟩
  have e_ := St.vec_n (hS.pull 4) h_b3_4_c147; subst e_
  refine x_seq <| x_region <| pa (v := .agg #[.int .i64 r1_1.1, .int .i64 r1_3.1, .int .i64 r1_5.1, .slice A_b3_3_L3 b3_3_L3.length c_b3_3_L3, .slice A_b3_4_c147 b3_4_c147.length c_b3_4_c147, .slice A_b3_5_L33 b3_5_L33.length c_b3_5_L33]) (ld_sub agg_81 ec147_3 rfl rfl (hS.pull 1)) <|
    ?_
  refine o_storeAgg (news := [.int .i64 r1_1.1, .int .i64 r1_3.1, .int .i64 r1_5.1, .slice A_b3_3_L3 b3_3_L3.length c_b3_3_L3, .slice A_b3_4_c147 b3_4_c147.length c_b3_4_c147, .slice A_b3_5_L33 b3_5_L33.length c_b3_5_L33]) agg_81 ec147_2 rfl rfl (by simp [over_length]) hS (fun w' hS => ?_)
  refine x_done <|
    ?_
  have e_ := Option.some.inj (show some _ = some _ from hF); subst e_
  exact x_return ⟨_, ⟨_, _, _, rfl, ec147_2, ldvA agg_81 rfl (fun j v hj => by rw [add0]; exact St.cell hS hj), rfl⟩, ρ_L3, A_b3_3_L3, b3_3_L3.length, c_b3_3_L3, cs_b3_3_L3, A_b3_4_c147, b3_4_c147.length, c_b3_4_c147, cs_b3_4_c147, A_b3_5_L33, b3_5_L33.length, c_b3_5_L33, cs_b3_5_L33, rfl, hleρ_L3, h_b3_3_L3, h_b3_4_c147, h_b3_5_L33, (((((hS.drop.drop.pull 4).pull 1).pull 4).pull 4).pull 4)⟩
attribute [irreducible] P_maskmake_Stream_Config

def P_array_within (n0 : Int) (low1 : Int) (high2 : Int) : Option Bool :=
  lv ((decide (low1 ≤ n0)) && (decide (n0 ≤ high2))) fun x14 =>
  some x14
set_option maxHeartbeats 4000000 in
set_option maxRecDepth 100000 in
theorem c_array_within {w0 w : World} {l : List Assn} {ρ : Heap} {n0 : Int} {low1 : Int} {high2 : Int} {r : Bool} (hF : P_array_within n0 low1 high2 = some r) (hS : St w0 w (ro ρ :: l)) :
    Calls Try.prog 130 #[.int .i64 n0, .int .i64 low1, .int .i64 high2] w fun e w' => e = .returned (.bool r) ∧ St w0 w' (ro ρ :: l) := by
  refine enterC Try.func130 rfl 15 rfl (by simp) ?_
  replace hF := lv_s hF; obtain ⟨x14, hx14, hF⟩ := hF
  refine x_seq <| x_region <| p (yl_assign rfl) <| x_done <|
    x_seq <| x_region <| p (yl_move rfl) <| p (yl_move rfl) <|
    p (yl_leq rfl rfl) <| p (yl_move rfl) <| pg (v := .int .i64 n0) 10 (c := decide (low1 ≤ n0)) (says_t _) (fun hq => Yl.at (yl_move rfl)) <| pg (v := .int .i64 high2) 10 (c := decide (low1 ≤ n0)) (says_t _) (fun hq => Yl.at (yl_move rfl)) <|
    pg (v := .bool (decide (n0 ≤ high2))) 10 (c := decide (low1 ≤ n0)) (says_t _) (fun hq => Yl.at (yl_leq (cv hq) (cv hq))) <| p (yand' rfl (fun hc => (cv hc)) rfl hx14) <| p (yl_assign rfl) <| x_done <|
    ?_
  have e_ := Option.some.inj (show some _ = some _ from hF); subst e_
  exact x_return ⟨_, ⟨_, _, rfl, rfl, rfl⟩, rfl, hS⟩
attribute [irreducible] P_array_within

def P_array_border (c0 : T_array_Config) (p1 : T_array_Pad) : Option Bool :=
  ar (c0.Rows - 1) fun x9 =>
  bd (P_array_within p1.Row 0 x9) fun r1_5 =>
  ck ((!(!r1_5)) = true → I64 (c0.Cols - 1)) <|
  lv (c0.Cols - 1) fun x17 =>
  bd (gd (!(!r1_5)) (P_array_within p1.Col 0 x17)) fun r1_13 =>
  lv ((!r1_5) || (!r1_13)) fun x20 =>
  ck ((!x20) = true → I64 (c0.Tracks - 1)) <|
  lv (c0.Tracks - 1) fun x26 =>
  bd (gd (!x20) (P_array_within p1.Track 0 x26)) fun r1_22 =>
  lv (x20 || (!r1_22)) fun x29 =>
  if x29 = true then
    some false
  else
    if p1.Side = 0 then
      some (decide (p1.Row = 0))
    else
      if p1.Side = 1 then
        ar (c0.Cols - 1) fun x43 =>
        some (decide (p1.Col = x43))
      else
        if p1.Side = 2 then
          ar (c0.Rows - 1) fun x51 =>
          some (decide (p1.Row = x51))
        else
          if p1.Side = 3 then
            some (decide (p1.Col = 0))
          else
            some false
set_option maxHeartbeats 4000000 in
set_option maxRecDepth 100000 in
theorem c_array_border {w0 w : World} {l : List Assn} {ρ : Heap} {A_c0_3 : Option Addr} {n_c0_3 : Nat} {c_c0_3 : Nat} {A_c0_4 : Option Addr} {n_c0_4 : Nat} {c_c0_4 : Nat} {A_c0_5 : Option Addr} {n_c0_5 : Nat} {c_c0_5 : Nat} {c0 : T_array_Config} {p1 : T_array_Pad} {r : Bool} (hF : P_array_border c0 p1 = some r) (h_c0_3 : RdS R_array_Tile ρ A_c0_3 n_c0_3 c_c0_3 c0.Tiles) (h_c0_4 : RdS R_array_Pad ρ A_c0_4 n_c0_4 c_c0_4 c0.In) (h_c0_5 : RdS R_array_Pad ρ A_c0_5 n_c0_5 c_c0_5 c0.Out) (hS : St w0 w (ro ρ :: l)) :
    Calls Try.prog 153 #[.agg #[.int .i64 c0.Rows, .int .i64 c0.Cols, .int .i64 c0.Tracks, .slice A_c0_3 n_c0_3 c_c0_3, .slice A_c0_4 n_c0_4 c_c0_4, .slice A_c0_5 n_c0_5 c_c0_5], .agg #[.int .i64 p1.Row, .int .i64 p1.Col, .int .i64 p1.Side, .int .i64 p1.Track]] w fun e w' => e = .returned (.bool r) ∧ St w0 w' (ro ρ :: l) := by
  have e_ := h_c0_3.n; subst e_
  have e_ := h_c0_4.n; subst e_
  have e_ := h_c0_5.n; subst e_
  refine enterC Try.func153 rfl 58 rfl (by simp) ?_
  refine x_seq <| x_region <|
    ?_
  refine o_box (cs := [.int .i64 c0.Rows, .int .i64 c0.Cols, .int .i64 c0.Tracks, .slice A_c0_3 c0.Tiles.length c_c0_3, .slice A_c0_4 c0.In.length c_c0_4, .slice A_c0_5 c0.Out.length c_c0_5]) rfl rfl hS (fun b2 w' hS => ?_)
  refine o_box (cs := [.int .i64 p1.Row, .int .i64 p1.Col, .int .i64 p1.Side, .int .i64 p1.Track]) rfl rfl hS (fun b3 w' hS => ?_)
  replace hF := ar_s hF; obtain ⟨x9, hx9, hF⟩ := hF
  replace hF := bd_s hF; obtain ⟨r1_5, hc1_5, hF⟩ := hF
  refine p (yl_assign rfl) <| x_done <| x_seq <| x_seq <|
    x_region <| p (yl_field0 fld_187_0 rfl) <| pa (at_load one_3 rfl (hS.cell rfl)) <| p (yl_field0 fld_81_0 rfl) <|
    pa (at_load one_3 rfl ((hS.pull 1).cell rfl)) <| p (ysub rfl rfl hx9) <|
    ?_
  have hcall := c_array_within hc1_5  (hS.pull 2)
  refine o_cc call_130 (args3 rfl rfl rfl) ((Calls.mono hcall (fun e w'' h => And.intro h.1 ((h.2.pull 2).pull 2)))) ?_
  rintro e w' ⟨rfl, hS⟩
  refine ⟨_, rfl, ?_⟩
  replace hF := ck_s hF; obtain ⟨hk1_12, hF⟩ := hF
  replace hF := lv_s hF; obtain ⟨x17, hx17, hF⟩ := hF
  replace hF := bd_s hF; obtain ⟨r1_13, hc1_13, hF⟩ := hF
  refine p (yl_not rfl) <| p (yl_move rfl) <| pg (v := .pointer (some ⟨b3, 1, none⟩)) 12 (c := !(!r1_5)) (says_f _) (fun hq => Yl.at (yl_field0 fld_187_1 rfl)) <| pg (v := .int .i64 p1.Col) 12 (c := !(!r1_5)) (says_f _) (fun hq => at_load one_3 (cv hq) (hS.cell rfl)) <|
    pg (v := .pointer (some ⟨b2, 1, none⟩)) 12 (c := !(!r1_5)) (says_f _) (fun hq => Yl.at (yl_field0 fld_81_1 rfl)) <| pg (v := .int .i64 c0.Cols) 12 (c := !(!r1_5)) (says_f _) (fun hq => at_load one_3 (cv hq) ((hS.pull 1).cell rfl)) <| pg (v := .int .i64 x17) 12 (c := !(!r1_5)) (says_f _) (fun hq => Yl.at (ysub (cv hq) rfl ⟨hx17, (hk1_12 hq)⟩)) <|
    pccg (v := .bool r1_13) 12 (c := !(!r1_5)) (says_f _) call_130 (fun hq => (args3 (cv hq) rfl (cv hq))) hS (fun hq => by
      have hcall := c_array_within (gd_t hc1_13 hq)  (hS.pull 2)
      exact (Calls.mono hcall (fun e w'' h => And.intro h.1 ((h.2.pull 2).pull 2)))) (fun w' hS => ?_)
  replace hF := lv_s hF; obtain ⟨x20, hx20, hF⟩ := hF
  replace hF := ck_s hF; obtain ⟨hk1_21, hF⟩ := hF
  replace hF := lv_s hF; obtain ⟨x26, hx26, hF⟩ := hF
  replace hF := bd_s hF; obtain ⟨r1_22, hc1_22, hF⟩ := hF
  refine pg (v := .bool (!r1_13)) 12 (c := !(!r1_5)) (says_f _) (fun hq => Yl.at (yl_not (cv hq))) <| p (yor' rfl rfl (fun hc => (cv (t_not hc))) hx20) <| p (yl_move rfl) <| pg (v := .pointer (some ⟨b3, 3, none⟩)) 21 (c := !x20) (says_f _) (fun hq => Yl.at (yl_field0 fld_187_3 rfl)) <|
    pg (v := .int .i64 p1.Track) 21 (c := !x20) (says_f _) (fun hq => at_load one_3 (cv hq) (hS.cell rfl)) <| pg (v := .pointer (some ⟨b2, 2, none⟩)) 21 (c := !x20) (says_f _) (fun hq => Yl.at (yl_field0 fld_81_2 rfl)) <| pg (v := .int .i64 c0.Tracks) 21 (c := !x20) (says_f _) (fun hq => at_load one_3 (cv hq) ((hS.pull 1).cell rfl)) <| pg (v := .int .i64 x26) 21 (c := !x20) (says_f _) (fun hq => Yl.at (ysub (cv hq) rfl ⟨hx26, (hk1_21 hq)⟩)) <|
    pccg (v := .bool r1_22) 21 (c := !x20) (says_f _) call_130 (fun hq => (args3 (cv hq) rfl (cv hq))) hS (fun hq => by
      have hcall := c_array_within (gd_t hc1_22 hq)  (hS.pull 2)
      exact (Calls.mono hcall (fun e w'' h => And.intro h.1 ((h.2.pull 2).pull 2)))) (fun w' hS => ?_)
  replace hF := lv_s hF; obtain ⟨x29, hx29, hF⟩ := hF
  refine pg (v := .bool (!r1_22)) 21 (c := !x20) (says_f _) (fun hq => Yl.at (yl_not (cv hq))) <| p (yor' rfl rfl (fun hc => (cv (t_not hc))) hx29) <| x_done <|
    x_cond (t := x29) rfl (fun hc29 => ?_) (fun hc29 => ?_)
  · replace hF := it_t hc29 hF
    refine x_seq <| x_region <| p (yl_assign rfl) <| x_done <|
      ?_
    have e_ := Option.some.inj (show some _ = some _ from hF); subst e_
    exact x_return ⟨_, ⟨_, _, rfl, rfl, rfl⟩, rfl, hS.drop.drop⟩
  · replace hF := it_bf hc29 hF
    refine x_skip <| x_seq <| x_seq <| x_region <|
      p (yl_field0 fld_187_2 rfl) <| pa (at_load one_3 rfl (hS.cell rfl)) <| x_done <| x_block <|
      x_seq <| x_region <| p (yl_eql rfl rfl) <| p (yl_assign rfl) <|
      x_done <|
      x_cond_p (p1.Side = 0) rfl (fun hc32 => ?_) (fun hc32 => ?_)
    · replace hF := it_t hc32 hF
      refine x_seq <| x_region <| p (yl_field0 fld_187_0 rfl) <| pa (at_load one_3 rfl (hS.cell rfl)) <|
        p (yl_eql rfl rfl) <| p (yl_assign rfl) <| x_done <|
        ?_
      have e_ := Option.some.inj (show some _ = some _ from hF); subst e_
      exact x_return ⟨_, ⟨_, _, rfl, rfl, rfl⟩, rfl, hS.drop.drop⟩
    · replace hF := it_f hc32 hF
      refine x_seq <| x_region <| p (yl_eql rfl rfl) <| p (yl_assign rfl) <|
        x_done <|
        x_cond_p (p1.Side = 1) rfl (fun hc37 => ?_) (fun hc37 => ?_)
      · replace hF := it_t hc37 hF
        replace hF := ar_s hF; obtain ⟨x43, hx43, hF⟩ := hF
        refine x_seq <| x_region <| p (yl_field0 fld_187_1 rfl) <| pa (at_load one_3 rfl (hS.cell rfl)) <|
          p (yl_field0 fld_81_1 rfl) <| pa (at_load one_3 rfl ((hS.pull 1).cell rfl)) <| p (ysub rfl rfl hx43) <| p (yl_eql rfl rfl) <|
          p (yl_assign rfl) <| x_done <|
          ?_
        have e_ := Option.some.inj (show some _ = some _ from hF); subst e_
        exact x_return ⟨_, ⟨_, _, rfl, rfl, rfl⟩, rfl, hS.drop.drop⟩
      · replace hF := it_f hc37 hF
        refine x_seq <| x_region <| p (yl_eql rfl rfl) <| p (yl_assign rfl) <|
          x_done <|
          x_cond_p (p1.Side = 2) rfl (fun hc45 => ?_) (fun hc45 => ?_)
        · replace hF := it_t hc45 hF
          replace hF := ar_s hF; obtain ⟨x51, hx51, hF⟩ := hF
          refine x_seq <| x_region <| p (yl_field0 fld_187_0 rfl) <| pa (at_load one_3 rfl (hS.cell rfl)) <|
            p (yl_field0 fld_81_0 rfl) <| pa (at_load one_3 rfl ((hS.pull 1).cell rfl)) <| p (ysub rfl rfl hx51) <| p (yl_eql rfl rfl) <|
            p (yl_assign rfl) <| x_done <|
            ?_
          have e_ := Option.some.inj (show some _ = some _ from hF); subst e_
          exact x_return ⟨_, ⟨_, _, rfl, rfl, rfl⟩, rfl, hS.drop.drop⟩
        · replace hF := it_f hc45 hF
          refine x_seq <| x_region <| p (yl_eql rfl rfl) <| p (yl_assign rfl) <|
            x_done <|
            x_cond_p (p1.Side = 3) rfl (fun hc53 => ?_) (fun hc53 => ?_)
          · replace hF := it_t hc53 hF
            refine x_seq <| x_region <| p (yl_field0 fld_187_1 rfl) <| pa (at_load one_3 rfl (hS.cell rfl)) <|
              p (yl_eql rfl rfl) <| p (yl_assign rfl) <| x_done <|
              ?_
            have e_ := Option.some.inj (show some _ = some _ from hF); subst e_
            exact x_return ⟨_, ⟨_, _, rfl, rfl, rfl⟩, rfl, hS.drop.drop⟩
          · replace hF := it_f hc53 hF
            refine x_skip <| x_blk <| x_seq <| x_region <|
              p (yl_assign rfl) <| x_done <|
              ?_
            have e_ := Option.some.inj (show some _ = some _ from hF); subst e_
            exact x_return ⟨_, ⟨_, _, rfl, rfl, rfl⟩, rfl, hS.drop.drop⟩
attribute [irreducible] P_array_border


end Go.Proofs.Ytnooiajahmichaa.X
