/- Printed by gen.py: plain functions, and that the Go code computes them. -/
import Derived.Test.YtnooiajahmichaaYR
import Derived.Test.YtnooiajahmichaaXTS
import Derived.Test.YtnooiajahmichaaGSp0
namespace Go.Proofs.Ytnooiajahmichaa.X
open Go Go.RowKit
set_option linter.unusedVariables false
set_option linter.unusedSimpArgs false

def P_maskmake_Stream_Config_L21u4 (s0 : T_maskmake_Stream) (q8 : (Int × Int)) : (Int × Int × List Int) → Option ((Int × Int × List Int) ⊕ (Int × List Int)) := fun (q4, q2, q3) =>
  if q4 < q8.1 then
    bd (P_maskmake_Stream_Pick (T_maskmake_Stream.mk s0.L q2) ([0, 1, 2, 6, 3] : List Int)) fun q5 =>
    bd (
      if q5.1 = 3 then
        some (2 : Int)
      else
        some q5.1) fun q9 =>
    bd (P_maskmake_Stream_Pick (T_maskmake_Stream.mk s0.L q5.2) ([0, 2] : List Int)) fun q6 =>
    lv (q3 ++ [q6.1]) fun q7 =>
    ck (apOk 8 q7.length) <|
    ar (q4 + 1) fun x106u4 =>
    some (Sum.inl (x106u4, q6.2, q7))
  else
    some (Sum.inr (q2, q3))
def P_maskmake_Stream_Config_L21u3 (s0 : T_maskmake_Stream) (q8 : (Int × Int)) : (Int × Int × List Int) → Option ((Int × Int × List Int) ⊕ (Int × List Int)) := fun (q4, q2, q3) =>
  if q4 < q8.1 then
    bd (P_maskmake_Stream_Pick (T_maskmake_Stream.mk s0.L q2) ([0, 1, 2, 6, 3] : List Int)) fun q5 =>
    bd (
      if q5.1 = 4 then
        some (2 : Int)
      else
        some q5.1) fun q7 =>
    lv (q3 ++ [q7]) fun q6 =>
    ck (apOk 8 q6.length) <|
    ar (q4 + 1) fun x106u3 =>
    some (Sum.inl (x106u3, q5.2, q6))
  else
    some (Sum.inr (q2, q3))
def P_maskmake_Stream_Config_L21u2 (s0 : T_maskmake_Stream) (q8 : (Int × Int)) : (Int × Int × List Int) → Option ((Int × Int × List Int) ⊕ (Int × List Int)) := fun (q4, q2, q3) =>
  if q4 < q8.1 then
    bd (P_maskmake_Stream_Pick (T_maskmake_Stream.mk s0.L q2) ([0, 1, 2, 6, 3] : List Int)) fun q5 =>
    bd (
      if q5.1 = 5 then
        some (2 : Int)
      else
        some q5.1) fun q7 =>
    lv (q3 ++ [q7]) fun q6 =>
    ck (apOk 8 q6.length) <|
    ar (q4 + 1) fun x106u2 =>
    some (Sum.inl (x106u2, q5.2, q6))
  else
    some (Sum.inr (q2, q3))
def P_maskmake_Stream_Config_L21u1 (s0 : T_maskmake_Stream) (q8 : (Int × Int)) : (Int × Int × List Int) → Option ((Int × Int × List Int) ⊕ (Int × List Int)) := fun (q4, q2, q3) =>
  if q4 < q8.1 then
    bd (P_maskmake_Stream_Pick (T_maskmake_Stream.mk s0.L q2) ([0, 1, 2, 6, 3] : List Int)) fun q5 =>
    bd (
      if q5.1 = 6 then
        some (2 : Int)
      else
        some q5.1) fun q9 =>
    bd (P_maskmake_Stream_Pick (T_maskmake_Stream.mk s0.L q5.2) ([0, 2] : List Int)) fun q6 =>
    lv (q3 ++ [q6.1]) fun q7 =>
    ck (apOk 8 q7.length) <|
    ar (q4 + 1) fun x106u1 =>
    some (Sum.inl (x106u1, q6.2, q7))
  else
    some (Sum.inr (q2, q3))
def P_maskmake_Stream_Config_L3 (s0 : T_maskmake_Stream) (q2 : (Int × Int)) (x20 : Int) : (Int × Int × List T_array_Tile) → Option ((Int × Int × List T_array_Tile) ⊕ (Int × List T_array_Tile)) := fun (q0t, q7, q0c) =>
  if q0t < x20 then
    bd (P_maskmake_Stream_Next (T_maskmake_Stream.mk s0.L q7) 65536) fun q1j =>
    lv (q1j.1 % 65536) fun x25 =>
    bd (P_maskmake_Stream_Flip (T_maskmake_Stream.mk s0.L q1j.2) 2) fun q1k =>
    bd (P_maskmake_Stream_Next (T_maskmake_Stream.mk s0.L q1k.2) 5) fun q3 =>
    bd (
      if q3.1 = 0 then
        ar ((4 : Int) * q2.1) fun x39u4 =>
        ar ((1 : Int) + x39u4) fun x40u4 =>
        some (q3.2, x40u4)
      else
        bd (
          if q3.1 = 1 then
            some (decide (q3.1 = 1))
          else
            some (decide (q3.1 = 2))) fun q1e =>
        bd (
          if q1e = true then
            ar ((3 : Int) * q2.1) fun x49u4 =>
            ar ((1 : Int) + x49u4) fun x50u4 =>
            bd (P_maskmake_Stream_Next (T_maskmake_Stream.mk s0.L q3.2) q2.1) fun q0u =>
            ar (x50u4 + q0u.1) fun x55u4 =>
            some (q0u.2, x55u4)
          else
            bd (
              if q3.1 = 3 then
                ar ((0 : Int) * q2.1) fun x63u4 =>
                ar ((1 : Int) + x63u4) fun x64u4 =>
                bd (P_maskmake_Stream_Next (T_maskmake_Stream.mk s0.L q3.2) q2.1) fun q0v =>
                ar (x64u4 + q0v.1) fun x69u4 =>
                some (q0v.2, x69u4)
              else
                some (q3.2, (0 : Int))) fun (q0d, q12) =>
            some (q0d, q12)) fun (q8, q0e) =>
        some (q8, q0e)) fun (q0f, q13) =>
    bd (P_maskmake_Stream_Next (T_maskmake_Stream.mk s0.L q0f) 5) fun q4 =>
    bd (
      if q4.1 = 0 then
        ar ((4 : Int) * q2.1) fun x39u3 =>
        ar ((1 : Int) + x39u3) fun x40u3 =>
        some (q4.2, x40u3)
      else
        bd (
          if q4.1 = 1 then
            some (decide (q4.1 = 1))
          else
            some (decide (q4.1 = 2))) fun q1f =>
        bd (
          if q1f = true then
            ar ((3 : Int) * q2.1) fun x49u3 =>
            ar ((1 : Int) + x49u3) fun x50u3 =>
            bd (P_maskmake_Stream_Next (T_maskmake_Stream.mk s0.L q4.2) q2.1) fun q0w =>
            ar (x50u3 + q0w.1) fun x55u3 =>
            some (q0w.2, x55u3)
          else
            bd (
              if q4.1 = 3 then
                ar ((0 : Int) * q2.1) fun x63u3 =>
                ar ((1 : Int) + x63u3) fun x64u3 =>
                bd (P_maskmake_Stream_Next (T_maskmake_Stream.mk s0.L q4.2) q2.1) fun q0x =>
                ar (x64u3 + q0x.1) fun x69u3 =>
                some (q0x.2, x69u3)
              else
                some (q4.2, (0 : Int))) fun (q0g, q14) =>
            some (q0g, q14)) fun (q9, q0h) =>
        some (q9, q0h)) fun (q0i, q15) =>
    bd (P_maskmake_Stream_Next (T_maskmake_Stream.mk s0.L q0i) 5) fun q5 =>
    bd (
      if q5.1 = 0 then
        ar ((4 : Int) * q2.1) fun x39u2 =>
        ar ((1 : Int) + x39u2) fun x40u2 =>
        some (q5.2, x40u2)
      else
        bd (
          if q5.1 = 1 then
            some (decide (q5.1 = 1))
          else
            some (decide (q5.1 = 2))) fun q1g =>
        bd (
          if q1g = true then
            ar ((3 : Int) * q2.1) fun x49u2 =>
            ar ((1 : Int) + x49u2) fun x50u2 =>
            bd (P_maskmake_Stream_Next (T_maskmake_Stream.mk s0.L q5.2) q2.1) fun q0y =>
            ar (x50u2 + q0y.1) fun x55u2 =>
            some (q0y.2, x55u2)
          else
            bd (
              if q5.1 = 3 then
                ar ((0 : Int) * q2.1) fun x63u2 =>
                ar ((1 : Int) + x63u2) fun x64u2 =>
                bd (P_maskmake_Stream_Next (T_maskmake_Stream.mk s0.L q5.2) q2.1) fun q0z =>
                ar (x64u2 + q0z.1) fun x69u2 =>
                some (q0z.2, x69u2)
              else
                some (q5.2, (0 : Int))) fun (q0j, q16) =>
            some (q0j, q16)) fun (q0a, q0k) =>
        some (q0a, q0k)) fun (q0l, q17) =>
    bd (P_maskmake_Stream_Next (T_maskmake_Stream.mk s0.L q0l) 5) fun q6 =>
    bd (
      if q6.1 = 0 then
        ar ((4 : Int) * q2.1) fun x39u1 =>
        ar ((1 : Int) + x39u1) fun x40u1 =>
        some (q6.2, x40u1)
      else
        bd (
          if q6.1 = 1 then
            some (decide (q6.1 = 1))
          else
            some (decide (q6.1 = 2))) fun q1h =>
        bd (
          if q1h = true then
            ar ((3 : Int) * q2.1) fun x49u1 =>
            ar ((1 : Int) + x49u1) fun x50u1 =>
            bd (P_maskmake_Stream_Next (T_maskmake_Stream.mk s0.L q6.2) q2.1) fun q10 =>
            ar (x50u1 + q10.1) fun x55u1 =>
            some (q10.2, x55u1)
          else
            bd (
              if q6.1 = 3 then
                ar ((0 : Int) * q2.1) fun x63u1 =>
                ar ((1 : Int) + x63u1) fun x64u1 =>
                bd (P_maskmake_Stream_Next (T_maskmake_Stream.mk s0.L q6.2) q2.1) fun q11 =>
                ar (x64u1 + q11.1) fun x69u1 =>
                some (q11.2, x69u1)
              else
                some (q6.2, (0 : Int))) fun (q0m, q18) =>
            some (q0m, q18)) fun (q0b, q0n) =>
        some (q0b, q0n)) fun (q0o, q19) =>
    bd (
      lp (P_maskmake_Stream_Config_L21u4 s0 q2) fuel (0, q0o, [])) fun (q0p, q1a) =>
    bd (
      lp (P_maskmake_Stream_Config_L21u3 s0 q2) fuel (0, q0p, [])) fun (q0q, q1b) =>
    bd (
      lp (P_maskmake_Stream_Config_L21u2 s0 q2) fuel (0, q0q, [])) fun (q0r, q1c) =>
    bd (
      lp (P_maskmake_Stream_Config_L21u1 s0 q2) fuel (0, q0r, [])) fun (q0s, q1d) =>
    lv (q0c ++ [(T_array_Tile.mk x25 q1k.1 (T_anon180.mk q13 q15 q17 q19) (T_anon181.mk q1a q1b q1c q1d))]) fun q1i =>
    ck (apOk 136 q1i.length) <|
    ar (q0t + 1) fun x114 =>
    some (Sum.inl (x114, q0s, q1i))
  else
    some (Sum.inr (q7, q0c))
def P_maskmake_Stream_Config_L33 (s0 : T_maskmake_Stream) (q0a : (Int × Int)) (q0b : (Int × Int)) (q0c : (Int × Int)) : (Int × Int × List T_array_Pad × List T_array_Pad) → Option ((Int × Int × List T_array_Pad × List T_array_Pad) ⊕ (Int × List T_array_Pad × List T_array_Pad)) := fun (q2, q3, q4, q5) =>
  if q2 < q0c.1 then
    bd (P_maskmake_Stream_Next (T_maskmake_Stream.mk s0.L q3) q0a.1) fun q7 =>
    lv (q4 ++ [(T_array_Pad.mk q7.1 0 3 q2)]) fun q8 =>
    ck (apOk 32 q8.length) <|
    bd (P_maskmake_Stream_Next (T_maskmake_Stream.mk s0.L q7.2) q0a.1) fun q9 =>
    ar (q0b.1 - 1) fun x139 =>
    lv (q5 ++ [(T_array_Pad.mk q9.1 x139 1 q2)]) fun q6 =>
    ck (apOk 32 q6.length) <|
    ar (q2 + 1) fun x145 =>
    some (Sum.inl (x145, q9.2, q8, q6))
  else
    some (Sum.inr (q3, q4, q5))
def P_maskmake_Stream_Config (s0 : T_maskmake_Stream) : Option (T_array_Config × Int) :=
  bd (P_maskmake_Stream_Range s0 1 3) fun q6 =>
  bd (P_maskmake_Stream_Range (T_maskmake_Stream.mk s0.L q6.2) 1 3) fun q2 =>
  bd (P_maskmake_Stream_Range (T_maskmake_Stream.mk s0.L q2.2) 2 3) fun q3 =>
  ar (q6.1 * q2.1) fun x20 =>
  bd (
    lp (P_maskmake_Stream_Config_L3 s0 q3 x20) fuel (0, q3.2, [])) fun (q9, q0f) =>
  bd (
    lp (P_maskmake_Stream_Config_L33 s0 q6 q2 q3) fuel (0, q9, [], [])) fun (q7, q4, q0c) =>
  bd (P_maskmake_Stream_Flip (T_maskmake_Stream.mk s0.L q7) 2) fun q8 =>
  bd (
    if q8.1 = true then
      bd (P_maskmake_Stream_Next (T_maskmake_Stream.mk s0.L q8.2) q2.1) fun q0d =>
      bd (P_maskmake_Stream_Next (T_maskmake_Stream.mk s0.L q0d.2) q3.1) fun q0e =>
      lv (q4 ++ [(T_array_Pad.mk 0 q0d.1 0 q0e.1)]) fun q0a =>
      ck (apOk 32 q0a.length) <|
      some (q0a, q0e.2)
    else
      some (q4, q8.2)) fun (q0b, q5) =>
  some ((T_array_Config.mk q6.1 q2.1 q3.1 q0f q0b q0c), q5)
set_option maxHeartbeats 4000000 in
set_option maxRecDepth 100000 in
theorem c_maskmake_Stream_Config {w0 w : World} {l : List Assn} {ρ : Heap} {q5 : Nat} {q7 : Option Addr} {qc1 : Nat} {c_s0_0 : Nat} {s0 : T_maskmake_Stream} {r : (T_array_Config × Int)} (hF : P_maskmake_Stream_Config s0 = some r) (q0w : RdS (RpI .i64) ρ q7 qc1 c_s0_0 s0.L) (hS : St w0 w (cells q5 25 [.slice q7 qc1 c_s0_0, .int .i64 s0.fat] :: ro ρ :: l)) :
    Calls Try.prog 36 #[.pointer (some ⟨q5, 0, none⟩)] w fun e w' => ∃ (ρ' : Heap) (qbm : Option Addr) (q7v : Nat) (c_y0_ret_3 : Nat) (qb2 : List Value) (qbn : Option Addr) (q7w : Nat) (c_y0_ret_4 : Nat) (qb3 : List Value) (qbo : Option Addr) (q7x : Nat) (c_y0_ret_5 : Nat) (qb4 : List Value), e = .returned (.agg #[.int .i64 r.1.Rows, .int .i64 r.1.Cols, .int .i64 r.1.Tracks, .slice qbm q7v c_y0_ret_3, .slice qbn q7w c_y0_ret_4, .slice qbo q7x c_y0_ret_5]) ∧ Le ρ ρ' ∧ RepL R_array_Tile ρ' r.1.Tiles qb2 ∧ RepL R_array_Pad ρ' r.1.In qb3 ∧ RepL R_array_Pad ρ' r.1.Out qb4 ∧ St w0 w' (vec 183 R_array_Tile.sz (.slice qbm q7v c_y0_ret_3) q7v qb2 :: vec 187 R_array_Pad.sz (.slice qbn q7w c_y0_ret_4) q7w qb3 :: vec 187 R_array_Pad.sz (.slice qbo q7x c_y0_ret_5) q7x qb4 :: cells q5 25 [.slice q7 qc1 c_s0_0, .int .i64 r.2] :: ro ρ' :: l) := by
  have e_ := q0w.n; subst e_
  refine enterC Try.func36 rfl 163 rfl (by simp) ?_
  refine x_seq <| x_region <|
    ?_
  refine o_alloc zero_81 hS (fun b2 w' hS => ?_)
  replace hF := bd_s hF; obtain ⟨q0b, qhn, hF⟩ := hF
  refine x_done <| x_seq <| x_region <| p (yl_move rfl) <|
    ?_
  have hcall := c_maskmake_Stream_Range qhn q0w ((hS.pull 2).pull 2)
  refine o_cc call_14 (args3 rfl rfl rfl) hcall ?_
  rintro e w' ⟨rfl, hS⟩
  refine ⟨_, rfl, ?_⟩
  replace hF := bd_s hF; obtain ⟨q0c, qho, hF⟩ := hF
  refine p (yl_move rfl) <|
    ?_
  have hcall := c_maskmake_Stream_Range qho q0w ((hS.pull 1).pull 1)
  refine o_cc call_14 (args3 rfl rfl rfl) hcall ?_
  rintro e w' ⟨rfl, hS⟩
  refine ⟨_, rfl, ?_⟩
  replace hF := bd_s hF; obtain ⟨q4, qhp, hF⟩ := hF
  refine p (yl_move rfl) <|
    ?_
  have hcall := c_maskmake_Stream_Range qhp q0w ((hS.pull 1).pull 1)
  refine o_cc call_14 (args3 rfl rfl rfl) hcall ?_
  rintro e w' ⟨rfl, hS⟩
  refine ⟨_, rfl, ?_⟩
  refine p (v := .agg #[.int .i64 q0b.1, .int .i64 q0c.1, .int .i64 q4.1, .slice none 0 0, .slice none 0 0, .slice none 0 0]) (yl_build bld_81 bldf_81 (parts_eq (pt (va := .int .i64 q0b.1) rfl (pt (va := .int .i64 q0c.1) rfl (pt (va := .int .i64 q4.1) rfl pt0)))) (by kernel_rfl)) <|
    ?_
  refine o_alloc zero_81 hS (fun b3 w' hS => ?_)
  refine o_storeAgg (news := [.int .i64 q0b.1, .int .i64 q0c.1, .int .i64 q4.1, .slice none 0 0, .slice none 0 0, .slice none 0 0]) agg_81 rfl rfl rfl (by simp [over_length]) hS (fun w' hS => ?_)
  replace hF := ar_s hF; obtain ⟨x20, hx20, hF⟩ := hF
  refine x_done <| x_seq <| x_seq <| x_region <|
    p (yl_field0 fld_81_0 rfl) <| pa (at_load one_3 rfl (hS.cell rfl)) <| p (yl_field0 fld_81_1 rfl) <| pa (at_load one_3 rfl (hS.cell rfl)) <|
    p (ymul rfl rfl hx20) <| p (yl_move rfl) <| x_done <|
    ?_
  replace hF := bd_s hF; obtain ⟨oL3, hLL3, hF⟩ := hF
  refine x_join (fun E w => ∃ (q10 : Heap) (q0g : Option Addr) (q78 : Nat) (c_b3_3_L3 : Nat) (q18 : List Value) (q79 : Int) (q0i : List T_array_Tile), (q79, q0i) = oL3 ∧ Le ρ q10 ∧ E 0 = .pointer (some ⟨q5, 0, none⟩) ∧ E 2 = .pointer (some ⟨b2, 0, none⟩) ∧ E 3 = .pointer (some ⟨b3, 0, none⟩) ∧ RepL R_array_Tile q10 q0i q18 ∧ St w0 w (cells q5 25 [.slice q7 s0.L.length c_s0_0, .int .i64 q79] :: cells b2 81 [.int .i64 0, .int .i64 0, .int .i64 0, .slice none 0 0, .slice none 0 0, .slice none 0 0] :: cells b3 81 [.int .i64 q0b.1, .int .i64 q0c.1, .int .i64 q4.1, .slice q0g q78 c_b3_3_L3, .slice none 0 0, .slice none 0 0] :: vec 183 R_array_Tile.sz (.slice q0g q78 c_b3_3_L3) q78 q18 :: ro q10 :: l)) ?_ ?_
  · skip -- L3
    refine x_block ?_
    replace hS := St.vec_nil hS 183 R_array_Tile.sz
    have qbp : RepL R_array_Tile ρ [] [] := rfl
    refine x_loop (fun k_ E w => ∃ (q0a : Heap) (q3 : Option Addr) (q41 : Nat) (c_b3_3_L3h : Nat) (q9 : List Value) (q0s : Int) (q42 : Int) (q2 : List T_array_Tile), lp (P_maskmake_Stream_Config_L3 s0 q4 x20) k_ (q0s, q42, q2) = some oL3 ∧ Le ρ q0a ∧ E 0 = .pointer (some ⟨q5, 0, none⟩) ∧ E 2 = .pointer (some ⟨b2, 0, none⟩) ∧ E 3 = .pointer (some ⟨b3, 0, none⟩) ∧ E 20 = .int .i64 x20 ∧ E 21 = .int .i64 q0s ∧ RepL R_array_Tile q0a q2 q9 ∧ St w0 w (cells q5 25 [.slice q7 s0.L.length c_s0_0, .int .i64 q42] :: cells b2 81 [.int .i64 0, .int .i64 0, .int .i64 0, .slice none 0 0, .slice none 0 0, .slice none 0 0] :: cells b3 81 [.int .i64 q0b.1, .int .i64 q0c.1, .int .i64 q4.1, .slice q3 q41 c_b3_3_L3h, .slice none 0 0, .slice none 0 0] :: vec 183 R_array_Tile.sz (.slice q3 q41 c_b3_3_L3h) q41 q9 :: ro q0a :: l)) fuel ⟨ρ, none, 0, 0, [], 0, q4.2, [], hLL3, (Le.refl _), rfl, rfl, rfl, rfl, rfl, qbp, (((((hS.pull 3).pull 1).pull 2).pull 4).pull 4)⟩ ?_
    rintro kL3 E w ⟨q0a, q3, q41, c_b3_3_L3h, q9, q0s, q42, q2, hLL3, q0v, q6s, qbq, q8v, qa3, qa4, q7y, hS⟩
    have e_ := St.vec_n (hS.pull 3) q7y; subst e_
    replace hLL3 := lp_s hLL3; obtain ⟨kL3, obL3, rfl, hFL3, hLL3⟩ := hLL3
    refine x_seq <| x_region <| p (yl_lss qa4 qa3) <| x_done <|
      x_seq <|
      x_cond_p (q0s < x20) rfl (fun hc22 => ?_) (fun hc22 => ?_)
    · replace hFL3 := it_t hc22 hFL3
      replace hFL3 := bd_s hFL3; obtain ⟨qi3, qhq, hFL3⟩ := hFL3
      refine x_skip <| x_seq <| x_block <| x_seq <|
        x_region <| p (yl_move q6s) <|
        ?_
      have hcall := c_maskmake_Stream_Next qhq (q0w.le q0v) ((hS.pull 4).pull 1)
      refine o_cc call_15 (args2 rfl rfl) hcall ?_
      rintro e w' ⟨rfl, hS⟩
      refine ⟨_, rfl, ?_⟩
      replace hFL3 := lv_s hFL3; obtain ⟨x25, hx25, hFL3⟩ := hFL3
      replace hFL3 := bd_s hFL3; obtain ⟨q0j, qhr, hFL3⟩ := hFL3
      refine p (yconvu wm_u16 uk_3 ik_179 rfl hx25) <| p (yl_move q6s) <|
        ?_
      have hcall := c_maskmake_Stream_Flip qhr (q0w.le q0v) ((hS.pull 1).pull 1)
      refine o_cc call_75 (args2 rfl rfl) hcall ?_
      rintro e w' ⟨rfl, hS⟩
      refine ⟨_, rfl, ?_⟩
      refine p (v := .agg #[.int .u16 x25, .bool q0j.1, .int .i64 0, .int .i64 0, .int .i64 0, .int .i64 0, .slice none 0 0, .slice none 0 0, .slice none 0 0, .slice none 0 0]) (yl_build bld_183 bldf_183 (parts_eq (pt (va := .int .u16 x25) rfl (pt (va := .bool q0j.1) rfl pt0))) (by kernel_rfl)) <|
        ?_
      refine o_alloc zero_183 hS (fun b4 w' hS => ?_)
      refine o_storeAgg (news := [.int .u16 x25, .bool q0j.1, .int .i64 0, .int .i64 0, .int .i64 0, .int .i64 0, .slice none 0 0, .slice none 0 0, .slice none 0 0, .slice none 0 0]) agg_183 rfl rfl rfl (by simp [over_length]) hS (fun w' hS => ?_)
      replace hFL3 := bd_s hFL3; obtain ⟨q1r, qh1, hFL3⟩ := hFL3
      refine x_done <| x_seq <| x_seq <| x_region <|
        p (yl_move rfl) <| x_done <| x_block <| x_unroll 4 <|
        x_seq <| x_region <| p (ylss_l (t := true) rfl rfl (by decide)) <| x_done <|
        x_seq <| x_cond_t (show ev _ _ = .bool true from rfl) <| x_skip <| x_seq <|
        x_block <| x_seq <| x_region <| p (yl_move rfl) <|
        p (yl_assign rfl) <| x_done <| x_seq <| x_region <|
        p (yl_move q6s) <|
        ?_
      have hcall := c_maskmake_Stream_Next qh1 (q0w.le q0v) ((hS.pull 2).pull 2)
      refine o_cc call_15 (args2 rfl rfl) hcall ?_
      rintro e w' ⟨rfl, hS⟩
      refine ⟨_, rfl, ?_⟩
      refine x_done <| x_block <| x_seq <| x_region <|
        p (yl_eql rfl rfl) <| p (yl_assign rfl) <| x_done <|
        ?_
      replace hFL3 := bd_s hFL3; obtain ⟨oc34u4, hFc34u4, hFL3⟩ := hFL3
      refine x_join (fun E w => ∃ (q6t : Int) (q6 : Int), (q6t, q6) = oc34u4 ∧ E 0 = .pointer (some ⟨q5, 0, none⟩) ∧ E 2 = .pointer (some ⟨b2, 0, none⟩) ∧ E 3 = .pointer (some ⟨b3, 0, none⟩) ∧ E 4 = .pointer (some ⟨b4, 0, none⟩) ∧ E 20 = .int .i64 x20 ∧ E 21 = .int .i64 q0s ∧ E 29 = .int .i64 0 ∧ St w0 w (cells q5 25 [.slice q7 s0.L.length c_s0_0, .int .i64 q6t] :: cells b2 81 [.int .i64 0, .int .i64 0, .int .i64 0, .slice none 0 0, .slice none 0 0, .slice none 0 0] :: cells b3 81 [.int .i64 q0b.1, .int .i64 q0c.1, .int .i64 q4.1, .slice q3 q2.length c_b3_3_L3h, .slice none 0 0, .slice none 0 0] :: cells b4 183 [.int .u16 x25, .bool q0j.1, .int .i64 q6, .int .i64 0, .int .i64 0, .int .i64 0, .slice none 0 0, .slice none 0 0, .slice none 0 0, .slice none 0 0] :: vec 183 R_array_Tile.sz (.slice q3 q2.length c_b3_3_L3h) q2.length q9 :: ro q0a :: l)) ?_ ?_
      · skip -- c34u4
        refine x_cond_p (q1r.1 = 0) rfl (fun hc34u4 => ?_) (fun hc34u4 => ?_)
        · replace hFc34u4 := it_t hc34u4 hFc34u4
          replace hFc34u4 := ar_s hFc34u4; obtain ⟨x39u4, hx39u4, hFc34u4⟩ := hFc34u4
          replace hFc34u4 := ar_s hFc34u4; obtain ⟨x40u4, hx40u4, hFc34u4⟩ := hFc34u4
          refine x_region <| p (yl_move rfl) <| p (yl_field0 fld_81_2 q8v) <| pa (at_load one_3 rfl ((hS.pull 4).cell rfl)) <|
            p (ymul rfl rfl hx39u4) <| p (yadd rfl rfl hx40u4) <| p (yl_field0 fld_183_2 rfl) <| p (yl_ixa (x := .tmp 41) (y := .tmp 36) (q := 2) arr_180 rfl rfl (by decide) rfl) <|
            ?_
          refine o_store1 (v := .int .i64 x40u4) one_3 rfl rfl rfl rfl (hS.pull 2) (fun w' hS => ?_)
          refine x_done <|
            ?_
          exact x_inv ⟨q1r.2, x40u4, (Option.some.inj (show some _ = some _ from hFc34u4)), q6s, qbq, q8v, rfl, qa3, qa4, rfl, ((((((hS.pull 2).pull 5).pull 2).pull 5).pull 5).pull 5)⟩
        · replace hFc34u4 := it_f hc34u4 hFc34u4
          refine x_seq <| x_seq <| x_region <| p (yl_eql rfl rfl) <|
            p (yl_assign rfl) <| x_done <|
            ?_
          replace hFc34u4 := bd_s hFc34u4; obtain ⟨oc43u4, hFc43u4, hFc34u4⟩ := hFc34u4
          refine x_join (fun E w => ∃ (q7a : Bool), q7a = oc43u4 ∧ E 0 = .pointer (some ⟨q5, 0, none⟩) ∧ E 2 = .pointer (some ⟨b2, 0, none⟩) ∧ E 3 = .pointer (some ⟨b3, 0, none⟩) ∧ E 4 = .pointer (some ⟨b4, 0, none⟩) ∧ E 5 = .int .i64 0 ∧ E 20 = .int .i64 x20 ∧ E 21 = .int .i64 q0s ∧ E 29 = .int .i64 0 ∧ E 33 = .int .i64 q1r.1 ∧ E 43 = .bool q7a ∧ St w0 w (cells q5 25 [.slice q7 s0.L.length c_s0_0, .int .i64 q1r.2] :: cells b2 81 [.int .i64 0, .int .i64 0, .int .i64 0, .slice none 0 0, .slice none 0 0, .slice none 0 0] :: cells b3 81 [.int .i64 q0b.1, .int .i64 q0c.1, .int .i64 q4.1, .slice q3 q2.length c_b3_3_L3h, .slice none 0 0, .slice none 0 0] :: cells b4 183 [.int .u16 x25, .bool q0j.1, .int .i64 0, .int .i64 0, .int .i64 0, .int .i64 0, .slice none 0 0, .slice none 0 0, .slice none 0 0, .slice none 0 0] :: vec 183 R_array_Tile.sz (.slice q3 q2.length c_b3_3_L3h) q2.length q9 :: ro q0a :: l)) ?_ ?_
          · skip -- c43u4
            refine x_cond_p (q1r.1 = 1) rfl (fun hc43u4 => ?_) (fun hc43u4 => ?_)
            · replace hFc43u4 := it_t hc43u4 hFc43u4
              refine x_skip <|
                ?_
              exact x_inv ⟨decide (q1r.1 = 1), (Option.some.inj (show some _ = some _ from hFc43u4)), q6s, qbq, q8v, rfl, rfl, qa3, qa4, rfl, rfl, rfl, ((((((hS.pull 1).pull 5).pull 3).pull 5).pull 5).pull 5)⟩
            · replace hFc43u4 := it_f hc43u4 hFc43u4
              refine x_region <| p (yl_eql rfl rfl) <| p (yl_assign rfl) <| x_done <|
                ?_
              exact x_inv ⟨decide (q1r.1 = 2), (Option.some.inj (show some _ = some _ from hFc43u4)), q6s, qbq, q8v, rfl, rfl, qa3, qa4, rfl, rfl, rfl, ((((((hS.pull 1).pull 5).pull 3).pull 5).pull 5).pull 5)⟩
          rintro E w ⟨q7a, rfl, q6u, qb6, q2j, q6v, qc2, q8w, q8x, q8y, qda, qdb, hS⟩
          replace hFc34u4 := bd_s hFc34u4; obtain ⟨qex, q0m, hFc34u4⟩ := hFc34u4
          refine x_join (fun E w => ∃ (q26 : Int) (q2o : Int), (q26, q2o) = qex ∧ E 0 = .pointer (some ⟨q5, 0, none⟩) ∧ E 2 = .pointer (some ⟨b2, 0, none⟩) ∧ E 3 = .pointer (some ⟨b3, 0, none⟩) ∧ E 4 = .pointer (some ⟨b4, 0, none⟩) ∧ E 20 = .int .i64 x20 ∧ E 21 = .int .i64 q0s ∧ E 29 = .int .i64 0 ∧ St w0 w (cells q5 25 [.slice q7 s0.L.length c_s0_0, .int .i64 q26] :: cells b2 81 [.int .i64 0, .int .i64 0, .int .i64 0, .slice none 0 0, .slice none 0 0, .slice none 0 0] :: cells b3 81 [.int .i64 q0b.1, .int .i64 q0c.1, .int .i64 q4.1, .slice q3 q2.length c_b3_3_L3h, .slice none 0 0, .slice none 0 0] :: cells b4 183 [.int .u16 x25, .bool q0j.1, .int .i64 q2o, .int .i64 0, .int .i64 0, .int .i64 0, .slice none 0 0, .slice none 0 0, .slice none 0 0, .slice none 0 0] :: vec 183 R_array_Tile.sz (.slice q3 q2.length c_b3_3_L3h) q2.length q9 :: ro q0a :: l)) ?_ ?_
          · skip -- qhw
            refine x_cond (t := q7a) qdb (fun hc43u4 => ?_) (fun hc43u4 => ?_)
            · replace q0m := it_t hc43u4 q0m
              replace q0m := ar_s q0m; obtain ⟨x49u4, hx49u4, q0m⟩ := q0m
              replace q0m := ar_s q0m; obtain ⟨x50u4, hx50u4, q0m⟩ := q0m
              replace q0m := bd_s q0m; obtain ⟨q49, qey, q0m⟩ := q0m
              replace q0m := ar_s q0m; obtain ⟨x55u4, hx55u4, q0m⟩ := q0m
              refine x_par (w0 := w0) [⟨[], [], [46], [], [], []⟩, ⟨[], [], [47], [], [], []⟩, ⟨[1], [1], [48], [0], [], []⟩, ⟨[1, 2], [2], [49], [], [], []⟩, ⟨[1, 2, 3], [3], [50], [], [], []⟩, ⟨[], [], [51], [], [], []⟩, ⟨[], [], [52], [], [], []⟩, ⟨[6], [6], [53], [0], [], []⟩, ⟨[5, 6, 7], [5, 7], [54], [2], [1], [3]⟩, ⟨[1, 2, 3, 4, 5, 6, 7, 8], [4, 8], [55], [], [], []⟩, ⟨[], [], [56], [], [], []⟩, ⟨[0, 1, 2, 3, 4, 5, 6, 7, 8, 9, 10], [0, 10], [57], [], [], []⟩, ⟨[0, 1, 2, 3, 4, 5, 6, 7, 8, 9, 10, 11], [9, 11], [], [], [4], [5]⟩] [⟨none, none, []⟩, ⟨none, (some 8), []⟩, ⟨none, none, []⟩, ⟨(some 8), none, []⟩, ⟨none, (some 12), []⟩, ⟨(some 12), none, []⟩] [46, 47, 48, 49, 50, 51, 52, 53, 54, 55, 56, 57] [0, 1, 2, 4] [0, 2, 3, 5] [0, 1, 2, 3, 4, 5, 6, 7, 8, 9, 10, 11] [fun Ep13u4 => Ep13u4 46 = .int .i64 0, fun Ep13u4 => Ep13u4 47 = .pointer (some ⟨b3, 2, none⟩), fun Ep13u4 => Ep13u4 48 = .int .i64 q4.1, fun Ep13u4 => Ep13u4 49 = .int .i64 x49u4, fun Ep13u4 => Ep13u4 50 = .int .i64 x50u4, fun Ep13u4 => Ep13u4 51 = .pointer (some ⟨q5, 0, none⟩), fun Ep13u4 => Ep13u4 52 = .pointer (some ⟨b3, 2, none⟩), fun Ep13u4 => Ep13u4 53 = .int .i64 q4.1, fun Ep13u4 => Ep13u4 54 = .int .i64 q49.1, fun Ep13u4 => Ep13u4 55 = .int .i64 x55u4, fun Ep13u4 => Ep13u4 56 = .pointer (some ⟨b4, 2, none⟩), fun Ep13u4 => Ep13u4 57 = .pointer (some ⟨b4, 2, none⟩), fun Ep13u4 => True] [fun Ep13u4 => cells b3 81 [.int .i64 q0b.1, .int .i64 q0c.1, .int .i64 q4.1, .slice q3 q2.length c_b3_3_L3h, .slice none 0 0, .slice none 0 0], fun Ep13u4 => cells q5 25 [.slice q7 s0.L.length c_s0_0, .int .i64 q1r.2], fun Ep13u4 => ro q0a, fun Ep13u4 => cells q5 25 [.slice q7 s0.L.length c_s0_0, .int .i64 q49.2], fun Ep13u4 => cells b4 183 [.int .u16 x25, .bool q0j.1, .int .i64 0, .int .i64 0, .int .i64 0, .int .i64 0, .slice none 0 0, .slice none 0 0, .slice none 0 0, .slice none 0 0], fun Ep13u4 => cells b4 183 [.int .u16 x25, .bool q0j.1, .int .i64 x55u4, .int .i64 0, .int .i64 0, .int .i64 0, .slice none 0 0, .slice none 0 0, .slice none 0 0, .slice none 0 0]] mixed (by kernel_rfl) ((((hS.pull 3).pull 5).pull 2).pull 4) ?_ ?_
              · refine ⟨?_, ?_, ?_, ?_, ?_, ?_, ?_, ?_, ?_, ?_, ?_, ?_, ?_, trivial⟩
                · intro Ep13u4 w l' hE13u4 hO13u4 hF_ hS
                  refine p (yl_move ((hE13u4 5 rfl).trans qc2)) <| x_done <|
                    ?_
                  refine x_fin ⟨⟨_, rfl⟩, rfl, ?_⟩
                  exact Eq.mp (by kernel_rfl) hS
                · intro Ep13u4 w l' hE13u4 hO13u4 hF_ hS
                  refine p (yl_field0 fld_81_2 ((hE13u4 3 rfl).trans q2j)) <| x_done <|
                    ?_
                  refine x_fin ⟨⟨_, rfl⟩, rfl, ?_⟩
                  exact Eq.mp (by kernel_rfl) hS
                · intro Ep13u4 w l' hE13u4 hO13u4 hF_ hS
                  obtain ⟨q4a, -⟩ := hF_
                  replace q4a : Ep13u4 47 = .pointer (some ⟨b3, 2, none⟩) := Eq.mp (by kernel_rfl) q4a
                  replace hS : St w0 w (cells b3 81 [.int .i64 q0b.1, .int .i64 q0c.1, .int .i64 q4.1, .slice q3 q2.length c_b3_3_L3h, .slice none 0 0, .slice none 0 0] :: l') := Eq.mp (by kernel_rfl) hS
                  refine pa (at_load one_3 q4a (hS.cell rfl)) <| x_done <|
                    ?_
                  refine x_fin ⟨⟨_, rfl⟩, rfl, ?_⟩
                  exact Eq.mp (by kernel_rfl) hS
                · intro Ep13u4 w l' hE13u4 hO13u4 hF_ hS
                  obtain ⟨q4b, -⟩ := hF_
                  replace q4b : Ep13u4 48 = .int .i64 q4.1 := Eq.mp (by kernel_rfl) q4b
                  refine p (ymul rfl q4b hx49u4) <| x_done <|
                    ?_
                  refine x_fin ⟨⟨_, rfl⟩, rfl, ?_⟩
                  exact Eq.mp (by kernel_rfl) hS
                · intro Ep13u4 w l' hE13u4 hO13u4 hF_ hS
                  obtain ⟨q4c, -⟩ := hF_
                  replace q4c : Ep13u4 49 = .int .i64 x49u4 := Eq.mp (by kernel_rfl) q4c
                  refine p (yadd rfl q4c hx50u4) <| x_done <|
                    ?_
                  refine x_fin ⟨⟨_, rfl⟩, rfl, ?_⟩
                  exact Eq.mp (by kernel_rfl) hS
                · intro Ep13u4 w l' hE13u4 hO13u4 hF_ hS
                  refine p (yl_move ((hE13u4 0 rfl).trans q6u)) <| x_done <|
                    ?_
                  refine x_fin ⟨⟨_, rfl⟩, rfl, ?_⟩
                  exact Eq.mp (by kernel_rfl) hS
                · intro Ep13u4 w l' hE13u4 hO13u4 hF_ hS
                  refine p (yl_field0 fld_81_2 ((hE13u4 3 rfl).trans q2j)) <| x_done <|
                    ?_
                  refine x_fin ⟨⟨_, rfl⟩, rfl, ?_⟩
                  exact Eq.mp (by kernel_rfl) hS
                · intro Ep13u4 w l' hE13u4 hO13u4 hF_ hS
                  obtain ⟨q4d, -⟩ := hF_
                  replace q4d : Ep13u4 52 = .pointer (some ⟨b3, 2, none⟩) := Eq.mp (by kernel_rfl) q4d
                  replace hS : St w0 w (cells b3 81 [.int .i64 q0b.1, .int .i64 q0c.1, .int .i64 q4.1, .slice q3 q2.length c_b3_3_L3h, .slice none 0 0, .slice none 0 0] :: l') := Eq.mp (by kernel_rfl) hS
                  refine pa (at_load one_3 q4d (hS.cell rfl)) <| x_done <|
                    ?_
                  refine x_fin ⟨⟨_, rfl⟩, rfl, ?_⟩
                  exact Eq.mp (by kernel_rfl) hS
                · intro Ep13u4 w l' hE13u4 hO13u4 hF_ hS
                  obtain ⟨q4e, q4f, -⟩ := hF_
                  replace q4e : Ep13u4 51 = .pointer (some ⟨q5, 0, none⟩) := Eq.mp (by kernel_rfl) q4e
                  replace q4f : Ep13u4 53 = .int .i64 q4.1 := Eq.mp (by kernel_rfl) q4f
                  replace hS : St w0 w (ro q0a :: cells q5 25 [.slice q7 s0.L.length c_s0_0, .int .i64 q1r.2] :: l') := Eq.mp (by kernel_rfl) hS
                  have hcall := c_maskmake_Stream_Next qey (q0w.le q0v) (hS.pull 1)
                  refine o_cc call_15 (args2 q4e q4f) hcall ?_
                  rintro e w' ⟨rfl, hS⟩
                  refine ⟨_, rfl, ?_⟩
                  refine x_done <|
                    ?_
                  refine x_fin ⟨⟨_, rfl⟩, rfl, ?_⟩
                  exact Eq.mp (by kernel_rfl) (hS.pull 1)
                · intro Ep13u4 w l' hE13u4 hO13u4 hF_ hS
                  obtain ⟨q4g, q4h, -⟩ := hF_
                  replace q4g : Ep13u4 50 = .int .i64 x50u4 := Eq.mp (by kernel_rfl) q4g
                  replace q4h : Ep13u4 54 = .int .i64 q49.1 := Eq.mp (by kernel_rfl) q4h
                  refine p (yadd q4g q4h hx55u4) <| x_done <|
                    ?_
                  refine x_fin ⟨⟨_, rfl⟩, rfl, ?_⟩
                  exact Eq.mp (by kernel_rfl) hS
                · intro Ep13u4 w l' hE13u4 hO13u4 hF_ hS
                  refine p (yl_field0 fld_183_2 ((hE13u4 4 rfl).trans q6v)) <| x_done <|
                    ?_
                  refine x_fin ⟨⟨_, rfl⟩, rfl, ?_⟩
                  exact Eq.mp (by kernel_rfl) hS
                · intro Ep13u4 w l' hE13u4 hO13u4 hF_ hS
                  obtain ⟨q4i, q3a, -⟩ := hF_
                  replace q4i : Ep13u4 46 = .int .i64 0 := Eq.mp (by kernel_rfl) q4i
                  replace q3a : Ep13u4 56 = .pointer (some ⟨b4, 2, none⟩) := Eq.mp (by kernel_rfl) q3a
                  refine p (yl_ixa (x := .tmp 56) (y := .tmp 46) (q := 2) arr_180 q3a q4i (by decide) rfl) <| x_done <|
                    ?_
                  refine x_fin ⟨⟨_, rfl⟩, rfl, ?_⟩
                  exact Eq.mp (by kernel_rfl) hS
                · intro Ep13u4 w l' hE13u4 hO13u4 hF_ hS
                  obtain ⟨q4j, q3b, -⟩ := hF_
                  replace q4j : Ep13u4 55 = .int .i64 x55u4 := Eq.mp (by kernel_rfl) q4j
                  replace q3b : Ep13u4 57 = .pointer (some ⟨b4, 2, none⟩) := Eq.mp (by kernel_rfl) q3b
                  replace hS : St w0 w (cells b4 183 [.int .u16 x25, .bool q0j.1, .int .i64 0, .int .i64 0, .int .i64 0, .int .i64 0, .slice none 0 0, .slice none 0 0, .slice none 0 0, .slice none 0 0] :: l') := Eq.mp (by kernel_rfl) hS
                  refine o_store1 (v := .int .i64 x55u4) one_3 q3b q4j rfl rfl hS (fun w' hS => ?_)
                  refine x_done <|
                    ?_
                  refine x_fin ⟨⟨undef, rfl⟩, trivial, ?_⟩
                  exact Eq.mp (by kernel_rfl) hS
              intro Ep13u4 w' hE13u4 hF_ hS
              obtain ⟨q4i, q4a, q4b, q4c, q4g, q4e, q4d, q4f, q4h, q4j, q3a, q3b, -⟩ := hF_
              replace q4i : Ep13u4 46 = .int .i64 0 := Eq.mp (by kernel_rfl) q4i
              replace q4a : Ep13u4 47 = .pointer (some ⟨b3, 2, none⟩) := Eq.mp (by kernel_rfl) q4a
              replace q4b : Ep13u4 48 = .int .i64 q4.1 := Eq.mp (by kernel_rfl) q4b
              replace q4c : Ep13u4 49 = .int .i64 x49u4 := Eq.mp (by kernel_rfl) q4c
              replace q4g : Ep13u4 50 = .int .i64 x50u4 := Eq.mp (by kernel_rfl) q4g
              replace q4e : Ep13u4 51 = .pointer (some ⟨q5, 0, none⟩) := Eq.mp (by kernel_rfl) q4e
              replace q4d : Ep13u4 52 = .pointer (some ⟨b3, 2, none⟩) := Eq.mp (by kernel_rfl) q4d
              replace q4f : Ep13u4 53 = .int .i64 q4.1 := Eq.mp (by kernel_rfl) q4f
              replace q4h : Ep13u4 54 = .int .i64 q49.1 := Eq.mp (by kernel_rfl) q4h
              replace q4j : Ep13u4 55 = .int .i64 x55u4 := Eq.mp (by kernel_rfl) q4j
              replace q3a : Ep13u4 56 = .pointer (some ⟨b4, 2, none⟩) := Eq.mp (by kernel_rfl) q3a
              replace q3b : Ep13u4 57 = .pointer (some ⟨b4, 2, none⟩) := Eq.mp (by kernel_rfl) q3b
              replace hS : St w0 w' (cells b3 81 [.int .i64 q0b.1, .int .i64 q0c.1, .int .i64 q4.1, .slice q3 q2.length c_b3_3_L3h, .slice none 0 0, .slice none 0 0] :: ro q0a :: cells q5 25 [.slice q7 s0.L.length c_s0_0, .int .i64 q49.2] :: cells b4 183 [.int .u16 x25, .bool q0j.1, .int .i64 x55u4, .int .i64 0, .int .i64 0, .int .i64 0, .slice none 0 0, .slice none 0 0, .slice none 0 0, .slice none 0 0] :: (cells b2 81 [.int .i64 0, .int .i64 0, .int .i64 0, .slice none 0 0, .slice none 0 0, .slice none 0 0] :: vec 183 R_array_Tile.sz (.slice q3 q2.length c_b3_3_L3h) q2.length q9 :: l)) := Eq.mp (by kernel_rfl) hS
              exact x_inv ⟨q49.2, x55u4, (Option.some.inj (show some _ = some _ from q0m)), ((hE13u4 0 rfl).trans q6u), ((hE13u4 2 rfl).trans qb6), ((hE13u4 3 rfl).trans q2j), ((hE13u4 4 rfl).trans q6v), ((hE13u4 20 rfl).trans q8w), ((hE13u4 21 rfl).trans q8x), ((hE13u4 29 rfl).trans q8y), ((((((hS.pull 1).pull 5).pull 4).pull 3).pull 5).pull 5)⟩
            · replace q0m := it_bf hc43u4 q0m
              refine x_seq <| x_region <| p (yl_eql qda rfl) <| p (yl_assign rfl) <|
                x_done <|
                ?_
              replace q0m := bd_s q0m; obtain ⟨oc58u4, hFc58u4, q0m⟩ := q0m
              refine x_join (fun E w => ∃ (q2p : Int) (q43 : Int), (q2p, q43) = oc58u4 ∧ E 0 = .pointer (some ⟨q5, 0, none⟩) ∧ E 2 = .pointer (some ⟨b2, 0, none⟩) ∧ E 3 = .pointer (some ⟨b3, 0, none⟩) ∧ E 4 = .pointer (some ⟨b4, 0, none⟩) ∧ E 20 = .int .i64 x20 ∧ E 21 = .int .i64 q0s ∧ E 29 = .int .i64 0 ∧ St w0 w (cells q5 25 [.slice q7 s0.L.length c_s0_0, .int .i64 q2p] :: cells b2 81 [.int .i64 0, .int .i64 0, .int .i64 0, .slice none 0 0, .slice none 0 0, .slice none 0 0] :: cells b3 81 [.int .i64 q0b.1, .int .i64 q0c.1, .int .i64 q4.1, .slice q3 q2.length c_b3_3_L3h, .slice none 0 0, .slice none 0 0] :: cells b4 183 [.int .u16 x25, .bool q0j.1, .int .i64 q43, .int .i64 0, .int .i64 0, .int .i64 0, .slice none 0 0, .slice none 0 0, .slice none 0 0, .slice none 0 0] :: vec 183 R_array_Tile.sz (.slice q3 q2.length c_b3_3_L3h) q2.length q9 :: ro q0a :: l)) ?_ ?_
              · skip -- c58u4
                refine x_cond_p (q1r.1 = 3) rfl (fun hc58u4 => ?_) (fun hc58u4 => ?_)
                · replace hFc58u4 := it_t hc58u4 hFc58u4
                  replace hFc58u4 := ar_s hFc58u4; obtain ⟨x63u4, hx63u4, hFc58u4⟩ := hFc58u4
                  replace hFc58u4 := ar_s hFc58u4; obtain ⟨x64u4, hx64u4, hFc58u4⟩ := hFc58u4
                  replace hFc58u4 := bd_s hFc58u4; obtain ⟨q4k, qez, hFc58u4⟩ := hFc58u4
                  replace hFc58u4 := ar_s hFc58u4; obtain ⟨x69u4, hx69u4, hFc58u4⟩ := hFc58u4
                  refine x_par (w0 := w0) [⟨[], [], [60], [], [], []⟩, ⟨[], [], [61], [], [], []⟩, ⟨[1], [1], [62], [0], [], []⟩, ⟨[1, 2], [2], [63], [], [], []⟩, ⟨[1, 2, 3], [3], [64], [], [], []⟩, ⟨[], [], [65], [], [], []⟩, ⟨[], [], [66], [], [], []⟩, ⟨[6], [6], [67], [0], [], []⟩, ⟨[5, 6, 7], [5, 7], [68], [2], [1], [3]⟩, ⟨[1, 2, 3, 4, 5, 6, 7, 8], [4, 8], [69], [], [], []⟩, ⟨[], [], [70], [], [], []⟩, ⟨[0, 1, 2, 3, 4, 5, 6, 7, 8, 9, 10], [0, 10], [71], [], [], []⟩, ⟨[0, 1, 2, 3, 4, 5, 6, 7, 8, 9, 10, 11], [9, 11], [], [], [4], [5]⟩] [⟨none, none, []⟩, ⟨none, (some 8), []⟩, ⟨none, none, []⟩, ⟨(some 8), none, []⟩, ⟨none, (some 12), []⟩, ⟨(some 12), none, []⟩] [60, 61, 62, 63, 64, 65, 66, 67, 68, 69, 70, 71] [0, 1, 2, 4] [0, 2, 3, 5] [0, 1, 2, 3, 4, 5, 6, 7, 8, 9, 10, 11] [fun Ep15u4 => Ep15u4 60 = .int .i64 0, fun Ep15u4 => Ep15u4 61 = .pointer (some ⟨b3, 2, none⟩), fun Ep15u4 => Ep15u4 62 = .int .i64 q4.1, fun Ep15u4 => Ep15u4 63 = .int .i64 x63u4, fun Ep15u4 => Ep15u4 64 = .int .i64 x64u4, fun Ep15u4 => Ep15u4 65 = .pointer (some ⟨q5, 0, none⟩), fun Ep15u4 => Ep15u4 66 = .pointer (some ⟨b3, 2, none⟩), fun Ep15u4 => Ep15u4 67 = .int .i64 q4.1, fun Ep15u4 => Ep15u4 68 = .int .i64 q4k.1, fun Ep15u4 => Ep15u4 69 = .int .i64 x69u4, fun Ep15u4 => Ep15u4 70 = .pointer (some ⟨b4, 2, none⟩), fun Ep15u4 => Ep15u4 71 = .pointer (some ⟨b4, 2, none⟩), fun Ep15u4 => True] [fun Ep15u4 => cells b3 81 [.int .i64 q0b.1, .int .i64 q0c.1, .int .i64 q4.1, .slice q3 q2.length c_b3_3_L3h, .slice none 0 0, .slice none 0 0], fun Ep15u4 => cells q5 25 [.slice q7 s0.L.length c_s0_0, .int .i64 q1r.2], fun Ep15u4 => ro q0a, fun Ep15u4 => cells q5 25 [.slice q7 s0.L.length c_s0_0, .int .i64 q4k.2], fun Ep15u4 => cells b4 183 [.int .u16 x25, .bool q0j.1, .int .i64 0, .int .i64 0, .int .i64 0, .int .i64 0, .slice none 0 0, .slice none 0 0, .slice none 0 0, .slice none 0 0], fun Ep15u4 => cells b4 183 [.int .u16 x25, .bool q0j.1, .int .i64 x69u4, .int .i64 0, .int .i64 0, .int .i64 0, .slice none 0 0, .slice none 0 0, .slice none 0 0, .slice none 0 0]] mixed (by kernel_rfl) ((((hS.pull 3).pull 5).pull 2).pull 4) ?_ ?_
                  · refine ⟨?_, ?_, ?_, ?_, ?_, ?_, ?_, ?_, ?_, ?_, ?_, ?_, ?_, trivial⟩
                    · intro Ep15u4 w l' hE15u4 hO15u4 hF_ hS
                      refine p (yl_move ((hE15u4 5 rfl).trans qc2)) <| x_done <|
                        ?_
                      refine x_fin ⟨⟨_, rfl⟩, rfl, ?_⟩
                      exact Eq.mp (by kernel_rfl) hS
                    · intro Ep15u4 w l' hE15u4 hO15u4 hF_ hS
                      refine p (yl_field0 fld_81_2 ((hE15u4 3 rfl).trans q2j)) <| x_done <|
                        ?_
                      refine x_fin ⟨⟨_, rfl⟩, rfl, ?_⟩
                      exact Eq.mp (by kernel_rfl) hS
                    · intro Ep15u4 w l' hE15u4 hO15u4 hF_ hS
                      obtain ⟨q4l, -⟩ := hF_
                      replace q4l : Ep15u4 61 = .pointer (some ⟨b3, 2, none⟩) := Eq.mp (by kernel_rfl) q4l
                      replace hS : St w0 w (cells b3 81 [.int .i64 q0b.1, .int .i64 q0c.1, .int .i64 q4.1, .slice q3 q2.length c_b3_3_L3h, .slice none 0 0, .slice none 0 0] :: l') := Eq.mp (by kernel_rfl) hS
                      refine pa (at_load one_3 q4l (hS.cell rfl)) <| x_done <|
                        ?_
                      refine x_fin ⟨⟨_, rfl⟩, rfl, ?_⟩
                      exact Eq.mp (by kernel_rfl) hS
                    · intro Ep15u4 w l' hE15u4 hO15u4 hF_ hS
                      obtain ⟨q4m, -⟩ := hF_
                      replace q4m : Ep15u4 62 = .int .i64 q4.1 := Eq.mp (by kernel_rfl) q4m
                      refine p (ymul rfl q4m hx63u4) <| x_done <|
                        ?_
                      refine x_fin ⟨⟨_, rfl⟩, rfl, ?_⟩
                      exact Eq.mp (by kernel_rfl) hS
                    · intro Ep15u4 w l' hE15u4 hO15u4 hF_ hS
                      obtain ⟨q4n, -⟩ := hF_
                      replace q4n : Ep15u4 63 = .int .i64 x63u4 := Eq.mp (by kernel_rfl) q4n
                      refine p (yadd rfl q4n hx64u4) <| x_done <|
                        ?_
                      refine x_fin ⟨⟨_, rfl⟩, rfl, ?_⟩
                      exact Eq.mp (by kernel_rfl) hS
                    · intro Ep15u4 w l' hE15u4 hO15u4 hF_ hS
                      refine p (yl_move ((hE15u4 0 rfl).trans q6u)) <| x_done <|
                        ?_
                      refine x_fin ⟨⟨_, rfl⟩, rfl, ?_⟩
                      exact Eq.mp (by kernel_rfl) hS
                    · intro Ep15u4 w l' hE15u4 hO15u4 hF_ hS
                      refine p (yl_field0 fld_81_2 ((hE15u4 3 rfl).trans q2j)) <| x_done <|
                        ?_
                      refine x_fin ⟨⟨_, rfl⟩, rfl, ?_⟩
                      exact Eq.mp (by kernel_rfl) hS
                    · intro Ep15u4 w l' hE15u4 hO15u4 hF_ hS
                      obtain ⟨q4o, -⟩ := hF_
                      replace q4o : Ep15u4 66 = .pointer (some ⟨b3, 2, none⟩) := Eq.mp (by kernel_rfl) q4o
                      replace hS : St w0 w (cells b3 81 [.int .i64 q0b.1, .int .i64 q0c.1, .int .i64 q4.1, .slice q3 q2.length c_b3_3_L3h, .slice none 0 0, .slice none 0 0] :: l') := Eq.mp (by kernel_rfl) hS
                      refine pa (at_load one_3 q4o (hS.cell rfl)) <| x_done <|
                        ?_
                      refine x_fin ⟨⟨_, rfl⟩, rfl, ?_⟩
                      exact Eq.mp (by kernel_rfl) hS
                    · intro Ep15u4 w l' hE15u4 hO15u4 hF_ hS
                      obtain ⟨q4p, q4q, -⟩ := hF_
                      replace q4p : Ep15u4 65 = .pointer (some ⟨q5, 0, none⟩) := Eq.mp (by kernel_rfl) q4p
                      replace q4q : Ep15u4 67 = .int .i64 q4.1 := Eq.mp (by kernel_rfl) q4q
                      replace hS : St w0 w (ro q0a :: cells q5 25 [.slice q7 s0.L.length c_s0_0, .int .i64 q1r.2] :: l') := Eq.mp (by kernel_rfl) hS
                      have hcall := c_maskmake_Stream_Next qez (q0w.le q0v) (hS.pull 1)
                      refine o_cc call_15 (args2 q4p q4q) hcall ?_
                      rintro e w' ⟨rfl, hS⟩
                      refine ⟨_, rfl, ?_⟩
                      refine x_done <|
                        ?_
                      refine x_fin ⟨⟨_, rfl⟩, rfl, ?_⟩
                      exact Eq.mp (by kernel_rfl) (hS.pull 1)
                    · intro Ep15u4 w l' hE15u4 hO15u4 hF_ hS
                      obtain ⟨q4r, q4s, -⟩ := hF_
                      replace q4r : Ep15u4 64 = .int .i64 x64u4 := Eq.mp (by kernel_rfl) q4r
                      replace q4s : Ep15u4 68 = .int .i64 q4k.1 := Eq.mp (by kernel_rfl) q4s
                      refine p (yadd q4r q4s hx69u4) <| x_done <|
                        ?_
                      refine x_fin ⟨⟨_, rfl⟩, rfl, ?_⟩
                      exact Eq.mp (by kernel_rfl) hS
                    · intro Ep15u4 w l' hE15u4 hO15u4 hF_ hS
                      refine p (yl_field0 fld_183_2 ((hE15u4 4 rfl).trans q6v)) <| x_done <|
                        ?_
                      refine x_fin ⟨⟨_, rfl⟩, rfl, ?_⟩
                      exact Eq.mp (by kernel_rfl) hS
                    · intro Ep15u4 w l' hE15u4 hO15u4 hF_ hS
                      obtain ⟨q4t, q3c, -⟩ := hF_
                      replace q4t : Ep15u4 60 = .int .i64 0 := Eq.mp (by kernel_rfl) q4t
                      replace q3c : Ep15u4 70 = .pointer (some ⟨b4, 2, none⟩) := Eq.mp (by kernel_rfl) q3c
                      refine p (yl_ixa (x := .tmp 70) (y := .tmp 60) (q := 2) arr_180 q3c q4t (by decide) rfl) <| x_done <|
                        ?_
                      refine x_fin ⟨⟨_, rfl⟩, rfl, ?_⟩
                      exact Eq.mp (by kernel_rfl) hS
                    · intro Ep15u4 w l' hE15u4 hO15u4 hF_ hS
                      obtain ⟨q4u, q3d, -⟩ := hF_
                      replace q4u : Ep15u4 69 = .int .i64 x69u4 := Eq.mp (by kernel_rfl) q4u
                      replace q3d : Ep15u4 71 = .pointer (some ⟨b4, 2, none⟩) := Eq.mp (by kernel_rfl) q3d
                      replace hS : St w0 w (cells b4 183 [.int .u16 x25, .bool q0j.1, .int .i64 0, .int .i64 0, .int .i64 0, .int .i64 0, .slice none 0 0, .slice none 0 0, .slice none 0 0, .slice none 0 0] :: l') := Eq.mp (by kernel_rfl) hS
                      refine o_store1 (v := .int .i64 x69u4) one_3 q3d q4u rfl rfl hS (fun w' hS => ?_)
                      refine x_done <|
                        ?_
                      refine x_fin ⟨⟨undef, rfl⟩, trivial, ?_⟩
                      exact Eq.mp (by kernel_rfl) hS
                  intro Ep15u4 w' hE15u4 hF_ hS
                  obtain ⟨q4t, q4l, q4m, q4n, q4r, q4p, q4o, q4q, q4s, q4u, q3c, q3d, -⟩ := hF_
                  replace q4t : Ep15u4 60 = .int .i64 0 := Eq.mp (by kernel_rfl) q4t
                  replace q4l : Ep15u4 61 = .pointer (some ⟨b3, 2, none⟩) := Eq.mp (by kernel_rfl) q4l
                  replace q4m : Ep15u4 62 = .int .i64 q4.1 := Eq.mp (by kernel_rfl) q4m
                  replace q4n : Ep15u4 63 = .int .i64 x63u4 := Eq.mp (by kernel_rfl) q4n
                  replace q4r : Ep15u4 64 = .int .i64 x64u4 := Eq.mp (by kernel_rfl) q4r
                  replace q4p : Ep15u4 65 = .pointer (some ⟨q5, 0, none⟩) := Eq.mp (by kernel_rfl) q4p
                  replace q4o : Ep15u4 66 = .pointer (some ⟨b3, 2, none⟩) := Eq.mp (by kernel_rfl) q4o
                  replace q4q : Ep15u4 67 = .int .i64 q4.1 := Eq.mp (by kernel_rfl) q4q
                  replace q4s : Ep15u4 68 = .int .i64 q4k.1 := Eq.mp (by kernel_rfl) q4s
                  replace q4u : Ep15u4 69 = .int .i64 x69u4 := Eq.mp (by kernel_rfl) q4u
                  replace q3c : Ep15u4 70 = .pointer (some ⟨b4, 2, none⟩) := Eq.mp (by kernel_rfl) q3c
                  replace q3d : Ep15u4 71 = .pointer (some ⟨b4, 2, none⟩) := Eq.mp (by kernel_rfl) q3d
                  replace hS : St w0 w' (cells b3 81 [.int .i64 q0b.1, .int .i64 q0c.1, .int .i64 q4.1, .slice q3 q2.length c_b3_3_L3h, .slice none 0 0, .slice none 0 0] :: ro q0a :: cells q5 25 [.slice q7 s0.L.length c_s0_0, .int .i64 q4k.2] :: cells b4 183 [.int .u16 x25, .bool q0j.1, .int .i64 x69u4, .int .i64 0, .int .i64 0, .int .i64 0, .slice none 0 0, .slice none 0 0, .slice none 0 0, .slice none 0 0] :: (cells b2 81 [.int .i64 0, .int .i64 0, .int .i64 0, .slice none 0 0, .slice none 0 0, .slice none 0 0] :: vec 183 R_array_Tile.sz (.slice q3 q2.length c_b3_3_L3h) q2.length q9 :: l)) := Eq.mp (by kernel_rfl) hS
                  exact x_inv ⟨q4k.2, x69u4, (Option.some.inj (show some _ = some _ from hFc58u4)), ((hE15u4 0 rfl).trans q6u), ((hE15u4 2 rfl).trans qb6), ((hE15u4 3 rfl).trans q2j), ((hE15u4 4 rfl).trans q6v), ((hE15u4 20 rfl).trans q8w), ((hE15u4 21 rfl).trans q8x), ((hE15u4 29 rfl).trans q8y), ((((((hS.pull 1).pull 5).pull 4).pull 3).pull 5).pull 5)⟩
                · replace hFc58u4 := it_f hc58u4 hFc58u4
                  refine x_skip <|
                    ?_
                  exact x_inv ⟨q1r.2, 0, (Option.some.inj (show some _ = some _ from hFc58u4)), q6u, qb6, q2j, q6v, q8w, q8x, q8y, ((((((hS.pull 5).pull 5).pull 5).pull 5).pull 5).pull 5)⟩
              rintro E w ⟨q2p, q43, rfl, qf0, qf1, qf2, qf3, qdc, qdd, qde, hS⟩
              exact x_inv ⟨q2p, q43, (Option.some.inj (show some _ = some _ from q0m)), qf0, qf1, qf2, qf3, qdc, qdd, qde, ((((((hS.pull 5).pull 5).pull 5).pull 5).pull 5).pull 5)⟩
          rintro E w ⟨q26, q2o, rfl, qct, qcu, qcv, qcw, qce, qcf, qcg, hS⟩
          exact x_inv ⟨q26, q2o, (Option.some.inj (show some _ = some _ from hFc34u4)), qct, qcu, qcv, qcw, qce, qcf, qcg, ((((((hS.pull 5).pull 5).pull 5).pull 5).pull 5).pull 5)⟩
      rintro E w ⟨q6t, q6, rfl, q7z, qb7, q80, q81, q8z, q90, qdf, hS⟩
      replace hFL3 := bd_s hFL3; obtain ⟨q1s, qh2, hFL3⟩ := hFL3
      refine x_blk <| x_blk <| x_region <| p (yadd (c := 1) qdf rfl ⟨rfl, by decide⟩) <|
        p (yl_move rfl) <| x_done <| x_un 3 <| x_seq <|
        x_region <| p (ylss_l (t := true) rfl rfl (by decide)) <| x_done <| x_seq <|
        x_cond_t (show ev _ _ = .bool true from rfl) <| x_skip <| x_seq <| x_block <|
        x_seq <| x_region <| p (yl_move rfl) <| p (yl_assign rfl) <|
        x_done <| x_seq <| x_region <| p (yl_move q7z) <|
        ?_
      have hcall := c_maskmake_Stream_Next qh2 (q0w.le q0v) ((hS.pull 5).pull 1)
      refine o_cc call_15 (args2 rfl rfl) hcall ?_
      rintro e w' ⟨rfl, hS⟩
      refine ⟨_, rfl, ?_⟩
      refine x_done <| x_block <| x_seq <| x_region <|
        p (yl_eql rfl rfl) <| p (yl_assign rfl) <| x_done <|
        ?_
      replace hFL3 := bd_s hFL3; obtain ⟨oc34u3, hFc34u3, hFL3⟩ := hFL3
      refine x_join (fun E w => ∃ (q6w : Int) (q8 : Int), (q6w, q8) = oc34u3 ∧ E 0 = .pointer (some ⟨q5, 0, none⟩) ∧ E 2 = .pointer (some ⟨b2, 0, none⟩) ∧ E 3 = .pointer (some ⟨b3, 0, none⟩) ∧ E 4 = .pointer (some ⟨b4, 0, none⟩) ∧ E 20 = .int .i64 x20 ∧ E 21 = .int .i64 q0s ∧ E 29 = .int .i64 1 ∧ St w0 w (cells q5 25 [.slice q7 s0.L.length c_s0_0, .int .i64 q6w] :: cells b2 81 [.int .i64 0, .int .i64 0, .int .i64 0, .slice none 0 0, .slice none 0 0, .slice none 0 0] :: cells b3 81 [.int .i64 q0b.1, .int .i64 q0c.1, .int .i64 q4.1, .slice q3 q2.length c_b3_3_L3h, .slice none 0 0, .slice none 0 0] :: cells b4 183 [.int .u16 x25, .bool q0j.1, .int .i64 q6, .int .i64 q8, .int .i64 0, .int .i64 0, .slice none 0 0, .slice none 0 0, .slice none 0 0, .slice none 0 0] :: vec 183 R_array_Tile.sz (.slice q3 q2.length c_b3_3_L3h) q2.length q9 :: ro q0a :: l)) ?_ ?_
      · skip -- c34u3
        refine x_cond_p (q1s.1 = 0) rfl (fun hc34u3 => ?_) (fun hc34u3 => ?_)
        · replace hFc34u3 := it_t hc34u3 hFc34u3
          replace hFc34u3 := ar_s hFc34u3; obtain ⟨x39u3, hx39u3, hFc34u3⟩ := hFc34u3
          replace hFc34u3 := ar_s hFc34u3; obtain ⟨x40u3, hx40u3, hFc34u3⟩ := hFc34u3
          refine x_region <| p (yl_move rfl) <| p (yl_field0 fld_81_2 q80) <| pa (at_load one_3 rfl ((hS.pull 3).cell rfl)) <|
            p (ymul rfl rfl hx39u3) <| p (yadd rfl rfl hx40u3) <| p (yl_field0 fld_183_2 q81) <| p (yl_ixa (x := .tmp 41) (y := .tmp 36) (q := 3) arr_180 rfl rfl (by decide) rfl) <|
            ?_
          refine o_store1 (v := .int .i64 x40u3) one_3 rfl rfl rfl rfl (hS.pull 4) (fun w' hS => ?_)
          refine x_done <|
            ?_
          exact x_inv ⟨q1s.2, x40u3, (Option.some.inj (show some _ = some _ from hFc34u3)), q7z, qb7, q80, q81, q8z, q90, rfl, ((((((hS.pull 2).pull 5).pull 2).pull 5).pull 5).pull 5)⟩
        · replace hFc34u3 := it_f hc34u3 hFc34u3
          refine x_seq <| x_seq <| x_region <| p (yl_eql rfl rfl) <|
            p (yl_assign rfl) <| x_done <|
            ?_
          replace hFc34u3 := bd_s hFc34u3; obtain ⟨oc43u3, hFc43u3, hFc34u3⟩ := hFc34u3
          refine x_join (fun E w => ∃ (q7b : Bool), q7b = oc43u3 ∧ E 0 = .pointer (some ⟨q5, 0, none⟩) ∧ E 2 = .pointer (some ⟨b2, 0, none⟩) ∧ E 3 = .pointer (some ⟨b3, 0, none⟩) ∧ E 4 = .pointer (some ⟨b4, 0, none⟩) ∧ E 5 = .int .i64 1 ∧ E 20 = .int .i64 x20 ∧ E 21 = .int .i64 q0s ∧ E 29 = .int .i64 1 ∧ E 33 = .int .i64 q1s.1 ∧ E 43 = .bool q7b ∧ St w0 w (cells q5 25 [.slice q7 s0.L.length c_s0_0, .int .i64 q1s.2] :: cells b2 81 [.int .i64 0, .int .i64 0, .int .i64 0, .slice none 0 0, .slice none 0 0, .slice none 0 0] :: cells b3 81 [.int .i64 q0b.1, .int .i64 q0c.1, .int .i64 q4.1, .slice q3 q2.length c_b3_3_L3h, .slice none 0 0, .slice none 0 0] :: cells b4 183 [.int .u16 x25, .bool q0j.1, .int .i64 q6, .int .i64 0, .int .i64 0, .int .i64 0, .slice none 0 0, .slice none 0 0, .slice none 0 0, .slice none 0 0] :: vec 183 R_array_Tile.sz (.slice q3 q2.length c_b3_3_L3h) q2.length q9 :: ro q0a :: l)) ?_ ?_
          · skip -- c43u3
            refine x_cond_p (q1s.1 = 1) rfl (fun hc43u3 => ?_) (fun hc43u3 => ?_)
            · replace hFc43u3 := it_t hc43u3 hFc43u3
              refine x_skip <|
                ?_
              exact x_inv ⟨decide (q1s.1 = 1), (Option.some.inj (show some _ = some _ from hFc43u3)), q7z, qb7, q80, q81, rfl, q8z, q90, rfl, rfl, rfl, ((((((hS.pull 1).pull 5).pull 5).pull 5).pull 5).pull 5)⟩
            · replace hFc43u3 := it_f hc43u3 hFc43u3
              refine x_region <| p (yl_eql rfl rfl) <| p (yl_assign rfl) <| x_done <|
                ?_
              exact x_inv ⟨decide (q1s.1 = 2), (Option.some.inj (show some _ = some _ from hFc43u3)), q7z, qb7, q80, q81, rfl, q8z, q90, rfl, rfl, rfl, ((((((hS.pull 1).pull 5).pull 5).pull 5).pull 5).pull 5)⟩
          rintro E w ⟨q7b, rfl, q6x, qb8, q2k, q6y, qc3, q91, q92, q93, qdg, qdh, hS⟩
          replace hFc34u3 := bd_s hFc34u3; obtain ⟨qf4, q0n, hFc34u3⟩ := hFc34u3
          refine x_join (fun E w => ∃ (q27 : Int) (q2q : Int), (q27, q2q) = qf4 ∧ E 0 = .pointer (some ⟨q5, 0, none⟩) ∧ E 2 = .pointer (some ⟨b2, 0, none⟩) ∧ E 3 = .pointer (some ⟨b3, 0, none⟩) ∧ E 4 = .pointer (some ⟨b4, 0, none⟩) ∧ E 20 = .int .i64 x20 ∧ E 21 = .int .i64 q0s ∧ E 29 = .int .i64 1 ∧ St w0 w (cells q5 25 [.slice q7 s0.L.length c_s0_0, .int .i64 q27] :: cells b2 81 [.int .i64 0, .int .i64 0, .int .i64 0, .slice none 0 0, .slice none 0 0, .slice none 0 0] :: cells b3 81 [.int .i64 q0b.1, .int .i64 q0c.1, .int .i64 q4.1, .slice q3 q2.length c_b3_3_L3h, .slice none 0 0, .slice none 0 0] :: cells b4 183 [.int .u16 x25, .bool q0j.1, .int .i64 q6, .int .i64 q2q, .int .i64 0, .int .i64 0, .slice none 0 0, .slice none 0 0, .slice none 0 0, .slice none 0 0] :: vec 183 R_array_Tile.sz (.slice q3 q2.length c_b3_3_L3h) q2.length q9 :: ro q0a :: l)) ?_ ?_
          · skip -- qhx
            refine x_cond (t := q7b) qdh (fun hc43u3 => ?_) (fun hc43u3 => ?_)
            · replace q0n := it_t hc43u3 q0n
              replace q0n := ar_s q0n; obtain ⟨x49u3, hx49u3, q0n⟩ := q0n
              replace q0n := ar_s q0n; obtain ⟨x50u3, hx50u3, q0n⟩ := q0n
              replace q0n := bd_s q0n; obtain ⟨q4v, qf5, q0n⟩ := q0n
              replace q0n := ar_s q0n; obtain ⟨x55u3, hx55u3, q0n⟩ := q0n
              refine x_par (w0 := w0) [⟨[], [], [46], [], [], []⟩, ⟨[], [], [47], [], [], []⟩, ⟨[1], [1], [48], [0], [], []⟩, ⟨[1, 2], [2], [49], [], [], []⟩, ⟨[1, 2, 3], [3], [50], [], [], []⟩, ⟨[], [], [51], [], [], []⟩, ⟨[], [], [52], [], [], []⟩, ⟨[6], [6], [53], [0], [], []⟩, ⟨[5, 6, 7], [5, 7], [54], [2], [1], [3]⟩, ⟨[1, 2, 3, 4, 5, 6, 7, 8], [4, 8], [55], [], [], []⟩, ⟨[], [], [56], [], [], []⟩, ⟨[0, 1, 2, 3, 4, 5, 6, 7, 8, 9, 10], [0, 10], [57], [], [], []⟩, ⟨[0, 1, 2, 3, 4, 5, 6, 7, 8, 9, 10, 11], [9, 11], [], [], [4], [5]⟩] [⟨none, none, []⟩, ⟨none, (some 8), []⟩, ⟨none, none, []⟩, ⟨(some 8), none, []⟩, ⟨none, (some 12), []⟩, ⟨(some 12), none, []⟩] [46, 47, 48, 49, 50, 51, 52, 53, 54, 55, 56, 57] [0, 1, 2, 4] [0, 2, 3, 5] [0, 1, 2, 3, 4, 5, 6, 7, 8, 9, 10, 11] [fun Ep13u3 => Ep13u3 46 = .int .i64 1, fun Ep13u3 => Ep13u3 47 = .pointer (some ⟨b3, 2, none⟩), fun Ep13u3 => Ep13u3 48 = .int .i64 q4.1, fun Ep13u3 => Ep13u3 49 = .int .i64 x49u3, fun Ep13u3 => Ep13u3 50 = .int .i64 x50u3, fun Ep13u3 => Ep13u3 51 = .pointer (some ⟨q5, 0, none⟩), fun Ep13u3 => Ep13u3 52 = .pointer (some ⟨b3, 2, none⟩), fun Ep13u3 => Ep13u3 53 = .int .i64 q4.1, fun Ep13u3 => Ep13u3 54 = .int .i64 q4v.1, fun Ep13u3 => Ep13u3 55 = .int .i64 x55u3, fun Ep13u3 => Ep13u3 56 = .pointer (some ⟨b4, 2, none⟩), fun Ep13u3 => Ep13u3 57 = .pointer (some ⟨b4, 3, none⟩), fun Ep13u3 => True] [fun Ep13u3 => cells b3 81 [.int .i64 q0b.1, .int .i64 q0c.1, .int .i64 q4.1, .slice q3 q2.length c_b3_3_L3h, .slice none 0 0, .slice none 0 0], fun Ep13u3 => cells q5 25 [.slice q7 s0.L.length c_s0_0, .int .i64 q1s.2], fun Ep13u3 => ro q0a, fun Ep13u3 => cells q5 25 [.slice q7 s0.L.length c_s0_0, .int .i64 q4v.2], fun Ep13u3 => cells b4 183 [.int .u16 x25, .bool q0j.1, .int .i64 q6, .int .i64 0, .int .i64 0, .int .i64 0, .slice none 0 0, .slice none 0 0, .slice none 0 0, .slice none 0 0], fun Ep13u3 => cells b4 183 [.int .u16 x25, .bool q0j.1, .int .i64 q6, .int .i64 x55u3, .int .i64 0, .int .i64 0, .slice none 0 0, .slice none 0 0, .slice none 0 0, .slice none 0 0]] mixed (by kernel_rfl) ((((hS.pull 3).pull 5).pull 2).pull 4) ?_ ?_
              · refine ⟨?_, ?_, ?_, ?_, ?_, ?_, ?_, ?_, ?_, ?_, ?_, ?_, ?_, trivial⟩
                · intro Ep13u3 w l' hE13u3 hO13u3 hF_ hS
                  refine p (yl_move ((hE13u3 5 rfl).trans qc3)) <| x_done <|
                    ?_
                  refine x_fin ⟨⟨_, rfl⟩, rfl, ?_⟩
                  exact Eq.mp (by kernel_rfl) hS
                · intro Ep13u3 w l' hE13u3 hO13u3 hF_ hS
                  refine p (yl_field0 fld_81_2 ((hE13u3 3 rfl).trans q2k)) <| x_done <|
                    ?_
                  refine x_fin ⟨⟨_, rfl⟩, rfl, ?_⟩
                  exact Eq.mp (by kernel_rfl) hS
                · intro Ep13u3 w l' hE13u3 hO13u3 hF_ hS
                  obtain ⟨q4w, -⟩ := hF_
                  replace q4w : Ep13u3 47 = .pointer (some ⟨b3, 2, none⟩) := Eq.mp (by kernel_rfl) q4w
                  replace hS : St w0 w (cells b3 81 [.int .i64 q0b.1, .int .i64 q0c.1, .int .i64 q4.1, .slice q3 q2.length c_b3_3_L3h, .slice none 0 0, .slice none 0 0] :: l') := Eq.mp (by kernel_rfl) hS
                  refine pa (at_load one_3 q4w (hS.cell rfl)) <| x_done <|
                    ?_
                  refine x_fin ⟨⟨_, rfl⟩, rfl, ?_⟩
                  exact Eq.mp (by kernel_rfl) hS
                · intro Ep13u3 w l' hE13u3 hO13u3 hF_ hS
                  obtain ⟨q4x, -⟩ := hF_
                  replace q4x : Ep13u3 48 = .int .i64 q4.1 := Eq.mp (by kernel_rfl) q4x
                  refine p (ymul rfl q4x hx49u3) <| x_done <|
                    ?_
                  refine x_fin ⟨⟨_, rfl⟩, rfl, ?_⟩
                  exact Eq.mp (by kernel_rfl) hS
                · intro Ep13u3 w l' hE13u3 hO13u3 hF_ hS
                  obtain ⟨q4y, -⟩ := hF_
                  replace q4y : Ep13u3 49 = .int .i64 x49u3 := Eq.mp (by kernel_rfl) q4y
                  refine p (yadd rfl q4y hx50u3) <| x_done <|
                    ?_
                  refine x_fin ⟨⟨_, rfl⟩, rfl, ?_⟩
                  exact Eq.mp (by kernel_rfl) hS
                · intro Ep13u3 w l' hE13u3 hO13u3 hF_ hS
                  refine p (yl_move ((hE13u3 0 rfl).trans q6x)) <| x_done <|
                    ?_
                  refine x_fin ⟨⟨_, rfl⟩, rfl, ?_⟩
                  exact Eq.mp (by kernel_rfl) hS
                · intro Ep13u3 w l' hE13u3 hO13u3 hF_ hS
                  refine p (yl_field0 fld_81_2 ((hE13u3 3 rfl).trans q2k)) <| x_done <|
                    ?_
                  refine x_fin ⟨⟨_, rfl⟩, rfl, ?_⟩
                  exact Eq.mp (by kernel_rfl) hS
                · intro Ep13u3 w l' hE13u3 hO13u3 hF_ hS
                  obtain ⟨q4z, -⟩ := hF_
                  replace q4z : Ep13u3 52 = .pointer (some ⟨b3, 2, none⟩) := Eq.mp (by kernel_rfl) q4z
                  replace hS : St w0 w (cells b3 81 [.int .i64 q0b.1, .int .i64 q0c.1, .int .i64 q4.1, .slice q3 q2.length c_b3_3_L3h, .slice none 0 0, .slice none 0 0] :: l') := Eq.mp (by kernel_rfl) hS
                  refine pa (at_load one_3 q4z (hS.cell rfl)) <| x_done <|
                    ?_
                  refine x_fin ⟨⟨_, rfl⟩, rfl, ?_⟩
                  exact Eq.mp (by kernel_rfl) hS
                · intro Ep13u3 w l' hE13u3 hO13u3 hF_ hS
                  obtain ⟨q50, q51, -⟩ := hF_
                  replace q50 : Ep13u3 51 = .pointer (some ⟨q5, 0, none⟩) := Eq.mp (by kernel_rfl) q50
                  replace q51 : Ep13u3 53 = .int .i64 q4.1 := Eq.mp (by kernel_rfl) q51
                  replace hS : St w0 w (ro q0a :: cells q5 25 [.slice q7 s0.L.length c_s0_0, .int .i64 q1s.2] :: l') := Eq.mp (by kernel_rfl) hS
                  have hcall := c_maskmake_Stream_Next qf5 (q0w.le q0v) (hS.pull 1)
                  refine o_cc call_15 (args2 q50 q51) hcall ?_
                  rintro e w' ⟨rfl, hS⟩
                  refine ⟨_, rfl, ?_⟩
                  refine x_done <|
                    ?_
                  refine x_fin ⟨⟨_, rfl⟩, rfl, ?_⟩
                  exact Eq.mp (by kernel_rfl) (hS.pull 1)
                · intro Ep13u3 w l' hE13u3 hO13u3 hF_ hS
                  obtain ⟨q52, q53, -⟩ := hF_
                  replace q52 : Ep13u3 50 = .int .i64 x50u3 := Eq.mp (by kernel_rfl) q52
                  replace q53 : Ep13u3 54 = .int .i64 q4v.1 := Eq.mp (by kernel_rfl) q53
                  refine p (yadd q52 q53 hx55u3) <| x_done <|
                    ?_
                  refine x_fin ⟨⟨_, rfl⟩, rfl, ?_⟩
                  exact Eq.mp (by kernel_rfl) hS
                · intro Ep13u3 w l' hE13u3 hO13u3 hF_ hS
                  refine p (yl_field0 fld_183_2 ((hE13u3 4 rfl).trans q6y)) <| x_done <|
                    ?_
                  refine x_fin ⟨⟨_, rfl⟩, rfl, ?_⟩
                  exact Eq.mp (by kernel_rfl) hS
                · intro Ep13u3 w l' hE13u3 hO13u3 hF_ hS
                  obtain ⟨q54, q3e, -⟩ := hF_
                  replace q54 : Ep13u3 46 = .int .i64 1 := Eq.mp (by kernel_rfl) q54
                  replace q3e : Ep13u3 56 = .pointer (some ⟨b4, 2, none⟩) := Eq.mp (by kernel_rfl) q3e
                  refine p (yl_ixa (x := .tmp 56) (y := .tmp 46) (q := 3) arr_180 q3e q54 (by decide) rfl) <| x_done <|
                    ?_
                  refine x_fin ⟨⟨_, rfl⟩, rfl, ?_⟩
                  exact Eq.mp (by kernel_rfl) hS
                · intro Ep13u3 w l' hE13u3 hO13u3 hF_ hS
                  obtain ⟨q55, q3f, -⟩ := hF_
                  replace q55 : Ep13u3 55 = .int .i64 x55u3 := Eq.mp (by kernel_rfl) q55
                  replace q3f : Ep13u3 57 = .pointer (some ⟨b4, 3, none⟩) := Eq.mp (by kernel_rfl) q3f
                  replace hS : St w0 w (cells b4 183 [.int .u16 x25, .bool q0j.1, .int .i64 q6, .int .i64 0, .int .i64 0, .int .i64 0, .slice none 0 0, .slice none 0 0, .slice none 0 0, .slice none 0 0] :: l') := Eq.mp (by kernel_rfl) hS
                  refine o_store1 (v := .int .i64 x55u3) one_3 q3f q55 rfl rfl hS (fun w' hS => ?_)
                  refine x_done <|
                    ?_
                  refine x_fin ⟨⟨undef, rfl⟩, trivial, ?_⟩
                  exact Eq.mp (by kernel_rfl) hS
              intro Ep13u3 w' hE13u3 hF_ hS
              obtain ⟨q54, q4w, q4x, q4y, q52, q50, q4z, q51, q53, q55, q3e, q3f, -⟩ := hF_
              replace q54 : Ep13u3 46 = .int .i64 1 := Eq.mp (by kernel_rfl) q54
              replace q4w : Ep13u3 47 = .pointer (some ⟨b3, 2, none⟩) := Eq.mp (by kernel_rfl) q4w
              replace q4x : Ep13u3 48 = .int .i64 q4.1 := Eq.mp (by kernel_rfl) q4x
              replace q4y : Ep13u3 49 = .int .i64 x49u3 := Eq.mp (by kernel_rfl) q4y
              replace q52 : Ep13u3 50 = .int .i64 x50u3 := Eq.mp (by kernel_rfl) q52
              replace q50 : Ep13u3 51 = .pointer (some ⟨q5, 0, none⟩) := Eq.mp (by kernel_rfl) q50
              replace q4z : Ep13u3 52 = .pointer (some ⟨b3, 2, none⟩) := Eq.mp (by kernel_rfl) q4z
              replace q51 : Ep13u3 53 = .int .i64 q4.1 := Eq.mp (by kernel_rfl) q51
              replace q53 : Ep13u3 54 = .int .i64 q4v.1 := Eq.mp (by kernel_rfl) q53
              replace q55 : Ep13u3 55 = .int .i64 x55u3 := Eq.mp (by kernel_rfl) q55
              replace q3e : Ep13u3 56 = .pointer (some ⟨b4, 2, none⟩) := Eq.mp (by kernel_rfl) q3e
              replace q3f : Ep13u3 57 = .pointer (some ⟨b4, 3, none⟩) := Eq.mp (by kernel_rfl) q3f
              replace hS : St w0 w' (cells b3 81 [.int .i64 q0b.1, .int .i64 q0c.1, .int .i64 q4.1, .slice q3 q2.length c_b3_3_L3h, .slice none 0 0, .slice none 0 0] :: ro q0a :: cells q5 25 [.slice q7 s0.L.length c_s0_0, .int .i64 q4v.2] :: cells b4 183 [.int .u16 x25, .bool q0j.1, .int .i64 q6, .int .i64 x55u3, .int .i64 0, .int .i64 0, .slice none 0 0, .slice none 0 0, .slice none 0 0, .slice none 0 0] :: (cells b2 81 [.int .i64 0, .int .i64 0, .int .i64 0, .slice none 0 0, .slice none 0 0, .slice none 0 0] :: vec 183 R_array_Tile.sz (.slice q3 q2.length c_b3_3_L3h) q2.length q9 :: l)) := Eq.mp (by kernel_rfl) hS
              exact x_inv ⟨q4v.2, x55u3, (Option.some.inj (show some _ = some _ from q0n)), ((hE13u3 0 rfl).trans q6x), ((hE13u3 2 rfl).trans qb8), ((hE13u3 3 rfl).trans q2k), ((hE13u3 4 rfl).trans q6y), ((hE13u3 20 rfl).trans q91), ((hE13u3 21 rfl).trans q92), ((hE13u3 29 rfl).trans q93), ((((((hS.pull 1).pull 5).pull 4).pull 3).pull 5).pull 5)⟩
            · replace q0n := it_bf hc43u3 q0n
              refine x_seq <| x_region <| p (yl_eql qdg rfl) <| p (yl_assign rfl) <|
                x_done <|
                ?_
              replace q0n := bd_s q0n; obtain ⟨oc58u3, hFc58u3, q0n⟩ := q0n
              refine x_join (fun E w => ∃ (q2r : Int) (q44 : Int), (q2r, q44) = oc58u3 ∧ E 0 = .pointer (some ⟨q5, 0, none⟩) ∧ E 2 = .pointer (some ⟨b2, 0, none⟩) ∧ E 3 = .pointer (some ⟨b3, 0, none⟩) ∧ E 4 = .pointer (some ⟨b4, 0, none⟩) ∧ E 20 = .int .i64 x20 ∧ E 21 = .int .i64 q0s ∧ E 29 = .int .i64 1 ∧ St w0 w (cells q5 25 [.slice q7 s0.L.length c_s0_0, .int .i64 q2r] :: cells b2 81 [.int .i64 0, .int .i64 0, .int .i64 0, .slice none 0 0, .slice none 0 0, .slice none 0 0] :: cells b3 81 [.int .i64 q0b.1, .int .i64 q0c.1, .int .i64 q4.1, .slice q3 q2.length c_b3_3_L3h, .slice none 0 0, .slice none 0 0] :: cells b4 183 [.int .u16 x25, .bool q0j.1, .int .i64 q6, .int .i64 q44, .int .i64 0, .int .i64 0, .slice none 0 0, .slice none 0 0, .slice none 0 0, .slice none 0 0] :: vec 183 R_array_Tile.sz (.slice q3 q2.length c_b3_3_L3h) q2.length q9 :: ro q0a :: l)) ?_ ?_
              · skip -- c58u3
                refine x_cond_p (q1s.1 = 3) rfl (fun hc58u3 => ?_) (fun hc58u3 => ?_)
                · replace hFc58u3 := it_t hc58u3 hFc58u3
                  replace hFc58u3 := ar_s hFc58u3; obtain ⟨x63u3, hx63u3, hFc58u3⟩ := hFc58u3
                  replace hFc58u3 := ar_s hFc58u3; obtain ⟨x64u3, hx64u3, hFc58u3⟩ := hFc58u3
                  replace hFc58u3 := bd_s hFc58u3; obtain ⟨q56, qf6, hFc58u3⟩ := hFc58u3
                  replace hFc58u3 := ar_s hFc58u3; obtain ⟨x69u3, hx69u3, hFc58u3⟩ := hFc58u3
                  refine x_par (w0 := w0) [⟨[], [], [60], [], [], []⟩, ⟨[], [], [61], [], [], []⟩, ⟨[1], [1], [62], [0], [], []⟩, ⟨[1, 2], [2], [63], [], [], []⟩, ⟨[1, 2, 3], [3], [64], [], [], []⟩, ⟨[], [], [65], [], [], []⟩, ⟨[], [], [66], [], [], []⟩, ⟨[6], [6], [67], [0], [], []⟩, ⟨[5, 6, 7], [5, 7], [68], [2], [1], [3]⟩, ⟨[1, 2, 3, 4, 5, 6, 7, 8], [4, 8], [69], [], [], []⟩, ⟨[], [], [70], [], [], []⟩, ⟨[0, 1, 2, 3, 4, 5, 6, 7, 8, 9, 10], [0, 10], [71], [], [], []⟩, ⟨[0, 1, 2, 3, 4, 5, 6, 7, 8, 9, 10, 11], [9, 11], [], [], [4], [5]⟩] [⟨none, none, []⟩, ⟨none, (some 8), []⟩, ⟨none, none, []⟩, ⟨(some 8), none, []⟩, ⟨none, (some 12), []⟩, ⟨(some 12), none, []⟩] [60, 61, 62, 63, 64, 65, 66, 67, 68, 69, 70, 71] [0, 1, 2, 4] [0, 2, 3, 5] [0, 1, 2, 3, 4, 5, 6, 7, 8, 9, 10, 11] [fun Ep15u3 => Ep15u3 60 = .int .i64 1, fun Ep15u3 => Ep15u3 61 = .pointer (some ⟨b3, 2, none⟩), fun Ep15u3 => Ep15u3 62 = .int .i64 q4.1, fun Ep15u3 => Ep15u3 63 = .int .i64 x63u3, fun Ep15u3 => Ep15u3 64 = .int .i64 x64u3, fun Ep15u3 => Ep15u3 65 = .pointer (some ⟨q5, 0, none⟩), fun Ep15u3 => Ep15u3 66 = .pointer (some ⟨b3, 2, none⟩), fun Ep15u3 => Ep15u3 67 = .int .i64 q4.1, fun Ep15u3 => Ep15u3 68 = .int .i64 q56.1, fun Ep15u3 => Ep15u3 69 = .int .i64 x69u3, fun Ep15u3 => Ep15u3 70 = .pointer (some ⟨b4, 2, none⟩), fun Ep15u3 => Ep15u3 71 = .pointer (some ⟨b4, 3, none⟩), fun Ep15u3 => True] [fun Ep15u3 => cells b3 81 [.int .i64 q0b.1, .int .i64 q0c.1, .int .i64 q4.1, .slice q3 q2.length c_b3_3_L3h, .slice none 0 0, .slice none 0 0], fun Ep15u3 => cells q5 25 [.slice q7 s0.L.length c_s0_0, .int .i64 q1s.2], fun Ep15u3 => ro q0a, fun Ep15u3 => cells q5 25 [.slice q7 s0.L.length c_s0_0, .int .i64 q56.2], fun Ep15u3 => cells b4 183 [.int .u16 x25, .bool q0j.1, .int .i64 q6, .int .i64 0, .int .i64 0, .int .i64 0, .slice none 0 0, .slice none 0 0, .slice none 0 0, .slice none 0 0], fun Ep15u3 => cells b4 183 [.int .u16 x25, .bool q0j.1, .int .i64 q6, .int .i64 x69u3, .int .i64 0, .int .i64 0, .slice none 0 0, .slice none 0 0, .slice none 0 0, .slice none 0 0]] mixed (by kernel_rfl) ((((hS.pull 3).pull 5).pull 2).pull 4) ?_ ?_
                  · refine ⟨?_, ?_, ?_, ?_, ?_, ?_, ?_, ?_, ?_, ?_, ?_, ?_, ?_, trivial⟩
                    · intro Ep15u3 w l' hE15u3 hO15u3 hF_ hS
                      refine p (yl_move ((hE15u3 5 rfl).trans qc3)) <| x_done <|
                        ?_
                      refine x_fin ⟨⟨_, rfl⟩, rfl, ?_⟩
                      exact Eq.mp (by kernel_rfl) hS
                    · intro Ep15u3 w l' hE15u3 hO15u3 hF_ hS
                      refine p (yl_field0 fld_81_2 ((hE15u3 3 rfl).trans q2k)) <| x_done <|
                        ?_
                      refine x_fin ⟨⟨_, rfl⟩, rfl, ?_⟩
                      exact Eq.mp (by kernel_rfl) hS
                    · intro Ep15u3 w l' hE15u3 hO15u3 hF_ hS
                      obtain ⟨q57, -⟩ := hF_
                      replace q57 : Ep15u3 61 = .pointer (some ⟨b3, 2, none⟩) := Eq.mp (by kernel_rfl) q57
                      replace hS : St w0 w (cells b3 81 [.int .i64 q0b.1, .int .i64 q0c.1, .int .i64 q4.1, .slice q3 q2.length c_b3_3_L3h, .slice none 0 0, .slice none 0 0] :: l') := Eq.mp (by kernel_rfl) hS
                      refine pa (at_load one_3 q57 (hS.cell rfl)) <| x_done <|
                        ?_
                      refine x_fin ⟨⟨_, rfl⟩, rfl, ?_⟩
                      exact Eq.mp (by kernel_rfl) hS
                    · intro Ep15u3 w l' hE15u3 hO15u3 hF_ hS
                      obtain ⟨q58, -⟩ := hF_
                      replace q58 : Ep15u3 62 = .int .i64 q4.1 := Eq.mp (by kernel_rfl) q58
                      refine p (ymul rfl q58 hx63u3) <| x_done <|
                        ?_
                      refine x_fin ⟨⟨_, rfl⟩, rfl, ?_⟩
                      exact Eq.mp (by kernel_rfl) hS
                    · intro Ep15u3 w l' hE15u3 hO15u3 hF_ hS
                      obtain ⟨q59, -⟩ := hF_
                      replace q59 : Ep15u3 63 = .int .i64 x63u3 := Eq.mp (by kernel_rfl) q59
                      refine p (yadd rfl q59 hx64u3) <| x_done <|
                        ?_
                      refine x_fin ⟨⟨_, rfl⟩, rfl, ?_⟩
                      exact Eq.mp (by kernel_rfl) hS
                    · intro Ep15u3 w l' hE15u3 hO15u3 hF_ hS
                      refine p (yl_move ((hE15u3 0 rfl).trans q6x)) <| x_done <|
                        ?_
                      refine x_fin ⟨⟨_, rfl⟩, rfl, ?_⟩
                      exact Eq.mp (by kernel_rfl) hS
                    · intro Ep15u3 w l' hE15u3 hO15u3 hF_ hS
                      refine p (yl_field0 fld_81_2 ((hE15u3 3 rfl).trans q2k)) <| x_done <|
                        ?_
                      refine x_fin ⟨⟨_, rfl⟩, rfl, ?_⟩
                      exact Eq.mp (by kernel_rfl) hS
                    · intro Ep15u3 w l' hE15u3 hO15u3 hF_ hS
                      obtain ⟨q5a, -⟩ := hF_
                      replace q5a : Ep15u3 66 = .pointer (some ⟨b3, 2, none⟩) := Eq.mp (by kernel_rfl) q5a
                      replace hS : St w0 w (cells b3 81 [.int .i64 q0b.1, .int .i64 q0c.1, .int .i64 q4.1, .slice q3 q2.length c_b3_3_L3h, .slice none 0 0, .slice none 0 0] :: l') := Eq.mp (by kernel_rfl) hS
                      refine pa (at_load one_3 q5a (hS.cell rfl)) <| x_done <|
                        ?_
                      refine x_fin ⟨⟨_, rfl⟩, rfl, ?_⟩
                      exact Eq.mp (by kernel_rfl) hS
                    · intro Ep15u3 w l' hE15u3 hO15u3 hF_ hS
                      obtain ⟨q5b, q5c, -⟩ := hF_
                      replace q5b : Ep15u3 65 = .pointer (some ⟨q5, 0, none⟩) := Eq.mp (by kernel_rfl) q5b
                      replace q5c : Ep15u3 67 = .int .i64 q4.1 := Eq.mp (by kernel_rfl) q5c
                      replace hS : St w0 w (ro q0a :: cells q5 25 [.slice q7 s0.L.length c_s0_0, .int .i64 q1s.2] :: l') := Eq.mp (by kernel_rfl) hS
                      have hcall := c_maskmake_Stream_Next qf6 (q0w.le q0v) (hS.pull 1)
                      refine o_cc call_15 (args2 q5b q5c) hcall ?_
                      rintro e w' ⟨rfl, hS⟩
                      refine ⟨_, rfl, ?_⟩
                      refine x_done <|
                        ?_
                      refine x_fin ⟨⟨_, rfl⟩, rfl, ?_⟩
                      exact Eq.mp (by kernel_rfl) (hS.pull 1)
                    · intro Ep15u3 w l' hE15u3 hO15u3 hF_ hS
                      obtain ⟨q5d, q5e, -⟩ := hF_
                      replace q5d : Ep15u3 64 = .int .i64 x64u3 := Eq.mp (by kernel_rfl) q5d
                      replace q5e : Ep15u3 68 = .int .i64 q56.1 := Eq.mp (by kernel_rfl) q5e
                      refine p (yadd q5d q5e hx69u3) <| x_done <|
                        ?_
                      refine x_fin ⟨⟨_, rfl⟩, rfl, ?_⟩
                      exact Eq.mp (by kernel_rfl) hS
                    · intro Ep15u3 w l' hE15u3 hO15u3 hF_ hS
                      refine p (yl_field0 fld_183_2 ((hE15u3 4 rfl).trans q6y)) <| x_done <|
                        ?_
                      refine x_fin ⟨⟨_, rfl⟩, rfl, ?_⟩
                      exact Eq.mp (by kernel_rfl) hS
                    · intro Ep15u3 w l' hE15u3 hO15u3 hF_ hS
                      obtain ⟨q5f, q3g, -⟩ := hF_
                      replace q5f : Ep15u3 60 = .int .i64 1 := Eq.mp (by kernel_rfl) q5f
                      replace q3g : Ep15u3 70 = .pointer (some ⟨b4, 2, none⟩) := Eq.mp (by kernel_rfl) q3g
                      refine p (yl_ixa (x := .tmp 70) (y := .tmp 60) (q := 3) arr_180 q3g q5f (by decide) rfl) <| x_done <|
                        ?_
                      refine x_fin ⟨⟨_, rfl⟩, rfl, ?_⟩
                      exact Eq.mp (by kernel_rfl) hS
                    · intro Ep15u3 w l' hE15u3 hO15u3 hF_ hS
                      obtain ⟨q5g, q3h, -⟩ := hF_
                      replace q5g : Ep15u3 69 = .int .i64 x69u3 := Eq.mp (by kernel_rfl) q5g
                      replace q3h : Ep15u3 71 = .pointer (some ⟨b4, 3, none⟩) := Eq.mp (by kernel_rfl) q3h
                      replace hS : St w0 w (cells b4 183 [.int .u16 x25, .bool q0j.1, .int .i64 q6, .int .i64 0, .int .i64 0, .int .i64 0, .slice none 0 0, .slice none 0 0, .slice none 0 0, .slice none 0 0] :: l') := Eq.mp (by kernel_rfl) hS
                      refine o_store1 (v := .int .i64 x69u3) one_3 q3h q5g rfl rfl hS (fun w' hS => ?_)
                      refine x_done <|
                        ?_
                      refine x_fin ⟨⟨undef, rfl⟩, trivial, ?_⟩
                      exact Eq.mp (by kernel_rfl) hS
                  intro Ep15u3 w' hE15u3 hF_ hS
                  obtain ⟨q5f, q57, q58, q59, q5d, q5b, q5a, q5c, q5e, q5g, q3g, q3h, -⟩ := hF_
                  replace q5f : Ep15u3 60 = .int .i64 1 := Eq.mp (by kernel_rfl) q5f
                  replace q57 : Ep15u3 61 = .pointer (some ⟨b3, 2, none⟩) := Eq.mp (by kernel_rfl) q57
                  replace q58 : Ep15u3 62 = .int .i64 q4.1 := Eq.mp (by kernel_rfl) q58
                  replace q59 : Ep15u3 63 = .int .i64 x63u3 := Eq.mp (by kernel_rfl) q59
                  replace q5d : Ep15u3 64 = .int .i64 x64u3 := Eq.mp (by kernel_rfl) q5d
                  replace q5b : Ep15u3 65 = .pointer (some ⟨q5, 0, none⟩) := Eq.mp (by kernel_rfl) q5b
                  replace q5a : Ep15u3 66 = .pointer (some ⟨b3, 2, none⟩) := Eq.mp (by kernel_rfl) q5a
                  replace q5c : Ep15u3 67 = .int .i64 q4.1 := Eq.mp (by kernel_rfl) q5c
                  replace q5e : Ep15u3 68 = .int .i64 q56.1 := Eq.mp (by kernel_rfl) q5e
                  replace q5g : Ep15u3 69 = .int .i64 x69u3 := Eq.mp (by kernel_rfl) q5g
                  replace q3g : Ep15u3 70 = .pointer (some ⟨b4, 2, none⟩) := Eq.mp (by kernel_rfl) q3g
                  replace q3h : Ep15u3 71 = .pointer (some ⟨b4, 3, none⟩) := Eq.mp (by kernel_rfl) q3h
                  replace hS : St w0 w' (cells b3 81 [.int .i64 q0b.1, .int .i64 q0c.1, .int .i64 q4.1, .slice q3 q2.length c_b3_3_L3h, .slice none 0 0, .slice none 0 0] :: ro q0a :: cells q5 25 [.slice q7 s0.L.length c_s0_0, .int .i64 q56.2] :: cells b4 183 [.int .u16 x25, .bool q0j.1, .int .i64 q6, .int .i64 x69u3, .int .i64 0, .int .i64 0, .slice none 0 0, .slice none 0 0, .slice none 0 0, .slice none 0 0] :: (cells b2 81 [.int .i64 0, .int .i64 0, .int .i64 0, .slice none 0 0, .slice none 0 0, .slice none 0 0] :: vec 183 R_array_Tile.sz (.slice q3 q2.length c_b3_3_L3h) q2.length q9 :: l)) := Eq.mp (by kernel_rfl) hS
                  exact x_inv ⟨q56.2, x69u3, (Option.some.inj (show some _ = some _ from hFc58u3)), ((hE15u3 0 rfl).trans q6x), ((hE15u3 2 rfl).trans qb8), ((hE15u3 3 rfl).trans q2k), ((hE15u3 4 rfl).trans q6y), ((hE15u3 20 rfl).trans q91), ((hE15u3 21 rfl).trans q92), ((hE15u3 29 rfl).trans q93), ((((((hS.pull 1).pull 5).pull 4).pull 3).pull 5).pull 5)⟩
                · replace hFc58u3 := it_f hc58u3 hFc58u3
                  refine x_skip <|
                    ?_
                  exact x_inv ⟨q1s.2, 0, (Option.some.inj (show some _ = some _ from hFc58u3)), q6x, qb8, q2k, q6y, q91, q92, q93, ((((((hS.pull 5).pull 5).pull 5).pull 5).pull 5).pull 5)⟩
              rintro E w ⟨q2r, q44, rfl, qf7, qf8, qf9, qfa, qdi, qdj, qdk, hS⟩
              exact x_inv ⟨q2r, q44, (Option.some.inj (show some _ = some _ from q0n)), qf7, qf8, qf9, qfa, qdi, qdj, qdk, ((((((hS.pull 5).pull 5).pull 5).pull 5).pull 5).pull 5)⟩
          rintro E w ⟨q27, q2q, rfl, qcx, qcy, qcz, qd0, qch, qci, qcj, hS⟩
          exact x_inv ⟨q27, q2q, (Option.some.inj (show some _ = some _ from hFc34u3)), qcx, qcy, qcz, qd0, qch, qci, qcj, ((((((hS.pull 5).pull 5).pull 5).pull 5).pull 5).pull 5)⟩
      rintro E w ⟨q6w, q8, rfl, q82, qb9, q83, q84, q94, q95, qdl, hS⟩
      replace hFL3 := bd_s hFL3; obtain ⟨q1t, qh3, hFL3⟩ := hFL3
      refine x_blk <| x_blk <| x_region <| p (yadd (c := 2) qdl rfl ⟨rfl, by decide⟩) <|
        p (yl_move rfl) <| x_done <| x_un 2 <| x_seq <|
        x_region <| p (ylss_l (t := true) rfl rfl (by decide)) <| x_done <| x_seq <|
        x_cond_t (show ev _ _ = .bool true from rfl) <| x_skip <| x_seq <| x_block <|
        x_seq <| x_region <| p (yl_move rfl) <| p (yl_assign rfl) <|
        x_done <| x_seq <| x_region <| p (yl_move q82) <|
        ?_
      have hcall := c_maskmake_Stream_Next qh3 (q0w.le q0v) ((hS.pull 5).pull 1)
      refine o_cc call_15 (args2 rfl rfl) hcall ?_
      rintro e w' ⟨rfl, hS⟩
      refine ⟨_, rfl, ?_⟩
      refine x_done <| x_block <| x_seq <| x_region <|
        p (yl_eql rfl rfl) <| p (yl_assign rfl) <| x_done <|
        ?_
      replace hFL3 := bd_s hFL3; obtain ⟨oc34u2, hFc34u2, hFL3⟩ := hFL3
      refine x_join (fun E w => ∃ (q6z : Int) (q0f : Int), (q6z, q0f) = oc34u2 ∧ E 0 = .pointer (some ⟨q5, 0, none⟩) ∧ E 2 = .pointer (some ⟨b2, 0, none⟩) ∧ E 3 = .pointer (some ⟨b3, 0, none⟩) ∧ E 4 = .pointer (some ⟨b4, 0, none⟩) ∧ E 20 = .int .i64 x20 ∧ E 21 = .int .i64 q0s ∧ E 29 = .int .i64 2 ∧ St w0 w (cells q5 25 [.slice q7 s0.L.length c_s0_0, .int .i64 q6z] :: cells b2 81 [.int .i64 0, .int .i64 0, .int .i64 0, .slice none 0 0, .slice none 0 0, .slice none 0 0] :: cells b3 81 [.int .i64 q0b.1, .int .i64 q0c.1, .int .i64 q4.1, .slice q3 q2.length c_b3_3_L3h, .slice none 0 0, .slice none 0 0] :: cells b4 183 [.int .u16 x25, .bool q0j.1, .int .i64 q6, .int .i64 q8, .int .i64 q0f, .int .i64 0, .slice none 0 0, .slice none 0 0, .slice none 0 0, .slice none 0 0] :: vec 183 R_array_Tile.sz (.slice q3 q2.length c_b3_3_L3h) q2.length q9 :: ro q0a :: l)) ?_ ?_
      · skip -- c34u2
        refine x_cond_p (q1t.1 = 0) rfl (fun hc34u2 => ?_) (fun hc34u2 => ?_)
        · replace hFc34u2 := it_t hc34u2 hFc34u2
          replace hFc34u2 := ar_s hFc34u2; obtain ⟨x39u2, hx39u2, hFc34u2⟩ := hFc34u2
          replace hFc34u2 := ar_s hFc34u2; obtain ⟨x40u2, hx40u2, hFc34u2⟩ := hFc34u2
          refine x_region <| p (yl_move rfl) <| p (yl_field0 fld_81_2 q83) <| pa (at_load one_3 rfl ((hS.pull 3).cell rfl)) <|
            p (ymul rfl rfl hx39u2) <| p (yadd rfl rfl hx40u2) <| p (yl_field0 fld_183_2 q84) <| p (yl_ixa (x := .tmp 41) (y := .tmp 36) (q := 4) arr_180 rfl rfl (by decide) rfl) <|
            ?_
          refine o_store1 (v := .int .i64 x40u2) one_3 rfl rfl rfl rfl (hS.pull 4) (fun w' hS => ?_)
          refine x_done <|
            ?_
          exact x_inv ⟨q1t.2, x40u2, (Option.some.inj (show some _ = some _ from hFc34u2)), q82, qb9, q83, q84, q94, q95, rfl, ((((((hS.pull 2).pull 5).pull 2).pull 5).pull 5).pull 5)⟩
        · replace hFc34u2 := it_f hc34u2 hFc34u2
          refine x_seq <| x_seq <| x_region <| p (yl_eql rfl rfl) <|
            p (yl_assign rfl) <| x_done <|
            ?_
          replace hFc34u2 := bd_s hFc34u2; obtain ⟨oc43u2, hFc43u2, hFc34u2⟩ := hFc34u2
          refine x_join (fun E w => ∃ (q7c : Bool), q7c = oc43u2 ∧ E 0 = .pointer (some ⟨q5, 0, none⟩) ∧ E 2 = .pointer (some ⟨b2, 0, none⟩) ∧ E 3 = .pointer (some ⟨b3, 0, none⟩) ∧ E 4 = .pointer (some ⟨b4, 0, none⟩) ∧ E 5 = .int .i64 2 ∧ E 20 = .int .i64 x20 ∧ E 21 = .int .i64 q0s ∧ E 29 = .int .i64 2 ∧ E 33 = .int .i64 q1t.1 ∧ E 43 = .bool q7c ∧ St w0 w (cells q5 25 [.slice q7 s0.L.length c_s0_0, .int .i64 q1t.2] :: cells b2 81 [.int .i64 0, .int .i64 0, .int .i64 0, .slice none 0 0, .slice none 0 0, .slice none 0 0] :: cells b3 81 [.int .i64 q0b.1, .int .i64 q0c.1, .int .i64 q4.1, .slice q3 q2.length c_b3_3_L3h, .slice none 0 0, .slice none 0 0] :: cells b4 183 [.int .u16 x25, .bool q0j.1, .int .i64 q6, .int .i64 q8, .int .i64 0, .int .i64 0, .slice none 0 0, .slice none 0 0, .slice none 0 0, .slice none 0 0] :: vec 183 R_array_Tile.sz (.slice q3 q2.length c_b3_3_L3h) q2.length q9 :: ro q0a :: l)) ?_ ?_
          · skip -- c43u2
            refine x_cond_p (q1t.1 = 1) rfl (fun hc43u2 => ?_) (fun hc43u2 => ?_)
            · replace hFc43u2 := it_t hc43u2 hFc43u2
              refine x_skip <|
                ?_
              exact x_inv ⟨decide (q1t.1 = 1), (Option.some.inj (show some _ = some _ from hFc43u2)), q82, qb9, q83, q84, rfl, q94, q95, rfl, rfl, rfl, ((((((hS.pull 1).pull 5).pull 5).pull 5).pull 5).pull 5)⟩
            · replace hFc43u2 := it_f hc43u2 hFc43u2
              refine x_region <| p (yl_eql rfl rfl) <| p (yl_assign rfl) <| x_done <|
                ?_
              exact x_inv ⟨decide (q1t.1 = 2), (Option.some.inj (show some _ = some _ from hFc43u2)), q82, qb9, q83, q84, rfl, q94, q95, rfl, rfl, rfl, ((((((hS.pull 1).pull 5).pull 5).pull 5).pull 5).pull 5)⟩
          rintro E w ⟨q7c, rfl, q70, qba, q2l, q71, qc4, q96, q97, q98, qdm, qdn, hS⟩
          replace hFc34u2 := bd_s hFc34u2; obtain ⟨qfb, q0o, hFc34u2⟩ := hFc34u2
          refine x_join (fun E w => ∃ (q28 : Int) (q2s : Int), (q28, q2s) = qfb ∧ E 0 = .pointer (some ⟨q5, 0, none⟩) ∧ E 2 = .pointer (some ⟨b2, 0, none⟩) ∧ E 3 = .pointer (some ⟨b3, 0, none⟩) ∧ E 4 = .pointer (some ⟨b4, 0, none⟩) ∧ E 20 = .int .i64 x20 ∧ E 21 = .int .i64 q0s ∧ E 29 = .int .i64 2 ∧ St w0 w (cells q5 25 [.slice q7 s0.L.length c_s0_0, .int .i64 q28] :: cells b2 81 [.int .i64 0, .int .i64 0, .int .i64 0, .slice none 0 0, .slice none 0 0, .slice none 0 0] :: cells b3 81 [.int .i64 q0b.1, .int .i64 q0c.1, .int .i64 q4.1, .slice q3 q2.length c_b3_3_L3h, .slice none 0 0, .slice none 0 0] :: cells b4 183 [.int .u16 x25, .bool q0j.1, .int .i64 q6, .int .i64 q8, .int .i64 q2s, .int .i64 0, .slice none 0 0, .slice none 0 0, .slice none 0 0, .slice none 0 0] :: vec 183 R_array_Tile.sz (.slice q3 q2.length c_b3_3_L3h) q2.length q9 :: ro q0a :: l)) ?_ ?_
          · skip -- qhy
            refine x_cond (t := q7c) qdn (fun hc43u2 => ?_) (fun hc43u2 => ?_)
            · replace q0o := it_t hc43u2 q0o
              replace q0o := ar_s q0o; obtain ⟨x49u2, hx49u2, q0o⟩ := q0o
              replace q0o := ar_s q0o; obtain ⟨x50u2, hx50u2, q0o⟩ := q0o
              replace q0o := bd_s q0o; obtain ⟨q5h, qfc, q0o⟩ := q0o
              replace q0o := ar_s q0o; obtain ⟨x55u2, hx55u2, q0o⟩ := q0o
              refine x_par (w0 := w0) [⟨[], [], [46], [], [], []⟩, ⟨[], [], [47], [], [], []⟩, ⟨[1], [1], [48], [0], [], []⟩, ⟨[1, 2], [2], [49], [], [], []⟩, ⟨[1, 2, 3], [3], [50], [], [], []⟩, ⟨[], [], [51], [], [], []⟩, ⟨[], [], [52], [], [], []⟩, ⟨[6], [6], [53], [0], [], []⟩, ⟨[5, 6, 7], [5, 7], [54], [2], [1], [3]⟩, ⟨[1, 2, 3, 4, 5, 6, 7, 8], [4, 8], [55], [], [], []⟩, ⟨[], [], [56], [], [], []⟩, ⟨[0, 1, 2, 3, 4, 5, 6, 7, 8, 9, 10], [0, 10], [57], [], [], []⟩, ⟨[0, 1, 2, 3, 4, 5, 6, 7, 8, 9, 10, 11], [9, 11], [], [], [4], [5]⟩] [⟨none, none, []⟩, ⟨none, (some 8), []⟩, ⟨none, none, []⟩, ⟨(some 8), none, []⟩, ⟨none, (some 12), []⟩, ⟨(some 12), none, []⟩] [46, 47, 48, 49, 50, 51, 52, 53, 54, 55, 56, 57] [0, 1, 2, 4] [0, 2, 3, 5] [0, 1, 2, 3, 4, 5, 6, 7, 8, 9, 10, 11] [fun Ep13u2 => Ep13u2 46 = .int .i64 2, fun Ep13u2 => Ep13u2 47 = .pointer (some ⟨b3, 2, none⟩), fun Ep13u2 => Ep13u2 48 = .int .i64 q4.1, fun Ep13u2 => Ep13u2 49 = .int .i64 x49u2, fun Ep13u2 => Ep13u2 50 = .int .i64 x50u2, fun Ep13u2 => Ep13u2 51 = .pointer (some ⟨q5, 0, none⟩), fun Ep13u2 => Ep13u2 52 = .pointer (some ⟨b3, 2, none⟩), fun Ep13u2 => Ep13u2 53 = .int .i64 q4.1, fun Ep13u2 => Ep13u2 54 = .int .i64 q5h.1, fun Ep13u2 => Ep13u2 55 = .int .i64 x55u2, fun Ep13u2 => Ep13u2 56 = .pointer (some ⟨b4, 2, none⟩), fun Ep13u2 => Ep13u2 57 = .pointer (some ⟨b4, 4, none⟩), fun Ep13u2 => True] [fun Ep13u2 => cells b3 81 [.int .i64 q0b.1, .int .i64 q0c.1, .int .i64 q4.1, .slice q3 q2.length c_b3_3_L3h, .slice none 0 0, .slice none 0 0], fun Ep13u2 => cells q5 25 [.slice q7 s0.L.length c_s0_0, .int .i64 q1t.2], fun Ep13u2 => ro q0a, fun Ep13u2 => cells q5 25 [.slice q7 s0.L.length c_s0_0, .int .i64 q5h.2], fun Ep13u2 => cells b4 183 [.int .u16 x25, .bool q0j.1, .int .i64 q6, .int .i64 q8, .int .i64 0, .int .i64 0, .slice none 0 0, .slice none 0 0, .slice none 0 0, .slice none 0 0], fun Ep13u2 => cells b4 183 [.int .u16 x25, .bool q0j.1, .int .i64 q6, .int .i64 q8, .int .i64 x55u2, .int .i64 0, .slice none 0 0, .slice none 0 0, .slice none 0 0, .slice none 0 0]] mixed (by kernel_rfl) ((((hS.pull 3).pull 5).pull 2).pull 4) ?_ ?_
              · refine ⟨?_, ?_, ?_, ?_, ?_, ?_, ?_, ?_, ?_, ?_, ?_, ?_, ?_, trivial⟩
                · intro Ep13u2 w l' hE13u2 hO13u2 hF_ hS
                  refine p (yl_move ((hE13u2 5 rfl).trans qc4)) <| x_done <|
                    ?_
                  refine x_fin ⟨⟨_, rfl⟩, rfl, ?_⟩
                  exact Eq.mp (by kernel_rfl) hS
                · intro Ep13u2 w l' hE13u2 hO13u2 hF_ hS
                  refine p (yl_field0 fld_81_2 ((hE13u2 3 rfl).trans q2l)) <| x_done <|
                    ?_
                  refine x_fin ⟨⟨_, rfl⟩, rfl, ?_⟩
                  exact Eq.mp (by kernel_rfl) hS
                · intro Ep13u2 w l' hE13u2 hO13u2 hF_ hS
                  obtain ⟨q5i, -⟩ := hF_
                  replace q5i : Ep13u2 47 = .pointer (some ⟨b3, 2, none⟩) := Eq.mp (by kernel_rfl) q5i
                  replace hS : St w0 w (cells b3 81 [.int .i64 q0b.1, .int .i64 q0c.1, .int .i64 q4.1, .slice q3 q2.length c_b3_3_L3h, .slice none 0 0, .slice none 0 0] :: l') := Eq.mp (by kernel_rfl) hS
                  refine pa (at_load one_3 q5i (hS.cell rfl)) <| x_done <|
                    ?_
                  refine x_fin ⟨⟨_, rfl⟩, rfl, ?_⟩
                  exact Eq.mp (by kernel_rfl) hS
                · intro Ep13u2 w l' hE13u2 hO13u2 hF_ hS
                  obtain ⟨q5j, -⟩ := hF_
                  replace q5j : Ep13u2 48 = .int .i64 q4.1 := Eq.mp (by kernel_rfl) q5j
                  refine p (ymul rfl q5j hx49u2) <| x_done <|
                    ?_
                  refine x_fin ⟨⟨_, rfl⟩, rfl, ?_⟩
                  exact Eq.mp (by kernel_rfl) hS
                · intro Ep13u2 w l' hE13u2 hO13u2 hF_ hS
                  obtain ⟨q5k, -⟩ := hF_
                  replace q5k : Ep13u2 49 = .int .i64 x49u2 := Eq.mp (by kernel_rfl) q5k
                  refine p (yadd rfl q5k hx50u2) <| x_done <|
                    ?_
                  refine x_fin ⟨⟨_, rfl⟩, rfl, ?_⟩
                  exact Eq.mp (by kernel_rfl) hS
                · intro Ep13u2 w l' hE13u2 hO13u2 hF_ hS
                  refine p (yl_move ((hE13u2 0 rfl).trans q70)) <| x_done <|
                    ?_
                  refine x_fin ⟨⟨_, rfl⟩, rfl, ?_⟩
                  exact Eq.mp (by kernel_rfl) hS
                · intro Ep13u2 w l' hE13u2 hO13u2 hF_ hS
                  refine p (yl_field0 fld_81_2 ((hE13u2 3 rfl).trans q2l)) <| x_done <|
                    ?_
                  refine x_fin ⟨⟨_, rfl⟩, rfl, ?_⟩
                  exact Eq.mp (by kernel_rfl) hS
                · intro Ep13u2 w l' hE13u2 hO13u2 hF_ hS
                  obtain ⟨q5l, -⟩ := hF_
                  replace q5l : Ep13u2 52 = .pointer (some ⟨b3, 2, none⟩) := Eq.mp (by kernel_rfl) q5l
                  replace hS : St w0 w (cells b3 81 [.int .i64 q0b.1, .int .i64 q0c.1, .int .i64 q4.1, .slice q3 q2.length c_b3_3_L3h, .slice none 0 0, .slice none 0 0] :: l') := Eq.mp (by kernel_rfl) hS
                  refine pa (at_load one_3 q5l (hS.cell rfl)) <| x_done <|
                    ?_
                  refine x_fin ⟨⟨_, rfl⟩, rfl, ?_⟩
                  exact Eq.mp (by kernel_rfl) hS
                · intro Ep13u2 w l' hE13u2 hO13u2 hF_ hS
                  obtain ⟨q5m, q5n, -⟩ := hF_
                  replace q5m : Ep13u2 51 = .pointer (some ⟨q5, 0, none⟩) := Eq.mp (by kernel_rfl) q5m
                  replace q5n : Ep13u2 53 = .int .i64 q4.1 := Eq.mp (by kernel_rfl) q5n
                  replace hS : St w0 w (ro q0a :: cells q5 25 [.slice q7 s0.L.length c_s0_0, .int .i64 q1t.2] :: l') := Eq.mp (by kernel_rfl) hS
                  have hcall := c_maskmake_Stream_Next qfc (q0w.le q0v) (hS.pull 1)
                  refine o_cc call_15 (args2 q5m q5n) hcall ?_
                  rintro e w' ⟨rfl, hS⟩
                  refine ⟨_, rfl, ?_⟩
                  refine x_done <|
                    ?_
                  refine x_fin ⟨⟨_, rfl⟩, rfl, ?_⟩
                  exact Eq.mp (by kernel_rfl) (hS.pull 1)
                · intro Ep13u2 w l' hE13u2 hO13u2 hF_ hS
                  obtain ⟨q5o, q5p, -⟩ := hF_
                  replace q5o : Ep13u2 50 = .int .i64 x50u2 := Eq.mp (by kernel_rfl) q5o
                  replace q5p : Ep13u2 54 = .int .i64 q5h.1 := Eq.mp (by kernel_rfl) q5p
                  refine p (yadd q5o q5p hx55u2) <| x_done <|
                    ?_
                  refine x_fin ⟨⟨_, rfl⟩, rfl, ?_⟩
                  exact Eq.mp (by kernel_rfl) hS
                · intro Ep13u2 w l' hE13u2 hO13u2 hF_ hS
                  refine p (yl_field0 fld_183_2 ((hE13u2 4 rfl).trans q71)) <| x_done <|
                    ?_
                  refine x_fin ⟨⟨_, rfl⟩, rfl, ?_⟩
                  exact Eq.mp (by kernel_rfl) hS
                · intro Ep13u2 w l' hE13u2 hO13u2 hF_ hS
                  obtain ⟨q5q, q3i, -⟩ := hF_
                  replace q5q : Ep13u2 46 = .int .i64 2 := Eq.mp (by kernel_rfl) q5q
                  replace q3i : Ep13u2 56 = .pointer (some ⟨b4, 2, none⟩) := Eq.mp (by kernel_rfl) q3i
                  refine p (yl_ixa (x := .tmp 56) (y := .tmp 46) (q := 4) arr_180 q3i q5q (by decide) rfl) <| x_done <|
                    ?_
                  refine x_fin ⟨⟨_, rfl⟩, rfl, ?_⟩
                  exact Eq.mp (by kernel_rfl) hS
                · intro Ep13u2 w l' hE13u2 hO13u2 hF_ hS
                  obtain ⟨q5r, q3j, -⟩ := hF_
                  replace q5r : Ep13u2 55 = .int .i64 x55u2 := Eq.mp (by kernel_rfl) q5r
                  replace q3j : Ep13u2 57 = .pointer (some ⟨b4, 4, none⟩) := Eq.mp (by kernel_rfl) q3j
                  replace hS : St w0 w (cells b4 183 [.int .u16 x25, .bool q0j.1, .int .i64 q6, .int .i64 q8, .int .i64 0, .int .i64 0, .slice none 0 0, .slice none 0 0, .slice none 0 0, .slice none 0 0] :: l') := Eq.mp (by kernel_rfl) hS
                  refine o_store1 (v := .int .i64 x55u2) one_3 q3j q5r rfl rfl hS (fun w' hS => ?_)
                  refine x_done <|
                    ?_
                  refine x_fin ⟨⟨undef, rfl⟩, trivial, ?_⟩
                  exact Eq.mp (by kernel_rfl) hS
              intro Ep13u2 w' hE13u2 hF_ hS
              obtain ⟨q5q, q5i, q5j, q5k, q5o, q5m, q5l, q5n, q5p, q5r, q3i, q3j, -⟩ := hF_
              replace q5q : Ep13u2 46 = .int .i64 2 := Eq.mp (by kernel_rfl) q5q
              replace q5i : Ep13u2 47 = .pointer (some ⟨b3, 2, none⟩) := Eq.mp (by kernel_rfl) q5i
              replace q5j : Ep13u2 48 = .int .i64 q4.1 := Eq.mp (by kernel_rfl) q5j
              replace q5k : Ep13u2 49 = .int .i64 x49u2 := Eq.mp (by kernel_rfl) q5k
              replace q5o : Ep13u2 50 = .int .i64 x50u2 := Eq.mp (by kernel_rfl) q5o
              replace q5m : Ep13u2 51 = .pointer (some ⟨q5, 0, none⟩) := Eq.mp (by kernel_rfl) q5m
              replace q5l : Ep13u2 52 = .pointer (some ⟨b3, 2, none⟩) := Eq.mp (by kernel_rfl) q5l
              replace q5n : Ep13u2 53 = .int .i64 q4.1 := Eq.mp (by kernel_rfl) q5n
              replace q5p : Ep13u2 54 = .int .i64 q5h.1 := Eq.mp (by kernel_rfl) q5p
              replace q5r : Ep13u2 55 = .int .i64 x55u2 := Eq.mp (by kernel_rfl) q5r
              replace q3i : Ep13u2 56 = .pointer (some ⟨b4, 2, none⟩) := Eq.mp (by kernel_rfl) q3i
              replace q3j : Ep13u2 57 = .pointer (some ⟨b4, 4, none⟩) := Eq.mp (by kernel_rfl) q3j
              replace hS : St w0 w' (cells b3 81 [.int .i64 q0b.1, .int .i64 q0c.1, .int .i64 q4.1, .slice q3 q2.length c_b3_3_L3h, .slice none 0 0, .slice none 0 0] :: ro q0a :: cells q5 25 [.slice q7 s0.L.length c_s0_0, .int .i64 q5h.2] :: cells b4 183 [.int .u16 x25, .bool q0j.1, .int .i64 q6, .int .i64 q8, .int .i64 x55u2, .int .i64 0, .slice none 0 0, .slice none 0 0, .slice none 0 0, .slice none 0 0] :: (cells b2 81 [.int .i64 0, .int .i64 0, .int .i64 0, .slice none 0 0, .slice none 0 0, .slice none 0 0] :: vec 183 R_array_Tile.sz (.slice q3 q2.length c_b3_3_L3h) q2.length q9 :: l)) := Eq.mp (by kernel_rfl) hS
              exact x_inv ⟨q5h.2, x55u2, (Option.some.inj (show some _ = some _ from q0o)), ((hE13u2 0 rfl).trans q70), ((hE13u2 2 rfl).trans qba), ((hE13u2 3 rfl).trans q2l), ((hE13u2 4 rfl).trans q71), ((hE13u2 20 rfl).trans q96), ((hE13u2 21 rfl).trans q97), ((hE13u2 29 rfl).trans q98), ((((((hS.pull 1).pull 5).pull 4).pull 3).pull 5).pull 5)⟩
            · replace q0o := it_bf hc43u2 q0o
              refine x_seq <| x_region <| p (yl_eql qdm rfl) <| p (yl_assign rfl) <|
                x_done <|
                ?_
              replace q0o := bd_s q0o; obtain ⟨oc58u2, hFc58u2, q0o⟩ := q0o
              refine x_join (fun E w => ∃ (q2t : Int) (q45 : Int), (q2t, q45) = oc58u2 ∧ E 0 = .pointer (some ⟨q5, 0, none⟩) ∧ E 2 = .pointer (some ⟨b2, 0, none⟩) ∧ E 3 = .pointer (some ⟨b3, 0, none⟩) ∧ E 4 = .pointer (some ⟨b4, 0, none⟩) ∧ E 20 = .int .i64 x20 ∧ E 21 = .int .i64 q0s ∧ E 29 = .int .i64 2 ∧ St w0 w (cells q5 25 [.slice q7 s0.L.length c_s0_0, .int .i64 q2t] :: cells b2 81 [.int .i64 0, .int .i64 0, .int .i64 0, .slice none 0 0, .slice none 0 0, .slice none 0 0] :: cells b3 81 [.int .i64 q0b.1, .int .i64 q0c.1, .int .i64 q4.1, .slice q3 q2.length c_b3_3_L3h, .slice none 0 0, .slice none 0 0] :: cells b4 183 [.int .u16 x25, .bool q0j.1, .int .i64 q6, .int .i64 q8, .int .i64 q45, .int .i64 0, .slice none 0 0, .slice none 0 0, .slice none 0 0, .slice none 0 0] :: vec 183 R_array_Tile.sz (.slice q3 q2.length c_b3_3_L3h) q2.length q9 :: ro q0a :: l)) ?_ ?_
              · skip -- c58u2
                refine x_cond_p (q1t.1 = 3) rfl (fun hc58u2 => ?_) (fun hc58u2 => ?_)
                · replace hFc58u2 := it_t hc58u2 hFc58u2
                  replace hFc58u2 := ar_s hFc58u2; obtain ⟨x63u2, hx63u2, hFc58u2⟩ := hFc58u2
                  replace hFc58u2 := ar_s hFc58u2; obtain ⟨x64u2, hx64u2, hFc58u2⟩ := hFc58u2
                  replace hFc58u2 := bd_s hFc58u2; obtain ⟨q5s, qfd, hFc58u2⟩ := hFc58u2
                  replace hFc58u2 := ar_s hFc58u2; obtain ⟨x69u2, hx69u2, hFc58u2⟩ := hFc58u2
                  refine x_par (w0 := w0) [⟨[], [], [60], [], [], []⟩, ⟨[], [], [61], [], [], []⟩, ⟨[1], [1], [62], [0], [], []⟩, ⟨[1, 2], [2], [63], [], [], []⟩, ⟨[1, 2, 3], [3], [64], [], [], []⟩, ⟨[], [], [65], [], [], []⟩, ⟨[], [], [66], [], [], []⟩, ⟨[6], [6], [67], [0], [], []⟩, ⟨[5, 6, 7], [5, 7], [68], [2], [1], [3]⟩, ⟨[1, 2, 3, 4, 5, 6, 7, 8], [4, 8], [69], [], [], []⟩, ⟨[], [], [70], [], [], []⟩, ⟨[0, 1, 2, 3, 4, 5, 6, 7, 8, 9, 10], [0, 10], [71], [], [], []⟩, ⟨[0, 1, 2, 3, 4, 5, 6, 7, 8, 9, 10, 11], [9, 11], [], [], [4], [5]⟩] [⟨none, none, []⟩, ⟨none, (some 8), []⟩, ⟨none, none, []⟩, ⟨(some 8), none, []⟩, ⟨none, (some 12), []⟩, ⟨(some 12), none, []⟩] [60, 61, 62, 63, 64, 65, 66, 67, 68, 69, 70, 71] [0, 1, 2, 4] [0, 2, 3, 5] [0, 1, 2, 3, 4, 5, 6, 7, 8, 9, 10, 11] [fun Ep15u2 => Ep15u2 60 = .int .i64 2, fun Ep15u2 => Ep15u2 61 = .pointer (some ⟨b3, 2, none⟩), fun Ep15u2 => Ep15u2 62 = .int .i64 q4.1, fun Ep15u2 => Ep15u2 63 = .int .i64 x63u2, fun Ep15u2 => Ep15u2 64 = .int .i64 x64u2, fun Ep15u2 => Ep15u2 65 = .pointer (some ⟨q5, 0, none⟩), fun Ep15u2 => Ep15u2 66 = .pointer (some ⟨b3, 2, none⟩), fun Ep15u2 => Ep15u2 67 = .int .i64 q4.1, fun Ep15u2 => Ep15u2 68 = .int .i64 q5s.1, fun Ep15u2 => Ep15u2 69 = .int .i64 x69u2, fun Ep15u2 => Ep15u2 70 = .pointer (some ⟨b4, 2, none⟩), fun Ep15u2 => Ep15u2 71 = .pointer (some ⟨b4, 4, none⟩), fun Ep15u2 => True] [fun Ep15u2 => cells b3 81 [.int .i64 q0b.1, .int .i64 q0c.1, .int .i64 q4.1, .slice q3 q2.length c_b3_3_L3h, .slice none 0 0, .slice none 0 0], fun Ep15u2 => cells q5 25 [.slice q7 s0.L.length c_s0_0, .int .i64 q1t.2], fun Ep15u2 => ro q0a, fun Ep15u2 => cells q5 25 [.slice q7 s0.L.length c_s0_0, .int .i64 q5s.2], fun Ep15u2 => cells b4 183 [.int .u16 x25, .bool q0j.1, .int .i64 q6, .int .i64 q8, .int .i64 0, .int .i64 0, .slice none 0 0, .slice none 0 0, .slice none 0 0, .slice none 0 0], fun Ep15u2 => cells b4 183 [.int .u16 x25, .bool q0j.1, .int .i64 q6, .int .i64 q8, .int .i64 x69u2, .int .i64 0, .slice none 0 0, .slice none 0 0, .slice none 0 0, .slice none 0 0]] mixed (by kernel_rfl) ((((hS.pull 3).pull 5).pull 2).pull 4) ?_ ?_
                  · refine ⟨?_, ?_, ?_, ?_, ?_, ?_, ?_, ?_, ?_, ?_, ?_, ?_, ?_, trivial⟩
                    · intro Ep15u2 w l' hE15u2 hO15u2 hF_ hS
                      refine p (yl_move ((hE15u2 5 rfl).trans qc4)) <| x_done <|
                        ?_
                      refine x_fin ⟨⟨_, rfl⟩, rfl, ?_⟩
                      exact Eq.mp (by kernel_rfl) hS
                    · intro Ep15u2 w l' hE15u2 hO15u2 hF_ hS
                      refine p (yl_field0 fld_81_2 ((hE15u2 3 rfl).trans q2l)) <| x_done <|
                        ?_
                      refine x_fin ⟨⟨_, rfl⟩, rfl, ?_⟩
                      exact Eq.mp (by kernel_rfl) hS
                    · intro Ep15u2 w l' hE15u2 hO15u2 hF_ hS
                      obtain ⟨q5t, -⟩ := hF_
                      replace q5t : Ep15u2 61 = .pointer (some ⟨b3, 2, none⟩) := Eq.mp (by kernel_rfl) q5t
                      replace hS : St w0 w (cells b3 81 [.int .i64 q0b.1, .int .i64 q0c.1, .int .i64 q4.1, .slice q3 q2.length c_b3_3_L3h, .slice none 0 0, .slice none 0 0] :: l') := Eq.mp (by kernel_rfl) hS
                      refine pa (at_load one_3 q5t (hS.cell rfl)) <| x_done <|
                        ?_
                      refine x_fin ⟨⟨_, rfl⟩, rfl, ?_⟩
                      exact Eq.mp (by kernel_rfl) hS
                    · intro Ep15u2 w l' hE15u2 hO15u2 hF_ hS
                      obtain ⟨q5u, -⟩ := hF_
                      replace q5u : Ep15u2 62 = .int .i64 q4.1 := Eq.mp (by kernel_rfl) q5u
                      refine p (ymul rfl q5u hx63u2) <| x_done <|
                        ?_
                      refine x_fin ⟨⟨_, rfl⟩, rfl, ?_⟩
                      exact Eq.mp (by kernel_rfl) hS
                    · intro Ep15u2 w l' hE15u2 hO15u2 hF_ hS
                      obtain ⟨q5v, -⟩ := hF_
                      replace q5v : Ep15u2 63 = .int .i64 x63u2 := Eq.mp (by kernel_rfl) q5v
                      refine p (yadd rfl q5v hx64u2) <| x_done <|
                        ?_
                      refine x_fin ⟨⟨_, rfl⟩, rfl, ?_⟩
                      exact Eq.mp (by kernel_rfl) hS
                    · intro Ep15u2 w l' hE15u2 hO15u2 hF_ hS
                      refine p (yl_move ((hE15u2 0 rfl).trans q70)) <| x_done <|
                        ?_
                      refine x_fin ⟨⟨_, rfl⟩, rfl, ?_⟩
                      exact Eq.mp (by kernel_rfl) hS
                    · intro Ep15u2 w l' hE15u2 hO15u2 hF_ hS
                      refine p (yl_field0 fld_81_2 ((hE15u2 3 rfl).trans q2l)) <| x_done <|
                        ?_
                      refine x_fin ⟨⟨_, rfl⟩, rfl, ?_⟩
                      exact Eq.mp (by kernel_rfl) hS
                    · intro Ep15u2 w l' hE15u2 hO15u2 hF_ hS
                      obtain ⟨q5w, -⟩ := hF_
                      replace q5w : Ep15u2 66 = .pointer (some ⟨b3, 2, none⟩) := Eq.mp (by kernel_rfl) q5w
                      replace hS : St w0 w (cells b3 81 [.int .i64 q0b.1, .int .i64 q0c.1, .int .i64 q4.1, .slice q3 q2.length c_b3_3_L3h, .slice none 0 0, .slice none 0 0] :: l') := Eq.mp (by kernel_rfl) hS
                      refine pa (at_load one_3 q5w (hS.cell rfl)) <| x_done <|
                        ?_
                      refine x_fin ⟨⟨_, rfl⟩, rfl, ?_⟩
                      exact Eq.mp (by kernel_rfl) hS
                    · intro Ep15u2 w l' hE15u2 hO15u2 hF_ hS
                      obtain ⟨q5x, q5y, -⟩ := hF_
                      replace q5x : Ep15u2 65 = .pointer (some ⟨q5, 0, none⟩) := Eq.mp (by kernel_rfl) q5x
                      replace q5y : Ep15u2 67 = .int .i64 q4.1 := Eq.mp (by kernel_rfl) q5y
                      replace hS : St w0 w (ro q0a :: cells q5 25 [.slice q7 s0.L.length c_s0_0, .int .i64 q1t.2] :: l') := Eq.mp (by kernel_rfl) hS
                      have hcall := c_maskmake_Stream_Next qfd (q0w.le q0v) (hS.pull 1)
                      refine o_cc call_15 (args2 q5x q5y) hcall ?_
                      rintro e w' ⟨rfl, hS⟩
                      refine ⟨_, rfl, ?_⟩
                      refine x_done <|
                        ?_
                      refine x_fin ⟨⟨_, rfl⟩, rfl, ?_⟩
                      exact Eq.mp (by kernel_rfl) (hS.pull 1)
                    · intro Ep15u2 w l' hE15u2 hO15u2 hF_ hS
                      obtain ⟨q5z, q60, -⟩ := hF_
                      replace q5z : Ep15u2 64 = .int .i64 x64u2 := Eq.mp (by kernel_rfl) q5z
                      replace q60 : Ep15u2 68 = .int .i64 q5s.1 := Eq.mp (by kernel_rfl) q60
                      refine p (yadd q5z q60 hx69u2) <| x_done <|
                        ?_
                      refine x_fin ⟨⟨_, rfl⟩, rfl, ?_⟩
                      exact Eq.mp (by kernel_rfl) hS
                    · intro Ep15u2 w l' hE15u2 hO15u2 hF_ hS
                      refine p (yl_field0 fld_183_2 ((hE15u2 4 rfl).trans q71)) <| x_done <|
                        ?_
                      refine x_fin ⟨⟨_, rfl⟩, rfl, ?_⟩
                      exact Eq.mp (by kernel_rfl) hS
                    · intro Ep15u2 w l' hE15u2 hO15u2 hF_ hS
                      obtain ⟨q61, q3k, -⟩ := hF_
                      replace q61 : Ep15u2 60 = .int .i64 2 := Eq.mp (by kernel_rfl) q61
                      replace q3k : Ep15u2 70 = .pointer (some ⟨b4, 2, none⟩) := Eq.mp (by kernel_rfl) q3k
                      refine p (yl_ixa (x := .tmp 70) (y := .tmp 60) (q := 4) arr_180 q3k q61 (by decide) rfl) <| x_done <|
                        ?_
                      refine x_fin ⟨⟨_, rfl⟩, rfl, ?_⟩
                      exact Eq.mp (by kernel_rfl) hS
                    · intro Ep15u2 w l' hE15u2 hO15u2 hF_ hS
                      obtain ⟨q62, q3l, -⟩ := hF_
                      replace q62 : Ep15u2 69 = .int .i64 x69u2 := Eq.mp (by kernel_rfl) q62
                      replace q3l : Ep15u2 71 = .pointer (some ⟨b4, 4, none⟩) := Eq.mp (by kernel_rfl) q3l
                      replace hS : St w0 w (cells b4 183 [.int .u16 x25, .bool q0j.1, .int .i64 q6, .int .i64 q8, .int .i64 0, .int .i64 0, .slice none 0 0, .slice none 0 0, .slice none 0 0, .slice none 0 0] :: l') := Eq.mp (by kernel_rfl) hS
                      refine o_store1 (v := .int .i64 x69u2) one_3 q3l q62 rfl rfl hS (fun w' hS => ?_)
                      refine x_done <|
                        ?_
                      refine x_fin ⟨⟨undef, rfl⟩, trivial, ?_⟩
                      exact Eq.mp (by kernel_rfl) hS
                  intro Ep15u2 w' hE15u2 hF_ hS
                  obtain ⟨q61, q5t, q5u, q5v, q5z, q5x, q5w, q5y, q60, q62, q3k, q3l, -⟩ := hF_
                  replace q61 : Ep15u2 60 = .int .i64 2 := Eq.mp (by kernel_rfl) q61
                  replace q5t : Ep15u2 61 = .pointer (some ⟨b3, 2, none⟩) := Eq.mp (by kernel_rfl) q5t
                  replace q5u : Ep15u2 62 = .int .i64 q4.1 := Eq.mp (by kernel_rfl) q5u
                  replace q5v : Ep15u2 63 = .int .i64 x63u2 := Eq.mp (by kernel_rfl) q5v
                  replace q5z : Ep15u2 64 = .int .i64 x64u2 := Eq.mp (by kernel_rfl) q5z
                  replace q5x : Ep15u2 65 = .pointer (some ⟨q5, 0, none⟩) := Eq.mp (by kernel_rfl) q5x
                  replace q5w : Ep15u2 66 = .pointer (some ⟨b3, 2, none⟩) := Eq.mp (by kernel_rfl) q5w
                  replace q5y : Ep15u2 67 = .int .i64 q4.1 := Eq.mp (by kernel_rfl) q5y
                  replace q60 : Ep15u2 68 = .int .i64 q5s.1 := Eq.mp (by kernel_rfl) q60
                  replace q62 : Ep15u2 69 = .int .i64 x69u2 := Eq.mp (by kernel_rfl) q62
                  replace q3k : Ep15u2 70 = .pointer (some ⟨b4, 2, none⟩) := Eq.mp (by kernel_rfl) q3k
                  replace q3l : Ep15u2 71 = .pointer (some ⟨b4, 4, none⟩) := Eq.mp (by kernel_rfl) q3l
                  replace hS : St w0 w' (cells b3 81 [.int .i64 q0b.1, .int .i64 q0c.1, .int .i64 q4.1, .slice q3 q2.length c_b3_3_L3h, .slice none 0 0, .slice none 0 0] :: ro q0a :: cells q5 25 [.slice q7 s0.L.length c_s0_0, .int .i64 q5s.2] :: cells b4 183 [.int .u16 x25, .bool q0j.1, .int .i64 q6, .int .i64 q8, .int .i64 x69u2, .int .i64 0, .slice none 0 0, .slice none 0 0, .slice none 0 0, .slice none 0 0] :: (cells b2 81 [.int .i64 0, .int .i64 0, .int .i64 0, .slice none 0 0, .slice none 0 0, .slice none 0 0] :: vec 183 R_array_Tile.sz (.slice q3 q2.length c_b3_3_L3h) q2.length q9 :: l)) := Eq.mp (by kernel_rfl) hS
                  exact x_inv ⟨q5s.2, x69u2, (Option.some.inj (show some _ = some _ from hFc58u2)), ((hE15u2 0 rfl).trans q70), ((hE15u2 2 rfl).trans qba), ((hE15u2 3 rfl).trans q2l), ((hE15u2 4 rfl).trans q71), ((hE15u2 20 rfl).trans q96), ((hE15u2 21 rfl).trans q97), ((hE15u2 29 rfl).trans q98), ((((((hS.pull 1).pull 5).pull 4).pull 3).pull 5).pull 5)⟩
                · replace hFc58u2 := it_f hc58u2 hFc58u2
                  refine x_skip <|
                    ?_
                  exact x_inv ⟨q1t.2, 0, (Option.some.inj (show some _ = some _ from hFc58u2)), q70, qba, q2l, q71, q96, q97, q98, ((((((hS.pull 5).pull 5).pull 5).pull 5).pull 5).pull 5)⟩
              rintro E w ⟨q2t, q45, rfl, qfe, qff, qfg, qfh, qdo, qdp, qdq, hS⟩
              exact x_inv ⟨q2t, q45, (Option.some.inj (show some _ = some _ from q0o)), qfe, qff, qfg, qfh, qdo, qdp, qdq, ((((((hS.pull 5).pull 5).pull 5).pull 5).pull 5).pull 5)⟩
          rintro E w ⟨q28, q2s, rfl, qd1, qd2, qd3, qd4, qck, qcl, qcm, hS⟩
          exact x_inv ⟨q28, q2s, (Option.some.inj (show some _ = some _ from hFc34u2)), qd1, qd2, qd3, qd4, qck, qcl, qcm, ((((((hS.pull 5).pull 5).pull 5).pull 5).pull 5).pull 5)⟩
      rintro E w ⟨q6z, q0f, rfl, q85, qbb, q86, q87, q99, q9a, qdr, hS⟩
      replace hFL3 := bd_s hFL3; obtain ⟨q1u, qh4, hFL3⟩ := hFL3
      refine x_blk <| x_blk <| x_region <| p (yadd (c := 3) qdr rfl ⟨rfl, by decide⟩) <|
        p (yl_move rfl) <| x_done <| x_un 1 <| x_seq <|
        x_region <| p (ylss_l (t := true) rfl rfl (by decide)) <| x_done <| x_seq <|
        x_cond_t (show ev _ _ = .bool true from rfl) <| x_skip <| x_seq <| x_block <|
        x_seq <| x_region <| p (yl_move rfl) <| p (yl_assign rfl) <|
        x_done <| x_seq <| x_region <| p (yl_move q85) <|
        ?_
      have hcall := c_maskmake_Stream_Next qh4 (q0w.le q0v) ((hS.pull 5).pull 1)
      refine o_cc call_15 (args2 rfl rfl) hcall ?_
      rintro e w' ⟨rfl, hS⟩
      refine ⟨_, rfl, ?_⟩
      refine x_done <| x_block <| x_seq <| x_region <|
        p (yl_eql rfl rfl) <| p (yl_assign rfl) <| x_done <|
        ?_
      replace hFL3 := bd_s hFL3; obtain ⟨oc34u1, hFc34u1, hFL3⟩ := hFL3
      refine x_join (fun E w => ∃ (q2u : Int) (q0t : Int), (q2u, q0t) = oc34u1 ∧ E 0 = .pointer (some ⟨q5, 0, none⟩) ∧ E 2 = .pointer (some ⟨b2, 0, none⟩) ∧ E 3 = .pointer (some ⟨b3, 0, none⟩) ∧ E 4 = .pointer (some ⟨b4, 0, none⟩) ∧ E 20 = .int .i64 x20 ∧ E 21 = .int .i64 q0s ∧ E 29 = .int .i64 3 ∧ St w0 w (cells q5 25 [.slice q7 s0.L.length c_s0_0, .int .i64 q2u] :: cells b2 81 [.int .i64 0, .int .i64 0, .int .i64 0, .slice none 0 0, .slice none 0 0, .slice none 0 0] :: cells b3 81 [.int .i64 q0b.1, .int .i64 q0c.1, .int .i64 q4.1, .slice q3 q2.length c_b3_3_L3h, .slice none 0 0, .slice none 0 0] :: cells b4 183 [.int .u16 x25, .bool q0j.1, .int .i64 q6, .int .i64 q8, .int .i64 q0f, .int .i64 q0t, .slice none 0 0, .slice none 0 0, .slice none 0 0, .slice none 0 0] :: vec 183 R_array_Tile.sz (.slice q3 q2.length c_b3_3_L3h) q2.length q9 :: ro q0a :: l)) ?_ ?_
      · skip -- c34u1
        refine x_cond_p (q1u.1 = 0) rfl (fun hc34u1 => ?_) (fun hc34u1 => ?_)
        · replace hFc34u1 := it_t hc34u1 hFc34u1
          replace hFc34u1 := ar_s hFc34u1; obtain ⟨x39u1, hx39u1, hFc34u1⟩ := hFc34u1
          replace hFc34u1 := ar_s hFc34u1; obtain ⟨x40u1, hx40u1, hFc34u1⟩ := hFc34u1
          refine x_region <| p (yl_move rfl) <| p (yl_field0 fld_81_2 q86) <| pa (at_load one_3 rfl ((hS.pull 3).cell rfl)) <|
            p (ymul rfl rfl hx39u1) <| p (yadd rfl rfl hx40u1) <| p (yl_field0 fld_183_2 q87) <| p (yl_ixa (x := .tmp 41) (y := .tmp 36) (q := 5) arr_180 rfl rfl (by decide) rfl) <|
            ?_
          refine o_store1 (v := .int .i64 x40u1) one_3 rfl rfl rfl rfl (hS.pull 4) (fun w' hS => ?_)
          refine x_done <|
            ?_
          exact x_inv ⟨q1u.2, x40u1, (Option.some.inj (show some _ = some _ from hFc34u1)), q85, qbb, q86, q87, q99, q9a, rfl, ((((((hS.pull 2).pull 5).pull 2).pull 5).pull 5).pull 5)⟩
        · replace hFc34u1 := it_f hc34u1 hFc34u1
          refine x_seq <| x_seq <| x_region <| p (yl_eql rfl rfl) <|
            p (yl_assign rfl) <| x_done <|
            ?_
          replace hFc34u1 := bd_s hFc34u1; obtain ⟨oc43u1, hFc43u1, hFc34u1⟩ := hFc34u1
          refine x_join (fun E w => ∃ (q7d : Bool), q7d = oc43u1 ∧ E 0 = .pointer (some ⟨q5, 0, none⟩) ∧ E 2 = .pointer (some ⟨b2, 0, none⟩) ∧ E 3 = .pointer (some ⟨b3, 0, none⟩) ∧ E 4 = .pointer (some ⟨b4, 0, none⟩) ∧ E 5 = .int .i64 3 ∧ E 20 = .int .i64 x20 ∧ E 21 = .int .i64 q0s ∧ E 29 = .int .i64 3 ∧ E 33 = .int .i64 q1u.1 ∧ E 43 = .bool q7d ∧ St w0 w (cells q5 25 [.slice q7 s0.L.length c_s0_0, .int .i64 q1u.2] :: cells b2 81 [.int .i64 0, .int .i64 0, .int .i64 0, .slice none 0 0, .slice none 0 0, .slice none 0 0] :: cells b3 81 [.int .i64 q0b.1, .int .i64 q0c.1, .int .i64 q4.1, .slice q3 q2.length c_b3_3_L3h, .slice none 0 0, .slice none 0 0] :: cells b4 183 [.int .u16 x25, .bool q0j.1, .int .i64 q6, .int .i64 q8, .int .i64 q0f, .int .i64 0, .slice none 0 0, .slice none 0 0, .slice none 0 0, .slice none 0 0] :: vec 183 R_array_Tile.sz (.slice q3 q2.length c_b3_3_L3h) q2.length q9 :: ro q0a :: l)) ?_ ?_
          · skip -- c43u1
            refine x_cond_p (q1u.1 = 1) rfl (fun hc43u1 => ?_) (fun hc43u1 => ?_)
            · replace hFc43u1 := it_t hc43u1 hFc43u1
              refine x_skip <|
                ?_
              exact x_inv ⟨decide (q1u.1 = 1), (Option.some.inj (show some _ = some _ from hFc43u1)), q85, qbb, q86, q87, rfl, q99, q9a, rfl, rfl, rfl, ((((((hS.pull 1).pull 5).pull 5).pull 5).pull 5).pull 5)⟩
            · replace hFc43u1 := it_f hc43u1 hFc43u1
              refine x_region <| p (yl_eql rfl rfl) <| p (yl_assign rfl) <| x_done <|
                ?_
              exact x_inv ⟨decide (q1u.1 = 2), (Option.some.inj (show some _ = some _ from hFc43u1)), q85, qbb, q86, q87, rfl, q99, q9a, rfl, rfl, rfl, ((((((hS.pull 1).pull 5).pull 5).pull 5).pull 5).pull 5)⟩
          rintro E w ⟨q7d, rfl, q72, qbc, q2m, q73, qc5, q9b, q9c, q9d, qds, qdt, hS⟩
          replace hFc34u1 := bd_s hFc34u1; obtain ⟨qfi, q0p, hFc34u1⟩ := hFc34u1
          refine x_join (fun E w => ∃ (q29 : Int) (q2v : Int), (q29, q2v) = qfi ∧ E 0 = .pointer (some ⟨q5, 0, none⟩) ∧ E 2 = .pointer (some ⟨b2, 0, none⟩) ∧ E 3 = .pointer (some ⟨b3, 0, none⟩) ∧ E 4 = .pointer (some ⟨b4, 0, none⟩) ∧ E 20 = .int .i64 x20 ∧ E 21 = .int .i64 q0s ∧ E 29 = .int .i64 3 ∧ St w0 w (cells q5 25 [.slice q7 s0.L.length c_s0_0, .int .i64 q29] :: cells b2 81 [.int .i64 0, .int .i64 0, .int .i64 0, .slice none 0 0, .slice none 0 0, .slice none 0 0] :: cells b3 81 [.int .i64 q0b.1, .int .i64 q0c.1, .int .i64 q4.1, .slice q3 q2.length c_b3_3_L3h, .slice none 0 0, .slice none 0 0] :: cells b4 183 [.int .u16 x25, .bool q0j.1, .int .i64 q6, .int .i64 q8, .int .i64 q0f, .int .i64 q2v, .slice none 0 0, .slice none 0 0, .slice none 0 0, .slice none 0 0] :: vec 183 R_array_Tile.sz (.slice q3 q2.length c_b3_3_L3h) q2.length q9 :: ro q0a :: l)) ?_ ?_
          · skip -- qhz
            refine x_cond (t := q7d) qdt (fun hc43u1 => ?_) (fun hc43u1 => ?_)
            · replace q0p := it_t hc43u1 q0p
              replace q0p := ar_s q0p; obtain ⟨x49u1, hx49u1, q0p⟩ := q0p
              replace q0p := ar_s q0p; obtain ⟨x50u1, hx50u1, q0p⟩ := q0p
              replace q0p := bd_s q0p; obtain ⟨q63, qfj, q0p⟩ := q0p
              replace q0p := ar_s q0p; obtain ⟨x55u1, hx55u1, q0p⟩ := q0p
              refine x_par (w0 := w0) [⟨[], [], [46], [], [], []⟩, ⟨[], [], [47], [], [], []⟩, ⟨[1], [1], [48], [0], [], []⟩, ⟨[1, 2], [2], [49], [], [], []⟩, ⟨[1, 2, 3], [3], [50], [], [], []⟩, ⟨[], [], [51], [], [], []⟩, ⟨[], [], [52], [], [], []⟩, ⟨[6], [6], [53], [0], [], []⟩, ⟨[5, 6, 7], [5, 7], [54], [2], [1], [3]⟩, ⟨[1, 2, 3, 4, 5, 6, 7, 8], [4, 8], [55], [], [], []⟩, ⟨[], [], [56], [], [], []⟩, ⟨[0, 1, 2, 3, 4, 5, 6, 7, 8, 9, 10], [0, 10], [57], [], [], []⟩, ⟨[0, 1, 2, 3, 4, 5, 6, 7, 8, 9, 10, 11], [9, 11], [], [], [4], [5]⟩] [⟨none, none, []⟩, ⟨none, (some 8), []⟩, ⟨none, none, []⟩, ⟨(some 8), none, []⟩, ⟨none, (some 12), []⟩, ⟨(some 12), none, []⟩] [46, 47, 48, 49, 50, 51, 52, 53, 54, 55, 56, 57] [0, 1, 2, 4] [0, 2, 3, 5] [0, 1, 2, 3, 4, 5, 6, 7, 8, 9, 10, 11] [fun Ep13u1 => Ep13u1 46 = .int .i64 3, fun Ep13u1 => Ep13u1 47 = .pointer (some ⟨b3, 2, none⟩), fun Ep13u1 => Ep13u1 48 = .int .i64 q4.1, fun Ep13u1 => Ep13u1 49 = .int .i64 x49u1, fun Ep13u1 => Ep13u1 50 = .int .i64 x50u1, fun Ep13u1 => Ep13u1 51 = .pointer (some ⟨q5, 0, none⟩), fun Ep13u1 => Ep13u1 52 = .pointer (some ⟨b3, 2, none⟩), fun Ep13u1 => Ep13u1 53 = .int .i64 q4.1, fun Ep13u1 => Ep13u1 54 = .int .i64 q63.1, fun Ep13u1 => Ep13u1 55 = .int .i64 x55u1, fun Ep13u1 => Ep13u1 56 = .pointer (some ⟨b4, 2, none⟩), fun Ep13u1 => Ep13u1 57 = .pointer (some ⟨b4, 5, none⟩), fun Ep13u1 => True] [fun Ep13u1 => cells b3 81 [.int .i64 q0b.1, .int .i64 q0c.1, .int .i64 q4.1, .slice q3 q2.length c_b3_3_L3h, .slice none 0 0, .slice none 0 0], fun Ep13u1 => cells q5 25 [.slice q7 s0.L.length c_s0_0, .int .i64 q1u.2], fun Ep13u1 => ro q0a, fun Ep13u1 => cells q5 25 [.slice q7 s0.L.length c_s0_0, .int .i64 q63.2], fun Ep13u1 => cells b4 183 [.int .u16 x25, .bool q0j.1, .int .i64 q6, .int .i64 q8, .int .i64 q0f, .int .i64 0, .slice none 0 0, .slice none 0 0, .slice none 0 0, .slice none 0 0], fun Ep13u1 => cells b4 183 [.int .u16 x25, .bool q0j.1, .int .i64 q6, .int .i64 q8, .int .i64 q0f, .int .i64 x55u1, .slice none 0 0, .slice none 0 0, .slice none 0 0, .slice none 0 0]] mixed (by kernel_rfl) ((((hS.pull 3).pull 5).pull 2).pull 4) ?_ ?_
              · refine ⟨?_, ?_, ?_, ?_, ?_, ?_, ?_, ?_, ?_, ?_, ?_, ?_, ?_, trivial⟩
                · intro Ep13u1 w l' hE13u1 hO13u1 hF_ hS
                  refine p (yl_move ((hE13u1 5 rfl).trans qc5)) <| x_done <|
                    ?_
                  refine x_fin ⟨⟨_, rfl⟩, rfl, ?_⟩
                  exact Eq.mp (by kernel_rfl) hS
                · intro Ep13u1 w l' hE13u1 hO13u1 hF_ hS
                  refine p (yl_field0 fld_81_2 ((hE13u1 3 rfl).trans q2m)) <| x_done <|
                    ?_
                  refine x_fin ⟨⟨_, rfl⟩, rfl, ?_⟩
                  exact Eq.mp (by kernel_rfl) hS
                · intro Ep13u1 w l' hE13u1 hO13u1 hF_ hS
                  obtain ⟨q64, -⟩ := hF_
                  replace q64 : Ep13u1 47 = .pointer (some ⟨b3, 2, none⟩) := Eq.mp (by kernel_rfl) q64
                  replace hS : St w0 w (cells b3 81 [.int .i64 q0b.1, .int .i64 q0c.1, .int .i64 q4.1, .slice q3 q2.length c_b3_3_L3h, .slice none 0 0, .slice none 0 0] :: l') := Eq.mp (by kernel_rfl) hS
                  refine pa (at_load one_3 q64 (hS.cell rfl)) <| x_done <|
                    ?_
                  refine x_fin ⟨⟨_, rfl⟩, rfl, ?_⟩
                  exact Eq.mp (by kernel_rfl) hS
                · intro Ep13u1 w l' hE13u1 hO13u1 hF_ hS
                  obtain ⟨q65, -⟩ := hF_
                  replace q65 : Ep13u1 48 = .int .i64 q4.1 := Eq.mp (by kernel_rfl) q65
                  refine p (ymul rfl q65 hx49u1) <| x_done <|
                    ?_
                  refine x_fin ⟨⟨_, rfl⟩, rfl, ?_⟩
                  exact Eq.mp (by kernel_rfl) hS
                · intro Ep13u1 w l' hE13u1 hO13u1 hF_ hS
                  obtain ⟨q66, -⟩ := hF_
                  replace q66 : Ep13u1 49 = .int .i64 x49u1 := Eq.mp (by kernel_rfl) q66
                  refine p (yadd rfl q66 hx50u1) <| x_done <|
                    ?_
                  refine x_fin ⟨⟨_, rfl⟩, rfl, ?_⟩
                  exact Eq.mp (by kernel_rfl) hS
                · intro Ep13u1 w l' hE13u1 hO13u1 hF_ hS
                  refine p (yl_move ((hE13u1 0 rfl).trans q72)) <| x_done <|
                    ?_
                  refine x_fin ⟨⟨_, rfl⟩, rfl, ?_⟩
                  exact Eq.mp (by kernel_rfl) hS
                · intro Ep13u1 w l' hE13u1 hO13u1 hF_ hS
                  refine p (yl_field0 fld_81_2 ((hE13u1 3 rfl).trans q2m)) <| x_done <|
                    ?_
                  refine x_fin ⟨⟨_, rfl⟩, rfl, ?_⟩
                  exact Eq.mp (by kernel_rfl) hS
                · intro Ep13u1 w l' hE13u1 hO13u1 hF_ hS
                  obtain ⟨q67, -⟩ := hF_
                  replace q67 : Ep13u1 52 = .pointer (some ⟨b3, 2, none⟩) := Eq.mp (by kernel_rfl) q67
                  replace hS : St w0 w (cells b3 81 [.int .i64 q0b.1, .int .i64 q0c.1, .int .i64 q4.1, .slice q3 q2.length c_b3_3_L3h, .slice none 0 0, .slice none 0 0] :: l') := Eq.mp (by kernel_rfl) hS
                  refine pa (at_load one_3 q67 (hS.cell rfl)) <| x_done <|
                    ?_
                  refine x_fin ⟨⟨_, rfl⟩, rfl, ?_⟩
                  exact Eq.mp (by kernel_rfl) hS
                · intro Ep13u1 w l' hE13u1 hO13u1 hF_ hS
                  obtain ⟨q68, q69, -⟩ := hF_
                  replace q68 : Ep13u1 51 = .pointer (some ⟨q5, 0, none⟩) := Eq.mp (by kernel_rfl) q68
                  replace q69 : Ep13u1 53 = .int .i64 q4.1 := Eq.mp (by kernel_rfl) q69
                  replace hS : St w0 w (ro q0a :: cells q5 25 [.slice q7 s0.L.length c_s0_0, .int .i64 q1u.2] :: l') := Eq.mp (by kernel_rfl) hS
                  have hcall := c_maskmake_Stream_Next qfj (q0w.le q0v) (hS.pull 1)
                  refine o_cc call_15 (args2 q68 q69) hcall ?_
                  rintro e w' ⟨rfl, hS⟩
                  refine ⟨_, rfl, ?_⟩
                  refine x_done <|
                    ?_
                  refine x_fin ⟨⟨_, rfl⟩, rfl, ?_⟩
                  exact Eq.mp (by kernel_rfl) (hS.pull 1)
                · intro Ep13u1 w l' hE13u1 hO13u1 hF_ hS
                  obtain ⟨q6a, q6b, -⟩ := hF_
                  replace q6a : Ep13u1 50 = .int .i64 x50u1 := Eq.mp (by kernel_rfl) q6a
                  replace q6b : Ep13u1 54 = .int .i64 q63.1 := Eq.mp (by kernel_rfl) q6b
                  refine p (yadd q6a q6b hx55u1) <| x_done <|
                    ?_
                  refine x_fin ⟨⟨_, rfl⟩, rfl, ?_⟩
                  exact Eq.mp (by kernel_rfl) hS
                · intro Ep13u1 w l' hE13u1 hO13u1 hF_ hS
                  refine p (yl_field0 fld_183_2 ((hE13u1 4 rfl).trans q73)) <| x_done <|
                    ?_
                  refine x_fin ⟨⟨_, rfl⟩, rfl, ?_⟩
                  exact Eq.mp (by kernel_rfl) hS
                · intro Ep13u1 w l' hE13u1 hO13u1 hF_ hS
                  obtain ⟨q6c, q3m, -⟩ := hF_
                  replace q6c : Ep13u1 46 = .int .i64 3 := Eq.mp (by kernel_rfl) q6c
                  replace q3m : Ep13u1 56 = .pointer (some ⟨b4, 2, none⟩) := Eq.mp (by kernel_rfl) q3m
                  refine p (yl_ixa (x := .tmp 56) (y := .tmp 46) (q := 5) arr_180 q3m q6c (by decide) rfl) <| x_done <|
                    ?_
                  refine x_fin ⟨⟨_, rfl⟩, rfl, ?_⟩
                  exact Eq.mp (by kernel_rfl) hS
                · intro Ep13u1 w l' hE13u1 hO13u1 hF_ hS
                  obtain ⟨q6d, q3n, -⟩ := hF_
                  replace q6d : Ep13u1 55 = .int .i64 x55u1 := Eq.mp (by kernel_rfl) q6d
                  replace q3n : Ep13u1 57 = .pointer (some ⟨b4, 5, none⟩) := Eq.mp (by kernel_rfl) q3n
                  replace hS : St w0 w (cells b4 183 [.int .u16 x25, .bool q0j.1, .int .i64 q6, .int .i64 q8, .int .i64 q0f, .int .i64 0, .slice none 0 0, .slice none 0 0, .slice none 0 0, .slice none 0 0] :: l') := Eq.mp (by kernel_rfl) hS
                  refine o_store1 (v := .int .i64 x55u1) one_3 q3n q6d rfl rfl hS (fun w' hS => ?_)
                  refine x_done <|
                    ?_
                  refine x_fin ⟨⟨undef, rfl⟩, trivial, ?_⟩
                  exact Eq.mp (by kernel_rfl) hS
              intro Ep13u1 w' hE13u1 hF_ hS
              obtain ⟨q6c, q64, q65, q66, q6a, q68, q67, q69, q6b, q6d, q3m, q3n, -⟩ := hF_
              replace q6c : Ep13u1 46 = .int .i64 3 := Eq.mp (by kernel_rfl) q6c
              replace q64 : Ep13u1 47 = .pointer (some ⟨b3, 2, none⟩) := Eq.mp (by kernel_rfl) q64
              replace q65 : Ep13u1 48 = .int .i64 q4.1 := Eq.mp (by kernel_rfl) q65
              replace q66 : Ep13u1 49 = .int .i64 x49u1 := Eq.mp (by kernel_rfl) q66
              replace q6a : Ep13u1 50 = .int .i64 x50u1 := Eq.mp (by kernel_rfl) q6a
              replace q68 : Ep13u1 51 = .pointer (some ⟨q5, 0, none⟩) := Eq.mp (by kernel_rfl) q68
              replace q67 : Ep13u1 52 = .pointer (some ⟨b3, 2, none⟩) := Eq.mp (by kernel_rfl) q67
              replace q69 : Ep13u1 53 = .int .i64 q4.1 := Eq.mp (by kernel_rfl) q69
              replace q6b : Ep13u1 54 = .int .i64 q63.1 := Eq.mp (by kernel_rfl) q6b
              replace q6d : Ep13u1 55 = .int .i64 x55u1 := Eq.mp (by kernel_rfl) q6d
              replace q3m : Ep13u1 56 = .pointer (some ⟨b4, 2, none⟩) := Eq.mp (by kernel_rfl) q3m
              replace q3n : Ep13u1 57 = .pointer (some ⟨b4, 5, none⟩) := Eq.mp (by kernel_rfl) q3n
              replace hS : St w0 w' (cells b3 81 [.int .i64 q0b.1, .int .i64 q0c.1, .int .i64 q4.1, .slice q3 q2.length c_b3_3_L3h, .slice none 0 0, .slice none 0 0] :: ro q0a :: cells q5 25 [.slice q7 s0.L.length c_s0_0, .int .i64 q63.2] :: cells b4 183 [.int .u16 x25, .bool q0j.1, .int .i64 q6, .int .i64 q8, .int .i64 q0f, .int .i64 x55u1, .slice none 0 0, .slice none 0 0, .slice none 0 0, .slice none 0 0] :: (cells b2 81 [.int .i64 0, .int .i64 0, .int .i64 0, .slice none 0 0, .slice none 0 0, .slice none 0 0] :: vec 183 R_array_Tile.sz (.slice q3 q2.length c_b3_3_L3h) q2.length q9 :: l)) := Eq.mp (by kernel_rfl) hS
              exact x_inv ⟨q63.2, x55u1, (Option.some.inj (show some _ = some _ from q0p)), ((hE13u1 0 rfl).trans q72), ((hE13u1 2 rfl).trans qbc), ((hE13u1 3 rfl).trans q2m), ((hE13u1 4 rfl).trans q73), ((hE13u1 20 rfl).trans q9b), ((hE13u1 21 rfl).trans q9c), ((hE13u1 29 rfl).trans q9d), ((((((hS.pull 1).pull 5).pull 4).pull 3).pull 5).pull 5)⟩
            · replace q0p := it_bf hc43u1 q0p
              refine x_seq <| x_region <| p (yl_eql qds rfl) <| p (yl_assign rfl) <|
                x_done <|
                ?_
              replace q0p := bd_s q0p; obtain ⟨oc58u1, hFc58u1, q0p⟩ := q0p
              refine x_join (fun E w => ∃ (q2w : Int) (q46 : Int), (q2w, q46) = oc58u1 ∧ E 0 = .pointer (some ⟨q5, 0, none⟩) ∧ E 2 = .pointer (some ⟨b2, 0, none⟩) ∧ E 3 = .pointer (some ⟨b3, 0, none⟩) ∧ E 4 = .pointer (some ⟨b4, 0, none⟩) ∧ E 20 = .int .i64 x20 ∧ E 21 = .int .i64 q0s ∧ E 29 = .int .i64 3 ∧ St w0 w (cells q5 25 [.slice q7 s0.L.length c_s0_0, .int .i64 q2w] :: cells b2 81 [.int .i64 0, .int .i64 0, .int .i64 0, .slice none 0 0, .slice none 0 0, .slice none 0 0] :: cells b3 81 [.int .i64 q0b.1, .int .i64 q0c.1, .int .i64 q4.1, .slice q3 q2.length c_b3_3_L3h, .slice none 0 0, .slice none 0 0] :: cells b4 183 [.int .u16 x25, .bool q0j.1, .int .i64 q6, .int .i64 q8, .int .i64 q0f, .int .i64 q46, .slice none 0 0, .slice none 0 0, .slice none 0 0, .slice none 0 0] :: vec 183 R_array_Tile.sz (.slice q3 q2.length c_b3_3_L3h) q2.length q9 :: ro q0a :: l)) ?_ ?_
              · skip -- c58u1
                refine x_cond_p (q1u.1 = 3) rfl (fun hc58u1 => ?_) (fun hc58u1 => ?_)
                · replace hFc58u1 := it_t hc58u1 hFc58u1
                  replace hFc58u1 := ar_s hFc58u1; obtain ⟨x63u1, hx63u1, hFc58u1⟩ := hFc58u1
                  replace hFc58u1 := ar_s hFc58u1; obtain ⟨x64u1, hx64u1, hFc58u1⟩ := hFc58u1
                  replace hFc58u1 := bd_s hFc58u1; obtain ⟨q6e, qfk, hFc58u1⟩ := hFc58u1
                  replace hFc58u1 := ar_s hFc58u1; obtain ⟨x69u1, hx69u1, hFc58u1⟩ := hFc58u1
                  refine x_par (w0 := w0) [⟨[], [], [60], [], [], []⟩, ⟨[], [], [61], [], [], []⟩, ⟨[1], [1], [62], [0], [], []⟩, ⟨[1, 2], [2], [63], [], [], []⟩, ⟨[1, 2, 3], [3], [64], [], [], []⟩, ⟨[], [], [65], [], [], []⟩, ⟨[], [], [66], [], [], []⟩, ⟨[6], [6], [67], [0], [], []⟩, ⟨[5, 6, 7], [5, 7], [68], [2], [1], [3]⟩, ⟨[1, 2, 3, 4, 5, 6, 7, 8], [4, 8], [69], [], [], []⟩, ⟨[], [], [70], [], [], []⟩, ⟨[0, 1, 2, 3, 4, 5, 6, 7, 8, 9, 10], [0, 10], [71], [], [], []⟩, ⟨[0, 1, 2, 3, 4, 5, 6, 7, 8, 9, 10, 11], [9, 11], [], [], [4], [5]⟩] [⟨none, none, []⟩, ⟨none, (some 8), []⟩, ⟨none, none, []⟩, ⟨(some 8), none, []⟩, ⟨none, (some 12), []⟩, ⟨(some 12), none, []⟩] [60, 61, 62, 63, 64, 65, 66, 67, 68, 69, 70, 71] [0, 1, 2, 4] [0, 2, 3, 5] [0, 1, 2, 3, 4, 5, 6, 7, 8, 9, 10, 11] [fun Ep15u1 => Ep15u1 60 = .int .i64 3, fun Ep15u1 => Ep15u1 61 = .pointer (some ⟨b3, 2, none⟩), fun Ep15u1 => Ep15u1 62 = .int .i64 q4.1, fun Ep15u1 => Ep15u1 63 = .int .i64 x63u1, fun Ep15u1 => Ep15u1 64 = .int .i64 x64u1, fun Ep15u1 => Ep15u1 65 = .pointer (some ⟨q5, 0, none⟩), fun Ep15u1 => Ep15u1 66 = .pointer (some ⟨b3, 2, none⟩), fun Ep15u1 => Ep15u1 67 = .int .i64 q4.1, fun Ep15u1 => Ep15u1 68 = .int .i64 q6e.1, fun Ep15u1 => Ep15u1 69 = .int .i64 x69u1, fun Ep15u1 => Ep15u1 70 = .pointer (some ⟨b4, 2, none⟩), fun Ep15u1 => Ep15u1 71 = .pointer (some ⟨b4, 5, none⟩), fun Ep15u1 => True] [fun Ep15u1 => cells b3 81 [.int .i64 q0b.1, .int .i64 q0c.1, .int .i64 q4.1, .slice q3 q2.length c_b3_3_L3h, .slice none 0 0, .slice none 0 0], fun Ep15u1 => cells q5 25 [.slice q7 s0.L.length c_s0_0, .int .i64 q1u.2], fun Ep15u1 => ro q0a, fun Ep15u1 => cells q5 25 [.slice q7 s0.L.length c_s0_0, .int .i64 q6e.2], fun Ep15u1 => cells b4 183 [.int .u16 x25, .bool q0j.1, .int .i64 q6, .int .i64 q8, .int .i64 q0f, .int .i64 0, .slice none 0 0, .slice none 0 0, .slice none 0 0, .slice none 0 0], fun Ep15u1 => cells b4 183 [.int .u16 x25, .bool q0j.1, .int .i64 q6, .int .i64 q8, .int .i64 q0f, .int .i64 x69u1, .slice none 0 0, .slice none 0 0, .slice none 0 0, .slice none 0 0]] mixed (by kernel_rfl) ((((hS.pull 3).pull 5).pull 2).pull 4) ?_ ?_
                  · refine ⟨?_, ?_, ?_, ?_, ?_, ?_, ?_, ?_, ?_, ?_, ?_, ?_, ?_, trivial⟩
                    · intro Ep15u1 w l' hE15u1 hO15u1 hF_ hS
                      refine p (yl_move ((hE15u1 5 rfl).trans qc5)) <| x_done <|
                        ?_
                      refine x_fin ⟨⟨_, rfl⟩, rfl, ?_⟩
                      exact Eq.mp (by kernel_rfl) hS
                    · intro Ep15u1 w l' hE15u1 hO15u1 hF_ hS
                      refine p (yl_field0 fld_81_2 ((hE15u1 3 rfl).trans q2m)) <| x_done <|
                        ?_
                      refine x_fin ⟨⟨_, rfl⟩, rfl, ?_⟩
                      exact Eq.mp (by kernel_rfl) hS
                    · intro Ep15u1 w l' hE15u1 hO15u1 hF_ hS
                      obtain ⟨q6f, -⟩ := hF_
                      replace q6f : Ep15u1 61 = .pointer (some ⟨b3, 2, none⟩) := Eq.mp (by kernel_rfl) q6f
                      replace hS : St w0 w (cells b3 81 [.int .i64 q0b.1, .int .i64 q0c.1, .int .i64 q4.1, .slice q3 q2.length c_b3_3_L3h, .slice none 0 0, .slice none 0 0] :: l') := Eq.mp (by kernel_rfl) hS
                      refine pa (at_load one_3 q6f (hS.cell rfl)) <| x_done <|
                        ?_
                      refine x_fin ⟨⟨_, rfl⟩, rfl, ?_⟩
                      exact Eq.mp (by kernel_rfl) hS
                    · intro Ep15u1 w l' hE15u1 hO15u1 hF_ hS
                      obtain ⟨q6g, -⟩ := hF_
                      replace q6g : Ep15u1 62 = .int .i64 q4.1 := Eq.mp (by kernel_rfl) q6g
                      refine p (ymul rfl q6g hx63u1) <| x_done <|
                        ?_
                      refine x_fin ⟨⟨_, rfl⟩, rfl, ?_⟩
                      exact Eq.mp (by kernel_rfl) hS
                    · intro Ep15u1 w l' hE15u1 hO15u1 hF_ hS
                      obtain ⟨q6h, -⟩ := hF_
                      replace q6h : Ep15u1 63 = .int .i64 x63u1 := Eq.mp (by kernel_rfl) q6h
                      refine p (yadd rfl q6h hx64u1) <| x_done <|
                        ?_
                      refine x_fin ⟨⟨_, rfl⟩, rfl, ?_⟩
                      exact Eq.mp (by kernel_rfl) hS
                    · intro Ep15u1 w l' hE15u1 hO15u1 hF_ hS
                      refine p (yl_move ((hE15u1 0 rfl).trans q72)) <| x_done <|
                        ?_
                      refine x_fin ⟨⟨_, rfl⟩, rfl, ?_⟩
                      exact Eq.mp (by kernel_rfl) hS
                    · intro Ep15u1 w l' hE15u1 hO15u1 hF_ hS
                      refine p (yl_field0 fld_81_2 ((hE15u1 3 rfl).trans q2m)) <| x_done <|
                        ?_
                      refine x_fin ⟨⟨_, rfl⟩, rfl, ?_⟩
                      exact Eq.mp (by kernel_rfl) hS
                    · intro Ep15u1 w l' hE15u1 hO15u1 hF_ hS
                      obtain ⟨q6i, -⟩ := hF_
                      replace q6i : Ep15u1 66 = .pointer (some ⟨b3, 2, none⟩) := Eq.mp (by kernel_rfl) q6i
                      replace hS : St w0 w (cells b3 81 [.int .i64 q0b.1, .int .i64 q0c.1, .int .i64 q4.1, .slice q3 q2.length c_b3_3_L3h, .slice none 0 0, .slice none 0 0] :: l') := Eq.mp (by kernel_rfl) hS
                      refine pa (at_load one_3 q6i (hS.cell rfl)) <| x_done <|
                        ?_
                      refine x_fin ⟨⟨_, rfl⟩, rfl, ?_⟩
                      exact Eq.mp (by kernel_rfl) hS
                    · intro Ep15u1 w l' hE15u1 hO15u1 hF_ hS
                      obtain ⟨q6j, q6k, -⟩ := hF_
                      replace q6j : Ep15u1 65 = .pointer (some ⟨q5, 0, none⟩) := Eq.mp (by kernel_rfl) q6j
                      replace q6k : Ep15u1 67 = .int .i64 q4.1 := Eq.mp (by kernel_rfl) q6k
                      replace hS : St w0 w (ro q0a :: cells q5 25 [.slice q7 s0.L.length c_s0_0, .int .i64 q1u.2] :: l') := Eq.mp (by kernel_rfl) hS
                      have hcall := c_maskmake_Stream_Next qfk (q0w.le q0v) (hS.pull 1)
                      refine o_cc call_15 (args2 q6j q6k) hcall ?_
                      rintro e w' ⟨rfl, hS⟩
                      refine ⟨_, rfl, ?_⟩
                      refine x_done <|
                        ?_
                      refine x_fin ⟨⟨_, rfl⟩, rfl, ?_⟩
                      exact Eq.mp (by kernel_rfl) (hS.pull 1)
                    · intro Ep15u1 w l' hE15u1 hO15u1 hF_ hS
                      obtain ⟨q6l, q6m, -⟩ := hF_
                      replace q6l : Ep15u1 64 = .int .i64 x64u1 := Eq.mp (by kernel_rfl) q6l
                      replace q6m : Ep15u1 68 = .int .i64 q6e.1 := Eq.mp (by kernel_rfl) q6m
                      refine p (yadd q6l q6m hx69u1) <| x_done <|
                        ?_
                      refine x_fin ⟨⟨_, rfl⟩, rfl, ?_⟩
                      exact Eq.mp (by kernel_rfl) hS
                    · intro Ep15u1 w l' hE15u1 hO15u1 hF_ hS
                      refine p (yl_field0 fld_183_2 ((hE15u1 4 rfl).trans q73)) <| x_done <|
                        ?_
                      refine x_fin ⟨⟨_, rfl⟩, rfl, ?_⟩
                      exact Eq.mp (by kernel_rfl) hS
                    · intro Ep15u1 w l' hE15u1 hO15u1 hF_ hS
                      obtain ⟨q6n, q3o, -⟩ := hF_
                      replace q6n : Ep15u1 60 = .int .i64 3 := Eq.mp (by kernel_rfl) q6n
                      replace q3o : Ep15u1 70 = .pointer (some ⟨b4, 2, none⟩) := Eq.mp (by kernel_rfl) q3o
                      refine p (yl_ixa (x := .tmp 70) (y := .tmp 60) (q := 5) arr_180 q3o q6n (by decide) rfl) <| x_done <|
                        ?_
                      refine x_fin ⟨⟨_, rfl⟩, rfl, ?_⟩
                      exact Eq.mp (by kernel_rfl) hS
                    · intro Ep15u1 w l' hE15u1 hO15u1 hF_ hS
                      obtain ⟨q6o, q3p, -⟩ := hF_
                      replace q6o : Ep15u1 69 = .int .i64 x69u1 := Eq.mp (by kernel_rfl) q6o
                      replace q3p : Ep15u1 71 = .pointer (some ⟨b4, 5, none⟩) := Eq.mp (by kernel_rfl) q3p
                      replace hS : St w0 w (cells b4 183 [.int .u16 x25, .bool q0j.1, .int .i64 q6, .int .i64 q8, .int .i64 q0f, .int .i64 0, .slice none 0 0, .slice none 0 0, .slice none 0 0, .slice none 0 0] :: l') := Eq.mp (by kernel_rfl) hS
                      refine o_store1 (v := .int .i64 x69u1) one_3 q3p q6o rfl rfl hS (fun w' hS => ?_)
                      refine x_done <|
                        ?_
                      refine x_fin ⟨⟨undef, rfl⟩, trivial, ?_⟩
                      exact Eq.mp (by kernel_rfl) hS
                  intro Ep15u1 w' hE15u1 hF_ hS
                  obtain ⟨q6n, q6f, q6g, q6h, q6l, q6j, q6i, q6k, q6m, q6o, q3o, q3p, -⟩ := hF_
                  replace q6n : Ep15u1 60 = .int .i64 3 := Eq.mp (by kernel_rfl) q6n
                  replace q6f : Ep15u1 61 = .pointer (some ⟨b3, 2, none⟩) := Eq.mp (by kernel_rfl) q6f
                  replace q6g : Ep15u1 62 = .int .i64 q4.1 := Eq.mp (by kernel_rfl) q6g
                  replace q6h : Ep15u1 63 = .int .i64 x63u1 := Eq.mp (by kernel_rfl) q6h
                  replace q6l : Ep15u1 64 = .int .i64 x64u1 := Eq.mp (by kernel_rfl) q6l
                  replace q6j : Ep15u1 65 = .pointer (some ⟨q5, 0, none⟩) := Eq.mp (by kernel_rfl) q6j
                  replace q6i : Ep15u1 66 = .pointer (some ⟨b3, 2, none⟩) := Eq.mp (by kernel_rfl) q6i
                  replace q6k : Ep15u1 67 = .int .i64 q4.1 := Eq.mp (by kernel_rfl) q6k
                  replace q6m : Ep15u1 68 = .int .i64 q6e.1 := Eq.mp (by kernel_rfl) q6m
                  replace q6o : Ep15u1 69 = .int .i64 x69u1 := Eq.mp (by kernel_rfl) q6o
                  replace q3o : Ep15u1 70 = .pointer (some ⟨b4, 2, none⟩) := Eq.mp (by kernel_rfl) q3o
                  replace q3p : Ep15u1 71 = .pointer (some ⟨b4, 5, none⟩) := Eq.mp (by kernel_rfl) q3p
                  replace hS : St w0 w' (cells b3 81 [.int .i64 q0b.1, .int .i64 q0c.1, .int .i64 q4.1, .slice q3 q2.length c_b3_3_L3h, .slice none 0 0, .slice none 0 0] :: ro q0a :: cells q5 25 [.slice q7 s0.L.length c_s0_0, .int .i64 q6e.2] :: cells b4 183 [.int .u16 x25, .bool q0j.1, .int .i64 q6, .int .i64 q8, .int .i64 q0f, .int .i64 x69u1, .slice none 0 0, .slice none 0 0, .slice none 0 0, .slice none 0 0] :: (cells b2 81 [.int .i64 0, .int .i64 0, .int .i64 0, .slice none 0 0, .slice none 0 0, .slice none 0 0] :: vec 183 R_array_Tile.sz (.slice q3 q2.length c_b3_3_L3h) q2.length q9 :: l)) := Eq.mp (by kernel_rfl) hS
                  exact x_inv ⟨q6e.2, x69u1, (Option.some.inj (show some _ = some _ from hFc58u1)), ((hE15u1 0 rfl).trans q72), ((hE15u1 2 rfl).trans qbc), ((hE15u1 3 rfl).trans q2m), ((hE15u1 4 rfl).trans q73), ((hE15u1 20 rfl).trans q9b), ((hE15u1 21 rfl).trans q9c), ((hE15u1 29 rfl).trans q9d), ((((((hS.pull 1).pull 5).pull 4).pull 3).pull 5).pull 5)⟩
                · replace hFc58u1 := it_f hc58u1 hFc58u1
                  refine x_skip <|
                    ?_
                  exact x_inv ⟨q1u.2, 0, (Option.some.inj (show some _ = some _ from hFc58u1)), q72, qbc, q2m, q73, q9b, q9c, q9d, ((((((hS.pull 5).pull 5).pull 5).pull 5).pull 5).pull 5)⟩
              rintro E w ⟨q2w, q46, rfl, qfl, qfm, qfn, qfo, qdu, qdv, qdw, hS⟩
              exact x_inv ⟨q2w, q46, (Option.some.inj (show some _ = some _ from q0p)), qfl, qfm, qfn, qfo, qdu, qdv, qdw, ((((((hS.pull 5).pull 5).pull 5).pull 5).pull 5).pull 5)⟩
          rintro E w ⟨q29, q2v, rfl, qd5, qd6, qd7, qd8, qcn, qco, qcp, hS⟩
          exact x_inv ⟨q29, q2v, (Option.some.inj (show some _ = some _ from hFc34u1)), qd5, qd6, qd7, qd8, qcn, qco, qcp, ((((((hS.pull 5).pull 5).pull 5).pull 5).pull 5).pull 5)⟩
      rintro E w ⟨q2u, q0t, rfl, qfp, qfq, qc6, qfr, qdx, qdy, qdz, hS⟩
      refine x_blk <| x_blk <| x_region <| p (yadd (c := 4) qdz rfl ⟨rfl, by decide⟩) <|
        p (yl_move rfl) <| x_done <| x_un 0 <| x_seq <|
        x_region <| p (ylss_l (t := false) rfl rfl (by decide)) <| x_done <| x_seq <|
        x_cond_f (show ev _ _ = .bool false from rfl) <| x_exitTo _ rfl <| x_seq <| x_seq <|
        x_region <| p (yl_move rfl) <| x_done <| x_block <|
        x_unroll 4 <| x_seq <| x_region <| p (ylss_l (t := true) rfl rfl (by decide)) <|
        x_done <| x_seq <| x_cond_t (show ev _ _ = .bool true from rfl) <| x_skip <|
        x_seq <| x_block <| x_seq <| x_region <|
        p (yl_move rfl) <| p (yl_assign rfl) <| x_done <| x_seq <|
        x_region <| p (yl_field0 fld_81_2 qc6) <| pa (at_load one_3 rfl ((hS.pull 2).cell rfl)) <| p (yl_move rfl) <|
        x_done <|
        ?_
      replace hFL3 := bd_s hFL3; obtain ⟨oL21u4, hLL21u4, hFL3⟩ := hFL3
      refine x_join (fun E w => ∃ (q0h : Option Addr) (q2x : Nat) (c_b4_6_L21u4 : Nat) (q0z : List Value) (q2y : Int) (q0d : List Int), (q2y, q0d) = oL21u4 ∧ E 0 = .pointer (some ⟨q5, 0, none⟩) ∧ E 2 = .pointer (some ⟨b2, 0, none⟩) ∧ E 3 = .pointer (some ⟨b3, 0, none⟩) ∧ E 4 = .pointer (some ⟨b4, 0, none⟩) ∧ E 20 = .int .i64 x20 ∧ E 21 = .int .i64 q0s ∧ E 73 = .int .i64 0 ∧ RepL (RpI .i64) q0a q0d q0z ∧ St w0 w (cells q5 25 [.slice q7 s0.L.length c_s0_0, .int .i64 q2y] :: cells b2 81 [.int .i64 0, .int .i64 0, .int .i64 0, .slice none 0 0, .slice none 0 0, .slice none 0 0] :: cells b3 81 [.int .i64 q0b.1, .int .i64 q0c.1, .int .i64 q4.1, .slice q3 q2.length c_b3_3_L3h, .slice none 0 0, .slice none 0 0] :: cells b4 183 [.int .u16 x25, .bool q0j.1, .int .i64 q6, .int .i64 q8, .int .i64 q0f, .int .i64 q0t, .slice q0h q2x c_b4_6_L21u4, .slice none 0 0, .slice none 0 0, .slice none 0 0] :: vec 183 R_array_Tile.sz (.slice q3 q2.length c_b3_3_L3h) q2.length q9 :: vec 3 (RpI .i64).sz (.slice q0h q2x c_b4_6_L21u4) q2x q0z :: ro q0a :: l)) ?_ ?_
      · skip -- L21u4
        refine x_block ?_
        replace hS := St.vec_nil hS 3 (RpI .i64).sz
        have q9e : RepL (RpI .i64) q0a [] [] := rfl
        refine x_loop (fun k_ E w => ∃ (q1m : Option Addr) (q2b : Nat) (c_b4_6_L21u4h : Nat) (q1v : List Value) (q2z : Int) (q2c : Int) (q1g : List Int), lp (P_maskmake_Stream_Config_L21u4 s0 q4) k_ (q2z, q2c, q1g) = some oL21u4 ∧ E 0 = .pointer (some ⟨q5, 0, none⟩) ∧ E 2 = .pointer (some ⟨b2, 0, none⟩) ∧ E 3 = .pointer (some ⟨b3, 0, none⟩) ∧ E 4 = .pointer (some ⟨b4, 0, none⟩) ∧ E 6 = .int .i64 0 ∧ E 20 = .int .i64 x20 ∧ E 21 = .int .i64 q0s ∧ E 73 = .int .i64 0 ∧ E 77 = .int .i64 q4.1 ∧ E 78 = .int .i64 q2z ∧ RepL (RpI .i64) q0a q1g q1v ∧ St w0 w (cells q5 25 [.slice q7 s0.L.length c_s0_0, .int .i64 q2c] :: cells b2 81 [.int .i64 0, .int .i64 0, .int .i64 0, .slice none 0 0, .slice none 0 0, .slice none 0 0] :: cells b3 81 [.int .i64 q0b.1, .int .i64 q0c.1, .int .i64 q4.1, .slice q3 q2.length c_b3_3_L3h, .slice none 0 0, .slice none 0 0] :: cells b4 183 [.int .u16 x25, .bool q0j.1, .int .i64 q6, .int .i64 q8, .int .i64 q0f, .int .i64 q0t, .slice q1m q2b c_b4_6_L21u4h, .slice none 0 0, .slice none 0 0, .slice none 0 0] :: vec 183 R_array_Tile.sz (.slice q3 q2.length c_b3_3_L3h) q2.length q9 :: vec 3 (RpI .i64).sz (.slice q1m q2b c_b4_6_L21u4h) q2b q1v :: ro q0a :: l)) fuel ⟨none, 0, 0, [], 0, q2u, [], hLL21u4, qfp, qfq, qc6, qfr, rfl, qdx, qdy, rfl, rfl, rfl, q9e, (((((((hS.pull 6).pull 1).pull 6).pull 6).pull 6).pull 6).pull 6)⟩ ?_
        rintro kL21u4 E w ⟨q1m, q2b, c_b4_6_L21u4h, q1v, q2z, q2c, q1g, hLL21u4, q7e, q9f, q9g, q9h, q9i, q88, q89, q8a, q8b, q8c, q3w, hS⟩
        have e_ := St.vec_n (hS.pull 5) q3w; subst e_
        replace hLL21u4 := lp_s hLL21u4; obtain ⟨kL21u4, obL21u4, rfl, hFL21u4, hLL21u4⟩ := hLL21u4
        refine x_seq <| x_region <| p (yl_lss q8c q8b) <| x_done <|
          x_seq <|
          x_cond_p (q2z < q4.1) rfl (fun hc79u4 => ?_) (fun hc79u4 => ?_)
        · replace hFL21u4 := it_t hc79u4 hFL21u4
          refine x_skip <| x_seq <| x_block <| x_seq <|
            x_region <| p (yl_move q7e) <|
            ?_
          refine o_buildSlice (vs := [.int .i64 0, .int .i64 1, .int .i64 2, .int .i64 6, .int .i64 3]) (cs := [.int .i64 0, .int .i64 1, .int .i64 2, .int .i64 6, .int .i64 3]) sl_22 zero_3 (parts_eq (pt (va := .int .i64 0) rfl (pt (va := .int .i64 1) rfl (pt (va := .int .i64 2) rfl (pt (va := .int .i64 6) rfl (pt (va := .int .i64 3) rfl pt0)))))) rfl (by intro v hv; simp only [List.mem_cons, List.not_mem_nil, or_false] at hv; first | (subst hv; rfl) | (rcases hv with rfl | rfl | rfl | rfl | rfl <;> rfl)) (by decide) rfl hS (fun b81u4 w' hS => ?_)
          have qfs : RepL (RpI .i64) q0a ([0, 1, 2, 6, 3] : List Int) [.int .i64 0, .int .i64 1, .int .i64 2, .int .i64 6, .int .i64 3] := (RepL.cons (cs := [.int .i64 0]) rfl (RepL.cons (cs := [.int .i64 1]) rfl (RepL.cons (cs := [.int .i64 2]) rfl (RepL.cons (cs := [.int .i64 6]) rfl (RepL.cons (cs := [.int .i64 3]) rfl RepL.nil)))))
          replace hS := St.vec_of (n := 5) (sz := (RpI .i64).sz) hS rfl (by decide)
          replace hFL21u4 := bd_s hFL21u4; obtain ⟨qbs, qft, hFL21u4⟩ := hFL21u4
          have q_ := St.lend ((hS.pull 7).pull 1) qfs; obtain ⟨ρl0, hll0, hlf0, hS0, back0⟩ := q_
          have hcall := c_maskmake_Stream_Pick qft ((q0w.le q0v).le hll0) hlf0 (hS0.pull 1)
          refine o_cc call_92 (args2 rfl rfl) hcall ?_
          rintro e w' ⟨rfl, hS⟩
          refine ⟨_, rfl, ?_⟩
          replace hS := back0 (hS.pull 1)
          refine p (yl_assign rfl) <| x_done <| x_seq <| x_seq <|
            x_region <| p (yl_move rfl) <| p (yl_move q9i) <| p (yadd (c := 3) rfl rfl ⟨rfl, by decide⟩) <|
            p (yl_eql rfl rfl) <| x_done <|
            ?_
          replace hFL21u4 := bd_s hFL21u4; obtain ⟨oc86u4, hFc86u4, hFL21u4⟩ := hFL21u4
          refine x_join (fun E w => ∃ (qbd : Int), qbd = oc86u4 ∧ E 0 = .pointer (some ⟨q5, 0, none⟩) ∧ E 2 = .pointer (some ⟨b2, 0, none⟩) ∧ E 3 = .pointer (some ⟨b3, 0, none⟩) ∧ E 4 = .pointer (some ⟨b4, 0, none⟩) ∧ E 6 = .int .i64 0 ∧ E 7 = .int .i64 qbd ∧ E 20 = .int .i64 x20 ∧ E 21 = .int .i64 q0s ∧ E 73 = .int .i64 0 ∧ E 77 = .int .i64 q4.1 ∧ E 78 = .int .i64 q2z ∧ St w0 w (cells q5 25 [.slice q7 s0.L.length c_s0_0, .int .i64 qbs.2] :: cells b2 81 [.int .i64 0, .int .i64 0, .int .i64 0, .slice none 0 0, .slice none 0 0, .slice none 0 0] :: cells b3 81 [.int .i64 q0b.1, .int .i64 q0c.1, .int .i64 q4.1, .slice q3 q2.length c_b3_3_L3h, .slice none 0 0, .slice none 0 0] :: cells b4 183 [.int .u16 x25, .bool q0j.1, .int .i64 q6, .int .i64 q8, .int .i64 q0f, .int .i64 q0t, .slice q1m q1g.length c_b4_6_L21u4h, .slice none 0 0, .slice none 0 0, .slice none 0 0] :: vec 183 R_array_Tile.sz (.slice q3 q2.length c_b3_3_L3h) q2.length q9 :: vec 3 (RpI .i64).sz (.slice q1m q1g.length c_b4_6_L21u4h) q1g.length q1v :: ro q0a :: l)) ?_ ?_
          · skip -- c86u4
            refine x_cond_p (qbs.1 = 3) rfl (fun hc86u4 => ?_) (fun hc86u4 => ?_)
            · replace hFc86u4 := it_t hc86u4 hFc86u4
              refine x_region <| p (yl_assign rfl) <| x_done <|
                ?_
              exact x_inv ⟨2, (Option.some.inj (show some _ = some _ from hFc86u4)), q7e, q9f, q9g, q9h, q9i, rfl, q88, q89, q8a, q8b, q8c, ((((((hS.drop.pull 6).pull 6).pull 6).pull 6).pull 6).pull 6)⟩
            · replace hFc86u4 := it_f hc86u4 hFc86u4
              refine x_skip <|
                ?_
              exact x_inv ⟨qbs.1, (Option.some.inj (show some _ = some _ from hFc86u4)), q7e, q9f, q9g, q9h, q9i, rfl, q88, q89, q8a, q8b, q8c, ((((((hS.drop.pull 6).pull 6).pull 6).pull 6).pull 6).pull 6)⟩
          rintro E w ⟨qbd, rfl, qc7, qfu, qfv, qbe, q8d, qhu, qe0, qe1, qe2, qe3, qe4, hS⟩
          refine x_seq <| x_seq <| x_region <| p (yl_move q8d) <|
            p (yeql_l (t := true) rfl rfl (by decide)) <| p (yl_move rfl) <| o_pass 90 89 false (says_lit (c := true) rfl rfl) <| o_pass 91 89 false (says_lit (c := true) rfl rfl) <|
            p (yl_pick (b := true) rfl (fun h => rfl) (fun h => nomatch h)) <| x_done <| x_cond_t (show ev _ _ = .bool true from rfl) <| x_region <|
            p (yl_move qc7) <|
            ?_
          refine o_buildSlice (vs := [.int .i64 0, .int .i64 2]) (cs := [.int .i64 0, .int .i64 2]) sl_22 zero_3 (parts_eq (pt (va := .int .i64 0) rfl (pt (va := .int .i64 2) rfl pt0))) rfl (by intro v hv; simp only [List.mem_cons, List.not_mem_nil, or_false] at hv; first | (subst hv; rfl) | (rcases hv with rfl | rfl <;> rfl)) (by decide) rfl hS (fun b94u4 w' hS => ?_)
          have qfw : RepL (RpI .i64) q0a ([0, 2] : List Int) [.int .i64 0, .int .i64 2] := (RepL.cons (cs := [.int .i64 0]) rfl (RepL.cons (cs := [.int .i64 2]) rfl RepL.nil))
          replace hS := St.vec_of (n := 2) (sz := (RpI .i64).sz) hS rfl (by decide)
          replace hFL21u4 := bd_s hFL21u4; obtain ⟨q6p, qfx, hFL21u4⟩ := hFL21u4
          have q_ := St.lend ((hS.pull 7).pull 1) qfw; obtain ⟨ρl0, hll0, hlf0, hS0, back0⟩ := q_
          have hcall := c_maskmake_Stream_Pick qfx ((q0w.le q0v).le hll0) hlf0 (hS0.pull 1)
          refine o_cc call_92 (args2 rfl rfl) hcall ?_
          rintro e w' ⟨rfl, hS⟩
          refine ⟨_, rfl, ?_⟩
          replace hS := back0 (hS.pull 1)
          refine p (yl_assign rfl) <| x_done <| x_region <| p (yl_move q8d) <|
            p (yl_move q8d) <| p (yl_field0 fld_183_3 qbe) <| p (yl_ixa (x := .tmp 98) (y := .tmp 97) (q := 6) arr_181 rfl rfl (by decide) rfl) <| pa (at_load one_22 rfl ((hS.pull 5).cell rfl)) <|
            p (yl_move rfl) <|
            ?_
          refine o_buildSlice (vs := [.int .i64 q6p.1]) (cs := [.int .i64 q6p.1]) sl_22 zero_3 (parts_eq (pt (va := .int .i64 q6p.1) rfl pt0)) rfl (by intro v hv; simp only [List.mem_cons, List.not_mem_nil, or_false] at hv; first | (subst hv; rfl) | (rcases hv with rfl <;> rfl)) (by decide) rfl hS (fun b102u4 w' hS => ?_)
          replace hFL21u4 := lv_s hFL21u4; obtain ⟨qbt, qfy, hFL21u4⟩ := hFL21u4
          replace hFL21u4 := ck_s hFL21u4; obtain ⟨qfz, hFL21u4⟩ := hFL21u4
          refine o_ap sl_22 zero_3 rfl (by decide) rfl rfl (hS.pull 8) q3w (src_blk usl_22 hS rfl rfl) (RepL.cons (R := (RpI .i64)) (ρ := q0a) (x := q6p.1) (cs := [.int .i64 q6p.1]) rfl RepL.nil) qfy qfz (fun A103u4 c103u4 cs103u4 w' hr103u4 hS => ?_)
          refine p (yl_field0 fld_183_3 qbe) <| p (yl_ixa (x := .tmp 104) (y := .tmp 96) (q := 6) arr_181 rfl rfl (by decide) rfl) <|
            ?_
          refine o_store1 (v := .slice A103u4 qbt.length c103u4) one_22 rfl rfl rfl rfl (hS.pull 7) (fun w' hS => ?_)
          replace hFL21u4 := ar_s hFL21u4; obtain ⟨x106u4, hx106u4, hFL21u4⟩ := hFL21u4
          refine x_done <| x_blk <| x_region <| p (yadd qe4 rfl hx106u4) <|
            p (yl_move rfl) <| x_done <|
            ?_
          have e_ := Option.some.inj (show some _ = some _ from hFL21u4); subst e_
          exact x_inv ⟨kL21u4, Nat.lt_succ_self _, A103u4, qbt.length, c103u4, cs103u4, x106u4, q6p.2, qbt, hLL21u4, qc7, qfu, qfv, qbe, q8d, qe0, qe1, qe2, qe3, rfl, hr103u4, (((((((((hS.pull 2).drop.pull 2).drop.pull 2).pull 2).pull 6).pull 3).pull 6).pull 6).pull 6)⟩
        · replace hFL21u4 := it_f hc79u4 hFL21u4
          refine x_exitTo _ rfl <|
            ?_
          have e_ := Option.some.inj (show some _ = some _ from hFL21u4); subst e_
          exact x_inv ⟨q1m, q1g.length, c_b4_6_L21u4h, q1v, q2c, q1g, hLL21u4, q7e, q9f, q9g, q9h, q88, q89, q8a, q3w, (((((((hS.pull 6).pull 6).pull 6).pull 6).pull 6).pull 6).pull 6)⟩
      rintro E w ⟨q0h, q2x, c_b4_6_L21u4, q0z, q2y, q0d, rfl, qg0, qg1, qc8, qg2, qe5, qe6, qe7, q9j, hS⟩
      have e_ := St.vec_n (hS.pull 5) q9j; subst e_
      refine x_blk <| x_region <| p (yadd (c := 1) qe7 rfl ⟨rfl, by decide⟩) <| p (yl_move rfl) <|
        x_done <| x_un 3 <| x_seq <| x_region <|
        p (ylss_l (t := true) rfl rfl (by decide)) <| x_done <| x_seq <| x_cond_t (show ev _ _ = .bool true from rfl) <|
        x_skip <| x_seq <| x_block <| x_seq <|
        x_region <| p (yl_move rfl) <| p (yl_assign rfl) <| x_done <|
        x_seq <| x_region <| p (yl_field0 fld_81_2 qc8) <| pa (at_load one_3 rfl ((hS.pull 2).cell rfl)) <|
        p (yl_move rfl) <| x_done <|
        ?_
      replace hFL3 := bd_s hFL3; obtain ⟨oL21u3, hLL21u3, hFL3⟩ := hFL3
      refine x_join (fun E w => ∃ (q0l : Option Addr) (q30 : Nat) (c_b4_7_L21u3 : Nat) (q17 : List Value) (q31 : Int) (q0k : List Int), (q31, q0k) = oL21u3 ∧ E 0 = .pointer (some ⟨q5, 0, none⟩) ∧ E 2 = .pointer (some ⟨b2, 0, none⟩) ∧ E 3 = .pointer (some ⟨b3, 0, none⟩) ∧ E 4 = .pointer (some ⟨b4, 0, none⟩) ∧ E 20 = .int .i64 x20 ∧ E 21 = .int .i64 q0s ∧ E 73 = .int .i64 1 ∧ RepL (RpI .i64) q0a q0k q17 ∧ St w0 w (cells q5 25 [.slice q7 s0.L.length c_s0_0, .int .i64 q31] :: cells b2 81 [.int .i64 0, .int .i64 0, .int .i64 0, .slice none 0 0, .slice none 0 0, .slice none 0 0] :: cells b3 81 [.int .i64 q0b.1, .int .i64 q0c.1, .int .i64 q4.1, .slice q3 q2.length c_b3_3_L3h, .slice none 0 0, .slice none 0 0] :: cells b4 183 [.int .u16 x25, .bool q0j.1, .int .i64 q6, .int .i64 q8, .int .i64 q0f, .int .i64 q0t, .slice q0h q0d.length c_b4_6_L21u4, .slice q0l q30 c_b4_7_L21u3, .slice none 0 0, .slice none 0 0] :: vec 183 R_array_Tile.sz (.slice q3 q2.length c_b3_3_L3h) q2.length q9 :: vec 3 (RpI .i64).sz (.slice q0h q0d.length c_b4_6_L21u4) q0d.length q0z :: vec 3 (RpI .i64).sz (.slice q0l q30 c_b4_7_L21u3) q30 q17 :: ro q0a :: l)) ?_ ?_
      · skip -- L21u3
        refine x_block ?_
        replace hS := St.vec_nil hS 3 (RpI .i64).sz
        have q9k : RepL (RpI .i64) q0a [] [] := rfl
        refine x_loop (fun k_ E w => ∃ (q1n : Option Addr) (q2d : Nat) (c_b4_7_L21u3h : Nat) (q1w : List Value) (q32 : Int) (q2e : Int) (q1h : List Int), lp (P_maskmake_Stream_Config_L21u3 s0 q4) k_ (q32, q2e, q1h) = some oL21u3 ∧ E 0 = .pointer (some ⟨q5, 0, none⟩) ∧ E 2 = .pointer (some ⟨b2, 0, none⟩) ∧ E 3 = .pointer (some ⟨b3, 0, none⟩) ∧ E 4 = .pointer (some ⟨b4, 0, none⟩) ∧ E 6 = .int .i64 1 ∧ E 20 = .int .i64 x20 ∧ E 21 = .int .i64 q0s ∧ E 73 = .int .i64 1 ∧ E 77 = .int .i64 q4.1 ∧ E 78 = .int .i64 q32 ∧ RepL (RpI .i64) q0a q1h q1w ∧ St w0 w (cells q5 25 [.slice q7 s0.L.length c_s0_0, .int .i64 q2e] :: cells b2 81 [.int .i64 0, .int .i64 0, .int .i64 0, .slice none 0 0, .slice none 0 0, .slice none 0 0] :: cells b3 81 [.int .i64 q0b.1, .int .i64 q0c.1, .int .i64 q4.1, .slice q3 q2.length c_b3_3_L3h, .slice none 0 0, .slice none 0 0] :: cells b4 183 [.int .u16 x25, .bool q0j.1, .int .i64 q6, .int .i64 q8, .int .i64 q0f, .int .i64 q0t, .slice q0h q0d.length c_b4_6_L21u4, .slice q1n q2d c_b4_7_L21u3h, .slice none 0 0, .slice none 0 0] :: vec 183 R_array_Tile.sz (.slice q3 q2.length c_b3_3_L3h) q2.length q9 :: vec 3 (RpI .i64).sz (.slice q0h q0d.length c_b4_6_L21u4) q0d.length q0z :: vec 3 (RpI .i64).sz (.slice q1n q2d c_b4_7_L21u3h) q2d q1w :: ro q0a :: l)) fuel ⟨none, 0, 0, [], 0, q2y, [], hLL21u3, qg0, qg1, qc8, qg2, rfl, qe5, qe6, rfl, rfl, rfl, q9k, ((((((((hS.pull 7).pull 1).pull 7).pull 7).pull 7).pull 7).pull 7).pull 7)⟩ ?_
        rintro kL21u3 E w ⟨q1n, q2d, c_b4_7_L21u3h, q1w, q32, q2e, q1h, hLL21u3, q7f, q9l, q9m, q9n, q9o, q8e, q8f, q8g, q8h, q8i, q3x, hS⟩
        have e_ := St.vec_n (hS.pull 6) q3x; subst e_
        replace hLL21u3 := lp_s hLL21u3; obtain ⟨kL21u3, obL21u3, rfl, hFL21u3, hLL21u3⟩ := hLL21u3
        refine x_seq <| x_region <| p (yl_lss q8i q8h) <| x_done <|
          x_seq <|
          x_cond_p (q32 < q4.1) rfl (fun hc79u3 => ?_) (fun hc79u3 => ?_)
        · replace hFL21u3 := it_t hc79u3 hFL21u3
          refine x_skip <| x_seq <| x_block <| x_seq <|
            x_region <| p (yl_move q7f) <|
            ?_
          refine o_buildSlice (vs := [.int .i64 0, .int .i64 1, .int .i64 2, .int .i64 6, .int .i64 3]) (cs := [.int .i64 0, .int .i64 1, .int .i64 2, .int .i64 6, .int .i64 3]) sl_22 zero_3 (parts_eq (pt (va := .int .i64 0) rfl (pt (va := .int .i64 1) rfl (pt (va := .int .i64 2) rfl (pt (va := .int .i64 6) rfl (pt (va := .int .i64 3) rfl pt0)))))) rfl (by intro v hv; simp only [List.mem_cons, List.not_mem_nil, or_false] at hv; first | (subst hv; rfl) | (rcases hv with rfl | rfl | rfl | rfl | rfl <;> rfl)) (by decide) rfl hS (fun b81u3 w' hS => ?_)
          have qg3 : RepL (RpI .i64) q0a ([0, 1, 2, 6, 3] : List Int) [.int .i64 0, .int .i64 1, .int .i64 2, .int .i64 6, .int .i64 3] := (RepL.cons (cs := [.int .i64 0]) rfl (RepL.cons (cs := [.int .i64 1]) rfl (RepL.cons (cs := [.int .i64 2]) rfl (RepL.cons (cs := [.int .i64 6]) rfl (RepL.cons (cs := [.int .i64 3]) rfl RepL.nil)))))
          replace hS := St.vec_of (n := 5) (sz := (RpI .i64).sz) hS rfl (by decide)
          replace hFL21u3 := bd_s hFL21u3; obtain ⟨qa5, qg4, hFL21u3⟩ := hFL21u3
          have q_ := St.lend ((hS.pull 8).pull 1) qg3; obtain ⟨ρl0, hll0, hlf0, hS0, back0⟩ := q_
          have hcall := c_maskmake_Stream_Pick qg4 ((q0w.le q0v).le hll0) hlf0 (hS0.pull 1)
          refine o_cc call_92 (args2 rfl rfl) hcall ?_
          rintro e w' ⟨rfl, hS⟩
          refine ⟨_, rfl, ?_⟩
          replace hS := back0 (hS.pull 1)
          refine p (yl_assign rfl) <| x_done <| x_seq <| x_seq <|
            x_region <| p (yl_move rfl) <| p (yl_move q9o) <| p (yadd (c := 4) rfl rfl ⟨rfl, by decide⟩) <|
            p (yl_eql rfl rfl) <| x_done <|
            ?_
          replace hFL21u3 := bd_s hFL21u3; obtain ⟨oc86u3, hFc86u3, hFL21u3⟩ := hFL21u3
          refine x_join (fun E w => ∃ (q24 : Int), q24 = oc86u3 ∧ E 0 = .pointer (some ⟨q5, 0, none⟩) ∧ E 2 = .pointer (some ⟨b2, 0, none⟩) ∧ E 3 = .pointer (some ⟨b3, 0, none⟩) ∧ E 4 = .pointer (some ⟨b4, 0, none⟩) ∧ E 6 = .int .i64 1 ∧ E 7 = .int .i64 q24 ∧ E 20 = .int .i64 x20 ∧ E 21 = .int .i64 q0s ∧ E 73 = .int .i64 1 ∧ E 77 = .int .i64 q4.1 ∧ E 78 = .int .i64 q32 ∧ St w0 w (cells q5 25 [.slice q7 s0.L.length c_s0_0, .int .i64 qa5.2] :: cells b2 81 [.int .i64 0, .int .i64 0, .int .i64 0, .slice none 0 0, .slice none 0 0, .slice none 0 0] :: cells b3 81 [.int .i64 q0b.1, .int .i64 q0c.1, .int .i64 q4.1, .slice q3 q2.length c_b3_3_L3h, .slice none 0 0, .slice none 0 0] :: cells b4 183 [.int .u16 x25, .bool q0j.1, .int .i64 q6, .int .i64 q8, .int .i64 q0f, .int .i64 q0t, .slice q0h q0d.length c_b4_6_L21u4, .slice q1n q1h.length c_b4_7_L21u3h, .slice none 0 0, .slice none 0 0] :: vec 183 R_array_Tile.sz (.slice q3 q2.length c_b3_3_L3h) q2.length q9 :: vec 3 (RpI .i64).sz (.slice q0h q0d.length c_b4_6_L21u4) q0d.length q0z :: vec 3 (RpI .i64).sz (.slice q1n q1h.length c_b4_7_L21u3h) q1h.length q1w :: ro q0a :: l)) ?_ ?_
          · skip -- c86u3
            refine x_cond_p (qa5.1 = 4) rfl (fun hc86u3 => ?_) (fun hc86u3 => ?_)
            · replace hFc86u3 := it_t hc86u3 hFc86u3
              refine x_region <| p (yl_assign rfl) <| x_done <|
                ?_
              exact x_inv ⟨2, (Option.some.inj (show some _ = some _ from hFc86u3)), q7f, q9l, q9m, q9n, q9o, rfl, q8e, q8f, q8g, q8h, q8i, (((((((hS.drop.pull 7).pull 7).pull 7).pull 7).pull 7).pull 7).pull 7)⟩
            · replace hFc86u3 := it_f hc86u3 hFc86u3
              refine x_skip <|
                ?_
              exact x_inv ⟨qa5.1, (Option.some.inj (show some _ = some _ from hFc86u3)), q7f, q9l, q9m, q9n, q9o, rfl, q8e, q8f, q8g, q8h, q8i, (((((((hS.drop.pull 7).pull 7).pull 7).pull 7).pull 7).pull 7).pull 7)⟩
          rintro E w ⟨q24, rfl, qg5, qg6, qg7, qbf, q74, qg8, qe8, qe9, qea, qeb, qec, hS⟩
          refine x_seq <| x_seq <| x_region <| p (yl_move q74) <|
            p (yeql_l (t := false) rfl rfl (by decide)) <| p (yl_move rfl) <| o_strip 89 false (says_lit (c := false) rfl rfl) <| p (yl_move q74) <|
            o_strip 89 false (says_lit (c := false) rfl rfl) <| p (yeql_l (t := false) rfl rfl (by decide)) <| p (yl_pick (b := false) rfl (fun h => nomatch h) (fun h => rfl)) <| x_done <|
            x_cond_f (show ev _ _ = .bool false from rfl) <| x_skip <| x_region <| p (yl_move q74) <|
            p (yl_move q74) <| p (yl_field0 fld_183_3 qbf) <| p (yl_ixa (x := .tmp 98) (y := .tmp 97) (q := 7) arr_181 rfl rfl (by decide) rfl) <| pa (at_load one_22 rfl ((hS.pull 3).cell rfl)) <|
            p (yl_move qg8) <|
            ?_
          refine o_buildSlice (vs := [.int .i64 q24]) (cs := [.int .i64 q24]) sl_22 zero_3 (parts_eq (pt (va := .int .i64 q24) rfl pt0)) rfl (by intro v hv; simp only [List.mem_cons, List.not_mem_nil, or_false] at hv; first | (subst hv; rfl) | (rcases hv with rfl <;> rfl)) (by decide) rfl hS (fun b102u3 w' hS => ?_)
          replace hFL21u3 := lv_s hFL21u3; obtain ⟨qbu, qg9, hFL21u3⟩ := hFL21u3
          replace hFL21u3 := ck_s hFL21u3; obtain ⟨qga, hFL21u3⟩ := hFL21u3
          refine o_ap sl_22 zero_3 rfl (by decide) rfl rfl (hS.pull 7) q3x (src_blk usl_22 hS rfl rfl) (RepL.cons (R := (RpI .i64)) (ρ := q0a) (x := q24) (cs := [.int .i64 q24]) rfl RepL.nil) qg9 qga (fun A103u3 c103u3 cs103u3 w' hr103u3 hS => ?_)
          refine p (yl_field0 fld_183_3 qbf) <| p (yl_ixa (x := .tmp 104) (y := .tmp 96) (q := 7) arr_181 rfl rfl (by decide) rfl) <|
            ?_
          refine o_store1 (v := .slice A103u3 qbu.length c103u3) one_22 rfl rfl rfl rfl (hS.pull 5) (fun w' hS => ?_)
          replace hFL21u3 := ar_s hFL21u3; obtain ⟨x106u3, hx106u3, hFL21u3⟩ := hFL21u3
          refine x_done <| x_blk <| x_region <| p (yadd qec rfl hx106u3) <|
            p (yl_move rfl) <| x_done <|
            ?_
          have e_ := Option.some.inj (show some _ = some _ from hFL21u3); subst e_
          exact x_inv ⟨kL21u3, Nat.lt_succ_self _, A103u3, qbu.length, c103u3, cs103u3, x106u3, qa5.2, qbu, hLL21u3, qg5, qg6, qg7, qbf, q74, qe8, qe9, qea, qeb, rfl, hr103u3, (((((((((hS.pull 2).drop.pull 7).pull 2).pull 7).pull 7).pull 4).pull 7).pull 7).pull 7)⟩
        · replace hFL21u3 := it_f hc79u3 hFL21u3
          refine x_exitTo _ rfl <|
            ?_
          have e_ := Option.some.inj (show some _ = some _ from hFL21u3); subst e_
          exact x_inv ⟨q1n, q1h.length, c_b4_7_L21u3h, q1w, q2e, q1h, hLL21u3, q7f, q9l, q9m, q9n, q8e, q8f, q8g, q3x, ((((((((hS.pull 7).pull 7).pull 7).pull 7).pull 7).pull 7).pull 7).pull 7)⟩
      rintro E w ⟨q0l, q30, c_b4_7_L21u3, q17, q31, q0k, rfl, qgb, qgc, qc9, qgd, qed, qee, qef, q9p, hS⟩
      have e_ := St.vec_n (hS.pull 6) q9p; subst e_
      refine x_blk <| x_region <| p (yadd (c := 2) qef rfl ⟨rfl, by decide⟩) <| p (yl_move rfl) <|
        x_done <| x_un 2 <| x_seq <| x_region <|
        p (ylss_l (t := true) rfl rfl (by decide)) <| x_done <| x_seq <| x_cond_t (show ev _ _ = .bool true from rfl) <|
        x_skip <| x_seq <| x_block <| x_seq <|
        x_region <| p (yl_move rfl) <| p (yl_assign rfl) <| x_done <|
        x_seq <| x_region <| p (yl_field0 fld_81_2 qc9) <| pa (at_load one_3 rfl ((hS.pull 2).cell rfl)) <|
        p (yl_move rfl) <| x_done <|
        ?_
      replace hFL3 := bd_s hFL3; obtain ⟨oL21u2, hLL21u2, hFL3⟩ := hFL3
      refine x_join (fun E w => ∃ (q0x : Option Addr) (q33 : Nat) (c_b4_8_L21u2 : Nat) (q1o : List Value) (q34 : Int) (q0u : List Int), (q34, q0u) = oL21u2 ∧ E 0 = .pointer (some ⟨q5, 0, none⟩) ∧ E 2 = .pointer (some ⟨b2, 0, none⟩) ∧ E 3 = .pointer (some ⟨b3, 0, none⟩) ∧ E 4 = .pointer (some ⟨b4, 0, none⟩) ∧ E 20 = .int .i64 x20 ∧ E 21 = .int .i64 q0s ∧ E 73 = .int .i64 2 ∧ RepL (RpI .i64) q0a q0u q1o ∧ St w0 w (cells q5 25 [.slice q7 s0.L.length c_s0_0, .int .i64 q34] :: cells b2 81 [.int .i64 0, .int .i64 0, .int .i64 0, .slice none 0 0, .slice none 0 0, .slice none 0 0] :: cells b3 81 [.int .i64 q0b.1, .int .i64 q0c.1, .int .i64 q4.1, .slice q3 q2.length c_b3_3_L3h, .slice none 0 0, .slice none 0 0] :: cells b4 183 [.int .u16 x25, .bool q0j.1, .int .i64 q6, .int .i64 q8, .int .i64 q0f, .int .i64 q0t, .slice q0h q0d.length c_b4_6_L21u4, .slice q0l q0k.length c_b4_7_L21u3, .slice q0x q33 c_b4_8_L21u2, .slice none 0 0] :: vec 183 R_array_Tile.sz (.slice q3 q2.length c_b3_3_L3h) q2.length q9 :: vec 3 (RpI .i64).sz (.slice q0h q0d.length c_b4_6_L21u4) q0d.length q0z :: vec 3 (RpI .i64).sz (.slice q0l q0k.length c_b4_7_L21u3) q0k.length q17 :: vec 3 (RpI .i64).sz (.slice q0x q33 c_b4_8_L21u2) q33 q1o :: ro q0a :: l)) ?_ ?_
      · skip -- L21u2
        refine x_block ?_
        replace hS := St.vec_nil hS 3 (RpI .i64).sz
        have q9q : RepL (RpI .i64) q0a [] [] := rfl
        refine x_loop (fun k_ E w => ∃ (q1p : Option Addr) (q2f : Nat) (c_b4_8_L21u2h : Nat) (q1x : List Value) (q35 : Int) (q2g : Int) (q1i : List Int), lp (P_maskmake_Stream_Config_L21u2 s0 q4) k_ (q35, q2g, q1i) = some oL21u2 ∧ E 0 = .pointer (some ⟨q5, 0, none⟩) ∧ E 2 = .pointer (some ⟨b2, 0, none⟩) ∧ E 3 = .pointer (some ⟨b3, 0, none⟩) ∧ E 4 = .pointer (some ⟨b4, 0, none⟩) ∧ E 6 = .int .i64 2 ∧ E 20 = .int .i64 x20 ∧ E 21 = .int .i64 q0s ∧ E 73 = .int .i64 2 ∧ E 77 = .int .i64 q4.1 ∧ E 78 = .int .i64 q35 ∧ RepL (RpI .i64) q0a q1i q1x ∧ St w0 w (cells q5 25 [.slice q7 s0.L.length c_s0_0, .int .i64 q2g] :: cells b2 81 [.int .i64 0, .int .i64 0, .int .i64 0, .slice none 0 0, .slice none 0 0, .slice none 0 0] :: cells b3 81 [.int .i64 q0b.1, .int .i64 q0c.1, .int .i64 q4.1, .slice q3 q2.length c_b3_3_L3h, .slice none 0 0, .slice none 0 0] :: cells b4 183 [.int .u16 x25, .bool q0j.1, .int .i64 q6, .int .i64 q8, .int .i64 q0f, .int .i64 q0t, .slice q0h q0d.length c_b4_6_L21u4, .slice q0l q0k.length c_b4_7_L21u3, .slice q1p q2f c_b4_8_L21u2h, .slice none 0 0] :: vec 183 R_array_Tile.sz (.slice q3 q2.length c_b3_3_L3h) q2.length q9 :: vec 3 (RpI .i64).sz (.slice q0h q0d.length c_b4_6_L21u4) q0d.length q0z :: vec 3 (RpI .i64).sz (.slice q0l q0k.length c_b4_7_L21u3) q0k.length q17 :: vec 3 (RpI .i64).sz (.slice q1p q2f c_b4_8_L21u2h) q2f q1x :: ro q0a :: l)) fuel ⟨none, 0, 0, [], 0, q31, [], hLL21u2, qgb, qgc, qc9, qgd, rfl, qed, qee, rfl, rfl, rfl, q9q, (((((((((hS.pull 8).pull 1).pull 8).pull 8).pull 8).pull 8).pull 8).pull 8).pull 8)⟩ ?_
        rintro kL21u2 E w ⟨q1p, q2f, c_b4_8_L21u2h, q1x, q35, q2g, q1i, hLL21u2, q7g, q9r, q9s, q9t, q9u, q8j, q8k, q8l, q8m, q8n, q3y, hS⟩
        have e_ := St.vec_n (hS.pull 7) q3y; subst e_
        replace hLL21u2 := lp_s hLL21u2; obtain ⟨kL21u2, obL21u2, rfl, hFL21u2, hLL21u2⟩ := hLL21u2
        refine x_seq <| x_region <| p (yl_lss q8n q8m) <| x_done <|
          x_seq <|
          x_cond_p (q35 < q4.1) rfl (fun hc79u2 => ?_) (fun hc79u2 => ?_)
        · replace hFL21u2 := it_t hc79u2 hFL21u2
          refine x_skip <| x_seq <| x_block <| x_seq <|
            x_region <| p (yl_move q7g) <|
            ?_
          refine o_buildSlice (vs := [.int .i64 0, .int .i64 1, .int .i64 2, .int .i64 6, .int .i64 3]) (cs := [.int .i64 0, .int .i64 1, .int .i64 2, .int .i64 6, .int .i64 3]) sl_22 zero_3 (parts_eq (pt (va := .int .i64 0) rfl (pt (va := .int .i64 1) rfl (pt (va := .int .i64 2) rfl (pt (va := .int .i64 6) rfl (pt (va := .int .i64 3) rfl pt0)))))) rfl (by intro v hv; simp only [List.mem_cons, List.not_mem_nil, or_false] at hv; first | (subst hv; rfl) | (rcases hv with rfl | rfl | rfl | rfl | rfl <;> rfl)) (by decide) rfl hS (fun b81u2 w' hS => ?_)
          have qge : RepL (RpI .i64) q0a ([0, 1, 2, 6, 3] : List Int) [.int .i64 0, .int .i64 1, .int .i64 2, .int .i64 6, .int .i64 3] := (RepL.cons (cs := [.int .i64 0]) rfl (RepL.cons (cs := [.int .i64 1]) rfl (RepL.cons (cs := [.int .i64 2]) rfl (RepL.cons (cs := [.int .i64 6]) rfl (RepL.cons (cs := [.int .i64 3]) rfl RepL.nil)))))
          replace hS := St.vec_of (n := 5) (sz := (RpI .i64).sz) hS rfl (by decide)
          replace hFL21u2 := bd_s hFL21u2; obtain ⟨qa6, qgf, hFL21u2⟩ := hFL21u2
          have q_ := St.lend ((hS.pull 9).pull 1) qge; obtain ⟨ρl0, hll0, hlf0, hS0, back0⟩ := q_
          have hcall := c_maskmake_Stream_Pick qgf ((q0w.le q0v).le hll0) hlf0 (hS0.pull 1)
          refine o_cc call_92 (args2 rfl rfl) hcall ?_
          rintro e w' ⟨rfl, hS⟩
          refine ⟨_, rfl, ?_⟩
          replace hS := back0 (hS.pull 1)
          refine p (yl_assign rfl) <| x_done <| x_seq <| x_seq <|
            x_region <| p (yl_move rfl) <| p (yl_move q9u) <| p (yadd (c := 5) rfl rfl ⟨rfl, by decide⟩) <|
            p (yl_eql rfl rfl) <| x_done <|
            ?_
          replace hFL21u2 := bd_s hFL21u2; obtain ⟨oc86u2, hFc86u2, hFL21u2⟩ := hFL21u2
          refine x_join (fun E w => ∃ (q25 : Int), q25 = oc86u2 ∧ E 0 = .pointer (some ⟨q5, 0, none⟩) ∧ E 2 = .pointer (some ⟨b2, 0, none⟩) ∧ E 3 = .pointer (some ⟨b3, 0, none⟩) ∧ E 4 = .pointer (some ⟨b4, 0, none⟩) ∧ E 6 = .int .i64 2 ∧ E 7 = .int .i64 q25 ∧ E 20 = .int .i64 x20 ∧ E 21 = .int .i64 q0s ∧ E 73 = .int .i64 2 ∧ E 77 = .int .i64 q4.1 ∧ E 78 = .int .i64 q35 ∧ St w0 w (cells q5 25 [.slice q7 s0.L.length c_s0_0, .int .i64 qa6.2] :: cells b2 81 [.int .i64 0, .int .i64 0, .int .i64 0, .slice none 0 0, .slice none 0 0, .slice none 0 0] :: cells b3 81 [.int .i64 q0b.1, .int .i64 q0c.1, .int .i64 q4.1, .slice q3 q2.length c_b3_3_L3h, .slice none 0 0, .slice none 0 0] :: cells b4 183 [.int .u16 x25, .bool q0j.1, .int .i64 q6, .int .i64 q8, .int .i64 q0f, .int .i64 q0t, .slice q0h q0d.length c_b4_6_L21u4, .slice q0l q0k.length c_b4_7_L21u3, .slice q1p q1i.length c_b4_8_L21u2h, .slice none 0 0] :: vec 183 R_array_Tile.sz (.slice q3 q2.length c_b3_3_L3h) q2.length q9 :: vec 3 (RpI .i64).sz (.slice q0h q0d.length c_b4_6_L21u4) q0d.length q0z :: vec 3 (RpI .i64).sz (.slice q0l q0k.length c_b4_7_L21u3) q0k.length q17 :: vec 3 (RpI .i64).sz (.slice q1p q1i.length c_b4_8_L21u2h) q1i.length q1x :: ro q0a :: l)) ?_ ?_
          · skip -- c86u2
            refine x_cond_p (qa6.1 = 5) rfl (fun hc86u2 => ?_) (fun hc86u2 => ?_)
            · replace hFc86u2 := it_t hc86u2 hFc86u2
              refine x_region <| p (yl_assign rfl) <| x_done <|
                ?_
              exact x_inv ⟨2, (Option.some.inj (show some _ = some _ from hFc86u2)), q7g, q9r, q9s, q9t, q9u, rfl, q8j, q8k, q8l, q8m, q8n, ((((((((hS.drop.pull 8).pull 8).pull 8).pull 8).pull 8).pull 8).pull 8).pull 8)⟩
            · replace hFc86u2 := it_f hc86u2 hFc86u2
              refine x_skip <|
                ?_
              exact x_inv ⟨qa6.1, (Option.some.inj (show some _ = some _ from hFc86u2)), q7g, q9r, q9s, q9t, q9u, rfl, q8j, q8k, q8l, q8m, q8n, ((((((((hS.drop.pull 8).pull 8).pull 8).pull 8).pull 8).pull 8).pull 8).pull 8)⟩
          rintro E w ⟨q25, rfl, qgg, qgh, qgi, qbg, q75, qgj, qeg, qeh, qei, qej, qek, hS⟩
          refine x_seq <| x_seq <| x_region <| p (yl_move q75) <|
            p (yeql_l (t := false) rfl rfl (by decide)) <| p (yl_move rfl) <| o_strip 89 false (says_lit (c := false) rfl rfl) <| p (yl_move q75) <|
            o_strip 89 false (says_lit (c := false) rfl rfl) <| p (yeql_l (t := false) rfl rfl (by decide)) <| p (yl_pick (b := false) rfl (fun h => nomatch h) (fun h => rfl)) <| x_done <|
            x_cond_f (show ev _ _ = .bool false from rfl) <| x_skip <| x_region <| p (yl_move q75) <|
            p (yl_move q75) <| p (yl_field0 fld_183_3 qbg) <| p (yl_ixa (x := .tmp 98) (y := .tmp 97) (q := 8) arr_181 rfl rfl (by decide) rfl) <| pa (at_load one_22 rfl ((hS.pull 3).cell rfl)) <|
            p (yl_move qgj) <|
            ?_
          refine o_buildSlice (vs := [.int .i64 q25]) (cs := [.int .i64 q25]) sl_22 zero_3 (parts_eq (pt (va := .int .i64 q25) rfl pt0)) rfl (by intro v hv; simp only [List.mem_cons, List.not_mem_nil, or_false] at hv; first | (subst hv; rfl) | (rcases hv with rfl <;> rfl)) (by decide) rfl hS (fun b102u2 w' hS => ?_)
          replace hFL21u2 := lv_s hFL21u2; obtain ⟨qbv, qgk, hFL21u2⟩ := hFL21u2
          replace hFL21u2 := ck_s hFL21u2; obtain ⟨qgl, hFL21u2⟩ := hFL21u2
          refine o_ap sl_22 zero_3 rfl (by decide) rfl rfl (hS.pull 8) q3y (src_blk usl_22 hS rfl rfl) (RepL.cons (R := (RpI .i64)) (ρ := q0a) (x := q25) (cs := [.int .i64 q25]) rfl RepL.nil) qgk qgl (fun A103u2 c103u2 cs103u2 w' hr103u2 hS => ?_)
          refine p (yl_field0 fld_183_3 qbg) <| p (yl_ixa (x := .tmp 104) (y := .tmp 96) (q := 8) arr_181 rfl rfl (by decide) rfl) <|
            ?_
          refine o_store1 (v := .slice A103u2 qbv.length c103u2) one_22 rfl rfl rfl rfl (hS.pull 5) (fun w' hS => ?_)
          replace hFL21u2 := ar_s hFL21u2; obtain ⟨x106u2, hx106u2, hFL21u2⟩ := hFL21u2
          refine x_done <| x_blk <| x_region <| p (yadd qek rfl hx106u2) <|
            p (yl_move rfl) <| x_done <|
            ?_
          have e_ := Option.some.inj (show some _ = some _ from hFL21u2); subst e_
          exact x_inv ⟨kL21u2, Nat.lt_succ_self _, A103u2, qbv.length, c103u2, cs103u2, x106u2, qa6.2, qbv, hLL21u2, qgg, qgh, qgi, qbg, q75, qeg, qeh, qei, qej, rfl, hr103u2, ((((((((((hS.pull 2).drop.pull 8).pull 2).pull 8).pull 8).pull 8).pull 5).pull 8).pull 8).pull 8)⟩
        · replace hFL21u2 := it_f hc79u2 hFL21u2
          refine x_exitTo _ rfl <|
            ?_
          have e_ := Option.some.inj (show some _ = some _ from hFL21u2); subst e_
          exact x_inv ⟨q1p, q1i.length, c_b4_8_L21u2h, q1x, q2g, q1i, hLL21u2, q7g, q9r, q9s, q9t, q8j, q8k, q8l, q3y, (((((((((hS.pull 8).pull 8).pull 8).pull 8).pull 8).pull 8).pull 8).pull 8).pull 8)⟩
      rintro E w ⟨q0x, q33, c_b4_8_L21u2, q1o, q34, q0u, rfl, qgm, qgn, qca, qgo, qel, qem, qen, q9v, hS⟩
      have e_ := St.vec_n (hS.pull 7) q9v; subst e_
      refine x_blk <| x_region <| p (yadd (c := 3) qen rfl ⟨rfl, by decide⟩) <| p (yl_move rfl) <|
        x_done <| x_un 1 <| x_seq <| x_region <|
        p (ylss_l (t := true) rfl rfl (by decide)) <| x_done <| x_seq <| x_cond_t (show ev _ _ = .bool true from rfl) <|
        x_skip <| x_seq <| x_block <| x_seq <|
        x_region <| p (yl_move rfl) <| p (yl_assign rfl) <| x_done <|
        x_seq <| x_region <| p (yl_field0 fld_81_2 qca) <| pa (at_load one_3 rfl ((hS.pull 2).cell rfl)) <|
        p (yl_move rfl) <| x_done <|
        ?_
      replace hFL3 := bd_s hFL3; obtain ⟨oL21u1, hLL21u1, hFL3⟩ := hFL3
      refine x_join (fun E w => ∃ (q1a : Option Addr) (q36 : Nat) (c_b4_9_L21u1 : Nat) (q3z : List Value) (q37 : Int) (q1d : List Int), (q37, q1d) = oL21u1 ∧ E 0 = .pointer (some ⟨q5, 0, none⟩) ∧ E 2 = .pointer (some ⟨b2, 0, none⟩) ∧ E 3 = .pointer (some ⟨b3, 0, none⟩) ∧ E 4 = .pointer (some ⟨b4, 0, none⟩) ∧ E 20 = .int .i64 x20 ∧ E 21 = .int .i64 q0s ∧ E 73 = .int .i64 3 ∧ RepL (RpI .i64) q0a q1d q3z ∧ St w0 w (cells q5 25 [.slice q7 s0.L.length c_s0_0, .int .i64 q37] :: cells b2 81 [.int .i64 0, .int .i64 0, .int .i64 0, .slice none 0 0, .slice none 0 0, .slice none 0 0] :: cells b3 81 [.int .i64 q0b.1, .int .i64 q0c.1, .int .i64 q4.1, .slice q3 q2.length c_b3_3_L3h, .slice none 0 0, .slice none 0 0] :: cells b4 183 [.int .u16 x25, .bool q0j.1, .int .i64 q6, .int .i64 q8, .int .i64 q0f, .int .i64 q0t, .slice q0h q0d.length c_b4_6_L21u4, .slice q0l q0k.length c_b4_7_L21u3, .slice q0x q0u.length c_b4_8_L21u2, .slice q1a q36 c_b4_9_L21u1] :: vec 183 R_array_Tile.sz (.slice q3 q2.length c_b3_3_L3h) q2.length q9 :: vec 3 (RpI .i64).sz (.slice q0h q0d.length c_b4_6_L21u4) q0d.length q0z :: vec 3 (RpI .i64).sz (.slice q0l q0k.length c_b4_7_L21u3) q0k.length q17 :: vec 3 (RpI .i64).sz (.slice q0x q0u.length c_b4_8_L21u2) q0u.length q1o :: vec 3 (RpI .i64).sz (.slice q1a q36 c_b4_9_L21u1) q36 q3z :: ro q0a :: l)) ?_ ?_
      · skip -- L21u1
        refine x_block ?_
        replace hS := St.vec_nil hS 3 (RpI .i64).sz
        have q9w : RepL (RpI .i64) q0a [] [] := rfl
        refine x_loop (fun k_ E w => ∃ (q1q : Option Addr) (q2h : Nat) (c_b4_9_L21u1h : Nat) (q1y : List Value) (q38 : Int) (q2i : Int) (q1j : List Int), lp (P_maskmake_Stream_Config_L21u1 s0 q4) k_ (q38, q2i, q1j) = some oL21u1 ∧ E 0 = .pointer (some ⟨q5, 0, none⟩) ∧ E 2 = .pointer (some ⟨b2, 0, none⟩) ∧ E 3 = .pointer (some ⟨b3, 0, none⟩) ∧ E 4 = .pointer (some ⟨b4, 0, none⟩) ∧ E 6 = .int .i64 3 ∧ E 20 = .int .i64 x20 ∧ E 21 = .int .i64 q0s ∧ E 73 = .int .i64 3 ∧ E 77 = .int .i64 q4.1 ∧ E 78 = .int .i64 q38 ∧ RepL (RpI .i64) q0a q1j q1y ∧ St w0 w (cells q5 25 [.slice q7 s0.L.length c_s0_0, .int .i64 q2i] :: cells b2 81 [.int .i64 0, .int .i64 0, .int .i64 0, .slice none 0 0, .slice none 0 0, .slice none 0 0] :: cells b3 81 [.int .i64 q0b.1, .int .i64 q0c.1, .int .i64 q4.1, .slice q3 q2.length c_b3_3_L3h, .slice none 0 0, .slice none 0 0] :: cells b4 183 [.int .u16 x25, .bool q0j.1, .int .i64 q6, .int .i64 q8, .int .i64 q0f, .int .i64 q0t, .slice q0h q0d.length c_b4_6_L21u4, .slice q0l q0k.length c_b4_7_L21u3, .slice q0x q0u.length c_b4_8_L21u2, .slice q1q q2h c_b4_9_L21u1h] :: vec 183 R_array_Tile.sz (.slice q3 q2.length c_b3_3_L3h) q2.length q9 :: vec 3 (RpI .i64).sz (.slice q0h q0d.length c_b4_6_L21u4) q0d.length q0z :: vec 3 (RpI .i64).sz (.slice q0l q0k.length c_b4_7_L21u3) q0k.length q17 :: vec 3 (RpI .i64).sz (.slice q0x q0u.length c_b4_8_L21u2) q0u.length q1o :: vec 3 (RpI .i64).sz (.slice q1q q2h c_b4_9_L21u1h) q2h q1y :: ro q0a :: l)) fuel ⟨none, 0, 0, [], 0, q34, [], hLL21u1, qgm, qgn, qca, qgo, rfl, qel, qem, rfl, rfl, rfl, q9w, ((((((((((hS.pull 9).pull 1).pull 9).pull 9).pull 9).pull 9).pull 9).pull 9).pull 9).pull 9)⟩ ?_
        rintro kL21u1 E w ⟨q1q, q2h, c_b4_9_L21u1h, q1y, q38, q2i, q1j, hLL21u1, q7h, q9x, q9y, q9z, qa0, q8o, q8p, q8q, q8r, q8s, q40, hS⟩
        have e_ := St.vec_n (hS.pull 8) q40; subst e_
        replace hLL21u1 := lp_s hLL21u1; obtain ⟨kL21u1, obL21u1, rfl, hFL21u1, hLL21u1⟩ := hLL21u1
        refine x_seq <| x_region <| p (yl_lss q8s q8r) <| x_done <|
          x_seq <|
          x_cond_p (q38 < q4.1) rfl (fun hc79u1 => ?_) (fun hc79u1 => ?_)
        · replace hFL21u1 := it_t hc79u1 hFL21u1
          refine x_skip <| x_seq <| x_block <| x_seq <|
            x_region <| p (yl_move q7h) <|
            ?_
          refine o_buildSlice (vs := [.int .i64 0, .int .i64 1, .int .i64 2, .int .i64 6, .int .i64 3]) (cs := [.int .i64 0, .int .i64 1, .int .i64 2, .int .i64 6, .int .i64 3]) sl_22 zero_3 (parts_eq (pt (va := .int .i64 0) rfl (pt (va := .int .i64 1) rfl (pt (va := .int .i64 2) rfl (pt (va := .int .i64 6) rfl (pt (va := .int .i64 3) rfl pt0)))))) rfl (by intro v hv; simp only [List.mem_cons, List.not_mem_nil, or_false] at hv; first | (subst hv; rfl) | (rcases hv with rfl | rfl | rfl | rfl | rfl <;> rfl)) (by decide) rfl hS (fun b81u1 w' hS => ?_)
          have qgp : RepL (RpI .i64) q0a ([0, 1, 2, 6, 3] : List Int) [.int .i64 0, .int .i64 1, .int .i64 2, .int .i64 6, .int .i64 3] := (RepL.cons (cs := [.int .i64 0]) rfl (RepL.cons (cs := [.int .i64 1]) rfl (RepL.cons (cs := [.int .i64 2]) rfl (RepL.cons (cs := [.int .i64 6]) rfl (RepL.cons (cs := [.int .i64 3]) rfl RepL.nil)))))
          replace hS := St.vec_of (n := 5) (sz := (RpI .i64).sz) hS rfl (by decide)
          replace hFL21u1 := bd_s hFL21u1; obtain ⟨qbw, qgq, hFL21u1⟩ := hFL21u1
          have q_ := St.lend ((hS.pull 10).pull 1) qgp; obtain ⟨ρl0, hll0, hlf0, hS0, back0⟩ := q_
          have hcall := c_maskmake_Stream_Pick qgq ((q0w.le q0v).le hll0) hlf0 (hS0.pull 1)
          refine o_cc call_92 (args2 rfl rfl) hcall ?_
          rintro e w' ⟨rfl, hS⟩
          refine ⟨_, rfl, ?_⟩
          replace hS := back0 (hS.pull 1)
          refine p (yl_assign rfl) <| x_done <| x_seq <| x_seq <|
            x_region <| p (yl_move rfl) <| p (yl_move qa0) <| p (yadd (c := 6) rfl rfl ⟨rfl, by decide⟩) <|
            p (yl_eql rfl rfl) <| x_done <|
            ?_
          replace hFL21u1 := bd_s hFL21u1; obtain ⟨oc86u1, hFc86u1, hFL21u1⟩ := hFL21u1
          refine x_join (fun E w => ∃ (qbh : Int), qbh = oc86u1 ∧ E 0 = .pointer (some ⟨q5, 0, none⟩) ∧ E 2 = .pointer (some ⟨b2, 0, none⟩) ∧ E 3 = .pointer (some ⟨b3, 0, none⟩) ∧ E 4 = .pointer (some ⟨b4, 0, none⟩) ∧ E 6 = .int .i64 3 ∧ E 7 = .int .i64 qbh ∧ E 20 = .int .i64 x20 ∧ E 21 = .int .i64 q0s ∧ E 73 = .int .i64 3 ∧ E 77 = .int .i64 q4.1 ∧ E 78 = .int .i64 q38 ∧ St w0 w (cells q5 25 [.slice q7 s0.L.length c_s0_0, .int .i64 qbw.2] :: cells b2 81 [.int .i64 0, .int .i64 0, .int .i64 0, .slice none 0 0, .slice none 0 0, .slice none 0 0] :: cells b3 81 [.int .i64 q0b.1, .int .i64 q0c.1, .int .i64 q4.1, .slice q3 q2.length c_b3_3_L3h, .slice none 0 0, .slice none 0 0] :: cells b4 183 [.int .u16 x25, .bool q0j.1, .int .i64 q6, .int .i64 q8, .int .i64 q0f, .int .i64 q0t, .slice q0h q0d.length c_b4_6_L21u4, .slice q0l q0k.length c_b4_7_L21u3, .slice q0x q0u.length c_b4_8_L21u2, .slice q1q q1j.length c_b4_9_L21u1h] :: vec 183 R_array_Tile.sz (.slice q3 q2.length c_b3_3_L3h) q2.length q9 :: vec 3 (RpI .i64).sz (.slice q0h q0d.length c_b4_6_L21u4) q0d.length q0z :: vec 3 (RpI .i64).sz (.slice q0l q0k.length c_b4_7_L21u3) q0k.length q17 :: vec 3 (RpI .i64).sz (.slice q0x q0u.length c_b4_8_L21u2) q0u.length q1o :: vec 3 (RpI .i64).sz (.slice q1q q1j.length c_b4_9_L21u1h) q1j.length q1y :: ro q0a :: l)) ?_ ?_
          · skip -- c86u1
            refine x_cond_p (qbw.1 = 6) rfl (fun hc86u1 => ?_) (fun hc86u1 => ?_)
            · replace hFc86u1 := it_t hc86u1 hFc86u1
              refine x_region <| p (yl_assign rfl) <| x_done <|
                ?_
              exact x_inv ⟨2, (Option.some.inj (show some _ = some _ from hFc86u1)), q7h, q9x, q9y, q9z, qa0, rfl, q8o, q8p, q8q, q8r, q8s, (((((((((hS.drop.pull 9).pull 9).pull 9).pull 9).pull 9).pull 9).pull 9).pull 9).pull 9)⟩
            · replace hFc86u1 := it_f hc86u1 hFc86u1
              refine x_skip <|
                ?_
              exact x_inv ⟨qbw.1, (Option.some.inj (show some _ = some _ from hFc86u1)), q7h, q9x, q9y, q9z, qa0, rfl, q8o, q8p, q8q, q8r, q8s, (((((((((hS.drop.pull 9).pull 9).pull 9).pull 9).pull 9).pull 9).pull 9).pull 9).pull 9)⟩
          rintro E w ⟨qbh, rfl, qcb, qgr, qgs, qbi, q76, qhv, qeo, qep, qeq, qer, qes, hS⟩
          refine x_seq <| x_seq <| x_region <| p (yl_move q76) <|
            p (yeql_l (t := false) rfl rfl (by decide)) <| p (yl_move rfl) <| o_strip 89 false (says_lit (c := false) rfl rfl) <| p (yl_move q76) <|
            o_strip 89 false (says_lit (c := false) rfl rfl) <| p (yeql_l (t := true) rfl rfl (by decide)) <| p (yl_pick (b := false) rfl (fun h => nomatch h) (fun h => rfl)) <| x_done <|
            x_cond_t (show ev _ _ = .bool true from rfl) <| x_region <| p (yl_move qcb) <|
            ?_
          refine o_buildSlice (vs := [.int .i64 0, .int .i64 2]) (cs := [.int .i64 0, .int .i64 2]) sl_22 zero_3 (parts_eq (pt (va := .int .i64 0) rfl (pt (va := .int .i64 2) rfl pt0))) rfl (by intro v hv; simp only [List.mem_cons, List.not_mem_nil, or_false] at hv; first | (subst hv; rfl) | (rcases hv with rfl | rfl <;> rfl)) (by decide) rfl hS (fun b94u1 w' hS => ?_)
          have qgt : RepL (RpI .i64) q0a ([0, 2] : List Int) [.int .i64 0, .int .i64 2] := (RepL.cons (cs := [.int .i64 0]) rfl (RepL.cons (cs := [.int .i64 2]) rfl RepL.nil))
          replace hS := St.vec_of (n := 2) (sz := (RpI .i64).sz) hS rfl (by decide)
          replace hFL21u1 := bd_s hFL21u1; obtain ⟨q6q, qgu, hFL21u1⟩ := hFL21u1
          have q_ := St.lend ((hS.pull 10).pull 1) qgt; obtain ⟨ρl0, hll0, hlf0, hS0, back0⟩ := q_
          have hcall := c_maskmake_Stream_Pick qgu ((q0w.le q0v).le hll0) hlf0 (hS0.pull 1)
          refine o_cc call_92 (args2 rfl rfl) hcall ?_
          rintro e w' ⟨rfl, hS⟩
          refine ⟨_, rfl, ?_⟩
          replace hS := back0 (hS.pull 1)
          refine p (yl_assign rfl) <| x_done <| x_region <| p (yl_move q76) <|
            p (yl_move q76) <| p (yl_field0 fld_183_3 qbi) <| p (yl_ixa (x := .tmp 98) (y := .tmp 97) (q := 9) arr_181 rfl rfl (by decide) rfl) <| pa (at_load one_22 rfl ((hS.pull 5).cell rfl)) <|
            p (yl_move rfl) <|
            ?_
          refine o_buildSlice (vs := [.int .i64 q6q.1]) (cs := [.int .i64 q6q.1]) sl_22 zero_3 (parts_eq (pt (va := .int .i64 q6q.1) rfl pt0)) rfl (by intro v hv; simp only [List.mem_cons, List.not_mem_nil, or_false] at hv; first | (subst hv; rfl) | (rcases hv with rfl <;> rfl)) (by decide) rfl hS (fun b102u1 w' hS => ?_)
          replace hFL21u1 := lv_s hFL21u1; obtain ⟨qbx, qgv, hFL21u1⟩ := hFL21u1
          replace hFL21u1 := ck_s hFL21u1; obtain ⟨qgw, hFL21u1⟩ := hFL21u1
          refine o_ap sl_22 zero_3 rfl (by decide) rfl rfl (hS.pull 11) q40 (src_blk usl_22 hS rfl rfl) (RepL.cons (R := (RpI .i64)) (ρ := q0a) (x := q6q.1) (cs := [.int .i64 q6q.1]) rfl RepL.nil) qgv qgw (fun A103u1 c103u1 cs103u1 w' hr103u1 hS => ?_)
          refine p (yl_field0 fld_183_3 qbi) <| p (yl_ixa (x := .tmp 104) (y := .tmp 96) (q := 9) arr_181 rfl rfl (by decide) rfl) <|
            ?_
          refine o_store1 (v := .slice A103u1 qbx.length c103u1) one_22 rfl rfl rfl rfl (hS.pull 7) (fun w' hS => ?_)
          replace hFL21u1 := ar_s hFL21u1; obtain ⟨x106u1, hx106u1, hFL21u1⟩ := hFL21u1
          refine x_done <| x_blk <| x_region <| p (yadd qes rfl hx106u1) <|
            p (yl_move rfl) <| x_done <|
            ?_
          have e_ := Option.some.inj (show some _ = some _ from hFL21u1); subst e_
          exact x_inv ⟨kL21u1, Nat.lt_succ_self _, A103u1, qbx.length, c103u1, cs103u1, x106u1, q6q.2, qbx, hLL21u1, qcb, qgr, qgs, qbi, q76, qeo, qep, qeq, qer, rfl, hr103u1, ((((((((((((hS.pull 2).drop.pull 2).drop.pull 2).pull 2).pull 9).pull 9).pull 9).pull 9).pull 6).pull 9).pull 9).pull 9)⟩
        · replace hFL21u1 := it_f hc79u1 hFL21u1
          refine x_exitTo _ rfl <|
            ?_
          have e_ := Option.some.inj (show some _ = some _ from hFL21u1); subst e_
          exact x_inv ⟨q1q, q1j.length, c_b4_9_L21u1h, q1y, q2i, q1j, hLL21u1, q7h, q9x, q9y, q9z, q8o, q8p, q8q, q40, ((((((((((hS.pull 9).pull 9).pull 9).pull 9).pull 9).pull 9).pull 9).pull 9).pull 9).pull 9)⟩
      rintro E w ⟨q1a, q36, c_b4_9_L21u1, q3z, q37, q1d, rfl, qgx, qgy, qbj, qgz, qet, qeu, qev, qa1, hS⟩
      have e_ := St.vec_n (hS.pull 8) qa1; subst e_
      refine x_blk <| x_region <| p (yadd (c := 4) qev rfl ⟨rfl, by decide⟩) <| p (yl_move rfl) <|
        x_done <| x_un 0 <| x_seq <| x_region <|
        p (ylss_l (t := false) rfl rfl (by decide)) <| x_done <| x_seq <| x_cond_f (show ev _ _ = .bool false from rfl) <|
        x_exitTo _ rfl <| x_region <| p (yl_field0 fld_81_3 qbj) <| pa (at_load one_78 rfl ((hS.pull 2).cell rfl)) <|
        pa (v := .agg #[.int .u16 x25, .bool q0j.1, .int .i64 q6, .int .i64 q8, .int .i64 q0f, .int .i64 q0t, .slice q0h q0d.length c_b4_6_L21u4, .slice q0l q0k.length c_b4_7_L21u3, .slice q0x q0u.length c_b4_8_L21u2, .slice q1a q1d.length c_b4_9_L21u1]) (ld_sub agg_183 qgz rfl rfl (hS.pull 3)) <|
        ?_
      have q_ := St.vec_fz ((hS.pull 9).pull 6) q9j; obtain ⟨qi2, q77, qhd, hS⟩ := q_
      have q_ := St.vec_fz (hS.pull 6) (q9p.le q77); obtain ⟨qi0, q3t, qh5, hS⟩ := q_
      have q_ := St.vec_fz (hS.pull 6) (q9v.le (q77.trans q3t)); obtain ⟨qi1, q3u, qh6, hS⟩ := q_
      have q_ := St.vec_fz (hS.pull 6) (qa1.le ((q77.trans q3t).trans q3u)); obtain ⟨qcq, q3v, qh7, hS⟩ := q_
      refine o_buildSlice (vs := [.agg #[.int .u16 x25, .bool q0j.1, .int .i64 q6, .int .i64 q8, .int .i64 q0f, .int .i64 q0t, .slice q0h q0d.length c_b4_6_L21u4, .slice q0l q0k.length c_b4_7_L21u3, .slice q0x q0u.length c_b4_8_L21u2, .slice q1a q1d.length c_b4_9_L21u1]]) (cs := [.int .u16 x25, .bool q0j.1, .int .i64 q6, .int .i64 q8, .int .i64 q0f, .int .i64 q0t, .slice q0h q0d.length c_b4_6_L21u4, .slice q0l q0k.length c_b4_7_L21u3, .slice q0x q0u.length c_b4_8_L21u2, .slice q1a q1d.length c_b4_9_L21u1]) sl_78 zero_183 (parts_eq (pt (va := .agg #[.int .u16 x25, .bool q0j.1, .int .i64 q6, .int .i64 q8, .int .i64 q0f, .int .i64 q0t, .slice q0h q0d.length c_b4_6_L21u4, .slice q0l q0k.length c_b4_7_L21u3, .slice q0x q0u.length c_b4_8_L21u2, .slice q1a q1d.length c_b4_9_L21u1]) rfl pt0)) rfl (by intro v hv; simp only [List.mem_cons, List.not_mem_nil, or_false] at hv; first | (subst hv; rfl) | (rcases hv with rfl <;> rfl)) (by decide) rfl hS (fun b111 w' hS => ?_)
      replace hFL3 := lv_s hFL3; obtain ⟨qd9, qhe, hFL3⟩ := hFL3
      replace hFL3 := ck_s hFL3; obtain ⟨qhf, hFL3⟩ := hFL3
      refine o_ap sl_78 zero_183 rfl (by decide) rfl rfl (hS.pull 6) (q7y.le (((q77.trans q3t).trans q3u).trans q3v)) (src_blk usl_78 hS rfl rfl) (RepL.cons (R := R_array_Tile) (ρ := qcq) (x := (T_array_Tile.mk x25 q0j.1 (T_anon180.mk q6 q8 q0f q0t) (T_anon181.mk q0d q0k q0u q1d))) (cs := [.int .u16 x25, .bool q0j.1, .int .i64 q6, .int .i64 q8, .int .i64 q0f, .int .i64 q0t, .slice q0h q0d.length c_b4_6_L21u4, .slice q0l q0k.length c_b4_7_L21u3, .slice q0x q0u.length c_b4_8_L21u2, .slice q1a q1d.length c_b4_9_L21u1]) ⟨_, _, _, _, _, _, _, _, _, _, _, _, rfl, (qhd.le ((q3t.trans q3u).trans q3v)), (qh5.le (q3u.trans q3v)), (qh6.le q3v), qh7⟩ RepL.nil) qhe qhf (fun A112 c112 cs112 w' hr112 hS => ?_)
      refine p (yl_field0 fld_81_3 qbj) <|
        ?_
      refine o_store1 (v := .slice A112 qd9.length c112) one_78 rfl rfl rfl rfl (hS.pull 5) (fun w' hS => ?_)
      replace hFL3 := ar_s hFL3; obtain ⟨x114, hx114, hFL3⟩ := hFL3
      refine x_done <| x_blk <| x_region <| p (yadd qeu rfl hx114) <|
        p (yl_move rfl) <| x_done <|
        ?_
      have e_ := Option.some.inj (show some _ = some _ from hFL3); subst e_
      exact x_inv ⟨kL3, Nat.lt_succ_self _, qcq, A112, qd9.length, c112, cs112, x114, q37, qd9, hLL3, ((((q0v.trans q77).trans q3t).trans q3u).trans q3v), qgx, qgy, qbj, qet, rfl, hr112, (((((((hS.pull 2).drop.pull 5).drop.pull 2).pull 2).pull 2).pull 4).pull 4)⟩
    · replace hFL3 := it_f hc22 hFL3
      refine x_exitTo _ rfl <|
        ?_
      have e_ := Option.some.inj (show some _ = some _ from hFL3); subst e_
      exact x_inv ⟨q0a, q3, q2.length, c_b3_3_L3h, q9, q42, q2, hLL3, q0v, q6s, qbq, q8v, q7y, (((((hS.pull 4).pull 4).pull 4).pull 4).pull 4)⟩
  rintro E w ⟨q10, q0g, q78, c_b3_3_L3, q18, q79, q0i, rfl, q6r, qhs, qht, qh0, qby, hS⟩
  have e_ := St.vec_n (hS.pull 3) qby; subst e_
  refine x_seq <| x_seq <| x_region <| p (yl_field0 fld_81_2 qh0) <|
    pa (at_load one_3 rfl ((hS.pull 2).cell rfl)) <| p (yl_move rfl) <| x_done <|
    ?_
  replace hF := bd_s hF; obtain ⟨oL33, hLL33, hF⟩ := hF
  refine x_join (fun E w => ∃ (q14 : Option Addr) (q47 : Nat) (c_b3_4_L33 : Nat) (q20 : List Value) (q0y : Option Addr) (q48 : Nat) (c_b3_5_L33 : Nat) (q21 : List Value) (q8t : Int) (q15 : List T_array_Pad) (q13 : List T_array_Pad), (q8t, q15, q13) = oL33 ∧ E 0 = .pointer (some ⟨q5, 0, none⟩) ∧ E 2 = .pointer (some ⟨b2, 0, none⟩) ∧ E 3 = .pointer (some ⟨b3, 0, none⟩) ∧ RepL R_array_Pad q10 q15 q20 ∧ RepL R_array_Pad q10 q13 q21 ∧ St w0 w (cells q5 25 [.slice q7 s0.L.length c_s0_0, .int .i64 q8t] :: cells b2 81 [.int .i64 0, .int .i64 0, .int .i64 0, .slice none 0 0, .slice none 0 0, .slice none 0 0] :: cells b3 81 [.int .i64 q0b.1, .int .i64 q0c.1, .int .i64 q4.1, .slice q0g q0i.length c_b3_3_L3, .slice q14 q47 c_b3_4_L33, .slice q0y q48 c_b3_5_L33] :: vec 183 R_array_Tile.sz (.slice q0g q0i.length c_b3_3_L3) q0i.length q18 :: vec 187 R_array_Pad.sz (.slice q14 q47 c_b3_4_L33) q47 q20 :: vec 187 R_array_Pad.sz (.slice q0y q48 c_b3_5_L33) q48 q21 :: ro q10 :: l)) ?_ ?_
  · skip -- L33
    refine x_block ?_
    replace hS := St.vec_nil hS 187 R_array_Pad.sz
    have qbk : RepL R_array_Pad q10 [] [] := rfl
    replace hS := St.vec_nil hS 187 R_array_Pad.sz
    have qbl : RepL R_array_Pad q10 [] [] := rfl
    refine x_loop (fun k_ E w => ∃ (q11 : Option Addr) (q3q : Nat) (c_b3_4_L33h : Nat) (q1z : List Value) (q0q : Option Addr) (q3r : Nat) (c_b3_5_L33h : Nat) (q1k : List Value) (q0e : Int) (q22 : Int) (q12 : List T_array_Pad) (q0r : List T_array_Pad), lp (P_maskmake_Stream_Config_L33 s0 q0b q0c q4) k_ (q0e, q22, q12, q0r) = some oL33 ∧ E 0 = .pointer (some ⟨q5, 0, none⟩) ∧ E 2 = .pointer (some ⟨b2, 0, none⟩) ∧ E 3 = .pointer (some ⟨b3, 0, none⟩) ∧ E 116 = .int .i64 q4.1 ∧ E 117 = .int .i64 q0e ∧ RepL R_array_Pad q10 q12 q1z ∧ RepL R_array_Pad q10 q0r q1k ∧ St w0 w (cells q5 25 [.slice q7 s0.L.length c_s0_0, .int .i64 q22] :: cells b2 81 [.int .i64 0, .int .i64 0, .int .i64 0, .slice none 0 0, .slice none 0 0, .slice none 0 0] :: cells b3 81 [.int .i64 q0b.1, .int .i64 q0c.1, .int .i64 q4.1, .slice q0g q0i.length c_b3_3_L3, .slice q11 q3q c_b3_4_L33h, .slice q0q q3r c_b3_5_L33h] :: vec 183 R_array_Tile.sz (.slice q0g q0i.length c_b3_3_L3) q0i.length q18 :: vec 187 R_array_Pad.sz (.slice q11 q3q c_b3_4_L33h) q3q q1z :: vec 187 R_array_Pad.sz (.slice q0q q3r c_b3_5_L33h) q3r q1k :: ro q10 :: l)) fuel ⟨none, 0, 0, [], none, 0, 0, [], 0, q79, [], [], hLL33, qhs, qht, qh0, rfl, rfl, qbk, qbl, (((((((hS.pull 6).pull 1).pull 2).pull 6).pull 6).pull 6).pull 6)⟩ ?_
    rintro kL33 E w ⟨q11, q3q, c_b3_4_L33h, q1z, q0q, q3r, c_b3_5_L33h, q1k, q0e, q22, q12, q0r, hLL33, qa7, qcr, q2a, qbz, qa2, q7i, q7j, hS⟩
    have e_ := St.vec_n (hS.pull 4) q7i; subst e_
    have e_ := St.vec_n (hS.pull 5) q7j; subst e_
    replace hLL33 := lp_s hLL33; obtain ⟨kL33, obL33, rfl, hFL33, hLL33⟩ := hLL33
    refine x_seq <| x_region <| p (yl_lss qa2 qbz) <| x_done <|
      x_seq <|
      x_cond_p (q0e < q4.1) rfl (fun hc118 => ?_) (fun hc118 => ?_)
    · replace hFL33 := it_t hc118 hFL33
      refine x_skip <| x_seq <| x_block <| x_seq <|
        x_region <| p (yl_move qa2) <| p (yl_assign rfl) <| x_done <|
        x_seq <|
        ?_
      replace hFL33 := bd_s hFL33; obtain ⟨q19, qhg, hFL33⟩ := hFL33
      replace hFL33 := lv_s hFL33; obtain ⟨q16, qhh, hFL33⟩ := hFL33
      replace hFL33 := ck_s hFL33; obtain ⟨qhi, hFL33⟩ := hFL33
      refine x_par (w0 := w0) [⟨[], [], [120], [], [], []⟩, ⟨[0], [0], [121], [0], [], []⟩, ⟨[], [], [122], [], [], []⟩, ⟨[], [], [123], [], [], []⟩, ⟨[3], [3], [124], [0], [], []⟩, ⟨[2, 3, 4], [2, 4], [125], [2], [1], [3]⟩, ⟨[], [], [126], [], [], []⟩, ⟨[2, 3, 4, 5, 6], [5, 6], [127], [], [], []⟩, ⟨[2, 3, 4, 5, 6, 7], [7], [128], [], [], [4]⟩, ⟨[0, 1, 2, 3, 4, 5, 6, 7, 8], [1, 8], [129], [4, 2], [5], [6]⟩, ⟨[0, 1, 2, 3, 4, 5, 6, 7, 8, 9], [], [130], [], [], []⟩, ⟨[0, 1, 2, 3, 4, 5, 6, 7, 8, 9, 10], [9, 10], [], [], [0], [7]⟩] [⟨none, (some 11), []⟩, ⟨none, (some 5), []⟩, ⟨none, none, []⟩, ⟨(some 5), none, []⟩, ⟨(some 8), none, [128]⟩, ⟨none, (some 9), []⟩, ⟨(some 9), none, [129]⟩, ⟨(some 11), none, [129]⟩] [120, 121, 122, 123, 124, 125, 126, 127, 128, 129, 130] [0, 1, 2, 5] [2, 3, 4, 6, 7] [0, 1, 2, 3, 4, 5, 6, 7, 8, 9, 10] [fun Ep35 => Ep35 120 = .pointer (some ⟨b3, 4, none⟩), fun Ep35 => Ep35 121 = .slice q11 q12.length c_b3_4_L33h, fun Ep35 => Ep35 122 = .pointer (some ⟨q5, 0, none⟩), fun Ep35 => Ep35 123 = .pointer (some ⟨b3, 0, none⟩), fun Ep35 => Ep35 124 = .int .i64 q0b.1, fun Ep35 => Ep35 125 = .int .i64 q19.1, fun Ep35 => Ep35 126 = .int .i64 q0e, fun Ep35 => Ep35 127 = .agg #[.int .i64 q19.1, .int .i64 0, .int .i64 3, .int .i64 q0e], fun Ep35 => Ep35 128 = .slice (some ⟨(blkOf (Ep35 128)), 0, none⟩) 1 1, fun Ep35 => Ep35 129 = .slice (adOf (Ep35 129)) q16.length (capOf (Ep35 129)), fun Ep35 => Ep35 130 = .pointer (some ⟨b3, 4, none⟩), fun Ep35 => True] [fun Ep35 => cells b3 81 [.int .i64 q0b.1, .int .i64 q0c.1, .int .i64 q4.1, .slice q0g q0i.length c_b3_3_L3, .slice q11 q12.length c_b3_4_L33h, .slice q0q q0r.length c_b3_5_L33h], fun Ep35 => cells q5 25 [.slice q7 s0.L.length c_s0_0, .int .i64 q22], fun Ep35 => ro q10, fun Ep35 => cells q5 25 [.slice q7 s0.L.length c_s0_0, .int .i64 q19.2], fun Ep35 => cells (blkOf (Ep35 128)) 187 [.int .i64 q19.1, .int .i64 0, .int .i64 3, .int .i64 q0e], fun Ep35 => vec 187 R_array_Pad.sz (.slice q11 q12.length c_b3_4_L33h) q12.length q1z, fun Ep35 => bunA (fun (cs129 : List Value) => RepL R_array_Pad q10 q16 cs129) (fun (cs129 : List Value) => [vec 187 R_array_Pad.sz (.slice (adOf (Ep35 129)) q16.length (capOf (Ep35 129))) q16.length cs129]), fun Ep35 => cells b3 81 [.int .i64 q0b.1, .int .i64 q0c.1, .int .i64 q4.1, .slice q0g q0i.length c_b3_3_L3, .slice (adOf (Ep35 129)) q16.length (capOf (Ep35 129)), .slice q0q q0r.length c_b3_5_L33h]] mixed (by kernel_rfl) ((((hS.pull 4).pull 6).pull 2).pull 4) ?_ ?_
      · refine ⟨?_, ?_, ?_, ?_, ?_, ?_, ?_, ?_, ?_, ?_, ?_, ?_, trivial⟩
        · intro Ep35 w l' hE35 hO35 hF_ hS
          refine p (yl_field0 fld_81_4 ((hE35 3 rfl).trans q2a)) <| x_done <|
            ?_
          refine x_fin ⟨⟨_, rfl⟩, rfl, ?_⟩
          exact Eq.mp (by kernel_rfl) hS
        · intro Ep35 w l' hE35 hO35 hF_ hS
          obtain ⟨qa8, -⟩ := hF_
          replace qa8 : Ep35 120 = .pointer (some ⟨b3, 4, none⟩) := Eq.mp (by kernel_rfl) qa8
          replace hS : St w0 w (cells b3 81 [.int .i64 q0b.1, .int .i64 q0c.1, .int .i64 q4.1, .slice q0g q0i.length c_b3_3_L3, .slice q11 q12.length c_b3_4_L33h, .slice q0q q0r.length c_b3_5_L33h] :: l') := Eq.mp (by kernel_rfl) hS
          refine pa (at_load one_79 qa8 (hS.cell rfl)) <| x_done <|
            ?_
          refine x_fin ⟨⟨_, rfl⟩, rfl, ?_⟩
          exact Eq.mp (by kernel_rfl) hS
        · intro Ep35 w l' hE35 hO35 hF_ hS
          refine p (yl_move ((hE35 0 rfl).trans qa7)) <| x_done <|
            ?_
          refine x_fin ⟨⟨_, rfl⟩, rfl, ?_⟩
          exact Eq.mp (by kernel_rfl) hS
        · intro Ep35 w l' hE35 hO35 hF_ hS
          refine p (yl_field0 fld_81_0 ((hE35 3 rfl).trans q2a)) <| x_done <|
            ?_
          refine x_fin ⟨⟨_, rfl⟩, rfl, ?_⟩
          exact Eq.mp (by kernel_rfl) hS
        · intro Ep35 w l' hE35 hO35 hF_ hS
          obtain ⟨qa9, -⟩ := hF_
          replace qa9 : Ep35 123 = .pointer (some ⟨b3, 0, none⟩) := Eq.mp (by kernel_rfl) qa9
          replace hS : St w0 w (cells b3 81 [.int .i64 q0b.1, .int .i64 q0c.1, .int .i64 q4.1, .slice q0g q0i.length c_b3_3_L3, .slice q11 q12.length c_b3_4_L33h, .slice q0q q0r.length c_b3_5_L33h] :: l') := Eq.mp (by kernel_rfl) hS
          refine pa (at_load one_3 qa9 (hS.cell rfl)) <| x_done <|
            ?_
          refine x_fin ⟨⟨_, rfl⟩, rfl, ?_⟩
          exact Eq.mp (by kernel_rfl) hS
        · intro Ep35 w l' hE35 hO35 hF_ hS
          obtain ⟨qaa, qab, -⟩ := hF_
          replace qaa : Ep35 122 = .pointer (some ⟨q5, 0, none⟩) := Eq.mp (by kernel_rfl) qaa
          replace qab : Ep35 124 = .int .i64 q0b.1 := Eq.mp (by kernel_rfl) qab
          replace hS : St w0 w (ro q10 :: cells q5 25 [.slice q7 s0.L.length c_s0_0, .int .i64 q22] :: l') := Eq.mp (by kernel_rfl) hS
          have hcall := c_maskmake_Stream_Next qhg (q0w.le q6r) (hS.pull 1)
          refine o_cc call_15 (args2 qaa qab) hcall ?_
          rintro e w' ⟨rfl, hS⟩
          refine ⟨_, rfl, ?_⟩
          refine x_done <|
            ?_
          refine x_fin ⟨⟨_, rfl⟩, rfl, ?_⟩
          exact Eq.mp (by kernel_rfl) (hS.pull 1)
        · intro Ep35 w l' hE35 hO35 hF_ hS
          refine p (yl_move (hE35 8 rfl)) <| x_done <|
            ?_
          refine x_fin ⟨⟨_, rfl⟩, rfl, ?_⟩
          exact Eq.mp (by kernel_rfl) hS
        · intro Ep35 w l' hE35 hO35 hF_ hS
          obtain ⟨qac, qad, -⟩ := hF_
          replace qac : Ep35 125 = .int .i64 q19.1 := Eq.mp (by kernel_rfl) qac
          replace qad : Ep35 126 = .int .i64 q0e := Eq.mp (by kernel_rfl) qad
          refine p (v := .agg #[.int .i64 q19.1, .int .i64 0, .int .i64 3, .int .i64 q0e]) (yl_build bld_187 bldf_187 (parts_eq (pt (va := .int .i64 q19.1) qac (pt (va := .int .i64 0) rfl (pt (va := .int .i64 3) rfl (pt (va := .int .i64 q0e) qad pt0))))) (by kernel_rfl)) <| x_done <|
            ?_
          refine x_fin ⟨⟨_, rfl⟩, rfl, ?_⟩
          exact Eq.mp (by kernel_rfl) hS
        · intro Ep35 w l' hE35 hO35 hF_ hS
          obtain ⟨qae, -⟩ := hF_
          replace qae : Ep35 127 = .agg #[.int .i64 q19.1, .int .i64 0, .int .i64 3, .int .i64 q0e] := Eq.mp (by kernel_rfl) qae
          refine o_buildSlice (vs := [.agg #[.int .i64 q19.1, .int .i64 0, .int .i64 3, .int .i64 q0e]]) (cs := [.int .i64 q19.1, .int .i64 0, .int .i64 3, .int .i64 q0e]) sl_79 zero_187 (parts_eq (pt (va := .agg #[.int .i64 q19.1, .int .i64 0, .int .i64 3, .int .i64 q0e]) qae pt0)) rfl (by intro v hv; simp only [List.mem_cons, List.not_mem_nil, or_false] at hv; first | (subst hv; rfl) | (rcases hv with rfl <;> rfl)) (by decide) rfl hS (fun b128 w' hS => ?_)
          refine x_done <|
            ?_
          refine x_fin ⟨⟨_, rfl⟩, rfl, ?_⟩
          exact Eq.mp (by kernel_rfl) hS
        · intro Ep35 w l' hE35 hO35 hF_ hS
          obtain ⟨qaf, qag, -⟩ := hF_
          replace qaf : Ep35 121 = .slice q11 q12.length c_b3_4_L33h := Eq.mp (by kernel_rfl) qaf
          replace qag : Ep35 128 = .slice (some ⟨(blkOf (Ep35 128)), 0, none⟩) 1 1 := Eq.mp (by kernel_rfl) qag
          replace hS : St w0 w (cells (blkOf (Ep35 128)) 187 [.int .i64 q19.1, .int .i64 0, .int .i64 3, .int .i64 q0e] :: ro q10 :: vec 187 R_array_Pad.sz (.slice q11 q12.length c_b3_4_L33h) q12.length q1z :: l') := Eq.mp (by kernel_rfl) hS
          refine o_ap sl_79 zero_187 rfl (by decide) qaf qag (hS.pull 2) q7i (src_blk usl_79 hS rfl rfl) (RepL.cons (R := R_array_Pad) (ρ := q10) (x := (T_array_Pad.mk q19.1 0 3 q0e)) (cs := [.int .i64 q19.1, .int .i64 0, .int .i64 3, .int .i64 q0e]) rfl RepL.nil) qhh qhi (fun A129 c129 cs129 w' hr129 hS => ?_)
          refine x_done <|
            ?_
          refine x_fin ⟨⟨_, rfl⟩, rfl, ?_⟩
          replace hS := St.bun (Φ := (fun (cs129 : List Value) => RepL R_array_Pad q10 q16 cs129)) (L := (fun (cs129 : List Value) => [vec 187 R_array_Pad.sz (.slice A129 q16.length c129) q16.length cs129])) cs129 hr129 hS
          exact Eq.mp (by kernel_rfl) ((hS.pull 2).pull 2)
        · intro Ep35 w l' hE35 hO35 hF_ hS
          refine p (yl_field0 fld_81_4 ((hE35 3 rfl).trans q2a)) <| x_done <|
            ?_
          refine x_fin ⟨⟨_, rfl⟩, rfl, ?_⟩
          exact Eq.mp (by kernel_rfl) hS
        · intro Ep35 w l' hE35 hO35 hF_ hS
          obtain ⟨qah, q7l, -⟩ := hF_
          replace qah : Ep35 129 = .slice (adOf (Ep35 129)) q16.length (capOf (Ep35 129)) := Eq.mp (by kernel_rfl) qah
          replace q7l : Ep35 130 = .pointer (some ⟨b3, 4, none⟩) := Eq.mp (by kernel_rfl) q7l
          replace hS : St w0 w (cells b3 81 [.int .i64 q0b.1, .int .i64 q0c.1, .int .i64 q4.1, .slice q0g q0i.length c_b3_3_L3, .slice q11 q12.length c_b3_4_L33h, .slice q0q q0r.length c_b3_5_L33h] :: l') := Eq.mp (by kernel_rfl) hS
          refine o_store1 (v := .slice (adOf (Ep35 129)) q16.length (capOf (Ep35 129))) one_79 q7l qah rfl rfl hS (fun w' hS => ?_)
          refine x_done <|
            ?_
          refine x_fin ⟨⟨undef, rfl⟩, trivial, ?_⟩
          exact Eq.mp (by kernel_rfl) hS
      intro Ep35 w' hE35 hF_ hS
      obtain ⟨qa8, qaf, qaa, qa9, qab, qac, qad, qae, qag, qah, q7l, -⟩ := hF_
      replace qa8 : Ep35 120 = .pointer (some ⟨b3, 4, none⟩) := Eq.mp (by kernel_rfl) qa8
      replace qaf : Ep35 121 = .slice q11 q12.length c_b3_4_L33h := Eq.mp (by kernel_rfl) qaf
      replace qaa : Ep35 122 = .pointer (some ⟨q5, 0, none⟩) := Eq.mp (by kernel_rfl) qaa
      replace qa9 : Ep35 123 = .pointer (some ⟨b3, 0, none⟩) := Eq.mp (by kernel_rfl) qa9
      replace qab : Ep35 124 = .int .i64 q0b.1 := Eq.mp (by kernel_rfl) qab
      replace qac : Ep35 125 = .int .i64 q19.1 := Eq.mp (by kernel_rfl) qac
      replace qad : Ep35 126 = .int .i64 q0e := Eq.mp (by kernel_rfl) qad
      replace qae : Ep35 127 = .agg #[.int .i64 q19.1, .int .i64 0, .int .i64 3, .int .i64 q0e] := Eq.mp (by kernel_rfl) qae
      replace qag : Ep35 128 = .slice (some ⟨(blkOf (Ep35 128)), 0, none⟩) 1 1 := Eq.mp (by kernel_rfl) qag
      replace qah : Ep35 129 = .slice (adOf (Ep35 129)) q16.length (capOf (Ep35 129)) := Eq.mp (by kernel_rfl) qah
      replace q7l : Ep35 130 = .pointer (some ⟨b3, 4, none⟩) := Eq.mp (by kernel_rfl) q7l
      replace hS : St w0 w' (ro q10 :: cells q5 25 [.slice q7 s0.L.length c_s0_0, .int .i64 q19.2] :: cells (blkOf (Ep35 128)) 187 [.int .i64 q19.1, .int .i64 0, .int .i64 3, .int .i64 q0e] :: bunA (fun (cs129 : List Value) => RepL R_array_Pad q10 q16 cs129) (fun (cs129 : List Value) => [vec 187 R_array_Pad.sz (.slice (adOf (Ep35 129)) q16.length (capOf (Ep35 129))) q16.length cs129]) :: cells b3 81 [.int .i64 q0b.1, .int .i64 q0c.1, .int .i64 q4.1, .slice q0g q0i.length c_b3_3_L3, .slice (adOf (Ep35 129)) q16.length (capOf (Ep35 129)), .slice q0q q0r.length c_b3_5_L33h] :: (cells b2 81 [.int .i64 0, .int .i64 0, .int .i64 0, .slice none 0 0, .slice none 0 0, .slice none 0 0] :: vec 183 R_array_Tile.sz (.slice q0g q0i.length c_b3_3_L3) q0i.length q18 :: vec 187 R_array_Pad.sz (.slice q0q q0r.length c_b3_5_L33h) q0r.length q1k :: l)) := Eq.mp (by kernel_rfl) hS
      have q_ := St.unbun (hS.pull 3); obtain ⟨cs129, hr129, hS⟩ := q_
      replace hFL33 := bd_s hFL33; obtain ⟨q1e, qhj, hFL33⟩ := hFL33
      replace hFL33 := ar_s hFL33; obtain ⟨x139, hx139, hFL33⟩ := hFL33
      replace hFL33 := lv_s hFL33; obtain ⟨q1b, qh8, hFL33⟩ := hFL33
      replace hFL33 := ck_s hFL33; obtain ⟨qh9, hFL33⟩ := hFL33
      refine x_par (w0 := w0) [⟨[], [], [131], [], [], []⟩, ⟨[0], [0], [132], [0], [], []⟩, ⟨[], [], [133], [], [], []⟩, ⟨[], [], [134], [], [], []⟩, ⟨[3], [3], [135], [0], [], []⟩, ⟨[2, 3, 4], [2, 4], [136], [2], [1], [3]⟩, ⟨[], [], [137], [], [], []⟩, ⟨[6], [6], [138], [0], [], []⟩, ⟨[6, 7], [7], [139], [], [], []⟩, ⟨[], [], [140], [], [], []⟩, ⟨[2, 3, 4, 5, 6, 7, 8, 9], [5, 8, 9], [141], [], [], []⟩, ⟨[2, 3, 4, 5, 6, 7, 8, 9, 10], [10], [142], [], [], [4]⟩, ⟨[0, 1, 2, 3, 4, 5, 6, 7, 8, 9, 10, 11], [1, 11], [143], [4, 2], [5], [6]⟩, ⟨[0, 1, 2, 3, 4, 5, 6, 7, 8, 9, 10, 11, 12], [], [144], [], [], []⟩, ⟨[0, 1, 2, 3, 4, 5, 6, 7, 8, 9, 10, 11, 12, 13], [12, 13], [], [], [0], [7]⟩] [⟨none, (some 14), []⟩, ⟨none, (some 5), []⟩, ⟨none, none, []⟩, ⟨(some 5), none, []⟩, ⟨(some 11), none, [142]⟩, ⟨none, (some 12), []⟩, ⟨(some 12), none, [143]⟩, ⟨(some 14), none, [143]⟩] [131, 132, 133, 134, 135, 136, 137, 138, 139, 140, 141, 142, 143, 144] [0, 1, 2, 5] [2, 3, 4, 6, 7] [0, 1, 2, 3, 4, 5, 6, 7, 8, 9, 10, 11, 12, 13] [fun Ep36 => Ep36 131 = .pointer (some ⟨b3, 5, none⟩), fun Ep36 => Ep36 132 = .slice q0q q0r.length c_b3_5_L33h, fun Ep36 => Ep36 133 = .pointer (some ⟨q5, 0, none⟩), fun Ep36 => Ep36 134 = .pointer (some ⟨b3, 0, none⟩), fun Ep36 => Ep36 135 = .int .i64 q0b.1, fun Ep36 => Ep36 136 = .int .i64 q1e.1, fun Ep36 => Ep36 137 = .pointer (some ⟨b3, 1, none⟩), fun Ep36 => Ep36 138 = .int .i64 q0c.1, fun Ep36 => Ep36 139 = .int .i64 x139, fun Ep36 => Ep36 140 = .int .i64 q0e, fun Ep36 => Ep36 141 = .agg #[.int .i64 q1e.1, .int .i64 x139, .int .i64 1, .int .i64 q0e], fun Ep36 => Ep36 142 = .slice (some ⟨(blkOf (Ep36 142)), 0, none⟩) 1 1, fun Ep36 => Ep36 143 = .slice (adOf (Ep36 143)) q1b.length (capOf (Ep36 143)), fun Ep36 => Ep36 144 = .pointer (some ⟨b3, 5, none⟩), fun Ep36 => True] [fun Ep36 => cells b3 81 [.int .i64 q0b.1, .int .i64 q0c.1, .int .i64 q4.1, .slice q0g q0i.length c_b3_3_L3, .slice (adOf (Ep35 129)) q16.length (capOf (Ep35 129)), .slice q0q q0r.length c_b3_5_L33h], fun Ep36 => cells q5 25 [.slice q7 s0.L.length c_s0_0, .int .i64 q19.2], fun Ep36 => ro q10, fun Ep36 => cells q5 25 [.slice q7 s0.L.length c_s0_0, .int .i64 q1e.2], fun Ep36 => cells (blkOf (Ep36 142)) 187 [.int .i64 q1e.1, .int .i64 x139, .int .i64 1, .int .i64 q0e], fun Ep36 => vec 187 R_array_Pad.sz (.slice q0q q0r.length c_b3_5_L33h) q0r.length q1k, fun Ep36 => bunA (fun (cs143 : List Value) => RepL R_array_Pad q10 q1b cs143) (fun (cs143 : List Value) => [vec 187 R_array_Pad.sz (.slice (adOf (Ep36 143)) q1b.length (capOf (Ep36 143))) q1b.length cs143]), fun Ep36 => cells b3 81 [.int .i64 q0b.1, .int .i64 q0c.1, .int .i64 q4.1, .slice q0g q0i.length c_b3_3_L3, .slice (adOf (Ep35 129)) q16.length (capOf (Ep35 129)), .slice (adOf (Ep36 143)) q1b.length (capOf (Ep36 143))]] mixed (by kernel_rfl) ((((hS.pull 7).pull 2).pull 3).pull 5) ?_ ?_
      · refine ⟨?_, ?_, ?_, ?_, ?_, ?_, ?_, ?_, ?_, ?_, ?_, ?_, ?_, ?_, ?_, trivial⟩
        · intro Ep36 w l' hE36 hO36 hF_ hS
          refine p (yl_field0 fld_81_5 ((hE36 3 rfl).trans ((hE35 3 rfl).trans q2a))) <| x_done <|
            ?_
          refine x_fin ⟨⟨_, rfl⟩, rfl, ?_⟩
          exact Eq.mp (by kernel_rfl) hS
        · intro Ep36 w l' hE36 hO36 hF_ hS
          obtain ⟨qai, -⟩ := hF_
          replace qai : Ep36 131 = .pointer (some ⟨b3, 5, none⟩) := Eq.mp (by kernel_rfl) qai
          replace hS : St w0 w (cells b3 81 [.int .i64 q0b.1, .int .i64 q0c.1, .int .i64 q4.1, .slice q0g q0i.length c_b3_3_L3, .slice (adOf (Ep35 129)) q16.length (capOf (Ep35 129)), .slice q0q q0r.length c_b3_5_L33h] :: l') := Eq.mp (by kernel_rfl) hS
          refine pa (at_load one_79 qai (hS.cell rfl)) <| x_done <|
            ?_
          refine x_fin ⟨⟨_, rfl⟩, rfl, ?_⟩
          exact Eq.mp (by kernel_rfl) hS
        · intro Ep36 w l' hE36 hO36 hF_ hS
          refine p (yl_move ((hE36 0 rfl).trans ((hE35 0 rfl).trans qa7))) <| x_done <|
            ?_
          refine x_fin ⟨⟨_, rfl⟩, rfl, ?_⟩
          exact Eq.mp (by kernel_rfl) hS
        · intro Ep36 w l' hE36 hO36 hF_ hS
          refine p (yl_field0 fld_81_0 ((hE36 3 rfl).trans ((hE35 3 rfl).trans q2a))) <| x_done <|
            ?_
          refine x_fin ⟨⟨_, rfl⟩, rfl, ?_⟩
          exact Eq.mp (by kernel_rfl) hS
        · intro Ep36 w l' hE36 hO36 hF_ hS
          obtain ⟨qaj, -⟩ := hF_
          replace qaj : Ep36 134 = .pointer (some ⟨b3, 0, none⟩) := Eq.mp (by kernel_rfl) qaj
          replace hS : St w0 w (cells b3 81 [.int .i64 q0b.1, .int .i64 q0c.1, .int .i64 q4.1, .slice q0g q0i.length c_b3_3_L3, .slice (adOf (Ep35 129)) q16.length (capOf (Ep35 129)), .slice q0q q0r.length c_b3_5_L33h] :: l') := Eq.mp (by kernel_rfl) hS
          refine pa (at_load one_3 qaj (hS.cell rfl)) <| x_done <|
            ?_
          refine x_fin ⟨⟨_, rfl⟩, rfl, ?_⟩
          exact Eq.mp (by kernel_rfl) hS
        · intro Ep36 w l' hE36 hO36 hF_ hS
          obtain ⟨qak, qal, -⟩ := hF_
          replace qak : Ep36 133 = .pointer (some ⟨q5, 0, none⟩) := Eq.mp (by kernel_rfl) qak
          replace qal : Ep36 135 = .int .i64 q0b.1 := Eq.mp (by kernel_rfl) qal
          replace hS : St w0 w (ro q10 :: cells q5 25 [.slice q7 s0.L.length c_s0_0, .int .i64 q19.2] :: l') := Eq.mp (by kernel_rfl) hS
          have hcall := c_maskmake_Stream_Next qhj (q0w.le q6r) (hS.pull 1)
          refine o_cc call_15 (args2 qak qal) hcall ?_
          rintro e w' ⟨rfl, hS⟩
          refine ⟨_, rfl, ?_⟩
          refine x_done <|
            ?_
          refine x_fin ⟨⟨_, rfl⟩, rfl, ?_⟩
          exact Eq.mp (by kernel_rfl) (hS.pull 1)
        · intro Ep36 w l' hE36 hO36 hF_ hS
          refine p (yl_field0 fld_81_1 ((hE36 3 rfl).trans ((hE35 3 rfl).trans q2a))) <| x_done <|
            ?_
          refine x_fin ⟨⟨_, rfl⟩, rfl, ?_⟩
          exact Eq.mp (by kernel_rfl) hS
        · intro Ep36 w l' hE36 hO36 hF_ hS
          obtain ⟨qam, -⟩ := hF_
          replace qam : Ep36 137 = .pointer (some ⟨b3, 1, none⟩) := Eq.mp (by kernel_rfl) qam
          replace hS : St w0 w (cells b3 81 [.int .i64 q0b.1, .int .i64 q0c.1, .int .i64 q4.1, .slice q0g q0i.length c_b3_3_L3, .slice (adOf (Ep35 129)) q16.length (capOf (Ep35 129)), .slice q0q q0r.length c_b3_5_L33h] :: l') := Eq.mp (by kernel_rfl) hS
          refine pa (at_load one_3 qam (hS.cell rfl)) <| x_done <|
            ?_
          refine x_fin ⟨⟨_, rfl⟩, rfl, ?_⟩
          exact Eq.mp (by kernel_rfl) hS
        · intro Ep36 w l' hE36 hO36 hF_ hS
          obtain ⟨qan, -⟩ := hF_
          replace qan : Ep36 138 = .int .i64 q0c.1 := Eq.mp (by kernel_rfl) qan
          refine p (ysub qan rfl hx139) <| x_done <|
            ?_
          refine x_fin ⟨⟨_, rfl⟩, rfl, ?_⟩
          exact Eq.mp (by kernel_rfl) hS
        · intro Ep36 w l' hE36 hO36 hF_ hS
          refine p (yl_move ((hE36 8 rfl).trans (hE35 8 rfl))) <| x_done <|
            ?_
          refine x_fin ⟨⟨_, rfl⟩, rfl, ?_⟩
          exact Eq.mp (by kernel_rfl) hS
        · intro Ep36 w l' hE36 hO36 hF_ hS
          obtain ⟨qao, qap, qaq, -⟩ := hF_
          replace qao : Ep36 136 = .int .i64 q1e.1 := Eq.mp (by kernel_rfl) qao
          replace qap : Ep36 139 = .int .i64 x139 := Eq.mp (by kernel_rfl) qap
          replace qaq : Ep36 140 = .int .i64 q0e := Eq.mp (by kernel_rfl) qaq
          refine p (v := .agg #[.int .i64 q1e.1, .int .i64 x139, .int .i64 1, .int .i64 q0e]) (yl_build bld_187 bldf_187 (parts_eq (pt (va := .int .i64 q1e.1) qao (pt (va := .int .i64 x139) qap (pt (va := .int .i64 1) rfl (pt (va := .int .i64 q0e) qaq pt0))))) (by kernel_rfl)) <| x_done <|
            ?_
          refine x_fin ⟨⟨_, rfl⟩, rfl, ?_⟩
          exact Eq.mp (by kernel_rfl) hS
        · intro Ep36 w l' hE36 hO36 hF_ hS
          obtain ⟨q7m, -⟩ := hF_
          replace q7m : Ep36 141 = .agg #[.int .i64 q1e.1, .int .i64 x139, .int .i64 1, .int .i64 q0e] := Eq.mp (by kernel_rfl) q7m
          refine o_buildSlice (vs := [.agg #[.int .i64 q1e.1, .int .i64 x139, .int .i64 1, .int .i64 q0e]]) (cs := [.int .i64 q1e.1, .int .i64 x139, .int .i64 1, .int .i64 q0e]) sl_79 zero_187 (parts_eq (pt (va := .agg #[.int .i64 q1e.1, .int .i64 x139, .int .i64 1, .int .i64 q0e]) q7m pt0)) rfl (by intro v hv; simp only [List.mem_cons, List.not_mem_nil, or_false] at hv; first | (subst hv; rfl) | (rcases hv with rfl <;> rfl)) (by decide) rfl hS (fun b142 w' hS => ?_)
          refine x_done <|
            ?_
          refine x_fin ⟨⟨_, rfl⟩, rfl, ?_⟩
          exact Eq.mp (by kernel_rfl) hS
        · intro Ep36 w l' hE36 hO36 hF_ hS
          obtain ⟨qar, q7n, -⟩ := hF_
          replace qar : Ep36 132 = .slice q0q q0r.length c_b3_5_L33h := Eq.mp (by kernel_rfl) qar
          replace q7n : Ep36 142 = .slice (some ⟨(blkOf (Ep36 142)), 0, none⟩) 1 1 := Eq.mp (by kernel_rfl) q7n
          replace hS : St w0 w (cells (blkOf (Ep36 142)) 187 [.int .i64 q1e.1, .int .i64 x139, .int .i64 1, .int .i64 q0e] :: ro q10 :: vec 187 R_array_Pad.sz (.slice q0q q0r.length c_b3_5_L33h) q0r.length q1k :: l') := Eq.mp (by kernel_rfl) hS
          refine o_ap sl_79 zero_187 rfl (by decide) qar q7n (hS.pull 2) q7j (src_blk usl_79 hS rfl rfl) (RepL.cons (R := R_array_Pad) (ρ := q10) (x := (T_array_Pad.mk q1e.1 x139 1 q0e)) (cs := [.int .i64 q1e.1, .int .i64 x139, .int .i64 1, .int .i64 q0e]) rfl RepL.nil) qh8 qh9 (fun A143 c143 cs143 w' hr143 hS => ?_)
          refine x_done <|
            ?_
          refine x_fin ⟨⟨_, rfl⟩, rfl, ?_⟩
          replace hS := St.bun (Φ := (fun (cs143 : List Value) => RepL R_array_Pad q10 q1b cs143)) (L := (fun (cs143 : List Value) => [vec 187 R_array_Pad.sz (.slice A143 q1b.length c143) q1b.length cs143])) cs143 hr143 hS
          exact Eq.mp (by kernel_rfl) ((hS.pull 2).pull 2)
        · intro Ep36 w l' hE36 hO36 hF_ hS
          refine p (yl_field0 fld_81_5 ((hE36 3 rfl).trans ((hE35 3 rfl).trans q2a))) <| x_done <|
            ?_
          refine x_fin ⟨⟨_, rfl⟩, rfl, ?_⟩
          exact Eq.mp (by kernel_rfl) hS
        · intro Ep36 w l' hE36 hO36 hF_ hS
          obtain ⟨q7o, q7p, -⟩ := hF_
          replace q7o : Ep36 143 = .slice (adOf (Ep36 143)) q1b.length (capOf (Ep36 143)) := Eq.mp (by kernel_rfl) q7o
          replace q7p : Ep36 144 = .pointer (some ⟨b3, 5, none⟩) := Eq.mp (by kernel_rfl) q7p
          replace hS : St w0 w (cells b3 81 [.int .i64 q0b.1, .int .i64 q0c.1, .int .i64 q4.1, .slice q0g q0i.length c_b3_3_L3, .slice (adOf (Ep35 129)) q16.length (capOf (Ep35 129)), .slice q0q q0r.length c_b3_5_L33h] :: l') := Eq.mp (by kernel_rfl) hS
          refine o_store1 (v := .slice (adOf (Ep36 143)) q1b.length (capOf (Ep36 143))) one_79 q7p q7o rfl rfl hS (fun w' hS => ?_)
          refine x_done <|
            ?_
          refine x_fin ⟨⟨undef, rfl⟩, trivial, ?_⟩
          exact Eq.mp (by kernel_rfl) hS
      intro Ep36 w' hE36 hF_ hS
      obtain ⟨qai, qar, qak, qaj, qal, qao, qam, qan, qap, qaq, q7m, q7n, q7o, q7p, -⟩ := hF_
      replace qai : Ep36 131 = .pointer (some ⟨b3, 5, none⟩) := Eq.mp (by kernel_rfl) qai
      replace qar : Ep36 132 = .slice q0q q0r.length c_b3_5_L33h := Eq.mp (by kernel_rfl) qar
      replace qak : Ep36 133 = .pointer (some ⟨q5, 0, none⟩) := Eq.mp (by kernel_rfl) qak
      replace qaj : Ep36 134 = .pointer (some ⟨b3, 0, none⟩) := Eq.mp (by kernel_rfl) qaj
      replace qal : Ep36 135 = .int .i64 q0b.1 := Eq.mp (by kernel_rfl) qal
      replace qao : Ep36 136 = .int .i64 q1e.1 := Eq.mp (by kernel_rfl) qao
      replace qam : Ep36 137 = .pointer (some ⟨b3, 1, none⟩) := Eq.mp (by kernel_rfl) qam
      replace qan : Ep36 138 = .int .i64 q0c.1 := Eq.mp (by kernel_rfl) qan
      replace qap : Ep36 139 = .int .i64 x139 := Eq.mp (by kernel_rfl) qap
      replace qaq : Ep36 140 = .int .i64 q0e := Eq.mp (by kernel_rfl) qaq
      replace q7m : Ep36 141 = .agg #[.int .i64 q1e.1, .int .i64 x139, .int .i64 1, .int .i64 q0e] := Eq.mp (by kernel_rfl) q7m
      replace q7n : Ep36 142 = .slice (some ⟨(blkOf (Ep36 142)), 0, none⟩) 1 1 := Eq.mp (by kernel_rfl) q7n
      replace q7o : Ep36 143 = .slice (adOf (Ep36 143)) q1b.length (capOf (Ep36 143)) := Eq.mp (by kernel_rfl) q7o
      replace q7p : Ep36 144 = .pointer (some ⟨b3, 5, none⟩) := Eq.mp (by kernel_rfl) q7p
      replace hS : St w0 w' (ro q10 :: cells q5 25 [.slice q7 s0.L.length c_s0_0, .int .i64 q1e.2] :: cells (blkOf (Ep36 142)) 187 [.int .i64 q1e.1, .int .i64 x139, .int .i64 1, .int .i64 q0e] :: bunA (fun (cs143 : List Value) => RepL R_array_Pad q10 q1b cs143) (fun (cs143 : List Value) => [vec 187 R_array_Pad.sz (.slice (adOf (Ep36 143)) q1b.length (capOf (Ep36 143))) q1b.length cs143]) :: cells b3 81 [.int .i64 q0b.1, .int .i64 q0c.1, .int .i64 q4.1, .slice q0g q0i.length c_b3_3_L3, .slice (adOf (Ep35 129)) q16.length (capOf (Ep35 129)), .slice (adOf (Ep36 143)) q1b.length (capOf (Ep36 143))] :: (vec 187 R_array_Pad.sz (.slice (adOf (Ep35 129)) q16.length (capOf (Ep35 129))) q16.length cs129 :: cells (blkOf (Ep35 128)) 187 [.int .i64 q19.1, .int .i64 0, .int .i64 3, .int .i64 q0e] :: cells b2 81 [.int .i64 0, .int .i64 0, .int .i64 0, .slice none 0 0, .slice none 0 0, .slice none 0 0] :: vec 183 R_array_Tile.sz (.slice q0g q0i.length c_b3_3_L3) q0i.length q18 :: l)) := Eq.mp (by kernel_rfl) hS
      have q_ := St.unbun (hS.pull 3); obtain ⟨cs143, hr143, hS⟩ := q_
      replace hFL33 := ar_s hFL33; obtain ⟨x145, hx145, hFL33⟩ := hFL33
      refine x_blk <| x_region <| p (yadd ((hE36 117 rfl).trans ((hE35 117 rfl).trans qa2)) rfl hx145) <| p (yl_move rfl) <|
        x_done <|
        ?_
      have e_ := Option.some.inj (show some _ = some _ from hFL33); subst e_
      exact x_inv ⟨kL33, Nat.lt_succ_self _, (adOf (Ep35 129)), q16.length, (capOf (Ep35 129)), cs129, (adOf (Ep36 143)), q1b.length, (capOf (Ep36 143)), cs143, x145, q1e.2, q16, q1b, hLL33, ((hE36 0 rfl).trans ((hE35 0 rfl).trans qa7)), ((hE36 2 rfl).trans ((hE35 2 rfl).trans qcr)), ((hE36 3 rfl).trans ((hE35 3 rfl).trans q2a)), ((hE36 116 rfl).trans ((hE35 116 rfl).trans qbz)), rfl, hr129, hr143, (((((((((hS.pull 3).drop.pull 5).drop.pull 1).pull 1).pull 4).pull 6).pull 5).pull 6).pull 6)⟩
    · replace hFL33 := it_f hc118 hFL33
      refine x_exitTo _ rfl <|
        ?_
      have e_ := Option.some.inj (show some _ = some _ from hFL33); subst e_
      exact x_inv ⟨q11, q12.length, c_b3_4_L33h, q1z, q0q, q0r.length, c_b3_5_L33h, q1k, q22, q12, q0r, hLL33, qa7, qcr, q2a, q7i, q7j, (((((((hS.pull 6).pull 6).pull 6).pull 6).pull 6).pull 6).pull 6)⟩
  rintro E w ⟨q14, q47, c_b3_4_L33, q20, q0y, q48, c_b3_5_L33, q21, q8t, q15, q13, rfl, qcd, qew, q7q, q8u, qbr, hS⟩
  have e_ := St.vec_n (hS.pull 4) q8u; subst e_
  have e_ := St.vec_n (hS.pull 5) qbr; subst e_
  replace hF := bd_s hF; obtain ⟨qc0, qhk, hF⟩ := hF
  refine x_seq <| x_seq <| x_region <| p (yl_move qcd) <|
    ?_
  have hcall := c_maskmake_Stream_Flip qhk (q0w.le q6r) ((hS.pull 6).pull 1)
  refine o_cc call_75 (args2 rfl rfl) hcall ?_
  rintro e w' ⟨rfl, hS⟩
  refine ⟨_, rfl, ?_⟩
  refine x_done <|
    ?_
  replace hF := bd_s hF; obtain ⟨oc147, hFc147, hF⟩ := hF
  refine x_join (fun E w => ∃ (q23 : Option Addr) (q3s : Nat) (c_b3_4_c147 : Nat) (q39 : List Value) (q2n : List T_array_Pad) (q7k : Int), (q2n, q7k) = oc147 ∧ E 2 = .pointer (some ⟨b2, 0, none⟩) ∧ E 3 = .pointer (some ⟨b3, 0, none⟩) ∧ RepL R_array_Pad q10 q2n q39 ∧ St w0 w (cells b2 81 [.int .i64 0, .int .i64 0, .int .i64 0, .slice none 0 0, .slice none 0 0, .slice none 0 0] :: cells b3 81 [.int .i64 q0b.1, .int .i64 q0c.1, .int .i64 q4.1, .slice q0g q0i.length c_b3_3_L3, .slice q23 q3s c_b3_4_c147, .slice q0y q13.length c_b3_5_L33] :: cells q5 25 [.slice q7 s0.L.length c_s0_0, .int .i64 q7k] :: vec 183 R_array_Tile.sz (.slice q0g q0i.length c_b3_3_L3) q0i.length q18 :: vec 187 R_array_Pad.sz (.slice q23 q3s c_b3_4_c147) q3s q39 :: vec 187 R_array_Pad.sz (.slice q0y q13.length c_b3_5_L33) q13.length q21 :: ro q10 :: l)) ?_ ?_
  · skip -- c147
    refine x_cond (t := qc0.1) rfl (fun hc147 => ?_) (fun hc147 => ?_)
    · replace hFc147 := it_t hc147 hFc147
      replace hFc147 := bd_s hFc147; obtain ⟨q1l, qhl, hFc147⟩ := hFc147
      replace hFc147 := bd_s hFc147; obtain ⟨q1f, qhm, hFc147⟩ := hFc147
      replace hFc147 := lv_s hFc147; obtain ⟨q1c, qha, hFc147⟩ := hFc147
      replace hFc147 := ck_s hFc147; obtain ⟨qhb, hFc147⟩ := hFc147
      refine x_par (w0 := w0) [⟨[], [], [148], [], [], []⟩, ⟨[0], [0], [149], [0], [], []⟩, ⟨[], [], [150], [], [], []⟩, ⟨[], [], [151], [], [], []⟩, ⟨[3], [3], [152], [0], [], []⟩, ⟨[2, 3, 4], [2, 4], [153], [2], [1], [3]⟩, ⟨[], [], [154], [], [], []⟩, ⟨[], [], [155], [], [], []⟩, ⟨[7], [7], [156], [0], [], []⟩, ⟨[2, 3, 4, 5, 6, 7, 8], [6, 8], [157], [2], [3], [4]⟩, ⟨[2, 3, 4, 5, 6, 7, 8, 9], [5, 9], [158], [], [], []⟩, ⟨[2, 3, 4, 5, 6, 7, 8, 9, 10], [10], [159], [], [], [5]⟩, ⟨[0, 1, 2, 3, 4, 5, 6, 7, 8, 9, 10, 11], [1, 11], [160], [5, 2], [6], [7]⟩, ⟨[0, 1, 2, 3, 4, 5, 6, 7, 8, 9, 10, 11, 12], [], [161], [], [], []⟩, ⟨[0, 1, 2, 3, 4, 5, 6, 7, 8, 9, 10, 11, 12, 13], [12, 13], [], [], [0], [8]⟩] [⟨none, (some 14), []⟩, ⟨none, (some 5), []⟩, ⟨none, none, []⟩, ⟨(some 5), (some 9), []⟩, ⟨(some 9), none, []⟩, ⟨(some 11), none, [159]⟩, ⟨none, (some 12), []⟩, ⟨(some 12), none, [160]⟩, ⟨(some 14), none, [160]⟩] [148, 149, 150, 151, 152, 153, 154, 155, 156, 157, 158, 159, 160, 161] [0, 1, 2, 6] [2, 4, 5, 7, 8] [0, 1, 2, 3, 4, 5, 6, 7, 8, 9, 10, 11, 12, 13] [fun Ep39 => Ep39 148 = .pointer (some ⟨b3, 4, none⟩), fun Ep39 => Ep39 149 = .slice q14 q15.length c_b3_4_L33, fun Ep39 => Ep39 150 = .pointer (some ⟨q5, 0, none⟩), fun Ep39 => Ep39 151 = .pointer (some ⟨b3, 1, none⟩), fun Ep39 => Ep39 152 = .int .i64 q0c.1, fun Ep39 => Ep39 153 = .int .i64 q1l.1, fun Ep39 => Ep39 154 = .pointer (some ⟨q5, 0, none⟩), fun Ep39 => Ep39 155 = .pointer (some ⟨b3, 2, none⟩), fun Ep39 => Ep39 156 = .int .i64 q4.1, fun Ep39 => Ep39 157 = .int .i64 q1f.1, fun Ep39 => Ep39 158 = .agg #[.int .i64 0, .int .i64 q1l.1, .int .i64 0, .int .i64 q1f.1], fun Ep39 => Ep39 159 = .slice (some ⟨(blkOf (Ep39 159)), 0, none⟩) 1 1, fun Ep39 => Ep39 160 = .slice (adOf (Ep39 160)) q1c.length (capOf (Ep39 160)), fun Ep39 => Ep39 161 = .pointer (some ⟨b3, 4, none⟩), fun Ep39 => True] [fun Ep39 => cells b3 81 [.int .i64 q0b.1, .int .i64 q0c.1, .int .i64 q4.1, .slice q0g q0i.length c_b3_3_L3, .slice q14 q15.length c_b3_4_L33, .slice q0y q13.length c_b3_5_L33], fun Ep39 => cells q5 25 [.slice q7 s0.L.length c_s0_0, .int .i64 qc0.2], fun Ep39 => ro q10, fun Ep39 => cells q5 25 [.slice q7 s0.L.length c_s0_0, .int .i64 q1l.2], fun Ep39 => cells q5 25 [.slice q7 s0.L.length c_s0_0, .int .i64 q1f.2], fun Ep39 => cells (blkOf (Ep39 159)) 187 [.int .i64 0, .int .i64 q1l.1, .int .i64 0, .int .i64 q1f.1], fun Ep39 => vec 187 R_array_Pad.sz (.slice q14 q15.length c_b3_4_L33) q15.length q20, fun Ep39 => bunA (fun (cs160 : List Value) => RepL R_array_Pad q10 q1c cs160) (fun (cs160 : List Value) => [vec 187 R_array_Pad.sz (.slice (adOf (Ep39 160)) q1c.length (capOf (Ep39 160))) q1c.length cs160]), fun Ep39 => cells b3 81 [.int .i64 q0b.1, .int .i64 q0c.1, .int .i64 q4.1, .slice q0g q0i.length c_b3_3_L3, .slice (adOf (Ep39 160)) q1c.length (capOf (Ep39 160)), .slice q0y q13.length c_b3_5_L33]] mixed (by kernel_rfl) ((((hS.pull 5).pull 2).pull 2).pull 4) ?_ ?_
      · refine ⟨?_, ?_, ?_, ?_, ?_, ?_, ?_, ?_, ?_, ?_, ?_, ?_, ?_, ?_, ?_, trivial⟩
        · intro Ep39 w l' hE39 hO39 hF_ hS
          refine p (yl_field0 fld_81_4 ((hE39 3 rfl).trans q7q)) <| x_done <|
            ?_
          refine x_fin ⟨⟨_, rfl⟩, rfl, ?_⟩
          exact Eq.mp (by kernel_rfl) hS
        · intro Ep39 w l' hE39 hO39 hF_ hS
          obtain ⟨qas, -⟩ := hF_
          replace qas : Ep39 148 = .pointer (some ⟨b3, 4, none⟩) := Eq.mp (by kernel_rfl) qas
          replace hS : St w0 w (cells b3 81 [.int .i64 q0b.1, .int .i64 q0c.1, .int .i64 q4.1, .slice q0g q0i.length c_b3_3_L3, .slice q14 q15.length c_b3_4_L33, .slice q0y q13.length c_b3_5_L33] :: l') := Eq.mp (by kernel_rfl) hS
          refine pa (at_load one_79 qas (hS.cell rfl)) <| x_done <|
            ?_
          refine x_fin ⟨⟨_, rfl⟩, rfl, ?_⟩
          exact Eq.mp (by kernel_rfl) hS
        · intro Ep39 w l' hE39 hO39 hF_ hS
          refine p (yl_move ((hE39 0 rfl).trans qcd)) <| x_done <|
            ?_
          refine x_fin ⟨⟨_, rfl⟩, rfl, ?_⟩
          exact Eq.mp (by kernel_rfl) hS
        · intro Ep39 w l' hE39 hO39 hF_ hS
          refine p (yl_field0 fld_81_1 ((hE39 3 rfl).trans q7q)) <| x_done <|
            ?_
          refine x_fin ⟨⟨_, rfl⟩, rfl, ?_⟩
          exact Eq.mp (by kernel_rfl) hS
        · intro Ep39 w l' hE39 hO39 hF_ hS
          obtain ⟨qat, -⟩ := hF_
          replace qat : Ep39 151 = .pointer (some ⟨b3, 1, none⟩) := Eq.mp (by kernel_rfl) qat
          replace hS : St w0 w (cells b3 81 [.int .i64 q0b.1, .int .i64 q0c.1, .int .i64 q4.1, .slice q0g q0i.length c_b3_3_L3, .slice q14 q15.length c_b3_4_L33, .slice q0y q13.length c_b3_5_L33] :: l') := Eq.mp (by kernel_rfl) hS
          refine pa (at_load one_3 qat (hS.cell rfl)) <| x_done <|
            ?_
          refine x_fin ⟨⟨_, rfl⟩, rfl, ?_⟩
          exact Eq.mp (by kernel_rfl) hS
        · intro Ep39 w l' hE39 hO39 hF_ hS
          obtain ⟨qau, qav, -⟩ := hF_
          replace qau : Ep39 150 = .pointer (some ⟨q5, 0, none⟩) := Eq.mp (by kernel_rfl) qau
          replace qav : Ep39 152 = .int .i64 q0c.1 := Eq.mp (by kernel_rfl) qav
          replace hS : St w0 w (ro q10 :: cells q5 25 [.slice q7 s0.L.length c_s0_0, .int .i64 qc0.2] :: l') := Eq.mp (by kernel_rfl) hS
          have hcall := c_maskmake_Stream_Next qhl (q0w.le q6r) (hS.pull 1)
          refine o_cc call_15 (args2 qau qav) hcall ?_
          rintro e w' ⟨rfl, hS⟩
          refine ⟨_, rfl, ?_⟩
          refine x_done <|
            ?_
          refine x_fin ⟨⟨_, rfl⟩, rfl, ?_⟩
          exact Eq.mp (by kernel_rfl) (hS.pull 1)
        · intro Ep39 w l' hE39 hO39 hF_ hS
          refine p (yl_move ((hE39 0 rfl).trans qcd)) <| x_done <|
            ?_
          refine x_fin ⟨⟨_, rfl⟩, rfl, ?_⟩
          exact Eq.mp (by kernel_rfl) hS
        · intro Ep39 w l' hE39 hO39 hF_ hS
          refine p (yl_field0 fld_81_2 ((hE39 3 rfl).trans q7q)) <| x_done <|
            ?_
          refine x_fin ⟨⟨_, rfl⟩, rfl, ?_⟩
          exact Eq.mp (by kernel_rfl) hS
        · intro Ep39 w l' hE39 hO39 hF_ hS
          obtain ⟨qaw, -⟩ := hF_
          replace qaw : Ep39 155 = .pointer (some ⟨b3, 2, none⟩) := Eq.mp (by kernel_rfl) qaw
          replace hS : St w0 w (cells b3 81 [.int .i64 q0b.1, .int .i64 q0c.1, .int .i64 q4.1, .slice q0g q0i.length c_b3_3_L3, .slice q14 q15.length c_b3_4_L33, .slice q0y q13.length c_b3_5_L33] :: l') := Eq.mp (by kernel_rfl) hS
          refine pa (at_load one_3 qaw (hS.cell rfl)) <| x_done <|
            ?_
          refine x_fin ⟨⟨_, rfl⟩, rfl, ?_⟩
          exact Eq.mp (by kernel_rfl) hS
        · intro Ep39 w l' hE39 hO39 hF_ hS
          obtain ⟨qax, qay, -⟩ := hF_
          replace qax : Ep39 154 = .pointer (some ⟨q5, 0, none⟩) := Eq.mp (by kernel_rfl) qax
          replace qay : Ep39 156 = .int .i64 q4.1 := Eq.mp (by kernel_rfl) qay
          replace hS : St w0 w (ro q10 :: cells q5 25 [.slice q7 s0.L.length c_s0_0, .int .i64 q1l.2] :: l') := Eq.mp (by kernel_rfl) hS
          have hcall := c_maskmake_Stream_Next qhm (q0w.le q6r) (hS.pull 1)
          refine o_cc call_15 (args2 qax qay) hcall ?_
          rintro e w' ⟨rfl, hS⟩
          refine ⟨_, rfl, ?_⟩
          refine x_done <|
            ?_
          refine x_fin ⟨⟨_, rfl⟩, rfl, ?_⟩
          exact Eq.mp (by kernel_rfl) (hS.pull 1)
        · intro Ep39 w l' hE39 hO39 hF_ hS
          obtain ⟨qaz, qb0, -⟩ := hF_
          replace qaz : Ep39 153 = .int .i64 q1l.1 := Eq.mp (by kernel_rfl) qaz
          replace qb0 : Ep39 157 = .int .i64 q1f.1 := Eq.mp (by kernel_rfl) qb0
          refine p (v := .agg #[.int .i64 0, .int .i64 q1l.1, .int .i64 0, .int .i64 q1f.1]) (yl_build bld_187 bldf_187 (parts_eq (pt (va := .int .i64 0) rfl (pt (va := .int .i64 q1l.1) qaz (pt (va := .int .i64 0) rfl (pt (va := .int .i64 q1f.1) qb0 pt0))))) (by kernel_rfl)) <| x_done <|
            ?_
          refine x_fin ⟨⟨_, rfl⟩, rfl, ?_⟩
          exact Eq.mp (by kernel_rfl) hS
        · intro Ep39 w l' hE39 hO39 hF_ hS
          obtain ⟨q7r, -⟩ := hF_
          replace q7r : Ep39 158 = .agg #[.int .i64 0, .int .i64 q1l.1, .int .i64 0, .int .i64 q1f.1] := Eq.mp (by kernel_rfl) q7r
          refine o_buildSlice (vs := [.agg #[.int .i64 0, .int .i64 q1l.1, .int .i64 0, .int .i64 q1f.1]]) (cs := [.int .i64 0, .int .i64 q1l.1, .int .i64 0, .int .i64 q1f.1]) sl_79 zero_187 (parts_eq (pt (va := .agg #[.int .i64 0, .int .i64 q1l.1, .int .i64 0, .int .i64 q1f.1]) q7r pt0)) rfl (by intro v hv; simp only [List.mem_cons, List.not_mem_nil, or_false] at hv; first | (subst hv; rfl) | (rcases hv with rfl <;> rfl)) (by decide) rfl hS (fun b159 w' hS => ?_)
          refine x_done <|
            ?_
          refine x_fin ⟨⟨_, rfl⟩, rfl, ?_⟩
          exact Eq.mp (by kernel_rfl) hS
        · intro Ep39 w l' hE39 hO39 hF_ hS
          obtain ⟨qb1, q7s, -⟩ := hF_
          replace qb1 : Ep39 149 = .slice q14 q15.length c_b3_4_L33 := Eq.mp (by kernel_rfl) qb1
          replace q7s : Ep39 159 = .slice (some ⟨(blkOf (Ep39 159)), 0, none⟩) 1 1 := Eq.mp (by kernel_rfl) q7s
          replace hS : St w0 w (cells (blkOf (Ep39 159)) 187 [.int .i64 0, .int .i64 q1l.1, .int .i64 0, .int .i64 q1f.1] :: ro q10 :: vec 187 R_array_Pad.sz (.slice q14 q15.length c_b3_4_L33) q15.length q20 :: l') := Eq.mp (by kernel_rfl) hS
          refine o_ap sl_79 zero_187 rfl (by decide) qb1 q7s (hS.pull 2) q8u (src_blk usl_79 hS rfl rfl) (RepL.cons (R := R_array_Pad) (ρ := q10) (x := (T_array_Pad.mk 0 q1l.1 0 q1f.1)) (cs := [.int .i64 0, .int .i64 q1l.1, .int .i64 0, .int .i64 q1f.1]) rfl RepL.nil) qha qhb (fun A160 c160 cs160 w' hr160 hS => ?_)
          refine x_done <|
            ?_
          refine x_fin ⟨⟨_, rfl⟩, rfl, ?_⟩
          replace hS := St.bun (Φ := (fun (cs160 : List Value) => RepL R_array_Pad q10 q1c cs160)) (L := (fun (cs160 : List Value) => [vec 187 R_array_Pad.sz (.slice A160 q1c.length c160) q1c.length cs160])) cs160 hr160 hS
          exact Eq.mp (by kernel_rfl) ((hS.pull 2).pull 2)
        · intro Ep39 w l' hE39 hO39 hF_ hS
          refine p (yl_field0 fld_81_4 ((hE39 3 rfl).trans q7q)) <| x_done <|
            ?_
          refine x_fin ⟨⟨_, rfl⟩, rfl, ?_⟩
          exact Eq.mp (by kernel_rfl) hS
        · intro Ep39 w l' hE39 hO39 hF_ hS
          obtain ⟨q7t, q7u, -⟩ := hF_
          replace q7t : Ep39 160 = .slice (adOf (Ep39 160)) q1c.length (capOf (Ep39 160)) := Eq.mp (by kernel_rfl) q7t
          replace q7u : Ep39 161 = .pointer (some ⟨b3, 4, none⟩) := Eq.mp (by kernel_rfl) q7u
          replace hS : St w0 w (cells b3 81 [.int .i64 q0b.1, .int .i64 q0c.1, .int .i64 q4.1, .slice q0g q0i.length c_b3_3_L3, .slice q14 q15.length c_b3_4_L33, .slice q0y q13.length c_b3_5_L33] :: l') := Eq.mp (by kernel_rfl) hS
          refine o_store1 (v := .slice (adOf (Ep39 160)) q1c.length (capOf (Ep39 160))) one_79 q7u q7t rfl rfl hS (fun w' hS => ?_)
          refine x_done <|
            ?_
          refine x_fin ⟨⟨undef, rfl⟩, trivial, ?_⟩
          exact Eq.mp (by kernel_rfl) hS
      intro Ep39 w' hE39 hF_ hS
      obtain ⟨qas, qb1, qau, qat, qav, qaz, qax, qaw, qay, qb0, q7r, q7s, q7t, q7u, -⟩ := hF_
      replace qas : Ep39 148 = .pointer (some ⟨b3, 4, none⟩) := Eq.mp (by kernel_rfl) qas
      replace qb1 : Ep39 149 = .slice q14 q15.length c_b3_4_L33 := Eq.mp (by kernel_rfl) qb1
      replace qau : Ep39 150 = .pointer (some ⟨q5, 0, none⟩) := Eq.mp (by kernel_rfl) qau
      replace qat : Ep39 151 = .pointer (some ⟨b3, 1, none⟩) := Eq.mp (by kernel_rfl) qat
      replace qav : Ep39 152 = .int .i64 q0c.1 := Eq.mp (by kernel_rfl) qav
      replace qaz : Ep39 153 = .int .i64 q1l.1 := Eq.mp (by kernel_rfl) qaz
      replace qax : Ep39 154 = .pointer (some ⟨q5, 0, none⟩) := Eq.mp (by kernel_rfl) qax
      replace qaw : Ep39 155 = .pointer (some ⟨b3, 2, none⟩) := Eq.mp (by kernel_rfl) qaw
      replace qay : Ep39 156 = .int .i64 q4.1 := Eq.mp (by kernel_rfl) qay
      replace qb0 : Ep39 157 = .int .i64 q1f.1 := Eq.mp (by kernel_rfl) qb0
      replace q7r : Ep39 158 = .agg #[.int .i64 0, .int .i64 q1l.1, .int .i64 0, .int .i64 q1f.1] := Eq.mp (by kernel_rfl) q7r
      replace q7s : Ep39 159 = .slice (some ⟨(blkOf (Ep39 159)), 0, none⟩) 1 1 := Eq.mp (by kernel_rfl) q7s
      replace q7t : Ep39 160 = .slice (adOf (Ep39 160)) q1c.length (capOf (Ep39 160)) := Eq.mp (by kernel_rfl) q7t
      replace q7u : Ep39 161 = .pointer (some ⟨b3, 4, none⟩) := Eq.mp (by kernel_rfl) q7u
      replace hS : St w0 w' (ro q10 :: cells q5 25 [.slice q7 s0.L.length c_s0_0, .int .i64 q1f.2] :: cells (blkOf (Ep39 159)) 187 [.int .i64 0, .int .i64 q1l.1, .int .i64 0, .int .i64 q1f.1] :: bunA (fun (cs160 : List Value) => RepL R_array_Pad q10 q1c cs160) (fun (cs160 : List Value) => [vec 187 R_array_Pad.sz (.slice (adOf (Ep39 160)) q1c.length (capOf (Ep39 160))) q1c.length cs160]) :: cells b3 81 [.int .i64 q0b.1, .int .i64 q0c.1, .int .i64 q4.1, .slice q0g q0i.length c_b3_3_L3, .slice (adOf (Ep39 160)) q1c.length (capOf (Ep39 160)), .slice q0y q13.length c_b3_5_L33] :: (cells b2 81 [.int .i64 0, .int .i64 0, .int .i64 0, .slice none 0 0, .slice none 0 0, .slice none 0 0] :: vec 183 R_array_Tile.sz (.slice q0g q0i.length c_b3_3_L3) q0i.length q18 :: vec 187 R_array_Pad.sz (.slice q0y q13.length c_b3_5_L33) q13.length q21 :: l)) := Eq.mp (by kernel_rfl) hS
      have q_ := St.unbun (hS.pull 3); obtain ⟨cs160, hr160, hS⟩ := q_
      exact x_inv ⟨(adOf (Ep39 160)), q1c.length, (capOf (Ep39 160)), cs160, q1c, q1f.2, (Option.some.inj (show some _ = some _ from hFc147)), ((hE39 2 rfl).trans qew), ((hE39 3 rfl).trans q7q), hr160, ((((((((hS.pull 3).drop.pull 1).pull 6).pull 2).pull 6).pull 4).pull 5).pull 6)⟩
    · replace hFc147 := it_bf hc147 hFc147
      refine x_skip <|
        ?_
      exact x_inv ⟨q14, q15.length, c_b3_4_L33, q20, q15, qc0.2, (Option.some.inj (show some _ = some _ from hFc147)), qew, q7q, q8u, (((((((hS.pull 1).pull 6).pull 6).pull 6).pull 4).pull 6).pull 6)⟩
  rintro E w ⟨q23, q3s, c_b3_4_c147, q39, q2n, q7k, rfl, qcs, qhc, qb5, hS⟩
  have e_ := St.vec_n (hS.pull 4) qb5; subst e_
  refine x_seq <| x_region <| pa (v := .agg #[.int .i64 q0b.1, .int .i64 q0c.1, .int .i64 q4.1, .slice q0g q0i.length c_b3_3_L3, .slice q23 q2n.length c_b3_4_c147, .slice q0y q13.length c_b3_5_L33]) (ld_sub agg_81 qhc rfl rfl (hS.pull 1)) <|
    ?_
  refine o_storeAgg (news := [.int .i64 q0b.1, .int .i64 q0c.1, .int .i64 q4.1, .slice q0g q0i.length c_b3_3_L3, .slice q23 q2n.length c_b3_4_c147, .slice q0y q13.length c_b3_5_L33]) agg_81 qcs rfl rfl (by simp [over_length]) hS (fun w' hS => ?_)
  refine x_done <|
    ?_
  have e_ := Option.some.inj (show some _ = some _ from hF); subst e_
  exact x_return ⟨_, ⟨_, _, _, rfl, qcs, ldvA agg_81 rfl (fun j v hj => by rw [add0]; exact St.cell hS hj), rfl⟩, q10, q0g, q0i.length, c_b3_3_L3, q18, q23, q2n.length, c_b3_4_c147, q39, q0y, q13.length, c_b3_5_L33, q21, rfl, q6r, qby, qb5, qbr, (((((hS.drop.drop.pull 4).pull 1).pull 4).pull 4).pull 4)⟩
attribute [irreducible] P_maskmake_Stream_Config

def P_array_within (n0 : Int) (low1 : Int) (high2 : Int) : Option Bool :=
  lv ((decide (low1 ≤ n0)) && (decide (n0 ≤ high2))) fun x14 =>
  some x14
set_option maxHeartbeats 4000000 in
set_option maxRecDepth 100000 in
theorem c_array_within {w0 w : World} {l : List Assn} {ρ : Heap} {n0 : Int} {low1 : Int} {high2 : Int} {r : Bool} (hF : P_array_within n0 low1 high2 = some r) (hS : St w0 w (ro ρ :: l)) :
    Calls Try.prog 130 #[.int .i64 n0, .int .i64 low1, .int .i64 high2] w fun e w' => e = .returned (.bool r) ∧ St w0 w' (ro ρ :: l) := by
  refine enterC Try.func130 rfl 15 rfl (by simp) ?_
  replace hF := lv_s hF; obtain ⟨x14, hx14, hF⟩ := hF
  refine x_seq <| x_region <| p (yl_assign rfl) <| x_done <|
    x_seq <| x_region <| p (yl_move rfl) <| p (yl_move rfl) <|
    p (yl_leq rfl rfl) <| p (yl_move rfl) <| pg (v := .int .i64 n0) 10 (c := decide (low1 ≤ n0)) (says_t _) (fun hq => Yl.at (yl_move rfl)) <| pg (v := .int .i64 high2) 10 (c := decide (low1 ≤ n0)) (says_t _) (fun hq => Yl.at (yl_move rfl)) <|
    pg (v := .bool (decide (n0 ≤ high2))) 10 (c := decide (low1 ≤ n0)) (says_t _) (fun hq => Yl.at (yl_leq (cv hq) (cv hq))) <| p (yand' rfl (fun hc => (cv hc)) rfl hx14) <| p (yl_assign rfl) <| x_done <|
    ?_
  have e_ := Option.some.inj (show some _ = some _ from hF); subst e_
  exact x_return ⟨_, ⟨_, _, rfl, rfl, rfl⟩, rfl, hS⟩
attribute [irreducible] P_array_within

def P_array_border (c0 : T_array_Config) (p1 : T_array_Pad) : Option Bool :=
  ar (c0.Rows - 1) fun x9 =>
  bd (P_array_within p1.Row 0 x9) fun q2 =>
  ck ((!(!q2)) = true → I64 (c0.Cols - 1)) <|
  lv (c0.Cols - 1) fun x17 =>
  bd (gd (!(!q2)) (P_array_within p1.Col 0 x17)) fun q3 =>
  lv ((!q2) || (!q3)) fun x20 =>
  ck ((!x20) = true → I64 (c0.Tracks - 1)) <|
  lv (c0.Tracks - 1) fun x26 =>
  bd (gd (!x20) (P_array_within p1.Track 0 x26)) fun q4 =>
  lv (x20 || (!q4)) fun x29 =>
  if x29 = true then
    some false
  else
    if p1.Side = 0 then
      some (decide (p1.Row = 0))
    else
      if p1.Side = 1 then
        ar (c0.Cols - 1) fun x43 =>
        some (decide (p1.Col = x43))
      else
        if p1.Side = 2 then
          ar (c0.Rows - 1) fun x51 =>
          some (decide (p1.Row = x51))
        else
          if p1.Side = 3 then
            some (decide (p1.Col = 0))
          else
            some false
set_option maxHeartbeats 4000000 in
set_option maxRecDepth 100000 in
theorem c_array_border {w0 w : World} {l : List Assn} {ρ : Heap} {q3 : Option Addr} {q6 : Nat} {c_c0_3 : Nat} {q4 : Option Addr} {q7 : Nat} {c_c0_4 : Nat} {q5 : Option Addr} {q8 : Nat} {c_c0_5 : Nat} {c0 : T_array_Config} {p1 : T_array_Pad} {r : Bool} (hF : P_array_border c0 p1 = some r) (q0b : RdS R_array_Tile ρ q3 q6 c_c0_3 c0.Tiles) (q0c : RdS R_array_Pad ρ q4 q7 c_c0_4 c0.In) (q0d : RdS R_array_Pad ρ q5 q8 c_c0_5 c0.Out) (hS : St w0 w (ro ρ :: l)) :
    Calls Try.prog 153 #[.agg #[.int .i64 c0.Rows, .int .i64 c0.Cols, .int .i64 c0.Tracks, .slice q3 q6 c_c0_3, .slice q4 q7 c_c0_4, .slice q5 q8 c_c0_5], .agg #[.int .i64 p1.Row, .int .i64 p1.Col, .int .i64 p1.Side, .int .i64 p1.Track]] w fun e w' => e = .returned (.bool r) ∧ St w0 w' (ro ρ :: l) := by
  have e_ := q0b.n; subst e_
  have e_ := q0c.n; subst e_
  have e_ := q0d.n; subst e_
  refine enterC Try.func153 rfl 58 rfl (by simp) ?_
  refine x_seq <| x_region <|
    ?_
  refine o_box (cs := [.int .i64 c0.Rows, .int .i64 c0.Cols, .int .i64 c0.Tracks, .slice q3 c0.Tiles.length c_c0_3, .slice q4 c0.In.length c_c0_4, .slice q5 c0.Out.length c_c0_5]) rfl rfl hS (fun b2 w' hS => ?_)
  refine o_box (cs := [.int .i64 p1.Row, .int .i64 p1.Col, .int .i64 p1.Side, .int .i64 p1.Track]) rfl rfl hS (fun b3 w' hS => ?_)
  replace hF := ar_s hF; obtain ⟨x9, hx9, hF⟩ := hF
  replace hF := bd_s hF; obtain ⟨q2, q0i, hF⟩ := hF
  refine p (yl_assign rfl) <| x_done <| x_seq <| x_seq <|
    x_region <| p (yl_field0 fld_187_0 rfl) <| pa (at_load one_3 rfl (hS.cell rfl)) <| p (yl_field0 fld_81_0 rfl) <|
    pa (at_load one_3 rfl ((hS.pull 1).cell rfl)) <| p (ysub rfl rfl hx9) <|
    ?_
  have hcall := c_array_within q0i  (hS.pull 2)
  refine o_cc call_130 (args3 rfl rfl rfl) ((Calls.mono hcall (fun e w'' h => And.intro h.1 ((h.2.pull 2).pull 2)))) ?_
  rintro e w' ⟨rfl, hS⟩
  refine ⟨_, rfl, ?_⟩
  replace hF := ck_s hF; obtain ⟨q0e, hF⟩ := hF
  replace hF := lv_s hF; obtain ⟨x17, hx17, hF⟩ := hF
  replace hF := bd_s hF; obtain ⟨q9, q0f, hF⟩ := hF
  refine p (yl_not rfl) <| p (yl_move rfl) <| pg (v := .pointer (some ⟨b3, 1, none⟩)) 12 (c := !(!q2)) (says_f _) (fun hq => Yl.at (yl_field0 fld_187_1 rfl)) <| pg (v := .int .i64 p1.Col) 12 (c := !(!q2)) (says_f _) (fun hq => at_load one_3 (cv hq) (hS.cell rfl)) <|
    pg (v := .pointer (some ⟨b2, 1, none⟩)) 12 (c := !(!q2)) (says_f _) (fun hq => Yl.at (yl_field0 fld_81_1 rfl)) <| pg (v := .int .i64 c0.Cols) 12 (c := !(!q2)) (says_f _) (fun hq => at_load one_3 (cv hq) ((hS.pull 1).cell rfl)) <| pg (v := .int .i64 x17) 12 (c := !(!q2)) (says_f _) (fun hq => Yl.at (ysub (cv hq) rfl ⟨hx17, (q0e hq)⟩)) <|
    pccg (v := .bool q9) 12 (c := !(!q2)) (says_f _) call_130 (fun hq => (args3 (cv hq) rfl (cv hq))) hS (fun hq => by
      have hcall := c_array_within (gd_t q0f hq)  (hS.pull 2)
      exact (Calls.mono hcall (fun e w'' h => And.intro h.1 ((h.2.pull 2).pull 2)))) (fun w' hS => ?_)
  replace hF := lv_s hF; obtain ⟨x20, hx20, hF⟩ := hF
  replace hF := ck_s hF; obtain ⟨q0g, hF⟩ := hF
  replace hF := lv_s hF; obtain ⟨x26, hx26, hF⟩ := hF
  replace hF := bd_s hF; obtain ⟨q0a, q0h, hF⟩ := hF
  refine pg (v := .bool (!q9)) 12 (c := !(!q2)) (says_f _) (fun hq => Yl.at (yl_not (cv hq))) <| p (yor' rfl rfl (fun hc => (cv (t_not hc))) hx20) <| p (yl_move rfl) <| pg (v := .pointer (some ⟨b3, 3, none⟩)) 21 (c := !x20) (says_f _) (fun hq => Yl.at (yl_field0 fld_187_3 rfl)) <|
    pg (v := .int .i64 p1.Track) 21 (c := !x20) (says_f _) (fun hq => at_load one_3 (cv hq) (hS.cell rfl)) <| pg (v := .pointer (some ⟨b2, 2, none⟩)) 21 (c := !x20) (says_f _) (fun hq => Yl.at (yl_field0 fld_81_2 rfl)) <| pg (v := .int .i64 c0.Tracks) 21 (c := !x20) (says_f _) (fun hq => at_load one_3 (cv hq) ((hS.pull 1).cell rfl)) <| pg (v := .int .i64 x26) 21 (c := !x20) (says_f _) (fun hq => Yl.at (ysub (cv hq) rfl ⟨hx26, (q0g hq)⟩)) <|
    pccg (v := .bool q0a) 21 (c := !x20) (says_f _) call_130 (fun hq => (args3 (cv hq) rfl (cv hq))) hS (fun hq => by
      have hcall := c_array_within (gd_t q0h hq)  (hS.pull 2)
      exact (Calls.mono hcall (fun e w'' h => And.intro h.1 ((h.2.pull 2).pull 2)))) (fun w' hS => ?_)
  replace hF := lv_s hF; obtain ⟨x29, hx29, hF⟩ := hF
  refine pg (v := .bool (!q0a)) 21 (c := !x20) (says_f _) (fun hq => Yl.at (yl_not (cv hq))) <| p (yor' rfl rfl (fun hc => (cv (t_not hc))) hx29) <| x_done <|
    x_cond (t := x29) rfl (fun hc29 => ?_) (fun hc29 => ?_)
  · replace hF := it_t hc29 hF
    refine x_seq <| x_region <| p (yl_assign rfl) <| x_done <|
      ?_
    have e_ := Option.some.inj (show some _ = some _ from hF); subst e_
    exact x_return ⟨_, ⟨_, _, rfl, rfl, rfl⟩, rfl, hS.drop.drop⟩
  · replace hF := it_bf hc29 hF
    refine x_skip <| x_seq <| x_seq <| x_region <|
      p (yl_field0 fld_187_2 rfl) <| pa (at_load one_3 rfl (hS.cell rfl)) <| x_done <| x_block <|
      x_seq <| x_region <| p (yl_eql rfl rfl) <| p (yl_assign rfl) <|
      x_done <|
      x_cond_p (p1.Side = 0) rfl (fun hc32 => ?_) (fun hc32 => ?_)
    · replace hF := it_t hc32 hF
      refine x_seq <| x_region <| p (yl_field0 fld_187_0 rfl) <| pa (at_load one_3 rfl (hS.cell rfl)) <|
        p (yl_eql rfl rfl) <| p (yl_assign rfl) <| x_done <|
        ?_
      have e_ := Option.some.inj (show some _ = some _ from hF); subst e_
      exact x_return ⟨_, ⟨_, _, rfl, rfl, rfl⟩, rfl, hS.drop.drop⟩
    · replace hF := it_f hc32 hF
      refine x_seq <| x_region <| p (yl_eql rfl rfl) <| p (yl_assign rfl) <|
        x_done <|
        x_cond_p (p1.Side = 1) rfl (fun hc37 => ?_) (fun hc37 => ?_)
      · replace hF := it_t hc37 hF
        replace hF := ar_s hF; obtain ⟨x43, hx43, hF⟩ := hF
        refine x_seq <| x_region <| p (yl_field0 fld_187_1 rfl) <| pa (at_load one_3 rfl (hS.cell rfl)) <|
          p (yl_field0 fld_81_1 rfl) <| pa (at_load one_3 rfl ((hS.pull 1).cell rfl)) <| p (ysub rfl rfl hx43) <| p (yl_eql rfl rfl) <|
          p (yl_assign rfl) <| x_done <|
          ?_
        have e_ := Option.some.inj (show some _ = some _ from hF); subst e_
        exact x_return ⟨_, ⟨_, _, rfl, rfl, rfl⟩, rfl, hS.drop.drop⟩
      · replace hF := it_f hc37 hF
        refine x_seq <| x_region <| p (yl_eql rfl rfl) <| p (yl_assign rfl) <|
          x_done <|
          x_cond_p (p1.Side = 2) rfl (fun hc45 => ?_) (fun hc45 => ?_)
        · replace hF := it_t hc45 hF
          replace hF := ar_s hF; obtain ⟨x51, hx51, hF⟩ := hF
          refine x_seq <| x_region <| p (yl_field0 fld_187_0 rfl) <| pa (at_load one_3 rfl (hS.cell rfl)) <|
            p (yl_field0 fld_81_0 rfl) <| pa (at_load one_3 rfl ((hS.pull 1).cell rfl)) <| p (ysub rfl rfl hx51) <| p (yl_eql rfl rfl) <|
            p (yl_assign rfl) <| x_done <|
            ?_
          have e_ := Option.some.inj (show some _ = some _ from hF); subst e_
          exact x_return ⟨_, ⟨_, _, rfl, rfl, rfl⟩, rfl, hS.drop.drop⟩
        · replace hF := it_f hc45 hF
          refine x_seq <| x_region <| p (yl_eql rfl rfl) <| p (yl_assign rfl) <|
            x_done <|
            x_cond_p (p1.Side = 3) rfl (fun hc53 => ?_) (fun hc53 => ?_)
          · replace hF := it_t hc53 hF
            refine x_seq <| x_region <| p (yl_field0 fld_187_1 rfl) <| pa (at_load one_3 rfl (hS.cell rfl)) <|
              p (yl_eql rfl rfl) <| p (yl_assign rfl) <| x_done <|
              ?_
            have e_ := Option.some.inj (show some _ = some _ from hF); subst e_
            exact x_return ⟨_, ⟨_, _, rfl, rfl, rfl⟩, rfl, hS.drop.drop⟩
          · replace hF := it_f hc53 hF
            refine x_skip <| x_blk <| x_seq <| x_region <|
              p (yl_assign rfl) <| x_done <|
              ?_
            have e_ := Option.some.inj (show some _ = some _ from hF); subst e_
            exact x_return ⟨_, ⟨_, _, rfl, rfl, rfl⟩, rfl, hS.drop.drop⟩
attribute [irreducible] P_array_border


end Go.Proofs.Ytnooiajahmichaa.X
