/- Printed by gen.py: plain functions, and that the Go code computes them. -/
import Derived.Test.YtnooiajahmichaaYJ
import Derived.Test.YtnooiajahmichaaXTS
import Derived.Test.YtnooiajahmichaaGSp0
import Derived.Test.YtnooiajahmichaaGSp1
import Derived.Test.YtnooiajahmichaaGSp2
namespace Go.Proofs.Ytnooiajahmichaa.X
open Go Go.RowKit
set_option linter.unusedVariables false
set_option linter.unusedSimpArgs false

def P_stream_writer_tile_2_L15u4 (t1 : T_array_Tile) : (Int × List Int × Int) → Option ((Int × List Int × Int) ⊕ (List Int × Int)) := fun (y44_L15u4h, b_w_0_0_L15u4h, b_w_0_1_L15u4h) =>
  if y44_L15u4h < (t1.Out.fe0.length : Int) then
    ck (inb y44_L15u4h t1.Out.fe0.length) <|
    lv (gt t1.Out.fe0 y44_L15u4h) fun x47u4 =>
    lv (x47u4 % 18446744073709551616) fun x50u4 =>
    bd (P_stream_writer_bits_2 (T_stream_writer.mk b_w_0_0_L15u4h b_w_0_1_L15u4h) x50u4 3) fun r17_3u4 =>
    ar (y44_L15u4h + 1) fun x52u4 =>
    some (Sum.inl (x52u4, r17_3u4.1, r17_3u4.2))
  else
    some (Sum.inr (b_w_0_0_L15u4h, b_w_0_1_L15u4h))
def P_stream_writer_tile_2_L15u3 (t1 : T_array_Tile) : (Int × List Int × Int) → Option ((Int × List Int × Int) ⊕ (List Int × Int)) := fun (y44_L15u3h, b_w_0_0_L15u3h, b_w_0_1_L15u3h) =>
  if y44_L15u3h < (t1.Out.fe1.length : Int) then
    ck (inb y44_L15u3h t1.Out.fe1.length) <|
    lv (gt t1.Out.fe1 y44_L15u3h) fun x47u3 =>
    lv (x47u3 % 18446744073709551616) fun x50u3 =>
    bd (P_stream_writer_bits_2 (T_stream_writer.mk b_w_0_0_L15u3h b_w_0_1_L15u3h) x50u3 3) fun r17_3u3 =>
    ar (y44_L15u3h + 1) fun x52u3 =>
    some (Sum.inl (x52u3, r17_3u3.1, r17_3u3.2))
  else
    some (Sum.inr (b_w_0_0_L15u3h, b_w_0_1_L15u3h))
def P_stream_writer_tile_2_L15u2 (t1 : T_array_Tile) : (Int × List Int × Int) → Option ((Int × List Int × Int) ⊕ (List Int × Int)) := fun (y44_L15u2h, b_w_0_0_L15u2h, b_w_0_1_L15u2h) =>
  if y44_L15u2h < (t1.Out.fe2.length : Int) then
    ck (inb y44_L15u2h t1.Out.fe2.length) <|
    lv (gt t1.Out.fe2 y44_L15u2h) fun x47u2 =>
    lv (x47u2 % 18446744073709551616) fun x50u2 =>
    bd (P_stream_writer_bits_2 (T_stream_writer.mk b_w_0_0_L15u2h b_w_0_1_L15u2h) x50u2 3) fun r17_3u2 =>
    ar (y44_L15u2h + 1) fun x52u2 =>
    some (Sum.inl (x52u2, r17_3u2.1, r17_3u2.2))
  else
    some (Sum.inr (b_w_0_0_L15u2h, b_w_0_1_L15u2h))
def P_stream_writer_tile_2_L15u1 (t1 : T_array_Tile) : (Int × List Int × Int) → Option ((Int × List Int × Int) ⊕ (List Int × Int)) := fun (y44_L15u1h, b_w_0_0_L15u1h, b_w_0_1_L15u1h) =>
  if y44_L15u1h < (t1.Out.fe3.length : Int) then
    ck (inb y44_L15u1h t1.Out.fe3.length) <|
    lv (gt t1.Out.fe3 y44_L15u1h) fun x47u1 =>
    lv (x47u1 % 18446744073709551616) fun x50u1 =>
    bd (P_stream_writer_bits_2 (T_stream_writer.mk b_w_0_0_L15u1h b_w_0_1_L15u1h) x50u1 3) fun r17_3u1 =>
    ar (y44_L15u1h + 1) fun x52u1 =>
    some (Sum.inl (x52u1, r17_3u1.1, r17_3u1.2))
  else
    some (Sum.inr (b_w_0_0_L15u1h, b_w_0_1_L15u1h))
def P_stream_writer_tile_2 (w_0 : T_stream_writer) (t1 : T_array_Tile) (tracks2 : Int) : Option (List Int × Int) :=
  lv (t1.Table % 18446744073709551616) fun x16 =>
  bd (P_stream_writer_bits_2 w_0 x16 16) fun r1_4 =>
  bd (
    if t1.Init = true then
      some (1 : Int)
    else
      some (0 : Int)) fun init6_c19 =>
  bd (P_stream_writer_bits_2 (T_stream_writer.mk r1_4.1 r1_4.2) init6_c19 1) fun r5_2 =>
  lv (t1.In.fe0 % 18446744073709551616) fun x30u4 =>
  ar ((4 : Int) * tracks2) fun x32u4 =>
  ar ((1 : Int) + x32u4) fun x33u4 =>
  bd (P_stream_size x33u4) fun r9_6u4 =>
  bd (P_stream_writer_bits_2 (T_stream_writer.mk r5_2.1 r5_2.2) x30u4 r9_6u4) fun r9_7u4 =>
  lv (t1.In.fe1 % 18446744073709551616) fun x30u3 =>
  ar ((4 : Int) * tracks2) fun x32u3 =>
  ar ((1 : Int) + x32u3) fun x33u3 =>
  bd (P_stream_size x33u3) fun r9_6u3 =>
  bd (P_stream_writer_bits_2 (T_stream_writer.mk r9_7u4.1 r9_7u4.2) x30u3 r9_6u3) fun r9_7u3 =>
  lv (t1.In.fe2 % 18446744073709551616) fun x30u2 =>
  ar ((4 : Int) * tracks2) fun x32u2 =>
  ar ((1 : Int) + x32u2) fun x33u2 =>
  bd (P_stream_size x33u2) fun r9_6u2 =>
  bd (P_stream_writer_bits_2 (T_stream_writer.mk r9_7u3.1 r9_7u3.2) x30u2 r9_6u2) fun r9_7u2 =>
  lv (t1.In.fe3 % 18446744073709551616) fun x30u1 =>
  ar ((4 : Int) * tracks2) fun x32u1 =>
  ar ((1 : Int) + x32u1) fun x33u1 =>
  bd (P_stream_size x33u1) fun r9_6u1 =>
  bd (P_stream_writer_bits_2 (T_stream_writer.mk r9_7u2.1 r9_7u2.2) x30u1 r9_6u1) fun r9_7u1 =>
  bd (
    lp (P_stream_writer_tile_2_L15u4 t1) fuel (0, r9_7u1.1, r9_7u1.2)) fun (b_w_0_0_L15u4, b_w_0_1_L15u4) =>
  bd (
    lp (P_stream_writer_tile_2_L15u3 t1) fuel (0, b_w_0_0_L15u4, b_w_0_1_L15u4)) fun (b_w_0_0_L15u3, b_w_0_1_L15u3) =>
  bd (
    lp (P_stream_writer_tile_2_L15u2 t1) fuel (0, b_w_0_0_L15u3, b_w_0_1_L15u3)) fun (b_w_0_0_L15u2, b_w_0_1_L15u2) =>
  bd (
    lp (P_stream_writer_tile_2_L15u1 t1) fuel (0, b_w_0_0_L15u2, b_w_0_1_L15u2)) fun (b_w_0_0_L15u1, b_w_0_1_L15u1) =>
  some (b_w_0_0_L15u1, b_w_0_1_L15u1)
set_option maxHeartbeats 4000000 in
set_option maxRecDepth 100000 in
theorem c_stream_writer_tile_2 {w0 w : World} {l : List Assn} {ρ : Heap} {b_w_0 : Nat} {A_w_0_0 : Option Addr} {n_w_0_0 : Nat} {c_w_0_0 : Nat} {cs_w_0_0 : List Value} {A_t1_6 : Option Addr} {n_t1_6 : Nat} {c_t1_6 : Nat} {A_t1_7 : Option Addr} {n_t1_7 : Nat} {c_t1_7 : Nat} {A_t1_8 : Option Addr} {n_t1_8 : Nat} {c_t1_8 : Nat} {A_t1_9 : Option Addr} {n_t1_9 : Nat} {c_t1_9 : Nat} {w_0 : T_stream_writer} {t1 : T_array_Tile} {tracks2 : Int} {r : (List Int × Int)} (hF : P_stream_writer_tile_2 w_0 t1 tracks2 = some r) (h_w_0_0 : RepL (RpI .u8) ρ w_0.fb cs_w_0_0) (h_t1_6 : RdS (RpI .i64) ρ A_t1_6 n_t1_6 c_t1_6 t1.Out.fe0) (h_t1_7 : RdS (RpI .i64) ρ A_t1_7 n_t1_7 c_t1_7 t1.Out.fe1) (h_t1_8 : RdS (RpI .i64) ρ A_t1_8 n_t1_8 c_t1_8 t1.Out.fe2) (h_t1_9 : RdS (RpI .i64) ρ A_t1_9 n_t1_9 c_t1_9 t1.Out.fe3) (hS : St w0 w (cells b_w_0 175 [.slice A_w_0_0 n_w_0_0 c_w_0_0, .int .i64 w_0.fleft] :: vec 5 (RpI .u8).sz (.slice A_w_0_0 n_w_0_0 c_w_0_0) n_w_0_0 cs_w_0_0 :: ro ρ :: l)) :
    Calls Try.prog 90 #[.pointer (some ⟨b_w_0, 0, none⟩), .agg #[.int .u16 t1.Table, .bool t1.Init, .int .i64 t1.In.fe0, .int .i64 t1.In.fe1, .int .i64 t1.In.fe2, .int .i64 t1.In.fe3, .slice A_t1_6 n_t1_6 c_t1_6, .slice A_t1_7 n_t1_7 c_t1_7, .slice A_t1_8 n_t1_8 c_t1_8, .slice A_t1_9 n_t1_9 c_t1_9], .int .i64 tracks2] w fun e w' => ∃ (A_b_w_0_0_ret : Option Addr) (n_b_w_0_0_ret : Nat) (c_b_w_0_0_ret : Nat) (cs_b_w_0_0_ret : List Value), e = .returned (.tuple #[]) ∧ RepL (RpI .u8) ρ r.1 cs_b_w_0_0_ret ∧ St w0 w' (cells b_w_0 175 [.slice A_b_w_0_0_ret n_b_w_0_0_ret c_b_w_0_0_ret, .int .i64 r.2] :: vec 5 (RpI .u8).sz (.slice A_b_w_0_0_ret n_b_w_0_0_ret c_b_w_0_0_ret) n_b_w_0_0_ret cs_b_w_0_0_ret :: ro ρ :: l) := by
  have e_ := St.vec_n (hS.pull 1) h_w_0_0; subst e_
  have e_ := h_t1_6.n; subst e_
  have e_ := h_t1_7.n; subst e_
  have e_ := h_t1_8.n; subst e_
  have e_ := h_t1_9.n; subst e_
  refine enterC Try.func90 rfl 54 rfl (by simp) ?_
  refine x_seq <| x_region <|
    ?_
  refine o_box (cs := [.int .u16 t1.Table, .bool t1.Init, .int .i64 t1.In.fe0, .int .i64 t1.In.fe1, .int .i64 t1.In.fe2, .int .i64 t1.In.fe3, .slice A_t1_6 t1.Out.fe0.length c_t1_6, .slice A_t1_7 t1.Out.fe1.length c_t1_7, .slice A_t1_8 t1.Out.fe2.length c_t1_8, .slice A_t1_9 t1.Out.fe3.length c_t1_9]) rfl rfl hS (fun b4 w' hS => ?_)
  replace hF := lv_s hF; obtain ⟨x16, hx16, hF⟩ := hF
  replace hF := bd_s hF; obtain ⟨r1_4, hc1_4, hF⟩ := hF
  refine x_done <| x_seq <| x_region <| p (yl_move rfl) <|
    p (yl_field0 fld_183_0 rfl) <| pa (at_load one_179 rfl (hS.cell rfl)) <| p (yconvu wm_u64 uk_179 ik_44 rfl hx16) <|
    ?_
  have hcall := c_stream_writer_bits_2 hc1_4 h_w_0_0 (((hS.pull 3).pull 3).pull 3)
  refine o_cc call_88 (args3 rfl rfl rfl) hcall ?_
  rintro e w' ⟨A_b_w_0_0_ret_1_4, n_b_w_0_0_ret_1_4, c_b_w_0_0_ret_1_4, cs_b_w_0_0_ret_1_4, rfl, h_b_w_0_0_ret_1_4, hS⟩
  refine ⟨_, rfl, ?_⟩
  have e_ := St.vec_n (hS.pull 1) h_b_w_0_0_ret_1_4; subst e_
  refine x_done <| x_seq <| x_region <| p (yl_assign rfl) <|
    x_done <| x_seq <| x_seq <| x_region <|
    p (yl_field0 fld_183_1 rfl) <| pa (at_load one_4 rfl ((hS.pull 3).cell rfl)) <| x_done <|
    ?_
  replace hF := bd_s hF; obtain ⟨oc19, hFc19, hF⟩ := hF
  refine x_join (fun E w => ∃ (init6_c19 : Int), init6_c19 = oc19 ∧ E 0 = .pointer (some ⟨b_w_0, 0, none⟩) ∧ E 2 = .int .i64 tracks2 ∧ E 4 = .pointer (some ⟨b4, 0, none⟩) ∧ E 6 = .int .u64 init6_c19 ∧ St w0 w (cells b_w_0 175 [.slice A_b_w_0_0_ret_1_4 r1_4.1.length c_b_w_0_0_ret_1_4, .int .i64 r1_4.2] :: cells b4 183 [.int .u16 t1.Table, .bool t1.Init, .int .i64 t1.In.fe0, .int .i64 t1.In.fe1, .int .i64 t1.In.fe2, .int .i64 t1.In.fe3, .slice A_t1_6 t1.Out.fe0.length c_t1_6, .slice A_t1_7 t1.Out.fe1.length c_t1_7, .slice A_t1_8 t1.Out.fe2.length c_t1_8, .slice A_t1_9 t1.Out.fe3.length c_t1_9] :: vec 5 (RpI .u8).sz (.slice A_b_w_0_0_ret_1_4 r1_4.1.length c_b_w_0_0_ret_1_4) r1_4.1.length cs_b_w_0_0_ret_1_4 :: ro ρ :: l)) ?_ ?_
  · skip -- c19
    refine x_cond (t := t1.Init) rfl (fun hc19 => ?_) (fun hc19 => ?_)
    · replace hFc19 := it_t hc19 hFc19
      refine x_region <| p (yl_assign rfl) <| x_done <|
        ?_
      exact x_inv ⟨1, (Option.some.inj (show some _ = some _ from hFc19)), rfl, rfl, rfl, rfl, ((((hS.pull 2).pull 2).pull 3).pull 3)⟩
    · replace hFc19 := it_bf hc19 hFc19
      refine x_skip <|
        ?_
      exact x_inv ⟨0, (Option.some.inj (show some _ = some _ from hFc19)), rfl, rfl, rfl, rfl, ((((hS.pull 2).pull 2).pull 3).pull 3)⟩
  rintro E w ⟨init6_c19, rfl, ec19_0, ec19_2, ec19_4, ec19_6, hS⟩
  replace hF := bd_s hF; obtain ⟨r5_2, hc5_2, hF⟩ := hF
  refine x_seq <| x_region <| p (yl_move ec19_0) <| p (yl_move ec19_6) <|
    ?_
  have hcall := c_stream_writer_bits_2 hc5_2 h_b_w_0_0_ret_1_4 (((hS.pull 3).pull 3).pull 2)
  refine o_cc call_88 (args3 rfl rfl rfl) hcall ?_
  rintro e w' ⟨A_b_w_0_0_ret_5_2, n_b_w_0_0_ret_5_2, c_b_w_0_0_ret_5_2, cs_b_w_0_0_ret_5_2, rfl, h_b_w_0_0_ret_5_2, hS⟩
  refine ⟨_, rfl, ?_⟩
  have e_ := St.vec_n (hS.pull 1) h_b_w_0_0_ret_5_2; subst e_
  replace hF := lv_s hF; obtain ⟨x30u4, hx30u4, hF⟩ := hF
  replace hF := ar_s hF; obtain ⟨x32u4, hx32u4, hF⟩ := hF
  replace hF := ar_s hF; obtain ⟨x33u4, hx33u4, hF⟩ := hF
  replace hF := bd_s hF; obtain ⟨r9_6u4, hc9_6u4, hF⟩ := hF
  refine x_done <| x_seq <| x_seq <| x_region <|
    p (yl_field0 fld_183_2 ec19_4) <| pa (v := .agg #[.int .i64 t1.In.fe0, .int .i64 t1.In.fe1, .int .i64 t1.In.fe2, .int .i64 t1.In.fe3]) (ld_sub agg_180 rfl rfl rfl (hS.pull 3)) <| p (yl_move rfl) <| x_done <|
    x_block <| x_unroll 4 <| x_seq <| x_region <|
    p (ylss_l (t := true) rfl rfl (by decide)) <| x_done <| x_seq <| x_cond_t (show ev _ _ = .bool true from rfl) <|
    x_skip <| x_seq <| x_block <| x_seq <|
    x_region <| p (yl_ixv (x := .tmp 24) (y := .tmp 25) (v := .int .i64 t1.In.fe0) arr_180 one_3 rfl rfl (by decide) rfl) <| p (yl_assign rfl) <| x_done <|
    x_region <| p (yl_move ec19_0) <| p (yl_move rfl) <| p (yconvu wm_u64 uk_3 ik_44 rfl hx30u4) <|
    p (yl_move ec19_2) <| p (ymul rfl rfl hx32u4) <| p (yadd rfl rfl hx33u4) <|
    ?_
  have hcall := c_stream_size hc9_6u4  (hS.pull 2)
  refine o_cc call_133 (args1 rfl) ((Calls.mono hcall (fun e w'' h => And.intro h.1 ((((h.2.pull 3).pull 1).pull 3).pull 3)))) ?_
  rintro e w' ⟨rfl, hS⟩
  refine ⟨_, rfl, ?_⟩
  replace hF := bd_s hF; obtain ⟨r9_7u4, hc9_7u4, hF⟩ := hF
  have hcall := c_stream_writer_bits_2 hc9_7u4 h_b_w_0_0_ret_5_2 (((hS.pull 2).pull 2).pull 2)
  refine o_cc call_88 (args3 rfl rfl rfl) hcall ?_
  rintro e w' ⟨A_b_w_0_0_ret_9_7u4, n_b_w_0_0_ret_9_7u4, c_b_w_0_0_ret_9_7u4, cs_b_w_0_0_ret_9_7u4, rfl, h_b_w_0_0_ret_9_7u4, hS⟩
  refine ⟨_, rfl, ?_⟩
  have e_ := St.vec_n (hS.pull 1) h_b_w_0_0_ret_9_7u4; subst e_
  replace hF := lv_s hF; obtain ⟨x30u3, hx30u3, hF⟩ := hF
  replace hF := ar_s hF; obtain ⟨x32u3, hx32u3, hF⟩ := hF
  replace hF := ar_s hF; obtain ⟨x33u3, hx33u3, hF⟩ := hF
  replace hF := bd_s hF; obtain ⟨r9_6u3, hc9_6u3, hF⟩ := hF
  refine x_done <| x_blk <| x_region <| p (yadd (c := 1) rfl rfl ⟨rfl, by decide⟩) <|
    p (yl_move rfl) <| x_done <| x_un 3 <| x_seq <|
    x_region <| p (ylss_l (t := true) rfl rfl (by decide)) <| x_done <| x_seq <|
    x_cond_t (show ev _ _ = .bool true from rfl) <| x_skip <| x_seq <| x_block <|
    x_seq <| x_region <| p (yl_ixv (x := .tmp 24) (y := .tmp 25) (v := .int .i64 t1.In.fe1) arr_180 one_3 rfl rfl (by decide) rfl) <| p (yl_assign rfl) <|
    x_done <| x_region <| p (yl_move ec19_0) <| p (yl_move rfl) <|
    p (yconvu wm_u64 uk_3 ik_44 rfl hx30u3) <| p (yl_move ec19_2) <| p (ymul rfl rfl hx32u3) <| p (yadd rfl rfl hx33u3) <|
    ?_
  have hcall := c_stream_size hc9_6u3  (hS.pull 2)
  refine o_cc call_133 (args1 rfl) ((Calls.mono hcall (fun e w'' h => And.intro h.1 ((((h.2.pull 3).pull 1).pull 3).pull 3)))) ?_
  rintro e w' ⟨rfl, hS⟩
  refine ⟨_, rfl, ?_⟩
  replace hF := bd_s hF; obtain ⟨r9_7u3, hc9_7u3, hF⟩ := hF
  have hcall := c_stream_writer_bits_2 hc9_7u3 h_b_w_0_0_ret_9_7u4 (((hS.pull 2).pull 2).pull 2)
  refine o_cc call_88 (args3 rfl rfl rfl) hcall ?_
  rintro e w' ⟨A_b_w_0_0_ret_9_7u3, n_b_w_0_0_ret_9_7u3, c_b_w_0_0_ret_9_7u3, cs_b_w_0_0_ret_9_7u3, rfl, h_b_w_0_0_ret_9_7u3, hS⟩
  refine ⟨_, rfl, ?_⟩
  have e_ := St.vec_n (hS.pull 1) h_b_w_0_0_ret_9_7u3; subst e_
  replace hF := lv_s hF; obtain ⟨x30u2, hx30u2, hF⟩ := hF
  replace hF := ar_s hF; obtain ⟨x32u2, hx32u2, hF⟩ := hF
  replace hF := ar_s hF; obtain ⟨x33u2, hx33u2, hF⟩ := hF
  replace hF := bd_s hF; obtain ⟨r9_6u2, hc9_6u2, hF⟩ := hF
  refine x_done <| x_blk <| x_region <| p (yadd (c := 2) rfl rfl ⟨rfl, by decide⟩) <|
    p (yl_move rfl) <| x_done <| x_un 2 <| x_seq <|
    x_region <| p (ylss_l (t := true) rfl rfl (by decide)) <| x_done <| x_seq <|
    x_cond_t (show ev _ _ = .bool true from rfl) <| x_skip <| x_seq <| x_block <|
    x_seq <| x_region <| p (yl_ixv (x := .tmp 24) (y := .tmp 25) (v := .int .i64 t1.In.fe2) arr_180 one_3 rfl rfl (by decide) rfl) <| p (yl_assign rfl) <|
    x_done <| x_region <| p (yl_move ec19_0) <| p (yl_move rfl) <|
    p (yconvu wm_u64 uk_3 ik_44 rfl hx30u2) <| p (yl_move ec19_2) <| p (ymul rfl rfl hx32u2) <| p (yadd rfl rfl hx33u2) <|
    ?_
  have hcall := c_stream_size hc9_6u2  (hS.pull 2)
  refine o_cc call_133 (args1 rfl) ((Calls.mono hcall (fun e w'' h => And.intro h.1 ((((h.2.pull 3).pull 1).pull 3).pull 3)))) ?_
  rintro e w' ⟨rfl, hS⟩
  refine ⟨_, rfl, ?_⟩
  replace hF := bd_s hF; obtain ⟨r9_7u2, hc9_7u2, hF⟩ := hF
  have hcall := c_stream_writer_bits_2 hc9_7u2 h_b_w_0_0_ret_9_7u3 (((hS.pull 2).pull 2).pull 2)
  refine o_cc call_88 (args3 rfl rfl rfl) hcall ?_
  rintro e w' ⟨A_b_w_0_0_ret_9_7u2, n_b_w_0_0_ret_9_7u2, c_b_w_0_0_ret_9_7u2, cs_b_w_0_0_ret_9_7u2, rfl, h_b_w_0_0_ret_9_7u2, hS⟩
  refine ⟨_, rfl, ?_⟩
  have e_ := St.vec_n (hS.pull 1) h_b_w_0_0_ret_9_7u2; subst e_
  replace hF := lv_s hF; obtain ⟨x30u1, hx30u1, hF⟩ := hF
  replace hF := ar_s hF; obtain ⟨x32u1, hx32u1, hF⟩ := hF
  replace hF := ar_s hF; obtain ⟨x33u1, hx33u1, hF⟩ := hF
  replace hF := bd_s hF; obtain ⟨r9_6u1, hc9_6u1, hF⟩ := hF
  refine x_done <| x_blk <| x_region <| p (yadd (c := 3) rfl rfl ⟨rfl, by decide⟩) <|
    p (yl_move rfl) <| x_done <| x_un 1 <| x_seq <|
    x_region <| p (ylss_l (t := true) rfl rfl (by decide)) <| x_done <| x_seq <|
    x_cond_t (show ev _ _ = .bool true from rfl) <| x_skip <| x_seq <| x_block <|
    x_seq <| x_region <| p (yl_ixv (x := .tmp 24) (y := .tmp 25) (v := .int .i64 t1.In.fe3) arr_180 one_3 rfl rfl (by decide) rfl) <| p (yl_assign rfl) <|
    x_done <| x_region <| p (yl_move ec19_0) <| p (yl_move rfl) <|
    p (yconvu wm_u64 uk_3 ik_44 rfl hx30u1) <| p (yl_move ec19_2) <| p (ymul rfl rfl hx32u1) <| p (yadd rfl rfl hx33u1) <|
    ?_
  have hcall := c_stream_size hc9_6u1  (hS.pull 2)
  refine o_cc call_133 (args1 rfl) ((Calls.mono hcall (fun e w'' h => And.intro h.1 ((((h.2.pull 3).pull 1).pull 3).pull 3)))) ?_
  rintro e w' ⟨rfl, hS⟩
  refine ⟨_, rfl, ?_⟩
  replace hF := bd_s hF; obtain ⟨r9_7u1, hc9_7u1, hF⟩ := hF
  have hcall := c_stream_writer_bits_2 hc9_7u1 h_b_w_0_0_ret_9_7u2 (((hS.pull 2).pull 2).pull 2)
  refine o_cc call_88 (args3 rfl rfl rfl) hcall ?_
  rintro e w' ⟨A_b_w_0_0_ret_9_7u1, n_b_w_0_0_ret_9_7u1, c_b_w_0_0_ret_9_7u1, cs_b_w_0_0_ret_9_7u1, rfl, h_b_w_0_0_ret_9_7u1, hS⟩
  refine ⟨_, rfl, ?_⟩
  have e_ := St.vec_n (hS.pull 1) h_b_w_0_0_ret_9_7u1; subst e_
  refine x_done <| x_blk <| x_region <| p (yadd (c := 4) rfl rfl ⟨rfl, by decide⟩) <|
    p (yl_move rfl) <| x_done <| x_un 0 <| x_seq <|
    x_region <| p (ylss_l (t := false) rfl rfl (by decide)) <| x_done <| x_seq <|
    x_cond_f (show ev _ _ = .bool false from rfl) <| x_exitTo _ rfl <| x_seq <| x_region <|
    p (yl_field0 fld_183_3 ec19_4) <| pa (v := .agg #[.slice A_t1_6 t1.Out.fe0.length c_t1_6, .slice A_t1_7 t1.Out.fe1.length c_t1_7, .slice A_t1_8 t1.Out.fe2.length c_t1_8, .slice A_t1_9 t1.Out.fe3.length c_t1_9]) (ld_sub agg_181 rfl rfl rfl (hS.pull 3)) <| p (yl_move rfl) <| x_done <|
    x_block <| x_unroll 4 <| x_seq <| x_region <|
    p (ylss_l (t := true) rfl rfl (by decide)) <| x_done <| x_seq <| x_cond_t (show ev _ _ = .bool true from rfl) <|
    x_skip <| x_seq <| x_block <| x_seq <|
    x_region <| p (yl_ixv (x := .tmp 38) (y := .tmp 39) (v := .slice A_t1_6 t1.Out.fe0.length c_t1_6) arr_181 one_22 rfl rfl (by decide) rfl) <| p (yl_assign rfl) <| x_done <|
    x_seq <| x_region <| p (yl_move rfl) <| p (yl_len_slice usl_22 rfl) <|
    p (yl_move rfl) <| x_done <|
    ?_
  replace hF := bd_s hF; obtain ⟨oL15u4, hLL15u4, hF⟩ := hF
  refine x_join (fun E w => ∃ (A_b_w_0_0_L15u4 : Option Addr) (n_b_w_0_0_L15u4 : Nat) (c_b_w_0_0_L15u4 : Nat) (cs_b_w_0_0_L15u4 : List Value) (b_w_0_0_L15u4 : List Int) (b_w_0_1_L15u4 : Int), (b_w_0_0_L15u4, b_w_0_1_L15u4) = oL15u4 ∧ E 0 = .pointer (some ⟨b_w_0, 0, none⟩) ∧ E 38 = .agg #[.slice A_t1_6 t1.Out.fe0.length c_t1_6, .slice A_t1_7 t1.Out.fe1.length c_t1_7, .slice A_t1_8 t1.Out.fe2.length c_t1_8, .slice A_t1_9 t1.Out.fe3.length c_t1_9] ∧ E 39 = .int .i64 0 ∧ RepL (RpI .u8) ρ b_w_0_0_L15u4 cs_b_w_0_0_L15u4 ∧ St w0 w (cells b_w_0 175 [.slice A_b_w_0_0_L15u4 n_b_w_0_0_L15u4 c_b_w_0_0_L15u4, .int .i64 b_w_0_1_L15u4] :: vec 5 (RpI .u8).sz (.slice A_b_w_0_0_L15u4 n_b_w_0_0_L15u4 c_b_w_0_0_L15u4) n_b_w_0_0_L15u4 cs_b_w_0_0_L15u4 :: ro ρ :: l)) ?_ ?_
  · skip -- L15u4
    refine x_block ?_
    refine x_loop (fun k_ E w => ∃ (A_b_w_0_0_L15u4h : Option Addr) (n_b_w_0_0_L15u4h : Nat) (c_b_w_0_0_L15u4h : Nat) (cs_b_w_0_0_L15u4h : List Value) (y44_L15u4h : Int) (b_w_0_0_L15u4h : List Int) (b_w_0_1_L15u4h : Int), lp (P_stream_writer_tile_2_L15u4 t1) k_ (y44_L15u4h, b_w_0_0_L15u4h, b_w_0_1_L15u4h) = some oL15u4 ∧ E 0 = .pointer (some ⟨b_w_0, 0, none⟩) ∧ E 38 = .agg #[.slice A_t1_6 t1.Out.fe0.length c_t1_6, .slice A_t1_7 t1.Out.fe1.length c_t1_7, .slice A_t1_8 t1.Out.fe2.length c_t1_8, .slice A_t1_9 t1.Out.fe3.length c_t1_9] ∧ E 39 = .int .i64 0 ∧ E 42 = .slice A_t1_6 t1.Out.fe0.length c_t1_6 ∧ E 43 = .int .i64 (t1.Out.fe0.length : Int) ∧ E 44 = .int .i64 y44_L15u4h ∧ RepL (RpI .u8) ρ b_w_0_0_L15u4h cs_b_w_0_0_L15u4h ∧ St w0 w (cells b_w_0 175 [.slice A_b_w_0_0_L15u4h n_b_w_0_0_L15u4h c_b_w_0_0_L15u4h, .int .i64 b_w_0_1_L15u4h] :: vec 5 (RpI .u8).sz (.slice A_b_w_0_0_L15u4h n_b_w_0_0_L15u4h c_b_w_0_0_L15u4h) n_b_w_0_0_L15u4h cs_b_w_0_0_L15u4h :: ro ρ :: l)) fuel ⟨A_b_w_0_0_ret_9_7u1, r9_7u1.1.length, c_b_w_0_0_ret_9_7u1, cs_b_w_0_0_ret_9_7u1, 0, r9_7u1.1, r9_7u1.2, hLL15u4, ec19_0, rfl, rfl, rfl, rfl, rfl, h_b_w_0_0_ret_9_7u1, ((((hS.pull 3).drop.pull 2).pull 2).pull 2)⟩ ?_
    rintro kL15u4 E w ⟨A_b_w_0_0_L15u4h, n_b_w_0_0_L15u4h, c_b_w_0_0_L15u4h, cs_b_w_0_0_L15u4h, y44_L15u4h, b_w_0_0_L15u4h, b_w_0_1_L15u4h, hLL15u4, eL15u4h_0, eL15u4h_38, eL15u4h_39, eL15u4h_42, eL15u4h_43, eL15u4h_44, h_b_w_0_0_L15u4h, hS⟩
    have e_ := St.vec_n (hS.pull 1) h_b_w_0_0_L15u4h; subst e_
    replace hLL15u4 := lp_s hLL15u4; obtain ⟨kL15u4, obL15u4, rfl, hFL15u4, hLL15u4⟩ := hLL15u4
    refine x_seq <| x_region <| p (yl_lss eL15u4h_44 eL15u4h_43) <| x_done <|
      x_seq <|
      x_cond_p (y44_L15u4h < (t1.Out.fe0.length : Int)) rfl (fun hc45u4 => ?_) (fun hc45u4 => ?_)
    · replace hFL15u4 := it_t hc45u4 hFL15u4
      replace hFL15u4 := ck_s hFL15u4; obtain ⟨hk16_0u4, hFL15u4⟩ := hFL15u4
      replace hFL15u4 := lv_s hFL15u4; obtain ⟨x47u4, hx47u4, hFL15u4⟩ := hFL15u4
      replace hFL15u4 := lv_s hFL15u4; obtain ⟨x50u4, hx50u4, hFL15u4⟩ := hFL15u4
      replace hFL15u4 := bd_s hFL15u4; obtain ⟨r17_3u4, hc17_3u4, hFL15u4⟩ := hFL15u4
      refine x_skip <| x_seq <| x_block <| x_seq <|
        x_region <| p (yix_f sl_22 eL15u4h_42 eL15u4h_44 h_t1_6 hk16_0u4) <| pa (at_load one_3 rfl (RdS.getW h_t1_6 (hS.pull 2) hk16_0u4 hx47u4)) <| p (yl_assign rfl) <|
        x_done <| x_region <| p (yl_move eL15u4h_0) <| p (yl_move rfl) <|
        p (yconvu wm_u64 uk_3 ik_44 rfl hx50u4) <|
        ?_
      have hcall := c_stream_writer_bits_2 hc17_3u4 h_b_w_0_0_L15u4h (((hS.pull 2).pull 2).pull 2)
      refine o_cc call_88 (args3 rfl rfl rfl) hcall ?_
      rintro e w' ⟨A_b_w_0_0_ret_17_3u4, n_b_w_0_0_ret_17_3u4, c_b_w_0_0_ret_17_3u4, cs_b_w_0_0_ret_17_3u4, rfl, h_b_w_0_0_ret_17_3u4, hS⟩
      refine ⟨_, rfl, ?_⟩
      have e_ := St.vec_n (hS.pull 1) h_b_w_0_0_ret_17_3u4; subst e_
      replace hFL15u4 := ar_s hFL15u4; obtain ⟨x52u4, hx52u4, hFL15u4⟩ := hFL15u4
      refine x_done <| x_blk <| x_region <| p (yadd eL15u4h_44 rfl hx52u4) <|
        p (yl_move rfl) <| x_done <|
        ?_
      have e_ := Option.some.inj (show some _ = some _ from hFL15u4); subst e_
      exact x_inv ⟨kL15u4, Nat.lt_succ_self _, A_b_w_0_0_ret_17_3u4, r17_3u4.1.length, c_b_w_0_0_ret_17_3u4, cs_b_w_0_0_ret_17_3u4, x52u4, r17_3u4.1, r17_3u4.2, hLL15u4, eL15u4h_0, eL15u4h_38, eL15u4h_39, eL15u4h_42, eL15u4h_43, rfl, h_b_w_0_0_ret_17_3u4, (((hS.pull 2).pull 2).pull 2)⟩
    · replace hFL15u4 := it_f hc45u4 hFL15u4
      refine x_exitTo _ rfl <|
        ?_
      have e_ := Option.some.inj (show some _ = some _ from hFL15u4); subst e_
      exact x_inv ⟨A_b_w_0_0_L15u4h, b_w_0_0_L15u4h.length, c_b_w_0_0_L15u4h, cs_b_w_0_0_L15u4h, b_w_0_0_L15u4h, b_w_0_1_L15u4h, hLL15u4, eL15u4h_0, eL15u4h_38, eL15u4h_39, h_b_w_0_0_L15u4h, (((hS.pull 2).pull 2).pull 2)⟩
  rintro E w ⟨A_b_w_0_0_L15u4, n_b_w_0_0_L15u4, c_b_w_0_0_L15u4, cs_b_w_0_0_L15u4, b_w_0_0_L15u4, b_w_0_1_L15u4, rfl, eL15u4_0, eL15u4_38, eL15u4_39, h_b_w_0_0_L15u4, hS⟩
  have e_ := St.vec_n (hS.pull 1) h_b_w_0_0_L15u4; subst e_
  refine x_blk <| x_region <| p (yadd (c := 1) eL15u4_39 rfl ⟨rfl, by decide⟩) <| p (yl_move rfl) <|
    x_done <| x_un 3 <| x_seq <| x_region <|
    p (ylss_l (t := true) rfl rfl (by decide)) <| x_done <| x_seq <| x_cond_t (show ev _ _ = .bool true from rfl) <|
    x_skip <| x_seq <| x_block <| x_seq <|
    x_region <| p (yl_ixv (x := .tmp 38) (y := .tmp 39) (v := .slice A_t1_7 t1.Out.fe1.length c_t1_7) arr_181 one_22 eL15u4_38 rfl (by decide) rfl) <| p (yl_assign rfl) <| x_done <|
    x_seq <| x_region <| p (yl_move rfl) <| p (yl_len_slice usl_22 rfl) <|
    p (yl_move rfl) <| x_done <|
    ?_
  replace hF := bd_s hF; obtain ⟨oL15u3, hLL15u3, hF⟩ := hF
  refine x_join (fun E w => ∃ (A_b_w_0_0_L15u3 : Option Addr) (n_b_w_0_0_L15u3 : Nat) (c_b_w_0_0_L15u3 : Nat) (cs_b_w_0_0_L15u3 : List Value) (b_w_0_0_L15u3 : List Int) (b_w_0_1_L15u3 : Int), (b_w_0_0_L15u3, b_w_0_1_L15u3) = oL15u3 ∧ E 0 = .pointer (some ⟨b_w_0, 0, none⟩) ∧ E 38 = .agg #[.slice A_t1_6 t1.Out.fe0.length c_t1_6, .slice A_t1_7 t1.Out.fe1.length c_t1_7, .slice A_t1_8 t1.Out.fe2.length c_t1_8, .slice A_t1_9 t1.Out.fe3.length c_t1_9] ∧ E 39 = .int .i64 1 ∧ RepL (RpI .u8) ρ b_w_0_0_L15u3 cs_b_w_0_0_L15u3 ∧ St w0 w (cells b_w_0 175 [.slice A_b_w_0_0_L15u3 n_b_w_0_0_L15u3 c_b_w_0_0_L15u3, .int .i64 b_w_0_1_L15u3] :: vec 5 (RpI .u8).sz (.slice A_b_w_0_0_L15u3 n_b_w_0_0_L15u3 c_b_w_0_0_L15u3) n_b_w_0_0_L15u3 cs_b_w_0_0_L15u3 :: ro ρ :: l)) ?_ ?_
  · skip -- L15u3
    refine x_block ?_
    refine x_loop (fun k_ E w => ∃ (A_b_w_0_0_L15u3h : Option Addr) (n_b_w_0_0_L15u3h : Nat) (c_b_w_0_0_L15u3h : Nat) (cs_b_w_0_0_L15u3h : List Value) (y44_L15u3h : Int) (b_w_0_0_L15u3h : List Int) (b_w_0_1_L15u3h : Int), lp (P_stream_writer_tile_2_L15u3 t1) k_ (y44_L15u3h, b_w_0_0_L15u3h, b_w_0_1_L15u3h) = some oL15u3 ∧ E 0 = .pointer (some ⟨b_w_0, 0, none⟩) ∧ E 38 = .agg #[.slice A_t1_6 t1.Out.fe0.length c_t1_6, .slice A_t1_7 t1.Out.fe1.length c_t1_7, .slice A_t1_8 t1.Out.fe2.length c_t1_8, .slice A_t1_9 t1.Out.fe3.length c_t1_9] ∧ E 39 = .int .i64 1 ∧ E 42 = .slice A_t1_7 t1.Out.fe1.length c_t1_7 ∧ E 43 = .int .i64 (t1.Out.fe1.length : Int) ∧ E 44 = .int .i64 y44_L15u3h ∧ RepL (RpI .u8) ρ b_w_0_0_L15u3h cs_b_w_0_0_L15u3h ∧ St w0 w (cells b_w_0 175 [.slice A_b_w_0_0_L15u3h n_b_w_0_0_L15u3h c_b_w_0_0_L15u3h, .int .i64 b_w_0_1_L15u3h] :: vec 5 (RpI .u8).sz (.slice A_b_w_0_0_L15u3h n_b_w_0_0_L15u3h c_b_w_0_0_L15u3h) n_b_w_0_0_L15u3h cs_b_w_0_0_L15u3h :: ro ρ :: l)) fuel ⟨A_b_w_0_0_L15u4, b_w_0_0_L15u4.length, c_b_w_0_0_L15u4, cs_b_w_0_0_L15u4, 0, b_w_0_0_L15u4, b_w_0_1_L15u4, hLL15u3, eL15u4_0, eL15u4_38, rfl, rfl, rfl, rfl, h_b_w_0_0_L15u4, (((hS.pull 2).pull 2).pull 2)⟩ ?_
    rintro kL15u3 E w ⟨A_b_w_0_0_L15u3h, n_b_w_0_0_L15u3h, c_b_w_0_0_L15u3h, cs_b_w_0_0_L15u3h, y44_L15u3h, b_w_0_0_L15u3h, b_w_0_1_L15u3h, hLL15u3, eL15u3h_0, eL15u3h_38, eL15u3h_39, eL15u3h_42, eL15u3h_43, eL15u3h_44, h_b_w_0_0_L15u3h, hS⟩
    have e_ := St.vec_n (hS.pull 1) h_b_w_0_0_L15u3h; subst e_
    replace hLL15u3 := lp_s hLL15u3; obtain ⟨kL15u3, obL15u3, rfl, hFL15u3, hLL15u3⟩ := hLL15u3
    refine x_seq <| x_region <| p (yl_lss eL15u3h_44 eL15u3h_43) <| x_done <|
      x_seq <|
      x_cond_p (y44_L15u3h < (t1.Out.fe1.length : Int)) rfl (fun hc45u3 => ?_) (fun hc45u3 => ?_)
    · replace hFL15u3 := it_t hc45u3 hFL15u3
      replace hFL15u3 := ck_s hFL15u3; obtain ⟨hk16_0u3, hFL15u3⟩ := hFL15u3
      replace hFL15u3 := lv_s hFL15u3; obtain ⟨x47u3, hx47u3, hFL15u3⟩ := hFL15u3
      replace hFL15u3 := lv_s hFL15u3; obtain ⟨x50u3, hx50u3, hFL15u3⟩ := hFL15u3
      replace hFL15u3 := bd_s hFL15u3; obtain ⟨r17_3u3, hc17_3u3, hFL15u3⟩ := hFL15u3
      refine x_skip <| x_seq <| x_block <| x_seq <|
        x_region <| p (yix_f sl_22 eL15u3h_42 eL15u3h_44 h_t1_7 hk16_0u3) <| pa (at_load one_3 rfl (RdS.getW h_t1_7 (hS.pull 2) hk16_0u3 hx47u3)) <| p (yl_assign rfl) <|
        x_done <| x_region <| p (yl_move eL15u3h_0) <| p (yl_move rfl) <|
        p (yconvu wm_u64 uk_3 ik_44 rfl hx50u3) <|
        ?_
      have hcall := c_stream_writer_bits_2 hc17_3u3 h_b_w_0_0_L15u3h (((hS.pull 2).pull 2).pull 2)
      refine o_cc call_88 (args3 rfl rfl rfl) hcall ?_
      rintro e w' ⟨A_b_w_0_0_ret_17_3u3, n_b_w_0_0_ret_17_3u3, c_b_w_0_0_ret_17_3u3, cs_b_w_0_0_ret_17_3u3, rfl, h_b_w_0_0_ret_17_3u3, hS⟩
      refine ⟨_, rfl, ?_⟩
      have e_ := St.vec_n (hS.pull 1) h_b_w_0_0_ret_17_3u3; subst e_
      replace hFL15u3 := ar_s hFL15u3; obtain ⟨x52u3, hx52u3, hFL15u3⟩ := hFL15u3
      refine x_done <| x_blk <| x_region <| p (yadd eL15u3h_44 rfl hx52u3) <|
        p (yl_move rfl) <| x_done <|
        ?_
      have e_ := Option.some.inj (show some _ = some _ from hFL15u3); subst e_
      exact x_inv ⟨kL15u3, Nat.lt_succ_self _, A_b_w_0_0_ret_17_3u3, r17_3u3.1.length, c_b_w_0_0_ret_17_3u3, cs_b_w_0_0_ret_17_3u3, x52u3, r17_3u3.1, r17_3u3.2, hLL15u3, eL15u3h_0, eL15u3h_38, eL15u3h_39, eL15u3h_42, eL15u3h_43, rfl, h_b_w_0_0_ret_17_3u3, (((hS.pull 2).pull 2).pull 2)⟩
    · replace hFL15u3 := it_f hc45u3 hFL15u3
      refine x_exitTo _ rfl <|
        ?_
      have e_ := Option.some.inj (show some _ = some _ from hFL15u3); subst e_
      exact x_inv ⟨A_b_w_0_0_L15u3h, b_w_0_0_L15u3h.length, c_b_w_0_0_L15u3h, cs_b_w_0_0_L15u3h, b_w_0_0_L15u3h, b_w_0_1_L15u3h, hLL15u3, eL15u3h_0, eL15u3h_38, eL15u3h_39, h_b_w_0_0_L15u3h, (((hS.pull 2).pull 2).pull 2)⟩
  rintro E w ⟨A_b_w_0_0_L15u3, n_b_w_0_0_L15u3, c_b_w_0_0_L15u3, cs_b_w_0_0_L15u3, b_w_0_0_L15u3, b_w_0_1_L15u3, rfl, eL15u3_0, eL15u3_38, eL15u3_39, h_b_w_0_0_L15u3, hS⟩
  have e_ := St.vec_n (hS.pull 1) h_b_w_0_0_L15u3; subst e_
  refine x_blk <| x_region <| p (yadd (c := 2) eL15u3_39 rfl ⟨rfl, by decide⟩) <| p (yl_move rfl) <|
    x_done <| x_un 2 <| x_seq <| x_region <|
    p (ylss_l (t := true) rfl rfl (by decide)) <| x_done <| x_seq <| x_cond_t (show ev _ _ = .bool true from rfl) <|
    x_skip <| x_seq <| x_block <| x_seq <|
    x_region <| p (yl_ixv (x := .tmp 38) (y := .tmp 39) (v := .slice A_t1_8 t1.Out.fe2.length c_t1_8) arr_181 one_22 eL15u3_38 rfl (by decide) rfl) <| p (yl_assign rfl) <| x_done <|
    x_seq <| x_region <| p (yl_move rfl) <| p (yl_len_slice usl_22 rfl) <|
    p (yl_move rfl) <| x_done <|
    ?_
  replace hF := bd_s hF; obtain ⟨oL15u2, hLL15u2, hF⟩ := hF
  refine x_join (fun E w => ∃ (A_b_w_0_0_L15u2 : Option Addr) (n_b_w_0_0_L15u2 : Nat) (c_b_w_0_0_L15u2 : Nat) (cs_b_w_0_0_L15u2 : List Value) (b_w_0_0_L15u2 : List Int) (b_w_0_1_L15u2 : Int), (b_w_0_0_L15u2, b_w_0_1_L15u2) = oL15u2 ∧ E 0 = .pointer (some ⟨b_w_0, 0, none⟩) ∧ E 38 = .agg #[.slice A_t1_6 t1.Out.fe0.length c_t1_6, .slice A_t1_7 t1.Out.fe1.length c_t1_7, .slice A_t1_8 t1.Out.fe2.length c_t1_8, .slice A_t1_9 t1.Out.fe3.length c_t1_9] ∧ E 39 = .int .i64 2 ∧ RepL (RpI .u8) ρ b_w_0_0_L15u2 cs_b_w_0_0_L15u2 ∧ St w0 w (cells b_w_0 175 [.slice A_b_w_0_0_L15u2 n_b_w_0_0_L15u2 c_b_w_0_0_L15u2, .int .i64 b_w_0_1_L15u2] :: vec 5 (RpI .u8).sz (.slice A_b_w_0_0_L15u2 n_b_w_0_0_L15u2 c_b_w_0_0_L15u2) n_b_w_0_0_L15u2 cs_b_w_0_0_L15u2 :: ro ρ :: l)) ?_ ?_
  · skip -- L15u2
    refine x_block ?_
    refine x_loop (fun k_ E w => ∃ (A_b_w_0_0_L15u2h : Option Addr) (n_b_w_0_0_L15u2h : Nat) (c_b_w_0_0_L15u2h : Nat) (cs_b_w_0_0_L15u2h : List Value) (y44_L15u2h : Int) (b_w_0_0_L15u2h : List Int) (b_w_0_1_L15u2h : Int), lp (P_stream_writer_tile_2_L15u2 t1) k_ (y44_L15u2h, b_w_0_0_L15u2h, b_w_0_1_L15u2h) = some oL15u2 ∧ E 0 = .pointer (some ⟨b_w_0, 0, none⟩) ∧ E 38 = .agg #[.slice A_t1_6 t1.Out.fe0.length c_t1_6, .slice A_t1_7 t1.Out.fe1.length c_t1_7, .slice A_t1_8 t1.Out.fe2.length c_t1_8, .slice A_t1_9 t1.Out.fe3.length c_t1_9] ∧ E 39 = .int .i64 2 ∧ E 42 = .slice A_t1_8 t1.Out.fe2.length c_t1_8 ∧ E 43 = .int .i64 (t1.Out.fe2.length : Int) ∧ E 44 = .int .i64 y44_L15u2h ∧ RepL (RpI .u8) ρ b_w_0_0_L15u2h cs_b_w_0_0_L15u2h ∧ St w0 w (cells b_w_0 175 [.slice A_b_w_0_0_L15u2h n_b_w_0_0_L15u2h c_b_w_0_0_L15u2h, .int .i64 b_w_0_1_L15u2h] :: vec 5 (RpI .u8).sz (.slice A_b_w_0_0_L15u2h n_b_w_0_0_L15u2h c_b_w_0_0_L15u2h) n_b_w_0_0_L15u2h cs_b_w_0_0_L15u2h :: ro ρ :: l)) fuel ⟨A_b_w_0_0_L15u3, b_w_0_0_L15u3.length, c_b_w_0_0_L15u3, cs_b_w_0_0_L15u3, 0, b_w_0_0_L15u3, b_w_0_1_L15u3, hLL15u2, eL15u3_0, eL15u3_38, rfl, rfl, rfl, rfl, h_b_w_0_0_L15u3, (((hS.pull 2).pull 2).pull 2)⟩ ?_
    rintro kL15u2 E w ⟨A_b_w_0_0_L15u2h, n_b_w_0_0_L15u2h, c_b_w_0_0_L15u2h, cs_b_w_0_0_L15u2h, y44_L15u2h, b_w_0_0_L15u2h, b_w_0_1_L15u2h, hLL15u2, eL15u2h_0, eL15u2h_38, eL15u2h_39, eL15u2h_42, eL15u2h_43, eL15u2h_44, h_b_w_0_0_L15u2h, hS⟩
    have e_ := St.vec_n (hS.pull 1) h_b_w_0_0_L15u2h; subst e_
    replace hLL15u2 := lp_s hLL15u2; obtain ⟨kL15u2, obL15u2, rfl, hFL15u2, hLL15u2⟩ := hLL15u2
    refine x_seq <| x_region <| p (yl_lss eL15u2h_44 eL15u2h_43) <| x_done <|
      x_seq <|
      x_cond_p (y44_L15u2h < (t1.Out.fe2.length : Int)) rfl (fun hc45u2 => ?_) (fun hc45u2 => ?_)
    · replace hFL15u2 := it_t hc45u2 hFL15u2
      replace hFL15u2 := ck_s hFL15u2; obtain ⟨hk16_0u2, hFL15u2⟩ := hFL15u2
      replace hFL15u2 := lv_s hFL15u2; obtain ⟨x47u2, hx47u2, hFL15u2⟩ := hFL15u2
      replace hFL15u2 := lv_s hFL15u2; obtain ⟨x50u2, hx50u2, hFL15u2⟩ := hFL15u2
      replace hFL15u2 := bd_s hFL15u2; obtain ⟨r17_3u2, hc17_3u2, hFL15u2⟩ := hFL15u2
      refine x_skip <| x_seq <| x_block <| x_seq <|
        x_region <| p (yix_f sl_22 eL15u2h_42 eL15u2h_44 h_t1_8 hk16_0u2) <| pa (at_load one_3 rfl (RdS.getW h_t1_8 (hS.pull 2) hk16_0u2 hx47u2)) <| p (yl_assign rfl) <|
        x_done <| x_region <| p (yl_move eL15u2h_0) <| p (yl_move rfl) <|
        p (yconvu wm_u64 uk_3 ik_44 rfl hx50u2) <|
        ?_
      have hcall := c_stream_writer_bits_2 hc17_3u2 h_b_w_0_0_L15u2h (((hS.pull 2).pull 2).pull 2)
      refine o_cc call_88 (args3 rfl rfl rfl) hcall ?_
      rintro e w' ⟨A_b_w_0_0_ret_17_3u2, n_b_w_0_0_ret_17_3u2, c_b_w_0_0_ret_17_3u2, cs_b_w_0_0_ret_17_3u2, rfl, h_b_w_0_0_ret_17_3u2, hS⟩
      refine ⟨_, rfl, ?_⟩
      have e_ := St.vec_n (hS.pull 1) h_b_w_0_0_ret_17_3u2; subst e_
      replace hFL15u2 := ar_s hFL15u2; obtain ⟨x52u2, hx52u2, hFL15u2⟩ := hFL15u2
      refine x_done <| x_blk <| x_region <| p (yadd eL15u2h_44 rfl hx52u2) <|
        p (yl_move rfl) <| x_done <|
        ?_
      have e_ := Option.some.inj (show some _ = some _ from hFL15u2); subst e_
      exact x_inv ⟨kL15u2, Nat.lt_succ_self _, A_b_w_0_0_ret_17_3u2, r17_3u2.1.length, c_b_w_0_0_ret_17_3u2, cs_b_w_0_0_ret_17_3u2, x52u2, r17_3u2.1, r17_3u2.2, hLL15u2, eL15u2h_0, eL15u2h_38, eL15u2h_39, eL15u2h_42, eL15u2h_43, rfl, h_b_w_0_0_ret_17_3u2, (((hS.pull 2).pull 2).pull 2)⟩
    · replace hFL15u2 := it_f hc45u2 hFL15u2
      refine x_exitTo _ rfl <|
        ?_
      have e_ := Option.some.inj (show some _ = some _ from hFL15u2); subst e_
      exact x_inv ⟨A_b_w_0_0_L15u2h, b_w_0_0_L15u2h.length, c_b_w_0_0_L15u2h, cs_b_w_0_0_L15u2h, b_w_0_0_L15u2h, b_w_0_1_L15u2h, hLL15u2, eL15u2h_0, eL15u2h_38, eL15u2h_39, h_b_w_0_0_L15u2h, (((hS.pull 2).pull 2).pull 2)⟩
  rintro E w ⟨A_b_w_0_0_L15u2, n_b_w_0_0_L15u2, c_b_w_0_0_L15u2, cs_b_w_0_0_L15u2, b_w_0_0_L15u2, b_w_0_1_L15u2, rfl, eL15u2_0, eL15u2_38, eL15u2_39, h_b_w_0_0_L15u2, hS⟩
  have e_ := St.vec_n (hS.pull 1) h_b_w_0_0_L15u2; subst e_
  refine x_blk <| x_region <| p (yadd (c := 3) eL15u2_39 rfl ⟨rfl, by decide⟩) <| p (yl_move rfl) <|
    x_done <| x_un 1 <| x_seq <| x_region <|
    p (ylss_l (t := true) rfl rfl (by decide)) <| x_done <| x_seq <| x_cond_t (show ev _ _ = .bool true from rfl) <|
    x_skip <| x_seq <| x_block <| x_seq <|
    x_region <| p (yl_ixv (x := .tmp 38) (y := .tmp 39) (v := .slice A_t1_9 t1.Out.fe3.length c_t1_9) arr_181 one_22 eL15u2_38 rfl (by decide) rfl) <| p (yl_assign rfl) <| x_done <|
    x_seq <| x_region <| p (yl_move rfl) <| p (yl_len_slice usl_22 rfl) <|
    p (yl_move rfl) <| x_done <|
    ?_
  replace hF := bd_s hF; obtain ⟨oL15u1, hLL15u1, hF⟩ := hF
  refine x_join (fun E w => ∃ (A_b_w_0_0_L15u1 : Option Addr) (n_b_w_0_0_L15u1 : Nat) (c_b_w_0_0_L15u1 : Nat) (cs_b_w_0_0_L15u1 : List Value) (b_w_0_0_L15u1 : List Int) (b_w_0_1_L15u1 : Int), (b_w_0_0_L15u1, b_w_0_1_L15u1) = oL15u1 ∧ E 0 = .pointer (some ⟨b_w_0, 0, none⟩) ∧ E 38 = .agg #[.slice A_t1_6 t1.Out.fe0.length c_t1_6, .slice A_t1_7 t1.Out.fe1.length c_t1_7, .slice A_t1_8 t1.Out.fe2.length c_t1_8, .slice A_t1_9 t1.Out.fe3.length c_t1_9] ∧ E 39 = .int .i64 3 ∧ RepL (RpI .u8) ρ b_w_0_0_L15u1 cs_b_w_0_0_L15u1 ∧ St w0 w (cells b_w_0 175 [.slice A_b_w_0_0_L15u1 n_b_w_0_0_L15u1 c_b_w_0_0_L15u1, .int .i64 b_w_0_1_L15u1] :: vec 5 (RpI .u8).sz (.slice A_b_w_0_0_L15u1 n_b_w_0_0_L15u1 c_b_w_0_0_L15u1) n_b_w_0_0_L15u1 cs_b_w_0_0_L15u1 :: ro ρ :: l)) ?_ ?_
  · skip -- L15u1
    refine x_block ?_
    refine x_loop (fun k_ E w => ∃ (A_b_w_0_0_L15u1h : Option Addr) (n_b_w_0_0_L15u1h : Nat) (c_b_w_0_0_L15u1h : Nat) (cs_b_w_0_0_L15u1h : List Value) (y44_L15u1h : Int) (b_w_0_0_L15u1h : List Int) (b_w_0_1_L15u1h : Int), lp (P_stream_writer_tile_2_L15u1 t1) k_ (y44_L15u1h, b_w_0_0_L15u1h, b_w_0_1_L15u1h) = some oL15u1 ∧ E 0 = .pointer (some ⟨b_w_0, 0, none⟩) ∧ E 38 = .agg #[.slice A_t1_6 t1.Out.fe0.length c_t1_6, .slice A_t1_7 t1.Out.fe1.length c_t1_7, .slice A_t1_8 t1.Out.fe2.length c_t1_8, .slice A_t1_9 t1.Out.fe3.length c_t1_9] ∧ E 39 = .int .i64 3 ∧ E 42 = .slice A_t1_9 t1.Out.fe3.length c_t1_9 ∧ E 43 = .int .i64 (t1.Out.fe3.length : Int) ∧ E 44 = .int .i64 y44_L15u1h ∧ RepL (RpI .u8) ρ b_w_0_0_L15u1h cs_b_w_0_0_L15u1h ∧ St w0 w (cells b_w_0 175 [.slice A_b_w_0_0_L15u1h n_b_w_0_0_L15u1h c_b_w_0_0_L15u1h, .int .i64 b_w_0_1_L15u1h] :: vec 5 (RpI .u8).sz (.slice A_b_w_0_0_L15u1h n_b_w_0_0_L15u1h c_b_w_0_0_L15u1h) n_b_w_0_0_L15u1h cs_b_w_0_0_L15u1h :: ro ρ :: l)) fuel ⟨A_b_w_0_0_L15u2, b_w_0_0_L15u2.length, c_b_w_0_0_L15u2, cs_b_w_0_0_L15u2, 0, b_w_0_0_L15u2, b_w_0_1_L15u2, hLL15u1, eL15u2_0, eL15u2_38, rfl, rfl, rfl, rfl, h_b_w_0_0_L15u2, (((hS.pull 2).pull 2).pull 2)⟩ ?_
    rintro kL15u1 E w ⟨A_b_w_0_0_L15u1h, n_b_w_0_0_L15u1h, c_b_w_0_0_L15u1h, cs_b_w_0_0_L15u1h, y44_L15u1h, b_w_0_0_L15u1h, b_w_0_1_L15u1h, hLL15u1, eL15u1h_0, eL15u1h_38, eL15u1h_39, eL15u1h_42, eL15u1h_43, eL15u1h_44, h_b_w_0_0_L15u1h, hS⟩
    have e_ := St.vec_n (hS.pull 1) h_b_w_0_0_L15u1h; subst e_
    replace hLL15u1 := lp_s hLL15u1; obtain ⟨kL15u1, obL15u1, rfl, hFL15u1, hLL15u1⟩ := hLL15u1
    refine x_seq <| x_region <| p (yl_lss eL15u1h_44 eL15u1h_43) <| x_done <|
      x_seq <|
      x_cond_p (y44_L15u1h < (t1.Out.fe3.length : Int)) rfl (fun hc45u1 => ?_) (fun hc45u1 => ?_)
    · replace hFL15u1 := it_t hc45u1 hFL15u1
      replace hFL15u1 := ck_s hFL15u1; obtain ⟨hk16_0u1, hFL15u1⟩ := hFL15u1
      replace hFL15u1 := lv_s hFL15u1; obtain ⟨x47u1, hx47u1, hFL15u1⟩ := hFL15u1
      replace hFL15u1 := lv_s hFL15u1; obtain ⟨x50u1, hx50u1, hFL15u1⟩ := hFL15u1
      replace hFL15u1 := bd_s hFL15u1; obtain ⟨r17_3u1, hc17_3u1, hFL15u1⟩ := hFL15u1
      refine x_skip <| x_seq <| x_block <| x_seq <|
        x_region <| p (yix_f sl_22 eL15u1h_42 eL15u1h_44 h_t1_9 hk16_0u1) <| pa (at_load one_3 rfl (RdS.getW h_t1_9 (hS.pull 2) hk16_0u1 hx47u1)) <| p (yl_assign rfl) <|
        x_done <| x_region <| p (yl_move eL15u1h_0) <| p (yl_move rfl) <|
        p (yconvu wm_u64 uk_3 ik_44 rfl hx50u1) <|
        ?_
      have hcall := c_stream_writer_bits_2 hc17_3u1 h_b_w_0_0_L15u1h (((hS.pull 2).pull 2).pull 2)
      refine o_cc call_88 (args3 rfl rfl rfl) hcall ?_
      rintro e w' ⟨A_b_w_0_0_ret_17_3u1, n_b_w_0_0_ret_17_3u1, c_b_w_0_0_ret_17_3u1, cs_b_w_0_0_ret_17_3u1, rfl, h_b_w_0_0_ret_17_3u1, hS⟩
      refine ⟨_, rfl, ?_⟩
      have e_ := St.vec_n (hS.pull 1) h_b_w_0_0_ret_17_3u1; subst e_
      replace hFL15u1 := ar_s hFL15u1; obtain ⟨x52u1, hx52u1, hFL15u1⟩ := hFL15u1
      refine x_done <| x_blk <| x_region <| p (yadd eL15u1h_44 rfl hx52u1) <|
        p (yl_move rfl) <| x_done <|
        ?_
      have e_ := Option.some.inj (show some _ = some _ from hFL15u1); subst e_
      exact x_inv ⟨kL15u1, Nat.lt_succ_self _, A_b_w_0_0_ret_17_3u1, r17_3u1.1.length, c_b_w_0_0_ret_17_3u1, cs_b_w_0_0_ret_17_3u1, x52u1, r17_3u1.1, r17_3u1.2, hLL15u1, eL15u1h_0, eL15u1h_38, eL15u1h_39, eL15u1h_42, eL15u1h_43, rfl, h_b_w_0_0_ret_17_3u1, (((hS.pull 2).pull 2).pull 2)⟩
    · replace hFL15u1 := it_f hc45u1 hFL15u1
      refine x_exitTo _ rfl <|
        ?_
      have e_ := Option.some.inj (show some _ = some _ from hFL15u1); subst e_
      exact x_inv ⟨A_b_w_0_0_L15u1h, b_w_0_0_L15u1h.length, c_b_w_0_0_L15u1h, cs_b_w_0_0_L15u1h, b_w_0_0_L15u1h, b_w_0_1_L15u1h, hLL15u1, eL15u1h_0, eL15u1h_38, eL15u1h_39, h_b_w_0_0_L15u1h, (((hS.pull 2).pull 2).pull 2)⟩
  rintro E w ⟨A_b_w_0_0_L15u1, n_b_w_0_0_L15u1, c_b_w_0_0_L15u1, cs_b_w_0_0_L15u1, b_w_0_0_L15u1, b_w_0_1_L15u1, rfl, eL15u1_0, eL15u1_38, eL15u1_39, h_b_w_0_0_L15u1, hS⟩
  have e_ := St.vec_n (hS.pull 1) h_b_w_0_0_L15u1; subst e_
  refine x_blk <| x_region <| p (yadd (c := 4) eL15u1_39 rfl ⟨rfl, by decide⟩) <| p (yl_move rfl) <|
    x_done <| x_un 0 <| x_seq <| x_region <|
    p (ylss_l (t := false) rfl rfl (by decide)) <| x_done <| x_seq <| x_cond_f (show ev _ _ = .bool false from rfl) <|
    x_exitTo _ rfl <|
    ?_
  have e_ := Option.some.inj (show some _ = some _ from hF); subst e_
  exact x_fin ⟨_, rfl, A_b_w_0_0_L15u1, b_w_0_0_L15u1.length, c_b_w_0_0_L15u1, cs_b_w_0_0_L15u1, rfl, h_b_w_0_0_L15u1, (((hS.pull 2).pull 2).pull 2)⟩
attribute [irreducible] P_stream_writer_tile_2

def P_stream_writer_pads_2_L2 (l_1 : List T_array_Pad) : (Int × List Int × Int) → Option ((Int × List Int × Int) ⊕ (List Int × Int)) := fun (y13_L2h, b_w_0_0_L2h, b_w_0_1_L2h) =>
  if y13_L2h < (l_1.length : Int) then
    ck (inb y13_L2h l_1.length) <|
    lv (gt l_1 y13_L2h) fun y3_1 =>
    lv (y3_1.Row % 18446744073709551616) fun x20 =>
    bd (P_stream_writer_bits_2 (T_stream_writer.mk b_w_0_0_L2h b_w_0_1_L2h) x20 4) fun r4_4 =>
    lv (y3_1.Col % 18446744073709551616) fun x25 =>
    bd (P_stream_writer_bits_2 (T_stream_writer.mk r4_4.1 r4_4.2) x25 4) fun r5_4 =>
    lv (y3_1.Side % 18446744073709551616) fun x30 =>
    bd (P_stream_writer_bits_2 (T_stream_writer.mk r5_4.1 r5_4.2) x30 2) fun r6_4 =>
    lv (y3_1.Track % 18446744073709551616) fun x35 =>
    bd (P_stream_writer_bits_2 (T_stream_writer.mk r6_4.1 r6_4.2) x35 3) fun r7_4 =>
    ar (y13_L2h + 1) fun x37 =>
    some (Sum.inl (x37, r7_4.1, r7_4.2))
  else
    some (Sum.inr (b_w_0_0_L2h, b_w_0_1_L2h))
def P_stream_writer_pads_2 (w_0 : T_stream_writer) (l_1 : List T_array_Pad) : Option (List Int × Int) :=
  lv ((l_1.length : Int) % 18446744073709551616) fun x9 =>
  bd (P_stream_writer_bits_2 w_0 x9 8) fun r0_4 =>
  bd (
    lp (P_stream_writer_pads_2_L2 l_1) fuel (0, r0_4.1, r0_4.2)) fun (b_w_0_0_L2, b_w_0_1_L2) =>
  some (b_w_0_0_L2, b_w_0_1_L2)
set_option maxHeartbeats 4000000 in
set_option maxRecDepth 100000 in
theorem c_stream_writer_pads_2 {w0 w : World} {l : List Assn} {ρ : Heap} {b_w_0 : Nat} {A_w_0_0 : Option Addr} {n_w_0_0 : Nat} {c_w_0_0 : Nat} {cs_w_0_0 : List Value} {A_l_1 : Option Addr} {n_l_1 : Nat} {c_l_1 : Nat} {w_0 : T_stream_writer} {l_1 : List T_array_Pad} {r : (List Int × Int)} (hF : P_stream_writer_pads_2 w_0 l_1 = some r) (h_w_0_0 : RepL (RpI .u8) ρ w_0.fb cs_w_0_0) (h_l_1 : RdS R_array_Pad ρ A_l_1 n_l_1 c_l_1 l_1) (hS : St w0 w (cells b_w_0 175 [.slice A_w_0_0 n_w_0_0 c_w_0_0, .int .i64 w_0.fleft] :: vec 5 (RpI .u8).sz (.slice A_w_0_0 n_w_0_0 c_w_0_0) n_w_0_0 cs_w_0_0 :: ro ρ :: l)) :
    Calls Try.prog 91 #[.pointer (some ⟨b_w_0, 0, none⟩), .slice A_l_1 n_l_1 c_l_1] w fun e w' => ∃ (A_b_w_0_0_ret : Option Addr) (n_b_w_0_0_ret : Nat) (c_b_w_0_0_ret : Nat) (cs_b_w_0_0_ret : List Value), e = .returned (.tuple #[]) ∧ RepL (RpI .u8) ρ r.1 cs_b_w_0_0_ret ∧ St w0 w' (cells b_w_0 175 [.slice A_b_w_0_0_ret n_b_w_0_0_ret c_b_w_0_0_ret, .int .i64 r.2] :: vec 5 (RpI .u8).sz (.slice A_b_w_0_0_ret n_b_w_0_0_ret c_b_w_0_0_ret) n_b_w_0_0_ret cs_b_w_0_0_ret :: ro ρ :: l) := by
  have e_ := St.vec_n (hS.pull 1) h_w_0_0; subst e_
  have e_ := h_l_1.n; subst e_
  refine enterC Try.func91 rfl 38 rfl (by simp) ?_
  replace hF := lv_s hF; obtain ⟨x9, hx9, hF⟩ := hF
  replace hF := bd_s hF; obtain ⟨r0_4, hc0_4, hF⟩ := hF
  refine x_seq <| x_region <| p (yl_move rfl) <| p (yl_move rfl) <|
    p (yl_len_slice usl_79 rfl) <| p (yconvu wm_u64 uk_3 ik_44 rfl hx9) <|
    ?_
  have hcall := c_stream_writer_bits_2 hc0_4 h_w_0_0 (((hS.pull 2).pull 2).pull 2)
  refine o_cc call_88 (args3 rfl rfl rfl) hcall ?_
  rintro e w' ⟨A_b_w_0_0_ret_0_4, n_b_w_0_0_ret_0_4, c_b_w_0_0_ret_0_4, cs_b_w_0_0_ret_0_4, rfl, h_b_w_0_0_ret_0_4, hS⟩
  refine ⟨_, rfl, ?_⟩
  have e_ := St.vec_n (hS.pull 1) h_b_w_0_0_ret_0_4; subst e_
  refine x_done <| x_seq <| x_region <| p (yl_move rfl) <|
    p (yl_len_slice usl_79 rfl) <| p (yl_move rfl) <| x_done <|
    ?_
  replace hF := bd_s hF; obtain ⟨oL2, hLL2, hF⟩ := hF
  refine x_join (fun E w => ∃ (A_b_w_0_0_L2 : Option Addr) (n_b_w_0_0_L2 : Nat) (c_b_w_0_0_L2 : Nat) (cs_b_w_0_0_L2 : List Value) (b_w_0_0_L2 : List Int) (b_w_0_1_L2 : Int), (b_w_0_0_L2, b_w_0_1_L2) = oL2 ∧ RepL (RpI .u8) ρ b_w_0_0_L2 cs_b_w_0_0_L2 ∧ St w0 w (cells b_w_0 175 [.slice A_b_w_0_0_L2 n_b_w_0_0_L2 c_b_w_0_0_L2, .int .i64 b_w_0_1_L2] :: vec 5 (RpI .u8).sz (.slice A_b_w_0_0_L2 n_b_w_0_0_L2 c_b_w_0_0_L2) n_b_w_0_0_L2 cs_b_w_0_0_L2 :: ro ρ :: l)) ?_ ?_
  · skip -- L2
    refine x_block ?_
    refine x_loop (fun k_ E w => ∃ (A_b_w_0_0_L2h : Option Addr) (n_b_w_0_0_L2h : Nat) (c_b_w_0_0_L2h : Nat) (cs_b_w_0_0_L2h : List Value) (y13_L2h : Int) (b_w_0_0_L2h : List Int) (b_w_0_1_L2h : Int), lp (P_stream_writer_pads_2_L2 l_1) k_ (y13_L2h, b_w_0_0_L2h, b_w_0_1_L2h) = some oL2 ∧ E 0 = .pointer (some ⟨b_w_0, 0, none⟩) ∧ E 11 = .slice A_l_1 l_1.length c_l_1 ∧ E 12 = .int .i64 (l_1.length : Int) ∧ E 13 = .int .i64 y13_L2h ∧ RepL (RpI .u8) ρ b_w_0_0_L2h cs_b_w_0_0_L2h ∧ St w0 w (cells b_w_0 175 [.slice A_b_w_0_0_L2h n_b_w_0_0_L2h c_b_w_0_0_L2h, .int .i64 b_w_0_1_L2h] :: vec 5 (RpI .u8).sz (.slice A_b_w_0_0_L2h n_b_w_0_0_L2h c_b_w_0_0_L2h) n_b_w_0_0_L2h cs_b_w_0_0_L2h :: ro ρ :: l)) fuel ⟨A_b_w_0_0_ret_0_4, r0_4.1.length, c_b_w_0_0_ret_0_4, cs_b_w_0_0_ret_0_4, 0, r0_4.1, r0_4.2, hLL2, rfl, rfl, rfl, rfl, h_b_w_0_0_ret_0_4, (((hS.pull 2).pull 2).pull 2)⟩ ?_
    rintro kL2 E w ⟨A_b_w_0_0_L2h, n_b_w_0_0_L2h, c_b_w_0_0_L2h, cs_b_w_0_0_L2h, y13_L2h, b_w_0_0_L2h, b_w_0_1_L2h, hLL2, eL2h_0, eL2h_11, eL2h_12, eL2h_13, h_b_w_0_0_L2h, hS⟩
    have e_ := St.vec_n (hS.pull 1) h_b_w_0_0_L2h; subst e_
    replace hLL2 := lp_s hLL2; obtain ⟨kL2, obL2, rfl, hFL2, hLL2⟩ := hLL2
    refine x_seq <| x_region <| p (yl_lss eL2h_13 eL2h_12) <| x_done <|
      x_seq <|
      x_cond_p (y13_L2h < (l_1.length : Int)) rfl (fun hc14 => ?_) (fun hc14 => ?_)
    · replace hFL2 := it_t hc14 hFL2
      replace hFL2 := ck_s hFL2; obtain ⟨hk3_0, hFL2⟩ := hFL2
      replace hFL2 := lv_s hFL2; obtain ⟨y3_1, hy3_1, hFL2⟩ := hFL2
      have q_ := h_l_1.get hk3_0; obtain ⟨el3_1, ek3_1, ee3_1⟩ := q_
      rw [← hy3_1] at ek3_1
      have e_ := ek3_1; subst e_
      refine x_skip <| x_seq <| x_block <| x_seq <|
        x_region <| p (yix_f sl_79 eL2h_11 eL2h_13 h_l_1 hk3_0) <| pa (v := .agg #[.int .i64 y3_1.Row, .int .i64 y3_1.Col, .int .i64 y3_1.Side, .int .i64 y3_1.Track]) (at_loadAgg agg_187 rfl rfl (Elt.every ee3_1 (hS.pull 2))) <|
        ?_
      refine o_alloc zero_187 hS (fun b5 w' hS => ?_)
      refine o_storeAgg (news := [.int .i64 y3_1.Row, .int .i64 y3_1.Col, .int .i64 y3_1.Side, .int .i64 y3_1.Track]) agg_187 rfl rfl rfl (by simp [over_length]) hS (fun w' hS => ?_)
      replace hFL2 := lv_s hFL2; obtain ⟨x20, hx20, hFL2⟩ := hFL2
      replace hFL2 := bd_s hFL2; obtain ⟨r4_4, hc4_4, hFL2⟩ := hFL2
      refine x_done <| x_seq <| x_region <| p (yl_move eL2h_0) <|
        p (yl_field0 fld_187_0 rfl) <| pa (at_load one_3 rfl (hS.cell rfl)) <| p (yconvu wm_u64 uk_3 ik_44 rfl hx20) <|
        ?_
      have hcall := c_stream_writer_bits_2 hc4_4 h_b_w_0_0_L2h (((hS.pull 3).pull 3).pull 3)
      refine o_cc call_88 (args3 rfl rfl rfl) hcall ?_
      rintro e w' ⟨A_b_w_0_0_ret_4_4, n_b_w_0_0_ret_4_4, c_b_w_0_0_ret_4_4, cs_b_w_0_0_ret_4_4, rfl, h_b_w_0_0_ret_4_4, hS⟩
      refine ⟨_, rfl, ?_⟩
      have e_ := St.vec_n (hS.pull 1) h_b_w_0_0_ret_4_4; subst e_
      replace hFL2 := lv_s hFL2; obtain ⟨x25, hx25, hFL2⟩ := hFL2
      replace hFL2 := bd_s hFL2; obtain ⟨r5_4, hc5_4, hFL2⟩ := hFL2
      refine x_done <| x_seq <| x_region <| p (yl_move eL2h_0) <|
        p (yl_field0 fld_187_1 rfl) <| pa (at_load one_3 rfl ((hS.pull 3).cell rfl)) <| p (yconvu wm_u64 uk_3 ik_44 rfl hx25) <|
        ?_
      have hcall := c_stream_writer_bits_2 hc5_4 h_b_w_0_0_ret_4_4 (((hS.pull 2).pull 2).pull 2)
      refine o_cc call_88 (args3 rfl rfl rfl) hcall ?_
      rintro e w' ⟨A_b_w_0_0_ret_5_4, n_b_w_0_0_ret_5_4, c_b_w_0_0_ret_5_4, cs_b_w_0_0_ret_5_4, rfl, h_b_w_0_0_ret_5_4, hS⟩
      refine ⟨_, rfl, ?_⟩
      have e_ := St.vec_n (hS.pull 1) h_b_w_0_0_ret_5_4; subst e_
      replace hFL2 := lv_s hFL2; obtain ⟨x30, hx30, hFL2⟩ := hFL2
      replace hFL2 := bd_s hFL2; obtain ⟨r6_4, hc6_4, hFL2⟩ := hFL2
      refine x_done <| x_seq <| x_region <| p (yl_move eL2h_0) <|
        p (yl_field0 fld_187_2 rfl) <| pa (at_load one_3 rfl ((hS.pull 3).cell rfl)) <| p (yconvu wm_u64 uk_3 ik_44 rfl hx30) <|
        ?_
      have hcall := c_stream_writer_bits_2 hc6_4 h_b_w_0_0_ret_5_4 (((hS.pull 2).pull 2).pull 2)
      refine o_cc call_88 (args3 rfl rfl rfl) hcall ?_
      rintro e w' ⟨A_b_w_0_0_ret_6_4, n_b_w_0_0_ret_6_4, c_b_w_0_0_ret_6_4, cs_b_w_0_0_ret_6_4, rfl, h_b_w_0_0_ret_6_4, hS⟩
      refine ⟨_, rfl, ?_⟩
      have e_ := St.vec_n (hS.pull 1) h_b_w_0_0_ret_6_4; subst e_
      replace hFL2 := lv_s hFL2; obtain ⟨x35, hx35, hFL2⟩ := hFL2
      replace hFL2 := bd_s hFL2; obtain ⟨r7_4, hc7_4, hFL2⟩ := hFL2
      refine x_done <| x_region <| p (yl_move eL2h_0) <| p (yl_field0 fld_187_3 rfl) <|
        pa (at_load one_3 rfl ((hS.pull 3).cell rfl)) <| p (yconvu wm_u64 uk_3 ik_44 rfl hx35) <|
        ?_
      have hcall := c_stream_writer_bits_2 hc7_4 h_b_w_0_0_ret_6_4 (((hS.pull 2).pull 2).pull 2)
      refine o_cc call_88 (args3 rfl rfl rfl) hcall ?_
      rintro e w' ⟨A_b_w_0_0_ret_7_4, n_b_w_0_0_ret_7_4, c_b_w_0_0_ret_7_4, cs_b_w_0_0_ret_7_4, rfl, h_b_w_0_0_ret_7_4, hS⟩
      refine ⟨_, rfl, ?_⟩
      have e_ := St.vec_n (hS.pull 1) h_b_w_0_0_ret_7_4; subst e_
      replace hFL2 := ar_s hFL2; obtain ⟨x37, hx37, hFL2⟩ := hFL2
      refine x_done <| x_blk <| x_region <| p (yadd eL2h_13 rfl hx37) <|
        p (yl_move rfl) <| x_done <|
        ?_
      have e_ := Option.some.inj (show some _ = some _ from hFL2); subst e_
      exact x_inv ⟨kL2, Nat.lt_succ_self _, A_b_w_0_0_ret_7_4, r7_4.1.length, c_b_w_0_0_ret_7_4, cs_b_w_0_0_ret_7_4, x37, r7_4.1, r7_4.2, hLL2, eL2h_0, eL2h_11, eL2h_12, rfl, h_b_w_0_0_ret_7_4, ((((hS.pull 3).drop.pull 2).pull 2).pull 2)⟩
    · replace hFL2 := it_f hc14 hFL2
      refine x_exitTo _ rfl <|
        ?_
      have e_ := Option.some.inj (show some _ = some _ from hFL2); subst e_
      exact x_inv ⟨A_b_w_0_0_L2h, b_w_0_0_L2h.length, c_b_w_0_0_L2h, cs_b_w_0_0_L2h, b_w_0_0_L2h, b_w_0_1_L2h, hLL2, h_b_w_0_0_L2h, (((hS.pull 2).pull 2).pull 2)⟩
  rintro E w ⟨A_b_w_0_0_L2, n_b_w_0_0_L2, c_b_w_0_0_L2, cs_b_w_0_0_L2, b_w_0_0_L2, b_w_0_1_L2, rfl, h_b_w_0_0_L2, hS⟩
  have e_ := St.vec_n (hS.pull 1) h_b_w_0_0_L2; subst e_
  have e_ := Option.some.inj (show some _ = some _ from hF); subst e_
  exact x_fin ⟨_, rfl, A_b_w_0_0_L2, b_w_0_0_L2.length, c_b_w_0_0_L2, cs_b_w_0_0_L2, rfl, h_b_w_0_0_L2, (((hS.pull 2).pull 2).pull 2)⟩
attribute [irreducible] P_stream_writer_pads_2

def P_stream_Encode_L16 (c0 : T_array_Config) (y41_L12h : Int) : (Int × List Int × Int) → Option ((Int × List Int × Int) ⊕ (List Int × Int)) := fun (y48_L16h, b45_0_L16h, b45_1_L16h) =>
  if y48_L16h < c0.Rows then
    ar (y48_L16h * c0.Cols) fun x57 =>
    ar (x57 + y41_L12h) fun x59 =>
    ck (inb x59 c0.Tiles.length) <|
    lv (gt c0.Tiles x59) fun y18_10 =>
    bd (P_stream_writer_tile_2 (T_stream_writer.mk b45_0_L16h b45_1_L16h) y18_10 c0.Tracks) fun r18_13 =>
    ar (y48_L16h + 1) fun x65 =>
    some (Sum.inl (x65, r18_13.1, r18_13.2))
  else
    some (Sum.inr (b45_0_L16h, b45_1_L16h))
def P_stream_Encode_L12 (c0 : T_array_Config) : (List Int × Int) → Option ((List Int × Int) ⊕ List Int) := fun (out6_L12h, y41_L12h) =>
  if y41_L12h < c0.Cols then
    bd (
      lp (P_stream_Encode_L16 c0 y41_L12h) fuel (0, [], 0)) fun (b45_0_L16, b45_1_L16) =>
    ar ((1 : Int) + y41_L12h) fun x68 =>
    bd (P_stream_closed x68 (T_stream_writer.mk b45_0_L16 b45_1_L16)) fun r20_4 =>
    lv (out6_L12h ++ r20_4) fun z20_5 =>
    ck (apOk 1 z20_5.length) <|
    ar (y41_L12h + 1) fun x72 =>
    some (Sum.inl (z20_5, x72))
  else
    some (Sum.inr out6_L12h)
def P_stream_Encode (c0 : T_array_Config) : Option (List Int × Int) :=
  bd (P_array_Check c0) fun r1_1 =>
  if r1_1 ≠ 0 then
    some ([], r1_1)
  else
    bd (P_stream_writer_bits_2 (T_stream_writer.mk [] 0) 19799 16) fun r5_1 =>
    bd (P_stream_writer_bits_2 (T_stream_writer.mk r5_1.1 r5_1.2) 1 8) fun r6_1 =>
    lv (c0.Rows % 18446744073709551616) fun x25 =>
    bd (P_stream_writer_bits_2 (T_stream_writer.mk r6_1.1 r6_1.2) x25 8) fun r7_4 =>
    lv (c0.Cols % 18446744073709551616) fun x30 =>
    bd (P_stream_writer_bits_2 (T_stream_writer.mk r7_4.1 r7_4.2) x30 8) fun r8_4 =>
    lv (c0.Tracks % 18446744073709551616) fun x35 =>
    bd (P_stream_writer_bits_2 (T_stream_writer.mk r8_4.1 r8_4.2) x35 8) fun r9_4 =>
    bd (P_stream_closed 0 (T_stream_writer.mk r9_4.1 r9_4.2)) fun r10_1 =>
    bd (
      lp (P_stream_Encode_L12 c0) fuel (r10_1, 0)) fun out6_L12 =>
    bd (P_stream_writer_pads_2 (T_stream_writer.mk [] 0) c0.In) fun r23_3 =>
    bd (P_stream_writer_pads_2 (T_stream_writer.mk r23_3.1 r23_3.2) c0.Out) fun r24_3 =>
    ar ((1 : Int) + c0.Cols) fun x86 =>
    bd (P_stream_closed x86 (T_stream_writer.mk r24_3.1 r24_3.2)) fun r25_5 =>
    lv (out6_L12 ++ r25_5) fun z25_6 =>
    ck (apOk 1 z25_6.length) <|
    some (z25_6, (0 : Int))
set_option maxHeartbeats 4000000 in
set_option maxRecDepth 100000 in
theorem c_stream_Encode {w0 w : World} {l : List Assn} {ρ : Heap} {A_c0_3 : Option Addr} {n_c0_3 : Nat} {c_c0_3 : Nat} {A_c0_4 : Option Addr} {n_c0_4 : Nat} {c_c0_4 : Nat} {A_c0_5 : Option Addr} {n_c0_5 : Nat} {c_c0_5 : Nat} {c0 : T_array_Config} {r : (List Int × Int)} (hF : P_stream_Encode c0 = some r) (h_c0_3 : RdS R_array_Tile ρ A_c0_3 n_c0_3 c_c0_3 c0.Tiles) (h_c0_4 : RdS R_array_Pad ρ A_c0_4 n_c0_4 c_c0_4 c0.In) (h_c0_5 : RdS R_array_Pad ρ A_c0_5 n_c0_5 c_c0_5 c0.Out) (hS : St w0 w (ro ρ :: l)) :
    Calls Try.prog 35 #[.agg #[.int .i64 c0.Rows, .int .i64 c0.Cols, .int .i64 c0.Tracks, .slice A_c0_3 n_c0_3 c_c0_3, .slice A_c0_4 n_c0_4 c_c0_4, .slice A_c0_5 n_c0_5 c_c0_5]] w fun e w' => ∃ (A_y0_ret : Option Addr) (n_y0_ret : Nat) (c_y0_ret : Nat) (cs_y0_ret : List Value), e = .returned (.tuple #[.slice A_y0_ret n_y0_ret c_y0_ret, .int .i64 r.2]) ∧ RepL (RpI .u8) ρ r.1 cs_y0_ret ∧ St w0 w' (vec 5 (RpI .u8).sz (.slice A_y0_ret n_y0_ret c_y0_ret) n_y0_ret cs_y0_ret :: ro ρ :: l) := by
  have e_ := h_c0_3.n; subst e_
  have e_ := h_c0_4.n; subst e_
  have e_ := h_c0_5.n; subst e_
  refine enterC Try.func35 rfl 90 rfl (by simp) ?_
  refine x_seq <| x_region <|
    ?_
  refine o_box (cs := [.int .i64 c0.Rows, .int .i64 c0.Cols, .int .i64 c0.Tracks, .slice A_c0_3 c0.Tiles.length c_c0_3, .slice A_c0_4 c0.In.length c_c0_4, .slice A_c0_5 c0.Out.length c_c0_5]) rfl rfl hS (fun b1 w' hS => ?_)
  replace hF := bd_s hF; obtain ⟨r1_1, hc1_1, hF⟩ := hF
  refine p (yl_assign rfl) <| p (yl_assign rfl) <| x_done <| x_seq <|
    x_seq <| x_region <| pa (v := .agg #[.int .i64 c0.Rows, .int .i64 c0.Cols, .int .i64 c0.Tracks, .slice A_c0_3 c0.Tiles.length c_c0_3, .slice A_c0_4 c0.In.length c_c0_4, .slice A_c0_5 c0.Out.length c_c0_5]) (ld_sub agg_81 rfl rfl rfl hS) <|
    ?_
  have hcall := c_array_Check hc1_1 h_c0_3 h_c0_4 h_c0_5 (hS.pull 1)
  refine o_cc call_87 (args1 rfl) ((Calls.mono hcall (fun e w'' h => And.intro h.1 (h.2.pull 1)))) ?_
  rintro e w' ⟨rfl, hS⟩
  refine ⟨_, rfl, ?_⟩
  refine p (v := .int .i64 r1_1) (yl_assign rfl) <| x_done <| x_seq <| x_region <|
    p (v := .int .i64 r1_1) (yl_move rfl) <| p (yl_neq rfl rfl) <| x_done <|
    x_cond_p (r1_1 ≠ 0) rfl (fun hc14 => ?_) (fun hc14 => ?_)
  · replace hF := it_t hc14 hF
    refine x_seq <| x_region <| p (v := .int .i64 r1_1) (yl_move rfl) <| p (yl_assign rfl) <|
      p (v := .int .i64 r1_1) (yl_assign rfl) <| x_done <|
      ?_
    replace hS := St.vec_nil hS 5 (RpI .u8).sz
    have hnil_A_y0_ret : RepL (RpI .u8) ρ [] [] := rfl
    have e_ := Option.some.inj (show some _ = some _ from hF); subst e_
    exact x_return ⟨_, ⟨_, _, rfl, rfl, _, _, rfl, rfl, rfl⟩, none, 0, 0, [], rfl, hnil_A_y0_ret, (((hS.pull 1).drop.pull 1).pull 1)⟩
  · replace hF := it_f hc14 hF
    refine x_skip <| x_seq <| x_region <| p (v := .agg #[.slice none 0 0, .int .i64 0]) (yl_build bld_175 bldf_175 (parts_eq pt0) (by kernel_rfl)) <|
      ?_
    refine o_box (cs := [.slice none 0 0, .int .i64 0]) rfl rfl hS (fun b17 w' hS => ?_)
    replace hF := bd_s hF; obtain ⟨r5_1, hc5_1, hF⟩ := hF
    refine p (yl_assign rfl) <| x_done <| x_seq <| x_region <|
      p (yl_move rfl) <|
      ?_
    replace hS := St.vec_nil hS 5 (RpI .u8).sz
    have hnl5_1 : RepL (RpI .u8) ρ [] [] := rfl
    have hcall := c_stream_writer_bits_2 hc5_1 hnl5_1 (((hS.pull 3).pull 1).pull 2)
    refine o_cc call_88 (args3 rfl rfl rfl) hcall ?_
    rintro e w' ⟨A_b_w_0_0_ret_5_1, n_b_w_0_0_ret_5_1, c_b_w_0_0_ret_5_1, cs_b_w_0_0_ret_5_1, rfl, h_b_w_0_0_ret_5_1, hS⟩
    refine ⟨_, rfl, ?_⟩
    have e_ := St.vec_n (hS.pull 1) h_b_w_0_0_ret_5_1; subst e_
    replace hF := bd_s hF; obtain ⟨r6_1, hc6_1, hF⟩ := hF
    refine x_done <| x_seq <| x_region <| p (yl_move rfl) <|
      ?_
    have hcall := c_stream_writer_bits_2 hc6_1 h_b_w_0_0_ret_5_1 (((hS.pull 2).pull 2).pull 2)
    refine o_cc call_88 (args3 rfl rfl rfl) hcall ?_
    rintro e w' ⟨A_b_w_0_0_ret_6_1, n_b_w_0_0_ret_6_1, c_b_w_0_0_ret_6_1, cs_b_w_0_0_ret_6_1, rfl, h_b_w_0_0_ret_6_1, hS⟩
    refine ⟨_, rfl, ?_⟩
    have e_ := St.vec_n (hS.pull 1) h_b_w_0_0_ret_6_1; subst e_
    replace hF := lv_s hF; obtain ⟨x25, hx25, hF⟩ := hF
    replace hF := bd_s hF; obtain ⟨r7_4, hc7_4, hF⟩ := hF
    refine x_done <| x_seq <| x_region <| p (yl_move rfl) <|
      p (yl_field0 fld_81_0 rfl) <| pa (at_load one_3 rfl ((hS.pull 3).cell rfl)) <| p (yconvu wm_u64 uk_3 ik_44 rfl hx25) <|
      ?_
    have hcall := c_stream_writer_bits_2 hc7_4 h_b_w_0_0_ret_6_1 (((hS.pull 2).pull 2).pull 2)
    refine o_cc call_88 (args3 rfl rfl rfl) hcall ?_
    rintro e w' ⟨A_b_w_0_0_ret_7_4, n_b_w_0_0_ret_7_4, c_b_w_0_0_ret_7_4, cs_b_w_0_0_ret_7_4, rfl, h_b_w_0_0_ret_7_4, hS⟩
    refine ⟨_, rfl, ?_⟩
    have e_ := St.vec_n (hS.pull 1) h_b_w_0_0_ret_7_4; subst e_
    replace hF := lv_s hF; obtain ⟨x30, hx30, hF⟩ := hF
    replace hF := bd_s hF; obtain ⟨r8_4, hc8_4, hF⟩ := hF
    refine x_done <| x_seq <| x_region <| p (yl_move rfl) <|
      p (yl_field0 fld_81_1 rfl) <| pa (at_load one_3 rfl ((hS.pull 3).cell rfl)) <| p (yconvu wm_u64 uk_3 ik_44 rfl hx30) <|
      ?_
    have hcall := c_stream_writer_bits_2 hc8_4 h_b_w_0_0_ret_7_4 (((hS.pull 2).pull 2).pull 2)
    refine o_cc call_88 (args3 rfl rfl rfl) hcall ?_
    rintro e w' ⟨A_b_w_0_0_ret_8_4, n_b_w_0_0_ret_8_4, c_b_w_0_0_ret_8_4, cs_b_w_0_0_ret_8_4, rfl, h_b_w_0_0_ret_8_4, hS⟩
    refine ⟨_, rfl, ?_⟩
    have e_ := St.vec_n (hS.pull 1) h_b_w_0_0_ret_8_4; subst e_
    replace hF := lv_s hF; obtain ⟨x35, hx35, hF⟩ := hF
    replace hF := bd_s hF; obtain ⟨r9_4, hc9_4, hF⟩ := hF
    refine x_done <| x_seq <| x_region <| p (yl_move rfl) <|
      p (yl_field0 fld_81_2 rfl) <| pa (at_load one_3 rfl ((hS.pull 3).cell rfl)) <| p (yconvu wm_u64 uk_3 ik_44 rfl hx35) <|
      ?_
    have hcall := c_stream_writer_bits_2 hc9_4 h_b_w_0_0_ret_8_4 (((hS.pull 2).pull 2).pull 2)
    refine o_cc call_88 (args3 rfl rfl rfl) hcall ?_
    rintro e w' ⟨A_b_w_0_0_ret_9_4, n_b_w_0_0_ret_9_4, c_b_w_0_0_ret_9_4, cs_b_w_0_0_ret_9_4, rfl, h_b_w_0_0_ret_9_4, hS⟩
    refine ⟨_, rfl, ?_⟩
    have e_ := St.vec_n (hS.pull 1) h_b_w_0_0_ret_9_4; subst e_
    replace hF := bd_s hF; obtain ⟨r10_1, hc10_1, hF⟩ := hF
    refine x_done <| x_seq <| x_region <| p (yl_move rfl) <|
      ?_
    have hcall := c_stream_closed hc10_1 h_b_w_0_0_ret_9_4 (((hS.pull 2).pull 2).pull 2)
    refine o_cc call_89 (args2 rfl rfl) hcall ?_
    rintro e w' ⟨A_y0_ret_10_1, n_y0_ret_10_1, c_y0_ret_10_1, cs_y0_ret_10_1, dvb_w_1_0_ret_10_1, rfl, h_y0_ret_10_1, hS⟩
    refine ⟨_, rfl, ?_⟩
    have e_ := St.vec_n hS h_y0_ret_10_1; subst e_
    refine p (yl_assign rfl) <| x_done <| x_seq <| x_seq <|
      x_region <| p (yl_field0 fld_81_1 rfl) <| pa (at_load one_3 rfl ((hS.pull 3).cell rfl)) <| p (yl_move rfl) <|
      x_done <|
      ?_
    replace hF := bd_s hF; obtain ⟨oL12, hLL12, hF⟩ := hF
    refine x_join (fun E w => ∃ (A_out6_L12 : Option Addr) (n_out6_L12 : Nat) (c_out6_L12 : Nat) (cs_out6_L12 : List Value) (out6_L12 : List Int), out6_L12 = oL12 ∧ E 1 = .pointer (some ⟨b1, 0, none⟩) ∧ E 6 = .slice A_out6_L12 n_out6_L12 c_out6_L12 ∧ RepL (RpI .u8) ρ out6_L12 cs_out6_L12 ∧ St w0 w (cells b1 81 [.int .i64 c0.Rows, .int .i64 c0.Cols, .int .i64 c0.Tracks, .slice A_c0_3 c0.Tiles.length c_c0_3, .slice A_c0_4 c0.In.length c_c0_4, .slice A_c0_5 c0.Out.length c_c0_5] :: vec 5 (RpI .u8).sz (.slice A_out6_L12 n_out6_L12 c_out6_L12) n_out6_L12 cs_out6_L12 :: ro ρ :: l)) ?_ ?_
    · skip -- L12
      refine x_block ?_
      refine x_loop (fun k_ E w => ∃ (A_out6_L12h : Option Addr) (n_out6_L12h : Nat) (c_out6_L12h : Nat) (cs_out6_L12h : List Value) (out6_L12h : List Int) (y41_L12h : Int), lp (P_stream_Encode_L12 c0) k_ (out6_L12h, y41_L12h) = some oL12 ∧ E 1 = .pointer (some ⟨b1, 0, none⟩) ∧ E 6 = .slice A_out6_L12h n_out6_L12h c_out6_L12h ∧ E 40 = .int .i64 c0.Cols ∧ E 41 = .int .i64 y41_L12h ∧ RepL (RpI .u8) ρ out6_L12h cs_out6_L12h ∧ St w0 w (cells b1 81 [.int .i64 c0.Rows, .int .i64 c0.Cols, .int .i64 c0.Tracks, .slice A_c0_3 c0.Tiles.length c_c0_3, .slice A_c0_4 c0.In.length c_c0_4, .slice A_c0_5 c0.Out.length c_c0_5] :: vec 5 (RpI .u8).sz (.slice A_out6_L12h n_out6_L12h c_out6_L12h) n_out6_L12h cs_out6_L12h :: ro ρ :: l)) fuel ⟨A_y0_ret_10_1, r10_1.length, c_y0_ret_10_1, cs_y0_ret_10_1, r10_1, 0, hLL12, rfl, rfl, rfl, rfl, h_y0_ret_10_1, ((((hS.pull 1).drop.pull 1).pull 1).pull 2)⟩ ?_
      rintro kL12 E w ⟨A_out6_L12h, n_out6_L12h, c_out6_L12h, cs_out6_L12h, out6_L12h, y41_L12h, hLL12, eL12h_1, eL12h_6, eL12h_40, eL12h_41, h_out6_L12h, hS⟩
      have e_ := St.vec_n (hS.pull 1) h_out6_L12h; subst e_
      replace hLL12 := lp_s hLL12; obtain ⟨kL12, obL12, rfl, hFL12, hLL12⟩ := hLL12
      refine x_seq <| x_region <| p (yl_lss eL12h_41 eL12h_40) <| x_done <|
        x_seq <|
        x_cond_p (y41_L12h < c0.Cols) rfl (fun hc42 => ?_) (fun hc42 => ?_)
      · replace hFL12 := it_t hc42 hFL12
        refine x_skip <| x_seq <| x_block <| x_seq <|
          x_region <| p (yl_move eL12h_41) <| p (yl_assign rfl) <| x_done <|
          x_seq <| x_region <| p (v := .agg #[.slice none 0 0, .int .i64 0]) (yl_build bld_175 bldf_175 (parts_eq pt0) (by kernel_rfl)) <|
          ?_
        refine o_box (cs := [.slice none 0 0, .int .i64 0]) rfl rfl hS (fun b45 w' hS => ?_)
        refine p (yl_assign rfl) <| x_done <| x_seq <| x_seq <|
          x_region <| p (yl_field0 fld_81_0 eL12h_1) <| pa (at_load one_3 rfl ((hS.pull 1).cell rfl)) <| p (yl_move rfl) <|
          x_done <|
          ?_
        replace hFL12 := bd_s hFL12; obtain ⟨oL16, hLL16, hFL12⟩ := hFL12
        refine x_join (fun E w => ∃ (A_b45_0_L16 : Option Addr) (n_b45_0_L16 : Nat) (c_b45_0_L16 : Nat) (cs_b45_0_L16 : List Value) (b45_0_L16 : List Int) (b45_1_L16 : Int), (b45_0_L16, b45_1_L16) = oL16 ∧ E 1 = .pointer (some ⟨b1, 0, none⟩) ∧ E 6 = .slice A_out6_L12h out6_L12h.length c_out6_L12h ∧ E 7 = .int .i64 y41_L12h ∧ E 8 = .pointer (some ⟨b45, 0, none⟩) ∧ E 40 = .int .i64 c0.Cols ∧ E 41 = .int .i64 y41_L12h ∧ RepL (RpI .u8) ρ b45_0_L16 cs_b45_0_L16 ∧ St w0 w (cells b1 81 [.int .i64 c0.Rows, .int .i64 c0.Cols, .int .i64 c0.Tracks, .slice A_c0_3 c0.Tiles.length c_c0_3, .slice A_c0_4 c0.In.length c_c0_4, .slice A_c0_5 c0.Out.length c_c0_5] :: vec 5 (RpI .u8).sz (.slice A_out6_L12h out6_L12h.length c_out6_L12h) out6_L12h.length cs_out6_L12h :: cells b45 175 [.slice A_b45_0_L16 n_b45_0_L16 c_b45_0_L16, .int .i64 b45_1_L16] :: vec 5 (RpI .u8).sz (.slice A_b45_0_L16 n_b45_0_L16 c_b45_0_L16) n_b45_0_L16 cs_b45_0_L16 :: ro ρ :: l)) ?_ ?_
        · skip -- L16
          refine x_block ?_
          replace hS := St.vec_nil hS 5 (RpI .u8).sz
          have hnil_A_b45_0_L16h : RepL (RpI .u8) ρ [] [] := rfl
          refine x_loop (fun k_ E w => ∃ (A_b45_0_L16h : Option Addr) (n_b45_0_L16h : Nat) (c_b45_0_L16h : Nat) (cs_b45_0_L16h : List Value) (y48_L16h : Int) (b45_0_L16h : List Int) (b45_1_L16h : Int), lp (P_stream_Encode_L16 c0 y41_L12h) k_ (y48_L16h, b45_0_L16h, b45_1_L16h) = some oL16 ∧ E 1 = .pointer (some ⟨b1, 0, none⟩) ∧ E 6 = .slice A_out6_L12h out6_L12h.length c_out6_L12h ∧ E 7 = .int .i64 y41_L12h ∧ E 8 = .pointer (some ⟨b45, 0, none⟩) ∧ E 40 = .int .i64 c0.Cols ∧ E 41 = .int .i64 y41_L12h ∧ E 47 = .int .i64 c0.Rows ∧ E 48 = .int .i64 y48_L16h ∧ RepL (RpI .u8) ρ b45_0_L16h cs_b45_0_L16h ∧ St w0 w (cells b1 81 [.int .i64 c0.Rows, .int .i64 c0.Cols, .int .i64 c0.Tracks, .slice A_c0_3 c0.Tiles.length c_c0_3, .slice A_c0_4 c0.In.length c_c0_4, .slice A_c0_5 c0.Out.length c_c0_5] :: vec 5 (RpI .u8).sz (.slice A_out6_L12h out6_L12h.length c_out6_L12h) out6_L12h.length cs_out6_L12h :: cells b45 175 [.slice A_b45_0_L16h n_b45_0_L16h c_b45_0_L16h, .int .i64 b45_1_L16h] :: vec 5 (RpI .u8).sz (.slice A_b45_0_L16h n_b45_0_L16h c_b45_0_L16h) n_b45_0_L16h cs_b45_0_L16h :: ro ρ :: l)) fuel ⟨none, 0, 0, [], 0, [], 0, hLL16, eL12h_1, eL12h_6, rfl, rfl, eL12h_40, eL12h_41, rfl, rfl, hnil_A_b45_0_L16h, (((((hS.pull 4).pull 1).pull 2).pull 4).pull 4)⟩ ?_
          rintro kL16 E w ⟨A_b45_0_L16h, n_b45_0_L16h, c_b45_0_L16h, cs_b45_0_L16h, y48_L16h, b45_0_L16h, b45_1_L16h, hLL16, eL16h_1, eL16h_6, eL16h_7, eL16h_8, eL16h_40, eL16h_41, eL16h_47, eL16h_48, h_b45_0_L16h, hS⟩
          have e_ := St.vec_n (hS.pull 3) h_b45_0_L16h; subst e_
          replace hLL16 := lp_s hLL16; obtain ⟨kL16, obL16, rfl, hFL16, hLL16⟩ := hLL16
          refine x_seq <| x_region <| p (yl_lss eL16h_48 eL16h_47) <| x_done <|
            x_seq <|
            x_cond_p (y48_L16h < c0.Rows) rfl (fun hc49 => ?_) (fun hc49 => ?_)
          · replace hFL16 := it_t hc49 hFL16
            replace hFL16 := ar_s hFL16; obtain ⟨x57, hx57, hFL16⟩ := hFL16
            replace hFL16 := ar_s hFL16; obtain ⟨x59, hx59, hFL16⟩ := hFL16
            replace hFL16 := ck_s hFL16; obtain ⟨hk18_9, hFL16⟩ := hFL16
            replace hFL16 := lv_s hFL16; obtain ⟨y18_10, hy18_10, hFL16⟩ := hFL16
            have q_ := h_c0_3.get hk18_9; obtain ⟨el18_10, ek18_10, ee18_10⟩ := q_
            rw [← hy18_10] at ek18_10
            obtain ⟨A18_10_6, n18_10_6, c18_10_6, A18_10_7, n18_10_7, c18_10_7, A18_10_8, n18_10_8, c18_10_8, A18_10_9, n18_10_9, c18_10_9, rfl, f18_10_6, f18_10_7, f18_10_8, f18_10_9⟩ := ek18_10
            have e_ := f18_10_6.n; subst e_
            have e_ := f18_10_7.n; subst e_
            have e_ := f18_10_8.n; subst e_
            have e_ := f18_10_9.n; subst e_
            refine x_skip <| x_seq <| x_block <| x_seq <|
              x_region <| p (yl_move eL16h_48) <| p (yl_assign rfl) <| x_done <|
              x_head 13 mixed (by kernel_rfl) hS _ _ rfl rfl <| q (yl_move eL16h_8) <| q (yl_field0 fld_81_3 eL16h_1) <| qa (fun w' hS => at_load one_78 rfl (hS.cell rfl)) <|
              q (yl_move rfl) <| q (yl_field0 fld_81_1 eL16h_1) <| qa (fun w' hS => at_load one_3 rfl (hS.cell rfl)) <| q (ymul rfl rfl hx57) <|
              q (yl_move eL16h_7) <| q (yadd rfl rfl hx59) <| q (yix_f sl_78 rfl rfl h_c0_3 hk18_9) <| qa (v := .agg #[.int .u16 y18_10.Table, .bool y18_10.Init, .int .i64 y18_10.In.fe0, .int .i64 y18_10.In.fe1, .int .i64 y18_10.In.fe2, .int .i64 y18_10.In.fe3, .slice A18_10_6 y18_10.Out.fe0.length c18_10_6, .slice A18_10_7 y18_10.Out.fe1.length c18_10_7, .slice A18_10_8 y18_10.Out.fe2.length c18_10_8, .slice A18_10_9 y18_10.Out.fe3.length c18_10_9]) (fun w' hS => at_loadAgg agg_183 rfl rfl (Elt.every ee18_10 (hS.pull 4))) <|
              q (yl_field0 fld_81_2 eL16h_1) <| qa (fun w' hS => at_load one_3 rfl (hS.cell rfl)) <|
              q_done fun w' hS => ?_
            replace hFL16 := bd_s hFL16; obtain ⟨r18_13, hc18_13, hFL16⟩ := hFL16
            have hcall := c_stream_writer_tile_2 hc18_13 h_b45_0_L16h f18_10_6 f18_10_7 f18_10_8 f18_10_9 (((hS.pull 4).pull 4).pull 4)
            refine o_cc call_90 (args3 rfl rfl rfl) hcall ?_
            rintro e w' ⟨A_b_w_0_0_ret_18_13, n_b_w_0_0_ret_18_13, c_b_w_0_0_ret_18_13, cs_b_w_0_0_ret_18_13, rfl, h_b_w_0_0_ret_18_13, hS⟩
            refine ⟨_, rfl, ?_⟩
            have e_ := St.vec_n (hS.pull 1) h_b_w_0_0_ret_18_13; subst e_
            replace hFL16 := ar_s hFL16; obtain ⟨x65, hx65, hFL16⟩ := hFL16
            refine x_done <| x_blk <| x_region <| p (yadd eL16h_48 rfl hx65) <|
              p (yl_move rfl) <| x_done <|
              ?_
            have e_ := Option.some.inj (show some _ = some _ from hFL16); subst e_
            exact x_inv ⟨kL16, Nat.lt_succ_self _, A_b_w_0_0_ret_18_13, r18_13.1.length, c_b_w_0_0_ret_18_13, cs_b_w_0_0_ret_18_13, x65, r18_13.1, r18_13.2, hLL16, eL16h_1, eL16h_6, eL16h_7, eL16h_8, eL16h_40, eL16h_41, eL16h_47, rfl, h_b_w_0_0_ret_18_13, (((((hS.pull 2).pull 2).pull 2).pull 4).pull 4)⟩
          · replace hFL16 := it_f hc49 hFL16
            refine x_exitTo _ rfl <|
              ?_
            have e_ := Option.some.inj (show some _ = some _ from hFL16); subst e_
            exact x_inv ⟨A_b45_0_L16h, b45_0_L16h.length, c_b45_0_L16h, cs_b45_0_L16h, b45_0_L16h, b45_1_L16h, hLL16, eL16h_1, eL16h_6, eL16h_7, eL16h_8, eL16h_40, eL16h_41, h_b45_0_L16h, (((((hS.pull 4).pull 4).pull 4).pull 4).pull 4)⟩
        rintro E w ⟨A_b45_0_L16, n_b45_0_L16, c_b45_0_L16, cs_b45_0_L16, b45_0_L16, b45_1_L16, rfl, eL16_1, eL16_6, eL16_7, eL16_8, eL16_40, eL16_41, h_b45_0_L16, hS⟩
        have e_ := St.vec_n (hS.pull 3) h_b45_0_L16; subst e_
        replace hFL12 := ar_s hFL12; obtain ⟨x68, hx68, hFL12⟩ := hFL12
        replace hFL12 := bd_s hFL12; obtain ⟨r20_4, hc20_4, hFL12⟩ := hFL12
        refine x_region <| p (yl_move eL16_6) <| p (yl_move eL16_7) <| p (yadd rfl rfl hx68) <|
          p (yl_move eL16_8) <|
          ?_
        have hcall := c_stream_closed hc20_4 h_b45_0_L16 (((hS.pull 4).pull 4).pull 4)
        refine o_cc call_89 (args2 rfl rfl) hcall ?_
        rintro e w' ⟨A_y0_ret_20_4, n_y0_ret_20_4, c_y0_ret_20_4, cs_y0_ret_20_4, dvb_w_1_0_ret_20_4, rfl, h_y0_ret_20_4, hS⟩
        refine ⟨_, rfl, ?_⟩
        have e_ := St.vec_n hS h_y0_ret_20_4; subst e_
        replace hFL12 := lv_s hFL12; obtain ⟨z20_5, hz20_5, hFL12⟩ := hFL12
        replace hFL12 := ck_s hFL12; obtain ⟨hk20_5, hFL12⟩ := hFL12
        refine o_ap sl_75 zero_5 rfl (by decide) rfl rfl (hS.pull 4) h_out6_L12h (src_o usl_75 hS h_y0_ret_20_4) h_y0_ret_20_4 hz20_5 hk20_5 (fun A71 c71 cs71 w' hr71 hS => ?_)
        replace hFL12 := ar_s hFL12; obtain ⟨x72, hx72, hFL12⟩ := hFL12
        refine p (yl_assign rfl) <| x_done <| x_blk <| x_region <|
          p (yadd eL16_41 rfl hx72) <| p (yl_move rfl) <| x_done <|
          ?_
        have e_ := Option.some.inj (show some _ = some _ from hFL12); subst e_
        exact x_inv ⟨kL12, Nat.lt_succ_self _, A71, z20_5.length, c71, cs71, z20_5, x72, hLL12, eL16_1, rfl, eL16_40, rfl, hr71, (((((hS.pull 1).drop.pull 1).drop.pull 1).pull 1).pull 2)⟩
      · replace hFL12 := it_f hc42 hFL12
        refine x_exitTo _ rfl <|
          ?_
        have e_ := Option.some.inj (show some _ = some _ from hFL12); subst e_
        exact x_inv ⟨A_out6_L12h, out6_L12h.length, c_out6_L12h, cs_out6_L12h, out6_L12h, hLL12, eL12h_1, eL12h_6, h_out6_L12h, (((hS.pull 2).pull 2).pull 2)⟩
    rintro E w ⟨A_out6_L12, n_out6_L12, c_out6_L12, cs_out6_L12, out6_L12, rfl, eL12_1, eL12_6, h_out6_L12, hS⟩
    have e_ := St.vec_n (hS.pull 1) h_out6_L12; subst e_
    refine x_seq <| x_region <| p (v := .agg #[.slice none 0 0, .int .i64 0]) (yl_build bld_175 bldf_175 (parts_eq pt0) (by kernel_rfl)) <|
      ?_
    refine o_box (cs := [.slice none 0 0, .int .i64 0]) rfl rfl hS (fun b74 w' hS => ?_)
    replace hF := bd_s hF; obtain ⟨r23_3, hc23_3, hF⟩ := hF
    refine p (yl_assign rfl) <| x_done <| x_seq <| x_region <|
      p (yl_move rfl) <| p (yl_field0 fld_81_4 eL12_1) <| pa (at_load one_79 rfl ((hS.pull 1).cell rfl)) <|
      ?_
    replace hS := St.vec_nil hS 5 (RpI .u8).sz
    have hnl23_3 : RepL (RpI .u8) ρ [] [] := rfl
    have hcall := c_stream_writer_pads_2 hc23_3 hnl23_3 h_c0_4 (((hS.pull 4).pull 1).pull 2)
    refine o_cc call_91 (args2 rfl rfl) hcall ?_
    rintro e w' ⟨A_b_w_0_0_ret_23_3, n_b_w_0_0_ret_23_3, c_b_w_0_0_ret_23_3, cs_b_w_0_0_ret_23_3, rfl, h_b_w_0_0_ret_23_3, hS⟩
    refine ⟨_, rfl, ?_⟩
    have e_ := St.vec_n (hS.pull 1) h_b_w_0_0_ret_23_3; subst e_
    replace hF := bd_s hF; obtain ⟨r24_3, hc24_3, hF⟩ := hF
    refine x_done <| x_seq <| x_region <| p (yl_move rfl) <|
      p (yl_field0 fld_81_5 eL12_1) <| pa (at_load one_79 rfl ((hS.pull 3).cell rfl)) <|
      ?_
    have hcall := c_stream_writer_pads_2 hc24_3 h_b_w_0_0_ret_23_3 h_c0_5 (((hS.pull 2).pull 2).pull 2)
    refine o_cc call_91 (args2 rfl rfl) hcall ?_
    rintro e w' ⟨A_b_w_0_0_ret_24_3, n_b_w_0_0_ret_24_3, c_b_w_0_0_ret_24_3, cs_b_w_0_0_ret_24_3, rfl, h_b_w_0_0_ret_24_3, hS⟩
    refine ⟨_, rfl, ?_⟩
    have e_ := St.vec_n (hS.pull 1) h_b_w_0_0_ret_24_3; subst e_
    replace hF := ar_s hF; obtain ⟨x86, hx86, hF⟩ := hF
    replace hF := bd_s hF; obtain ⟨r25_5, hc25_5, hF⟩ := hF
    refine x_done <| x_seq <| x_region <| p (yl_move eL12_6) <|
      p (yl_field0 fld_81_1 eL12_1) <| pa (at_load one_3 rfl ((hS.pull 3).cell rfl)) <| p (yadd rfl rfl hx86) <| p (yl_move rfl) <|
      ?_
    have hcall := c_stream_closed hc25_5 h_b_w_0_0_ret_24_3 (((hS.pull 2).pull 2).pull 2)
    refine o_cc call_89 (args2 rfl rfl) hcall ?_
    rintro e w' ⟨A_y0_ret_25_5, n_y0_ret_25_5, c_y0_ret_25_5, cs_y0_ret_25_5, dvb_w_1_0_ret_25_5, rfl, h_y0_ret_25_5, hS⟩
    refine ⟨_, rfl, ?_⟩
    have e_ := St.vec_n hS h_y0_ret_25_5; subst e_
    replace hF := lv_s hF; obtain ⟨z25_6, hz25_6, hF⟩ := hF
    replace hF := ck_s hF; obtain ⟨hk25_6, hF⟩ := hF
    refine o_ap sl_75 zero_5 rfl (by decide) rfl rfl (hS.pull 4) h_out6_L12 (src_o usl_75 hS h_y0_ret_25_5) h_y0_ret_25_5 hz25_6 hk25_6 (fun A89 c89 cs89 w' hr89 hS => ?_)
    refine p (yl_assign rfl) <| p (yl_assign rfl) <| x_done <|
      ?_
    have e_ := Option.some.inj (show some _ = some _ from hF); subst e_
    exact x_return ⟨_, ⟨_, _, rfl, rfl, _, _, rfl, rfl, rfl⟩, A89, z25_6.length, c89, cs89, rfl, hr89, (((((hS.pull 1).drop.pull 1).drop.pull 2).drop.pull 1).pull 1)⟩
attribute [irreducible] P_stream_Encode

def P_maskkeep4_streams : Option Bool :=
  lv (([49, 50, 51, 52, 53, 54, 55, 56, 57] : List Int)) fun z1_1 =>
  bd (P_stream_Sum z1_1) fun r1_2 =>
  some (decide (r1_2 = 10673))
set_option maxHeartbeats 4000000 in
set_option maxRecDepth 100000 in
theorem c_maskkeep4_streams {w0 w : World} {l : List Assn} {ρ : Heap} {r : Bool} (hF : P_maskkeep4_streams = some r) (hS : St w0 w (ro ρ :: l)) :
    Calls Try.prog 37 #[] w fun e w' => e = .returned (.bool r) ∧ St w0 w' (ro ρ :: l) := by
  refine enterC Try.func37 rfl 5 rfl (by simp) ?_
  refine x_seq <| x_region <| p (yl_assign rfl) <| x_done <|
    x_seq <| x_region <|
    ?_
  refine o_buildSlice (vs := [.int .u8 49, .int .u8 50, .int .u8 51, .int .u8 52, .int .u8 53, .int .u8 54, .int .u8 55, .int .u8 56, .int .u8 57]) (cs := [.int .u8 49, .int .u8 50, .int .u8 51, .int .u8 52, .int .u8 53, .int .u8 54, .int .u8 55, .int .u8 56, .int .u8 57]) sl_75 zero_5 (parts_eq (pt (va := .int .u8 49) rfl (pt (va := .int .u8 50) rfl (pt (va := .int .u8 51) rfl (pt (va := .int .u8 52) rfl (pt (va := .int .u8 53) rfl (pt (va := .int .u8 54) rfl (pt (va := .int .u8 55) rfl (pt (va := .int .u8 56) rfl (pt (va := .int .u8 57) rfl pt0)))))))))) rfl (by intro v hv; simp only [List.mem_cons, List.not_mem_nil, or_false] at hv; first | (subst hv; rfl) | (rcases hv with rfl | rfl | rfl | rfl | rfl | rfl | rfl | rfl | rfl <;> rfl)) (by decide) rfl hS (fun b1 w' hS => ?_)
  replace hF := lv_s hF; obtain ⟨z1_1, hz1_1, hF⟩ := hF
  refine o_cbyt (zs := z1_1) usl_75 ui_5 rfl (by rw [hz1_1]; rfl) (by rw [hz1_1]; rfl) (by decide) ((hS.pull 1).pull 1) (fun ρ1_1 w' hle1_1 f2 hS => ?_)
  replace hF := bd_s hF; obtain ⟨r1_2, hc1_2, hF⟩ := hF
  have hcall := c_stream_Sum hc1_2 f2 hS
  refine o_cc call_93 (args1 rfl) (hcall) ?_
  rintro e w' ⟨rfl, hS⟩
  refine ⟨_, rfl, ?_⟩
  refine p (yl_eql rfl rfl) <| p (yl_assign rfl) <| x_done <|
    ?_
  have e_ := Option.some.inj (show some _ = some _ from hF); subst e_
  exact x_return ⟨_, ⟨_, _, rfl, rfl, rfl⟩, rfl, (ro_back0 hle1_1 hS)⟩
attribute [irreducible] P_maskkeep4_streams

def P_slices_Clone_byte_byte (s0 : List Int) : Option (List Int) :=
  lv (([] : List Int) ++ s0) fun z3_2 =>
  ck (apOk 1 z3_2.length) <|
  some z3_2
set_option maxHeartbeats 4000000 in
set_option maxRecDepth 100000 in
theorem c_slices_Clone_byte_byte {w0 w : World} {l : List Assn} {ρ : Heap} {A_s0 : Option Addr} {n_s0 : Nat} {c_s0 : Nat} {s0 : List Int} {r : List Int} (hF : P_slices_Clone_byte_byte s0 = some r) (h_s0 : RdS (RpI .u8) ρ A_s0 n_s0 c_s0 s0) (hS : St w0 w (ro ρ :: l)) :
    Calls Try.prog 39 #[.slice A_s0 n_s0 c_s0] w fun e w' => ∃ (A_y0_ret : Option Addr) (n_y0_ret : Nat) (c_y0_ret : Nat) (cs_y0_ret : List Value), e = .returned (.slice A_y0_ret n_y0_ret c_y0_ret) ∧ RepL (RpI .u8) ρ r cs_y0_ret ∧ St w0 w' (vec 5 (RpI .u8).sz (.slice A_y0_ret n_y0_ret c_y0_ret) n_y0_ret cs_y0_ret :: ro ρ :: l) := by
  have e_ := h_s0.n; subst e_
  refine enterC Try.func39 rfl 8 rfl (by simp) ?_
  refine x_seq <| x_region <| p (yl_assign rfl) <| x_done <|
    x_seq <| x_seq <| x_region <| p (yl_move rfl) <|
    p (yeq_nil usl_75 rfl rfl) <| x_done <|
    x_cond (t := Option.isNone A_s0) rfl (fun hc4 => ?_) (fun hc4 => ?_)
  · have hx0 : s0 = [] := RdS.nil_of h_s0 hc4
    have hF : some ([] : List Int) = some r := by rw [hx0] at hF; unfold P_slices_Clone_byte_byte at hF; simpa [lv, ck, apOk] using hF
    refine x_seq <| x_region <| p (yl_assign rfl) <| x_done <|
      ?_
    replace hS := St.vec_nil hS 5 (RpI .u8).sz
    have hnil_A_y0_ret : RepL (RpI .u8) ρ [] [] := rfl
    have e_ := Option.some.inj (show some _ = some _ from hF); subst e_
    exact x_return ⟨_, ⟨_, _, rfl, rfl, rfl⟩, none, 0, 0, [], rfl, hnil_A_y0_ret, ((hS.pull 1).pull 1)⟩
  · skip
    refine x_skip <| x_seq <| x_region <|
      ?_
    refine o_buildSlice (vs := []) (cs := []) sl_75 zero_5 (parts_eq pt0) rfl (by intro v hv; cases hv) (by decide) rfl hS (fun b5 w' hS => ?_)
    refine p (yl_move rfl) <|
      ?_
    have hl3_2 : RepL (RpI .u8) ρ ([] : List Int) [] := RepL.nil
    replace hS := St.vec_of (n := 0) (sz := (RpI .u8).sz) hS rfl (by decide)
    have q_ := src_f usl_75 (hS.pull 1) h_s0; obtain ⟨nw7, hnw7, src7⟩ := q_
    replace hF := lv_s hF; obtain ⟨z3_2, hz3_2, hF⟩ := hF
    replace hF := ck_s hF; obtain ⟨hk3_2, hF⟩ := hF
    refine o_ap sl_75 zero_5 rfl (by decide) rfl rfl hS hl3_2 src7 hnw7 hz3_2 hk3_2 (fun A7 c7 cs7 w' hr7 hS => ?_)
    refine p (yl_assign rfl) <| x_done <|
      ?_
    have e_ := Option.some.inj (show some _ = some _ from hF); subst e_
    exact x_return ⟨_, ⟨_, _, rfl, rfl, rfl⟩, A7, z3_2.length, c7, cs7, rfl, hr7, ((hS.pull 1).pull 1)⟩
attribute [irreducible] P_slices_Clone_byte_byte

def P_stream_reader_bits_L3 (r_0 : T_stream_reader) (many1 : Int) : (Int × Int × Int × Bool) → Option ((Int × Int × Int × Bool) ⊕ (Int × Int × Bool)) := fun (n5_L3h, y8_L3h, b_r_0_1_L3h, b_r_0_2_L3h) =>
  if y8_L3h < many1 then
    ck ((8 : Int) ≠ 0) <|
    ar (Int.tdiv b_r_0_1_L3h 8) fun x14 =>
    bd (
      if x14 < (r_0.fb.length : Int) then
        ck ((8 : Int) ≠ 0) <|
        ar (Int.tdiv b_r_0_1_L3h 8) fun x29 =>
        ck (inb x29 r_0.fb.length) <|
        lv (gt r_0.fb x29) fun x31 =>
        ar (x31) fun x32 =>
        ck ((8 : Int) ≠ 0) <|
        lv (Int.tmod b_r_0_1_L3h 8) fun x37 =>
        ar ((7 : Int) - x37) fun x38 =>
        ck (0 ≤ x38) <|
        lv (shr .i64 x32 x38) fun x39 =>
        lv (bAnd .i64 x39 1) fun x40 =>
        some (x40, b_r_0_2_L3h)
      else
        some ((0 : Int), true)) fun (bit6_c20, b_r_0_2_c20) =>
    ck (0 ≤ (1 : Int)) <|
    lv (shl .i64 n5_L3h 1) fun x45 =>
    lv (bOr .i64 x45 bit6_c20) fun x47 =>
    ar (b_r_0_1_L3h + 1) fun x52 =>
    ar (y8_L3h + 1) fun x55 =>
    some (Sum.inl (x47, x55, x52, b_r_0_2_c20))
  else
    some (Sum.inr (n5_L3h, b_r_0_1_L3h, b_r_0_2_L3h))
def P_stream_reader_bits (r_0 : T_stream_reader) (many1 : Int) : Option (Int × Int × Bool) :=
  bd (
    lp (P_stream_reader_bits_L3 r_0 many1) fuel (0, 0, r_0.fat, r_0.fover)) fun (n5_L3, b_r_0_1_L3, b_r_0_2_L3) =>
  some (n5_L3, b_r_0_1_L3, b_r_0_2_L3)
set_option maxHeartbeats 4000000 in
set_option maxRecDepth 100000 in
theorem c_stream_reader_bits {w0 w : World} {l : List Assn} {ρ : Heap} {b_r_0 : Nat} {A_r_0_0 : Option Addr} {n_r_0_0 : Nat} {c_r_0_0 : Nat} {r_0 : T_stream_reader} {many1 : Int} {r : (Int × Int × Bool)} (hF : P_stream_reader_bits r_0 many1 = some r) (h_r_0_0 : RdS (RpI .u8) ρ A_r_0_0 n_r_0_0 c_r_0_0 r_0.fb) (hS : St w0 w (cells b_r_0 191 [.slice A_r_0_0 n_r_0_0 c_r_0_0, .int .i64 r_0.fat, .bool r_0.fover] :: ro ρ :: l)) :
    Calls Try.prog 94 #[.pointer (some ⟨b_r_0, 0, none⟩), .int .i64 many1] w fun e w' => e = .returned (.int .i64 r.1) ∧ St w0 w' (cells b_r_0 191 [.slice A_r_0_0 n_r_0_0 c_r_0_0, .int .i64 r.2.1, .bool r.2.2] :: ro ρ :: l) := by
  have e_ := h_r_0_0.n; subst e_
  refine enterC Try.func94 rfl 57 rfl (by simp) ?_
  refine x_seq <| x_region <| p (yl_assign rfl) <| x_done <|
    x_seq <| x_region <| p (yl_assign rfl) <| x_done <|
    x_seq <| x_seq <| x_region <| p (yl_move rfl) <|
    p (yl_move rfl) <| x_done <|
    ?_
  replace hF := bd_s hF; obtain ⟨oL3, hLL3, hF⟩ := hF
  refine x_join (fun E w => ∃ (n5_L3 : Int) (b_r_0_1_L3 : Int) (b_r_0_2_L3 : Bool), (n5_L3, b_r_0_1_L3, b_r_0_2_L3) = oL3 ∧ E 5 = .int .i64 n5_L3 ∧ St w0 w (cells b_r_0 191 [.slice A_r_0_0 r_0.fb.length c_r_0_0, .int .i64 b_r_0_1_L3, .bool b_r_0_2_L3] :: ro ρ :: l)) ?_ ?_
  · skip -- L3
    refine x_block ?_
    refine x_loop (fun k_ E w => ∃ (n5_L3h : Int) (y8_L3h : Int) (b_r_0_1_L3h : Int) (b_r_0_2_L3h : Bool), lp (P_stream_reader_bits_L3 r_0 many1) k_ (n5_L3h, y8_L3h, b_r_0_1_L3h, b_r_0_2_L3h) = some oL3 ∧ E 0 = .pointer (some ⟨b_r_0, 0, none⟩) ∧ E 5 = .int .i64 n5_L3h ∧ E 7 = .int .i64 many1 ∧ E 8 = .int .i64 y8_L3h ∧ St w0 w (cells b_r_0 191 [.slice A_r_0_0 r_0.fb.length c_r_0_0, .int .i64 b_r_0_1_L3h, .bool b_r_0_2_L3h] :: ro ρ :: l)) fuel ⟨0, 0, r_0.fat, r_0.fover, hLL3, rfl, rfl, rfl, rfl, ((hS.pull 1).pull 1)⟩ ?_
    rintro kL3 E w ⟨n5_L3h, y8_L3h, b_r_0_1_L3h, b_r_0_2_L3h, hLL3, eL3h_0, eL3h_5, eL3h_7, eL3h_8, hS⟩
    replace hLL3 := lp_s hLL3; obtain ⟨kL3, obL3, rfl, hFL3, hLL3⟩ := hLL3
    refine x_seq <| x_region <| p (yl_lss eL3h_8 eL3h_7) <| x_done <|
      x_seq <|
      x_cond_p (y8_L3h < many1) rfl (fun hc9 => ?_) (fun hc9 => ?_)
    · replace hFL3 := it_t hc9 hFL3
      replace hFL3 := ck_s hFL3; obtain ⟨hk5_4, hFL3⟩ := hFL3
      replace hFL3 := ar_s hFL3; obtain ⟨x14, hx14, hFL3⟩ := hFL3
      refine x_skip <| x_seq <| x_block <| x_seq <|
        x_region <| p (yl_assign rfl) <| x_done <| x_seq <|
        x_seq <| x_still mixed (by kernel_rfl) hS <| q (yl_move eL3h_0) <| q (yl_nilCheck rfl) <|
        q (yl_field0 fld_191_1 rfl) <| qa (fun w' hS => at_load one_3 rfl (hS.cell rfl)) <| q (yquo rfl rfl hk5_4 hx14) <| q (yl_move eL3h_0) <|
        q (yl_nilCheck rfl) <| q (yl_field0 fld_191_0 rfl) <| qa (fun w' hS => at_load one_75 rfl (hS.cell rfl)) <| q (yl_len_slice usl_75 rfl) <|
        q (yl_lss rfl rfl) <|
        q_done fun w' hS => ?_
      replace hFL3 := bd_s hFL3; obtain ⟨oc20, hFc20, hFL3⟩ := hFL3
      refine x_join (fun E w => ∃ (bit6_c20 : Int) (b_r_0_2_c20 : Bool), (bit6_c20, b_r_0_2_c20) = oc20 ∧ E 0 = .pointer (some ⟨b_r_0, 0, none⟩) ∧ E 5 = .int .i64 n5_L3h ∧ E 6 = .int .i64 bit6_c20 ∧ E 7 = .int .i64 many1 ∧ E 8 = .int .i64 y8_L3h ∧ St w0 w (cells b_r_0 191 [.slice A_r_0_0 r_0.fb.length c_r_0_0, .int .i64 b_r_0_1_L3h, .bool b_r_0_2_c20] :: ro ρ :: l)) ?_ ?_
      · skip -- c20
        refine x_cond_p (x14 < (r_0.fb.length : Int)) rfl (fun hc20 => ?_) (fun hc20 => ?_)
        · replace hFc20 := it_t hc20 hFc20
          replace hFc20 := ck_s hFc20; obtain ⟨hk6_8, hFc20⟩ := hFc20
          replace hFc20 := ar_s hFc20; obtain ⟨x29, hx29, hFc20⟩ := hFc20
          replace hFc20 := ck_s hFc20; obtain ⟨hk6_9, hFc20⟩ := hFc20
          replace hFc20 := lv_s hFc20; obtain ⟨x31, hx31, hFc20⟩ := hFc20
          replace hFc20 := ar_s hFc20; obtain ⟨x32, hx32, hFc20⟩ := hFc20
          replace hFc20 := ck_s hFc20; obtain ⟨hk6_16, hFc20⟩ := hFc20
          replace hFc20 := lv_s hFc20; obtain ⟨x37, hx37, hFc20⟩ := hFc20
          replace hFc20 := ar_s hFc20; obtain ⟨x38, hx38, hFc20⟩ := hFc20
          replace hFc20 := ck_s hFc20; obtain ⟨hk6_18, hFc20⟩ := hFc20
          replace hFc20 := lv_s hFc20; obtain ⟨x39, hx39, hFc20⟩ := hFc20
          replace hFc20 := lv_s hFc20; obtain ⟨x40, hx40, hFc20⟩ := hFc20
          refine x_still mixed (by kernel_rfl) hS <| q (yl_move eL3h_0) <| q (yl_nilCheck rfl) <| q (yl_field0 fld_191_0 rfl) <|
            qa (fun w' hS => at_load one_75 rfl (hS.cell rfl)) <| q (yl_move eL3h_0) <| q (yl_nilCheck rfl) <| q (yl_field0 fld_191_1 rfl) <|
            qa (fun w' hS => at_load one_3 rfl (hS.cell rfl)) <| q (yquo rfl rfl hk6_8 hx29) <| q (yix_f sl_75 rfl rfl h_r_0_0 hk6_9) <| qa (fun w' hS => at_load one_5 rfl (RdS.getW h_r_0_0 (hS.pull 1) hk6_9 hx31)) <|
            q (yconvi uk_5 ik_3 rfl hx32) <| q (yl_move eL3h_0) <| q (yl_nilCheck rfl) <| q (yl_field0 fld_191_1 rfl) <|
            qa (fun w' hS => at_load one_3 rfl (hS.cell rfl)) <| q (yrem rfl rfl hk6_16 hx37) <| q (ysub rfl rfl hx38) <| q (yshr rfl rfl hk6_18 hx39) <|
            q (yand rfl rfl hx40) <| q (yl_assign rfl) <|
            q_done fun w' hS => ?_
          exact x_inv ⟨x40, b_r_0_2_L3h, (Option.some.inj (show some _ = some _ from hFc20)), eL3h_0, eL3h_5, rfl, eL3h_7, eL3h_8, ((hS.pull 1).pull 1)⟩
        · replace hFc20 := it_f hc20 hFc20
          refine x_region <| p (yl_move eL3h_0) <| p (yl_nilCheck rfl) <| p (yl_field0 fld_191_2 rfl) <|
            ?_
          refine o_store1 (v := .bool true) one_4 rfl rfl rfl rfl hS (fun w' hS => ?_)
          refine x_done <|
            ?_
          exact x_inv ⟨0, true, (Option.some.inj (show some _ = some _ from hFc20)), eL3h_0, eL3h_5, rfl, eL3h_7, eL3h_8, ((hS.pull 1).pull 1)⟩
      rintro E w ⟨bit6_c20, b_r_0_2_c20, rfl, ec20_0, ec20_5, ec20_6, ec20_7, ec20_8, hS⟩
      replace hFL3 := ck_s hFL3; obtain ⟨hk8_1, hFL3⟩ := hFL3
      replace hFL3 := lv_s hFL3; obtain ⟨x45, hx45, hFL3⟩ := hFL3
      replace hFL3 := lv_s hFL3; obtain ⟨x47, hx47, hFL3⟩ := hFL3
      replace hFL3 := ar_s hFL3; obtain ⟨x52, hx52, hFL3⟩ := hFL3
      refine x_seq <| x_region <| p (yl_move ec20_5) <| p (yshl rfl rfl hk8_1 hx45) <|
        p (yl_move ec20_6) <| p (yor rfl rfl hx47) <| p (yl_assign rfl) <| x_done <|
        x_region <| p (yl_move ec20_0) <| p (yl_nilCheck rfl) <| p (yl_field0 fld_191_1 rfl) <|
        pa (at_load one_3 rfl (hS.cell rfl)) <| p (yadd rfl rfl hx52) <| p (yl_nilCheck rfl) <| p (yl_field0 fld_191_1 rfl) <|
        ?_
      refine o_store1 (v := .int .i64 x52) one_3 rfl rfl rfl rfl hS (fun w' hS => ?_)
      replace hFL3 := ar_s hFL3; obtain ⟨x55, hx55, hFL3⟩ := hFL3
      refine x_done <| x_blk <| x_region <| p (yadd ec20_8 rfl hx55) <|
        p (yl_move rfl) <| x_done <|
        ?_
      have e_ := Option.some.inj (show some _ = some _ from hFL3); subst e_
      exact x_inv ⟨kL3, Nat.lt_succ_self _, x47, x55, x52, b_r_0_2_c20, hLL3, ec20_0, rfl, ec20_7, rfl, ((hS.pull 1).pull 1)⟩
    · replace hFL3 := it_f hc9 hFL3
      refine x_exitTo _ rfl <|
        ?_
      have e_ := Option.some.inj (show some _ = some _ from hFL3); subst e_
      exact x_inv ⟨n5_L3h, b_r_0_1_L3h, b_r_0_2_L3h, hLL3, eL3h_5, ((hS.pull 1).pull 1)⟩
  rintro E w ⟨n5_L3, b_r_0_1_L3, b_r_0_2_L3, rfl, eL3_5, hS⟩
  refine x_seq <| x_region <| p (yl_move eL3_5) <| p (yl_assign rfl) <|
    x_done <|
    ?_
  have e_ := Option.some.inj (show some _ = some _ from hF); subst e_
  exact x_return ⟨_, ⟨_, _, rfl, rfl, rfl⟩, rfl, ((hS.pull 1).pull 1)⟩
attribute [irreducible] P_stream_reader_bits

def P_stream_reader_part_L7 (r_0 : T_stream_reader) (x14 : Int) : Int → Option (Int ⊕ (Int ⊕ (Int × Int))) := fun b_r_0_1_L7h =>
  ar ((8 : Int) * x14) fun x67 =>
  if b_r_0_1_L7h < x67 then
    ck ((8 : Int) ≠ 0) <|
    ar (Int.tdiv b_r_0_1_L7h 8) fun x84 =>
    ck (inb x84 r_0.fb.length) <|
    lv (gt r_0.fb x84) fun x86 =>
    ck ((8 : Int) ≠ 0) <|
    lv (Int.tmod b_r_0_1_L7h 8) fun x91 =>
    ar ((7 : Int) - x91) fun x92 =>
    ck (0 ≤ x92) <|
    lv (shr .u8 x86 x92) fun x93 =>
    lv (bAnd .u8 x93 1) fun x94 =>
    if x94 = 1 then
      some (Sum.inr (Sum.inr ((4 : Int), b_r_0_1_L7h)))
    else
      ar (b_r_0_1_L7h + 1) fun x73 =>
      some (Sum.inl x73)
  else
    some (Sum.inr (Sum.inl b_r_0_1_L7h))
def P_stream_reader_part (r_0 : T_stream_reader) (from_1 : Int) (number2 : Int) : Option (Int × Int) :=
  ar (r_0.fat + 7) fun x13 =>
  ck ((8 : Int) ≠ 0) <|
  ar (Int.tdiv x13 8) fun x14 =>
  ar (x14 + 2) fun x16 =>
  if (r_0.fb.length : Int) < x16 then
    some ((11 : Int), r_0.fat)
  else
    ck (0 ≤ (8 : Int)) <|
    lv (shr .i64 number2 8) fun x24 =>
    lv (x24 % 256) fun x25 =>
    lv (number2 % 256) fun x27 =>
    ck (0 ≤ from_1 ∧ from_1 ≤ x14 ∧ x14 ≤ r_0.fb.length) <|
    lv (sub r_0.fb from_1 x14) fun x35 =>
    lv (([x25, x27] : List Int) ++ x35) fun z4_13 =>
    ck (apOk 1 z4_13.length) <|
    bd (P_stream_Sum z4_13) fun r4_14 =>
    ck (inb x14 r_0.fb.length) <|
    lv (gt r_0.fb x14) fun x44 =>
    ck (0 ≤ (8 : Int)) <|
    lv (shr .u16 r4_14 8) fun x46 =>
    lv (x46 % 256) fun x47 =>
    ck ((!(decide (x44 ≠ x47))) = true → I64 (x14 + 1)) <|
    lv (x14 + 1) fun x55 =>
    ck ((!(decide (x44 ≠ x47))) = true → inb x55 r_0.fb.length) <|
    lv (gt r_0.fb x55) fun x57 =>
    lv (r4_14 % 256) fun x59 =>
    lv ((decide (x44 ≠ x47)) || (decide (x57 ≠ x59))) fun x61 =>
    if x61 = true then
      some ((12 : Int), r_0.fat)
    else
      bs (
        lp (P_stream_reader_part_L7 r_0 x14) fuel r_0.fat) (fun y => some y) fun b_r_0_1_L7 =>
      ar (x14 + 2) fun x98 =>
      ar ((8 : Int) * x98) fun x99 =>
      some ((0 : Int), x99)
set_option maxHeartbeats 4000000 in
set_option maxRecDepth 100000 in
theorem c_stream_reader_part {w0 w : World} {l : List Assn} {ρ : Heap} {b_r_0 : Nat} {A_r_0_0 : Option Addr} {n_r_0_0 : Nat} {c_r_0_0 : Nat} {r_0 : T_stream_reader} {from_1 : Int} {number2 : Int} {r : (Int × Int)} (hF : P_stream_reader_part r_0 from_1 number2 = some r) (h_r_0_0 : RdS (RpI .u8) ρ A_r_0_0 n_r_0_0 c_r_0_0 r_0.fb) (hS : St w0 w (cells b_r_0 191 [.slice A_r_0_0 n_r_0_0 c_r_0_0, .int .i64 r_0.fat, .bool r_0.fover] :: ro ρ :: l)) :
    Calls Try.prog 95 #[.pointer (some ⟨b_r_0, 0, none⟩), .int .i64 from_1, .int .i64 number2] w fun e w' => e = .returned (.int .i64 r.1) ∧ St w0 w' (cells b_r_0 191 [.slice A_r_0_0 n_r_0_0 c_r_0_0, .int .i64 r.2, .bool r_0.fover] :: ro ρ :: l) := by
  have e_ := h_r_0_0.n; subst e_
  refine enterC Try.func95 rfl 102 rfl (by simp) ?_
  replace hF := ar_s hF; obtain ⟨x13, hx13, hF⟩ := hF
  replace hF := ck_s hF; obtain ⟨hk1_5, hF⟩ := hF
  replace hF := ar_s hF; obtain ⟨x14, hx14, hF⟩ := hF
  replace hF := ar_s hF; obtain ⟨x16, hx16, hF⟩ := hF
  refine x_seq <| x_region <| p (yl_assign rfl) <| x_done <|
    x_seq <| x_region <| p (yl_move rfl) <| p (yl_nilCheck rfl) <|
    p (yl_field0 fld_191_1 rfl) <| pa (at_load one_3 rfl (hS.cell rfl)) <| p (yadd rfl rfl hx13) <| p (yquo rfl rfl hk1_5 hx14) <|
    p (yl_assign rfl) <| x_done <| x_seq <| x_seq <|
    x_region <| p (yl_move rfl) <| p (yadd rfl rfl hx16) <| p (yl_move rfl) <|
    p (yl_nilCheck rfl) <| p (yl_field0 fld_191_0 rfl) <| pa (at_load one_75 rfl (hS.cell rfl)) <| p (yl_len_slice usl_75 rfl) <|
    p (yl_gtr rfl rfl) <| x_done <|
    x_cond_p ((r_0.fb.length : Int) < x16) rfl (fun hc22 => ?_) (fun hc22 => ?_)
  · replace hF := it_t hc22 hF
    refine x_seq <| x_region <| p (yl_assign rfl) <| x_done <|
      ?_
    have e_ := Option.some.inj (show some _ = some _ from hF); subst e_
    exact x_return ⟨_, ⟨_, _, rfl, rfl, rfl⟩, rfl, ((hS.pull 1).pull 1)⟩
  · replace hF := it_f hc22 hF
    replace hF := ck_s hF; obtain ⟨hk4_1, hF⟩ := hF
    replace hF := lv_s hF; obtain ⟨x24, hx24, hF⟩ := hF
    replace hF := lv_s hF; obtain ⟨x25, hx25, hF⟩ := hF
    replace hF := lv_s hF; obtain ⟨x27, hx27, hF⟩ := hF
    refine x_skip <| x_seq <| x_region <| p (yl_move rfl) <|
      p (yshr rfl rfl hk4_1 hx24) <| p (yconvu wm_u8 uk_3 ik_5 rfl hx25) <| p (yl_move rfl) <| p (yconvu wm_u8 uk_3 ik_5 rfl hx27) <|
      ?_
    refine o_buildSlice (vs := [.int .u8 x25, .int .u8 x27]) (cs := [.int .u8 x25, .int .u8 x27]) sl_75 zero_5 (parts_eq (pt (va := .int .u8 x25) rfl (pt (va := .int .u8 x27) rfl pt0))) rfl (by intro v hv; simp only [List.mem_cons, List.not_mem_nil, or_false] at hv; first | (subst hv; rfl) | (rcases hv with rfl | rfl <;> rfl)) (by decide) rfl hS (fun b28 w' hS => ?_)
    replace hF := ck_s hF; obtain ⟨hk4_12, hF⟩ := hF
    replace hF := lv_s hF; obtain ⟨x35, hx35, hF⟩ := hF
    refine p (yl_move rfl) <| p (yl_nilCheck rfl) <| p (yl_field0 fld_191_0 rfl) <| pa (at_load one_75 rfl ((hS.pull 1).cell rfl)) <|
      p (yl_move rfl) <| p (yl_move rfl) <|
      ?_
    have q_ := RdS.sub h_r_0_0 hk4_12 hx35; obtain ⟨A35, n35, c35, hd35, f35⟩ := q_
    refine p (ysub_lh sl_75 rfl rfl rfl hk4_12 hd35) <|
      ?_
    have e_ := f35.n; subst e_
    have hl4_13 : RepL (RpI .u8) ρ ([x25, x27] : List Int) [.int .u8 x25, .int .u8 x27] := (RepL.cons (cs := [.int .u8 x25]) rfl (RepL.cons (cs := [.int .u8 x27]) rfl RepL.nil))
    replace hS := St.vec_of (n := 2) (sz := (RpI .u8).sz) hS rfl (by decide)
    have q_ := src_f usl_75 (hS.pull 2) f35; obtain ⟨nw36, hnw36, src36⟩ := q_
    replace hF := lv_s hF; obtain ⟨z4_13, hz4_13, hF⟩ := hF
    replace hF := ck_s hF; obtain ⟨hk4_13, hF⟩ := hF
    refine o_ap sl_75 zero_5 rfl (by decide) rfl rfl hS hl4_13 src36 hnw36 hz4_13 hk4_13 (fun A36 c36 cs36 w' hr36 hS => ?_)
    replace hF := bd_s hF; obtain ⟨r4_14, hc4_14, hF⟩ := hF
    have q_ := St.lend ((hS.pull 2).pull 1) hr36; obtain ⟨ρl0, hll0, hlf0, hS0, back0⟩ := q_
    have hcall := c_stream_Sum hc4_14 hlf0 hS0
    refine o_cc call_93 (args1 rfl) ((Calls.mono hcall (fun e w'' h => And.intro h.1 ((((back0 h.2).pull 1).pull 2).pull 2)))) ?_
    rintro e w' ⟨rfl, hS⟩
    refine ⟨_, rfl, ?_⟩
    replace hF := ck_s hF; obtain ⟨hk5_5, hF⟩ := hF
    replace hF := lv_s hF; obtain ⟨x44, hx44, hF⟩ := hF
    replace hF := ck_s hF; obtain ⟨hk5_8, hF⟩ := hF
    replace hF := lv_s hF; obtain ⟨x46, hx46, hF⟩ := hF
    replace hF := lv_s hF; obtain ⟨x47, hx47, hF⟩ := hF
    replace hF := ck_s hF; obtain ⟨hk5_17, hF⟩ := hF
    replace hF := lv_s hF; obtain ⟨x55, hx55, hF⟩ := hF
    replace hF := ck_s hF; obtain ⟨hk5_18, hF⟩ := hF
    replace hF := lv_s hF; obtain ⟨x57, hx57, hF⟩ := hF
    replace hF := lv_s hF; obtain ⟨x59, hx59, hF⟩ := hF
    replace hF := lv_s hF; obtain ⟨x61, hx61, hF⟩ := hF
    refine p (v := .int .u16 r4_14) (yl_assign rfl) <| x_done <| x_seq <| x_seq <|
      x_region <| p (yl_move rfl) <| p (yl_nilCheck rfl) <| p (yl_field0 fld_191_0 rfl) <|
      pa (at_load one_75 rfl ((hS.pull 1).cell rfl)) <| p (yl_move rfl) <| p (yix_f sl_75 rfl rfl h_r_0_0 hk5_5) <| pa (at_load one_5 rfl (RdS.getW h_r_0_0 (hS.pull 2) hk5_5 hx44)) <|
      p (v := .int .u16 r4_14) (yl_move rfl) <| p (yshr rfl rfl hk5_8 hx46) <| p (yconvu wm_u8 uk_179 ik_5 rfl hx47) <| p (yl_neq rfl rfl) <|
      p (yl_move rfl) <| pg (v := .pointer (some ⟨b_r_0, 0, none⟩)) 49 (c := !(decide (x44 ≠ x47))) (says_f _) (fun hq => Yl.at (yl_move rfl)) <| pg (v := .pointer (some ⟨b_r_0, 0, none⟩)) 49 (c := !(decide (x44 ≠ x47))) (says_f _) (fun hq => Yl.at (yl_nilCheck (cv hq))) <| pg (v := .pointer (some ⟨b_r_0, 0, none⟩)) 49 (c := !(decide (x44 ≠ x47))) (says_f _) (fun hq => Yl.at (yl_field0 fld_191_0 (cv hq))) <|
      pg (v := .slice A_r_0_0 r_0.fb.length c_r_0_0) 49 (c := !(decide (x44 ≠ x47))) (says_f _) (fun hq => at_load one_75 (cv hq) ((hS.pull 1).cell rfl)) <| pg (v := .int .i64 x14) 49 (c := !(decide (x44 ≠ x47))) (says_f _) (fun hq => Yl.at (yl_move rfl)) <| pg (v := .int .i64 x55) 49 (c := !(decide (x44 ≠ x47))) (says_f _) (fun hq => Yl.at (yadd (cv hq) rfl ⟨hx55, (hk5_17 hq)⟩)) <| pg (v := .pointer (some ((adr A_r_0_0).add (x55.toNat * (RpI .u8).sz)))) 49 (c := !(decide (x44 ≠ x47))) (says_f _) (fun hq => Yl.at (yix_f sl_75 (cv hq) (cv hq) h_r_0_0 (hk5_18 hq))) <|
      pg (v := .int .u8 x57) 49 (c := !(decide (x44 ≠ x47))) (says_f _) (fun hq => at_load one_5 (cv hq) (RdS.getW h_r_0_0 (hS.pull 2) (hk5_18 hq) hx57)) <| pg (v := .int .u16 r4_14) 49 (c := !(decide (x44 ≠ x47))) (says_f _) (fun hq => Yl.at (yl_move rfl)) <| pg (v := .int .u8 x59) 49 (c := !(decide (x44 ≠ x47))) (says_f _) (fun hq => Yl.at (yconvu wm_u8 uk_179 ik_5 (cv hq) hx59)) <| pg (v := .bool (decide (x57 ≠ x59))) 49 (c := !(decide (x44 ≠ x47))) (says_f _) (fun hq => Yl.at (yl_neq (cv hq) (cv hq))) <|
      p (yor' rfl rfl (fun hc => (cv (t_not hc))) hx61) <| x_done <|
      x_cond (t := x61) rfl (fun hc61 => ?_) (fun hc61 => ?_)
    · replace hF := it_t hc61 hF
      refine x_seq <| x_region <| p (yl_assign rfl) <| x_done <|
        ?_
      have e_ := Option.some.inj (show some _ = some _ from hF); subst e_
      exact x_return ⟨_, ⟨_, _, rfl, rfl, rfl⟩, rfl, ((hS.drop.pull 1).pull 1)⟩
    · replace hF := it_bf hc61 hF
      refine x_skip <| x_seq <|
        ?_
      replace hF := bs_s hF; obtain ⟨oL7, hLL7, hF⟩ := hF
      refine x_join (fun E w => ∃ (b_r_0_1_L7 : Int), (Sum.inl b_r_0_1_L7) = oL7 ∧ E 0 = .pointer (some ⟨b_r_0, 0, none⟩) ∧ E 7 = .int .i64 x14 ∧ St w0 w (cells b_r_0 191 [.slice A_r_0_0 r_0.fb.length c_r_0_0, .int .i64 b_r_0_1_L7, .bool r_0.fover] :: ro ρ :: l)) ?_ ?_
      · skip -- L7
        refine x_block ?_
        refine x_loop (fun k_ E w => ∃ (b_r_0_1_L7h : Int), lp (P_stream_reader_part_L7 r_0 x14) k_ b_r_0_1_L7h = some oL7 ∧ E 0 = .pointer (some ⟨b_r_0, 0, none⟩) ∧ E 7 = .int .i64 x14 ∧ St w0 w (cells b_r_0 191 [.slice A_r_0_0 r_0.fb.length c_r_0_0, .int .i64 b_r_0_1_L7h, .bool r_0.fover] :: ro ρ :: l)) fuel ⟨r_0.fat, hLL7, rfl, rfl, ((hS.drop.pull 1).pull 1)⟩ ?_
        rintro kL7 E w ⟨b_r_0_1_L7h, hLL7, eL7h_0, eL7h_7, hS⟩
        replace hLL7 := lp_s hLL7; obtain ⟨kL7, obL7, rfl, hFL7, hLL7⟩ := hLL7
        unfold P_stream_reader_part_L7 at hFL7
        replace hFL7 := ar_s hFL7; obtain ⟨x67, hx67, hFL7⟩ := hFL7
        refine x_seq <| x_seq <| x_region <| p (yl_move eL7h_0) <|
          p (yl_nilCheck rfl) <| p (yl_field0 fld_191_1 rfl) <| pa (at_load one_3 rfl (hS.cell rfl)) <| p (yl_move eL7h_7) <|
          p (ymul rfl rfl hx67) <| p (yl_lss rfl rfl) <| x_done <|
          x_cond_p (b_r_0_1_L7h < x67) rfl (fun hc68 => ?_) (fun hc68 => ?_)
        · replace hFL7 := it_t hc68 hFL7
          replace hFL7 := ck_s hFL7; obtain ⟨hk9_8, hFL7⟩ := hFL7
          replace hFL7 := ar_s hFL7; obtain ⟨x84, hx84, hFL7⟩ := hFL7
          replace hFL7 := ck_s hFL7; obtain ⟨hk9_9, hFL7⟩ := hFL7
          replace hFL7 := lv_s hFL7; obtain ⟨x86, hx86, hFL7⟩ := hFL7
          replace hFL7 := ck_s hFL7; obtain ⟨hk9_15, hFL7⟩ := hFL7
          replace hFL7 := lv_s hFL7; obtain ⟨x91, hx91, hFL7⟩ := hFL7
          replace hFL7 := ar_s hFL7; obtain ⟨x92, hx92, hFL7⟩ := hFL7
          replace hFL7 := ck_s hFL7; obtain ⟨hk9_17, hFL7⟩ := hFL7
          replace hFL7 := lv_s hFL7; obtain ⟨x93, hx93, hFL7⟩ := hFL7
          replace hFL7 := lv_s hFL7; obtain ⟨x94, hx94, hFL7⟩ := hFL7
          refine x_skip <| x_seq <| x_block <| x_seq <|
            x_still mixed (by kernel_rfl) hS <| q (yl_move eL7h_0) <| q (yl_nilCheck rfl) <| q (yl_field0 fld_191_0 rfl) <|
            qa (fun w' hS => at_load one_75 rfl (hS.cell rfl)) <| q (yl_move eL7h_0) <| q (yl_nilCheck rfl) <| q (yl_field0 fld_191_1 rfl) <|
            qa (fun w' hS => at_load one_3 rfl (hS.cell rfl)) <| q (yquo rfl rfl hk9_8 hx84) <| q (yix_f sl_75 rfl rfl h_r_0_0 hk9_9) <| qa (fun w' hS => at_load one_5 rfl (RdS.getW h_r_0_0 (hS.pull 1) hk9_9 hx86)) <|
            q (yl_move eL7h_0) <| q (yl_nilCheck rfl) <| q (yl_field0 fld_191_1 rfl) <| qa (fun w' hS => at_load one_3 rfl (hS.cell rfl)) <|
            q (yrem rfl rfl hk9_15 hx91) <| q (ysub rfl rfl hx92) <| q (yshr rfl rfl hk9_17 hx93) <| q (yand rfl rfl hx94) <|
            q (yl_eql rfl rfl) <|
            q_done fun w' hS => ?_
          refine x_cond_p (x94 = 1) rfl (fun hc95 => ?_) (fun hc95 => ?_)
          · replace hFL7 := it_t hc95 hFL7
            refine x_seq <| x_region <| p (yl_assign rfl) <| x_done <|
              ?_
            have e_ := Option.some.inj (show some _ = some _ from hFL7); subst e_
            have e_ := (show _ = oL7 from hLL7); subst e_
            have e_ := Option.some.inj (show some _ = some _ from hF); subst e_
            exact x_return ⟨_, ⟨_, _, rfl, rfl, rfl⟩, rfl, ((hS.pull 1).pull 1)⟩
          · replace hFL7 := it_f hc95 hFL7
            replace hFL7 := ar_s hFL7; obtain ⟨x73, hx73, hFL7⟩ := hFL7
            refine x_skip <| x_blk <| x_region <| p (yl_move eL7h_0) <|
              p (yl_nilCheck rfl) <| p (yl_field0 fld_191_1 rfl) <| pa (at_load one_3 rfl (hS.cell rfl)) <| p (yadd rfl rfl hx73) <|
              p (yl_nilCheck rfl) <| p (yl_field0 fld_191_1 rfl) <|
              ?_
            refine o_store1 (v := .int .i64 x73) one_3 rfl rfl rfl rfl hS (fun w' hS => ?_)
            refine x_done <|
              ?_
            have e_ := Option.some.inj (show some _ = some _ from hFL7); subst e_
            exact x_inv ⟨kL7, Nat.lt_succ_self _, x73, hLL7, eL7h_0, eL7h_7, ((hS.pull 1).pull 1)⟩
        · replace hFL7 := it_f hc68 hFL7
          refine x_exitTo _ rfl <|
            ?_
          have e_ := Option.some.inj (show some _ = some _ from hFL7); subst e_
          exact x_inv ⟨b_r_0_1_L7h, hLL7, eL7h_0, eL7h_7, ((hS.pull 1).pull 1)⟩
      rintro E w ⟨b_r_0_1_L7, rfl, eL7_0, eL7_7, hS⟩
      replace hF := ar_s hF; obtain ⟨x98, hx98, hF⟩ := hF
      replace hF := ar_s hF; obtain ⟨x99, hx99, hF⟩ := hF
      refine x_seq <| x_region <| p (yl_move eL7_0) <| p (yl_move eL7_7) <|
        p (yadd rfl rfl hx98) <| p (ymul rfl rfl hx99) <| p (yl_nilCheck rfl) <| p (yl_field0 fld_191_1 rfl) <|
        ?_
      refine o_store1 (v := .int .i64 x99) one_3 rfl rfl rfl rfl hS (fun w' hS => ?_)
      refine x_done <| x_seq <| x_region <| p (yl_assign rfl) <|
        x_done <|
        ?_
      have e_ := Option.some.inj (show some _ = some _ from hF); subst e_
      exact x_return ⟨_, ⟨_, _, rfl, rfl, rfl⟩, rfl, ((hS.pull 1).pull 1)⟩
attribute [irreducible] P_stream_reader_part

def P_stream_reader_tile_L11u4 (r_0 : T_stream_reader) (tracks1 : Int) : (Int × Int × Bool × List Int) → Option ((Int × Int × Bool × List Int) ⊕ (Int × Bool × List Int)) := fun (y32_L11u4h, b_r_0_1_L11u4h, b_r_0_2_L11u4h, b5_6_L11u4h) =>
  if y32_L11u4h < tracks1 then
    bd (P_stream_reader_bits (T_stream_reader.mk r_0.fb b_r_0_1_L11u4h b_r_0_2_L11u4h) 3) fun r12u4_6 =>
    lv (b5_6_L11u4h ++ [r12u4_6.1]) fun z12u4_8 =>
    ck (apOk 8 z12u4_8.length) <|
    ar (y32_L11u4h + 1) fun x45u4 =>
    some (Sum.inl (x45u4, r12u4_6.2.1, r12u4_6.2.2, z12u4_8))
  else
    some (Sum.inr (b_r_0_1_L11u4h, b_r_0_2_L11u4h, b5_6_L11u4h))
def P_stream_reader_tile_L11u3 (r_0 : T_stream_reader) (tracks1 : Int) : (Int × Int × Bool × List Int) → Option ((Int × Int × Bool × List Int) ⊕ (Int × Bool × List Int)) := fun (y32_L11u3h, b_r_0_1_L11u3h, b_r_0_2_L11u3h, b5_7_L11u3h) =>
  if y32_L11u3h < tracks1 then
    bd (P_stream_reader_bits (T_stream_reader.mk r_0.fb b_r_0_1_L11u3h b_r_0_2_L11u3h) 3) fun r12u3_6 =>
    lv (b5_7_L11u3h ++ [r12u3_6.1]) fun z12u3_8 =>
    ck (apOk 8 z12u3_8.length) <|
    ar (y32_L11u3h + 1) fun x45u3 =>
    some (Sum.inl (x45u3, r12u3_6.2.1, r12u3_6.2.2, z12u3_8))
  else
    some (Sum.inr (b_r_0_1_L11u3h, b_r_0_2_L11u3h, b5_7_L11u3h))
def P_stream_reader_tile_L11u2 (r_0 : T_stream_reader) (tracks1 : Int) : (Int × Int × Bool × List Int) → Option ((Int × Int × Bool × List Int) ⊕ (Int × Bool × List Int)) := fun (y32_L11u2h, b_r_0_1_L11u2h, b_r_0_2_L11u2h, b5_8_L11u2h) =>
  if y32_L11u2h < tracks1 then
    bd (P_stream_reader_bits (T_stream_reader.mk r_0.fb b_r_0_1_L11u2h b_r_0_2_L11u2h) 3) fun r12u2_6 =>
    lv (b5_8_L11u2h ++ [r12u2_6.1]) fun z12u2_8 =>
    ck (apOk 8 z12u2_8.length) <|
    ar (y32_L11u2h + 1) fun x45u2 =>
    some (Sum.inl (x45u2, r12u2_6.2.1, r12u2_6.2.2, z12u2_8))
  else
    some (Sum.inr (b_r_0_1_L11u2h, b_r_0_2_L11u2h, b5_8_L11u2h))
def P_stream_reader_tile_L11u1 (r_0 : T_stream_reader) (tracks1 : Int) : (Int × Int × Bool × List Int) → Option ((Int × Int × Bool × List Int) ⊕ (Int × Bool × List Int)) := fun (y32_L11u1h, b_r_0_1_L11u1h, b_r_0_2_L11u1h, b5_9_L11u1h) =>
  if y32_L11u1h < tracks1 then
    bd (P_stream_reader_bits (T_stream_reader.mk r_0.fb b_r_0_1_L11u1h b_r_0_2_L11u1h) 3) fun r12u1_6 =>
    lv (b5_9_L11u1h ++ [r12u1_6.1]) fun z12u1_8 =>
    ck (apOk 8 z12u1_8.length) <|
    ar (y32_L11u1h + 1) fun x45u1 =>
    some (Sum.inl (x45u1, r12u1_6.2.1, r12u1_6.2.2, z12u1_8))
  else
    some (Sum.inr (b_r_0_1_L11u1h, b_r_0_2_L11u1h, b5_9_L11u1h))
def P_stream_reader_tile (r_0 : T_stream_reader) (tracks1 : Int) : Option (T_array_Tile × Int × Bool) :=
  bd (P_stream_reader_bits r_0 16) fun r1_1 =>
  lv (r1_1.1 % 65536) fun x10 =>
  bd (P_stream_reader_bits (T_stream_reader.mk r_0.fb r1_1.2.1 r1_1.2.2) 1) fun r1_4 =>
  ar ((4 : Int) * tracks1) fun x21u4 =>
  ar ((1 : Int) + x21u4) fun x22u4 =>
  bd (P_stream_size x22u4) fun r5_5u4 =>
  bd (P_stream_reader_bits (T_stream_reader.mk r_0.fb r1_4.2.1 r1_4.2.2) r5_5u4) fun r5_6u4 =>
  ar ((4 : Int) * tracks1) fun x21u3 =>
  ar ((1 : Int) + x21u3) fun x22u3 =>
  bd (P_stream_size x22u3) fun r5_5u3 =>
  bd (P_stream_reader_bits (T_stream_reader.mk r_0.fb r5_6u4.2.1 r5_6u4.2.2) r5_5u3) fun r5_6u3 =>
  ar ((4 : Int) * tracks1) fun x21u2 =>
  ar ((1 : Int) + x21u2) fun x22u2 =>
  bd (P_stream_size x22u2) fun r5_5u2 =>
  bd (P_stream_reader_bits (T_stream_reader.mk r_0.fb r5_6u3.2.1 r5_6u3.2.2) r5_5u2) fun r5_6u2 =>
  ar ((4 : Int) * tracks1) fun x21u1 =>
  ar ((1 : Int) + x21u1) fun x22u1 =>
  bd (P_stream_size x22u1) fun r5_5u1 =>
  bd (P_stream_reader_bits (T_stream_reader.mk r_0.fb r5_6u2.2.1 r5_6u2.2.2) r5_5u1) fun r5_6u1 =>
  bd (
    lp (P_stream_reader_tile_L11u4 r_0 tracks1) fuel (0, r5_6u1.2.1, r5_6u1.2.2, [])) fun (b_r_0_1_L11u4, b_r_0_2_L11u4, b5_6_L11u4) =>
  bd (
    lp (P_stream_reader_tile_L11u3 r_0 tracks1) fuel (0, b_r_0_1_L11u4, b_r_0_2_L11u4, [])) fun (b_r_0_1_L11u3, b_r_0_2_L11u3, b5_7_L11u3) =>
  bd (
    lp (P_stream_reader_tile_L11u2 r_0 tracks1) fuel (0, b_r_0_1_L11u3, b_r_0_2_L11u3, [])) fun (b_r_0_1_L11u2, b_r_0_2_L11u2, b5_8_L11u2) =>
  bd (
    lp (P_stream_reader_tile_L11u1 r_0 tracks1) fuel (0, b_r_0_1_L11u2, b_r_0_2_L11u2, [])) fun (b_r_0_1_L11u1, b_r_0_2_L11u1, b5_9_L11u1) =>
  some ((T_array_Tile.mk x10 (decide (r1_4.1 = 1)) (T_anon180.mk r5_6u4.1 r5_6u3.1 r5_6u2.1 r5_6u1.1) (T_anon181.mk b5_6_L11u4 b5_7_L11u3 b5_8_L11u2 b5_9_L11u1)), b_r_0_1_L11u1, b_r_0_2_L11u1)
set_option maxHeartbeats 4000000 in
set_option maxRecDepth 100000 in
theorem c_stream_reader_tile {w0 w : World} {l : List Assn} {ρ : Heap} {b_r_0 : Nat} {A_r_0_0 : Option Addr} {n_r_0_0 : Nat} {c_r_0_0 : Nat} {r_0 : T_stream_reader} {tracks1 : Int} {r : (T_array_Tile × Int × Bool)} (hF : P_stream_reader_tile r_0 tracks1 = some r) (h_r_0_0 : RdS (RpI .u8) ρ A_r_0_0 n_r_0_0 c_r_0_0 r_0.fb) (hS : St w0 w (cells b_r_0 191 [.slice A_r_0_0 n_r_0_0 c_r_0_0, .int .i64 r_0.fat, .bool r_0.fover] :: ro ρ :: l)) :
    Calls Try.prog 96 #[.pointer (some ⟨b_r_0, 0, none⟩), .int .i64 tracks1] w fun e w' => ∃ (A_y0_ret_6 : Option Addr) (n_y0_ret_6 : Nat) (c_y0_ret_6 : Nat) (cs_y0_ret_6 : List Value) (A_y0_ret_7 : Option Addr) (n_y0_ret_7 : Nat) (c_y0_ret_7 : Nat) (cs_y0_ret_7 : List Value) (A_y0_ret_8 : Option Addr) (n_y0_ret_8 : Nat) (c_y0_ret_8 : Nat) (cs_y0_ret_8 : List Value) (A_y0_ret_9 : Option Addr) (n_y0_ret_9 : Nat) (c_y0_ret_9 : Nat) (cs_y0_ret_9 : List Value), e = .returned (.agg #[.int .u16 r.1.Table, .bool r.1.Init, .int .i64 r.1.In.fe0, .int .i64 r.1.In.fe1, .int .i64 r.1.In.fe2, .int .i64 r.1.In.fe3, .slice A_y0_ret_6 n_y0_ret_6 c_y0_ret_6, .slice A_y0_ret_7 n_y0_ret_7 c_y0_ret_7, .slice A_y0_ret_8 n_y0_ret_8 c_y0_ret_8, .slice A_y0_ret_9 n_y0_ret_9 c_y0_ret_9]) ∧ RepL (RpI .i64) ρ r.1.Out.fe0 cs_y0_ret_6 ∧ RepL (RpI .i64) ρ r.1.Out.fe1 cs_y0_ret_7 ∧ RepL (RpI .i64) ρ r.1.Out.fe2 cs_y0_ret_8 ∧ RepL (RpI .i64) ρ r.1.Out.fe3 cs_y0_ret_9 ∧ St w0 w' (vec 3 (RpI .i64).sz (.slice A_y0_ret_6 n_y0_ret_6 c_y0_ret_6) n_y0_ret_6 cs_y0_ret_6 :: vec 3 (RpI .i64).sz (.slice A_y0_ret_7 n_y0_ret_7 c_y0_ret_7) n_y0_ret_7 cs_y0_ret_7 :: vec 3 (RpI .i64).sz (.slice A_y0_ret_8 n_y0_ret_8 c_y0_ret_8) n_y0_ret_8 cs_y0_ret_8 :: vec 3 (RpI .i64).sz (.slice A_y0_ret_9 n_y0_ret_9 c_y0_ret_9) n_y0_ret_9 cs_y0_ret_9 :: cells b_r_0 191 [.slice A_r_0_0 n_r_0_0 c_r_0_0, .int .i64 r.2.1, .bool r.2.2] :: ro ρ :: l) := by
  have e_ := h_r_0_0.n; subst e_
  refine enterC Try.func96 rfl 48 rfl (by simp) ?_
  refine x_seq <| x_region <|
    ?_
  refine o_alloc zero_183 hS (fun b4 w' hS => ?_)
  replace hF := bd_s hF; obtain ⟨r1_1, hc1_1, hF⟩ := hF
  refine x_done <| x_seq <| x_region <| p (yl_move rfl) <|
    ?_
  have hcall := c_stream_reader_bits hc1_1 h_r_0_0 ((hS.pull 2).pull 2)
  refine o_cc call_94 (args2 rfl rfl) hcall ?_
  rintro e w' ⟨rfl, hS⟩
  refine ⟨_, rfl, ?_⟩
  replace hF := lv_s hF; obtain ⟨x10, hx10, hF⟩ := hF
  replace hF := bd_s hF; obtain ⟨r1_4, hc1_4, hF⟩ := hF
  refine p (yconvu wm_u16 uk_3 ik_179 rfl hx10) <| p (yl_move rfl) <|
    ?_
  have hcall := c_stream_reader_bits hc1_4 h_r_0_0 ((hS.pull 1).pull 1)
  refine o_cc call_94 (args2 rfl rfl) hcall ?_
  rintro e w' ⟨rfl, hS⟩
  refine ⟨_, rfl, ?_⟩
  refine p (yl_eql rfl rfl) <| p (v := .agg #[.int .u16 x10, .bool (decide (r1_4.1 = 1)), .int .i64 0, .int .i64 0, .int .i64 0, .int .i64 0, .slice none 0 0, .slice none 0 0, .slice none 0 0, .slice none 0 0]) (yl_build bld_183 bldf_183 (parts_eq (pt (va := .int .u16 x10) rfl (pt (va := .bool (decide (r1_4.1 = 1))) rfl pt0))) (by kernel_rfl)) <|
    ?_
  refine o_alloc zero_183 hS (fun b5 w' hS => ?_)
  refine o_storeAgg (news := [.int .u16 x10, .bool (decide (r1_4.1 = 1)), .int .i64 0, .int .i64 0, .int .i64 0, .int .i64 0, .slice none 0 0, .slice none 0 0, .slice none 0 0, .slice none 0 0]) agg_183 rfl rfl rfl (by simp [over_length]) hS (fun w' hS => ?_)
  replace hF := ar_s hF; obtain ⟨x21u4, hx21u4, hF⟩ := hF
  replace hF := ar_s hF; obtain ⟨x22u4, hx22u4, hF⟩ := hF
  replace hF := bd_s hF; obtain ⟨r5_5u4, hc5_5u4, hF⟩ := hF
  refine x_done <| x_seq <| x_seq <| x_region <|
    p (yl_move rfl) <| x_done <| x_block <| x_unroll 4 <|
    x_seq <| x_region <| p (ylss_l (t := true) rfl rfl (by decide)) <| x_done <|
    x_seq <| x_cond_t (show ev _ _ = .bool true from rfl) <| x_skip <| x_seq <|
    x_block <| x_seq <| x_region <| p (yl_move rfl) <|
    p (yl_assign rfl) <| x_done <| x_region <| p (yl_move rfl) <|
    p (yl_move rfl) <| p (yl_move rfl) <| p (ymul rfl rfl hx21u4) <| p (yadd rfl rfl hx22u4) <|
    ?_
  have hcall := c_stream_size hc5_5u4  (hS.pull 2)
  refine o_cc call_133 (args1 rfl) ((Calls.mono hcall (fun e w'' h => And.intro h.1 ((((h.2.pull 3).pull 1).pull 3).pull 3)))) ?_
  rintro e w' ⟨rfl, hS⟩
  refine ⟨_, rfl, ?_⟩
  replace hF := bd_s hF; obtain ⟨r5_6u4, hc5_6u4, hF⟩ := hF
  have hcall := c_stream_reader_bits hc5_6u4 h_r_0_0 ((hS.pull 2).pull 2)
  refine o_cc call_94 (args2 rfl rfl) hcall ?_
  rintro e w' ⟨rfl, hS⟩
  refine ⟨_, rfl, ?_⟩
  refine p (yl_field0 fld_183_2 rfl) <| p (yl_ixa (x := .tmp 25) (y := .tmp 18) (q := 2) arr_180 rfl rfl (by decide) rfl) <|
    ?_
  refine o_store1 (v := .int .i64 r5_6u4.1) one_3 rfl rfl rfl rfl (hS.pull 2) (fun w' hS => ?_)
  replace hF := ar_s hF; obtain ⟨x21u3, hx21u3, hF⟩ := hF
  replace hF := ar_s hF; obtain ⟨x22u3, hx22u3, hF⟩ := hF
  replace hF := bd_s hF; obtain ⟨r5_5u3, hc5_5u3, hF⟩ := hF
  refine x_done <| x_blk <| x_region <| p (yadd (c := 1) rfl rfl ⟨rfl, by decide⟩) <|
    p (yl_move rfl) <| x_done <| x_un 3 <| x_seq <|
    x_region <| p (ylss_l (t := true) rfl rfl (by decide)) <| x_done <| x_seq <|
    x_cond_t (show ev _ _ = .bool true from rfl) <| x_skip <| x_seq <| x_block <|
    x_seq <| x_region <| p (yl_move rfl) <| p (yl_assign rfl) <|
    x_done <| x_region <| p (yl_move rfl) <| p (yl_move rfl) <|
    p (yl_move rfl) <| p (ymul rfl rfl hx21u3) <| p (yadd rfl rfl hx22u3) <|
    ?_
  have hcall := c_stream_size hc5_5u3  (hS.pull 2)
  refine o_cc call_133 (args1 rfl) ((Calls.mono hcall (fun e w'' h => And.intro h.1 ((((h.2.pull 3).pull 1).pull 3).pull 3)))) ?_
  rintro e w' ⟨rfl, hS⟩
  refine ⟨_, rfl, ?_⟩
  replace hF := bd_s hF; obtain ⟨r5_6u3, hc5_6u3, hF⟩ := hF
  have hcall := c_stream_reader_bits hc5_6u3 h_r_0_0 ((hS.pull 2).pull 2)
  refine o_cc call_94 (args2 rfl rfl) hcall ?_
  rintro e w' ⟨rfl, hS⟩
  refine ⟨_, rfl, ?_⟩
  refine p (yl_field0 fld_183_2 rfl) <| p (yl_ixa (x := .tmp 25) (y := .tmp 18) (q := 3) arr_180 rfl rfl (by decide) rfl) <|
    ?_
  refine o_store1 (v := .int .i64 r5_6u3.1) one_3 rfl rfl rfl rfl (hS.pull 2) (fun w' hS => ?_)
  replace hF := ar_s hF; obtain ⟨x21u2, hx21u2, hF⟩ := hF
  replace hF := ar_s hF; obtain ⟨x22u2, hx22u2, hF⟩ := hF
  replace hF := bd_s hF; obtain ⟨r5_5u2, hc5_5u2, hF⟩ := hF
  refine x_done <| x_blk <| x_region <| p (yadd (c := 2) rfl rfl ⟨rfl, by decide⟩) <|
    p (yl_move rfl) <| x_done <| x_un 2 <| x_seq <|
    x_region <| p (ylss_l (t := true) rfl rfl (by decide)) <| x_done <| x_seq <|
    x_cond_t (show ev _ _ = .bool true from rfl) <| x_skip <| x_seq <| x_block <|
    x_seq <| x_region <| p (yl_move rfl) <| p (yl_assign rfl) <|
    x_done <| x_region <| p (yl_move rfl) <| p (yl_move rfl) <|
    p (yl_move rfl) <| p (ymul rfl rfl hx21u2) <| p (yadd rfl rfl hx22u2) <|
    ?_
  have hcall := c_stream_size hc5_5u2  (hS.pull 2)
  refine o_cc call_133 (args1 rfl) ((Calls.mono hcall (fun e w'' h => And.intro h.1 ((((h.2.pull 3).pull 1).pull 3).pull 3)))) ?_
  rintro e w' ⟨rfl, hS⟩
  refine ⟨_, rfl, ?_⟩
  replace hF := bd_s hF; obtain ⟨r5_6u2, hc5_6u2, hF⟩ := hF
  have hcall := c_stream_reader_bits hc5_6u2 h_r_0_0 ((hS.pull 2).pull 2)
  refine o_cc call_94 (args2 rfl rfl) hcall ?_
  rintro e w' ⟨rfl, hS⟩
  refine ⟨_, rfl, ?_⟩
  refine p (yl_field0 fld_183_2 rfl) <| p (yl_ixa (x := .tmp 25) (y := .tmp 18) (q := 4) arr_180 rfl rfl (by decide) rfl) <|
    ?_
  refine o_store1 (v := .int .i64 r5_6u2.1) one_3 rfl rfl rfl rfl (hS.pull 2) (fun w' hS => ?_)
  replace hF := ar_s hF; obtain ⟨x21u1, hx21u1, hF⟩ := hF
  replace hF := ar_s hF; obtain ⟨x22u1, hx22u1, hF⟩ := hF
  replace hF := bd_s hF; obtain ⟨r5_5u1, hc5_5u1, hF⟩ := hF
  refine x_done <| x_blk <| x_region <| p (yadd (c := 3) rfl rfl ⟨rfl, by decide⟩) <|
    p (yl_move rfl) <| x_done <| x_un 1 <| x_seq <|
    x_region <| p (ylss_l (t := true) rfl rfl (by decide)) <| x_done <| x_seq <|
    x_cond_t (show ev _ _ = .bool true from rfl) <| x_skip <| x_seq <| x_block <|
    x_seq <| x_region <| p (yl_move rfl) <| p (yl_assign rfl) <|
    x_done <| x_region <| p (yl_move rfl) <| p (yl_move rfl) <|
    p (yl_move rfl) <| p (ymul rfl rfl hx21u1) <| p (yadd rfl rfl hx22u1) <|
    ?_
  have hcall := c_stream_size hc5_5u1  (hS.pull 2)
  refine o_cc call_133 (args1 rfl) ((Calls.mono hcall (fun e w'' h => And.intro h.1 ((((h.2.pull 3).pull 1).pull 3).pull 3)))) ?_
  rintro e w' ⟨rfl, hS⟩
  refine ⟨_, rfl, ?_⟩
  replace hF := bd_s hF; obtain ⟨r5_6u1, hc5_6u1, hF⟩ := hF
  have hcall := c_stream_reader_bits hc5_6u1 h_r_0_0 ((hS.pull 2).pull 2)
  refine o_cc call_94 (args2 rfl rfl) hcall ?_
  rintro e w' ⟨rfl, hS⟩
  refine ⟨_, rfl, ?_⟩
  refine p (yl_field0 fld_183_2 rfl) <| p (yl_ixa (x := .tmp 25) (y := .tmp 18) (q := 5) arr_180 rfl rfl (by decide) rfl) <|
    ?_
  refine o_store1 (v := .int .i64 r5_6u1.1) one_3 rfl rfl rfl rfl (hS.pull 2) (fun w' hS => ?_)
  refine x_done <| x_blk <| x_region <| p (yadd (c := 4) rfl rfl ⟨rfl, by decide⟩) <|
    p (yl_move rfl) <| x_done <| x_un 0 <| x_seq <|
    x_region <| p (ylss_l (t := false) rfl rfl (by decide)) <| x_done <| x_seq <|
    x_cond_f (show ev _ _ = .bool false from rfl) <| x_exitTo _ rfl <| x_seq <| x_seq <|
    x_region <| p (yl_move rfl) <| x_done <| x_block <|
    x_unroll 4 <| x_seq <| x_region <| p (ylss_l (t := true) rfl rfl (by decide)) <|
    x_done <| x_seq <| x_cond_t (show ev _ _ = .bool true from rfl) <| x_skip <|
    x_seq <| x_block <| x_seq <| x_region <|
    p (yl_move rfl) <| p (yl_assign rfl) <| x_done <| x_seq <|
    x_region <| p (yl_move rfl) <| p (yl_move rfl) <| x_done <|
    ?_
  replace hF := bd_s hF; obtain ⟨oL11u4, hLL11u4, hF⟩ := hF
  refine x_join (fun E w => ∃ (A_b5_6_L11u4 : Option Addr) (n_b5_6_L11u4 : Nat) (c_b5_6_L11u4 : Nat) (cs_b5_6_L11u4 : List Value) (b_r_0_1_L11u4 : Int) (b_r_0_2_L11u4 : Bool) (b5_6_L11u4 : List Int), (b_r_0_1_L11u4, b_r_0_2_L11u4, b5_6_L11u4) = oL11u4 ∧ E 0 = .pointer (some ⟨b_r_0, 0, none⟩) ∧ E 1 = .int .i64 tracks1 ∧ E 4 = .pointer (some ⟨b4, 0, none⟩) ∧ E 5 = .pointer (some ⟨b5, 0, none⟩) ∧ E 28 = .int .i64 0 ∧ RepL (RpI .i64) ρ b5_6_L11u4 cs_b5_6_L11u4 ∧ St w0 w (cells b_r_0 191 [.slice A_r_0_0 r_0.fb.length c_r_0_0, .int .i64 b_r_0_1_L11u4, .bool b_r_0_2_L11u4] :: cells b4 183 [.int .u16 0, .bool false, .int .i64 0, .int .i64 0, .int .i64 0, .int .i64 0, .slice none 0 0, .slice none 0 0, .slice none 0 0, .slice none 0 0] :: cells b5 183 [.int .u16 x10, .bool (decide (r1_4.1 = 1)), .int .i64 r5_6u4.1, .int .i64 r5_6u3.1, .int .i64 r5_6u2.1, .int .i64 r5_6u1.1, .slice A_b5_6_L11u4 n_b5_6_L11u4 c_b5_6_L11u4, .slice none 0 0, .slice none 0 0, .slice none 0 0] :: vec 3 (RpI .i64).sz (.slice A_b5_6_L11u4 n_b5_6_L11u4 c_b5_6_L11u4) n_b5_6_L11u4 cs_b5_6_L11u4 :: ro ρ :: l)) ?_ ?_
  · skip -- L11u4
    refine x_block ?_
    replace hS := St.vec_nil hS 3 (RpI .i64).sz
    have hnil_A_b5_6_L11u4h : RepL (RpI .i64) ρ [] [] := rfl
    refine x_loop (fun k_ E w => ∃ (A_b5_6_L11u4h : Option Addr) (n_b5_6_L11u4h : Nat) (c_b5_6_L11u4h : Nat) (cs_b5_6_L11u4h : List Value) (y32_L11u4h : Int) (b_r_0_1_L11u4h : Int) (b_r_0_2_L11u4h : Bool) (b5_6_L11u4h : List Int), lp (P_stream_reader_tile_L11u4 r_0 tracks1) k_ (y32_L11u4h, b_r_0_1_L11u4h, b_r_0_2_L11u4h, b5_6_L11u4h) = some oL11u4 ∧ E 0 = .pointer (some ⟨b_r_0, 0, none⟩) ∧ E 1 = .int .i64 tracks1 ∧ E 4 = .pointer (some ⟨b4, 0, none⟩) ∧ E 5 = .pointer (some ⟨b5, 0, none⟩) ∧ E 7 = .int .i64 0 ∧ E 28 = .int .i64 0 ∧ E 31 = .int .i64 tracks1 ∧ E 32 = .int .i64 y32_L11u4h ∧ RepL (RpI .i64) ρ b5_6_L11u4h cs_b5_6_L11u4h ∧ St w0 w (cells b_r_0 191 [.slice A_r_0_0 r_0.fb.length c_r_0_0, .int .i64 b_r_0_1_L11u4h, .bool b_r_0_2_L11u4h] :: cells b4 183 [.int .u16 0, .bool false, .int .i64 0, .int .i64 0, .int .i64 0, .int .i64 0, .slice none 0 0, .slice none 0 0, .slice none 0 0, .slice none 0 0] :: cells b5 183 [.int .u16 x10, .bool (decide (r1_4.1 = 1)), .int .i64 r5_6u4.1, .int .i64 r5_6u3.1, .int .i64 r5_6u2.1, .int .i64 r5_6u1.1, .slice A_b5_6_L11u4h n_b5_6_L11u4h c_b5_6_L11u4h, .slice none 0 0, .slice none 0 0, .slice none 0 0] :: vec 3 (RpI .i64).sz (.slice A_b5_6_L11u4h n_b5_6_L11u4h c_b5_6_L11u4h) n_b5_6_L11u4h cs_b5_6_L11u4h :: ro ρ :: l)) fuel ⟨none, 0, 0, [], 0, r5_6u1.2.1, r5_6u1.2.2, [], hLL11u4, rfl, rfl, rfl, rfl, rfl, rfl, rfl, rfl, hnil_A_b5_6_L11u4h, (((((hS.pull 3).pull 1).pull 2).pull 4).pull 4)⟩ ?_
    rintro kL11u4 E w ⟨A_b5_6_L11u4h, n_b5_6_L11u4h, c_b5_6_L11u4h, cs_b5_6_L11u4h, y32_L11u4h, b_r_0_1_L11u4h, b_r_0_2_L11u4h, b5_6_L11u4h, hLL11u4, eL11u4h_0, eL11u4h_1, eL11u4h_4, eL11u4h_5, eL11u4h_7, eL11u4h_28, eL11u4h_31, eL11u4h_32, h_b5_6_L11u4h, hS⟩
    have e_ := St.vec_n (hS.pull 3) h_b5_6_L11u4h; subst e_
    replace hLL11u4 := lp_s hLL11u4; obtain ⟨kL11u4, obL11u4, rfl, hFL11u4, hLL11u4⟩ := hLL11u4
    refine x_seq <| x_region <| p (yl_lss eL11u4h_32 eL11u4h_31) <| x_done <|
      x_seq <|
      x_cond_p (y32_L11u4h < tracks1) rfl (fun hc33u4 => ?_) (fun hc33u4 => ?_)
    · replace hFL11u4 := it_t hc33u4 hFL11u4
      refine x_skip <| x_seq <| x_block <|
        ?_
      replace hFL11u4 := bd_s hFL11u4; obtain ⟨r12u4_6, hc12u4_6, hFL11u4⟩ := hFL11u4
      replace hFL11u4 := lv_s hFL11u4; obtain ⟨z12u4_8, hz12u4_8, hFL11u4⟩ := hFL11u4
      replace hFL11u4 := ck_s hFL11u4; obtain ⟨hk12u4_8, hFL11u4⟩ := hFL11u4
      refine x_par (w0 := w0) [⟨[], [], [34], [], [], []⟩, ⟨[], [], [35], [], [], []⟩, ⟨[], [], [36], [], [], []⟩, ⟨[1, 2], [1, 2], [37], [], [], []⟩, ⟨[1, 2, 3], [3], [38], [0], [], []⟩, ⟨[], [], [39], [], [], []⟩, ⟨[5], [5], [40], [2], [1], [3]⟩, ⟨[5, 6], [6], [41], [], [], [4]⟩, ⟨[1, 2, 3, 4, 5, 6, 7], [4, 7], [42], [4, 2], [5], [6]⟩, ⟨[], [], [43], [], [], []⟩, ⟨[0, 1, 2, 3, 4, 5, 6, 7, 8, 9], [0, 9], [44], [], [], []⟩, ⟨[0, 1, 2, 3, 4, 5, 6, 7, 8, 9, 10], [8, 10], [], [], [0], [7]⟩] [⟨none, (some 11), []⟩, ⟨none, (some 6), []⟩, ⟨none, none, []⟩, ⟨(some 6), none, []⟩, ⟨(some 7), none, [41]⟩, ⟨none, (some 8), []⟩, ⟨(some 8), none, [42]⟩, ⟨(some 11), none, [42]⟩] [34, 35, 36, 37, 38, 39, 40, 41, 42, 43, 44] [0, 1, 2, 5] [2, 3, 4, 6, 7] [0, 1, 2, 3, 4, 5, 6, 7, 8, 9, 10] [fun Ep12u4 => Ep12u4 34 = .int .i64 0, fun Ep12u4 => Ep12u4 35 = .int .i64 0, fun Ep12u4 => Ep12u4 36 = .pointer (some ⟨b5, 6, none⟩), fun Ep12u4 => Ep12u4 37 = .pointer (some ⟨b5, 6, none⟩), fun Ep12u4 => Ep12u4 38 = .slice A_b5_6_L11u4h b5_6_L11u4h.length c_b5_6_L11u4h, fun Ep12u4 => Ep12u4 39 = .pointer (some ⟨b_r_0, 0, none⟩), fun Ep12u4 => Ep12u4 40 = .int .i64 r12u4_6.1, fun Ep12u4 => Ep12u4 41 = .slice (some ⟨(blkOf (Ep12u4 41)), 0, none⟩) 1 1, fun Ep12u4 => Ep12u4 42 = .slice (adOf (Ep12u4 42)) z12u4_8.length (capOf (Ep12u4 42)), fun Ep12u4 => Ep12u4 43 = .pointer (some ⟨b5, 6, none⟩), fun Ep12u4 => Ep12u4 44 = .pointer (some ⟨b5, 6, none⟩), fun Ep12u4 => True] [fun Ep12u4 => cells b5 183 [.int .u16 x10, .bool (decide (r1_4.1 = 1)), .int .i64 r5_6u4.1, .int .i64 r5_6u3.1, .int .i64 r5_6u2.1, .int .i64 r5_6u1.1, .slice A_b5_6_L11u4h b5_6_L11u4h.length c_b5_6_L11u4h, .slice none 0 0, .slice none 0 0, .slice none 0 0], fun Ep12u4 => cells b_r_0 191 [.slice A_r_0_0 r_0.fb.length c_r_0_0, .int .i64 b_r_0_1_L11u4h, .bool b_r_0_2_L11u4h], fun Ep12u4 => ro ρ, fun Ep12u4 => cells b_r_0 191 [.slice A_r_0_0 r_0.fb.length c_r_0_0, .int .i64 r12u4_6.2.1, .bool r12u4_6.2.2], fun Ep12u4 => cells (blkOf (Ep12u4 41)) 3 [.int .i64 r12u4_6.1], fun Ep12u4 => vec 3 (RpI .i64).sz (.slice A_b5_6_L11u4h b5_6_L11u4h.length c_b5_6_L11u4h) b5_6_L11u4h.length cs_b5_6_L11u4h, fun Ep12u4 => bunA (fun (cs42u4 : List Value) => RepL (RpI .i64) ρ z12u4_8 cs42u4) (fun (cs42u4 : List Value) => [vec 3 (RpI .i64).sz (.slice (adOf (Ep12u4 42)) z12u4_8.length (capOf (Ep12u4 42))) z12u4_8.length cs42u4]), fun Ep12u4 => cells b5 183 [.int .u16 x10, .bool (decide (r1_4.1 = 1)), .int .i64 r5_6u4.1, .int .i64 r5_6u3.1, .int .i64 r5_6u2.1, .int .i64 r5_6u1.1, .slice (adOf (Ep12u4 42)) z12u4_8.length (capOf (Ep12u4 42)), .slice none 0 0, .slice none 0 0, .slice none 0 0]] mixed (by kernel_rfl) ((((hS.pull 3).pull 4).pull 2).pull 4) ?_ ?_
      · refine ⟨?_, ?_, ?_, ?_, ?_, ?_, ?_, ?_, ?_, ?_, ?_, ?_, trivial⟩
        · intro Ep12u4 w l' hE12u4 hO12u4 hF_ hS
          refine p (yl_move ((hE12u4 7 rfl).trans eL11u4h_7)) <| x_done <|
            ?_
          refine x_fin ⟨⟨_, rfl⟩, rfl, ?_⟩
          exact Eq.mp (by kernel_rfl) hS
        · intro Ep12u4 w l' hE12u4 hO12u4 hF_ hS
          refine p (yl_move ((hE12u4 7 rfl).trans eL11u4h_7)) <| x_done <|
            ?_
          refine x_fin ⟨⟨_, rfl⟩, rfl, ?_⟩
          exact Eq.mp (by kernel_rfl) hS
        · intro Ep12u4 w l' hE12u4 hO12u4 hF_ hS
          refine p (yl_field0 fld_183_3 ((hE12u4 5 rfl).trans eL11u4h_5)) <| x_done <|
            ?_
          refine x_fin ⟨⟨_, rfl⟩, rfl, ?_⟩
          exact Eq.mp (by kernel_rfl) hS
        · intro Ep12u4 w l' hE12u4 hO12u4 hF_ hS
          obtain ⟨f12u4_1, f12u4_2, -⟩ := hF_
          replace f12u4_1 : Ep12u4 35 = .int .i64 0 := Eq.mp (by kernel_rfl) f12u4_1
          replace f12u4_2 : Ep12u4 36 = .pointer (some ⟨b5, 6, none⟩) := Eq.mp (by kernel_rfl) f12u4_2
          refine p (yl_ixa (x := .tmp 36) (y := .tmp 35) (q := 6) arr_181 f12u4_2 f12u4_1 (by decide) rfl) <| x_done <|
            ?_
          refine x_fin ⟨⟨_, rfl⟩, rfl, ?_⟩
          exact Eq.mp (by kernel_rfl) hS
        · intro Ep12u4 w l' hE12u4 hO12u4 hF_ hS
          obtain ⟨f12u4_3, -⟩ := hF_
          replace f12u4_3 : Ep12u4 37 = .pointer (some ⟨b5, 6, none⟩) := Eq.mp (by kernel_rfl) f12u4_3
          replace hS : St w0 w (cells b5 183 [.int .u16 x10, .bool (decide (r1_4.1 = 1)), .int .i64 r5_6u4.1, .int .i64 r5_6u3.1, .int .i64 r5_6u2.1, .int .i64 r5_6u1.1, .slice A_b5_6_L11u4h b5_6_L11u4h.length c_b5_6_L11u4h, .slice none 0 0, .slice none 0 0, .slice none 0 0] :: l') := Eq.mp (by kernel_rfl) hS
          refine pa (at_load one_22 f12u4_3 (hS.cell rfl)) <| x_done <|
            ?_
          refine x_fin ⟨⟨_, rfl⟩, rfl, ?_⟩
          exact Eq.mp (by kernel_rfl) hS
        · intro Ep12u4 w l' hE12u4 hO12u4 hF_ hS
          refine p (yl_move ((hE12u4 0 rfl).trans eL11u4h_0)) <| x_done <|
            ?_
          refine x_fin ⟨⟨_, rfl⟩, rfl, ?_⟩
          exact Eq.mp (by kernel_rfl) hS
        · intro Ep12u4 w l' hE12u4 hO12u4 hF_ hS
          obtain ⟨f12u4_5, -⟩ := hF_
          replace f12u4_5 : Ep12u4 39 = .pointer (some ⟨b_r_0, 0, none⟩) := Eq.mp (by kernel_rfl) f12u4_5
          replace hS : St w0 w (ro ρ :: cells b_r_0 191 [.slice A_r_0_0 r_0.fb.length c_r_0_0, .int .i64 b_r_0_1_L11u4h, .bool b_r_0_2_L11u4h] :: l') := Eq.mp (by kernel_rfl) hS
          have hcall := c_stream_reader_bits hc12u4_6 h_r_0_0 (hS.pull 1)
          refine o_cc call_94 (args2 f12u4_5 rfl) hcall ?_
          rintro e w' ⟨rfl, hS⟩
          refine ⟨_, rfl, ?_⟩
          refine x_done <|
            ?_
          refine x_fin ⟨⟨_, rfl⟩, rfl, ?_⟩
          exact Eq.mp (by kernel_rfl) (hS.pull 1)
        · intro Ep12u4 w l' hE12u4 hO12u4 hF_ hS
          obtain ⟨f12u4_6, -⟩ := hF_
          replace f12u4_6 : Ep12u4 40 = .int .i64 r12u4_6.1 := Eq.mp (by kernel_rfl) f12u4_6
          refine o_buildSlice (vs := [.int .i64 r12u4_6.1]) (cs := [.int .i64 r12u4_6.1]) sl_22 zero_3 (parts_eq (pt (va := .int .i64 r12u4_6.1) f12u4_6 pt0)) rfl (by intro v hv; simp only [List.mem_cons, List.not_mem_nil, or_false] at hv; first | (subst hv; rfl) | (rcases hv with rfl <;> rfl)) (by decide) rfl hS (fun b41u4 w' hS => ?_)
          refine x_done <|
            ?_
          refine x_fin ⟨⟨_, rfl⟩, rfl, ?_⟩
          exact Eq.mp (by kernel_rfl) hS
        · intro Ep12u4 w l' hE12u4 hO12u4 hF_ hS
          obtain ⟨f12u4_4, f12u4_7, -⟩ := hF_
          replace f12u4_4 : Ep12u4 38 = .slice A_b5_6_L11u4h b5_6_L11u4h.length c_b5_6_L11u4h := Eq.mp (by kernel_rfl) f12u4_4
          replace f12u4_7 : Ep12u4 41 = .slice (some ⟨(blkOf (Ep12u4 41)), 0, none⟩) 1 1 := Eq.mp (by kernel_rfl) f12u4_7
          replace hS : St w0 w (cells (blkOf (Ep12u4 41)) 3 [.int .i64 r12u4_6.1] :: ro ρ :: vec 3 (RpI .i64).sz (.slice A_b5_6_L11u4h b5_6_L11u4h.length c_b5_6_L11u4h) b5_6_L11u4h.length cs_b5_6_L11u4h :: l') := Eq.mp (by kernel_rfl) hS
          refine o_ap sl_22 zero_3 rfl (by decide) f12u4_4 f12u4_7 (hS.pull 2) h_b5_6_L11u4h (src_blk usl_22 hS rfl rfl) (RepL.cons (R := (RpI .i64)) (ρ := ρ) (x := r12u4_6.1) (cs := [.int .i64 r12u4_6.1]) rfl RepL.nil) hz12u4_8 hk12u4_8 (fun A42u4 c42u4 cs42u4 w' hr42u4 hS => ?_)
          refine x_done <|
            ?_
          refine x_fin ⟨⟨_, rfl⟩, rfl, ?_⟩
          replace hS := St.bun (Φ := (fun (cs42u4 : List Value) => RepL (RpI .i64) ρ z12u4_8 cs42u4)) (L := (fun (cs42u4 : List Value) => [vec 3 (RpI .i64).sz (.slice A42u4 z12u4_8.length c42u4) z12u4_8.length cs42u4])) cs42u4 hr42u4 hS
          exact Eq.mp (by kernel_rfl) ((hS.pull 2).pull 2)
        · intro Ep12u4 w l' hE12u4 hO12u4 hF_ hS
          refine p (yl_field0 fld_183_3 ((hE12u4 5 rfl).trans eL11u4h_5)) <| x_done <|
            ?_
          refine x_fin ⟨⟨_, rfl⟩, rfl, ?_⟩
          exact Eq.mp (by kernel_rfl) hS
        · intro Ep12u4 w l' hE12u4 hO12u4 hF_ hS
          obtain ⟨f12u4_0, f12u4_9, -⟩ := hF_
          replace f12u4_0 : Ep12u4 34 = .int .i64 0 := Eq.mp (by kernel_rfl) f12u4_0
          replace f12u4_9 : Ep12u4 43 = .pointer (some ⟨b5, 6, none⟩) := Eq.mp (by kernel_rfl) f12u4_9
          refine p (yl_ixa (x := .tmp 43) (y := .tmp 34) (q := 6) arr_181 f12u4_9 f12u4_0 (by decide) rfl) <| x_done <|
            ?_
          refine x_fin ⟨⟨_, rfl⟩, rfl, ?_⟩
          exact Eq.mp (by kernel_rfl) hS
        · intro Ep12u4 w l' hE12u4 hO12u4 hF_ hS
          obtain ⟨f12u4_8, f12u4_10, -⟩ := hF_
          replace f12u4_8 : Ep12u4 42 = .slice (adOf (Ep12u4 42)) z12u4_8.length (capOf (Ep12u4 42)) := Eq.mp (by kernel_rfl) f12u4_8
          replace f12u4_10 : Ep12u4 44 = .pointer (some ⟨b5, 6, none⟩) := Eq.mp (by kernel_rfl) f12u4_10
          replace hS : St w0 w (cells b5 183 [.int .u16 x10, .bool (decide (r1_4.1 = 1)), .int .i64 r5_6u4.1, .int .i64 r5_6u3.1, .int .i64 r5_6u2.1, .int .i64 r5_6u1.1, .slice A_b5_6_L11u4h b5_6_L11u4h.length c_b5_6_L11u4h, .slice none 0 0, .slice none 0 0, .slice none 0 0] :: l') := Eq.mp (by kernel_rfl) hS
          refine o_store1 (v := .slice (adOf (Ep12u4 42)) z12u4_8.length (capOf (Ep12u4 42))) one_22 f12u4_10 f12u4_8 rfl rfl hS (fun w' hS => ?_)
          refine x_done <|
            ?_
          refine x_fin ⟨⟨undef, rfl⟩, trivial, ?_⟩
          exact Eq.mp (by kernel_rfl) hS
      intro Ep12u4 w' hE12u4 hF_ hS
      obtain ⟨f12u4_0, f12u4_1, f12u4_2, f12u4_3, f12u4_4, f12u4_5, f12u4_6, f12u4_7, f12u4_8, f12u4_9, f12u4_10, -⟩ := hF_
      replace f12u4_0 : Ep12u4 34 = .int .i64 0 := Eq.mp (by kernel_rfl) f12u4_0
      replace f12u4_1 : Ep12u4 35 = .int .i64 0 := Eq.mp (by kernel_rfl) f12u4_1
      replace f12u4_2 : Ep12u4 36 = .pointer (some ⟨b5, 6, none⟩) := Eq.mp (by kernel_rfl) f12u4_2
      replace f12u4_3 : Ep12u4 37 = .pointer (some ⟨b5, 6, none⟩) := Eq.mp (by kernel_rfl) f12u4_3
      replace f12u4_4 : Ep12u4 38 = .slice A_b5_6_L11u4h b5_6_L11u4h.length c_b5_6_L11u4h := Eq.mp (by kernel_rfl) f12u4_4
      replace f12u4_5 : Ep12u4 39 = .pointer (some ⟨b_r_0, 0, none⟩) := Eq.mp (by kernel_rfl) f12u4_5
      replace f12u4_6 : Ep12u4 40 = .int .i64 r12u4_6.1 := Eq.mp (by kernel_rfl) f12u4_6
      replace f12u4_7 : Ep12u4 41 = .slice (some ⟨(blkOf (Ep12u4 41)), 0, none⟩) 1 1 := Eq.mp (by kernel_rfl) f12u4_7
      replace f12u4_8 : Ep12u4 42 = .slice (adOf (Ep12u4 42)) z12u4_8.length (capOf (Ep12u4 42)) := Eq.mp (by kernel_rfl) f12u4_8
      replace f12u4_9 : Ep12u4 43 = .pointer (some ⟨b5, 6, none⟩) := Eq.mp (by kernel_rfl) f12u4_9
      replace f12u4_10 : Ep12u4 44 = .pointer (some ⟨b5, 6, none⟩) := Eq.mp (by kernel_rfl) f12u4_10
      replace hS : St w0 w' (ro ρ :: cells b_r_0 191 [.slice A_r_0_0 r_0.fb.length c_r_0_0, .int .i64 r12u4_6.2.1, .bool r12u4_6.2.2] :: cells (blkOf (Ep12u4 41)) 3 [.int .i64 r12u4_6.1] :: bunA (fun (cs42u4 : List Value) => RepL (RpI .i64) ρ z12u4_8 cs42u4) (fun (cs42u4 : List Value) => [vec 3 (RpI .i64).sz (.slice (adOf (Ep12u4 42)) z12u4_8.length (capOf (Ep12u4 42))) z12u4_8.length cs42u4]) :: cells b5 183 [.int .u16 x10, .bool (decide (r1_4.1 = 1)), .int .i64 r5_6u4.1, .int .i64 r5_6u3.1, .int .i64 r5_6u2.1, .int .i64 r5_6u1.1, .slice (adOf (Ep12u4 42)) z12u4_8.length (capOf (Ep12u4 42)), .slice none 0 0, .slice none 0 0, .slice none 0 0] :: (cells b4 183 [.int .u16 0, .bool false, .int .i64 0, .int .i64 0, .int .i64 0, .int .i64 0, .slice none 0 0, .slice none 0 0, .slice none 0 0, .slice none 0 0] :: l)) := Eq.mp (by kernel_rfl) hS
      have q_ := St.unbun (hS.pull 3); obtain ⟨cs42u4, hr42u4, hS⟩ := q_
      replace hFL11u4 := ar_s hFL11u4; obtain ⟨x45u4, hx45u4, hFL11u4⟩ := hFL11u4
      refine x_blk <| x_region <| p (yadd ((hE12u4 32 rfl).trans eL11u4h_32) rfl hx45u4) <| p (yl_move rfl) <|
        x_done <|
        ?_
      have e_ := Option.some.inj (show some _ = some _ from hFL11u4); subst e_
      exact x_inv ⟨kL11u4, Nat.lt_succ_self _, (adOf (Ep12u4 42)), z12u4_8.length, (capOf (Ep12u4 42)), cs42u4, x45u4, r12u4_6.2.1, r12u4_6.2.2, z12u4_8, hLL11u4, ((hE12u4 0 rfl).trans eL11u4h_0), ((hE12u4 1 rfl).trans eL11u4h_1), ((hE12u4 4 rfl).trans eL11u4h_4), ((hE12u4 5 rfl).trans eL11u4h_5), ((hE12u4 7 rfl).trans eL11u4h_7), ((hE12u4 28 rfl).trans eL11u4h_28), ((hE12u4 31 rfl).trans eL11u4h_31), rfl, hr42u4, ((((((hS.pull 3).drop.pull 1).pull 1).pull 3).pull 4).pull 4)⟩
    · replace hFL11u4 := it_f hc33u4 hFL11u4
      refine x_exitTo _ rfl <|
        ?_
      have e_ := Option.some.inj (show some _ = some _ from hFL11u4); subst e_
      exact x_inv ⟨A_b5_6_L11u4h, b5_6_L11u4h.length, c_b5_6_L11u4h, cs_b5_6_L11u4h, b_r_0_1_L11u4h, b_r_0_2_L11u4h, b5_6_L11u4h, hLL11u4, eL11u4h_0, eL11u4h_1, eL11u4h_4, eL11u4h_5, eL11u4h_28, h_b5_6_L11u4h, (((((hS.pull 4).pull 4).pull 4).pull 4).pull 4)⟩
  rintro E w ⟨A_b5_6_L11u4, n_b5_6_L11u4, c_b5_6_L11u4, cs_b5_6_L11u4, b_r_0_1_L11u4, b_r_0_2_L11u4, b5_6_L11u4, rfl, eL11u4_0, eL11u4_1, eL11u4_4, eL11u4_5, eL11u4_28, h_b5_6_L11u4, hS⟩
  have e_ := St.vec_n (hS.pull 3) h_b5_6_L11u4; subst e_
  refine x_blk <| x_region <| p (yadd (c := 1) eL11u4_28 rfl ⟨rfl, by decide⟩) <| p (yl_move rfl) <|
    x_done <| x_un 3 <| x_seq <| x_region <|
    p (ylss_l (t := true) rfl rfl (by decide)) <| x_done <| x_seq <| x_cond_t (show ev _ _ = .bool true from rfl) <|
    x_skip <| x_seq <| x_block <| x_seq <|
    x_region <| p (yl_move rfl) <| p (yl_assign rfl) <| x_done <|
    x_seq <| x_region <| p (yl_move eL11u4_1) <| p (yl_move rfl) <|
    x_done <|
    ?_
  replace hF := bd_s hF; obtain ⟨oL11u3, hLL11u3, hF⟩ := hF
  refine x_join (fun E w => ∃ (A_b5_7_L11u3 : Option Addr) (n_b5_7_L11u3 : Nat) (c_b5_7_L11u3 : Nat) (cs_b5_7_L11u3 : List Value) (b_r_0_1_L11u3 : Int) (b_r_0_2_L11u3 : Bool) (b5_7_L11u3 : List Int), (b_r_0_1_L11u3, b_r_0_2_L11u3, b5_7_L11u3) = oL11u3 ∧ E 0 = .pointer (some ⟨b_r_0, 0, none⟩) ∧ E 1 = .int .i64 tracks1 ∧ E 4 = .pointer (some ⟨b4, 0, none⟩) ∧ E 5 = .pointer (some ⟨b5, 0, none⟩) ∧ E 28 = .int .i64 1 ∧ RepL (RpI .i64) ρ b5_7_L11u3 cs_b5_7_L11u3 ∧ St w0 w (cells b_r_0 191 [.slice A_r_0_0 r_0.fb.length c_r_0_0, .int .i64 b_r_0_1_L11u3, .bool b_r_0_2_L11u3] :: cells b4 183 [.int .u16 0, .bool false, .int .i64 0, .int .i64 0, .int .i64 0, .int .i64 0, .slice none 0 0, .slice none 0 0, .slice none 0 0, .slice none 0 0] :: cells b5 183 [.int .u16 x10, .bool (decide (r1_4.1 = 1)), .int .i64 r5_6u4.1, .int .i64 r5_6u3.1, .int .i64 r5_6u2.1, .int .i64 r5_6u1.1, .slice A_b5_6_L11u4 b5_6_L11u4.length c_b5_6_L11u4, .slice A_b5_7_L11u3 n_b5_7_L11u3 c_b5_7_L11u3, .slice none 0 0, .slice none 0 0] :: vec 3 (RpI .i64).sz (.slice A_b5_6_L11u4 b5_6_L11u4.length c_b5_6_L11u4) b5_6_L11u4.length cs_b5_6_L11u4 :: vec 3 (RpI .i64).sz (.slice A_b5_7_L11u3 n_b5_7_L11u3 c_b5_7_L11u3) n_b5_7_L11u3 cs_b5_7_L11u3 :: ro ρ :: l)) ?_ ?_
  · skip -- L11u3
    refine x_block ?_
    replace hS := St.vec_nil hS 3 (RpI .i64).sz
    have hnil_A_b5_7_L11u3h : RepL (RpI .i64) ρ [] [] := rfl
    refine x_loop (fun k_ E w => ∃ (A_b5_7_L11u3h : Option Addr) (n_b5_7_L11u3h : Nat) (c_b5_7_L11u3h : Nat) (cs_b5_7_L11u3h : List Value) (y32_L11u3h : Int) (b_r_0_1_L11u3h : Int) (b_r_0_2_L11u3h : Bool) (b5_7_L11u3h : List Int), lp (P_stream_reader_tile_L11u3 r_0 tracks1) k_ (y32_L11u3h, b_r_0_1_L11u3h, b_r_0_2_L11u3h, b5_7_L11u3h) = some oL11u3 ∧ E 0 = .pointer (some ⟨b_r_0, 0, none⟩) ∧ E 1 = .int .i64 tracks1 ∧ E 4 = .pointer (some ⟨b4, 0, none⟩) ∧ E 5 = .pointer (some ⟨b5, 0, none⟩) ∧ E 7 = .int .i64 1 ∧ E 28 = .int .i64 1 ∧ E 31 = .int .i64 tracks1 ∧ E 32 = .int .i64 y32_L11u3h ∧ RepL (RpI .i64) ρ b5_7_L11u3h cs_b5_7_L11u3h ∧ St w0 w (cells b_r_0 191 [.slice A_r_0_0 r_0.fb.length c_r_0_0, .int .i64 b_r_0_1_L11u3h, .bool b_r_0_2_L11u3h] :: cells b4 183 [.int .u16 0, .bool false, .int .i64 0, .int .i64 0, .int .i64 0, .int .i64 0, .slice none 0 0, .slice none 0 0, .slice none 0 0, .slice none 0 0] :: cells b5 183 [.int .u16 x10, .bool (decide (r1_4.1 = 1)), .int .i64 r5_6u4.1, .int .i64 r5_6u3.1, .int .i64 r5_6u2.1, .int .i64 r5_6u1.1, .slice A_b5_6_L11u4 b5_6_L11u4.length c_b5_6_L11u4, .slice A_b5_7_L11u3h n_b5_7_L11u3h c_b5_7_L11u3h, .slice none 0 0, .slice none 0 0] :: vec 3 (RpI .i64).sz (.slice A_b5_6_L11u4 b5_6_L11u4.length c_b5_6_L11u4) b5_6_L11u4.length cs_b5_6_L11u4 :: vec 3 (RpI .i64).sz (.slice A_b5_7_L11u3h n_b5_7_L11u3h c_b5_7_L11u3h) n_b5_7_L11u3h cs_b5_7_L11u3h :: ro ρ :: l)) fuel ⟨none, 0, 0, [], 0, b_r_0_1_L11u4, b_r_0_2_L11u4, [], hLL11u3, eL11u4_0, eL11u4_1, eL11u4_4, eL11u4_5, rfl, rfl, rfl, rfl, hnil_A_b5_7_L11u3h, ((((((hS.pull 5).pull 1).pull 5).pull 5).pull 5).pull 5)⟩ ?_
    rintro kL11u3 E w ⟨A_b5_7_L11u3h, n_b5_7_L11u3h, c_b5_7_L11u3h, cs_b5_7_L11u3h, y32_L11u3h, b_r_0_1_L11u3h, b_r_0_2_L11u3h, b5_7_L11u3h, hLL11u3, eL11u3h_0, eL11u3h_1, eL11u3h_4, eL11u3h_5, eL11u3h_7, eL11u3h_28, eL11u3h_31, eL11u3h_32, h_b5_7_L11u3h, hS⟩
    have e_ := St.vec_n (hS.pull 4) h_b5_7_L11u3h; subst e_
    replace hLL11u3 := lp_s hLL11u3; obtain ⟨kL11u3, obL11u3, rfl, hFL11u3, hLL11u3⟩ := hLL11u3
    refine x_seq <| x_region <| p (yl_lss eL11u3h_32 eL11u3h_31) <| x_done <|
      x_seq <|
      x_cond_p (y32_L11u3h < tracks1) rfl (fun hc33u3 => ?_) (fun hc33u3 => ?_)
    · replace hFL11u3 := it_t hc33u3 hFL11u3
      refine x_skip <| x_seq <| x_block <|
        ?_
      replace hFL11u3 := bd_s hFL11u3; obtain ⟨r12u3_6, hc12u3_6, hFL11u3⟩ := hFL11u3
      replace hFL11u3 := lv_s hFL11u3; obtain ⟨z12u3_8, hz12u3_8, hFL11u3⟩ := hFL11u3
      replace hFL11u3 := ck_s hFL11u3; obtain ⟨hk12u3_8, hFL11u3⟩ := hFL11u3
      refine x_par (w0 := w0) [⟨[], [], [34], [], [], []⟩, ⟨[], [], [35], [], [], []⟩, ⟨[], [], [36], [], [], []⟩, ⟨[1, 2], [1, 2], [37], [], [], []⟩, ⟨[1, 2, 3], [3], [38], [0], [], []⟩, ⟨[], [], [39], [], [], []⟩, ⟨[5], [5], [40], [2], [1], [3]⟩, ⟨[5, 6], [6], [41], [], [], [4]⟩, ⟨[1, 2, 3, 4, 5, 6, 7], [4, 7], [42], [4, 2], [5], [6]⟩, ⟨[], [], [43], [], [], []⟩, ⟨[0, 1, 2, 3, 4, 5, 6, 7, 8, 9], [0, 9], [44], [], [], []⟩, ⟨[0, 1, 2, 3, 4, 5, 6, 7, 8, 9, 10], [8, 10], [], [], [0], [7]⟩] [⟨none, (some 11), []⟩, ⟨none, (some 6), []⟩, ⟨none, none, []⟩, ⟨(some 6), none, []⟩, ⟨(some 7), none, [41]⟩, ⟨none, (some 8), []⟩, ⟨(some 8), none, [42]⟩, ⟨(some 11), none, [42]⟩] [34, 35, 36, 37, 38, 39, 40, 41, 42, 43, 44] [0, 1, 2, 5] [2, 3, 4, 6, 7] [0, 1, 2, 3, 4, 5, 6, 7, 8, 9, 10] [fun Ep12u3 => Ep12u3 34 = .int .i64 1, fun Ep12u3 => Ep12u3 35 = .int .i64 1, fun Ep12u3 => Ep12u3 36 = .pointer (some ⟨b5, 6, none⟩), fun Ep12u3 => Ep12u3 37 = .pointer (some ⟨b5, 7, none⟩), fun Ep12u3 => Ep12u3 38 = .slice A_b5_7_L11u3h b5_7_L11u3h.length c_b5_7_L11u3h, fun Ep12u3 => Ep12u3 39 = .pointer (some ⟨b_r_0, 0, none⟩), fun Ep12u3 => Ep12u3 40 = .int .i64 r12u3_6.1, fun Ep12u3 => Ep12u3 41 = .slice (some ⟨(blkOf (Ep12u3 41)), 0, none⟩) 1 1, fun Ep12u3 => Ep12u3 42 = .slice (adOf (Ep12u3 42)) z12u3_8.length (capOf (Ep12u3 42)), fun Ep12u3 => Ep12u3 43 = .pointer (some ⟨b5, 6, none⟩), fun Ep12u3 => Ep12u3 44 = .pointer (some ⟨b5, 7, none⟩), fun Ep12u3 => True] [fun Ep12u3 => cells b5 183 [.int .u16 x10, .bool (decide (r1_4.1 = 1)), .int .i64 r5_6u4.1, .int .i64 r5_6u3.1, .int .i64 r5_6u2.1, .int .i64 r5_6u1.1, .slice A_b5_6_L11u4 b5_6_L11u4.length c_b5_6_L11u4, .slice A_b5_7_L11u3h b5_7_L11u3h.length c_b5_7_L11u3h, .slice none 0 0, .slice none 0 0], fun Ep12u3 => cells b_r_0 191 [.slice A_r_0_0 r_0.fb.length c_r_0_0, .int .i64 b_r_0_1_L11u3h, .bool b_r_0_2_L11u3h], fun Ep12u3 => ro ρ, fun Ep12u3 => cells b_r_0 191 [.slice A_r_0_0 r_0.fb.length c_r_0_0, .int .i64 r12u3_6.2.1, .bool r12u3_6.2.2], fun Ep12u3 => cells (blkOf (Ep12u3 41)) 3 [.int .i64 r12u3_6.1], fun Ep12u3 => vec 3 (RpI .i64).sz (.slice A_b5_7_L11u3h b5_7_L11u3h.length c_b5_7_L11u3h) b5_7_L11u3h.length cs_b5_7_L11u3h, fun Ep12u3 => bunA (fun (cs42u3 : List Value) => RepL (RpI .i64) ρ z12u3_8 cs42u3) (fun (cs42u3 : List Value) => [vec 3 (RpI .i64).sz (.slice (adOf (Ep12u3 42)) z12u3_8.length (capOf (Ep12u3 42))) z12u3_8.length cs42u3]), fun Ep12u3 => cells b5 183 [.int .u16 x10, .bool (decide (r1_4.1 = 1)), .int .i64 r5_6u4.1, .int .i64 r5_6u3.1, .int .i64 r5_6u2.1, .int .i64 r5_6u1.1, .slice A_b5_6_L11u4 b5_6_L11u4.length c_b5_6_L11u4, .slice (adOf (Ep12u3 42)) z12u3_8.length (capOf (Ep12u3 42)), .slice none 0 0, .slice none 0 0]] mixed (by kernel_rfl) ((((hS.pull 4).pull 5).pull 2).pull 4) ?_ ?_
      · refine ⟨?_, ?_, ?_, ?_, ?_, ?_, ?_, ?_, ?_, ?_, ?_, ?_, trivial⟩
        · intro Ep12u3 w l' hE12u3 hO12u3 hF_ hS
          refine p (yl_move ((hE12u3 7 rfl).trans eL11u3h_7)) <| x_done <|
            ?_
          refine x_fin ⟨⟨_, rfl⟩, rfl, ?_⟩
          exact Eq.mp (by kernel_rfl) hS
        · intro Ep12u3 w l' hE12u3 hO12u3 hF_ hS
          refine p (yl_move ((hE12u3 7 rfl).trans eL11u3h_7)) <| x_done <|
            ?_
          refine x_fin ⟨⟨_, rfl⟩, rfl, ?_⟩
          exact Eq.mp (by kernel_rfl) hS
        · intro Ep12u3 w l' hE12u3 hO12u3 hF_ hS
          refine p (yl_field0 fld_183_3 ((hE12u3 5 rfl).trans eL11u3h_5)) <| x_done <|
            ?_
          refine x_fin ⟨⟨_, rfl⟩, rfl, ?_⟩
          exact Eq.mp (by kernel_rfl) hS
        · intro Ep12u3 w l' hE12u3 hO12u3 hF_ hS
          obtain ⟨f12u3_1, f12u3_2, -⟩ := hF_
          replace f12u3_1 : Ep12u3 35 = .int .i64 1 := Eq.mp (by kernel_rfl) f12u3_1
          replace f12u3_2 : Ep12u3 36 = .pointer (some ⟨b5, 6, none⟩) := Eq.mp (by kernel_rfl) f12u3_2
          refine p (yl_ixa (x := .tmp 36) (y := .tmp 35) (q := 7) arr_181 f12u3_2 f12u3_1 (by decide) rfl) <| x_done <|
            ?_
          refine x_fin ⟨⟨_, rfl⟩, rfl, ?_⟩
          exact Eq.mp (by kernel_rfl) hS
        · intro Ep12u3 w l' hE12u3 hO12u3 hF_ hS
          obtain ⟨f12u3_3, -⟩ := hF_
          replace f12u3_3 : Ep12u3 37 = .pointer (some ⟨b5, 7, none⟩) := Eq.mp (by kernel_rfl) f12u3_3
          replace hS : St w0 w (cells b5 183 [.int .u16 x10, .bool (decide (r1_4.1 = 1)), .int .i64 r5_6u4.1, .int .i64 r5_6u3.1, .int .i64 r5_6u2.1, .int .i64 r5_6u1.1, .slice A_b5_6_L11u4 b5_6_L11u4.length c_b5_6_L11u4, .slice A_b5_7_L11u3h b5_7_L11u3h.length c_b5_7_L11u3h, .slice none 0 0, .slice none 0 0] :: l') := Eq.mp (by kernel_rfl) hS
          refine pa (at_load one_22 f12u3_3 (hS.cell rfl)) <| x_done <|
            ?_
          refine x_fin ⟨⟨_, rfl⟩, rfl, ?_⟩
          exact Eq.mp (by kernel_rfl) hS
        · intro Ep12u3 w l' hE12u3 hO12u3 hF_ hS
          refine p (yl_move ((hE12u3 0 rfl).trans eL11u3h_0)) <| x_done <|
            ?_
          refine x_fin ⟨⟨_, rfl⟩, rfl, ?_⟩
          exact Eq.mp (by kernel_rfl) hS
        · intro Ep12u3 w l' hE12u3 hO12u3 hF_ hS
          obtain ⟨f12u3_5, -⟩ := hF_
          replace f12u3_5 : Ep12u3 39 = .pointer (some ⟨b_r_0, 0, none⟩) := Eq.mp (by kernel_rfl) f12u3_5
          replace hS : St w0 w (ro ρ :: cells b_r_0 191 [.slice A_r_0_0 r_0.fb.length c_r_0_0, .int .i64 b_r_0_1_L11u3h, .bool b_r_0_2_L11u3h] :: l') := Eq.mp (by kernel_rfl) hS
          have hcall := c_stream_reader_bits hc12u3_6 h_r_0_0 (hS.pull 1)
          refine o_cc call_94 (args2 f12u3_5 rfl) hcall ?_
          rintro e w' ⟨rfl, hS⟩
          refine ⟨_, rfl, ?_⟩
          refine x_done <|
            ?_
          refine x_fin ⟨⟨_, rfl⟩, rfl, ?_⟩
          exact Eq.mp (by kernel_rfl) (hS.pull 1)
        · intro Ep12u3 w l' hE12u3 hO12u3 hF_ hS
          obtain ⟨f12u3_6, -⟩ := hF_
          replace f12u3_6 : Ep12u3 40 = .int .i64 r12u3_6.1 := Eq.mp (by kernel_rfl) f12u3_6
          refine o_buildSlice (vs := [.int .i64 r12u3_6.1]) (cs := [.int .i64 r12u3_6.1]) sl_22 zero_3 (parts_eq (pt (va := .int .i64 r12u3_6.1) f12u3_6 pt0)) rfl (by intro v hv; simp only [List.mem_cons, List.not_mem_nil, or_false] at hv; first | (subst hv; rfl) | (rcases hv with rfl <;> rfl)) (by decide) rfl hS (fun b41u3 w' hS => ?_)
          refine x_done <|
            ?_
          refine x_fin ⟨⟨_, rfl⟩, rfl, ?_⟩
          exact Eq.mp (by kernel_rfl) hS
        · intro Ep12u3 w l' hE12u3 hO12u3 hF_ hS
          obtain ⟨f12u3_4, f12u3_7, -⟩ := hF_
          replace f12u3_4 : Ep12u3 38 = .slice A_b5_7_L11u3h b5_7_L11u3h.length c_b5_7_L11u3h := Eq.mp (by kernel_rfl) f12u3_4
          replace f12u3_7 : Ep12u3 41 = .slice (some ⟨(blkOf (Ep12u3 41)), 0, none⟩) 1 1 := Eq.mp (by kernel_rfl) f12u3_7
          replace hS : St w0 w (cells (blkOf (Ep12u3 41)) 3 [.int .i64 r12u3_6.1] :: ro ρ :: vec 3 (RpI .i64).sz (.slice A_b5_7_L11u3h b5_7_L11u3h.length c_b5_7_L11u3h) b5_7_L11u3h.length cs_b5_7_L11u3h :: l') := Eq.mp (by kernel_rfl) hS
          refine o_ap sl_22 zero_3 rfl (by decide) f12u3_4 f12u3_7 (hS.pull 2) h_b5_7_L11u3h (src_blk usl_22 hS rfl rfl) (RepL.cons (R := (RpI .i64)) (ρ := ρ) (x := r12u3_6.1) (cs := [.int .i64 r12u3_6.1]) rfl RepL.nil) hz12u3_8 hk12u3_8 (fun A42u3 c42u3 cs42u3 w' hr42u3 hS => ?_)
          refine x_done <|
            ?_
          refine x_fin ⟨⟨_, rfl⟩, rfl, ?_⟩
          replace hS := St.bun (Φ := (fun (cs42u3 : List Value) => RepL (RpI .i64) ρ z12u3_8 cs42u3)) (L := (fun (cs42u3 : List Value) => [vec 3 (RpI .i64).sz (.slice A42u3 z12u3_8.length c42u3) z12u3_8.length cs42u3])) cs42u3 hr42u3 hS
          exact Eq.mp (by kernel_rfl) ((hS.pull 2).pull 2)
        · intro Ep12u3 w l' hE12u3 hO12u3 hF_ hS
          refine p (yl_field0 fld_183_3 ((hE12u3 5 rfl).trans eL11u3h_5)) <| x_done <|
            ?_
          refine x_fin ⟨⟨_, rfl⟩, rfl, ?_⟩
          exact Eq.mp (by kernel_rfl) hS
        · intro Ep12u3 w l' hE12u3 hO12u3 hF_ hS
          obtain ⟨f12u3_0, f12u3_9, -⟩ := hF_
          replace f12u3_0 : Ep12u3 34 = .int .i64 1 := Eq.mp (by kernel_rfl) f12u3_0
          replace f12u3_9 : Ep12u3 43 = .pointer (some ⟨b5, 6, none⟩) := Eq.mp (by kernel_rfl) f12u3_9
          refine p (yl_ixa (x := .tmp 43) (y := .tmp 34) (q := 7) arr_181 f12u3_9 f12u3_0 (by decide) rfl) <| x_done <|
            ?_
          refine x_fin ⟨⟨_, rfl⟩, rfl, ?_⟩
          exact Eq.mp (by kernel_rfl) hS
        · intro Ep12u3 w l' hE12u3 hO12u3 hF_ hS
          obtain ⟨f12u3_8, f12u3_10, -⟩ := hF_
          replace f12u3_8 : Ep12u3 42 = .slice (adOf (Ep12u3 42)) z12u3_8.length (capOf (Ep12u3 42)) := Eq.mp (by kernel_rfl) f12u3_8
          replace f12u3_10 : Ep12u3 44 = .pointer (some ⟨b5, 7, none⟩) := Eq.mp (by kernel_rfl) f12u3_10
          replace hS : St w0 w (cells b5 183 [.int .u16 x10, .bool (decide (r1_4.1 = 1)), .int .i64 r5_6u4.1, .int .i64 r5_6u3.1, .int .i64 r5_6u2.1, .int .i64 r5_6u1.1, .slice A_b5_6_L11u4 b5_6_L11u4.length c_b5_6_L11u4, .slice A_b5_7_L11u3h b5_7_L11u3h.length c_b5_7_L11u3h, .slice none 0 0, .slice none 0 0] :: l') := Eq.mp (by kernel_rfl) hS
          refine o_store1 (v := .slice (adOf (Ep12u3 42)) z12u3_8.length (capOf (Ep12u3 42))) one_22 f12u3_10 f12u3_8 rfl rfl hS (fun w' hS => ?_)
          refine x_done <|
            ?_
          refine x_fin ⟨⟨undef, rfl⟩, trivial, ?_⟩
          exact Eq.mp (by kernel_rfl) hS
      intro Ep12u3 w' hE12u3 hF_ hS
      obtain ⟨f12u3_0, f12u3_1, f12u3_2, f12u3_3, f12u3_4, f12u3_5, f12u3_6, f12u3_7, f12u3_8, f12u3_9, f12u3_10, -⟩ := hF_
      replace f12u3_0 : Ep12u3 34 = .int .i64 1 := Eq.mp (by kernel_rfl) f12u3_0
      replace f12u3_1 : Ep12u3 35 = .int .i64 1 := Eq.mp (by kernel_rfl) f12u3_1
      replace f12u3_2 : Ep12u3 36 = .pointer (some ⟨b5, 6, none⟩) := Eq.mp (by kernel_rfl) f12u3_2
      replace f12u3_3 : Ep12u3 37 = .pointer (some ⟨b5, 7, none⟩) := Eq.mp (by kernel_rfl) f12u3_3
      replace f12u3_4 : Ep12u3 38 = .slice A_b5_7_L11u3h b5_7_L11u3h.length c_b5_7_L11u3h := Eq.mp (by kernel_rfl) f12u3_4
      replace f12u3_5 : Ep12u3 39 = .pointer (some ⟨b_r_0, 0, none⟩) := Eq.mp (by kernel_rfl) f12u3_5
      replace f12u3_6 : Ep12u3 40 = .int .i64 r12u3_6.1 := Eq.mp (by kernel_rfl) f12u3_6
      replace f12u3_7 : Ep12u3 41 = .slice (some ⟨(blkOf (Ep12u3 41)), 0, none⟩) 1 1 := Eq.mp (by kernel_rfl) f12u3_7
      replace f12u3_8 : Ep12u3 42 = .slice (adOf (Ep12u3 42)) z12u3_8.length (capOf (Ep12u3 42)) := Eq.mp (by kernel_rfl) f12u3_8
      replace f12u3_9 : Ep12u3 43 = .pointer (some ⟨b5, 6, none⟩) := Eq.mp (by kernel_rfl) f12u3_9
      replace f12u3_10 : Ep12u3 44 = .pointer (some ⟨b5, 7, none⟩) := Eq.mp (by kernel_rfl) f12u3_10
      replace hS : St w0 w' (ro ρ :: cells b_r_0 191 [.slice A_r_0_0 r_0.fb.length c_r_0_0, .int .i64 r12u3_6.2.1, .bool r12u3_6.2.2] :: cells (blkOf (Ep12u3 41)) 3 [.int .i64 r12u3_6.1] :: bunA (fun (cs42u3 : List Value) => RepL (RpI .i64) ρ z12u3_8 cs42u3) (fun (cs42u3 : List Value) => [vec 3 (RpI .i64).sz (.slice (adOf (Ep12u3 42)) z12u3_8.length (capOf (Ep12u3 42))) z12u3_8.length cs42u3]) :: cells b5 183 [.int .u16 x10, .bool (decide (r1_4.1 = 1)), .int .i64 r5_6u4.1, .int .i64 r5_6u3.1, .int .i64 r5_6u2.1, .int .i64 r5_6u1.1, .slice A_b5_6_L11u4 b5_6_L11u4.length c_b5_6_L11u4, .slice (adOf (Ep12u3 42)) z12u3_8.length (capOf (Ep12u3 42)), .slice none 0 0, .slice none 0 0] :: (cells b4 183 [.int .u16 0, .bool false, .int .i64 0, .int .i64 0, .int .i64 0, .int .i64 0, .slice none 0 0, .slice none 0 0, .slice none 0 0, .slice none 0 0] :: vec 3 (RpI .i64).sz (.slice A_b5_6_L11u4 b5_6_L11u4.length c_b5_6_L11u4) b5_6_L11u4.length cs_b5_6_L11u4 :: l)) := Eq.mp (by kernel_rfl) hS
      have q_ := St.unbun (hS.pull 3); obtain ⟨cs42u3, hr42u3, hS⟩ := q_
      replace hFL11u3 := ar_s hFL11u3; obtain ⟨x45u3, hx45u3, hFL11u3⟩ := hFL11u3
      refine x_blk <| x_region <| p (yadd ((hE12u3 32 rfl).trans eL11u3h_32) rfl hx45u3) <| p (yl_move rfl) <|
        x_done <|
        ?_
      have e_ := Option.some.inj (show some _ = some _ from hFL11u3); subst e_
      exact x_inv ⟨kL11u3, Nat.lt_succ_self _, (adOf (Ep12u3 42)), z12u3_8.length, (capOf (Ep12u3 42)), cs42u3, x45u3, r12u3_6.2.1, r12u3_6.2.2, z12u3_8, hLL11u3, ((hE12u3 0 rfl).trans eL11u3h_0), ((hE12u3 1 rfl).trans eL11u3h_1), ((hE12u3 4 rfl).trans eL11u3h_4), ((hE12u3 5 rfl).trans eL11u3h_5), ((hE12u3 7 rfl).trans eL11u3h_7), ((hE12u3 28 rfl).trans eL11u3h_28), ((hE12u3 31 rfl).trans eL11u3h_31), rfl, hr42u3, (((((((hS.pull 3).drop.pull 1).pull 1).pull 5).pull 4).pull 5).pull 5)⟩
    · replace hFL11u3 := it_f hc33u3 hFL11u3
      refine x_exitTo _ rfl <|
        ?_
      have e_ := Option.some.inj (show some _ = some _ from hFL11u3); subst e_
      exact x_inv ⟨A_b5_7_L11u3h, b5_7_L11u3h.length, c_b5_7_L11u3h, cs_b5_7_L11u3h, b_r_0_1_L11u3h, b_r_0_2_L11u3h, b5_7_L11u3h, hLL11u3, eL11u3h_0, eL11u3h_1, eL11u3h_4, eL11u3h_5, eL11u3h_28, h_b5_7_L11u3h, ((((((hS.pull 5).pull 5).pull 5).pull 5).pull 5).pull 5)⟩
  rintro E w ⟨A_b5_7_L11u3, n_b5_7_L11u3, c_b5_7_L11u3, cs_b5_7_L11u3, b_r_0_1_L11u3, b_r_0_2_L11u3, b5_7_L11u3, rfl, eL11u3_0, eL11u3_1, eL11u3_4, eL11u3_5, eL11u3_28, h_b5_7_L11u3, hS⟩
  have e_ := St.vec_n (hS.pull 4) h_b5_7_L11u3; subst e_
  refine x_blk <| x_region <| p (yadd (c := 2) eL11u3_28 rfl ⟨rfl, by decide⟩) <| p (yl_move rfl) <|
    x_done <| x_un 2 <| x_seq <| x_region <|
    p (ylss_l (t := true) rfl rfl (by decide)) <| x_done <| x_seq <| x_cond_t (show ev _ _ = .bool true from rfl) <|
    x_skip <| x_seq <| x_block <| x_seq <|
    x_region <| p (yl_move rfl) <| p (yl_assign rfl) <| x_done <|
    x_seq <| x_region <| p (yl_move eL11u3_1) <| p (yl_move rfl) <|
    x_done <|
    ?_
  replace hF := bd_s hF; obtain ⟨oL11u2, hLL11u2, hF⟩ := hF
  refine x_join (fun E w => ∃ (A_b5_8_L11u2 : Option Addr) (n_b5_8_L11u2 : Nat) (c_b5_8_L11u2 : Nat) (cs_b5_8_L11u2 : List Value) (b_r_0_1_L11u2 : Int) (b_r_0_2_L11u2 : Bool) (b5_8_L11u2 : List Int), (b_r_0_1_L11u2, b_r_0_2_L11u2, b5_8_L11u2) = oL11u2 ∧ E 0 = .pointer (some ⟨b_r_0, 0, none⟩) ∧ E 1 = .int .i64 tracks1 ∧ E 4 = .pointer (some ⟨b4, 0, none⟩) ∧ E 5 = .pointer (some ⟨b5, 0, none⟩) ∧ E 28 = .int .i64 2 ∧ RepL (RpI .i64) ρ b5_8_L11u2 cs_b5_8_L11u2 ∧ St w0 w (cells b_r_0 191 [.slice A_r_0_0 r_0.fb.length c_r_0_0, .int .i64 b_r_0_1_L11u2, .bool b_r_0_2_L11u2] :: cells b4 183 [.int .u16 0, .bool false, .int .i64 0, .int .i64 0, .int .i64 0, .int .i64 0, .slice none 0 0, .slice none 0 0, .slice none 0 0, .slice none 0 0] :: cells b5 183 [.int .u16 x10, .bool (decide (r1_4.1 = 1)), .int .i64 r5_6u4.1, .int .i64 r5_6u3.1, .int .i64 r5_6u2.1, .int .i64 r5_6u1.1, .slice A_b5_6_L11u4 b5_6_L11u4.length c_b5_6_L11u4, .slice A_b5_7_L11u3 b5_7_L11u3.length c_b5_7_L11u3, .slice A_b5_8_L11u2 n_b5_8_L11u2 c_b5_8_L11u2, .slice none 0 0] :: vec 3 (RpI .i64).sz (.slice A_b5_6_L11u4 b5_6_L11u4.length c_b5_6_L11u4) b5_6_L11u4.length cs_b5_6_L11u4 :: vec 3 (RpI .i64).sz (.slice A_b5_7_L11u3 b5_7_L11u3.length c_b5_7_L11u3) b5_7_L11u3.length cs_b5_7_L11u3 :: vec 3 (RpI .i64).sz (.slice A_b5_8_L11u2 n_b5_8_L11u2 c_b5_8_L11u2) n_b5_8_L11u2 cs_b5_8_L11u2 :: ro ρ :: l)) ?_ ?_
  · skip -- L11u2
    refine x_block ?_
    replace hS := St.vec_nil hS 3 (RpI .i64).sz
    have hnil_A_b5_8_L11u2h : RepL (RpI .i64) ρ [] [] := rfl
    refine x_loop (fun k_ E w => ∃ (A_b5_8_L11u2h : Option Addr) (n_b5_8_L11u2h : Nat) (c_b5_8_L11u2h : Nat) (cs_b5_8_L11u2h : List Value) (y32_L11u2h : Int) (b_r_0_1_L11u2h : Int) (b_r_0_2_L11u2h : Bool) (b5_8_L11u2h : List Int), lp (P_stream_reader_tile_L11u2 r_0 tracks1) k_ (y32_L11u2h, b_r_0_1_L11u2h, b_r_0_2_L11u2h, b5_8_L11u2h) = some oL11u2 ∧ E 0 = .pointer (some ⟨b_r_0, 0, none⟩) ∧ E 1 = .int .i64 tracks1 ∧ E 4 = .pointer (some ⟨b4, 0, none⟩) ∧ E 5 = .pointer (some ⟨b5, 0, none⟩) ∧ E 7 = .int .i64 2 ∧ E 28 = .int .i64 2 ∧ E 31 = .int .i64 tracks1 ∧ E 32 = .int .i64 y32_L11u2h ∧ RepL (RpI .i64) ρ b5_8_L11u2h cs_b5_8_L11u2h ∧ St w0 w (cells b_r_0 191 [.slice A_r_0_0 r_0.fb.length c_r_0_0, .int .i64 b_r_0_1_L11u2h, .bool b_r_0_2_L11u2h] :: cells b4 183 [.int .u16 0, .bool false, .int .i64 0, .int .i64 0, .int .i64 0, .int .i64 0, .slice none 0 0, .slice none 0 0, .slice none 0 0, .slice none 0 0] :: cells b5 183 [.int .u16 x10, .bool (decide (r1_4.1 = 1)), .int .i64 r5_6u4.1, .int .i64 r5_6u3.1, .int .i64 r5_6u2.1, .int .i64 r5_6u1.1, .slice A_b5_6_L11u4 b5_6_L11u4.length c_b5_6_L11u4, .slice A_b5_7_L11u3 b5_7_L11u3.length c_b5_7_L11u3, .slice A_b5_8_L11u2h n_b5_8_L11u2h c_b5_8_L11u2h, .slice none 0 0] :: vec 3 (RpI .i64).sz (.slice A_b5_6_L11u4 b5_6_L11u4.length c_b5_6_L11u4) b5_6_L11u4.length cs_b5_6_L11u4 :: vec 3 (RpI .i64).sz (.slice A_b5_7_L11u3 b5_7_L11u3.length c_b5_7_L11u3) b5_7_L11u3.length cs_b5_7_L11u3 :: vec 3 (RpI .i64).sz (.slice A_b5_8_L11u2h n_b5_8_L11u2h c_b5_8_L11u2h) n_b5_8_L11u2h cs_b5_8_L11u2h :: ro ρ :: l)) fuel ⟨none, 0, 0, [], 0, b_r_0_1_L11u3, b_r_0_2_L11u3, [], hLL11u2, eL11u3_0, eL11u3_1, eL11u3_4, eL11u3_5, rfl, rfl, rfl, rfl, hnil_A_b5_8_L11u2h, (((((((hS.pull 6).pull 1).pull 6).pull 6).pull 6).pull 6).pull 6)⟩ ?_
    rintro kL11u2 E w ⟨A_b5_8_L11u2h, n_b5_8_L11u2h, c_b5_8_L11u2h, cs_b5_8_L11u2h, y32_L11u2h, b_r_0_1_L11u2h, b_r_0_2_L11u2h, b5_8_L11u2h, hLL11u2, eL11u2h_0, eL11u2h_1, eL11u2h_4, eL11u2h_5, eL11u2h_7, eL11u2h_28, eL11u2h_31, eL11u2h_32, h_b5_8_L11u2h, hS⟩
    have e_ := St.vec_n (hS.pull 5) h_b5_8_L11u2h; subst e_
    replace hLL11u2 := lp_s hLL11u2; obtain ⟨kL11u2, obL11u2, rfl, hFL11u2, hLL11u2⟩ := hLL11u2
    refine x_seq <| x_region <| p (yl_lss eL11u2h_32 eL11u2h_31) <| x_done <|
      x_seq <|
      x_cond_p (y32_L11u2h < tracks1) rfl (fun hc33u2 => ?_) (fun hc33u2 => ?_)
    · replace hFL11u2 := it_t hc33u2 hFL11u2
      refine x_skip <| x_seq <| x_block <|
        ?_
      replace hFL11u2 := bd_s hFL11u2; obtain ⟨r12u2_6, hc12u2_6, hFL11u2⟩ := hFL11u2
      replace hFL11u2 := lv_s hFL11u2; obtain ⟨z12u2_8, hz12u2_8, hFL11u2⟩ := hFL11u2
      replace hFL11u2 := ck_s hFL11u2; obtain ⟨hk12u2_8, hFL11u2⟩ := hFL11u2
      refine x_par (w0 := w0) [⟨[], [], [34], [], [], []⟩, ⟨[], [], [35], [], [], []⟩, ⟨[], [], [36], [], [], []⟩, ⟨[1, 2], [1, 2], [37], [], [], []⟩, ⟨[1, 2, 3], [3], [38], [0], [], []⟩, ⟨[], [], [39], [], [], []⟩, ⟨[5], [5], [40], [2], [1], [3]⟩, ⟨[5, 6], [6], [41], [], [], [4]⟩, ⟨[1, 2, 3, 4, 5, 6, 7], [4, 7], [42], [4, 2], [5], [6]⟩, ⟨[], [], [43], [], [], []⟩, ⟨[0, 1, 2, 3, 4, 5, 6, 7, 8, 9], [0, 9], [44], [], [], []⟩, ⟨[0, 1, 2, 3, 4, 5, 6, 7, 8, 9, 10], [8, 10], [], [], [0], [7]⟩] [⟨none, (some 11), []⟩, ⟨none, (some 6), []⟩, ⟨none, none, []⟩, ⟨(some 6), none, []⟩, ⟨(some 7), none, [41]⟩, ⟨none, (some 8), []⟩, ⟨(some 8), none, [42]⟩, ⟨(some 11), none, [42]⟩] [34, 35, 36, 37, 38, 39, 40, 41, 42, 43, 44] [0, 1, 2, 5] [2, 3, 4, 6, 7] [0, 1, 2, 3, 4, 5, 6, 7, 8, 9, 10] [fun Ep12u2 => Ep12u2 34 = .int .i64 2, fun Ep12u2 => Ep12u2 35 = .int .i64 2, fun Ep12u2 => Ep12u2 36 = .pointer (some ⟨b5, 6, none⟩), fun Ep12u2 => Ep12u2 37 = .pointer (some ⟨b5, 8, none⟩), fun Ep12u2 => Ep12u2 38 = .slice A_b5_8_L11u2h b5_8_L11u2h.length c_b5_8_L11u2h, fun Ep12u2 => Ep12u2 39 = .pointer (some ⟨b_r_0, 0, none⟩), fun Ep12u2 => Ep12u2 40 = .int .i64 r12u2_6.1, fun Ep12u2 => Ep12u2 41 = .slice (some ⟨(blkOf (Ep12u2 41)), 0, none⟩) 1 1, fun Ep12u2 => Ep12u2 42 = .slice (adOf (Ep12u2 42)) z12u2_8.length (capOf (Ep12u2 42)), fun Ep12u2 => Ep12u2 43 = .pointer (some ⟨b5, 6, none⟩), fun Ep12u2 => Ep12u2 44 = .pointer (some ⟨b5, 8, none⟩), fun Ep12u2 => True] [fun Ep12u2 => cells b5 183 [.int .u16 x10, .bool (decide (r1_4.1 = 1)), .int .i64 r5_6u4.1, .int .i64 r5_6u3.1, .int .i64 r5_6u2.1, .int .i64 r5_6u1.1, .slice A_b5_6_L11u4 b5_6_L11u4.length c_b5_6_L11u4, .slice A_b5_7_L11u3 b5_7_L11u3.length c_b5_7_L11u3, .slice A_b5_8_L11u2h b5_8_L11u2h.length c_b5_8_L11u2h, .slice none 0 0], fun Ep12u2 => cells b_r_0 191 [.slice A_r_0_0 r_0.fb.length c_r_0_0, .int .i64 b_r_0_1_L11u2h, .bool b_r_0_2_L11u2h], fun Ep12u2 => ro ρ, fun Ep12u2 => cells b_r_0 191 [.slice A_r_0_0 r_0.fb.length c_r_0_0, .int .i64 r12u2_6.2.1, .bool r12u2_6.2.2], fun Ep12u2 => cells (blkOf (Ep12u2 41)) 3 [.int .i64 r12u2_6.1], fun Ep12u2 => vec 3 (RpI .i64).sz (.slice A_b5_8_L11u2h b5_8_L11u2h.length c_b5_8_L11u2h) b5_8_L11u2h.length cs_b5_8_L11u2h, fun Ep12u2 => bunA (fun (cs42u2 : List Value) => RepL (RpI .i64) ρ z12u2_8 cs42u2) (fun (cs42u2 : List Value) => [vec 3 (RpI .i64).sz (.slice (adOf (Ep12u2 42)) z12u2_8.length (capOf (Ep12u2 42))) z12u2_8.length cs42u2]), fun Ep12u2 => cells b5 183 [.int .u16 x10, .bool (decide (r1_4.1 = 1)), .int .i64 r5_6u4.1, .int .i64 r5_6u3.1, .int .i64 r5_6u2.1, .int .i64 r5_6u1.1, .slice A_b5_6_L11u4 b5_6_L11u4.length c_b5_6_L11u4, .slice A_b5_7_L11u3 b5_7_L11u3.length c_b5_7_L11u3, .slice (adOf (Ep12u2 42)) z12u2_8.length (capOf (Ep12u2 42)), .slice none 0 0]] mixed (by kernel_rfl) ((((hS.pull 5).pull 6).pull 2).pull 4) ?_ ?_
      · refine ⟨?_, ?_, ?_, ?_, ?_, ?_, ?_, ?_, ?_, ?_, ?_, ?_, trivial⟩
        · intro Ep12u2 w l' hE12u2 hO12u2 hF_ hS
          refine p (yl_move ((hE12u2 7 rfl).trans eL11u2h_7)) <| x_done <|
            ?_
          refine x_fin ⟨⟨_, rfl⟩, rfl, ?_⟩
          exact Eq.mp (by kernel_rfl) hS
        · intro Ep12u2 w l' hE12u2 hO12u2 hF_ hS
          refine p (yl_move ((hE12u2 7 rfl).trans eL11u2h_7)) <| x_done <|
            ?_
          refine x_fin ⟨⟨_, rfl⟩, rfl, ?_⟩
          exact Eq.mp (by kernel_rfl) hS
        · intro Ep12u2 w l' hE12u2 hO12u2 hF_ hS
          refine p (yl_field0 fld_183_3 ((hE12u2 5 rfl).trans eL11u2h_5)) <| x_done <|
            ?_
          refine x_fin ⟨⟨_, rfl⟩, rfl, ?_⟩
          exact Eq.mp (by kernel_rfl) hS
        · intro Ep12u2 w l' hE12u2 hO12u2 hF_ hS
          obtain ⟨f12u2_1, f12u2_2, -⟩ := hF_
          replace f12u2_1 : Ep12u2 35 = .int .i64 2 := Eq.mp (by kernel_rfl) f12u2_1
          replace f12u2_2 : Ep12u2 36 = .pointer (some ⟨b5, 6, none⟩) := Eq.mp (by kernel_rfl) f12u2_2
          refine p (yl_ixa (x := .tmp 36) (y := .tmp 35) (q := 8) arr_181 f12u2_2 f12u2_1 (by decide) rfl) <| x_done <|
            ?_
          refine x_fin ⟨⟨_, rfl⟩, rfl, ?_⟩
          exact Eq.mp (by kernel_rfl) hS
        · intro Ep12u2 w l' hE12u2 hO12u2 hF_ hS
          obtain ⟨f12u2_3, -⟩ := hF_
          replace f12u2_3 : Ep12u2 37 = .pointer (some ⟨b5, 8, none⟩) := Eq.mp (by kernel_rfl) f12u2_3
          replace hS : St w0 w (cells b5 183 [.int .u16 x10, .bool (decide (r1_4.1 = 1)), .int .i64 r5_6u4.1, .int .i64 r5_6u3.1, .int .i64 r5_6u2.1, .int .i64 r5_6u1.1, .slice A_b5_6_L11u4 b5_6_L11u4.length c_b5_6_L11u4, .slice A_b5_7_L11u3 b5_7_L11u3.length c_b5_7_L11u3, .slice A_b5_8_L11u2h b5_8_L11u2h.length c_b5_8_L11u2h, .slice none 0 0] :: l') := Eq.mp (by kernel_rfl) hS
          refine pa (at_load one_22 f12u2_3 (hS.cell rfl)) <| x_done <|
            ?_
          refine x_fin ⟨⟨_, rfl⟩, rfl, ?_⟩
          exact Eq.mp (by kernel_rfl) hS
        · intro Ep12u2 w l' hE12u2 hO12u2 hF_ hS
          refine p (yl_move ((hE12u2 0 rfl).trans eL11u2h_0)) <| x_done <|
            ?_
          refine x_fin ⟨⟨_, rfl⟩, rfl, ?_⟩
          exact Eq.mp (by kernel_rfl) hS
        · intro Ep12u2 w l' hE12u2 hO12u2 hF_ hS
          obtain ⟨f12u2_5, -⟩ := hF_
          replace f12u2_5 : Ep12u2 39 = .pointer (some ⟨b_r_0, 0, none⟩) := Eq.mp (by kernel_rfl) f12u2_5
          replace hS : St w0 w (ro ρ :: cells b_r_0 191 [.slice A_r_0_0 r_0.fb.length c_r_0_0, .int .i64 b_r_0_1_L11u2h, .bool b_r_0_2_L11u2h] :: l') := Eq.mp (by kernel_rfl) hS
          have hcall := c_stream_reader_bits hc12u2_6 h_r_0_0 (hS.pull 1)
          refine o_cc call_94 (args2 f12u2_5 rfl) hcall ?_
          rintro e w' ⟨rfl, hS⟩
          refine ⟨_, rfl, ?_⟩
          refine x_done <|
            ?_
          refine x_fin ⟨⟨_, rfl⟩, rfl, ?_⟩
          exact Eq.mp (by kernel_rfl) (hS.pull 1)
        · intro Ep12u2 w l' hE12u2 hO12u2 hF_ hS
          obtain ⟨f12u2_6, -⟩ := hF_
          replace f12u2_6 : Ep12u2 40 = .int .i64 r12u2_6.1 := Eq.mp (by kernel_rfl) f12u2_6
          refine o_buildSlice (vs := [.int .i64 r12u2_6.1]) (cs := [.int .i64 r12u2_6.1]) sl_22 zero_3 (parts_eq (pt (va := .int .i64 r12u2_6.1) f12u2_6 pt0)) rfl (by intro v hv; simp only [List.mem_cons, List.not_mem_nil, or_false] at hv; first | (subst hv; rfl) | (rcases hv with rfl <;> rfl)) (by decide) rfl hS (fun b41u2 w' hS => ?_)
          refine x_done <|
            ?_
          refine x_fin ⟨⟨_, rfl⟩, rfl, ?_⟩
          exact Eq.mp (by kernel_rfl) hS
        · intro Ep12u2 w l' hE12u2 hO12u2 hF_ hS
          obtain ⟨f12u2_4, f12u2_7, -⟩ := hF_
          replace f12u2_4 : Ep12u2 38 = .slice A_b5_8_L11u2h b5_8_L11u2h.length c_b5_8_L11u2h := Eq.mp (by kernel_rfl) f12u2_4
          replace f12u2_7 : Ep12u2 41 = .slice (some ⟨(blkOf (Ep12u2 41)), 0, none⟩) 1 1 := Eq.mp (by kernel_rfl) f12u2_7
          replace hS : St w0 w (cells (blkOf (Ep12u2 41)) 3 [.int .i64 r12u2_6.1] :: ro ρ :: vec 3 (RpI .i64).sz (.slice A_b5_8_L11u2h b5_8_L11u2h.length c_b5_8_L11u2h) b5_8_L11u2h.length cs_b5_8_L11u2h :: l') := Eq.mp (by kernel_rfl) hS
          refine o_ap sl_22 zero_3 rfl (by decide) f12u2_4 f12u2_7 (hS.pull 2) h_b5_8_L11u2h (src_blk usl_22 hS rfl rfl) (RepL.cons (R := (RpI .i64)) (ρ := ρ) (x := r12u2_6.1) (cs := [.int .i64 r12u2_6.1]) rfl RepL.nil) hz12u2_8 hk12u2_8 (fun A42u2 c42u2 cs42u2 w' hr42u2 hS => ?_)
          refine x_done <|
            ?_
          refine x_fin ⟨⟨_, rfl⟩, rfl, ?_⟩
          replace hS := St.bun (Φ := (fun (cs42u2 : List Value) => RepL (RpI .i64) ρ z12u2_8 cs42u2)) (L := (fun (cs42u2 : List Value) => [vec 3 (RpI .i64).sz (.slice A42u2 z12u2_8.length c42u2) z12u2_8.length cs42u2])) cs42u2 hr42u2 hS
          exact Eq.mp (by kernel_rfl) ((hS.pull 2).pull 2)
        · intro Ep12u2 w l' hE12u2 hO12u2 hF_ hS
          refine p (yl_field0 fld_183_3 ((hE12u2 5 rfl).trans eL11u2h_5)) <| x_done <|
            ?_
          refine x_fin ⟨⟨_, rfl⟩, rfl, ?_⟩
          exact Eq.mp (by kernel_rfl) hS
        · intro Ep12u2 w l' hE12u2 hO12u2 hF_ hS
          obtain ⟨f12u2_0, f12u2_9, -⟩ := hF_
          replace f12u2_0 : Ep12u2 34 = .int .i64 2 := Eq.mp (by kernel_rfl) f12u2_0
          replace f12u2_9 : Ep12u2 43 = .pointer (some ⟨b5, 6, none⟩) := Eq.mp (by kernel_rfl) f12u2_9
          refine p (yl_ixa (x := .tmp 43) (y := .tmp 34) (q := 8) arr_181 f12u2_9 f12u2_0 (by decide) rfl) <| x_done <|
            ?_
          refine x_fin ⟨⟨_, rfl⟩, rfl, ?_⟩
          exact Eq.mp (by kernel_rfl) hS
        · intro Ep12u2 w l' hE12u2 hO12u2 hF_ hS
          obtain ⟨f12u2_8, f12u2_10, -⟩ := hF_
          replace f12u2_8 : Ep12u2 42 = .slice (adOf (Ep12u2 42)) z12u2_8.length (capOf (Ep12u2 42)) := Eq.mp (by kernel_rfl) f12u2_8
          replace f12u2_10 : Ep12u2 44 = .pointer (some ⟨b5, 8, none⟩) := Eq.mp (by kernel_rfl) f12u2_10
          replace hS : St w0 w (cells b5 183 [.int .u16 x10, .bool (decide (r1_4.1 = 1)), .int .i64 r5_6u4.1, .int .i64 r5_6u3.1, .int .i64 r5_6u2.1, .int .i64 r5_6u1.1, .slice A_b5_6_L11u4 b5_6_L11u4.length c_b5_6_L11u4, .slice A_b5_7_L11u3 b5_7_L11u3.length c_b5_7_L11u3, .slice A_b5_8_L11u2h b5_8_L11u2h.length c_b5_8_L11u2h, .slice none 0 0] :: l') := Eq.mp (by kernel_rfl) hS
          refine o_store1 (v := .slice (adOf (Ep12u2 42)) z12u2_8.length (capOf (Ep12u2 42))) one_22 f12u2_10 f12u2_8 rfl rfl hS (fun w' hS => ?_)
          refine x_done <|
            ?_
          refine x_fin ⟨⟨undef, rfl⟩, trivial, ?_⟩
          exact Eq.mp (by kernel_rfl) hS
      intro Ep12u2 w' hE12u2 hF_ hS
      obtain ⟨f12u2_0, f12u2_1, f12u2_2, f12u2_3, f12u2_4, f12u2_5, f12u2_6, f12u2_7, f12u2_8, f12u2_9, f12u2_10, -⟩ := hF_
      replace f12u2_0 : Ep12u2 34 = .int .i64 2 := Eq.mp (by kernel_rfl) f12u2_0
      replace f12u2_1 : Ep12u2 35 = .int .i64 2 := Eq.mp (by kernel_rfl) f12u2_1
      replace f12u2_2 : Ep12u2 36 = .pointer (some ⟨b5, 6, none⟩) := Eq.mp (by kernel_rfl) f12u2_2
      replace f12u2_3 : Ep12u2 37 = .pointer (some ⟨b5, 8, none⟩) := Eq.mp (by kernel_rfl) f12u2_3
      replace f12u2_4 : Ep12u2 38 = .slice A_b5_8_L11u2h b5_8_L11u2h.length c_b5_8_L11u2h := Eq.mp (by kernel_rfl) f12u2_4
      replace f12u2_5 : Ep12u2 39 = .pointer (some ⟨b_r_0, 0, none⟩) := Eq.mp (by kernel_rfl) f12u2_5
      replace f12u2_6 : Ep12u2 40 = .int .i64 r12u2_6.1 := Eq.mp (by kernel_rfl) f12u2_6
      replace f12u2_7 : Ep12u2 41 = .slice (some ⟨(blkOf (Ep12u2 41)), 0, none⟩) 1 1 := Eq.mp (by kernel_rfl) f12u2_7
      replace f12u2_8 : Ep12u2 42 = .slice (adOf (Ep12u2 42)) z12u2_8.length (capOf (Ep12u2 42)) := Eq.mp (by kernel_rfl) f12u2_8
      replace f12u2_9 : Ep12u2 43 = .pointer (some ⟨b5, 6, none⟩) := Eq.mp (by kernel_rfl) f12u2_9
      replace f12u2_10 : Ep12u2 44 = .pointer (some ⟨b5, 8, none⟩) := Eq.mp (by kernel_rfl) f12u2_10
      replace hS : St w0 w' (ro ρ :: cells b_r_0 191 [.slice A_r_0_0 r_0.fb.length c_r_0_0, .int .i64 r12u2_6.2.1, .bool r12u2_6.2.2] :: cells (blkOf (Ep12u2 41)) 3 [.int .i64 r12u2_6.1] :: bunA (fun (cs42u2 : List Value) => RepL (RpI .i64) ρ z12u2_8 cs42u2) (fun (cs42u2 : List Value) => [vec 3 (RpI .i64).sz (.slice (adOf (Ep12u2 42)) z12u2_8.length (capOf (Ep12u2 42))) z12u2_8.length cs42u2]) :: cells b5 183 [.int .u16 x10, .bool (decide (r1_4.1 = 1)), .int .i64 r5_6u4.1, .int .i64 r5_6u3.1, .int .i64 r5_6u2.1, .int .i64 r5_6u1.1, .slice A_b5_6_L11u4 b5_6_L11u4.length c_b5_6_L11u4, .slice A_b5_7_L11u3 b5_7_L11u3.length c_b5_7_L11u3, .slice (adOf (Ep12u2 42)) z12u2_8.length (capOf (Ep12u2 42)), .slice none 0 0] :: (cells b4 183 [.int .u16 0, .bool false, .int .i64 0, .int .i64 0, .int .i64 0, .int .i64 0, .slice none 0 0, .slice none 0 0, .slice none 0 0, .slice none 0 0] :: vec 3 (RpI .i64).sz (.slice A_b5_6_L11u4 b5_6_L11u4.length c_b5_6_L11u4) b5_6_L11u4.length cs_b5_6_L11u4 :: vec 3 (RpI .i64).sz (.slice A_b5_7_L11u3 b5_7_L11u3.length c_b5_7_L11u3) b5_7_L11u3.length cs_b5_7_L11u3 :: l)) := Eq.mp (by kernel_rfl) hS
      have q_ := St.unbun (hS.pull 3); obtain ⟨cs42u2, hr42u2, hS⟩ := q_
      replace hFL11u2 := ar_s hFL11u2; obtain ⟨x45u2, hx45u2, hFL11u2⟩ := hFL11u2
      refine x_blk <| x_region <| p (yadd ((hE12u2 32 rfl).trans eL11u2h_32) rfl hx45u2) <| p (yl_move rfl) <|
        x_done <|
        ?_
      have e_ := Option.some.inj (show some _ = some _ from hFL11u2); subst e_
      exact x_inv ⟨kL11u2, Nat.lt_succ_self _, (adOf (Ep12u2 42)), z12u2_8.length, (capOf (Ep12u2 42)), cs42u2, x45u2, r12u2_6.2.1, r12u2_6.2.2, z12u2_8, hLL11u2, ((hE12u2 0 rfl).trans eL11u2h_0), ((hE12u2 1 rfl).trans eL11u2h_1), ((hE12u2 4 rfl).trans eL11u2h_4), ((hE12u2 5 rfl).trans eL11u2h_5), ((hE12u2 7 rfl).trans eL11u2h_7), ((hE12u2 28 rfl).trans eL11u2h_28), ((hE12u2 31 rfl).trans eL11u2h_31), rfl, hr42u2, ((((((((hS.pull 3).drop.pull 1).pull 1).pull 6).pull 6).pull 5).pull 6).pull 6)⟩
    · replace hFL11u2 := it_f hc33u2 hFL11u2
      refine x_exitTo _ rfl <|
        ?_
      have e_ := Option.some.inj (show some _ = some _ from hFL11u2); subst e_
      exact x_inv ⟨A_b5_8_L11u2h, b5_8_L11u2h.length, c_b5_8_L11u2h, cs_b5_8_L11u2h, b_r_0_1_L11u2h, b_r_0_2_L11u2h, b5_8_L11u2h, hLL11u2, eL11u2h_0, eL11u2h_1, eL11u2h_4, eL11u2h_5, eL11u2h_28, h_b5_8_L11u2h, (((((((hS.pull 6).pull 6).pull 6).pull 6).pull 6).pull 6).pull 6)⟩
  rintro E w ⟨A_b5_8_L11u2, n_b5_8_L11u2, c_b5_8_L11u2, cs_b5_8_L11u2, b_r_0_1_L11u2, b_r_0_2_L11u2, b5_8_L11u2, rfl, eL11u2_0, eL11u2_1, eL11u2_4, eL11u2_5, eL11u2_28, h_b5_8_L11u2, hS⟩
  have e_ := St.vec_n (hS.pull 5) h_b5_8_L11u2; subst e_
  refine x_blk <| x_region <| p (yadd (c := 3) eL11u2_28 rfl ⟨rfl, by decide⟩) <| p (yl_move rfl) <|
    x_done <| x_un 1 <| x_seq <| x_region <|
    p (ylss_l (t := true) rfl rfl (by decide)) <| x_done <| x_seq <| x_cond_t (show ev _ _ = .bool true from rfl) <|
    x_skip <| x_seq <| x_block <| x_seq <|
    x_region <| p (yl_move rfl) <| p (yl_assign rfl) <| x_done <|
    x_seq <| x_region <| p (yl_move eL11u2_1) <| p (yl_move rfl) <|
    x_done <|
    ?_
  replace hF := bd_s hF; obtain ⟨oL11u1, hLL11u1, hF⟩ := hF
  refine x_join (fun E w => ∃ (A_b5_9_L11u1 : Option Addr) (n_b5_9_L11u1 : Nat) (c_b5_9_L11u1 : Nat) (cs_b5_9_L11u1 : List Value) (b_r_0_1_L11u1 : Int) (b_r_0_2_L11u1 : Bool) (b5_9_L11u1 : List Int), (b_r_0_1_L11u1, b_r_0_2_L11u1, b5_9_L11u1) = oL11u1 ∧ E 0 = .pointer (some ⟨b_r_0, 0, none⟩) ∧ E 1 = .int .i64 tracks1 ∧ E 4 = .pointer (some ⟨b4, 0, none⟩) ∧ E 5 = .pointer (some ⟨b5, 0, none⟩) ∧ E 28 = .int .i64 3 ∧ RepL (RpI .i64) ρ b5_9_L11u1 cs_b5_9_L11u1 ∧ St w0 w (cells b_r_0 191 [.slice A_r_0_0 r_0.fb.length c_r_0_0, .int .i64 b_r_0_1_L11u1, .bool b_r_0_2_L11u1] :: cells b4 183 [.int .u16 0, .bool false, .int .i64 0, .int .i64 0, .int .i64 0, .int .i64 0, .slice none 0 0, .slice none 0 0, .slice none 0 0, .slice none 0 0] :: cells b5 183 [.int .u16 x10, .bool (decide (r1_4.1 = 1)), .int .i64 r5_6u4.1, .int .i64 r5_6u3.1, .int .i64 r5_6u2.1, .int .i64 r5_6u1.1, .slice A_b5_6_L11u4 b5_6_L11u4.length c_b5_6_L11u4, .slice A_b5_7_L11u3 b5_7_L11u3.length c_b5_7_L11u3, .slice A_b5_8_L11u2 b5_8_L11u2.length c_b5_8_L11u2, .slice A_b5_9_L11u1 n_b5_9_L11u1 c_b5_9_L11u1] :: vec 3 (RpI .i64).sz (.slice A_b5_6_L11u4 b5_6_L11u4.length c_b5_6_L11u4) b5_6_L11u4.length cs_b5_6_L11u4 :: vec 3 (RpI .i64).sz (.slice A_b5_7_L11u3 b5_7_L11u3.length c_b5_7_L11u3) b5_7_L11u3.length cs_b5_7_L11u3 :: vec 3 (RpI .i64).sz (.slice A_b5_8_L11u2 b5_8_L11u2.length c_b5_8_L11u2) b5_8_L11u2.length cs_b5_8_L11u2 :: vec 3 (RpI .i64).sz (.slice A_b5_9_L11u1 n_b5_9_L11u1 c_b5_9_L11u1) n_b5_9_L11u1 cs_b5_9_L11u1 :: ro ρ :: l)) ?_ ?_
  · skip -- L11u1
    refine x_block ?_
    replace hS := St.vec_nil hS 3 (RpI .i64).sz
    have hnil_A_b5_9_L11u1h : RepL (RpI .i64) ρ [] [] := rfl
    refine x_loop (fun k_ E w => ∃ (A_b5_9_L11u1h : Option Addr) (n_b5_9_L11u1h : Nat) (c_b5_9_L11u1h : Nat) (cs_b5_9_L11u1h : List Value) (y32_L11u1h : Int) (b_r_0_1_L11u1h : Int) (b_r_0_2_L11u1h : Bool) (b5_9_L11u1h : List Int), lp (P_stream_reader_tile_L11u1 r_0 tracks1) k_ (y32_L11u1h, b_r_0_1_L11u1h, b_r_0_2_L11u1h, b5_9_L11u1h) = some oL11u1 ∧ E 0 = .pointer (some ⟨b_r_0, 0, none⟩) ∧ E 1 = .int .i64 tracks1 ∧ E 4 = .pointer (some ⟨b4, 0, none⟩) ∧ E 5 = .pointer (some ⟨b5, 0, none⟩) ∧ E 7 = .int .i64 3 ∧ E 28 = .int .i64 3 ∧ E 31 = .int .i64 tracks1 ∧ E 32 = .int .i64 y32_L11u1h ∧ RepL (RpI .i64) ρ b5_9_L11u1h cs_b5_9_L11u1h ∧ St w0 w (cells b_r_0 191 [.slice A_r_0_0 r_0.fb.length c_r_0_0, .int .i64 b_r_0_1_L11u1h, .bool b_r_0_2_L11u1h] :: cells b4 183 [.int .u16 0, .bool false, .int .i64 0, .int .i64 0, .int .i64 0, .int .i64 0, .slice none 0 0, .slice none 0 0, .slice none 0 0, .slice none 0 0] :: cells b5 183 [.int .u16 x10, .bool (decide (r1_4.1 = 1)), .int .i64 r5_6u4.1, .int .i64 r5_6u3.1, .int .i64 r5_6u2.1, .int .i64 r5_6u1.1, .slice A_b5_6_L11u4 b5_6_L11u4.length c_b5_6_L11u4, .slice A_b5_7_L11u3 b5_7_L11u3.length c_b5_7_L11u3, .slice A_b5_8_L11u2 b5_8_L11u2.length c_b5_8_L11u2, .slice A_b5_9_L11u1h n_b5_9_L11u1h c_b5_9_L11u1h] :: vec 3 (RpI .i64).sz (.slice A_b5_6_L11u4 b5_6_L11u4.length c_b5_6_L11u4) b5_6_L11u4.length cs_b5_6_L11u4 :: vec 3 (RpI .i64).sz (.slice A_b5_7_L11u3 b5_7_L11u3.length c_b5_7_L11u3) b5_7_L11u3.length cs_b5_7_L11u3 :: vec 3 (RpI .i64).sz (.slice A_b5_8_L11u2 b5_8_L11u2.length c_b5_8_L11u2) b5_8_L11u2.length cs_b5_8_L11u2 :: vec 3 (RpI .i64).sz (.slice A_b5_9_L11u1h n_b5_9_L11u1h c_b5_9_L11u1h) n_b5_9_L11u1h cs_b5_9_L11u1h :: ro ρ :: l)) fuel ⟨none, 0, 0, [], 0, b_r_0_1_L11u2, b_r_0_2_L11u2, [], hLL11u1, eL11u2_0, eL11u2_1, eL11u2_4, eL11u2_5, rfl, rfl, rfl, rfl, hnil_A_b5_9_L11u1h, ((((((((hS.pull 7).pull 1).pull 7).pull 7).pull 7).pull 7).pull 7).pull 7)⟩ ?_
    rintro kL11u1 E w ⟨A_b5_9_L11u1h, n_b5_9_L11u1h, c_b5_9_L11u1h, cs_b5_9_L11u1h, y32_L11u1h, b_r_0_1_L11u1h, b_r_0_2_L11u1h, b5_9_L11u1h, hLL11u1, eL11u1h_0, eL11u1h_1, eL11u1h_4, eL11u1h_5, eL11u1h_7, eL11u1h_28, eL11u1h_31, eL11u1h_32, h_b5_9_L11u1h, hS⟩
    have e_ := St.vec_n (hS.pull 6) h_b5_9_L11u1h; subst e_
    replace hLL11u1 := lp_s hLL11u1; obtain ⟨kL11u1, obL11u1, rfl, hFL11u1, hLL11u1⟩ := hLL11u1
    refine x_seq <| x_region <| p (yl_lss eL11u1h_32 eL11u1h_31) <| x_done <|
      x_seq <|
      x_cond_p (y32_L11u1h < tracks1) rfl (fun hc33u1 => ?_) (fun hc33u1 => ?_)
    · replace hFL11u1 := it_t hc33u1 hFL11u1
      refine x_skip <| x_seq <| x_block <|
        ?_
      replace hFL11u1 := bd_s hFL11u1; obtain ⟨r12u1_6, hc12u1_6, hFL11u1⟩ := hFL11u1
      replace hFL11u1 := lv_s hFL11u1; obtain ⟨z12u1_8, hz12u1_8, hFL11u1⟩ := hFL11u1
      replace hFL11u1 := ck_s hFL11u1; obtain ⟨hk12u1_8, hFL11u1⟩ := hFL11u1
      refine x_par (w0 := w0) [⟨[], [], [34], [], [], []⟩, ⟨[], [], [35], [], [], []⟩, ⟨[], [], [36], [], [], []⟩, ⟨[1, 2], [1, 2], [37], [], [], []⟩, ⟨[1, 2, 3], [3], [38], [0], [], []⟩, ⟨[], [], [39], [], [], []⟩, ⟨[5], [5], [40], [2], [1], [3]⟩, ⟨[5, 6], [6], [41], [], [], [4]⟩, ⟨[1, 2, 3, 4, 5, 6, 7], [4, 7], [42], [4, 2], [5], [6]⟩, ⟨[], [], [43], [], [], []⟩, ⟨[0, 1, 2, 3, 4, 5, 6, 7, 8, 9], [0, 9], [44], [], [], []⟩, ⟨[0, 1, 2, 3, 4, 5, 6, 7, 8, 9, 10], [8, 10], [], [], [0], [7]⟩] [⟨none, (some 11), []⟩, ⟨none, (some 6), []⟩, ⟨none, none, []⟩, ⟨(some 6), none, []⟩, ⟨(some 7), none, [41]⟩, ⟨none, (some 8), []⟩, ⟨(some 8), none, [42]⟩, ⟨(some 11), none, [42]⟩] [34, 35, 36, 37, 38, 39, 40, 41, 42, 43, 44] [0, 1, 2, 5] [2, 3, 4, 6, 7] [0, 1, 2, 3, 4, 5, 6, 7, 8, 9, 10] [fun Ep12u1 => Ep12u1 34 = .int .i64 3, fun Ep12u1 => Ep12u1 35 = .int .i64 3, fun Ep12u1 => Ep12u1 36 = .pointer (some ⟨b5, 6, none⟩), fun Ep12u1 => Ep12u1 37 = .pointer (some ⟨b5, 9, none⟩), fun Ep12u1 => Ep12u1 38 = .slice A_b5_9_L11u1h b5_9_L11u1h.length c_b5_9_L11u1h, fun Ep12u1 => Ep12u1 39 = .pointer (some ⟨b_r_0, 0, none⟩), fun Ep12u1 => Ep12u1 40 = .int .i64 r12u1_6.1, fun Ep12u1 => Ep12u1 41 = .slice (some ⟨(blkOf (Ep12u1 41)), 0, none⟩) 1 1, fun Ep12u1 => Ep12u1 42 = .slice (adOf (Ep12u1 42)) z12u1_8.length (capOf (Ep12u1 42)), fun Ep12u1 => Ep12u1 43 = .pointer (some ⟨b5, 6, none⟩), fun Ep12u1 => Ep12u1 44 = .pointer (some ⟨b5, 9, none⟩), fun Ep12u1 => True] [fun Ep12u1 => cells b5 183 [.int .u16 x10, .bool (decide (r1_4.1 = 1)), .int .i64 r5_6u4.1, .int .i64 r5_6u3.1, .int .i64 r5_6u2.1, .int .i64 r5_6u1.1, .slice A_b5_6_L11u4 b5_6_L11u4.length c_b5_6_L11u4, .slice A_b5_7_L11u3 b5_7_L11u3.length c_b5_7_L11u3, .slice A_b5_8_L11u2 b5_8_L11u2.length c_b5_8_L11u2, .slice A_b5_9_L11u1h b5_9_L11u1h.length c_b5_9_L11u1h], fun Ep12u1 => cells b_r_0 191 [.slice A_r_0_0 r_0.fb.length c_r_0_0, .int .i64 b_r_0_1_L11u1h, .bool b_r_0_2_L11u1h], fun Ep12u1 => ro ρ, fun Ep12u1 => cells b_r_0 191 [.slice A_r_0_0 r_0.fb.length c_r_0_0, .int .i64 r12u1_6.2.1, .bool r12u1_6.2.2], fun Ep12u1 => cells (blkOf (Ep12u1 41)) 3 [.int .i64 r12u1_6.1], fun Ep12u1 => vec 3 (RpI .i64).sz (.slice A_b5_9_L11u1h b5_9_L11u1h.length c_b5_9_L11u1h) b5_9_L11u1h.length cs_b5_9_L11u1h, fun Ep12u1 => bunA (fun (cs42u1 : List Value) => RepL (RpI .i64) ρ z12u1_8 cs42u1) (fun (cs42u1 : List Value) => [vec 3 (RpI .i64).sz (.slice (adOf (Ep12u1 42)) z12u1_8.length (capOf (Ep12u1 42))) z12u1_8.length cs42u1]), fun Ep12u1 => cells b5 183 [.int .u16 x10, .bool (decide (r1_4.1 = 1)), .int .i64 r5_6u4.1, .int .i64 r5_6u3.1, .int .i64 r5_6u2.1, .int .i64 r5_6u1.1, .slice A_b5_6_L11u4 b5_6_L11u4.length c_b5_6_L11u4, .slice A_b5_7_L11u3 b5_7_L11u3.length c_b5_7_L11u3, .slice A_b5_8_L11u2 b5_8_L11u2.length c_b5_8_L11u2, .slice (adOf (Ep12u1 42)) z12u1_8.length (capOf (Ep12u1 42))]] mixed (by kernel_rfl) ((((hS.pull 6).pull 7).pull 2).pull 4) ?_ ?_
      · refine ⟨?_, ?_, ?_, ?_, ?_, ?_, ?_, ?_, ?_, ?_, ?_, ?_, trivial⟩
        · intro Ep12u1 w l' hE12u1 hO12u1 hF_ hS
          refine p (yl_move ((hE12u1 7 rfl).trans eL11u1h_7)) <| x_done <|
            ?_
          refine x_fin ⟨⟨_, rfl⟩, rfl, ?_⟩
          exact Eq.mp (by kernel_rfl) hS
        · intro Ep12u1 w l' hE12u1 hO12u1 hF_ hS
          refine p (yl_move ((hE12u1 7 rfl).trans eL11u1h_7)) <| x_done <|
            ?_
          refine x_fin ⟨⟨_, rfl⟩, rfl, ?_⟩
          exact Eq.mp (by kernel_rfl) hS
        · intro Ep12u1 w l' hE12u1 hO12u1 hF_ hS
          refine p (yl_field0 fld_183_3 ((hE12u1 5 rfl).trans eL11u1h_5)) <| x_done <|
            ?_
          refine x_fin ⟨⟨_, rfl⟩, rfl, ?_⟩
          exact Eq.mp (by kernel_rfl) hS
        · intro Ep12u1 w l' hE12u1 hO12u1 hF_ hS
          obtain ⟨f12u1_1, f12u1_2, -⟩ := hF_
          replace f12u1_1 : Ep12u1 35 = .int .i64 3 := Eq.mp (by kernel_rfl) f12u1_1
          replace f12u1_2 : Ep12u1 36 = .pointer (some ⟨b5, 6, none⟩) := Eq.mp (by kernel_rfl) f12u1_2
          refine p (yl_ixa (x := .tmp 36) (y := .tmp 35) (q := 9) arr_181 f12u1_2 f12u1_1 (by decide) rfl) <| x_done <|
            ?_
          refine x_fin ⟨⟨_, rfl⟩, rfl, ?_⟩
          exact Eq.mp (by kernel_rfl) hS
        · intro Ep12u1 w l' hE12u1 hO12u1 hF_ hS
          obtain ⟨f12u1_3, -⟩ := hF_
          replace f12u1_3 : Ep12u1 37 = .pointer (some ⟨b5, 9, none⟩) := Eq.mp (by kernel_rfl) f12u1_3
          replace hS : St w0 w (cells b5 183 [.int .u16 x10, .bool (decide (r1_4.1 = 1)), .int .i64 r5_6u4.1, .int .i64 r5_6u3.1, .int .i64 r5_6u2.1, .int .i64 r5_6u1.1, .slice A_b5_6_L11u4 b5_6_L11u4.length c_b5_6_L11u4, .slice A_b5_7_L11u3 b5_7_L11u3.length c_b5_7_L11u3, .slice A_b5_8_L11u2 b5_8_L11u2.length c_b5_8_L11u2, .slice A_b5_9_L11u1h b5_9_L11u1h.length c_b5_9_L11u1h] :: l') := Eq.mp (by kernel_rfl) hS
          refine pa (at_load one_22 f12u1_3 (hS.cell rfl)) <| x_done <|
            ?_
          refine x_fin ⟨⟨_, rfl⟩, rfl, ?_⟩
          exact Eq.mp (by kernel_rfl) hS
        · intro Ep12u1 w l' hE12u1 hO12u1 hF_ hS
          refine p (yl_move ((hE12u1 0 rfl).trans eL11u1h_0)) <| x_done <|
            ?_
          refine x_fin ⟨⟨_, rfl⟩, rfl, ?_⟩
          exact Eq.mp (by kernel_rfl) hS
        · intro Ep12u1 w l' hE12u1 hO12u1 hF_ hS
          obtain ⟨f12u1_5, -⟩ := hF_
          replace f12u1_5 : Ep12u1 39 = .pointer (some ⟨b_r_0, 0, none⟩) := Eq.mp (by kernel_rfl) f12u1_5
          replace hS : St w0 w (ro ρ :: cells b_r_0 191 [.slice A_r_0_0 r_0.fb.length c_r_0_0, .int .i64 b_r_0_1_L11u1h, .bool b_r_0_2_L11u1h] :: l') := Eq.mp (by kernel_rfl) hS
          have hcall := c_stream_reader_bits hc12u1_6 h_r_0_0 (hS.pull 1)
          refine o_cc call_94 (args2 f12u1_5 rfl) hcall ?_
          rintro e w' ⟨rfl, hS⟩
          refine ⟨_, rfl, ?_⟩
          refine x_done <|
            ?_
          refine x_fin ⟨⟨_, rfl⟩, rfl, ?_⟩
          exact Eq.mp (by kernel_rfl) (hS.pull 1)
        · intro Ep12u1 w l' hE12u1 hO12u1 hF_ hS
          obtain ⟨f12u1_6, -⟩ := hF_
          replace f12u1_6 : Ep12u1 40 = .int .i64 r12u1_6.1 := Eq.mp (by kernel_rfl) f12u1_6
          refine o_buildSlice (vs := [.int .i64 r12u1_6.1]) (cs := [.int .i64 r12u1_6.1]) sl_22 zero_3 (parts_eq (pt (va := .int .i64 r12u1_6.1) f12u1_6 pt0)) rfl (by intro v hv; simp only [List.mem_cons, List.not_mem_nil, or_false] at hv; first | (subst hv; rfl) | (rcases hv with rfl <;> rfl)) (by decide) rfl hS (fun b41u1 w' hS => ?_)
          refine x_done <|
            ?_
          refine x_fin ⟨⟨_, rfl⟩, rfl, ?_⟩
          exact Eq.mp (by kernel_rfl) hS
        · intro Ep12u1 w l' hE12u1 hO12u1 hF_ hS
          obtain ⟨f12u1_4, f12u1_7, -⟩ := hF_
          replace f12u1_4 : Ep12u1 38 = .slice A_b5_9_L11u1h b5_9_L11u1h.length c_b5_9_L11u1h := Eq.mp (by kernel_rfl) f12u1_4
          replace f12u1_7 : Ep12u1 41 = .slice (some ⟨(blkOf (Ep12u1 41)), 0, none⟩) 1 1 := Eq.mp (by kernel_rfl) f12u1_7
          replace hS : St w0 w (cells (blkOf (Ep12u1 41)) 3 [.int .i64 r12u1_6.1] :: ro ρ :: vec 3 (RpI .i64).sz (.slice A_b5_9_L11u1h b5_9_L11u1h.length c_b5_9_L11u1h) b5_9_L11u1h.length cs_b5_9_L11u1h :: l') := Eq.mp (by kernel_rfl) hS
          refine o_ap sl_22 zero_3 rfl (by decide) f12u1_4 f12u1_7 (hS.pull 2) h_b5_9_L11u1h (src_blk usl_22 hS rfl rfl) (RepL.cons (R := (RpI .i64)) (ρ := ρ) (x := r12u1_6.1) (cs := [.int .i64 r12u1_6.1]) rfl RepL.nil) hz12u1_8 hk12u1_8 (fun A42u1 c42u1 cs42u1 w' hr42u1 hS => ?_)
          refine x_done <|
            ?_
          refine x_fin ⟨⟨_, rfl⟩, rfl, ?_⟩
          replace hS := St.bun (Φ := (fun (cs42u1 : List Value) => RepL (RpI .i64) ρ z12u1_8 cs42u1)) (L := (fun (cs42u1 : List Value) => [vec 3 (RpI .i64).sz (.slice A42u1 z12u1_8.length c42u1) z12u1_8.length cs42u1])) cs42u1 hr42u1 hS
          exact Eq.mp (by kernel_rfl) ((hS.pull 2).pull 2)
        · intro Ep12u1 w l' hE12u1 hO12u1 hF_ hS
          refine p (yl_field0 fld_183_3 ((hE12u1 5 rfl).trans eL11u1h_5)) <| x_done <|
            ?_
          refine x_fin ⟨⟨_, rfl⟩, rfl, ?_⟩
          exact Eq.mp (by kernel_rfl) hS
        · intro Ep12u1 w l' hE12u1 hO12u1 hF_ hS
          obtain ⟨f12u1_0, f12u1_9, -⟩ := hF_
          replace f12u1_0 : Ep12u1 34 = .int .i64 3 := Eq.mp (by kernel_rfl) f12u1_0
          replace f12u1_9 : Ep12u1 43 = .pointer (some ⟨b5, 6, none⟩) := Eq.mp (by kernel_rfl) f12u1_9
          refine p (yl_ixa (x := .tmp 43) (y := .tmp 34) (q := 9) arr_181 f12u1_9 f12u1_0 (by decide) rfl) <| x_done <|
            ?_
          refine x_fin ⟨⟨_, rfl⟩, rfl, ?_⟩
          exact Eq.mp (by kernel_rfl) hS
        · intro Ep12u1 w l' hE12u1 hO12u1 hF_ hS
          obtain ⟨f12u1_8, f12u1_10, -⟩ := hF_
          replace f12u1_8 : Ep12u1 42 = .slice (adOf (Ep12u1 42)) z12u1_8.length (capOf (Ep12u1 42)) := Eq.mp (by kernel_rfl) f12u1_8
          replace f12u1_10 : Ep12u1 44 = .pointer (some ⟨b5, 9, none⟩) := Eq.mp (by kernel_rfl) f12u1_10
          replace hS : St w0 w (cells b5 183 [.int .u16 x10, .bool (decide (r1_4.1 = 1)), .int .i64 r5_6u4.1, .int .i64 r5_6u3.1, .int .i64 r5_6u2.1, .int .i64 r5_6u1.1, .slice A_b5_6_L11u4 b5_6_L11u4.length c_b5_6_L11u4, .slice A_b5_7_L11u3 b5_7_L11u3.length c_b5_7_L11u3, .slice A_b5_8_L11u2 b5_8_L11u2.length c_b5_8_L11u2, .slice A_b5_9_L11u1h b5_9_L11u1h.length c_b5_9_L11u1h] :: l') := Eq.mp (by kernel_rfl) hS
          refine o_store1 (v := .slice (adOf (Ep12u1 42)) z12u1_8.length (capOf (Ep12u1 42))) one_22 f12u1_10 f12u1_8 rfl rfl hS (fun w' hS => ?_)
          refine x_done <|
            ?_
          refine x_fin ⟨⟨undef, rfl⟩, trivial, ?_⟩
          exact Eq.mp (by kernel_rfl) hS
      intro Ep12u1 w' hE12u1 hF_ hS
      obtain ⟨f12u1_0, f12u1_1, f12u1_2, f12u1_3, f12u1_4, f12u1_5, f12u1_6, f12u1_7, f12u1_8, f12u1_9, f12u1_10, -⟩ := hF_
      replace f12u1_0 : Ep12u1 34 = .int .i64 3 := Eq.mp (by kernel_rfl) f12u1_0
      replace f12u1_1 : Ep12u1 35 = .int .i64 3 := Eq.mp (by kernel_rfl) f12u1_1
      replace f12u1_2 : Ep12u1 36 = .pointer (some ⟨b5, 6, none⟩) := Eq.mp (by kernel_rfl) f12u1_2
      replace f12u1_3 : Ep12u1 37 = .pointer (some ⟨b5, 9, none⟩) := Eq.mp (by kernel_rfl) f12u1_3
      replace f12u1_4 : Ep12u1 38 = .slice A_b5_9_L11u1h b5_9_L11u1h.length c_b5_9_L11u1h := Eq.mp (by kernel_rfl) f12u1_4
      replace f12u1_5 : Ep12u1 39 = .pointer (some ⟨b_r_0, 0, none⟩) := Eq.mp (by kernel_rfl) f12u1_5
      replace f12u1_6 : Ep12u1 40 = .int .i64 r12u1_6.1 := Eq.mp (by kernel_rfl) f12u1_6
      replace f12u1_7 : Ep12u1 41 = .slice (some ⟨(blkOf (Ep12u1 41)), 0, none⟩) 1 1 := Eq.mp (by kernel_rfl) f12u1_7
      replace f12u1_8 : Ep12u1 42 = .slice (adOf (Ep12u1 42)) z12u1_8.length (capOf (Ep12u1 42)) := Eq.mp (by kernel_rfl) f12u1_8
      replace f12u1_9 : Ep12u1 43 = .pointer (some ⟨b5, 6, none⟩) := Eq.mp (by kernel_rfl) f12u1_9
      replace f12u1_10 : Ep12u1 44 = .pointer (some ⟨b5, 9, none⟩) := Eq.mp (by kernel_rfl) f12u1_10
      replace hS : St w0 w' (ro ρ :: cells b_r_0 191 [.slice A_r_0_0 r_0.fb.length c_r_0_0, .int .i64 r12u1_6.2.1, .bool r12u1_6.2.2] :: cells (blkOf (Ep12u1 41)) 3 [.int .i64 r12u1_6.1] :: bunA (fun (cs42u1 : List Value) => RepL (RpI .i64) ρ z12u1_8 cs42u1) (fun (cs42u1 : List Value) => [vec 3 (RpI .i64).sz (.slice (adOf (Ep12u1 42)) z12u1_8.length (capOf (Ep12u1 42))) z12u1_8.length cs42u1]) :: cells b5 183 [.int .u16 x10, .bool (decide (r1_4.1 = 1)), .int .i64 r5_6u4.1, .int .i64 r5_6u3.1, .int .i64 r5_6u2.1, .int .i64 r5_6u1.1, .slice A_b5_6_L11u4 b5_6_L11u4.length c_b5_6_L11u4, .slice A_b5_7_L11u3 b5_7_L11u3.length c_b5_7_L11u3, .slice A_b5_8_L11u2 b5_8_L11u2.length c_b5_8_L11u2, .slice (adOf (Ep12u1 42)) z12u1_8.length (capOf (Ep12u1 42))] :: (cells b4 183 [.int .u16 0, .bool false, .int .i64 0, .int .i64 0, .int .i64 0, .int .i64 0, .slice none 0 0, .slice none 0 0, .slice none 0 0, .slice none 0 0] :: vec 3 (RpI .i64).sz (.slice A_b5_6_L11u4 b5_6_L11u4.length c_b5_6_L11u4) b5_6_L11u4.length cs_b5_6_L11u4 :: vec 3 (RpI .i64).sz (.slice A_b5_7_L11u3 b5_7_L11u3.length c_b5_7_L11u3) b5_7_L11u3.length cs_b5_7_L11u3 :: vec 3 (RpI .i64).sz (.slice A_b5_8_L11u2 b5_8_L11u2.length c_b5_8_L11u2) b5_8_L11u2.length cs_b5_8_L11u2 :: l)) := Eq.mp (by kernel_rfl) hS
      have q_ := St.unbun (hS.pull 3); obtain ⟨cs42u1, hr42u1, hS⟩ := q_
      replace hFL11u1 := ar_s hFL11u1; obtain ⟨x45u1, hx45u1, hFL11u1⟩ := hFL11u1
      refine x_blk <| x_region <| p (yadd ((hE12u1 32 rfl).trans eL11u1h_32) rfl hx45u1) <| p (yl_move rfl) <|
        x_done <|
        ?_
      have e_ := Option.some.inj (show some _ = some _ from hFL11u1); subst e_
      exact x_inv ⟨kL11u1, Nat.lt_succ_self _, (adOf (Ep12u1 42)), z12u1_8.length, (capOf (Ep12u1 42)), cs42u1, x45u1, r12u1_6.2.1, r12u1_6.2.2, z12u1_8, hLL11u1, ((hE12u1 0 rfl).trans eL11u1h_0), ((hE12u1 1 rfl).trans eL11u1h_1), ((hE12u1 4 rfl).trans eL11u1h_4), ((hE12u1 5 rfl).trans eL11u1h_5), ((hE12u1 7 rfl).trans eL11u1h_7), ((hE12u1 28 rfl).trans eL11u1h_28), ((hE12u1 31 rfl).trans eL11u1h_31), rfl, hr42u1, (((((((((hS.pull 3).drop.pull 1).pull 1).pull 7).pull 7).pull 7).pull 6).pull 7).pull 7)⟩
    · replace hFL11u1 := it_f hc33u1 hFL11u1
      refine x_exitTo _ rfl <|
        ?_
      have e_ := Option.some.inj (show some _ = some _ from hFL11u1); subst e_
      exact x_inv ⟨A_b5_9_L11u1h, b5_9_L11u1h.length, c_b5_9_L11u1h, cs_b5_9_L11u1h, b_r_0_1_L11u1h, b_r_0_2_L11u1h, b5_9_L11u1h, hLL11u1, eL11u1h_0, eL11u1h_1, eL11u1h_4, eL11u1h_5, eL11u1h_28, h_b5_9_L11u1h, ((((((((hS.pull 7).pull 7).pull 7).pull 7).pull 7).pull 7).pull 7).pull 7)⟩
  rintro E w ⟨A_b5_9_L11u1, n_b5_9_L11u1, c_b5_9_L11u1, cs_b5_9_L11u1, b_r_0_1_L11u1, b_r_0_2_L11u1, b5_9_L11u1, rfl, eL11u1_0, eL11u1_1, eL11u1_4, eL11u1_5, eL11u1_28, h_b5_9_L11u1, hS⟩
  have e_ := St.vec_n (hS.pull 6) h_b5_9_L11u1; subst e_
  refine x_blk <| x_region <| p (yadd (c := 4) eL11u1_28 rfl ⟨rfl, by decide⟩) <| p (yl_move rfl) <|
    x_done <| x_un 0 <| x_seq <| x_region <|
    p (ylss_l (t := false) rfl rfl (by decide)) <| x_done <| x_seq <| x_cond_f (show ev _ _ = .bool false from rfl) <|
    x_exitTo _ rfl <| x_seq <| x_region <| pa (v := .agg #[.int .u16 x10, .bool (decide (r1_4.1 = 1)), .int .i64 r5_6u4.1, .int .i64 r5_6u3.1, .int .i64 r5_6u2.1, .int .i64 r5_6u1.1, .slice A_b5_6_L11u4 b5_6_L11u4.length c_b5_6_L11u4, .slice A_b5_7_L11u3 b5_7_L11u3.length c_b5_7_L11u3, .slice A_b5_8_L11u2 b5_8_L11u2.length c_b5_8_L11u2, .slice A_b5_9_L11u1 b5_9_L11u1.length c_b5_9_L11u1]) (ld_sub agg_183 eL11u1_5 rfl rfl (hS.pull 2)) <|
    ?_
  refine o_storeAgg (news := [.int .u16 x10, .bool (decide (r1_4.1 = 1)), .int .i64 r5_6u4.1, .int .i64 r5_6u3.1, .int .i64 r5_6u2.1, .int .i64 r5_6u1.1, .slice A_b5_6_L11u4 b5_6_L11u4.length c_b5_6_L11u4, .slice A_b5_7_L11u3 b5_7_L11u3.length c_b5_7_L11u3, .slice A_b5_8_L11u2 b5_8_L11u2.length c_b5_8_L11u2, .slice A_b5_9_L11u1 b5_9_L11u1.length c_b5_9_L11u1]) agg_183 eL11u1_4 rfl rfl (by simp [over_length]) (hS.pull 1) (fun w' hS => ?_)
  refine x_done <|
    ?_
  have e_ := Option.some.inj (show some _ = some _ from hF); subst e_
  exact x_return ⟨_, ⟨_, _, _, rfl, eL11u1_4, ldvA agg_183 rfl (fun j v hj => by rw [add0]; exact St.cell hS hj), rfl⟩, A_b5_6_L11u4, b5_6_L11u4.length, c_b5_6_L11u4, cs_b5_6_L11u4, A_b5_7_L11u3, b5_7_L11u3.length, c_b5_7_L11u3, cs_b5_7_L11u3, A_b5_8_L11u2, b5_8_L11u2.length, c_b5_8_L11u2, cs_b5_8_L11u2, A_b5_9_L11u1, b5_9_L11u1.length, c_b5_9_L11u1, cs_b5_9_L11u1, rfl, h_b5_6_L11u4, h_b5_7_L11u3, h_b5_8_L11u2, h_b5_9_L11u1, (((((((hS.drop.pull 1).drop.pull 5).pull 1).pull 5).pull 5).pull 5).pull 5)⟩
attribute [irreducible] P_stream_reader_tile

def P_stream_reader_pads_L3 (r_0 : T_stream_reader) (r2_1 : (Int × Int × Bool)) : (List T_array_Pad × Int × Int × Bool) → Option ((List T_array_Pad × Int × Int × Bool) ⊕ (List T_array_Pad × Int × Bool)) := fun (out3_L3h, y6_L3h, b_r_0_1_L3h, b_r_0_2_L3h) =>
  if y6_L3h < r2_1.1 then
    bd (P_stream_reader_bits (T_stream_reader.mk r_0.fb b_r_0_1_L3h b_r_0_2_L3h) 4) fun r4_2 =>
    bd (P_stream_reader_bits (T_stream_reader.mk r_0.fb r4_2.2.1 r4_2.2.2) 4) fun r4_4 =>
    bd (P_stream_reader_bits (T_stream_reader.mk r_0.fb r4_4.2.1 r4_4.2.2) 2) fun r4_6 =>
    bd (P_stream_reader_bits (T_stream_reader.mk r_0.fb r4_6.2.1 r4_6.2.2) 3) fun r4_8 =>
    lv (out3_L3h ++ [(T_array_Pad.mk r4_2.1 r4_4.1 r4_6.1 r4_8.1)]) fun z4_11 =>
    ck (apOk 32 z4_11.length) <|
    ar (y6_L3h + 1) fun x20 =>
    some (Sum.inl (z4_11, x20, r4_8.2.1, r4_8.2.2))
  else
    some (Sum.inr (out3_L3h, b_r_0_1_L3h, b_r_0_2_L3h))
def P_stream_reader_pads (r_0 : T_stream_reader) : Option (List T_array_Pad × Int × Bool) :=
  bd (P_stream_reader_bits r_0 8) fun r2_1 =>
  bd (
    lp (P_stream_reader_pads_L3 r_0 r2_1) fuel ([], 0, r2_1.2.1, r2_1.2.2)) fun (out3_L3, b_r_0_1_L3, b_r_0_2_L3) =>
  some (out3_L3, b_r_0_1_L3, b_r_0_2_L3)
set_option maxHeartbeats 4000000 in
set_option maxRecDepth 100000 in
theorem c_stream_reader_pads {w0 w : World} {l : List Assn} {ρ : Heap} {b_r_0 : Nat} {A_r_0_0 : Option Addr} {n_r_0_0 : Nat} {c_r_0_0 : Nat} {r_0 : T_stream_reader} {r : (List T_array_Pad × Int × Bool)} (hF : P_stream_reader_pads r_0 = some r) (h_r_0_0 : RdS (RpI .u8) ρ A_r_0_0 n_r_0_0 c_r_0_0 r_0.fb) (hS : St w0 w (cells b_r_0 191 [.slice A_r_0_0 n_r_0_0 c_r_0_0, .int .i64 r_0.fat, .bool r_0.fover] :: ro ρ :: l)) :
    Calls Try.prog 97 #[.pointer (some ⟨b_r_0, 0, none⟩)] w fun e w' => ∃ (A_y0_ret : Option Addr) (n_y0_ret : Nat) (c_y0_ret : Nat) (cs_y0_ret : List Value), e = .returned (.slice A_y0_ret n_y0_ret c_y0_ret) ∧ RepL R_array_Pad ρ r.1 cs_y0_ret ∧ St w0 w' (vec 187 R_array_Pad.sz (.slice A_y0_ret n_y0_ret c_y0_ret) n_y0_ret cs_y0_ret :: cells b_r_0 191 [.slice A_r_0_0 n_r_0_0 c_r_0_0, .int .i64 r.2.1, .bool r.2.2] :: ro ρ :: l) := by
  have e_ := h_r_0_0.n; subst e_
  refine enterC Try.func97 rfl 22 rfl (by simp) ?_
  replace hF := bd_s hF; obtain ⟨r2_1, hc2_1, hF⟩ := hF
  refine x_seq <| x_region <| p (yl_assign rfl) <| x_done <|
    x_seq <| x_region <| p (yl_assign rfl) <| x_done <|
    x_seq <| x_seq <| x_region <| p (yl_move rfl) <|
    ?_
  have hcall := c_stream_reader_bits hc2_1 h_r_0_0 ((hS.pull 1).pull 1)
  refine o_cc call_94 (args2 rfl rfl) hcall ?_
  rintro e w' ⟨rfl, hS⟩
  refine ⟨_, rfl, ?_⟩
  refine p (yl_move rfl) <| x_done <|
    ?_
  replace hF := bd_s hF; obtain ⟨oL3, hLL3, hF⟩ := hF
  refine x_join (fun E w => ∃ (A_out3_L3 : Option Addr) (n_out3_L3 : Nat) (c_out3_L3 : Nat) (cs_out3_L3 : List Value) (out3_L3 : List T_array_Pad) (b_r_0_1_L3 : Int) (b_r_0_2_L3 : Bool), (out3_L3, b_r_0_1_L3, b_r_0_2_L3) = oL3 ∧ E 3 = .slice A_out3_L3 n_out3_L3 c_out3_L3 ∧ RepL R_array_Pad ρ out3_L3 cs_out3_L3 ∧ St w0 w (vec 187 R_array_Pad.sz (.slice A_out3_L3 n_out3_L3 c_out3_L3) n_out3_L3 cs_out3_L3 :: cells b_r_0 191 [.slice A_r_0_0 r_0.fb.length c_r_0_0, .int .i64 b_r_0_1_L3, .bool b_r_0_2_L3] :: ro ρ :: l)) ?_ ?_
  · skip -- L3
    refine x_block ?_
    replace hS := St.vec_nil hS 187 R_array_Pad.sz
    have hnil_A_out3_L3h : RepL R_array_Pad ρ [] [] := rfl
    refine x_loop (fun k_ E w => ∃ (A_out3_L3h : Option Addr) (n_out3_L3h : Nat) (c_out3_L3h : Nat) (cs_out3_L3h : List Value) (out3_L3h : List T_array_Pad) (y6_L3h : Int) (b_r_0_1_L3h : Int) (b_r_0_2_L3h : Bool), lp (P_stream_reader_pads_L3 r_0 r2_1) k_ (out3_L3h, y6_L3h, b_r_0_1_L3h, b_r_0_2_L3h) = some oL3 ∧ E 0 = .pointer (some ⟨b_r_0, 0, none⟩) ∧ E 3 = .slice A_out3_L3h n_out3_L3h c_out3_L3h ∧ E 5 = .int .i64 r2_1.1 ∧ E 6 = .int .i64 y6_L3h ∧ RepL R_array_Pad ρ out3_L3h cs_out3_L3h ∧ St w0 w (cells b_r_0 191 [.slice A_r_0_0 r_0.fb.length c_r_0_0, .int .i64 b_r_0_1_L3h, .bool b_r_0_2_L3h] :: vec 187 R_array_Pad.sz (.slice A_out3_L3h n_out3_L3h c_out3_L3h) n_out3_L3h cs_out3_L3h :: ro ρ :: l)) fuel ⟨none, 0, 0, [], [], 0, r2_1.2.1, r2_1.2.2, hLL3, rfl, rfl, rfl, rfl, hnil_A_out3_L3h, (((hS.pull 2).pull 1).pull 2)⟩ ?_
    rintro kL3 E w ⟨A_out3_L3h, n_out3_L3h, c_out3_L3h, cs_out3_L3h, out3_L3h, y6_L3h, b_r_0_1_L3h, b_r_0_2_L3h, hLL3, eL3h_0, eL3h_3, eL3h_5, eL3h_6, h_out3_L3h, hS⟩
    have e_ := St.vec_n (hS.pull 1) h_out3_L3h; subst e_
    replace hLL3 := lp_s hLL3; obtain ⟨kL3, obL3, rfl, hFL3, hLL3⟩ := hLL3
    refine x_seq <| x_region <| p (yl_lss eL3h_6 eL3h_5) <| x_done <|
      x_seq <|
      x_cond_p (y6_L3h < r2_1.1) rfl (fun hc7 => ?_) (fun hc7 => ?_)
    · replace hFL3 := it_t hc7 hFL3
      replace hFL3 := bd_s hFL3; obtain ⟨r4_2, hc4_2, hFL3⟩ := hFL3
      refine x_skip <| x_seq <| x_block <| x_region <|
        p (yl_move eL3h_3) <| p (yl_move eL3h_0) <|
        ?_
      have hcall := c_stream_reader_bits hc4_2 h_r_0_0 ((hS.pull 2).pull 1)
      refine o_cc call_94 (args2 rfl rfl) hcall ?_
      rintro e w' ⟨rfl, hS⟩
      refine ⟨_, rfl, ?_⟩
      replace hFL3 := bd_s hFL3; obtain ⟨r4_4, hc4_4, hFL3⟩ := hFL3
      refine p (yl_move eL3h_0) <|
        ?_
      have hcall := c_stream_reader_bits hc4_4 h_r_0_0 ((hS.pull 1).pull 1)
      refine o_cc call_94 (args2 rfl rfl) hcall ?_
      rintro e w' ⟨rfl, hS⟩
      refine ⟨_, rfl, ?_⟩
      replace hFL3 := bd_s hFL3; obtain ⟨r4_6, hc4_6, hFL3⟩ := hFL3
      refine p (yl_move eL3h_0) <|
        ?_
      have hcall := c_stream_reader_bits hc4_6 h_r_0_0 ((hS.pull 1).pull 1)
      refine o_cc call_94 (args2 rfl rfl) hcall ?_
      rintro e w' ⟨rfl, hS⟩
      refine ⟨_, rfl, ?_⟩
      replace hFL3 := bd_s hFL3; obtain ⟨r4_8, hc4_8, hFL3⟩ := hFL3
      refine p (yl_move eL3h_0) <|
        ?_
      have hcall := c_stream_reader_bits hc4_8 h_r_0_0 ((hS.pull 1).pull 1)
      refine o_cc call_94 (args2 rfl rfl) hcall ?_
      rintro e w' ⟨rfl, hS⟩
      refine ⟨_, rfl, ?_⟩
      refine p (v := .agg #[.int .i64 r4_2.1, .int .i64 r4_4.1, .int .i64 r4_6.1, .int .i64 r4_8.1]) (yl_build bld_187 bldf_187 (parts_eq (pt (va := .int .i64 r4_2.1) rfl (pt (va := .int .i64 r4_4.1) rfl (pt (va := .int .i64 r4_6.1) rfl (pt (va := .int .i64 r4_8.1) rfl pt0))))) (by kernel_rfl)) <|
        ?_
      refine o_buildSlice (vs := [.agg #[.int .i64 r4_2.1, .int .i64 r4_4.1, .int .i64 r4_6.1, .int .i64 r4_8.1]]) (cs := [.int .i64 r4_2.1, .int .i64 r4_4.1, .int .i64 r4_6.1, .int .i64 r4_8.1]) sl_79 zero_187 (parts_eq (pt (va := .agg #[.int .i64 r4_2.1, .int .i64 r4_4.1, .int .i64 r4_6.1, .int .i64 r4_8.1]) rfl pt0)) rfl (by intro v hv; simp only [List.mem_cons, List.not_mem_nil, or_false] at hv; first | (subst hv; rfl) | (rcases hv with rfl <;> rfl)) (by decide) rfl hS (fun b18 w' hS => ?_)
      replace hFL3 := lv_s hFL3; obtain ⟨z4_11, hz4_11, hFL3⟩ := hFL3
      replace hFL3 := ck_s hFL3; obtain ⟨hk4_11, hFL3⟩ := hFL3
      refine o_ap sl_79 zero_187 rfl (by decide) rfl rfl (hS.pull 3) h_out3_L3h (src_blk usl_79 hS rfl rfl) (RepL.cons (R := R_array_Pad) (ρ := ρ) (x := (T_array_Pad.mk r4_2.1 r4_4.1 r4_6.1 r4_8.1)) (cs := [.int .i64 r4_2.1, .int .i64 r4_4.1, .int .i64 r4_6.1, .int .i64 r4_8.1]) rfl RepL.nil) hz4_11 hk4_11 (fun A19 c19 cs19 w' hr19 hS => ?_)
      replace hFL3 := ar_s hFL3; obtain ⟨x20, hx20, hFL3⟩ := hFL3
      refine p (yl_assign rfl) <| x_done <| x_blk <| x_region <|
        p (yadd eL3h_6 rfl hx20) <| p (yl_move rfl) <| x_done <|
        ?_
      have e_ := Option.some.inj (show some _ = some _ from hFL3); subst e_
      exact x_inv ⟨kL3, Nat.lt_succ_self _, A19, z4_11.length, c19, cs19, z4_11, x20, r4_8.2.1, r4_8.2.2, hLL3, eL3h_0, rfl, eL3h_5, rfl, hr19, ((((hS.pull 1).drop.pull 2).pull 1).pull 2)⟩
    · replace hFL3 := it_f hc7 hFL3
      refine x_exitTo _ rfl <|
        ?_
      have e_ := Option.some.inj (show some _ = some _ from hFL3); subst e_
      exact x_inv ⟨A_out3_L3h, out3_L3h.length, c_out3_L3h, cs_out3_L3h, out3_L3h, b_r_0_1_L3h, b_r_0_2_L3h, hLL3, eL3h_3, h_out3_L3h, (((hS.pull 2).pull 1).pull 2)⟩
  rintro E w ⟨A_out3_L3, n_out3_L3, c_out3_L3, cs_out3_L3, out3_L3, b_r_0_1_L3, b_r_0_2_L3, rfl, eL3_3, h_out3_L3, hS⟩
  have e_ := St.vec_n hS h_out3_L3; subst e_
  refine x_seq <| x_region <| p (yl_move eL3_3) <| p (yl_assign rfl) <|
    x_done <|
    ?_
  have e_ := Option.some.inj (show some _ = some _ from hF); subst e_
  exact x_return ⟨_, ⟨_, _, rfl, rfl, rfl⟩, A_out3_L3, out3_L3.length, c_out3_L3, cs_out3_L3, rfl, h_out3_L3, (((hS.pull 2).pull 2).pull 2)⟩
attribute [irreducible] P_stream_reader_pads

def P_stream_Decode_L19 (b0 : List Int) (r5_1 : (Int × Int × Bool)) (r5_3 : (Int × Int × Bool)) (r5_5 : (Int × Int × Bool)) (y81_L15h : Int) : (Int × Int × Bool × List T_array_Tile) → Option ((Int × Int × Bool × List T_array_Tile) ⊕ (Int × Bool × List T_array_Tile)) := fun (y91_L19h, b22_1_L19h, b22_2_L19h, b7_3_L19h) =>
  if y91_L19h < r5_1.1 then
    ar (y91_L19h * r5_3.1) fun x99 =>
    ar (x99 + y81_L15h) fun x101 =>
    bd (P_stream_reader_tile (T_stream_reader.mk b0 b22_1_L19h b22_2_L19h) r5_5.1) fun r21_11 =>
    ck (inb x101 b7_3_L19h.length) <|
    lv (stt b7_3_L19h x101 r21_11.1) fun z21_13 =>
    ar (y91_L19h + 1) fun x107 =>
    some (Sum.inl (x107, r21_11.2.1, r21_11.2.2, z21_13))
  else
    some (Sum.inr (b22_1_L19h, b22_2_L19h, b7_3_L19h))
def P_stream_Decode_L15 (b0 : List Int) (r5_1 : (Int × Int × Bool)) (r5_3 : (Int × Int × Bool)) (r5_5 : (Int × Int × Bool)) : (Int × Int × Bool × List T_array_Tile) → Option ((Int × Int × Bool × List T_array_Tile) ⊕ ((Int × Bool × List T_array_Tile) ⊕ (T_array_Config × Int))) := fun (y81_L15h, b22_1_L15h, b22_2_L15h, b7_3_L15h) =>
  if y81_L15h < r5_3.1 then
    ck ((8 : Int) ≠ 0) <|
    ar (Int.tdiv b22_1_L15h 8) fun x88 =>
    bd (
      lp (P_stream_Decode_L19 b0 r5_1 r5_3 r5_5 y81_L15h) fuel (0, b22_1_L15h, b22_2_L15h, b7_3_L15h)) fun (b22_1_L19, b22_2_L19, b7_3_L19) =>
    ar ((1 : Int) + y81_L15h) fun x111 =>
    bd (P_stream_reader_part (T_stream_reader.mk b0 b22_1_L19 b22_2_L19) x88 x111) fun r23_4 =>
    if r23_4.1 ≠ 0 then
      some (Sum.inr (Sum.inr ((T_array_Config.mk 0 0 0 [] [] []), r23_4.1)))
    else
      ar (y81_L15h + 1) fun x117 =>
      some (Sum.inl (x117, r23_4.2, b22_2_L19, b7_3_L19))
  else
    some (Sum.inr (Sum.inl (b22_1_L15h, b22_2_L15h, b7_3_L15h)))
def P_stream_Decode (b0 : List Int) : Option (T_array_Config × Int) :=
  if 65536 < (b0.length : Int) then
    some ((T_array_Config.mk 0 0 0 [] [] []), (3 : Int))
  else
    bd (P_stream_reader_bits (T_stream_reader.mk b0 0 false) 16) fun r4_1 =>
    bd (P_stream_reader_bits (T_stream_reader.mk b0 r4_1.2.1 r4_1.2.2) 8) fun r4_3 =>
    bd (P_stream_reader_bits (T_stream_reader.mk b0 r4_3.2.1 r4_3.2.2) 8) fun r5_1 =>
    bd (P_stream_reader_bits (T_stream_reader.mk b0 r5_1.2.1 r5_1.2.2) 8) fun r5_3 =>
    bd (P_stream_reader_bits (T_stream_reader.mk b0 r5_3.2.1 r5_3.2.2) 8) fun r5_5 =>
    bd (P_stream_reader_part (T_stream_reader.mk b0 r5_5.2.1 r5_5.2.2) 0 0) fun r6_1 =>
    if r6_1.1 ≠ 0 then
      some ((T_array_Config.mk 0 0 0 [] [] []), r6_1.1)
    else
      lv ((decide (r4_1.1 ≠ 19799)) || (decide (r4_3.1 ≠ 1))) fun x45 =>
      if x45 = true then
        some ((T_array_Config.mk 0 0 0 [] [] []), (4 : Int))
      else
        lv (min r5_1.1 r5_3.1) fun x51 =>
        lv (max r5_1.1 r5_3.1) fun x58 =>
        lv ((decide (x51 < 1)) || (decide (16 < x58))) fun x60 =>
        lv (x60 || (decide (r5_5.1 < 2))) fun x65 =>
        lv (x65 || (decide (8 < r5_5.1))) fun x70 =>
        if x70 = true then
          some ((T_array_Config.mk 0 0 0 [] [] []), (2 : Int))
        else
          ar (r5_1.1 * r5_3.1) fun x76 =>
          ck (mkOk 136 x76) <|
          lv ((List.replicate (x76 : Int).toNat (T_array_Tile.mk 0 false (T_anon180.mk 0 0 0 0) (T_anon181.mk [] [] [] [])) : List T_array_Tile)) fun z13_5 =>
          bs (
            lp (P_stream_Decode_L15 b0 r5_1 r5_3 r5_5) fuel (0, r6_1.2, r5_5.2.2, z13_5)) (fun y => some y) fun (b22_1_L15, b22_2_L15, b7_3_L15) =>
          ck ((8 : Int) ≠ 0) <|
          ar (Int.tdiv b22_1_L15 8) fun x122 =>
          bd (P_stream_reader_pads (T_stream_reader.mk b0 b22_1_L15 b22_2_L15)) fun r28_1 =>
          bd (P_stream_reader_pads (T_stream_reader.mk b0 r28_1.2.1 r28_1.2.2)) fun r28_3 =>
          ar ((1 : Int) + r5_3.1) fun x133 =>
          bd (P_stream_reader_part (T_stream_reader.mk b0 r28_3.2.1 r28_3.2.2) x122 x133) fun r29_5 =>
          if r29_5.1 ≠ 0 then
            some ((T_array_Config.mk 0 0 0 [] [] []), r29_5.1)
          else
            ar ((8 : Int) * (b0.length : Int)) fun x145 =>
            if r29_5.2 < x145 then
              some ((T_array_Config.mk 0 0 0 [] [] []), (4 : Int))
            else
              bd (P_array_Check (T_array_Config.mk r5_1.1 r5_3.1 r5_5.1 b7_3_L15 r28_1.1 r28_3.1)) fun r34_1 =>
              if r34_1 ≠ 0 then
                some ((T_array_Config.mk 0 0 0 [] [] []), r34_1)
              else
                some ((T_array_Config.mk r5_1.1 r5_3.1 r5_5.1 b7_3_L15 r28_1.1 r28_3.1), (0 : Int))
set_option maxHeartbeats 4000000 in
set_option maxRecDepth 100000 in
theorem c_stream_Decode {w0 w : World} {l : List Assn} {ρ : Heap} {A_b0 : Option Addr} {n_b0 : Nat} {c_b0 : Nat} {b0 : List Int} {r : (T_array_Config × Int)} (hF : P_stream_Decode b0 = some r) (h_b0 : RdS (RpI .u8) ρ A_b0 n_b0 c_b0 b0) (hS : St w0 w (ro ρ :: l)) :
    Calls Try.prog 40 #[.slice A_b0 n_b0 c_b0] w fun e w' => ∃ (ρ' : Heap) (A_y0_ret_3 : Option Addr) (n_y0_ret_3 : Nat) (c_y0_ret_3 : Nat) (cs_y0_ret_3 : List Value) (A_y0_ret_4 : Option Addr) (n_y0_ret_4 : Nat) (c_y0_ret_4 : Nat) (cs_y0_ret_4 : List Value) (A_y0_ret_5 : Option Addr) (n_y0_ret_5 : Nat) (c_y0_ret_5 : Nat) (cs_y0_ret_5 : List Value), e = .returned (.tuple #[.agg #[.int .i64 r.1.Rows, .int .i64 r.1.Cols, .int .i64 r.1.Tracks, .slice A_y0_ret_3 n_y0_ret_3 c_y0_ret_3, .slice A_y0_ret_4 n_y0_ret_4 c_y0_ret_4, .slice A_y0_ret_5 n_y0_ret_5 c_y0_ret_5], .int .i64 r.2]) ∧ Le ρ ρ' ∧ RepL R_array_Tile ρ' r.1.Tiles cs_y0_ret_3 ∧ RepL R_array_Pad ρ' r.1.In cs_y0_ret_4 ∧ RepL R_array_Pad ρ' r.1.Out cs_y0_ret_5 ∧ St w0 w' (vec 183 R_array_Tile.sz (.slice A_y0_ret_3 n_y0_ret_3 c_y0_ret_3) n_y0_ret_3 cs_y0_ret_3 :: vec 187 R_array_Pad.sz (.slice A_y0_ret_4 n_y0_ret_4 c_y0_ret_4) n_y0_ret_4 cs_y0_ret_4 :: vec 187 R_array_Pad.sz (.slice A_y0_ret_5 n_y0_ret_5 c_y0_ret_5) n_y0_ret_5 cs_y0_ret_5 :: ro ρ' :: l) := by
  have e_ := h_b0.n; subst e_
  refine enterC Try.func40 rfl 155 rfl (by simp) ?_
  refine x_seq <| x_region <|
    ?_
  refine o_alloc zero_81 hS (fun b2 w' hS => ?_)
  refine p (yl_assign rfl) <| x_done <| x_seq <| x_seq <|
    x_region <| p (yl_move rfl) <| p (yl_len_slice usl_75 rfl) <| p (yl_gtr rfl rfl) <|
    x_done <|
    x_cond_p (65536 < (b0.length : Int)) rfl (fun hc18 => ?_) (fun hc18 => ?_)
  · replace hF := it_t hc18 hF
    refine x_seq <| x_region <| p (v := .agg #[.int .i64 0, .int .i64 0, .int .i64 0, .slice none 0 0, .slice none 0 0, .slice none 0 0]) (yl_build bld_81 bldf_81 (parts_eq pt0) (by kernel_rfl)) <|
      ?_
    refine o_storeAgg (news := [.int .i64 0, .int .i64 0, .int .i64 0, .slice none 0 0, .slice none 0 0, .slice none 0 0]) agg_81 rfl rfl rfl (by simp [over_length]) hS (fun w' hS => ?_)
    refine p (yl_assign rfl) <| x_done <|
      ?_
    replace hS := St.vec_nil hS 183 R_array_Tile.sz
    have hnil_A_y0_ret_3 : RepL R_array_Tile ρ [] [] := rfl
    replace hS := St.vec_nil hS 187 R_array_Pad.sz
    have hnil_A_y0_ret_4 : RepL R_array_Pad ρ [] [] := rfl
    replace hS := St.vec_nil hS 187 R_array_Pad.sz
    have hnil_A_y0_ret_5 : RepL R_array_Pad ρ [] [] := rfl
    have e_ := Option.some.inj (show some _ = some _ from hF); subst e_
    exact x_return ⟨_, ⟨_, _, _, rfl, rfl, ldvA agg_81 rfl (fun j v hj => by rw [add0]; exact St.cell (hS.pull 3) hj), _, _, rfl, rfl, rfl⟩, ρ, none, 0, 0, [], none, 0, 0, [], none, 0, 0, [], rfl, (Le.refl _), hnil_A_y0_ret_3, hnil_A_y0_ret_4, hnil_A_y0_ret_5, (((((hS.pull 3).drop.pull 3).pull 1).pull 2).pull 3)⟩
  · replace hF := it_f hc18 hF
    refine x_skip <| x_seq <| x_region <| p (yl_move rfl) <|
      p (v := .agg #[.slice A_b0 b0.length c_b0, .int .i64 0, .bool false]) (yl_build bld_191 bldf_191 (parts_eq (pt (va := .slice A_b0 b0.length c_b0) rfl pt0)) (by kernel_rfl)) <|
      ?_
    refine o_box (cs := [.slice A_b0 b0.length c_b0, .int .i64 0, .bool false]) rfl rfl hS (fun b22 w' hS => ?_)
    replace hF := bd_s hF; obtain ⟨r4_1, hc4_1, hF⟩ := hF
    refine p (yl_assign rfl) <| x_done <| x_seq <| x_region <|
      p (yl_move rfl) <|
      ?_
    have hcall := c_stream_reader_bits hc4_1 h_b0 ((hS.pull 2).pull 1)
    refine o_cc call_94 (args2 rfl rfl) hcall ?_
    rintro e w' ⟨rfl, hS⟩
    refine ⟨_, rfl, ?_⟩
    replace hF := bd_s hF; obtain ⟨r4_3, hc4_3, hF⟩ := hF
    refine p (yl_move rfl) <|
      ?_
    have hcall := c_stream_reader_bits hc4_3 h_b0 ((hS.pull 1).pull 1)
    refine o_cc call_94 (args2 rfl rfl) hcall ?_
    rintro e w' ⟨rfl, hS⟩
    refine ⟨_, rfl, ?_⟩
    replace hF := bd_s hF; obtain ⟨r5_1, hc5_1, hF⟩ := hF
    refine p (yl_assign rfl) <| p (yl_assign rfl) <| x_done <| x_seq <|
      x_region <| p (yl_move rfl) <|
      ?_
    have hcall := c_stream_reader_bits hc5_1 h_b0 ((hS.pull 1).pull 1)
    refine o_cc call_94 (args2 rfl rfl) hcall ?_
    rintro e w' ⟨rfl, hS⟩
    refine ⟨_, rfl, ?_⟩
    replace hF := bd_s hF; obtain ⟨r5_3, hc5_3, hF⟩ := hF
    refine p (yl_move rfl) <|
      ?_
    have hcall := c_stream_reader_bits hc5_3 h_b0 ((hS.pull 1).pull 1)
    refine o_cc call_94 (args2 rfl rfl) hcall ?_
    rintro e w' ⟨rfl, hS⟩
    refine ⟨_, rfl, ?_⟩
    replace hF := bd_s hF; obtain ⟨r5_5, hc5_5, hF⟩ := hF
    refine p (yl_move rfl) <|
      ?_
    have hcall := c_stream_reader_bits hc5_5 h_b0 ((hS.pull 1).pull 1)
    refine o_cc call_94 (args2 rfl rfl) hcall ?_
    rintro e w' ⟨rfl, hS⟩
    refine ⟨_, rfl, ?_⟩
    refine p (v := .agg #[.int .i64 r5_1.1, .int .i64 r5_3.1, .int .i64 r5_5.1, .slice none 0 0, .slice none 0 0, .slice none 0 0]) (yl_build bld_81 bldf_81 (parts_eq (pt (va := .int .i64 r5_1.1) rfl (pt (va := .int .i64 r5_3.1) rfl (pt (va := .int .i64 r5_5.1) rfl pt0)))) (by kernel_rfl)) <|
      ?_
    refine o_alloc zero_81 hS (fun b7 w' hS => ?_)
    refine o_storeAgg (news := [.int .i64 r5_1.1, .int .i64 r5_3.1, .int .i64 r5_5.1, .slice none 0 0, .slice none 0 0, .slice none 0 0]) agg_81 rfl rfl rfl (by simp [over_length]) hS (fun w' hS => ?_)
    replace hF := bd_s hF; obtain ⟨r6_1, hc6_1, hF⟩ := hF
    refine x_done <| x_seq <| x_seq <| x_region <|
      p (yl_move rfl) <|
      ?_
    have hcall := c_stream_reader_part hc6_1 h_b0 ((hS.pull 2).pull 2)
    refine o_cc call_95 (args3 rfl rfl rfl) hcall ?_
    rintro e w' ⟨rfl, hS⟩
    refine ⟨_, rfl, ?_⟩
    refine p (yl_assign rfl) <| x_done <| x_seq <| x_region <|
      p (yl_move rfl) <| p (yl_neq rfl rfl) <| x_done <|
      x_cond_p (r6_1.1 ≠ 0) rfl (fun hc37 => ?_) (fun hc37 => ?_)
    · replace hF := it_t hc37 hF
      refine x_seq <| x_region <| p (v := .agg #[.int .i64 0, .int .i64 0, .int .i64 0, .slice none 0 0, .slice none 0 0, .slice none 0 0]) (yl_build bld_81 bldf_81 (parts_eq pt0) (by kernel_rfl)) <| p (yl_move rfl) <|
        ?_
      refine o_storeAgg (news := [.int .i64 0, .int .i64 0, .int .i64 0, .slice none 0 0, .slice none 0 0, .slice none 0 0]) agg_81 rfl rfl rfl (by simp [over_length]) (hS.pull 3) (fun w' hS => ?_)
      refine p (yl_assign rfl) <| x_done <|
        ?_
      replace hS := St.vec_nil hS 183 R_array_Tile.sz
      have hnil_A_y0_ret_3 : RepL R_array_Tile ρ [] [] := rfl
      replace hS := St.vec_nil hS 187 R_array_Pad.sz
      have hnil_A_y0_ret_4 : RepL R_array_Pad ρ [] [] := rfl
      replace hS := St.vec_nil hS 187 R_array_Pad.sz
      have hnil_A_y0_ret_5 : RepL R_array_Pad ρ [] [] := rfl
      have e_ := Option.some.inj (show some _ = some _ from hF); subst e_
      exact x_return ⟨_, ⟨_, _, _, rfl, rfl, ldvA agg_81 rfl (fun j v hj => by rw [add0]; exact St.cell (hS.pull 3) hj), _, _, rfl, rfl, rfl⟩, ρ, none, 0, 0, [], none, 0, 0, [], none, 0, 0, [], rfl, (Le.refl _), hnil_A_y0_ret_3, hnil_A_y0_ret_4, hnil_A_y0_ret_5, (((((((hS.pull 3).drop.pull 3).drop.pull 4).drop.pull 3).pull 1).pull 2).pull 3)⟩
    · replace hF := it_f hc37 hF
      replace hF := lv_s hF; obtain ⟨x45, hx45, hF⟩ := hF
      refine x_skip <| x_seq <| x_seq <| x_region <|
        p (yl_move rfl) <| p (yl_neq rfl rfl) <| p (yl_move rfl) <| pg (v := .int .i64 r4_3.1) 42 (c := !(decide (r4_1.1 ≠ 19799))) (says_f _) (fun hq => Yl.at (yl_move rfl)) <|
        pg (v := .bool (decide (r4_3.1 ≠ 1))) 42 (c := !(decide (r4_1.1 ≠ 19799))) (says_f _) (fun hq => Yl.at (yl_neq (cv hq) rfl)) <| p (yor' rfl rfl (fun hc => (cv (t_not hc))) hx45) <| x_done <|
        x_cond (t := x45) rfl (fun hc45 => ?_) (fun hc45 => ?_)
      · replace hF := it_t hc45 hF
        refine x_seq <| x_region <| p (v := .agg #[.int .i64 0, .int .i64 0, .int .i64 0, .slice none 0 0, .slice none 0 0, .slice none 0 0]) (yl_build bld_81 bldf_81 (parts_eq pt0) (by kernel_rfl)) <|
          ?_
        refine o_storeAgg (news := [.int .i64 0, .int .i64 0, .int .i64 0, .slice none 0 0, .slice none 0 0, .slice none 0 0]) agg_81 rfl rfl rfl (by simp [over_length]) (hS.pull 3) (fun w' hS => ?_)
        refine p (yl_assign rfl) <| x_done <|
          ?_
        replace hS := St.vec_nil hS 183 R_array_Tile.sz
        have hnil_A_y0_ret_3 : RepL R_array_Tile ρ [] [] := rfl
        replace hS := St.vec_nil hS 187 R_array_Pad.sz
        have hnil_A_y0_ret_4 : RepL R_array_Pad ρ [] [] := rfl
        replace hS := St.vec_nil hS 187 R_array_Pad.sz
        have hnil_A_y0_ret_5 : RepL R_array_Pad ρ [] [] := rfl
        have e_ := Option.some.inj (show some _ = some _ from hF); subst e_
        exact x_return ⟨_, ⟨_, _, _, rfl, rfl, ldvA agg_81 rfl (fun j v hj => by rw [add0]; exact St.cell (hS.pull 3) hj), _, _, rfl, rfl, rfl⟩, ρ, none, 0, 0, [], none, 0, 0, [], none, 0, 0, [], rfl, (Le.refl _), hnil_A_y0_ret_3, hnil_A_y0_ret_4, hnil_A_y0_ret_5, (((((((hS.pull 3).drop.pull 3).drop.pull 4).drop.pull 3).pull 1).pull 2).pull 3)⟩
      · replace hF := it_bf hc45 hF
        replace hF := lv_s hF; obtain ⟨x51, hx51, hF⟩ := hF
        replace hF := lv_s hF; obtain ⟨x58, hx58, hF⟩ := hF
        replace hF := lv_s hF; obtain ⟨x60, hx60, hF⟩ := hF
        replace hF := lv_s hF; obtain ⟨x65, hx65, hF⟩ := hF
        replace hF := lv_s hF; obtain ⟨x70, hx70, hF⟩ := hF
        refine x_skip <| x_seq <| x_seq <| x_region <|
          p (yl_field0 fld_81_0 rfl) <| pa (at_load one_3 rfl ((hS.pull 2).cell rfl)) <| p (yl_field0 fld_81_1 rfl) <| pa (at_load one_3 rfl ((hS.pull 2).cell rfl)) <|
          p (ymin' rfl rfl hx51) <| p (yl_lss rfl rfl) <| p (yl_move rfl) <| pg (v := .pointer (some ⟨b7, 0, none⟩)) 53 (c := !(decide (x51 < 1))) (says_f _) (fun hq => Yl.at (yl_field0 fld_81_0 rfl)) <|
          pg (v := .int .i64 r5_1.1) 53 (c := !(decide (x51 < 1))) (says_f _) (fun hq => at_load one_3 (cv hq) ((hS.pull 2).cell rfl)) <| pg (v := .pointer (some ⟨b7, 1, none⟩)) 53 (c := !(decide (x51 < 1))) (says_f _) (fun hq => Yl.at (yl_field0 fld_81_1 rfl)) <| pg (v := .int .i64 r5_3.1) 53 (c := !(decide (x51 < 1))) (says_f _) (fun hq => at_load one_3 (cv hq) ((hS.pull 2).cell rfl)) <| pg (v := .int .i64 x58) 53 (c := !(decide (x51 < 1))) (says_f _) (fun hq => Yl.at (ymax' (cv hq) (cv hq) hx58)) <|
          pg (v := .bool (decide (16 < x58))) 53 (c := !(decide (x51 < 1))) (says_f _) (fun hq => Yl.at (yl_gtr (cv hq) rfl)) <| p (yor' rfl rfl (fun hc => (cv (t_not hc))) hx60) <| p (yl_move rfl) <| pg (v := .pointer (some ⟨b7, 2, none⟩)) 61 (c := !x60) (says_f _) (fun hq => Yl.at (yl_field0 fld_81_2 rfl)) <|
          pg (v := .int .i64 r5_5.1) 61 (c := !x60) (says_f _) (fun hq => at_load one_3 (cv hq) ((hS.pull 2).cell rfl)) <| pg (v := .bool (decide (r5_5.1 < 2))) 61 (c := !x60) (says_f _) (fun hq => Yl.at (yl_lss (cv hq) rfl)) <| p (yor' rfl rfl (fun hc => (cv (t_not hc))) hx65) <| p (yl_move rfl) <|
          pg (v := .pointer (some ⟨b7, 2, none⟩)) 66 (c := !x65) (says_f _) (fun hq => Yl.at (yl_field0 fld_81_2 rfl)) <| pg (v := .int .i64 r5_5.1) 66 (c := !x65) (says_f _) (fun hq => at_load one_3 (cv hq) ((hS.pull 2).cell rfl)) <| pg (v := .bool (decide (8 < r5_5.1))) 66 (c := !x65) (says_f _) (fun hq => Yl.at (yl_gtr (cv hq) rfl)) <| p (yor' rfl rfl (fun hc => (cv (t_not hc))) hx70) <|
          x_done <|
          x_cond (t := x70) rfl (fun hc70 => ?_) (fun hc70 => ?_)
        · replace hF := it_t hc70 hF
          refine x_seq <| x_region <| p (v := .agg #[.int .i64 0, .int .i64 0, .int .i64 0, .slice none 0 0, .slice none 0 0, .slice none 0 0]) (yl_build bld_81 bldf_81 (parts_eq pt0) (by kernel_rfl)) <|
            ?_
          refine o_storeAgg (news := [.int .i64 0, .int .i64 0, .int .i64 0, .slice none 0 0, .slice none 0 0, .slice none 0 0]) agg_81 rfl rfl rfl (by simp [over_length]) (hS.pull 3) (fun w' hS => ?_)
          refine p (yl_assign rfl) <| x_done <|
            ?_
          replace hS := St.vec_nil hS 183 R_array_Tile.sz
          have hnil_A_y0_ret_3 : RepL R_array_Tile ρ [] [] := rfl
          replace hS := St.vec_nil hS 187 R_array_Pad.sz
          have hnil_A_y0_ret_4 : RepL R_array_Pad ρ [] [] := rfl
          replace hS := St.vec_nil hS 187 R_array_Pad.sz
          have hnil_A_y0_ret_5 : RepL R_array_Pad ρ [] [] := rfl
          have e_ := Option.some.inj (show some _ = some _ from hF); subst e_
          exact x_return ⟨_, ⟨_, _, _, rfl, rfl, ldvA agg_81 rfl (fun j v hj => by rw [add0]; exact St.cell (hS.pull 3) hj), _, _, rfl, rfl, rfl⟩, ρ, none, 0, 0, [], none, 0, 0, [], none, 0, 0, [], rfl, (Le.refl _), hnil_A_y0_ret_3, hnil_A_y0_ret_4, hnil_A_y0_ret_5, (((((((hS.pull 3).drop.pull 3).drop.pull 4).drop.pull 3).pull 1).pull 2).pull 3)⟩
        · replace hF := it_bf hc70 hF
          replace hF := ar_s hF; obtain ⟨x76, hx76, hF⟩ := hF
          refine x_skip <| x_seq <| x_region <| p (yl_field0 fld_81_0 rfl) <|
            pa (at_load one_3 rfl ((hS.pull 2).cell rfl)) <| p (yl_field0 fld_81_1 rfl) <| pa (at_load one_3 rfl ((hS.pull 2).cell rfl)) <| p (ymul rfl rfl hx76) <|
            ?_
          replace hF := ck_s hF; obtain ⟨hk13_5, hF⟩ := hF
          replace hF := lv_s hF; obtain ⟨z13_5, hz13_5, hF⟩ := hF
          refine o_mk sl_78 zero_183 (show R_array_Tile.ok ρ _ (T_array_Tile.mk 0 false (T_anon180.mk 0 0 0 0) (T_anon181.mk [] [] [] [])) from ⟨_, _, _, _, _, _, _, _, _, _, _, _, rfl, (RdS.nil (A := none) (c := 0)), (RdS.nil (A := none) (c := 0)), (RdS.nil (A := none) (c := 0)), (RdS.nil (A := none) (c := 0))⟩) rfl rfl hk13_5 (by decide) hz13_5 hS (fun A77 cs77 w' hr77 hS => ?_)
          refine p (yl_field0 fld_81_3 rfl) <|
            ?_
          refine o_store1 (v := .slice A77 z13_5.length z13_5.length) one_78 rfl rfl rfl rfl (hS.pull 3) (fun w' hS => ?_)
          refine x_done <| x_seq <| x_seq <| x_region <|
            p (yl_field0 fld_81_1 rfl) <| pa (at_load one_3 rfl (hS.cell rfl)) <| p (yl_move rfl) <| x_done <|
            ?_
          replace hF := bs_s hF; obtain ⟨oL15, hLL15, hF⟩ := hF
          refine x_join (fun E w => ∃ (ρ_L15 : Heap) (cs_b7_3_L15 : List Value) (b22_1_L15 : Int) (b22_2_L15 : Bool) (b7_3_L15 : List T_array_Tile), (Sum.inl (b22_1_L15, b22_2_L15, b7_3_L15)) = oL15 ∧ Le ρ ρ_L15 ∧ E 0 = .slice A_b0 b0.length c_b0 ∧ E 2 = .pointer (some ⟨b2, 0, none⟩) ∧ E 4 = .pointer (some ⟨b22, 0, none⟩) ∧ E 7 = .pointer (some ⟨b7, 0, none⟩) ∧ RepL R_array_Tile ρ_L15 b7_3_L15 cs_b7_3_L15 ∧ St w0 w (cells b2 81 [.int .i64 0, .int .i64 0, .int .i64 0, .slice none 0 0, .slice none 0 0, .slice none 0 0] :: cells b22 191 [.slice A_b0 b0.length c_b0, .int .i64 b22_1_L15, .bool b22_2_L15] :: cells b7 81 [.int .i64 r5_1.1, .int .i64 r5_3.1, .int .i64 r5_5.1, .slice A77 z13_5.length z13_5.length, .slice none 0 0, .slice none 0 0] :: vec 183 R_array_Tile.sz (.slice A77 z13_5.length z13_5.length) z13_5.length cs_b7_3_L15 :: ro ρ_L15 :: l)) ?_ ?_
          · skip -- L15
            refine x_block ?_
            refine x_loop (fun k_ E w => ∃ (ρ_L15h : Heap) (cs_b7_3_L15h : List Value) (y81_L15h : Int) (b22_1_L15h : Int) (b22_2_L15h : Bool) (b7_3_L15h : List T_array_Tile), lp (P_stream_Decode_L15 b0 r5_1 r5_3 r5_5) k_ (y81_L15h, b22_1_L15h, b22_2_L15h, b7_3_L15h) = some oL15 ∧ Le ρ ρ_L15h ∧ E 0 = .slice A_b0 b0.length c_b0 ∧ E 2 = .pointer (some ⟨b2, 0, none⟩) ∧ E 4 = .pointer (some ⟨b22, 0, none⟩) ∧ E 7 = .pointer (some ⟨b7, 0, none⟩) ∧ E 80 = .int .i64 r5_3.1 ∧ E 81 = .int .i64 y81_L15h ∧ RepL R_array_Tile ρ_L15h b7_3_L15h cs_b7_3_L15h ∧ St w0 w (cells b2 81 [.int .i64 0, .int .i64 0, .int .i64 0, .slice none 0 0, .slice none 0 0, .slice none 0 0] :: cells b22 191 [.slice A_b0 b0.length c_b0, .int .i64 b22_1_L15h, .bool b22_2_L15h] :: cells b7 81 [.int .i64 r5_1.1, .int .i64 r5_3.1, .int .i64 r5_5.1, .slice A77 z13_5.length z13_5.length, .slice none 0 0, .slice none 0 0] :: vec 183 R_array_Tile.sz (.slice A77 z13_5.length z13_5.length) z13_5.length cs_b7_3_L15h :: ro ρ_L15h :: l)) fuel ⟨ρ, cs77, 0, r6_1.2, r5_5.2.2, z13_5, hLL15, (Le.refl _), rfl, rfl, rfl, rfl, rfl, rfl, hr77, (((((hS.pull 3).pull 2).pull 2).pull 3).pull 4)⟩ ?_
            rintro kL15 E w ⟨ρ_L15h, cs_b7_3_L15h, y81_L15h, b22_1_L15h, b22_2_L15h, b7_3_L15h, hLL15, hleρ_L15h, eL15h_0, eL15h_2, eL15h_4, eL15h_7, eL15h_80, eL15h_81, h_b7_3_L15h, hS⟩
            replace hLL15 := lp_s hLL15; obtain ⟨kL15, obL15, rfl, hFL15, hLL15⟩ := hLL15
            refine x_seq <| x_region <| p (yl_lss eL15h_81 eL15h_80) <| x_done <|
              x_seq <|
              x_cond_p (y81_L15h < r5_3.1) rfl (fun hc82 => ?_) (fun hc82 => ?_)
            · replace hFL15 := it_t hc82 hFL15
              replace hFL15 := ck_s hFL15; obtain ⟨hk17_4, hFL15⟩ := hFL15
              replace hFL15 := ar_s hFL15; obtain ⟨x88, hx88, hFL15⟩ := hFL15
              refine x_skip <| x_seq <| x_block <| x_seq <|
                x_region <| p (yl_move eL15h_81) <| p (yl_assign rfl) <| x_done <|
                x_seq <| x_region <| p (yl_move eL15h_4) <| p (yl_nilCheck rfl) <|
                p (yl_field0 fld_191_1 rfl) <| pa (at_load one_3 rfl ((hS.pull 1).cell rfl)) <| p (yquo rfl rfl hk17_4 hx88) <| p (yl_assign rfl) <|
                x_done <| x_seq <| x_seq <| x_region <|
                p (yl_field0 fld_81_0 eL15h_7) <| pa (at_load one_3 rfl ((hS.pull 2).cell rfl)) <| p (yl_move rfl) <| x_done <|
                ?_
              replace hFL15 := bd_s hFL15; obtain ⟨oL19, hLL19, hFL15⟩ := hFL15
              refine x_join (fun E w => ∃ (ρ_L19 : Heap) (cs_b7_3_L19 : List Value) (b22_1_L19 : Int) (b22_2_L19 : Bool) (b7_3_L19 : List T_array_Tile), (b22_1_L19, b22_2_L19, b7_3_L19) = oL19 ∧ Le ρ_L15h ρ_L19 ∧ E 0 = .slice A_b0 b0.length c_b0 ∧ E 2 = .pointer (some ⟨b2, 0, none⟩) ∧ E 4 = .pointer (some ⟨b22, 0, none⟩) ∧ E 7 = .pointer (some ⟨b7, 0, none⟩) ∧ E 9 = .int .i64 y81_L15h ∧ E 10 = .int .i64 x88 ∧ E 80 = .int .i64 r5_3.1 ∧ E 81 = .int .i64 y81_L15h ∧ RepL R_array_Tile ρ_L19 b7_3_L19 cs_b7_3_L19 ∧ St w0 w (cells b2 81 [.int .i64 0, .int .i64 0, .int .i64 0, .slice none 0 0, .slice none 0 0, .slice none 0 0] :: cells b22 191 [.slice A_b0 b0.length c_b0, .int .i64 b22_1_L19, .bool b22_2_L19] :: cells b7 81 [.int .i64 r5_1.1, .int .i64 r5_3.1, .int .i64 r5_5.1, .slice A77 z13_5.length z13_5.length, .slice none 0 0, .slice none 0 0] :: vec 183 R_array_Tile.sz (.slice A77 z13_5.length z13_5.length) z13_5.length cs_b7_3_L19 :: ro ρ_L19 :: l)) ?_ ?_
              · skip -- L19
                refine x_block ?_
                refine x_loop (fun k_ E w => ∃ (ρ_L19h : Heap) (cs_b7_3_L19h : List Value) (y91_L19h : Int) (b22_1_L19h : Int) (b22_2_L19h : Bool) (b7_3_L19h : List T_array_Tile), lp (P_stream_Decode_L19 b0 r5_1 r5_3 r5_5 y81_L15h) k_ (y91_L19h, b22_1_L19h, b22_2_L19h, b7_3_L19h) = some oL19 ∧ Le ρ_L15h ρ_L19h ∧ E 0 = .slice A_b0 b0.length c_b0 ∧ E 2 = .pointer (some ⟨b2, 0, none⟩) ∧ E 4 = .pointer (some ⟨b22, 0, none⟩) ∧ E 7 = .pointer (some ⟨b7, 0, none⟩) ∧ E 9 = .int .i64 y81_L15h ∧ E 10 = .int .i64 x88 ∧ E 80 = .int .i64 r5_3.1 ∧ E 81 = .int .i64 y81_L15h ∧ E 90 = .int .i64 r5_1.1 ∧ E 91 = .int .i64 y91_L19h ∧ RepL R_array_Tile ρ_L19h b7_3_L19h cs_b7_3_L19h ∧ St w0 w (cells b2 81 [.int .i64 0, .int .i64 0, .int .i64 0, .slice none 0 0, .slice none 0 0, .slice none 0 0] :: cells b22 191 [.slice A_b0 b0.length c_b0, .int .i64 b22_1_L19h, .bool b22_2_L19h] :: cells b7 81 [.int .i64 r5_1.1, .int .i64 r5_3.1, .int .i64 r5_5.1, .slice A77 z13_5.length z13_5.length, .slice none 0 0, .slice none 0 0] :: vec 183 R_array_Tile.sz (.slice A77 z13_5.length z13_5.length) z13_5.length cs_b7_3_L19h :: ro ρ_L19h :: l)) fuel ⟨ρ_L15h, cs_b7_3_L15h, 0, b22_1_L15h, b22_2_L15h, b7_3_L15h, hLL19, (Le.refl _), eL15h_0, eL15h_2, eL15h_4, eL15h_7, rfl, rfl, eL15h_80, eL15h_81, rfl, rfl, h_b7_3_L15h, (((((hS.pull 4).pull 4).pull 4).pull 4).pull 4)⟩ ?_
                rintro kL19 E w ⟨ρ_L19h, cs_b7_3_L19h, y91_L19h, b22_1_L19h, b22_2_L19h, b7_3_L19h, hLL19, hleρ_L19h, eL19h_0, eL19h_2, eL19h_4, eL19h_7, eL19h_9, eL19h_10, eL19h_80, eL19h_81, eL19h_90, eL19h_91, h_b7_3_L19h, hS⟩
                replace hLL19 := lp_s hLL19; obtain ⟨kL19, obL19, rfl, hFL19, hLL19⟩ := hLL19
                refine x_seq <| x_region <| p (yl_lss eL19h_91 eL19h_90) <| x_done <|
                  x_seq <|
                  x_cond_p (y91_L19h < r5_1.1) rfl (fun hc92 => ?_) (fun hc92 => ?_)
                · replace hFL19 := it_t hc92 hFL19
                  refine x_skip <| x_seq <| x_block <| x_seq <|
                    x_region <| p (yl_move eL19h_91) <| p (yl_assign rfl) <| x_done <|
                    ?_
                  replace hFL19 := ar_s hFL19; obtain ⟨x99, hx99, hFL19⟩ := hFL19
                  replace hFL19 := ar_s hFL19; obtain ⟨x101, hx101, hFL19⟩ := hFL19
                  replace hFL19 := bd_s hFL19; obtain ⟨r21_11, hc21_11, hFL19⟩ := hFL19
                  replace hFL19 := ck_s hFL19; obtain ⟨hk21_12, hFL19⟩ := hFL19
                  replace hFL19 := lv_s hFL19; obtain ⟨z21_13, hz21_13, hFL19⟩ := hFL19
                  refine x_par (w0 := w0) [⟨[], [], [94], [], [], []⟩, ⟨[0], [0], [95], [0], [], []⟩, ⟨[], [], [96], [], [], []⟩, ⟨[], [], [97], [], [], []⟩, ⟨[3], [3], [98], [0], [], []⟩, ⟨[2, 3, 4], [2, 4], [99], [], [], []⟩, ⟨[], [], [100], [], [], []⟩, ⟨[2, 3, 4, 5, 6], [5, 6], [101], [], [], []⟩, ⟨[], [], [102], [], [], []⟩, ⟨[], [], [103], [], [], []⟩, ⟨[9], [9], [104], [0], [], []⟩, ⟨[8, 9, 10], [8, 10], [105], [2], [1], [3, 4]⟩, ⟨[0, 1, 2, 3, 4, 5, 6, 7, 8, 9, 10, 11], [1, 7], [106], [5], [], []⟩, ⟨[0, 1, 2, 3, 4, 5, 6, 7, 8, 9, 10, 11, 12], [11, 12], [], [2], [5, 4], [6]⟩] [⟨none, none, []⟩, ⟨none, (some 11), []⟩, ⟨none, none, []⟩, ⟨(some 11), none, []⟩, ⟨(some 11), (some 13), [105]⟩, ⟨none, (some 13), []⟩, ⟨(some 13), none, [105]⟩] [94, 95, 96, 97, 98, 99, 100, 101, 102, 103, 104, 105, 106] [0, 1, 2, 5] [0, 2, 3, 6] [0, 1, 2, 3, 4, 5, 6, 7, 8, 9, 10, 11, 12] [fun Ep21 => Ep21 94 = .pointer (some ⟨b7, 3, none⟩), fun Ep21 => Ep21 95 = .slice A77 z13_5.length z13_5.length, fun Ep21 => Ep21 96 = .int .i64 y91_L19h, fun Ep21 => Ep21 97 = .pointer (some ⟨b7, 1, none⟩), fun Ep21 => Ep21 98 = .int .i64 r5_3.1, fun Ep21 => Ep21 99 = .int .i64 x99, fun Ep21 => Ep21 100 = .int .i64 y81_L15h, fun Ep21 => Ep21 101 = .int .i64 x101, fun Ep21 => Ep21 102 = .pointer (some ⟨b22, 0, none⟩), fun Ep21 => Ep21 103 = .pointer (some ⟨b7, 2, none⟩), fun Ep21 => Ep21 104 = .int .i64 r5_5.1, fun Ep21 => Ep21 105 = .agg #[.int .u16 r21_11.1.Table, .bool r21_11.1.Init, .int .i64 r21_11.1.In.fe0, .int .i64 r21_11.1.In.fe1, .int .i64 r21_11.1.In.fe2, .int .i64 r21_11.1.In.fe3, .slice (adOf (partOf 6 (Ep21 105))) r21_11.1.Out.fe0.length (capOf (partOf 6 (Ep21 105))), .slice (adOf (partOf 7 (Ep21 105))) r21_11.1.Out.fe1.length (capOf (partOf 7 (Ep21 105))), .slice (adOf (partOf 8 (Ep21 105))) r21_11.1.Out.fe2.length (capOf (partOf 8 (Ep21 105))), .slice (adOf (partOf 9 (Ep21 105))) r21_11.1.Out.fe3.length (capOf (partOf 9 (Ep21 105)))], fun Ep21 => Ep21 106 = .pointer (some ((adr A77).add (x101.toNat * R_array_Tile.sz))), fun Ep21 => True] [fun Ep21 => cells b7 81 [.int .i64 r5_1.1, .int .i64 r5_3.1, .int .i64 r5_5.1, .slice A77 z13_5.length z13_5.length, .slice none 0 0, .slice none 0 0], fun Ep21 => cells b22 191 [.slice A_b0 b0.length c_b0, .int .i64 b22_1_L19h, .bool b22_2_L19h], fun Ep21 => ro ρ_L19h, fun Ep21 => cells b22 191 [.slice A_b0 b0.length c_b0, .int .i64 r21_11.2.1, .bool r21_11.2.2], fun Ep21 => bunA (fun (x : (List Value × List Value × List Value × List Value)) => RepL (RpI .i64) ρ_L19h r21_11.1.Out.fe0 x.1 ∧ RepL (RpI .i64) ρ_L19h r21_11.1.Out.fe1 x.2.1 ∧ RepL (RpI .i64) ρ_L19h r21_11.1.Out.fe2 x.2.2.1 ∧ RepL (RpI .i64) ρ_L19h r21_11.1.Out.fe3 x.2.2.2) (fun (x : (List Value × List Value × List Value × List Value)) => [vec 3 (RpI .i64).sz (.slice (adOf (partOf 6 (Ep21 105))) r21_11.1.Out.fe0.length (capOf (partOf 6 (Ep21 105)))) r21_11.1.Out.fe0.length x.1, vec 3 (RpI .i64).sz (.slice (adOf (partOf 7 (Ep21 105))) r21_11.1.Out.fe1.length (capOf (partOf 7 (Ep21 105)))) r21_11.1.Out.fe1.length x.2.1, vec 3 (RpI .i64).sz (.slice (adOf (partOf 8 (Ep21 105))) r21_11.1.Out.fe2.length (capOf (partOf 8 (Ep21 105)))) r21_11.1.Out.fe2.length x.2.2.1, vec 3 (RpI .i64).sz (.slice (adOf (partOf 9 (Ep21 105))) r21_11.1.Out.fe3.length (capOf (partOf 9 (Ep21 105)))) r21_11.1.Out.fe3.length x.2.2.2]), fun Ep21 => vec 183 R_array_Tile.sz (.slice A77 z13_5.length z13_5.length) z13_5.length cs_b7_3_L19h, fun Ep21 => bunA (fun (x : (Heap × List Value)) => Le ρ_L19h x.1 ∧ RdS (RpI .i64) x.1 (adOf (partOf 6 (Ep21 105))) r21_11.1.Out.fe0.length (capOf (partOf 6 (Ep21 105))) r21_11.1.Out.fe0 ∧ RdS (RpI .i64) x.1 (adOf (partOf 7 (Ep21 105))) r21_11.1.Out.fe1.length (capOf (partOf 7 (Ep21 105))) r21_11.1.Out.fe1 ∧ RdS (RpI .i64) x.1 (adOf (partOf 8 (Ep21 105))) r21_11.1.Out.fe2.length (capOf (partOf 8 (Ep21 105))) r21_11.1.Out.fe2 ∧ RdS (RpI .i64) x.1 (adOf (partOf 9 (Ep21 105))) r21_11.1.Out.fe3.length (capOf (partOf 9 (Ep21 105))) r21_11.1.Out.fe3 ∧ RepL R_array_Tile x.1 z21_13 x.2) (fun (x : (Heap × List Value)) => [vec 183 R_array_Tile.sz (.slice A77 z13_5.length z13_5.length) z13_5.length x.2, roD ρ_L19h x.1])] mixed (by kernel_rfl) ((((hS.pull 3).pull 4).pull 3).pull 4) ?_ ?_
                  · refine ⟨?_, ?_, ?_, ?_, ?_, ?_, ?_, ?_, ?_, ?_, ?_, ?_, ?_, ?_, trivial⟩
                    · intro Ep21 w l' hE21 hO21 hF_ hS
                      refine p (yl_field0 fld_81_3 ((hE21 7 rfl).trans eL19h_7)) <| x_done <|
                        ?_
                      refine x_fin ⟨⟨_, rfl⟩, rfl, ?_⟩
                      exact Eq.mp (by kernel_rfl) hS
                    · intro Ep21 w l' hE21 hO21 hF_ hS
                      obtain ⟨f21_0, -⟩ := hF_
                      replace f21_0 : Ep21 94 = .pointer (some ⟨b7, 3, none⟩) := Eq.mp (by kernel_rfl) f21_0
                      replace hS : St w0 w (cells b7 81 [.int .i64 r5_1.1, .int .i64 r5_3.1, .int .i64 r5_5.1, .slice A77 z13_5.length z13_5.length, .slice none 0 0, .slice none 0 0] :: l') := Eq.mp (by kernel_rfl) hS
                      refine pa (at_load one_78 f21_0 (hS.cell rfl)) <| x_done <|
                        ?_
                      refine x_fin ⟨⟨_, rfl⟩, rfl, ?_⟩
                      exact Eq.mp (by kernel_rfl) hS
                    · intro Ep21 w l' hE21 hO21 hF_ hS
                      refine p (yl_move (hE21 11 rfl)) <| x_done <|
                        ?_
                      refine x_fin ⟨⟨_, rfl⟩, rfl, ?_⟩
                      exact Eq.mp (by kernel_rfl) hS
                    · intro Ep21 w l' hE21 hO21 hF_ hS
                      refine p (yl_field0 fld_81_1 ((hE21 7 rfl).trans eL19h_7)) <| x_done <|
                        ?_
                      refine x_fin ⟨⟨_, rfl⟩, rfl, ?_⟩
                      exact Eq.mp (by kernel_rfl) hS
                    · intro Ep21 w l' hE21 hO21 hF_ hS
                      obtain ⟨f21_3, -⟩ := hF_
                      replace f21_3 : Ep21 97 = .pointer (some ⟨b7, 1, none⟩) := Eq.mp (by kernel_rfl) f21_3
                      replace hS : St w0 w (cells b7 81 [.int .i64 r5_1.1, .int .i64 r5_3.1, .int .i64 r5_5.1, .slice A77 z13_5.length z13_5.length, .slice none 0 0, .slice none 0 0] :: l') := Eq.mp (by kernel_rfl) hS
                      refine pa (at_load one_3 f21_3 (hS.cell rfl)) <| x_done <|
                        ?_
                      refine x_fin ⟨⟨_, rfl⟩, rfl, ?_⟩
                      exact Eq.mp (by kernel_rfl) hS
                    · intro Ep21 w l' hE21 hO21 hF_ hS
                      obtain ⟨f21_2, f21_4, -⟩ := hF_
                      replace f21_2 : Ep21 96 = .int .i64 y91_L19h := Eq.mp (by kernel_rfl) f21_2
                      replace f21_4 : Ep21 98 = .int .i64 r5_3.1 := Eq.mp (by kernel_rfl) f21_4
                      refine p (ymul f21_2 f21_4 hx99) <| x_done <|
                        ?_
                      refine x_fin ⟨⟨_, rfl⟩, rfl, ?_⟩
                      exact Eq.mp (by kernel_rfl) hS
                    · intro Ep21 w l' hE21 hO21 hF_ hS
                      refine p (yl_move ((hE21 9 rfl).trans eL19h_9)) <| x_done <|
                        ?_
                      refine x_fin ⟨⟨_, rfl⟩, rfl, ?_⟩
                      exact Eq.mp (by kernel_rfl) hS
                    · intro Ep21 w l' hE21 hO21 hF_ hS
                      obtain ⟨f21_5, f21_6, -⟩ := hF_
                      replace f21_5 : Ep21 99 = .int .i64 x99 := Eq.mp (by kernel_rfl) f21_5
                      replace f21_6 : Ep21 100 = .int .i64 y81_L15h := Eq.mp (by kernel_rfl) f21_6
                      refine p (yadd f21_5 f21_6 hx101) <| x_done <|
                        ?_
                      refine x_fin ⟨⟨_, rfl⟩, rfl, ?_⟩
                      exact Eq.mp (by kernel_rfl) hS
                    · intro Ep21 w l' hE21 hO21 hF_ hS
                      refine p (yl_move ((hE21 4 rfl).trans eL19h_4)) <| x_done <|
                        ?_
                      refine x_fin ⟨⟨_, rfl⟩, rfl, ?_⟩
                      exact Eq.mp (by kernel_rfl) hS
                    · intro Ep21 w l' hE21 hO21 hF_ hS
                      refine p (yl_field0 fld_81_2 ((hE21 7 rfl).trans eL19h_7)) <| x_done <|
                        ?_
                      refine x_fin ⟨⟨_, rfl⟩, rfl, ?_⟩
                      exact Eq.mp (by kernel_rfl) hS
                    · intro Ep21 w l' hE21 hO21 hF_ hS
                      obtain ⟨f21_9, -⟩ := hF_
                      replace f21_9 : Ep21 103 = .pointer (some ⟨b7, 2, none⟩) := Eq.mp (by kernel_rfl) f21_9
                      replace hS : St w0 w (cells b7 81 [.int .i64 r5_1.1, .int .i64 r5_3.1, .int .i64 r5_5.1, .slice A77 z13_5.length z13_5.length, .slice none 0 0, .slice none 0 0] :: l') := Eq.mp (by kernel_rfl) hS
                      refine pa (at_load one_3 f21_9 (hS.cell rfl)) <| x_done <|
                        ?_
                      refine x_fin ⟨⟨_, rfl⟩, rfl, ?_⟩
                      exact Eq.mp (by kernel_rfl) hS
                    · intro Ep21 w l' hE21 hO21 hF_ hS
                      obtain ⟨f21_8, f21_10, -⟩ := hF_
                      replace f21_8 : Ep21 102 = .pointer (some ⟨b22, 0, none⟩) := Eq.mp (by kernel_rfl) f21_8
                      replace f21_10 : Ep21 104 = .int .i64 r5_5.1 := Eq.mp (by kernel_rfl) f21_10
                      replace hS : St w0 w (ro ρ_L19h :: cells b22 191 [.slice A_b0 b0.length c_b0, .int .i64 b22_1_L19h, .bool b22_2_L19h] :: l') := Eq.mp (by kernel_rfl) hS
                      have hcall := c_stream_reader_tile hc21_11 (h_b0.le (hleρ_L15h.trans hleρ_L19h)) (hS.pull 1)
                      refine o_cc call_96 (args2 f21_8 f21_10) hcall ?_
                      rintro e w' ⟨A_y0_ret_6_21_11, n_y0_ret_6_21_11, c_y0_ret_6_21_11, cs_y0_ret_6_21_11, A_y0_ret_7_21_11, n_y0_ret_7_21_11, c_y0_ret_7_21_11, cs_y0_ret_7_21_11, A_y0_ret_8_21_11, n_y0_ret_8_21_11, c_y0_ret_8_21_11, cs_y0_ret_8_21_11, A_y0_ret_9_21_11, n_y0_ret_9_21_11, c_y0_ret_9_21_11, cs_y0_ret_9_21_11, rfl, h_y0_ret_6_21_11, h_y0_ret_7_21_11, h_y0_ret_8_21_11, h_y0_ret_9_21_11, hS⟩
                      refine ⟨_, rfl, ?_⟩
                      have e_ := St.vec_n hS h_y0_ret_6_21_11; subst e_
                      have e_ := St.vec_n (hS.pull 1) h_y0_ret_7_21_11; subst e_
                      have e_ := St.vec_n (hS.pull 2) h_y0_ret_8_21_11; subst e_
                      have e_ := St.vec_n (hS.pull 3) h_y0_ret_9_21_11; subst e_
                      refine x_done <|
                        ?_
                      refine x_fin ⟨⟨_, rfl⟩, rfl, ?_⟩
                      replace hS := St.bun (Φ := (fun (x : (List Value × List Value × List Value × List Value)) => RepL (RpI .i64) ρ_L19h r21_11.1.Out.fe0 x.1 ∧ RepL (RpI .i64) ρ_L19h r21_11.1.Out.fe1 x.2.1 ∧ RepL (RpI .i64) ρ_L19h r21_11.1.Out.fe2 x.2.2.1 ∧ RepL (RpI .i64) ρ_L19h r21_11.1.Out.fe3 x.2.2.2)) (L := (fun (x : (List Value × List Value × List Value × List Value)) => [vec 3 (RpI .i64).sz (.slice A_y0_ret_6_21_11 r21_11.1.Out.fe0.length c_y0_ret_6_21_11) r21_11.1.Out.fe0.length x.1, vec 3 (RpI .i64).sz (.slice A_y0_ret_7_21_11 r21_11.1.Out.fe1.length c_y0_ret_7_21_11) r21_11.1.Out.fe1.length x.2.1, vec 3 (RpI .i64).sz (.slice A_y0_ret_8_21_11 r21_11.1.Out.fe2.length c_y0_ret_8_21_11) r21_11.1.Out.fe2.length x.2.2.1, vec 3 (RpI .i64).sz (.slice A_y0_ret_9_21_11 r21_11.1.Out.fe3.length c_y0_ret_9_21_11) r21_11.1.Out.fe3.length x.2.2.2])) (cs_y0_ret_6_21_11, cs_y0_ret_7_21_11, cs_y0_ret_8_21_11, cs_y0_ret_9_21_11) ⟨h_y0_ret_6_21_11, h_y0_ret_7_21_11, h_y0_ret_8_21_11, h_y0_ret_9_21_11⟩ ((((hS.pull 3).pull 3).pull 3).pull 3)
                      exact Eq.mp (by kernel_rfl) ((hS.pull 1).pull 2)
                    · intro Ep21 w l' hE21 hO21 hF_ hS
                      obtain ⟨f21_1, f21_7, -⟩ := hF_
                      replace f21_1 : Ep21 95 = .slice A77 z13_5.length z13_5.length := Eq.mp (by kernel_rfl) f21_1
                      replace f21_7 : Ep21 101 = .int .i64 x101 := Eq.mp (by kernel_rfl) f21_7
                      replace hS : St w0 w (vec 183 R_array_Tile.sz (.slice A77 z13_5.length z13_5.length) z13_5.length cs_b7_3_L19h :: l') := Eq.mp (by kernel_rfl) hS
                      refine p (yix_o sl_78 f21_1 f21_7 hS h_b7_3_L19h hk21_12) <| x_done <|
                        ?_
                      refine x_fin ⟨⟨_, rfl⟩, rfl, ?_⟩
                      exact Eq.mp (by kernel_rfl) hS
                    · intro Ep21 w l' hE21 hO21 hF_ hS
                      obtain ⟨f21_11, f21_12, -⟩ := hF_
                      replace f21_11 : Ep21 105 = .agg #[.int .u16 r21_11.1.Table, .bool r21_11.1.Init, .int .i64 r21_11.1.In.fe0, .int .i64 r21_11.1.In.fe1, .int .i64 r21_11.1.In.fe2, .int .i64 r21_11.1.In.fe3, .slice (adOf (partOf 6 (Ep21 105))) r21_11.1.Out.fe0.length (capOf (partOf 6 (Ep21 105))), .slice (adOf (partOf 7 (Ep21 105))) r21_11.1.Out.fe1.length (capOf (partOf 7 (Ep21 105))), .slice (adOf (partOf 8 (Ep21 105))) r21_11.1.Out.fe2.length (capOf (partOf 8 (Ep21 105))), .slice (adOf (partOf 9 (Ep21 105))) r21_11.1.Out.fe3.length (capOf (partOf 9 (Ep21 105)))] := Eq.mp (by kernel_rfl) f21_11
                      replace f21_12 : Ep21 106 = .pointer (some ((adr A77).add (x101.toNat * R_array_Tile.sz))) := Eq.mp (by kernel_rfl) f21_12
                      replace hS : St w0 w (ro ρ_L19h :: vec 183 R_array_Tile.sz (.slice A77 z13_5.length z13_5.length) z13_5.length cs_b7_3_L19h :: bunA (fun (x : (List Value × List Value × List Value × List Value)) => RepL (RpI .i64) ρ_L19h r21_11.1.Out.fe0 x.1 ∧ RepL (RpI .i64) ρ_L19h r21_11.1.Out.fe1 x.2.1 ∧ RepL (RpI .i64) ρ_L19h r21_11.1.Out.fe2 x.2.2.1 ∧ RepL (RpI .i64) ρ_L19h r21_11.1.Out.fe3 x.2.2.2) (fun (x : (List Value × List Value × List Value × List Value)) => [vec 3 (RpI .i64).sz (.slice (adOf (partOf 6 (Ep21 105))) r21_11.1.Out.fe0.length (capOf (partOf 6 (Ep21 105)))) r21_11.1.Out.fe0.length x.1, vec 3 (RpI .i64).sz (.slice (adOf (partOf 7 (Ep21 105))) r21_11.1.Out.fe1.length (capOf (partOf 7 (Ep21 105)))) r21_11.1.Out.fe1.length x.2.1, vec 3 (RpI .i64).sz (.slice (adOf (partOf 8 (Ep21 105))) r21_11.1.Out.fe2.length (capOf (partOf 8 (Ep21 105)))) r21_11.1.Out.fe2.length x.2.2.1, vec 3 (RpI .i64).sz (.slice (adOf (partOf 9 (Ep21 105))) r21_11.1.Out.fe3.length (capOf (partOf 9 (Ep21 105)))) r21_11.1.Out.fe3.length x.2.2.2]) :: l') := Eq.mp (by kernel_rfl) hS
                      have q_ := St.unbun (hS.pull 2); obtain ⟨⟨cs_y0_ret_6_21_11, cs_y0_ret_7_21_11, cs_y0_ret_8_21_11, cs_y0_ret_9_21_11⟩, ⟨h_y0_ret_6_21_11, h_y0_ret_7_21_11, h_y0_ret_8_21_11, h_y0_ret_9_21_11⟩, hS⟩ := q_
                      have q_ := St.vec_fz ((hS.pull 4).pull 1) h_y0_ret_6_21_11; obtain ⟨ρz21_13, hlez21_13, fz21_13, hS⟩ := q_
                      have q_ := St.vec_fz (hS.pull 1) (h_y0_ret_7_21_11.le hlez21_13); obtain ⟨ρz21_13a, hlez21_13a, fz21_13a, hS⟩ := q_
                      have q_ := St.vec_fz (hS.pull 1) (h_y0_ret_8_21_11.le (hlez21_13.trans hlez21_13a)); obtain ⟨ρz21_13b, hlez21_13b, fz21_13b, hS⟩ := q_
                      have q_ := St.vec_fz (hS.pull 1) (h_y0_ret_9_21_11.le ((hlez21_13.trans hlez21_13a).trans hlez21_13b)); obtain ⟨ρz21_13c, hlez21_13c, fz21_13c, hS⟩ := q_
                      refine o_put' (news := [.int .u16 r21_11.1.Table, .bool r21_11.1.Init, .int .i64 r21_11.1.In.fe0, .int .i64 r21_11.1.In.fe1, .int .i64 r21_11.1.In.fe2, .int .i64 r21_11.1.In.fe3, .slice (adOf (partOf 6 (Ep21 105))) r21_11.1.Out.fe0.length (capOf (partOf 6 (Ep21 105))), .slice (adOf (partOf 7 (Ep21 105))) r21_11.1.Out.fe1.length (capOf (partOf 7 (Ep21 105))), .slice (adOf (partOf 8 (Ep21 105))) r21_11.1.Out.fe2.length (capOf (partOf 8 (Ep21 105))), .slice (adOf (partOf 9 (Ep21 105))) r21_11.1.Out.fe3.length (capOf (partOf 9 (Ep21 105)))]) sz_183 f21_12 f21_11 rfl rfl (o := 0) rfl hk21_12 rfl (hS.pull 1) h_b7_3_L19h (((hlez21_13.trans hlez21_13a).trans hlez21_13b).trans hlez21_13c) (fun c hc => ok_all hc (show R_array_Tile.ok ρz21_13c [.int .u16 r21_11.1.Table, .bool r21_11.1.Init, .int .i64 r21_11.1.In.fe0, .int .i64 r21_11.1.In.fe1, .int .i64 r21_11.1.In.fe2, .int .i64 r21_11.1.In.fe3, .slice (adOf (partOf 6 (Ep21 105))) r21_11.1.Out.fe0.length (capOf (partOf 6 (Ep21 105))), .slice (adOf (partOf 7 (Ep21 105))) r21_11.1.Out.fe1.length (capOf (partOf 7 (Ep21 105))), .slice (adOf (partOf 8 (Ep21 105))) r21_11.1.Out.fe2.length (capOf (partOf 8 (Ep21 105))), .slice (adOf (partOf 9 (Ep21 105))) r21_11.1.Out.fe3.length (capOf (partOf 9 (Ep21 105)))] r21_11.1 from ⟨_, _, _, _, _, _, _, _, _, _, _, _, rfl, (fz21_13.le ((hlez21_13a.trans hlez21_13b).trans hlez21_13c)), (fz21_13a.le (hlez21_13b.trans hlez21_13c)), (fz21_13b.le hlez21_13c), fz21_13c⟩)) hz21_13 (fun cs21_13 w' hr21_13 hS => ?_)
                      refine x_done <|
                        ?_
                      refine x_fin ⟨⟨undef, rfl⟩, trivial, ?_⟩
                      replace hS := St.ro_split (((hlez21_13.trans hlez21_13a).trans hlez21_13b).trans hlez21_13c) (hS.pull 1)
                      replace hS := St.bun (Φ := (fun (x : (Heap × List Value)) => Le ρ_L19h x.1 ∧ RdS (RpI .i64) x.1 (adOf (partOf 6 (Ep21 105))) r21_11.1.Out.fe0.length (capOf (partOf 6 (Ep21 105))) r21_11.1.Out.fe0 ∧ RdS (RpI .i64) x.1 (adOf (partOf 7 (Ep21 105))) r21_11.1.Out.fe1.length (capOf (partOf 7 (Ep21 105))) r21_11.1.Out.fe1 ∧ RdS (RpI .i64) x.1 (adOf (partOf 8 (Ep21 105))) r21_11.1.Out.fe2.length (capOf (partOf 8 (Ep21 105))) r21_11.1.Out.fe2 ∧ RdS (RpI .i64) x.1 (adOf (partOf 9 (Ep21 105))) r21_11.1.Out.fe3.length (capOf (partOf 9 (Ep21 105))) r21_11.1.Out.fe3 ∧ RepL R_array_Tile x.1 z21_13 x.2)) (L := (fun (x : (Heap × List Value)) => [vec 183 R_array_Tile.sz (.slice A77 z13_5.length z13_5.length) z13_5.length x.2, roD ρ_L19h x.1])) (ρz21_13c, cs21_13) ⟨(((hlez21_13.trans hlez21_13a).trans hlez21_13b).trans hlez21_13c), (fz21_13.le ((hlez21_13a.trans hlez21_13b).trans hlez21_13c)), (fz21_13a.le (hlez21_13b.trans hlez21_13c)), (fz21_13b.le hlez21_13c), fz21_13c, hr21_13⟩ ((hS.pull 1).pull 2)
                      exact Eq.mp (by kernel_rfl) (hS.pull 1)
                  intro Ep21 w' hE21 hF_ hS
                  obtain ⟨f21_0, f21_1, f21_2, f21_3, f21_4, f21_5, f21_6, f21_7, f21_8, f21_9, f21_10, f21_11, f21_12, -⟩ := hF_
                  replace f21_0 : Ep21 94 = .pointer (some ⟨b7, 3, none⟩) := Eq.mp (by kernel_rfl) f21_0
                  replace f21_1 : Ep21 95 = .slice A77 z13_5.length z13_5.length := Eq.mp (by kernel_rfl) f21_1
                  replace f21_2 : Ep21 96 = .int .i64 y91_L19h := Eq.mp (by kernel_rfl) f21_2
                  replace f21_3 : Ep21 97 = .pointer (some ⟨b7, 1, none⟩) := Eq.mp (by kernel_rfl) f21_3
                  replace f21_4 : Ep21 98 = .int .i64 r5_3.1 := Eq.mp (by kernel_rfl) f21_4
                  replace f21_5 : Ep21 99 = .int .i64 x99 := Eq.mp (by kernel_rfl) f21_5
                  replace f21_6 : Ep21 100 = .int .i64 y81_L15h := Eq.mp (by kernel_rfl) f21_6
                  replace f21_7 : Ep21 101 = .int .i64 x101 := Eq.mp (by kernel_rfl) f21_7
                  replace f21_8 : Ep21 102 = .pointer (some ⟨b22, 0, none⟩) := Eq.mp (by kernel_rfl) f21_8
                  replace f21_9 : Ep21 103 = .pointer (some ⟨b7, 2, none⟩) := Eq.mp (by kernel_rfl) f21_9
                  replace f21_10 : Ep21 104 = .int .i64 r5_5.1 := Eq.mp (by kernel_rfl) f21_10
                  replace f21_11 : Ep21 105 = .agg #[.int .u16 r21_11.1.Table, .bool r21_11.1.Init, .int .i64 r21_11.1.In.fe0, .int .i64 r21_11.1.In.fe1, .int .i64 r21_11.1.In.fe2, .int .i64 r21_11.1.In.fe3, .slice (adOf (partOf 6 (Ep21 105))) r21_11.1.Out.fe0.length (capOf (partOf 6 (Ep21 105))), .slice (adOf (partOf 7 (Ep21 105))) r21_11.1.Out.fe1.length (capOf (partOf 7 (Ep21 105))), .slice (adOf (partOf 8 (Ep21 105))) r21_11.1.Out.fe2.length (capOf (partOf 8 (Ep21 105))), .slice (adOf (partOf 9 (Ep21 105))) r21_11.1.Out.fe3.length (capOf (partOf 9 (Ep21 105)))] := Eq.mp (by kernel_rfl) f21_11
                  replace f21_12 : Ep21 106 = .pointer (some ((adr A77).add (x101.toNat * R_array_Tile.sz))) := Eq.mp (by kernel_rfl) f21_12
                  replace hS : St w0 w' (cells b7 81 [.int .i64 r5_1.1, .int .i64 r5_3.1, .int .i64 r5_5.1, .slice A77 z13_5.length z13_5.length, .slice none 0 0, .slice none 0 0] :: ro ρ_L19h :: cells b22 191 [.slice A_b0 b0.length c_b0, .int .i64 r21_11.2.1, .bool r21_11.2.2] :: bunA (fun (x : (Heap × List Value)) => Le ρ_L19h x.1 ∧ RdS (RpI .i64) x.1 (adOf (partOf 6 (Ep21 105))) r21_11.1.Out.fe0.length (capOf (partOf 6 (Ep21 105))) r21_11.1.Out.fe0 ∧ RdS (RpI .i64) x.1 (adOf (partOf 7 (Ep21 105))) r21_11.1.Out.fe1.length (capOf (partOf 7 (Ep21 105))) r21_11.1.Out.fe1 ∧ RdS (RpI .i64) x.1 (adOf (partOf 8 (Ep21 105))) r21_11.1.Out.fe2.length (capOf (partOf 8 (Ep21 105))) r21_11.1.Out.fe2 ∧ RdS (RpI .i64) x.1 (adOf (partOf 9 (Ep21 105))) r21_11.1.Out.fe3.length (capOf (partOf 9 (Ep21 105))) r21_11.1.Out.fe3 ∧ RepL R_array_Tile x.1 z21_13 x.2) (fun (x : (Heap × List Value)) => [vec 183 R_array_Tile.sz (.slice A77 z13_5.length z13_5.length) z13_5.length x.2, roD ρ_L19h x.1]) :: (cells b2 81 [.int .i64 0, .int .i64 0, .int .i64 0, .slice none 0 0, .slice none 0 0, .slice none 0 0] :: l)) := Eq.mp (by kernel_rfl) hS
                  have q_ := St.unbun (hS.pull 3); obtain ⟨⟨ρz21_13c, cs21_13⟩, ⟨hle_ρz21_13c, fz21_13, fz21_13a, fz21_13b, fz21_13c, hr21_13⟩, hS⟩ := q_
                  have q_ := St.ro_join ((hS.pull 1).pull 3) (Le.refl _) hle_ρz21_13c; obtain ⟨ρjE21_1, hj1E21_1, hj2E21_1, hS, backE21_1⟩ := q_
                  replace hFL19 := ar_s hFL19; obtain ⟨x107, hx107, hFL19⟩ := hFL19
                  refine x_blk <| x_region <| p (yadd ((hE21 91 rfl).trans eL19h_91) rfl hx107) <| p (yl_move rfl) <|
                    x_done <|
                    ?_
                  have e_ := Option.some.inj (show some _ = some _ from hFL19); subst e_
                  exact x_inv ⟨kL19, Nat.lt_succ_self _, ρjE21_1, cs21_13, x107, r21_11.2.1, r21_11.2.2, z21_13, hLL19, (hleρ_L19h.trans hj1E21_1), ((hE21 0 rfl).trans eL19h_0), ((hE21 2 rfl).trans eL19h_2), ((hE21 4 rfl).trans eL19h_4), ((hE21 7 rfl).trans eL19h_7), ((hE21 9 rfl).trans eL19h_9), ((hE21 10 rfl).trans eL19h_10), ((hE21 80 rfl).trans eL19h_80), ((hE21 81 rfl).trans eL19h_81), ((hE21 90 rfl).trans eL19h_90), rfl, (hr21_13.le hj2E21_1), ((((hS.pull 1).pull 2).pull 3).pull 4)⟩
                · replace hFL19 := it_f hc92 hFL19
                  refine x_exitTo _ rfl <|
                    ?_
                  have e_ := Option.some.inj (show some _ = some _ from hFL19); subst e_
                  exact x_inv ⟨ρ_L19h, cs_b7_3_L19h, b22_1_L19h, b22_2_L19h, b7_3_L19h, hLL19, hleρ_L19h, eL19h_0, eL19h_2, eL19h_4, eL19h_7, eL19h_9, eL19h_10, eL19h_80, eL19h_81, h_b7_3_L19h, (((((hS.pull 4).pull 4).pull 4).pull 4).pull 4)⟩
              rintro E w ⟨ρ_L19, cs_b7_3_L19, b22_1_L19, b22_2_L19, b7_3_L19, rfl, hleρ_L19, eL19_0, eL19_2, eL19_4, eL19_7, eL19_9, eL19_10, eL19_80, eL19_81, h_b7_3_L19, hS⟩
              replace hFL15 := ar_s hFL15; obtain ⟨x111, hx111, hFL15⟩ := hFL15
              replace hFL15 := bd_s hFL15; obtain ⟨r23_4, hc23_4, hFL15⟩ := hFL15
              refine x_seq <| x_region <| p (yl_move eL19_4) <| p (yl_move eL19_10) <|
                p (yl_move eL19_9) <| p (yadd rfl rfl hx111) <|
                ?_
              have hcall := c_stream_reader_part hc23_4 (h_b0.le (hleρ_L15h.trans hleρ_L19)) ((hS.pull 4).pull 2)
              refine o_cc call_95 (args3 rfl rfl rfl) hcall ?_
              rintro e w' ⟨rfl, hS⟩
              refine ⟨_, rfl, ?_⟩
              refine p (yl_assign rfl) <| x_done <| x_seq <| x_region <|
                p (yl_move rfl) <| p (yl_neq rfl rfl) <| x_done <|
                x_cond_p (r23_4.1 ≠ 0) rfl (fun hc114 => ?_) (fun hc114 => ?_)
              · replace hFL15 := it_t hc114 hFL15
                refine x_seq <| x_region <| p (v := .agg #[.int .i64 0, .int .i64 0, .int .i64 0, .slice none 0 0, .slice none 0 0, .slice none 0 0]) (yl_build bld_81 bldf_81 (parts_eq pt0) (by kernel_rfl)) <| p (yl_move rfl) <|
                  ?_
                refine o_storeAgg (news := [.int .i64 0, .int .i64 0, .int .i64 0, .slice none 0 0, .slice none 0 0, .slice none 0 0]) agg_81 eL19_2 rfl rfl (by simp [over_length]) (hS.pull 2) (fun w' hS => ?_)
                refine p (yl_assign rfl) <| x_done <|
                  ?_
                replace hS := St.vec_nil hS 183 R_array_Tile.sz
                have hnil_A_y0_ret_3 : RepL R_array_Tile ρ_L19 [] [] := rfl
                replace hS := St.vec_nil hS 187 R_array_Pad.sz
                have hnil_A_y0_ret_4 : RepL R_array_Pad ρ_L19 [] [] := rfl
                replace hS := St.vec_nil hS 187 R_array_Pad.sz
                have hnil_A_y0_ret_5 : RepL R_array_Pad ρ_L19 [] [] := rfl
                have e_ := Option.some.inj (show some _ = some _ from hFL15); subst e_
                have e_ := (show _ = oL15 from hLL15); subst e_
                have e_ := Option.some.inj (show some _ = some _ from hF); subst e_
                exact x_return ⟨_, ⟨_, _, _, rfl, eL19_2, ldvA agg_81 rfl (fun j v hj => by rw [add0]; exact St.cell (hS.pull 3) hj), _, _, rfl, rfl, rfl⟩, ρ_L19, none, 0, 0, [], none, 0, 0, [], none, 0, 0, [], rfl, (hleρ_L15h.trans hleρ_L19), hnil_A_y0_ret_3, hnil_A_y0_ret_4, hnil_A_y0_ret_5, ((((((((hS.pull 3).drop.pull 3).drop.pull 4).drop.pull 4).drop.pull 3).pull 1).pull 2).pull 3)⟩
              · replace hFL15 := it_f hc114 hFL15
                replace hFL15 := ar_s hFL15; obtain ⟨x117, hx117, hFL15⟩ := hFL15
                refine x_skip <| x_blk <| x_region <| p (yadd eL19_81 rfl hx117) <|
                  p (yl_move rfl) <| x_done <|
                  ?_
                have e_ := Option.some.inj (show some _ = some _ from hFL15); subst e_
                exact x_inv ⟨kL15, Nat.lt_succ_self _, ρ_L19, cs_b7_3_L19, x117, r23_4.2, b22_2_L19, b7_3_L19, hLL15, (hleρ_L15h.trans hleρ_L19), eL19_0, eL19_2, eL19_4, eL19_7, eL19_80, rfl, h_b7_3_L19, (((((hS.pull 1).pull 4).pull 4).pull 3).pull 4)⟩
            · replace hFL15 := it_f hc82 hFL15
              refine x_exitTo _ rfl <|
                ?_
              have e_ := Option.some.inj (show some _ = some _ from hFL15); subst e_
              exact x_inv ⟨ρ_L15h, cs_b7_3_L15h, b22_1_L15h, b22_2_L15h, b7_3_L15h, hLL15, hleρ_L15h, eL15h_0, eL15h_2, eL15h_4, eL15h_7, h_b7_3_L15h, (((((hS.pull 4).pull 4).pull 4).pull 4).pull 4)⟩
          rintro E w ⟨ρ_L15, cs_b7_3_L15, b22_1_L15, b22_2_L15, b7_3_L15, rfl, hleρ_L15, eL15_0, eL15_2, eL15_4, eL15_7, h_b7_3_L15, hS⟩
          replace hF := ck_s hF; obtain ⟨hk27_4, hF⟩ := hF
          replace hF := ar_s hF; obtain ⟨x122, hx122, hF⟩ := hF
          replace hF := bd_s hF; obtain ⟨r28_1, hc28_1, hF⟩ := hF
          refine x_seq <| x_region <| p (yl_move eL15_4) <| p (yl_nilCheck rfl) <|
            p (yl_field0 fld_191_1 rfl) <| pa (at_load one_3 rfl ((hS.pull 1).cell rfl)) <| p (yquo rfl rfl hk27_4 hx122) <| p (yl_assign rfl) <|
            x_done <| x_seq <| x_region <| p (yl_move eL15_4) <|
            ?_
          have hcall := c_stream_reader_pads hc28_1 (h_b0.le hleρ_L15) ((hS.pull 4).pull 2)
          refine o_cc call_97 (args1 rfl) hcall ?_
          rintro e w' ⟨A_y0_ret_28_1, n_y0_ret_28_1, c_y0_ret_28_1, cs_y0_ret_28_1, rfl, h_y0_ret_28_1, hS⟩
          refine ⟨_, rfl, ?_⟩
          have e_ := St.vec_n hS h_y0_ret_28_1; subst e_
          replace hF := bd_s hF; obtain ⟨r28_3, hc28_3, hF⟩ := hF
          refine p (yl_move eL15_4) <|
            ?_
          have hcall := c_stream_reader_pads hc28_3 (h_b0.le hleρ_L15) ((hS.pull 2).pull 2)
          refine o_cc call_97 (args1 rfl) hcall ?_
          rintro e w' ⟨A_y0_ret_28_3, n_y0_ret_28_3, c_y0_ret_28_3, cs_y0_ret_28_3, rfl, h_y0_ret_28_3, hS⟩
          refine ⟨_, rfl, ?_⟩
          have e_ := St.vec_n hS h_y0_ret_28_3; subst e_
          refine p (yl_field0 fld_81_4 eL15_7) <|
            ?_
          refine o_store1 (v := .slice A_y0_ret_28_1 r28_1.1.length c_y0_ret_28_1) one_79 rfl rfl rfl rfl (hS.pull 5) (fun w' hS => ?_)
          refine p (yl_field0 fld_81_5 eL15_7) <|
            ?_
          refine o_store1 (v := .slice A_y0_ret_28_3 r28_3.1.length c_y0_ret_28_3) one_79 rfl rfl rfl rfl hS (fun w' hS => ?_)
          replace hF := ar_s hF; obtain ⟨x133, hx133, hF⟩ := hF
          replace hF := bd_s hF; obtain ⟨r29_5, hc29_5, hF⟩ := hF
          refine x_done <| x_seq <| x_seq <| x_region <|
            p (yl_move eL15_4) <| p (yl_move rfl) <| p (yl_field0 fld_81_1 eL15_7) <| pa (at_load one_3 rfl (hS.cell rfl)) <|
            p (yadd rfl rfl hx133) <|
            ?_
          have hcall := c_stream_reader_part hc29_5 (h_b0.le hleρ_L15) ((hS.pull 3).pull 3)
          refine o_cc call_95 (args3 rfl rfl rfl) hcall ?_
          rintro e w' ⟨rfl, hS⟩
          refine ⟨_, rfl, ?_⟩
          refine p (yl_assign rfl) <| x_done <| x_seq <| x_region <|
            p (yl_move rfl) <| p (yl_neq rfl rfl) <| x_done <|
            x_cond_p (r29_5.1 ≠ 0) rfl (fun hc136 => ?_) (fun hc136 => ?_)
          · replace hF := it_t hc136 hF
            refine x_seq <| x_region <| p (v := .agg #[.int .i64 0, .int .i64 0, .int .i64 0, .slice none 0 0, .slice none 0 0, .slice none 0 0]) (yl_build bld_81 bldf_81 (parts_eq pt0) (by kernel_rfl)) <| p (yl_move rfl) <|
              ?_
            refine o_storeAgg (news := [.int .i64 0, .int .i64 0, .int .i64 0, .slice none 0 0, .slice none 0 0, .slice none 0 0]) agg_81 eL15_2 rfl rfl (by simp [over_length]) (hS.pull 5) (fun w' hS => ?_)
            refine p (yl_assign rfl) <| x_done <|
              ?_
            replace hS := St.vec_nil hS 183 R_array_Tile.sz
            have hnil_A_y0_ret_3 : RepL R_array_Tile ρ_L15 [] [] := rfl
            replace hS := St.vec_nil hS 187 R_array_Pad.sz
            have hnil_A_y0_ret_4 : RepL R_array_Pad ρ_L15 [] [] := rfl
            replace hS := St.vec_nil hS 187 R_array_Pad.sz
            have hnil_A_y0_ret_5 : RepL R_array_Pad ρ_L15 [] [] := rfl
            have e_ := Option.some.inj (show some _ = some _ from hF); subst e_
            exact x_return ⟨_, ⟨_, _, _, rfl, eL15_2, ldvA agg_81 rfl (fun j v hj => by rw [add0]; exact St.cell (hS.pull 3) hj), _, _, rfl, rfl, rfl⟩, ρ_L15, none, 0, 0, [], none, 0, 0, [], none, 0, 0, [], rfl, hleρ_L15, hnil_A_y0_ret_3, hnil_A_y0_ret_4, hnil_A_y0_ret_5, ((((((((((hS.pull 3).drop.pull 3).drop.pull 4).drop.pull 4).drop.pull 4).drop.pull 4).drop.pull 3).pull 1).pull 2).pull 3)⟩
          · replace hF := it_f hc136 hF
            replace hF := ar_s hF; obtain ⟨x145, hx145, hF⟩ := hF
            refine x_skip <| x_seq <| x_seq <| x_region <|
              p (yl_move eL15_4) <| p (yl_nilCheck rfl) <| p (yl_field0 fld_191_1 rfl) <| pa (at_load one_3 rfl (hS.cell rfl)) <|
              p (yl_move eL15_0) <| p (yl_len_slice usl_75 rfl) <| p (ymul rfl rfl hx145) <| p (yl_lss rfl rfl) <|
              x_done <|
              x_cond_p (r29_5.2 < x145) rfl (fun hc146 => ?_) (fun hc146 => ?_)
            · replace hF := it_t hc146 hF
              refine x_seq <| x_region <| p (v := .agg #[.int .i64 0, .int .i64 0, .int .i64 0, .slice none 0 0, .slice none 0 0, .slice none 0 0]) (yl_build bld_81 bldf_81 (parts_eq pt0) (by kernel_rfl)) <|
                ?_
              refine o_storeAgg (news := [.int .i64 0, .int .i64 0, .int .i64 0, .slice none 0 0, .slice none 0 0, .slice none 0 0]) agg_81 eL15_2 rfl rfl (by simp [over_length]) (hS.pull 5) (fun w' hS => ?_)
              refine p (yl_assign rfl) <| x_done <|
                ?_
              replace hS := St.vec_nil hS 183 R_array_Tile.sz
              have hnil_A_y0_ret_3 : RepL R_array_Tile ρ_L15 [] [] := rfl
              replace hS := St.vec_nil hS 187 R_array_Pad.sz
              have hnil_A_y0_ret_4 : RepL R_array_Pad ρ_L15 [] [] := rfl
              replace hS := St.vec_nil hS 187 R_array_Pad.sz
              have hnil_A_y0_ret_5 : RepL R_array_Pad ρ_L15 [] [] := rfl
              have e_ := Option.some.inj (show some _ = some _ from hF); subst e_
              exact x_return ⟨_, ⟨_, _, _, rfl, eL15_2, ldvA agg_81 rfl (fun j v hj => by rw [add0]; exact St.cell (hS.pull 3) hj), _, _, rfl, rfl, rfl⟩, ρ_L15, none, 0, 0, [], none, 0, 0, [], none, 0, 0, [], rfl, hleρ_L15, hnil_A_y0_ret_3, hnil_A_y0_ret_4, hnil_A_y0_ret_5, ((((((((((hS.pull 3).drop.pull 3).drop.pull 4).drop.pull 4).drop.pull 4).drop.pull 4).drop.pull 3).pull 1).pull 2).pull 3)⟩
            · replace hF := it_f hc146 hF
              replace hF := bd_s hF; obtain ⟨r34_1, hc34_1, hF⟩ := hF
              refine x_skip <| x_seq <| x_seq <| x_region <|
                pa (v := .agg #[.int .i64 r5_1.1, .int .i64 r5_3.1, .int .i64 r5_5.1, .slice A77 z13_5.length z13_5.length, .slice A_y0_ret_28_1 r28_1.1.length c_y0_ret_28_1, .slice A_y0_ret_28_3 r28_3.1.length c_y0_ret_28_3]) (ld_sub agg_81 eL15_7 rfl rfl (hS.pull 2)) <|
                ?_
              have q_ := St.lend ((hS.pull 1).pull 6) h_b7_3_L15; obtain ⟨ρl0, hll0, hlf0, hS0, back0⟩ := q_
              have q_ := St.lend (hS0.pull 4) (h_y0_ret_28_1.le hll0); obtain ⟨ρl1, hll1, hlf1, hS1, back1⟩ := q_
              have q_ := St.lend (hS1.pull 3) (h_y0_ret_28_3.le (hll0.trans hll1)); obtain ⟨ρl2, hll2, hlf2, hS2, back2⟩ := q_
              have hcall := c_array_Check hc34_1 (hlf0.le (hll1.trans hll2)) (hlf1.le hll2) hlf2 hS2
              refine o_cc call_87 (args1 rfl) ((Calls.mono hcall (fun e w'' h => And.intro h.1 (((((((back0 ((back1 ((back2 h.2).pull 1)).pull 1)).pull 6).pull 3).pull 4).pull 6).pull 5).pull 6)))) ?_
              rintro e w' ⟨rfl, hS⟩
              refine ⟨_, rfl, ?_⟩
              refine p (v := .int .i64 r34_1) (yl_assign rfl) <| x_done <| x_seq <| x_region <|
                p (v := .int .i64 r34_1) (yl_move rfl) <| p (yl_neq rfl rfl) <| x_done <|
                x_cond_p (r34_1 ≠ 0) rfl (fun hc151 => ?_) (fun hc151 => ?_)
              · replace hF := it_t hc151 hF
                refine x_seq <| x_region <| p (v := .agg #[.int .i64 0, .int .i64 0, .int .i64 0, .slice none 0 0, .slice none 0 0, .slice none 0 0]) (yl_build bld_81 bldf_81 (parts_eq pt0) (by kernel_rfl)) <| p (v := .int .i64 r34_1) (yl_move rfl) <|
                  ?_
                refine o_storeAgg (news := [.int .i64 0, .int .i64 0, .int .i64 0, .slice none 0 0, .slice none 0 0, .slice none 0 0]) agg_81 eL15_2 rfl rfl (by simp [over_length]) (hS.pull 5) (fun w' hS => ?_)
                refine p (v := .int .i64 r34_1) (yl_assign rfl) <| x_done <|
                  ?_
                replace hS := St.vec_nil hS 183 R_array_Tile.sz
                have hnil_A_y0_ret_3 : RepL R_array_Tile ρ_L15 [] [] := rfl
                replace hS := St.vec_nil hS 187 R_array_Pad.sz
                have hnil_A_y0_ret_4 : RepL R_array_Pad ρ_L15 [] [] := rfl
                replace hS := St.vec_nil hS 187 R_array_Pad.sz
                have hnil_A_y0_ret_5 : RepL R_array_Pad ρ_L15 [] [] := rfl
                have e_ := Option.some.inj (show some _ = some _ from hF); subst e_
                exact x_return ⟨_, ⟨_, _, _, rfl, eL15_2, ldvA agg_81 rfl (fun j v hj => by rw [add0]; exact St.cell (hS.pull 3) hj), _, _, rfl, rfl, rfl⟩, ρ_L15, none, 0, 0, [], none, 0, 0, [], none, 0, 0, [], rfl, hleρ_L15, hnil_A_y0_ret_3, hnil_A_y0_ret_4, hnil_A_y0_ret_5, ((((((((((hS.pull 3).drop.pull 3).drop.pull 4).drop.pull 4).drop.pull 4).drop.pull 4).drop.pull 3).pull 1).pull 2).pull 3)⟩
              · replace hF := it_f hc151 hF
                refine x_skip <| x_seq <| x_region <| pa (v := .agg #[.int .i64 r5_1.1, .int .i64 r5_3.1, .int .i64 r5_5.1, .slice A77 z13_5.length z13_5.length, .slice A_y0_ret_28_1 r28_1.1.length c_y0_ret_28_1, .slice A_y0_ret_28_3 r28_3.1.length c_y0_ret_28_3]) (ld_sub agg_81 eL15_7 rfl rfl (hS.pull 2)) <|
                  ?_
                refine o_storeAgg (news := [.int .i64 r5_1.1, .int .i64 r5_3.1, .int .i64 r5_5.1, .slice A77 z13_5.length z13_5.length, .slice A_y0_ret_28_1 r28_1.1.length c_y0_ret_28_1, .slice A_y0_ret_28_3 r28_3.1.length c_y0_ret_28_3]) agg_81 eL15_2 rfl rfl (by simp [over_length]) (hS.pull 5) (fun w' hS => ?_)
                refine p (yl_assign rfl) <| x_done <|
                  ?_
                have e_ := Option.some.inj (show some _ = some _ from hF); subst e_
                exact x_return ⟨_, ⟨_, _, _, rfl, eL15_2, ldvA agg_81 rfl (fun j v hj => by rw [add0]; exact St.cell hS hj), _, _, rfl, rfl, rfl⟩, ρ_L15, A77, z13_5.length, z13_5.length, cs_b7_3_L15, A_y0_ret_28_1, r28_1.1.length, c_y0_ret_28_1, cs_y0_ret_28_1, A_y0_ret_28_3, r28_3.1.length, c_y0_ret_28_3, cs_y0_ret_28_3, rfl, hleρ_L15, h_b7_3_L15, h_y0_ret_28_1, h_y0_ret_28_3, ((((hS.drop.drop.pull 1).drop.pull 1).pull 2).pull 3)⟩
attribute [irreducible] P_stream_Decode


end Go.Proofs.Ytnooiajahmichaa.X
