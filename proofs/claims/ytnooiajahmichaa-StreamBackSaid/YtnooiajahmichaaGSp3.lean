/- Printed by gen.py: plain functions, and that the Go code computes them. -/
import Derived.Test.YtnooiajahmichaaYR
import Derived.Test.YtnooiajahmichaaXTS
import Derived.Test.YtnooiajahmichaaGSp0
import Derived.Test.YtnooiajahmichaaGSp1
import Derived.Test.YtnooiajahmichaaGSp2
namespace Go.Proofs.Ytnooiajahmichaa.X
open Go Go.RowKit
set_option linter.unusedVariables false
set_option linter.unusedSimpArgs false

def P_stream_writer_tile_2_L15u4 (t1 : T_array_Tile) : (Int × List Int × Int) → Option ((Int × List Int × Int) ⊕ (List Int × Int)) := fun (q2, q3, q4) =>
  if q2 < (t1.Out.fe0.length : Int) then
    ck (inb q2 t1.Out.fe0.length) <|
    lv (gt t1.Out.fe0 q2) fun x47u4 =>
    lv (x47u4 % 18446744073709551616) fun x50u4 =>
    bd (P_stream_writer_bits_2 (T_stream_writer.mk q3 q4) x50u4 3) fun q5 =>
    ar (q2 + 1) fun x52u4 =>
    some (Sum.inl (x52u4, q5.1, q5.2))
  else
    some (Sum.inr (q3, q4))
def P_stream_writer_tile_2_L15u3 (t1 : T_array_Tile) : (Int × List Int × Int) → Option ((Int × List Int × Int) ⊕ (List Int × Int)) := fun (q2, q3, q4) =>
  if q2 < (t1.Out.fe1.length : Int) then
    ck (inb q2 t1.Out.fe1.length) <|
    lv (gt t1.Out.fe1 q2) fun x47u3 =>
    lv (x47u3 % 18446744073709551616) fun x50u3 =>
    bd (P_stream_writer_bits_2 (T_stream_writer.mk q3 q4) x50u3 3) fun q5 =>
    ar (q2 + 1) fun x52u3 =>
    some (Sum.inl (x52u3, q5.1, q5.2))
  else
    some (Sum.inr (q3, q4))
def P_stream_writer_tile_2_L15u2 (t1 : T_array_Tile) : (Int × List Int × Int) → Option ((Int × List Int × Int) ⊕ (List Int × Int)) := fun (q2, q3, q4) =>
  if q2 < (t1.Out.fe2.length : Int) then
    ck (inb q2 t1.Out.fe2.length) <|
    lv (gt t1.Out.fe2 q2) fun x47u2 =>
    lv (x47u2 % 18446744073709551616) fun x50u2 =>
    bd (P_stream_writer_bits_2 (T_stream_writer.mk q3 q4) x50u2 3) fun q5 =>
    ar (q2 + 1) fun x52u2 =>
    some (Sum.inl (x52u2, q5.1, q5.2))
  else
    some (Sum.inr (q3, q4))
def P_stream_writer_tile_2_L15u1 (t1 : T_array_Tile) : (Int × List Int × Int) → Option ((Int × List Int × Int) ⊕ (List Int × Int)) := fun (q2, q3, q4) =>
  if q2 < (t1.Out.fe3.length : Int) then
    ck (inb q2 t1.Out.fe3.length) <|
    lv (gt t1.Out.fe3 q2) fun x47u1 =>
    lv (x47u1 % 18446744073709551616) fun x50u1 =>
    bd (P_stream_writer_bits_2 (T_stream_writer.mk q3 q4) x50u1 3) fun q5 =>
    ar (q2 + 1) fun x52u1 =>
    some (Sum.inl (x52u1, q5.1, q5.2))
  else
    some (Sum.inr (q3, q4))
def P_stream_writer_tile_2 (w_0 : T_stream_writer) (t1 : T_array_Tile) (tracks2 : Int) : Option (List Int × Int) :=
  lv (t1.Table % 18446744073709551616) fun x16 =>
  bd (P_stream_writer_bits_2 w_0 x16 16) fun q0f =>
  bd (
    if t1.Init = true then
      some (1 : Int)
    else
      some (0 : Int)) fun q0a =>
  bd (P_stream_writer_bits_2 (T_stream_writer.mk q0f.1 q0f.2) q0a 1) fun q0g =>
  lv (t1.In.fe0 % 18446744073709551616) fun x30u4 =>
  ar ((4 : Int) * tracks2) fun x32u4 =>
  ar ((1 : Int) + x32u4) fun x33u4 =>
  bd (P_stream_size x33u4) fun q0h =>
  bd (P_stream_writer_bits_2 (T_stream_writer.mk q0g.1 q0g.2) x30u4 q0h) fun q0b =>
  lv (t1.In.fe1 % 18446744073709551616) fun x30u3 =>
  ar ((4 : Int) * tracks2) fun x32u3 =>
  ar ((1 : Int) + x32u3) fun x33u3 =>
  bd (P_stream_size x33u3) fun q0i =>
  bd (P_stream_writer_bits_2 (T_stream_writer.mk q0b.1 q0b.2) x30u3 q0i) fun q0c =>
  lv (t1.In.fe2 % 18446744073709551616) fun x30u2 =>
  ar ((4 : Int) * tracks2) fun x32u2 =>
  ar ((1 : Int) + x32u2) fun x33u2 =>
  bd (P_stream_size x33u2) fun q0j =>
  bd (P_stream_writer_bits_2 (T_stream_writer.mk q0c.1 q0c.2) x30u2 q0j) fun q0d =>
  lv (t1.In.fe3 % 18446744073709551616) fun x30u1 =>
  ar ((4 : Int) * tracks2) fun x32u1 =>
  ar ((1 : Int) + x32u1) fun x33u1 =>
  bd (P_stream_size x33u1) fun q0k =>
  bd (P_stream_writer_bits_2 (T_stream_writer.mk q0d.1 q0d.2) x30u1 q0k) fun q0e =>
  bd (
    lp (P_stream_writer_tile_2_L15u4 t1) fuel (0, q0e.1, q0e.2)) fun (q2, q3) =>
  bd (
    lp (P_stream_writer_tile_2_L15u3 t1) fuel (0, q2, q3)) fun (q4, q5) =>
  bd (
    lp (P_stream_writer_tile_2_L15u2 t1) fuel (0, q4, q5)) fun (q6, q7) =>
  bd (
    lp (P_stream_writer_tile_2_L15u1 t1) fuel (0, q6, q7)) fun (q8, q9) =>
  some (q8, q9)
set_option maxHeartbeats 4000000 in
set_option maxRecDepth 100000 in
theorem c_stream_writer_tile_2 {w0 w : World} {l : List Assn} {ρ : Heap} {q2 : Nat} {q3l : Option Addr} {q33 : Nat} {c_w_0_0 : Nat} {q3b : List Value} {q3 : Option Addr} {q42 : Nat} {c_t1_6 : Nat} {q4 : Option Addr} {q43 : Nat} {c_t1_7 : Nat} {q5 : Option Addr} {q44 : Nat} {c_t1_8 : Nat} {q6 : Option Addr} {q45 : Nat} {c_t1_9 : Nat} {w_0 : T_stream_writer} {t1 : T_array_Tile} {tracks2 : Int} {r : (List Int × Int)} (hF : P_stream_writer_tile_2 w_0 t1 tracks2 = some r) (q3m : RepL (RpI .u8) ρ w_0.fb q3b) (q3c : RdS (RpI .i64) ρ q3 q42 c_t1_6 t1.Out.fe0) (q3d : RdS (RpI .i64) ρ q4 q43 c_t1_7 t1.Out.fe1) (q3e : RdS (RpI .i64) ρ q5 q44 c_t1_8 t1.Out.fe2) (q3f : RdS (RpI .i64) ρ q6 q45 c_t1_9 t1.Out.fe3) (hS : St w0 w (cells q2 175 [.slice q3l q33 c_w_0_0, .int .i64 w_0.fleft] :: vec 5 (RpI .u8).sz (.slice q3l q33 c_w_0_0) q33 q3b :: ro ρ :: l)) :
    Calls Try.prog 90 #[.pointer (some ⟨q2, 0, none⟩), .agg #[.int .u16 t1.Table, .bool t1.Init, .int .i64 t1.In.fe0, .int .i64 t1.In.fe1, .int .i64 t1.In.fe2, .int .i64 t1.In.fe3, .slice q3 q42 c_t1_6, .slice q4 q43 c_t1_7, .slice q5 q44 c_t1_8, .slice q6 q45 c_t1_9], .int .i64 tracks2] w fun e w' => ∃ (q2e : Option Addr) (q1m : Nat) (c_b_w_0_0_ret : Nat) (q1z : List Value), e = .returned (.tuple #[]) ∧ RepL (RpI .u8) ρ r.1 q1z ∧ St w0 w' (cells q2 175 [.slice q2e q1m c_b_w_0_0_ret, .int .i64 r.2] :: vec 5 (RpI .u8).sz (.slice q2e q1m c_b_w_0_0_ret) q1m q1z :: ro ρ :: l) := by
  have e_ := St.vec_n (hS.pull 1) q3m; subst e_
  have e_ := q3c.n; subst e_
  have e_ := q3d.n; subst e_
  have e_ := q3e.n; subst e_
  have e_ := q3f.n; subst e_
  refine enterC Try.func90 rfl 54 rfl (by simp) ?_
  refine x_seq <| x_region <|
    ?_
  refine o_box (cs := [.int .u16 t1.Table, .bool t1.Init, .int .i64 t1.In.fe0, .int .i64 t1.In.fe1, .int .i64 t1.In.fe2, .int .i64 t1.In.fe3, .slice q3 t1.Out.fe0.length c_t1_6, .slice q4 t1.Out.fe1.length c_t1_7, .slice q5 t1.Out.fe2.length c_t1_8, .slice q6 t1.Out.fe3.length c_t1_9]) rfl rfl hS (fun b4 w' hS => ?_)
  replace hF := lv_s hF; obtain ⟨x16, hx16, hF⟩ := hF
  replace hF := bd_s hF; obtain ⟨q3n, q4v, hF⟩ := hF
  refine x_done <| x_seq <| x_region <| p (yl_move rfl) <|
    p (yl_field0 fld_183_0 rfl) <| pa (at_load one_179 rfl (hS.cell rfl)) <| p (yconvu wm_u64 uk_179 ik_44 rfl hx16) <|
    ?_
  have hcall := c_stream_writer_bits_2 q4v q3m (((hS.pull 3).pull 3).pull 3)
  refine o_cc call_88 (args3 rfl rfl rfl) hcall ?_
  rintro e w' ⟨q1o, q4c, c_b_w_0_0_ret_1_4, q2g, rfl, q1p, hS⟩
  refine ⟨_, rfl, ?_⟩
  have e_ := St.vec_n (hS.pull 1) q1p; subst e_
  refine x_done <| x_seq <| x_region <| p (yl_assign rfl) <|
    x_done <| x_seq <| x_seq <| x_region <|
    p (yl_field0 fld_183_1 rfl) <| pa (at_load one_4 rfl ((hS.pull 3).cell rfl)) <| x_done <|
    ?_
  replace hF := bd_s hF; obtain ⟨oc19, hFc19, hF⟩ := hF
  refine x_join (fun E w => ∃ (q2h : Int), q2h = oc19 ∧ E 0 = .pointer (some ⟨q2, 0, none⟩) ∧ E 2 = .int .i64 tracks2 ∧ E 4 = .pointer (some ⟨b4, 0, none⟩) ∧ E 6 = .int .u64 q2h ∧ St w0 w (cells q2 175 [.slice q1o q3n.1.length c_b_w_0_0_ret_1_4, .int .i64 q3n.2] :: cells b4 183 [.int .u16 t1.Table, .bool t1.Init, .int .i64 t1.In.fe0, .int .i64 t1.In.fe1, .int .i64 t1.In.fe2, .int .i64 t1.In.fe3, .slice q3 t1.Out.fe0.length c_t1_6, .slice q4 t1.Out.fe1.length c_t1_7, .slice q5 t1.Out.fe2.length c_t1_8, .slice q6 t1.Out.fe3.length c_t1_9] :: vec 5 (RpI .u8).sz (.slice q1o q3n.1.length c_b_w_0_0_ret_1_4) q3n.1.length q2g :: ro ρ :: l)) ?_ ?_
  · skip -- c19
    refine x_cond (t := t1.Init) rfl (fun hc19 => ?_) (fun hc19 => ?_)
    · replace hFc19 := it_t hc19 hFc19
      refine x_region <| p (yl_assign rfl) <| x_done <|
        ?_
      exact x_inv ⟨1, (Option.some.inj (show some _ = some _ from hFc19)), rfl, rfl, rfl, rfl, ((((hS.pull 2).pull 2).pull 3).pull 3)⟩
    · replace hFc19 := it_bf hc19 hFc19
      refine x_skip <|
        ?_
      exact x_inv ⟨0, (Option.some.inj (show some _ = some _ from hFc19)), rfl, rfl, rfl, rfl, ((((hS.pull 2).pull 2).pull 3).pull 3)⟩
  rintro E w ⟨q2h, rfl, q20, q2m, q46, q4u, hS⟩
  replace hF := bd_s hF; obtain ⟨q56, q4w, hF⟩ := hF
  refine x_seq <| x_region <| p (yl_move q20) <| p (yl_move q4u) <|
    ?_
  have hcall := c_stream_writer_bits_2 q4w q1p (((hS.pull 3).pull 3).pull 2)
  refine o_cc call_88 (args3 rfl rfl rfl) hcall ?_
  rintro e w' ⟨q4d, q4e, c_b_w_0_0_ret_5_2, q47, rfl, q1q, hS⟩
  refine ⟨_, rfl, ?_⟩
  have e_ := St.vec_n (hS.pull 1) q1q; subst e_
  replace hF := lv_s hF; obtain ⟨x30u4, hx30u4, hF⟩ := hF
  replace hF := ar_s hF; obtain ⟨x32u4, hx32u4, hF⟩ := hF
  replace hF := ar_s hF; obtain ⟨x33u4, hx33u4, hF⟩ := hF
  replace hF := bd_s hF; obtain ⟨q4z, q4m, hF⟩ := hF
  refine x_done <| x_seq <| x_seq <| x_region <|
    p (yl_field0 fld_183_2 q46) <| pa (v := .agg #[.int .i64 t1.In.fe0, .int .i64 t1.In.fe1, .int .i64 t1.In.fe2, .int .i64 t1.In.fe3]) (ld_sub agg_180 rfl rfl rfl (hS.pull 3)) <| p (yl_move rfl) <| x_done <|
    x_block <| x_unroll 4 <| x_seq <| x_region <|
    p (ylss_l (t := true) rfl rfl (by decide)) <| x_done <| x_seq <| x_cond_t (show ev _ _ = .bool true from rfl) <|
    x_skip <| x_seq <| x_block <| x_seq <|
    x_region <| p (yl_ixv (x := .tmp 24) (y := .tmp 25) (v := .int .i64 t1.In.fe0) arr_180 one_3 rfl rfl (by decide) rfl) <| p (yl_assign rfl) <| x_done <|
    x_region <| p (yl_move q20) <| p (yl_move rfl) <| p (yconvu wm_u64 uk_3 ik_44 rfl hx30u4) <|
    p (yl_move q2m) <| p (ymul rfl rfl hx32u4) <| p (yadd rfl rfl hx33u4) <|
    ?_
  have hcall := c_stream_size q4m  (hS.pull 2)
  refine o_cc call_133 (args1 rfl) ((Calls.mono hcall (fun e w'' h => And.intro h.1 ((((h.2.pull 3).pull 1).pull 3).pull 3)))) ?_
  rintro e w' ⟨rfl, hS⟩
  refine ⟨_, rfl, ?_⟩
  replace hF := bd_s hF; obtain ⟨q50, q4n, hF⟩ := hF
  have hcall := c_stream_writer_bits_2 q4n q1q (((hS.pull 2).pull 2).pull 2)
  refine o_cc call_88 (args3 rfl rfl rfl) hcall ?_
  rintro e w' ⟨q3v, q3w, c_b_w_0_0_ret_9_7u4, q3o, rfl, q1i, hS⟩
  refine ⟨_, rfl, ?_⟩
  have e_ := St.vec_n (hS.pull 1) q1i; subst e_
  replace hF := lv_s hF; obtain ⟨x30u3, hx30u3, hF⟩ := hF
  replace hF := ar_s hF; obtain ⟨x32u3, hx32u3, hF⟩ := hF
  replace hF := ar_s hF; obtain ⟨x33u3, hx33u3, hF⟩ := hF
  replace hF := bd_s hF; obtain ⟨q51, q4o, hF⟩ := hF
  refine x_done <| x_blk <| x_region <| p (yadd (c := 1) rfl rfl ⟨rfl, by decide⟩) <|
    p (yl_move rfl) <| x_done <| x_un 3 <| x_seq <|
    x_region <| p (ylss_l (t := true) rfl rfl (by decide)) <| x_done <| x_seq <|
    x_cond_t (show ev _ _ = .bool true from rfl) <| x_skip <| x_seq <| x_block <|
    x_seq <| x_region <| p (yl_ixv (x := .tmp 24) (y := .tmp 25) (v := .int .i64 t1.In.fe1) arr_180 one_3 rfl rfl (by decide) rfl) <| p (yl_assign rfl) <|
    x_done <| x_region <| p (yl_move q20) <| p (yl_move rfl) <|
    p (yconvu wm_u64 uk_3 ik_44 rfl hx30u3) <| p (yl_move q2m) <| p (ymul rfl rfl hx32u3) <| p (yadd rfl rfl hx33u3) <|
    ?_
  have hcall := c_stream_size q4o  (hS.pull 2)
  refine o_cc call_133 (args1 rfl) ((Calls.mono hcall (fun e w'' h => And.intro h.1 ((((h.2.pull 3).pull 1).pull 3).pull 3)))) ?_
  rintro e w' ⟨rfl, hS⟩
  refine ⟨_, rfl, ?_⟩
  replace hF := bd_s hF; obtain ⟨q52, q4p, hF⟩ := hF
  have hcall := c_stream_writer_bits_2 q4p q1i (((hS.pull 2).pull 2).pull 2)
  refine o_cc call_88 (args3 rfl rfl rfl) hcall ?_
  rintro e w' ⟨q3x, q3y, c_b_w_0_0_ret_9_7u3, q3p, rfl, q1j, hS⟩
  refine ⟨_, rfl, ?_⟩
  have e_ := St.vec_n (hS.pull 1) q1j; subst e_
  replace hF := lv_s hF; obtain ⟨x30u2, hx30u2, hF⟩ := hF
  replace hF := ar_s hF; obtain ⟨x32u2, hx32u2, hF⟩ := hF
  replace hF := ar_s hF; obtain ⟨x33u2, hx33u2, hF⟩ := hF
  replace hF := bd_s hF; obtain ⟨q53, q4q, hF⟩ := hF
  refine x_done <| x_blk <| x_region <| p (yadd (c := 2) rfl rfl ⟨rfl, by decide⟩) <|
    p (yl_move rfl) <| x_done <| x_un 2 <| x_seq <|
    x_region <| p (ylss_l (t := true) rfl rfl (by decide)) <| x_done <| x_seq <|
    x_cond_t (show ev _ _ = .bool true from rfl) <| x_skip <| x_seq <| x_block <|
    x_seq <| x_region <| p (yl_ixv (x := .tmp 24) (y := .tmp 25) (v := .int .i64 t1.In.fe2) arr_180 one_3 rfl rfl (by decide) rfl) <| p (yl_assign rfl) <|
    x_done <| x_region <| p (yl_move q20) <| p (yl_move rfl) <|
    p (yconvu wm_u64 uk_3 ik_44 rfl hx30u2) <| p (yl_move q2m) <| p (ymul rfl rfl hx32u2) <| p (yadd rfl rfl hx33u2) <|
    ?_
  have hcall := c_stream_size q4q  (hS.pull 2)
  refine o_cc call_133 (args1 rfl) ((Calls.mono hcall (fun e w'' h => And.intro h.1 ((((h.2.pull 3).pull 1).pull 3).pull 3)))) ?_
  rintro e w' ⟨rfl, hS⟩
  refine ⟨_, rfl, ?_⟩
  replace hF := bd_s hF; obtain ⟨q54, q4r, hF⟩ := hF
  have hcall := c_stream_writer_bits_2 q4r q1j (((hS.pull 2).pull 2).pull 2)
  refine o_cc call_88 (args3 rfl rfl rfl) hcall ?_
  rintro e w' ⟨q3z, q40, c_b_w_0_0_ret_9_7u2, q3q, rfl, q1k, hS⟩
  refine ⟨_, rfl, ?_⟩
  have e_ := St.vec_n (hS.pull 1) q1k; subst e_
  replace hF := lv_s hF; obtain ⟨x30u1, hx30u1, hF⟩ := hF
  replace hF := ar_s hF; obtain ⟨x32u1, hx32u1, hF⟩ := hF
  replace hF := ar_s hF; obtain ⟨x33u1, hx33u1, hF⟩ := hF
  replace hF := bd_s hF; obtain ⟨q55, q4s, hF⟩ := hF
  refine x_done <| x_blk <| x_region <| p (yadd (c := 3) rfl rfl ⟨rfl, by decide⟩) <|
    p (yl_move rfl) <| x_done <| x_un 1 <| x_seq <|
    x_region <| p (ylss_l (t := true) rfl rfl (by decide)) <| x_done <| x_seq <|
    x_cond_t (show ev _ _ = .bool true from rfl) <| x_skip <| x_seq <| x_block <|
    x_seq <| x_region <| p (yl_ixv (x := .tmp 24) (y := .tmp 25) (v := .int .i64 t1.In.fe3) arr_180 one_3 rfl rfl (by decide) rfl) <| p (yl_assign rfl) <|
    x_done <| x_region <| p (yl_move q20) <| p (yl_move rfl) <|
    p (yconvu wm_u64 uk_3 ik_44 rfl hx30u1) <| p (yl_move q2m) <| p (ymul rfl rfl hx32u1) <| p (yadd rfl rfl hx33u1) <|
    ?_
  have hcall := c_stream_size q4s  (hS.pull 2)
  refine o_cc call_133 (args1 rfl) ((Calls.mono hcall (fun e w'' h => And.intro h.1 ((((h.2.pull 3).pull 1).pull 3).pull 3)))) ?_
  rintro e w' ⟨rfl, hS⟩
  refine ⟨_, rfl, ?_⟩
  replace hF := bd_s hF; obtain ⟨q3g, q4t, hF⟩ := hF
  have hcall := c_stream_writer_bits_2 q4t q1k (((hS.pull 2).pull 2).pull 2)
  refine o_cc call_88 (args3 rfl rfl rfl) hcall ?_
  rintro e w' ⟨q2f, q41, c_b_w_0_0_ret_9_7u1, q25, rfl, q1l, hS⟩
  refine ⟨_, rfl, ?_⟩
  have e_ := St.vec_n (hS.pull 1) q1l; subst e_
  refine x_done <| x_blk <| x_region <| p (yadd (c := 4) rfl rfl ⟨rfl, by decide⟩) <|
    p (yl_move rfl) <| x_done <| x_un 0 <| x_seq <|
    x_region <| p (ylss_l (t := false) rfl rfl (by decide)) <| x_done <| x_seq <|
    x_cond_f (show ev _ _ = .bool false from rfl) <| x_exitTo _ rfl <| x_seq <| x_region <|
    p (yl_field0 fld_183_3 q46) <| pa (v := .agg #[.slice q3 t1.Out.fe0.length c_t1_6, .slice q4 t1.Out.fe1.length c_t1_7, .slice q5 t1.Out.fe2.length c_t1_8, .slice q6 t1.Out.fe3.length c_t1_9]) (ld_sub agg_181 rfl rfl rfl (hS.pull 3)) <| p (yl_move rfl) <| x_done <|
    x_block <| x_unroll 4 <| x_seq <| x_region <|
    p (ylss_l (t := true) rfl rfl (by decide)) <| x_done <| x_seq <| x_cond_t (show ev _ _ = .bool true from rfl) <|
    x_skip <| x_seq <| x_block <| x_seq <|
    x_region <| p (yl_ixv (x := .tmp 38) (y := .tmp 39) (v := .slice q3 t1.Out.fe0.length c_t1_6) arr_181 one_22 rfl rfl (by decide) rfl) <| p (yl_assign rfl) <| x_done <|
    x_seq <| x_region <| p (yl_move rfl) <| p (yl_len_slice usl_22 rfl) <|
    p (yl_move rfl) <| x_done <|
    ?_
  replace hF := bd_s hF; obtain ⟨oL15u4, hLL15u4, hF⟩ := hF
  refine x_join (fun E w => ∃ (q0u : Option Addr) (q0v : Nat) (c_b_w_0_0_L15u4 : Nat) (q0f : List Value) (q0r : List Int) (q16 : Int), (q0r, q16) = oL15u4 ∧ E 0 = .pointer (some ⟨q2, 0, none⟩) ∧ E 38 = .agg #[.slice q3 t1.Out.fe0.length c_t1_6, .slice q4 t1.Out.fe1.length c_t1_7, .slice q5 t1.Out.fe2.length c_t1_8, .slice q6 t1.Out.fe3.length c_t1_9] ∧ E 39 = .int .i64 0 ∧ RepL (RpI .u8) ρ q0r q0f ∧ St w0 w (cells q2 175 [.slice q0u q0v c_b_w_0_0_L15u4, .int .i64 q16] :: vec 5 (RpI .u8).sz (.slice q0u q0v c_b_w_0_0_L15u4) q0v q0f :: ro ρ :: l)) ?_ ?_
  · skip -- L15u4
    refine x_block ?_
    refine x_loop (fun k_ E w => ∃ (q0g : Option Addr) (q0h : Nat) (c_b_w_0_0_L15u4h : Nat) (q7 : List Value) (q1r : Int) (q0b : List Int) (q12 : Int), lp (P_stream_writer_tile_2_L15u4 t1) k_ (q1r, q0b, q12) = some oL15u4 ∧ E 0 = .pointer (some ⟨q2, 0, none⟩) ∧ E 38 = .agg #[.slice q3 t1.Out.fe0.length c_t1_6, .slice q4 t1.Out.fe1.length c_t1_7, .slice q5 t1.Out.fe2.length c_t1_8, .slice q6 t1.Out.fe3.length c_t1_9] ∧ E 39 = .int .i64 0 ∧ E 42 = .slice q3 t1.Out.fe0.length c_t1_6 ∧ E 43 = .int .i64 (t1.Out.fe0.length : Int) ∧ E 44 = .int .i64 q1r ∧ RepL (RpI .u8) ρ q0b q7 ∧ St w0 w (cells q2 175 [.slice q0g q0h c_b_w_0_0_L15u4h, .int .i64 q12] :: vec 5 (RpI .u8).sz (.slice q0g q0h c_b_w_0_0_L15u4h) q0h q7 :: ro ρ :: l)) fuel ⟨q2f, q3g.1.length, c_b_w_0_0_ret_9_7u1, q25, 0, q3g.1, q3g.2, hLL15u4, q20, rfl, rfl, rfl, rfl, rfl, q1l, ((((hS.pull 3).drop.pull 2).pull 2).pull 2)⟩ ?_
    rintro kL15u4 E w ⟨q0g, q0h, c_b_w_0_0_L15u4h, q7, q1r, q0b, q12, hLL15u4, q2i, q2n, q2o, q2p, q2q, q26, q1a, hS⟩
    have e_ := St.vec_n (hS.pull 1) q1a; subst e_
    replace hLL15u4 := lp_s hLL15u4; obtain ⟨kL15u4, obL15u4, rfl, hFL15u4, hLL15u4⟩ := hLL15u4
    refine x_seq <| x_region <| p (yl_lss q26 q2q) <| x_done <|
      x_seq <|
      x_cond_p (q1r < (t1.Out.fe0.length : Int)) rfl (fun hc45u4 => ?_) (fun hc45u4 => ?_)
    · replace hFL15u4 := it_t hc45u4 hFL15u4
      replace hFL15u4 := ck_s hFL15u4; obtain ⟨q3h, hFL15u4⟩ := hFL15u4
      replace hFL15u4 := lv_s hFL15u4; obtain ⟨x47u4, hx47u4, hFL15u4⟩ := hFL15u4
      replace hFL15u4 := lv_s hFL15u4; obtain ⟨x50u4, hx50u4, hFL15u4⟩ := hFL15u4
      replace hFL15u4 := bd_s hFL15u4; obtain ⟨q34, q4f, hFL15u4⟩ := hFL15u4
      refine x_skip <| x_seq <| x_block <| x_seq <|
        x_region <| p (yix_f sl_22 q2p q26 q3c q3h) <| pa (at_load one_3 rfl (RdS.getW q3c (hS.pull 2) q3h hx47u4)) <| p (yl_assign rfl) <|
        x_done <| x_region <| p (yl_move q2i) <| p (yl_move rfl) <|
        p (yconvu wm_u64 uk_3 ik_44 rfl hx50u4) <|
        ?_
      have hcall := c_stream_writer_bits_2 q4f q1a (((hS.pull 2).pull 2).pull 2)
      refine o_cc call_88 (args3 rfl rfl rfl) hcall ?_
      rintro e w' ⟨q27, q3r, c_b_w_0_0_ret_17_3u4, q21, rfl, q1e, hS⟩
      refine ⟨_, rfl, ?_⟩
      have e_ := St.vec_n (hS.pull 1) q1e; subst e_
      replace hFL15u4 := ar_s hFL15u4; obtain ⟨x52u4, hx52u4, hFL15u4⟩ := hFL15u4
      refine x_done <| x_blk <| x_region <| p (yadd q26 rfl hx52u4) <|
        p (yl_move rfl) <| x_done <|
        ?_
      have e_ := Option.some.inj (show some _ = some _ from hFL15u4); subst e_
      exact x_inv ⟨kL15u4, Nat.lt_succ_self _, q27, q34.1.length, c_b_w_0_0_ret_17_3u4, q21, x52u4, q34.1, q34.2, hLL15u4, q2i, q2n, q2o, q2p, q2q, rfl, q1e, (((hS.pull 2).pull 2).pull 2)⟩
    · replace hFL15u4 := it_f hc45u4 hFL15u4
      refine x_exitTo _ rfl <|
        ?_
      have e_ := Option.some.inj (show some _ = some _ from hFL15u4); subst e_
      exact x_inv ⟨q0g, q0b.length, c_b_w_0_0_L15u4h, q7, q0b, q12, hLL15u4, q2i, q2n, q2o, q1a, (((hS.pull 2).pull 2).pull 2)⟩
  rintro E w ⟨q0u, q0v, c_b_w_0_0_L15u4, q0f, q0r, q16, rfl, q4g, q38, q48, q1v, hS⟩
  have e_ := St.vec_n (hS.pull 1) q1v; subst e_
  refine x_blk <| x_region <| p (yadd (c := 1) q48 rfl ⟨rfl, by decide⟩) <| p (yl_move rfl) <|
    x_done <| x_un 3 <| x_seq <| x_region <|
    p (ylss_l (t := true) rfl rfl (by decide)) <| x_done <| x_seq <| x_cond_t (show ev _ _ = .bool true from rfl) <|
    x_skip <| x_seq <| x_block <| x_seq <|
    x_region <| p (yl_ixv (x := .tmp 38) (y := .tmp 39) (v := .slice q4 t1.Out.fe1.length c_t1_7) arr_181 one_22 q38 rfl (by decide) rfl) <| p (yl_assign rfl) <| x_done <|
    x_seq <| x_region <| p (yl_move rfl) <| p (yl_len_slice usl_22 rfl) <|
    p (yl_move rfl) <| x_done <|
    ?_
  replace hF := bd_s hF; obtain ⟨oL15u3, hLL15u3, hF⟩ := hF
  refine x_join (fun E w => ∃ (q0w : Option Addr) (q0x : Nat) (c_b_w_0_0_L15u3 : Nat) (q0i : List Value) (q0s : List Int) (q17 : Int), (q0s, q17) = oL15u3 ∧ E 0 = .pointer (some ⟨q2, 0, none⟩) ∧ E 38 = .agg #[.slice q3 t1.Out.fe0.length c_t1_6, .slice q4 t1.Out.fe1.length c_t1_7, .slice q5 t1.Out.fe2.length c_t1_8, .slice q6 t1.Out.fe3.length c_t1_9] ∧ E 39 = .int .i64 1 ∧ RepL (RpI .u8) ρ q0s q0i ∧ St w0 w (cells q2 175 [.slice q0w q0x c_b_w_0_0_L15u3, .int .i64 q17] :: vec 5 (RpI .u8).sz (.slice q0w q0x c_b_w_0_0_L15u3) q0x q0i :: ro ρ :: l)) ?_ ?_
  · skip -- L15u3
    refine x_block ?_
    refine x_loop (fun k_ E w => ∃ (q0j : Option Addr) (q0k : Nat) (c_b_w_0_0_L15u3h : Nat) (q8 : List Value) (q1s : Int) (q0c : List Int) (q13 : Int), lp (P_stream_writer_tile_2_L15u3 t1) k_ (q1s, q0c, q13) = some oL15u3 ∧ E 0 = .pointer (some ⟨q2, 0, none⟩) ∧ E 38 = .agg #[.slice q3 t1.Out.fe0.length c_t1_6, .slice q4 t1.Out.fe1.length c_t1_7, .slice q5 t1.Out.fe2.length c_t1_8, .slice q6 t1.Out.fe3.length c_t1_9] ∧ E 39 = .int .i64 1 ∧ E 42 = .slice q4 t1.Out.fe1.length c_t1_7 ∧ E 43 = .int .i64 (t1.Out.fe1.length : Int) ∧ E 44 = .int .i64 q1s ∧ RepL (RpI .u8) ρ q0c q8 ∧ St w0 w (cells q2 175 [.slice q0j q0k c_b_w_0_0_L15u3h, .int .i64 q13] :: vec 5 (RpI .u8).sz (.slice q0j q0k c_b_w_0_0_L15u3h) q0k q8 :: ro ρ :: l)) fuel ⟨q0u, q0r.length, c_b_w_0_0_L15u4, q0f, 0, q0r, q16, hLL15u3, q4g, q38, rfl, rfl, rfl, rfl, q1v, (((hS.pull 2).pull 2).pull 2)⟩ ?_
    rintro kL15u3 E w ⟨q0j, q0k, c_b_w_0_0_L15u3h, q8, q1s, q0c, q13, hLL15u3, q2j, q2r, q2s, q2t, q2u, q28, q1b, hS⟩
    have e_ := St.vec_n (hS.pull 1) q1b; subst e_
    replace hLL15u3 := lp_s hLL15u3; obtain ⟨kL15u3, obL15u3, rfl, hFL15u3, hLL15u3⟩ := hLL15u3
    refine x_seq <| x_region <| p (yl_lss q28 q2u) <| x_done <|
      x_seq <|
      x_cond_p (q1s < (t1.Out.fe1.length : Int)) rfl (fun hc45u3 => ?_) (fun hc45u3 => ?_)
    · replace hFL15u3 := it_t hc45u3 hFL15u3
      replace hFL15u3 := ck_s hFL15u3; obtain ⟨q3i, hFL15u3⟩ := hFL15u3
      replace hFL15u3 := lv_s hFL15u3; obtain ⟨x47u3, hx47u3, hFL15u3⟩ := hFL15u3
      replace hFL15u3 := lv_s hFL15u3; obtain ⟨x50u3, hx50u3, hFL15u3⟩ := hFL15u3
      replace hFL15u3 := bd_s hFL15u3; obtain ⟨q35, q4h, hFL15u3⟩ := hFL15u3
      refine x_skip <| x_seq <| x_block <| x_seq <|
        x_region <| p (yix_f sl_22 q2t q28 q3d q3i) <| pa (at_load one_3 rfl (RdS.getW q3d (hS.pull 2) q3i hx47u3)) <| p (yl_assign rfl) <|
        x_done <| x_region <| p (yl_move q2j) <| p (yl_move rfl) <|
        p (yconvu wm_u64 uk_3 ik_44 rfl hx50u3) <|
        ?_
      have hcall := c_stream_writer_bits_2 q4h q1b (((hS.pull 2).pull 2).pull 2)
      refine o_cc call_88 (args3 rfl rfl rfl) hcall ?_
      rintro e w' ⟨q29, q3s, c_b_w_0_0_ret_17_3u3, q22, rfl, q1f, hS⟩
      refine ⟨_, rfl, ?_⟩
      have e_ := St.vec_n (hS.pull 1) q1f; subst e_
      replace hFL15u3 := ar_s hFL15u3; obtain ⟨x52u3, hx52u3, hFL15u3⟩ := hFL15u3
      refine x_done <| x_blk <| x_region <| p (yadd q28 rfl hx52u3) <|
        p (yl_move rfl) <| x_done <|
        ?_
      have e_ := Option.some.inj (show some _ = some _ from hFL15u3); subst e_
      exact x_inv ⟨kL15u3, Nat.lt_succ_self _, q29, q35.1.length, c_b_w_0_0_ret_17_3u3, q22, x52u3, q35.1, q35.2, hLL15u3, q2j, q2r, q2s, q2t, q2u, rfl, q1f, (((hS.pull 2).pull 2).pull 2)⟩
    · replace hFL15u3 := it_f hc45u3 hFL15u3
      refine x_exitTo _ rfl <|
        ?_
      have e_ := Option.some.inj (show some _ = some _ from hFL15u3); subst e_
      exact x_inv ⟨q0j, q0c.length, c_b_w_0_0_L15u3h, q8, q0c, q13, hLL15u3, q2j, q2r, q2s, q1b, (((hS.pull 2).pull 2).pull 2)⟩
  rintro E w ⟨q0w, q0x, c_b_w_0_0_L15u3, q0i, q0s, q17, rfl, q4i, q39, q49, q1w, hS⟩
  have e_ := St.vec_n (hS.pull 1) q1w; subst e_
  refine x_blk <| x_region <| p (yadd (c := 2) q49 rfl ⟨rfl, by decide⟩) <| p (yl_move rfl) <|
    x_done <| x_un 2 <| x_seq <| x_region <|
    p (ylss_l (t := true) rfl rfl (by decide)) <| x_done <| x_seq <| x_cond_t (show ev _ _ = .bool true from rfl) <|
    x_skip <| x_seq <| x_block <| x_seq <|
    x_region <| p (yl_ixv (x := .tmp 38) (y := .tmp 39) (v := .slice q5 t1.Out.fe2.length c_t1_8) arr_181 one_22 q39 rfl (by decide) rfl) <| p (yl_assign rfl) <| x_done <|
    x_seq <| x_region <| p (yl_move rfl) <| p (yl_len_slice usl_22 rfl) <|
    p (yl_move rfl) <| x_done <|
    ?_
  replace hF := bd_s hF; obtain ⟨oL15u2, hLL15u2, hF⟩ := hF
  refine x_join (fun E w => ∃ (q0y : Option Addr) (q0z : Nat) (c_b_w_0_0_L15u2 : Nat) (q0l : List Value) (q0t : List Int) (q18 : Int), (q0t, q18) = oL15u2 ∧ E 0 = .pointer (some ⟨q2, 0, none⟩) ∧ E 38 = .agg #[.slice q3 t1.Out.fe0.length c_t1_6, .slice q4 t1.Out.fe1.length c_t1_7, .slice q5 t1.Out.fe2.length c_t1_8, .slice q6 t1.Out.fe3.length c_t1_9] ∧ E 39 = .int .i64 2 ∧ RepL (RpI .u8) ρ q0t q0l ∧ St w0 w (cells q2 175 [.slice q0y q0z c_b_w_0_0_L15u2, .int .i64 q18] :: vec 5 (RpI .u8).sz (.slice q0y q0z c_b_w_0_0_L15u2) q0z q0l :: ro ρ :: l)) ?_ ?_
  · skip -- L15u2
    refine x_block ?_
    refine x_loop (fun k_ E w => ∃ (q0m : Option Addr) (q0n : Nat) (c_b_w_0_0_L15u2h : Nat) (q9 : List Value) (q1t : Int) (q0d : List Int) (q14 : Int), lp (P_stream_writer_tile_2_L15u2 t1) k_ (q1t, q0d, q14) = some oL15u2 ∧ E 0 = .pointer (some ⟨q2, 0, none⟩) ∧ E 38 = .agg #[.slice q3 t1.Out.fe0.length c_t1_6, .slice q4 t1.Out.fe1.length c_t1_7, .slice q5 t1.Out.fe2.length c_t1_8, .slice q6 t1.Out.fe3.length c_t1_9] ∧ E 39 = .int .i64 2 ∧ E 42 = .slice q5 t1.Out.fe2.length c_t1_8 ∧ E 43 = .int .i64 (t1.Out.fe2.length : Int) ∧ E 44 = .int .i64 q1t ∧ RepL (RpI .u8) ρ q0d q9 ∧ St w0 w (cells q2 175 [.slice q0m q0n c_b_w_0_0_L15u2h, .int .i64 q14] :: vec 5 (RpI .u8).sz (.slice q0m q0n c_b_w_0_0_L15u2h) q0n q9 :: ro ρ :: l)) fuel ⟨q0w, q0s.length, c_b_w_0_0_L15u3, q0i, 0, q0s, q17, hLL15u2, q4i, q39, rfl, rfl, rfl, rfl, q1w, (((hS.pull 2).pull 2).pull 2)⟩ ?_
    rintro kL15u2 E w ⟨q0m, q0n, c_b_w_0_0_L15u2h, q9, q1t, q0d, q14, hLL15u2, q2k, q2v, q2w, q2x, q2y, q2a, q1c, hS⟩
    have e_ := St.vec_n (hS.pull 1) q1c; subst e_
    replace hLL15u2 := lp_s hLL15u2; obtain ⟨kL15u2, obL15u2, rfl, hFL15u2, hLL15u2⟩ := hLL15u2
    refine x_seq <| x_region <| p (yl_lss q2a q2y) <| x_done <|
      x_seq <|
      x_cond_p (q1t < (t1.Out.fe2.length : Int)) rfl (fun hc45u2 => ?_) (fun hc45u2 => ?_)
    · replace hFL15u2 := it_t hc45u2 hFL15u2
      replace hFL15u2 := ck_s hFL15u2; obtain ⟨q3j, hFL15u2⟩ := hFL15u2
      replace hFL15u2 := lv_s hFL15u2; obtain ⟨x47u2, hx47u2, hFL15u2⟩ := hFL15u2
      replace hFL15u2 := lv_s hFL15u2; obtain ⟨x50u2, hx50u2, hFL15u2⟩ := hFL15u2
      replace hFL15u2 := bd_s hFL15u2; obtain ⟨q36, q4j, hFL15u2⟩ := hFL15u2
      refine x_skip <| x_seq <| x_block <| x_seq <|
        x_region <| p (yix_f sl_22 q2x q2a q3e q3j) <| pa (at_load one_3 rfl (RdS.getW q3e (hS.pull 2) q3j hx47u2)) <| p (yl_assign rfl) <|
        x_done <| x_region <| p (yl_move q2k) <| p (yl_move rfl) <|
        p (yconvu wm_u64 uk_3 ik_44 rfl hx50u2) <|
        ?_
      have hcall := c_stream_writer_bits_2 q4j q1c (((hS.pull 2).pull 2).pull 2)
      refine o_cc call_88 (args3 rfl rfl rfl) hcall ?_
      rintro e w' ⟨q2b, q3t, c_b_w_0_0_ret_17_3u2, q23, rfl, q1g, hS⟩
      refine ⟨_, rfl, ?_⟩
      have e_ := St.vec_n (hS.pull 1) q1g; subst e_
      replace hFL15u2 := ar_s hFL15u2; obtain ⟨x52u2, hx52u2, hFL15u2⟩ := hFL15u2
      refine x_done <| x_blk <| x_region <| p (yadd q2a rfl hx52u2) <|
        p (yl_move rfl) <| x_done <|
        ?_
      have e_ := Option.some.inj (show some _ = some _ from hFL15u2); subst e_
      exact x_inv ⟨kL15u2, Nat.lt_succ_self _, q2b, q36.1.length, c_b_w_0_0_ret_17_3u2, q23, x52u2, q36.1, q36.2, hLL15u2, q2k, q2v, q2w, q2x, q2y, rfl, q1g, (((hS.pull 2).pull 2).pull 2)⟩
    · replace hFL15u2 := it_f hc45u2 hFL15u2
      refine x_exitTo _ rfl <|
        ?_
      have e_ := Option.some.inj (show some _ = some _ from hFL15u2); subst e_
      exact x_inv ⟨q0m, q0d.length, c_b_w_0_0_L15u2h, q9, q0d, q14, hLL15u2, q2k, q2v, q2w, q1c, (((hS.pull 2).pull 2).pull 2)⟩
  rintro E w ⟨q0y, q0z, c_b_w_0_0_L15u2, q0l, q0t, q18, rfl, q4k, q3a, q4a, q1x, hS⟩
  have e_ := St.vec_n (hS.pull 1) q1x; subst e_
  refine x_blk <| x_region <| p (yadd (c := 3) q4a rfl ⟨rfl, by decide⟩) <| p (yl_move rfl) <|
    x_done <| x_un 1 <| x_seq <| x_region <|
    p (ylss_l (t := true) rfl rfl (by decide)) <| x_done <| x_seq <| x_cond_t (show ev _ _ = .bool true from rfl) <|
    x_skip <| x_seq <| x_block <| x_seq <|
    x_region <| p (yl_ixv (x := .tmp 38) (y := .tmp 39) (v := .slice q6 t1.Out.fe3.length c_t1_9) arr_181 one_22 q3a rfl (by decide) rfl) <| p (yl_assign rfl) <| x_done <|
    x_seq <| x_region <| p (yl_move rfl) <| p (yl_len_slice usl_22 rfl) <|
    p (yl_move rfl) <| x_done <|
    ?_
  replace hF := bd_s hF; obtain ⟨oL15u1, hLL15u1, hF⟩ := hF
  refine x_join (fun E w => ∃ (q10 : Option Addr) (q11 : Nat) (c_b_w_0_0_L15u1 : Nat) (q0o : List Value) (q19 : List Int) (q1n : Int), (q19, q1n) = oL15u1 ∧ E 0 = .pointer (some ⟨q2, 0, none⟩) ∧ E 38 = .agg #[.slice q3 t1.Out.fe0.length c_t1_6, .slice q4 t1.Out.fe1.length c_t1_7, .slice q5 t1.Out.fe2.length c_t1_8, .slice q6 t1.Out.fe3.length c_t1_9] ∧ E 39 = .int .i64 3 ∧ RepL (RpI .u8) ρ q19 q0o ∧ St w0 w (cells q2 175 [.slice q10 q11 c_b_w_0_0_L15u1, .int .i64 q1n] :: vec 5 (RpI .u8).sz (.slice q10 q11 c_b_w_0_0_L15u1) q11 q0o :: ro ρ :: l)) ?_ ?_
  · skip -- L15u1
    refine x_block ?_
    refine x_loop (fun k_ E w => ∃ (q0p : Option Addr) (q0q : Nat) (c_b_w_0_0_L15u1h : Nat) (q0a : List Value) (q1u : Int) (q0e : List Int) (q15 : Int), lp (P_stream_writer_tile_2_L15u1 t1) k_ (q1u, q0e, q15) = some oL15u1 ∧ E 0 = .pointer (some ⟨q2, 0, none⟩) ∧ E 38 = .agg #[.slice q3 t1.Out.fe0.length c_t1_6, .slice q4 t1.Out.fe1.length c_t1_7, .slice q5 t1.Out.fe2.length c_t1_8, .slice q6 t1.Out.fe3.length c_t1_9] ∧ E 39 = .int .i64 3 ∧ E 42 = .slice q6 t1.Out.fe3.length c_t1_9 ∧ E 43 = .int .i64 (t1.Out.fe3.length : Int) ∧ E 44 = .int .i64 q1u ∧ RepL (RpI .u8) ρ q0e q0a ∧ St w0 w (cells q2 175 [.slice q0p q0q c_b_w_0_0_L15u1h, .int .i64 q15] :: vec 5 (RpI .u8).sz (.slice q0p q0q c_b_w_0_0_L15u1h) q0q q0a :: ro ρ :: l)) fuel ⟨q0y, q0t.length, c_b_w_0_0_L15u2, q0l, 0, q0t, q18, hLL15u1, q4k, q3a, rfl, rfl, rfl, rfl, q1x, (((hS.pull 2).pull 2).pull 2)⟩ ?_
    rintro kL15u1 E w ⟨q0p, q0q, c_b_w_0_0_L15u1h, q0a, q1u, q0e, q15, hLL15u1, q2l, q2z, q30, q31, q32, q2c, q1d, hS⟩
    have e_ := St.vec_n (hS.pull 1) q1d; subst e_
    replace hLL15u1 := lp_s hLL15u1; obtain ⟨kL15u1, obL15u1, rfl, hFL15u1, hLL15u1⟩ := hLL15u1
    refine x_seq <| x_region <| p (yl_lss q2c q32) <| x_done <|
      x_seq <|
      x_cond_p (q1u < (t1.Out.fe3.length : Int)) rfl (fun hc45u1 => ?_) (fun hc45u1 => ?_)
    · replace hFL15u1 := it_t hc45u1 hFL15u1
      replace hFL15u1 := ck_s hFL15u1; obtain ⟨q3k, hFL15u1⟩ := hFL15u1
      replace hFL15u1 := lv_s hFL15u1; obtain ⟨x47u1, hx47u1, hFL15u1⟩ := hFL15u1
      replace hFL15u1 := lv_s hFL15u1; obtain ⟨x50u1, hx50u1, hFL15u1⟩ := hFL15u1
      replace hFL15u1 := bd_s hFL15u1; obtain ⟨q37, q4l, hFL15u1⟩ := hFL15u1
      refine x_skip <| x_seq <| x_block <| x_seq <|
        x_region <| p (yix_f sl_22 q31 q2c q3f q3k) <| pa (at_load one_3 rfl (RdS.getW q3f (hS.pull 2) q3k hx47u1)) <| p (yl_assign rfl) <|
        x_done <| x_region <| p (yl_move q2l) <| p (yl_move rfl) <|
        p (yconvu wm_u64 uk_3 ik_44 rfl hx50u1) <|
        ?_
      have hcall := c_stream_writer_bits_2 q4l q1d (((hS.pull 2).pull 2).pull 2)
      refine o_cc call_88 (args3 rfl rfl rfl) hcall ?_
      rintro e w' ⟨q2d, q3u, c_b_w_0_0_ret_17_3u1, q24, rfl, q1h, hS⟩
      refine ⟨_, rfl, ?_⟩
      have e_ := St.vec_n (hS.pull 1) q1h; subst e_
      replace hFL15u1 := ar_s hFL15u1; obtain ⟨x52u1, hx52u1, hFL15u1⟩ := hFL15u1
      refine x_done <| x_blk <| x_region <| p (yadd q2c rfl hx52u1) <|
        p (yl_move rfl) <| x_done <|
        ?_
      have e_ := Option.some.inj (show some _ = some _ from hFL15u1); subst e_
      exact x_inv ⟨kL15u1, Nat.lt_succ_self _, q2d, q37.1.length, c_b_w_0_0_ret_17_3u1, q24, x52u1, q37.1, q37.2, hLL15u1, q2l, q2z, q30, q31, q32, rfl, q1h, (((hS.pull 2).pull 2).pull 2)⟩
    · replace hFL15u1 := it_f hc45u1 hFL15u1
      refine x_exitTo _ rfl <|
        ?_
      have e_ := Option.some.inj (show some _ = some _ from hFL15u1); subst e_
      exact x_inv ⟨q0p, q0e.length, c_b_w_0_0_L15u1h, q0a, q0e, q15, hLL15u1, q2l, q2z, q30, q1d, (((hS.pull 2).pull 2).pull 2)⟩
  rintro E w ⟨q10, q11, c_b_w_0_0_L15u1, q0o, q19, q1n, rfl, q4y, q4x, q4b, q1y, hS⟩
  have e_ := St.vec_n (hS.pull 1) q1y; subst e_
  refine x_blk <| x_region <| p (yadd (c := 4) q4b rfl ⟨rfl, by decide⟩) <| p (yl_move rfl) <|
    x_done <| x_un 0 <| x_seq <| x_region <|
    p (ylss_l (t := false) rfl rfl (by decide)) <| x_done <| x_seq <| x_cond_f (show ev _ _ = .bool false from rfl) <|
    x_exitTo _ rfl <|
    ?_
  have e_ := Option.some.inj (show some _ = some _ from hF); subst e_
  exact x_fin ⟨_, rfl, q10, q19.length, c_b_w_0_0_L15u1, q0o, rfl, q1y, (((hS.pull 2).pull 2).pull 2)⟩
attribute [irreducible] P_stream_writer_tile_2

def P_stream_writer_pads_2_L2 (l_1 : List T_array_Pad) : (Int × List Int × Int) → Option ((Int × List Int × Int) ⊕ (List Int × Int)) := fun (q2, q3, q4) =>
  if q2 < (l_1.length : Int) then
    ck (inb q2 l_1.length) <|
    lv (gt l_1 q2) fun q5 =>
    lv (q5.Row % 18446744073709551616) fun x20 =>
    bd (P_stream_writer_bits_2 (T_stream_writer.mk q3 q4) x20 4) fun q6 =>
    lv (q5.Col % 18446744073709551616) fun x25 =>
    bd (P_stream_writer_bits_2 (T_stream_writer.mk q6.1 q6.2) x25 4) fun q7 =>
    lv (q5.Side % 18446744073709551616) fun x30 =>
    bd (P_stream_writer_bits_2 (T_stream_writer.mk q7.1 q7.2) x30 2) fun q8 =>
    lv (q5.Track % 18446744073709551616) fun x35 =>
    bd (P_stream_writer_bits_2 (T_stream_writer.mk q8.1 q8.2) x35 3) fun q9 =>
    ar (q2 + 1) fun x37 =>
    some (Sum.inl (x37, q9.1, q9.2))
  else
    some (Sum.inr (q3, q4))
def P_stream_writer_pads_2 (w_0 : T_stream_writer) (l_1 : List T_array_Pad) : Option (List Int × Int) :=
  lv ((l_1.length : Int) % 18446744073709551616) fun x9 =>
  bd (P_stream_writer_bits_2 w_0 x9 8) fun q4 =>
  bd (
    lp (P_stream_writer_pads_2_L2 l_1) fuel (0, q4.1, q4.2)) fun (q2, q3) =>
  some (q2, q3)
set_option maxHeartbeats 4000000 in
set_option maxRecDepth 100000 in
theorem c_stream_writer_pads_2 {w0 w : World} {l : List Assn} {ρ : Heap} {q0q : Nat} {q0x : Option Addr} {q0u : Nat} {c_w_0_0 : Nat} {q0w : List Value} {q11 : Option Addr} {q1g : Nat} {c_l_1 : Nat} {w_0 : T_stream_writer} {l_1 : List T_array_Pad} {r : (List Int × Int)} (hF : P_stream_writer_pads_2 w_0 l_1 = some r) (q0y : RepL (RpI .u8) ρ w_0.fb q0w) (q12 : RdS R_array_Pad ρ q11 q1g c_l_1 l_1) (hS : St w0 w (cells q0q 175 [.slice q0x q0u c_w_0_0, .int .i64 w_0.fleft] :: vec 5 (RpI .u8).sz (.slice q0x q0u c_w_0_0) q0u q0w :: ro ρ :: l)) :
    Calls Try.prog 91 #[.pointer (some ⟨q0q, 0, none⟩), .slice q11 q1g c_l_1] w fun e w' => ∃ (q0k : Option Addr) (q0a : Nat) (c_b_w_0_0_ret : Nat) (q0i : List Value), e = .returned (.tuple #[]) ∧ RepL (RpI .u8) ρ r.1 q0i ∧ St w0 w' (cells q0q 175 [.slice q0k q0a c_b_w_0_0_ret, .int .i64 r.2] :: vec 5 (RpI .u8).sz (.slice q0k q0a c_b_w_0_0_ret) q0a q0i :: ro ρ :: l) := by
  have e_ := St.vec_n (hS.pull 1) q0y; subst e_
  have e_ := q12.n; subst e_
  refine enterC Try.func91 rfl 38 rfl (by simp) ?_
  replace hF := lv_s hF; obtain ⟨x9, hx9, hF⟩ := hF
  replace hF := bd_s hF; obtain ⟨q1e, q1j, hF⟩ := hF
  refine x_seq <| x_region <| p (yl_move rfl) <| p (yl_move rfl) <|
    p (yl_len_slice usl_79 rfl) <| p (yconvu wm_u64 uk_3 ik_44 rfl hx9) <|
    ?_
  have hcall := c_stream_writer_bits_2 q1j q0y (((hS.pull 2).pull 2).pull 2)
  refine o_cc call_88 (args3 rfl rfl rfl) hcall ?_
  rintro e w' ⟨q0s, q16, c_b_w_0_0_ret_0_4, q0l, rfl, q0c, hS⟩
  refine ⟨_, rfl, ?_⟩
  have e_ := St.vec_n (hS.pull 1) q0c; subst e_
  refine x_done <| x_seq <| x_region <| p (yl_move rfl) <|
    p (yl_len_slice usl_79 rfl) <| p (yl_move rfl) <| x_done <|
    ?_
  replace hF := bd_s hF; obtain ⟨oL2, hLL2, hF⟩ := hF
  refine x_join (fun E w => ∃ (q7 : Option Addr) (q8 : Nat) (c_b_w_0_0_L2 : Nat) (q4 : List Value) (q0h : List Int) (q0j : Int), (q0h, q0j) = oL2 ∧ RepL (RpI .u8) ρ q0h q4 ∧ St w0 w (cells q0q 175 [.slice q7 q8 c_b_w_0_0_L2, .int .i64 q0j] :: vec 5 (RpI .u8).sz (.slice q7 q8 c_b_w_0_0_L2) q8 q4 :: ro ρ :: l)) ?_ ?_
  · skip -- L2
    refine x_block ?_
    refine x_loop (fun k_ E w => ∃ (q5 : Option Addr) (q6 : Nat) (c_b_w_0_0_L2h : Nat) (q2 : List Value) (q0r : Int) (q3 : List Int) (q9 : Int), lp (P_stream_writer_pads_2_L2 l_1) k_ (q0r, q3, q9) = some oL2 ∧ E 0 = .pointer (some ⟨q0q, 0, none⟩) ∧ E 11 = .slice q11 l_1.length c_l_1 ∧ E 12 = .int .i64 (l_1.length : Int) ∧ E 13 = .int .i64 q0r ∧ RepL (RpI .u8) ρ q3 q2 ∧ St w0 w (cells q0q 175 [.slice q5 q6 c_b_w_0_0_L2h, .int .i64 q9] :: vec 5 (RpI .u8).sz (.slice q5 q6 c_b_w_0_0_L2h) q6 q2 :: ro ρ :: l)) fuel ⟨q0s, q1e.1.length, c_b_w_0_0_ret_0_4, q0l, 0, q1e.1, q1e.2, hLL2, rfl, rfl, rfl, rfl, q0c, (((hS.pull 2).pull 2).pull 2)⟩ ?_
    rintro kL2 E w ⟨q5, q6, c_b_w_0_0_L2h, q2, q0r, q3, q9, hLL2, q0m, q0z, q10, q0v, q0b, hS⟩
    have e_ := St.vec_n (hS.pull 1) q0b; subst e_
    replace hLL2 := lp_s hLL2; obtain ⟨kL2, obL2, rfl, hFL2, hLL2⟩ := hLL2
    refine x_seq <| x_region <| p (yl_lss q0v q10) <| x_done <|
      x_seq <|
      x_cond_p (q0r < (l_1.length : Int)) rfl (fun hc14 => ?_) (fun hc14 => ?_)
    · replace hFL2 := it_t hc14 hFL2
      replace hFL2 := ck_s hFL2; obtain ⟨q1h, hFL2⟩ := hFL2
      replace hFL2 := lv_s hFL2; obtain ⟨q0n, q1k, hFL2⟩ := hFL2
      have q_ := q12.get q1h; obtain ⟨q1q, q1i, q1l⟩ := q_
      rw [← q1k] at q1i
      have e_ := q1i; subst e_
      refine x_skip <| x_seq <| x_block <| x_seq <|
        x_region <| p (yix_f sl_79 q0z q0v q12 q1h) <| pa (v := .agg #[.int .i64 q0n.Row, .int .i64 q0n.Col, .int .i64 q0n.Side, .int .i64 q0n.Track]) (at_loadAgg agg_187 rfl rfl (Elt.every q1l (hS.pull 2))) <|
        ?_
      refine o_alloc zero_187 hS (fun b5 w' hS => ?_)
      refine o_storeAgg (news := [.int .i64 q0n.Row, .int .i64 q0n.Col, .int .i64 q0n.Side, .int .i64 q0n.Track]) agg_187 rfl rfl rfl (by simp [over_length]) hS (fun w' hS => ?_)
      replace hFL2 := lv_s hFL2; obtain ⟨x20, hx20, hFL2⟩ := hFL2
      replace hFL2 := bd_s hFL2; obtain ⟨q1r, q1m, hFL2⟩ := hFL2
      refine x_done <| x_seq <| x_region <| p (yl_move q0m) <|
        p (yl_field0 fld_187_0 rfl) <| pa (at_load one_3 rfl (hS.cell rfl)) <| p (yconvu wm_u64 uk_3 ik_44 rfl hx20) <|
        ?_
      have hcall := c_stream_writer_bits_2 q1m q0b (((hS.pull 3).pull 3).pull 3)
      refine o_cc call_88 (args3 rfl rfl rfl) hcall ?_
      rintro e w' ⟨q17, q18, c_b_w_0_0_ret_4_4, q13, rfl, q0d, hS⟩
      refine ⟨_, rfl, ?_⟩
      have e_ := St.vec_n (hS.pull 1) q0d; subst e_
      replace hFL2 := lv_s hFL2; obtain ⟨x25, hx25, hFL2⟩ := hFL2
      replace hFL2 := bd_s hFL2; obtain ⟨q1s, q1n, hFL2⟩ := hFL2
      refine x_done <| x_seq <| x_region <| p (yl_move q0m) <|
        p (yl_field0 fld_187_1 rfl) <| pa (at_load one_3 rfl ((hS.pull 3).cell rfl)) <| p (yconvu wm_u64 uk_3 ik_44 rfl hx25) <|
        ?_
      have hcall := c_stream_writer_bits_2 q1n q0d (((hS.pull 2).pull 2).pull 2)
      refine o_cc call_88 (args3 rfl rfl rfl) hcall ?_
      rintro e w' ⟨q19, q1a, c_b_w_0_0_ret_5_4, q14, rfl, q0e, hS⟩
      refine ⟨_, rfl, ?_⟩
      have e_ := St.vec_n (hS.pull 1) q0e; subst e_
      replace hFL2 := lv_s hFL2; obtain ⟨x30, hx30, hFL2⟩ := hFL2
      replace hFL2 := bd_s hFL2; obtain ⟨q1t, q1o, hFL2⟩ := hFL2
      refine x_done <| x_seq <| x_region <| p (yl_move q0m) <|
        p (yl_field0 fld_187_2 rfl) <| pa (at_load one_3 rfl ((hS.pull 3).cell rfl)) <| p (yconvu wm_u64 uk_3 ik_44 rfl hx30) <|
        ?_
      have hcall := c_stream_writer_bits_2 q1o q0e (((hS.pull 2).pull 2).pull 2)
      refine o_cc call_88 (args3 rfl rfl rfl) hcall ?_
      rintro e w' ⟨q1b, q1c, c_b_w_0_0_ret_6_4, q15, rfl, q0f, hS⟩
      refine ⟨_, rfl, ?_⟩
      have e_ := St.vec_n (hS.pull 1) q0f; subst e_
      replace hFL2 := lv_s hFL2; obtain ⟨x35, hx35, hFL2⟩ := hFL2
      replace hFL2 := bd_s hFL2; obtain ⟨q1f, q1p, hFL2⟩ := hFL2
      refine x_done <| x_region <| p (yl_move q0m) <| p (yl_field0 fld_187_3 rfl) <|
        pa (at_load one_3 rfl ((hS.pull 3).cell rfl)) <| p (yconvu wm_u64 uk_3 ik_44 rfl hx35) <|
        ?_
      have hcall := c_stream_writer_bits_2 q1p q0f (((hS.pull 2).pull 2).pull 2)
      refine o_cc call_88 (args3 rfl rfl rfl) hcall ?_
      rintro e w' ⟨q0t, q1d, c_b_w_0_0_ret_7_4, q0o, rfl, q0g, hS⟩
      refine ⟨_, rfl, ?_⟩
      have e_ := St.vec_n (hS.pull 1) q0g; subst e_
      replace hFL2 := ar_s hFL2; obtain ⟨x37, hx37, hFL2⟩ := hFL2
      refine x_done <| x_blk <| x_region <| p (yadd q0v rfl hx37) <|
        p (yl_move rfl) <| x_done <|
        ?_
      have e_ := Option.some.inj (show some _ = some _ from hFL2); subst e_
      exact x_inv ⟨kL2, Nat.lt_succ_self _, q0t, q1f.1.length, c_b_w_0_0_ret_7_4, q0o, x37, q1f.1, q1f.2, hLL2, q0m, q0z, q10, rfl, q0g, ((((hS.pull 3).drop.pull 2).pull 2).pull 2)⟩
    · replace hFL2 := it_f hc14 hFL2
      refine x_exitTo _ rfl <|
        ?_
      have e_ := Option.some.inj (show some _ = some _ from hFL2); subst e_
      exact x_inv ⟨q5, q3.length, c_b_w_0_0_L2h, q2, q3, q9, hLL2, q0b, (((hS.pull 2).pull 2).pull 2)⟩
  rintro E w ⟨q7, q8, c_b_w_0_0_L2, q4, q0h, q0j, rfl, q0p, hS⟩
  have e_ := St.vec_n (hS.pull 1) q0p; subst e_
  have e_ := Option.some.inj (show some _ = some _ from hF); subst e_
  exact x_fin ⟨_, rfl, q7, q0h.length, c_b_w_0_0_L2, q4, rfl, q0p, (((hS.pull 2).pull 2).pull 2)⟩
attribute [irreducible] P_stream_writer_pads_2

def P_stream_Encode_L16 (c0 : T_array_Config) (q6 : Int) : (Int × List Int × Int) → Option ((Int × List Int × Int) ⊕ (List Int × Int)) := fun (q2, q3, q4) =>
  if q2 < c0.Rows then
    ar (q2 * c0.Cols) fun x57 =>
    ar (x57 + q6) fun x59 =>
    ck (inb x59 c0.Tiles.length) <|
    lv (gt c0.Tiles x59) fun q7 =>
    bd (P_stream_writer_tile_2 (T_stream_writer.mk q3 q4) q7 c0.Tracks) fun q5 =>
    ar (q2 + 1) fun x65 =>
    some (Sum.inl (x65, q5.1, q5.2))
  else
    some (Sum.inr (q3, q4))
def P_stream_Encode_L12 (c0 : T_array_Config) : (List Int × Int) → Option ((List Int × Int) ⊕ List Int) := fun (q3, q2) =>
  if q2 < c0.Cols then
    bd (
      lp (P_stream_Encode_L16 c0 q2) fuel (0, [], 0)) fun (q4, q5) =>
    ar ((1 : Int) + q2) fun x68 =>
    bd (P_stream_closed x68 (T_stream_writer.mk q4 q5)) fun q7 =>
    lv (q3 ++ q7) fun q6 =>
    ck (apOk 1 q6.length) <|
    ar (q2 + 1) fun x72 =>
    some (Sum.inl (q6, x72))
  else
    some (Sum.inr q3)
def P_stream_Encode (c0 : T_array_Config) : Option (List Int × Int) :=
  bd (P_array_Check c0) fun q6 =>
  if q6 ≠ 0 then
    some ([], q6)
  else
    bd (P_stream_writer_bits_2 (T_stream_writer.mk [] 0) 19799 16) fun q7 =>
    bd (P_stream_writer_bits_2 (T_stream_writer.mk q7.1 q7.2) 1 8) fun q8 =>
    lv (c0.Rows % 18446744073709551616) fun x25 =>
    bd (P_stream_writer_bits_2 (T_stream_writer.mk q8.1 q8.2) x25 8) fun q9 =>
    lv (c0.Cols % 18446744073709551616) fun x30 =>
    bd (P_stream_writer_bits_2 (T_stream_writer.mk q9.1 q9.2) x30 8) fun q0a =>
    lv (c0.Tracks % 18446744073709551616) fun x35 =>
    bd (P_stream_writer_bits_2 (T_stream_writer.mk q0a.1 q0a.2) x35 8) fun q0b =>
    bd (P_stream_closed 0 (T_stream_writer.mk q0b.1 q0b.2)) fun q0c =>
    bd (
      lp (P_stream_Encode_L12 c0) fuel (q0c, 0)) fun q2 =>
    bd (P_stream_writer_pads_2 (T_stream_writer.mk [] 0) c0.In) fun q3 =>
    bd (P_stream_writer_pads_2 (T_stream_writer.mk q3.1 q3.2) c0.Out) fun q4 =>
    ar ((1 : Int) + c0.Cols) fun x86 =>
    bd (P_stream_closed x86 (T_stream_writer.mk q4.1 q4.2)) fun q0d =>
    lv (q2 ++ q0d) fun q5 =>
    ck (apOk 1 q5.length) <|
    some (q5, (0 : Int))
set_option maxHeartbeats 4000000 in
set_option maxRecDepth 100000 in
theorem c_stream_Encode {w0 w : World} {l : List Assn} {ρ : Heap} {q0e : Option Addr} {q24 : Nat} {c_c0_3 : Nat} {q0f : Option Addr} {q25 : Nat} {c_c0_4 : Nat} {q0g : Option Addr} {q26 : Nat} {c_c0_5 : Nat} {c0 : T_array_Config} {r : (List Int × Int)} (hF : P_stream_Encode c0 = some r) (q1b : RdS R_array_Tile ρ q0e q24 c_c0_3 c0.Tiles) (q1k : RdS R_array_Pad ρ q0f q25 c_c0_4 c0.In) (q1l : RdS R_array_Pad ρ q0g q26 c_c0_5 c0.Out) (hS : St w0 w (ro ρ :: l)) :
    Calls Try.prog 35 #[.agg #[.int .i64 c0.Rows, .int .i64 c0.Cols, .int .i64 c0.Tracks, .slice q0e q24 c_c0_3, .slice q0f q25 c_c0_4, .slice q0g q26 c_c0_5]] w fun e w' => ∃ (q1m : Option Addr) (q17 : Nat) (c_y0_ret : Nat) (q1h : List Value), e = .returned (.tuple #[.slice q1m q17 c_y0_ret, .int .i64 r.2]) ∧ RepL (RpI .u8) ρ r.1 q1h ∧ St w0 w' (vec 5 (RpI .u8).sz (.slice q1m q17 c_y0_ret) q17 q1h :: ro ρ :: l) := by
  have e_ := q1b.n; subst e_
  have e_ := q1k.n; subst e_
  have e_ := q1l.n; subst e_
  refine enterC Try.func35 rfl 90 rfl (by simp) ?_
  refine x_seq <| x_region <|
    ?_
  refine o_box (cs := [.int .i64 c0.Rows, .int .i64 c0.Cols, .int .i64 c0.Tracks, .slice q0e c0.Tiles.length c_c0_3, .slice q0f c0.In.length c_c0_4, .slice q0g c0.Out.length c_c0_5]) rfl rfl hS (fun b1 w' hS => ?_)
  replace hF := bd_s hF; obtain ⟨q1n, q3w, hF⟩ := hF
  refine p (yl_assign rfl) <| p (yl_assign rfl) <| x_done <| x_seq <|
    x_seq <| x_region <| pa (v := .agg #[.int .i64 c0.Rows, .int .i64 c0.Cols, .int .i64 c0.Tracks, .slice q0e c0.Tiles.length c_c0_3, .slice q0f c0.In.length c_c0_4, .slice q0g c0.Out.length c_c0_5]) (ld_sub agg_81 rfl rfl rfl hS) <|
    ?_
  have hcall := c_array_Check q3w q1b q1k q1l (hS.pull 1)
  refine o_cc call_87 (args1 rfl) ((Calls.mono hcall (fun e w'' h => And.intro h.1 (h.2.pull 1)))) ?_
  rintro e w' ⟨rfl, hS⟩
  refine ⟨_, rfl, ?_⟩
  refine p (v := .int .i64 q1n) (yl_assign rfl) <| x_done <| x_seq <| x_region <|
    p (v := .int .i64 q1n) (yl_move rfl) <| p (yl_neq rfl rfl) <| x_done <|
    x_cond_p (q1n ≠ 0) rfl (fun hc14 => ?_) (fun hc14 => ?_)
  · replace hF := it_t hc14 hF
    refine x_seq <| x_region <| p (v := .int .i64 q1n) (yl_move rfl) <| p (yl_assign rfl) <|
      p (v := .int .i64 q1n) (yl_assign rfl) <| x_done <|
      ?_
    replace hS := St.vec_nil hS 5 (RpI .u8).sz
    have q1i : RepL (RpI .u8) ρ [] [] := rfl
    have e_ := Option.some.inj (show some _ = some _ from hF); subst e_
    exact x_return ⟨_, ⟨_, _, rfl, rfl, _, _, rfl, rfl, rfl⟩, none, 0, 0, [], rfl, q1i, (((hS.pull 1).drop.pull 1).pull 1)⟩
  · replace hF := it_f hc14 hF
    refine x_skip <| x_seq <| x_region <| p (v := .agg #[.slice none 0 0, .int .i64 0]) (yl_build bld_175 bldf_175 (parts_eq pt0) (by kernel_rfl)) <|
      ?_
    refine o_box (cs := [.slice none 0 0, .int .i64 0]) rfl rfl hS (fun b17 w' hS => ?_)
    replace hF := bd_s hF; obtain ⟨q4c, q3x, hF⟩ := hF
    refine p (yl_assign rfl) <| x_done <| x_seq <| x_region <|
      p (yl_move rfl) <|
      ?_
    replace hS := St.vec_nil hS 5 (RpI .u8).sz
    have q3h : RepL (RpI .u8) ρ [] [] := rfl
    have hcall := c_stream_writer_bits_2 q3x q3h (((hS.pull 3).pull 1).pull 2)
    refine o_cc call_88 (args3 rfl rfl rfl) hcall ?_
    rintro e w' ⟨q2k, q2l, c_b_w_0_0_ret_5_1, q27, rfl, q0l, hS⟩
    refine ⟨_, rfl, ?_⟩
    have e_ := St.vec_n (hS.pull 1) q0l; subst e_
    replace hF := bd_s hF; obtain ⟨q4d, q3y, hF⟩ := hF
    refine x_done <| x_seq <| x_region <| p (yl_move rfl) <|
      ?_
    have hcall := c_stream_writer_bits_2 q3y q0l (((hS.pull 2).pull 2).pull 2)
    refine o_cc call_88 (args3 rfl rfl rfl) hcall ?_
    rintro e w' ⟨q2m, q2n, c_b_w_0_0_ret_6_1, q28, rfl, q0m, hS⟩
    refine ⟨_, rfl, ?_⟩
    have e_ := St.vec_n (hS.pull 1) q0m; subst e_
    replace hF := lv_s hF; obtain ⟨x25, hx25, hF⟩ := hF
    replace hF := bd_s hF; obtain ⟨q4e, q3z, hF⟩ := hF
    refine x_done <| x_seq <| x_region <| p (yl_move rfl) <|
      p (yl_field0 fld_81_0 rfl) <| pa (at_load one_3 rfl ((hS.pull 3).cell rfl)) <| p (yconvu wm_u64 uk_3 ik_44 rfl hx25) <|
      ?_
    have hcall := c_stream_writer_bits_2 q3z q0m (((hS.pull 2).pull 2).pull 2)
    refine o_cc call_88 (args3 rfl rfl rfl) hcall ?_
    rintro e w' ⟨q2o, q2p, c_b_w_0_0_ret_7_4, q29, rfl, q0n, hS⟩
    refine ⟨_, rfl, ?_⟩
    have e_ := St.vec_n (hS.pull 1) q0n; subst e_
    replace hF := lv_s hF; obtain ⟨x30, hx30, hF⟩ := hF
    replace hF := bd_s hF; obtain ⟨q4f, q40, hF⟩ := hF
    refine x_done <| x_seq <| x_region <| p (yl_move rfl) <|
      p (yl_field0 fld_81_1 rfl) <| pa (at_load one_3 rfl ((hS.pull 3).cell rfl)) <| p (yconvu wm_u64 uk_3 ik_44 rfl hx30) <|
      ?_
    have hcall := c_stream_writer_bits_2 q40 q0n (((hS.pull 2).pull 2).pull 2)
    refine o_cc call_88 (args3 rfl rfl rfl) hcall ?_
    rintro e w' ⟨q2q, q2r, c_b_w_0_0_ret_8_4, q2a, rfl, q0o, hS⟩
    refine ⟨_, rfl, ?_⟩
    have e_ := St.vec_n (hS.pull 1) q0o; subst e_
    replace hF := lv_s hF; obtain ⟨x35, hx35, hF⟩ := hF
    replace hF := bd_s hF; obtain ⟨q4g, q41, hF⟩ := hF
    refine x_done <| x_seq <| x_region <| p (yl_move rfl) <|
      p (yl_field0 fld_81_2 rfl) <| pa (at_load one_3 rfl ((hS.pull 3).cell rfl)) <| p (yconvu wm_u64 uk_3 ik_44 rfl hx35) <|
      ?_
    have hcall := c_stream_writer_bits_2 q41 q0o (((hS.pull 2).pull 2).pull 2)
    refine o_cc call_88 (args3 rfl rfl rfl) hcall ?_
    rintro e w' ⟨q2s, q2t, c_b_w_0_0_ret_9_4, q2b, rfl, q0p, hS⟩
    refine ⟨_, rfl, ?_⟩
    have e_ := St.vec_n (hS.pull 1) q0p; subst e_
    replace hF := bd_s hF; obtain ⟨q32, q3i, hF⟩ := hF
    refine x_done <| x_seq <| x_region <| p (yl_move rfl) <|
      ?_
    have hcall := c_stream_closed q3i q0p (((hS.pull 2).pull 2).pull 2)
    refine o_cc call_89 (args2 rfl rfl) hcall ?_
    rintro e w' ⟨q1j, q3c, c_y0_ret_10_1, q1d, q2c, rfl, q11, hS⟩
    refine ⟨_, rfl, ?_⟩
    have e_ := St.vec_n hS q11; subst e_
    refine p (yl_assign rfl) <| x_done <| x_seq <| x_seq <|
      x_region <| p (yl_field0 fld_81_1 rfl) <| pa (at_load one_3 rfl ((hS.pull 3).cell rfl)) <| p (yl_move rfl) <|
      x_done <|
      ?_
    replace hF := bd_s hF; obtain ⟨oL12, hLL12, hF⟩ := hF
    refine x_join (fun E w => ∃ (q0y : Option Addr) (q0q : Nat) (c_out6_L12 : Nat) (q0u : List Value) (q18 : List Int), q18 = oL12 ∧ E 1 = .pointer (some ⟨b1, 0, none⟩) ∧ E 6 = .slice q0y q0q c_out6_L12 ∧ RepL (RpI .u8) ρ q18 q0u ∧ St w0 w (cells b1 81 [.int .i64 c0.Rows, .int .i64 c0.Cols, .int .i64 c0.Tracks, .slice q0e c0.Tiles.length c_c0_3, .slice q0f c0.In.length c_c0_4, .slice q0g c0.Out.length c_c0_5] :: vec 5 (RpI .u8).sz (.slice q0y q0q c_out6_L12) q0q q0u :: ro ρ :: l)) ?_ ?_
    · skip -- L12
      refine x_block ?_
      refine x_loop (fun k_ E w => ∃ (q3 : Option Addr) (q0c : Nat) (c_out6_L12h : Nat) (q4 : List Value) (q2 : List Int) (q5 : Int), lp (P_stream_Encode_L12 c0) k_ (q2, q5) = some oL12 ∧ E 1 = .pointer (some ⟨b1, 0, none⟩) ∧ E 6 = .slice q3 q0c c_out6_L12h ∧ E 40 = .int .i64 c0.Cols ∧ E 41 = .int .i64 q5 ∧ RepL (RpI .u8) ρ q2 q4 ∧ St w0 w (cells b1 81 [.int .i64 c0.Rows, .int .i64 c0.Cols, .int .i64 c0.Tracks, .slice q0e c0.Tiles.length c_c0_3, .slice q0f c0.In.length c_c0_4, .slice q0g c0.Out.length c_c0_5] :: vec 5 (RpI .u8).sz (.slice q3 q0c c_out6_L12h) q0c q4 :: ro ρ :: l)) fuel ⟨q1j, q32.length, c_y0_ret_10_1, q1d, q32, 0, hLL12, rfl, rfl, rfl, rfl, q11, ((((hS.pull 1).drop.pull 1).pull 1).pull 2)⟩ ?_
      rintro kL12 E w ⟨q3, q0c, c_out6_L12h, q4, q2, q5, hLL12, q1e, q1y, q1o, q19, q0v, hS⟩
      have e_ := St.vec_n (hS.pull 1) q0v; subst e_
      replace hLL12 := lp_s hLL12; obtain ⟨kL12, obL12, rfl, hFL12, hLL12⟩ := hLL12
      refine x_seq <| x_region <| p (yl_lss q19 q1o) <| x_done <|
        x_seq <|
        x_cond_p (q5 < c0.Cols) rfl (fun hc42 => ?_) (fun hc42 => ?_)
      · replace hFL12 := it_t hc42 hFL12
        refine x_skip <| x_seq <| x_block <| x_seq <|
          x_region <| p (yl_move q19) <| p (yl_assign rfl) <| x_done <|
          x_seq <| x_region <| p (v := .agg #[.slice none 0 0, .int .i64 0]) (yl_build bld_175 bldf_175 (parts_eq pt0) (by kernel_rfl)) <|
          ?_
        refine o_box (cs := [.slice none 0 0, .int .i64 0]) rfl rfl hS (fun b45 w' hS => ?_)
        refine p (yl_assign rfl) <| x_done <| x_seq <| x_seq <|
          x_region <| p (yl_field0 fld_81_0 q1e) <| pa (at_load one_3 rfl ((hS.pull 1).cell rfl)) <| p (yl_move rfl) <|
          x_done <|
          ?_
        replace hFL12 := bd_s hFL12; obtain ⟨oL16, hLL16, hFL12⟩ := hFL12
        refine x_join (fun E w => ∃ (q0w : Option Addr) (q0d : Nat) (c_b45_0_L16 : Nat) (q0s : List Value) (q13 : List Int) (q14 : Int), (q13, q14) = oL16 ∧ E 1 = .pointer (some ⟨b1, 0, none⟩) ∧ E 6 = .slice q3 q2.length c_out6_L12h ∧ E 7 = .int .i64 q5 ∧ E 8 = .pointer (some ⟨b45, 0, none⟩) ∧ E 40 = .int .i64 c0.Cols ∧ E 41 = .int .i64 q5 ∧ RepL (RpI .u8) ρ q13 q0s ∧ St w0 w (cells b1 81 [.int .i64 c0.Rows, .int .i64 c0.Cols, .int .i64 c0.Tracks, .slice q0e c0.Tiles.length c_c0_3, .slice q0f c0.In.length c_c0_4, .slice q0g c0.Out.length c_c0_5] :: vec 5 (RpI .u8).sz (.slice q3 q2.length c_out6_L12h) q2.length q4 :: cells b45 175 [.slice q0w q0d c_b45_0_L16, .int .i64 q14] :: vec 5 (RpI .u8).sz (.slice q0w q0d c_b45_0_L16) q0d q0s :: ro ρ :: l)) ?_ ?_
        · skip -- L16
          refine x_block ?_
          replace hS := St.vec_nil hS 5 (RpI .u8).sz
          have q15 : RepL (RpI .u8) ρ [] [] := rfl
          refine x_loop (fun k_ E w => ∃ (q8 : Option Addr) (q9 : Nat) (c_b45_0_L16h : Nat) (q7 : List Value) (q0z : Int) (q0a : List Int) (q0r : Int), lp (P_stream_Encode_L16 c0 q5) k_ (q0z, q0a, q0r) = some oL16 ∧ E 1 = .pointer (some ⟨b1, 0, none⟩) ∧ E 6 = .slice q3 q2.length c_out6_L12h ∧ E 7 = .int .i64 q5 ∧ E 8 = .pointer (some ⟨b45, 0, none⟩) ∧ E 40 = .int .i64 c0.Cols ∧ E 41 = .int .i64 q5 ∧ E 47 = .int .i64 c0.Rows ∧ E 48 = .int .i64 q0z ∧ RepL (RpI .u8) ρ q0a q7 ∧ St w0 w (cells b1 81 [.int .i64 c0.Rows, .int .i64 c0.Cols, .int .i64 c0.Tracks, .slice q0e c0.Tiles.length c_c0_3, .slice q0f c0.In.length c_c0_4, .slice q0g c0.Out.length c_c0_5] :: vec 5 (RpI .u8).sz (.slice q3 q2.length c_out6_L12h) q2.length q4 :: cells b45 175 [.slice q8 q9 c_b45_0_L16h, .int .i64 q0r] :: vec 5 (RpI .u8).sz (.slice q8 q9 c_b45_0_L16h) q9 q7 :: ro ρ :: l)) fuel ⟨none, 0, 0, [], 0, [], 0, hLL16, q1e, q1y, rfl, rfl, q1o, q19, rfl, rfl, q15, (((((hS.pull 4).pull 1).pull 2).pull 4).pull 4)⟩ ?_
          rintro kL16 E w ⟨q8, q9, c_b45_0_L16h, q7, q0z, q0a, q0r, hLL16, q0x, q1z, q1f, q1g, q1p, q1q, q1r, q1a, q0t, hS⟩
          have e_ := St.vec_n (hS.pull 3) q0t; subst e_
          replace hLL16 := lp_s hLL16; obtain ⟨kL16, obL16, rfl, hFL16, hLL16⟩ := hLL16
          refine x_seq <| x_region <| p (yl_lss q1a q1r) <| x_done <|
            x_seq <|
            x_cond_p (q0z < c0.Rows) rfl (fun hc49 => ?_) (fun hc49 => ?_)
          · replace hFL16 := it_t hc49 hFL16
            replace hFL16 := ar_s hFL16; obtain ⟨x57, hx57, hFL16⟩ := hFL16
            replace hFL16 := ar_s hFL16; obtain ⟨x59, hx59, hFL16⟩ := hFL16
            replace hFL16 := ck_s hFL16; obtain ⟨q2d, hFL16⟩ := hFL16
            replace hFL16 := lv_s hFL16; obtain ⟨q6, q34, hFL16⟩ := hFL16
            have q_ := q1b.get q2d; obtain ⟨q47, q20, q35⟩ := q_
            rw [← q34] at q20
            obtain ⟨q2u, q43, q2v, q2w, q44, q2x, q2y, q45, q2z, q30, q46, q31, rfl, q1s, q1t, q1u, q1v⟩ := q20
            have e_ := q1s.n; subst e_
            have e_ := q1t.n; subst e_
            have e_ := q1u.n; subst e_
            have e_ := q1v.n; subst e_
            refine x_skip <| x_seq <| x_block <| x_seq <|
              x_region <| p (yl_move q1a) <| p (yl_assign rfl) <| x_done <|
              x_head 13 mixed (by kernel_rfl) hS _ _ rfl rfl <| q (yl_move q1g) <| q (yl_field0 fld_81_3 q0x) <| qa (fun w' hS => at_load one_78 rfl (hS.cell rfl)) <|
              q (yl_move rfl) <| q (yl_field0 fld_81_1 q0x) <| qa (fun w' hS => at_load one_3 rfl (hS.cell rfl)) <| q (ymul rfl rfl hx57) <|
              q (yl_move q1f) <| q (yadd rfl rfl hx59) <| q (yix_f sl_78 rfl rfl q1b q2d) <| qa (v := .agg #[.int .u16 q6.Table, .bool q6.Init, .int .i64 q6.In.fe0, .int .i64 q6.In.fe1, .int .i64 q6.In.fe2, .int .i64 q6.In.fe3, .slice q2u q6.Out.fe0.length q2v, .slice q2w q6.Out.fe1.length q2x, .slice q2y q6.Out.fe2.length q2z, .slice q30 q6.Out.fe3.length q31]) (fun w' hS => at_loadAgg agg_183 rfl rfl (Elt.every q35 (hS.pull 4))) <|
              q (yl_field0 fld_81_2 q0x) <| qa (fun w' hS => at_load one_3 rfl (hS.cell rfl)) <|
              q_done fun w' hS => ?_
            replace hFL16 := bd_s hFL16; obtain ⟨q1w, q36, hFL16⟩ := hFL16
            have hcall := c_stream_writer_tile_2 q36 q0t q1s q1t q1u q1v (((hS.pull 4).pull 4).pull 4)
            refine o_cc call_90 (args3 rfl rfl rfl) hcall ?_
            rintro e w' ⟨q12, q21, c_b_w_0_0_ret_18_13, q10, rfl, q0b, hS⟩
            refine ⟨_, rfl, ?_⟩
            have e_ := St.vec_n (hS.pull 1) q0b; subst e_
            replace hFL16 := ar_s hFL16; obtain ⟨x65, hx65, hFL16⟩ := hFL16
            refine x_done <| x_blk <| x_region <| p (yadd q1a rfl hx65) <|
              p (yl_move rfl) <| x_done <|
              ?_
            have e_ := Option.some.inj (show some _ = some _ from hFL16); subst e_
            exact x_inv ⟨kL16, Nat.lt_succ_self _, q12, q1w.1.length, c_b_w_0_0_ret_18_13, q10, x65, q1w.1, q1w.2, hLL16, q0x, q1z, q1f, q1g, q1p, q1q, q1r, rfl, q0b, (((((hS.pull 2).pull 2).pull 2).pull 4).pull 4)⟩
          · replace hFL16 := it_f hc49 hFL16
            refine x_exitTo _ rfl <|
              ?_
            have e_ := Option.some.inj (show some _ = some _ from hFL16); subst e_
            exact x_inv ⟨q8, q0a.length, c_b45_0_L16h, q7, q0a, q0r, hLL16, q0x, q1z, q1f, q1g, q1p, q1q, q0t, (((((hS.pull 4).pull 4).pull 4).pull 4).pull 4)⟩
        rintro E w ⟨q0w, q0d, c_b45_0_L16, q0s, q13, q14, rfl, q3j, q3k, q3l, q3m, q37, q38, q16, hS⟩
        have e_ := St.vec_n (hS.pull 3) q16; subst e_
        replace hFL12 := ar_s hFL12; obtain ⟨x68, hx68, hFL12⟩ := hFL12
        replace hFL12 := bd_s hFL12; obtain ⟨q48, q3n, hFL12⟩ := hFL12
        refine x_region <| p (yl_move q3k) <| p (yl_move q3l) <| p (yadd rfl rfl hx68) <|
          p (yl_move q3m) <|
          ?_
        have hcall := c_stream_closed q3n q16 (((hS.pull 4).pull 4).pull 4)
        refine o_cc call_89 (args2 rfl rfl) hcall ?_
        rintro e w' ⟨q3d, q3e, c_y0_ret_20_4, q39, q2e, rfl, q0j, hS⟩
        refine ⟨_, rfl, ?_⟩
        have e_ := St.vec_n hS q0j; subst e_
        replace hFL12 := lv_s hFL12; obtain ⟨q33, q3o, hFL12⟩ := hFL12
        replace hFL12 := ck_s hFL12; obtain ⟨q3p, hFL12⟩ := hFL12
        refine o_ap sl_75 zero_5 rfl (by decide) rfl rfl (hS.pull 4) q0v (src_o usl_75 hS q0j) q0j q3o q3p (fun A71 c71 cs71 w' hr71 hS => ?_)
        replace hFL12 := ar_s hFL12; obtain ⟨x72, hx72, hFL12⟩ := hFL12
        refine p (yl_assign rfl) <| x_done <| x_blk <| x_region <|
          p (yadd q38 rfl hx72) <| p (yl_move rfl) <| x_done <|
          ?_
        have e_ := Option.some.inj (show some _ = some _ from hFL12); subst e_
        exact x_inv ⟨kL12, Nat.lt_succ_self _, A71, q33.length, c71, cs71, q33, x72, hLL12, q3j, rfl, q37, rfl, hr71, (((((hS.pull 1).drop.pull 1).drop.pull 1).pull 1).pull 2)⟩
      · replace hFL12 := it_f hc42 hFL12
        refine x_exitTo _ rfl <|
          ?_
        have e_ := Option.some.inj (show some _ = some _ from hFL12); subst e_
        exact x_inv ⟨q3, q2.length, c_out6_L12h, q4, q2, hLL12, q1e, q1y, q0v, (((hS.pull 2).pull 2).pull 2)⟩
    rintro E w ⟨q0y, q0q, c_out6_L12, q0u, q18, rfl, q1x, q3q, q1c, hS⟩
    have e_ := St.vec_n (hS.pull 1) q1c; subst e_
    refine x_seq <| x_region <| p (v := .agg #[.slice none 0 0, .int .i64 0]) (yl_build bld_175 bldf_175 (parts_eq pt0) (by kernel_rfl)) <|
      ?_
    refine o_box (cs := [.slice none 0 0, .int .i64 0]) rfl rfl hS (fun b74 w' hS => ?_)
    replace hF := bd_s hF; obtain ⟨q49, q3r, hF⟩ := hF
    refine p (yl_assign rfl) <| x_done <| x_seq <| x_region <|
      p (yl_move rfl) <| p (yl_field0 fld_81_4 q1x) <| pa (at_load one_79 rfl ((hS.pull 1).cell rfl)) <|
      ?_
    replace hS := St.vec_nil hS 5 (RpI .u8).sz
    have q3a : RepL (RpI .u8) ρ [] [] := rfl
    have hcall := c_stream_writer_pads_2 q3r q3a q1k (((hS.pull 4).pull 1).pull 2)
    refine o_cc call_91 (args2 rfl rfl) hcall ?_
    rintro e w' ⟨q2f, q2g, c_b_w_0_0_ret_23_3, q22, rfl, q0h, hS⟩
    refine ⟨_, rfl, ?_⟩
    have e_ := St.vec_n (hS.pull 1) q0h; subst e_
    replace hF := bd_s hF; obtain ⟨q4a, q3s, hF⟩ := hF
    refine x_done <| x_seq <| x_region <| p (yl_move rfl) <|
      p (yl_field0 fld_81_5 q1x) <| pa (at_load one_79 rfl ((hS.pull 3).cell rfl)) <|
      ?_
    have hcall := c_stream_writer_pads_2 q3s q0h q1l (((hS.pull 2).pull 2).pull 2)
    refine o_cc call_91 (args2 rfl rfl) hcall ?_
    rintro e w' ⟨q2h, q2i, c_b_w_0_0_ret_24_3, q23, rfl, q0i, hS⟩
    refine ⟨_, rfl, ?_⟩
    have e_ := St.vec_n (hS.pull 1) q0i; subst e_
    replace hF := ar_s hF; obtain ⟨x86, hx86, hF⟩ := hF
    replace hF := bd_s hF; obtain ⟨q4b, q3t, hF⟩ := hF
    refine x_done <| x_seq <| x_region <| p (yl_move q3q) <|
      p (yl_field0 fld_81_1 q1x) <| pa (at_load one_3 rfl ((hS.pull 3).cell rfl)) <| p (yadd rfl rfl hx86) <| p (yl_move rfl) <|
      ?_
    have hcall := c_stream_closed q3t q0i (((hS.pull 2).pull 2).pull 2)
    refine o_cc call_89 (args2 rfl rfl) hcall ?_
    rintro e w' ⟨q3f, q3g, c_y0_ret_25_5, q3b, q2j, rfl, q0k, hS⟩
    refine ⟨_, rfl, ?_⟩
    have e_ := St.vec_n hS q0k; subst e_
    replace hF := lv_s hF; obtain ⟨q42, q3u, hF⟩ := hF
    replace hF := ck_s hF; obtain ⟨q3v, hF⟩ := hF
    refine o_ap sl_75 zero_5 rfl (by decide) rfl rfl (hS.pull 4) q1c (src_o usl_75 hS q0k) q0k q3u q3v (fun A89 c89 cs89 w' hr89 hS => ?_)
    refine p (yl_assign rfl) <| p (yl_assign rfl) <| x_done <|
      ?_
    have e_ := Option.some.inj (show some _ = some _ from hF); subst e_
    exact x_return ⟨_, ⟨_, _, rfl, rfl, _, _, rfl, rfl, rfl⟩, A89, q42.length, c89, cs89, rfl, hr89, (((((hS.pull 1).drop.pull 1).drop.pull 2).drop.pull 1).pull 1)⟩
attribute [irreducible] P_stream_Encode

def P_stream_reader_bits_L3 (r_0 : T_stream_reader) (many1 : Int) : (Int × Int × Int × Bool) → Option ((Int × Int × Int × Bool) ⊕ (Int × Int × Bool)) := fun (q5, q6, q2, q3) =>
  if q6 < many1 then
    ck ((8 : Int) ≠ 0) <|
    ar (Int.tdiv q2 8) fun x14 =>
    bd (
      if x14 < (r_0.fb.length : Int) then
        ck ((8 : Int) ≠ 0) <|
        ar (Int.tdiv q2 8) fun x29 =>
        ck (inb x29 r_0.fb.length) <|
        lv (gt r_0.fb x29) fun x31 =>
        ar (x31) fun x32 =>
        ck ((8 : Int) ≠ 0) <|
        lv (Int.tmod q2 8) fun x37 =>
        ar ((7 : Int) - x37) fun x38 =>
        ck (0 ≤ x38) <|
        lv (shr .i64 x32 x38) fun x39 =>
        lv (bAnd .i64 x39 1) fun x40 =>
        some (x40, q3)
      else
        some ((0 : Int), true)) fun (q7, q4) =>
    ck (0 ≤ (1 : Int)) <|
    lv (shl .i64 q5 1) fun x45 =>
    lv (bOr .i64 x45 q7) fun x47 =>
    ar (q2 + 1) fun x52 =>
    ar (q6 + 1) fun x55 =>
    some (Sum.inl (x47, x55, x52, q4))
  else
    some (Sum.inr (q5, q2, q3))
def P_stream_reader_bits (r_0 : T_stream_reader) (many1 : Int) : Option (Int × Int × Bool) :=
  bd (
    lp (P_stream_reader_bits_L3 r_0 many1) fuel (0, 0, r_0.fat, r_0.fover)) fun (q4, q2, q3) =>
  some (q4, q2, q3)
set_option maxHeartbeats 4000000 in
set_option maxRecDepth 100000 in
theorem c_stream_reader_bits {w0 w : World} {l : List Assn} {ρ : Heap} {q7 : Nat} {q6 : Option Addr} {q0d : Nat} {c_r_0_0 : Nat} {r_0 : T_stream_reader} {many1 : Int} {r : (Int × Int × Bool)} (hF : P_stream_reader_bits r_0 many1 = some r) (q0e : RdS (RpI .u8) ρ q6 q0d c_r_0_0 r_0.fb) (hS : St w0 w (cells q7 191 [.slice q6 q0d c_r_0_0, .int .i64 r_0.fat, .bool r_0.fover] :: ro ρ :: l)) :
    Calls Try.prog 94 #[.pointer (some ⟨q7, 0, none⟩), .int .i64 many1] w fun e w' => e = .returned (.int .i64 r.1) ∧ St w0 w' (cells q7 191 [.slice q6 q0d c_r_0_0, .int .i64 r.2.1, .bool r.2.2] :: ro ρ :: l) := by
  have e_ := q0e.n; subst e_
  refine enterC Try.func94 rfl 57 rfl (by simp) ?_
  refine x_seq <| x_region <| p (yl_assign rfl) <| x_done <|
    x_seq <| x_region <| p (yl_assign rfl) <| x_done <|
    x_seq <| x_seq <| x_region <| p (yl_move rfl) <|
    p (yl_move rfl) <| x_done <|
    ?_
  replace hF := bd_s hF; obtain ⟨oL3, hLL3, hF⟩ := hF
  refine x_join (fun E w => ∃ (q0i : Int) (q8 : Int) (q9 : Bool), (q0i, q8, q9) = oL3 ∧ E 5 = .int .i64 q0i ∧ St w0 w (cells q7 191 [.slice q6 r_0.fb.length c_r_0_0, .int .i64 q8, .bool q9] :: ro ρ :: l)) ?_ ?_
  · skip -- L3
    refine x_block ?_
    refine x_loop (fun k_ E w => ∃ (q0a : Int) (q0b : Int) (q2 : Int) (q3 : Bool), lp (P_stream_reader_bits_L3 r_0 many1) k_ (q0a, q0b, q2, q3) = some oL3 ∧ E 0 = .pointer (some ⟨q7, 0, none⟩) ∧ E 5 = .int .i64 q0a ∧ E 7 = .int .i64 many1 ∧ E 8 = .int .i64 q0b ∧ St w0 w (cells q7 191 [.slice q6 r_0.fb.length c_r_0_0, .int .i64 q2, .bool q3] :: ro ρ :: l)) fuel ⟨0, 0, r_0.fat, r_0.fover, hLL3, rfl, rfl, rfl, rfl, ((hS.pull 1).pull 1)⟩ ?_
    rintro kL3 E w ⟨q0a, q0b, q2, q3, hLL3, q5, q0f, q0g, q0h, hS⟩
    replace hLL3 := lp_s hLL3; obtain ⟨kL3, obL3, rfl, hFL3, hLL3⟩ := hLL3
    refine x_seq <| x_region <| p (yl_lss q0h q0g) <| x_done <|
      x_seq <|
      x_cond_p (q0b < many1) rfl (fun hc9 => ?_) (fun hc9 => ?_)
    · replace hFL3 := it_t hc9 hFL3
      replace hFL3 := ck_s hFL3; obtain ⟨q0r, hFL3⟩ := hFL3
      replace hFL3 := ar_s hFL3; obtain ⟨x14, hx14, hFL3⟩ := hFL3
      refine x_skip <| x_seq <| x_block <| x_seq <|
        x_region <| p (yl_assign rfl) <| x_done <| x_seq <|
        x_seq <| x_still mixed (by kernel_rfl) hS <| q (yl_move q5) <| q (yl_nilCheck rfl) <|
        q (yl_field0 fld_191_1 rfl) <| qa (fun w' hS => at_load one_3 rfl (hS.cell rfl)) <| q (yquo rfl rfl q0r hx14) <| q (yl_move q5) <|
        q (yl_nilCheck rfl) <| q (yl_field0 fld_191_0 rfl) <| qa (fun w' hS => at_load one_75 rfl (hS.cell rfl)) <| q (yl_len_slice usl_75 rfl) <|
        q (yl_lss rfl rfl) <|
        q_done fun w' hS => ?_
      replace hFL3 := bd_s hFL3; obtain ⟨oc20, hFc20, hFL3⟩ := hFL3
      refine x_join (fun E w => ∃ (q0c : Int) (q4 : Bool), (q0c, q4) = oc20 ∧ E 0 = .pointer (some ⟨q7, 0, none⟩) ∧ E 5 = .int .i64 q0a ∧ E 6 = .int .i64 q0c ∧ E 7 = .int .i64 many1 ∧ E 8 = .int .i64 q0b ∧ St w0 w (cells q7 191 [.slice q6 r_0.fb.length c_r_0_0, .int .i64 q2, .bool q4] :: ro ρ :: l)) ?_ ?_
      · skip -- c20
        refine x_cond_p (x14 < (r_0.fb.length : Int)) rfl (fun hc20 => ?_) (fun hc20 => ?_)
        · replace hFc20 := it_t hc20 hFc20
          replace hFc20 := ck_s hFc20; obtain ⟨q0s, hFc20⟩ := hFc20
          replace hFc20 := ar_s hFc20; obtain ⟨x29, hx29, hFc20⟩ := hFc20
          replace hFc20 := ck_s hFc20; obtain ⟨q0k, hFc20⟩ := hFc20
          replace hFc20 := lv_s hFc20; obtain ⟨x31, hx31, hFc20⟩ := hFc20
          replace hFc20 := ar_s hFc20; obtain ⟨x32, hx32, hFc20⟩ := hFc20
          replace hFc20 := ck_s hFc20; obtain ⟨q0l, hFc20⟩ := hFc20
          replace hFc20 := lv_s hFc20; obtain ⟨x37, hx37, hFc20⟩ := hFc20
          replace hFc20 := ar_s hFc20; obtain ⟨x38, hx38, hFc20⟩ := hFc20
          replace hFc20 := ck_s hFc20; obtain ⟨q0m, hFc20⟩ := hFc20
          replace hFc20 := lv_s hFc20; obtain ⟨x39, hx39, hFc20⟩ := hFc20
          replace hFc20 := lv_s hFc20; obtain ⟨x40, hx40, hFc20⟩ := hFc20
          refine x_still mixed (by kernel_rfl) hS <| q (yl_move q5) <| q (yl_nilCheck rfl) <| q (yl_field0 fld_191_0 rfl) <|
            qa (fun w' hS => at_load one_75 rfl (hS.cell rfl)) <| q (yl_move q5) <| q (yl_nilCheck rfl) <| q (yl_field0 fld_191_1 rfl) <|
            qa (fun w' hS => at_load one_3 rfl (hS.cell rfl)) <| q (yquo rfl rfl q0s hx29) <| q (yix_f sl_75 rfl rfl q0e q0k) <| qa (fun w' hS => at_load one_5 rfl (RdS.getW q0e (hS.pull 1) q0k hx31)) <|
            q (yconvi uk_5 ik_3 rfl hx32) <| q (yl_move q5) <| q (yl_nilCheck rfl) <| q (yl_field0 fld_191_1 rfl) <|
            qa (fun w' hS => at_load one_3 rfl (hS.cell rfl)) <| q (yrem rfl rfl q0l hx37) <| q (ysub rfl rfl hx38) <| q (yshr rfl rfl q0m hx39) <|
            q (yand rfl rfl hx40) <| q (yl_assign rfl) <|
            q_done fun w' hS => ?_
          exact x_inv ⟨x40, q3, (Option.some.inj (show some _ = some _ from hFc20)), q5, q0f, rfl, q0g, q0h, ((hS.pull 1).pull 1)⟩
        · replace hFc20 := it_f hc20 hFc20
          refine x_region <| p (yl_move q5) <| p (yl_nilCheck rfl) <| p (yl_field0 fld_191_2 rfl) <|
            ?_
          refine o_store1 (v := .bool true) one_4 rfl rfl rfl rfl hS (fun w' hS => ?_)
          refine x_done <|
            ?_
          exact x_inv ⟨0, true, (Option.some.inj (show some _ = some _ from hFc20)), q5, q0f, rfl, q0g, q0h, ((hS.pull 1).pull 1)⟩
      rintro E w ⟨q0c, q4, rfl, q0j, q0n, q0o, q0p, q0q, hS⟩
      replace hFL3 := ck_s hFL3; obtain ⟨q0t, hFL3⟩ := hFL3
      replace hFL3 := lv_s hFL3; obtain ⟨x45, hx45, hFL3⟩ := hFL3
      replace hFL3 := lv_s hFL3; obtain ⟨x47, hx47, hFL3⟩ := hFL3
      replace hFL3 := ar_s hFL3; obtain ⟨x52, hx52, hFL3⟩ := hFL3
      refine x_seq <| x_region <| p (yl_move q0n) <| p (yshl rfl rfl q0t hx45) <|
        p (yl_move q0o) <| p (yor rfl rfl hx47) <| p (yl_assign rfl) <| x_done <|
        x_region <| p (yl_move q0j) <| p (yl_nilCheck rfl) <| p (yl_field0 fld_191_1 rfl) <|
        pa (at_load one_3 rfl (hS.cell rfl)) <| p (yadd rfl rfl hx52) <| p (yl_nilCheck rfl) <| p (yl_field0 fld_191_1 rfl) <|
        ?_
      refine o_store1 (v := .int .i64 x52) one_3 rfl rfl rfl rfl hS (fun w' hS => ?_)
      replace hFL3 := ar_s hFL3; obtain ⟨x55, hx55, hFL3⟩ := hFL3
      refine x_done <| x_blk <| x_region <| p (yadd q0q rfl hx55) <|
        p (yl_move rfl) <| x_done <|
        ?_
      have e_ := Option.some.inj (show some _ = some _ from hFL3); subst e_
      exact x_inv ⟨kL3, Nat.lt_succ_self _, x47, x55, x52, q4, hLL3, q0j, rfl, q0p, rfl, ((hS.pull 1).pull 1)⟩
    · replace hFL3 := it_f hc9 hFL3
      refine x_exitTo _ rfl <|
        ?_
      have e_ := Option.some.inj (show some _ = some _ from hFL3); subst e_
      exact x_inv ⟨q0a, q2, q3, hLL3, q0f, ((hS.pull 1).pull 1)⟩
  rintro E w ⟨q0i, q8, q9, rfl, q0u, hS⟩
  refine x_seq <| x_region <| p (yl_move q0u) <| p (yl_assign rfl) <|
    x_done <|
    ?_
  have e_ := Option.some.inj (show some _ = some _ from hF); subst e_
  exact x_return ⟨_, ⟨_, _, rfl, rfl, rfl⟩, rfl, ((hS.pull 1).pull 1)⟩
attribute [irreducible] P_stream_reader_bits

def P_stream_reader_part_L7 (r_0 : T_stream_reader) (x14 : Int) : Int → Option (Int ⊕ (Int ⊕ (Int × Int))) := fun q2 =>
  ar ((8 : Int) * x14) fun x67 =>
  if q2 < x67 then
    ck ((8 : Int) ≠ 0) <|
    ar (Int.tdiv q2 8) fun x84 =>
    ck (inb x84 r_0.fb.length) <|
    lv (gt r_0.fb x84) fun x86 =>
    ck ((8 : Int) ≠ 0) <|
    lv (Int.tmod q2 8) fun x91 =>
    ar ((7 : Int) - x91) fun x92 =>
    ck (0 ≤ x92) <|
    lv (shr .u8 x86 x92) fun x93 =>
    lv (bAnd .u8 x93 1) fun x94 =>
    if x94 = 1 then
      some (Sum.inr (Sum.inr ((4 : Int), q2)))
    else
      ar (q2 + 1) fun x73 =>
      some (Sum.inl x73)
  else
    some (Sum.inr (Sum.inl q2))
def P_stream_reader_part (r_0 : T_stream_reader) (q2 : Int) (number2 : Int) : Option (Int × Int) :=
  ar (r_0.fat + 7) fun x13 =>
  ck ((8 : Int) ≠ 0) <|
  ar (Int.tdiv x13 8) fun x14 =>
  ar (x14 + 2) fun x16 =>
  if (r_0.fb.length : Int) < x16 then
    some ((11 : Int), r_0.fat)
  else
    ck (0 ≤ (8 : Int)) <|
    lv (shr .i64 number2 8) fun x24 =>
    lv (x24 % 256) fun x25 =>
    lv (number2 % 256) fun x27 =>
    ck (0 ≤ q2 ∧ q2 ≤ x14 ∧ x14 ≤ r_0.fb.length) <|
    lv (sub r_0.fb q2 x14) fun x35 =>
    lv (([x25, x27] : List Int) ++ x35) fun q3 =>
    ck (apOk 1 q3.length) <|
    bd (P_stream_Sum q3) fun q4 =>
    ck (inb x14 r_0.fb.length) <|
    lv (gt r_0.fb x14) fun x44 =>
    ck (0 ≤ (8 : Int)) <|
    lv (shr .u16 q4 8) fun x46 =>
    lv (x46 % 256) fun x47 =>
    ck ((!(decide (x44 ≠ x47))) = true → I64 (x14 + 1)) <|
    lv (x14 + 1) fun x55 =>
    ck ((!(decide (x44 ≠ x47))) = true → inb x55 r_0.fb.length) <|
    lv (gt r_0.fb x55) fun x57 =>
    lv (q4 % 256) fun x59 =>
    lv ((decide (x44 ≠ x47)) || (decide (x57 ≠ x59))) fun x61 =>
    if x61 = true then
      some ((12 : Int), r_0.fat)
    else
      bs (
        lp (P_stream_reader_part_L7 r_0 x14) fuel r_0.fat) (fun y => some y) fun q5 =>
      ar (x14 + 2) fun x98 =>
      ar ((8 : Int) * x98) fun x99 =>
      some ((0 : Int), x99)
set_option maxHeartbeats 4000000 in
set_option maxRecDepth 100000 in
theorem c_stream_reader_part {w0 w : World} {l : List Assn} {ρ : Heap} {q5 : Nat} {q4 : Option Addr} {q8 : Nat} {c_r_0_0 : Nat} {r_0 : T_stream_reader} {q0b : Int} {number2 : Int} {r : (Int × Int)} (hF : P_stream_reader_part r_0 q0b number2 = some r) (q3 : RdS (RpI .u8) ρ q4 q8 c_r_0_0 r_0.fb) (hS : St w0 w (cells q5 191 [.slice q4 q8 c_r_0_0, .int .i64 r_0.fat, .bool r_0.fover] :: ro ρ :: l)) :
    Calls Try.prog 95 #[.pointer (some ⟨q5, 0, none⟩), .int .i64 q0b, .int .i64 number2] w fun e w' => e = .returned (.int .i64 r.1) ∧ St w0 w' (cells q5 191 [.slice q4 q8 c_r_0_0, .int .i64 r.2, .bool r_0.fover] :: ro ρ :: l) := by
  have e_ := q3.n; subst e_
  refine enterC Try.func95 rfl 102 rfl (by simp) ?_
  replace hF := ar_s hF; obtain ⟨x13, hx13, hF⟩ := hF
  replace hF := ck_s hF; obtain ⟨q0n, hF⟩ := hF
  replace hF := ar_s hF; obtain ⟨x14, hx14, hF⟩ := hF
  replace hF := ar_s hF; obtain ⟨x16, hx16, hF⟩ := hF
  refine x_seq <| x_region <| p (yl_assign rfl) <| x_done <|
    x_seq <| x_region <| p (yl_move rfl) <| p (yl_nilCheck rfl) <|
    p (yl_field0 fld_191_1 rfl) <| pa (at_load one_3 rfl (hS.cell rfl)) <| p (yadd rfl rfl hx13) <| p (yquo rfl rfl q0n hx14) <|
    p (yl_assign rfl) <| x_done <| x_seq <| x_seq <|
    x_region <| p (yl_move rfl) <| p (yadd rfl rfl hx16) <| p (yl_move rfl) <|
    p (yl_nilCheck rfl) <| p (yl_field0 fld_191_0 rfl) <| pa (at_load one_75 rfl (hS.cell rfl)) <| p (yl_len_slice usl_75 rfl) <|
    p (yl_gtr rfl rfl) <| x_done <|
    x_cond_p ((r_0.fb.length : Int) < x16) rfl (fun hc22 => ?_) (fun hc22 => ?_)
  · replace hF := it_t hc22 hF
    refine x_seq <| x_region <| p (yl_assign rfl) <| x_done <|
      ?_
    have e_ := Option.some.inj (show some _ = some _ from hF); subst e_
    exact x_return ⟨_, ⟨_, _, rfl, rfl, rfl⟩, rfl, ((hS.pull 1).pull 1)⟩
  · replace hF := it_f hc22 hF
    replace hF := ck_s hF; obtain ⟨q0o, hF⟩ := hF
    replace hF := lv_s hF; obtain ⟨x24, hx24, hF⟩ := hF
    replace hF := lv_s hF; obtain ⟨x25, hx25, hF⟩ := hF
    replace hF := lv_s hF; obtain ⟨x27, hx27, hF⟩ := hF
    refine x_skip <| x_seq <| x_region <| p (yl_move rfl) <|
      p (yshr rfl rfl q0o hx24) <| p (yconvu wm_u8 uk_3 ik_5 rfl hx25) <| p (yl_move rfl) <| p (yconvu wm_u8 uk_3 ik_5 rfl hx27) <|
      ?_
    refine o_buildSlice (vs := [.int .u8 x25, .int .u8 x27]) (cs := [.int .u8 x25, .int .u8 x27]) sl_75 zero_5 (parts_eq (pt (va := .int .u8 x25) rfl (pt (va := .int .u8 x27) rfl pt0))) rfl (by intro v hv; simp only [List.mem_cons, List.not_mem_nil, or_false] at hv; first | (subst hv; rfl) | (rcases hv with rfl | rfl <;> rfl)) (by decide) rfl hS (fun b28 w' hS => ?_)
    replace hF := ck_s hF; obtain ⟨q0c, hF⟩ := hF
    replace hF := lv_s hF; obtain ⟨x35, hx35, hF⟩ := hF
    refine p (yl_move rfl) <| p (yl_nilCheck rfl) <| p (yl_field0 fld_191_0 rfl) <| pa (at_load one_75 rfl ((hS.pull 1).cell rfl)) <|
      p (yl_move rfl) <| p (yl_move rfl) <|
      ?_
    have q_ := RdS.sub q3 q0c hx35; obtain ⟨A35, n35, c35, hd35, f35⟩ := q_
    refine p (ysub_lh sl_75 rfl rfl rfl q0c hd35) <|
      ?_
    have e_ := f35.n; subst e_
    have q0g : RepL (RpI .u8) ρ ([x25, x27] : List Int) [.int .u8 x25, .int .u8 x27] := (RepL.cons (cs := [.int .u8 x25]) rfl (RepL.cons (cs := [.int .u8 x27]) rfl RepL.nil))
    replace hS := St.vec_of (n := 2) (sz := (RpI .u8).sz) hS rfl (by decide)
    have q_ := src_f usl_75 (hS.pull 2) f35; obtain ⟨nw36, hnw36, src36⟩ := q_
    replace hF := lv_s hF; obtain ⟨q0t, q0h, hF⟩ := hF
    replace hF := ck_s hF; obtain ⟨q0i, hF⟩ := hF
    refine o_ap sl_75 zero_5 rfl (by decide) rfl rfl hS q0g src36 hnw36 q0h q0i (fun A36 c36 cs36 w' hr36 hS => ?_)
    replace hF := bd_s hF; obtain ⟨q0a, q0j, hF⟩ := hF
    have q_ := St.lend ((hS.pull 2).pull 1) hr36; obtain ⟨ρl0, hll0, hlf0, hS0, back0⟩ := q_
    have hcall := c_stream_Sum q0j hlf0 hS0
    refine o_cc call_93 (args1 rfl) ((Calls.mono hcall (fun e w'' h => And.intro h.1 ((((back0 h.2).pull 1).pull 2).pull 2)))) ?_
    rintro e w' ⟨rfl, hS⟩
    refine ⟨_, rfl, ?_⟩
    replace hF := ck_s hF; obtain ⟨q0e, hF⟩ := hF
    replace hF := lv_s hF; obtain ⟨x44, hx44, hF⟩ := hF
    replace hF := ck_s hF; obtain ⟨q0p, hF⟩ := hF
    replace hF := lv_s hF; obtain ⟨x46, hx46, hF⟩ := hF
    replace hF := lv_s hF; obtain ⟨x47, hx47, hF⟩ := hF
    replace hF := ck_s hF; obtain ⟨q0k, hF⟩ := hF
    replace hF := lv_s hF; obtain ⟨x55, hx55, hF⟩ := hF
    replace hF := ck_s hF; obtain ⟨q0d, hF⟩ := hF
    replace hF := lv_s hF; obtain ⟨x57, hx57, hF⟩ := hF
    replace hF := lv_s hF; obtain ⟨x59, hx59, hF⟩ := hF
    replace hF := lv_s hF; obtain ⟨x61, hx61, hF⟩ := hF
    refine p (v := .int .u16 q0a) (yl_assign rfl) <| x_done <| x_seq <| x_seq <|
      x_region <| p (yl_move rfl) <| p (yl_nilCheck rfl) <| p (yl_field0 fld_191_0 rfl) <|
      pa (at_load one_75 rfl ((hS.pull 1).cell rfl)) <| p (yl_move rfl) <| p (yix_f sl_75 rfl rfl q3 q0e) <| pa (at_load one_5 rfl (RdS.getW q3 (hS.pull 2) q0e hx44)) <|
      p (v := .int .u16 q0a) (yl_move rfl) <| p (yshr rfl rfl q0p hx46) <| p (yconvu wm_u8 uk_179 ik_5 rfl hx47) <| p (yl_neq rfl rfl) <|
      p (yl_move rfl) <| pg (v := .pointer (some ⟨q5, 0, none⟩)) 49 (c := !(decide (x44 ≠ x47))) (says_f _) (fun hq => Yl.at (yl_move rfl)) <| pg (v := .pointer (some ⟨q5, 0, none⟩)) 49 (c := !(decide (x44 ≠ x47))) (says_f _) (fun hq => Yl.at (yl_nilCheck (cv hq))) <| pg (v := .pointer (some ⟨q5, 0, none⟩)) 49 (c := !(decide (x44 ≠ x47))) (says_f _) (fun hq => Yl.at (yl_field0 fld_191_0 (cv hq))) <|
      pg (v := .slice q4 r_0.fb.length c_r_0_0) 49 (c := !(decide (x44 ≠ x47))) (says_f _) (fun hq => at_load one_75 (cv hq) ((hS.pull 1).cell rfl)) <| pg (v := .int .i64 x14) 49 (c := !(decide (x44 ≠ x47))) (says_f _) (fun hq => Yl.at (yl_move rfl)) <| pg (v := .int .i64 x55) 49 (c := !(decide (x44 ≠ x47))) (says_f _) (fun hq => Yl.at (yadd (cv hq) rfl ⟨hx55, (q0k hq)⟩)) <| pg (v := .pointer (some ((adr q4).add (x55.toNat * (RpI .u8).sz)))) 49 (c := !(decide (x44 ≠ x47))) (says_f _) (fun hq => Yl.at (yix_f sl_75 (cv hq) (cv hq) q3 (q0d hq))) <|
      pg (v := .int .u8 x57) 49 (c := !(decide (x44 ≠ x47))) (says_f _) (fun hq => at_load one_5 (cv hq) (RdS.getW q3 (hS.pull 2) (q0d hq) hx57)) <| pg (v := .int .u16 q0a) 49 (c := !(decide (x44 ≠ x47))) (says_f _) (fun hq => Yl.at (yl_move rfl)) <| pg (v := .int .u8 x59) 49 (c := !(decide (x44 ≠ x47))) (says_f _) (fun hq => Yl.at (yconvu wm_u8 uk_179 ik_5 (cv hq) hx59)) <| pg (v := .bool (decide (x57 ≠ x59))) 49 (c := !(decide (x44 ≠ x47))) (says_f _) (fun hq => Yl.at (yl_neq (cv hq) (cv hq))) <|
      p (yor' rfl rfl (fun hc => (cv (t_not hc))) hx61) <| x_done <|
      x_cond (t := x61) rfl (fun hc61 => ?_) (fun hc61 => ?_)
    · replace hF := it_t hc61 hF
      refine x_seq <| x_region <| p (yl_assign rfl) <| x_done <|
        ?_
      have e_ := Option.some.inj (show some _ = some _ from hF); subst e_
      exact x_return ⟨_, ⟨_, _, rfl, rfl, rfl⟩, rfl, ((hS.drop.pull 1).pull 1)⟩
    · replace hF := it_bf hc61 hF
      refine x_skip <| x_seq <|
        ?_
      replace hF := bs_s hF; obtain ⟨oL7, hLL7, hF⟩ := hF
      refine x_join (fun E w => ∃ (q7 : Int), (Sum.inl q7) = oL7 ∧ E 0 = .pointer (some ⟨q5, 0, none⟩) ∧ E 7 = .int .i64 x14 ∧ St w0 w (cells q5 191 [.slice q4 r_0.fb.length c_r_0_0, .int .i64 q7, .bool r_0.fover] :: ro ρ :: l)) ?_ ?_
      · skip -- L7
        refine x_block ?_
        refine x_loop (fun k_ E w => ∃ (q2 : Int), lp (P_stream_reader_part_L7 r_0 x14) k_ q2 = some oL7 ∧ E 0 = .pointer (some ⟨q5, 0, none⟩) ∧ E 7 = .int .i64 x14 ∧ St w0 w (cells q5 191 [.slice q4 r_0.fb.length c_r_0_0, .int .i64 q2, .bool r_0.fover] :: ro ρ :: l)) fuel ⟨r_0.fat, hLL7, rfl, rfl, ((hS.drop.pull 1).pull 1)⟩ ?_
        rintro kL7 E w ⟨q2, hLL7, q6, q9, hS⟩
        replace hLL7 := lp_s hLL7; obtain ⟨kL7, obL7, rfl, hFL7, hLL7⟩ := hLL7
        unfold P_stream_reader_part_L7 at hFL7
        replace hFL7 := ar_s hFL7; obtain ⟨x67, hx67, hFL7⟩ := hFL7
        refine x_seq <| x_seq <| x_region <| p (yl_move q6) <|
          p (yl_nilCheck rfl) <| p (yl_field0 fld_191_1 rfl) <| pa (at_load one_3 rfl (hS.cell rfl)) <| p (yl_move q9) <|
          p (ymul rfl rfl hx67) <| p (yl_lss rfl rfl) <| x_done <|
          x_cond_p (q2 < x67) rfl (fun hc68 => ?_) (fun hc68 => ?_)
        · replace hFL7 := it_t hc68 hFL7
          replace hFL7 := ck_s hFL7; obtain ⟨q0q, hFL7⟩ := hFL7
          replace hFL7 := ar_s hFL7; obtain ⟨x84, hx84, hFL7⟩ := hFL7
          replace hFL7 := ck_s hFL7; obtain ⟨q0f, hFL7⟩ := hFL7
          replace hFL7 := lv_s hFL7; obtain ⟨x86, hx86, hFL7⟩ := hFL7
          replace hFL7 := ck_s hFL7; obtain ⟨q0l, hFL7⟩ := hFL7
          replace hFL7 := lv_s hFL7; obtain ⟨x91, hx91, hFL7⟩ := hFL7
          replace hFL7 := ar_s hFL7; obtain ⟨x92, hx92, hFL7⟩ := hFL7
          replace hFL7 := ck_s hFL7; obtain ⟨q0m, hFL7⟩ := hFL7
          replace hFL7 := lv_s hFL7; obtain ⟨x93, hx93, hFL7⟩ := hFL7
          replace hFL7 := lv_s hFL7; obtain ⟨x94, hx94, hFL7⟩ := hFL7
          refine x_skip <| x_seq <| x_block <| x_seq <|
            x_still mixed (by kernel_rfl) hS <| q (yl_move q6) <| q (yl_nilCheck rfl) <| q (yl_field0 fld_191_0 rfl) <|
            qa (fun w' hS => at_load one_75 rfl (hS.cell rfl)) <| q (yl_move q6) <| q (yl_nilCheck rfl) <| q (yl_field0 fld_191_1 rfl) <|
            qa (fun w' hS => at_load one_3 rfl (hS.cell rfl)) <| q (yquo rfl rfl q0q hx84) <| q (yix_f sl_75 rfl rfl q3 q0f) <| qa (fun w' hS => at_load one_5 rfl (RdS.getW q3 (hS.pull 1) q0f hx86)) <|
            q (yl_move q6) <| q (yl_nilCheck rfl) <| q (yl_field0 fld_191_1 rfl) <| qa (fun w' hS => at_load one_3 rfl (hS.cell rfl)) <|
            q (yrem rfl rfl q0l hx91) <| q (ysub rfl rfl hx92) <| q (yshr rfl rfl q0m hx93) <| q (yand rfl rfl hx94) <|
            q (yl_eql rfl rfl) <|
            q_done fun w' hS => ?_
          refine x_cond_p (x94 = 1) rfl (fun hc95 => ?_) (fun hc95 => ?_)
          · replace hFL7 := it_t hc95 hFL7
            refine x_seq <| x_region <| p (yl_assign rfl) <| x_done <|
              ?_
            have e_ := Option.some.inj (show some _ = some _ from hFL7); subst e_
            have e_ := (show _ = oL7 from hLL7); subst e_
            have e_ := Option.some.inj (show some _ = some _ from hF); subst e_
            exact x_return ⟨_, ⟨_, _, rfl, rfl, rfl⟩, rfl, ((hS.pull 1).pull 1)⟩
          · replace hFL7 := it_f hc95 hFL7
            replace hFL7 := ar_s hFL7; obtain ⟨x73, hx73, hFL7⟩ := hFL7
            refine x_skip <| x_blk <| x_region <| p (yl_move q6) <|
              p (yl_nilCheck rfl) <| p (yl_field0 fld_191_1 rfl) <| pa (at_load one_3 rfl (hS.cell rfl)) <| p (yadd rfl rfl hx73) <|
              p (yl_nilCheck rfl) <| p (yl_field0 fld_191_1 rfl) <|
              ?_
            refine o_store1 (v := .int .i64 x73) one_3 rfl rfl rfl rfl hS (fun w' hS => ?_)
            refine x_done <|
              ?_
            have e_ := Option.some.inj (show some _ = some _ from hFL7); subst e_
            exact x_inv ⟨kL7, Nat.lt_succ_self _, x73, hLL7, q6, q9, ((hS.pull 1).pull 1)⟩
        · replace hFL7 := it_f hc68 hFL7
          refine x_exitTo _ rfl <|
            ?_
          have e_ := Option.some.inj (show some _ = some _ from hFL7); subst e_
          exact x_inv ⟨q2, hLL7, q6, q9, ((hS.pull 1).pull 1)⟩
      rintro E w ⟨q7, rfl, q0r, q0s, hS⟩
      replace hF := ar_s hF; obtain ⟨x98, hx98, hF⟩ := hF
      replace hF := ar_s hF; obtain ⟨x99, hx99, hF⟩ := hF
      refine x_seq <| x_region <| p (yl_move q0r) <| p (yl_move q0s) <|
        p (yadd rfl rfl hx98) <| p (ymul rfl rfl hx99) <| p (yl_nilCheck rfl) <| p (yl_field0 fld_191_1 rfl) <|
        ?_
      refine o_store1 (v := .int .i64 x99) one_3 rfl rfl rfl rfl hS (fun w' hS => ?_)
      refine x_done <| x_seq <| x_region <| p (yl_assign rfl) <|
        x_done <|
        ?_
      have e_ := Option.some.inj (show some _ = some _ from hF); subst e_
      exact x_return ⟨_, ⟨_, _, rfl, rfl, rfl⟩, rfl, ((hS.pull 1).pull 1)⟩
attribute [irreducible] P_stream_reader_part

def P_stream_reader_tile_L11u4 (r_0 : T_stream_reader) (tracks1 : Int) : (Int × Int × Bool × List Int) → Option ((Int × Int × Bool × List Int) ⊕ (Int × Bool × List Int)) := fun (q5, q2, q3, q4) =>
  if q5 < tracks1 then
    bd (P_stream_reader_bits (T_stream_reader.mk r_0.fb q2 q3) 3) fun q6 =>
    lv (q4 ++ [q6.1]) fun q7 =>
    ck (apOk 8 q7.length) <|
    ar (q5 + 1) fun x45u4 =>
    some (Sum.inl (x45u4, q6.2.1, q6.2.2, q7))
  else
    some (Sum.inr (q2, q3, q4))
def P_stream_reader_tile_L11u3 (r_0 : T_stream_reader) (tracks1 : Int) : (Int × Int × Bool × List Int) → Option ((Int × Int × Bool × List Int) ⊕ (Int × Bool × List Int)) := fun (q5, q2, q3, q4) =>
  if q5 < tracks1 then
    bd (P_stream_reader_bits (T_stream_reader.mk r_0.fb q2 q3) 3) fun q6 =>
    lv (q4 ++ [q6.1]) fun q7 =>
    ck (apOk 8 q7.length) <|
    ar (q5 + 1) fun x45u3 =>
    some (Sum.inl (x45u3, q6.2.1, q6.2.2, q7))
  else
    some (Sum.inr (q2, q3, q4))
def P_stream_reader_tile_L11u2 (r_0 : T_stream_reader) (tracks1 : Int) : (Int × Int × Bool × List Int) → Option ((Int × Int × Bool × List Int) ⊕ (Int × Bool × List Int)) := fun (q5, q2, q3, q4) =>
  if q5 < tracks1 then
    bd (P_stream_reader_bits (T_stream_reader.mk r_0.fb q2 q3) 3) fun q6 =>
    lv (q4 ++ [q6.1]) fun q7 =>
    ck (apOk 8 q7.length) <|
    ar (q5 + 1) fun x45u2 =>
    some (Sum.inl (x45u2, q6.2.1, q6.2.2, q7))
  else
    some (Sum.inr (q2, q3, q4))
def P_stream_reader_tile_L11u1 (r_0 : T_stream_reader) (tracks1 : Int) : (Int × Int × Bool × List Int) → Option ((Int × Int × Bool × List Int) ⊕ (Int × Bool × List Int)) := fun (q5, q2, q3, q4) =>
  if q5 < tracks1 then
    bd (P_stream_reader_bits (T_stream_reader.mk r_0.fb q2 q3) 3) fun q6 =>
    lv (q4 ++ [q6.1]) fun q7 =>
    ck (apOk 8 q7.length) <|
    ar (q5 + 1) fun x45u1 =>
    some (Sum.inl (x45u1, q6.2.1, q6.2.2, q7))
  else
    some (Sum.inr (q2, q3, q4))
def P_stream_reader_tile (r_0 : T_stream_reader) (tracks1 : Int) : Option (T_array_Tile × Int × Bool) :=
  bd (P_stream_reader_bits r_0 16) fun q0i =>
  lv (q0i.1 % 65536) fun x10 =>
  bd (P_stream_reader_bits (T_stream_reader.mk r_0.fb q0i.2.1 q0i.2.2) 1) fun q0j =>
  ar ((4 : Int) * tracks1) fun x21u4 =>
  ar ((1 : Int) + x21u4) fun x22u4 =>
  bd (P_stream_size x22u4) fun q0k =>
  bd (P_stream_reader_bits (T_stream_reader.mk r_0.fb q0j.2.1 q0j.2.2) q0k) fun q0a =>
  ar ((4 : Int) * tracks1) fun x21u3 =>
  ar ((1 : Int) + x21u3) fun x22u3 =>
  bd (P_stream_size x22u3) fun q0l =>
  bd (P_stream_reader_bits (T_stream_reader.mk r_0.fb q0a.2.1 q0a.2.2) q0l) fun q0b =>
  ar ((4 : Int) * tracks1) fun x21u2 =>
  ar ((1 : Int) + x21u2) fun x22u2 =>
  bd (P_stream_size x22u2) fun q0m =>
  bd (P_stream_reader_bits (T_stream_reader.mk r_0.fb q0b.2.1 q0b.2.2) q0m) fun q0c =>
  ar ((4 : Int) * tracks1) fun x21u1 =>
  ar ((1 : Int) + x21u1) fun x22u1 =>
  bd (P_stream_size x22u1) fun q0n =>
  bd (P_stream_reader_bits (T_stream_reader.mk r_0.fb q0c.2.1 q0c.2.2) q0n) fun q0d =>
  bd (
    lp (P_stream_reader_tile_L11u4 r_0 tracks1) fuel (0, q0d.2.1, q0d.2.2, [])) fun (q2, q3, q0e) =>
  bd (
    lp (P_stream_reader_tile_L11u3 r_0 tracks1) fuel (0, q2, q3, [])) fun (q4, q5, q0f) =>
  bd (
    lp (P_stream_reader_tile_L11u2 r_0 tracks1) fuel (0, q4, q5, [])) fun (q6, q7, q0g) =>
  bd (
    lp (P_stream_reader_tile_L11u1 r_0 tracks1) fuel (0, q6, q7, [])) fun (q8, q9, q0h) =>
  some ((T_array_Tile.mk x10 (decide (q0j.1 = 1)) (T_anon180.mk q0a.1 q0b.1 q0c.1 q0d.1) (T_anon181.mk q0e q0f q0g q0h)), q8, q9)
set_option maxHeartbeats 4000000 in
set_option maxRecDepth 100000 in
theorem c_stream_reader_tile {w0 w : World} {l : List Assn} {ρ : Heap} {q6 : Nat} {q0a : Option Addr} {q4i : Nat} {c_r_0_0 : Nat} {r_0 : T_stream_reader} {tracks1 : Int} {r : (T_array_Tile × Int × Bool)} (hF : P_stream_reader_tile r_0 tracks1 = some r) (q1a : RdS (RpI .u8) ρ q0a q4i c_r_0_0 r_0.fb) (hS : St w0 w (cells q6 191 [.slice q0a q4i c_r_0_0, .int .i64 r_0.fat, .bool r_0.fover] :: ro ρ :: l)) :
    Calls Try.prog 96 #[.pointer (some ⟨q6, 0, none⟩), .int .i64 tracks1] w fun e w' => ∃ (q42 : Option Addr) (q3e : Nat) (c_y0_ret_6 : Nat) (q3y : List Value) (q43 : Option Addr) (q3f : Nat) (c_y0_ret_7 : Nat) (q3z : List Value) (q44 : Option Addr) (q3g : Nat) (c_y0_ret_8 : Nat) (q40 : List Value) (q45 : Option Addr) (q3h : Nat) (c_y0_ret_9 : Nat) (q41 : List Value), e = .returned (.agg #[.int .u16 r.1.Table, .bool r.1.Init, .int .i64 r.1.In.fe0, .int .i64 r.1.In.fe1, .int .i64 r.1.In.fe2, .int .i64 r.1.In.fe3, .slice q42 q3e c_y0_ret_6, .slice q43 q3f c_y0_ret_7, .slice q44 q3g c_y0_ret_8, .slice q45 q3h c_y0_ret_9]) ∧ RepL (RpI .i64) ρ r.1.Out.fe0 q3y ∧ RepL (RpI .i64) ρ r.1.Out.fe1 q3z ∧ RepL (RpI .i64) ρ r.1.Out.fe2 q40 ∧ RepL (RpI .i64) ρ r.1.Out.fe3 q41 ∧ St w0 w' (vec 3 (RpI .i64).sz (.slice q42 q3e c_y0_ret_6) q3e q3y :: vec 3 (RpI .i64).sz (.slice q43 q3f c_y0_ret_7) q3f q3z :: vec 3 (RpI .i64).sz (.slice q44 q3g c_y0_ret_8) q3g q40 :: vec 3 (RpI .i64).sz (.slice q45 q3h c_y0_ret_9) q3h q41 :: cells q6 191 [.slice q0a q4i c_r_0_0, .int .i64 r.2.1, .bool r.2.2] :: ro ρ :: l) := by
  have e_ := q1a.n; subst e_
  refine enterC Try.func96 rfl 48 rfl (by simp) ?_
  refine x_seq <| x_region <|
    ?_
  refine o_alloc zero_183 hS (fun b4 w' hS => ?_)
  replace hF := bd_s hF; obtain ⟨q61, q5t, hF⟩ := hF
  refine x_done <| x_seq <| x_region <| p (yl_move rfl) <|
    ?_
  have hcall := c_stream_reader_bits q5t q1a ((hS.pull 2).pull 2)
  refine o_cc call_94 (args2 rfl rfl) hcall ?_
  rintro e w' ⟨rfl, hS⟩
  refine ⟨_, rfl, ?_⟩
  replace hF := lv_s hF; obtain ⟨x10, hx10, hF⟩ := hF
  replace hF := bd_s hF; obtain ⟨q0o, q5u, hF⟩ := hF
  refine p (yconvu wm_u16 uk_3 ik_179 rfl hx10) <| p (yl_move rfl) <|
    ?_
  have hcall := c_stream_reader_bits q5u q1a ((hS.pull 1).pull 1)
  refine o_cc call_94 (args2 rfl rfl) hcall ?_
  rintro e w' ⟨rfl, hS⟩
  refine ⟨_, rfl, ?_⟩
  refine p (yl_eql rfl rfl) <| p (v := .agg #[.int .u16 x10, .bool (decide (q0o.1 = 1)), .int .i64 0, .int .i64 0, .int .i64 0, .int .i64 0, .slice none 0 0, .slice none 0 0, .slice none 0 0, .slice none 0 0]) (yl_build bld_183 bldf_183 (parts_eq (pt (va := .int .u16 x10) rfl (pt (va := .bool (decide (q0o.1 = 1))) rfl pt0))) (by kernel_rfl)) <|
    ?_
  refine o_alloc zero_183 hS (fun b5 w' hS => ?_)
  refine o_storeAgg (news := [.int .u16 x10, .bool (decide (q0o.1 = 1)), .int .i64 0, .int .i64 0, .int .i64 0, .int .i64 0, .slice none 0 0, .slice none 0 0, .slice none 0 0, .slice none 0 0]) agg_183 rfl rfl rfl (by simp [over_length]) hS (fun w' hS => ?_)
  replace hF := ar_s hF; obtain ⟨x21u4, hx21u4, hF⟩ := hF
  replace hF := ar_s hF; obtain ⟨x22u4, hx22u4, hF⟩ := hF
  replace hF := bd_s hF; obtain ⟨q5x, q5l, hF⟩ := hF
  refine x_done <| x_seq <| x_seq <| x_region <|
    p (yl_move rfl) <| x_done <| x_block <| x_unroll 4 <|
    x_seq <| x_region <| p (ylss_l (t := true) rfl rfl (by decide)) <| x_done <|
    x_seq <| x_cond_t (show ev _ _ = .bool true from rfl) <| x_skip <| x_seq <|
    x_block <| x_seq <| x_region <| p (yl_move rfl) <|
    p (yl_assign rfl) <| x_done <| x_region <| p (yl_move rfl) <|
    p (yl_move rfl) <| p (yl_move rfl) <| p (ymul rfl rfl hx21u4) <| p (yadd rfl rfl hx22u4) <|
    ?_
  have hcall := c_stream_size q5l  (hS.pull 2)
  refine o_cc call_133 (args1 rfl) ((Calls.mono hcall (fun e w'' h => And.intro h.1 ((((h.2.pull 3).pull 1).pull 3).pull 3)))) ?_
  rintro e w' ⟨rfl, hS⟩
  refine ⟨_, rfl, ?_⟩
  replace hF := bd_s hF; obtain ⟨q0b, q5m, hF⟩ := hF
  have hcall := c_stream_reader_bits q5m q1a ((hS.pull 2).pull 2)
  refine o_cc call_94 (args2 rfl rfl) hcall ?_
  rintro e w' ⟨rfl, hS⟩
  refine ⟨_, rfl, ?_⟩
  refine p (yl_field0 fld_183_2 rfl) <| p (yl_ixa (x := .tmp 25) (y := .tmp 18) (q := 2) arr_180 rfl rfl (by decide) rfl) <|
    ?_
  refine o_store1 (v := .int .i64 q0b.1) one_3 rfl rfl rfl rfl (hS.pull 2) (fun w' hS => ?_)
  replace hF := ar_s hF; obtain ⟨x21u3, hx21u3, hF⟩ := hF
  replace hF := ar_s hF; obtain ⟨x22u3, hx22u3, hF⟩ := hF
  replace hF := bd_s hF; obtain ⟨q5y, q5n, hF⟩ := hF
  refine x_done <| x_blk <| x_region <| p (yadd (c := 1) rfl rfl ⟨rfl, by decide⟩) <|
    p (yl_move rfl) <| x_done <| x_un 3 <| x_seq <|
    x_region <| p (ylss_l (t := true) rfl rfl (by decide)) <| x_done <| x_seq <|
    x_cond_t (show ev _ _ = .bool true from rfl) <| x_skip <| x_seq <| x_block <|
    x_seq <| x_region <| p (yl_move rfl) <| p (yl_assign rfl) <|
    x_done <| x_region <| p (yl_move rfl) <| p (yl_move rfl) <|
    p (yl_move rfl) <| p (ymul rfl rfl hx21u3) <| p (yadd rfl rfl hx22u3) <|
    ?_
  have hcall := c_stream_size q5n  (hS.pull 2)
  refine o_cc call_133 (args1 rfl) ((Calls.mono hcall (fun e w'' h => And.intro h.1 ((((h.2.pull 3).pull 1).pull 3).pull 3)))) ?_
  rintro e w' ⟨rfl, hS⟩
  refine ⟨_, rfl, ?_⟩
  replace hF := bd_s hF; obtain ⟨q0c, q5o, hF⟩ := hF
  have hcall := c_stream_reader_bits q5o q1a ((hS.pull 2).pull 2)
  refine o_cc call_94 (args2 rfl rfl) hcall ?_
  rintro e w' ⟨rfl, hS⟩
  refine ⟨_, rfl, ?_⟩
  refine p (yl_field0 fld_183_2 rfl) <| p (yl_ixa (x := .tmp 25) (y := .tmp 18) (q := 3) arr_180 rfl rfl (by decide) rfl) <|
    ?_
  refine o_store1 (v := .int .i64 q0c.1) one_3 rfl rfl rfl rfl (hS.pull 2) (fun w' hS => ?_)
  replace hF := ar_s hF; obtain ⟨x21u2, hx21u2, hF⟩ := hF
  replace hF := ar_s hF; obtain ⟨x22u2, hx22u2, hF⟩ := hF
  replace hF := bd_s hF; obtain ⟨q5z, q5p, hF⟩ := hF
  refine x_done <| x_blk <| x_region <| p (yadd (c := 2) rfl rfl ⟨rfl, by decide⟩) <|
    p (yl_move rfl) <| x_done <| x_un 2 <| x_seq <|
    x_region <| p (ylss_l (t := true) rfl rfl (by decide)) <| x_done <| x_seq <|
    x_cond_t (show ev _ _ = .bool true from rfl) <| x_skip <| x_seq <| x_block <|
    x_seq <| x_region <| p (yl_move rfl) <| p (yl_assign rfl) <|
    x_done <| x_region <| p (yl_move rfl) <| p (yl_move rfl) <|
    p (yl_move rfl) <| p (ymul rfl rfl hx21u2) <| p (yadd rfl rfl hx22u2) <|
    ?_
  have hcall := c_stream_size q5p  (hS.pull 2)
  refine o_cc call_133 (args1 rfl) ((Calls.mono hcall (fun e w'' h => And.intro h.1 ((((h.2.pull 3).pull 1).pull 3).pull 3)))) ?_
  rintro e w' ⟨rfl, hS⟩
  refine ⟨_, rfl, ?_⟩
  replace hF := bd_s hF; obtain ⟨q0d, q5q, hF⟩ := hF
  have hcall := c_stream_reader_bits q5q q1a ((hS.pull 2).pull 2)
  refine o_cc call_94 (args2 rfl rfl) hcall ?_
  rintro e w' ⟨rfl, hS⟩
  refine ⟨_, rfl, ?_⟩
  refine p (yl_field0 fld_183_2 rfl) <| p (yl_ixa (x := .tmp 25) (y := .tmp 18) (q := 4) arr_180 rfl rfl (by decide) rfl) <|
    ?_
  refine o_store1 (v := .int .i64 q0d.1) one_3 rfl rfl rfl rfl (hS.pull 2) (fun w' hS => ?_)
  replace hF := ar_s hF; obtain ⟨x21u1, hx21u1, hF⟩ := hF
  replace hF := ar_s hF; obtain ⟨x22u1, hx22u1, hF⟩ := hF
  replace hF := bd_s hF; obtain ⟨q60, q5r, hF⟩ := hF
  refine x_done <| x_blk <| x_region <| p (yadd (c := 3) rfl rfl ⟨rfl, by decide⟩) <|
    p (yl_move rfl) <| x_done <| x_un 1 <| x_seq <|
    x_region <| p (ylss_l (t := true) rfl rfl (by decide)) <| x_done <| x_seq <|
    x_cond_t (show ev _ _ = .bool true from rfl) <| x_skip <| x_seq <| x_block <|
    x_seq <| x_region <| p (yl_move rfl) <| p (yl_assign rfl) <|
    x_done <| x_region <| p (yl_move rfl) <| p (yl_move rfl) <|
    p (yl_move rfl) <| p (ymul rfl rfl hx21u1) <| p (yadd rfl rfl hx22u1) <|
    ?_
  have hcall := c_stream_size q5r  (hS.pull 2)
  refine o_cc call_133 (args1 rfl) ((Calls.mono hcall (fun e w'' h => And.intro h.1 ((((h.2.pull 3).pull 1).pull 3).pull 3)))) ?_
  rintro e w' ⟨rfl, hS⟩
  refine ⟨_, rfl, ?_⟩
  replace hF := bd_s hF; obtain ⟨q7, q5s, hF⟩ := hF
  have hcall := c_stream_reader_bits q5s q1a ((hS.pull 2).pull 2)
  refine o_cc call_94 (args2 rfl rfl) hcall ?_
  rintro e w' ⟨rfl, hS⟩
  refine ⟨_, rfl, ?_⟩
  refine p (yl_field0 fld_183_2 rfl) <| p (yl_ixa (x := .tmp 25) (y := .tmp 18) (q := 5) arr_180 rfl rfl (by decide) rfl) <|
    ?_
  refine o_store1 (v := .int .i64 q7.1) one_3 rfl rfl rfl rfl (hS.pull 2) (fun w' hS => ?_)
  refine x_done <| x_blk <| x_region <| p (yadd (c := 4) rfl rfl ⟨rfl, by decide⟩) <|
    p (yl_move rfl) <| x_done <| x_un 0 <| x_seq <|
    x_region <| p (ylss_l (t := false) rfl rfl (by decide)) <| x_done <| x_seq <|
    x_cond_f (show ev _ _ = .bool false from rfl) <| x_exitTo _ rfl <| x_seq <| x_seq <|
    x_region <| p (yl_move rfl) <| x_done <| x_block <|
    x_unroll 4 <| x_seq <| x_region <| p (ylss_l (t := true) rfl rfl (by decide)) <|
    x_done <| x_seq <| x_cond_t (show ev _ _ = .bool true from rfl) <| x_skip <|
    x_seq <| x_block <| x_seq <| x_region <|
    p (yl_move rfl) <| p (yl_assign rfl) <| x_done <| x_seq <|
    x_region <| p (yl_move rfl) <| p (yl_move rfl) <| x_done <|
    ?_
  replace hF := bd_s hF; obtain ⟨oL11u4, hLL11u4, hF⟩ := hF
  refine x_join (fun E w => ∃ (q3 : Option Addr) (q1o : Nat) (c_b5_6_L11u4 : Nat) (q0e : List Value) (q1d : Int) (q1e : Bool) (q2 : List Int), (q1d, q1e, q2) = oL11u4 ∧ E 0 = .pointer (some ⟨q6, 0, none⟩) ∧ E 1 = .int .i64 tracks1 ∧ E 4 = .pointer (some ⟨b4, 0, none⟩) ∧ E 5 = .pointer (some ⟨b5, 0, none⟩) ∧ E 28 = .int .i64 0 ∧ RepL (RpI .i64) ρ q2 q0e ∧ St w0 w (cells q6 191 [.slice q0a r_0.fb.length c_r_0_0, .int .i64 q1d, .bool q1e] :: cells b4 183 [.int .u16 0, .bool false, .int .i64 0, .int .i64 0, .int .i64 0, .int .i64 0, .slice none 0 0, .slice none 0 0, .slice none 0 0, .slice none 0 0] :: cells b5 183 [.int .u16 x10, .bool (decide (q0o.1 = 1)), .int .i64 q0b.1, .int .i64 q0c.1, .int .i64 q0d.1, .int .i64 q7.1, .slice q3 q1o c_b5_6_L11u4, .slice none 0 0, .slice none 0 0, .slice none 0 0] :: vec 3 (RpI .i64).sz (.slice q3 q1o c_b5_6_L11u4) q1o q0e :: ro ρ :: l)) ?_ ?_
  · skip -- L11u4
    refine x_block ?_
    replace hS := St.vec_nil hS 3 (RpI .i64).sz
    have q3i : RepL (RpI .i64) ρ [] [] := rfl
    refine x_loop (fun k_ E w => ∃ (q0j : Option Addr) (q1f : Nat) (c_b5_6_L11u4h : Nat) (q0y : List Value) (q22 : Int) (q0z : Int) (q10 : Bool) (q0f : List Int), lp (P_stream_reader_tile_L11u4 r_0 tracks1) k_ (q22, q0z, q10, q0f) = some oL11u4 ∧ E 0 = .pointer (some ⟨q6, 0, none⟩) ∧ E 1 = .int .i64 tracks1 ∧ E 4 = .pointer (some ⟨b4, 0, none⟩) ∧ E 5 = .pointer (some ⟨b5, 0, none⟩) ∧ E 7 = .int .i64 0 ∧ E 28 = .int .i64 0 ∧ E 31 = .int .i64 tracks1 ∧ E 32 = .int .i64 q22 ∧ RepL (RpI .i64) ρ q0f q0y ∧ St w0 w (cells q6 191 [.slice q0a r_0.fb.length c_r_0_0, .int .i64 q0z, .bool q10] :: cells b4 183 [.int .u16 0, .bool false, .int .i64 0, .int .i64 0, .int .i64 0, .int .i64 0, .slice none 0 0, .slice none 0 0, .slice none 0 0, .slice none 0 0] :: cells b5 183 [.int .u16 x10, .bool (decide (q0o.1 = 1)), .int .i64 q0b.1, .int .i64 q0c.1, .int .i64 q0d.1, .int .i64 q7.1, .slice q0j q1f c_b5_6_L11u4h, .slice none 0 0, .slice none 0 0, .slice none 0 0] :: vec 3 (RpI .i64).sz (.slice q0j q1f c_b5_6_L11u4h) q1f q0y :: ro ρ :: l)) fuel ⟨none, 0, 0, [], 0, q7.2.1, q7.2.2, [], hLL11u4, rfl, rfl, rfl, rfl, rfl, rfl, rfl, rfl, q3i, (((((hS.pull 3).pull 1).pull 2).pull 4).pull 4)⟩ ?_
    rintro kL11u4 E w ⟨q0j, q1f, c_b5_6_L11u4h, q0y, q22, q0z, q10, q0f, hLL11u4, q3j, q4j, q4k, q3a, q3k, q46, q47, q48, q1w, hS⟩
    have e_ := St.vec_n (hS.pull 3) q1w; subst e_
    replace hLL11u4 := lp_s hLL11u4; obtain ⟨kL11u4, obL11u4, rfl, hFL11u4, hLL11u4⟩ := hLL11u4
    refine x_seq <| x_region <| p (yl_lss q48 q47) <| x_done <|
      x_seq <|
      x_cond_p (q22 < tracks1) rfl (fun hc33u4 => ?_) (fun hc33u4 => ?_)
    · replace hFL11u4 := it_t hc33u4 hFL11u4
      refine x_skip <| x_seq <| x_block <|
        ?_
      replace hFL11u4 := bd_s hFL11u4; obtain ⟨q0p, q4z, hFL11u4⟩ := hFL11u4
      replace hFL11u4 := lv_s hFL11u4; obtain ⟨q0q, q50, hFL11u4⟩ := hFL11u4
      replace hFL11u4 := ck_s hFL11u4; obtain ⟨q51, hFL11u4⟩ := hFL11u4
      refine x_par (w0 := w0) [⟨[], [], [34], [], [], []⟩, ⟨[], [], [35], [], [], []⟩, ⟨[], [], [36], [], [], []⟩, ⟨[1, 2], [1, 2], [37], [], [], []⟩, ⟨[1, 2, 3], [3], [38], [0], [], []⟩, ⟨[], [], [39], [], [], []⟩, ⟨[5], [5], [40], [2], [1], [3]⟩, ⟨[5, 6], [6], [41], [], [], [4]⟩, ⟨[1, 2, 3, 4, 5, 6, 7], [4, 7], [42], [4, 2], [5], [6]⟩, ⟨[], [], [43], [], [], []⟩, ⟨[0, 1, 2, 3, 4, 5, 6, 7, 8, 9], [0, 9], [44], [], [], []⟩, ⟨[0, 1, 2, 3, 4, 5, 6, 7, 8, 9, 10], [8, 10], [], [], [0], [7]⟩] [⟨none, (some 11), []⟩, ⟨none, (some 6), []⟩, ⟨none, none, []⟩, ⟨(some 6), none, []⟩, ⟨(some 7), none, [41]⟩, ⟨none, (some 8), []⟩, ⟨(some 8), none, [42]⟩, ⟨(some 11), none, [42]⟩] [34, 35, 36, 37, 38, 39, 40, 41, 42, 43, 44] [0, 1, 2, 5] [2, 3, 4, 6, 7] [0, 1, 2, 3, 4, 5, 6, 7, 8, 9, 10] [fun Ep12u4 => Ep12u4 34 = .int .i64 0, fun Ep12u4 => Ep12u4 35 = .int .i64 0, fun Ep12u4 => Ep12u4 36 = .pointer (some ⟨b5, 6, none⟩), fun Ep12u4 => Ep12u4 37 = .pointer (some ⟨b5, 6, none⟩), fun Ep12u4 => Ep12u4 38 = .slice q0j q0f.length c_b5_6_L11u4h, fun Ep12u4 => Ep12u4 39 = .pointer (some ⟨q6, 0, none⟩), fun Ep12u4 => Ep12u4 40 = .int .i64 q0p.1, fun Ep12u4 => Ep12u4 41 = .slice (some ⟨(blkOf (Ep12u4 41)), 0, none⟩) 1 1, fun Ep12u4 => Ep12u4 42 = .slice (adOf (Ep12u4 42)) q0q.length (capOf (Ep12u4 42)), fun Ep12u4 => Ep12u4 43 = .pointer (some ⟨b5, 6, none⟩), fun Ep12u4 => Ep12u4 44 = .pointer (some ⟨b5, 6, none⟩), fun Ep12u4 => True] [fun Ep12u4 => cells b5 183 [.int .u16 x10, .bool (decide (q0o.1 = 1)), .int .i64 q0b.1, .int .i64 q0c.1, .int .i64 q0d.1, .int .i64 q7.1, .slice q0j q0f.length c_b5_6_L11u4h, .slice none 0 0, .slice none 0 0, .slice none 0 0], fun Ep12u4 => cells q6 191 [.slice q0a r_0.fb.length c_r_0_0, .int .i64 q0z, .bool q10], fun Ep12u4 => ro ρ, fun Ep12u4 => cells q6 191 [.slice q0a r_0.fb.length c_r_0_0, .int .i64 q0p.2.1, .bool q0p.2.2], fun Ep12u4 => cells (blkOf (Ep12u4 41)) 3 [.int .i64 q0p.1], fun Ep12u4 => vec 3 (RpI .i64).sz (.slice q0j q0f.length c_b5_6_L11u4h) q0f.length q0y, fun Ep12u4 => bunA (fun (cs42u4 : List Value) => RepL (RpI .i64) ρ q0q cs42u4) (fun (cs42u4 : List Value) => [vec 3 (RpI .i64).sz (.slice (adOf (Ep12u4 42)) q0q.length (capOf (Ep12u4 42))) q0q.length cs42u4]), fun Ep12u4 => cells b5 183 [.int .u16 x10, .bool (decide (q0o.1 = 1)), .int .i64 q0b.1, .int .i64 q0c.1, .int .i64 q0d.1, .int .i64 q7.1, .slice (adOf (Ep12u4 42)) q0q.length (capOf (Ep12u4 42)), .slice none 0 0, .slice none 0 0, .slice none 0 0]] mixed (by kernel_rfl) ((((hS.pull 3).pull 4).pull 2).pull 4) ?_ ?_
      · refine ⟨?_, ?_, ?_, ?_, ?_, ?_, ?_, ?_, ?_, ?_, ?_, ?_, trivial⟩
        · intro Ep12u4 w l' hE12u4 hO12u4 hF_ hS
          refine p (yl_move ((hE12u4 7 rfl).trans q3k)) <| x_done <|
            ?_
          refine x_fin ⟨⟨_, rfl⟩, rfl, ?_⟩
          exact Eq.mp (by kernel_rfl) hS
        · intro Ep12u4 w l' hE12u4 hO12u4 hF_ hS
          refine p (yl_move ((hE12u4 7 rfl).trans q3k)) <| x_done <|
            ?_
          refine x_fin ⟨⟨_, rfl⟩, rfl, ?_⟩
          exact Eq.mp (by kernel_rfl) hS
        · intro Ep12u4 w l' hE12u4 hO12u4 hF_ hS
          refine p (yl_field0 fld_183_3 ((hE12u4 5 rfl).trans q3a)) <| x_done <|
            ?_
          refine x_fin ⟨⟨_, rfl⟩, rfl, ?_⟩
          exact Eq.mp (by kernel_rfl) hS
        · intro Ep12u4 w l' hE12u4 hO12u4 hF_ hS
          obtain ⟨q26, q27, -⟩ := hF_
          replace q26 : Ep12u4 35 = .int .i64 0 := Eq.mp (by kernel_rfl) q26
          replace q27 : Ep12u4 36 = .pointer (some ⟨b5, 6, none⟩) := Eq.mp (by kernel_rfl) q27
          refine p (yl_ixa (x := .tmp 36) (y := .tmp 35) (q := 6) arr_181 q27 q26 (by decide) rfl) <| x_done <|
            ?_
          refine x_fin ⟨⟨_, rfl⟩, rfl, ?_⟩
          exact Eq.mp (by kernel_rfl) hS
        · intro Ep12u4 w l' hE12u4 hO12u4 hF_ hS
          obtain ⟨q28, -⟩ := hF_
          replace q28 : Ep12u4 37 = .pointer (some ⟨b5, 6, none⟩) := Eq.mp (by kernel_rfl) q28
          replace hS : St w0 w (cells b5 183 [.int .u16 x10, .bool (decide (q0o.1 = 1)), .int .i64 q0b.1, .int .i64 q0c.1, .int .i64 q0d.1, .int .i64 q7.1, .slice q0j q0f.length c_b5_6_L11u4h, .slice none 0 0, .slice none 0 0, .slice none 0 0] :: l') := Eq.mp (by kernel_rfl) hS
          refine pa (at_load one_22 q28 (hS.cell rfl)) <| x_done <|
            ?_
          refine x_fin ⟨⟨_, rfl⟩, rfl, ?_⟩
          exact Eq.mp (by kernel_rfl) hS
        · intro Ep12u4 w l' hE12u4 hO12u4 hF_ hS
          refine p (yl_move ((hE12u4 0 rfl).trans q3j)) <| x_done <|
            ?_
          refine x_fin ⟨⟨_, rfl⟩, rfl, ?_⟩
          exact Eq.mp (by kernel_rfl) hS
        · intro Ep12u4 w l' hE12u4 hO12u4 hF_ hS
          obtain ⟨q29, -⟩ := hF_
          replace q29 : Ep12u4 39 = .pointer (some ⟨q6, 0, none⟩) := Eq.mp (by kernel_rfl) q29
          replace hS : St w0 w (ro ρ :: cells q6 191 [.slice q0a r_0.fb.length c_r_0_0, .int .i64 q0z, .bool q10] :: l') := Eq.mp (by kernel_rfl) hS
          have hcall := c_stream_reader_bits q4z q1a (hS.pull 1)
          refine o_cc call_94 (args2 q29 rfl) hcall ?_
          rintro e w' ⟨rfl, hS⟩
          refine ⟨_, rfl, ?_⟩
          refine x_done <|
            ?_
          refine x_fin ⟨⟨_, rfl⟩, rfl, ?_⟩
          exact Eq.mp (by kernel_rfl) (hS.pull 1)
        · intro Ep12u4 w l' hE12u4 hO12u4 hF_ hS
          obtain ⟨q2a, -⟩ := hF_
          replace q2a : Ep12u4 40 = .int .i64 q0p.1 := Eq.mp (by kernel_rfl) q2a
          refine o_buildSlice (vs := [.int .i64 q0p.1]) (cs := [.int .i64 q0p.1]) sl_22 zero_3 (parts_eq (pt (va := .int .i64 q0p.1) q2a pt0)) rfl (by intro v hv; simp only [List.mem_cons, List.not_mem_nil, or_false] at hv; first | (subst hv; rfl) | (rcases hv with rfl <;> rfl)) (by decide) rfl hS (fun b41u4 w' hS => ?_)
          refine x_done <|
            ?_
          refine x_fin ⟨⟨_, rfl⟩, rfl, ?_⟩
          exact Eq.mp (by kernel_rfl) hS
        · intro Ep12u4 w l' hE12u4 hO12u4 hF_ hS
          obtain ⟨q2b, q2c, -⟩ := hF_
          replace q2b : Ep12u4 38 = .slice q0j q0f.length c_b5_6_L11u4h := Eq.mp (by kernel_rfl) q2b
          replace q2c : Ep12u4 41 = .slice (some ⟨(blkOf (Ep12u4 41)), 0, none⟩) 1 1 := Eq.mp (by kernel_rfl) q2c
          replace hS : St w0 w (cells (blkOf (Ep12u4 41)) 3 [.int .i64 q0p.1] :: ro ρ :: vec 3 (RpI .i64).sz (.slice q0j q0f.length c_b5_6_L11u4h) q0f.length q0y :: l') := Eq.mp (by kernel_rfl) hS
          refine o_ap sl_22 zero_3 rfl (by decide) q2b q2c (hS.pull 2) q1w (src_blk usl_22 hS rfl rfl) (RepL.cons (R := (RpI .i64)) (ρ := ρ) (x := q0p.1) (cs := [.int .i64 q0p.1]) rfl RepL.nil) q50 q51 (fun A42u4 c42u4 cs42u4 w' hr42u4 hS => ?_)
          refine x_done <|
            ?_
          refine x_fin ⟨⟨_, rfl⟩, rfl, ?_⟩
          replace hS := St.bun (Φ := (fun (cs42u4 : List Value) => RepL (RpI .i64) ρ q0q cs42u4)) (L := (fun (cs42u4 : List Value) => [vec 3 (RpI .i64).sz (.slice A42u4 q0q.length c42u4) q0q.length cs42u4])) cs42u4 hr42u4 hS
          exact Eq.mp (by kernel_rfl) ((hS.pull 2).pull 2)
        · intro Ep12u4 w l' hE12u4 hO12u4 hF_ hS
          refine p (yl_field0 fld_183_3 ((hE12u4 5 rfl).trans q3a)) <| x_done <|
            ?_
          refine x_fin ⟨⟨_, rfl⟩, rfl, ?_⟩
          exact Eq.mp (by kernel_rfl) hS
        · intro Ep12u4 w l' hE12u4 hO12u4 hF_ hS
          obtain ⟨q2d, q2e, -⟩ := hF_
          replace q2d : Ep12u4 34 = .int .i64 0 := Eq.mp (by kernel_rfl) q2d
          replace q2e : Ep12u4 43 = .pointer (some ⟨b5, 6, none⟩) := Eq.mp (by kernel_rfl) q2e
          refine p (yl_ixa (x := .tmp 43) (y := .tmp 34) (q := 6) arr_181 q2e q2d (by decide) rfl) <| x_done <|
            ?_
          refine x_fin ⟨⟨_, rfl⟩, rfl, ?_⟩
          exact Eq.mp (by kernel_rfl) hS
        · intro Ep12u4 w l' hE12u4 hO12u4 hF_ hS
          obtain ⟨q2f, q1s, -⟩ := hF_
          replace q2f : Ep12u4 42 = .slice (adOf (Ep12u4 42)) q0q.length (capOf (Ep12u4 42)) := Eq.mp (by kernel_rfl) q2f
          replace q1s : Ep12u4 44 = .pointer (some ⟨b5, 6, none⟩) := Eq.mp (by kernel_rfl) q1s
          replace hS : St w0 w (cells b5 183 [.int .u16 x10, .bool (decide (q0o.1 = 1)), .int .i64 q0b.1, .int .i64 q0c.1, .int .i64 q0d.1, .int .i64 q7.1, .slice q0j q0f.length c_b5_6_L11u4h, .slice none 0 0, .slice none 0 0, .slice none 0 0] :: l') := Eq.mp (by kernel_rfl) hS
          refine o_store1 (v := .slice (adOf (Ep12u4 42)) q0q.length (capOf (Ep12u4 42))) one_22 q1s q2f rfl rfl hS (fun w' hS => ?_)
          refine x_done <|
            ?_
          refine x_fin ⟨⟨undef, rfl⟩, trivial, ?_⟩
          exact Eq.mp (by kernel_rfl) hS
      intro Ep12u4 w' hE12u4 hF_ hS
      obtain ⟨q2d, q26, q27, q28, q2b, q29, q2a, q2c, q2f, q2e, q1s, -⟩ := hF_
      replace q2d : Ep12u4 34 = .int .i64 0 := Eq.mp (by kernel_rfl) q2d
      replace q26 : Ep12u4 35 = .int .i64 0 := Eq.mp (by kernel_rfl) q26
      replace q27 : Ep12u4 36 = .pointer (some ⟨b5, 6, none⟩) := Eq.mp (by kernel_rfl) q27
      replace q28 : Ep12u4 37 = .pointer (some ⟨b5, 6, none⟩) := Eq.mp (by kernel_rfl) q28
      replace q2b : Ep12u4 38 = .slice q0j q0f.length c_b5_6_L11u4h := Eq.mp (by kernel_rfl) q2b
      replace q29 : Ep12u4 39 = .pointer (some ⟨q6, 0, none⟩) := Eq.mp (by kernel_rfl) q29
      replace q2a : Ep12u4 40 = .int .i64 q0p.1 := Eq.mp (by kernel_rfl) q2a
      replace q2c : Ep12u4 41 = .slice (some ⟨(blkOf (Ep12u4 41)), 0, none⟩) 1 1 := Eq.mp (by kernel_rfl) q2c
      replace q2f : Ep12u4 42 = .slice (adOf (Ep12u4 42)) q0q.length (capOf (Ep12u4 42)) := Eq.mp (by kernel_rfl) q2f
      replace q2e : Ep12u4 43 = .pointer (some ⟨b5, 6, none⟩) := Eq.mp (by kernel_rfl) q2e
      replace q1s : Ep12u4 44 = .pointer (some ⟨b5, 6, none⟩) := Eq.mp (by kernel_rfl) q1s
      replace hS : St w0 w' (ro ρ :: cells q6 191 [.slice q0a r_0.fb.length c_r_0_0, .int .i64 q0p.2.1, .bool q0p.2.2] :: cells (blkOf (Ep12u4 41)) 3 [.int .i64 q0p.1] :: bunA (fun (cs42u4 : List Value) => RepL (RpI .i64) ρ q0q cs42u4) (fun (cs42u4 : List Value) => [vec 3 (RpI .i64).sz (.slice (adOf (Ep12u4 42)) q0q.length (capOf (Ep12u4 42))) q0q.length cs42u4]) :: cells b5 183 [.int .u16 x10, .bool (decide (q0o.1 = 1)), .int .i64 q0b.1, .int .i64 q0c.1, .int .i64 q0d.1, .int .i64 q7.1, .slice (adOf (Ep12u4 42)) q0q.length (capOf (Ep12u4 42)), .slice none 0 0, .slice none 0 0, .slice none 0 0] :: (cells b4 183 [.int .u16 0, .bool false, .int .i64 0, .int .i64 0, .int .i64 0, .int .i64 0, .slice none 0 0, .slice none 0 0, .slice none 0 0, .slice none 0 0] :: l)) := Eq.mp (by kernel_rfl) hS
      have q_ := St.unbun (hS.pull 3); obtain ⟨cs42u4, hr42u4, hS⟩ := q_
      replace hFL11u4 := ar_s hFL11u4; obtain ⟨x45u4, hx45u4, hFL11u4⟩ := hFL11u4
      refine x_blk <| x_region <| p (yadd ((hE12u4 32 rfl).trans q48) rfl hx45u4) <| p (yl_move rfl) <|
        x_done <|
        ?_
      have e_ := Option.some.inj (show some _ = some _ from hFL11u4); subst e_
      exact x_inv ⟨kL11u4, Nat.lt_succ_self _, (adOf (Ep12u4 42)), q0q.length, (capOf (Ep12u4 42)), cs42u4, x45u4, q0p.2.1, q0p.2.2, q0q, hLL11u4, ((hE12u4 0 rfl).trans q3j), ((hE12u4 1 rfl).trans q4j), ((hE12u4 4 rfl).trans q4k), ((hE12u4 5 rfl).trans q3a), ((hE12u4 7 rfl).trans q3k), ((hE12u4 28 rfl).trans q46), ((hE12u4 31 rfl).trans q47), rfl, hr42u4, ((((((hS.pull 3).drop.pull 1).pull 1).pull 3).pull 4).pull 4)⟩
    · replace hFL11u4 := it_f hc33u4 hFL11u4
      refine x_exitTo _ rfl <|
        ?_
      have e_ := Option.some.inj (show some _ = some _ from hFL11u4); subst e_
      exact x_inv ⟨q0j, q0f.length, c_b5_6_L11u4h, q0y, q0z, q10, q0f, hLL11u4, q3j, q4j, q4k, q3a, q46, q1w, (((((hS.pull 4).pull 4).pull 4).pull 4).pull 4)⟩
  rintro E w ⟨q3, q1o, c_b5_6_L11u4, q0e, q1d, q1e, q2, rfl, q52, q4r, q53, q54, q4v, q3l, hS⟩
  have e_ := St.vec_n (hS.pull 3) q3l; subst e_
  refine x_blk <| x_region <| p (yadd (c := 1) q4v rfl ⟨rfl, by decide⟩) <| p (yl_move rfl) <|
    x_done <| x_un 3 <| x_seq <| x_region <|
    p (ylss_l (t := true) rfl rfl (by decide)) <| x_done <| x_seq <| x_cond_t (show ev _ _ = .bool true from rfl) <|
    x_skip <| x_seq <| x_block <| x_seq <|
    x_region <| p (yl_move rfl) <| p (yl_assign rfl) <| x_done <|
    x_seq <| x_region <| p (yl_move q4r) <| p (yl_move rfl) <|
    x_done <|
    ?_
  replace hF := bd_s hF; obtain ⟨oL11u3, hLL11u3, hF⟩ := hF
  refine x_join (fun E w => ∃ (q5 : Option Addr) (q1p : Nat) (c_b5_7_L11u3 : Nat) (q0n : List Value) (q1g : Int) (q1h : Bool) (q4 : List Int), (q1g, q1h, q4) = oL11u3 ∧ E 0 = .pointer (some ⟨q6, 0, none⟩) ∧ E 1 = .int .i64 tracks1 ∧ E 4 = .pointer (some ⟨b4, 0, none⟩) ∧ E 5 = .pointer (some ⟨b5, 0, none⟩) ∧ E 28 = .int .i64 1 ∧ RepL (RpI .i64) ρ q4 q0n ∧ St w0 w (cells q6 191 [.slice q0a r_0.fb.length c_r_0_0, .int .i64 q1g, .bool q1h] :: cells b4 183 [.int .u16 0, .bool false, .int .i64 0, .int .i64 0, .int .i64 0, .int .i64 0, .slice none 0 0, .slice none 0 0, .slice none 0 0, .slice none 0 0] :: cells b5 183 [.int .u16 x10, .bool (decide (q0o.1 = 1)), .int .i64 q0b.1, .int .i64 q0c.1, .int .i64 q0d.1, .int .i64 q7.1, .slice q3 q2.length c_b5_6_L11u4, .slice q5 q1p c_b5_7_L11u3, .slice none 0 0, .slice none 0 0] :: vec 3 (RpI .i64).sz (.slice q3 q2.length c_b5_6_L11u4) q2.length q0e :: vec 3 (RpI .i64).sz (.slice q5 q1p c_b5_7_L11u3) q1p q0n :: ro ρ :: l)) ?_ ?_
  · skip -- L11u3
    refine x_block ?_
    replace hS := St.vec_nil hS 3 (RpI .i64).sz
    have q3m : RepL (RpI .i64) ρ [] [] := rfl
    refine x_loop (fun k_ E w => ∃ (q0k : Option Addr) (q1i : Nat) (c_b5_7_L11u3h : Nat) (q11 : List Value) (q23 : Int) (q12 : Int) (q13 : Bool) (q0g : List Int), lp (P_stream_reader_tile_L11u3 r_0 tracks1) k_ (q23, q12, q13, q0g) = some oL11u3 ∧ E 0 = .pointer (some ⟨q6, 0, none⟩) ∧ E 1 = .int .i64 tracks1 ∧ E 4 = .pointer (some ⟨b4, 0, none⟩) ∧ E 5 = .pointer (some ⟨b5, 0, none⟩) ∧ E 7 = .int .i64 1 ∧ E 28 = .int .i64 1 ∧ E 31 = .int .i64 tracks1 ∧ E 32 = .int .i64 q23 ∧ RepL (RpI .i64) ρ q0g q11 ∧ St w0 w (cells q6 191 [.slice q0a r_0.fb.length c_r_0_0, .int .i64 q12, .bool q13] :: cells b4 183 [.int .u16 0, .bool false, .int .i64 0, .int .i64 0, .int .i64 0, .int .i64 0, .slice none 0 0, .slice none 0 0, .slice none 0 0, .slice none 0 0] :: cells b5 183 [.int .u16 x10, .bool (decide (q0o.1 = 1)), .int .i64 q0b.1, .int .i64 q0c.1, .int .i64 q0d.1, .int .i64 q7.1, .slice q3 q2.length c_b5_6_L11u4, .slice q0k q1i c_b5_7_L11u3h, .slice none 0 0, .slice none 0 0] :: vec 3 (RpI .i64).sz (.slice q3 q2.length c_b5_6_L11u4) q2.length q0e :: vec 3 (RpI .i64).sz (.slice q0k q1i c_b5_7_L11u3h) q1i q11 :: ro ρ :: l)) fuel ⟨none, 0, 0, [], 0, q1d, q1e, [], hLL11u3, q52, q4r, q53, q54, rfl, rfl, rfl, rfl, q3m, ((((((hS.pull 5).pull 1).pull 5).pull 5).pull 5).pull 5)⟩ ?_
    rintro kL11u3 E w ⟨q0k, q1i, c_b5_7_L11u3h, q11, q23, q12, q13, q0g, hLL11u3, q3n, q4l, q4m, q3b, q3o, q49, q4a, q4b, q1x, hS⟩
    have e_ := St.vec_n (hS.pull 4) q1x; subst e_
    replace hLL11u3 := lp_s hLL11u3; obtain ⟨kL11u3, obL11u3, rfl, hFL11u3, hLL11u3⟩ := hLL11u3
    refine x_seq <| x_region <| p (yl_lss q4b q4a) <| x_done <|
      x_seq <|
      x_cond_p (q23 < tracks1) rfl (fun hc33u3 => ?_) (fun hc33u3 => ?_)
    · replace hFL11u3 := it_t hc33u3 hFL11u3
      refine x_skip <| x_seq <| x_block <|
        ?_
      replace hFL11u3 := bd_s hFL11u3; obtain ⟨q0r, q55, hFL11u3⟩ := hFL11u3
      replace hFL11u3 := lv_s hFL11u3; obtain ⟨q0s, q56, hFL11u3⟩ := hFL11u3
      replace hFL11u3 := ck_s hFL11u3; obtain ⟨q57, hFL11u3⟩ := hFL11u3
      refine x_par (w0 := w0) [⟨[], [], [34], [], [], []⟩, ⟨[], [], [35], [], [], []⟩, ⟨[], [], [36], [], [], []⟩, ⟨[1, 2], [1, 2], [37], [], [], []⟩, ⟨[1, 2, 3], [3], [38], [0], [], []⟩, ⟨[], [], [39], [], [], []⟩, ⟨[5], [5], [40], [2], [1], [3]⟩, ⟨[5, 6], [6], [41], [], [], [4]⟩, ⟨[1, 2, 3, 4, 5, 6, 7], [4, 7], [42], [4, 2], [5], [6]⟩, ⟨[], [], [43], [], [], []⟩, ⟨[0, 1, 2, 3, 4, 5, 6, 7, 8, 9], [0, 9], [44], [], [], []⟩, ⟨[0, 1, 2, 3, 4, 5, 6, 7, 8, 9, 10], [8, 10], [], [], [0], [7]⟩] [⟨none, (some 11), []⟩, ⟨none, (some 6), []⟩, ⟨none, none, []⟩, ⟨(some 6), none, []⟩, ⟨(some 7), none, [41]⟩, ⟨none, (some 8), []⟩, ⟨(some 8), none, [42]⟩, ⟨(some 11), none, [42]⟩] [34, 35, 36, 37, 38, 39, 40, 41, 42, 43, 44] [0, 1, 2, 5] [2, 3, 4, 6, 7] [0, 1, 2, 3, 4, 5, 6, 7, 8, 9, 10] [fun Ep12u3 => Ep12u3 34 = .int .i64 1, fun Ep12u3 => Ep12u3 35 = .int .i64 1, fun Ep12u3 => Ep12u3 36 = .pointer (some ⟨b5, 6, none⟩), fun Ep12u3 => Ep12u3 37 = .pointer (some ⟨b5, 7, none⟩), fun Ep12u3 => Ep12u3 38 = .slice q0k q0g.length c_b5_7_L11u3h, fun Ep12u3 => Ep12u3 39 = .pointer (some ⟨q6, 0, none⟩), fun Ep12u3 => Ep12u3 40 = .int .i64 q0r.1, fun Ep12u3 => Ep12u3 41 = .slice (some ⟨(blkOf (Ep12u3 41)), 0, none⟩) 1 1, fun Ep12u3 => Ep12u3 42 = .slice (adOf (Ep12u3 42)) q0s.length (capOf (Ep12u3 42)), fun Ep12u3 => Ep12u3 43 = .pointer (some ⟨b5, 6, none⟩), fun Ep12u3 => Ep12u3 44 = .pointer (some ⟨b5, 7, none⟩), fun Ep12u3 => True] [fun Ep12u3 => cells b5 183 [.int .u16 x10, .bool (decide (q0o.1 = 1)), .int .i64 q0b.1, .int .i64 q0c.1, .int .i64 q0d.1, .int .i64 q7.1, .slice q3 q2.length c_b5_6_L11u4, .slice q0k q0g.length c_b5_7_L11u3h, .slice none 0 0, .slice none 0 0], fun Ep12u3 => cells q6 191 [.slice q0a r_0.fb.length c_r_0_0, .int .i64 q12, .bool q13], fun Ep12u3 => ro ρ, fun Ep12u3 => cells q6 191 [.slice q0a r_0.fb.length c_r_0_0, .int .i64 q0r.2.1, .bool q0r.2.2], fun Ep12u3 => cells (blkOf (Ep12u3 41)) 3 [.int .i64 q0r.1], fun Ep12u3 => vec 3 (RpI .i64).sz (.slice q0k q0g.length c_b5_7_L11u3h) q0g.length q11, fun Ep12u3 => bunA (fun (cs42u3 : List Value) => RepL (RpI .i64) ρ q0s cs42u3) (fun (cs42u3 : List Value) => [vec 3 (RpI .i64).sz (.slice (adOf (Ep12u3 42)) q0s.length (capOf (Ep12u3 42))) q0s.length cs42u3]), fun Ep12u3 => cells b5 183 [.int .u16 x10, .bool (decide (q0o.1 = 1)), .int .i64 q0b.1, .int .i64 q0c.1, .int .i64 q0d.1, .int .i64 q7.1, .slice q3 q2.length c_b5_6_L11u4, .slice (adOf (Ep12u3 42)) q0s.length (capOf (Ep12u3 42)), .slice none 0 0, .slice none 0 0]] mixed (by kernel_rfl) ((((hS.pull 4).pull 5).pull 2).pull 4) ?_ ?_
      · refine ⟨?_, ?_, ?_, ?_, ?_, ?_, ?_, ?_, ?_, ?_, ?_, ?_, trivial⟩
        · intro Ep12u3 w l' hE12u3 hO12u3 hF_ hS
          refine p (yl_move ((hE12u3 7 rfl).trans q3o)) <| x_done <|
            ?_
          refine x_fin ⟨⟨_, rfl⟩, rfl, ?_⟩
          exact Eq.mp (by kernel_rfl) hS
        · intro Ep12u3 w l' hE12u3 hO12u3 hF_ hS
          refine p (yl_move ((hE12u3 7 rfl).trans q3o)) <| x_done <|
            ?_
          refine x_fin ⟨⟨_, rfl⟩, rfl, ?_⟩
          exact Eq.mp (by kernel_rfl) hS
        · intro Ep12u3 w l' hE12u3 hO12u3 hF_ hS
          refine p (yl_field0 fld_183_3 ((hE12u3 5 rfl).trans q3b)) <| x_done <|
            ?_
          refine x_fin ⟨⟨_, rfl⟩, rfl, ?_⟩
          exact Eq.mp (by kernel_rfl) hS
        · intro Ep12u3 w l' hE12u3 hO12u3 hF_ hS
          obtain ⟨q2g, q2h, -⟩ := hF_
          replace q2g : Ep12u3 35 = .int .i64 1 := Eq.mp (by kernel_rfl) q2g
          replace q2h : Ep12u3 36 = .pointer (some ⟨b5, 6, none⟩) := Eq.mp (by kernel_rfl) q2h
          refine p (yl_ixa (x := .tmp 36) (y := .tmp 35) (q := 7) arr_181 q2h q2g (by decide) rfl) <| x_done <|
            ?_
          refine x_fin ⟨⟨_, rfl⟩, rfl, ?_⟩
          exact Eq.mp (by kernel_rfl) hS
        · intro Ep12u3 w l' hE12u3 hO12u3 hF_ hS
          obtain ⟨q2i, -⟩ := hF_
          replace q2i : Ep12u3 37 = .pointer (some ⟨b5, 7, none⟩) := Eq.mp (by kernel_rfl) q2i
          replace hS : St w0 w (cells b5 183 [.int .u16 x10, .bool (decide (q0o.1 = 1)), .int .i64 q0b.1, .int .i64 q0c.1, .int .i64 q0d.1, .int .i64 q7.1, .slice q3 q2.length c_b5_6_L11u4, .slice q0k q0g.length c_b5_7_L11u3h, .slice none 0 0, .slice none 0 0] :: l') := Eq.mp (by kernel_rfl) hS
          refine pa (at_load one_22 q2i (hS.cell rfl)) <| x_done <|
            ?_
          refine x_fin ⟨⟨_, rfl⟩, rfl, ?_⟩
          exact Eq.mp (by kernel_rfl) hS
        · intro Ep12u3 w l' hE12u3 hO12u3 hF_ hS
          refine p (yl_move ((hE12u3 0 rfl).trans q3n)) <| x_done <|
            ?_
          refine x_fin ⟨⟨_, rfl⟩, rfl, ?_⟩
          exact Eq.mp (by kernel_rfl) hS
        · intro Ep12u3 w l' hE12u3 hO12u3 hF_ hS
          obtain ⟨q2j, -⟩ := hF_
          replace q2j : Ep12u3 39 = .pointer (some ⟨q6, 0, none⟩) := Eq.mp (by kernel_rfl) q2j
          replace hS : St w0 w (ro ρ :: cells q6 191 [.slice q0a r_0.fb.length c_r_0_0, .int .i64 q12, .bool q13] :: l') := Eq.mp (by kernel_rfl) hS
          have hcall := c_stream_reader_bits q55 q1a (hS.pull 1)
          refine o_cc call_94 (args2 q2j rfl) hcall ?_
          rintro e w' ⟨rfl, hS⟩
          refine ⟨_, rfl, ?_⟩
          refine x_done <|
            ?_
          refine x_fin ⟨⟨_, rfl⟩, rfl, ?_⟩
          exact Eq.mp (by kernel_rfl) (hS.pull 1)
        · intro Ep12u3 w l' hE12u3 hO12u3 hF_ hS
          obtain ⟨q2k, -⟩ := hF_
          replace q2k : Ep12u3 40 = .int .i64 q0r.1 := Eq.mp (by kernel_rfl) q2k
          refine o_buildSlice (vs := [.int .i64 q0r.1]) (cs := [.int .i64 q0r.1]) sl_22 zero_3 (parts_eq (pt (va := .int .i64 q0r.1) q2k pt0)) rfl (by intro v hv; simp only [List.mem_cons, List.not_mem_nil, or_false] at hv; first | (subst hv; rfl) | (rcases hv with rfl <;> rfl)) (by decide) rfl hS (fun b41u3 w' hS => ?_)
          refine x_done <|
            ?_
          refine x_fin ⟨⟨_, rfl⟩, rfl, ?_⟩
          exact Eq.mp (by kernel_rfl) hS
        · intro Ep12u3 w l' hE12u3 hO12u3 hF_ hS
          obtain ⟨q2l, q2m, -⟩ := hF_
          replace q2l : Ep12u3 38 = .slice q0k q0g.length c_b5_7_L11u3h := Eq.mp (by kernel_rfl) q2l
          replace q2m : Ep12u3 41 = .slice (some ⟨(blkOf (Ep12u3 41)), 0, none⟩) 1 1 := Eq.mp (by kernel_rfl) q2m
          replace hS : St w0 w (cells (blkOf (Ep12u3 41)) 3 [.int .i64 q0r.1] :: ro ρ :: vec 3 (RpI .i64).sz (.slice q0k q0g.length c_b5_7_L11u3h) q0g.length q11 :: l') := Eq.mp (by kernel_rfl) hS
          refine o_ap sl_22 zero_3 rfl (by decide) q2l q2m (hS.pull 2) q1x (src_blk usl_22 hS rfl rfl) (RepL.cons (R := (RpI .i64)) (ρ := ρ) (x := q0r.1) (cs := [.int .i64 q0r.1]) rfl RepL.nil) q56 q57 (fun A42u3 c42u3 cs42u3 w' hr42u3 hS => ?_)
          refine x_done <|
            ?_
          refine x_fin ⟨⟨_, rfl⟩, rfl, ?_⟩
          replace hS := St.bun (Φ := (fun (cs42u3 : List Value) => RepL (RpI .i64) ρ q0s cs42u3)) (L := (fun (cs42u3 : List Value) => [vec 3 (RpI .i64).sz (.slice A42u3 q0s.length c42u3) q0s.length cs42u3])) cs42u3 hr42u3 hS
          exact Eq.mp (by kernel_rfl) ((hS.pull 2).pull 2)
        · intro Ep12u3 w l' hE12u3 hO12u3 hF_ hS
          refine p (yl_field0 fld_183_3 ((hE12u3 5 rfl).trans q3b)) <| x_done <|
            ?_
          refine x_fin ⟨⟨_, rfl⟩, rfl, ?_⟩
          exact Eq.mp (by kernel_rfl) hS
        · intro Ep12u3 w l' hE12u3 hO12u3 hF_ hS
          obtain ⟨q2n, q2o, -⟩ := hF_
          replace q2n : Ep12u3 34 = .int .i64 1 := Eq.mp (by kernel_rfl) q2n
          replace q2o : Ep12u3 43 = .pointer (some ⟨b5, 6, none⟩) := Eq.mp (by kernel_rfl) q2o
          refine p (yl_ixa (x := .tmp 43) (y := .tmp 34) (q := 7) arr_181 q2o q2n (by decide) rfl) <| x_done <|
            ?_
          refine x_fin ⟨⟨_, rfl⟩, rfl, ?_⟩
          exact Eq.mp (by kernel_rfl) hS
        · intro Ep12u3 w l' hE12u3 hO12u3 hF_ hS
          obtain ⟨q2p, q1t, -⟩ := hF_
          replace q2p : Ep12u3 42 = .slice (adOf (Ep12u3 42)) q0s.length (capOf (Ep12u3 42)) := Eq.mp (by kernel_rfl) q2p
          replace q1t : Ep12u3 44 = .pointer (some ⟨b5, 7, none⟩) := Eq.mp (by kernel_rfl) q1t
          replace hS : St w0 w (cells b5 183 [.int .u16 x10, .bool (decide (q0o.1 = 1)), .int .i64 q0b.1, .int .i64 q0c.1, .int .i64 q0d.1, .int .i64 q7.1, .slice q3 q2.length c_b5_6_L11u4, .slice q0k q0g.length c_b5_7_L11u3h, .slice none 0 0, .slice none 0 0] :: l') := Eq.mp (by kernel_rfl) hS
          refine o_store1 (v := .slice (adOf (Ep12u3 42)) q0s.length (capOf (Ep12u3 42))) one_22 q1t q2p rfl rfl hS (fun w' hS => ?_)
          refine x_done <|
            ?_
          refine x_fin ⟨⟨undef, rfl⟩, trivial, ?_⟩
          exact Eq.mp (by kernel_rfl) hS
      intro Ep12u3 w' hE12u3 hF_ hS
      obtain ⟨q2n, q2g, q2h, q2i, q2l, q2j, q2k, q2m, q2p, q2o, q1t, -⟩ := hF_
      replace q2n : Ep12u3 34 = .int .i64 1 := Eq.mp (by kernel_rfl) q2n
      replace q2g : Ep12u3 35 = .int .i64 1 := Eq.mp (by kernel_rfl) q2g
      replace q2h : Ep12u3 36 = .pointer (some ⟨b5, 6, none⟩) := Eq.mp (by kernel_rfl) q2h
      replace q2i : Ep12u3 37 = .pointer (some ⟨b5, 7, none⟩) := Eq.mp (by kernel_rfl) q2i
      replace q2l : Ep12u3 38 = .slice q0k q0g.length c_b5_7_L11u3h := Eq.mp (by kernel_rfl) q2l
      replace q2j : Ep12u3 39 = .pointer (some ⟨q6, 0, none⟩) := Eq.mp (by kernel_rfl) q2j
      replace q2k : Ep12u3 40 = .int .i64 q0r.1 := Eq.mp (by kernel_rfl) q2k
      replace q2m : Ep12u3 41 = .slice (some ⟨(blkOf (Ep12u3 41)), 0, none⟩) 1 1 := Eq.mp (by kernel_rfl) q2m
      replace q2p : Ep12u3 42 = .slice (adOf (Ep12u3 42)) q0s.length (capOf (Ep12u3 42)) := Eq.mp (by kernel_rfl) q2p
      replace q2o : Ep12u3 43 = .pointer (some ⟨b5, 6, none⟩) := Eq.mp (by kernel_rfl) q2o
      replace q1t : Ep12u3 44 = .pointer (some ⟨b5, 7, none⟩) := Eq.mp (by kernel_rfl) q1t
      replace hS : St w0 w' (ro ρ :: cells q6 191 [.slice q0a r_0.fb.length c_r_0_0, .int .i64 q0r.2.1, .bool q0r.2.2] :: cells (blkOf (Ep12u3 41)) 3 [.int .i64 q0r.1] :: bunA (fun (cs42u3 : List Value) => RepL (RpI .i64) ρ q0s cs42u3) (fun (cs42u3 : List Value) => [vec 3 (RpI .i64).sz (.slice (adOf (Ep12u3 42)) q0s.length (capOf (Ep12u3 42))) q0s.length cs42u3]) :: cells b5 183 [.int .u16 x10, .bool (decide (q0o.1 = 1)), .int .i64 q0b.1, .int .i64 q0c.1, .int .i64 q0d.1, .int .i64 q7.1, .slice q3 q2.length c_b5_6_L11u4, .slice (adOf (Ep12u3 42)) q0s.length (capOf (Ep12u3 42)), .slice none 0 0, .slice none 0 0] :: (cells b4 183 [.int .u16 0, .bool false, .int .i64 0, .int .i64 0, .int .i64 0, .int .i64 0, .slice none 0 0, .slice none 0 0, .slice none 0 0, .slice none 0 0] :: vec 3 (RpI .i64).sz (.slice q3 q2.length c_b5_6_L11u4) q2.length q0e :: l)) := Eq.mp (by kernel_rfl) hS
      have q_ := St.unbun (hS.pull 3); obtain ⟨cs42u3, hr42u3, hS⟩ := q_
      replace hFL11u3 := ar_s hFL11u3; obtain ⟨x45u3, hx45u3, hFL11u3⟩ := hFL11u3
      refine x_blk <| x_region <| p (yadd ((hE12u3 32 rfl).trans q4b) rfl hx45u3) <| p (yl_move rfl) <|
        x_done <|
        ?_
      have e_ := Option.some.inj (show some _ = some _ from hFL11u3); subst e_
      exact x_inv ⟨kL11u3, Nat.lt_succ_self _, (adOf (Ep12u3 42)), q0s.length, (capOf (Ep12u3 42)), cs42u3, x45u3, q0r.2.1, q0r.2.2, q0s, hLL11u3, ((hE12u3 0 rfl).trans q3n), ((hE12u3 1 rfl).trans q4l), ((hE12u3 4 rfl).trans q4m), ((hE12u3 5 rfl).trans q3b), ((hE12u3 7 rfl).trans q3o), ((hE12u3 28 rfl).trans q49), ((hE12u3 31 rfl).trans q4a), rfl, hr42u3, (((((((hS.pull 3).drop.pull 1).pull 1).pull 5).pull 4).pull 5).pull 5)⟩
    · replace hFL11u3 := it_f hc33u3 hFL11u3
      refine x_exitTo _ rfl <|
        ?_
      have e_ := Option.some.inj (show some _ = some _ from hFL11u3); subst e_
      exact x_inv ⟨q0k, q0g.length, c_b5_7_L11u3h, q11, q12, q13, q0g, hLL11u3, q3n, q4l, q4m, q3b, q49, q1x, ((((((hS.pull 5).pull 5).pull 5).pull 5).pull 5).pull 5)⟩
  rintro E w ⟨q5, q1p, c_b5_7_L11u3, q0n, q1g, q1h, q4, rfl, q58, q4s, q59, q5a, q4w, q3p, hS⟩
  have e_ := St.vec_n (hS.pull 4) q3p; subst e_
  refine x_blk <| x_region <| p (yadd (c := 2) q4w rfl ⟨rfl, by decide⟩) <| p (yl_move rfl) <|
    x_done <| x_un 2 <| x_seq <| x_region <|
    p (ylss_l (t := true) rfl rfl (by decide)) <| x_done <| x_seq <| x_cond_t (show ev _ _ = .bool true from rfl) <|
    x_skip <| x_seq <| x_block <| x_seq <|
    x_region <| p (yl_move rfl) <| p (yl_assign rfl) <| x_done <|
    x_seq <| x_region <| p (yl_move q4s) <| p (yl_move rfl) <|
    x_done <|
    ?_
  replace hF := bd_s hF; obtain ⟨oL11u2, hLL11u2, hF⟩ := hF
  refine x_join (fun E w => ∃ (q8 : Option Addr) (q1q : Nat) (c_b5_8_L11u2 : Nat) (q0x : List Value) (q1j : Int) (q1k : Bool) (q9 : List Int), (q1j, q1k, q9) = oL11u2 ∧ E 0 = .pointer (some ⟨q6, 0, none⟩) ∧ E 1 = .int .i64 tracks1 ∧ E 4 = .pointer (some ⟨b4, 0, none⟩) ∧ E 5 = .pointer (some ⟨b5, 0, none⟩) ∧ E 28 = .int .i64 2 ∧ RepL (RpI .i64) ρ q9 q0x ∧ St w0 w (cells q6 191 [.slice q0a r_0.fb.length c_r_0_0, .int .i64 q1j, .bool q1k] :: cells b4 183 [.int .u16 0, .bool false, .int .i64 0, .int .i64 0, .int .i64 0, .int .i64 0, .slice none 0 0, .slice none 0 0, .slice none 0 0, .slice none 0 0] :: cells b5 183 [.int .u16 x10, .bool (decide (q0o.1 = 1)), .int .i64 q0b.1, .int .i64 q0c.1, .int .i64 q0d.1, .int .i64 q7.1, .slice q3 q2.length c_b5_6_L11u4, .slice q5 q4.length c_b5_7_L11u3, .slice q8 q1q c_b5_8_L11u2, .slice none 0 0] :: vec 3 (RpI .i64).sz (.slice q3 q2.length c_b5_6_L11u4) q2.length q0e :: vec 3 (RpI .i64).sz (.slice q5 q4.length c_b5_7_L11u3) q4.length q0n :: vec 3 (RpI .i64).sz (.slice q8 q1q c_b5_8_L11u2) q1q q0x :: ro ρ :: l)) ?_ ?_
  · skip -- L11u2
    refine x_block ?_
    replace hS := St.vec_nil hS 3 (RpI .i64).sz
    have q3q : RepL (RpI .i64) ρ [] [] := rfl
    refine x_loop (fun k_ E w => ∃ (q0l : Option Addr) (q1l : Nat) (c_b5_8_L11u2h : Nat) (q14 : List Value) (q24 : Int) (q15 : Int) (q16 : Bool) (q0h : List Int), lp (P_stream_reader_tile_L11u2 r_0 tracks1) k_ (q24, q15, q16, q0h) = some oL11u2 ∧ E 0 = .pointer (some ⟨q6, 0, none⟩) ∧ E 1 = .int .i64 tracks1 ∧ E 4 = .pointer (some ⟨b4, 0, none⟩) ∧ E 5 = .pointer (some ⟨b5, 0, none⟩) ∧ E 7 = .int .i64 2 ∧ E 28 = .int .i64 2 ∧ E 31 = .int .i64 tracks1 ∧ E 32 = .int .i64 q24 ∧ RepL (RpI .i64) ρ q0h q14 ∧ St w0 w (cells q6 191 [.slice q0a r_0.fb.length c_r_0_0, .int .i64 q15, .bool q16] :: cells b4 183 [.int .u16 0, .bool false, .int .i64 0, .int .i64 0, .int .i64 0, .int .i64 0, .slice none 0 0, .slice none 0 0, .slice none 0 0, .slice none 0 0] :: cells b5 183 [.int .u16 x10, .bool (decide (q0o.1 = 1)), .int .i64 q0b.1, .int .i64 q0c.1, .int .i64 q0d.1, .int .i64 q7.1, .slice q3 q2.length c_b5_6_L11u4, .slice q5 q4.length c_b5_7_L11u3, .slice q0l q1l c_b5_8_L11u2h, .slice none 0 0] :: vec 3 (RpI .i64).sz (.slice q3 q2.length c_b5_6_L11u4) q2.length q0e :: vec 3 (RpI .i64).sz (.slice q5 q4.length c_b5_7_L11u3) q4.length q0n :: vec 3 (RpI .i64).sz (.slice q0l q1l c_b5_8_L11u2h) q1l q14 :: ro ρ :: l)) fuel ⟨none, 0, 0, [], 0, q1g, q1h, [], hLL11u2, q58, q4s, q59, q5a, rfl, rfl, rfl, rfl, q3q, (((((((hS.pull 6).pull 1).pull 6).pull 6).pull 6).pull 6).pull 6)⟩ ?_
    rintro kL11u2 E w ⟨q0l, q1l, c_b5_8_L11u2h, q14, q24, q15, q16, q0h, hLL11u2, q3r, q4n, q4o, q3c, q3s, q4c, q4d, q4e, q1y, hS⟩
    have e_ := St.vec_n (hS.pull 5) q1y; subst e_
    replace hLL11u2 := lp_s hLL11u2; obtain ⟨kL11u2, obL11u2, rfl, hFL11u2, hLL11u2⟩ := hLL11u2
    refine x_seq <| x_region <| p (yl_lss q4e q4d) <| x_done <|
      x_seq <|
      x_cond_p (q24 < tracks1) rfl (fun hc33u2 => ?_) (fun hc33u2 => ?_)
    · replace hFL11u2 := it_t hc33u2 hFL11u2
      refine x_skip <| x_seq <| x_block <|
        ?_
      replace hFL11u2 := bd_s hFL11u2; obtain ⟨q0t, q5b, hFL11u2⟩ := hFL11u2
      replace hFL11u2 := lv_s hFL11u2; obtain ⟨q0u, q5c, hFL11u2⟩ := hFL11u2
      replace hFL11u2 := ck_s hFL11u2; obtain ⟨q5d, hFL11u2⟩ := hFL11u2
      refine x_par (w0 := w0) [⟨[], [], [34], [], [], []⟩, ⟨[], [], [35], [], [], []⟩, ⟨[], [], [36], [], [], []⟩, ⟨[1, 2], [1, 2], [37], [], [], []⟩, ⟨[1, 2, 3], [3], [38], [0], [], []⟩, ⟨[], [], [39], [], [], []⟩, ⟨[5], [5], [40], [2], [1], [3]⟩, ⟨[5, 6], [6], [41], [], [], [4]⟩, ⟨[1, 2, 3, 4, 5, 6, 7], [4, 7], [42], [4, 2], [5], [6]⟩, ⟨[], [], [43], [], [], []⟩, ⟨[0, 1, 2, 3, 4, 5, 6, 7, 8, 9], [0, 9], [44], [], [], []⟩, ⟨[0, 1, 2, 3, 4, 5, 6, 7, 8, 9, 10], [8, 10], [], [], [0], [7]⟩] [⟨none, (some 11), []⟩, ⟨none, (some 6), []⟩, ⟨none, none, []⟩, ⟨(some 6), none, []⟩, ⟨(some 7), none, [41]⟩, ⟨none, (some 8), []⟩, ⟨(some 8), none, [42]⟩, ⟨(some 11), none, [42]⟩] [34, 35, 36, 37, 38, 39, 40, 41, 42, 43, 44] [0, 1, 2, 5] [2, 3, 4, 6, 7] [0, 1, 2, 3, 4, 5, 6, 7, 8, 9, 10] [fun Ep12u2 => Ep12u2 34 = .int .i64 2, fun Ep12u2 => Ep12u2 35 = .int .i64 2, fun Ep12u2 => Ep12u2 36 = .pointer (some ⟨b5, 6, none⟩), fun Ep12u2 => Ep12u2 37 = .pointer (some ⟨b5, 8, none⟩), fun Ep12u2 => Ep12u2 38 = .slice q0l q0h.length c_b5_8_L11u2h, fun Ep12u2 => Ep12u2 39 = .pointer (some ⟨q6, 0, none⟩), fun Ep12u2 => Ep12u2 40 = .int .i64 q0t.1, fun Ep12u2 => Ep12u2 41 = .slice (some ⟨(blkOf (Ep12u2 41)), 0, none⟩) 1 1, fun Ep12u2 => Ep12u2 42 = .slice (adOf (Ep12u2 42)) q0u.length (capOf (Ep12u2 42)), fun Ep12u2 => Ep12u2 43 = .pointer (some ⟨b5, 6, none⟩), fun Ep12u2 => Ep12u2 44 = .pointer (some ⟨b5, 8, none⟩), fun Ep12u2 => True] [fun Ep12u2 => cells b5 183 [.int .u16 x10, .bool (decide (q0o.1 = 1)), .int .i64 q0b.1, .int .i64 q0c.1, .int .i64 q0d.1, .int .i64 q7.1, .slice q3 q2.length c_b5_6_L11u4, .slice q5 q4.length c_b5_7_L11u3, .slice q0l q0h.length c_b5_8_L11u2h, .slice none 0 0], fun Ep12u2 => cells q6 191 [.slice q0a r_0.fb.length c_r_0_0, .int .i64 q15, .bool q16], fun Ep12u2 => ro ρ, fun Ep12u2 => cells q6 191 [.slice q0a r_0.fb.length c_r_0_0, .int .i64 q0t.2.1, .bool q0t.2.2], fun Ep12u2 => cells (blkOf (Ep12u2 41)) 3 [.int .i64 q0t.1], fun Ep12u2 => vec 3 (RpI .i64).sz (.slice q0l q0h.length c_b5_8_L11u2h) q0h.length q14, fun Ep12u2 => bunA (fun (cs42u2 : List Value) => RepL (RpI .i64) ρ q0u cs42u2) (fun (cs42u2 : List Value) => [vec 3 (RpI .i64).sz (.slice (adOf (Ep12u2 42)) q0u.length (capOf (Ep12u2 42))) q0u.length cs42u2]), fun Ep12u2 => cells b5 183 [.int .u16 x10, .bool (decide (q0o.1 = 1)), .int .i64 q0b.1, .int .i64 q0c.1, .int .i64 q0d.1, .int .i64 q7.1, .slice q3 q2.length c_b5_6_L11u4, .slice q5 q4.length c_b5_7_L11u3, .slice (adOf (Ep12u2 42)) q0u.length (capOf (Ep12u2 42)), .slice none 0 0]] mixed (by kernel_rfl) ((((hS.pull 5).pull 6).pull 2).pull 4) ?_ ?_
      · refine ⟨?_, ?_, ?_, ?_, ?_, ?_, ?_, ?_, ?_, ?_, ?_, ?_, trivial⟩
        · intro Ep12u2 w l' hE12u2 hO12u2 hF_ hS
          refine p (yl_move ((hE12u2 7 rfl).trans q3s)) <| x_done <|
            ?_
          refine x_fin ⟨⟨_, rfl⟩, rfl, ?_⟩
          exact Eq.mp (by kernel_rfl) hS
        · intro Ep12u2 w l' hE12u2 hO12u2 hF_ hS
          refine p (yl_move ((hE12u2 7 rfl).trans q3s)) <| x_done <|
            ?_
          refine x_fin ⟨⟨_, rfl⟩, rfl, ?_⟩
          exact Eq.mp (by kernel_rfl) hS
        · intro Ep12u2 w l' hE12u2 hO12u2 hF_ hS
          refine p (yl_field0 fld_183_3 ((hE12u2 5 rfl).trans q3c)) <| x_done <|
            ?_
          refine x_fin ⟨⟨_, rfl⟩, rfl, ?_⟩
          exact Eq.mp (by kernel_rfl) hS
        · intro Ep12u2 w l' hE12u2 hO12u2 hF_ hS
          obtain ⟨q2q, q2r, -⟩ := hF_
          replace q2q : Ep12u2 35 = .int .i64 2 := Eq.mp (by kernel_rfl) q2q
          replace q2r : Ep12u2 36 = .pointer (some ⟨b5, 6, none⟩) := Eq.mp (by kernel_rfl) q2r
          refine p (yl_ixa (x := .tmp 36) (y := .tmp 35) (q := 8) arr_181 q2r q2q (by decide) rfl) <| x_done <|
            ?_
          refine x_fin ⟨⟨_, rfl⟩, rfl, ?_⟩
          exact Eq.mp (by kernel_rfl) hS
        · intro Ep12u2 w l' hE12u2 hO12u2 hF_ hS
          obtain ⟨q2s, -⟩ := hF_
          replace q2s : Ep12u2 37 = .pointer (some ⟨b5, 8, none⟩) := Eq.mp (by kernel_rfl) q2s
          replace hS : St w0 w (cells b5 183 [.int .u16 x10, .bool (decide (q0o.1 = 1)), .int .i64 q0b.1, .int .i64 q0c.1, .int .i64 q0d.1, .int .i64 q7.1, .slice q3 q2.length c_b5_6_L11u4, .slice q5 q4.length c_b5_7_L11u3, .slice q0l q0h.length c_b5_8_L11u2h, .slice none 0 0] :: l') := Eq.mp (by kernel_rfl) hS
          refine pa (at_load one_22 q2s (hS.cell rfl)) <| x_done <|
            ?_
          refine x_fin ⟨⟨_, rfl⟩, rfl, ?_⟩
          exact Eq.mp (by kernel_rfl) hS
        · intro Ep12u2 w l' hE12u2 hO12u2 hF_ hS
          refine p (yl_move ((hE12u2 0 rfl).trans q3r)) <| x_done <|
            ?_
          refine x_fin ⟨⟨_, rfl⟩, rfl, ?_⟩
          exact Eq.mp (by kernel_rfl) hS
        · intro Ep12u2 w l' hE12u2 hO12u2 hF_ hS
          obtain ⟨q2t, -⟩ := hF_
          replace q2t : Ep12u2 39 = .pointer (some ⟨q6, 0, none⟩) := Eq.mp (by kernel_rfl) q2t
          replace hS : St w0 w (ro ρ :: cells q6 191 [.slice q0a r_0.fb.length c_r_0_0, .int .i64 q15, .bool q16] :: l') := Eq.mp (by kernel_rfl) hS
          have hcall := c_stream_reader_bits q5b q1a (hS.pull 1)
          refine o_cc call_94 (args2 q2t rfl) hcall ?_
          rintro e w' ⟨rfl, hS⟩
          refine ⟨_, rfl, ?_⟩
          refine x_done <|
            ?_
          refine x_fin ⟨⟨_, rfl⟩, rfl, ?_⟩
          exact Eq.mp (by kernel_rfl) (hS.pull 1)
        · intro Ep12u2 w l' hE12u2 hO12u2 hF_ hS
          obtain ⟨q2u, -⟩ := hF_
          replace q2u : Ep12u2 40 = .int .i64 q0t.1 := Eq.mp (by kernel_rfl) q2u
          refine o_buildSlice (vs := [.int .i64 q0t.1]) (cs := [.int .i64 q0t.1]) sl_22 zero_3 (parts_eq (pt (va := .int .i64 q0t.1) q2u pt0)) rfl (by intro v hv; simp only [List.mem_cons, List.not_mem_nil, or_false] at hv; first | (subst hv; rfl) | (rcases hv with rfl <;> rfl)) (by decide) rfl hS (fun b41u2 w' hS => ?_)
          refine x_done <|
            ?_
          refine x_fin ⟨⟨_, rfl⟩, rfl, ?_⟩
          exact Eq.mp (by kernel_rfl) hS
        · intro Ep12u2 w l' hE12u2 hO12u2 hF_ hS
          obtain ⟨q2v, q2w, -⟩ := hF_
          replace q2v : Ep12u2 38 = .slice q0l q0h.length c_b5_8_L11u2h := Eq.mp (by kernel_rfl) q2v
          replace q2w : Ep12u2 41 = .slice (some ⟨(blkOf (Ep12u2 41)), 0, none⟩) 1 1 := Eq.mp (by kernel_rfl) q2w
          replace hS : St w0 w (cells (blkOf (Ep12u2 41)) 3 [.int .i64 q0t.1] :: ro ρ :: vec 3 (RpI .i64).sz (.slice q0l q0h.length c_b5_8_L11u2h) q0h.length q14 :: l') := Eq.mp (by kernel_rfl) hS
          refine o_ap sl_22 zero_3 rfl (by decide) q2v q2w (hS.pull 2) q1y (src_blk usl_22 hS rfl rfl) (RepL.cons (R := (RpI .i64)) (ρ := ρ) (x := q0t.1) (cs := [.int .i64 q0t.1]) rfl RepL.nil) q5c q5d (fun A42u2 c42u2 cs42u2 w' hr42u2 hS => ?_)
          refine x_done <|
            ?_
          refine x_fin ⟨⟨_, rfl⟩, rfl, ?_⟩
          replace hS := St.bun (Φ := (fun (cs42u2 : List Value) => RepL (RpI .i64) ρ q0u cs42u2)) (L := (fun (cs42u2 : List Value) => [vec 3 (RpI .i64).sz (.slice A42u2 q0u.length c42u2) q0u.length cs42u2])) cs42u2 hr42u2 hS
          exact Eq.mp (by kernel_rfl) ((hS.pull 2).pull 2)
        · intro Ep12u2 w l' hE12u2 hO12u2 hF_ hS
          refine p (yl_field0 fld_183_3 ((hE12u2 5 rfl).trans q3c)) <| x_done <|
            ?_
          refine x_fin ⟨⟨_, rfl⟩, rfl, ?_⟩
          exact Eq.mp (by kernel_rfl) hS
        · intro Ep12u2 w l' hE12u2 hO12u2 hF_ hS
          obtain ⟨q2x, q2y, -⟩ := hF_
          replace q2x : Ep12u2 34 = .int .i64 2 := Eq.mp (by kernel_rfl) q2x
          replace q2y : Ep12u2 43 = .pointer (some ⟨b5, 6, none⟩) := Eq.mp (by kernel_rfl) q2y
          refine p (yl_ixa (x := .tmp 43) (y := .tmp 34) (q := 8) arr_181 q2y q2x (by decide) rfl) <| x_done <|
            ?_
          refine x_fin ⟨⟨_, rfl⟩, rfl, ?_⟩
          exact Eq.mp (by kernel_rfl) hS
        · intro Ep12u2 w l' hE12u2 hO12u2 hF_ hS
          obtain ⟨q2z, q1u, -⟩ := hF_
          replace q2z : Ep12u2 42 = .slice (adOf (Ep12u2 42)) q0u.length (capOf (Ep12u2 42)) := Eq.mp (by kernel_rfl) q2z
          replace q1u : Ep12u2 44 = .pointer (some ⟨b5, 8, none⟩) := Eq.mp (by kernel_rfl) q1u
          replace hS : St w0 w (cells b5 183 [.int .u16 x10, .bool (decide (q0o.1 = 1)), .int .i64 q0b.1, .int .i64 q0c.1, .int .i64 q0d.1, .int .i64 q7.1, .slice q3 q2.length c_b5_6_L11u4, .slice q5 q4.length c_b5_7_L11u3, .slice q0l q0h.length c_b5_8_L11u2h, .slice none 0 0] :: l') := Eq.mp (by kernel_rfl) hS
          refine o_store1 (v := .slice (adOf (Ep12u2 42)) q0u.length (capOf (Ep12u2 42))) one_22 q1u q2z rfl rfl hS (fun w' hS => ?_)
          refine x_done <|
            ?_
          refine x_fin ⟨⟨undef, rfl⟩, trivial, ?_⟩
          exact Eq.mp (by kernel_rfl) hS
      intro Ep12u2 w' hE12u2 hF_ hS
      obtain ⟨q2x, q2q, q2r, q2s, q2v, q2t, q2u, q2w, q2z, q2y, q1u, -⟩ := hF_
      replace q2x : Ep12u2 34 = .int .i64 2 := Eq.mp (by kernel_rfl) q2x
      replace q2q : Ep12u2 35 = .int .i64 2 := Eq.mp (by kernel_rfl) q2q
      replace q2r : Ep12u2 36 = .pointer (some ⟨b5, 6, none⟩) := Eq.mp (by kernel_rfl) q2r
      replace q2s : Ep12u2 37 = .pointer (some ⟨b5, 8, none⟩) := Eq.mp (by kernel_rfl) q2s
      replace q2v : Ep12u2 38 = .slice q0l q0h.length c_b5_8_L11u2h := Eq.mp (by kernel_rfl) q2v
      replace q2t : Ep12u2 39 = .pointer (some ⟨q6, 0, none⟩) := Eq.mp (by kernel_rfl) q2t
      replace q2u : Ep12u2 40 = .int .i64 q0t.1 := Eq.mp (by kernel_rfl) q2u
      replace q2w : Ep12u2 41 = .slice (some ⟨(blkOf (Ep12u2 41)), 0, none⟩) 1 1 := Eq.mp (by kernel_rfl) q2w
      replace q2z : Ep12u2 42 = .slice (adOf (Ep12u2 42)) q0u.length (capOf (Ep12u2 42)) := Eq.mp (by kernel_rfl) q2z
      replace q2y : Ep12u2 43 = .pointer (some ⟨b5, 6, none⟩) := Eq.mp (by kernel_rfl) q2y
      replace q1u : Ep12u2 44 = .pointer (some ⟨b5, 8, none⟩) := Eq.mp (by kernel_rfl) q1u
      replace hS : St w0 w' (ro ρ :: cells q6 191 [.slice q0a r_0.fb.length c_r_0_0, .int .i64 q0t.2.1, .bool q0t.2.2] :: cells (blkOf (Ep12u2 41)) 3 [.int .i64 q0t.1] :: bunA (fun (cs42u2 : List Value) => RepL (RpI .i64) ρ q0u cs42u2) (fun (cs42u2 : List Value) => [vec 3 (RpI .i64).sz (.slice (adOf (Ep12u2 42)) q0u.length (capOf (Ep12u2 42))) q0u.length cs42u2]) :: cells b5 183 [.int .u16 x10, .bool (decide (q0o.1 = 1)), .int .i64 q0b.1, .int .i64 q0c.1, .int .i64 q0d.1, .int .i64 q7.1, .slice q3 q2.length c_b5_6_L11u4, .slice q5 q4.length c_b5_7_L11u3, .slice (adOf (Ep12u2 42)) q0u.length (capOf (Ep12u2 42)), .slice none 0 0] :: (cells b4 183 [.int .u16 0, .bool false, .int .i64 0, .int .i64 0, .int .i64 0, .int .i64 0, .slice none 0 0, .slice none 0 0, .slice none 0 0, .slice none 0 0] :: vec 3 (RpI .i64).sz (.slice q3 q2.length c_b5_6_L11u4) q2.length q0e :: vec 3 (RpI .i64).sz (.slice q5 q4.length c_b5_7_L11u3) q4.length q0n :: l)) := Eq.mp (by kernel_rfl) hS
      have q_ := St.unbun (hS.pull 3); obtain ⟨cs42u2, hr42u2, hS⟩ := q_
      replace hFL11u2 := ar_s hFL11u2; obtain ⟨x45u2, hx45u2, hFL11u2⟩ := hFL11u2
      refine x_blk <| x_region <| p (yadd ((hE12u2 32 rfl).trans q4e) rfl hx45u2) <| p (yl_move rfl) <|
        x_done <|
        ?_
      have e_ := Option.some.inj (show some _ = some _ from hFL11u2); subst e_
      exact x_inv ⟨kL11u2, Nat.lt_succ_self _, (adOf (Ep12u2 42)), q0u.length, (capOf (Ep12u2 42)), cs42u2, x45u2, q0t.2.1, q0t.2.2, q0u, hLL11u2, ((hE12u2 0 rfl).trans q3r), ((hE12u2 1 rfl).trans q4n), ((hE12u2 4 rfl).trans q4o), ((hE12u2 5 rfl).trans q3c), ((hE12u2 7 rfl).trans q3s), ((hE12u2 28 rfl).trans q4c), ((hE12u2 31 rfl).trans q4d), rfl, hr42u2, ((((((((hS.pull 3).drop.pull 1).pull 1).pull 6).pull 6).pull 5).pull 6).pull 6)⟩
    · replace hFL11u2 := it_f hc33u2 hFL11u2
      refine x_exitTo _ rfl <|
        ?_
      have e_ := Option.some.inj (show some _ = some _ from hFL11u2); subst e_
      exact x_inv ⟨q0l, q0h.length, c_b5_8_L11u2h, q14, q15, q16, q0h, hLL11u2, q3r, q4n, q4o, q3c, q4c, q1y, (((((((hS.pull 6).pull 6).pull 6).pull 6).pull 6).pull 6).pull 6)⟩
  rintro E w ⟨q8, q1q, c_b5_8_L11u2, q0x, q1j, q1k, q9, rfl, q5e, q4t, q5f, q5g, q4x, q3t, hS⟩
  have e_ := St.vec_n (hS.pull 5) q3t; subst e_
  refine x_blk <| x_region <| p (yadd (c := 3) q4x rfl ⟨rfl, by decide⟩) <| p (yl_move rfl) <|
    x_done <| x_un 1 <| x_seq <| x_region <|
    p (ylss_l (t := true) rfl rfl (by decide)) <| x_done <| x_seq <| x_cond_t (show ev _ _ = .bool true from rfl) <|
    x_skip <| x_seq <| x_block <| x_seq <|
    x_region <| p (yl_move rfl) <| p (yl_assign rfl) <| x_done <|
    x_seq <| x_region <| p (yl_move q4t) <| p (yl_move rfl) <|
    x_done <|
    ?_
  replace hF := bd_s hF; obtain ⟨oL11u1, hLL11u1, hF⟩ := hF
  refine x_join (fun E w => ∃ (q1b : Option Addr) (q1r : Nat) (c_b5_9_L11u1 : Nat) (q1m : List Value) (q1z : Int) (q20 : Bool) (q1c : List Int), (q1z, q20, q1c) = oL11u1 ∧ E 0 = .pointer (some ⟨q6, 0, none⟩) ∧ E 1 = .int .i64 tracks1 ∧ E 4 = .pointer (some ⟨b4, 0, none⟩) ∧ E 5 = .pointer (some ⟨b5, 0, none⟩) ∧ E 28 = .int .i64 3 ∧ RepL (RpI .i64) ρ q1c q1m ∧ St w0 w (cells q6 191 [.slice q0a r_0.fb.length c_r_0_0, .int .i64 q1z, .bool q20] :: cells b4 183 [.int .u16 0, .bool false, .int .i64 0, .int .i64 0, .int .i64 0, .int .i64 0, .slice none 0 0, .slice none 0 0, .slice none 0 0, .slice none 0 0] :: cells b5 183 [.int .u16 x10, .bool (decide (q0o.1 = 1)), .int .i64 q0b.1, .int .i64 q0c.1, .int .i64 q0d.1, .int .i64 q7.1, .slice q3 q2.length c_b5_6_L11u4, .slice q5 q4.length c_b5_7_L11u3, .slice q8 q9.length c_b5_8_L11u2, .slice q1b q1r c_b5_9_L11u1] :: vec 3 (RpI .i64).sz (.slice q3 q2.length c_b5_6_L11u4) q2.length q0e :: vec 3 (RpI .i64).sz (.slice q5 q4.length c_b5_7_L11u3) q4.length q0n :: vec 3 (RpI .i64).sz (.slice q8 q9.length c_b5_8_L11u2) q9.length q0x :: vec 3 (RpI .i64).sz (.slice q1b q1r c_b5_9_L11u1) q1r q1m :: ro ρ :: l)) ?_ ?_
  · skip -- L11u1
    refine x_block ?_
    replace hS := St.vec_nil hS 3 (RpI .i64).sz
    have q3u : RepL (RpI .i64) ρ [] [] := rfl
    refine x_loop (fun k_ E w => ∃ (q0m : Option Addr) (q1n : Nat) (c_b5_9_L11u1h : Nat) (q17 : List Value) (q25 : Int) (q18 : Int) (q19 : Bool) (q0i : List Int), lp (P_stream_reader_tile_L11u1 r_0 tracks1) k_ (q25, q18, q19, q0i) = some oL11u1 ∧ E 0 = .pointer (some ⟨q6, 0, none⟩) ∧ E 1 = .int .i64 tracks1 ∧ E 4 = .pointer (some ⟨b4, 0, none⟩) ∧ E 5 = .pointer (some ⟨b5, 0, none⟩) ∧ E 7 = .int .i64 3 ∧ E 28 = .int .i64 3 ∧ E 31 = .int .i64 tracks1 ∧ E 32 = .int .i64 q25 ∧ RepL (RpI .i64) ρ q0i q17 ∧ St w0 w (cells q6 191 [.slice q0a r_0.fb.length c_r_0_0, .int .i64 q18, .bool q19] :: cells b4 183 [.int .u16 0, .bool false, .int .i64 0, .int .i64 0, .int .i64 0, .int .i64 0, .slice none 0 0, .slice none 0 0, .slice none 0 0, .slice none 0 0] :: cells b5 183 [.int .u16 x10, .bool (decide (q0o.1 = 1)), .int .i64 q0b.1, .int .i64 q0c.1, .int .i64 q0d.1, .int .i64 q7.1, .slice q3 q2.length c_b5_6_L11u4, .slice q5 q4.length c_b5_7_L11u3, .slice q8 q9.length c_b5_8_L11u2, .slice q0m q1n c_b5_9_L11u1h] :: vec 3 (RpI .i64).sz (.slice q3 q2.length c_b5_6_L11u4) q2.length q0e :: vec 3 (RpI .i64).sz (.slice q5 q4.length c_b5_7_L11u3) q4.length q0n :: vec 3 (RpI .i64).sz (.slice q8 q9.length c_b5_8_L11u2) q9.length q0x :: vec 3 (RpI .i64).sz (.slice q0m q1n c_b5_9_L11u1h) q1n q17 :: ro ρ :: l)) fuel ⟨none, 0, 0, [], 0, q1j, q1k, [], hLL11u1, q5e, q4t, q5f, q5g, rfl, rfl, rfl, rfl, q3u, ((((((((hS.pull 7).pull 1).pull 7).pull 7).pull 7).pull 7).pull 7).pull 7)⟩ ?_
    rintro kL11u1 E w ⟨q0m, q1n, c_b5_9_L11u1h, q17, q25, q18, q19, q0i, hLL11u1, q3v, q4p, q4q, q3d, q3w, q4f, q4g, q4h, q21, hS⟩
    have e_ := St.vec_n (hS.pull 6) q21; subst e_
    replace hLL11u1 := lp_s hLL11u1; obtain ⟨kL11u1, obL11u1, rfl, hFL11u1, hLL11u1⟩ := hLL11u1
    refine x_seq <| x_region <| p (yl_lss q4h q4g) <| x_done <|
      x_seq <|
      x_cond_p (q25 < tracks1) rfl (fun hc33u1 => ?_) (fun hc33u1 => ?_)
    · replace hFL11u1 := it_t hc33u1 hFL11u1
      refine x_skip <| x_seq <| x_block <|
        ?_
      replace hFL11u1 := bd_s hFL11u1; obtain ⟨q0v, q5h, hFL11u1⟩ := hFL11u1
      replace hFL11u1 := lv_s hFL11u1; obtain ⟨q0w, q5i, hFL11u1⟩ := hFL11u1
      replace hFL11u1 := ck_s hFL11u1; obtain ⟨q5j, hFL11u1⟩ := hFL11u1
      refine x_par (w0 := w0) [⟨[], [], [34], [], [], []⟩, ⟨[], [], [35], [], [], []⟩, ⟨[], [], [36], [], [], []⟩, ⟨[1, 2], [1, 2], [37], [], [], []⟩, ⟨[1, 2, 3], [3], [38], [0], [], []⟩, ⟨[], [], [39], [], [], []⟩, ⟨[5], [5], [40], [2], [1], [3]⟩, ⟨[5, 6], [6], [41], [], [], [4]⟩, ⟨[1, 2, 3, 4, 5, 6, 7], [4, 7], [42], [4, 2], [5], [6]⟩, ⟨[], [], [43], [], [], []⟩, ⟨[0, 1, 2, 3, 4, 5, 6, 7, 8, 9], [0, 9], [44], [], [], []⟩, ⟨[0, 1, 2, 3, 4, 5, 6, 7, 8, 9, 10], [8, 10], [], [], [0], [7]⟩] [⟨none, (some 11), []⟩, ⟨none, (some 6), []⟩, ⟨none, none, []⟩, ⟨(some 6), none, []⟩, ⟨(some 7), none, [41]⟩, ⟨none, (some 8), []⟩, ⟨(some 8), none, [42]⟩, ⟨(some 11), none, [42]⟩] [34, 35, 36, 37, 38, 39, 40, 41, 42, 43, 44] [0, 1, 2, 5] [2, 3, 4, 6, 7] [0, 1, 2, 3, 4, 5, 6, 7, 8, 9, 10] [fun Ep12u1 => Ep12u1 34 = .int .i64 3, fun Ep12u1 => Ep12u1 35 = .int .i64 3, fun Ep12u1 => Ep12u1 36 = .pointer (some ⟨b5, 6, none⟩), fun Ep12u1 => Ep12u1 37 = .pointer (some ⟨b5, 9, none⟩), fun Ep12u1 => Ep12u1 38 = .slice q0m q0i.length c_b5_9_L11u1h, fun Ep12u1 => Ep12u1 39 = .pointer (some ⟨q6, 0, none⟩), fun Ep12u1 => Ep12u1 40 = .int .i64 q0v.1, fun Ep12u1 => Ep12u1 41 = .slice (some ⟨(blkOf (Ep12u1 41)), 0, none⟩) 1 1, fun Ep12u1 => Ep12u1 42 = .slice (adOf (Ep12u1 42)) q0w.length (capOf (Ep12u1 42)), fun Ep12u1 => Ep12u1 43 = .pointer (some ⟨b5, 6, none⟩), fun Ep12u1 => Ep12u1 44 = .pointer (some ⟨b5, 9, none⟩), fun Ep12u1 => True] [fun Ep12u1 => cells b5 183 [.int .u16 x10, .bool (decide (q0o.1 = 1)), .int .i64 q0b.1, .int .i64 q0c.1, .int .i64 q0d.1, .int .i64 q7.1, .slice q3 q2.length c_b5_6_L11u4, .slice q5 q4.length c_b5_7_L11u3, .slice q8 q9.length c_b5_8_L11u2, .slice q0m q0i.length c_b5_9_L11u1h], fun Ep12u1 => cells q6 191 [.slice q0a r_0.fb.length c_r_0_0, .int .i64 q18, .bool q19], fun Ep12u1 => ro ρ, fun Ep12u1 => cells q6 191 [.slice q0a r_0.fb.length c_r_0_0, .int .i64 q0v.2.1, .bool q0v.2.2], fun Ep12u1 => cells (blkOf (Ep12u1 41)) 3 [.int .i64 q0v.1], fun Ep12u1 => vec 3 (RpI .i64).sz (.slice q0m q0i.length c_b5_9_L11u1h) q0i.length q17, fun Ep12u1 => bunA (fun (cs42u1 : List Value) => RepL (RpI .i64) ρ q0w cs42u1) (fun (cs42u1 : List Value) => [vec 3 (RpI .i64).sz (.slice (adOf (Ep12u1 42)) q0w.length (capOf (Ep12u1 42))) q0w.length cs42u1]), fun Ep12u1 => cells b5 183 [.int .u16 x10, .bool (decide (q0o.1 = 1)), .int .i64 q0b.1, .int .i64 q0c.1, .int .i64 q0d.1, .int .i64 q7.1, .slice q3 q2.length c_b5_6_L11u4, .slice q5 q4.length c_b5_7_L11u3, .slice q8 q9.length c_b5_8_L11u2, .slice (adOf (Ep12u1 42)) q0w.length (capOf (Ep12u1 42))]] mixed (by kernel_rfl) ((((hS.pull 6).pull 7).pull 2).pull 4) ?_ ?_
      · refine ⟨?_, ?_, ?_, ?_, ?_, ?_, ?_, ?_, ?_, ?_, ?_, ?_, trivial⟩
        · intro Ep12u1 w l' hE12u1 hO12u1 hF_ hS
          refine p (yl_move ((hE12u1 7 rfl).trans q3w)) <| x_done <|
            ?_
          refine x_fin ⟨⟨_, rfl⟩, rfl, ?_⟩
          exact Eq.mp (by kernel_rfl) hS
        · intro Ep12u1 w l' hE12u1 hO12u1 hF_ hS
          refine p (yl_move ((hE12u1 7 rfl).trans q3w)) <| x_done <|
            ?_
          refine x_fin ⟨⟨_, rfl⟩, rfl, ?_⟩
          exact Eq.mp (by kernel_rfl) hS
        · intro Ep12u1 w l' hE12u1 hO12u1 hF_ hS
          refine p (yl_field0 fld_183_3 ((hE12u1 5 rfl).trans q3d)) <| x_done <|
            ?_
          refine x_fin ⟨⟨_, rfl⟩, rfl, ?_⟩
          exact Eq.mp (by kernel_rfl) hS
        · intro Ep12u1 w l' hE12u1 hO12u1 hF_ hS
          obtain ⟨q30, q31, -⟩ := hF_
          replace q30 : Ep12u1 35 = .int .i64 3 := Eq.mp (by kernel_rfl) q30
          replace q31 : Ep12u1 36 = .pointer (some ⟨b5, 6, none⟩) := Eq.mp (by kernel_rfl) q31
          refine p (yl_ixa (x := .tmp 36) (y := .tmp 35) (q := 9) arr_181 q31 q30 (by decide) rfl) <| x_done <|
            ?_
          refine x_fin ⟨⟨_, rfl⟩, rfl, ?_⟩
          exact Eq.mp (by kernel_rfl) hS
        · intro Ep12u1 w l' hE12u1 hO12u1 hF_ hS
          obtain ⟨q32, -⟩ := hF_
          replace q32 : Ep12u1 37 = .pointer (some ⟨b5, 9, none⟩) := Eq.mp (by kernel_rfl) q32
          replace hS : St w0 w (cells b5 183 [.int .u16 x10, .bool (decide (q0o.1 = 1)), .int .i64 q0b.1, .int .i64 q0c.1, .int .i64 q0d.1, .int .i64 q7.1, .slice q3 q2.length c_b5_6_L11u4, .slice q5 q4.length c_b5_7_L11u3, .slice q8 q9.length c_b5_8_L11u2, .slice q0m q0i.length c_b5_9_L11u1h] :: l') := Eq.mp (by kernel_rfl) hS
          refine pa (at_load one_22 q32 (hS.cell rfl)) <| x_done <|
            ?_
          refine x_fin ⟨⟨_, rfl⟩, rfl, ?_⟩
          exact Eq.mp (by kernel_rfl) hS
        · intro Ep12u1 w l' hE12u1 hO12u1 hF_ hS
          refine p (yl_move ((hE12u1 0 rfl).trans q3v)) <| x_done <|
            ?_
          refine x_fin ⟨⟨_, rfl⟩, rfl, ?_⟩
          exact Eq.mp (by kernel_rfl) hS
        · intro Ep12u1 w l' hE12u1 hO12u1 hF_ hS
          obtain ⟨q33, -⟩ := hF_
          replace q33 : Ep12u1 39 = .pointer (some ⟨q6, 0, none⟩) := Eq.mp (by kernel_rfl) q33
          replace hS : St w0 w (ro ρ :: cells q6 191 [.slice q0a r_0.fb.length c_r_0_0, .int .i64 q18, .bool q19] :: l') := Eq.mp (by kernel_rfl) hS
          have hcall := c_stream_reader_bits q5h q1a (hS.pull 1)
          refine o_cc call_94 (args2 q33 rfl) hcall ?_
          rintro e w' ⟨rfl, hS⟩
          refine ⟨_, rfl, ?_⟩
          refine x_done <|
            ?_
          refine x_fin ⟨⟨_, rfl⟩, rfl, ?_⟩
          exact Eq.mp (by kernel_rfl) (hS.pull 1)
        · intro Ep12u1 w l' hE12u1 hO12u1 hF_ hS
          obtain ⟨q34, -⟩ := hF_
          replace q34 : Ep12u1 40 = .int .i64 q0v.1 := Eq.mp (by kernel_rfl) q34
          refine o_buildSlice (vs := [.int .i64 q0v.1]) (cs := [.int .i64 q0v.1]) sl_22 zero_3 (parts_eq (pt (va := .int .i64 q0v.1) q34 pt0)) rfl (by intro v hv; simp only [List.mem_cons, List.not_mem_nil, or_false] at hv; first | (subst hv; rfl) | (rcases hv with rfl <;> rfl)) (by decide) rfl hS (fun b41u1 w' hS => ?_)
          refine x_done <|
            ?_
          refine x_fin ⟨⟨_, rfl⟩, rfl, ?_⟩
          exact Eq.mp (by kernel_rfl) hS
        · intro Ep12u1 w l' hE12u1 hO12u1 hF_ hS
          obtain ⟨q35, q36, -⟩ := hF_
          replace q35 : Ep12u1 38 = .slice q0m q0i.length c_b5_9_L11u1h := Eq.mp (by kernel_rfl) q35
          replace q36 : Ep12u1 41 = .slice (some ⟨(blkOf (Ep12u1 41)), 0, none⟩) 1 1 := Eq.mp (by kernel_rfl) q36
          replace hS : St w0 w (cells (blkOf (Ep12u1 41)) 3 [.int .i64 q0v.1] :: ro ρ :: vec 3 (RpI .i64).sz (.slice q0m q0i.length c_b5_9_L11u1h) q0i.length q17 :: l') := Eq.mp (by kernel_rfl) hS
          refine o_ap sl_22 zero_3 rfl (by decide) q35 q36 (hS.pull 2) q21 (src_blk usl_22 hS rfl rfl) (RepL.cons (R := (RpI .i64)) (ρ := ρ) (x := q0v.1) (cs := [.int .i64 q0v.1]) rfl RepL.nil) q5i q5j (fun A42u1 c42u1 cs42u1 w' hr42u1 hS => ?_)
          refine x_done <|
            ?_
          refine x_fin ⟨⟨_, rfl⟩, rfl, ?_⟩
          replace hS := St.bun (Φ := (fun (cs42u1 : List Value) => RepL (RpI .i64) ρ q0w cs42u1)) (L := (fun (cs42u1 : List Value) => [vec 3 (RpI .i64).sz (.slice A42u1 q0w.length c42u1) q0w.length cs42u1])) cs42u1 hr42u1 hS
          exact Eq.mp (by kernel_rfl) ((hS.pull 2).pull 2)
        · intro Ep12u1 w l' hE12u1 hO12u1 hF_ hS
          refine p (yl_field0 fld_183_3 ((hE12u1 5 rfl).trans q3d)) <| x_done <|
            ?_
          refine x_fin ⟨⟨_, rfl⟩, rfl, ?_⟩
          exact Eq.mp (by kernel_rfl) hS
        · intro Ep12u1 w l' hE12u1 hO12u1 hF_ hS
          obtain ⟨q37, q38, -⟩ := hF_
          replace q37 : Ep12u1 34 = .int .i64 3 := Eq.mp (by kernel_rfl) q37
          replace q38 : Ep12u1 43 = .pointer (some ⟨b5, 6, none⟩) := Eq.mp (by kernel_rfl) q38
          refine p (yl_ixa (x := .tmp 43) (y := .tmp 34) (q := 9) arr_181 q38 q37 (by decide) rfl) <| x_done <|
            ?_
          refine x_fin ⟨⟨_, rfl⟩, rfl, ?_⟩
          exact Eq.mp (by kernel_rfl) hS
        · intro Ep12u1 w l' hE12u1 hO12u1 hF_ hS
          obtain ⟨q39, q1v, -⟩ := hF_
          replace q39 : Ep12u1 42 = .slice (adOf (Ep12u1 42)) q0w.length (capOf (Ep12u1 42)) := Eq.mp (by kernel_rfl) q39
          replace q1v : Ep12u1 44 = .pointer (some ⟨b5, 9, none⟩) := Eq.mp (by kernel_rfl) q1v
          replace hS : St w0 w (cells b5 183 [.int .u16 x10, .bool (decide (q0o.1 = 1)), .int .i64 q0b.1, .int .i64 q0c.1, .int .i64 q0d.1, .int .i64 q7.1, .slice q3 q2.length c_b5_6_L11u4, .slice q5 q4.length c_b5_7_L11u3, .slice q8 q9.length c_b5_8_L11u2, .slice q0m q0i.length c_b5_9_L11u1h] :: l') := Eq.mp (by kernel_rfl) hS
          refine o_store1 (v := .slice (adOf (Ep12u1 42)) q0w.length (capOf (Ep12u1 42))) one_22 q1v q39 rfl rfl hS (fun w' hS => ?_)
          refine x_done <|
            ?_
          refine x_fin ⟨⟨undef, rfl⟩, trivial, ?_⟩
          exact Eq.mp (by kernel_rfl) hS
      intro Ep12u1 w' hE12u1 hF_ hS
      obtain ⟨q37, q30, q31, q32, q35, q33, q34, q36, q39, q38, q1v, -⟩ := hF_
      replace q37 : Ep12u1 34 = .int .i64 3 := Eq.mp (by kernel_rfl) q37
      replace q30 : Ep12u1 35 = .int .i64 3 := Eq.mp (by kernel_rfl) q30
      replace q31 : Ep12u1 36 = .pointer (some ⟨b5, 6, none⟩) := Eq.mp (by kernel_rfl) q31
      replace q32 : Ep12u1 37 = .pointer (some ⟨b5, 9, none⟩) := Eq.mp (by kernel_rfl) q32
      replace q35 : Ep12u1 38 = .slice q0m q0i.length c_b5_9_L11u1h := Eq.mp (by kernel_rfl) q35
      replace q33 : Ep12u1 39 = .pointer (some ⟨q6, 0, none⟩) := Eq.mp (by kernel_rfl) q33
      replace q34 : Ep12u1 40 = .int .i64 q0v.1 := Eq.mp (by kernel_rfl) q34
      replace q36 : Ep12u1 41 = .slice (some ⟨(blkOf (Ep12u1 41)), 0, none⟩) 1 1 := Eq.mp (by kernel_rfl) q36
      replace q39 : Ep12u1 42 = .slice (adOf (Ep12u1 42)) q0w.length (capOf (Ep12u1 42)) := Eq.mp (by kernel_rfl) q39
      replace q38 : Ep12u1 43 = .pointer (some ⟨b5, 6, none⟩) := Eq.mp (by kernel_rfl) q38
      replace q1v : Ep12u1 44 = .pointer (some ⟨b5, 9, none⟩) := Eq.mp (by kernel_rfl) q1v
      replace hS : St w0 w' (ro ρ :: cells q6 191 [.slice q0a r_0.fb.length c_r_0_0, .int .i64 q0v.2.1, .bool q0v.2.2] :: cells (blkOf (Ep12u1 41)) 3 [.int .i64 q0v.1] :: bunA (fun (cs42u1 : List Value) => RepL (RpI .i64) ρ q0w cs42u1) (fun (cs42u1 : List Value) => [vec 3 (RpI .i64).sz (.slice (adOf (Ep12u1 42)) q0w.length (capOf (Ep12u1 42))) q0w.length cs42u1]) :: cells b5 183 [.int .u16 x10, .bool (decide (q0o.1 = 1)), .int .i64 q0b.1, .int .i64 q0c.1, .int .i64 q0d.1, .int .i64 q7.1, .slice q3 q2.length c_b5_6_L11u4, .slice q5 q4.length c_b5_7_L11u3, .slice q8 q9.length c_b5_8_L11u2, .slice (adOf (Ep12u1 42)) q0w.length (capOf (Ep12u1 42))] :: (cells b4 183 [.int .u16 0, .bool false, .int .i64 0, .int .i64 0, .int .i64 0, .int .i64 0, .slice none 0 0, .slice none 0 0, .slice none 0 0, .slice none 0 0] :: vec 3 (RpI .i64).sz (.slice q3 q2.length c_b5_6_L11u4) q2.length q0e :: vec 3 (RpI .i64).sz (.slice q5 q4.length c_b5_7_L11u3) q4.length q0n :: vec 3 (RpI .i64).sz (.slice q8 q9.length c_b5_8_L11u2) q9.length q0x :: l)) := Eq.mp (by kernel_rfl) hS
      have q_ := St.unbun (hS.pull 3); obtain ⟨cs42u1, hr42u1, hS⟩ := q_
      replace hFL11u1 := ar_s hFL11u1; obtain ⟨x45u1, hx45u1, hFL11u1⟩ := hFL11u1
      refine x_blk <| x_region <| p (yadd ((hE12u1 32 rfl).trans q4h) rfl hx45u1) <| p (yl_move rfl) <|
        x_done <|
        ?_
      have e_ := Option.some.inj (show some _ = some _ from hFL11u1); subst e_
      exact x_inv ⟨kL11u1, Nat.lt_succ_self _, (adOf (Ep12u1 42)), q0w.length, (capOf (Ep12u1 42)), cs42u1, x45u1, q0v.2.1, q0v.2.2, q0w, hLL11u1, ((hE12u1 0 rfl).trans q3v), ((hE12u1 1 rfl).trans q4p), ((hE12u1 4 rfl).trans q4q), ((hE12u1 5 rfl).trans q3d), ((hE12u1 7 rfl).trans q3w), ((hE12u1 28 rfl).trans q4f), ((hE12u1 31 rfl).trans q4g), rfl, hr42u1, (((((((((hS.pull 3).drop.pull 1).pull 1).pull 7).pull 7).pull 7).pull 6).pull 7).pull 7)⟩
    · replace hFL11u1 := it_f hc33u1 hFL11u1
      refine x_exitTo _ rfl <|
        ?_
      have e_ := Option.some.inj (show some _ = some _ from hFL11u1); subst e_
      exact x_inv ⟨q0m, q0i.length, c_b5_9_L11u1h, q17, q18, q19, q0i, hLL11u1, q3v, q4p, q4q, q3d, q4f, q21, ((((((((hS.pull 7).pull 7).pull 7).pull 7).pull 7).pull 7).pull 7).pull 7)⟩
  rintro E w ⟨q1b, q1r, c_b5_9_L11u1, q1m, q1z, q20, q1c, rfl, q5v, q5w, q4u, q5k, q4y, q3x, hS⟩
  have e_ := St.vec_n (hS.pull 6) q3x; subst e_
  refine x_blk <| x_region <| p (yadd (c := 4) q4y rfl ⟨rfl, by decide⟩) <| p (yl_move rfl) <|
    x_done <| x_un 0 <| x_seq <| x_region <|
    p (ylss_l (t := false) rfl rfl (by decide)) <| x_done <| x_seq <| x_cond_f (show ev _ _ = .bool false from rfl) <|
    x_exitTo _ rfl <| x_seq <| x_region <| pa (v := .agg #[.int .u16 x10, .bool (decide (q0o.1 = 1)), .int .i64 q0b.1, .int .i64 q0c.1, .int .i64 q0d.1, .int .i64 q7.1, .slice q3 q2.length c_b5_6_L11u4, .slice q5 q4.length c_b5_7_L11u3, .slice q8 q9.length c_b5_8_L11u2, .slice q1b q1c.length c_b5_9_L11u1]) (ld_sub agg_183 q5k rfl rfl (hS.pull 2)) <|
    ?_
  refine o_storeAgg (news := [.int .u16 x10, .bool (decide (q0o.1 = 1)), .int .i64 q0b.1, .int .i64 q0c.1, .int .i64 q0d.1, .int .i64 q7.1, .slice q3 q2.length c_b5_6_L11u4, .slice q5 q4.length c_b5_7_L11u3, .slice q8 q9.length c_b5_8_L11u2, .slice q1b q1c.length c_b5_9_L11u1]) agg_183 q4u rfl rfl (by simp [over_length]) (hS.pull 1) (fun w' hS => ?_)
  refine x_done <|
    ?_
  have e_ := Option.some.inj (show some _ = some _ from hF); subst e_
  exact x_return ⟨_, ⟨_, _, _, rfl, q4u, ldvA agg_183 rfl (fun j v hj => by rw [add0]; exact St.cell hS hj), rfl⟩, q3, q2.length, c_b5_6_L11u4, q0e, q5, q4.length, c_b5_7_L11u3, q0n, q8, q9.length, c_b5_8_L11u2, q0x, q1b, q1c.length, c_b5_9_L11u1, q1m, rfl, q3l, q3p, q3t, q3x, (((((((hS.drop.pull 1).drop.pull 5).pull 1).pull 5).pull 5).pull 5).pull 5)⟩
attribute [irreducible] P_stream_reader_tile

def P_stream_reader_pads_L3 (r_0 : T_stream_reader) (q0b : (Int × Int × Bool)) : (List T_array_Pad × Int × Int × Bool) → Option ((List T_array_Pad × Int × Int × Bool) ⊕ (List T_array_Pad × Int × Bool)) := fun (q4, q5, q2, q3) =>
  if q5 < q0b.1 then
    bd (P_stream_reader_bits (T_stream_reader.mk r_0.fb q2 q3) 4) fun q6 =>
    bd (P_stream_reader_bits (T_stream_reader.mk r_0.fb q6.2.1 q6.2.2) 4) fun q7 =>
    bd (P_stream_reader_bits (T_stream_reader.mk r_0.fb q7.2.1 q7.2.2) 2) fun q8 =>
    bd (P_stream_reader_bits (T_stream_reader.mk r_0.fb q8.2.1 q8.2.2) 3) fun q9 =>
    lv (q4 ++ [(T_array_Pad.mk q6.1 q7.1 q8.1 q9.1)]) fun q0a =>
    ck (apOk 32 q0a.length) <|
    ar (q5 + 1) fun x20 =>
    some (Sum.inl (q0a, x20, q9.2.1, q9.2.2))
  else
    some (Sum.inr (q4, q2, q3))
def P_stream_reader_pads (r_0 : T_stream_reader) : Option (List T_array_Pad × Int × Bool) :=
  bd (P_stream_reader_bits r_0 8) fun q4 =>
  bd (
    lp (P_stream_reader_pads_L3 r_0 q4) fuel ([], 0, q4.2.1, q4.2.2)) fun (q5, q2, q3) =>
  some (q5, q2, q3)
set_option maxHeartbeats 4000000 in
set_option maxRecDepth 100000 in
theorem c_stream_reader_pads {w0 w : World} {l : List Assn} {ρ : Heap} {q0i : Nat} {q0c : Option Addr} {q0q : Nat} {c_r_0_0 : Nat} {r_0 : T_stream_reader} {r : (List T_array_Pad × Int × Bool)} (hF : P_stream_reader_pads r_0 = some r) (q8 : RdS (RpI .u8) ρ q0c q0q c_r_0_0 r_0.fb) (hS : St w0 w (cells q0i 191 [.slice q0c q0q c_r_0_0, .int .i64 r_0.fat, .bool r_0.fover] :: ro ρ :: l)) :
    Calls Try.prog 97 #[.pointer (some ⟨q0i, 0, none⟩)] w fun e w' => ∃ (q0t : Option Addr) (q0k : Nat) (c_y0_ret : Nat) (q0r : List Value), e = .returned (.slice q0t q0k c_y0_ret) ∧ RepL R_array_Pad ρ r.1 q0r ∧ St w0 w' (vec 187 R_array_Pad.sz (.slice q0t q0k c_y0_ret) q0k q0r :: cells q0i 191 [.slice q0c q0q c_r_0_0, .int .i64 r.2.1, .bool r.2.2] :: ro ρ :: l) := by
  have e_ := q8.n; subst e_
  refine enterC Try.func97 rfl 22 rfl (by simp) ?_
  replace hF := bd_s hF; obtain ⟨q0u, q11, hF⟩ := hF
  refine x_seq <| x_region <| p (yl_assign rfl) <| x_done <|
    x_seq <| x_region <| p (yl_assign rfl) <| x_done <|
    x_seq <| x_seq <| x_region <| p (yl_move rfl) <|
    ?_
  have hcall := c_stream_reader_bits q11 q8 ((hS.pull 1).pull 1)
  refine o_cc call_94 (args2 rfl rfl) hcall ?_
  rintro e w' ⟨rfl, hS⟩
  refine ⟨_, rfl, ?_⟩
  refine p (yl_move rfl) <| x_done <|
    ?_
  replace hF := bd_s hF; obtain ⟨oL3, hLL3, hF⟩ := hF
  refine x_join (fun E w => ∃ (q0a : Option Addr) (q0b : Nat) (c_out3_L3 : Nat) (q5 : List Value) (q0j : List T_array_Pad) (q0d : Int) (q0e : Bool), (q0j, q0d, q0e) = oL3 ∧ E 3 = .slice q0a q0b c_out3_L3 ∧ RepL R_array_Pad ρ q0j q5 ∧ St w0 w (vec 187 R_array_Pad.sz (.slice q0a q0b c_out3_L3) q0b q5 :: cells q0i 191 [.slice q0c r_0.fb.length c_r_0_0, .int .i64 q0d, .bool q0e] :: ro ρ :: l)) ?_ ?_
  · skip -- L3
    refine x_block ?_
    replace hS := St.vec_nil hS 187 R_array_Pad.sz
    have q0o : RepL R_array_Pad ρ [] [] := rfl
    refine x_loop (fun k_ E w => ∃ (q6 : Option Addr) (q7 : Nat) (c_out3_L3h : Nat) (q2 : List Value) (q9 : List T_array_Pad) (q0p : Int) (q3 : Int) (q4 : Bool), lp (P_stream_reader_pads_L3 r_0 q0u) k_ (q9, q0p, q3, q4) = some oL3 ∧ E 0 = .pointer (some ⟨q0i, 0, none⟩) ∧ E 3 = .slice q6 q7 c_out3_L3h ∧ E 5 = .int .i64 q0u.1 ∧ E 6 = .int .i64 q0p ∧ RepL R_array_Pad ρ q9 q2 ∧ St w0 w (cells q0i 191 [.slice q0c r_0.fb.length c_r_0_0, .int .i64 q3, .bool q4] :: vec 187 R_array_Pad.sz (.slice q6 q7 c_out3_L3h) q7 q2 :: ro ρ :: l)) fuel ⟨none, 0, 0, [], [], 0, q0u.2.1, q0u.2.2, hLL3, rfl, rfl, rfl, rfl, q0o, (((hS.pull 2).pull 1).pull 2)⟩ ?_
    rintro kL3 E w ⟨q6, q7, c_out3_L3h, q2, q9, q0p, q3, q4, hLL3, q0h, q0v, q0w, q0x, q0f, hS⟩
    have e_ := St.vec_n (hS.pull 1) q0f; subst e_
    replace hLL3 := lp_s hLL3; obtain ⟨kL3, obL3, rfl, hFL3, hLL3⟩ := hLL3
    refine x_seq <| x_region <| p (yl_lss q0x q0w) <| x_done <|
      x_seq <|
      x_cond_p (q0p < q0u.1) rfl (fun hc7 => ?_) (fun hc7 => ?_)
    · replace hFL3 := it_t hc7 hFL3
      replace hFL3 := bd_s hFL3; obtain ⟨q0l, q12, hFL3⟩ := hFL3
      refine x_skip <| x_seq <| x_block <| x_region <|
        p (yl_move q0v) <| p (yl_move q0h) <|
        ?_
      have hcall := c_stream_reader_bits q12 q8 ((hS.pull 2).pull 1)
      refine o_cc call_94 (args2 rfl rfl) hcall ?_
      rintro e w' ⟨rfl, hS⟩
      refine ⟨_, rfl, ?_⟩
      replace hFL3 := bd_s hFL3; obtain ⟨q0m, q13, hFL3⟩ := hFL3
      refine p (yl_move q0h) <|
        ?_
      have hcall := c_stream_reader_bits q13 q8 ((hS.pull 1).pull 1)
      refine o_cc call_94 (args2 rfl rfl) hcall ?_
      rintro e w' ⟨rfl, hS⟩
      refine ⟨_, rfl, ?_⟩
      replace hFL3 := bd_s hFL3; obtain ⟨q0n, q14, hFL3⟩ := hFL3
      refine p (yl_move q0h) <|
        ?_
      have hcall := c_stream_reader_bits q14 q8 ((hS.pull 1).pull 1)
      refine o_cc call_94 (args2 rfl rfl) hcall ?_
      rintro e w' ⟨rfl, hS⟩
      refine ⟨_, rfl, ?_⟩
      replace hFL3 := bd_s hFL3; obtain ⟨q0g, q15, hFL3⟩ := hFL3
      refine p (yl_move q0h) <|
        ?_
      have hcall := c_stream_reader_bits q15 q8 ((hS.pull 1).pull 1)
      refine o_cc call_94 (args2 rfl rfl) hcall ?_
      rintro e w' ⟨rfl, hS⟩
      refine ⟨_, rfl, ?_⟩
      refine p (v := .agg #[.int .i64 q0l.1, .int .i64 q0m.1, .int .i64 q0n.1, .int .i64 q0g.1]) (yl_build bld_187 bldf_187 (parts_eq (pt (va := .int .i64 q0l.1) rfl (pt (va := .int .i64 q0m.1) rfl (pt (va := .int .i64 q0n.1) rfl (pt (va := .int .i64 q0g.1) rfl pt0))))) (by kernel_rfl)) <|
        ?_
      refine o_buildSlice (vs := [.agg #[.int .i64 q0l.1, .int .i64 q0m.1, .int .i64 q0n.1, .int .i64 q0g.1]]) (cs := [.int .i64 q0l.1, .int .i64 q0m.1, .int .i64 q0n.1, .int .i64 q0g.1]) sl_79 zero_187 (parts_eq (pt (va := .agg #[.int .i64 q0l.1, .int .i64 q0m.1, .int .i64 q0n.1, .int .i64 q0g.1]) rfl pt0)) rfl (by intro v hv; simp only [List.mem_cons, List.not_mem_nil, or_false] at hv; first | (subst hv; rfl) | (rcases hv with rfl <;> rfl)) (by decide) rfl hS (fun b18 w' hS => ?_)
      replace hFL3 := lv_s hFL3; obtain ⟨q0y, q0z, hFL3⟩ := hFL3
      replace hFL3 := ck_s hFL3; obtain ⟨q10, hFL3⟩ := hFL3
      refine o_ap sl_79 zero_187 rfl (by decide) rfl rfl (hS.pull 3) q0f (src_blk usl_79 hS rfl rfl) (RepL.cons (R := R_array_Pad) (ρ := ρ) (x := (T_array_Pad.mk q0l.1 q0m.1 q0n.1 q0g.1)) (cs := [.int .i64 q0l.1, .int .i64 q0m.1, .int .i64 q0n.1, .int .i64 q0g.1]) rfl RepL.nil) q0z q10 (fun A19 c19 cs19 w' hr19 hS => ?_)
      replace hFL3 := ar_s hFL3; obtain ⟨x20, hx20, hFL3⟩ := hFL3
      refine p (yl_assign rfl) <| x_done <| x_blk <| x_region <|
        p (yadd q0x rfl hx20) <| p (yl_move rfl) <| x_done <|
        ?_
      have e_ := Option.some.inj (show some _ = some _ from hFL3); subst e_
      exact x_inv ⟨kL3, Nat.lt_succ_self _, A19, q0y.length, c19, cs19, q0y, x20, q0g.2.1, q0g.2.2, hLL3, q0h, rfl, q0w, rfl, hr19, ((((hS.pull 1).drop.pull 2).pull 1).pull 2)⟩
    · replace hFL3 := it_f hc7 hFL3
      refine x_exitTo _ rfl <|
        ?_
      have e_ := Option.some.inj (show some _ = some _ from hFL3); subst e_
      exact x_inv ⟨q6, q9.length, c_out3_L3h, q2, q9, q3, q4, hLL3, q0v, q0f, (((hS.pull 2).pull 1).pull 2)⟩
  rintro E w ⟨q0a, q0b, c_out3_L3, q5, q0j, q0d, q0e, rfl, q16, q0s, hS⟩
  have e_ := St.vec_n hS q0s; subst e_
  refine x_seq <| x_region <| p (yl_move q16) <| p (yl_assign rfl) <|
    x_done <|
    ?_
  have e_ := Option.some.inj (show some _ = some _ from hF); subst e_
  exact x_return ⟨_, ⟨_, _, rfl, rfl, rfl⟩, q0a, q0j.length, c_out3_L3, q5, rfl, q0s, (((hS.pull 2).pull 2).pull 2)⟩
attribute [irreducible] P_stream_reader_pads

def P_stream_Decode_L19 (b0 : List Int) (q9 : (Int × Int × Bool)) (q0a : (Int × Int × Bool)) (q0b : (Int × Int × Bool)) (q7 : Int) : (Int × Int × Bool × List T_array_Tile) → Option ((Int × Int × Bool × List T_array_Tile) ⊕ (Int × Bool × List T_array_Tile)) := fun (q3, q4, q5, q2) =>
  if q3 < q9.1 then
    ar (q3 * q0a.1) fun x99 =>
    ar (x99 + q7) fun x101 =>
    bd (P_stream_reader_tile (T_stream_reader.mk b0 q4 q5) q0b.1) fun q6 =>
    ck (inb x101 q2.length) <|
    lv (stt q2 x101 q6.1) fun q8 =>
    ar (q3 + 1) fun x107 =>
    some (Sum.inl (x107, q6.2.1, q6.2.2, q8))
  else
    some (Sum.inr (q4, q5, q2))
def P_stream_Decode_L15 (b0 : List Int) (q0b : (Int × Int × Bool)) (q0a : (Int × Int × Bool)) (q0c : (Int × Int × Bool)) : (Int × Int × Bool × List T_array_Tile) → Option ((Int × Int × Bool × List T_array_Tile) ⊕ ((Int × Bool × List T_array_Tile) ⊕ (T_array_Config × Int))) := fun (q2, q3, q4, q5) =>
  if q2 < q0a.1 then
    ck ((8 : Int) ≠ 0) <|
    ar (Int.tdiv q3 8) fun x88 =>
    bd (
      lp (P_stream_Decode_L19 b0 q0b q0a q0c q2) fuel (0, q3, q4, q5)) fun (q8, q6, q9) =>
    ar ((1 : Int) + q2) fun x111 =>
    bd (P_stream_reader_part (T_stream_reader.mk b0 q8 q6) x88 x111) fun q7 =>
    if q7.1 ≠ 0 then
      some (Sum.inr (Sum.inr ((T_array_Config.mk 0 0 0 [] [] []), q7.1)))
    else
      ar (q2 + 1) fun x117 =>
      some (Sum.inl (x117, q7.2, q6, q9))
  else
    some (Sum.inr (Sum.inl (q3, q4, q5)))
def P_stream_Decode (b0 : List Int) : Option (T_array_Config × Int) :=
  if 65536 < (b0.length : Int) then
    some ((T_array_Config.mk 0 0 0 [] [] []), (3 : Int))
  else
    bd (P_stream_reader_bits (T_stream_reader.mk b0 0 false) 16) fun q0b =>
    bd (P_stream_reader_bits (T_stream_reader.mk b0 q0b.2.1 q0b.2.2) 8) fun q0c =>
    bd (P_stream_reader_bits (T_stream_reader.mk b0 q0c.2.1 q0c.2.2) 8) fun q3 =>
    bd (P_stream_reader_bits (T_stream_reader.mk b0 q3.2.1 q3.2.2) 8) fun q2 =>
    bd (P_stream_reader_bits (T_stream_reader.mk b0 q2.2.1 q2.2.2) 8) fun q4 =>
    bd (P_stream_reader_part (T_stream_reader.mk b0 q4.2.1 q4.2.2) 0 0) fun q0d =>
    if q0d.1 ≠ 0 then
      some ((T_array_Config.mk 0 0 0 [] [] []), q0d.1)
    else
      lv ((decide (q0b.1 ≠ 19799)) || (decide (q0c.1 ≠ 1))) fun x45 =>
      if x45 = true then
        some ((T_array_Config.mk 0 0 0 [] [] []), (4 : Int))
      else
        lv (min q3.1 q2.1) fun x51 =>
        lv (max q3.1 q2.1) fun x58 =>
        lv ((decide (x51 < 1)) || (decide (16 < x58))) fun x60 =>
        lv (x60 || (decide (q4.1 < 2))) fun x65 =>
        lv (x65 || (decide (8 < q4.1))) fun x70 =>
        if x70 = true then
          some ((T_array_Config.mk 0 0 0 [] [] []), (2 : Int))
        else
          ar (q3.1 * q2.1) fun x76 =>
          ck (mkOk 136 x76) <|
          lv ((List.replicate (x76 : Int).toNat (T_array_Tile.mk 0 false (T_anon180.mk 0 0 0 0) (T_anon181.mk [] [] [] [])) : List T_array_Tile)) fun q0f =>
          bs (
            lp (P_stream_Decode_L15 b0 q3 q2 q4) fuel (0, q0d.2, q4.2.2, q0f)) (fun y => some y) fun (q5, q0a, q8) =>
          ck ((8 : Int) ≠ 0) <|
          ar (Int.tdiv q5 8) fun x122 =>
          bd (P_stream_reader_pads (T_stream_reader.mk b0 q5 q0a)) fun q6 =>
          bd (P_stream_reader_pads (T_stream_reader.mk b0 q6.2.1 q6.2.2)) fun q7 =>
          ar ((1 : Int) + q2.1) fun x133 =>
          bd (P_stream_reader_part (T_stream_reader.mk b0 q7.2.1 q7.2.2) x122 x133) fun q9 =>
          if q9.1 ≠ 0 then
            some ((T_array_Config.mk 0 0 0 [] [] []), q9.1)
          else
            ar ((8 : Int) * (b0.length : Int)) fun x145 =>
            if q9.2 < x145 then
              some ((T_array_Config.mk 0 0 0 [] [] []), (4 : Int))
            else
              bd (P_array_Check (T_array_Config.mk q3.1 q2.1 q4.1 q8 q6.1 q7.1)) fun q0e =>
              if q0e ≠ 0 then
                some ((T_array_Config.mk 0 0 0 [] [] []), q0e)
              else
                some ((T_array_Config.mk q3.1 q2.1 q4.1 q8 q6.1 q7.1), (0 : Int))
set_option maxHeartbeats 4000000 in
set_option maxRecDepth 100000 in
theorem c_stream_Decode {w0 w : World} {l : List Assn} {ρ : Heap} {q0n : Option Addr} {q3s : Nat} {c_b0 : Nat} {b0 : List Int} {r : (T_array_Config × Int)} (hF : P_stream_Decode b0 = some r) (q12 : RdS (RpI .u8) ρ q0n q3s c_b0 b0) (hS : St w0 w (ro ρ :: l)) :
    Calls Try.prog 40 #[.slice q0n q3s c_b0] w fun e w' => ∃ (ρ' : Heap) (q2h : Option Addr) (q1h : Nat) (c_y0_ret_3 : Nat) (q21 : List Value) (q2i : Option Addr) (q1i : Nat) (c_y0_ret_4 : Nat) (q22 : List Value) (q2j : Option Addr) (q1j : Nat) (c_y0_ret_5 : Nat) (q23 : List Value), e = .returned (.tuple #[.agg #[.int .i64 r.1.Rows, .int .i64 r.1.Cols, .int .i64 r.1.Tracks, .slice q2h q1h c_y0_ret_3, .slice q2i q1i c_y0_ret_4, .slice q2j q1j c_y0_ret_5], .int .i64 r.2]) ∧ Le ρ ρ' ∧ RepL R_array_Tile ρ' r.1.Tiles q21 ∧ RepL R_array_Pad ρ' r.1.In q22 ∧ RepL R_array_Pad ρ' r.1.Out q23 ∧ St w0 w' (vec 183 R_array_Tile.sz (.slice q2h q1h c_y0_ret_3) q1h q21 :: vec 187 R_array_Pad.sz (.slice q2i q1i c_y0_ret_4) q1i q22 :: vec 187 R_array_Pad.sz (.slice q2j q1j c_y0_ret_5) q1j q23 :: ro ρ' :: l) := by
  have e_ := q12.n; subst e_
  refine enterC Try.func40 rfl 155 rfl (by simp) ?_
  refine x_seq <| x_region <|
    ?_
  refine o_alloc zero_81 hS (fun b2 w' hS => ?_)
  refine p (yl_assign rfl) <| x_done <| x_seq <| x_seq <|
    x_region <| p (yl_move rfl) <| p (yl_len_slice usl_75 rfl) <| p (yl_gtr rfl rfl) <|
    x_done <|
    x_cond_p (65536 < (b0.length : Int)) rfl (fun hc18 => ?_) (fun hc18 => ?_)
  · replace hF := it_t hc18 hF
    refine x_seq <| x_region <| p (v := .agg #[.int .i64 0, .int .i64 0, .int .i64 0, .slice none 0 0, .slice none 0 0, .slice none 0 0]) (yl_build bld_81 bldf_81 (parts_eq pt0) (by kernel_rfl)) <|
      ?_
    refine o_storeAgg (news := [.int .i64 0, .int .i64 0, .int .i64 0, .slice none 0 0, .slice none 0 0, .slice none 0 0]) agg_81 rfl rfl rfl (by simp [over_length]) hS (fun w' hS => ?_)
    refine p (yl_assign rfl) <| x_done <|
      ?_
    replace hS := St.vec_nil hS 183 R_array_Tile.sz
    have q4 : RepL R_array_Tile ρ [] [] := rfl
    replace hS := St.vec_nil hS 187 R_array_Pad.sz
    have q5 : RepL R_array_Pad ρ [] [] := rfl
    replace hS := St.vec_nil hS 187 R_array_Pad.sz
    have q6 : RepL R_array_Pad ρ [] [] := rfl
    have e_ := Option.some.inj (show some _ = some _ from hF); subst e_
    exact x_return ⟨_, ⟨_, _, _, rfl, rfl, ldvA agg_81 rfl (fun j v hj => by rw [add0]; exact St.cell (hS.pull 3) hj), _, _, rfl, rfl, rfl⟩, ρ, none, 0, 0, [], none, 0, 0, [], none, 0, 0, [], rfl, (Le.refl _), q4, q5, q6, (((((hS.pull 3).drop.pull 3).pull 1).pull 2).pull 3)⟩
  · replace hF := it_f hc18 hF
    refine x_skip <| x_seq <| x_region <| p (yl_move rfl) <|
      p (v := .agg #[.slice q0n b0.length c_b0, .int .i64 0, .bool false]) (yl_build bld_191 bldf_191 (parts_eq (pt (va := .slice q0n b0.length c_b0) rfl pt0)) (by kernel_rfl)) <|
      ?_
    refine o_box (cs := [.slice q0n b0.length c_b0, .int .i64 0, .bool false]) rfl rfl hS (fun b22 w' hS => ?_)
    replace hF := bd_s hF; obtain ⟨q3t, q49, hF⟩ := hF
    refine p (yl_assign rfl) <| x_done <| x_seq <| x_region <|
      p (yl_move rfl) <|
      ?_
    have hcall := c_stream_reader_bits q49 q12 ((hS.pull 2).pull 1)
    refine o_cc call_94 (args2 rfl rfl) hcall ?_
    rintro e w' ⟨rfl, hS⟩
    refine ⟨_, rfl, ?_⟩
    replace hF := bd_s hF; obtain ⟨q3u, q4a, hF⟩ := hF
    refine p (yl_move rfl) <|
      ?_
    have hcall := c_stream_reader_bits q4a q12 ((hS.pull 1).pull 1)
    refine o_cc call_94 (args2 rfl rfl) hcall ?_
    rintro e w' ⟨rfl, hS⟩
    refine ⟨_, rfl, ?_⟩
    replace hF := bd_s hF; obtain ⟨q0f, q4b, hF⟩ := hF
    refine p (yl_assign rfl) <| p (yl_assign rfl) <| x_done <| x_seq <|
      x_region <| p (yl_move rfl) <|
      ?_
    have hcall := c_stream_reader_bits q4b q12 ((hS.pull 1).pull 1)
    refine o_cc call_94 (args2 rfl rfl) hcall ?_
    rintro e w' ⟨rfl, hS⟩
    refine ⟨_, rfl, ?_⟩
    replace hF := bd_s hF; obtain ⟨q8, q4c, hF⟩ := hF
    refine p (yl_move rfl) <|
      ?_
    have hcall := c_stream_reader_bits q4c q12 ((hS.pull 1).pull 1)
    refine o_cc call_94 (args2 rfl rfl) hcall ?_
    rintro e w' ⟨rfl, hS⟩
    refine ⟨_, rfl, ?_⟩
    replace hF := bd_s hF; obtain ⟨q9, q4d, hF⟩ := hF
    refine p (yl_move rfl) <|
      ?_
    have hcall := c_stream_reader_bits q4d q12 ((hS.pull 1).pull 1)
    refine o_cc call_94 (args2 rfl rfl) hcall ?_
    rintro e w' ⟨rfl, hS⟩
    refine ⟨_, rfl, ?_⟩
    refine p (v := .agg #[.int .i64 q0f.1, .int .i64 q8.1, .int .i64 q9.1, .slice none 0 0, .slice none 0 0, .slice none 0 0]) (yl_build bld_81 bldf_81 (parts_eq (pt (va := .int .i64 q0f.1) rfl (pt (va := .int .i64 q8.1) rfl (pt (va := .int .i64 q9.1) rfl pt0)))) (by kernel_rfl)) <|
      ?_
    refine o_alloc zero_81 hS (fun b7 w' hS => ?_)
    refine o_storeAgg (news := [.int .i64 q0f.1, .int .i64 q8.1, .int .i64 q9.1, .slice none 0 0, .slice none 0 0, .slice none 0 0]) agg_81 rfl rfl rfl (by simp [over_length]) hS (fun w' hS => ?_)
    replace hF := bd_s hF; obtain ⟨q3v, q4e, hF⟩ := hF
    refine x_done <| x_seq <| x_seq <| x_region <|
      p (yl_move rfl) <|
      ?_
    have hcall := c_stream_reader_part q4e q12 ((hS.pull 2).pull 2)
    refine o_cc call_95 (args3 rfl rfl rfl) hcall ?_
    rintro e w' ⟨rfl, hS⟩
    refine ⟨_, rfl, ?_⟩
    refine p (yl_assign rfl) <| x_done <| x_seq <| x_region <|
      p (yl_move rfl) <| p (yl_neq rfl rfl) <| x_done <|
      x_cond_p (q3v.1 ≠ 0) rfl (fun hc37 => ?_) (fun hc37 => ?_)
    · replace hF := it_t hc37 hF
      refine x_seq <| x_region <| p (v := .agg #[.int .i64 0, .int .i64 0, .int .i64 0, .slice none 0 0, .slice none 0 0, .slice none 0 0]) (yl_build bld_81 bldf_81 (parts_eq pt0) (by kernel_rfl)) <| p (yl_move rfl) <|
        ?_
      refine o_storeAgg (news := [.int .i64 0, .int .i64 0, .int .i64 0, .slice none 0 0, .slice none 0 0, .slice none 0 0]) agg_81 rfl rfl rfl (by simp [over_length]) (hS.pull 3) (fun w' hS => ?_)
      refine p (yl_assign rfl) <| x_done <|
        ?_
      replace hS := St.vec_nil hS 183 R_array_Tile.sz
      have q4 : RepL R_array_Tile ρ [] [] := rfl
      replace hS := St.vec_nil hS 187 R_array_Pad.sz
      have q5 : RepL R_array_Pad ρ [] [] := rfl
      replace hS := St.vec_nil hS 187 R_array_Pad.sz
      have q6 : RepL R_array_Pad ρ [] [] := rfl
      have e_ := Option.some.inj (show some _ = some _ from hF); subst e_
      exact x_return ⟨_, ⟨_, _, _, rfl, rfl, ldvA agg_81 rfl (fun j v hj => by rw [add0]; exact St.cell (hS.pull 3) hj), _, _, rfl, rfl, rfl⟩, ρ, none, 0, 0, [], none, 0, 0, [], none, 0, 0, [], rfl, (Le.refl _), q4, q5, q6, (((((((hS.pull 3).drop.pull 3).drop.pull 4).drop.pull 3).pull 1).pull 2).pull 3)⟩
    · replace hF := it_f hc37 hF
      replace hF := lv_s hF; obtain ⟨x45, hx45, hF⟩ := hF
      refine x_skip <| x_seq <| x_seq <| x_region <|
        p (yl_move rfl) <| p (yl_neq rfl rfl) <| p (yl_move rfl) <| pg (v := .int .i64 q3u.1) 42 (c := !(decide (q3t.1 ≠ 19799))) (says_f _) (fun hq => Yl.at (yl_move rfl)) <|
        pg (v := .bool (decide (q3u.1 ≠ 1))) 42 (c := !(decide (q3t.1 ≠ 19799))) (says_f _) (fun hq => Yl.at (yl_neq (cv hq) rfl)) <| p (yor' rfl rfl (fun hc => (cv (t_not hc))) hx45) <| x_done <|
        x_cond (t := x45) rfl (fun hc45 => ?_) (fun hc45 => ?_)
      · replace hF := it_t hc45 hF
        refine x_seq <| x_region <| p (v := .agg #[.int .i64 0, .int .i64 0, .int .i64 0, .slice none 0 0, .slice none 0 0, .slice none 0 0]) (yl_build bld_81 bldf_81 (parts_eq pt0) (by kernel_rfl)) <|
          ?_
        refine o_storeAgg (news := [.int .i64 0, .int .i64 0, .int .i64 0, .slice none 0 0, .slice none 0 0, .slice none 0 0]) agg_81 rfl rfl rfl (by simp [over_length]) (hS.pull 3) (fun w' hS => ?_)
        refine p (yl_assign rfl) <| x_done <|
          ?_
        replace hS := St.vec_nil hS 183 R_array_Tile.sz
        have q4 : RepL R_array_Tile ρ [] [] := rfl
        replace hS := St.vec_nil hS 187 R_array_Pad.sz
        have q5 : RepL R_array_Pad ρ [] [] := rfl
        replace hS := St.vec_nil hS 187 R_array_Pad.sz
        have q6 : RepL R_array_Pad ρ [] [] := rfl
        have e_ := Option.some.inj (show some _ = some _ from hF); subst e_
        exact x_return ⟨_, ⟨_, _, _, rfl, rfl, ldvA agg_81 rfl (fun j v hj => by rw [add0]; exact St.cell (hS.pull 3) hj), _, _, rfl, rfl, rfl⟩, ρ, none, 0, 0, [], none, 0, 0, [], none, 0, 0, [], rfl, (Le.refl _), q4, q5, q6, (((((((hS.pull 3).drop.pull 3).drop.pull 4).drop.pull 3).pull 1).pull 2).pull 3)⟩
      · replace hF := it_bf hc45 hF
        replace hF := lv_s hF; obtain ⟨x51, hx51, hF⟩ := hF
        replace hF := lv_s hF; obtain ⟨x58, hx58, hF⟩ := hF
        replace hF := lv_s hF; obtain ⟨x60, hx60, hF⟩ := hF
        replace hF := lv_s hF; obtain ⟨x65, hx65, hF⟩ := hF
        replace hF := lv_s hF; obtain ⟨x70, hx70, hF⟩ := hF
        refine x_skip <| x_seq <| x_seq <| x_region <|
          p (yl_field0 fld_81_0 rfl) <| pa (at_load one_3 rfl ((hS.pull 2).cell rfl)) <| p (yl_field0 fld_81_1 rfl) <| pa (at_load one_3 rfl ((hS.pull 2).cell rfl)) <|
          p (ymin' rfl rfl hx51) <| p (yl_lss rfl rfl) <| p (yl_move rfl) <| pg (v := .pointer (some ⟨b7, 0, none⟩)) 53 (c := !(decide (x51 < 1))) (says_f _) (fun hq => Yl.at (yl_field0 fld_81_0 rfl)) <|
          pg (v := .int .i64 q0f.1) 53 (c := !(decide (x51 < 1))) (says_f _) (fun hq => at_load one_3 (cv hq) ((hS.pull 2).cell rfl)) <| pg (v := .pointer (some ⟨b7, 1, none⟩)) 53 (c := !(decide (x51 < 1))) (says_f _) (fun hq => Yl.at (yl_field0 fld_81_1 rfl)) <| pg (v := .int .i64 q8.1) 53 (c := !(decide (x51 < 1))) (says_f _) (fun hq => at_load one_3 (cv hq) ((hS.pull 2).cell rfl)) <| pg (v := .int .i64 x58) 53 (c := !(decide (x51 < 1))) (says_f _) (fun hq => Yl.at (ymax' (cv hq) (cv hq) hx58)) <|
          pg (v := .bool (decide (16 < x58))) 53 (c := !(decide (x51 < 1))) (says_f _) (fun hq => Yl.at (yl_gtr (cv hq) rfl)) <| p (yor' rfl rfl (fun hc => (cv (t_not hc))) hx60) <| p (yl_move rfl) <| pg (v := .pointer (some ⟨b7, 2, none⟩)) 61 (c := !x60) (says_f _) (fun hq => Yl.at (yl_field0 fld_81_2 rfl)) <|
          pg (v := .int .i64 q9.1) 61 (c := !x60) (says_f _) (fun hq => at_load one_3 (cv hq) ((hS.pull 2).cell rfl)) <| pg (v := .bool (decide (q9.1 < 2))) 61 (c := !x60) (says_f _) (fun hq => Yl.at (yl_lss (cv hq) rfl)) <| p (yor' rfl rfl (fun hc => (cv (t_not hc))) hx65) <| p (yl_move rfl) <|
          pg (v := .pointer (some ⟨b7, 2, none⟩)) 66 (c := !x65) (says_f _) (fun hq => Yl.at (yl_field0 fld_81_2 rfl)) <| pg (v := .int .i64 q9.1) 66 (c := !x65) (says_f _) (fun hq => at_load one_3 (cv hq) ((hS.pull 2).cell rfl)) <| pg (v := .bool (decide (8 < q9.1))) 66 (c := !x65) (says_f _) (fun hq => Yl.at (yl_gtr (cv hq) rfl)) <| p (yor' rfl rfl (fun hc => (cv (t_not hc))) hx70) <|
          x_done <|
          x_cond (t := x70) rfl (fun hc70 => ?_) (fun hc70 => ?_)
        · replace hF := it_t hc70 hF
          refine x_seq <| x_region <| p (v := .agg #[.int .i64 0, .int .i64 0, .int .i64 0, .slice none 0 0, .slice none 0 0, .slice none 0 0]) (yl_build bld_81 bldf_81 (parts_eq pt0) (by kernel_rfl)) <|
            ?_
          refine o_storeAgg (news := [.int .i64 0, .int .i64 0, .int .i64 0, .slice none 0 0, .slice none 0 0, .slice none 0 0]) agg_81 rfl rfl rfl (by simp [over_length]) (hS.pull 3) (fun w' hS => ?_)
          refine p (yl_assign rfl) <| x_done <|
            ?_
          replace hS := St.vec_nil hS 183 R_array_Tile.sz
          have q4 : RepL R_array_Tile ρ [] [] := rfl
          replace hS := St.vec_nil hS 187 R_array_Pad.sz
          have q5 : RepL R_array_Pad ρ [] [] := rfl
          replace hS := St.vec_nil hS 187 R_array_Pad.sz
          have q6 : RepL R_array_Pad ρ [] [] := rfl
          have e_ := Option.some.inj (show some _ = some _ from hF); subst e_
          exact x_return ⟨_, ⟨_, _, _, rfl, rfl, ldvA agg_81 rfl (fun j v hj => by rw [add0]; exact St.cell (hS.pull 3) hj), _, _, rfl, rfl, rfl⟩, ρ, none, 0, 0, [], none, 0, 0, [], none, 0, 0, [], rfl, (Le.refl _), q4, q5, q6, (((((((hS.pull 3).drop.pull 3).drop.pull 4).drop.pull 3).pull 1).pull 2).pull 3)⟩
        · replace hF := it_bf hc70 hF
          replace hF := ar_s hF; obtain ⟨x76, hx76, hF⟩ := hF
          refine x_skip <| x_seq <| x_region <| p (yl_field0 fld_81_0 rfl) <|
            pa (at_load one_3 rfl ((hS.pull 2).cell rfl)) <| p (yl_field0 fld_81_1 rfl) <| pa (at_load one_3 rfl ((hS.pull 2).cell rfl)) <| p (ymul rfl rfl hx76) <|
            ?_
          replace hF := ck_s hF; obtain ⟨q3w, hF⟩ := hF
          replace hF := lv_s hF; obtain ⟨q3, q3x, hF⟩ := hF
          refine o_mk sl_78 zero_183 (show R_array_Tile.ok ρ _ (T_array_Tile.mk 0 false (T_anon180.mk 0 0 0 0) (T_anon181.mk [] [] [] [])) from ⟨_, _, _, _, _, _, _, _, _, _, _, _, rfl, (RdS.nil (A := none) (c := 0)), (RdS.nil (A := none) (c := 0)), (RdS.nil (A := none) (c := 0)), (RdS.nil (A := none) (c := 0))⟩) rfl rfl q3w (by decide) q3x hS (fun A77 cs77 w' hr77 hS => ?_)
          refine p (yl_field0 fld_81_3 rfl) <|
            ?_
          refine o_store1 (v := .slice A77 q3.length q3.length) one_78 rfl rfl rfl rfl (hS.pull 3) (fun w' hS => ?_)
          refine x_done <| x_seq <| x_seq <| x_region <|
            p (yl_field0 fld_81_1 rfl) <| pa (at_load one_3 rfl (hS.cell rfl)) <| p (yl_move rfl) <| x_done <|
            ?_
          replace hF := bs_s hF; obtain ⟨oL15, hLL15, hF⟩ := hF
          refine x_join (fun E w => ∃ (q0d : Heap) (q0w : List Value) (q1l : Int) (q1m : Bool) (q25 : List T_array_Tile), (Sum.inl (q1l, q1m, q25)) = oL15 ∧ Le ρ q0d ∧ E 0 = .slice q0n b0.length c_b0 ∧ E 2 = .pointer (some ⟨b2, 0, none⟩) ∧ E 4 = .pointer (some ⟨b22, 0, none⟩) ∧ E 7 = .pointer (some ⟨b7, 0, none⟩) ∧ RepL R_array_Tile q0d q25 q0w ∧ St w0 w (cells b2 81 [.int .i64 0, .int .i64 0, .int .i64 0, .slice none 0 0, .slice none 0 0, .slice none 0 0] :: cells b22 191 [.slice q0n b0.length c_b0, .int .i64 q1l, .bool q1m] :: cells b7 81 [.int .i64 q0f.1, .int .i64 q8.1, .int .i64 q9.1, .slice A77 q3.length q3.length, .slice none 0 0, .slice none 0 0] :: vec 183 R_array_Tile.sz (.slice A77 q3.length q3.length) q3.length q0w :: ro q0d :: l)) ?_ ?_
          · skip -- L15
            refine x_block ?_
            refine x_loop (fun k_ E w => ∃ (q0y : Heap) (q0o : List Value) (q0a : Int) (q0u : Int) (q0v : Bool) (q0z : List T_array_Tile), lp (P_stream_Decode_L15 b0 q0f q8 q9) k_ (q0a, q0u, q0v, q0z) = some oL15 ∧ Le ρ q0y ∧ E 0 = .slice q0n b0.length c_b0 ∧ E 2 = .pointer (some ⟨b2, 0, none⟩) ∧ E 4 = .pointer (some ⟨b22, 0, none⟩) ∧ E 7 = .pointer (some ⟨b7, 0, none⟩) ∧ E 80 = .int .i64 q8.1 ∧ E 81 = .int .i64 q0a ∧ RepL R_array_Tile q0y q0z q0o ∧ St w0 w (cells b2 81 [.int .i64 0, .int .i64 0, .int .i64 0, .slice none 0 0, .slice none 0 0, .slice none 0 0] :: cells b22 191 [.slice q0n b0.length c_b0, .int .i64 q0u, .bool q0v] :: cells b7 81 [.int .i64 q0f.1, .int .i64 q8.1, .int .i64 q9.1, .slice A77 q3.length q3.length, .slice none 0 0, .slice none 0 0] :: vec 183 R_array_Tile.sz (.slice A77 q3.length q3.length) q3.length q0o :: ro q0y :: l)) fuel ⟨ρ, cs77, 0, q3v.2, q9.2.2, q3, hLL15, (Le.refl _), rfl, rfl, rfl, rfl, rfl, rfl, hr77, (((((hS.pull 3).pull 2).pull 2).pull 3).pull 4)⟩ ?_
            rintro kL15 E w ⟨q0y, q0o, q0a, q0u, q0v, q0z, hLL15, q10, q35, q36, q2p, q2q, q2y, q26, q24, hS⟩
            replace hLL15 := lp_s hLL15; obtain ⟨kL15, obL15, rfl, hFL15, hLL15⟩ := hLL15
            refine x_seq <| x_region <| p (yl_lss q26 q2y) <| x_done <|
              x_seq <|
              x_cond_p (q0a < q8.1) rfl (fun hc82 => ?_) (fun hc82 => ?_)
            · replace hFL15 := it_t hc82 hFL15
              replace hFL15 := ck_s hFL15; obtain ⟨q3y, hFL15⟩ := hFL15
              replace hFL15 := ar_s hFL15; obtain ⟨x88, hx88, hFL15⟩ := hFL15
              refine x_skip <| x_seq <| x_block <| x_seq <|
                x_region <| p (yl_move q26) <| p (yl_assign rfl) <| x_done <|
                x_seq <| x_region <| p (yl_move q2p) <| p (yl_nilCheck rfl) <|
                p (yl_field0 fld_191_1 rfl) <| pa (at_load one_3 rfl ((hS.pull 1).cell rfl)) <| p (yquo rfl rfl q3y hx88) <| p (yl_assign rfl) <|
                x_done <| x_seq <| x_seq <| x_region <|
                p (yl_field0 fld_81_0 q2q) <| pa (at_load one_3 rfl ((hS.pull 2).cell rfl)) <| p (yl_move rfl) <| x_done <|
                ?_
              replace hFL15 := bd_s hFL15; obtain ⟨oL19, hLL19, hFL15⟩ := hFL15
              refine x_join (fun E w => ∃ (q19 : Heap) (q0x : List Value) (q1n : Int) (q1a : Bool) (q1k : List T_array_Tile), (q1n, q1a, q1k) = oL19 ∧ Le q0y q19 ∧ E 0 = .slice q0n b0.length c_b0 ∧ E 2 = .pointer (some ⟨b2, 0, none⟩) ∧ E 4 = .pointer (some ⟨b22, 0, none⟩) ∧ E 7 = .pointer (some ⟨b7, 0, none⟩) ∧ E 9 = .int .i64 q0a ∧ E 10 = .int .i64 x88 ∧ E 80 = .int .i64 q8.1 ∧ E 81 = .int .i64 q0a ∧ RepL R_array_Tile q19 q1k q0x ∧ St w0 w (cells b2 81 [.int .i64 0, .int .i64 0, .int .i64 0, .slice none 0 0, .slice none 0 0, .slice none 0 0] :: cells b22 191 [.slice q0n b0.length c_b0, .int .i64 q1n, .bool q1a] :: cells b7 81 [.int .i64 q0f.1, .int .i64 q8.1, .int .i64 q9.1, .slice A77 q3.length q3.length, .slice none 0 0, .slice none 0 0] :: vec 183 R_array_Tile.sz (.slice A77 q3.length q3.length) q3.length q0x :: ro q19 :: l)) ?_ ?_
              · skip -- L19
                refine x_block ?_
                refine x_loop (fun k_ E w => ∃ (q7 : Heap) (q0c : List Value) (q0r : Int) (q0p : Int) (q0q : Bool) (q1b : List T_array_Tile), lp (P_stream_Decode_L19 b0 q0f q8 q9 q0a) k_ (q0r, q0p, q0q, q1b) = some oL19 ∧ Le q0y q7 ∧ E 0 = .slice q0n b0.length c_b0 ∧ E 2 = .pointer (some ⟨b2, 0, none⟩) ∧ E 4 = .pointer (some ⟨b22, 0, none⟩) ∧ E 7 = .pointer (some ⟨b7, 0, none⟩) ∧ E 9 = .int .i64 q0a ∧ E 10 = .int .i64 x88 ∧ E 80 = .int .i64 q8.1 ∧ E 81 = .int .i64 q0a ∧ E 90 = .int .i64 q0f.1 ∧ E 91 = .int .i64 q0r ∧ RepL R_array_Tile q7 q1b q0c ∧ St w0 w (cells b2 81 [.int .i64 0, .int .i64 0, .int .i64 0, .slice none 0 0, .slice none 0 0, .slice none 0 0] :: cells b22 191 [.slice q0n b0.length c_b0, .int .i64 q0p, .bool q0q] :: cells b7 81 [.int .i64 q0f.1, .int .i64 q8.1, .int .i64 q9.1, .slice A77 q3.length q3.length, .slice none 0 0, .slice none 0 0] :: vec 183 R_array_Tile.sz (.slice A77 q3.length q3.length) q3.length q0c :: ro q7 :: l)) fuel ⟨q0y, q0o, 0, q0u, q0v, q0z, hLL19, (Le.refl _), q35, q36, q2p, q2q, rfl, rfl, q2y, q26, rfl, rfl, q24, (((((hS.pull 4).pull 4).pull 4).pull 4).pull 4)⟩ ?_
                rintro kL19 E w ⟨q7, q0c, q0r, q0p, q0q, q1b, hLL19, q1o, q37, q38, q2r, q1d, q2s, q2z, q30, q31, q32, q27, q1c, hS⟩
                replace hLL19 := lp_s hLL19; obtain ⟨kL19, obL19, rfl, hFL19, hLL19⟩ := hLL19
                refine x_seq <| x_region <| p (yl_lss q27 q32) <| x_done <|
                  x_seq <|
                  x_cond_p (q0r < q0f.1) rfl (fun hc92 => ?_) (fun hc92 => ?_)
                · replace hFL19 := it_t hc92 hFL19
                  refine x_skip <| x_seq <| x_block <| x_seq <|
                    x_region <| p (yl_move q27) <| p (yl_assign rfl) <| x_done <|
                    ?_
                  replace hFL19 := ar_s hFL19; obtain ⟨x99, hx99, hFL19⟩ := hFL19
                  replace hFL19 := ar_s hFL19; obtain ⟨x101, hx101, hFL19⟩ := hFL19
                  replace hFL19 := bd_s hFL19; obtain ⟨q2, q3k, hFL19⟩ := hFL19
                  replace hFL19 := ck_s hFL19; obtain ⟨q39, hFL19⟩ := hFL19
                  replace hFL19 := lv_s hFL19; obtain ⟨q2k, q3l, hFL19⟩ := hFL19
                  refine x_par (w0 := w0) [⟨[], [], [94], [], [], []⟩, ⟨[0], [0], [95], [0], [], []⟩, ⟨[], [], [96], [], [], []⟩, ⟨[], [], [97], [], [], []⟩, ⟨[3], [3], [98], [0], [], []⟩, ⟨[2, 3, 4], [2, 4], [99], [], [], []⟩, ⟨[], [], [100], [], [], []⟩, ⟨[2, 3, 4, 5, 6], [5, 6], [101], [], [], []⟩, ⟨[], [], [102], [], [], []⟩, ⟨[], [], [103], [], [], []⟩, ⟨[9], [9], [104], [0], [], []⟩, ⟨[8, 9, 10], [8, 10], [105], [2], [1], [3, 4]⟩, ⟨[0, 1, 2, 3, 4, 5, 6, 7, 8, 9, 10, 11], [1, 7], [106], [5], [], []⟩, ⟨[0, 1, 2, 3, 4, 5, 6, 7, 8, 9, 10, 11, 12], [11, 12], [], [2], [5, 4], [6]⟩] [⟨none, none, []⟩, ⟨none, (some 11), []⟩, ⟨none, none, []⟩, ⟨(some 11), none, []⟩, ⟨(some 11), (some 13), [105]⟩, ⟨none, (some 13), []⟩, ⟨(some 13), none, [105]⟩] [94, 95, 96, 97, 98, 99, 100, 101, 102, 103, 104, 105, 106] [0, 1, 2, 5] [0, 2, 3, 6] [0, 1, 2, 3, 4, 5, 6, 7, 8, 9, 10, 11, 12] [fun Ep21 => Ep21 94 = .pointer (some ⟨b7, 3, none⟩), fun Ep21 => Ep21 95 = .slice A77 q3.length q3.length, fun Ep21 => Ep21 96 = .int .i64 q0r, fun Ep21 => Ep21 97 = .pointer (some ⟨b7, 1, none⟩), fun Ep21 => Ep21 98 = .int .i64 q8.1, fun Ep21 => Ep21 99 = .int .i64 x99, fun Ep21 => Ep21 100 = .int .i64 q0a, fun Ep21 => Ep21 101 = .int .i64 x101, fun Ep21 => Ep21 102 = .pointer (some ⟨b22, 0, none⟩), fun Ep21 => Ep21 103 = .pointer (some ⟨b7, 2, none⟩), fun Ep21 => Ep21 104 = .int .i64 q9.1, fun Ep21 => Ep21 105 = .agg #[.int .u16 q2.1.Table, .bool q2.1.Init, .int .i64 q2.1.In.fe0, .int .i64 q2.1.In.fe1, .int .i64 q2.1.In.fe2, .int .i64 q2.1.In.fe3, .slice (adOf (partOf 6 (Ep21 105))) q2.1.Out.fe0.length (capOf (partOf 6 (Ep21 105))), .slice (adOf (partOf 7 (Ep21 105))) q2.1.Out.fe1.length (capOf (partOf 7 (Ep21 105))), .slice (adOf (partOf 8 (Ep21 105))) q2.1.Out.fe2.length (capOf (partOf 8 (Ep21 105))), .slice (adOf (partOf 9 (Ep21 105))) q2.1.Out.fe3.length (capOf (partOf 9 (Ep21 105)))], fun Ep21 => Ep21 106 = .pointer (some ((adr A77).add (x101.toNat * R_array_Tile.sz))), fun Ep21 => True] [fun Ep21 => cells b7 81 [.int .i64 q0f.1, .int .i64 q8.1, .int .i64 q9.1, .slice A77 q3.length q3.length, .slice none 0 0, .slice none 0 0], fun Ep21 => cells b22 191 [.slice q0n b0.length c_b0, .int .i64 q0p, .bool q0q], fun Ep21 => ro q7, fun Ep21 => cells b22 191 [.slice q0n b0.length c_b0, .int .i64 q2.2.1, .bool q2.2.2], fun Ep21 => bunA (fun (x : (List Value × List Value × List Value × List Value)) => RepL (RpI .i64) q7 q2.1.Out.fe0 x.1 ∧ RepL (RpI .i64) q7 q2.1.Out.fe1 x.2.1 ∧ RepL (RpI .i64) q7 q2.1.Out.fe2 x.2.2.1 ∧ RepL (RpI .i64) q7 q2.1.Out.fe3 x.2.2.2) (fun (x : (List Value × List Value × List Value × List Value)) => [vec 3 (RpI .i64).sz (.slice (adOf (partOf 6 (Ep21 105))) q2.1.Out.fe0.length (capOf (partOf 6 (Ep21 105)))) q2.1.Out.fe0.length x.1, vec 3 (RpI .i64).sz (.slice (adOf (partOf 7 (Ep21 105))) q2.1.Out.fe1.length (capOf (partOf 7 (Ep21 105)))) q2.1.Out.fe1.length x.2.1, vec 3 (RpI .i64).sz (.slice (adOf (partOf 8 (Ep21 105))) q2.1.Out.fe2.length (capOf (partOf 8 (Ep21 105)))) q2.1.Out.fe2.length x.2.2.1, vec 3 (RpI .i64).sz (.slice (adOf (partOf 9 (Ep21 105))) q2.1.Out.fe3.length (capOf (partOf 9 (Ep21 105)))) q2.1.Out.fe3.length x.2.2.2]), fun Ep21 => vec 183 R_array_Tile.sz (.slice A77 q3.length q3.length) q3.length q0c, fun Ep21 => bunA (fun (x : (Heap × List Value)) => Le q7 x.1 ∧ RdS (RpI .i64) x.1 (adOf (partOf 6 (Ep21 105))) q2.1.Out.fe0.length (capOf (partOf 6 (Ep21 105))) q2.1.Out.fe0 ∧ RdS (RpI .i64) x.1 (adOf (partOf 7 (Ep21 105))) q2.1.Out.fe1.length (capOf (partOf 7 (Ep21 105))) q2.1.Out.fe1 ∧ RdS (RpI .i64) x.1 (adOf (partOf 8 (Ep21 105))) q2.1.Out.fe2.length (capOf (partOf 8 (Ep21 105))) q2.1.Out.fe2 ∧ RdS (RpI .i64) x.1 (adOf (partOf 9 (Ep21 105))) q2.1.Out.fe3.length (capOf (partOf 9 (Ep21 105))) q2.1.Out.fe3 ∧ RepL R_array_Tile x.1 q2k x.2) (fun (x : (Heap × List Value)) => [vec 183 R_array_Tile.sz (.slice A77 q3.length q3.length) q3.length x.2, roD q7 x.1])] mixed (by kernel_rfl) ((((hS.pull 3).pull 4).pull 3).pull 4) ?_ ?_
                  · refine ⟨?_, ?_, ?_, ?_, ?_, ?_, ?_, ?_, ?_, ?_, ?_, ?_, ?_, ?_, trivial⟩
                    · intro Ep21 w l' hE21 hO21 hF_ hS
                      refine p (yl_field0 fld_81_3 ((hE21 7 rfl).trans q1d)) <| x_done <|
                        ?_
                      refine x_fin ⟨⟨_, rfl⟩, rfl, ?_⟩
                      exact Eq.mp (by kernel_rfl) hS
                    · intro Ep21 w l' hE21 hO21 hF_ hS
                      obtain ⟨q1r, -⟩ := hF_
                      replace q1r : Ep21 94 = .pointer (some ⟨b7, 3, none⟩) := Eq.mp (by kernel_rfl) q1r
                      replace hS : St w0 w (cells b7 81 [.int .i64 q0f.1, .int .i64 q8.1, .int .i64 q9.1, .slice A77 q3.length q3.length, .slice none 0 0, .slice none 0 0] :: l') := Eq.mp (by kernel_rfl) hS
                      refine pa (at_load one_78 q1r (hS.cell rfl)) <| x_done <|
                        ?_
                      refine x_fin ⟨⟨_, rfl⟩, rfl, ?_⟩
                      exact Eq.mp (by kernel_rfl) hS
                    · intro Ep21 w l' hE21 hO21 hF_ hS
                      refine p (yl_move (hE21 11 rfl)) <| x_done <|
                        ?_
                      refine x_fin ⟨⟨_, rfl⟩, rfl, ?_⟩
                      exact Eq.mp (by kernel_rfl) hS
                    · intro Ep21 w l' hE21 hO21 hF_ hS
                      refine p (yl_field0 fld_81_1 ((hE21 7 rfl).trans q1d)) <| x_done <|
                        ?_
                      refine x_fin ⟨⟨_, rfl⟩, rfl, ?_⟩
                      exact Eq.mp (by kernel_rfl) hS
                    · intro Ep21 w l' hE21 hO21 hF_ hS
                      obtain ⟨q1s, -⟩ := hF_
                      replace q1s : Ep21 97 = .pointer (some ⟨b7, 1, none⟩) := Eq.mp (by kernel_rfl) q1s
                      replace hS : St w0 w (cells b7 81 [.int .i64 q0f.1, .int .i64 q8.1, .int .i64 q9.1, .slice A77 q3.length q3.length, .slice none 0 0, .slice none 0 0] :: l') := Eq.mp (by kernel_rfl) hS
                      refine pa (at_load one_3 q1s (hS.cell rfl)) <| x_done <|
                        ?_
                      refine x_fin ⟨⟨_, rfl⟩, rfl, ?_⟩
                      exact Eq.mp (by kernel_rfl) hS
                    · intro Ep21 w l' hE21 hO21 hF_ hS
                      obtain ⟨q1t, q1u, -⟩ := hF_
                      replace q1t : Ep21 96 = .int .i64 q0r := Eq.mp (by kernel_rfl) q1t
                      replace q1u : Ep21 98 = .int .i64 q8.1 := Eq.mp (by kernel_rfl) q1u
                      refine p (ymul q1t q1u hx99) <| x_done <|
                        ?_
                      refine x_fin ⟨⟨_, rfl⟩, rfl, ?_⟩
                      exact Eq.mp (by kernel_rfl) hS
                    · intro Ep21 w l' hE21 hO21 hF_ hS
                      refine p (yl_move ((hE21 9 rfl).trans q2s)) <| x_done <|
                        ?_
                      refine x_fin ⟨⟨_, rfl⟩, rfl, ?_⟩
                      exact Eq.mp (by kernel_rfl) hS
                    · intro Ep21 w l' hE21 hO21 hF_ hS
                      obtain ⟨q1v, q1w, -⟩ := hF_
                      replace q1v : Ep21 99 = .int .i64 x99 := Eq.mp (by kernel_rfl) q1v
                      replace q1w : Ep21 100 = .int .i64 q0a := Eq.mp (by kernel_rfl) q1w
                      refine p (yadd q1v q1w hx101) <| x_done <|
                        ?_
                      refine x_fin ⟨⟨_, rfl⟩, rfl, ?_⟩
                      exact Eq.mp (by kernel_rfl) hS
                    · intro Ep21 w l' hE21 hO21 hF_ hS
                      refine p (yl_move ((hE21 4 rfl).trans q2r)) <| x_done <|
                        ?_
                      refine x_fin ⟨⟨_, rfl⟩, rfl, ?_⟩
                      exact Eq.mp (by kernel_rfl) hS
                    · intro Ep21 w l' hE21 hO21 hF_ hS
                      refine p (yl_field0 fld_81_2 ((hE21 7 rfl).trans q1d)) <| x_done <|
                        ?_
                      refine x_fin ⟨⟨_, rfl⟩, rfl, ?_⟩
                      exact Eq.mp (by kernel_rfl) hS
                    · intro Ep21 w l' hE21 hO21 hF_ hS
                      obtain ⟨q1x, -⟩ := hF_
                      replace q1x : Ep21 103 = .pointer (some ⟨b7, 2, none⟩) := Eq.mp (by kernel_rfl) q1x
                      replace hS : St w0 w (cells b7 81 [.int .i64 q0f.1, .int .i64 q8.1, .int .i64 q9.1, .slice A77 q3.length q3.length, .slice none 0 0, .slice none 0 0] :: l') := Eq.mp (by kernel_rfl) hS
                      refine pa (at_load one_3 q1x (hS.cell rfl)) <| x_done <|
                        ?_
                      refine x_fin ⟨⟨_, rfl⟩, rfl, ?_⟩
                      exact Eq.mp (by kernel_rfl) hS
                    · intro Ep21 w l' hE21 hO21 hF_ hS
                      obtain ⟨q1y, q1e, -⟩ := hF_
                      replace q1y : Ep21 102 = .pointer (some ⟨b22, 0, none⟩) := Eq.mp (by kernel_rfl) q1y
                      replace q1e : Ep21 104 = .int .i64 q9.1 := Eq.mp (by kernel_rfl) q1e
                      replace hS : St w0 w (ro q7 :: cells b22 191 [.slice q0n b0.length c_b0, .int .i64 q0p, .bool q0q] :: l') := Eq.mp (by kernel_rfl) hS
                      have hcall := c_stream_reader_tile q3k (q12.le (q10.trans q1o)) (hS.pull 1)
                      refine o_cc call_96 (args2 q1y q1e) hcall ?_
                      rintro e w' ⟨q28, q3c, c_y0_ret_6_21_11, q15, q29, q3d, c_y0_ret_7_21_11, q16, q2a, q3e, c_y0_ret_8_21_11, q17, q2b, q3f, c_y0_ret_9_21_11, q18, rfl, q0g, q0h, q0i, q0j, hS⟩
                      refine ⟨_, rfl, ?_⟩
                      have e_ := St.vec_n hS q0g; subst e_
                      have e_ := St.vec_n (hS.pull 1) q0h; subst e_
                      have e_ := St.vec_n (hS.pull 2) q0i; subst e_
                      have e_ := St.vec_n (hS.pull 3) q0j; subst e_
                      refine x_done <|
                        ?_
                      refine x_fin ⟨⟨_, rfl⟩, rfl, ?_⟩
                      replace hS := St.bun (Φ := (fun (x : (List Value × List Value × List Value × List Value)) => RepL (RpI .i64) q7 q2.1.Out.fe0 x.1 ∧ RepL (RpI .i64) q7 q2.1.Out.fe1 x.2.1 ∧ RepL (RpI .i64) q7 q2.1.Out.fe2 x.2.2.1 ∧ RepL (RpI .i64) q7 q2.1.Out.fe3 x.2.2.2)) (L := (fun (x : (List Value × List Value × List Value × List Value)) => [vec 3 (RpI .i64).sz (.slice q28 q2.1.Out.fe0.length c_y0_ret_6_21_11) q2.1.Out.fe0.length x.1, vec 3 (RpI .i64).sz (.slice q29 q2.1.Out.fe1.length c_y0_ret_7_21_11) q2.1.Out.fe1.length x.2.1, vec 3 (RpI .i64).sz (.slice q2a q2.1.Out.fe2.length c_y0_ret_8_21_11) q2.1.Out.fe2.length x.2.2.1, vec 3 (RpI .i64).sz (.slice q2b q2.1.Out.fe3.length c_y0_ret_9_21_11) q2.1.Out.fe3.length x.2.2.2])) (q15, q16, q17, q18) ⟨q0g, q0h, q0i, q0j⟩ ((((hS.pull 3).pull 3).pull 3).pull 3)
                      exact Eq.mp (by kernel_rfl) ((hS.pull 1).pull 2)
                    · intro Ep21 w l' hE21 hO21 hF_ hS
                      obtain ⟨q1z, q20, -⟩ := hF_
                      replace q1z : Ep21 95 = .slice A77 q3.length q3.length := Eq.mp (by kernel_rfl) q1z
                      replace q20 : Ep21 101 = .int .i64 x101 := Eq.mp (by kernel_rfl) q20
                      replace hS : St w0 w (vec 183 R_array_Tile.sz (.slice A77 q3.length q3.length) q3.length q0c :: l') := Eq.mp (by kernel_rfl) hS
                      refine p (yix_o sl_78 q1z q20 hS q1c q39) <| x_done <|
                        ?_
                      refine x_fin ⟨⟨_, rfl⟩, rfl, ?_⟩
                      exact Eq.mp (by kernel_rfl) hS
                    · intro Ep21 w l' hE21 hO21 hF_ hS
                      obtain ⟨q1f, q1g, -⟩ := hF_
                      replace q1f : Ep21 105 = .agg #[.int .u16 q2.1.Table, .bool q2.1.Init, .int .i64 q2.1.In.fe0, .int .i64 q2.1.In.fe1, .int .i64 q2.1.In.fe2, .int .i64 q2.1.In.fe3, .slice (adOf (partOf 6 (Ep21 105))) q2.1.Out.fe0.length (capOf (partOf 6 (Ep21 105))), .slice (adOf (partOf 7 (Ep21 105))) q2.1.Out.fe1.length (capOf (partOf 7 (Ep21 105))), .slice (adOf (partOf 8 (Ep21 105))) q2.1.Out.fe2.length (capOf (partOf 8 (Ep21 105))), .slice (adOf (partOf 9 (Ep21 105))) q2.1.Out.fe3.length (capOf (partOf 9 (Ep21 105)))] := Eq.mp (by kernel_rfl) q1f
                      replace q1g : Ep21 106 = .pointer (some ((adr A77).add (x101.toNat * R_array_Tile.sz))) := Eq.mp (by kernel_rfl) q1g
                      replace hS : St w0 w (ro q7 :: vec 183 R_array_Tile.sz (.slice A77 q3.length q3.length) q3.length q0c :: bunA (fun (x : (List Value × List Value × List Value × List Value)) => RepL (RpI .i64) q7 q2.1.Out.fe0 x.1 ∧ RepL (RpI .i64) q7 q2.1.Out.fe1 x.2.1 ∧ RepL (RpI .i64) q7 q2.1.Out.fe2 x.2.2.1 ∧ RepL (RpI .i64) q7 q2.1.Out.fe3 x.2.2.2) (fun (x : (List Value × List Value × List Value × List Value)) => [vec 3 (RpI .i64).sz (.slice (adOf (partOf 6 (Ep21 105))) q2.1.Out.fe0.length (capOf (partOf 6 (Ep21 105)))) q2.1.Out.fe0.length x.1, vec 3 (RpI .i64).sz (.slice (adOf (partOf 7 (Ep21 105))) q2.1.Out.fe1.length (capOf (partOf 7 (Ep21 105)))) q2.1.Out.fe1.length x.2.1, vec 3 (RpI .i64).sz (.slice (adOf (partOf 8 (Ep21 105))) q2.1.Out.fe2.length (capOf (partOf 8 (Ep21 105)))) q2.1.Out.fe2.length x.2.2.1, vec 3 (RpI .i64).sz (.slice (adOf (partOf 9 (Ep21 105))) q2.1.Out.fe3.length (capOf (partOf 9 (Ep21 105)))) q2.1.Out.fe3.length x.2.2.2]) :: l') := Eq.mp (by kernel_rfl) hS
                      have q_ := St.unbun (hS.pull 2); obtain ⟨⟨q15, q16, q17, q18⟩, ⟨q0g, q0h, q0i, q0j⟩, hS⟩ := q_
                      have q_ := St.vec_fz ((hS.pull 4).pull 1) q0g; obtain ⟨q4i, q0t, q2t, hS⟩ := q_
                      have q_ := St.vec_fz (hS.pull 1) (q0h.le q0t); obtain ⟨q4g, q0k, q2c, hS⟩ := q_
                      have q_ := St.vec_fz (hS.pull 1) (q0i.le (q0t.trans q0k)); obtain ⟨q4h, q0e, q2d, hS⟩ := q_
                      have q_ := St.vec_fz (hS.pull 1) (q0j.le ((q0t.trans q0k).trans q0e)); obtain ⟨q2e, q0b, q2f, hS⟩ := q_
                      refine o_put' (news := [.int .u16 q2.1.Table, .bool q2.1.Init, .int .i64 q2.1.In.fe0, .int .i64 q2.1.In.fe1, .int .i64 q2.1.In.fe2, .int .i64 q2.1.In.fe3, .slice (adOf (partOf 6 (Ep21 105))) q2.1.Out.fe0.length (capOf (partOf 6 (Ep21 105))), .slice (adOf (partOf 7 (Ep21 105))) q2.1.Out.fe1.length (capOf (partOf 7 (Ep21 105))), .slice (adOf (partOf 8 (Ep21 105))) q2.1.Out.fe2.length (capOf (partOf 8 (Ep21 105))), .slice (adOf (partOf 9 (Ep21 105))) q2.1.Out.fe3.length (capOf (partOf 9 (Ep21 105)))]) sz_183 q1g q1f rfl rfl (o := 0) rfl q39 rfl (hS.pull 1) q1c (((q0t.trans q0k).trans q0e).trans q0b) (fun c hc => ok_all hc (show R_array_Tile.ok q2e [.int .u16 q2.1.Table, .bool q2.1.Init, .int .i64 q2.1.In.fe0, .int .i64 q2.1.In.fe1, .int .i64 q2.1.In.fe2, .int .i64 q2.1.In.fe3, .slice (adOf (partOf 6 (Ep21 105))) q2.1.Out.fe0.length (capOf (partOf 6 (Ep21 105))), .slice (adOf (partOf 7 (Ep21 105))) q2.1.Out.fe1.length (capOf (partOf 7 (Ep21 105))), .slice (adOf (partOf 8 (Ep21 105))) q2.1.Out.fe2.length (capOf (partOf 8 (Ep21 105))), .slice (adOf (partOf 9 (Ep21 105))) q2.1.Out.fe3.length (capOf (partOf 9 (Ep21 105)))] q2.1 from ⟨_, _, _, _, _, _, _, _, _, _, _, _, rfl, (q2t.le ((q0k.trans q0e).trans q0b)), (q2c.le (q0e.trans q0b)), (q2d.le q0b), q2f⟩)) q3l (fun q2u w' q2v hS => ?_)
                      refine x_done <|
                        ?_
                      refine x_fin ⟨⟨undef, rfl⟩, trivial, ?_⟩
                      replace hS := St.ro_split (((q0t.trans q0k).trans q0e).trans q0b) (hS.pull 1)
                      replace hS := St.bun (Φ := (fun (x : (Heap × List Value)) => Le q7 x.1 ∧ RdS (RpI .i64) x.1 (adOf (partOf 6 (Ep21 105))) q2.1.Out.fe0.length (capOf (partOf 6 (Ep21 105))) q2.1.Out.fe0 ∧ RdS (RpI .i64) x.1 (adOf (partOf 7 (Ep21 105))) q2.1.Out.fe1.length (capOf (partOf 7 (Ep21 105))) q2.1.Out.fe1 ∧ RdS (RpI .i64) x.1 (adOf (partOf 8 (Ep21 105))) q2.1.Out.fe2.length (capOf (partOf 8 (Ep21 105))) q2.1.Out.fe2 ∧ RdS (RpI .i64) x.1 (adOf (partOf 9 (Ep21 105))) q2.1.Out.fe3.length (capOf (partOf 9 (Ep21 105))) q2.1.Out.fe3 ∧ RepL R_array_Tile x.1 q2k x.2)) (L := (fun (x : (Heap × List Value)) => [vec 183 R_array_Tile.sz (.slice A77 q3.length q3.length) q3.length x.2, roD q7 x.1])) (q2e, q2u) ⟨(((q0t.trans q0k).trans q0e).trans q0b), (q2t.le ((q0k.trans q0e).trans q0b)), (q2c.le (q0e.trans q0b)), (q2d.le q0b), q2f, q2v⟩ ((hS.pull 1).pull 2)
                      exact Eq.mp (by kernel_rfl) (hS.pull 1)
                  intro Ep21 w' hE21 hF_ hS
                  obtain ⟨q1r, q1z, q1t, q1s, q1u, q1v, q1w, q20, q1y, q1x, q1e, q1f, q1g, -⟩ := hF_
                  replace q1r : Ep21 94 = .pointer (some ⟨b7, 3, none⟩) := Eq.mp (by kernel_rfl) q1r
                  replace q1z : Ep21 95 = .slice A77 q3.length q3.length := Eq.mp (by kernel_rfl) q1z
                  replace q1t : Ep21 96 = .int .i64 q0r := Eq.mp (by kernel_rfl) q1t
                  replace q1s : Ep21 97 = .pointer (some ⟨b7, 1, none⟩) := Eq.mp (by kernel_rfl) q1s
                  replace q1u : Ep21 98 = .int .i64 q8.1 := Eq.mp (by kernel_rfl) q1u
                  replace q1v : Ep21 99 = .int .i64 x99 := Eq.mp (by kernel_rfl) q1v
                  replace q1w : Ep21 100 = .int .i64 q0a := Eq.mp (by kernel_rfl) q1w
                  replace q20 : Ep21 101 = .int .i64 x101 := Eq.mp (by kernel_rfl) q20
                  replace q1y : Ep21 102 = .pointer (some ⟨b22, 0, none⟩) := Eq.mp (by kernel_rfl) q1y
                  replace q1x : Ep21 103 = .pointer (some ⟨b7, 2, none⟩) := Eq.mp (by kernel_rfl) q1x
                  replace q1e : Ep21 104 = .int .i64 q9.1 := Eq.mp (by kernel_rfl) q1e
                  replace q1f : Ep21 105 = .agg #[.int .u16 q2.1.Table, .bool q2.1.Init, .int .i64 q2.1.In.fe0, .int .i64 q2.1.In.fe1, .int .i64 q2.1.In.fe2, .int .i64 q2.1.In.fe3, .slice (adOf (partOf 6 (Ep21 105))) q2.1.Out.fe0.length (capOf (partOf 6 (Ep21 105))), .slice (adOf (partOf 7 (Ep21 105))) q2.1.Out.fe1.length (capOf (partOf 7 (Ep21 105))), .slice (adOf (partOf 8 (Ep21 105))) q2.1.Out.fe2.length (capOf (partOf 8 (Ep21 105))), .slice (adOf (partOf 9 (Ep21 105))) q2.1.Out.fe3.length (capOf (partOf 9 (Ep21 105)))] := Eq.mp (by kernel_rfl) q1f
                  replace q1g : Ep21 106 = .pointer (some ((adr A77).add (x101.toNat * R_array_Tile.sz))) := Eq.mp (by kernel_rfl) q1g
                  replace hS : St w0 w' (cells b7 81 [.int .i64 q0f.1, .int .i64 q8.1, .int .i64 q9.1, .slice A77 q3.length q3.length, .slice none 0 0, .slice none 0 0] :: ro q7 :: cells b22 191 [.slice q0n b0.length c_b0, .int .i64 q2.2.1, .bool q2.2.2] :: bunA (fun (x : (Heap × List Value)) => Le q7 x.1 ∧ RdS (RpI .i64) x.1 (adOf (partOf 6 (Ep21 105))) q2.1.Out.fe0.length (capOf (partOf 6 (Ep21 105))) q2.1.Out.fe0 ∧ RdS (RpI .i64) x.1 (adOf (partOf 7 (Ep21 105))) q2.1.Out.fe1.length (capOf (partOf 7 (Ep21 105))) q2.1.Out.fe1 ∧ RdS (RpI .i64) x.1 (adOf (partOf 8 (Ep21 105))) q2.1.Out.fe2.length (capOf (partOf 8 (Ep21 105))) q2.1.Out.fe2 ∧ RdS (RpI .i64) x.1 (adOf (partOf 9 (Ep21 105))) q2.1.Out.fe3.length (capOf (partOf 9 (Ep21 105))) q2.1.Out.fe3 ∧ RepL R_array_Tile x.1 q2k x.2) (fun (x : (Heap × List Value)) => [vec 183 R_array_Tile.sz (.slice A77 q3.length q3.length) q3.length x.2, roD q7 x.1]) :: (cells b2 81 [.int .i64 0, .int .i64 0, .int .i64 0, .slice none 0 0, .slice none 0 0, .slice none 0 0] :: l)) := Eq.mp (by kernel_rfl) hS
                  have q_ := St.unbun (hS.pull 3); obtain ⟨⟨q2e, q2u⟩, ⟨q33, q2t, q2c, q2d, q2f, q2v⟩, hS⟩ := q_
                  have q_ := St.ro_join ((hS.pull 1).pull 3) (Le.refl _) q33; obtain ⟨q3m, q3g, q3h, hS, q4f⟩ := q_
                  replace hFL19 := ar_s hFL19; obtain ⟨x107, hx107, hFL19⟩ := hFL19
                  refine x_blk <| x_region <| p (yadd ((hE21 91 rfl).trans q27) rfl hx107) <| p (yl_move rfl) <|
                    x_done <|
                    ?_
                  have e_ := Option.some.inj (show some _ = some _ from hFL19); subst e_
                  exact x_inv ⟨kL19, Nat.lt_succ_self _, q3m, q2u, x107, q2.2.1, q2.2.2, q2k, hLL19, (q1o.trans q3g), ((hE21 0 rfl).trans q37), ((hE21 2 rfl).trans q38), ((hE21 4 rfl).trans q2r), ((hE21 7 rfl).trans q1d), ((hE21 9 rfl).trans q2s), ((hE21 10 rfl).trans q2z), ((hE21 80 rfl).trans q30), ((hE21 81 rfl).trans q31), ((hE21 90 rfl).trans q32), rfl, (q2v.le q3h), ((((hS.pull 1).pull 2).pull 3).pull 4)⟩
                · replace hFL19 := it_f hc92 hFL19
                  refine x_exitTo _ rfl <|
                    ?_
                  have e_ := Option.some.inj (show some _ = some _ from hFL19); subst e_
                  exact x_inv ⟨q7, q0c, q0p, q0q, q1b, hLL19, q1o, q37, q38, q2r, q1d, q2s, q2z, q30, q31, q1c, (((((hS.pull 4).pull 4).pull 4).pull 4).pull 4)⟩
              rintro E w ⟨q19, q0x, q1n, q1a, q1k, rfl, q2g, q3z, q34, q3b, q40, q41, q3n, q3o, q3p, q3a, hS⟩
              replace hFL15 := ar_s hFL15; obtain ⟨x111, hx111, hFL15⟩ := hFL15
              replace hFL15 := bd_s hFL15; obtain ⟨q3i, q42, hFL15⟩ := hFL15
              refine x_seq <| x_region <| p (yl_move q3b) <| p (yl_move q3n) <|
                p (yl_move q41) <| p (yadd rfl rfl hx111) <|
                ?_
              have hcall := c_stream_reader_part q42 (q12.le (q10.trans q2g)) ((hS.pull 4).pull 2)
              refine o_cc call_95 (args3 rfl rfl rfl) hcall ?_
              rintro e w' ⟨rfl, hS⟩
              refine ⟨_, rfl, ?_⟩
              refine p (yl_assign rfl) <| x_done <| x_seq <| x_region <|
                p (yl_move rfl) <| p (yl_neq rfl rfl) <| x_done <|
                x_cond_p (q3i.1 ≠ 0) rfl (fun hc114 => ?_) (fun hc114 => ?_)
              · replace hFL15 := it_t hc114 hFL15
                refine x_seq <| x_region <| p (v := .agg #[.int .i64 0, .int .i64 0, .int .i64 0, .slice none 0 0, .slice none 0 0, .slice none 0 0]) (yl_build bld_81 bldf_81 (parts_eq pt0) (by kernel_rfl)) <| p (yl_move rfl) <|
                  ?_
                refine o_storeAgg (news := [.int .i64 0, .int .i64 0, .int .i64 0, .slice none 0 0, .slice none 0 0, .slice none 0 0]) agg_81 q34 rfl rfl (by simp [over_length]) (hS.pull 2) (fun w' hS => ?_)
                refine p (yl_assign rfl) <| x_done <|
                  ?_
                replace hS := St.vec_nil hS 183 R_array_Tile.sz
                have q4 : RepL R_array_Tile q19 [] [] := rfl
                replace hS := St.vec_nil hS 187 R_array_Pad.sz
                have q5 : RepL R_array_Pad q19 [] [] := rfl
                replace hS := St.vec_nil hS 187 R_array_Pad.sz
                have q6 : RepL R_array_Pad q19 [] [] := rfl
                have e_ := Option.some.inj (show some _ = some _ from hFL15); subst e_
                have e_ := (show _ = oL15 from hLL15); subst e_
                have e_ := Option.some.inj (show some _ = some _ from hF); subst e_
                exact x_return ⟨_, ⟨_, _, _, rfl, q34, ldvA agg_81 rfl (fun j v hj => by rw [add0]; exact St.cell (hS.pull 3) hj), _, _, rfl, rfl, rfl⟩, q19, none, 0, 0, [], none, 0, 0, [], none, 0, 0, [], rfl, (q10.trans q2g), q4, q5, q6, ((((((((hS.pull 3).drop.pull 3).drop.pull 4).drop.pull 4).drop.pull 3).pull 1).pull 2).pull 3)⟩
              · replace hFL15 := it_f hc114 hFL15
                replace hFL15 := ar_s hFL15; obtain ⟨x117, hx117, hFL15⟩ := hFL15
                refine x_skip <| x_blk <| x_region <| p (yadd q3p rfl hx117) <|
                  p (yl_move rfl) <| x_done <|
                  ?_
                have e_ := Option.some.inj (show some _ = some _ from hFL15); subst e_
                exact x_inv ⟨kL15, Nat.lt_succ_self _, q19, q0x, x117, q3i.2, q1a, q1k, hLL15, (q10.trans q2g), q3z, q34, q3b, q40, q3o, rfl, q3a, (((((hS.pull 1).pull 4).pull 4).pull 3).pull 4)⟩
            · replace hFL15 := it_f hc82 hFL15
              refine x_exitTo _ rfl <|
                ?_
              have e_ := Option.some.inj (show some _ = some _ from hFL15); subst e_
              exact x_inv ⟨q0y, q0o, q0u, q0v, q0z, hLL15, q10, q35, q36, q2p, q2q, q24, (((((hS.pull 4).pull 4).pull 4).pull 4).pull 4)⟩
          rintro E w ⟨q0d, q0w, q1l, q1m, q25, rfl, q0s, q43, q11, q1p, q1q, q2l, hS⟩
          replace hF := ck_s hF; obtain ⟨q44, hF⟩ := hF
          replace hF := ar_s hF; obtain ⟨x122, hx122, hF⟩ := hF
          replace hF := bd_s hF; obtain ⟨q2m, q45, hF⟩ := hF
          refine x_seq <| x_region <| p (yl_move q1p) <| p (yl_nilCheck rfl) <|
            p (yl_field0 fld_191_1 rfl) <| pa (at_load one_3 rfl ((hS.pull 1).cell rfl)) <| p (yquo rfl rfl q44 hx122) <| p (yl_assign rfl) <|
            x_done <| x_seq <| x_region <| p (yl_move q1p) <|
            ?_
          have hcall := c_stream_reader_pads q45 (q12.le q0s) ((hS.pull 4).pull 2)
          refine o_cc call_97 (args1 rfl) hcall ?_
          rintro e w' ⟨q0l, q3q, c_y0_ret_28_1, q2w, rfl, q13, hS⟩
          refine ⟨_, rfl, ?_⟩
          have e_ := St.vec_n hS q13; subst e_
          replace hF := bd_s hF; obtain ⟨q2n, q46, hF⟩ := hF
          refine p (yl_move q1p) <|
            ?_
          have hcall := c_stream_reader_pads q46 (q12.le q0s) ((hS.pull 2).pull 2)
          refine o_cc call_97 (args1 rfl) hcall ?_
          rintro e w' ⟨q0m, q3r, c_y0_ret_28_3, q2x, rfl, q14, hS⟩
          refine ⟨_, rfl, ?_⟩
          have e_ := St.vec_n hS q14; subst e_
          refine p (yl_field0 fld_81_4 q1q) <|
            ?_
          refine o_store1 (v := .slice q0l q2m.1.length c_y0_ret_28_1) one_79 rfl rfl rfl rfl (hS.pull 5) (fun w' hS => ?_)
          refine p (yl_field0 fld_81_5 q1q) <|
            ?_
          refine o_store1 (v := .slice q0m q2n.1.length c_y0_ret_28_3) one_79 rfl rfl rfl rfl hS (fun w' hS => ?_)
          replace hF := ar_s hF; obtain ⟨x133, hx133, hF⟩ := hF
          replace hF := bd_s hF; obtain ⟨q3j, q47, hF⟩ := hF
          refine x_done <| x_seq <| x_seq <| x_region <|
            p (yl_move q1p) <| p (yl_move rfl) <| p (yl_field0 fld_81_1 q1q) <| pa (at_load one_3 rfl (hS.cell rfl)) <|
            p (yadd rfl rfl hx133) <|
            ?_
          have hcall := c_stream_reader_part q47 (q12.le q0s) ((hS.pull 3).pull 3)
          refine o_cc call_95 (args3 rfl rfl rfl) hcall ?_
          rintro e w' ⟨rfl, hS⟩
          refine ⟨_, rfl, ?_⟩
          refine p (yl_assign rfl) <| x_done <| x_seq <| x_region <|
            p (yl_move rfl) <| p (yl_neq rfl rfl) <| x_done <|
            x_cond_p (q3j.1 ≠ 0) rfl (fun hc136 => ?_) (fun hc136 => ?_)
          · replace hF := it_t hc136 hF
            refine x_seq <| x_region <| p (v := .agg #[.int .i64 0, .int .i64 0, .int .i64 0, .slice none 0 0, .slice none 0 0, .slice none 0 0]) (yl_build bld_81 bldf_81 (parts_eq pt0) (by kernel_rfl)) <| p (yl_move rfl) <|
              ?_
            refine o_storeAgg (news := [.int .i64 0, .int .i64 0, .int .i64 0, .slice none 0 0, .slice none 0 0, .slice none 0 0]) agg_81 q11 rfl rfl (by simp [over_length]) (hS.pull 5) (fun w' hS => ?_)
            refine p (yl_assign rfl) <| x_done <|
              ?_
            replace hS := St.vec_nil hS 183 R_array_Tile.sz
            have q4 : RepL R_array_Tile q0d [] [] := rfl
            replace hS := St.vec_nil hS 187 R_array_Pad.sz
            have q5 : RepL R_array_Pad q0d [] [] := rfl
            replace hS := St.vec_nil hS 187 R_array_Pad.sz
            have q6 : RepL R_array_Pad q0d [] [] := rfl
            have e_ := Option.some.inj (show some _ = some _ from hF); subst e_
            exact x_return ⟨_, ⟨_, _, _, rfl, q11, ldvA agg_81 rfl (fun j v hj => by rw [add0]; exact St.cell (hS.pull 3) hj), _, _, rfl, rfl, rfl⟩, q0d, none, 0, 0, [], none, 0, 0, [], none, 0, 0, [], rfl, q0s, q4, q5, q6, ((((((((((hS.pull 3).drop.pull 3).drop.pull 4).drop.pull 4).drop.pull 4).drop.pull 4).drop.pull 3).pull 1).pull 2).pull 3)⟩
          · replace hF := it_f hc136 hF
            replace hF := ar_s hF; obtain ⟨x145, hx145, hF⟩ := hF
            refine x_skip <| x_seq <| x_seq <| x_region <|
              p (yl_move q1p) <| p (yl_nilCheck rfl) <| p (yl_field0 fld_191_1 rfl) <| pa (at_load one_3 rfl (hS.cell rfl)) <|
              p (yl_move q43) <| p (yl_len_slice usl_75 rfl) <| p (ymul rfl rfl hx145) <| p (yl_lss rfl rfl) <|
              x_done <|
              x_cond_p (q3j.2 < x145) rfl (fun hc146 => ?_) (fun hc146 => ?_)
            · replace hF := it_t hc146 hF
              refine x_seq <| x_region <| p (v := .agg #[.int .i64 0, .int .i64 0, .int .i64 0, .slice none 0 0, .slice none 0 0, .slice none 0 0]) (yl_build bld_81 bldf_81 (parts_eq pt0) (by kernel_rfl)) <|
                ?_
              refine o_storeAgg (news := [.int .i64 0, .int .i64 0, .int .i64 0, .slice none 0 0, .slice none 0 0, .slice none 0 0]) agg_81 q11 rfl rfl (by simp [over_length]) (hS.pull 5) (fun w' hS => ?_)
              refine p (yl_assign rfl) <| x_done <|
                ?_
              replace hS := St.vec_nil hS 183 R_array_Tile.sz
              have q4 : RepL R_array_Tile q0d [] [] := rfl
              replace hS := St.vec_nil hS 187 R_array_Pad.sz
              have q5 : RepL R_array_Pad q0d [] [] := rfl
              replace hS := St.vec_nil hS 187 R_array_Pad.sz
              have q6 : RepL R_array_Pad q0d [] [] := rfl
              have e_ := Option.some.inj (show some _ = some _ from hF); subst e_
              exact x_return ⟨_, ⟨_, _, _, rfl, q11, ldvA agg_81 rfl (fun j v hj => by rw [add0]; exact St.cell (hS.pull 3) hj), _, _, rfl, rfl, rfl⟩, q0d, none, 0, 0, [], none, 0, 0, [], none, 0, 0, [], rfl, q0s, q4, q5, q6, ((((((((((hS.pull 3).drop.pull 3).drop.pull 4).drop.pull 4).drop.pull 4).drop.pull 4).drop.pull 3).pull 1).pull 2).pull 3)⟩
            · replace hF := it_f hc146 hF
              replace hF := bd_s hF; obtain ⟨q2o, q48, hF⟩ := hF
              refine x_skip <| x_seq <| x_seq <| x_region <|
                pa (v := .agg #[.int .i64 q0f.1, .int .i64 q8.1, .int .i64 q9.1, .slice A77 q3.length q3.length, .slice q0l q2m.1.length c_y0_ret_28_1, .slice q0m q2n.1.length c_y0_ret_28_3]) (ld_sub agg_81 q1q rfl rfl (hS.pull 2)) <|
                ?_
              have q_ := St.lend ((hS.pull 1).pull 6) q2l; obtain ⟨ρl0, hll0, hlf0, hS0, back0⟩ := q_
              have q_ := St.lend (hS0.pull 4) (q13.le hll0); obtain ⟨ρl1, hll1, hlf1, hS1, back1⟩ := q_
              have q_ := St.lend (hS1.pull 3) (q14.le (hll0.trans hll1)); obtain ⟨ρl2, hll2, hlf2, hS2, back2⟩ := q_
              have hcall := c_array_Check q48 (hlf0.le (hll1.trans hll2)) (hlf1.le hll2) hlf2 hS2
              refine o_cc call_87 (args1 rfl) ((Calls.mono hcall (fun e w'' h => And.intro h.1 (((((((back0 ((back1 ((back2 h.2).pull 1)).pull 1)).pull 6).pull 3).pull 4).pull 6).pull 5).pull 6)))) ?_
              rintro e w' ⟨rfl, hS⟩
              refine ⟨_, rfl, ?_⟩
              refine p (v := .int .i64 q2o) (yl_assign rfl) <| x_done <| x_seq <| x_region <|
                p (v := .int .i64 q2o) (yl_move rfl) <| p (yl_neq rfl rfl) <| x_done <|
                x_cond_p (q2o ≠ 0) rfl (fun hc151 => ?_) (fun hc151 => ?_)
              · replace hF := it_t hc151 hF
                refine x_seq <| x_region <| p (v := .agg #[.int .i64 0, .int .i64 0, .int .i64 0, .slice none 0 0, .slice none 0 0, .slice none 0 0]) (yl_build bld_81 bldf_81 (parts_eq pt0) (by kernel_rfl)) <| p (v := .int .i64 q2o) (yl_move rfl) <|
                  ?_
                refine o_storeAgg (news := [.int .i64 0, .int .i64 0, .int .i64 0, .slice none 0 0, .slice none 0 0, .slice none 0 0]) agg_81 q11 rfl rfl (by simp [over_length]) (hS.pull 5) (fun w' hS => ?_)
                refine p (v := .int .i64 q2o) (yl_assign rfl) <| x_done <|
                  ?_
                replace hS := St.vec_nil hS 183 R_array_Tile.sz
                have q4 : RepL R_array_Tile q0d [] [] := rfl
                replace hS := St.vec_nil hS 187 R_array_Pad.sz
                have q5 : RepL R_array_Pad q0d [] [] := rfl
                replace hS := St.vec_nil hS 187 R_array_Pad.sz
                have q6 : RepL R_array_Pad q0d [] [] := rfl
                have e_ := Option.some.inj (show some _ = some _ from hF); subst e_
                exact x_return ⟨_, ⟨_, _, _, rfl, q11, ldvA agg_81 rfl (fun j v hj => by rw [add0]; exact St.cell (hS.pull 3) hj), _, _, rfl, rfl, rfl⟩, q0d, none, 0, 0, [], none, 0, 0, [], none, 0, 0, [], rfl, q0s, q4, q5, q6, ((((((((((hS.pull 3).drop.pull 3).drop.pull 4).drop.pull 4).drop.pull 4).drop.pull 4).drop.pull 3).pull 1).pull 2).pull 3)⟩
              · replace hF := it_f hc151 hF
                refine x_skip <| x_seq <| x_region <| pa (v := .agg #[.int .i64 q0f.1, .int .i64 q8.1, .int .i64 q9.1, .slice A77 q3.length q3.length, .slice q0l q2m.1.length c_y0_ret_28_1, .slice q0m q2n.1.length c_y0_ret_28_3]) (ld_sub agg_81 q1q rfl rfl (hS.pull 2)) <|
                  ?_
                refine o_storeAgg (news := [.int .i64 q0f.1, .int .i64 q8.1, .int .i64 q9.1, .slice A77 q3.length q3.length, .slice q0l q2m.1.length c_y0_ret_28_1, .slice q0m q2n.1.length c_y0_ret_28_3]) agg_81 q11 rfl rfl (by simp [over_length]) (hS.pull 5) (fun w' hS => ?_)
                refine p (yl_assign rfl) <| x_done <|
                  ?_
                have e_ := Option.some.inj (show some _ = some _ from hF); subst e_
                exact x_return ⟨_, ⟨_, _, _, rfl, q11, ldvA agg_81 rfl (fun j v hj => by rw [add0]; exact St.cell hS hj), _, _, rfl, rfl, rfl⟩, q0d, A77, q3.length, q3.length, q0w, q0l, q2m.1.length, c_y0_ret_28_1, q2w, q0m, q2n.1.length, c_y0_ret_28_3, q2x, rfl, q0s, q2l, q13, q14, ((((hS.drop.drop.pull 1).drop.pull 1).pull 2).pull 3)⟩
attribute [irreducible] P_stream_Decode

def P_maskmake_Stream_Values_L3 (s0 : T_maskmake_Stream) (n1 : Int) : (List Bool × Int × Int) → Option ((List Bool × Int × Int) ⊕ (List Bool × Int)) := fun (q3, q4, q2) =>
  if q4 < n1 then
    bd (P_maskmake_Stream_Next (T_maskmake_Stream.mk s0.L q2) 2) fun q5 =>
    lv (q3 ++ [decide (q5.1 = 0)]) fun q6 =>
    ck (apOk 1 q6.length) <|
    ar (q4 + 1) fun x15 =>
    some (Sum.inl (q6, x15, q5.2))
  else
    some (Sum.inr (q3, q2))
def P_maskmake_Stream_Values (s0 : T_maskmake_Stream) (n1 : Int) : Option (List Bool × Int) :=
  bd (
    lp (P_maskmake_Stream_Values_L3 s0 n1) fuel ([], 0, s0.fat)) fun (q3, q2) =>
  some (q3, q2)
set_option maxHeartbeats 4000000 in
set_option maxRecDepth 100000 in
theorem c_maskmake_Stream_Values {w0 w : World} {l : List Assn} {ρ : Heap} {q0h : Nat} {q0b : Option Addr} {q0l : Nat} {c_s0_0 : Nat} {s0 : T_maskmake_Stream} {n1 : Int} {r : (List Bool × Int)} (hF : P_maskmake_Stream_Values s0 n1 = some r) (q0n : RdS (RpI .i64) ρ q0b q0l c_s0_0 s0.L) (hS : St w0 w (cells q0h 25 [.slice q0b q0l c_s0_0, .int .i64 s0.fat] :: ro ρ :: l)) :
    Calls Try.prog 116 #[.pointer (some ⟨q0h, 0, none⟩), .int .i64 n1] w fun e w' => ∃ (q0m : Option Addr) (q0e : Nat) (c_y0_ret : Nat) (q0j : List Value), e = .returned (.slice q0m q0e c_y0_ret) ∧ RepL RpB ρ r.1 q0j ∧ St w0 w' (vec 4 RpB.sz (.slice q0m q0e c_y0_ret) q0e q0j :: cells q0h 25 [.slice q0b q0l c_s0_0, .int .i64 r.2] :: ro ρ :: l) := by
  have e_ := q0n.n; subst e_
  refine enterC Try.func116 rfl 17 rfl (by simp) ?_
  refine x_seq <| x_region <| p (yl_assign rfl) <| x_done <|
    x_seq <| x_region <| p (yl_assign rfl) <| x_done <|
    x_seq <| x_seq <| x_region <| p (yl_move rfl) <|
    p (yl_move rfl) <| x_done <|
    ?_
  replace hF := bd_s hF; obtain ⟨oL3, hLL3, hF⟩ := hF
  refine x_join (fun E w => ∃ (q8 : Option Addr) (q9 : Nat) (c_out5_L3 : Nat) (q3 : List Value) (q0d : List Bool) (q0c : Int), (q0d, q0c) = oL3 ∧ E 5 = .slice q8 q9 c_out5_L3 ∧ RepL RpB ρ q0d q3 ∧ St w0 w (vec 4 RpB.sz (.slice q8 q9 c_out5_L3) q9 q3 :: cells q0h 25 [.slice q0b s0.L.length c_s0_0, .int .i64 q0c] :: ro ρ :: l)) ?_ ?_
  · skip -- L3
    refine x_block ?_
    replace hS := St.vec_nil hS 4 RpB.sz
    have q0f : RepL RpB ρ [] [] := rfl
    refine x_loop (fun k_ E w => ∃ (q4 : Option Addr) (q5 : Nat) (c_out5_L3h : Nat) (q2 : List Value) (q7 : List Bool) (q0g : Int) (q6 : Int), lp (P_maskmake_Stream_Values_L3 s0 n1) k_ (q7, q0g, q6) = some oL3 ∧ E 0 = .pointer (some ⟨q0h, 0, none⟩) ∧ E 5 = .slice q4 q5 c_out5_L3h ∧ E 6 = .int .i64 n1 ∧ E 7 = .int .i64 q0g ∧ RepL RpB ρ q7 q2 ∧ St w0 w (cells q0h 25 [.slice q0b s0.L.length c_s0_0, .int .i64 q6] :: vec 4 RpB.sz (.slice q4 q5 c_out5_L3h) q5 q2 :: ro ρ :: l)) fuel ⟨none, 0, 0, [], [], 0, s0.fat, hLL3, rfl, rfl, rfl, rfl, q0f, (((hS.pull 2).pull 1).pull 2)⟩ ?_
    rintro kL3 E w ⟨q4, q5, c_out5_L3h, q2, q7, q0g, q6, hLL3, q0o, q0p, q0q, q0r, q0a, hS⟩
    have e_ := St.vec_n (hS.pull 1) q0a; subst e_
    replace hLL3 := lp_s hLL3; obtain ⟨kL3, obL3, rfl, hFL3, hLL3⟩ := hLL3
    refine x_seq <| x_region <| p (yl_lss q0r q0q) <| x_done <|
      x_seq <|
      x_cond_p (q0g < n1) rfl (fun hc8 => ?_) (fun hc8 => ?_)
    · replace hFL3 := it_t hc8 hFL3
      replace hFL3 := bd_s hFL3; obtain ⟨q0i, q0t, hFL3⟩ := hFL3
      refine x_skip <| x_seq <| x_block <| x_region <|
        p (yl_move q0p) <| p (yl_move q0o) <|
        ?_
      have hcall := c_maskmake_Stream_Next q0t q0n ((hS.pull 2).pull 1)
      refine o_cc call_15 (args2 rfl rfl) hcall ?_
      rintro e w' ⟨rfl, hS⟩
      refine ⟨_, rfl, ?_⟩
      refine p (yl_eql rfl rfl) <|
        ?_
      refine o_buildSlice (vs := [.bool (decide (q0i.1 = 0))]) (cs := [.bool (decide (q0i.1 = 0))]) sl_124 zero_4 (parts_eq (pt (va := .bool (decide (q0i.1 = 0))) rfl pt0)) rfl (by intro v hv; simp only [List.mem_cons, List.not_mem_nil, or_false] at hv; first | (subst hv; rfl) | (rcases hv with rfl <;> rfl)) (by decide) rfl hS (fun b13 w' hS => ?_)
      replace hFL3 := lv_s hFL3; obtain ⟨q0s, q0u, hFL3⟩ := hFL3
      replace hFL3 := ck_s hFL3; obtain ⟨q0v, hFL3⟩ := hFL3
      refine o_ap sl_124 zero_4 rfl (by decide) rfl rfl (hS.pull 3) q0a (src_blk usl_124 hS rfl rfl) (RepL.cons (R := RpB) (ρ := ρ) (x := decide (q0i.1 = 0)) (cs := [.bool (decide (q0i.1 = 0))]) rfl RepL.nil) q0u q0v (fun A14 c14 cs14 w' hr14 hS => ?_)
      replace hFL3 := ar_s hFL3; obtain ⟨x15, hx15, hFL3⟩ := hFL3
      refine p (yl_assign rfl) <| x_done <| x_blk <| x_region <|
        p (yadd q0r rfl hx15) <| p (yl_move rfl) <| x_done <|
        ?_
      have e_ := Option.some.inj (show some _ = some _ from hFL3); subst e_
      exact x_inv ⟨kL3, Nat.lt_succ_self _, A14, q0s.length, c14, cs14, q0s, x15, q0i.2, hLL3, q0o, rfl, q0q, rfl, hr14, ((((hS.pull 1).drop.pull 2).pull 1).pull 2)⟩
    · replace hFL3 := it_f hc8 hFL3
      refine x_exitTo _ rfl <|
        ?_
      have e_ := Option.some.inj (show some _ = some _ from hFL3); subst e_
      exact x_inv ⟨q4, q7.length, c_out5_L3h, q2, q7, q6, hLL3, q0p, q0a, (((hS.pull 2).pull 1).pull 2)⟩
  rintro E w ⟨q8, q9, c_out5_L3, q3, q0d, q0c, rfl, q0w, q0k, hS⟩
  have e_ := St.vec_n hS q0k; subst e_
  refine x_seq <| x_region <| p (yl_move q0w) <| p (yl_assign rfl) <|
    x_done <|
    ?_
  have e_ := Option.some.inj (show some _ = some _ from hF); subst e_
  exact x_return ⟨_, ⟨_, _, rfl, rfl, rfl⟩, q8, q0d.length, c_out5_L3, q3, rfl, q0k, (((hS.pull 2).pull 2).pull 2)⟩
attribute [irreducible] P_maskmake_Stream_Values

def P_maskmake_Stream_Played_L3 (s0 : T_maskmake_Stream) (n1 : Int) (k2 : Int) : (List (List Bool) × Int × Int) → Option ((List (List Bool) × Int × Int) ⊕ (List (List Bool) × Int)) := fun (q3, q4, q2) =>
  if q4 < n1 then
    bd (P_maskmake_Stream_Values (T_maskmake_Stream.mk s0.L q2) k2) fun q5 =>
    lv (q3 ++ [q5.1]) fun q6 =>
    ck (apOk 24 q6.length) <|
    ar (q4 + 1) fun x17 =>
    some (Sum.inl (q6, x17, q5.2))
  else
    some (Sum.inr (q3, q2))
def P_maskmake_Stream_Played (s0 : T_maskmake_Stream) (n1 : Int) (k2 : Int) : Option (List (List Bool) × Int) :=
  bd (
    lp (P_maskmake_Stream_Played_L3 s0 n1 k2) fuel ([], 0, s0.fat)) fun (q3, q2) =>
  some (q3, q2)
set_option maxHeartbeats 4000000 in
set_option maxRecDepth 100000 in
theorem c_maskmake_Stream_Played {w0 w : World} {l : List Assn} {ρ : Heap} {q0l : Nat} {q0c : Option Addr} {q0p : Nat} {c_s0_0 : Nat} {s0 : T_maskmake_Stream} {n1 : Int} {k2 : Int} {r : (List (List Bool) × Int)} (hF : P_maskmake_Stream_Played s0 n1 k2 = some r) (q0t : RdS (RpI .i64) ρ q0c q0p c_s0_0 s0.L) (hS : St w0 w (cells q0l 25 [.slice q0c q0p c_s0_0, .int .i64 s0.fat] :: ro ρ :: l)) :
    Calls Try.prog 57 #[.pointer (some ⟨q0l, 0, none⟩), .int .i64 n1, .int .i64 k2] w fun e w' => ∃ (ρ' : Heap) (q0q : Option Addr) (q0g : Nat) (c_y0_ret : Nat) (q0n : List Value), e = .returned (.slice q0q q0g c_y0_ret) ∧ Le ρ ρ' ∧ RepL (RpSl RpB) ρ' r.1 q0n ∧ St w0 w' (vec 124 (RpSl RpB).sz (.slice q0q q0g c_y0_ret) q0g q0n :: cells q0l 25 [.slice q0c q0p c_s0_0, .int .i64 r.2] :: ro ρ' :: l) := by
  have e_ := q0t.n; subst e_
  refine enterC Try.func57 rfl 19 rfl (by simp) ?_
  refine x_seq <| x_region <| p (yl_assign rfl) <| x_done <|
    x_seq <| x_region <| p (yl_assign rfl) <| x_done <|
    x_seq <| x_seq <| x_region <| p (yl_move rfl) <|
    p (yl_move rfl) <| x_done <|
    ?_
  replace hF := bd_s hF; obtain ⟨oL3, hLL3, hF⟩ := hF
  refine x_join (fun E w => ∃ (q0r : Heap) (q9 : Option Addr) (q0a : Nat) (c_out7_L3 : Nat) (q4 : List Value) (q0f : List (List Bool)) (q0d : Int), (q0f, q0d) = oL3 ∧ Le ρ q0r ∧ E 7 = .slice q9 q0a c_out7_L3 ∧ RepL (RpSl RpB) q0r q0f q4 ∧ St w0 w (vec 124 (RpSl RpB).sz (.slice q9 q0a c_out7_L3) q0a q4 :: cells q0l 25 [.slice q0c s0.L.length c_s0_0, .int .i64 q0d] :: ro q0r :: l)) ?_ ?_
  · skip -- L3
    refine x_block ?_
    replace hS := St.vec_nil hS 124 (RpSl RpB).sz
    have q0i : RepL (RpSl RpB) ρ [] [] := rfl
    refine x_loop (fun k_ E w => ∃ (q0j : Heap) (q5 : Option Addr) (q6 : Nat) (c_out7_L3h : Nat) (q3 : List Value) (q8 : List (List Bool)) (q0k : Int) (q7 : Int), lp (P_maskmake_Stream_Played_L3 s0 n1 k2) k_ (q8, q0k, q7) = some oL3 ∧ Le ρ q0j ∧ E 0 = .pointer (some ⟨q0l, 0, none⟩) ∧ E 2 = .int .i64 k2 ∧ E 7 = .slice q5 q6 c_out7_L3h ∧ E 8 = .int .i64 n1 ∧ E 9 = .int .i64 q0k ∧ RepL (RpSl RpB) q0j q8 q3 ∧ St w0 w (cells q0l 25 [.slice q0c s0.L.length c_s0_0, .int .i64 q7] :: vec 124 (RpSl RpB).sz (.slice q5 q6 c_out7_L3h) q6 q3 :: ro q0j :: l)) fuel ⟨ρ, none, 0, 0, [], [], 0, s0.fat, hLL3, (Le.refl _), rfl, rfl, rfl, rfl, rfl, q0i, (((hS.pull 2).pull 1).pull 2)⟩ ?_
    rintro kL3 E w ⟨q0j, q5, q6, c_out7_L3h, q3, q8, q0k, q7, hLL3, q0h, q0u, q0v, q0w, q0x, q0y, q0b, hS⟩
    have e_ := St.vec_n (hS.pull 1) q0b; subst e_
    replace hLL3 := lp_s hLL3; obtain ⟨kL3, obL3, rfl, hFL3, hLL3⟩ := hLL3
    refine x_seq <| x_region <| p (yl_lss q0y q0x) <| x_done <|
      x_seq <|
      x_cond_p (q0k < n1) rfl (fun hc10 => ?_) (fun hc10 => ?_)
    · replace hFL3 := it_t hc10 hFL3
      replace hFL3 := bd_s hFL3; obtain ⟨q0m, q14, hFL3⟩ := hFL3
      refine x_skip <| x_seq <| x_block <| x_region <|
        p (yl_move q0w) <| p (yl_move q0u) <| p (yl_move q0v) <|
        ?_
      have hcall := c_maskmake_Stream_Values q14 (q0t.le q0h) ((hS.pull 2).pull 1)
      refine o_cc call_116 (args2 rfl rfl) hcall ?_
      rintro e w' ⟨q2, q12, c_y0_ret_4_3, q11, rfl, q0e, hS⟩
      refine ⟨_, rfl, ?_⟩
      have e_ := St.vec_n hS q0e; subst e_
      have q_ := St.vec_fz ((hS.pull 2).pull 1) q0e; obtain ⟨q0z, q0s, q15, hS⟩ := q_
      refine o_buildSlice (vs := [.slice q2 q0m.1.length c_y0_ret_4_3]) (cs := [.slice q2 q0m.1.length c_y0_ret_4_3]) sl_118 zero_124 (parts_eq (pt (va := .slice q2 q0m.1.length c_y0_ret_4_3) rfl pt0)) rfl (by intro v hv; simp only [List.mem_cons, List.not_mem_nil, or_false] at hv; first | (subst hv; rfl) | (rcases hv with rfl <;> rfl)) (by decide) rfl hS (fun b15 w' hS => ?_)
      replace hFL3 := lv_s hFL3; obtain ⟨q13, q16, hFL3⟩ := hFL3
      replace hFL3 := ck_s hFL3; obtain ⟨q17, hFL3⟩ := hFL3
      refine o_ap sl_118 zero_124 rfl (by decide) rfl rfl (hS.pull 3) (q0b.le q0s) (src_blk usl_118 hS rfl rfl) (RepL.cons (R := (RpSl RpB)) (ρ := q0z) (x := q0m.1) (cs := [.slice q2 q0m.1.length c_y0_ret_4_3]) ⟨_, _, _, rfl, q15⟩ RepL.nil) q16 q17 (fun A16 c16 cs16 w' hr16 hS => ?_)
      replace hFL3 := ar_s hFL3; obtain ⟨x17, hx17, hFL3⟩ := hFL3
      refine p (yl_assign rfl) <| x_done <| x_blk <| x_region <|
        p (yadd q0y rfl hx17) <| p (yl_move rfl) <| x_done <|
        ?_
      have e_ := Option.some.inj (show some _ = some _ from hFL3); subst e_
      exact x_inv ⟨kL3, Nat.lt_succ_self _, q0z, A16, q13.length, c16, cs16, q13, x17, q0m.2, hLL3, (q0h.trans q0s), q0u, q0v, rfl, q0x, rfl, hr16, ((((hS.pull 1).drop.pull 1).pull 1).pull 2)⟩
    · replace hFL3 := it_f hc10 hFL3
      refine x_exitTo _ rfl <|
        ?_
      have e_ := Option.some.inj (show some _ = some _ from hFL3); subst e_
      exact x_inv ⟨q0j, q5, q8.length, c_out7_L3h, q3, q8, q7, hLL3, q0h, q0w, q0b, (((hS.pull 2).pull 1).pull 2)⟩
  rintro E w ⟨q0r, q9, q0a, c_out7_L3, q4, q0f, q0d, rfl, q10, q18, q0o, hS⟩
  have e_ := St.vec_n hS q0o; subst e_
  refine x_seq <| x_region <| p (yl_move q18) <| p (yl_assign rfl) <|
    x_done <|
    ?_
  have e_ := Option.some.inj (show some _ = some _ from hF); subst e_
  exact x_return ⟨_, ⟨_, _, rfl, rfl, rfl⟩, q0r, q9, q0f.length, c_out7_L3, q4, rfl, q10, q0o, (((hS.pull 2).pull 2).pull 2)⟩
attribute [irreducible] P_maskmake_Stream_Played


end Go.Proofs.Ytnooiajahmichaa.X
